/- Contracts: order's Rising. -/
import Derived.Test.YtgkglnjmiobdmaaP9
import Derived.KernelRfl
set_option linter.unusedVariables false
set_option linter.unusedSimpArgs false
set_option maxRecDepth 20000
set_option maxHeartbeats 4000000
namespace Gv.Try
open Go Gv Go.Proofs
def plM : List Hs → Int → List (Hs × Int)
  | [], _ => []
  | h :: r, n => (h, n) :: plM r (n + 1)
theorem plM_app (a : List Hs) (x : Hs) : ∀ n : Int, plM (a ++ [x]) n = plM a n ++ [(x, n + (a.length : Nat))] := by
  induction a with
  | nil => intro n; simp [plM]
  | cons h r ih =>
    intro n
    rw [List.cons_append, plM, ih, plM, List.cons_append, List.length_cons, show n + 1 + ((r.length : Nat) : Int) = n + ((r.length + 1 : Nat) : Int) by omega]
theorem look_pl (l : List Hs) (x : Hs) : ∀ n : Int, x ∉ l → look (plM l n) x = none := by
  induction l with
  | nil => intro n _; rfl
  | cons h r ih => intro n hx; rw [plM, look, if_neg (fun e => hx (by rw [show x = h from e]; simp)), ih _ (fun q => hx (by simp [q]))]
theorem look_pl_at (l : List Hs) (x : Hs) : ∀ (n : Int) (j : Nat), l.Nodup → l[j]? = some x → look (plM l n) x = some (n + (j : Nat)) := by
  induction l with
  | nil => intro n j _ h; simp at h
  | cons h r ih =>
    intro n j hn hj
    obtain ⟨h1, h2⟩ := List.nodup_cons.1 hn
    cases j with
    | zero =>
      have e : h = x := by simpa using hj
      rw [plM, look, if_pos e.symm]; simp
    | succ j =>
      have hj : r[j]? = some x := by simpa using hj
      have hm := List.mem_of_getElem? hj
      rw [plM, look, if_neg (fun e => h1 (by rw [← show x = h from e]; exact hm)), ih _ j h2 hj]
      congr 1; omega
theorem mset_pl (l : List Hs) (x : Hs) (n : Int) (hx : x ∉ l) : mset (plM l n) x (n + (l.length : Nat)) = plM (l ++ [x]) n := by
  have key : ∀ (m : List (Hs × Int)) (v : Int), look m x = none → mset m x v = m ++ [(x, v)] := by
    intro m v
    induction m with
    | nil => intro _; rfl
    | cons p r ih =>
      intro h
      rw [look] at h
      by_cases e : x = p.1
      · rw [if_pos e] at h; cases h
      · rw [if_neg e] at h; rw [mset, if_neg e, ih h]; rfl
  rw [key _ _ (look_pl l x n hx), plM_app]
theorem ss_nodup {a : List Hs} (h : SS a) : a.Nodup := h.imp fun {x y} q e => by rw [e] at q; exact LT.irrefl _ q
theorem ancL_len (m : GM) (hm : GMOK m) (l : List Hs) : (ancL m l).length ≤ l.length + 50000 := by
  have := nodup_lenH (ancL m l) (l ++ hashesM m) (ss_nodup (ancL_ss m l)) fun x hx => by
    have h := (ancL_mem m l x).1 hx
    cases h with
    | base x hx => exact List.mem_append_left _ (List.mem_filter.1 hx).1
    | step x y _ hy => exact List.mem_append_right _ (pars_in hy)
  have h2 := hm.hashes
  rw [List.length_append] at this
  omega
def RisingP (m : GM) (l : List Hs) : Prop := l.Nodup ∧ (∀ h ∈ l, (look m h).isSome = true) ∧ ∀ (k : Nat) h x, l[k]? = some h → x ∈ ancL m [h] → ∀ j : Nat, l[j]? = some x → j ≤ k
noncomputable def risingB (m : GM) (l : List Hs) : Bool := by classical exact if RisingP m l then true else false
theorem risingB_no {m : GM} {l : List Hs} (h : ¬ RisingP m l) : risingB m l = false := by unfold risingB; exact if_neg h
theorem risingB_yes {m : GM} {l : List Hs} (h : RisingP m l) : risingB m l = true := by unfold risingB; exact if_pos h
theorem gRising (m : GM) (hm : GMOK m) (st s : Nat) (l : List Hs) (t : Tag) (hl : l.length ≤ 10000) : GCalls Try.prog 16 [.ptr 0 st 0 0, .slice (hsG l) t] (gObj st s m) (fun g O' => g = .bool (risingB m l) ∧ O' = gObj st s m) := by
  refine GCalls.dropTo ?_
  refine h16.calls mixS (by simp) ?_
  simp only [gstart, s16, List.cons_append, List.nil_append, List.length_cons, List.length_nil, Nat.reduceAdd, Nat.reduceSub, List.replicate_succ, List.replicate_zero]
  simp +contextual -implicitDefEqProofs (maxSteps := 2000000) (disch := omega) only [↓lenV, binV, ↓unV, ↓loadV, ↓storeV, ↓indexAddrV, ↓allocV, ↓buildSliceV, fillE, GVal.cells, GVal.ofConst, ↓resV, resG, ↓reduceIte, Nat.reduceEqDiff, Nat.reduceAdd, Nat.reduceSub, Nat.reduceLeDiff, reduceCtorEq, ↓lookupV, ↓mapUpdateV, ↓makeMapV, keyOk, keyCells, pairG, aggV, Tag.cap, GVal.solid, Nat.reduceBEq, Nat.reduceMul, Nat.reduceLT, vcA, ↓vcB, vcC, fbFd, e16, hsG_len, vcD]
  intro s3
  refine vcSLoop_by (ι := { k : Nat // k ≤ l.length ∧ (l.take k).Nodup ∧ ∀ h ∈ l.take k, (look m h).isSome = true }) (fun k => ⟨[.ptr 0 st 0 0, .slice (hsG l) t, .any, .any, .any, .map 2 s3] ++ List.replicate 13 .any ++ [.slice (hsG l) t, .int .i64 l.length, .int .i64 (k.1 : Nat)] ++ List.replicate 51 .any, [.row st 1 [[.map 1 s]], .map s (kvG encL m), .map s3 (kvG encI (plM (l.take k.1) 0))]⟩) (fun k => l.length - k.1) ?_ ?_
  · exact Into.first ⟨0, by omega, by simp, by simp⟩ ⟨[], by simp [plM, kvG]⟩ (by simp [WL, leG_self, leG_any])
  · rintro ⟨k, hk, hnd, hth⟩
    change k ≤ l.length at hk
    have hnd : (l.take k).Nodup := hnd
    have hth : ∀ h ∈ l.take k, (look m h).isSome = true := hth
    by_cases h : k < l.length
    · have d0 : ((k : Int) < (l.length : Int)) = True := eq_true (by omega)
      have eS := hsG_at l k h
      have eg : l.getD k h0 = l[k] := by simp [List.getD, h]
      rw [eg] at eS
      have ht : l.take (k + 1) = l.take k ++ [l[k]] := List.take_succ_eq_append_getElem h
      have hat : l[k]? = some l[k] := List.getElem?_eq_getElem h
      have hesp : l = l.take k ++ l[k] :: l.drop (k + 1) := by
        have := List.take_append_drop k l
        rw [List.drop_eq_getElem_cons h] at this
        exact this.symm
      generalize l[k] = x at eS ht hat hesp
      by_cases hx : x ∈ l.take k
      · have hno : ¬ RisingP m l := by
          rintro ⟨q, _⟩
          rw [hesp] at q
          exact (List.nodup_append.1 q).2.2 x hx x (by simp) rfl
        have eR := risingB_no hno
        obtain ⟨j, hj⟩ := List.getElem?_of_mem hx
        obtain ⟨i, hi, hv, _⟩ := look_idx encI _ x _ (look_pl_at (l.take k) x 0 j hnd hj)
        simp +contextual -implicitDefEqProofs (maxSteps := 2000000) (disch := omega) only [↓lenV, binV, ↓unV, ↓loadV, ↓storeV, ↓indexAddrV, ↓allocV, ↓buildSliceV, fillE, GVal.cells, GVal.ofConst, ↓resV, resG, ↓reduceIte, Nat.reduceEqDiff, Nat.reduceAdd, Nat.reduceSub, Nat.reduceLeDiff, reduceCtorEq, ↓lookupV, ↓mapUpdateV, ↓makeMapV, keyOk, keyCells, pairG, aggV, Tag.cap, GVal.solid, Nat.reduceBEq, Nat.reduceMul, Nat.reduceLT, vcA, ↓vcB, vcC, fbFd, e16, hsG_len, toNat0, Nat.sub_zero, d0, eS, kfind_h, hi, hv, true_imp_iff, eR, vcD, v32]
        exact ⟨by omega, fun u => ⟨_, gObj st s m, [.map s3 (kvG encI (plM (l.take k) 0)), .row u 32 [bytesG x.1]], rfl, leA_refl _, rfl, rfl⟩⟩
      · obtain ⟨hi, hw⟩ := look_none encI _ x (look_pl (l.take k) x 0 hx)
        have hw := hw (k : Int)
        have hms : mset (plM (l.take k) 0) x (k : Int) = plM (l.take (k + 1)) 0 := by
          have := mset_pl (l.take k) x 0 hx
          rw [List.length_take, Nat.min_eq_left hk, Int.zero_add] at this
          rw [this, ht]
        rw [hms] at hw
        have cH := (gHas m x st s).keep2 rfl
        cases hlk : look m x with
        | none =>
          have hno : ¬ RisingP m l := fun q => by
            have := q.2.1 x (List.mem_of_getElem? hat)
            rw [hlk] at this; cases this
          have eR := risingB_no hno
          rw [hlk] at cH
          simp +contextual -implicitDefEqProofs (maxSteps := 2000000) (disch := omega) only [↓lenV, binV, ↓unV, ↓loadV, ↓storeV, ↓indexAddrV, ↓allocV, ↓buildSliceV, fillE, GVal.cells, GVal.ofConst, ↓resV, resG, ↓reduceIte, Nat.reduceEqDiff, Nat.reduceAdd, Nat.reduceSub, Nat.reduceLeDiff, reduceCtorEq, ↓lookupV, ↓mapUpdateV, ↓makeMapV, keyOk, keyCells, pairG, aggV, Tag.cap, GVal.solid, Nat.reduceBEq, Nat.reduceMul, Nat.reduceLT, vcA, ↓vcB, vcC, fbFd, e16, hsG_len, toNat0, Nat.sub_zero, d0, eS, kfind_h, hi, true_imp_iff, eR, vcD, v32]
          refine ⟨by omega, fun u => (cH _).mono ?_⟩
          rintro g O' ⟨rfl, rfl⟩
          simp +contextual -implicitDefEqProofs (maxSteps := 2000000) (disch := omega) only [↓lenV, binV, ↓unV, ↓loadV, ↓storeV, ↓indexAddrV, ↓allocV, ↓buildSliceV, fillE, GVal.cells, GVal.ofConst, ↓resV, resG, ↓reduceIte, Nat.reduceEqDiff, Nat.reduceAdd, Nat.reduceSub, Nat.reduceLeDiff, reduceCtorEq, ↓lookupV, ↓mapUpdateV, ↓makeMapV, keyOk, keyCells, pairG, aggV, Tag.cap, GVal.solid, Nat.reduceBEq, Nat.reduceMul, Nat.reduceLT, vcA, ↓vcB, vcC, fbFd, e16, eR, Option.isSome_none, vcD]
          exact ⟨_, gObj st s m, [.map s3 (kvG encI (plM (l.take k) 0)), .row u 32 [bytesG x.1]], rfl, leA_refl _, rfl, rfl⟩
        | some v =>
          rw [hlk] at cH
          simp +contextual -implicitDefEqProofs (maxSteps := 2000000) (disch := omega) only [↓lenV, binV, ↓unV, ↓loadV, ↓storeV, ↓indexAddrV, ↓allocV, ↓buildSliceV, fillE, GVal.cells, GVal.ofConst, ↓resV, resG, ↓reduceIte, Nat.reduceEqDiff, Nat.reduceAdd, Nat.reduceSub, Nat.reduceLeDiff, reduceCtorEq, ↓lookupV, ↓mapUpdateV, ↓makeMapV, keyOk, keyCells, pairG, aggV, Tag.cap, GVal.solid, Nat.reduceBEq, Nat.reduceMul, Nat.reduceLT, vcA, ↓vcB, vcC, fbFd, e16, hsG_len, toNat0, Nat.sub_zero, d0, eS, kfind_h, hi, hw, true_imp_iff, vcD, v32]
          refine ⟨by omega, fun u => (cH _).mono ?_⟩
          rintro g O' ⟨rfl, rfl⟩
          simp +contextual -implicitDefEqProofs (maxSteps := 2000000) (disch := omega) only [↓lenV, binV, ↓unV, ↓loadV, ↓storeV, ↓indexAddrV, ↓allocV, ↓buildSliceV, fillE, GVal.cells, GVal.ofConst, ↓resV, resG, ↓reduceIte, Nat.reduceEqDiff, Nat.reduceAdd, Nat.reduceSub, Nat.reduceLeDiff, reduceCtorEq, ↓lookupV, ↓mapUpdateV, ↓makeMapV, keyOk, keyCells, pairG, aggV, Tag.cap, GVal.solid, Nat.reduceBEq, Nat.reduceMul, Nat.reduceLT, vcA, ↓vcB, vcC, fbFd, e16, Option.isSome_some, kfind_h, hi, hw, vcD, v32]
          refine Into.at ⟨k + 1, by show k + 1 ≤ l.length; omega, ?_, ?_⟩ (by show l.length - (k + 1) < l.length - k; omega) ⟨[.row u 32 [bytesG x.1]], by simp⟩ (by simp [WL, leG_self, leG_any, leG_int])
          · rw [ht]
            exact List.nodup_append.2 ⟨hnd, by simp, fun a ha b hb => by rw [List.mem_singleton.1 hb]; exact fun e => hx (e ▸ ha)⟩
          · rw [ht]
            intro y hy
            rcases List.mem_append.1 hy with q | q
            · exact hth y q
            · rw [List.mem_singleton.1 q, hlk]; rfl
    · have d0 : ((k : Int) < (l.length : Int)) = False := eq_false (by omega)
      have htl : l.take k = l := List.take_of_length_le (by omega)
      rw [htl] at hnd hth
      simp +contextual -implicitDefEqProofs (maxSteps := 2000000) (disch := omega) only [↓lenV, binV, ↓unV, ↓loadV, ↓storeV, ↓indexAddrV, ↓allocV, ↓buildSliceV, fillE, GVal.cells, GVal.ofConst, ↓resV, resG, ↓reduceIte, Nat.reduceEqDiff, Nat.reduceAdd, Nat.reduceSub, Nat.reduceLeDiff, reduceCtorEq, ↓lookupV, ↓mapUpdateV, ↓makeMapV, keyOk, keyCells, pairG, aggV, Tag.cap, GVal.solid, Nat.reduceBEq, Nat.reduceMul, Nat.reduceLT, vcA, ↓vcB, vcC, fbFd, e16, d0, htl, hsG_len, vcD]
      refine vcSLoop_by (ι := { k : Nat // k ≤ l.length ∧ ∀ k' : Nat, k' < k → ∀ h x, l[k']? = some h → x ∈ ancL m [h] → ∀ j : Nat, l[j]? = some x → j ≤ k' }) (fun k => ⟨[.ptr 0 st 0 0, .slice (hsG l) t, .any, .any, .any, .map 2 s3] ++ List.replicate 37 .any ++ [.slice (hsG l) t, .int .i64 l.length, .int .i64 (k.1 : Nat)] ++ List.replicate 27 .any, [.row st 1 [[.map 1 s]], .map s (kvG encL m), .map s3 (kvG encI (plM l 0))]⟩) (fun k => l.length - k.1) ?_ ?_
      · exact Into.first ⟨0, by omega, by intro k' h; omega⟩ ⟨[], by simp⟩ (by simp [WL, leG_self, leG_any])
      · rintro ⟨k2, hk2, hgood⟩
        change k2 ≤ l.length at hk2
        have hgood : ∀ k' : Nat, k' < k2 → ∀ h x, l[k']? = some h → x ∈ ancL m [h] → ∀ j : Nat, l[j]? = some x → j ≤ k' := hgood
        by_cases h2 : k2 < l.length
        · have d2 : ((k2 : Int) < (l.length : Int)) = True := eq_true (by omega)
          have eS := hsG_at l k2 h2
          have eg : l.getD k2 h0 = l[k2] := by simp [List.getD, h2]
          rw [eg] at eS
          have hat : l[k2]? = some l[k2] := List.getElem?_eq_getElem h2
          generalize l[k2] = x at eS hat
          have cA := (gAncestors m hm st s [x] .full (by simp) (by simp)).keep2 rfl
          have hAl := ancL_len m hm [x]
          obtain ⟨A, hA⟩ : ∃ A, ancL m [x] = A := ⟨_, rfl⟩
          rw [hA] at cA hAl
          rw [List.length_singleton] at hAl
          simp +contextual -implicitDefEqProofs (maxSteps := 2000000) (disch := omega) only [↓lenV, binV, ↓unV, ↓loadV, ↓storeV, ↓indexAddrV, ↓allocV, ↓buildSliceV, fillE, GVal.cells, GVal.ofConst, ↓resV, resG, ↓reduceIte, Nat.reduceEqDiff, Nat.reduceAdd, Nat.reduceSub, Nat.reduceLeDiff, reduceCtorEq, ↓lookupV, ↓mapUpdateV, ↓makeMapV, keyOk, keyCells, pairG, aggV, Tag.cap, GVal.solid, Nat.reduceBEq, Nat.reduceMul, Nat.reduceLT, vcA, ↓vcB, vcC, fbFd, e16, hsG_len, toNat0, Nat.sub_zero, d2, eS, true_imp_iff, vcD, v32]
          refine ⟨by omega, fun u => (cA _).mono ?_⟩
          rintro g O' ⟨rfl, rfl⟩
          simp +contextual -implicitDefEqProofs (maxSteps := 2000000) (disch := omega) only [↓lenV, binV, ↓unV, ↓loadV, ↓storeV, ↓indexAddrV, ↓allocV, ↓buildSliceV, fillE, GVal.cells, GVal.ofConst, ↓resV, resG, ↓reduceIte, Nat.reduceEqDiff, Nat.reduceAdd, Nat.reduceSub, Nat.reduceLeDiff, reduceCtorEq, ↓lookupV, ↓mapUpdateV, ↓makeMapV, keyOk, keyCells, pairG, aggV, Tag.cap, GVal.solid, Nat.reduceBEq, Nat.reduceMul, Nat.reduceLT, vcA, ↓vcB, vcC, fbFd, e16, hsG_len, vcD]
          refine vcSLoop_by (ι := { i : Nat // i ≤ A.length ∧ ∀ y ∈ A.take i, ∀ j : Nat, l[j]? = some y → j ≤ k2 }) (fun i => ⟨[.ptr 0 st 0 0, .slice (hsG l) t, .any, .any, .any, .map 2 s3] ++ List.replicate 4 .any ++ [.int .i64 (k2 : Nat)] ++ List.replicate 32 .any ++ [.slice (hsG l) t, .int .i64 l.length, .int .i64 (k2 : Nat)] ++ List.replicate 7 .any ++ [.slice (hsG A) .none, .int .i64 A.length, .int .i64 (i.1 : Nat)] ++ List.replicate 17 .any, [.row st 1 [[.map 1 s]], .map s (kvG encL m), .map s3 (kvG encI (plM l 0))]⟩) (fun i => A.length - i.1) ?_ ?_
          · exact Into.first ⟨0, by omega, by simp⟩ ⟨[.row u 32 [bytesG x.1]], by simp⟩ (by simp [WL, leG_self, leG_any])
          · rintro ⟨i, hi2, hin⟩
            change i ≤ A.length at hi2
            have hin : ∀ y ∈ A.take i, ∀ j : Nat, l[j]? = some y → j ≤ k2 := hin
            by_cases h3 : i < A.length
            · have d3 : ((i : Int) < (A.length : Int)) = True := eq_true (by omega)
              have eS3 := hsG_at A i h3
              have eg3 : A.getD i h0 = A[i] := by simp [List.getD, h3]
              rw [eg3] at eS3
              have ht3 : A.take (i + 1) = A.take i ++ [A[i]] := List.take_succ_eq_append_getElem h3
              have hyA : A[i] ∈ A := List.getElem_mem h3
              generalize A[i] = y at eS3 ht3 hyA
              by_cases hy : y ∈ l
              · obtain ⟨j, hj⟩ := List.getElem?_of_mem hy
                have hjl := (List.getElem?_eq_some_iff.1 hj).1
                have hlo := look_pl_at l y 0 j hnd hj
                rw [Int.zero_add] at hlo
                obtain ⟨ix, hi, hv, _⟩ := look_idx encI _ y _ hlo
                by_cases hjk : j ≤ k2
                · have d4 : ((k2 : Int) < (j : Int)) = False := eq_false (by omega)
                  simp +contextual -implicitDefEqProofs (maxSteps := 2000000) (disch := omega) only [↓lenV, binV, ↓unV, ↓loadV, ↓storeV, ↓indexAddrV, ↓allocV, ↓buildSliceV, fillE, GVal.cells, GVal.ofConst, ↓resV, resG, ↓reduceIte, Nat.reduceEqDiff, Nat.reduceAdd, Nat.reduceSub, Nat.reduceLeDiff, reduceCtorEq, ↓lookupV, ↓mapUpdateV, ↓makeMapV, keyOk, keyCells, pairG, aggV, Tag.cap, GVal.solid, Nat.reduceBEq, Nat.reduceMul, Nat.reduceLT, vcA, ↓vcB, vcC, fbFd, e16, hsG_len, toNat0, Nat.sub_zero, d3, d4, eS3, kfind_h, hi, hv, true_imp_iff, vcD, v32]
                  refine ⟨by omega, fun u2 => Into.at ⟨i + 1, by show i + 1 ≤ A.length; omega, ?_⟩ (by show A.length - (i + 1) < A.length - i; omega) ⟨[.row u2 32 [bytesG y.1]], by simp⟩ (by simp [WL, leG_self, leG_any, leG_int])⟩
                  rw [ht3]
                  intro z hz j2 hj2
                  rcases List.mem_append.1 hz with q | q
                  · exact hin z q j2 hj2
                  · rw [List.mem_singleton.1 q] at hj2
                    have h5 := look_pl_at l y 0 j2 hnd hj2
                    rw [hlo, Int.zero_add] at h5
                    have h6 : (j : Int) = (j2 : Int) := by injection h5
                    omega
                · have d4 : ((k2 : Int) < (j : Int)) = True := eq_true (by omega)
                  have eR : risingB m l = false := risingB_no fun q => hjk (q.2.2 k2 x y hat (by rw [hA]; exact hyA) j hj)
                  simp +contextual -implicitDefEqProofs (maxSteps := 2000000) (disch := omega) only [↓lenV, binV, ↓unV, ↓loadV, ↓storeV, ↓indexAddrV, ↓allocV, ↓buildSliceV, fillE, GVal.cells, GVal.ofConst, ↓resV, resG, ↓reduceIte, Nat.reduceEqDiff, Nat.reduceAdd, Nat.reduceSub, Nat.reduceLeDiff, reduceCtorEq, ↓lookupV, ↓mapUpdateV, ↓makeMapV, keyOk, keyCells, pairG, aggV, Tag.cap, GVal.solid, Nat.reduceBEq, Nat.reduceMul, Nat.reduceLT, vcA, ↓vcB, vcC, fbFd, e16, hsG_len, toNat0, Nat.sub_zero, d3, d4, eS3, kfind_h, hi, hv, true_imp_iff, eR, vcD, v32]
                  exact ⟨by omega, fun u2 => ⟨_, gObj st s m, [.map s3 (kvG encI (plM l 0)), .row u2 32 [bytesG y.1]], rfl, leA_refl _, rfl, rfl⟩⟩
              · obtain ⟨hi, _⟩ := look_none encI _ y (look_pl l y 0 hy)
                simp +contextual -implicitDefEqProofs (maxSteps := 2000000) (disch := omega) only [↓lenV, binV, ↓unV, ↓loadV, ↓storeV, ↓indexAddrV, ↓allocV, ↓buildSliceV, fillE, GVal.cells, GVal.ofConst, ↓resV, resG, ↓reduceIte, Nat.reduceEqDiff, Nat.reduceAdd, Nat.reduceSub, Nat.reduceLeDiff, reduceCtorEq, ↓lookupV, ↓mapUpdateV, ↓makeMapV, keyOk, keyCells, pairG, aggV, Tag.cap, GVal.solid, Nat.reduceBEq, Nat.reduceMul, Nat.reduceLT, vcA, ↓vcB, vcC, fbFd, e16, hsG_len, toNat0, Nat.sub_zero, d3, eS3, kfind_h, hi, true_imp_iff, vcD, v32]
                refine ⟨by omega, fun u2 => Into.at ⟨i + 1, by show i + 1 ≤ A.length; omega, ?_⟩ (by show A.length - (i + 1) < A.length - i; omega) ⟨[.row u2 32 [bytesG y.1]], by simp⟩ (by simp [WL, leG_self, leG_any, leG_int])⟩
                rw [ht3]
                intro z hz j2 hj2
                rcases List.mem_append.1 hz with q | q
                · exact hin z q j2 hj2
                · rw [List.mem_singleton.1 q] at hj2
                  exact absurd (List.mem_of_getElem? hj2) hy
            · have d3 : ((i : Int) < (A.length : Int)) = False := eq_false (by omega)
              have hall : ∀ y ∈ A, ∀ j : Nat, l[j]? = some y → j ≤ k2 := by
                rw [List.take_of_length_le (by omega)] at hin
                exact hin
              simp +contextual -implicitDefEqProofs (maxSteps := 2000000) (disch := omega) only [↓lenV, binV, ↓unV, ↓loadV, ↓storeV, ↓indexAddrV, ↓allocV, ↓buildSliceV, fillE, GVal.cells, GVal.ofConst, ↓resV, resG, ↓reduceIte, Nat.reduceEqDiff, Nat.reduceAdd, Nat.reduceSub, Nat.reduceLeDiff, reduceCtorEq, ↓lookupV, ↓mapUpdateV, ↓makeMapV, keyOk, keyCells, pairG, aggV, Tag.cap, GVal.solid, Nat.reduceBEq, Nat.reduceMul, Nat.reduceLT, vcA, ↓vcB, vcC, fbFd, e16, d3, vcD]
              refine Into.at ⟨k2 + 1, by show k2 + 1 ≤ l.length; omega, ?_⟩ (by show l.length - (k2 + 1) < l.length - k2; omega) ⟨[], by simp⟩ (by simp [WL, leG_self, leG_any, leG_int])
              intro k' hk' h' z e1 e2 j e3
              by_cases hq : k' = k2
              · subst hq
                rw [hat] at e1
                cases e1
                rw [hA] at e2
                exact hall z e2 j e3
              · exact hgood k' (by omega) h' z e1 e2 j e3
        · have d2 : ((k2 : Int) < (l.length : Int)) = False := eq_false (by omega)
          have eR : risingB m l = true := risingB_yes ⟨hnd, hth, fun k' h x hk' hx j hj => hgood k' (by have := (List.getElem?_eq_some_iff.1 hk').1; omega) h x hk' hx j hj⟩
          simp +contextual -implicitDefEqProofs (maxSteps := 2000000) (disch := omega) only [↓lenV, binV, ↓unV, ↓loadV, ↓storeV, ↓indexAddrV, ↓allocV, ↓buildSliceV, fillE, GVal.cells, GVal.ofConst, ↓resV, resG, ↓reduceIte, Nat.reduceEqDiff, Nat.reduceAdd, Nat.reduceSub, Nat.reduceLeDiff, reduceCtorEq, ↓lookupV, ↓mapUpdateV, ↓makeMapV, keyOk, keyCells, pairG, aggV, Tag.cap, GVal.solid, Nat.reduceBEq, Nat.reduceMul, Nat.reduceLT, vcA, ↓vcB, vcC, fbFd, e16, d2, eR, vcD]
          exact ⟨_, gObj st s m, [.map s3 (kvG encI (plM l 0))], rfl, leA_refl _, rfl, rfl⟩
end Gv.Try
/- Contracts: order's Walk. -/
set_option linter.unusedVariables false
set_option linter.unusedSimpArgs false
set_option maxRecDepth 20000
set_option maxHeartbeats 4000000
namespace Gv.Try
open Go Gv Go.Proofs
abbrev WSt := List Hs × List Hs
inductive VisL (m : GM) (dn : Hs → Bool) : List Hs → WSt → WSt → Prop
  | nil (so : WSt) : VisL m dn [] so so
  | skip (p : Hs) (r : List Hs) (so T : WSt) : pushed m dn so.1 p = false → VisL m dn r so T → VisL m dn (p :: r) so T
  | go (p : Hs) (r : List Hs) (so so1 T : WSt) : pushed m dn so.1 p = true → VisL m dn (parsM m p) (so.1 ++ [p], so.2) so1 → VisL m dn r (so1.1, so1.2 ++ [p]) T → VisL m dn (p :: r) so T
theorem VisL.inv_skip {m : GM} {dn : Hs → Bool} {p : Hs} {r : List Hs} {so T : WSt} (h : VisL m dn (p :: r) so T) (hp : pushed m dn so.1 p = false) : VisL m dn r so T := by
  cases h with
  | skip _ _ _ _ _ h => exact h
  | go _ _ _ _ _ h1 => rw [h1] at hp; cases hp
theorem VisL.inv_go {m : GM} {dn : Hs → Bool} {p : Hs} {r : List Hs} {so T : WSt} (h : VisL m dn (p :: r) so T) (hp : pushed m dn so.1 p = true) : ∃ so1, VisL m dn (parsM m p) (so.1 ++ [p], so.2) so1 ∧ VisL m dn r (so1.1, so1.2 ++ [p]) T := by
  cases h with
  | skip _ _ _ _ h1 => rw [h1] at hp; cases hp
  | go _ _ _ so1 _ _ h2 h3 => exact ⟨so1, h2, h3⟩
theorem VisL.inv_nil {m : GM} {dn : Hs → Bool} {so T : WSt} (h : VisL m dn [] so T) : T = so := by cases h; rfl
def FinS (m : GM) (dn : Hs → Bool) : List Cm → WSt → WSt → Prop
  | [], so, T => T = so
  | (x, ps) :: r, so, T => ∃ so1, VisL m dn ps so so1 ∧ FinS m dn r (so1.1, so1.2 ++ [x]) T
structure SInv (m : GM) (S out : List Hs) (n : Nat) : Prop where
  nodup : S.Nodup
  keys : ∀ x ∈ S, (look m x).isSome = true
  len : out.length + n ≤ S.length
theorem look_key {α : Type} {m : List (Hs × α)} {x : Hs} (h : (look m x).isSome = true) : x ∈ m.map (·.1) := by
  induction m with
  | nil => cases h
  | cons p r ih =>
    rw [look] at h
    by_cases e : x = p.1
    · simp [e]
    · rw [if_neg e] at h; simp [ih h]
theorem SInv.le {m : GM} {S out : List Hs} {n : Nat} (h : SInv m S out n) : S.length ≤ m.length := by
  have := nodup_lenH S (m.map (·.1)) h.nodup fun x hx => look_key (h.keys x hx)
  simpa using this
theorem pushed_iff {m : GM} {dn : Hs → Bool} {S : List Hs} {h : Hs} (hp : pushed m dn S h = true) : (look m h).isSome = true ∧ h ∉ S ∧ dn h = false := by
  unfold pushed at hp
  simp only [Bool.and_eq_true, Bool.not_eq_true', decide_eq_false_iff_not] at hp
  exact ⟨hp.1.1, hp.1.2, hp.2⟩
theorem SInv.push {m : GM} {S out : List Hs} {n : Nat} (h : SInv m S out n) {dn : Hs → Bool} {x : Hs} (hp : pushed m dn S x = true) : SInv m (S ++ [x]) out (n + 1) := by
  obtain ⟨h1, h2, _⟩ := pushed_iff hp
  refine ⟨?_, fun y hy => ?_, by have := h.len; rw [List.length_append, List.length_singleton]; omega⟩
  · rw [List.nodup_append]
    exact ⟨h.nodup, by simp, fun a ha b hb => by rw [List.mem_singleton.1 hb]; exact fun e => h2 (e ▸ ha)⟩
  · rcases List.mem_append.1 hy with q | q
    · exact h.keys y q
    · rw [List.mem_singleton.1 q]; exact h1
def wMu (m : GM) (S : List Hs) (K : List Cm) : Nat := 6 * (m.length - S.length) + (K.map fun c => c.2.length + 1).sum
theorem gWalkN (m : GM) (hm : GMOK m) (hs : List Hs) (th : Tag) (st s : Nat)  (T : WSt) (hT : VisL m (fun _ => false) hs ([], []) T) (hl : hs.length ≤ 1000000) :
    GCalls Try.prog 13 [.ptr 0 st 0 0, .slice (hsG hs) th, (.lit .nilFunc)] (gObj st s m) (fun g O' => g = .slice (hsG T.2) .none ∧ O' = gObj st s m) := by
  have hml := hm.len
  have hd : DoneG (.lit .nilFunc) (fun _ => false) := .nil
  refine GCalls.dropTo ?_
  refine h13.calls mixS (by simp) ?_
  simp only [gstart, s13, List.cons_append, List.nil_append, List.length_cons, List.length_nil, Nat.reduceAdd, Nat.reduceSub, List.replicate_succ, List.replicate_zero]
  simp +contextual -implicitDefEqProofs (maxSteps := 2000000) (disch := omega) only [↓lenV, binV, optV, ↓loadV, ↓storeV, ↓fieldAddrV, ↓indexAddrV, ↓allocV, ↓boxV, ↓buildV, ↓sliceV, ↓nilV, bound, cutTag, hiTag, fillG, place, GVal.cells, GVal.ofConst, ↓resV, resG, ↓reduceIte, Nat.reduceEqDiff, Nat.reduceAdd, Nat.reduceSub, Nat.reduceLeDiff, reduceCtorEq, ↓makeMapV, aggV, Tag.cap, GVal.solid, Nat.reduceBEq, Nat.reduceMul, Nat.reduceLT, vcA, ↓vcB, vcC, fbFd, e13, hsG_len, vcD]
  refine fun sq => ⟨⟨rfl, rfl, rfl⟩, rfl, rfl, fun sw => ?_⟩
  refine vcSLoop_by (ι := { p : ((Nat × List Cm) × (List Hs × List Hs)) × (Nat × Nat) // p.1.1.1 ≤ hs.length ∧ VisL m (fun _ => false) (hs.drop p.1.1.1) p.1.2 T ∧ SInv m p.1.2.1 p.1.2.2 0 }) (fun p => ⟨[.ptr 0 st 0 0, .slice (hsG hs) th, (.lit .nilFunc)] ++ List.replicate 4 .any ++ [.ptr 3 sw 0 0] ++ List.replicate 9 .any ++ [.slice (hsG hs) th, .int .i64 hs.length, .int .i64 (p.1.1.1.1 : Nat)] ++ List.replicate 19 .any, wObj st s m sq sw p.1.2.1 p.1.2.2 0 (.lit .nilFunc) [] p.1.1.1.2 p.1.1.2.1 p.1.1.2.2⟩) (fun p => hs.length - p.1.1.1.1) ?_ ?_
  · refine Into.cellRow 3 3 33 rfl rfl rfl rfl ?_
    simp +contextual -implicitDefEqProofs (maxSteps := 2000000) (disch := omega) only [↓lenV, binV, optV, ↓loadV, ↓storeV, ↓fieldAddrV, ↓indexAddrV, ↓allocV, ↓boxV, ↓buildV, ↓sliceV, ↓nilV, bound, cutTag, hiTag, fillG, place, GVal.cells, GVal.ofConst, ↓resV, resG, ↓reduceIte, Nat.reduceEqDiff, Nat.reduceAdd, Nat.reduceSub, Nat.reduceLeDiff, reduceCtorEq, ↓makeMapV, aggV, Tag.cap, GVal.solid, Nat.reduceBEq, Nat.reduceMul, Nat.reduceLT, vcA, ↓vcB, vcC, fbFd, e13, vcD]
    intro sv
    refine Into.cellTok 3 4 32 [] rfl rfl rfl rfl ?_
    simp +contextual -implicitDefEqProofs (maxSteps := 2000000) (disch := omega) only [↓lenV, binV, optV, ↓loadV, ↓storeV, ↓fieldAddrV, ↓indexAddrV, ↓allocV, ↓boxV, ↓buildV, ↓sliceV, ↓nilV, bound, cutTag, hiTag, fillG, place, GVal.cells, GVal.ofConst, ↓resV, resG, ↓reduceIte, Nat.reduceEqDiff, Nat.reduceAdd, Nat.reduceSub, Nat.reduceLeDiff, reduceCtorEq, ↓makeMapV, aggV, Tag.cap, GVal.solid, Nat.reduceBEq, Nat.reduceMul, Nat.reduceLT, vcA, ↓vcB, vcC, fbFd, e13, vcD]
    intro so
    exact Into.first ⟨(((0, []), ([], [])), (sv, so)), by show 0 ≤ _; omega, by simpa using hT, ⟨List.nodup_nil, by simp, by simp⟩⟩ ⟨[], rfl⟩ (by simp [WL, leG_self, leG_any, hsG_len])
  · rintro ⟨⟨⟨⟨k, Z⟩, ⟨S, out⟩⟩, ⟨sv, so⟩⟩, hk, hV, hI⟩
    change k ≤ hs.length at hk
    change VisL m (fun _ => false) (hs.drop k) (S, out) T at hV
    change SInv m S out 0 at hI
    have hSm := hI.le
    have hOl := hI.len
    by_cases h : k < hs.length
    · have d0 : ((k : Int) < (hs.length : Int)) = True := eq_true (by omega)
      have eS := hsG_at hs k h
      rw [dropH h] at hV
      generalize hs.getD k h0 = x at *
      have cP := gPush m hm x st s sq sw sv so 0 (.lit .nilFunc) (fun _ => false) hd [] Z S out (by simp) rfl
      simp +contextual -implicitDefEqProofs (maxSteps := 2000000) (disch := omega) only [↓lenV, binV, optV, ↓loadV, ↓storeV, ↓fieldAddrV, ↓indexAddrV, ↓allocV, ↓boxV, ↓buildV, ↓sliceV, ↓nilV, bound, cutTag, hiTag, fillG, place, GVal.cells, GVal.ofConst, ↓resV, resG, ↓reduceIte, Nat.reduceEqDiff, Nat.reduceAdd, Nat.reduceSub, Nat.reduceLeDiff, reduceCtorEq, ↓makeMapV, aggV, Tag.cap, GVal.solid, Nat.reduceBEq, Nat.reduceMul, Nat.reduceLT, vcA, ↓vcB, vcC, fbFd, e13, setO_6, setO_7, hsG_len, d0, eS, vcD, v32]
      refine ⟨by omega, fun u => ?_⟩
      refine (GCalls.tail cP (by rintro g O' ⟨_, _, rfl, rfl⟩; split <;> exact ⟨rfl, by simp⟩) rfl (by simp) [.row u 32 [bytesG x.1]]).mono ?_
      rintro g O' ⟨_, ⟨sv2, Z2, rfl, rfl⟩, rfl⟩
      have hT1 : ∃ T1, VisL m (fun _ => false) (hs.drop (k + 1)) T1 T ∧ (if pushed m (fun _ => false) S x = true then FinS m (fun _ => false) [(x, parsM m x)] (S ++ [x], out) T1 else T1 = (S, out)) := by
        cases hp : pushed m (fun _ => false) S x with
        | false => exact ⟨_, hV.inv_skip hp, by rw [if_neg (by simp)]⟩
        | true =>
          obtain ⟨so1, hV1, hV2⟩ := hV.inv_go hp
          exact ⟨_, hV2, by rw [if_pos rfl]; exact ⟨so1, hV1, rfl⟩⟩
      obtain ⟨T1, hV2, hF⟩ := hT1
      simp +contextual -implicitDefEqProofs (maxSteps := 2000000) (disch := omega) only [↓lenV, binV, optV, ↓loadV, ↓storeV, ↓fieldAddrV, ↓indexAddrV, ↓allocV, ↓boxV, ↓buildV, ↓sliceV, ↓nilV, bound, cutTag, hiTag, fillG, place, GVal.cells, GVal.ofConst, ↓resV, resG, ↓reduceIte, Nat.reduceEqDiff, Nat.reduceAdd, Nat.reduceSub, Nat.reduceLeDiff, reduceCtorEq, ↓makeMapV, aggV, Tag.cap, GVal.solid, Nat.reduceBEq, Nat.reduceMul, Nat.reduceLT, vcA, ↓vcB, vcC, fbFd, e13, setO_6, setO_7, vcD, v32]
      refine vcSLoop_by (ι := { p : ((List Cm × List Cm) × (List Hs × List Hs)) × (Nat × Nat) // FinS m (fun _ => false) p.1.1.1.reverse p.1.2 T1 ∧ SInv m p.1.2.1 p.1.2.2 p.1.1.1.length }) (fun p => ⟨[.ptr 0 st 0 0, .slice (hsG hs) th, (.lit .nilFunc)] ++ List.replicate 4 .any ++ [.ptr 3 sw 0 0] ++ List.replicate 9 .any ++ [.slice (hsG hs) th, .int .i64 hs.length, .int .i64 (k : Nat)] ++ List.replicate 19 .any, wObj st s m sq sw p.1.2.1 p.1.2.2 p.1.1.1.1.length (.lit .nilFunc) p.1.1.1.1 p.1.1.1.2 p.1.1.2.1 p.1.1.2.2⟩) (fun p => wMu m p.1.1.2.1 p.1.1.1.1) ?_ ?_
      · cases hp : pushed m (fun _ => false) S x with
        | false =>
          rw [hp, if_neg (by simp)] at hF
          exact Into.first ⟨((([], Z2), (S, out)), (sv2, so)), hF, hI⟩ ⟨[.row u 32 [bytesG x.1]], by rw [if_neg (by simp)]; rfl⟩ (by simp [WL, leG_self, leG_any])
        | true =>
          rw [hp, if_pos rfl] at hF
          exact Into.first ⟨((([(x, parsM m x)], Z2), (S ++ [x], out)), (sv2, so)), hF, hI.push hp⟩ ⟨[.row u 32 [bytesG x.1]], by rw [if_pos rfl]; rfl⟩ (by simp [WL, leG_self, leG_any])
      · rintro ⟨⟨⟨⟨K, Z3⟩, ⟨S3, out3⟩⟩, ⟨sv3, so3⟩⟩, hF3, hI3⟩
        change FinS m (fun _ => false) K.reverse (S3, out3) T1 at hF3
        change SInv m S3 out3 K.length at hI3
        have hS3 := hI3.le
        have hO3 := hI3.len
        rcases List.eq_nil_or_concat K with rfl | ⟨K0, y, e⟩
        · simp +contextual -implicitDefEqProofs (maxSteps := 2000000) (disch := omega) only [↓lenV, binV, optV, ↓loadV, ↓storeV, ↓fieldAddrV, ↓indexAddrV, ↓allocV, ↓boxV, ↓buildV, ↓sliceV, ↓nilV, bound, cutTag, hiTag, fillG, place, GVal.cells, GVal.ofConst, ↓resV, resG, ↓reduceIte, Nat.reduceEqDiff, Nat.reduceAdd, Nat.reduceSub, Nat.reduceLeDiff, reduceCtorEq, ↓makeMapV, aggV, Tag.cap, GVal.solid, Nat.reduceBEq, Nat.reduceMul, Nat.reduceLT, vcA, ↓vcB, vcC, fbFd, e13, setO_6, setO_7, Int.lt_irrefl, List.length_nil, Int.natCast_zero, vcD, v32]
          rw [List.reverse_nil] at hF3
          rw [FinS] at hF3
          rw [hF3] at hV2
          exact Into.at ⟨(((k + 1, Z3), (S3, out3)), (sv3, so3)), by show k + 1 ≤ _; omega, hV2, hI3⟩ (by show _ < _; simp; omega) ⟨[], rfl⟩ (by simp [WL, leG_self, leG_any, leG_int])
        · rw [List.concat_eq_append] at e
          subst e
          obtain ⟨y, ps⟩ := y
          rw [List.reverse_append, List.reverse_singleton, List.singleton_append] at hF3
          obtain ⟨so1, hVp, hF4⟩ := hF3
          have dK : ((0 : Int) < (K0.length : Int) + 1) = True := eq_true (by omega)
          have hKl : K0.length + 1 ≤ 10000 := by rw [List.length_append, List.length_singleton] at hO3; omega
          cases ps with
          | nil =>
            have e1 := hVp.inv_nil
            subst e1
            have cS := gStep0 m st s sq sw sv3 so3 K0.length (.lit .nilFunc) K0 Z3 y S3 out3 (by omega) (by omega) rfl
            simp +contextual -implicitDefEqProofs (maxSteps := 2000000) (disch := omega) only [↓lenV, binV, optV, ↓loadV, ↓storeV, ↓fieldAddrV, ↓indexAddrV, ↓allocV, ↓boxV, ↓buildV, ↓sliceV, ↓nilV, bound, cutTag, hiTag, fillG, place, GVal.cells, GVal.ofConst, ↓resV, resG, ↓reduceIte, Nat.reduceEqDiff, Nat.reduceAdd, Nat.reduceSub, Nat.reduceLeDiff, reduceCtorEq, ↓makeMapV, aggV, Tag.cap, GVal.solid, Nat.reduceBEq, Nat.reduceMul, Nat.reduceLT, vcA, ↓vcB, vcC, fbFd, e13, setO_6, setO_7, dK, List.length_append, List.length_cons, List.length_nil, List.length_singleton, vcD, v32]
            refine cS.mono ?_
            rintro g O' ⟨so4, rfl, rfl⟩
            simp +contextual -implicitDefEqProofs (maxSteps := 2000000) (disch := omega) only [↓lenV, binV, optV, ↓loadV, ↓storeV, ↓fieldAddrV, ↓indexAddrV, ↓allocV, ↓boxV, ↓buildV, ↓sliceV, ↓nilV, bound, cutTag, hiTag, fillG, place, GVal.cells, GVal.ofConst, ↓resV, resG, ↓reduceIte, Nat.reduceEqDiff, Nat.reduceAdd, Nat.reduceSub, Nat.reduceLeDiff, reduceCtorEq, ↓makeMapV, aggV, Tag.cap, GVal.solid, Nat.reduceBEq, Nat.reduceMul, Nat.reduceLT, vcA, ↓vcB, vcC, fbFd, e13, setO_6, setO_7, vcD, v32]
            refine Into.at ⟨(((K0, (y, []) :: Z3), (S3, out3 ++ [y])), (sv3, so4)), hF4, ⟨hI3.nodup, hI3.keys, ?_⟩⟩ ?_ ⟨[], rfl⟩ (by simp [WL, leG_self, leG_any, leG_int])
            · show (out3 ++ [y]).length + K0.length ≤ S3.length
              rw [List.length_append, List.length_singleton] at hO3 ⊢; omega
            · show wMu m S3 K0 < wMu m S3 (K0 ++ [(y, [])])
              simp [wMu]
          | cons p r =>
            have cS := gStep1 m hm st s sq sw sv3 so3 K0.length (.lit .nilFunc) (fun _ => false) hd K0 Z3 y p r S3 out3 (by omega) rfl
            have hpl := hm.pars p
            simp +contextual -implicitDefEqProofs (maxSteps := 2000000) (disch := omega) only [↓lenV, binV, optV, ↓loadV, ↓storeV, ↓fieldAddrV, ↓indexAddrV, ↓allocV, ↓boxV, ↓buildV, ↓sliceV, ↓nilV, bound, cutTag, hiTag, fillG, place, GVal.cells, GVal.ofConst, ↓resV, resG, ↓reduceIte, Nat.reduceEqDiff, Nat.reduceAdd, Nat.reduceSub, Nat.reduceLeDiff, reduceCtorEq, ↓makeMapV, aggV, Tag.cap, GVal.solid, Nat.reduceBEq, Nat.reduceMul, Nat.reduceLT, vcA, ↓vcB, vcC, fbFd, e13, setO_6, setO_7, dK, List.length_append, List.length_cons, List.length_nil, List.length_singleton, vcD, v32]
            refine cS.mono ?_
            rintro g O' ⟨sv4, Z4, rfl, rfl⟩
            cases hp : pushed m (fun _ => false) S3 p with
            | false =>
              have hVr := hVp.inv_skip hp
              simp +contextual -implicitDefEqProofs (maxSteps := 2000000) (disch := omega) only [↓lenV, binV, optV, ↓loadV, ↓storeV, ↓fieldAddrV, ↓indexAddrV, ↓allocV, ↓boxV, ↓buildV, ↓sliceV, ↓nilV, bound, cutTag, hiTag, fillG, place, GVal.cells, GVal.ofConst, ↓resV, resG, ↓reduceIte, Nat.reduceEqDiff, Nat.reduceAdd, Nat.reduceSub, Nat.reduceLeDiff, reduceCtorEq, ↓makeMapV, aggV, Tag.cap, GVal.solid, Nat.reduceBEq, Nat.reduceMul, Nat.reduceLT, vcA, ↓vcB, vcC, fbFd, e13, setO_6, setO_7, Bool.false_eq_true, if_false, vcD, v32]
              refine Into.at ⟨(((K0 ++ [(y, r)], Z4), (S3, out3)), (sv4, so3)), ?_, ⟨hI3.nodup, hI3.keys, ?_⟩⟩ ?_ ⟨[], by simp⟩ (by simp [WL, leG_self, leG_any, leG_int])
              · show FinS m (fun _ => false) (K0 ++ [(y, r)]).reverse (S3, out3) T1
                rw [List.reverse_append, List.reverse_singleton, List.singleton_append]
                exact ⟨so1, hVr, hF4⟩
              · show out3.length + (K0 ++ [(y, r)]).length ≤ S3.length
                rw [List.length_append, List.length_singleton] at hO3 ⊢; exact hO3
              · show wMu m S3 (K0 ++ [(y, r)]) < wMu m S3 (K0 ++ [(y, p :: r)])
                simp [wMu]
            | true =>
              obtain ⟨so2, hVq, hVr⟩ := hVp.inv_go hp
              have hIp := hI3.push hp
              have hIl := hIp.le
              simp +contextual -implicitDefEqProofs (maxSteps := 2000000) (disch := omega) only [↓lenV, binV, optV, ↓loadV, ↓storeV, ↓fieldAddrV, ↓indexAddrV, ↓allocV, ↓boxV, ↓buildV, ↓sliceV, ↓nilV, bound, cutTag, hiTag, fillG, place, GVal.cells, GVal.ofConst, ↓resV, resG, ↓reduceIte, Nat.reduceEqDiff, Nat.reduceAdd, Nat.reduceSub, Nat.reduceLeDiff, reduceCtorEq, ↓makeMapV, aggV, Tag.cap, GVal.solid, Nat.reduceBEq, Nat.reduceMul, Nat.reduceLT, vcA, ↓vcB, vcC, fbFd, e13, setO_6, setO_7, if_true, vcD, v32]
              refine Into.at ⟨(((K0 ++ [(y, r)] ++ [(p, parsM m p)], Z4), (S3 ++ [p], out3)), (sv4, so3)), ?_, ⟨hIp.nodup, hIp.keys, ?_⟩⟩ ?_ ⟨[], by simp⟩ (by simp [WL, leG_self, leG_any, leG_int])
              · show FinS m (fun _ => false) (K0 ++ [(y, r)] ++ [(p, parsM m p)]).reverse (S3 ++ [p], out3) T1
                rw [List.reverse_append, List.reverse_singleton, List.singleton_append, List.reverse_append, List.reverse_singleton, List.singleton_append]
                exact ⟨so2, hVq, so1, hVr, hF4⟩
              · have := hIp.len
                show out3.length + (K0 ++ [(y, r)] ++ [(p, parsM m p)]).length ≤ (S3 ++ [p]).length
                rw [List.length_append, List.length_singleton] at this ⊢
                rw [List.length_append, List.length_singleton] at this ⊢
                rw [List.length_append, List.length_singleton]
                omega
              · show wMu m (S3 ++ [p]) (K0 ++ [(y, r)] ++ [(p, parsM m p)]) < wMu m S3 (K0 ++ [(y, p :: r)])
                rw [List.length_append, List.length_singleton] at hIl
                simp [wMu]
                omega
    · have d0 : ((k : Int) < (hs.length : Int)) = False := eq_false (by omega)
      rw [List.drop_of_length_le (by omega)] at hV
      have eT := hV.inv_nil
      subst eT
      simp +contextual -implicitDefEqProofs (maxSteps := 2000000) (disch := omega) only [↓lenV, binV, optV, ↓loadV, ↓storeV, ↓fieldAddrV, ↓indexAddrV, ↓allocV, ↓boxV, ↓buildV, ↓sliceV, ↓nilV, bound, cutTag, hiTag, fillG, place, GVal.cells, GVal.ofConst, ↓resV, resG, ↓reduceIte, Nat.reduceEqDiff, Nat.reduceAdd, Nat.reduceSub, Nat.reduceLeDiff, reduceCtorEq, ↓makeMapV, aggV, Tag.cap, GVal.solid, Nat.reduceBEq, Nat.reduceMul, Nat.reduceLT, vcA, ↓vcB, vcC, fbFd, e13, setO_6, setO_7, d0, vcD, v32]
      exact ⟨.slice (hsG out) .none, gObj st s m, _, rfl, by rw [leA_slice], rfl, rfl⟩
end Gv.Try
/- Graphs that may be: plain laws of walks. -/
set_option linter.unusedVariables false
set_option linter.unusedSimpArgs false
set_option maxRecDepth 20000
namespace Gv.Try
open Go Gv Go.Proofs
structure Good (m : GM) : Prop where
  ok : GOK m
  keys : (m.map (·.1)).Nodup
  closed : ∀ x y, y ∈ parsM m x → (look m y).isSome = true
  acyc : ∀ x, ¬ Reach (parsM m) (parsM m x) x
theorem Good.gm {m : GM} (h : Good m) : GMOK m := ⟨by have := h.ok.len; omega, h.ok.row⟩
theorem Reach.trans {nx : Hs → List Hs} {l l' : List Hs} {x : Hs} (h : Reach nx l' x) (hl : ∀ y ∈ l', Reach nx l y) : Reach nx l x := by
  induction h with
  | base x hx => exact hl x hx
  | step x y _ hy ih => exact .step x y ih hy
theorem Reach.sub {nx : Hs → List Hs} {l l' : List Hs} {x : Hs} (h : Reach nx l' x) (hl : ∀ y ∈ l', y ∈ l) : Reach nx l x := h.trans fun y hy => .base y (hl y hy)
theorem Reach.nil {nx : Hs → List Hs} {x : Hs} (h : Reach nx [] x) : False := by
  induction h with
  | base x hx => cases hx
  | step _ _ _ _ ih => exact ih
theorem pars_there {m : GM} {x y : Hs} (h : y ∈ parsM m x) : (look m x).isSome = true := by
  cases e : look m x with
  | some l => rfl
  | none => rw [parsM_none e] at h; cases h
theorem Reach.inM {m : GM} {l : List Hs} {x : Hs} (h : Reach (parsM m) l x) (hx : (look m x).isSome = true) : Reach (parsM m) (inM m l) x := by
  induction h with
  | base x h => exact .base x (List.mem_filter.2 ⟨h, hx⟩)
  | step x y _ hy ih => exact .step x y (ih (pars_there hy)) hy
theorem visL_ex (m : GM) (dn : Hs → Bool) : ∀ (n : Nat) (r S out : List Hs), S.Nodup → (∀ x ∈ S, (look m x).isSome = true) → m.length < S.length + n → ∃ T, VisL m dn r (S, out) T ∧ T.1.Nodup ∧ (∀ x ∈ T.1, (look m x).isSome = true) ∧ S.length ≤ T.1.length := by
  intro n
  induction n with
  | zero =>
    intro r S out h1 h2 h3
    have := nodup_lenH S (m.map (·.1)) h1 fun x hx => look_key (h2 x hx)
    rw [List.length_map] at this
    omega
  | succ n ihn =>
    intro r
    induction r with
    | nil => exact fun S out h1 h2 h3 => ⟨_, .nil _, h1, h2, Nat.le_refl _⟩
    | cons p r ih =>
      intro S out h1 h2 h3
      cases hp : pushed m dn S p with
      | false =>
        obtain ⟨T, a, b⟩ := ih S out h1 h2 h3
        exact ⟨T, .skip p r (S, out) T hp a, b⟩
      | true =>
        obtain ⟨p1, p2, _⟩ := pushed_iff hp
        obtain ⟨⟨S1, o1⟩, a1, a2, a3, a4⟩ := ihn (parsM m p) (S ++ [p]) out (by
          rw [List.nodup_append]
          exact ⟨h1, by simp, fun a ha b hb => by rw [List.mem_singleton.1 hb]; exact fun e => p2 (e ▸ ha)⟩) (fun x hx => by
          rcases List.mem_append.1 hx with q | q
          · exact h2 x q
          · rw [List.mem_singleton.1 q]; exact p1) (by rw [List.length_append, List.length_singleton]; omega)
        simp only [List.length_append, List.length_singleton] at a2 a3 a4
        obtain ⟨T, b1, b2, b3, b4⟩ := ih S1 (o1 ++ [p]) a2 a3 (by omega)
        exact ⟨T, .go p r (S, out) (S1, o1) T hp a1 b1, b2, b3, by omega⟩
theorem walk_ex (m : GM) (dn : Hs → Bool) (hs : List Hs) : ∃ T, VisL m dn hs ([], []) T := by
  obtain ⟨T, h, _⟩ := visL_ex m dn (m.length + 1) hs [] [] List.nodup_nil (by simp) (by simp)
  exact ⟨T, h⟩
theorem vis_spec {m : GM} {dn : Hs → Bool} (hg : ∀ x, ¬ Reach (parsM m) (parsM m x) x) {r : List Hs} {so T : WSt} (h : VisL m dn r so T) :
    (∀ x ∈ so.2, x ∈ so.1) → (∀ k ∈ so.1, k ∉ so.2 → ∀ p ∈ r, Reach (parsM m) (parsM m k) p) →
    ∃ new, T.2 = so.2 ++ new ∧ (∀ x, x ∈ T.1 ↔ x ∈ so.1 ∨ x ∈ new) ∧ new.Nodup ∧ (∀ x ∈ new, x ∉ so.1 ∧ (look m x).isSome = true ∧ dn x = false ∧ Reach (parsM m) r x) ∧
      (∀ p ∈ r, (look m p).isSome = true → dn p = false → p ∈ T.2) ∧ (∀ i x, new[i]? = some x → ∀ y ∈ parsM m x, (look m y).isSome = true → dn y = false → y ∈ so.2 ++ new.take i) := by
  induction h with
  | nil so => exact fun _ _ => ⟨[], by simp, by simp, List.nodup_nil, by simp, by simp, by simp⟩
  | skip p r so T hp _ ih =>
    intro hS hK
    obtain ⟨new, h1, h2, h3, h4, h5, h6⟩ := ih hS fun k hk hn q hq => hK k hk hn q (by simp [hq])
    refine ⟨new, h1, h2, h3, fun x hx => ?_, fun q hq hl hd => ?_, h6⟩
    · obtain ⟨a, b, c, d⟩ := h4 x hx
      exact ⟨a, b, c, d.sub fun y hy => by simp [hy]⟩
    · rcases List.mem_cons.1 hq with e | e
      · subst e
        have hin : q ∈ so.1 := by
          unfold pushed at hp
          rw [hl, hd] at hp
          simpa using hp
        by_cases ho : q ∈ so.2
        · rw [h1]; exact List.mem_append_left _ ho
        · exact absurd (hK q hin ho q (by simp)) (hg q)
      · exact h5 q e hl hd
  | go p r so so1 T hp _ _ ih1 ih2 =>
    intro hS hK
    obtain ⟨p1, p2, p3⟩ := pushed_iff hp
    obtain ⟨n1, a1, a2, a3, a4, a5, a6⟩ := ih1 (fun x hx => List.mem_append_left _ (hS x hx)) (fun k hk hn y hy => by
      rcases List.mem_append.1 hk with q | q
      · exact .step p y (hK k q hn p (by simp)) hy
      · rw [List.mem_singleton.1 q]; exact .base y hy)
    simp only at a1 a2 a4 a5 a6
    have hso1 : ∀ x ∈ so1.2 ++ [p], x ∈ so1.1 := fun x hx => by
      rw [a2]
      rw [a1] at hx
      simp only [List.mem_append, List.mem_singleton] at hx ⊢
      rcases hx with (q | q) | q
      · exact .inl (.inl (hS x q))
      · exact .inr q
      · exact .inl (.inr q)
    obtain ⟨n2, b1, b2, b3, b4, b5, b6⟩ := ih2 hso1 (fun k hk hn q hq => by
      simp only at hk hn
      rw [a2] at hk
      rw [a1] at hn
      simp only [List.mem_append, List.mem_singleton, not_or] at hk hn
      rcases hk with (e | e) | e
      · exact hK k e hn.1.1 q (by simp [hq])
      · exact absurd e hn.2
      · exact absurd e hn.1.2)
    simp only at b1 b2 b4 b5 b6
    have e2 : T.2 = so.2 ++ (n1 ++ [p] ++ n2) := by rw [b1, a1]; simp
    refine ⟨n1 ++ [p] ++ n2, e2, fun x => ?_, ?_, fun x hx => ?_, fun q hq hl hd => ?_, fun i x hi y hy hl hd => ?_⟩
    · rw [b2, a2]
      simp only [List.mem_append, List.mem_singleton]
      constructor
      · rintro (((h | h) | h) | h)
        · exact .inl h
        · exact .inr (.inl (.inr h))
        · exact .inr (.inl (.inl h))
        · exact .inr (.inr h)
      · rintro (h | (h | h) | h)
        · exact .inl (.inl (.inl h))
        · exact .inl (.inr h)
        · exact .inl (.inl (.inr h))
        · exact .inr h
    · rw [List.nodup_append, List.nodup_append]
      refine ⟨⟨a3, by simp, fun a ha b hb e => ?_⟩, b3, fun a ha b hb e => ?_⟩
      · rw [List.mem_singleton.1 hb] at e
        exact (a4 a ha).1 (by rw [e]; simp)
      · refine (b4 b hb).1 (hso1 b ?_)
        rw [← e, a1]
        simp only [List.mem_append, List.mem_singleton] at ha ⊢
        exact ha.imp .inr id
    · rcases List.mem_append.1 hx with q | q
      · rcases List.mem_append.1 q with q | q
        · obtain ⟨c1, c2, c3, c4⟩ := a4 x q
          exact ⟨fun e => c1 (List.mem_append_left _ e), c2, c3, c4.trans fun y hy => .step p y (.base p (by simp)) hy⟩
        · rw [List.mem_singleton.1 q]; exact ⟨p2, p1, p3, .base p (by simp)⟩
      · obtain ⟨c1, c2, c3, c4⟩ := b4 x q
        exact ⟨fun e => c1 (by rw [a2]; simp [e]), c2, c3, c4.sub fun y hy => by simp [hy]⟩
    · rcases List.mem_cons.1 hq with e | e
      · rw [e2, e]; simp
      · exact b5 q e hl hd
    · have hin : ∀ z, (z ∈ so.2 ++ n1 ++ [p] ∨ z ∈ so.2 ++ n1 ++ [p] ++ n2.take (i - n1.length - 1)) → n1.length < i → z ∈ so.2 ++ (n1 ++ [p] ++ n2).take i := fun z hz hi => by
        have et : (n1 ++ [p] ++ n2).take i = n1 ++ [p] ++ n2.take (i - n1.length - 1) := by
          rw [List.take_append, List.take_of_length_le (by simp; omega)]
          congr 2
          simp; omega
        rw [et]
        rcases hz with q | q
        · simp only [List.mem_append, List.mem_singleton] at q ⊢
          rcases q with (q | q) | q
          · exact .inl q
          · exact .inr (.inl (.inl q))
          · exact .inr (.inl (.inr q))
        · simp only [List.mem_append, List.mem_singleton] at q ⊢
          rcases q with ((q | q) | q) | q
          · exact .inl q
          · exact .inr (.inl (.inl q))
          · exact .inr (.inl (.inr q))
          · exact .inr (.inr q)
      by_cases h1 : i < n1.length
      · have e1 : n1[i]? = some x := by rw [List.append_assoc, List.getElem?_append_left h1] at hi; exact hi
        have := a6 i x e1 y hy hl hd
        have et : (n1 ++ [p] ++ n2).take i = n1.take i := by rw [List.append_assoc, List.take_append_of_le_length (by omega)]
        rw [et]; exact this
      · by_cases h2 : i = n1.length
        · subst h2
          have e1 : x = p := by
            rw [List.append_assoc, List.getElem?_append_right (Nat.le_refl _), Nat.sub_self] at hi
            simpa using hi.symm
          subst e1
          have := a5 y hy hl hd
          rw [a1] at this
          have et : (n1 ++ [x] ++ n2).take n1.length = n1 := by rw [List.append_assoc]; exact List.take_left
          rw [et]; exact this
        · have e1 : n2[i - n1.length - 1]? = some x := by
            rw [List.append_assoc, List.getElem?_append_right (by omega), List.singleton_append] at hi
            obtain ⟨j, hj⟩ : ∃ j, i - n1.length = j + 1 := ⟨i - n1.length - 1, by omega⟩
            rw [hj] at hi ⊢
            simpa using hi
          have := b6 _ x e1 y hy hl hd
          rw [a1] at this
          exact hin y (.inr this) (by omega)
theorem vis_spec0 {m : GM} {dn : Hs → Bool} (hg : ∀ x, ¬ Reach (parsM m) (parsM m x) x) {hs : List Hs} {T : WSt} (h : VisL m dn hs ([], []) T) :
    (∀ x, x ∈ T.1 ↔ x ∈ T.2) ∧ T.2.Nodup ∧ (∀ x ∈ T.2, (look m x).isSome = true ∧ dn x = false ∧ Reach (parsM m) hs x) ∧
      (∀ p ∈ hs, (look m p).isSome = true → dn p = false → p ∈ T.2) ∧ (∀ i x, T.2[i]? = some x → ∀ y ∈ parsM m x, (look m y).isSome = true → dn y = false → y ∈ T.2.take i) := by
  obtain ⟨new, h1, h2, h3, h4, h5, h6⟩ := vis_spec hg h (by simp) (by simp)
  simp only [List.nil_append] at h1 h6
  subst h1
  refine ⟨fun x => by rw [h2]; simp, h3, fun x hx => ?_, h5, h6⟩
  obtain ⟨_, b, c, d⟩ := h4 x hx
  exact ⟨b, c, d⟩
theorem vis_app {m : GM} {dn : Hs → Bool} {a b : List Hs} : ∀ {so T : WSt}, VisL m dn (a ++ b) so T → ∃ T1, VisL m dn a so T1 ∧ VisL m dn b T1 T := by
  induction a with
  | nil => exact fun h => ⟨_, .nil _, h⟩
  | cons p r ih =>
    intro so T h
    rw [List.cons_append] at h
    cases hp : pushed m dn so.1 p with
    | false =>
      obtain ⟨T1, h1, h2⟩ := ih (h.inv_skip hp)
      exact ⟨T1, .skip p r so T1 hp h1, h2⟩
    | true =>
      obtain ⟨so1, h1, h2⟩ := h.inv_go hp
      obtain ⟨T1, h3, h4⟩ := ih h2
      exact ⟨T1, .go p r so so1 T1 hp h1 h3, h4⟩
end Gv.Try
/- Adding commits: a graph that may be stays one; graphs that say alike. -/
set_option linter.unusedVariables false
set_option linter.unusedSimpArgs false
set_option maxRecDepth 20000
namespace Gv.Try
open Go Gv Go.Proofs
theorem good_nil : Good [] := ⟨⟨by simp, by simp⟩, by simp, fun x y h => by simp [parsM, look] at h, fun x h => by
  rw [show parsM [] x = [] from rfl] at h; exact h.nil⟩
theorem mset_keys {α : Type} (m : List (Hs × α)) (h : Hs) (v : α) : (mset m h v).map (·.1) = if (look m h).isSome = true then m.map (·.1) else m.map (·.1) ++ [h] := by
  induction m with
  | nil => simp [mset, look]
  | cons p r ih =>
    rw [mset, look]
    by_cases e : h = p.1
    · rw [if_pos e, if_pos e]; simp [e]
    · rw [if_neg e, if_neg e, List.map_cons, ih]
      split <;> simp
theorem key_look {α : Type} {m : List (Hs × α)} {x : Hs} (h : x ∈ m.map (·.1)) : (look m x).isSome = true := by
  induction m with
  | nil => cases h
  | cons p r ih =>
    rw [look]
    by_cases e : x = p.1
    · rw [if_pos e]; rfl
    · rw [if_neg e]
      rw [List.map_cons] at h
      rcases List.mem_cons.1 h with q | q
      · exact absurd q e
      · exact ih q
theorem join_spec : ∀ {cs : List Cm} {m M : GM}, joinP m cs = .ok M → (m.map (·.1)).Nodup → (M.map (·.1)).Nodup ∧ (∀ h l, look m h = some l → look M h = some l) ∧ (∀ c ∈ cs, look M c.1 = some c.2) ∧ (∀ h l, look M h = some l → look m h = some l ∨ (h, l) ∈ cs)
  | [], m, M, h, hk => by
    rw [joinP] at h; cases h
    exact ⟨hk, fun _ _ h => h, by simp, fun _ _ h => .inl h⟩
  | c :: r, m, M, h, hk => by
    rw [joinP] at h
    unfold joinE at h
    cases el : look m c.1 with
    | some l =>
      simp only [el] at h
      split at h
      · rename_i m' e
        split at e
        · rename_i e2
          cases e
          obtain ⟨h1, h2, h3, h4⟩ := join_spec h hk
          refine ⟨h1, h2, fun d hd => ?_, fun x l hx => (h4 x l hx).imp id fun q => List.mem_cons_of_mem _ q⟩
          rcases List.mem_cons.1 hd with q | q
          · rw [q, h2 _ _ el, e2]
          · exact h3 d q
        · cases e
      · cases h
    | none =>
      simp only [el] at h
      have hk' : ((mset m c.1 c.2).map (·.1)).Nodup := by
        rw [mset_keys, el]
        simp only [Option.isSome_none, Bool.false_eq_true, if_false]
        rw [List.nodup_append]
        refine ⟨hk, by simp, fun a ha b hb e => ?_⟩
        rw [List.mem_singleton.1 hb] at e
        have := key_look ha
        rw [e, el] at this; cases this
      obtain ⟨h1, h2, h3, h4⟩ := join_spec h hk'
      refine ⟨h1, fun x l hx => h2 x l ?_, fun d hd => ?_, fun x l hx => ?_⟩
      · rw [look_mset, if_neg (fun e => by rw [e, el] at hx; cases hx)]; exact hx
      · rcases List.mem_cons.1 hd with q | q
        · rw [q]; exact h2 _ _ (by rw [look_mset, if_pos rfl])
        · exact h3 d q
      · rcases h4 x l hx with q | q
        · rw [look_mset] at q
          split at q
          · rename_i e
            cases q
            exact .inr (by rw [e]; simp)
          · exact .inl q
        · exact .inr (List.mem_cons_of_mem _ q)
theorem joined_ok {gr : Int} {m M : GM} {cs : List Cm} {hs : List Hs} (h : joinedP gr m cs hs = .ok M) : sizesP gr hs.length cs = none ∧ joinP m cs = .ok M ∧ lackP M cs hs = none ∧ roundP m M cs = none ∧ M.length ≤ 1000 := by
  unfold joinedP at h
  split at h
  · cases h
  · rename_i e1
    split at h
    · cases h
    · rename_i M' e2
      split at h
      · cases h
      · rename_i e3
        split at h
        · cases h
        · rename_i e4
          split at h
          · cases h
          · cases h
            exact ⟨e1, e2, e3, e4, by omega⟩
theorem lack_none {M : GM} {cs : List Cm} {hs : List Hs} (h : lackP M cs hs = none) : (∀ c ∈ cs, ∀ y ∈ c.2, (look M y).isSome = true) ∧ ∀ y ∈ hs, (look M y).isSome = true := by
  unfold lackP at h
  have hn : ∀ n y, nowhere M n y = none → (look M y).isSome = true := fun n y q => by
    unfold nowhere at q
    split at q
    · rename_i e; rw [e]; rfl
    · cases q
  split at h
  · cases h
  · rename_i e
    refine ⟨fun c hc y hy => ?_, fun y hy => hn 11 y (List.findSome?_eq_none_iff.1 h y hy)⟩
    exact hn 10 y (List.findSome?_eq_none_iff.1 (List.findSome?_eq_none_iff.1 e c hc) y hy)
theorem joined_good {gr : Int} {m M : GM} {cs : List Cm} {hs : List Hs} (hm : Good m) (h : joinedP gr m cs hs = .ok M) : Good M := by
  obtain ⟨e1, e2, e3, e4, e5⟩ := joined_ok h
  obtain ⟨_, _, _, n4⟩ := sizesP_none e1
  obtain ⟨_, r2⟩ := joinP_ok e2 hm.ok.row fun c hc => (n4 c hc).1
  obtain ⟨k1, k2, k3, k4⟩ := join_spec e2 hm.keys
  obtain ⟨l1, _⟩ := lack_none e3
  refine ⟨⟨e5, r2⟩, k1, fun x y hy => ?_, fun x hx => ?_⟩
  · cases el : look M x with
    | none => rw [parsM_none el] at hy; cases hy
    | some l =>
      rw [parsM_some el] at hy
      rcases k4 x l el with q | q
      · have := hm.closed x y (by rw [parsM_some q]; exact hy)
        obtain ⟨z, hz⟩ := Option.isSome_iff_exists.1 this
        rw [k2 y z hz]; rfl
      · exact l1 _ q y hy
  · cases el : look M x with
    | none => rw [parsM_none el] at hx; exact hx.nil
    | some l =>
      rw [parsM_some el] at hx
      cases eo : look m x with
      | some l' =>
        have e : l' = l := by
          have := k2 x l' eo
          rw [el] at this; cases this; rfl
        subst e
        have : ∀ z, Reach (parsM M) l' z → Reach (parsM m) l' z ∧ (look m z).isSome = true := fun z hz => by
          induction hz with
          | base z hz => exact ⟨.base z hz, hm.closed x z (by rw [parsM_some eo]; exact hz)⟩
          | step z y _ hy ih =>
            obtain ⟨lz, hlz⟩ := Option.isSome_iff_exists.1 ih.2
            rw [parsM_some (k2 z lz hlz)] at hy
            have hy' : y ∈ parsM m z := by rw [parsM_some hlz]; exact hy
            exact ⟨.step z y ih.1 hy', hm.closed z y hy'⟩
        exact hm.acyc x (by rw [parsM_some eo]; exact (this x hx).1)
      | none =>
        rcases k4 x l el with q | q
        · rw [eo] at q; cases q
        · unfold roundP at e4
          have := List.findSome?_eq_none_iff.1 e4 _ q
          unfold roundE at this
          rw [eo] at this
          simp only [Option.isSome_none, Bool.false_eq_true, if_false] at this
          split at this
          · cases this
          · rename_i hn; exact hn hx
def Alike (m m' : GM) : Prop := ∀ h, look m h = look m' h
theorem Alike.pars {m m' : GM} (h : Alike m m') : parsM m = parsM m' := funext fun x => by unfold parsM; rw [h x]
theorem Alike.len {m m' : GM} (h : Alike m m') (k : (m.map (·.1)).Nodup) (k' : (m'.map (·.1)).Nodup) : m.length = m'.length := by
  have a := nodup_lenH _ (m'.map (·.1)) k fun x hx => look_key (by rw [← h x]; exact key_look hx)
  have b := nodup_lenH _ (m.map (·.1)) k' fun x hx => look_key (by rw [h x]; exact key_look hx)
  simp only [List.length_map] at a b
  omega
theorem Alike.symm {m m' : GM} (h : Alike m m') : Alike m' m := fun x => (h x).symm
theorem join_alike : ∀ {cs : List Cm} {m m' : GM}, Alike m m' → (∃ e, joinP m cs = .error e ∧ joinP m' cs = .error e) ∨ ∃ M M', joinP m cs = .ok M ∧ joinP m' cs = .ok M' ∧ Alike M M'
  | [], m, m', h => .inr ⟨m, m', rfl, rfl, h⟩
  | c :: r, m, m', h => by
    rw [joinP, joinP]
    unfold joinE
    rw [← h c.1]
    cases el : look m c.1 with
    | some l =>
      simp only
      by_cases e : l = c.2
      · rw [if_pos e, if_pos e]; exact join_alike h
      · rw [if_neg e, if_neg e]; exact .inl ⟨_, rfl, rfl⟩
    | none =>
      simp only
      exact join_alike fun x => by rw [look_mset, look_mset, h x]
theorem lack_alike {M M' : GM} (h : Alike M M') (cs : List Cm) (hs : List Hs) : lackP M cs hs = lackP M' cs hs := by
  have : nowhere M = nowhere M' := funext fun n => funext fun y => by unfold nowhere; rw [h y]
  unfold lackP; rw [this]
theorem round_alike {m m' M M' : GM} (h : Alike m m') (H : Alike M M') (cs : List Cm) : roundP m M cs = roundP m' M' cs := by
  have : roundE m M = roundE m' M' := funext fun c => by unfold roundE; rw [h c.1, H.pars]
  unfold roundP; rw [this]
theorem joined_alike {m m' : GM} (h : Alike m m') (k : (m.map (·.1)).Nodup) (k' : (m'.map (·.1)).Nodup) (gr : Int) (cs : List Cm) (hs : List Hs) :
    (∃ e, joinedP gr m cs hs = .error e ∧ joinedP gr m' cs hs = .error e) ∨ ∃ M M', joinedP gr m cs hs = .ok M ∧ joinedP gr m' cs hs = .ok M' ∧ Alike M M' := by
  unfold joinedP
  cases sizesP gr hs.length cs with
  | some e => exact .inl ⟨e, rfl, rfl⟩
  | none =>
    simp only
    rcases join_alike (cs := cs) h with ⟨⟨x, n⟩, e1, e2⟩ | ⟨M, M', e1, e2, H⟩
    · rw [e1, e2]; exact .inl ⟨_, rfl, rfl⟩
    · rw [e1, e2]
      simp only
      rw [lack_alike H]
      cases lackP M' cs hs with
      | some e => exact .inl ⟨e, rfl, rfl⟩
      | none =>
        simp only
        rw [round_alike h H]
        cases roundP m' M' cs with
        | some e => exact .inl ⟨e, rfl, rfl⟩
        | none =>
          simp only
          rw [H.len (join_spec e1 k).1 (join_spec e2 k').1]
          split
          · exact .inl ⟨_, rfl, rfl⟩
          · exact .inr ⟨M, M', rfl, rfl, H⟩
end Gv.Try
/- Contracts: chapter 12's example. -/
set_option linter.unusedVariables false
set_option linter.unusedSimpArgs false
set_option maxRecDepth 20000
set_option maxHeartbeats 4000000
namespace Gv.Try
open Go Gv Go.Proofs
theorem GCalls.args {P : Program} {f : FuncId} {args args' : List GVal} {O : List GObj} {K : GVal → List GObj → Prop} (h : GCalls P f args O K) (ha : GLes args' args) : GCalls P f args' O K :=
  ⟨h.1, fun E w vs hs hv => h.2 E w vs hs ⟨by rw [hv.1, ha.len], fun k g hg => by
    obtain ⟨x, hx, hle⟩ := ha.at_ k g hg
    exact hle _ _ (hv.2 k x hx)⟩⟩
def hq (a b c : UInt8) : Hs := ⟨a :: b :: c :: List.replicate 29 0, rfl⟩
def q1 : Hs := hq 1 0 0
theorem qE1 : ([.int .u8 1, .int .u8 0, .int .u8 0, .int .u8 0, .int .u8 0, .int .u8 0, .int .u8 0, .int .u8 0, .int .u8 0, .int .u8 0, .int .u8 0, .int .u8 0, .int .u8 0, .int .u8 0, .int .u8 0, .int .u8 0, .int .u8 0, .int .u8 0, .int .u8 0, .int .u8 0, .int .u8 0, .int .u8 0, .int .u8 0, .int .u8 0, .int .u8 0, .int .u8 0, .int .u8 0, .int .u8 0, .int .u8 0, .int .u8 0, .int .u8 0, .int .u8 0] : List GVal) = bytesG q1.1 := rfl
theorem qR1 (x : GVal) : ([.int .u8 1, .int .u8 0, .int .u8 0, .int .u8 0, .int .u8 0, .int .u8 0, .int .u8 0, .int .u8 0, .int .u8 0, .int .u8 0, .int .u8 0, .int .u8 0, .int .u8 0, .int .u8 0, .int .u8 0, .int .u8 0, .int .u8 0, .int .u8 0, .int .u8 0, .int .u8 0, .int .u8 0, .int .u8 0, .int .u8 0, .int .u8 0, .int .u8 0, .int .u8 0, .int .u8 0, .int .u8 0, .int .u8 0, .int .u8 0, .int .u8 0, .int .u8 0, x] : List GVal) = bytesG q1.1 ++ [x] := rfl
def q2 : Hs := hq 2 0 0
theorem qE2 : ([.int .u8 2, .int .u8 0, .int .u8 0, .int .u8 0, .int .u8 0, .int .u8 0, .int .u8 0, .int .u8 0, .int .u8 0, .int .u8 0, .int .u8 0, .int .u8 0, .int .u8 0, .int .u8 0, .int .u8 0, .int .u8 0, .int .u8 0, .int .u8 0, .int .u8 0, .int .u8 0, .int .u8 0, .int .u8 0, .int .u8 0, .int .u8 0, .int .u8 0, .int .u8 0, .int .u8 0, .int .u8 0, .int .u8 0, .int .u8 0, .int .u8 0, .int .u8 0] : List GVal) = bytesG q2.1 := rfl
theorem qR2 (x : GVal) : ([.int .u8 2, .int .u8 0, .int .u8 0, .int .u8 0, .int .u8 0, .int .u8 0, .int .u8 0, .int .u8 0, .int .u8 0, .int .u8 0, .int .u8 0, .int .u8 0, .int .u8 0, .int .u8 0, .int .u8 0, .int .u8 0, .int .u8 0, .int .u8 0, .int .u8 0, .int .u8 0, .int .u8 0, .int .u8 0, .int .u8 0, .int .u8 0, .int .u8 0, .int .u8 0, .int .u8 0, .int .u8 0, .int .u8 0, .int .u8 0, .int .u8 0, .int .u8 0, x] : List GVal) = bytesG q2.1 ++ [x] := rfl
def q3 : Hs := hq 3 0 0
theorem qE3 : ([.int .u8 3, .int .u8 0, .int .u8 0, .int .u8 0, .int .u8 0, .int .u8 0, .int .u8 0, .int .u8 0, .int .u8 0, .int .u8 0, .int .u8 0, .int .u8 0, .int .u8 0, .int .u8 0, .int .u8 0, .int .u8 0, .int .u8 0, .int .u8 0, .int .u8 0, .int .u8 0, .int .u8 0, .int .u8 0, .int .u8 0, .int .u8 0, .int .u8 0, .int .u8 0, .int .u8 0, .int .u8 0, .int .u8 0, .int .u8 0, .int .u8 0, .int .u8 0] : List GVal) = bytesG q3.1 := rfl
theorem qR3 (x : GVal) : ([.int .u8 3, .int .u8 0, .int .u8 0, .int .u8 0, .int .u8 0, .int .u8 0, .int .u8 0, .int .u8 0, .int .u8 0, .int .u8 0, .int .u8 0, .int .u8 0, .int .u8 0, .int .u8 0, .int .u8 0, .int .u8 0, .int .u8 0, .int .u8 0, .int .u8 0, .int .u8 0, .int .u8 0, .int .u8 0, .int .u8 0, .int .u8 0, .int .u8 0, .int .u8 0, .int .u8 0, .int .u8 0, .int .u8 0, .int .u8 0, .int .u8 0, .int .u8 0, x] : List GVal) = bytesG q3.1 ++ [x] := rfl
def q4 : Hs := hq 4 0 0
theorem qE4 : ([.int .u8 4, .int .u8 0, .int .u8 0, .int .u8 0, .int .u8 0, .int .u8 0, .int .u8 0, .int .u8 0, .int .u8 0, .int .u8 0, .int .u8 0, .int .u8 0, .int .u8 0, .int .u8 0, .int .u8 0, .int .u8 0, .int .u8 0, .int .u8 0, .int .u8 0, .int .u8 0, .int .u8 0, .int .u8 0, .int .u8 0, .int .u8 0, .int .u8 0, .int .u8 0, .int .u8 0, .int .u8 0, .int .u8 0, .int .u8 0, .int .u8 0, .int .u8 0] : List GVal) = bytesG q4.1 := rfl
theorem qR4 (x : GVal) : ([.int .u8 4, .int .u8 0, .int .u8 0, .int .u8 0, .int .u8 0, .int .u8 0, .int .u8 0, .int .u8 0, .int .u8 0, .int .u8 0, .int .u8 0, .int .u8 0, .int .u8 0, .int .u8 0, .int .u8 0, .int .u8 0, .int .u8 0, .int .u8 0, .int .u8 0, .int .u8 0, .int .u8 0, .int .u8 0, .int .u8 0, .int .u8 0, .int .u8 0, .int .u8 0, .int .u8 0, .int .u8 0, .int .u8 0, .int .u8 0, .int .u8 0, .int .u8 0, x] : List GVal) = bytesG q4.1 ++ [x] := rfl
def fourCs : List Cm := [(q4, [q2, q3]), (q2, [q1]), (q3, [q1]), (q1, [])]
theorem reach_rank {M : GM} (rk : Hs → Nat) (hr : ∀ p ∈ M, ∀ y ∈ p.2, rk y < rk p.1) {l : List Hs} {n : Nat} (hl : ∀ x ∈ l, rk x < n) {x : Hs} (h : Reach (parsM M) l x) : rk x < n := by
  induction h with
  | base x hx => exact hl x hx
  | step x y _ hy ih =>
    obtain ⟨p, h1, h2, h3⟩ := parsM_mem hy
    have := hr p h1 y h3
    rw [h2] at this
    omega
theorem roundP_rank {m M : GM} {cs : List Cm} (rk : Hs → Nat) (hr : ∀ p ∈ M, ∀ y ∈ p.2, rk y < rk p.1) (hc : ∀ c ∈ cs, ∀ y ∈ c.2, rk y < rk c.1) : roundP m M cs = none := by
  unfold roundP
  rw [List.findSome?_eq_none_iff]
  intro c hcm
  unfold roundE
  split
  · rfl
  · rw [if_neg]
    intro h
    have := reach_rank rk hr (hc c hcm) h
    omega
def rkQ (h : Hs) : Nat := (h.1.headD 0).toNat
theorem four_joined : joinedP 2 [] fourCs [] = .ok fourCs := by
  have e1 : sizesP 2 0 fourCs = none := by kernel_rfl
  have e2 : joinP [] fourCs = .ok fourCs := by kernel_rfl
  have e3 : lackP fourCs fourCs [] = none := by kernel_rfl
  have e4 : roundP [] fourCs fourCs = none := roundP_rank rkQ (by decide) (by decide)
  unfold joinedP
  rw [show ([] : List Hs).length = 0 from rfl, e1]
  simp only [e2, e3, e4]
  rw [if_neg (by decide)]
theorem fourG : GOK ([] : GM) := ⟨by simp, by simp⟩
theorem four_arg (st : Nat) : GLes [.ptr 0 st 0 0, .slice [bytesG q4.1 ++ [.slice [bytesG q2.1, bytesG q3.1] .full], bytesG q2.1 ++ [.slice [bytesG q1.1] .full], bytesG q3.1 ++ [.slice [bytesG q1.1] .full], bytesG q1.1 ++ [.slice [] .nil]] .full] [.ptr 0 st 0 0, .slice (csG fourCs) .none] :=
  ⟨GLe.refl _, GLe.trans GLe.none (GLe.slice ⟨GLes.app (GLes.refl _) ⟨GLe.none, trivial⟩, GLes.app (GLes.refl _) ⟨GLe.none, trivial⟩, GLes.app (GLes.refl _) ⟨GLe.none, trivial⟩, GLes.app (GLes.refl _) ⟨GLe.none, trivial⟩, trivial⟩), trivial⟩
theorem gFour : GCalls Try.prog 14 [] [] (fun g O' => ∃ st s, g = .ptr 0 st 0 0 ∧ O' = gObj st s fourCs) := by
  have cA := fun st s => gAdd [] fourG fourCs st s (by decide) (by decide)
  have ea : addedE [] fourCs = none := by unfold addedE; rw [four_joined]
  have em : addedM [] fourCs = fourCs := by unfold addedM; rw [four_joined]
  simp only [ea, em] at cA
  refine h14.calls mixS (by simp) ?_
  simp only [gstart, s14, List.cons_append, List.nil_append, List.length_cons, List.length_nil, Nat.reduceAdd, Nat.reduceSub, List.replicate_succ, List.replicate_zero]
  simp +contextual -implicitDefEqProofs (maxSteps := 2000000) (disch := omega) only [binV, ↓buildV, ↓buildSliceV, fillG, fillE, place, GVal.cells, GVal.ofConst, ↓resV, resG, ↓reduceIte, Nat.reduceEqDiff, Nat.reduceAdd, Nat.reduceSub, Nat.reduceLeDiff, reduceCtorEq, aggV, Tag.cap, GVal.solid, Nat.reduceBEq, Nat.reduceMul, Nat.reduceLT, vcA, ↓vcB, vcC, fbFd, e14, vcD]
  refine gNew.mono ?_
  rintro g O' ⟨st, s, rfl, rfl⟩
  simp +contextual -implicitDefEqProofs (maxSteps := 2000000) (disch := omega) only [binV, ↓buildV, ↓buildSliceV, fillG, fillE, place, GVal.cells, GVal.ofConst, ↓resV, resG, ↓reduceIte, Nat.reduceEqDiff, Nat.reduceAdd, Nat.reduceSub, Nat.reduceLeDiff, reduceCtorEq, aggV, Tag.cap, GVal.solid, Nat.reduceBEq, Nat.reduceMul, Nat.reduceLT, vcA, ↓vcB, vcC, fbFd, e14, qE1, qE2, qE3, qE4, qR1, qR2, qR3, qR4, vcD, v33, v32]
  refine (GCalls.args (cA st s) (four_arg st)).mono ?_
  rintro g O' ⟨x', y', rfl, rfl, s', rfl, rfl⟩
  simp +contextual -implicitDefEqProofs (maxSteps := 2000000) (disch := omega) only [binV, ↓buildV, ↓buildSliceV, fillG, fillE, place, GVal.cells, GVal.ofConst, ↓resV, resG, ↓reduceIte, Nat.reduceEqDiff, Nat.reduceAdd, Nat.reduceSub, Nat.reduceLeDiff, reduceCtorEq, aggV, Tag.cap, GVal.solid, Nat.reduceBEq, Nat.reduceMul, Nat.reduceLT, vcA, ↓vcB, vcC, fbFd, e14, errV, vcD]
  exact ⟨st, s', rfl, rfl⟩
theorem fourM : GMOK fourCs := ⟨by decide, by decide⟩
theorem four_walk : VisL fourCs (fun _ => false) [q4] ([], []) ([q4, q2, q1, q3], [q1, q2, q3, q4]) := by
  have p4 : parsM fourCs q4 = [q2, q3] := by kernel_rfl
  have p3 : parsM fourCs q3 = [q1] := by kernel_rfl
  have p2 : parsM fourCs q2 = [q1] := by kernel_rfl
  have p1 : parsM fourCs q1 = [] := by kernel_rfl
  have w1 : VisL fourCs (fun _ => false) [q1] ([q4, q2], []) ([q4, q2, q1], [q1]) := .go q1 [] _ ([q4, q2, q1], []) _ (by kernel_rfl) (by rw [p1]; exact .nil _) (.nil _)
  have w3 : VisL fourCs (fun _ => false) [q1] ([q4, q2, q1, q3], [q1, q2]) ([q4, q2, q1, q3], [q1, q2]) := .skip q1 [] _ _ (by kernel_rfl) (.nil _)
  have w23 : VisL fourCs (fun _ => false) [q3] ([q4, q2, q1], [q1, q2]) ([q4, q2, q1, q3], [q1, q2, q3]) := .go q3 [] _ ([q4, q2, q1, q3], [q1, q2]) _ (by kernel_rfl) (by rw [p3]; exact w3) (.nil _)
  have w2 : VisL fourCs (fun _ => false) [q2, q3] ([q4], []) ([q4, q2, q1, q3], [q1, q2, q3]) := .go q2 [q3] _ ([q4, q2, q1], [q1]) _ (by kernel_rfl) (by rw [p2]; exact w1) w23
  exact .go q4 [] _ ([q4, q2, q1, q3], [q1, q2, q3]) _ (by kernel_rfl) (by rw [p4]; exact w2) (.nil _)
theorem gKnown : GPure Try.prog 10 [] (.bool true) := by
  have cS := hSame [q1, q2, q3, q4] [q1, q2, q3, q4] .none .full (by decide)
  rw [decide_eq_true rfl] at cS
  refine GCalls.toPure ?_
  refine h10.calls mixS (by simp) ?_
  simp only [gstart, s10, List.cons_append, List.nil_append, List.length_cons, List.length_nil, Nat.reduceAdd, Nat.reduceSub, List.replicate_succ, List.replicate_zero]
  simp +contextual -implicitDefEqProofs (maxSteps := 2000000) (disch := omega) only [binV, ↓buildV, ↓buildSliceV, fillG, fillE, place, GVal.cells, GVal.ofConst, ↓resV, resG, ↓reduceIte, Nat.reduceEqDiff, Nat.reduceAdd, Nat.reduceSub, Nat.reduceLeDiff, reduceCtorEq, aggV, Tag.cap, GVal.solid, Nat.reduceBEq, Nat.reduceMul, Nat.reduceLT, vcA, ↓vcB, vcC, fbFd, e10, vcD]
  refine gFour.mono ?_
  rintro g O' ⟨st, s, rfl, rfl⟩
  simp +contextual -implicitDefEqProofs (maxSteps := 2000000) (disch := omega) only [binV, ↓buildV, ↓buildSliceV, fillG, fillE, place, GVal.cells, GVal.ofConst, ↓resV, resG, ↓reduceIte, Nat.reduceEqDiff, Nat.reduceAdd, Nat.reduceSub, Nat.reduceLeDiff, reduceCtorEq, aggV, Tag.cap, GVal.solid, Nat.reduceBEq, Nat.reduceMul, Nat.reduceLT, vcA, ↓vcB, vcC, fbFd, e10, qE1, qE2, qE3, qE4, qR1, qR2, qR3, qR4, vcD, v33, v32]
  refine (gWalkN fourCs fourM [q4] .full st s _ four_walk (by decide)).mono ?_
  rintro g O' ⟨rfl, rfl⟩
  simp +contextual -implicitDefEqProofs (maxSteps := 2000000) (disch := omega) only [binV, ↓buildV, ↓buildSliceV, fillG, fillE, place, GVal.cells, GVal.ofConst, ↓resV, resG, ↓reduceIte, Nat.reduceEqDiff, Nat.reduceAdd, Nat.reduceSub, Nat.reduceLeDiff, reduceCtorEq, aggV, Tag.cap, GVal.solid, Nat.reduceBEq, Nat.reduceMul, Nat.reduceLT, vcA, ↓vcB, vcC, fbFd, e10, qE1, qE2, qE3, qE4, qR1, qR2, qR3, qR4, vcD, v33, v32]
  refine cS.then ?_ (by rfl)
  simp +contextual -implicitDefEqProofs (maxSteps := 2000000) (disch := omega) only [binV, ↓buildV, ↓buildSliceV, fillG, fillE, place, GVal.cells, GVal.ofConst, ↓resV, resG, ↓reduceIte, Nat.reduceEqDiff, Nat.reduceAdd, Nat.reduceSub, Nat.reduceLeDiff, reduceCtorEq, aggV, Tag.cap, GVal.solid, Nat.reduceBEq, Nat.reduceMul, Nat.reduceLT, vcA, ↓vcB, vcC, fbFd, e10, vcD]
  exact ⟨1, .bool true, rfl, by rw [leA_bool]⟩
end Gv.Try
/- OrderLong: a line of commits: plain laws. -/
set_option linter.unusedVariables false
set_option linter.unusedSimpArgs false
set_option maxRecDepth 20000
namespace Gv.Try
open Go Gv Go.Proofs
def hL (k : Nat) : Hs := hq (UInt8.ofNat (k / 256)) (UInt8.ofNat k) 1
def cL (k : Nat) : Cm := (hL k, if k = 0 then [] else [hL (k - 1)])
def seg (a j : Nat) : List Cm := (List.range j).map fun i => cL (a + i)
abbrev chain (n : Nat) : GM := seg 0 n
end Gv.Try
/- Commits put into a sorted list; a list with a hash twice. -/
set_option linter.unusedVariables false
set_option linter.unusedSimpArgs false
set_option maxRecDepth 20000
namespace Gv.Try
open Go Gv Go.Proofs
def insC : GM → Cm → GM
  | [], c => [c]
  | x :: r, c => if ltB x.1.1 c.1.1 = true then x :: insC r c else c :: x :: r
theorem ins_eq : ∀ (L : GM) (c : Cm), L.take (idxC L c.1) ++ [c] ++ L.drop (idxC L c.1) = insC L c
  | [], c => rfl
  | x :: r, c => by
    unfold idxC insC
    by_cases e : ltB x.1.1 c.1.1 = true
    · rw [if_pos e, if_pos e, List.take_succ_cons, List.drop_succ_cons, ← ins_eq r c]; rfl
    · rw [if_neg e, if_neg e]; rfl
theorem insC_mem : ∀ (L : GM) (c z : Cm), z ∈ insC L c ↔ z ∈ L ∨ z = c
  | [], c, z => by simp [insC]
  | x :: r, c, z => by
    unfold insC
    split
    · simp only [List.mem_cons, insC_mem r c z, or_assoc]
    · simp only [List.mem_cons]
      constructor
      · rintro (h | h)
        · exact .inr h
        · exact .inl h
      · rintro (h | h)
        · exact .inr h
        · exact .inl h
theorem insC_len : ∀ (L : GM) (c : Cm), (insC L c).length = L.length + 1
  | [], c => rfl
  | x :: r, c => by
    unfold insC; split
    · rw [List.length_cons, insC_len r c, List.length_cons]
    · rfl
theorem look_none_mem {α : Type} {m : List (Hs × α)} {h : Hs} (e : look m h = none) : ∀ x ∈ m, x.1 ≠ h := fun x hx q => by
  have := key_look (m := m) (x := h) (List.mem_map.2 ⟨x, hx, q⟩)
  rw [e] at this; cases this
theorem insC_ss : ∀ {L : GM} (c : Cm), SSC L → (∀ x ∈ L, x.1 ≠ c.1) → SSC (insC L c)
  | [], c, _, _ => by simp [insC, SSC]
  | x :: r, c, hs, hn => by
    unfold insC
    obtain ⟨h1, h2⟩ := List.pairwise_cons.1 hs
    split
    · rename_i e
      refine List.pairwise_cons.2 ⟨fun z hz => ?_, insC_ss c h2 fun y hy => hn y (by simp [hy])⟩
      rcases (insC_mem r c z).1 hz with q | rfl
      · exact h1 z q
      · exact e
    · rename_i e
      have hx : LT c.1 x.1 := LT.total (by cases q : ltB x.1.1 c.1.1 with | true => exact absurd q e | false => rfl) (hn x (by simp))
      refine List.pairwise_cons.2 ⟨fun z hz => ?_, hs⟩
      rcases List.mem_cons.1 hz with rfl | q
      · exact hx
      · exact hx.trans (h1 z q)
theorem look_ins : ∀ (L : GM) (c : Cm) (h : Hs), look L c.1 = none → look (insC L c) h = if h = c.1 then some c.2 else look L h
  | [], c, h, _ => rfl
  | x :: r, c, h, e => by
    rw [look] at e
    by_cases q : c.1 = x.1
    · rw [if_pos q] at e; cases e
    · rw [if_neg q] at e
      unfold insC
      split
      · rw [look, look_ins r c h e, look]
        by_cases p : h = x.1
        · rw [if_pos p, if_neg (c := h = c.1) (fun w => q (w.symm.trans p)), if_pos p]
        · rw [if_neg p, if_neg p]
      · rw [look]
theorem putC_new {L : GM} {c : Cm} (e : look L c.1 = none) : putC L c = insC L c := by
  unfold putC
  rw [e, if_neg (by simp), ins_eq]
theorem putC_old {L : GM} {c : Cm} {l : List Hs} (e : look L c.1 = some l) : putC L c = L := by
  unfold putC
  rw [if_pos (by rw [e]; rfl)]
theorem putC_ss {L : GM} (c : Cm) (h : SSC L) : SSC (putC L c) := by
  cases e : look L c.1 with
  | none => rw [putC_new e]; exact insC_ss c h (look_none_mem e)
  | some l => rw [putC_old e]; exact h
theorem putC_len (L : GM) (c : Cm) : (putC L c).length ≤ L.length + 1 := by
  cases e : look L c.1 with
  | none => rw [putC_new e, insC_len]; exact Nat.le_refl _
  | some l => rw [putC_old e]; omega
theorem look_putC (L : GM) (c : Cm) (h : Hs) : look (putC L c) h = if (look L c.1).isSome = true then look L h else if h = c.1 then some c.2 else look L h := by
  cases e : look L c.1 with
  | none => rw [putC_new e, look_ins L c h e]; rfl
  | some l => rw [putC_old e]; rfl
theorem putC_row {L : GM} {c : Cm} {n : Nat} (h : ∀ p ∈ L, p.2.length ≤ n) (hc : c.2.length ≤ n) : ∀ p ∈ putC L c, p.2.length ≤ n := fun p hp => by
  cases e : look L c.1 with
  | none =>
    rw [putC_new e] at hp
    rcases (insC_mem L c p).1 hp with q | rfl
    · exact h p q
    · exact hc
  | some l => rw [putC_old e] at hp; exact h p hp
def putsC (L : GM) (cs : List Cm) : GM := cs.foldl putC L
theorem putsC_snoc (L : GM) (cs : List Cm) (k : Nat) (h : k < cs.length) : putsC L (cs.take (k + 1)) = putC (putsC L (cs.take k)) (cs.getD k default) := by
  unfold putsC
  rw [takeC h, List.foldl_append]; rfl
theorem putsC_ss : ∀ (cs : List Cm) {L : GM}, SSC L → SSC (putsC L cs)
  | [], L, h => h
  | c :: r, L, h => putsC_ss r (putC_ss c h)
theorem putsC_len : ∀ (cs : List Cm) (L : GM), (putsC L cs).length ≤ L.length + cs.length
  | [], L => by simp [putsC]
  | c :: r, L => by
    have := putsC_len r (putC L c)
    have := putC_len L c
    show (putsC (putC L c) r).length ≤ _
    rw [List.length_cons]; omega
theorem putsC_row {n : Nat} : ∀ (cs : List Cm) {L : GM}, (∀ p ∈ L, p.2.length ≤ n) → (∀ c ∈ cs, c.2.length ≤ n) → ∀ p ∈ putsC L cs, p.2.length ≤ n
  | [], L, h, _ => h
  | c :: r, L, h, hc => putsC_row r (putC_row h (hc c (by simp))) fun x hx => hc x (by simp [hx])
theorem ssc_keys {L : GM} (h : SSC L) : (L.map (·.1)).Nodup := by
  rw [List.nodup_iff_pairwise_ne, List.pairwise_map]
  exact h.imp fun q e => by rw [e] at q; exact LT.irrefl _ q
theorem join_put {m M X : GM} {c : Cm} (h : Alike m X) (e : joinE m c = .ok M) : Alike M (putC X c) := by
  unfold joinE at e
  intro x
  rw [look_putC, ← h c.1, ← h x]
  cases el : look m c.1 with
  | some l =>
    simp only [el] at e
    split at e
    · cases e; rfl
    · cases e
  | none =>
    simp only [el] at e
    cases e
    rw [look_mset]; rfl
theorem join_puts : ∀ {cs : List Cm} {m M X : GM}, Alike m X → joinP m cs = .ok M → Alike M (putsC X cs)
  | [], m, M, X, h, e => by rw [joinP] at e; cases e; exact h
  | c :: r, m, M, X, h, e => by
    rw [joinP] at e
    split at e
    · rename_i m' e1
      exact join_puts (cs := r) (join_put h e1) e
    · cases e
theorem sortR_len_le (l : List Hs) : (sortR l).length ≤ l.length :=
  nodup_lenH _ _ (ss_nodup (sortR_ss l)) fun x hx => (sortR_mem l x).1 hx
theorem twice_iff (l : List Hs) : twiceB l = true ↔ ¬ l.Nodup := by
  unfold twiceB
  rw [decide_eq_true_eq]
  constructor
  · intro h n
    have := nodup_lenH l (sortR l) n fun x hx => (sortR_mem l x).2 hx
    omega
  · intro h
    refine Nat.lt_of_not_le fun q => h ?_
    have hs := ss_nodup (sortR_ss l)
    have hle := sortR_len_le l
    have key : ∀ (a b : List Hs), a.Nodup → (∀ x ∈ a, x ∈ b) → b.length ≤ a.length → b.Nodup := by
      intro a
      induction a with
      | nil => intro b _ _ hb; have : b = [] := List.length_eq_zero_iff.1 (by simpa using hb); rw [this]; exact List.nodup_nil
      | cons x r ih =>
        intro b hn hs hb
        obtain ⟨h1, h2⟩ := List.nodup_cons.1 hn
        obtain ⟨p, q, rfl⟩ := List.append_of_mem (hs x (by simp))
        have h3 : (p ++ q).Nodup := ih (p ++ q) h2 (fun y hy => by
          have := hs y (by simp [hy])
          have hne : y ≠ x := fun e => h1 (e ▸ hy)
          simp at this ⊢
          rcases this with t | t | t
          · exact .inl t
          · exact absurd t hne
          · exact .inr t) (by simp at hb ⊢; omega)
        have hx : x ∉ p ++ q := fun hm => by
          have hlen : (x :: r).length ≤ (p ++ q).length := nodup_lenH _ _ hn fun y hy => by
            have := hs y hy
            simp at this hm ⊢
            rcases this with t | t | t
            · exact .inl t
            · rw [t]; exact hm
            · exact .inr t
          simp at hlen hb
          omega
        rw [List.nodup_append] at h3
        rw [List.nodup_append, List.nodup_cons]
        simp at hx
        refine ⟨h3.1, ⟨hx.2, h3.2.1⟩, fun a ha b hb => ?_⟩
        rcases List.mem_cons.1 hb with e | e
        · rw [e]; exact fun w => hx.1 (w ▸ ha)
        · exact h3.2.2 a ha b e
    exact key (sortR l) l hs (fun x hx => (sortR_mem l x).1 hx) q
end Gv.Try
/- Contracts: the reference's round. -/
set_option linter.unusedVariables false
set_option linter.unusedSimpArgs false
set_option maxRecDepth 20000
set_option maxHeartbeats 4000000
namespace Gv.Try
open Go Gv Go.Proofs
noncomputable def roundB (L : GM) (h : Hs) : Bool := by classical exact if Reach (parsM L) (parsM L h) h then true else false
theorem roundB_yes {L : GM} {h : Hs} (e : Reach (parsM L) (parsM L h) h) : roundB L h = true := by unfold roundB; exact if_pos e
theorem roundB_no {L : GM} {h : Hs} (e : ¬ Reach (parsM L) (parsM L h) h) : roundB L h = false := by unfold roundB; exact if_neg e
theorem hIn (l : List Hs) (t : Tag) (h : Hs) (hl : l.length ≤ 4398046511104) : GPure Try.prog 20 [.slice (hsG l) t, .agg (bytesG h.1)] (.bool (decide (h ∈ l))) := by
  refine h20.pure mixS (by simp) ?_
  simp only [gstart, s20, List.cons_append, List.nil_append, List.length_cons, List.length_nil, Nat.reduceAdd, Nat.reduceSub, List.replicate_succ, List.replicate_zero]
  simp +contextual -implicitDefEqProofs (maxSteps := 2000000) (disch := omega) only [drawC, drawK, keepT, ↓lenV, binV, ↓loadV, ↓indexAddrV, ↓boxV, GVal.cells, GVal.ofConst, ↓resV, resG, ↓reduceIte, Nat.reduceEqDiff, Nat.reduceAdd, Nat.reduceSub, Nat.reduceLeDiff, reduceCtorEq, aggV, Tag.cap, GVal.solid, Nat.reduceBEq, Nat.reduceMul, Nat.reduceLT, vcA, ↓vcB, vcC, fbFd, e20, vcD, v32]
  refine vcSLoop_by (ι := { k : Nat // k ≤ l.length ∧ h ∉ l.take k }) (fun k => ⟨[.slice (hsG l) t, .any, .any, .ref (bytesG h.1), .any, .int .i64 (k.1 : Nat)] ++ List.replicate 12 .any, []⟩) (fun k => l.length - k.1) ?_ ?_
  · exact Into.first ⟨0, by omega, by simp⟩ ⟨[], by simp⟩ (by simp [WL, leG_self, leG_any, leG_int])
  · rintro ⟨k, hk, he⟩
    by_cases h' : k < l.length
    · have d0 : ((k : Int) < (l.length : Int)) = True := eq_true (by omega)
      have ea := hsG_at l k h'
      obtain ⟨x, ex⟩ : ∃ x, l.getD k h0 = x := ⟨_, rfl⟩
      rw [ex] at ea
      have ht := takeH h'
      rw [ex] at ht
      have ce := cellsEq_hs x h
      by_cases e : x = h
      · rw [decide_eq_true e] at ce
        have em : h ∈ l := List.mem_of_mem_take (i := k + 1) (by rw [ht, e]; simp)
        rw [decide_eq_true em]
        simp +contextual -implicitDefEqProofs (maxSteps := 2000000) (disch := omega) only [drawC, drawK, keepT, ↓lenV, binV, ↓loadV, ↓indexAddrV, ↓boxV, GVal.cells, GVal.ofConst, ↓resV, resG, ↓reduceIte, Nat.reduceEqDiff, Nat.reduceAdd, Nat.reduceSub, Nat.reduceLeDiff, reduceCtorEq, aggV, Tag.cap, GVal.solid, Nat.reduceBEq, Nat.reduceMul, Nat.reduceLT, vcA, ↓vcB, vcC, fbFd, e20, d0, ea, hsG_len, ce, vcD, v32]
        omega
      · rw [decide_eq_false e] at ce
        simp +contextual -implicitDefEqProofs (maxSteps := 2000000) (disch := omega) only [drawC, drawK, keepT, ↓lenV, binV, ↓loadV, ↓indexAddrV, ↓boxV, GVal.cells, GVal.ofConst, ↓resV, resG, ↓reduceIte, Nat.reduceEqDiff, Nat.reduceAdd, Nat.reduceSub, Nat.reduceLeDiff, reduceCtorEq, aggV, Tag.cap, GVal.solid, Nat.reduceBEq, Nat.reduceMul, Nat.reduceLT, vcA, ↓vcB, vcC, fbFd, e20, d0, ea, hsG_len, ce, vcD, v32]
        refine ⟨by omega, ?_⟩
        refine Into.at ⟨k + 1, by omega, ?_⟩ (by show l.length - (k + 1) < l.length - k; omega) ⟨[], by simp⟩ (by simp [WL, leG_self, leG_any, leG_int])
        rw [ht]
        intro q
        rcases List.mem_append.1 q with q | q
        · exact he q
        · exact e (List.mem_singleton.1 q).symm
    · have d0 : ((k : Int) < (l.length : Int)) = False := eq_false (by omega)
      rw [List.take_of_length_le (by omega)] at he
      rw [decide_eq_false he]
      simp +contextual -implicitDefEqProofs (maxSteps := 2000000) (disch := omega) only [drawC, drawK, keepT, ↓lenV, binV, ↓loadV, ↓indexAddrV, ↓boxV, GVal.cells, GVal.ofConst, ↓resV, resG, ↓reduceIte, Nat.reduceEqDiff, Nat.reduceAdd, Nat.reduceSub, Nat.reduceLeDiff, reduceCtorEq, aggV, Tag.cap, GVal.solid, Nat.reduceBEq, Nat.reduceMul, Nat.reduceLT, vcA, ↓vcB, vcC, fbFd, e20, d0, hsG_len, vcD]
theorem GCalls.keep1' {P : Program} {f : FuncId} {args args' : List GVal} {x : GObj} {r : GVal} (h : GCalls P f args [x] (fun g O' => g = r ∧ O' = [x])) {O : List GObj} (i : Nat) (hO : O[i]? = some x) (ha : args.map (GVal.place i) = args') (hx : x.isClock = false) (hc : clockOf O = none) :
    GCalls P f args' O (fun g O' => g = r ∧ O' = O) := GCalls.keep1 (h.mono (by rintro g O' ⟨rfl, rfl⟩; exact ⟨x, rfl, rfl, rfl⟩)) i hO ha hx hc
theorem rRound (L : GM) (hL : SSC L) (hm : GMOK L) (h : Hs) (rt : Nat) : GCalls Try.prog 52 [.ptr 0 rt 0 0, .agg (bytesG h.1)] (rObj rt L) (fun g O' => g = .bool (roundB L h) ∧ O' = rObj rt L) := by
  have hll := hm.len
  have hhl := hm.hashes
  have cP := fun x => rParents L hL (by omega) x rt
  have hp0 := hm.pars h
  refine GCalls.dropTo ?_
  refine h52.calls mixS (by simp) ?_
  simp only [gstart, s52, List.cons_append, List.nil_append, List.length_cons, List.length_nil, Nat.reduceAdd, Nat.reduceSub, List.replicate_succ, List.replicate_zero]
  simp +contextual -implicitDefEqProofs (maxSteps := 2000000) (disch := omega) only [drawC, drawK, keepT, ↓lenV, binV, optV, ↓loadV, ↓storeV, ↓indexAddrV, ↓allocV, ↓boxV, ↓buildSliceV, ↓sliceV, ↓appendV, ↓srcV, bound, cutTag, hiTag, fillE, GVal.cells, GVal.ofConst, ↓resV, resG, ↓reduceIte, Nat.reduceEqDiff, Nat.reduceAdd, Nat.reduceSub, Nat.reduceLeDiff, reduceCtorEq, ↓asrcV, aggV, Tag.cap, GVal.solid, Nat.reduceBEq, Nat.reduceMul, Nat.reduceLT, vcA, ↓vcB, vcC, fbFd, e52, vcD, v32]
  refine (cP h).mono ?_
  rintro g O' ⟨rfl, rfl⟩
  simp +contextual -implicitDefEqProofs (maxSteps := 2000000) (disch := omega) only [drawC, drawK, keepT, ↓lenV, binV, optV, ↓loadV, ↓storeV, ↓indexAddrV, ↓allocV, ↓boxV, ↓buildSliceV, ↓sliceV, ↓appendV, ↓srcV, bound, cutTag, hiTag, fillE, GVal.cells, GVal.ofConst, ↓resV, resG, ↓reduceIte, Nat.reduceEqDiff, Nat.reduceAdd, Nat.reduceSub, Nat.reduceLeDiff, reduceCtorEq, ↓asrcV, aggV, Tag.cap, GVal.solid, Nat.reduceBEq, Nat.reduceMul, Nat.reduceLT, vcA, ↓vcB, vcC, fbFd, e52, hsG_len, all_hsG, vcD]
  refine ⟨by omega, by omega, fun s1 => ?_⟩
  have mu1 : ∀ u s n : Nat, rMu u 4 s n < rMu u 4 s (n + 1) := fun u s n => by unfold rMu; omega
  have mu2 : ∀ u s n m : Nat, s < u → m ≤ 4 → rMu u 4 (s + 1) (n + m) < rMu u 4 s (n + 1) := fun u s n m h1 h2 => by
    unfold rMu; omega
  obtain ⟨U, hU⟩ : ∃ U, parsM L h ++ hashesM L = U := ⟨_, rfl⟩
  have hUl : U.length ≤ 50004 := by rw [← hU, List.length_append]; omega
  have hU1 : ∀ x ∈ parsM L h, x ∈ U := fun x hx => by rw [← hU]; exact List.mem_append_left _ hx
  have hU2 : ∀ x y, y ∈ parsM L x → y ∈ U := fun x y hy => by rw [← hU]; exact List.mem_append_right _ (pars_in hy)
  refine vcSLoop_by (ι := { p : (List Hs × List Hs) × Nat // (RInv (parsM L) U (parsM L h) p.1.1 p.1.2 ∧ h ∉ p.1.1) ∧ p.1.2.length ≤ 4 + 4 * p.1.1.length }) (fun p => ⟨[.ptr 0 rt 0 0, .any, .any, .ref (bytesG h.1), .any, .slice (hsG p.1.1.1) (.tok 1 p.1.2), .slice (hsG p.1.1.2) .none] ++ List.replicate 37 .any, rObj rt L ++ [.tok p.1.2 32]⟩) (fun p => rMu U.length 4 p.1.1.1.length p.1.1.2.length) ?_ ?_
  · refine Into.slot 6 _ (.slice (hsG (parsM L h)) .none) rfl (fun E v q => GLe.none E v q) ?_
    refine Into.drop (O := rObj rt L) (X := [.tok s1 32]) rfl ?_
    refine Into.tok 5 32 [] rfl rfl ?_
    simp +contextual -implicitDefEqProofs (maxSteps := 2000000) (disch := omega) only [drawC, drawK, keepT, ↓lenV, binV, optV, ↓loadV, ↓storeV, ↓indexAddrV, ↓allocV, ↓boxV, ↓buildSliceV, ↓sliceV, ↓appendV, ↓srcV, bound, cutTag, hiTag, fillE, GVal.cells, GVal.ofConst, ↓resV, resG, ↓reduceIte, Nat.reduceEqDiff, Nat.reduceAdd, Nat.reduceSub, Nat.reduceLeDiff, reduceCtorEq, ↓asrcV, aggV, Tag.cap, GVal.solid, Nat.reduceBEq, Nat.reduceMul, Nat.reduceLT, vcA, ↓vcB, vcC, fbFd, e52, vcD]
    intro ss
    exact Into.first ⟨(([], parsM L h), ss), ⟨⟨List.nodup_nil, fun x hx => hU1 x (by simpa using hx), fun x hx => .inr hx, fun x hx => by simp at hx, fun x hx => .base x (by simpa using hx)⟩, by simp⟩, by show (parsM L h).length ≤ 4 + 4 * 0; omega⟩ ⟨[], by simp⟩ (by simp [WL, leG_self, leG_any, hsG])
  · rintro ⟨⟨⟨S, todo⟩, v⟩, ⟨inv, hnS⟩, hlen⟩
    change RInv (parsM L) U (parsM L h) S todo at inv
    have hnS : h ∉ S := hnS
    change todo.length ≤ 4 + 4 * S.length at hlen
    have hSl := inv.len
    rcases List.eq_nil_or_concat todo with rfl | ⟨tt, x, e⟩
    · have hn : ¬ Reach (parsM L) (parsM L h) h := fun q => hnS ((inv.fin h).2 q)
      rw [roundB_no hn]
      simp +contextual -implicitDefEqProofs (maxSteps := 2000000) (disch := omega) only [drawC, drawK, keepT, ↓lenV, binV, optV, ↓loadV, ↓storeV, ↓indexAddrV, ↓allocV, ↓boxV, ↓buildSliceV, ↓sliceV, ↓appendV, ↓srcV, bound, cutTag, hiTag, fillE, GVal.cells, GVal.ofConst, ↓resV, resG, ↓reduceIte, Nat.reduceEqDiff, Nat.reduceAdd, Nat.reduceSub, Nat.reduceLeDiff, reduceCtorEq, ↓asrcV, aggV, Tag.cap, GVal.solid, Nat.reduceBEq, Nat.reduceMul, Nat.reduceLT, vcA, ↓vcB, vcC, fbFd, e52, hsG_len, Int.lt_irrefl, false_imp_iff, true_and, List.length_nil, Int.natCast_zero, vcD]
      exact ⟨_, rObj rt L, [.tok v 32], rfl, leA_refl _, rfl, rfl⟩
    · rw [List.concat_eq_append] at e
      subst e
      have d0 : ((0 : Int) < (tt.length : Int) + 1) = True := eq_true (by omega)
      have htl : tt.length + 1 ≤ 4 + 4 * S.length := by rw [List.length_append, List.length_singleton] at hlen; exact hlen
      have d1 : norm .i64 ((tt.length : Int) + 1 - 1) = (tt.length : Int) := by rw [norm_i64 (by omega)]; omega
      have d2 : ((tt.length : Int)).toNat = tt.length := by omega
      have eS : (hsG (tt ++ [x])).getD tt.length [] = bytesG x.1 := by
        rw [hsG_at _ _ (by simp)]
        simp [List.getD]
      have eT : List.take tt.length (tt ++ [x]) = tt := List.take_left
      have ce := cellsEq_hs x h
      by_cases ex : x = h
      · rw [decide_eq_true ex] at ce
        have hy : Reach (parsM L) (parsM L h) h := by
          have := inv.sound x (.inr (by simp))
          rw [ex] at this; exact this
        rw [roundB_yes hy]
        simp +contextual -implicitDefEqProofs (maxSteps := 2000000) (disch := omega) only [drawC, drawK, keepT, ↓lenV, binV, optV, ↓loadV, ↓storeV, ↓indexAddrV, ↓allocV, ↓boxV, ↓buildSliceV, ↓sliceV, ↓appendV, ↓srcV, bound, cutTag, hiTag, fillE, GVal.cells, GVal.ofConst, ↓resV, resG, ↓reduceIte, Nat.reduceEqDiff, Nat.reduceAdd, Nat.reduceSub, Nat.reduceLeDiff, reduceCtorEq, ↓asrcV, aggV, Tag.cap, GVal.solid, Nat.reduceBEq, Nat.reduceMul, Nat.reduceLT, vcA, ↓vcB, vcC, fbFd, e52, toNat0, Nat.sub_zero, hsG_len, d0, d1, d2, eS, eT, all_hsG, take_hs, List.length_append, List.length_singleton, List.length_cons, List.length_nil, true_imp_iff, ce, vcD, v32]
        exact ⟨by omega, by omega, fun st => ⟨by omega, by omega, by omega, _, rObj rt L, [.tok v 32, .row st 32 [bytesG x.1]], rfl, leA_refl _, rfl, rfl⟩⟩
      · rw [decide_eq_false ex] at ce
        have cI := hIn S (.tok 1 v) x (by omega)
        by_cases hx : x ∈ S
        · rw [decide_eq_true hx] at cI
          simp +contextual -implicitDefEqProofs (maxSteps := 2000000) (disch := omega) only [drawC, drawK, keepT, ↓lenV, binV, optV, ↓loadV, ↓storeV, ↓indexAddrV, ↓allocV, ↓boxV, ↓buildSliceV, ↓sliceV, ↓appendV, ↓srcV, bound, cutTag, hiTag, fillE, GVal.cells, GVal.ofConst, ↓resV, resG, ↓reduceIte, Nat.reduceEqDiff, Nat.reduceAdd, Nat.reduceSub, Nat.reduceLeDiff, reduceCtorEq, ↓asrcV, aggV, Tag.cap, GVal.solid, Nat.reduceBEq, Nat.reduceMul, Nat.reduceLT, vcA, ↓vcB, vcC, fbFd, e52, toNat0, Nat.sub_zero, hsG_len, d0, d1, d2, eS, eT, all_hsG, take_hs, List.length_append, List.length_singleton, List.length_cons, List.length_nil, true_imp_iff, ce, vcD, v32]
          refine ⟨by omega, by omega, fun st => ⟨by omega, by omega, by omega, ?_⟩⟩
          refine cI.then ?_ (by rfl)
          simp +contextual -implicitDefEqProofs (maxSteps := 2000000) (disch := omega) only [drawC, drawK, keepT, ↓lenV, binV, optV, ↓loadV, ↓storeV, ↓indexAddrV, ↓allocV, ↓boxV, ↓buildSliceV, ↓sliceV, ↓appendV, ↓srcV, bound, cutTag, hiTag, fillE, GVal.cells, GVal.ofConst, ↓resV, resG, ↓reduceIte, Nat.reduceEqDiff, Nat.reduceAdd, Nat.reduceSub, Nat.reduceLeDiff, reduceCtorEq, ↓asrcV, aggV, Tag.cap, GVal.solid, Nat.reduceBEq, Nat.reduceMul, Nat.reduceLT, vcA, ↓vcB, vcC, fbFd, e52, toNat0, Nat.sub_zero, hsG_len, d0, d1, d2, eS, eT, all_hsG, take_hs, ce, vcD, v32]
          exact Into.at ⟨((S, tt), v), ⟨inv.skip hx, hnS⟩, by show tt.length ≤ 4 + 4 * S.length; omega⟩ (mu1 _ _ _) ⟨[.row st 32 [bytesG x.1]], by simp⟩ (by simp [WL, leG_self, leG_any])
        · rw [decide_eq_false hx] at cI
          have hkx := hm.pars x
          have hgo := inv.go hx (fun y hy => hU2 x y hy)
          have hgl := hgo.len
          rw [List.length_append, List.length_singleton] at hgl
          simp +contextual -implicitDefEqProofs (maxSteps := 2000000) (disch := omega) only [drawC, drawK, keepT, ↓lenV, binV, optV, ↓loadV, ↓storeV, ↓indexAddrV, ↓allocV, ↓boxV, ↓buildSliceV, ↓sliceV, ↓appendV, ↓srcV, bound, cutTag, hiTag, fillE, GVal.cells, GVal.ofConst, ↓resV, resG, ↓reduceIte, Nat.reduceEqDiff, Nat.reduceAdd, Nat.reduceSub, Nat.reduceLeDiff, reduceCtorEq, ↓asrcV, aggV, Tag.cap, GVal.solid, Nat.reduceBEq, Nat.reduceMul, Nat.reduceLT, vcA, ↓vcB, vcC, fbFd, e52, toNat0, Nat.sub_zero, hsG_len, d0, d1, d2, eS, eT, all_hsG, take_hs, List.length_append, List.length_singleton, List.length_cons, List.length_nil, true_imp_iff, ce, vcD, v32]
          refine ⟨by omega, by omega, fun st => ⟨by omega, by omega, by omega, ?_⟩⟩
          refine cI.then ?_ (by rfl)
          simp +contextual -implicitDefEqProofs (maxSteps := 2000000) (disch := omega) only [drawC, drawK, keepT, ↓lenV, binV, optV, ↓loadV, ↓storeV, ↓indexAddrV, ↓allocV, ↓boxV, ↓buildSliceV, ↓sliceV, ↓appendV, ↓srcV, bound, cutTag, hiTag, fillE, GVal.cells, GVal.ofConst, ↓resV, resG, ↓reduceIte, Nat.reduceEqDiff, Nat.reduceAdd, Nat.reduceSub, Nat.reduceLeDiff, reduceCtorEq, ↓asrcV, aggV, Tag.cap, GVal.solid, Nat.reduceBEq, Nat.reduceMul, Nat.reduceLT, vcA, ↓vcB, vcC, fbFd, e52, toNat0, Nat.sub_zero, hsG_len, all_hsG, take_hs, if32, one32, List.length_append, List.length_singleton, List.length_cons, List.length_nil, vcD, v32]
          refine ⟨by omega, by omega, fun s2 => ⟨by omega, by omega, fun s3 => ⟨⟨[_], rfl⟩, ?_⟩⟩⟩
          refine (GCalls.keep1' (cP x) (O := [.row rt 1 [[.slice (csG L) .none]], .tok s2 32, .row st 32 [bytesG x.1], .tok s3 32]) 0 rfl rfl rfl rfl).mono ?_
          rintro g O' ⟨rfl, rfl⟩
          simp +contextual -implicitDefEqProofs (maxSteps := 2000000) (disch := omega) only [drawC, drawK, keepT, ↓lenV, binV, optV, ↓loadV, ↓storeV, ↓indexAddrV, ↓allocV, ↓boxV, ↓buildSliceV, ↓sliceV, ↓appendV, ↓srcV, bound, cutTag, hiTag, fillE, GVal.cells, GVal.ofConst, ↓resV, resG, ↓reduceIte, Nat.reduceEqDiff, Nat.reduceAdd, Nat.reduceSub, Nat.reduceLeDiff, reduceCtorEq, ↓asrcV, aggV, Tag.cap, GVal.solid, Nat.reduceBEq, Nat.reduceMul, Nat.reduceLT, vcA, ↓vcB, vcC, fbFd, e52, toNat0, Nat.sub_zero, hsG_len, all_hsG, take_hs, if32, one32, List.length_append, List.length_singleton, List.length_cons, List.length_nil, vcD, v32]
          refine ⟨by omega, by omega, fun s4 => ?_⟩
          refine Into.at ⟨((S ++ [x], tt ++ parsM L x), s2), ⟨hgo, fun q => ?_⟩, ?_⟩ ?_ ⟨[.row st 32 [bytesG x.1], .tok s4 32], by simp⟩ (by simp [WL, leG_self, leG_any, leG_none, hsG_app, hsG])
          · rcases List.mem_append.1 q with q | q
            · exact hnS q
            · exact ex (List.mem_singleton.1 q).symm
          · show (tt ++ parsM L x).length ≤ 4 + 4 * (S ++ [x]).length
            rw [List.length_append, List.length_append, List.length_singleton]; omega
          · show rMu _ 4 (S ++ [x]).length (tt ++ parsM L x).length < rMu _ 4 S.length (tt.length + 1)
            rw [List.length_append, List.length_append, List.length_singleton]
            exact mu2 _ _ _ _ (by omega) hkx
end Gv.Try
