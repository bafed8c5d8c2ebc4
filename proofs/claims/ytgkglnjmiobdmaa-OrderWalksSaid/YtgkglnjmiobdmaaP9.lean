/- Contracts: graph's round, joinedBy, Add, New. -/
import Derived.Test.YtgkglnjmiobdmaaP8
import Derived.Test.YtgkglnjmiobdmaaP6
set_option linter.unusedVariables false
set_option linter.unusedSimpArgs false
set_option maxRecDepth 20000
set_option maxHeartbeats 4000000
namespace Gv.Try
open Go Gv Go.Proofs
theorem parsM_some {m : GM} {h : Hs} {l : List Hs} (e : look m h = some l) : parsM m h = l := by rw [parsM, e]; rfl
theorem parsM_none {m : GM} {h : Hs} (e : look m h = none) : parsM m h = [] := by rw [parsM, e]; rfl
theorem gRound1 (a : GObj) (M : GM) (h : Hs) (s : Nat) (l : List Hs) (el : look M h = some l) : GCalls Try.prog 63 [.agg (bytesG h.1), .ref [.map 1 s]] [a, .map s (kvG encL M)] (fun g O' => g = .slice (hsG l) .none ∧ O' = [a, .map s (kvG encL M)]) := by
  obtain ⟨i, hi, hv, _⟩ := look_idx encL M h l el
  refine h63.calls mixS (by simp) ?_
  simp only [gstart, s63, List.cons_append, List.nil_append, List.length_cons, List.length_nil, Nat.reduceAdd, Nat.reduceSub, List.replicate_succ, List.replicate_zero]
  simp +contextual -implicitDefEqProofs (maxSteps := 2000000) (disch := omega) only [optV, ↓loadV, ↓boxV, ↓sliceV, bound, cutTag, hiTag, GVal.cells, GVal.ofConst, ↓resV, resG, ↓reduceIte, Nat.reduceEqDiff, Nat.reduceAdd, Nat.reduceSub, Nat.reduceLeDiff, reduceCtorEq, ↓lookupV, keyOk, keyCells, pairG, Tag.cap, GVal.solid, Nat.reduceBEq, Nat.reduceMul, Nat.reduceLT, vcA, ↓vcB, vcC, fbFd, e63, kfind_h, hi, hv, vcD, v32]
theorem gRound0 (a : GObj) (M : GM) (h : Hs) (s : Nat) (el : look M h = none) : GCalls Try.prog 63 [.agg (bytesG h.1), .ref [.map 1 s]] [a, .map s (kvG encL M)] (fun g O' => g = .slice [] .nil ∧ O' = [a, .map s (kvG encL M)]) := by
  obtain ⟨hi, _⟩ := look_none encL M h el
  refine h63.calls mixS (by simp) ?_
  simp only [gstart, s63, List.cons_append, List.nil_append, List.length_cons, List.length_nil, Nat.reduceAdd, Nat.reduceSub, List.replicate_succ, List.replicate_zero]
  simp +contextual -implicitDefEqProofs (maxSteps := 2000000) (disch := omega) only [optV, ↓loadV, ↓boxV, ↓sliceV, bound, cutTag, hiTag, GVal.cells, GVal.ofConst, ↓resV, resG, ↓reduceIte, Nat.reduceEqDiff, Nat.reduceAdd, Nat.reduceSub, Nat.reduceLeDiff, reduceCtorEq, ↓lookupV, keyOk, keyCells, pairG, Tag.cap, GVal.solid, Nat.reduceBEq, Nat.reduceMul, Nat.reduceLT, vcA, ↓vcB, vcC, fbFd, e63, kfind_h, hi, vcD, v32]
theorem gRoundN (a : GObj) (M : GM) (h : Hs) (s : Nat) : GCalls Try.prog 63 [.agg (bytesG h.1), .ref [.map 1 s]] [a, .map s (kvG encL M)] (fun g O' => g = .slice (hsG (parsM M h)) .none ∧ O' = [a, .map s (kvG encL M)]) := by
  cases el : look M h with
  | some l => rw [parsM_some el]; exact gRound1 a M h s l el
  | none =>
    rw [parsM_none el]
    refine GCalls.into ((gRound0 a M h s el).mono ?_)
    rintro g O' ⟨rfl, rfl⟩
    exact GInto.weak (O := [a, .map s (kvG encL M)]) (X := []) (by rw [leG_none]; rfl) (.here ⟨rfl, rfl⟩)
noncomputable def roundE (m M : GM) (c : Cm) : Er := by
  classical exact if (look m c.1).isSome then none else if Reach (parsM M) c.2 c.1 then some (some c.1, 12) else none
def hashesM (M : GM) : List Hs := M.map (·.1) ++ M.flatMap (·.2)
theorem parsM_mem {M : GM} {x y : Hs} (h : y ∈ parsM M x) : ∃ p ∈ M, p.1 = x ∧ y ∈ p.2 := by
  induction M with
  | nil => cases h
  | cons p r ih =>
    unfold parsM at h
    rw [look] at h
    by_cases e : x = p.1
    · rw [if_pos e] at h
      exact ⟨p, by simp, e.symm, h⟩
    · rw [if_neg e] at h
      obtain ⟨q, h1, h2, h3⟩ := ih h
      exact ⟨q, by simp [h1], h2, h3⟩
theorem look_mem {M : GM} {x : Hs} {l : List Hs} (h : look M x = some l) : (x, l) ∈ M := by
  induction M with
  | nil => cases h
  | cons p r ih =>
    rw [look] at h
    by_cases e : x = p.1
    · rw [if_pos e] at h
      cases h
      rw [e]; simp
    · rw [if_neg e] at h
      simp [ih h]
structure GMOK (M : GM) : Prop where
  len : M.length ≤ 10000
  row : ∀ p ∈ M, p.2.length ≤ 4
theorem GMOK.pars {M : GM} (h : GMOK M) (x : Hs) : (parsM M x).length ≤ 4 := by
  cases e : look M x with
  | some l => rw [parsM_some e]; exact h.row _ (look_mem e)
  | none => rw [parsM_none e]; simp
theorem GMOK.hashes {M : GM} (h : GMOK M) : (hashesM M).length ≤ 50000 := by
  have : ∀ M : GM, (∀ p ∈ M, p.2.length ≤ 4) → (hashesM M).length ≤ 5 * M.length := by
    intro M
    induction M with
    | nil => intro _; simp [hashesM]
    | cons p r ih =>
      intro h
      have := ih fun q hq => h q (by simp [hq])
      have := h p (by simp)
      simp only [hashesM, List.map_cons, List.flatMap_cons, List.length_append, List.length_cons] at *
      omega
  have := this M h.row
  have := h.len
  omega
theorem pars_in {M : GM} {x y : Hs} (h : y ∈ parsM M x) : y ∈ hashesM M := by
  obtain ⟨p, h1, _, h3⟩ := parsM_mem h
  exact List.mem_append_right _ (List.mem_flatMap.2 ⟨p, h1, h3⟩)
theorem gReachedM (M : GM) (hM : GMOK M) (l : List Hs) (t : Tag) (ht : t = .nil → l = []) (hl : l.length ≤ 10000) {O : List GObj} {i j : Nat} {a : GObj} {s : Nat} (hi : O[i]? = some a) (hj : O[j]? = some (.map s (kvG encL M))) (hij : i ≠ j) (hca : a.isClock = false) (hc : clockOf O = none) :
    GCalls Try.prog 41 [.slice (hsG l) t, .func (.func 63) [] [.ref [.map j s]]] O (fun g O' => ∃ st kv, g = .map O.length st ∧ O' = O ++ [.map st kv] ∧ ∃ S : List Hs, kv = kvG encB (setM S) ∧ S.Nodup ∧ (∀ x, x ∈ S ↔ Reach (parsM M) l x)) := by
  have h := gReached (caps := [.ref [.map 1 s]]) (parsM M) (fun h => gRoundN a M h s) hca l t ht (l ++ hashesM M) (fun x hx => List.mem_append_left _ hx) (fun x _ y hy => List.mem_append_right _ (pars_in hy)) 4 (fun x _ => hM.pars x) (by have := hM.hashes; rw [List.length_append]; omega) (by omega) (by omega)
  refine GCalls.on2new (R := fun st kv => ∃ S : List Hs, kv = kvG encB (setM S) ∧ S.Nodup ∧ (∀ x, x ∈ S ↔ Reach (parsM M) l x)) (h.mono ?_) i j hij hi hj ⟨GLe.refl _, GLe.func _ trivial ⟨GLe.ref ⟨GLe.map _ _ _, trivial⟩, trivial⟩, trivial⟩ hca hc
  rintro g O' ⟨st, S, rfl, rfl, h1, h2, _⟩
  exact ⟨st, _, rfl, rfl, S, rfl, h1, h2⟩
noncomputable def roundP (m M : GM) (cs : List Cm) : Er := cs.findSome? (roundE m M)
theorem gRound (m M : GM) (cs : List Cm) (tc : Tag) (st s s2 : Nat) (hM : GMOK M) (hc : cs.length ≤ 1000000) (hp : ∀ c ∈ cs, c.2.length ≤ 10000) :
    GCalls Try.prog 48 [.ptr 0 st 0 0, .map 2 s2, .slice (csG cs) tc] (gObj st s m ++ [.map s2 (kvG encL M)]) (fun g O' => g = errV (roundP m M cs) ∧ O' = gObj st s m ++ [.map s2 (kvG encL M)]) := by
  refine GCalls.dropTo ?_
  refine h48.calls mixS (by simp) ?_
  simp only [gstart, s48, List.cons_append, List.nil_append, List.length_cons, List.length_nil, Nat.reduceAdd, Nat.reduceSub, List.replicate_succ, List.replicate_zero]
  simp +contextual -implicitDefEqProofs (maxSteps := 2000000) (disch := omega) only [drawC, drawK, keepT, ↓lenV, binV, ↓loadV, ↓storeV, ↓fieldAddrV, ↓indexAddrV, ↓allocV, ↓boxV, ↓nilV, ↓ifaceV, GVal.cells, GVal.ofConst, ↓resV, resG, ↓reduceIte, Nat.reduceEqDiff, Nat.reduceAdd, Nat.reduceSub, Nat.reduceLeDiff, reduceCtorEq, ↓lookupV, keyOk, keyCells, pairG, Tag.cap, GVal.solid, Nat.reduceBEq, Nat.reduceMul, Nat.reduceLT, vcA, ↓vcB, vcC, fbFd, e48, csG_len, vcD]
  refine vcSLoop_by (ι := { k : Nat // k ≤ cs.length ∧ cs.findSome? (roundE m M) = (cs.drop k).findSome? (roundE m M) }) (fun k => ⟨[.ptr 0 st 0 0, .any, .any, .any, .ref [.map 2 s2]] ++ List.replicate 6 .any ++ [.slice (csG cs) tc, .int .i64 cs.length, .int .i64 (k.1 : Nat)] ++ List.replicate 26 .any, [.row st 1 [[.map 1 s]], .map s (kvG encL m), .map s2 (kvG encL M)]⟩) (fun k => cs.length - k.1) ?_ ?_
  · exact Into.first ⟨0, by omega, by simp⟩ ⟨[], by simp⟩ (by simp [WL, leG_self, leG_any, leG_int])
  · rintro ⟨k, hk, hf⟩
    by_cases h : k < cs.length
    · have d0 : ((k : Int) < (cs.length : Int)) = True := eq_true (by omega)
      have eS := csG_at cs k h
      have hx := hp _ (memC h)
      rw [findC h] at hf
      generalize cs.getD k default = x at *
      obtain ⟨xh, xp⟩ := x
      change xp.length ≤ 10000 at hx
      cases el : look m xh with
      | some l =>
        obtain ⟨i, hi, hv, _⟩ := look_idx encL m xh l el
        have en : roundE m M (xh, xp) = none := by unfold roundE; rw [el]; simp
        rw [en] at hf
        simp +contextual -implicitDefEqProofs (maxSteps := 2000000) (disch := omega) only [drawC, drawK, keepT, ↓lenV, binV, ↓loadV, ↓storeV, ↓fieldAddrV, ↓indexAddrV, ↓allocV, ↓boxV, ↓nilV, ↓ifaceV, GVal.cells, GVal.ofConst, ↓resV, resG, ↓reduceIte, Nat.reduceEqDiff, Nat.reduceAdd, Nat.reduceSub, Nat.reduceLeDiff, reduceCtorEq, ↓lookupV, keyOk, keyCells, pairG, Tag.cap, GVal.solid, Nat.reduceBEq, Nat.reduceMul, Nat.reduceLT, vcA, ↓vcB, vcC, fbFd, e48, csG_len, hsG_len, comG, kfind_h, d0, eS, hi, hv, vcD, v33, v32]
        refine ⟨by omega, fun u => ?_⟩
        exact Into.at ⟨k + 1, by omega, hf⟩ (by show _ < _; simp; omega) ⟨_, rfl⟩ (by simp [WL, leG_self, leG_any, leG_int])
      | none =>
        obtain ⟨hi, _⟩ := look_none encL m xh el
        simp +contextual -implicitDefEqProofs (maxSteps := 2000000) (disch := omega) only [drawC, drawK, keepT, ↓lenV, binV, ↓loadV, ↓storeV, ↓fieldAddrV, ↓indexAddrV, ↓allocV, ↓boxV, ↓nilV, ↓ifaceV, GVal.cells, GVal.ofConst, ↓resV, resG, ↓reduceIte, Nat.reduceEqDiff, Nat.reduceAdd, Nat.reduceSub, Nat.reduceLeDiff, reduceCtorEq, ↓lookupV, keyOk, keyCells, pairG, Tag.cap, GVal.solid, Nat.reduceBEq, Nat.reduceMul, Nat.reduceLT, vcA, ↓vcB, vcC, fbFd, e48, csG_len, hsG_len, comG, kfind_h, d0, eS, hi, vcD, v33, v32]
        refine ⟨by omega, fun u => ?_⟩
        refine (gReachedM M hM xp .none (by simp) hx (i := 1) (j := 2) rfl rfl (by simp) rfl rfl).mono ?_
        rintro g O' ⟨sr, kv, rfl, rfl, S, rfl, hS, hR⟩
        by_cases hm : xh ∈ S
        · obtain ⟨i2, hi2, hv2, _⟩ := look_idx encB (setM S) xh true (by rw [look_set, if_pos hm])
          have en : roundE m M (xh, xp) = some (some xh, 12) := by
            unfold roundE; rw [el]; simp [(hR xh).1 hm]
          rw [en] at hf
          simp +contextual -implicitDefEqProofs (maxSteps := 2000000) (disch := omega) only [drawC, drawK, keepT, ↓lenV, binV, ↓loadV, ↓storeV, ↓fieldAddrV, ↓indexAddrV, ↓allocV, ↓boxV, ↓nilV, ↓ifaceV, GVal.cells, GVal.ofConst, ↓resV, resG, ↓reduceIte, Nat.reduceEqDiff, Nat.reduceAdd, Nat.reduceSub, Nat.reduceLeDiff, reduceCtorEq, ↓lookupV, keyOk, keyCells, pairG, Tag.cap, GVal.solid, Nat.reduceBEq, Nat.reduceMul, Nat.reduceLT, vcA, ↓vcB, vcC, fbFd, e48, csG_len, hsG_len, comG, kfind_h, hi2, hv2, vcD, v33, v32]
          refine ⟨⟨[_], rfl⟩, ?_⟩
          refine (gOf xh 12).then ?_ (by rfl)
          simp +contextual -implicitDefEqProofs (maxSteps := 2000000) (disch := omega) only [drawC, drawK, keepT, ↓lenV, binV, ↓loadV, ↓storeV, ↓fieldAddrV, ↓indexAddrV, ↓allocV, ↓boxV, ↓nilV, ↓ifaceV, GVal.cells, GVal.ofConst, ↓resV, resG, ↓reduceIte, Nat.reduceEqDiff, Nat.reduceAdd, Nat.reduceSub, Nat.reduceLeDiff, reduceCtorEq, ↓lookupV, keyOk, keyCells, pairG, Tag.cap, GVal.solid, Nat.reduceBEq, Nat.reduceMul, Nat.reduceLT, vcA, ↓vcB, vcC, fbFd, e48, vcD]
          unfold roundP
          rw [hf]
          exact ⟨_, gObj st s m ++ [.map s2 (kvG encL M)], _, rfl, leA_refl _, rfl, rfl⟩
        · obtain ⟨hi2, _⟩ := look_none encB (setM S) xh (by rw [look_set, if_neg hm])
          have en : roundE m M (xh, xp) = none := by
            have hnr : ¬ Reach (parsM M) xp xh := fun q => hm ((hR xh).2 q)
            unfold roundE; rw [el]; simp [hnr]
          rw [en] at hf
          simp +contextual -implicitDefEqProofs (maxSteps := 2000000) (disch := omega) only [drawC, drawK, keepT, ↓lenV, binV, ↓loadV, ↓storeV, ↓fieldAddrV, ↓indexAddrV, ↓allocV, ↓boxV, ↓nilV, ↓ifaceV, GVal.cells, GVal.ofConst, ↓resV, resG, ↓reduceIte, Nat.reduceEqDiff, Nat.reduceAdd, Nat.reduceSub, Nat.reduceLeDiff, reduceCtorEq, ↓lookupV, keyOk, keyCells, pairG, Tag.cap, GVal.solid, Nat.reduceBEq, Nat.reduceMul, Nat.reduceLT, vcA, ↓vcB, vcC, fbFd, e48, csG_len, hsG_len, comG, kfind_h, hi2, vcD, v33, v32]
          refine ⟨⟨[_], rfl⟩, ?_⟩
          exact Into.at ⟨k + 1, by omega, hf⟩ (by show _ < _; simp; omega) ⟨_, rfl⟩ (by simp [WL, leG_self, leG_any, leG_int])
    · have d0 : ((k : Int) < (cs.length : Int)) = False := eq_false (by omega)
      rw [List.drop_of_length_le (by omega)] at hf
      simp +contextual -implicitDefEqProofs (maxSteps := 2000000) (disch := omega) only [drawC, drawK, keepT, ↓lenV, binV, ↓loadV, ↓storeV, ↓fieldAddrV, ↓indexAddrV, ↓allocV, ↓boxV, ↓nilV, ↓ifaceV, GVal.cells, GVal.ofConst, ↓resV, resG, ↓reduceIte, Nat.reduceEqDiff, Nat.reduceAdd, Nat.reduceSub, Nat.reduceLeDiff, reduceCtorEq, ↓lookupV, keyOk, keyCells, pairG, Tag.cap, GVal.solid, Nat.reduceBEq, Nat.reduceMul, Nat.reduceLT, vcA, ↓vcB, vcC, fbFd, e48, csG_len, hsG_len, comG, kfind_h, d0, vcD, v33, v32]
      unfold roundP
      rw [hf]
      exact ⟨_, gObj st s m ++ [.map s2 (kvG encL M)], [], rfl, leA_refl _, rfl, rfl⟩
theorem errV_some (e : Option Hs × Int) : ∃ ty v, errV (some e) = .iface ty v := by
  obtain ⟨h, n⟩ := e
  cases h with
  | none => exact ⟨_, _, rfl⟩
  | some h => exact ⟨_, _, rfl⟩
theorem kvG_len {α : Type} (enc : α → GVal) (m : List (Hs × α)) : (kvG enc m).length = m.length := by simp [kvG]
structure GOK (m : GM) : Prop where
  len : m.length ≤ 1000
  row : ∀ p ∈ m, p.2.length ≤ 4
theorem sizesP_none {gr : Int} {nh : Nat} {cs : List Cm} (h : sizesP gr nh cs = none) : cs.length ≤ 200 ∧ nh ≤ 200 ∧ (gr = 1 ∨ gr = 2) ∧ ∀ c ∈ cs, c.2.length ≤ 4 ∧ twiceB c.2 = false := by
  unfold sizesP at h
  split at h
  · cases h
  · rename_i hb
    unfold badReq at hb
    refine ⟨by omega, by omega, by omega, fun c hc => ?_⟩
    have := List.findSome?_eq_none_iff.1 h c hc
    unfold sizeE at this
    split at this
    · cases this
    · split at this
      · cases this
      · rename_i h1 h2; exact ⟨by omega, by simpa using h2⟩
theorem mset_mem {α : Type} {m : List (Hs × α)} {h : Hs} {v : α} {p : Hs × α} (hp : p ∈ mset m h v) : p ∈ m ∨ p = (h, v) := by
  induction m with
  | nil => simp [mset] at hp; exact .inr hp
  | cons q r ih =>
    rw [mset] at hp
    split at hp
    · rcases List.mem_cons.1 hp with e | e
      · exact .inr e
      · exact .inl (List.mem_cons_of_mem _ e)
    · rcases List.mem_cons.1 hp with e | e
      · exact .inl (by rw [e]; simp)
      · exact (ih e).imp (List.mem_cons_of_mem _) id
theorem joinP_ok : ∀ {cs : List Cm} {m M : GM}, joinP m cs = .ok M → (∀ p ∈ m, p.2.length ≤ 4) → (∀ c ∈ cs, c.2.length ≤ 4) → M.length ≤ m.length + cs.length ∧ ∀ p ∈ M, p.2.length ≤ 4
  | [], m, M, h, hm, hc => by rw [joinP] at h; cases h; exact ⟨by simp, hm⟩
  | c :: r, m, M, h, hm, hc => by
    rw [joinP] at h
    have hr : ∀ x ∈ r, x.2.length ≤ 4 := fun x hx => hc x (by simp [hx])
    have hx := hc c (by simp)
    unfold joinE at h
    cases el : look m c.1 with
    | some l =>
      simp only [el] at h
      split at h
      · rename_i m' e
        split at e
        · cases e
          obtain ⟨h1, h2⟩ := joinP_ok h hm hr
          exact ⟨by simp only [List.length_cons]; omega, h2⟩
        · cases e
      · cases h
    | none =>
      simp only [el] at h
      obtain ⟨h1, h2⟩ := joinP_ok h (fun p hp => by
        rcases mset_mem hp with q | q
        · exact hm p q
        · rw [q]; exact hx) hr
      have := mset_len m c.1 c.2
      rw [el] at this
      simp at this
      exact ⟨by simp only [List.length_cons]; omega, h2⟩
noncomputable def joinedP (gr : Int) (m : GM) (cs : List Cm) (hs : List Hs) : Except (Option Hs × Int) GM := match sizesP gr hs.length cs with
  | some e => .error e
  | none => match joinP m cs with
    | .error (h, n) => .error (some h, n)
    | .ok M => match lackP M cs hs with
      | some e => .error e
      | none => match roundP m M cs with
        | some e => .error e
        | none => if 1000 < M.length then .error (none, 13) else .ok M
def jdV (st : Nat) : Except (Option Hs × Int) GM → GVal
  | .ok _ => .tuple [.map 2 st, .lit .nilIface]
  | .error e => .tuple [.lit (.map none), errV (some e)]
def jdO (st : Nat) : Except (Option Hs × Int) GM → List GObj
  | .ok M => [.map st (kvG encL M)]
  | .error _ => []
theorem gJoinedBy (m : GM) (hm : GOK m) (cs : List Cm) (hs : List Hs) (th : Tag) (gr : Int) (st s : Nat) (hc : cs.length ≤ 1000000) (hh : hs.length ≤ 1000000) (hp : ∀ c ∈ cs, c.2.length ≤ 1000000) :
    GCalls Try.prog 28 [.ptr 0 st 0 0, .agg (reqG cs hs th gr)] (gObj st s m) (fun g O' => ∃ s2, g = jdV s2 (joinedP gr m cs hs) ∧ O' = gObj st s m ++ jdO s2 (joinedP gr m cs hs)) := by
  have c1 := gSizes cs hs th gr hc hh hp
  cases e1 : sizesP gr hs.length cs with
  | some e =>
    have ej : joinedP gr m cs hs = .error e := by unfold joinedP; rw [e1]
    rw [e1] at c1
    obtain ⟨ty, v, ev⟩ := errV_some e
    rw [ev] at c1
    rw [ej]
    refine h28.calls mixS (by simp) ?_
    simp only [gstart, s28, List.cons_append, List.nil_append, List.length_cons, List.length_nil, Nat.reduceAdd, Nat.reduceSub, List.replicate_succ, List.replicate_zero]
    simp +contextual -implicitDefEqProofs (maxSteps := 2000000) (disch := omega) only [↓lenV, binV, ↓loadV, ↓fieldAddrV, ↓boxV, ↓ifaceV, GVal.cells, GVal.ofConst, ↓resV, resG, ↓reduceIte, Nat.reduceEqDiff, Nat.reduceAdd, Nat.reduceSub, Nat.reduceLeDiff, reduceCtorEq, aggV, Tag.cap, GVal.solid, Nat.reduceBEq, Nat.reduceMul, Nat.reduceLT, vcA, ↓vcB, vcC, fbFd, e28, vcD]
    refine c1.then ?_ (by rfl)
    simp +contextual -implicitDefEqProofs (maxSteps := 2000000) (disch := omega) only [↓lenV, binV, ↓loadV, ↓fieldAddrV, ↓boxV, ↓ifaceV, GVal.cells, GVal.ofConst, ↓resV, resG, ↓reduceIte, Nat.reduceEqDiff, Nat.reduceAdd, Nat.reduceSub, Nat.reduceLeDiff, reduceCtorEq, aggV, Tag.cap, GVal.solid, Nat.reduceBEq, Nat.reduceMul, Nat.reduceLT, vcA, ↓vcB, vcC, fbFd, e28, Try.underlying34, vcD]
    exact ⟨0, by rw [jdV, ev], rfl⟩
  | none =>
    obtain ⟨n1, n2, n3, n4⟩ := sizesP_none e1
    rw [e1] at c1
    have c2 := gJoined m cs .none st s hc hp (fun h l e => by have := hm.row _ (look_mem e); simp only at this; omega)
    cases e2 : joinP m cs with
    | error x =>
      obtain ⟨xh, xn⟩ := x
      have ej : joinedP gr m cs hs = .error (some xh, xn) := by unfold joinedP; rw [e1]; simp only [e2]
      rw [e2] at c2
      rw [ej]
      refine h28.calls mixS (by simp) ?_
      simp only [gstart, s28, List.cons_append, List.nil_append, List.length_cons, List.length_nil, Nat.reduceAdd, Nat.reduceSub, List.replicate_succ, List.replicate_zero]
      simp +contextual -implicitDefEqProofs (maxSteps := 2000000) (disch := omega) only [↓lenV, binV, ↓loadV, ↓fieldAddrV, ↓boxV, ↓ifaceV, GVal.cells, GVal.ofConst, ↓resV, resG, ↓reduceIte, Nat.reduceEqDiff, Nat.reduceAdd, Nat.reduceSub, Nat.reduceLeDiff, reduceCtorEq, aggV, Tag.cap, GVal.solid, Nat.reduceBEq, Nat.reduceMul, Nat.reduceLT, vcA, ↓vcB, vcC, fbFd, e28, vcD]
      refine c1.then ?_ (by rfl)
      simp +contextual -implicitDefEqProofs (maxSteps := 2000000) (disch := omega) only [↓lenV, binV, ↓loadV, ↓fieldAddrV, ↓boxV, ↓ifaceV, GVal.cells, GVal.ofConst, ↓resV, resG, ↓reduceIte, Nat.reduceEqDiff, Nat.reduceAdd, Nat.reduceSub, Nat.reduceLeDiff, reduceCtorEq, aggV, Tag.cap, GVal.solid, Nat.reduceBEq, Nat.reduceMul, Nat.reduceLT, vcA, ↓vcB, vcC, fbFd, e28, Try.underlying34, errV, vcD]
      refine c2.mono ?_
      rintro g O' ⟨_, rfl, rfl⟩
      simp +contextual -implicitDefEqProofs (maxSteps := 2000000) (disch := omega) only [↓lenV, binV, ↓loadV, ↓fieldAddrV, ↓boxV, ↓ifaceV, GVal.cells, GVal.ofConst, ↓resV, resG, ↓reduceIte, Nat.reduceEqDiff, Nat.reduceAdd, Nat.reduceSub, Nat.reduceLeDiff, reduceCtorEq, aggV, Tag.cap, GVal.solid, Nat.reduceBEq, Nat.reduceMul, Nat.reduceLT, vcA, ↓vcB, vcC, fbFd, e28, Try.underlying34, joinV, joinO, vcD]
      exact ⟨0, rfl, rfl⟩
    | ok M =>
      obtain ⟨m1, m2⟩ := joinP_ok e2 hm.row (fun c hc => (n4 c hc).1)
      have hM : GMOK M := ⟨by have := hm.len; omega, m2⟩
      have c3 := fun s2 => GCalls.keep1 (gLacking M cs hs th gr s2 hc hh hp) (O := gObj st s m ++ [.map s2 (kvG encL M)]) (args' := [.map 2 s2, .agg (reqG cs hs th gr)]) 2 rfl rfl rfl rfl
      rw [e2] at c2
      cases e3 : lackP M cs hs with
      | some e =>
        have ej : joinedP gr m cs hs = .error e := by unfold joinedP; rw [e1]; simp only [e2, e3]
        rw [e3] at c3
        obtain ⟨ty, v, ev⟩ := errV_some e
        rw [ev] at c3
        rw [ej]
        refine GCalls.dropTo ?_
        refine h28.calls mixS (by simp) ?_
        simp only [gstart, s28, List.cons_append, List.nil_append, List.length_cons, List.length_nil, Nat.reduceAdd, Nat.reduceSub, List.replicate_succ, List.replicate_zero]
        simp +contextual -implicitDefEqProofs (maxSteps := 2000000) (disch := omega) only [↓lenV, binV, ↓loadV, ↓fieldAddrV, ↓boxV, ↓ifaceV, GVal.cells, GVal.ofConst, ↓resV, resG, ↓reduceIte, Nat.reduceEqDiff, Nat.reduceAdd, Nat.reduceSub, Nat.reduceLeDiff, reduceCtorEq, aggV, Tag.cap, GVal.solid, Nat.reduceBEq, Nat.reduceMul, Nat.reduceLT, vcA, ↓vcB, vcC, fbFd, e28, vcD]
        refine c1.then ?_ (by rfl)
        simp +contextual -implicitDefEqProofs (maxSteps := 2000000) (disch := omega) only [↓lenV, binV, ↓loadV, ↓fieldAddrV, ↓boxV, ↓ifaceV, GVal.cells, GVal.ofConst, ↓resV, resG, ↓reduceIte, Nat.reduceEqDiff, Nat.reduceAdd, Nat.reduceSub, Nat.reduceLeDiff, reduceCtorEq, aggV, Tag.cap, GVal.solid, Nat.reduceBEq, Nat.reduceMul, Nat.reduceLT, vcA, ↓vcB, vcC, fbFd, e28, Try.underlying34, errV, vcD]
        refine c2.mono ?_
        rintro g O' ⟨s2, rfl, rfl⟩
        simp +contextual -implicitDefEqProofs (maxSteps := 2000000) (disch := omega) only [↓lenV, binV, ↓loadV, ↓fieldAddrV, ↓boxV, ↓ifaceV, GVal.cells, GVal.ofConst, ↓resV, resG, ↓reduceIte, Nat.reduceEqDiff, Nat.reduceAdd, Nat.reduceSub, Nat.reduceLeDiff, reduceCtorEq, aggV, Tag.cap, GVal.solid, Nat.reduceBEq, Nat.reduceMul, Nat.reduceLT, vcA, ↓vcB, vcC, fbFd, e28, Try.underlying34, joinV, joinO, vcD]
        refine (c3 s2).mono ?_
        rintro g O' ⟨rfl, rfl⟩
        simp +contextual -implicitDefEqProofs (maxSteps := 2000000) (disch := omega) only [↓lenV, binV, ↓loadV, ↓fieldAddrV, ↓boxV, ↓ifaceV, GVal.cells, GVal.ofConst, ↓resV, resG, ↓reduceIte, Nat.reduceEqDiff, Nat.reduceAdd, Nat.reduceSub, Nat.reduceLeDiff, reduceCtorEq, aggV, Tag.cap, GVal.solid, Nat.reduceBEq, Nat.reduceMul, Nat.reduceLT, vcA, ↓vcB, vcC, fbFd, e28, Try.underlying34, vcD]
        exact ⟨_, gObj st s m, _, rfl, leA_refl _, 0, by rw [jdV, ev], rfl⟩
      | none =>
        have c4 := fun s2 => gRound m M cs .none st s s2 hM hc (fun c hc => by have := (n4 c hc).1; omega)
        rw [e3] at c3
        cases e4 : roundP m M cs with
        | some e =>
          have ej : joinedP gr m cs hs = .error e := by unfold joinedP; rw [e1]; simp only [e2, e3, e4]
          rw [e4] at c4
          obtain ⟨ty, v, ev⟩ := errV_some e
          rw [ev] at c4
          rw [ej]
          refine GCalls.dropTo ?_
          refine h28.calls mixS (by simp) ?_
          simp only [gstart, s28, List.cons_append, List.nil_append, List.length_cons, List.length_nil, Nat.reduceAdd, Nat.reduceSub, List.replicate_succ, List.replicate_zero]
          simp +contextual -implicitDefEqProofs (maxSteps := 2000000) (disch := omega) only [↓lenV, binV, ↓loadV, ↓fieldAddrV, ↓boxV, ↓ifaceV, GVal.cells, GVal.ofConst, ↓resV, resG, ↓reduceIte, Nat.reduceEqDiff, Nat.reduceAdd, Nat.reduceSub, Nat.reduceLeDiff, reduceCtorEq, aggV, Tag.cap, GVal.solid, Nat.reduceBEq, Nat.reduceMul, Nat.reduceLT, vcA, ↓vcB, vcC, fbFd, e28, vcD]
          refine c1.then ?_ (by rfl)
          simp +contextual -implicitDefEqProofs (maxSteps := 2000000) (disch := omega) only [↓lenV, binV, ↓loadV, ↓fieldAddrV, ↓boxV, ↓ifaceV, GVal.cells, GVal.ofConst, ↓resV, resG, ↓reduceIte, Nat.reduceEqDiff, Nat.reduceAdd, Nat.reduceSub, Nat.reduceLeDiff, reduceCtorEq, aggV, Tag.cap, GVal.solid, Nat.reduceBEq, Nat.reduceMul, Nat.reduceLT, vcA, ↓vcB, vcC, fbFd, e28, Try.underlying34, errV, vcD]
          refine c2.mono ?_
          rintro g O' ⟨s2, rfl, rfl⟩
          simp +contextual -implicitDefEqProofs (maxSteps := 2000000) (disch := omega) only [↓lenV, binV, ↓loadV, ↓fieldAddrV, ↓boxV, ↓ifaceV, GVal.cells, GVal.ofConst, ↓resV, resG, ↓reduceIte, Nat.reduceEqDiff, Nat.reduceAdd, Nat.reduceSub, Nat.reduceLeDiff, reduceCtorEq, aggV, Tag.cap, GVal.solid, Nat.reduceBEq, Nat.reduceMul, Nat.reduceLT, vcA, ↓vcB, vcC, fbFd, e28, Try.underlying34, joinV, joinO, vcD]
          refine (c3 s2).mono ?_
          rintro g O' ⟨rfl, rfl⟩
          simp +contextual -implicitDefEqProofs (maxSteps := 2000000) (disch := omega) only [↓lenV, binV, ↓loadV, ↓fieldAddrV, ↓boxV, ↓ifaceV, GVal.cells, GVal.ofConst, ↓resV, resG, ↓reduceIte, Nat.reduceEqDiff, Nat.reduceAdd, Nat.reduceSub, Nat.reduceLeDiff, reduceCtorEq, aggV, Tag.cap, GVal.solid, Nat.reduceBEq, Nat.reduceMul, Nat.reduceLT, vcA, ↓vcB, vcC, fbFd, e28, Try.underlying34, errV, vcD]
          refine (c4 s2).mono ?_
          rintro g O' ⟨rfl, rfl⟩
          simp +contextual -implicitDefEqProofs (maxSteps := 2000000) (disch := omega) only [↓lenV, binV, ↓loadV, ↓fieldAddrV, ↓boxV, ↓ifaceV, GVal.cells, GVal.ofConst, ↓resV, resG, ↓reduceIte, Nat.reduceEqDiff, Nat.reduceAdd, Nat.reduceSub, Nat.reduceLeDiff, reduceCtorEq, aggV, Tag.cap, GVal.solid, Nat.reduceBEq, Nat.reduceMul, Nat.reduceLT, vcA, ↓vcB, vcC, fbFd, e28, Try.underlying34, vcD]
          exact ⟨_, gObj st s m, _, rfl, leA_refl _, 0, by rw [jdV, ev], rfl⟩
        | none =>
          rw [e4] at c4
          by_cases h5 : 1000 < M.length
          · have d5 : ((1000 : Int) < (M.length : Int)) = True := eq_true (by omega)
            have ej : joinedP gr m cs hs = .error (none, 13) := by unfold joinedP; rw [e1]; simp only [e2, e3, e4]; rw [if_pos h5]
            rw [ej]
            refine GCalls.dropTo ?_
            refine h28.calls mixS (by simp) ?_
            simp only [gstart, s28, List.cons_append, List.nil_append, List.length_cons, List.length_nil, Nat.reduceAdd, Nat.reduceSub, List.replicate_succ, List.replicate_zero]
            simp +contextual -implicitDefEqProofs (maxSteps := 2000000) (disch := omega) only [↓lenV, binV, ↓loadV, ↓fieldAddrV, ↓boxV, ↓ifaceV, GVal.cells, GVal.ofConst, ↓resV, resG, ↓reduceIte, Nat.reduceEqDiff, Nat.reduceAdd, Nat.reduceSub, Nat.reduceLeDiff, reduceCtorEq, aggV, Tag.cap, GVal.solid, Nat.reduceBEq, Nat.reduceMul, Nat.reduceLT, vcA, ↓vcB, vcC, fbFd, e28, vcD]
            refine c1.then ?_ (by rfl)
            simp +contextual -implicitDefEqProofs (maxSteps := 2000000) (disch := omega) only [↓lenV, binV, ↓loadV, ↓fieldAddrV, ↓boxV, ↓ifaceV, GVal.cells, GVal.ofConst, ↓resV, resG, ↓reduceIte, Nat.reduceEqDiff, Nat.reduceAdd, Nat.reduceSub, Nat.reduceLeDiff, reduceCtorEq, aggV, Tag.cap, GVal.solid, Nat.reduceBEq, Nat.reduceMul, Nat.reduceLT, vcA, ↓vcB, vcC, fbFd, e28, Try.underlying34, errV, vcD]
            refine c2.mono ?_
            rintro g O' ⟨s2, rfl, rfl⟩
            simp +contextual -implicitDefEqProofs (maxSteps := 2000000) (disch := omega) only [↓lenV, binV, ↓loadV, ↓fieldAddrV, ↓boxV, ↓ifaceV, GVal.cells, GVal.ofConst, ↓resV, resG, ↓reduceIte, Nat.reduceEqDiff, Nat.reduceAdd, Nat.reduceSub, Nat.reduceLeDiff, reduceCtorEq, aggV, Tag.cap, GVal.solid, Nat.reduceBEq, Nat.reduceMul, Nat.reduceLT, vcA, ↓vcB, vcC, fbFd, e28, Try.underlying34, joinV, joinO, vcD]
            refine (c3 s2).mono ?_
            rintro g O' ⟨rfl, rfl⟩
            simp +contextual -implicitDefEqProofs (maxSteps := 2000000) (disch := omega) only [↓lenV, binV, ↓loadV, ↓fieldAddrV, ↓boxV, ↓ifaceV, GVal.cells, GVal.ofConst, ↓resV, resG, ↓reduceIte, Nat.reduceEqDiff, Nat.reduceAdd, Nat.reduceSub, Nat.reduceLeDiff, reduceCtorEq, aggV, Tag.cap, GVal.solid, Nat.reduceBEq, Nat.reduceMul, Nat.reduceLT, vcA, ↓vcB, vcC, fbFd, e28, Try.underlying34, errV, vcD]
            refine (c4 s2).mono ?_
            rintro g O' ⟨rfl, rfl⟩
            simp +contextual -implicitDefEqProofs (maxSteps := 2000000) (disch := omega) only [↓lenV, binV, ↓loadV, ↓fieldAddrV, ↓boxV, ↓ifaceV, GVal.cells, GVal.ofConst, ↓resV, resG, ↓reduceIte, Nat.reduceEqDiff, Nat.reduceAdd, Nat.reduceSub, Nat.reduceLeDiff, reduceCtorEq, aggV, Tag.cap, GVal.solid, Nat.reduceBEq, Nat.reduceMul, Nat.reduceLT, vcA, ↓vcB, vcC, fbFd, e28, Try.underlying34, errV, kvG_len, d5, vcD]
            exact ⟨_, gObj st s m, _, rfl, leA_refl _, 0, rfl, rfl⟩
          · have d5 : ((1000 : Int) < (M.length : Int)) = False := eq_false (by omega)
            have ej : joinedP gr m cs hs = .ok M := by unfold joinedP; rw [e1]; simp only [e2, e3, e4]; rw [if_neg h5]
            rw [ej]
            refine h28.calls mixS (by simp) ?_
            simp only [gstart, s28, List.cons_append, List.nil_append, List.length_cons, List.length_nil, Nat.reduceAdd, Nat.reduceSub, List.replicate_succ, List.replicate_zero]
            simp +contextual -implicitDefEqProofs (maxSteps := 2000000) (disch := omega) only [↓lenV, binV, ↓loadV, ↓fieldAddrV, ↓boxV, ↓ifaceV, GVal.cells, GVal.ofConst, ↓resV, resG, ↓reduceIte, Nat.reduceEqDiff, Nat.reduceAdd, Nat.reduceSub, Nat.reduceLeDiff, reduceCtorEq, aggV, Tag.cap, GVal.solid, Nat.reduceBEq, Nat.reduceMul, Nat.reduceLT, vcA, ↓vcB, vcC, fbFd, e28, vcD]
            refine c1.then ?_ (by rfl)
            simp +contextual -implicitDefEqProofs (maxSteps := 2000000) (disch := omega) only [↓lenV, binV, ↓loadV, ↓fieldAddrV, ↓boxV, ↓ifaceV, GVal.cells, GVal.ofConst, ↓resV, resG, ↓reduceIte, Nat.reduceEqDiff, Nat.reduceAdd, Nat.reduceSub, Nat.reduceLeDiff, reduceCtorEq, aggV, Tag.cap, GVal.solid, Nat.reduceBEq, Nat.reduceMul, Nat.reduceLT, vcA, ↓vcB, vcC, fbFd, e28, Try.underlying34, errV, vcD]
            refine c2.mono ?_
            rintro g O' ⟨s2, rfl, rfl⟩
            simp +contextual -implicitDefEqProofs (maxSteps := 2000000) (disch := omega) only [↓lenV, binV, ↓loadV, ↓fieldAddrV, ↓boxV, ↓ifaceV, GVal.cells, GVal.ofConst, ↓resV, resG, ↓reduceIte, Nat.reduceEqDiff, Nat.reduceAdd, Nat.reduceSub, Nat.reduceLeDiff, reduceCtorEq, aggV, Tag.cap, GVal.solid, Nat.reduceBEq, Nat.reduceMul, Nat.reduceLT, vcA, ↓vcB, vcC, fbFd, e28, Try.underlying34, joinV, joinO, vcD]
            refine (c3 s2).mono ?_
            rintro g O' ⟨rfl, rfl⟩
            simp +contextual -implicitDefEqProofs (maxSteps := 2000000) (disch := omega) only [↓lenV, binV, ↓loadV, ↓fieldAddrV, ↓boxV, ↓ifaceV, GVal.cells, GVal.ofConst, ↓resV, resG, ↓reduceIte, Nat.reduceEqDiff, Nat.reduceAdd, Nat.reduceSub, Nat.reduceLeDiff, reduceCtorEq, aggV, Tag.cap, GVal.solid, Nat.reduceBEq, Nat.reduceMul, Nat.reduceLT, vcA, ↓vcB, vcC, fbFd, e28, Try.underlying34, errV, vcD]
            refine (c4 s2).mono ?_
            rintro g O' ⟨rfl, rfl⟩
            simp +contextual -implicitDefEqProofs (maxSteps := 2000000) (disch := omega) only [↓lenV, binV, ↓loadV, ↓fieldAddrV, ↓boxV, ↓ifaceV, GVal.cells, GVal.ofConst, ↓resV, resG, ↓reduceIte, Nat.reduceEqDiff, Nat.reduceAdd, Nat.reduceSub, Nat.reduceLeDiff, reduceCtorEq, aggV, Tag.cap, GVal.solid, Nat.reduceBEq, Nat.reduceMul, Nat.reduceLT, vcA, ↓vcB, vcC, fbFd, e28, Try.underlying34, errV, kvG_len, d5, vcD]
            exact ⟨s2, rfl, rfl⟩
noncomputable def addedM (m : GM) (cs : List Cm) : GM := match joinedP 2 m cs [] with
  | .ok M => M
  | .error _ => m
noncomputable def addedE (m : GM) (cs : List Cm) : Er := match joinedP 2 m cs [] with
  | .ok _ => none
  | .error e => some e
theorem gAddRaw (m M : GM) (cs : List Cm) (st s : Nat) (c1 : GCalls Try.prog 28 [.ptr 0 st 0 0, .agg (reqG cs [] .nil 2)] (gObj st s m) (fun g O' => ∃ s2, g = jdV s2 (.ok M) ∧ O' = gObj st s m ++ jdO s2 (.ok M))) :
    GCalls Try.prog 11 [.ptr 0 st 0 0, .slice (csG cs) .none] (gObj st s m) (fun g O' => ∃ s2, g = .lit .nilIface ∧ O' = [.row st 1 [[.map 2 s2]], .map s (kvG encL m), .map s2 (kvG encL M)]) := by
  refine h11.calls mixS (by simp) ?_
  simp only [gstart, s11, List.cons_append, List.nil_append, List.length_cons, List.length_nil, Nat.reduceAdd, Nat.reduceSub, List.replicate_succ, List.replicate_zero]
  simp +contextual -implicitDefEqProofs (maxSteps := 2000000) (disch := omega) only [binV, ↓storeV, ↓fieldAddrV, ↓buildV, ↓nilV, fillG, place, GVal.cells, GVal.ofConst, ↓resV, resG, ↓reduceIte, Nat.reduceEqDiff, Nat.reduceAdd, Nat.reduceSub, Nat.reduceLeDiff, reduceCtorEq, aggV, Tag.cap, GVal.solid, Nat.reduceBEq, Nat.reduceMul, Nat.reduceLT, vcA, ↓vcB, vcC, fbFd, e11, vcD]
  refine c1.mono ?_
  rintro g O' ⟨s2, rfl, rfl⟩
  simp +contextual -implicitDefEqProofs (maxSteps := 2000000) (disch := omega) only [binV, ↓storeV, ↓fieldAddrV, ↓buildV, ↓nilV, fillG, place, GVal.cells, GVal.ofConst, ↓resV, resG, ↓reduceIte, Nat.reduceEqDiff, Nat.reduceAdd, Nat.reduceSub, Nat.reduceLeDiff, reduceCtorEq, aggV, Tag.cap, GVal.solid, Nat.reduceBEq, Nat.reduceMul, Nat.reduceLT, vcA, ↓vcB, vcC, fbFd, e11, Try.underlying34, jdV, jdO, vcD]
  exact ⟨_, rfl⟩
theorem gAddOk (m M : GM) (cs : List Cm) (st s : Nat) (c1 : GCalls Try.prog 28 [.ptr 0 st 0 0, .agg (reqG cs [] .nil 2)] (gObj st s m) (fun g O' => ∃ s2, g = jdV s2 (.ok M) ∧ O' = gObj st s m ++ jdO s2 (.ok M))) :
    GCalls Try.prog 11 [.ptr 0 st 0 0, .slice (csG cs) .none] (gObj st s m) (fun g O' => ∃ x' y', O' = [x', y'] ∧ (g = errV none ∧ ∃ s', x' = .row st 1 [[.map 1 s']] ∧ y' = .map s' (kvG encL M))) := by
  refine GCalls.frame (gAddRaw m M cs st s c1) [0, 1] ⟨⟨_, rfl, .refl _⟩, ⟨_, rfl, .refl _⟩, trivial⟩ (by simp) (GLes.refl _) rfl rfl ?_
  rintro g O' ⟨s2, rfl, rfl⟩
  exact ⟨_, [.row st 1 [[.map 1 s2]], .map s2 (kvG encL M)], [(false, 0), (false, 2)], ⟨_, _, rfl, rfl, s2, rfl, rfl⟩, GLe.refl _, ⟨⟨_, rfl, OLe.row ⟨⟨GLe.map _ _ _, trivial⟩, trivial⟩⟩, ⟨_, rfl, .refl _⟩, trivial⟩, by simp, rfl⟩
theorem gAdd (m : GM) (hm : GOK m) (cs : List Cm) (st s : Nat) (hc : cs.length ≤ 1000000) (hp : ∀ c ∈ cs, c.2.length ≤ 1000000) :
    GCalls Try.prog 11 [.ptr 0 st 0 0, .slice (csG cs) .none] (gObj st s m) (fun g O' => ∃ x' y', O' = [x', y'] ∧ (g = errV (addedE m cs) ∧ ∃ s', x' = .row st 1 [[.map 1 s']] ∧ y' = .map s' (kvG encL (addedM m cs)))) := by
  have c1 := gJoinedBy m hm cs [] .nil 2 st s hc (by simp) hp
  cases e1 : joinedP 2 m cs [] with
  | error e =>
    have ea : addedE m cs = some e := by unfold addedE; rw [e1]
    have em : addedM m cs = m := by unfold addedM; rw [e1]
    rw [e1] at c1
    rw [ea, em]
    obtain ⟨ty, v, ev⟩ := errV_some e
    refine h11.calls mixS (by simp) ?_
    simp only [gstart, s11, List.cons_append, List.nil_append, List.length_cons, List.length_nil, Nat.reduceAdd, Nat.reduceSub, List.replicate_succ, List.replicate_zero]
    simp +contextual -implicitDefEqProofs (maxSteps := 2000000) (disch := omega) only [binV, ↓storeV, ↓fieldAddrV, ↓buildV, ↓nilV, fillG, place, GVal.cells, GVal.ofConst, ↓resV, resG, ↓reduceIte, Nat.reduceEqDiff, Nat.reduceAdd, Nat.reduceSub, Nat.reduceLeDiff, reduceCtorEq, aggV, Tag.cap, GVal.solid, Nat.reduceBEq, Nat.reduceMul, Nat.reduceLT, vcA, ↓vcB, vcC, fbFd, e11, vcD]
    refine c1.mono ?_
    rintro g O' ⟨s2, rfl, rfl⟩
    simp +contextual -implicitDefEqProofs (maxSteps := 2000000) (disch := omega) only [binV, ↓storeV, ↓fieldAddrV, ↓buildV, ↓nilV, fillG, place, GVal.cells, GVal.ofConst, ↓resV, resG, ↓reduceIte, Nat.reduceEqDiff, Nat.reduceAdd, Nat.reduceSub, Nat.reduceLeDiff, reduceCtorEq, aggV, Tag.cap, GVal.solid, Nat.reduceBEq, Nat.reduceMul, Nat.reduceLT, vcA, ↓vcB, vcC, fbFd, e11, Try.underlying34, jdV, jdO, ev, vcD]
    exact ⟨_, _, rfl, s, rfl, rfl⟩
  | ok M =>
    have ea : addedE m cs = none := by unfold addedE; rw [e1]
    have em : addedM m cs = M := by unfold addedM; rw [e1]
    rw [e1] at c1
    rw [ea, em]
    exact gAddOk m M cs st s c1
theorem gNewRaw : GCalls Try.prog 9 [] [] (fun g O' => ∃ st s, g = .ptr 1 st 0 0 ∧ O' = [.map s (kvG encL []), .row st 1 [[.map 0 s]]]) := by
  refine h9.calls mixS (by simp) ?_
  simp only [gstart, s9, List.cons_append, List.nil_append, List.length_cons, List.length_nil, Nat.reduceAdd, Nat.reduceSub, List.replicate_succ, List.replicate_zero]
  simp +contextual -implicitDefEqProofs (maxSteps := 2000000) (disch := omega) only [↓boxV, ↓buildV, fillG, place, GVal.cells, GVal.ofConst, ↓resV, resG, ↓reduceIte, Nat.reduceEqDiff, Nat.reduceAdd, Nat.reduceSub, Nat.reduceLeDiff, reduceCtorEq, ↓makeMapV, Tag.cap, GVal.solid, Nat.reduceBEq, Nat.reduceMul, Nat.reduceLT, vcA, ↓vcB, vcC, fbFd, e9, vcD]
  exact fun s => ⟨rfl, fun st => ⟨_, _, rfl, rfl⟩⟩
theorem gNew : GCalls Try.prog 9 [] [] (fun g O' => ∃ st s, g = .ptr 0 st 0 0 ∧ O' = gObj st s []) := by
  refine GCalls.frame gNewRaw [] trivial (by simp) trivial rfl rfl ?_
  rintro g O' ⟨st, s, rfl, rfl⟩
  exact ⟨_, gObj st s [], [(false, 1), (false, 0)], ⟨st, s, rfl, rfl⟩, GLe.ptr _ _ _ _ _, ⟨⟨_, rfl, OLe.row ⟨⟨GLe.map _ _ _, trivial⟩, trivial⟩⟩, ⟨_, rfl, .refl _⟩, trivial⟩, by simp, rfl⟩
end Gv.Try
/- Contracts: graph's there, Ancestors. -/
set_option linter.unusedVariables false
set_option linter.unusedSimpArgs false
set_option maxRecDepth 20000
set_option maxHeartbeats 4000000
namespace Gv.Try
open Go Gv Go.Proofs
def meltTo (n : Nat) (K : GVal → List GObj → Prop) (g : GVal) (O' : List GObj) : Prop := (∃ g', leA g g' ∧ K g' O') ∨ ∃ t sz xs O1, g = .own O1.length t 0 xs.length ∧ O' = O1 ++ [.row t sz xs] ∧ frzLL (Gv.frz [.row t sz xs] n) xs = some xs ∧ K (.slice xs .none) O1
theorem GCalls.meltOr {P : Program} {f : FuncId} {args : List GVal} {O : List GObj} {K : GVal → List GObj → Prop} (n : Nat)
    (h : GCalls P f args O (meltTo n K)) : GCalls P f args O K := by
  refine ⟨h.1, fun E w vs hs ha => (h.2 E w vs hs ha).mono ?_⟩
  rintro e w' ⟨v, E', O', g, h1, h2, h3, h4, (⟨g', hl, hk⟩ | ⟨t, sz, xs, O1, rfl, rfl, hf, hk⟩)⟩
  · exact ⟨v, E', O', g', h1, h2, h3, hl.sound h4, hk⟩
  · obtain ⟨q0, q1, q2⟩ := h2.melt
    have h5 : VR E' v (.own 0 t 0 xs.length) := by
      cases h4 with
      | own a len cap o st i l hl hcap ha => exact .own a _ cap 0 t 0 l hl hcap ha
    exact ⟨v, _, O1, _, h1, q1, h3.trans q2, frz_sound q0 (n + 1) v _ _ h5 (frz_own rfl rfl hf), hk⟩
theorem gIndexNil {F : FuncId} {caps : List GVal} (X : List GObj) : GCalls Try.prog 70 [.slice [] .nil, .func (.func F) [] caps] X (fun g O' => g = .int .i64 (-1) ∧ O' = X) := by
  refine h70.calls mixS (by simp) ?_
  simp only [gstart, s70, List.cons_append, List.nil_append, List.length_cons, List.length_nil, Nat.reduceAdd, Nat.reduceSub, List.replicate_succ, List.replicate_zero]
  simp +contextual -implicitDefEqProofs (maxSteps := 2000000) (disch := omega) only [↓lenV, binV, ↓loadV, ↓indexAddrV, GVal.cells, GVal.ofConst, ↓resV, resG, ↓reduceIte, Nat.reduceEqDiff, Nat.reduceAdd, Nat.reduceSub, Nat.reduceLeDiff, reduceCtorEq, Tag.cap, GVal.solid, Nat.reduceBEq, Nat.reduceMul, Nat.reduceLT, vcA, ↓vcB, vcC, fbFd, e70, vcD]
  refine vcSLoop_by (ι := Unit) (fun _ => ⟨[.any, .any, .any, .any, .int .i64 0, .any, .any, .int .i64 0, .int .i64 0] ++ List.replicate 10 .any, X⟩) (fun _ => 0) ?_ ?_
  · exact Into.first () ⟨[], by simp⟩ (by simp [WL, leG_self, leG_any])
  · rintro ⟨⟩
    simp +contextual -implicitDefEqProofs (maxSteps := 2000000) (disch := omega) only [↓lenV, binV, ↓loadV, ↓indexAddrV, GVal.cells, GVal.ofConst, ↓resV, resG, ↓reduceIte, Nat.reduceEqDiff, Nat.reduceAdd, Nat.reduceSub, Nat.reduceLeDiff, reduceCtorEq, Tag.cap, GVal.solid, Nat.reduceBEq, Nat.reduceMul, Nat.reduceLT, vcA, ↓vcB, vcC, fbFd, e70, vcD]
    exact fun h => absurd h (Int.lt_irrefl 0)
theorem gDeleteNil {F : FuncId} {caps : List GVal} (X : List GObj) : GCalls Try.prog 57 [.slice [] .nil, .func (.func F) [] caps] X (fun g O' => g = .slice [] .nil ∧ O' = X) := by
  have cI := gIndexNil (F := F) (caps := caps) X
  refine h57.calls mixS (by simp) ?_
  simp only [gstart, s57, List.cons_append, List.nil_append, List.length_cons, List.length_nil, Nat.reduceAdd, Nat.reduceSub, List.replicate_succ, List.replicate_zero]
  simp +contextual -implicitDefEqProofs (maxSteps := 2000000) (disch := omega) only [↓op_clear, ↓lenV, binV, ↓unV, optV, ↓loadV, ↓storeV, ↓indexAddrV, ↓allocV, ↓sliceV, bound, cutTag, hiTag, GVal.cells, GVal.ofConst, ↓resV, resG, ↓reduceIte, Nat.reduceEqDiff, Nat.reduceAdd, Nat.reduceSub, Nat.reduceLeDiff, reduceCtorEq, ↓clearV, aggV, Tag.cap, GVal.solid, Nat.reduceBEq, Nat.reduceMul, Nat.reduceLT, vcA, ↓vcB, vcC, fbFd, e57, vcD]
  refine cI.mono ?_
  rintro g O' ⟨rfl, rfl⟩
  simp +contextual -implicitDefEqProofs (maxSteps := 2000000) (disch := omega) only [↓op_clear, ↓lenV, binV, ↓unV, optV, ↓loadV, ↓storeV, ↓indexAddrV, ↓allocV, ↓sliceV, bound, cutTag, hiTag, GVal.cells, GVal.ofConst, ↓resV, resG, ↓reduceIte, Nat.reduceEqDiff, Nat.reduceAdd, Nat.reduceSub, Nat.reduceLeDiff, reduceCtorEq, ↓clearV, aggV, Tag.cap, GVal.solid, Nat.reduceBEq, Nat.reduceMul, Nat.reduceLT, vcA, ↓vcB, vcC, fbFd, e57, vcD]
theorem gThere (m : GM) (st s : Nat) (l : List Hs) (t : Tag) (ht : t = .nil → l = []) (hl : l.length ≤ 1000000) : GCalls Try.prog 42 [.ptr 0 st 0 0, .slice (hsG l) t] (gObj st s m) (fun g O' => g = .slice (hsG (l.filter fun h => (look m h).isSome)) .none ∧ O' = gObj st s m) := by
  have cD := fun v => gDeleteF (p := fun h => !(look m h).isSome) (fun h => gThere1 m h st s) rfl l v hl
  simp only [Bool.not_not] at cD
  have cC := GCalls.newUp (hClone l t (by omega) ht) (O := gObj st s m) rfl (by rintro g O' (⟨_, rfl, rfl⟩ | ⟨st, rfl, rfl⟩) <;> rfl)
  refine GCalls.meltOr 2 ?_
  refine h42.calls mixS (by simp) ?_
  simp only [gstart, s42, List.cons_append, List.nil_append, List.length_cons, List.length_nil, Nat.reduceAdd, Nat.reduceSub, List.replicate_succ, List.replicate_zero]
  simp +contextual -implicitDefEqProofs (maxSteps := 2000000) (disch := omega) only [optV, ↓boxV, ↓sliceV, bound, cutTag, hiTag, GVal.cells, GVal.ofConst, ↓resV, resG, ↓reduceIte, Nat.reduceEqDiff, Nat.reduceAdd, Nat.reduceSub, Nat.reduceLeDiff, reduceCtorEq, Tag.cap, GVal.solid, Nat.reduceBEq, Nat.reduceMul, Nat.reduceLT, vcA, ↓vcB, vcC, fbFd, e42, hsG_len, vcD]
  refine cC.mono ?_
  rintro g O' ⟨g0, O1, (⟨rfl, rfl, rfl⟩ | ⟨v, rfl, rfl⟩), rfl, rfl⟩
  · simp +contextual -implicitDefEqProofs (maxSteps := 2000000) (disch := omega) only [optV, ↓boxV, ↓sliceV, bound, cutTag, hiTag, GVal.cells, GVal.ofConst, ↓resV, resG, ↓reduceIte, Nat.reduceEqDiff, Nat.reduceAdd, Nat.reduceSub, Nat.reduceLeDiff, reduceCtorEq, Tag.cap, GVal.solid, Nat.reduceBEq, Nat.reduceMul, Nat.reduceLT, vcA, ↓vcB, vcC, fbFd, e42, vcD]
    refine (gDeleteNil _).mono ?_
    rintro g O' ⟨rfl, rfl⟩
    simp +contextual -implicitDefEqProofs (maxSteps := 2000000) (disch := omega) only [optV, ↓boxV, ↓sliceV, bound, cutTag, hiTag, GVal.cells, GVal.ofConst, ↓resV, resG, ↓reduceIte, Nat.reduceEqDiff, Nat.reduceAdd, Nat.reduceSub, Nat.reduceLeDiff, reduceCtorEq, Tag.cap, GVal.solid, Nat.reduceBEq, Nat.reduceMul, Nat.reduceLT, vcA, ↓vcB, vcC, fbFd, e42, vcD]
    exact .inl ⟨.slice (hsG (List.filter (fun h => (look m h).isSome) [])) .none, by rw [leA_slice]; rfl, rfl, rfl⟩
  · simp +contextual -implicitDefEqProofs (maxSteps := 2000000) (disch := omega) only [optV, ↓boxV, ↓sliceV, bound, cutTag, hiTag, GVal.cells, GVal.ofConst, ↓resV, resG, ↓reduceIte, Nat.reduceEqDiff, Nat.reduceAdd, Nat.reduceSub, Nat.reduceLeDiff, reduceCtorEq, Tag.cap, GVal.solid, Nat.reduceBEq, Nat.reduceMul, Nat.reduceLT, vcA, ↓vcB, vcC, fbFd, e42, vcD]
    refine (cD v).mono ?_
    rintro g O' ⟨rfl, rfl⟩
    simp +contextual -implicitDefEqProofs (maxSteps := 2000000) (disch := omega) only [optV, ↓boxV, ↓sliceV, bound, cutTag, hiTag, GVal.cells, GVal.ofConst, ↓resV, resG, ↓reduceIte, Nat.reduceEqDiff, Nat.reduceAdd, Nat.reduceSub, Nat.reduceLeDiff, reduceCtorEq, Tag.cap, GVal.solid, Nat.reduceBEq, Nat.reduceMul, Nat.reduceLT, vcA, ↓vcB, vcC, fbFd, e42, vcD]
    exact .inr ⟨v, 32, _, gObj st s m, by rw [hsG_len]; rfl, rfl, frz_hs _ 1 _, rfl, rfl⟩
end Gv.Try
/- Contracts: graph's Ancestors. -/
set_option linter.unusedVariables false
set_option linter.unusedSimpArgs false
set_option maxRecDepth 20000
set_option maxHeartbeats 4000000
namespace Gv.Try
open Go Gv Go.Proofs
theorem gAnc1 (m : GM) (h : Hs) (st s : Nat) (l : List Hs) (el : look m h = some l) : GCalls Try.prog 43 [.agg (bytesG h.1), .ref [.ptr 0 st 0 0]] (gObj st s m) (fun g O' => g = .slice (hsG l) .none ∧ O' = gObj st s m) := by
  obtain ⟨i, hi, hv, _⟩ := look_idx encL m h l el
  refine h43.calls mixS (by simp) ?_
  simp only [gstart, s43, List.cons_append, List.nil_append, List.length_cons, List.length_nil, Nat.reduceAdd, Nat.reduceSub, List.replicate_succ, List.replicate_zero]
  simp +contextual -implicitDefEqProofs (maxSteps := 2000000) (disch := omega) only [drawC, drawK, keepT, optV, ↓loadV, ↓fieldAddrV, ↓boxV, ↓sliceV, ↓nilV, bound, cutTag, hiTag, GVal.cells, GVal.ofConst, ↓resV, resG, ↓reduceIte, Nat.reduceEqDiff, Nat.reduceAdd, Nat.reduceSub, Nat.reduceLeDiff, reduceCtorEq, ↓lookupV, keyOk, keyCells, pairG, Tag.cap, GVal.solid, Nat.reduceBEq, Nat.reduceMul, Nat.reduceLT, vcA, ↓vcB, vcC, fbFd, e43, kfind_h, hi, hv, vcD, v32]
theorem gAnc0 (m : GM) (h : Hs) (st s : Nat) (el : look m h = none) : GCalls Try.prog 43 [.agg (bytesG h.1), .ref [.ptr 0 st 0 0]] (gObj st s m) (fun g O' => g = .slice [] .nil ∧ O' = gObj st s m) := by
  obtain ⟨hi, _⟩ := look_none encL m h el
  refine h43.calls mixS (by simp) ?_
  simp only [gstart, s43, List.cons_append, List.nil_append, List.length_cons, List.length_nil, Nat.reduceAdd, Nat.reduceSub, List.replicate_succ, List.replicate_zero]
  simp +contextual -implicitDefEqProofs (maxSteps := 2000000) (disch := omega) only [drawC, drawK, keepT, optV, ↓loadV, ↓fieldAddrV, ↓boxV, ↓sliceV, ↓nilV, bound, cutTag, hiTag, GVal.cells, GVal.ofConst, ↓resV, resG, ↓reduceIte, Nat.reduceEqDiff, Nat.reduceAdd, Nat.reduceSub, Nat.reduceLeDiff, reduceCtorEq, ↓lookupV, keyOk, keyCells, pairG, Tag.cap, GVal.solid, Nat.reduceBEq, Nat.reduceMul, Nat.reduceLT, vcA, ↓vcB, vcC, fbFd, e43, kfind_h, hi, vcD, v32]
theorem gAncN (m : GM) (h : Hs) (st s : Nat) : GCalls Try.prog 43 [.agg (bytesG h.1), .ref [.ptr 0 st 0 0]] (gObj st s m) (fun g O' => g = .slice (hsG (parsM m h)) .none ∧ O' = gObj st s m) := by
  cases el : look m h with
  | some l => rw [parsM_some el]; exact gAnc1 m h st s l el
  | none =>
    rw [parsM_none el]
    refine GCalls.into ((gAnc0 m h st s el).mono ?_)
    rintro g O' ⟨rfl, rfl⟩
    exact GInto.weak (O := gObj st s m) (X := []) (by rw [leG_none]; rfl) (.here ⟨rfl, rfl⟩)
def inM (m : GM) (l : List Hs) : List Hs := l.filter fun h => (look m h).isSome
noncomputable def ancL (m : GM) (l : List Hs) : List Hs := by
  classical exact sortR ((l ++ hashesM m).filter fun x => decide (Reach (parsM m) (inM m l) x))
theorem ancL_ss (m : GM) (l : List Hs) : SS (ancL m l) := sortR_ss _
theorem ancL_mem (m : GM) (l : List Hs) (x : Hs) : x ∈ ancL m l ↔ Reach (parsM m) (inM m l) x := by
  classical
  unfold ancL
  rw [sortR_mem, List.mem_filter, decide_eq_true_eq]
  refine ⟨fun h => h.2, fun h => ⟨?_, h⟩⟩
  cases h with
  | base x hx => exact List.mem_append_left _ (List.mem_filter.1 hx).1
  | step x y _ hy => exact List.mem_append_right _ (pars_in hy)
theorem gAncestors (m : GM) (hm : GMOK m) (st s : Nat) (l : List Hs) (t : Tag) (ht : t = .nil → l = []) (hl : l.length ≤ 10000) : GCalls Try.prog 25 [.ptr 0 st 0 0, .slice (hsG l) t] (gObj st s m) (fun g O' => g = .slice (hsG (ancL m l)) .none ∧ O' = gObj st s m) := by
  have hfl : (inM m l).length ≤ l.length := List.length_filter_le _ _
  have cT := gThere m st s l t ht (by omega)
  have cR := gReached (caps := [.ref [.ptr 0 st 0 0]]) (parsM m) (fun h => gAncN m h st s) rfl (inM m l) .none (by simp) (inM m l ++ hashesM m) (fun x hx => List.mem_append_left _ hx) (fun x _ y hy => List.mem_append_right _ (pars_in hy)) 4 (fun x _ => hm.pars x) (by have := hm.hashes; rw [List.length_append]; omega) (by omega) (by omega)
  refine GCalls.dropTo ?_
  refine h25.calls mixS (by simp) ?_
  simp only [gstart, s25, List.cons_append, List.nil_append, List.length_cons, List.length_nil, Nat.reduceAdd, Nat.reduceSub, List.replicate_succ, List.replicate_zero]
  simp +contextual -implicitDefEqProofs (maxSteps := 2000000) (disch := omega) only [optV, ↓loadV, ↓boxV, ↓sliceV, bound, cutTag, hiTag, GVal.cells, GVal.ofConst, ↓resV, resG, ↓reduceIte, Nat.reduceEqDiff, Nat.reduceAdd, Nat.reduceSub, Nat.reduceLeDiff, reduceCtorEq, Tag.cap, GVal.solid, Nat.reduceBEq, Nat.reduceMul, Nat.reduceLT, vcA, ↓vcB, vcC, fbFd, e25, vcD]
  refine cT.mono ?_
  rintro g O' ⟨rfl, rfl⟩
  simp +contextual -implicitDefEqProofs (maxSteps := 2000000) (disch := omega) only [optV, ↓loadV, ↓boxV, ↓sliceV, bound, cutTag, hiTag, GVal.cells, GVal.ofConst, ↓resV, resG, ↓reduceIte, Nat.reduceEqDiff, Nat.reduceAdd, Nat.reduceSub, Nat.reduceLeDiff, reduceCtorEq, Tag.cap, GVal.solid, Nat.reduceBEq, Nat.reduceMul, Nat.reduceLT, vcA, ↓vcB, vcC, fbFd, e25, vcD]
  refine cR.mono ?_
  rintro g O' ⟨s2, S, rfl, rfl, hS, hR, hSl⟩
  have hh := hm.hashes
  rw [List.length_append] at hSl
  have eA : sortR ((setM S).map (·.1)) = ancL m l := ss_eq (sortR_ss _) (ancL_ss m l) fun z => by
    rw [sortR_mem, ancL_mem, ← hR z]; simp [setM]
  have cS := gSorted encB (setM S) (by simp [setM]; omega) s2
  rw [eA] at cS
  have cS2 : GCalls Try.prog 40 [.map 0 s2] [.map s2 (kvG encB (setM S))] (fun g O' => ∃ x', O' = [x'] ∧ (g = .slice (hsG (ancL m l)) .none ∧ x' = .map s2 (kvG encB (setM S)))) := cS.mono (by rintro g O' ⟨rfl, rfl⟩; exact ⟨_, rfl, rfl, rfl⟩)
  have cS3 := GCalls.keep1 (args' := [.map 2 s2]) cS2 (O := gObj st s m ++ [.map s2 (kvG encB (setM S))]) 2 rfl rfl rfl rfl
  simp +contextual -implicitDefEqProofs (maxSteps := 2000000) (disch := omega) only [optV, ↓loadV, ↓boxV, ↓sliceV, bound, cutTag, hiTag, GVal.cells, GVal.ofConst, ↓resV, resG, ↓reduceIte, Nat.reduceEqDiff, Nat.reduceAdd, Nat.reduceSub, Nat.reduceLeDiff, reduceCtorEq, Tag.cap, GVal.solid, Nat.reduceBEq, Nat.reduceMul, Nat.reduceLT, vcA, ↓vcB, vcC, fbFd, e25, vcD]
  refine cS3.mono ?_
  rintro g O' ⟨rfl, rfl⟩
  simp +contextual -implicitDefEqProofs (maxSteps := 2000000) (disch := omega) only [optV, ↓loadV, ↓boxV, ↓sliceV, bound, cutTag, hiTag, GVal.cells, GVal.ofConst, ↓resV, resG, ↓reduceIte, Nat.reduceEqDiff, Nat.reduceAdd, Nat.reduceSub, Nat.reduceLeDiff, reduceCtorEq, Tag.cap, GVal.solid, Nat.reduceBEq, Nat.reduceMul, Nat.reduceLT, vcA, ↓vcB, vcC, fbFd, e25, vcD]
  exact ⟨_, gObj st s m, [.map s2 (kvG encB (setM S))], rfl, leA_refl _, rfl, rfl⟩
end Gv.Try
/- Contracts: the reference's graph: find, Has, Parents. -/
set_option linter.unusedVariables false
set_option linter.unusedSimpArgs false
set_option maxRecDepth 20000
set_option maxHeartbeats 4000000
namespace Gv.Try
open Go Gv Go.Proofs
abbrev rObj (rt : Nat) (L : GM) : List GObj := [.row rt 1 [[.slice (csG L) .none]]]
abbrev SSC (L : GM) : Prop := L.Pairwise fun a b => LT a.1 b.1
def findO (L : GM) (h : Hs) : Option Nat := L.findIdx? fun c => decide (c.1 = h)
def findZ (L : GM) (h : Hs) : Int := match findO L h with
  | some i => (i : Int)
  | none => -1
theorem find_look : ∀ (L : GM) (h : Hs), (∀ i, findO L h = some i → i < L.length ∧ look L h = some (L.getD i default).2 ∧ (L.getD i default).1 = h) ∧ (findO L h = none → look L h = none)
  | [], h => ⟨fun i e => by simp [findO] at e, fun _ => rfl⟩
  | c :: r, h => by
    unfold findO
    rw [List.findIdx?_cons, look]
    by_cases e : c.1 = h
    · rw [decide_eq_true e, if_pos e.symm]
      exact ⟨fun i hi => by simp at hi; subst hi; exact ⟨by simp, by simp, by simpa using e⟩, fun q => by simp at q⟩
    · rw [decide_eq_false e, if_neg (c := h = c.1) (fun q => e q.symm)]
      obtain ⟨h1, h2⟩ := find_look r h
      refine ⟨fun i hi => ?_, fun q => h2 (by unfold findO; simpa using q)⟩
      cases hr : findO r h with
      | none => unfold findO at hr; rw [hr] at hi; simp at hi
      | some j =>
        have hr' := hr
        unfold findO at hr'
        rw [hr'] at hi
        simp at hi
        subst hi
        obtain ⟨a, b, c⟩ := h1 j hr
        exact ⟨by simp; exact a, by simpa using b, by simpa using c⟩
theorem ssc_lt {L : GM} (h : SSC L) {i j : Nat} (h1 : i < j) (h2 : j < L.length) : LT (L.getD i default).1 (L.getD j default).1 := by
  have := (List.pairwise_iff_getElem.1 h) i j (by omega) h2 h1
  have e1 : L.getD i default = L[i] := by simp [List.getD, show i < L.length by omega]
  have e2 : L.getD j default = L[j] := by simp [List.getD, h2]
  rw [e1, e2]; exact this
theorem find_end {L : GM} (hL : SSC L) {h : Hs} {k : Nat} (hk : k ≤ L.length) (h1 : ∀ i, i < k → LT (L.getD i default).1 h) (h2 : ∀ i, k ≤ i → i < L.length → ¬ LT (L.getD i default).1 h) :
    (k < L.length → (L.getD k default).1 = h → findO L h = some k) ∧ ((k < L.length → (L.getD k default).1 ≠ h) → findO L h = none) := by
  have eg : ∀ i (q : i < L.length), L[i] = L.getD i default := fun i q => by simp [List.getD, q]
  refine ⟨fun a e => ?_, fun a => ?_⟩
  · unfold findO
    rw [List.findIdx?_eq_some_iff_getElem]
    refine ⟨a, by rw [eg k a]; exact decide_eq_true e, fun j hj => ?_⟩
    rw [eg j (by omega)]
    have := h1 j hj
    simp only [decide_eq_true_eq]
    intro q
    rw [q] at this
    exact LT.irrefl _ this
  · unfold findO
    rw [List.findIdx?_eq_none_iff]
    intro c hc
    obtain ⟨j, hj, rfl⟩ := List.getElem_of_mem hc
    rw [eg j hj]
    simp only [decide_eq_false_iff_not]
    intro q
    rcases Nat.lt_trichotomy j k with q1 | q1 | q1
    · have := h1 j q1
      rw [q] at this
      exact LT.irrefl _ this
    · subst q1; exact a hj q
    · have hk2 : k < L.length := by omega
      have n1 := a hk2
      have n2 := h2 k (Nat.le_refl _) hk2
      have l1 : LT h (L.getD k default).1 := LT.total (by cases e : ltB (L.getD k default).1.1 h.1 with | true => exact absurd e n2 | false => rfl) n1
      have l2 := ssc_lt hL q1 hj
      rw [q] at l2
      exact LT.irrefl _ (l1.trans l2)
theorem has_find (L : GM) (h : Hs) : decide (0 ≤ findZ L h) = (look L h).isSome := by
  obtain ⟨h1, h2⟩ := find_look L h
  unfold findZ
  cases e : findO L h with
  | none => rw [h2 e]; rfl
  | some i => rw [(h1 i e).2.1]; simp
theorem rFind (L : GM) (hL : SSC L) (hl : L.length ≤ 1000000) (h : Hs) (rt : Nat) : GCalls Try.prog 37 [.ptr 0 rt 0 0, .agg (bytesG h.1)] (rObj rt L) (fun g O' => g = .int .i64 (findZ L h) ∧ O' = rObj rt L) := by
  refine h37.calls mixS (by simp) ?_
  simp only [gstart, s37, List.cons_append, List.nil_append, List.length_cons, List.length_nil, Nat.reduceAdd, Nat.reduceSub, List.replicate_succ, List.replicate_zero]
  simp +contextual -implicitDefEqProofs (maxSteps := 2000000) (disch := omega) only [drawC, drawK, keepT, ↓lenV, binV, ↓loadV, ↓fieldAddrV, ↓indexAddrV, ↓boxV, ↓nilV, GVal.cells, GVal.ofConst, ↓resV, resG, ↓reduceIte, Nat.reduceEqDiff, Nat.reduceAdd, Nat.reduceSub, Nat.reduceLeDiff, reduceCtorEq, aggV, Tag.cap, GVal.solid, Nat.reduceBEq, Nat.reduceMul, Nat.reduceLT, vcA, ↓vcB, vcC, fbFd, e37, csG_len, vcD, v32]
  refine vcSLoop_by (ι := { p : Nat × Nat // p.1 ≤ p.2 ∧ p.2 ≤ L.length ∧ (∀ i, i < p.1 → LT (L.getD i default).1 h) ∧ (∀ i, p.2 ≤ i → i < L.length → ¬ LT (L.getD i default).1 h) }) (fun p => ⟨[.ptr 0 rt 0 0, .any, .any, .ref (bytesG h.1), .any, .int .i64 (p.1.1 : Nat), .int .i64 (p.1.2 : Nat)] ++ List.replicate 46 .any, rObj rt L⟩) (fun p => p.1.2 - p.1.1) ?_ ?_
  · exact Into.first ⟨(0, L.length), Nat.zero_le _, Nat.le_refl _, fun i hi => by omega, fun i h1 h2 => by omega⟩ ⟨[], by simp⟩ (by simp [WL, leG_self, leG_any])
  · rintro ⟨⟨lo, hi⟩, hlh, hhl, ha, hb⟩
    change lo ≤ hi at hlh
    change hi ≤ L.length at hhl
    have ha : ∀ i, i < lo → LT (L.getD i default).1 h := ha
    have hb : ∀ i, hi ≤ i → i < L.length → ¬ LT (L.getD i default).1 h := hb
    by_cases hc : lo < hi
    · have d0 : ((lo : Int) < (hi : Int)) = True := eq_true (by omega)
      obtain ⟨m, hm⟩ : ∃ m, (lo + hi) / 2 = m := ⟨_, rfl⟩
      have em : ((lo : Int) + (hi : Int)).tdiv 2 = (m : Int) := by
        rw [show (lo : Int) + (hi : Int) = ((lo + hi : Nat) : Int) by omega, ← hm]; rfl
      have en : norm .i64 (m : Int) = (m : Int) := norm_i64 (by omega)
      have eS := csG_at L m (by omega)
      obtain ⟨xh, xp, hx⟩ : ∃ xh xp, L.getD m default = (xh, xp) := ⟨_, _, rfl⟩
      have hup : LT xh h → ∀ i, i < m + 1 → LT (L.getD i default).1 h := fun q i hi => by
        by_cases e : i = m
        · subst e; rw [hx]; exact q
        · have := ssc_lt hL (show i < m by omega) (by omega)
          rw [hx] at this
          exact LT.trans this q
      have hdn : ¬ LT xh h → ∀ i, m ≤ i → i < L.length → ¬ LT (L.getD i default).1 h := fun q i h1 h2 => by
        by_cases e : i = m
        · subst e; rw [hx]; exact q
        · have := ssc_lt hL (show m < i by omega) h2
          rw [hx] at this
          exact fun r => q (LT.trans this r)
      rw [hx] at eS
      have cL := hLessR xh.1 h.1 xh.2 h.2
      cases el : ltB xh.1 h.1 with
      | true =>
        rw [el] at cL
        simp +contextual -implicitDefEqProofs (maxSteps := 2000000) (disch := omega) only [drawC, drawK, keepT, ↓lenV, binV, ↓loadV, ↓fieldAddrV, ↓indexAddrV, ↓boxV, ↓nilV, GVal.cells, GVal.ofConst, ↓resV, resG, ↓reduceIte, Nat.reduceEqDiff, Nat.reduceAdd, Nat.reduceSub, Nat.reduceLeDiff, reduceCtorEq, aggV, Tag.cap, GVal.solid, Nat.reduceBEq, Nat.reduceMul, Nat.reduceLT, vcA, ↓vcB, vcC, fbFd, e37, d0, em, en, csG_len, eS, comG, vcD, v33, v32]
        refine ⟨by decide, by omega, by omega, ?_⟩
        refine cL.then ?_ (by rfl)
        simp +contextual -implicitDefEqProofs (maxSteps := 2000000) (disch := omega) only [drawC, drawK, keepT, ↓lenV, binV, ↓loadV, ↓fieldAddrV, ↓indexAddrV, ↓boxV, ↓nilV, GVal.cells, GVal.ofConst, ↓resV, resG, ↓reduceIte, Nat.reduceEqDiff, Nat.reduceAdd, Nat.reduceSub, Nat.reduceLeDiff, reduceCtorEq, aggV, Tag.cap, GVal.solid, Nat.reduceBEq, Nat.reduceMul, Nat.reduceLT, vcA, ↓vcB, vcC, fbFd, e37, vcD]
        exact Into.at ⟨(m + 1, hi), by show m + 1 ≤ hi; omega, hhl, hup el, hb⟩ (by show hi - (m + 1) < hi - lo; omega) ⟨[], by simp⟩ (by simp [WL, leG_self, leG_any, leG_int])
      | false =>
        rw [el] at cL
        simp +contextual -implicitDefEqProofs (maxSteps := 2000000) (disch := omega) only [drawC, drawK, keepT, ↓lenV, binV, ↓loadV, ↓fieldAddrV, ↓indexAddrV, ↓boxV, ↓nilV, GVal.cells, GVal.ofConst, ↓resV, resG, ↓reduceIte, Nat.reduceEqDiff, Nat.reduceAdd, Nat.reduceSub, Nat.reduceLeDiff, reduceCtorEq, aggV, Tag.cap, GVal.solid, Nat.reduceBEq, Nat.reduceMul, Nat.reduceLT, vcA, ↓vcB, vcC, fbFd, e37, d0, em, en, csG_len, eS, comG, vcD, v33, v32]
        refine ⟨by decide, by omega, by omega, ?_⟩
        refine cL.then ?_ (by rfl)
        simp +contextual -implicitDefEqProofs (maxSteps := 2000000) (disch := omega) only [drawC, drawK, keepT, ↓lenV, binV, ↓loadV, ↓fieldAddrV, ↓indexAddrV, ↓boxV, ↓nilV, GVal.cells, GVal.ofConst, ↓resV, resG, ↓reduceIte, Nat.reduceEqDiff, Nat.reduceAdd, Nat.reduceSub, Nat.reduceLeDiff, reduceCtorEq, aggV, Tag.cap, GVal.solid, Nat.reduceBEq, Nat.reduceMul, Nat.reduceLT, vcA, ↓vcB, vcC, fbFd, e37, vcD]
        exact Into.at ⟨(lo, m), by show lo ≤ m; omega, by show m ≤ L.length; omega, ha, hdn (by unfold LT; rw [el]; simp)⟩ (by show m - lo < hi - lo; omega) ⟨[], by simp⟩ (by simp [WL, leG_self, leG_any, leG_int])
    · have d0 : ((lo : Int) < (hi : Int)) = False := eq_false (by omega)
      have e : hi = lo := by omega
      subst e
      obtain ⟨f1, f2⟩ := find_end hL hhl ha hb
      by_cases hk : hi < L.length
      · have d1 : ((hi : Int) < (L.length : Int)) = True := eq_true (by omega)
        have eS := csG_at L hi hk
        obtain ⟨xh, xp, hx⟩ : ∃ xh xp, L.getD hi default = (xh, xp) := ⟨_, _, rfl⟩
        rw [hx] at eS f1 f2
        by_cases e : xh = h
        · subst e
          have eZ : findZ L xh = (hi : Int) := by unfold findZ; rw [f1 hk rfl]
          have ce := cellsEq_hs xh xh
          rw [decide_eq_true rfl] at ce
          rw [eZ]
          simp +contextual -implicitDefEqProofs (maxSteps := 2000000) (disch := omega) only [drawC, drawK, keepT, ↓lenV, binV, ↓loadV, ↓fieldAddrV, ↓indexAddrV, ↓boxV, ↓nilV, GVal.cells, GVal.ofConst, ↓resV, resG, ↓reduceIte, Nat.reduceEqDiff, Nat.reduceAdd, Nat.reduceSub, Nat.reduceLeDiff, reduceCtorEq, aggV, Tag.cap, GVal.solid, Nat.reduceBEq, Nat.reduceMul, Nat.reduceLT, vcA, ↓vcB, vcC, fbFd, e37, d0, d1, csG_len, eS, comG, ce, vcD, v33, v32]
          omega
        · have eZ : findZ L h = -1 := by unfold findZ; rw [f2 fun _ => e]
          have ce := cellsEq_hs xh h
          rw [decide_eq_false e] at ce
          rw [eZ]
          simp +contextual -implicitDefEqProofs (maxSteps := 2000000) (disch := omega) only [drawC, drawK, keepT, ↓lenV, binV, ↓loadV, ↓fieldAddrV, ↓indexAddrV, ↓boxV, ↓nilV, GVal.cells, GVal.ofConst, ↓resV, resG, ↓reduceIte, Nat.reduceEqDiff, Nat.reduceAdd, Nat.reduceSub, Nat.reduceLeDiff, reduceCtorEq, aggV, Tag.cap, GVal.solid, Nat.reduceBEq, Nat.reduceMul, Nat.reduceLT, vcA, ↓vcB, vcC, fbFd, e37, d0, d1, csG_len, eS, comG, ce, vcD, v33, v32]
          omega
      · have d1 : ((hi : Int) < (L.length : Int)) = False := eq_false (by omega)
        have eZ : findZ L h = -1 := by unfold findZ; rw [f2 fun q => absurd q hk]
        rw [eZ]
        simp +contextual -implicitDefEqProofs (maxSteps := 2000000) (disch := omega) only [drawC, drawK, keepT, ↓lenV, binV, ↓loadV, ↓fieldAddrV, ↓indexAddrV, ↓boxV, ↓nilV, GVal.cells, GVal.ofConst, ↓resV, resG, ↓reduceIte, Nat.reduceEqDiff, Nat.reduceAdd, Nat.reduceSub, Nat.reduceLeDiff, reduceCtorEq, aggV, Tag.cap, GVal.solid, Nat.reduceBEq, Nat.reduceMul, Nat.reduceLT, vcA, ↓vcB, vcC, fbFd, e37, d0, d1, csG_len, vcD]
theorem rHas (L : GM) (hL : SSC L) (hl : L.length ≤ 1000000) (h : Hs) (rt : Nat) : GCalls Try.prog 22 [.ptr 0 rt 0 0, .agg (bytesG h.1)] (rObj rt L) (fun g O' => g = .bool (look L h).isSome ∧ O' = rObj rt L) := by
  have cF := rFind L hL hl h rt
  have eh := has_find L h
  by_cases c : 0 ≤ findZ L h
  · have d : (0 ≤ findZ L h) = True := eq_true c
    rw [decide_eq_true c] at eh
    rw [← eh]
    refine h22.calls mixS (by simp) ?_
    simp only [gstart, s22, List.cons_append, List.nil_append, List.length_cons, List.length_nil, Nat.reduceAdd, Nat.reduceSub, List.replicate_succ, List.replicate_zero]
    simp +contextual -implicitDefEqProofs (maxSteps := 2000000) (disch := omega) only [binV, ↓loadV, ↓boxV, GVal.cells, GVal.ofConst, ↓resV, resG, ↓reduceIte, Nat.reduceEqDiff, Nat.reduceAdd, Nat.reduceSub, Nat.reduceLeDiff, reduceCtorEq, Tag.cap, GVal.solid, Nat.reduceBEq, Nat.reduceMul, Nat.reduceLT, vcA, ↓vcB, vcC, fbFd, e22, vcD, v32]
    refine cF.mono ?_
    rintro g O' ⟨rfl, rfl⟩
    simp +contextual -implicitDefEqProofs (maxSteps := 2000000) (disch := omega) only [binV, ↓loadV, ↓boxV, GVal.cells, GVal.ofConst, ↓resV, resG, ↓reduceIte, Nat.reduceEqDiff, Nat.reduceAdd, Nat.reduceSub, Nat.reduceLeDiff, reduceCtorEq, Tag.cap, GVal.solid, Nat.reduceBEq, Nat.reduceMul, Nat.reduceLT, vcA, ↓vcB, vcC, fbFd, e22, d, vcD]
  · have d : (0 ≤ findZ L h) = False := eq_false c
    rw [decide_eq_false c] at eh
    rw [← eh]
    refine h22.calls mixS (by simp) ?_
    simp only [gstart, s22, List.cons_append, List.nil_append, List.length_cons, List.length_nil, Nat.reduceAdd, Nat.reduceSub, List.replicate_succ, List.replicate_zero]
    simp +contextual -implicitDefEqProofs (maxSteps := 2000000) (disch := omega) only [binV, ↓loadV, ↓boxV, GVal.cells, GVal.ofConst, ↓resV, resG, ↓reduceIte, Nat.reduceEqDiff, Nat.reduceAdd, Nat.reduceSub, Nat.reduceLeDiff, reduceCtorEq, Tag.cap, GVal.solid, Nat.reduceBEq, Nat.reduceMul, Nat.reduceLT, vcA, ↓vcB, vcC, fbFd, e22, vcD, v32]
    refine cF.mono ?_
    rintro g O' ⟨rfl, rfl⟩
    simp +contextual -implicitDefEqProofs (maxSteps := 2000000) (disch := omega) only [binV, ↓loadV, ↓boxV, GVal.cells, GVal.ofConst, ↓resV, resG, ↓reduceIte, Nat.reduceEqDiff, Nat.reduceAdd, Nat.reduceSub, Nat.reduceLeDiff, reduceCtorEq, Tag.cap, GVal.solid, Nat.reduceBEq, Nat.reduceMul, Nat.reduceLT, vcA, ↓vcB, vcC, fbFd, e22, d, vcD]
    rfl
theorem rPar1 (L : GM) (hL : SSC L) (hl : L.length ≤ 1000000) (h : Hs) (rt : Nat) (i : Nat) (hi : i < L.length) (e : findZ L h = (i : Int)) (x : Cm) (hx : L.getD i default = x) : GCalls Try.prog 50 [.ptr 0 rt 0 0, .agg (bytesG h.1)] (rObj rt L) (fun g O' => g = .slice (hsG x.2) .none ∧ O' = rObj rt L) := by
  have cF := rFind L hL hl h rt
  rw [e] at cF
  have d : (0 ≤ (i : Int)) = True := eq_true (by omega)
  have eS := csG_at L i hi
  rw [hx] at eS
  obtain ⟨xh, xp⟩ := x
  refine h50.calls mixS (by simp) ?_
  simp only [gstart, s50, List.cons_append, List.nil_append, List.length_cons, List.length_nil, Nat.reduceAdd, Nat.reduceSub, List.replicate_succ, List.replicate_zero]
  simp +contextual -implicitDefEqProofs (maxSteps := 2000000) (disch := omega) only [binV, optV, ↓loadV, ↓fieldAddrV, ↓indexAddrV, ↓boxV, ↓sliceV, ↓nilV, bound, cutTag, hiTag, GVal.cells, GVal.ofConst, ↓resV, resG, ↓reduceIte, Nat.reduceEqDiff, Nat.reduceAdd, Nat.reduceSub, Nat.reduceLeDiff, reduceCtorEq, Tag.cap, GVal.solid, Nat.reduceBEq, Nat.reduceMul, Nat.reduceLT, vcA, ↓vcB, vcC, fbFd, e50, vcD, v32]
  refine cF.mono ?_
  rintro g O' ⟨rfl, rfl⟩
  simp +contextual -implicitDefEqProofs (maxSteps := 2000000) (disch := omega) only [binV, optV, ↓loadV, ↓fieldAddrV, ↓indexAddrV, ↓boxV, ↓sliceV, ↓nilV, bound, cutTag, hiTag, GVal.cells, GVal.ofConst, ↓resV, resG, ↓reduceIte, Nat.reduceEqDiff, Nat.reduceAdd, Nat.reduceSub, Nat.reduceLeDiff, reduceCtorEq, Tag.cap, GVal.solid, Nat.reduceBEq, Nat.reduceMul, Nat.reduceLT, vcA, ↓vcB, vcC, fbFd, e50, d, csG_len, eS, comG, vcD, v33, v32]
  omega
theorem rPar0 (L : GM) (hL : SSC L) (hl : L.length ≤ 1000000) (h : Hs) (rt : Nat) (e : findZ L h = -1) : GCalls Try.prog 50 [.ptr 0 rt 0 0, .agg (bytesG h.1)] (rObj rt L) (fun g O' => g = .slice [] .nil ∧ O' = rObj rt L) := by
  have cF := rFind L hL hl h rt
  rw [e] at cF
  have d : ((0 : Int) ≤ -1) = False := eq_false (by omega)
  refine h50.calls mixS (by simp) ?_
  simp only [gstart, s50, List.cons_append, List.nil_append, List.length_cons, List.length_nil, Nat.reduceAdd, Nat.reduceSub, List.replicate_succ, List.replicate_zero]
  simp +contextual -implicitDefEqProofs (maxSteps := 2000000) (disch := omega) only [binV, optV, ↓loadV, ↓fieldAddrV, ↓indexAddrV, ↓boxV, ↓sliceV, ↓nilV, bound, cutTag, hiTag, GVal.cells, GVal.ofConst, ↓resV, resG, ↓reduceIte, Nat.reduceEqDiff, Nat.reduceAdd, Nat.reduceSub, Nat.reduceLeDiff, reduceCtorEq, Tag.cap, GVal.solid, Nat.reduceBEq, Nat.reduceMul, Nat.reduceLT, vcA, ↓vcB, vcC, fbFd, e50, vcD, v32]
  refine cF.mono ?_
  rintro g O' ⟨rfl, rfl⟩
  simp +contextual -implicitDefEqProofs (maxSteps := 2000000) (disch := omega) only [binV, optV, ↓loadV, ↓fieldAddrV, ↓indexAddrV, ↓boxV, ↓sliceV, ↓nilV, bound, cutTag, hiTag, GVal.cells, GVal.ofConst, ↓resV, resG, ↓reduceIte, Nat.reduceEqDiff, Nat.reduceAdd, Nat.reduceSub, Nat.reduceLeDiff, reduceCtorEq, Tag.cap, GVal.solid, Nat.reduceBEq, Nat.reduceMul, Nat.reduceLT, vcA, ↓vcB, vcC, fbFd, e50, d, false_imp_iff, true_and, vcD]
theorem rParents (L : GM) (hL : SSC L) (hl : L.length ≤ 1000000) (h : Hs) (rt : Nat) : GCalls Try.prog 50 [.ptr 0 rt 0 0, .agg (bytesG h.1)] (rObj rt L) (fun g O' => g = .slice (hsG (parsM L h)) .none ∧ O' = rObj rt L) := by
  obtain ⟨h1, h2⟩ := find_look L h
  cases e : findO L h with
  | some i =>
    obtain ⟨a, b, _⟩ := h1 i e
    rw [parsM_some b]
    exact rPar1 L hL hl h rt i a (by unfold findZ; rw [e]) _ rfl
  | none =>
    rw [parsM_none (h2 e)]
    refine GCalls.into ((rPar0 L hL hl h rt (by unfold findZ; rw [e])).mono ?_)
    rintro g O' ⟨rfl, rfl⟩
    exact GInto.weak (O := rObj rt L) (X := []) (by rw [leG_none]; rfl) (.here ⟨rfl, rfl⟩)
def idxC : GM → Hs → Nat
  | [], _ => 0
  | x :: r, h => if ltB x.1.1 h.1 = true then idxC r h + 1 else 0
def putC (L : GM) (c : Cm) : GM := if (look L c.1).isSome = true then L else L.take (idxC L c.1) ++ [c] ++ L.drop (idxC L c.1)
theorem idxC_at : ∀ (l : GM) (h : Hs) (k : Nat), k < l.length → idxC (l.drop k) h = if ltB (l.getD k default).1.1 h.1 = true then idxC (l.drop (k + 1)) h + 1 else 0 := fun l h k hk => by
  rw [dropC hk]; rfl
theorem take_csL (l : GM) (n : Nat) : (csG l).take n = csG (l.take n) := by simp [csG, List.map_take]
theorem drop_csL (l : GM) (n : Nat) : (csG l).drop n = csG (l.drop n) := by simp [csG, List.map_drop]
theorem takeAllC (l : GM) : List.take l.length (csG l) = csG l := List.take_of_length_le (by rw [csG_len]; exact Nat.le_refl _)
theorem rPut0 (L : GM) (hL : SSC L) (hl : L.length ≤ 1000000) (c : Cm) (hc : c.2.length ≤ 1000000) (rt : Nat) (e : (look L c.1).isSome = true) : GCalls Try.prog 51 [.ptr 0 rt 0 0, .agg (comG c)] (rObj rt L) (fun g O' => g = .tuple [] ∧ O' = rObj rt L) := by
  obtain ⟨ch, cp⟩ := c
  have cH := rHas L hL hl ch rt
  simp only at e
  rw [e] at cH
  refine h51.calls mixS (by simp) ?_
  simp only [gstart, s51, List.cons_append, List.nil_append, List.length_cons, List.length_nil, Nat.reduceAdd, Nat.reduceSub, List.replicate_succ, List.replicate_zero]
  simp +contextual -implicitDefEqProofs (maxSteps := 2000000) (disch := omega) only [drawC, drawK, keepT, ↓lenV, binV, optV, ↓loadV, ↓storeV, ↓fieldAddrV, ↓indexAddrV, ↓boxV, ↓buildV, ↓buildSliceV, ↓sliceV, ↓nilV, ↓appendV, ↓srcV, bound, cutTag, hiTag, fillG, fillE, place, GVal.cells, GVal.ofConst, ↓resV, resG, ↓reduceIte, Nat.reduceEqDiff, Nat.reduceAdd, Nat.reduceSub, Nat.reduceLeDiff, reduceCtorEq, ↓asrcV, Tag.cap, GVal.solid, Nat.reduceBEq, Nat.reduceMul, Nat.reduceLT, vcA, ↓vcB, vcC, fbFd, e51, comG, vcD, v33, v32]
  refine cH.mono ?_
  rintro g O' ⟨rfl, rfl⟩
  simp +contextual -implicitDefEqProofs (maxSteps := 2000000) (disch := omega) only [drawC, drawK, keepT, ↓lenV, binV, optV, ↓loadV, ↓storeV, ↓fieldAddrV, ↓indexAddrV, ↓boxV, ↓buildV, ↓buildSliceV, ↓sliceV, ↓nilV, ↓appendV, ↓srcV, bound, cutTag, hiTag, fillG, fillE, place, GVal.cells, GVal.ofConst, ↓resV, resG, ↓reduceIte, Nat.reduceEqDiff, Nat.reduceAdd, Nat.reduceSub, Nat.reduceLeDiff, reduceCtorEq, ↓asrcV, Tag.cap, GVal.solid, Nat.reduceBEq, Nat.reduceMul, Nat.reduceLT, vcA, ↓vcB, vcC, fbFd, e51, vcD]
theorem rPutRaw (L : GM) (hL : SSC L) (hl : L.length ≤ 1000000) (c : Cm) (hc : c.2.length ≤ 1000000) (rt : Nat) (e : (look L c.1).isSome = false) : GCalls Try.prog 51 [.ptr 0 rt 0 0, .agg (comG c)] (rObj rt L) (fun g O' => ∃ u v, g = .tuple [] ∧ O' = [.row rt 1 [[.slice (csG (L.take (idxC L c.1)) ++ [bytesG c.1.1 ++ [.slice (hsG c.2) (.tok 2 u)]] ++ csG (L.drop (idxC L c.1))) (.tok 1 v)]], .tok v 33, .tok u 32]) := by
  obtain ⟨ch, cp⟩ := c
  change cp.length ≤ 1000000 at hc
  have cH := rHas L hL hl ch rt
  simp only at e ⊢
  rw [e] at cH
  refine h51.calls mixS (by simp) ?_
  simp only [gstart, s51, List.cons_append, List.nil_append, List.length_cons, List.length_nil, Nat.reduceAdd, Nat.reduceSub, List.replicate_succ, List.replicate_zero]
  simp +contextual -implicitDefEqProofs (maxSteps := 2000000) (disch := omega) only [drawC, drawK, keepT, ↓lenV, binV, optV, ↓loadV, ↓storeV, ↓fieldAddrV, ↓indexAddrV, ↓boxV, ↓buildV, ↓buildSliceV, ↓sliceV, ↓nilV, ↓appendV, ↓srcV, bound, cutTag, hiTag, fillG, fillE, place, GVal.cells, GVal.ofConst, ↓resV, resG, ↓reduceIte, Nat.reduceEqDiff, Nat.reduceAdd, Nat.reduceSub, Nat.reduceLeDiff, reduceCtorEq, ↓asrcV, Tag.cap, GVal.solid, Nat.reduceBEq, Nat.reduceMul, Nat.reduceLT, vcA, ↓vcB, vcC, fbFd, e51, comG, vcD, v33, v32]
  refine cH.mono ?_
  rintro g O' ⟨rfl, rfl⟩
  simp +contextual -implicitDefEqProofs (maxSteps := 2000000) (disch := omega) only [drawC, drawK, keepT, ↓lenV, binV, optV, ↓loadV, ↓storeV, ↓fieldAddrV, ↓indexAddrV, ↓boxV, ↓buildV, ↓buildSliceV, ↓sliceV, ↓nilV, ↓appendV, ↓srcV, bound, cutTag, hiTag, fillG, fillE, place, GVal.cells, GVal.ofConst, ↓resV, resG, ↓reduceIte, Nat.reduceEqDiff, Nat.reduceAdd, Nat.reduceSub, Nat.reduceLeDiff, reduceCtorEq, ↓asrcV, Tag.cap, GVal.solid, Nat.reduceBEq, Nat.reduceMul, Nat.reduceLT, vcA, ↓vcB, vcC, fbFd, e51, vcD]
  refine vcSLoop_by (ι := { k : Nat // k ≤ L.length ∧ idxC (L.drop k) ch + k = idxC L ch }) (fun k => ⟨[.ptr 0 rt 0 0, .any, .any, .ref (comG (ch, cp)), .int .i64 (k.1 : Nat)] ++ List.replicate 56 .any, rObj rt L⟩) (fun k => L.length - k.1) ?_ ?_
  · exact Into.first ⟨0, by omega, by simp⟩ ⟨[], by simp⟩ (by simp [WL, leG_self, leG_any, leG_int, comG])
  · rintro ⟨k, hk, he⟩
    by_cases h' : k < L.length
    · have d0 : ((k : Int) < (L.length : Int)) = True := eq_true (by omega)
      have ea := csG_at L k h'
      rw [idxC_at L ch k h'] at he
      obtain ⟨xh, xp, hx⟩ : ∃ xh xp, L.getD k default = (xh, xp) := ⟨_, _, rfl⟩
      rw [hx] at ea he
      simp only at he
      have cL := hLessR xh.1 ch.1 xh.2 ch.2
      cases el : ltB xh.1 ch.1 with
      | true =>
        rw [el, if_pos rfl] at he
        rw [el] at cL
        simp +contextual -implicitDefEqProofs (maxSteps := 2000000) (disch := omega) only [drawC, drawK, keepT, ↓lenV, binV, optV, ↓loadV, ↓storeV, ↓fieldAddrV, ↓indexAddrV, ↓boxV, ↓buildV, ↓buildSliceV, ↓sliceV, ↓nilV, ↓appendV, ↓srcV, bound, cutTag, hiTag, fillG, fillE, place, GVal.cells, GVal.ofConst, ↓resV, resG, ↓reduceIte, Nat.reduceEqDiff, Nat.reduceAdd, Nat.reduceSub, Nat.reduceLeDiff, reduceCtorEq, ↓asrcV, Tag.cap, GVal.solid, Nat.reduceBEq, Nat.reduceMul, Nat.reduceLT, vcA, ↓vcB, vcC, fbFd, e51, d0, ea, csG_len, comG, vcD, v33, v32]
        refine ⟨by omega, ?_⟩
        refine cL.then ?_ (by rfl)
        simp +contextual -implicitDefEqProofs (maxSteps := 2000000) (disch := omega) only [drawC, drawK, keepT, ↓lenV, binV, optV, ↓loadV, ↓storeV, ↓fieldAddrV, ↓indexAddrV, ↓boxV, ↓buildV, ↓buildSliceV, ↓sliceV, ↓nilV, ↓appendV, ↓srcV, bound, cutTag, hiTag, fillG, fillE, place, GVal.cells, GVal.ofConst, ↓resV, resG, ↓reduceIte, Nat.reduceEqDiff, Nat.reduceAdd, Nat.reduceSub, Nat.reduceLeDiff, reduceCtorEq, ↓asrcV, Tag.cap, GVal.solid, Nat.reduceBEq, Nat.reduceMul, Nat.reduceLT, vcA, ↓vcB, vcC, fbFd, e51, vcD]
        exact Into.at ⟨k + 1, by omega, by omega⟩ (by show L.length - (k + 1) < L.length - k; omega) ⟨[], by simp⟩ (by simp [WL, leG_self, leG_any, leG_int, comG])
      | false =>
        rw [el, if_neg (by simp), Nat.zero_add] at he
        rw [el] at cL
        have tl : (List.take k L).length = k := by rw [List.length_take]; omega
        have tl3 : (List.drop k (List.take L.length L)).length = L.length - k := by rw [List.take_length, List.length_drop]
        simp +contextual -implicitDefEqProofs (maxSteps := 2000000) (disch := omega) only [drawC, drawK, keepT, ↓lenV, binV, optV, ↓loadV, ↓storeV, ↓fieldAddrV, ↓indexAddrV, ↓boxV, ↓buildV, ↓buildSliceV, ↓sliceV, ↓nilV, ↓appendV, ↓srcV, bound, cutTag, hiTag, fillG, fillE, place, GVal.cells, GVal.ofConst, ↓resV, resG, ↓reduceIte, Nat.reduceEqDiff, Nat.reduceAdd, Nat.reduceSub, Nat.reduceLeDiff, reduceCtorEq, ↓asrcV, Tag.cap, GVal.solid, Nat.reduceBEq, Nat.reduceMul, Nat.reduceLT, vcA, ↓vcB, vcC, fbFd, e51, d0, ea, csG_len, comG, vcD, v33, v32]
        refine ⟨by omega, ?_⟩
        refine cL.then ?_ (by rfl)
        simp +contextual -implicitDefEqProofs (maxSteps := 2000000) (disch := omega) only [drawC, drawK, keepT, ↓lenV, binV, optV, ↓loadV, ↓storeV, ↓fieldAddrV, ↓indexAddrV, ↓boxV, ↓buildV, ↓buildSliceV, ↓sliceV, ↓nilV, ↓appendV, ↓srcV, bound, cutTag, hiTag, fillG, fillE, place, GVal.cells, GVal.ofConst, ↓resV, resG, ↓reduceIte, Nat.reduceEqDiff, Nat.reduceAdd, Nat.reduceSub, Nat.reduceLeDiff, reduceCtorEq, ↓asrcV, Tag.cap, GVal.solid, Nat.reduceBEq, Nat.reduceMul, Nat.reduceLT, vcA, ↓vcB, vcC, fbFd, e51, d0, ea, csG_len, comG, all_csG, take_csL, drop_csL, takeAllC, toNat0, List.drop_zero, hsG_len, all_hsG, tl, tl3, vcD, v33, v32]
        refine ⟨by omega, by omega, by omega, by omega, by omega, fun s1 => ⟨by omega, by omega, fun s2 => ⟨⟨[_], rfl⟩, by omega, by omega, fun s3 => ⟨by omega, by omega, by omega, ?_, ?_, fun s4 => ⟨s2, s4, ?_⟩⟩⟩⟩⟩
        · rw [List.length_append, csG_len, tl]; simp only [List.length_singleton]; omega
        · rw [List.length_append, csG_len, tl]; simp only [List.length_singleton]; omega
        · rw [List.take_length, he]
    · have d0 : ((k : Int) < (L.length : Int)) = False := eq_false (by omega)
      have he : k = idxC L ch := by
        rw [List.drop_of_length_le (by omega)] at he
        rw [← he]; simp [idxC]
      have tl : (List.take k L).length = k := by rw [List.length_take]; omega
      have tl3 : (List.drop k (List.take L.length L)).length = L.length - k := by rw [List.take_length, List.length_drop]
      simp +contextual -implicitDefEqProofs (maxSteps := 2000000) (disch := omega) only [drawC, drawK, keepT, ↓lenV, binV, optV, ↓loadV, ↓storeV, ↓fieldAddrV, ↓indexAddrV, ↓boxV, ↓buildV, ↓buildSliceV, ↓sliceV, ↓nilV, ↓appendV, ↓srcV, bound, cutTag, hiTag, fillG, fillE, place, GVal.cells, GVal.ofConst, ↓resV, resG, ↓reduceIte, Nat.reduceEqDiff, Nat.reduceAdd, Nat.reduceSub, Nat.reduceLeDiff, reduceCtorEq, ↓asrcV, Tag.cap, GVal.solid, Nat.reduceBEq, Nat.reduceMul, Nat.reduceLT, vcA, ↓vcB, vcC, fbFd, e51, d0, csG_len, comG, all_csG, take_csL, drop_csL, takeAllC, toNat0, List.drop_zero, hsG_len, all_hsG, tl, tl3, vcD, v33, v32]
      refine ⟨by omega, by omega, by omega, by omega, by omega, fun s1 => ⟨by omega, by omega, fun s2 => ⟨⟨[_], rfl⟩, by omega, by omega, fun s3 => ⟨by omega, by omega, by omega, ?_, ?_, fun s4 => ⟨s2, s4, ?_⟩⟩⟩⟩⟩
      · rw [List.length_append, csG_len, tl]; simp only [List.length_singleton]; omega
      · rw [List.length_append, csG_len, tl]; simp only [List.length_singleton]; omega
      · rw [List.take_length, he]
theorem GLes_com (h : Hs) (l : List Hs) (t : Tag) : GLes (bytesG h.1 ++ [.slice (hsG l) t]) (comG (h, l)) := GLes.app (GLes.refl _) ⟨GLe.none, trivial⟩
theorem rPut1 (L : GM) (hL : SSC L) (hl : L.length ≤ 1000000) (c : Cm) (hc : c.2.length ≤ 1000000) (rt : Nat) (e : (look L c.1).isSome = false) : GCalls Try.prog 51 [.ptr 0 rt 0 0, .agg (comG c)] (rObj rt L) (fun g O' => g = .tuple [] ∧ O' = rObj rt (putC L c)) := by
  refine GCalls.frame (rPutRaw L hL hl c hc rt e) [0] ⟨⟨_, rfl, .refl _⟩, trivial⟩ (by simp) (GLes.refl _) rfl rfl ?_
  rintro g O' ⟨u, v, rfl, rfl⟩
  refine ⟨_, rObj rt (putC L c), [(false, 0)], ⟨rfl, rfl⟩, GLe.refl _, ⟨⟨_, rfl, OLe.row ⟨⟨GLe.trans GLe.none (GLe.slice ?_), trivial⟩, trivial⟩⟩, trivial⟩, by simp, rfl⟩
  unfold putC
  rw [if_neg (by rw [e]; simp), csG_app, csG_app]
  exact GLess.app (GLess.app (GLess.refl _) ⟨GLes_com _ _ _, trivial⟩) (GLess.refl _)
theorem rPut (L : GM) (hL : SSC L) (hl : L.length ≤ 1000000) (c : Cm) (hc : c.2.length ≤ 1000000) (rt : Nat) : GCalls Try.prog 51 [.ptr 0 rt 0 0, .agg (comG c)] (rObj rt L) (fun g O' => g = .tuple [] ∧ O' = rObj rt (putC L c)) := by
  cases e : (look L c.1).isSome with
  | true =>
    have := rPut0 L hL hl c hc rt e
    unfold putC
    rw [if_pos e]
    exact this
  | false => exact rPut1 L hL hl c hc rt e
end Gv.Try
/- A nil slice in a struct's cell is given a row of its own. -/
set_option linter.unusedVariables false
namespace Gv
open Go
section
variable {st : GSt} {N : GSt → Prop}
theorem Into.cellRow (i c rsz : Nat) {t sz : Nat} {cs : List GVal} {tg : Tag} (hO : st.o[i]? = some (.row t sz [cs])) (hc : cs[c]? = some (.slice [] tg)) (htg : tg.cap = .full) (hcl : cs.length = sz)
    (h : stamp st.o fun u => Into ⟨st.s, ((tickO st.o) ++ [GObj.row u rsz []]).set i (.row t sz [cs.set c (.own st.o.length u 0 0)])⟩ N) : Into st N := by
  intro E a w hs ha
  obtain ⟨u, hk, ht, hnx, hs, hkeep⟩ := hs.stamp h
  rw [← tickO_len st.o] at hk
  obtain ⟨h1, h2⟩ := hs.objNil (.row u rsz []) (l := ⟨none, 0, rsz, 0⟩) ht hnx rfl ⟨_, Env.addLoc_self _ _ _, rfl, by simp, rfl⟩ (by simp [GObj.blk, Env.addLoc_self])
  have hO' : (tickO st.o ++ [GObj.row u rsz []])[i]? = some (.row t sz [cs]) := by
    have := tickO_get hO rfl
    rw [List.getElem?_append_left (List.getElem?_eq_some_iff.1 this).1]; exact this
  obtain ⟨h3, h4⟩ := h1.cells hO' (ys := [cs.set c (.own (tickO st.o).length u 0 0)]) rfl (by simp [hcl]) (fun j g' hj => by
    simp only [List.flatten_cons, List.flatten_nil, List.append_nil] at hj ⊢
    rw [List.getElem?_set] at hj
    by_cases e : c = j
    · subst e
      rw [if_pos rfl] at hj
      split at hj
      · simp only [Option.some.injEq] at hj
        subst hj
        refine ⟨_, hc, fun v hv => ?_⟩
        cases hv with
        | slice a len cap xs tag sz c hlen hcap hsz ha hc htag =>
          have htag := htag.cap hcap
          rw [htg] at htag
          have h0 : len = 0 := by simpa using hlen
          have h1 : cap = 0 := by rw [← h0]; exact htag
          subst h0
          exact .own a 0 cap _ u 0 _ (Env.addLoc_self _ _ _) (Nat.zero_le _) (.inl h1)
      · cases hj
    · rw [if_neg e] at hj
      exact ⟨g', hj, fun v hv => hv⟩)
  obtain ⟨st', E', q1, q2, q3, q4⟩ := hk _ a w h3 (ha.mono h2.ext)
  exact ⟨st', E', q1, q2, ((hkeep.trans h2).trans h4).trans q3, q4⟩
end
theorem setO_6 (a b c d e f g x : GObj) (r : List GObj) : (a :: b :: c :: d :: e :: f :: g :: r).set 6 x = a :: b :: c :: d :: e :: f :: x :: r := rfl
theorem setO_7 (a b c d e f g h x : GObj) (r : List GObj) : (a :: b :: c :: d :: e :: f :: g :: h :: r).set 7 x = a :: b :: c :: d :: e :: f :: g :: x :: r := rfl
theorem setO_8 (a b c d e f g h i x : GObj) (r : List GObj) : (a :: b :: c :: d :: e :: f :: g :: h :: i :: r).set 8 x = a :: b :: c :: d :: e :: f :: g :: h :: x :: r := rfl
theorem GCalls.tail {P : Program} {f : FuncId} {args : List GVal} {X : List GObj} {K : GVal → List GObj → Prop} (h : GCalls P f args X K) (hK : ∀ g O', K g O' → clockOf O' = none ∧ O' ≠ []) (hc : clockOf X = none) (hX : X ≠ []) (Y : List GObj) :
    GCalls P f args (X ++ Y) (fun g O'' => ∃ O', K g O' ∧ O'' = O' ++ Y) := by
  have hcl : ∀ A : List GObj, clockOf A = none → A ≠ [] → clockOf (A ++ Y) = none := fun A h1 h2 => by
    cases A with
    | nil => exact absurd rfl h2
    | cons a r => cases a <;> first | rfl | cases h1
  refine GCalls.frame h (List.range X.length) ?_ List.nodup_range (GLes.refl _) hc (hcl X hc hX) ?_
  · have : ∀ (A B : List GObj), Fits (A ++ B ++ Y) ((List.range B.length).map (· + A.length)) B := by
      intro A B
      induction B generalizing A with
      | nil => trivial
      | cons b r ih =>
        rw [List.length_cons, List.range_succ_eq_map, List.map_cons, List.map_map]
        refine ⟨⟨b, by simp, .refl _⟩, ?_⟩
        have := ih (A ++ [b])
        simp only [List.length_append, List.length_singleton, List.append_assoc, List.singleton_append] at this ⊢
        have e : ((fun x => x + A.length) ∘ Nat.succ) = (fun x => x + (A.length + 1)) := by funext x; simp; omega
        rw [e]; exact this
    have := this [] X
    simpa using this
  · intro g O' hk
    obtain ⟨h1, h2⟩ := hK g O' hk
    refine ⟨g, O' ++ Y, (List.range O'.length).map (fun k => (false, k)) ++ (List.range Y.length).map (fun k => (true, k + X.length)), ⟨O', hk, rfl⟩, GLe.refl g, Comes.of (by simp) fun k z x hz hx => ?_, ?_, hcl O' h1 h2⟩
    · by_cases hlt : k < O'.length
      · rw [List.getElem?_append_left hlt] at hz
        rw [List.getElem?_append_left (by simpa using hlt)] at hx
        simp only [List.getElem?_map, List.getElem?_range hlt, Option.map_some, Option.some.injEq] at hx
        subst hx
        exact ⟨z, hz, .refl _⟩
      · rw [List.getElem?_append_right (by omega)] at hz
        rw [List.getElem?_append_right (by simpa using hlt)] at hx
        have hk2 : k - O'.length < Y.length := (List.getElem?_eq_some_iff.1 hz).1
        simp only [List.length_map, List.length_range, List.getElem?_map, List.getElem?_range hk2, Option.map_some, Option.some.injEq] at hx
        subst hx
        refine ⟨by simp, z, ?_, .refl _⟩
        rw [List.getElem?_append_right (by omega), Nat.add_sub_cancel]; exact hz
    · rw [List.nodup_append]
      refine ⟨?_, ?_, ?_⟩
      · rw [List.nodup_iff_pairwise_ne, List.pairwise_map]
        exact List.Pairwise.imp (fun {a b} hab => by simp; omega) (List.pairwise_lt_range (n := O'.length))
      · rw [List.nodup_iff_pairwise_ne, List.pairwise_map]
        exact List.Pairwise.imp (fun {a b} hab => by simp; omega) (List.pairwise_lt_range (n := Y.length))
      · intro a ha b hb
        obtain ⟨i, _, rfl⟩ := List.mem_map.1 ha
        obtain ⟨j, _, rfl⟩ := List.mem_map.1 hb
        simp
end Gv
/- Contracts: order's push and step. -/
set_option linter.unusedVariables false
set_option linter.unusedSimpArgs false
set_option maxRecDepth 20000
set_option maxHeartbeats 4000000
namespace Gv.Try
open Go Gv Go.Proofs
abbrev wObj (st s : Nat) (m : GM) (sq sw sv so n : Nat) (dg : GVal) (K Z : List Cm) (S out : List Hs) : List GObj :=
  [.row st 1 [[.map 1 s]], .map s (kvG encL m), .map sq (kvG encB (setM S)), .row sw 5 [[.ptr 0 st 0 0, dg, .map 2 sq, .own 4 sv 0 n, .slice (hsG out) (.tok 5 so)]], .row sv 33 (csG (K ++ Z)), .tok so 32]
theorem gParK (m : GM) (h : Hs) (st s : Nat) (hl : (parsM m h).length ≤ 4398046511104) (X : List GObj) : GCalls Try.prog 26 [.ptr 0 st 0 0, .agg (bytesG h.1)] (.row st 1 [[.map 1 s]] :: .map s (kvG encL m) :: X) (fun g O' => g = .tuple [.slice (hsG (parsM m h)) .none, .bool (look m h).isSome] ∧ O' = .row st 1 [[.map 1 s]] :: .map s (kvG encL m) :: X) :=
  GCalls.keep2 (gParents m h st s hl) rfl X
theorem take_csG (K Z : List Cm) : List.take K.length (csG (K ++ Z)) = csG K := by rw [csG_app]; exact List.take_left' (csG_len K)
theorem gPush1 (m : GM) (hm : GMOK m) (h : Hs) (st s sq sw sv so n : Nat) (dg : GVal) (K Z : List Cm) (S out : List Hs) (hl : look m h = none) (hn : n = K.length) :
    GCalls Try.prog 29 [.ptr 3 sw 0 0, .agg (bytesG h.1)] (wObj st s m sq sw sv so n dg K Z S out) (fun g O' => g = .tuple [] ∧ O' = wObj st s m sq sw sv so n dg K Z S out) := by
  subst hn
  have c := fun X => gParK m h st s (by have := hm.pars h; omega) X
  simp only [hl, Option.isSome_none] at c
  refine h29.calls mixS (by simp) ?_
  simp only [gstart, s29, List.cons_append, List.nil_append, List.length_cons, List.length_nil, Nat.reduceAdd, Nat.reduceSub, List.replicate_succ, List.replicate_zero]
  simp +contextual -implicitDefEqProofs (maxSteps := 2000000) (disch := omega) only [drawC, drawK, keepT, binV, ↓unV, ↓loadV, ↓storeV, ↓fieldAddrV, ↓boxV, ↓buildV, ↓buildSliceV, ↓nilV, ↓appendV, ↓srcV, fillG, fillE, place, GVal.cells, GVal.ofConst, ↓resV, resG, ↓reduceIte, Nat.reduceEqDiff, Nat.reduceAdd, Nat.reduceSub, Nat.reduceLeDiff, reduceCtorEq, ↓asrcV, ↓lookupV, ↓mapUpdateV, keyOk, keyCells, pairG, aggV, Tag.cap, GVal.solid, Nat.reduceBEq, Nat.reduceMul, Nat.reduceLT, vcA, ↓vcB, vcC, fbFd, e29, vcD, v32]
  refine (c _).mono ?_
  rintro g O' ⟨rfl, rfl⟩
  simp +contextual -implicitDefEqProofs (maxSteps := 2000000) (disch := omega) only [drawC, drawK, keepT, binV, ↓unV, ↓loadV, ↓storeV, ↓fieldAddrV, ↓boxV, ↓buildV, ↓buildSliceV, ↓nilV, ↓appendV, ↓srcV, fillG, fillE, place, GVal.cells, GVal.ofConst, ↓resV, resG, ↓reduceIte, Nat.reduceEqDiff, Nat.reduceAdd, Nat.reduceSub, Nat.reduceLeDiff, reduceCtorEq, ↓asrcV, ↓lookupV, ↓mapUpdateV, keyOk, keyCells, pairG, aggV, Tag.cap, GVal.solid, Nat.reduceBEq, Nat.reduceMul, Nat.reduceLT, vcA, ↓vcB, vcC, fbFd, e29, kfind_h, vcD, v32]
theorem gPush2 (m : GM) (hm : GMOK m) (h : Hs) (st s sq sw sv so n : Nat) (dg : GVal) (K Z : List Cm) (S out : List Hs) (l : List Hs) (hl : look m h = some l) (hS : h ∈ S) (hn : n = K.length) :
    GCalls Try.prog 29 [.ptr 3 sw 0 0, .agg (bytesG h.1)] (wObj st s m sq sw sv so n dg K Z S out) (fun g O' => g = .tuple [] ∧ O' = wObj st s m sq sw sv so n dg K Z S out) := by
  subst hn
  have c := fun X => gParK m h st s (by have := hm.pars h; omega) X
  simp only [hl, Option.isSome_some, parsM_some hl] at c
  obtain ⟨i, hi, hv, _⟩ := look_idx encB (setM S) h true (by rw [look_set, if_pos hS])
  refine h29.calls mixS (by simp) ?_
  simp only [gstart, s29, List.cons_append, List.nil_append, List.length_cons, List.length_nil, Nat.reduceAdd, Nat.reduceSub, List.replicate_succ, List.replicate_zero]
  simp +contextual -implicitDefEqProofs (maxSteps := 2000000) (disch := omega) only [drawC, drawK, keepT, binV, ↓unV, ↓loadV, ↓storeV, ↓fieldAddrV, ↓boxV, ↓buildV, ↓buildSliceV, ↓nilV, ↓appendV, ↓srcV, fillG, fillE, place, GVal.cells, GVal.ofConst, ↓resV, resG, ↓reduceIte, Nat.reduceEqDiff, Nat.reduceAdd, Nat.reduceSub, Nat.reduceLeDiff, reduceCtorEq, ↓asrcV, ↓lookupV, ↓mapUpdateV, keyOk, keyCells, pairG, aggV, Tag.cap, GVal.solid, Nat.reduceBEq, Nat.reduceMul, Nat.reduceLT, vcA, ↓vcB, vcC, fbFd, e29, vcD, v32]
  refine (c _).mono ?_
  rintro g O' ⟨rfl, rfl⟩
  simp +contextual -implicitDefEqProofs (maxSteps := 2000000) (disch := omega) only [drawC, drawK, keepT, binV, ↓unV, ↓loadV, ↓storeV, ↓fieldAddrV, ↓boxV, ↓buildV, ↓buildSliceV, ↓nilV, ↓appendV, ↓srcV, fillG, fillE, place, GVal.cells, GVal.ofConst, ↓resV, resG, ↓reduceIte, Nat.reduceEqDiff, Nat.reduceAdd, Nat.reduceSub, Nat.reduceLeDiff, reduceCtorEq, ↓asrcV, ↓lookupV, ↓mapUpdateV, keyOk, keyCells, pairG, aggV, Tag.cap, GVal.solid, Nat.reduceBEq, Nat.reduceMul, Nat.reduceLT, vcA, ↓vcB, vcC, fbFd, e29, kfind_h, hi, hv, vcD, v32]
theorem gPush3 (m : GM) (hm : GMOK m) (h : Hs) (st s sq sw sv so n : Nat) (F : FuncId) (caps : List GVal) (K Z : List Cm) (S out : List Hs) (l : List Hs) (hl : look m h = some l) (hS : h ∉ S) (hF : GPure Try.prog F (.agg (bytesG h.1) :: caps) (.bool true)) (hn : n = K.length) :
    GCalls Try.prog 29 [.ptr 3 sw 0 0, .agg (bytesG h.1)] (wObj st s m sq sw sv so n (.func (.func F) [] caps) K Z S out) (fun g O' => g = .tuple [] ∧ O' = wObj st s m sq sw sv so n (.func (.func F) [] caps) K Z S out) := by
  subst hn
  have c := fun X => gParK m h st s (by have := hm.pars h; omega) X
  simp only [hl, Option.isSome_some, parsM_some hl] at c
  obtain ⟨hi, hw⟩ := look_none encB (setM S) h (by rw [look_set, if_neg hS])
  have hw := hw true
  rw [mset_set S h hS] at hw
  refine h29.calls mixS (by simp) ?_
  simp only [gstart, s29, List.cons_append, List.nil_append, List.length_cons, List.length_nil, Nat.reduceAdd, Nat.reduceSub, List.replicate_succ, List.replicate_zero]
  simp +contextual -implicitDefEqProofs (maxSteps := 2000000) (disch := omega) only [drawC, drawK, keepT, binV, ↓unV, ↓loadV, ↓storeV, ↓fieldAddrV, ↓boxV, ↓buildV, ↓buildSliceV, ↓nilV, ↓appendV, ↓srcV, fillG, fillE, place, GVal.cells, GVal.ofConst, ↓resV, resG, ↓reduceIte, Nat.reduceEqDiff, Nat.reduceAdd, Nat.reduceSub, Nat.reduceLeDiff, reduceCtorEq, ↓asrcV, ↓lookupV, ↓mapUpdateV, keyOk, keyCells, pairG, aggV, Tag.cap, GVal.solid, Nat.reduceBEq, Nat.reduceMul, Nat.reduceLT, vcA, ↓vcB, vcC, fbFd, e29, vcD, v32]
  refine (c _).mono ?_
  rintro g O' ⟨rfl, rfl⟩
  simp +contextual -implicitDefEqProofs (maxSteps := 2000000) (disch := omega) only [drawC, drawK, keepT, binV, ↓unV, ↓loadV, ↓storeV, ↓fieldAddrV, ↓boxV, ↓buildV, ↓buildSliceV, ↓nilV, ↓appendV, ↓srcV, fillG, fillE, place, GVal.cells, GVal.ofConst, ↓resV, resG, ↓reduceIte, Nat.reduceEqDiff, Nat.reduceAdd, Nat.reduceSub, Nat.reduceLeDiff, reduceCtorEq, ↓asrcV, ↓lookupV, ↓mapUpdateV, keyOk, keyCells, pairG, aggV, Tag.cap, GVal.solid, Nat.reduceBEq, Nat.reduceMul, Nat.reduceLT, vcA, ↓vcB, vcC, fbFd, e29, kfind_h, hi, hw, vcD, v32]
  refine hF.then ?_ (by rfl)
  simp +contextual -implicitDefEqProofs (maxSteps := 2000000) (disch := omega) only [drawC, drawK, keepT, binV, ↓unV, ↓loadV, ↓storeV, ↓fieldAddrV, ↓boxV, ↓buildV, ↓buildSliceV, ↓nilV, ↓appendV, ↓srcV, fillG, fillE, place, GVal.cells, GVal.ofConst, ↓resV, resG, ↓reduceIte, Nat.reduceEqDiff, Nat.reduceAdd, Nat.reduceSub, Nat.reduceLeDiff, reduceCtorEq, ↓asrcV, ↓lookupV, ↓mapUpdateV, keyOk, keyCells, pairG, aggV, Tag.cap, GVal.solid, Nat.reduceBEq, Nat.reduceMul, Nat.reduceLT, vcA, ↓vcB, vcC, fbFd, e29, kfind_h, csG_len, all_csG, hi, hw, vcD, v33, v32]
theorem gPush4 (m : GM) (hm : GMOK m) (h : Hs) (st s sq sw sv so n : Nat) (F : FuncId) (caps : List GVal) (K Z : List Cm) (S out : List Hs) (l : List Hs) (hl : look m h = some l) (hS : h ∉ S) (hF : GPure Try.prog F (.agg (bytesG h.1) :: caps) (.bool false)) (hK : K.length ≤ 1000000) (hn : n = K.length) :
    GCalls Try.prog 29 [.ptr 3 sw 0 0, .agg (bytesG h.1)] (wObj st s m sq sw sv so n (.func (.func F) [] caps) K Z S out) (fun g O' => ∃ sv', g = .tuple [] ∧ O' = wObj st s m sq sw sv' so (n + 1) (.func (.func F) [] caps) (K ++ [(h, l)]) [] (S ++ [h]) out) := by
  subst hn
  have c := fun X => gParK m h st s (by have := hm.pars h; omega) X
  simp only [hl, Option.isSome_some, parsM_some hl] at c
  obtain ⟨hi, hw⟩ := look_none encB (setM S) h (by rw [look_set, if_neg hS])
  have hw := hw true
  rw [mset_set S h hS] at hw
  refine h29.calls mixS (by simp) ?_
  simp only [gstart, s29, List.cons_append, List.nil_append, List.length_cons, List.length_nil, Nat.reduceAdd, Nat.reduceSub, List.replicate_succ, List.replicate_zero]
  simp +contextual -implicitDefEqProofs (maxSteps := 2000000) (disch := omega) only [drawC, drawK, keepT, binV, ↓unV, ↓loadV, ↓storeV, ↓fieldAddrV, ↓boxV, ↓buildV, ↓buildSliceV, ↓nilV, ↓appendV, ↓srcV, fillG, fillE, place, GVal.cells, GVal.ofConst, ↓resV, resG, ↓reduceIte, Nat.reduceEqDiff, Nat.reduceAdd, Nat.reduceSub, Nat.reduceLeDiff, reduceCtorEq, ↓asrcV, ↓lookupV, ↓mapUpdateV, keyOk, keyCells, pairG, aggV, Tag.cap, GVal.solid, Nat.reduceBEq, Nat.reduceMul, Nat.reduceLT, vcA, ↓vcB, vcC, fbFd, e29, vcD, v32]
  refine (c _).mono ?_
  rintro g O' ⟨rfl, rfl⟩
  simp +contextual -implicitDefEqProofs (maxSteps := 2000000) (disch := omega) only [drawC, drawK, keepT, binV, ↓unV, ↓loadV, ↓storeV, ↓fieldAddrV, ↓boxV, ↓buildV, ↓buildSliceV, ↓nilV, ↓appendV, ↓srcV, fillG, fillE, place, GVal.cells, GVal.ofConst, ↓resV, resG, ↓reduceIte, Nat.reduceEqDiff, Nat.reduceAdd, Nat.reduceSub, Nat.reduceLeDiff, reduceCtorEq, ↓asrcV, ↓lookupV, ↓mapUpdateV, keyOk, keyCells, pairG, aggV, Tag.cap, GVal.solid, Nat.reduceBEq, Nat.reduceMul, Nat.reduceLT, vcA, ↓vcB, vcC, fbFd, e29, kfind_h, hi, hw, vcD, v32]
  refine hF.then ?_ (by rfl)
  simp +contextual -implicitDefEqProofs (maxSteps := 2000000) (disch := omega) only [drawC, drawK, keepT, binV, ↓unV, ↓loadV, ↓storeV, ↓fieldAddrV, ↓boxV, ↓buildV, ↓buildSliceV, ↓nilV, ↓appendV, ↓srcV, fillG, fillE, place, GVal.cells, GVal.ofConst, ↓resV, resG, ↓reduceIte, Nat.reduceEqDiff, Nat.reduceAdd, Nat.reduceSub, Nat.reduceLeDiff, reduceCtorEq, ↓asrcV, ↓lookupV, ↓mapUpdateV, keyOk, keyCells, pairG, aggV, Tag.cap, GVal.solid, Nat.reduceBEq, Nat.reduceMul, Nat.reduceLT, vcA, ↓vcB, vcC, fbFd, e29, kfind_h, csG_len, all_csG, hi, hw, vcD, v33, v32]
  refine ⟨by simp, by omega, by omega, fun v => ⟨v, ?_⟩⟩
  rw [take_csG]
  simp [csG_app, csG_one, comG]
theorem gPush5 (m : GM) (hm : GMOK m) (h : Hs) (st s sq sw sv so n : Nat) (K Z : List Cm) (S out : List Hs) (l : List Hs) (hl : look m h = some l) (hS : h ∉ S) (hK : K.length ≤ 1000000) (hn : n = K.length) :
    GCalls Try.prog 29 [.ptr 3 sw 0 0, .agg (bytesG h.1)] (wObj st s m sq sw sv so n (.lit .nilFunc) K Z S out) (fun g O' => ∃ sv', g = .tuple [] ∧ O' = wObj st s m sq sw sv' so (n + 1) (.lit .nilFunc) (K ++ [(h, l)]) [] (S ++ [h]) out) := by
  subst hn
  have c := fun X => gParK m h st s (by have := hm.pars h; omega) X
  simp only [hl, Option.isSome_some, parsM_some hl] at c
  obtain ⟨hi, hw⟩ := look_none encB (setM S) h (by rw [look_set, if_neg hS])
  have hw := hw true
  rw [mset_set S h hS] at hw
  refine h29.calls mixS (by simp) ?_
  simp only [gstart, s29, List.cons_append, List.nil_append, List.length_cons, List.length_nil, Nat.reduceAdd, Nat.reduceSub, List.replicate_succ, List.replicate_zero]
  simp +contextual -implicitDefEqProofs (maxSteps := 2000000) (disch := omega) only [drawC, drawK, keepT, binV, ↓unV, ↓loadV, ↓storeV, ↓fieldAddrV, ↓boxV, ↓buildV, ↓buildSliceV, ↓nilV, ↓appendV, ↓srcV, fillG, fillE, place, GVal.cells, GVal.ofConst, ↓resV, resG, ↓reduceIte, Nat.reduceEqDiff, Nat.reduceAdd, Nat.reduceSub, Nat.reduceLeDiff, reduceCtorEq, ↓asrcV, ↓lookupV, ↓mapUpdateV, keyOk, keyCells, pairG, aggV, Tag.cap, GVal.solid, Nat.reduceBEq, Nat.reduceMul, Nat.reduceLT, vcA, ↓vcB, vcC, fbFd, e29, vcD, v32]
  refine (c _).mono ?_
  rintro g O' ⟨rfl, rfl⟩
  simp +contextual -implicitDefEqProofs (maxSteps := 2000000) (disch := omega) only [drawC, drawK, keepT, binV, ↓unV, ↓loadV, ↓storeV, ↓fieldAddrV, ↓boxV, ↓buildV, ↓buildSliceV, ↓nilV, ↓appendV, ↓srcV, fillG, fillE, place, GVal.cells, GVal.ofConst, ↓resV, resG, ↓reduceIte, Nat.reduceEqDiff, Nat.reduceAdd, Nat.reduceSub, Nat.reduceLeDiff, reduceCtorEq, ↓asrcV, ↓lookupV, ↓mapUpdateV, keyOk, keyCells, pairG, aggV, Tag.cap, GVal.solid, Nat.reduceBEq, Nat.reduceMul, Nat.reduceLT, vcA, ↓vcB, vcC, fbFd, e29, kfind_h, csG_len, all_csG, hi, hw, vcD, v33, v32]
  refine ⟨by simp, by omega, by omega, fun v => ⟨v, ?_⟩⟩
  rw [take_csG]
  simp [csG_app, csG_one, comG]
inductive DoneG : GVal → (Hs → Bool) → Prop
  | nil : DoneG (.lit .nilFunc) (fun _ => false)
  | fn (F : FuncId) (caps : List GVal) (dn : Hs → Bool) : (∀ h : Hs, GPure Try.prog F (.agg (bytesG h.1) :: caps) (.bool (dn h))) → DoneG (.func (.func F) [] caps) dn
def pushed (m : GM) (dn : Hs → Bool) (S : List Hs) (h : Hs) : Bool := (look m h).isSome && !(decide (h ∈ S)) && !(dn h)
theorem gPush (m : GM) (hm : GMOK m) (h : Hs) (st s sq sw sv so n : Nat) (dg : GVal) (dn : Hs → Bool) (hd : DoneG dg dn) (K Z : List Cm) (S out : List Hs) (hK : K.length ≤ 1000000) (hn : n = K.length) :
    GCalls Try.prog 29 [.ptr 3 sw 0 0, .agg (bytesG h.1)] (wObj st s m sq sw sv so n dg K Z S out) (fun g O' => ∃ sv' Z', g = .tuple [] ∧ O' = if pushed m dn S h = true then wObj st s m sq sw sv' so (n + 1) dg (K ++ [(h, parsM m h)]) Z' (S ++ [h]) out else wObj st s m sq sw sv' so n dg K Z' S out) := by
  have stay : pushed m dn S h = false → GCalls Try.prog 29 [.ptr 3 sw 0 0, .agg (bytesG h.1)] (wObj st s m sq sw sv so n dg K Z S out) (fun g O' => g = .tuple [] ∧ O' = wObj st s m sq sw sv so n dg K Z S out) →
      GCalls Try.prog 29 [.ptr 3 sw 0 0, .agg (bytesG h.1)] (wObj st s m sq sw sv so n dg K Z S out) (fun g O' => ∃ sv' Z', g = .tuple [] ∧ O' = if pushed m dn S h = true then wObj st s m sq sw sv' so (n + 1) dg (K ++ [(h, parsM m h)]) Z' (S ++ [h]) out else wObj st s m sq sw sv' so n dg K Z' S out) := fun hp hc => by
    rw [hp]
    refine hc.mono ?_
    rintro g O' ⟨rfl, rfl⟩
    exact ⟨sv, Z, rfl, by rw [if_neg (by simp)]⟩
  cases hl : look m h with
  | none => exact stay (by unfold pushed; rw [hl]; rfl) (gPush1 m hm h st s sq sw sv so n dg K Z S out hl hn)
  | some l =>
    rw [parsM_some hl]
    rw [parsM_some hl] at stay
    by_cases hS : h ∈ S
    · exact stay (by unfold pushed; rw [hl]; simp [hS]) (gPush2 m hm h st s sq sw sv so n dg K Z S out l hl hS hn)
    · cases hd with
      | nil =>
        have hp : pushed m (fun _ => false) S h = true := by unfold pushed; rw [hl]; simp [hS]
        rw [hp]
        refine (gPush5 m hm h st s sq sw sv so n K Z S out l hl hS hK hn).mono ?_
        rintro g O' ⟨sv', rfl, rfl⟩
        exact ⟨sv', [], rfl, by rw [if_pos rfl]⟩
      | fn F caps dn hF =>
        have hF := hF h
        cases hb : dn h with
        | true =>
          rw [hb] at hF
          exact stay (by unfold pushed; rw [hl, hb]; simp) (gPush3 m hm h st s sq sw sv so n F caps K Z S out l hl hS hF hn)
        | false =>
          rw [hb] at hF
          have hp : pushed m dn S h = true := by unfold pushed; rw [hl, hb]; simp [hS]
          rw [hp]
          refine (gPush4 m hm h st s sq sw sv so n F caps K Z S out l hl hS hF hK hn).mono ?_
          rintro g O' ⟨sv', rfl, rfl⟩
          exact ⟨sv', [], rfl, by rw [if_pos rfl]⟩
theorem gStep1 (m : GM) (hm : GMOK m) (st s sq sw sv so n : Nat) (dg : GVal) (dn : Hs → Bool) (hd : DoneG dg dn) (K Z : List Cm) (x p : Hs) (r S out : List Hs) (hK : K.length ≤ 999999) (hn : n = K.length) :
    GCalls Try.prog 30 [.ptr 3 sw 0 0] (wObj st s m sq sw sv so (n + 1) dg (K ++ [(x, p :: r)]) Z S out) (fun g O' => ∃ sv' Z', g = .tuple [] ∧ O' = if pushed m dn S p = true then wObj st s m sq sw sv' so (n + 2) dg (K ++ [(x, r)] ++ [(p, parsM m p)]) Z' (S ++ [p]) out else wObj st s m sq sw sv' so (n + 1) dg (K ++ [(x, r)]) Z' S out) := by
  subst hn
  have eS : (csG (K ++ [(x, p :: r)] ++ Z)).getD K.length [] = bytesG x.1 ++ [.slice (hsG (p :: r)) .none] := by
    rw [csG_at _ _ (by simp)]
    simp [List.getD, comG]
  have d1 : ((K.length : Int) + 1 - 1).toNat = K.length := by omega
  have eH : (hsG (p :: r)).getD 0 [] = bytesG p.1 := rfl
  have d2 : ((0 : Int) < (r.length : Int) + 1) = True := eq_true (by omega)
  have eD : List.drop (Int.toNat 1) (List.take ((r.length : Int) + 1).toNat (hsG (p :: r))) = hsG r := by
    have e : ((r.length : Int) + 1).toNat = (hsG (p :: r)).length := by rw [hsG_len]; simp
    rw [e, List.take_length]; rfl
  have eW : (csG (K ++ [(x, p :: r)] ++ Z)).set K.length (bytesG x.1 ++ [.slice (hsG r) .none]) = csG (K ++ [(x, r)] ++ Z) := by
    rw [csG_app, csG_app, csG_app, csG_app, List.append_assoc, List.set_append_right _ _ (by rw [csG_len]; omega), csG_len, Nat.sub_self, List.append_assoc]
    rfl
  have cP := gPush m hm p st s sq sw sv so (K.length + 1) dg dn hd (K ++ [(x, r)]) Z S out (by simp; omega) (by simp)
  refine GCalls.dropTo ?_
  refine h30.calls mixS (by simp) ?_
  simp only [gstart, s30, List.cons_append, List.nil_append, List.length_cons, List.length_nil, Nat.reduceAdd, Nat.reduceSub, List.replicate_succ, List.replicate_zero]
  simp +contextual -implicitDefEqProofs (maxSteps := 2000000) (disch := omega) only [drawC, drawK, keepT, ↓lenV, binV, optV, ↓loadV, ↓storeV, ↓fieldAddrV, ↓indexAddrV, ↓allocV, ↓buildSliceV, ↓sliceV, ↓nilV, ↓appendV, ↓srcV, bound, cutTag, hiTag, fillE, GVal.cells, GVal.ofConst, ↓resV, resG, ↓reduceIte, Nat.reduceEqDiff, Nat.reduceAdd, Nat.reduceSub, Nat.reduceLeDiff, reduceCtorEq, ↓asrcV, Tag.cap, GVal.solid, Nat.reduceBEq, Nat.reduceMul, Nat.reduceLT, vcA, ↓vcB, vcC, fbFd, e30, kfind_h, csG_len, all_csG, eS, eH, d1, d2, eD, eW, all_hsG, toNat0, setO_6, setO_7, true_imp_iff, Nat.sub_zero, List.drop_zero, hsG_len, List.length_append, List.length_cons, List.length_nil, List.length_singleton, vcD, v33, v32]
  refine ⟨by omega, by omega, by omega, by omega, by omega, by omega, fun u => ⟨by omega, by omega, by omega, by omega, by omega, ?_⟩⟩
  refine (GCalls.tail cP (by rintro g O' ⟨_, _, rfl, rfl⟩; split <;> exact ⟨rfl, by simp⟩) rfl (by simp) [.row u 32 [bytesG p.1]]).mono ?_
  rintro g O' ⟨_, ⟨sv', Z', rfl, rfl⟩, rfl⟩
  simp +contextual -implicitDefEqProofs (maxSteps := 2000000) (disch := omega) only [drawC, drawK, keepT, ↓lenV, binV, optV, ↓loadV, ↓storeV, ↓fieldAddrV, ↓indexAddrV, ↓allocV, ↓buildSliceV, ↓sliceV, ↓nilV, ↓appendV, ↓srcV, bound, cutTag, hiTag, fillE, GVal.cells, GVal.ofConst, ↓resV, resG, ↓reduceIte, Nat.reduceEqDiff, Nat.reduceAdd, Nat.reduceSub, Nat.reduceLeDiff, reduceCtorEq, ↓asrcV, Tag.cap, GVal.solid, Nat.reduceBEq, Nat.reduceMul, Nat.reduceLT, vcA, ↓vcB, vcC, fbFd, e30, vcD]
  exact ⟨_, _, _, rfl, leA_refl _, sv', Z', rfl, rfl⟩
theorem gStep0 (m : GM) (st s sq sw sv so n : Nat) (dg : GVal) (K Z : List Cm) (x : Hs) (S out : List Hs) (hK : K.length ≤ 999999) (ho : out.length ≤ 1000000) (hn : n = K.length) :
    GCalls Try.prog 30 [.ptr 3 sw 0 0] (wObj st s m sq sw sv so (n + 1) dg (K ++ [(x, [])]) Z S out) (fun g O' => ∃ so', g = .tuple [] ∧ O' = wObj st s m sq sw sv so' n dg K ((x, []) :: Z) S (out ++ [x])) := by
  subst hn
  have eS : (csG (K ++ [(x, [])] ++ Z)).getD K.length [] = bytesG x.1 ++ [.slice (hsG []) .none] := by
    rw [csG_at _ _ (by simp)]
    simp [List.getD, comG]
  have d1 : ((K.length : Int) + 1 - 1).toNat = K.length := by omega
  refine h30.calls mixS (by simp) ?_
  simp only [gstart, s30, List.cons_append, List.nil_append, List.length_cons, List.length_nil, Nat.reduceAdd, Nat.reduceSub, List.replicate_succ, List.replicate_zero]
  simp +contextual -implicitDefEqProofs (maxSteps := 2000000) (disch := omega) only [drawC, drawK, keepT, ↓lenV, binV, optV, ↓loadV, ↓storeV, ↓fieldAddrV, ↓indexAddrV, ↓allocV, ↓buildSliceV, ↓sliceV, ↓nilV, ↓appendV, ↓srcV, bound, cutTag, hiTag, fillE, GVal.cells, GVal.ofConst, ↓resV, resG, ↓reduceIte, Nat.reduceEqDiff, Nat.reduceAdd, Nat.reduceSub, Nat.reduceLeDiff, reduceCtorEq, ↓asrcV, Tag.cap, GVal.solid, Nat.reduceBEq, Nat.reduceMul, Nat.reduceLT, vcA, ↓vcB, vcC, fbFd, e30, kfind_h, csG_len, all_csG, eS, d1, toNat0, setO_6, setO_7, Int.lt_irrefl, false_imp_iff, true_and, Nat.sub_zero, List.drop_zero, hsG_len, all_hsG, List.length_append, List.length_cons, List.length_nil, List.length_singleton, vcD, v33, v32]
  refine ⟨by omega, by omega, by omega, by omega, by omega, by omega, by omega, fun so' => ⟨by omega, by omega, by omega, so', ?_⟩⟩
  simp [hsG_app, hsG]
end Gv.Try
