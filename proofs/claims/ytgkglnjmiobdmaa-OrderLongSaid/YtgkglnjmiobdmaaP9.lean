/- Contracts: graph's round, joinedBy, Add, New. -/
import Derived.Test.YtgkglnjmiobdmaaP8
import Derived.Test.YtgkglnjmiobdmaaP6
import Derived.KernelRfl
set_option linter.unusedVariables false
set_option linter.unusedSimpArgs false
set_option maxRecDepth 20000
set_option maxHeartbeats 4000000
namespace Gv.Try
open Go Gv Go.Proofs
theorem parsM_some {m : GM} {h : Hs} {l : List Hs} (e : look m h = some l) : parsM m h = l := by rw [parsM, e]; rfl
theorem parsM_none {m : GM} {h : Hs} (e : look m h = none) : parsM m h = [] := by rw [parsM, e]; rfl
theorem gRound1 (a : GObj) (M : GM) (h : Hs) (s : Nat) (l : List Hs) (el : look M h = some l) : GCalls Try.prog 63 [.agg (bytesG h.1), .ref [.map 1 s]] [a, .map s (kvG encL M)] (fun g O' => g = .slice (hsG l) .none ∧ O' = [a, .map s (kvG encL M)]) := by
  obtain ⟨i, hi, hv, _⟩ := look_idx encL M h l el
  refine h63.calls mixS (by simp) ?_
  simp only [gstart, s63, List.cons_append, List.nil_append, List.length_cons, List.length_nil, Nat.reduceAdd, Nat.reduceSub, List.replicate_succ, List.replicate_zero]
  simp +contextual -implicitDefEqProofs (maxSteps := 2000000) (disch := omega) only [optV, ↓loadV, ↓boxV, ↓sliceV, bound, cutTag, hiTag, GVal.cells, grp, GVal.ofConst, ↓resV, resG, List.map, List.headD, List.take, List.drop, ↓reduceIte, Nat.reduceEqDiff, Nat.reduceAdd, Nat.reduceSub, Nat.reduceLeDiff, reduceCtorEq, implies_true, ne_eq, ↓lookupV, keyOk, keyCells, pairG, Tag.cap, List.replicate, allSolid, GVal.solid, Nat.reduceBEq, Nat.reduceMul, Nat.reduceLT, List.length_map, List.length_range, splice, vcA, ↓vcB, vcC, fbFd, e63, kfind_h, hi, hv, solidH, len32, take32]
theorem gRound0 (a : GObj) (M : GM) (h : Hs) (s : Nat) (el : look M h = none) : GCalls Try.prog 63 [.agg (bytesG h.1), .ref [.map 1 s]] [a, .map s (kvG encL M)] (fun g O' => g = .slice [] .nil ∧ O' = [a, .map s (kvG encL M)]) := by
  obtain ⟨hi, _⟩ := look_none encL M h el
  refine h63.calls mixS (by simp) ?_
  simp only [gstart, s63, List.cons_append, List.nil_append, List.length_cons, List.length_nil, Nat.reduceAdd, Nat.reduceSub, List.replicate_succ, List.replicate_zero]
  simp +contextual -implicitDefEqProofs (maxSteps := 2000000) (disch := omega) only [optV, ↓loadV, ↓boxV, ↓sliceV, bound, cutTag, hiTag, GVal.cells, grp, GVal.ofConst, ↓resV, resG, List.map, List.headD, List.take, List.drop, ↓reduceIte, Nat.reduceEqDiff, Nat.reduceAdd, Nat.reduceSub, Nat.reduceLeDiff, reduceCtorEq, implies_true, ne_eq, ↓lookupV, keyOk, keyCells, pairG, Tag.cap, List.replicate, allSolid, GVal.solid, Nat.reduceBEq, Nat.reduceMul, Nat.reduceLT, List.length_map, List.length_range, splice, vcA, ↓vcB, vcC, fbFd, e63, kfind_h, hi, solidH, len32, take32]
theorem gRoundN (a : GObj) (M : GM) (h : Hs) (s : Nat) : GCalls Try.prog 63 [.agg (bytesG h.1), .ref [.map 1 s]] [a, .map s (kvG encL M)] (fun g O' => g = .slice (hsG (parsM M h)) .none ∧ O' = [a, .map s (kvG encL M)]) := by
  cases el : look M h with
  | some l => rw [parsM_some el]; exact gRound1 a M h s l el
  | none =>
    rw [parsM_none el]
    refine GCalls.into ((gRound0 a M h s el).mono ?_)
    rintro g O' ⟨rfl, rfl⟩
    exact GInto.weak (O := [a, .map s (kvG encL M)]) (X := []) (by rw [leG_none]; rfl) (.here ⟨rfl, rfl⟩)
noncomputable def roundE (m M : GM) (c : Cm) : Er := by
  classical exact if (look m c.1).isSome then none else if Reach (parsM M) c.2 c.1 then some (some c.1, 12) else none
def hashesM (M : GM) : List Hs := M.map (·.1) ++ M.flatMap (·.2)
theorem parsM_mem {M : GM} {x y : Hs} (h : y ∈ parsM M x) : ∃ p ∈ M, p.1 = x ∧ y ∈ p.2 := by
  induction M with
  | nil => cases h
  | cons p r ih =>
    unfold parsM at h
    rw [look] at h
    by_cases e : x = p.1
    · rw [if_pos e] at h
      exact ⟨p, by simp, e.symm, h⟩
    · rw [if_neg e] at h
      obtain ⟨q, h1, h2, h3⟩ := ih h
      exact ⟨q, by simp [h1], h2, h3⟩
theorem look_mem {M : GM} {x : Hs} {l : List Hs} (h : look M x = some l) : (x, l) ∈ M := by
  induction M with
  | nil => cases h
  | cons p r ih =>
    rw [look] at h
    by_cases e : x = p.1
    · rw [if_pos e] at h
      cases h
      rw [e]; simp
    · rw [if_neg e] at h
      simp [ih h]
structure GMOK (M : GM) : Prop where
  len : M.length ≤ 10000
  row : ∀ p ∈ M, p.2.length ≤ 4
theorem GMOK.pars {M : GM} (h : GMOK M) (x : Hs) : (parsM M x).length ≤ 4 := by
  cases e : look M x with
  | some l => rw [parsM_some e]; exact h.row _ (look_mem e)
  | none => rw [parsM_none e]; simp
theorem GMOK.hashes {M : GM} (h : GMOK M) : (hashesM M).length ≤ 50000 := by
  have : ∀ M : GM, (∀ p ∈ M, p.2.length ≤ 4) → (hashesM M).length ≤ 5 * M.length := by
    intro M
    induction M with
    | nil => intro _; simp [hashesM]
    | cons p r ih =>
      intro h
      have := ih fun q hq => h q (by simp [hq])
      have := h p (by simp)
      simp only [hashesM, List.map_cons, List.flatMap_cons, List.length_append, List.length_cons] at *
      omega
  have := this M h.row
  have := h.len
  omega
theorem pars_in {M : GM} {x y : Hs} (h : y ∈ parsM M x) : y ∈ hashesM M := by
  obtain ⟨p, h1, _, h3⟩ := parsM_mem h
  exact List.mem_append_right _ (List.mem_flatMap.2 ⟨p, h1, h3⟩)
theorem gReachedM (M : GM) (hM : GMOK M) (l : List Hs) (t : Tag) (ht : t = .nil → l = []) (hl : l.length ≤ 10000) {O : List GObj} {i j : Nat} {a : GObj} {s : Nat} (hi : O[i]? = some a) (hj : O[j]? = some (.map s (kvG encL M))) (hij : i ≠ j) (hca : a.isClock = false) (hc : clockOf O = none) :
    GCalls Try.prog 41 [.slice (hsG l) t, .func (.func 63) [] [.ref [.map j s]]] O (fun g O' => ∃ st kv, g = .map O.length st ∧ O' = O ++ [.map st kv] ∧ ∃ S : List Hs, kv = kvG encB (setM S) ∧ S.Nodup ∧ (∀ x, x ∈ S ↔ Reach (parsM M) l x)) := by
  have h := gReached (caps := [.ref [.map 1 s]]) (parsM M) (fun h => gRoundN a M h s) hca l t ht (l ++ hashesM M) (fun x hx => List.mem_append_left _ hx) (fun x _ y hy => List.mem_append_right _ (pars_in hy)) 4 (fun x _ => hM.pars x) (by have := hM.hashes; rw [List.length_append]; omega) (by omega) (by omega)
  refine GCalls.on2new (R := fun st kv => ∃ S : List Hs, kv = kvG encB (setM S) ∧ S.Nodup ∧ (∀ x, x ∈ S ↔ Reach (parsM M) l x)) (h.mono ?_) i j hij hi hj ⟨GLe.refl _, GLe.func _ trivial ⟨GLe.ref ⟨GLe.map _ _ _, trivial⟩, trivial⟩, trivial⟩ hca hc
  rintro g O' ⟨st, S, rfl, rfl, h1, h2, _⟩
  exact ⟨st, _, rfl, rfl, S, rfl, h1, h2⟩
noncomputable def roundP (m M : GM) (cs : List Cm) : Er := cs.findSome? (roundE m M)
theorem gRound (m M : GM) (cs : List Cm) (tc : Tag) (st s s2 : Nat) (hM : GMOK M) (hc : cs.length ≤ 1000000) (hp : ∀ c ∈ cs, c.2.length ≤ 10000) :
    GCalls Try.prog 48 [.ptr 0 st 0 0, .map 2 s2, .slice (csG cs) tc] (gObj st s m ++ [.map s2 (kvG encL M)]) (fun g O' => g = errV (roundP m M cs) ∧ O' = gObj st s m ++ [.map s2 (kvG encL M)]) := by
  refine GCalls.dropTo ?_
  refine h48.calls mixS (by simp) ?_
  simp only [gstart, s48, List.cons_append, List.nil_append, List.length_cons, List.length_nil, Nat.reduceAdd, Nat.reduceSub, List.replicate_succ, List.replicate_zero]
  simp +contextual -implicitDefEqProofs (maxSteps := 2000000) (disch := omega) only [drawC, drawK, keepT, ↓lenV, binV, ↓loadV, ↓storeV, ↓fieldAddrV, ↓indexAddrV, ↓allocV, ↓boxV, ↓nilV, ↓ifaceV, GVal.cells, grp, GVal.ofConst, ↓resV, resG, List.map, List.headD, List.take, List.drop, ↓reduceIte, Nat.reduceEqDiff, Nat.reduceAdd, Nat.reduceSub, Nat.reduceLeDiff, reduceCtorEq, implies_true, ne_eq, ↓lookupV, keyOk, keyCells, pairG, Tag.cap, List.replicate, allSolid, GVal.solid, Nat.reduceBEq, Nat.reduceMul, Nat.reduceLT, List.length_map, List.length_range, splice, vcA, ↓vcB, vcC, fbFd, e48, csG_len]
  refine vcSLoop_by (ι := { k : Nat // k ≤ cs.length ∧ cs.findSome? (roundE m M) = (cs.drop k).findSome? (roundE m M) }) (fun k => ⟨[.ptr 0 st 0 0, .any, .any, .any, .ref [.map 2 s2]] ++ List.replicate 6 .any ++ [.slice (csG cs) tc, .int .i64 cs.length, .int .i64 (k.1 : Nat)] ++ List.replicate 26 .any, [.row st 1 [[.map 1 s]], .map s (kvG encL m), .map s2 (kvG encL M)]⟩) (fun k => cs.length - k.1) ?_ ?_
  · exact Into.first ⟨0, by omega, by simp⟩ ⟨[], by simp⟩ (by simp [WL, leG_self, leG_any, leG_int])
  · rintro ⟨k, hk, hf⟩
    by_cases h : k < cs.length
    · have d0 : ((k : Int) < (cs.length : Int)) = True := eq_true (by omega)
      have eS := csG_at cs k h
      have hx := hp _ (memC h)
      rw [findC h] at hf
      generalize cs.getD k default = x at *
      obtain ⟨xh, xp⟩ := x
      change xp.length ≤ 10000 at hx
      cases el : look m xh with
      | some l =>
        obtain ⟨i, hi, hv, _⟩ := look_idx encL m xh l el
        have en : roundE m M (xh, xp) = none := by unfold roundE; rw [el]; simp
        rw [en] at hf
        simp +contextual -implicitDefEqProofs (maxSteps := 2000000) (disch := omega) only [drawC, drawK, keepT, ↓lenV, binV, ↓loadV, ↓storeV, ↓fieldAddrV, ↓indexAddrV, ↓allocV, ↓boxV, ↓nilV, ↓ifaceV, GVal.cells, grp, GVal.ofConst, ↓resV, resG, List.map, List.headD, List.take, List.drop, ↓reduceIte, Nat.reduceEqDiff, Nat.reduceAdd, Nat.reduceSub, Nat.reduceLeDiff, reduceCtorEq, implies_true, ne_eq, ↓lookupV, keyOk, keyCells, pairG, Tag.cap, List.replicate, allSolid, GVal.solid, Nat.reduceBEq, Nat.reduceMul, Nat.reduceLT, List.length_map, List.length_range, splice, vcA, ↓vcB, vcC, fbFd, e48, csG_len, hsG_len, comG, take32a, drop32a, drop33a, take33a, len33, solid33, solidH, len32, take32, kfind_h, d0, eS, hi, hv]
        refine ⟨by omega, fun u => ?_⟩
        exact Into.at ⟨k + 1, by omega, hf⟩ (by show _ < _; simp; omega) ⟨_, rfl⟩ (by simp [WL, leG_self, leG_any, leG_int])
      | none =>
        obtain ⟨hi, _⟩ := look_none encL m xh el
        simp +contextual -implicitDefEqProofs (maxSteps := 2000000) (disch := omega) only [drawC, drawK, keepT, ↓lenV, binV, ↓loadV, ↓storeV, ↓fieldAddrV, ↓indexAddrV, ↓allocV, ↓boxV, ↓nilV, ↓ifaceV, GVal.cells, grp, GVal.ofConst, ↓resV, resG, List.map, List.headD, List.take, List.drop, ↓reduceIte, Nat.reduceEqDiff, Nat.reduceAdd, Nat.reduceSub, Nat.reduceLeDiff, reduceCtorEq, implies_true, ne_eq, ↓lookupV, keyOk, keyCells, pairG, Tag.cap, List.replicate, allSolid, GVal.solid, Nat.reduceBEq, Nat.reduceMul, Nat.reduceLT, List.length_map, List.length_range, splice, vcA, ↓vcB, vcC, fbFd, e48, csG_len, hsG_len, comG, take32a, drop32a, drop33a, take33a, len33, solid33, solidH, len32, take32, kfind_h, d0, eS, hi]
        refine ⟨by omega, fun u => ?_⟩
        refine (gReachedM M hM xp .none (by simp) hx (i := 1) (j := 2) rfl rfl (by simp) rfl rfl).mono ?_
        rintro g O' ⟨sr, kv, rfl, rfl, S, rfl, hS, hR⟩
        by_cases hm : xh ∈ S
        · obtain ⟨i2, hi2, hv2, _⟩ := look_idx encB (setM S) xh true (by rw [look_set, if_pos hm])
          have en : roundE m M (xh, xp) = some (some xh, 12) := by
            unfold roundE; rw [el]; simp [(hR xh).1 hm]
          rw [en] at hf
          simp +contextual -implicitDefEqProofs (maxSteps := 2000000) (disch := omega) only [drawC, drawK, keepT, ↓lenV, binV, ↓loadV, ↓storeV, ↓fieldAddrV, ↓indexAddrV, ↓allocV, ↓boxV, ↓nilV, ↓ifaceV, GVal.cells, grp, GVal.ofConst, ↓resV, resG, List.map, List.headD, List.take, List.drop, ↓reduceIte, Nat.reduceEqDiff, Nat.reduceAdd, Nat.reduceSub, Nat.reduceLeDiff, reduceCtorEq, implies_true, ne_eq, ↓lookupV, keyOk, keyCells, pairG, Tag.cap, List.replicate, allSolid, GVal.solid, Nat.reduceBEq, Nat.reduceMul, Nat.reduceLT, List.length_map, List.length_range, splice, vcA, ↓vcB, vcC, fbFd, e48, csG_len, hsG_len, comG, take32a, drop32a, drop33a, take33a, len33, solid33, solidH, len32, take32, kfind_h, hi2, hv2]
          refine ⟨⟨[_], rfl⟩, ?_⟩
          refine (gOf xh 12).then ?_ (by rfl)
          simp +contextual -implicitDefEqProofs (maxSteps := 2000000) (disch := omega) only [drawC, drawK, keepT, ↓lenV, binV, ↓loadV, ↓storeV, ↓fieldAddrV, ↓indexAddrV, ↓allocV, ↓boxV, ↓nilV, ↓ifaceV, GVal.cells, grp, GVal.ofConst, ↓resV, resG, List.map, List.headD, List.take, List.drop, ↓reduceIte, Nat.reduceEqDiff, Nat.reduceAdd, Nat.reduceSub, Nat.reduceLeDiff, reduceCtorEq, implies_true, ne_eq, ↓lookupV, keyOk, keyCells, pairG, Tag.cap, List.replicate, allSolid, GVal.solid, Nat.reduceBEq, Nat.reduceMul, Nat.reduceLT, List.length_map, List.length_range, splice, vcA, ↓vcB, vcC, fbFd, e48]
          unfold roundP
          rw [hf]
          exact ⟨_, gObj st s m ++ [.map s2 (kvG encL M)], _, rfl, leA_refl _, rfl, rfl⟩
        · obtain ⟨hi2, _⟩ := look_none encB (setM S) xh (by rw [look_set, if_neg hm])
          have en : roundE m M (xh, xp) = none := by
            have hnr : ¬ Reach (parsM M) xp xh := fun q => hm ((hR xh).2 q)
            unfold roundE; rw [el]; simp [hnr]
          rw [en] at hf
          simp +contextual -implicitDefEqProofs (maxSteps := 2000000) (disch := omega) only [drawC, drawK, keepT, ↓lenV, binV, ↓loadV, ↓storeV, ↓fieldAddrV, ↓indexAddrV, ↓allocV, ↓boxV, ↓nilV, ↓ifaceV, GVal.cells, grp, GVal.ofConst, ↓resV, resG, List.map, List.headD, List.take, List.drop, ↓reduceIte, Nat.reduceEqDiff, Nat.reduceAdd, Nat.reduceSub, Nat.reduceLeDiff, reduceCtorEq, implies_true, ne_eq, ↓lookupV, keyOk, keyCells, pairG, Tag.cap, List.replicate, allSolid, GVal.solid, Nat.reduceBEq, Nat.reduceMul, Nat.reduceLT, List.length_map, List.length_range, splice, vcA, ↓vcB, vcC, fbFd, e48, csG_len, hsG_len, comG, take32a, drop32a, drop33a, take33a, len33, solid33, solidH, len32, take32, kfind_h, hi2]
          refine ⟨⟨[_], rfl⟩, ?_⟩
          exact Into.at ⟨k + 1, by omega, hf⟩ (by show _ < _; simp; omega) ⟨_, rfl⟩ (by simp [WL, leG_self, leG_any, leG_int])
    · have d0 : ((k : Int) < (cs.length : Int)) = False := eq_false (by omega)
      rw [List.drop_of_length_le (by omega)] at hf
      simp +contextual -implicitDefEqProofs (maxSteps := 2000000) (disch := omega) only [drawC, drawK, keepT, ↓lenV, binV, ↓loadV, ↓storeV, ↓fieldAddrV, ↓indexAddrV, ↓allocV, ↓boxV, ↓nilV, ↓ifaceV, GVal.cells, grp, GVal.ofConst, ↓resV, resG, List.map, List.headD, List.take, List.drop, ↓reduceIte, Nat.reduceEqDiff, Nat.reduceAdd, Nat.reduceSub, Nat.reduceLeDiff, reduceCtorEq, implies_true, ne_eq, ↓lookupV, keyOk, keyCells, pairG, Tag.cap, List.replicate, allSolid, GVal.solid, Nat.reduceBEq, Nat.reduceMul, Nat.reduceLT, List.length_map, List.length_range, splice, vcA, ↓vcB, vcC, fbFd, e48, csG_len, hsG_len, comG, take32a, drop32a, drop33a, take33a, len33, solid33, solidH, len32, take32, kfind_h, d0]
      unfold roundP
      rw [hf]
      exact ⟨_, gObj st s m ++ [.map s2 (kvG encL M)], [], rfl, leA_refl _, rfl, rfl⟩
theorem errV_some (e : Option Hs × Int) : ∃ ty v, errV (some e) = .iface ty v := by
  obtain ⟨h, n⟩ := e
  cases h with
  | none => exact ⟨_, _, rfl⟩
  | some h => exact ⟨_, _, rfl⟩
theorem kvG_len {α : Type} (enc : α → GVal) (m : List (Hs × α)) : (kvG enc m).length = m.length := by simp [kvG]
structure GOK (m : GM) : Prop where
  len : m.length ≤ 1000
  row : ∀ p ∈ m, p.2.length ≤ 4
theorem sizesP_none {gr : Int} {nh : Nat} {cs : List Cm} (h : sizesP gr nh cs = none) : cs.length ≤ 200 ∧ nh ≤ 200 ∧ (gr = 1 ∨ gr = 2) ∧ ∀ c ∈ cs, c.2.length ≤ 4 ∧ twiceB c.2 = false := by
  unfold sizesP at h
  split at h
  · cases h
  · rename_i hb
    unfold badReq at hb
    refine ⟨by omega, by omega, by omega, fun c hc => ?_⟩
    have := List.findSome?_eq_none_iff.1 h c hc
    unfold sizeE at this
    split at this
    · cases this
    · split at this
      · cases this
      · rename_i h1 h2; exact ⟨by omega, by simpa using h2⟩
theorem mset_mem {α : Type} {m : List (Hs × α)} {h : Hs} {v : α} {p : Hs × α} (hp : p ∈ mset m h v) : p ∈ m ∨ p = (h, v) := by
  induction m with
  | nil => simp [mset] at hp; exact .inr hp
  | cons q r ih =>
    rw [mset] at hp
    split at hp
    · rcases List.mem_cons.1 hp with e | e
      · exact .inr e
      · exact .inl (List.mem_cons_of_mem _ e)
    · rcases List.mem_cons.1 hp with e | e
      · exact .inl (by rw [e]; simp)
      · exact (ih e).imp (List.mem_cons_of_mem _) id
theorem joinP_ok : ∀ {cs : List Cm} {m M : GM}, joinP m cs = .ok M → (∀ p ∈ m, p.2.length ≤ 4) → (∀ c ∈ cs, c.2.length ≤ 4) → M.length ≤ m.length + cs.length ∧ ∀ p ∈ M, p.2.length ≤ 4
  | [], m, M, h, hm, hc => by rw [joinP] at h; cases h; exact ⟨by simp, hm⟩
  | c :: r, m, M, h, hm, hc => by
    rw [joinP] at h
    have hr : ∀ x ∈ r, x.2.length ≤ 4 := fun x hx => hc x (by simp [hx])
    have hx := hc c (by simp)
    unfold joinE at h
    cases el : look m c.1 with
    | some l =>
      simp only [el] at h
      split at h
      · rename_i m' e
        split at e
        · cases e
          obtain ⟨h1, h2⟩ := joinP_ok h hm hr
          exact ⟨by simp only [List.length_cons]; omega, h2⟩
        · cases e
      · cases h
    | none =>
      simp only [el] at h
      obtain ⟨h1, h2⟩ := joinP_ok h (fun p hp => by
        rcases mset_mem hp with q | q
        · exact hm p q
        · rw [q]; exact hx) hr
      have := mset_len m c.1 c.2
      rw [el] at this
      simp at this
      exact ⟨by simp only [List.length_cons]; omega, h2⟩
noncomputable def joinedP (gr : Int) (m : GM) (cs : List Cm) (hs : List Hs) : Except (Option Hs × Int) GM := match sizesP gr hs.length cs with
  | some e => .error e
  | none => match joinP m cs with
    | .error (h, n) => .error (some h, n)
    | .ok M => match lackP M cs hs with
      | some e => .error e
      | none => match roundP m M cs with
        | some e => .error e
        | none => if 1000 < M.length then .error (none, 13) else .ok M
def jdV (st : Nat) : Except (Option Hs × Int) GM → GVal
  | .ok _ => .tuple [.map 2 st, .lit .nilIface]
  | .error e => .tuple [.lit (.map none), errV (some e)]
def jdO (st : Nat) : Except (Option Hs × Int) GM → List GObj
  | .ok M => [.map st (kvG encL M)]
  | .error _ => []
theorem gJoinedBy (m : GM) (hm : GOK m) (cs : List Cm) (hs : List Hs) (th : Tag) (gr : Int) (st s : Nat) (hc : cs.length ≤ 1000000) (hh : hs.length ≤ 1000000) (hp : ∀ c ∈ cs, c.2.length ≤ 1000000) :
    GCalls Try.prog 28 [.ptr 0 st 0 0, .agg (reqG cs hs th gr)] (gObj st s m) (fun g O' => ∃ s2, g = jdV s2 (joinedP gr m cs hs) ∧ O' = gObj st s m ++ jdO s2 (joinedP gr m cs hs)) := by
  have c1 := gSizes cs hs th gr hc hh hp
  cases e1 : sizesP gr hs.length cs with
  | some e =>
    have ej : joinedP gr m cs hs = .error e := by unfold joinedP; rw [e1]
    rw [e1] at c1
    obtain ⟨ty, v, ev⟩ := errV_some e
    rw [ev] at c1
    rw [ej]
    refine h28.calls mixS (by simp) ?_
    simp only [gstart, s28, List.cons_append, List.nil_append, List.length_cons, List.length_nil, Nat.reduceAdd, Nat.reduceSub, List.replicate_succ, List.replicate_zero]
    simp +contextual -implicitDefEqProofs (maxSteps := 2000000) (disch := omega) only [↓lenV, binV, ↓loadV, ↓fieldAddrV, ↓boxV, ↓ifaceV, GVal.cells, grp, GVal.ofConst, ↓resV, resG, List.map, List.headD, List.take, List.drop, ↓reduceIte, Nat.reduceEqDiff, Nat.reduceAdd, Nat.reduceSub, Nat.reduceLeDiff, reduceCtorEq, implies_true, ne_eq, aggV, Tag.cap, List.replicate, allSolid, GVal.solid, Nat.reduceBEq, Nat.reduceMul, Nat.reduceLT, List.length_map, List.length_range, splice, vcA, ↓vcB, vcC, fbFd, e28]
    refine c1.then ?_ (by rfl)
    simp +contextual -implicitDefEqProofs (maxSteps := 2000000) (disch := omega) only [↓lenV, binV, ↓loadV, ↓fieldAddrV, ↓boxV, ↓ifaceV, GVal.cells, grp, GVal.ofConst, ↓resV, resG, List.map, List.headD, List.take, List.drop, ↓reduceIte, Nat.reduceEqDiff, Nat.reduceAdd, Nat.reduceSub, Nat.reduceLeDiff, reduceCtorEq, implies_true, ne_eq, aggV, Tag.cap, List.replicate, allSolid, GVal.solid, Nat.reduceBEq, Nat.reduceMul, Nat.reduceLT, List.length_map, List.length_range, splice, vcA, ↓vcB, vcC, fbFd, e28, Try.underlying34]
    exact ⟨0, by rw [jdV, ev], rfl⟩
  | none =>
    obtain ⟨n1, n2, n3, n4⟩ := sizesP_none e1
    rw [e1] at c1
    have c2 := gJoined m cs .none st s hc hp (fun h l e => by have := hm.row _ (look_mem e); simp only at this; omega)
    cases e2 : joinP m cs with
    | error x =>
      obtain ⟨xh, xn⟩ := x
      have ej : joinedP gr m cs hs = .error (some xh, xn) := by unfold joinedP; rw [e1]; simp only [e2]
      rw [e2] at c2
      rw [ej]
      refine h28.calls mixS (by simp) ?_
      simp only [gstart, s28, List.cons_append, List.nil_append, List.length_cons, List.length_nil, Nat.reduceAdd, Nat.reduceSub, List.replicate_succ, List.replicate_zero]
      simp +contextual -implicitDefEqProofs (maxSteps := 2000000) (disch := omega) only [↓lenV, binV, ↓loadV, ↓fieldAddrV, ↓boxV, ↓ifaceV, GVal.cells, grp, GVal.ofConst, ↓resV, resG, List.map, List.headD, List.take, List.drop, ↓reduceIte, Nat.reduceEqDiff, Nat.reduceAdd, Nat.reduceSub, Nat.reduceLeDiff, reduceCtorEq, implies_true, ne_eq, aggV, Tag.cap, List.replicate, allSolid, GVal.solid, Nat.reduceBEq, Nat.reduceMul, Nat.reduceLT, List.length_map, List.length_range, splice, vcA, ↓vcB, vcC, fbFd, e28]
      refine c1.then ?_ (by rfl)
      simp +contextual -implicitDefEqProofs (maxSteps := 2000000) (disch := omega) only [↓lenV, binV, ↓loadV, ↓fieldAddrV, ↓boxV, ↓ifaceV, GVal.cells, grp, GVal.ofConst, ↓resV, resG, List.map, List.headD, List.take, List.drop, ↓reduceIte, Nat.reduceEqDiff, Nat.reduceAdd, Nat.reduceSub, Nat.reduceLeDiff, reduceCtorEq, implies_true, ne_eq, aggV, Tag.cap, List.replicate, allSolid, GVal.solid, Nat.reduceBEq, Nat.reduceMul, Nat.reduceLT, List.length_map, List.length_range, splice, vcA, ↓vcB, vcC, fbFd, e28, Try.underlying34, errV]
      refine c2.mono ?_
      rintro g O' ⟨_, rfl, rfl⟩
      simp +contextual -implicitDefEqProofs (maxSteps := 2000000) (disch := omega) only [↓lenV, binV, ↓loadV, ↓fieldAddrV, ↓boxV, ↓ifaceV, GVal.cells, grp, GVal.ofConst, ↓resV, resG, List.map, List.headD, List.take, List.drop, ↓reduceIte, Nat.reduceEqDiff, Nat.reduceAdd, Nat.reduceSub, Nat.reduceLeDiff, reduceCtorEq, implies_true, ne_eq, aggV, Tag.cap, List.replicate, allSolid, GVal.solid, Nat.reduceBEq, Nat.reduceMul, Nat.reduceLT, List.length_map, List.length_range, splice, vcA, ↓vcB, vcC, fbFd, e28, Try.underlying34, joinV, joinO]
      exact ⟨0, rfl, rfl⟩
    | ok M =>
      obtain ⟨m1, m2⟩ := joinP_ok e2 hm.row (fun c hc => (n4 c hc).1)
      have hM : GMOK M := ⟨by have := hm.len; omega, m2⟩
      have c3 := fun s2 => GCalls.keep1 (gLacking M cs hs th gr s2 hc hh hp) (O := gObj st s m ++ [.map s2 (kvG encL M)]) (args' := [.map 2 s2, .agg (reqG cs hs th gr)]) 2 rfl rfl rfl rfl
      rw [e2] at c2
      cases e3 : lackP M cs hs with
      | some e =>
        have ej : joinedP gr m cs hs = .error e := by unfold joinedP; rw [e1]; simp only [e2, e3]
        rw [e3] at c3
        obtain ⟨ty, v, ev⟩ := errV_some e
        rw [ev] at c3
        rw [ej]
        refine GCalls.dropTo ?_
        refine h28.calls mixS (by simp) ?_
        simp only [gstart, s28, List.cons_append, List.nil_append, List.length_cons, List.length_nil, Nat.reduceAdd, Nat.reduceSub, List.replicate_succ, List.replicate_zero]
        simp +contextual -implicitDefEqProofs (maxSteps := 2000000) (disch := omega) only [↓lenV, binV, ↓loadV, ↓fieldAddrV, ↓boxV, ↓ifaceV, GVal.cells, grp, GVal.ofConst, ↓resV, resG, List.map, List.headD, List.take, List.drop, ↓reduceIte, Nat.reduceEqDiff, Nat.reduceAdd, Nat.reduceSub, Nat.reduceLeDiff, reduceCtorEq, implies_true, ne_eq, aggV, Tag.cap, List.replicate, allSolid, GVal.solid, Nat.reduceBEq, Nat.reduceMul, Nat.reduceLT, List.length_map, List.length_range, splice, vcA, ↓vcB, vcC, fbFd, e28]
        refine c1.then ?_ (by rfl)
        simp +contextual -implicitDefEqProofs (maxSteps := 2000000) (disch := omega) only [↓lenV, binV, ↓loadV, ↓fieldAddrV, ↓boxV, ↓ifaceV, GVal.cells, grp, GVal.ofConst, ↓resV, resG, List.map, List.headD, List.take, List.drop, ↓reduceIte, Nat.reduceEqDiff, Nat.reduceAdd, Nat.reduceSub, Nat.reduceLeDiff, reduceCtorEq, implies_true, ne_eq, aggV, Tag.cap, List.replicate, allSolid, GVal.solid, Nat.reduceBEq, Nat.reduceMul, Nat.reduceLT, List.length_map, List.length_range, splice, vcA, ↓vcB, vcC, fbFd, e28, Try.underlying34, errV]
        refine c2.mono ?_
        rintro g O' ⟨s2, rfl, rfl⟩
        simp +contextual -implicitDefEqProofs (maxSteps := 2000000) (disch := omega) only [↓lenV, binV, ↓loadV, ↓fieldAddrV, ↓boxV, ↓ifaceV, GVal.cells, grp, GVal.ofConst, ↓resV, resG, List.map, List.headD, List.take, List.drop, ↓reduceIte, Nat.reduceEqDiff, Nat.reduceAdd, Nat.reduceSub, Nat.reduceLeDiff, reduceCtorEq, implies_true, ne_eq, aggV, Tag.cap, List.replicate, allSolid, GVal.solid, Nat.reduceBEq, Nat.reduceMul, Nat.reduceLT, List.length_map, List.length_range, splice, vcA, ↓vcB, vcC, fbFd, e28, Try.underlying34, joinV, joinO]
        refine (c3 s2).mono ?_
        rintro g O' ⟨rfl, rfl⟩
        simp +contextual -implicitDefEqProofs (maxSteps := 2000000) (disch := omega) only [↓lenV, binV, ↓loadV, ↓fieldAddrV, ↓boxV, ↓ifaceV, GVal.cells, grp, GVal.ofConst, ↓resV, resG, List.map, List.headD, List.take, List.drop, ↓reduceIte, Nat.reduceEqDiff, Nat.reduceAdd, Nat.reduceSub, Nat.reduceLeDiff, reduceCtorEq, implies_true, ne_eq, aggV, Tag.cap, List.replicate, allSolid, GVal.solid, Nat.reduceBEq, Nat.reduceMul, Nat.reduceLT, List.length_map, List.length_range, splice, vcA, ↓vcB, vcC, fbFd, e28, Try.underlying34]
        exact ⟨_, gObj st s m, _, rfl, leA_refl _, 0, by rw [jdV, ev], rfl⟩
      | none =>
        have c4 := fun s2 => gRound m M cs .none st s s2 hM hc (fun c hc => by have := (n4 c hc).1; omega)
        rw [e3] at c3
        cases e4 : roundP m M cs with
        | some e =>
          have ej : joinedP gr m cs hs = .error e := by unfold joinedP; rw [e1]; simp only [e2, e3, e4]
          rw [e4] at c4
          obtain ⟨ty, v, ev⟩ := errV_some e
          rw [ev] at c4
          rw [ej]
          refine GCalls.dropTo ?_
          refine h28.calls mixS (by simp) ?_
          simp only [gstart, s28, List.cons_append, List.nil_append, List.length_cons, List.length_nil, Nat.reduceAdd, Nat.reduceSub, List.replicate_succ, List.replicate_zero]
          simp +contextual -implicitDefEqProofs (maxSteps := 2000000) (disch := omega) only [↓lenV, binV, ↓loadV, ↓fieldAddrV, ↓boxV, ↓ifaceV, GVal.cells, grp, GVal.ofConst, ↓resV, resG, List.map, List.headD, List.take, List.drop, ↓reduceIte, Nat.reduceEqDiff, Nat.reduceAdd, Nat.reduceSub, Nat.reduceLeDiff, reduceCtorEq, implies_true, ne_eq, aggV, Tag.cap, List.replicate, allSolid, GVal.solid, Nat.reduceBEq, Nat.reduceMul, Nat.reduceLT, List.length_map, List.length_range, splice, vcA, ↓vcB, vcC, fbFd, e28]
          refine c1.then ?_ (by rfl)
          simp +contextual -implicitDefEqProofs (maxSteps := 2000000) (disch := omega) only [↓lenV, binV, ↓loadV, ↓fieldAddrV, ↓boxV, ↓ifaceV, GVal.cells, grp, GVal.ofConst, ↓resV, resG, List.map, List.headD, List.take, List.drop, ↓reduceIte, Nat.reduceEqDiff, Nat.reduceAdd, Nat.reduceSub, Nat.reduceLeDiff, reduceCtorEq, implies_true, ne_eq, aggV, Tag.cap, List.replicate, allSolid, GVal.solid, Nat.reduceBEq, Nat.reduceMul, Nat.reduceLT, List.length_map, List.length_range, splice, vcA, ↓vcB, vcC, fbFd, e28, Try.underlying34, errV]
          refine c2.mono ?_
          rintro g O' ⟨s2, rfl, rfl⟩
          simp +contextual -implicitDefEqProofs (maxSteps := 2000000) (disch := omega) only [↓lenV, binV, ↓loadV, ↓fieldAddrV, ↓boxV, ↓ifaceV, GVal.cells, grp, GVal.ofConst, ↓resV, resG, List.map, List.headD, List.take, List.drop, ↓reduceIte, Nat.reduceEqDiff, Nat.reduceAdd, Nat.reduceSub, Nat.reduceLeDiff, reduceCtorEq, implies_true, ne_eq, aggV, Tag.cap, List.replicate, allSolid, GVal.solid, Nat.reduceBEq, Nat.reduceMul, Nat.reduceLT, List.length_map, List.length_range, splice, vcA, ↓vcB, vcC, fbFd, e28, Try.underlying34, joinV, joinO]
          refine (c3 s2).mono ?_
          rintro g O' ⟨rfl, rfl⟩
          simp +contextual -implicitDefEqProofs (maxSteps := 2000000) (disch := omega) only [↓lenV, binV, ↓loadV, ↓fieldAddrV, ↓boxV, ↓ifaceV, GVal.cells, grp, GVal.ofConst, ↓resV, resG, List.map, List.headD, List.take, List.drop, ↓reduceIte, Nat.reduceEqDiff, Nat.reduceAdd, Nat.reduceSub, Nat.reduceLeDiff, reduceCtorEq, implies_true, ne_eq, aggV, Tag.cap, List.replicate, allSolid, GVal.solid, Nat.reduceBEq, Nat.reduceMul, Nat.reduceLT, List.length_map, List.length_range, splice, vcA, ↓vcB, vcC, fbFd, e28, Try.underlying34, errV]
          refine (c4 s2).mono ?_
          rintro g O' ⟨rfl, rfl⟩
          simp +contextual -implicitDefEqProofs (maxSteps := 2000000) (disch := omega) only [↓lenV, binV, ↓loadV, ↓fieldAddrV, ↓boxV, ↓ifaceV, GVal.cells, grp, GVal.ofConst, ↓resV, resG, List.map, List.headD, List.take, List.drop, ↓reduceIte, Nat.reduceEqDiff, Nat.reduceAdd, Nat.reduceSub, Nat.reduceLeDiff, reduceCtorEq, implies_true, ne_eq, aggV, Tag.cap, List.replicate, allSolid, GVal.solid, Nat.reduceBEq, Nat.reduceMul, Nat.reduceLT, List.length_map, List.length_range, splice, vcA, ↓vcB, vcC, fbFd, e28, Try.underlying34]
          exact ⟨_, gObj st s m, _, rfl, leA_refl _, 0, by rw [jdV, ev], rfl⟩
        | none =>
          rw [e4] at c4
          by_cases h5 : 1000 < M.length
          · have d5 : ((1000 : Int) < (M.length : Int)) = True := eq_true (by omega)
            have ej : joinedP gr m cs hs = .error (none, 13) := by unfold joinedP; rw [e1]; simp only [e2, e3, e4]; rw [if_pos h5]
            rw [ej]
            refine GCalls.dropTo ?_
            refine h28.calls mixS (by simp) ?_
            simp only [gstart, s28, List.cons_append, List.nil_append, List.length_cons, List.length_nil, Nat.reduceAdd, Nat.reduceSub, List.replicate_succ, List.replicate_zero]
            simp +contextual -implicitDefEqProofs (maxSteps := 2000000) (disch := omega) only [↓lenV, binV, ↓loadV, ↓fieldAddrV, ↓boxV, ↓ifaceV, GVal.cells, grp, GVal.ofConst, ↓resV, resG, List.map, List.headD, List.take, List.drop, ↓reduceIte, Nat.reduceEqDiff, Nat.reduceAdd, Nat.reduceSub, Nat.reduceLeDiff, reduceCtorEq, implies_true, ne_eq, aggV, Tag.cap, List.replicate, allSolid, GVal.solid, Nat.reduceBEq, Nat.reduceMul, Nat.reduceLT, List.length_map, List.length_range, splice, vcA, ↓vcB, vcC, fbFd, e28]
            refine c1.then ?_ (by rfl)
            simp +contextual -implicitDefEqProofs (maxSteps := 2000000) (disch := omega) only [↓lenV, binV, ↓loadV, ↓fieldAddrV, ↓boxV, ↓ifaceV, GVal.cells, grp, GVal.ofConst, ↓resV, resG, List.map, List.headD, List.take, List.drop, ↓reduceIte, Nat.reduceEqDiff, Nat.reduceAdd, Nat.reduceSub, Nat.reduceLeDiff, reduceCtorEq, implies_true, ne_eq, aggV, Tag.cap, List.replicate, allSolid, GVal.solid, Nat.reduceBEq, Nat.reduceMul, Nat.reduceLT, List.length_map, List.length_range, splice, vcA, ↓vcB, vcC, fbFd, e28, Try.underlying34, errV]
            refine c2.mono ?_
            rintro g O' ⟨s2, rfl, rfl⟩
            simp +contextual -implicitDefEqProofs (maxSteps := 2000000) (disch := omega) only [↓lenV, binV, ↓loadV, ↓fieldAddrV, ↓boxV, ↓ifaceV, GVal.cells, grp, GVal.ofConst, ↓resV, resG, List.map, List.headD, List.take, List.drop, ↓reduceIte, Nat.reduceEqDiff, Nat.reduceAdd, Nat.reduceSub, Nat.reduceLeDiff, reduceCtorEq, implies_true, ne_eq, aggV, Tag.cap, List.replicate, allSolid, GVal.solid, Nat.reduceBEq, Nat.reduceMul, Nat.reduceLT, List.length_map, List.length_range, splice, vcA, ↓vcB, vcC, fbFd, e28, Try.underlying34, joinV, joinO]
            refine (c3 s2).mono ?_
            rintro g O' ⟨rfl, rfl⟩
            simp +contextual -implicitDefEqProofs (maxSteps := 2000000) (disch := omega) only [↓lenV, binV, ↓loadV, ↓fieldAddrV, ↓boxV, ↓ifaceV, GVal.cells, grp, GVal.ofConst, ↓resV, resG, List.map, List.headD, List.take, List.drop, ↓reduceIte, Nat.reduceEqDiff, Nat.reduceAdd, Nat.reduceSub, Nat.reduceLeDiff, reduceCtorEq, implies_true, ne_eq, aggV, Tag.cap, List.replicate, allSolid, GVal.solid, Nat.reduceBEq, Nat.reduceMul, Nat.reduceLT, List.length_map, List.length_range, splice, vcA, ↓vcB, vcC, fbFd, e28, Try.underlying34, errV]
            refine (c4 s2).mono ?_
            rintro g O' ⟨rfl, rfl⟩
            simp +contextual -implicitDefEqProofs (maxSteps := 2000000) (disch := omega) only [↓lenV, binV, ↓loadV, ↓fieldAddrV, ↓boxV, ↓ifaceV, GVal.cells, grp, GVal.ofConst, ↓resV, resG, List.map, List.headD, List.take, List.drop, ↓reduceIte, Nat.reduceEqDiff, Nat.reduceAdd, Nat.reduceSub, Nat.reduceLeDiff, reduceCtorEq, implies_true, ne_eq, aggV, Tag.cap, List.replicate, allSolid, GVal.solid, Nat.reduceBEq, Nat.reduceMul, Nat.reduceLT, List.length_map, List.length_range, splice, vcA, ↓vcB, vcC, fbFd, e28, Try.underlying34, errV, kvG_len, d5]
            exact ⟨_, gObj st s m, _, rfl, leA_refl _, 0, rfl, rfl⟩
          · have d5 : ((1000 : Int) < (M.length : Int)) = False := eq_false (by omega)
            have ej : joinedP gr m cs hs = .ok M := by unfold joinedP; rw [e1]; simp only [e2, e3, e4]; rw [if_neg h5]
            rw [ej]
            refine h28.calls mixS (by simp) ?_
            simp only [gstart, s28, List.cons_append, List.nil_append, List.length_cons, List.length_nil, Nat.reduceAdd, Nat.reduceSub, List.replicate_succ, List.replicate_zero]
            simp +contextual -implicitDefEqProofs (maxSteps := 2000000) (disch := omega) only [↓lenV, binV, ↓loadV, ↓fieldAddrV, ↓boxV, ↓ifaceV, GVal.cells, grp, GVal.ofConst, ↓resV, resG, List.map, List.headD, List.take, List.drop, ↓reduceIte, Nat.reduceEqDiff, Nat.reduceAdd, Nat.reduceSub, Nat.reduceLeDiff, reduceCtorEq, implies_true, ne_eq, aggV, Tag.cap, List.replicate, allSolid, GVal.solid, Nat.reduceBEq, Nat.reduceMul, Nat.reduceLT, List.length_map, List.length_range, splice, vcA, ↓vcB, vcC, fbFd, e28]
            refine c1.then ?_ (by rfl)
            simp +contextual -implicitDefEqProofs (maxSteps := 2000000) (disch := omega) only [↓lenV, binV, ↓loadV, ↓fieldAddrV, ↓boxV, ↓ifaceV, GVal.cells, grp, GVal.ofConst, ↓resV, resG, List.map, List.headD, List.take, List.drop, ↓reduceIte, Nat.reduceEqDiff, Nat.reduceAdd, Nat.reduceSub, Nat.reduceLeDiff, reduceCtorEq, implies_true, ne_eq, aggV, Tag.cap, List.replicate, allSolid, GVal.solid, Nat.reduceBEq, Nat.reduceMul, Nat.reduceLT, List.length_map, List.length_range, splice, vcA, ↓vcB, vcC, fbFd, e28, Try.underlying34, errV]
            refine c2.mono ?_
            rintro g O' ⟨s2, rfl, rfl⟩
            simp +contextual -implicitDefEqProofs (maxSteps := 2000000) (disch := omega) only [↓lenV, binV, ↓loadV, ↓fieldAddrV, ↓boxV, ↓ifaceV, GVal.cells, grp, GVal.ofConst, ↓resV, resG, List.map, List.headD, List.take, List.drop, ↓reduceIte, Nat.reduceEqDiff, Nat.reduceAdd, Nat.reduceSub, Nat.reduceLeDiff, reduceCtorEq, implies_true, ne_eq, aggV, Tag.cap, List.replicate, allSolid, GVal.solid, Nat.reduceBEq, Nat.reduceMul, Nat.reduceLT, List.length_map, List.length_range, splice, vcA, ↓vcB, vcC, fbFd, e28, Try.underlying34, joinV, joinO]
            refine (c3 s2).mono ?_
            rintro g O' ⟨rfl, rfl⟩
            simp +contextual -implicitDefEqProofs (maxSteps := 2000000) (disch := omega) only [↓lenV, binV, ↓loadV, ↓fieldAddrV, ↓boxV, ↓ifaceV, GVal.cells, grp, GVal.ofConst, ↓resV, resG, List.map, List.headD, List.take, List.drop, ↓reduceIte, Nat.reduceEqDiff, Nat.reduceAdd, Nat.reduceSub, Nat.reduceLeDiff, reduceCtorEq, implies_true, ne_eq, aggV, Tag.cap, List.replicate, allSolid, GVal.solid, Nat.reduceBEq, Nat.reduceMul, Nat.reduceLT, List.length_map, List.length_range, splice, vcA, ↓vcB, vcC, fbFd, e28, Try.underlying34, errV]
            refine (c4 s2).mono ?_
            rintro g O' ⟨rfl, rfl⟩
            simp +contextual -implicitDefEqProofs (maxSteps := 2000000) (disch := omega) only [↓lenV, binV, ↓loadV, ↓fieldAddrV, ↓boxV, ↓ifaceV, GVal.cells, grp, GVal.ofConst, ↓resV, resG, List.map, List.headD, List.take, List.drop, ↓reduceIte, Nat.reduceEqDiff, Nat.reduceAdd, Nat.reduceSub, Nat.reduceLeDiff, reduceCtorEq, implies_true, ne_eq, aggV, Tag.cap, List.replicate, allSolid, GVal.solid, Nat.reduceBEq, Nat.reduceMul, Nat.reduceLT, List.length_map, List.length_range, splice, vcA, ↓vcB, vcC, fbFd, e28, Try.underlying34, errV, kvG_len, d5]
            exact ⟨s2, rfl, rfl⟩
noncomputable def addedM (m : GM) (cs : List Cm) : GM := match joinedP 2 m cs [] with
  | .ok M => M
  | .error _ => m
noncomputable def addedE (m : GM) (cs : List Cm) : Er := match joinedP 2 m cs [] with
  | .ok _ => none
  | .error e => some e
theorem gAddRaw (m M : GM) (cs : List Cm) (st s : Nat) (c1 : GCalls Try.prog 28 [.ptr 0 st 0 0, .agg (reqG cs [] .nil 2)] (gObj st s m) (fun g O' => ∃ s2, g = jdV s2 (.ok M) ∧ O' = gObj st s m ++ jdO s2 (.ok M))) :
    GCalls Try.prog 11 [.ptr 0 st 0 0, .slice (csG cs) .none] (gObj st s m) (fun g O' => ∃ s2, g = .lit .nilIface ∧ O' = [.row st 1 [[.map 2 s2]], .map s (kvG encL m), .map s2 (kvG encL M)]) := by
  refine h11.calls mixS (by simp) ?_
  simp only [gstart, s11, List.cons_append, List.nil_append, List.length_cons, List.length_nil, Nat.reduceAdd, Nat.reduceSub, List.replicate_succ, List.replicate_zero]
  simp +contextual -implicitDefEqProofs (maxSteps := 2000000) (disch := omega) only [binV, ↓storeV, ↓fieldAddrV, ↓buildV, ↓nilV, fillG, place, GVal.cells, grp, GVal.ofConst, ↓resV, resG, List.map, List.headD, List.take, List.drop, ↓reduceIte, Nat.reduceEqDiff, Nat.reduceAdd, Nat.reduceSub, Nat.reduceLeDiff, reduceCtorEq, implies_true, ne_eq, aggV, Tag.cap, List.replicate, allSolid, GVal.solid, Nat.reduceBEq, Nat.reduceMul, Nat.reduceLT, List.length_map, List.length_range, splice, vcA, ↓vcB, vcC, fbFd, e11]
  refine c1.mono ?_
  rintro g O' ⟨s2, rfl, rfl⟩
  simp +contextual -implicitDefEqProofs (maxSteps := 2000000) (disch := omega) only [binV, ↓storeV, ↓fieldAddrV, ↓buildV, ↓nilV, fillG, place, GVal.cells, grp, GVal.ofConst, ↓resV, resG, List.map, List.headD, List.take, List.drop, ↓reduceIte, Nat.reduceEqDiff, Nat.reduceAdd, Nat.reduceSub, Nat.reduceLeDiff, reduceCtorEq, implies_true, ne_eq, aggV, Tag.cap, List.replicate, allSolid, GVal.solid, Nat.reduceBEq, Nat.reduceMul, Nat.reduceLT, List.length_map, List.length_range, splice, vcA, ↓vcB, vcC, fbFd, e11, Try.underlying34, jdV, jdO]
  exact ⟨_, rfl⟩
theorem gAddOk (m M : GM) (cs : List Cm) (st s : Nat) (c1 : GCalls Try.prog 28 [.ptr 0 st 0 0, .agg (reqG cs [] .nil 2)] (gObj st s m) (fun g O' => ∃ s2, g = jdV s2 (.ok M) ∧ O' = gObj st s m ++ jdO s2 (.ok M))) :
    GCalls Try.prog 11 [.ptr 0 st 0 0, .slice (csG cs) .none] (gObj st s m) (fun g O' => ∃ x' y', O' = [x', y'] ∧ (g = errV none ∧ ∃ s', x' = .row st 1 [[.map 1 s']] ∧ y' = .map s' (kvG encL M))) := by
  refine GCalls.frame (gAddRaw m M cs st s c1) [0, 1] ⟨⟨_, rfl, .refl _⟩, ⟨_, rfl, .refl _⟩, trivial⟩ (by simp) (GLes.refl _) rfl rfl ?_
  rintro g O' ⟨s2, rfl, rfl⟩
  exact ⟨_, [.row st 1 [[.map 1 s2]], .map s2 (kvG encL M)], [(false, 0), (false, 2)], ⟨_, _, rfl, rfl, s2, rfl, rfl⟩, GLe.refl _, ⟨⟨_, rfl, OLe.row ⟨⟨GLe.map _ _ _, trivial⟩, trivial⟩⟩, ⟨_, rfl, .refl _⟩, trivial⟩, by simp, rfl⟩
theorem gAdd (m : GM) (hm : GOK m) (cs : List Cm) (st s : Nat) (hc : cs.length ≤ 1000000) (hp : ∀ c ∈ cs, c.2.length ≤ 1000000) :
    GCalls Try.prog 11 [.ptr 0 st 0 0, .slice (csG cs) .none] (gObj st s m) (fun g O' => ∃ x' y', O' = [x', y'] ∧ (g = errV (addedE m cs) ∧ ∃ s', x' = .row st 1 [[.map 1 s']] ∧ y' = .map s' (kvG encL (addedM m cs)))) := by
  have c1 := gJoinedBy m hm cs [] .nil 2 st s hc (by simp) hp
  cases e1 : joinedP 2 m cs [] with
  | error e =>
    have ea : addedE m cs = some e := by unfold addedE; rw [e1]
    have em : addedM m cs = m := by unfold addedM; rw [e1]
    rw [e1] at c1
    rw [ea, em]
    obtain ⟨ty, v, ev⟩ := errV_some e
    refine h11.calls mixS (by simp) ?_
    simp only [gstart, s11, List.cons_append, List.nil_append, List.length_cons, List.length_nil, Nat.reduceAdd, Nat.reduceSub, List.replicate_succ, List.replicate_zero]
    simp +contextual -implicitDefEqProofs (maxSteps := 2000000) (disch := omega) only [binV, ↓storeV, ↓fieldAddrV, ↓buildV, ↓nilV, fillG, place, GVal.cells, grp, GVal.ofConst, ↓resV, resG, List.map, List.headD, List.take, List.drop, ↓reduceIte, Nat.reduceEqDiff, Nat.reduceAdd, Nat.reduceSub, Nat.reduceLeDiff, reduceCtorEq, implies_true, ne_eq, aggV, Tag.cap, List.replicate, allSolid, GVal.solid, Nat.reduceBEq, Nat.reduceMul, Nat.reduceLT, List.length_map, List.length_range, splice, vcA, ↓vcB, vcC, fbFd, e11]
    refine c1.mono ?_
    rintro g O' ⟨s2, rfl, rfl⟩
    simp +contextual -implicitDefEqProofs (maxSteps := 2000000) (disch := omega) only [binV, ↓storeV, ↓fieldAddrV, ↓buildV, ↓nilV, fillG, place, GVal.cells, grp, GVal.ofConst, ↓resV, resG, List.map, List.headD, List.take, List.drop, ↓reduceIte, Nat.reduceEqDiff, Nat.reduceAdd, Nat.reduceSub, Nat.reduceLeDiff, reduceCtorEq, implies_true, ne_eq, aggV, Tag.cap, List.replicate, allSolid, GVal.solid, Nat.reduceBEq, Nat.reduceMul, Nat.reduceLT, List.length_map, List.length_range, splice, vcA, ↓vcB, vcC, fbFd, e11, Try.underlying34, jdV, jdO, ev]
    exact ⟨_, _, rfl, s, rfl, rfl⟩
  | ok M =>
    have ea : addedE m cs = none := by unfold addedE; rw [e1]
    have em : addedM m cs = M := by unfold addedM; rw [e1]
    rw [e1] at c1
    rw [ea, em]
    exact gAddOk m M cs st s c1
theorem gNewRaw : GCalls Try.prog 9 [] [] (fun g O' => ∃ st s, g = .ptr 1 st 0 0 ∧ O' = [.map s (kvG encL []), .row st 1 [[.map 0 s]]]) := by
  refine h9.calls mixS (by simp) ?_
  simp only [gstart, s9, List.cons_append, List.nil_append, List.length_cons, List.length_nil, Nat.reduceAdd, Nat.reduceSub, List.replicate_succ, List.replicate_zero]
  simp +contextual -implicitDefEqProofs (maxSteps := 2000000) (disch := omega) only [↓boxV, ↓buildV, fillG, place, GVal.cells, grp, GVal.ofConst, ↓resV, resG, List.map, List.headD, List.take, List.drop, ↓reduceIte, Nat.reduceEqDiff, Nat.reduceAdd, Nat.reduceSub, Nat.reduceLeDiff, reduceCtorEq, implies_true, ne_eq, ↓makeMapV, Tag.cap, List.replicate, allSolid, GVal.solid, Nat.reduceBEq, Nat.reduceMul, Nat.reduceLT, List.length_map, List.length_range, splice, vcA, ↓vcB, vcC, fbFd, e9]
  exact fun s => ⟨rfl, fun st => ⟨_, _, rfl, rfl⟩⟩
theorem gNew : GCalls Try.prog 9 [] [] (fun g O' => ∃ st s, g = .ptr 0 st 0 0 ∧ O' = gObj st s []) := by
  refine GCalls.frame gNewRaw [] trivial (by simp) trivial rfl rfl ?_
  rintro g O' ⟨st, s, rfl, rfl⟩
  exact ⟨_, gObj st s [], [(false, 1), (false, 0)], ⟨st, s, rfl, rfl⟩, GLe.ptr _ _ _ _ _, ⟨⟨_, rfl, OLe.row ⟨⟨GLe.map _ _ _, trivial⟩, trivial⟩⟩, ⟨_, rfl, .refl _⟩, trivial⟩, by simp, rfl⟩
end Gv.Try
/- A nil slice in a struct's cell is given a row of its own. -/
set_option linter.unusedVariables false
namespace Gv
open Go
section
variable {st : GSt} {N : GSt → Prop}
theorem Into.cellRow (i c rsz : Nat) {t sz : Nat} {cs : List GVal} {tg : Tag} (hO : st.o[i]? = some (.row t sz [cs])) (hc : cs[c]? = some (.slice [] tg)) (htg : tg.cap = .full) (hcl : cs.length = sz)
    (h : stamp st.o fun u => Into ⟨st.s, ((tickO st.o) ++ [GObj.row u rsz []]).set i (.row t sz [cs.set c (.own st.o.length u 0 0)])⟩ N) : Into st N := by
  intro E a w hs ha
  obtain ⟨u, hk, ht, hnx, hs, hkeep⟩ := hs.stamp h
  rw [← tickO_len st.o] at hk
  obtain ⟨h1, h2⟩ := hs.objNil (.row u rsz []) (l := ⟨none, 0, rsz, 0⟩) ht hnx rfl ⟨_, Env.addLoc_self _ _ _, rfl, by simp, rfl⟩ (by simp [GObj.blk, Env.addLoc_self])
  have hO' : (tickO st.o ++ [GObj.row u rsz []])[i]? = some (.row t sz [cs]) := by
    have := tickO_get hO rfl
    rw [List.getElem?_append_left (List.getElem?_eq_some_iff.1 this).1]; exact this
  obtain ⟨h3, h4⟩ := h1.cells hO' (ys := [cs.set c (.own (tickO st.o).length u 0 0)]) rfl (by simp [hcl]) (fun j g' hj => by
    simp only [List.flatten_cons, List.flatten_nil, List.append_nil] at hj ⊢
    rw [List.getElem?_set] at hj
    by_cases e : c = j
    · subst e
      rw [if_pos rfl] at hj
      split at hj
      · simp only [Option.some.injEq] at hj
        subst hj
        refine ⟨_, hc, fun v hv => ?_⟩
        cases hv with
        | slice a len cap xs tag sz c hlen hcap hsz ha hc htag =>
          have htag := htag.cap hcap
          rw [htg] at htag
          have h0 : len = 0 := by simpa using hlen
          have h1 : cap = 0 := by rw [← h0]; exact htag
          subst h0
          exact .own a 0 cap _ u 0 _ (Env.addLoc_self _ _ _) (Nat.zero_le _) (.inl h1)
      · cases hj
    · rw [if_neg e] at hj
      exact ⟨g', hj, fun v hv => hv⟩)
  obtain ⟨st', E', q1, q2, q3, q4⟩ := hk _ a w h3 (ha.mono h2.ext)
  exact ⟨st', E', q1, q2, ((hkeep.trans h2).trans h4).trans q3, q4⟩
end
theorem setO_6 (a b c d e f g x : GObj) (r : List GObj) : (a :: b :: c :: d :: e :: f :: g :: r).set 6 x = a :: b :: c :: d :: e :: f :: x :: r := rfl
theorem setO_7 (a b c d e f g h x : GObj) (r : List GObj) : (a :: b :: c :: d :: e :: f :: g :: h :: r).set 7 x = a :: b :: c :: d :: e :: f :: g :: x :: r := rfl
theorem GCalls.tail {P : Program} {f : FuncId} {args : List GVal} {X : List GObj} {K : GVal → List GObj → Prop} (h : GCalls P f args X K) (hK : ∀ g O', K g O' → clockOf O' = none ∧ O' ≠ []) (hc : clockOf X = none) (hX : X ≠ []) (Y : List GObj) :
    GCalls P f args (X ++ Y) (fun g O'' => ∃ O', K g O' ∧ O'' = O' ++ Y) := by
  have hcl : ∀ A : List GObj, clockOf A = none → A ≠ [] → clockOf (A ++ Y) = none := fun A h1 h2 => by
    cases A with
    | nil => exact absurd rfl h2
    | cons a r => cases a <;> first | rfl | cases h1
  refine GCalls.frame h (List.range X.length) ?_ List.nodup_range (GLes.refl _) hc (hcl X hc hX) ?_
  · have : ∀ (A B : List GObj), Fits (A ++ B ++ Y) ((List.range B.length).map (· + A.length)) B := by
      intro A B
      induction B generalizing A with
      | nil => trivial
      | cons b r ih =>
        rw [List.length_cons, List.range_succ_eq_map, List.map_cons, List.map_map]
        refine ⟨⟨b, by simp, .refl _⟩, ?_⟩
        have := ih (A ++ [b])
        simp only [List.length_append, List.length_singleton, List.append_assoc, List.singleton_append] at this ⊢
        have e : ((fun x => x + A.length) ∘ Nat.succ) = (fun x => x + (A.length + 1)) := by funext x; simp; omega
        rw [e]; exact this
    have := this [] X
    simpa using this
  · intro g O' hk
    obtain ⟨h1, h2⟩ := hK g O' hk
    refine ⟨g, O' ++ Y, (List.range O'.length).map (fun k => (false, k)) ++ (List.range Y.length).map (fun k => (true, k + X.length)), ⟨O', hk, rfl⟩, GLe.refl g, Comes.of (by simp) fun k z x hz hx => ?_, ?_, hcl O' h1 h2⟩
    · by_cases hlt : k < O'.length
      · rw [List.getElem?_append_left hlt] at hz
        rw [List.getElem?_append_left (by simpa using hlt)] at hx
        simp only [List.getElem?_map, List.getElem?_range hlt, Option.map_some, Option.some.injEq] at hx
        subst hx
        exact ⟨z, hz, .refl _⟩
      · rw [List.getElem?_append_right (by omega)] at hz
        rw [List.getElem?_append_right (by simpa using hlt)] at hx
        have hk2 : k - O'.length < Y.length := (List.getElem?_eq_some_iff.1 hz).1
        simp only [List.length_map, List.length_range, List.getElem?_map, List.getElem?_range hk2, Option.map_some, Option.some.injEq] at hx
        subst hx
        refine ⟨by simp, z, ?_, .refl _⟩
        rw [List.getElem?_append_right (by omega), Nat.add_sub_cancel]; exact hz
    · rw [List.nodup_append]
      refine ⟨?_, ?_, ?_⟩
      · rw [List.nodup_iff_pairwise_ne, List.pairwise_map]
        exact List.Pairwise.imp (fun {a b} hab => by simp; omega) (List.pairwise_lt_range (n := O'.length))
      · rw [List.nodup_iff_pairwise_ne, List.pairwise_map]
        exact List.Pairwise.imp (fun {a b} hab => by simp; omega) (List.pairwise_lt_range (n := Y.length))
      · intro a ha b hb
        obtain ⟨i, _, rfl⟩ := List.mem_map.1 ha
        obtain ⟨j, _, rfl⟩ := List.mem_map.1 hb
        simp
end Gv
/- Contracts: order's push and step. -/
set_option linter.unusedVariables false
set_option linter.unusedSimpArgs false
set_option maxRecDepth 20000
set_option maxHeartbeats 4000000
namespace Gv.Try
open Go Gv Go.Proofs
abbrev wObj (st s : Nat) (m : GM) (sq sw sv so n : Nat) (dg : GVal) (K Z : List Cm) (S out : List Hs) : List GObj :=
  [.row st 1 [[.map 1 s]], .map s (kvG encL m), .map sq (kvG encB (setM S)), .row sw 5 [[.ptr 0 st 0 0, dg, .map 2 sq, .own 4 sv 0 n, .slice (hsG out) (.tok 5 so)]], .row sv 33 (csG (K ++ Z)), .tok so 32]
theorem gParK (m : GM) (h : Hs) (st s : Nat) (hl : (parsM m h).length ≤ 4398046511104) (X : List GObj) : GCalls Try.prog 26 [.ptr 0 st 0 0, .agg (bytesG h.1)] (.row st 1 [[.map 1 s]] :: .map s (kvG encL m) :: X) (fun g O' => g = .tuple [.slice (hsG (parsM m h)) .none, .bool (look m h).isSome] ∧ O' = .row st 1 [[.map 1 s]] :: .map s (kvG encL m) :: X) :=
  GCalls.keep2 (gParents m h st s hl) rfl X
theorem take_csG (K Z : List Cm) : List.take K.length (csG (K ++ Z)) = csG K := by rw [csG_app]; exact List.take_left' (csG_len K)
theorem gPush1 (m : GM) (hm : GMOK m) (h : Hs) (st s sq sw sv so n : Nat) (dg : GVal) (K Z : List Cm) (S out : List Hs) (hl : look m h = none) (hn : n = K.length) :
    GCalls Try.prog 29 [.ptr 3 sw 0 0, .agg (bytesG h.1)] (wObj st s m sq sw sv so n dg K Z S out) (fun g O' => g = .tuple [] ∧ O' = wObj st s m sq sw sv so n dg K Z S out) := by
  subst hn
  have c := fun X => gParK m h st s (by have := hm.pars h; omega) X
  simp only [hl, Option.isSome_none] at c
  refine h29.calls mixS (by simp) ?_
  simp only [gstart, s29, List.cons_append, List.nil_append, List.length_cons, List.length_nil, Nat.reduceAdd, Nat.reduceSub, List.replicate_succ, List.replicate_zero]
  simp +contextual -implicitDefEqProofs (maxSteps := 2000000) (disch := omega) only [drawC, drawK, keepT, binV, ↓unV, ↓loadV, ↓storeV, ↓fieldAddrV, ↓boxV, ↓buildV, ↓buildSliceV, ↓nilV, ↓appendV, ↓srcV, fillG, fillE, place, GVal.cells, grp, GVal.ofConst, ↓resV, resG, List.map, List.headD, List.take, List.drop, ↓reduceIte, Nat.reduceEqDiff, Nat.reduceAdd, Nat.reduceSub, Nat.reduceLeDiff, reduceCtorEq, implies_true, ne_eq, ↓asrcV, ↓lookupV, ↓mapUpdateV, keyOk, keyCells, pairG, aggV, Tag.cap, List.replicate, allSolid, GVal.solid, Nat.reduceBEq, Nat.reduceMul, Nat.reduceLT, List.length_map, List.length_range, splice, vcA, ↓vcB, vcC, fbFd, e29, solidH, len32, take32]
  refine (c _).mono ?_
  rintro g O' ⟨rfl, rfl⟩
  simp +contextual -implicitDefEqProofs (maxSteps := 2000000) (disch := omega) only [drawC, drawK, keepT, binV, ↓unV, ↓loadV, ↓storeV, ↓fieldAddrV, ↓boxV, ↓buildV, ↓buildSliceV, ↓nilV, ↓appendV, ↓srcV, fillG, fillE, place, GVal.cells, grp, GVal.ofConst, ↓resV, resG, List.map, List.headD, List.take, List.drop, ↓reduceIte, Nat.reduceEqDiff, Nat.reduceAdd, Nat.reduceSub, Nat.reduceLeDiff, reduceCtorEq, implies_true, ne_eq, ↓asrcV, ↓lookupV, ↓mapUpdateV, keyOk, keyCells, pairG, aggV, Tag.cap, List.replicate, allSolid, GVal.solid, Nat.reduceBEq, Nat.reduceMul, Nat.reduceLT, List.length_map, List.length_range, splice, vcA, ↓vcB, vcC, fbFd, e29, solidH, len32, take32, kfind_h]
theorem gPush2 (m : GM) (hm : GMOK m) (h : Hs) (st s sq sw sv so n : Nat) (dg : GVal) (K Z : List Cm) (S out : List Hs) (l : List Hs) (hl : look m h = some l) (hS : h ∈ S) (hn : n = K.length) :
    GCalls Try.prog 29 [.ptr 3 sw 0 0, .agg (bytesG h.1)] (wObj st s m sq sw sv so n dg K Z S out) (fun g O' => g = .tuple [] ∧ O' = wObj st s m sq sw sv so n dg K Z S out) := by
  subst hn
  have c := fun X => gParK m h st s (by have := hm.pars h; omega) X
  simp only [hl, Option.isSome_some, parsM_some hl] at c
  obtain ⟨i, hi, hv, _⟩ := look_idx encB (setM S) h true (by rw [look_set, if_pos hS])
  refine h29.calls mixS (by simp) ?_
  simp only [gstart, s29, List.cons_append, List.nil_append, List.length_cons, List.length_nil, Nat.reduceAdd, Nat.reduceSub, List.replicate_succ, List.replicate_zero]
  simp +contextual -implicitDefEqProofs (maxSteps := 2000000) (disch := omega) only [drawC, drawK, keepT, binV, ↓unV, ↓loadV, ↓storeV, ↓fieldAddrV, ↓boxV, ↓buildV, ↓buildSliceV, ↓nilV, ↓appendV, ↓srcV, fillG, fillE, place, GVal.cells, grp, GVal.ofConst, ↓resV, resG, List.map, List.headD, List.take, List.drop, ↓reduceIte, Nat.reduceEqDiff, Nat.reduceAdd, Nat.reduceSub, Nat.reduceLeDiff, reduceCtorEq, implies_true, ne_eq, ↓asrcV, ↓lookupV, ↓mapUpdateV, keyOk, keyCells, pairG, aggV, Tag.cap, List.replicate, allSolid, GVal.solid, Nat.reduceBEq, Nat.reduceMul, Nat.reduceLT, List.length_map, List.length_range, splice, vcA, ↓vcB, vcC, fbFd, e29, solidH, len32, take32]
  refine (c _).mono ?_
  rintro g O' ⟨rfl, rfl⟩
  simp +contextual -implicitDefEqProofs (maxSteps := 2000000) (disch := omega) only [drawC, drawK, keepT, binV, ↓unV, ↓loadV, ↓storeV, ↓fieldAddrV, ↓boxV, ↓buildV, ↓buildSliceV, ↓nilV, ↓appendV, ↓srcV, fillG, fillE, place, GVal.cells, grp, GVal.ofConst, ↓resV, resG, List.map, List.headD, List.take, List.drop, ↓reduceIte, Nat.reduceEqDiff, Nat.reduceAdd, Nat.reduceSub, Nat.reduceLeDiff, reduceCtorEq, implies_true, ne_eq, ↓asrcV, ↓lookupV, ↓mapUpdateV, keyOk, keyCells, pairG, aggV, Tag.cap, List.replicate, allSolid, GVal.solid, Nat.reduceBEq, Nat.reduceMul, Nat.reduceLT, List.length_map, List.length_range, splice, vcA, ↓vcB, vcC, fbFd, e29, solidH, len32, take32, kfind_h, hi, hv]
theorem gPush3 (m : GM) (hm : GMOK m) (h : Hs) (st s sq sw sv so n : Nat) (F : FuncId) (caps : List GVal) (K Z : List Cm) (S out : List Hs) (l : List Hs) (hl : look m h = some l) (hS : h ∉ S) (hF : GPure Try.prog F (.agg (bytesG h.1) :: caps) (.bool true)) (hn : n = K.length) :
    GCalls Try.prog 29 [.ptr 3 sw 0 0, .agg (bytesG h.1)] (wObj st s m sq sw sv so n (.func (.func F) [] caps) K Z S out) (fun g O' => g = .tuple [] ∧ O' = wObj st s m sq sw sv so n (.func (.func F) [] caps) K Z S out) := by
  subst hn
  have c := fun X => gParK m h st s (by have := hm.pars h; omega) X
  simp only [hl, Option.isSome_some, parsM_some hl] at c
  obtain ⟨hi, hw⟩ := look_none encB (setM S) h (by rw [look_set, if_neg hS])
  have hw := hw true
  rw [mset_set S h hS] at hw
  refine h29.calls mixS (by simp) ?_
  simp only [gstart, s29, List.cons_append, List.nil_append, List.length_cons, List.length_nil, Nat.reduceAdd, Nat.reduceSub, List.replicate_succ, List.replicate_zero]
  simp +contextual -implicitDefEqProofs (maxSteps := 2000000) (disch := omega) only [drawC, drawK, keepT, binV, ↓unV, ↓loadV, ↓storeV, ↓fieldAddrV, ↓boxV, ↓buildV, ↓buildSliceV, ↓nilV, ↓appendV, ↓srcV, fillG, fillE, place, GVal.cells, grp, GVal.ofConst, ↓resV, resG, List.map, List.headD, List.take, List.drop, ↓reduceIte, Nat.reduceEqDiff, Nat.reduceAdd, Nat.reduceSub, Nat.reduceLeDiff, reduceCtorEq, implies_true, ne_eq, ↓asrcV, ↓lookupV, ↓mapUpdateV, keyOk, keyCells, pairG, aggV, Tag.cap, List.replicate, allSolid, GVal.solid, Nat.reduceBEq, Nat.reduceMul, Nat.reduceLT, List.length_map, List.length_range, splice, vcA, ↓vcB, vcC, fbFd, e29, solidH, len32, take32]
  refine (c _).mono ?_
  rintro g O' ⟨rfl, rfl⟩
  simp +contextual -implicitDefEqProofs (maxSteps := 2000000) (disch := omega) only [drawC, drawK, keepT, binV, ↓unV, ↓loadV, ↓storeV, ↓fieldAddrV, ↓boxV, ↓buildV, ↓buildSliceV, ↓nilV, ↓appendV, ↓srcV, fillG, fillE, place, GVal.cells, grp, GVal.ofConst, ↓resV, resG, List.map, List.headD, List.take, List.drop, ↓reduceIte, Nat.reduceEqDiff, Nat.reduceAdd, Nat.reduceSub, Nat.reduceLeDiff, reduceCtorEq, implies_true, ne_eq, ↓asrcV, ↓lookupV, ↓mapUpdateV, keyOk, keyCells, pairG, aggV, Tag.cap, List.replicate, allSolid, GVal.solid, Nat.reduceBEq, Nat.reduceMul, Nat.reduceLT, List.length_map, List.length_range, splice, vcA, ↓vcB, vcC, fbFd, e29, solidH, len32, take32, kfind_h, hi, hw]
  refine hF.then ?_ (by rfl)
  simp +contextual -implicitDefEqProofs (maxSteps := 2000000) (disch := omega) only [drawC, drawK, keepT, binV, ↓unV, ↓loadV, ↓storeV, ↓fieldAddrV, ↓boxV, ↓buildV, ↓buildSliceV, ↓nilV, ↓appendV, ↓srcV, fillG, fillE, place, GVal.cells, grp, GVal.ofConst, ↓resV, resG, List.map, List.headD, List.take, List.drop, ↓reduceIte, Nat.reduceEqDiff, Nat.reduceAdd, Nat.reduceSub, Nat.reduceLeDiff, reduceCtorEq, implies_true, ne_eq, ↓asrcV, ↓lookupV, ↓mapUpdateV, keyOk, keyCells, pairG, aggV, Tag.cap, List.replicate, allSolid, GVal.solid, Nat.reduceBEq, Nat.reduceMul, Nat.reduceLT, List.length_map, List.length_range, splice, vcA, ↓vcB, vcC, fbFd, e29, solidH, len32, take32, kfind_h, csG_len, take32a, drop32a, drop33a, take33a, len33, solid33, all_csG, hi, hw]
theorem gPush4 (m : GM) (hm : GMOK m) (h : Hs) (st s sq sw sv so n : Nat) (F : FuncId) (caps : List GVal) (K Z : List Cm) (S out : List Hs) (l : List Hs) (hl : look m h = some l) (hS : h ∉ S) (hF : GPure Try.prog F (.agg (bytesG h.1) :: caps) (.bool false)) (hK : K.length ≤ 1000000) (hn : n = K.length) :
    GCalls Try.prog 29 [.ptr 3 sw 0 0, .agg (bytesG h.1)] (wObj st s m sq sw sv so n (.func (.func F) [] caps) K Z S out) (fun g O' => ∃ sv', g = .tuple [] ∧ O' = wObj st s m sq sw sv' so (n + 1) (.func (.func F) [] caps) (K ++ [(h, l)]) [] (S ++ [h]) out) := by
  subst hn
  have c := fun X => gParK m h st s (by have := hm.pars h; omega) X
  simp only [hl, Option.isSome_some, parsM_some hl] at c
  obtain ⟨hi, hw⟩ := look_none encB (setM S) h (by rw [look_set, if_neg hS])
  have hw := hw true
  rw [mset_set S h hS] at hw
  refine h29.calls mixS (by simp) ?_
  simp only [gstart, s29, List.cons_append, List.nil_append, List.length_cons, List.length_nil, Nat.reduceAdd, Nat.reduceSub, List.replicate_succ, List.replicate_zero]
  simp +contextual -implicitDefEqProofs (maxSteps := 2000000) (disch := omega) only [drawC, drawK, keepT, binV, ↓unV, ↓loadV, ↓storeV, ↓fieldAddrV, ↓boxV, ↓buildV, ↓buildSliceV, ↓nilV, ↓appendV, ↓srcV, fillG, fillE, place, GVal.cells, grp, GVal.ofConst, ↓resV, resG, List.map, List.headD, List.take, List.drop, ↓reduceIte, Nat.reduceEqDiff, Nat.reduceAdd, Nat.reduceSub, Nat.reduceLeDiff, reduceCtorEq, implies_true, ne_eq, ↓asrcV, ↓lookupV, ↓mapUpdateV, keyOk, keyCells, pairG, aggV, Tag.cap, List.replicate, allSolid, GVal.solid, Nat.reduceBEq, Nat.reduceMul, Nat.reduceLT, List.length_map, List.length_range, splice, vcA, ↓vcB, vcC, fbFd, e29, solidH, len32, take32]
  refine (c _).mono ?_
  rintro g O' ⟨rfl, rfl⟩
  simp +contextual -implicitDefEqProofs (maxSteps := 2000000) (disch := omega) only [drawC, drawK, keepT, binV, ↓unV, ↓loadV, ↓storeV, ↓fieldAddrV, ↓boxV, ↓buildV, ↓buildSliceV, ↓nilV, ↓appendV, ↓srcV, fillG, fillE, place, GVal.cells, grp, GVal.ofConst, ↓resV, resG, List.map, List.headD, List.take, List.drop, ↓reduceIte, Nat.reduceEqDiff, Nat.reduceAdd, Nat.reduceSub, Nat.reduceLeDiff, reduceCtorEq, implies_true, ne_eq, ↓asrcV, ↓lookupV, ↓mapUpdateV, keyOk, keyCells, pairG, aggV, Tag.cap, List.replicate, allSolid, GVal.solid, Nat.reduceBEq, Nat.reduceMul, Nat.reduceLT, List.length_map, List.length_range, splice, vcA, ↓vcB, vcC, fbFd, e29, solidH, len32, take32, kfind_h, hi, hw]
  refine hF.then ?_ (by rfl)
  simp +contextual -implicitDefEqProofs (maxSteps := 2000000) (disch := omega) only [drawC, drawK, keepT, binV, ↓unV, ↓loadV, ↓storeV, ↓fieldAddrV, ↓boxV, ↓buildV, ↓buildSliceV, ↓nilV, ↓appendV, ↓srcV, fillG, fillE, place, GVal.cells, grp, GVal.ofConst, ↓resV, resG, List.map, List.headD, List.take, List.drop, ↓reduceIte, Nat.reduceEqDiff, Nat.reduceAdd, Nat.reduceSub, Nat.reduceLeDiff, reduceCtorEq, implies_true, ne_eq, ↓asrcV, ↓lookupV, ↓mapUpdateV, keyOk, keyCells, pairG, aggV, Tag.cap, List.replicate, allSolid, GVal.solid, Nat.reduceBEq, Nat.reduceMul, Nat.reduceLT, List.length_map, List.length_range, splice, vcA, ↓vcB, vcC, fbFd, e29, solidH, len32, take32, kfind_h, csG_len, take32a, drop32a, drop33a, take33a, len33, solid33, all_csG, hi, hw]
  refine ⟨by simp, by omega, by omega, fun v => ⟨v, ?_⟩⟩
  rw [take_csG]
  simp [csG_app, csG_one, comG]
theorem gPush5 (m : GM) (hm : GMOK m) (h : Hs) (st s sq sw sv so n : Nat) (K Z : List Cm) (S out : List Hs) (l : List Hs) (hl : look m h = some l) (hS : h ∉ S) (hK : K.length ≤ 1000000) (hn : n = K.length) :
    GCalls Try.prog 29 [.ptr 3 sw 0 0, .agg (bytesG h.1)] (wObj st s m sq sw sv so n (.lit .nilFunc) K Z S out) (fun g O' => ∃ sv', g = .tuple [] ∧ O' = wObj st s m sq sw sv' so (n + 1) (.lit .nilFunc) (K ++ [(h, l)]) [] (S ++ [h]) out) := by
  subst hn
  have c := fun X => gParK m h st s (by have := hm.pars h; omega) X
  simp only [hl, Option.isSome_some, parsM_some hl] at c
  obtain ⟨hi, hw⟩ := look_none encB (setM S) h (by rw [look_set, if_neg hS])
  have hw := hw true
  rw [mset_set S h hS] at hw
  refine h29.calls mixS (by simp) ?_
  simp only [gstart, s29, List.cons_append, List.nil_append, List.length_cons, List.length_nil, Nat.reduceAdd, Nat.reduceSub, List.replicate_succ, List.replicate_zero]
  simp +contextual -implicitDefEqProofs (maxSteps := 2000000) (disch := omega) only [drawC, drawK, keepT, binV, ↓unV, ↓loadV, ↓storeV, ↓fieldAddrV, ↓boxV, ↓buildV, ↓buildSliceV, ↓nilV, ↓appendV, ↓srcV, fillG, fillE, place, GVal.cells, grp, GVal.ofConst, ↓resV, resG, List.map, List.headD, List.take, List.drop, ↓reduceIte, Nat.reduceEqDiff, Nat.reduceAdd, Nat.reduceSub, Nat.reduceLeDiff, reduceCtorEq, implies_true, ne_eq, ↓asrcV, ↓lookupV, ↓mapUpdateV, keyOk, keyCells, pairG, aggV, Tag.cap, List.replicate, allSolid, GVal.solid, Nat.reduceBEq, Nat.reduceMul, Nat.reduceLT, List.length_map, List.length_range, splice, vcA, ↓vcB, vcC, fbFd, e29, solidH, len32, take32]
  refine (c _).mono ?_
  rintro g O' ⟨rfl, rfl⟩
  simp +contextual -implicitDefEqProofs (maxSteps := 2000000) (disch := omega) only [drawC, drawK, keepT, binV, ↓unV, ↓loadV, ↓storeV, ↓fieldAddrV, ↓boxV, ↓buildV, ↓buildSliceV, ↓nilV, ↓appendV, ↓srcV, fillG, fillE, place, GVal.cells, grp, GVal.ofConst, ↓resV, resG, List.map, List.headD, List.take, List.drop, ↓reduceIte, Nat.reduceEqDiff, Nat.reduceAdd, Nat.reduceSub, Nat.reduceLeDiff, reduceCtorEq, implies_true, ne_eq, ↓asrcV, ↓lookupV, ↓mapUpdateV, keyOk, keyCells, pairG, aggV, Tag.cap, List.replicate, allSolid, GVal.solid, Nat.reduceBEq, Nat.reduceMul, Nat.reduceLT, List.length_map, List.length_range, splice, vcA, ↓vcB, vcC, fbFd, e29, solidH, len32, take32, kfind_h, csG_len, take32a, drop32a, drop33a, take33a, len33, solid33, all_csG, hi, hw]
  refine ⟨by simp, by omega, by omega, fun v => ⟨v, ?_⟩⟩
  rw [take_csG]
  simp [csG_app, csG_one, comG]
inductive DoneG : GVal → (Hs → Bool) → Prop
  | nil : DoneG (.lit .nilFunc) (fun _ => false)
  | fn (F : FuncId) (caps : List GVal) (dn : Hs → Bool) : (∀ h : Hs, GPure Try.prog F (.agg (bytesG h.1) :: caps) (.bool (dn h))) → DoneG (.func (.func F) [] caps) dn
def pushed (m : GM) (dn : Hs → Bool) (S : List Hs) (h : Hs) : Bool := (look m h).isSome && !(decide (h ∈ S)) && !(dn h)
theorem gPush (m : GM) (hm : GMOK m) (h : Hs) (st s sq sw sv so n : Nat) (dg : GVal) (dn : Hs → Bool) (hd : DoneG dg dn) (K Z : List Cm) (S out : List Hs) (hK : K.length ≤ 1000000) (hn : n = K.length) :
    GCalls Try.prog 29 [.ptr 3 sw 0 0, .agg (bytesG h.1)] (wObj st s m sq sw sv so n dg K Z S out) (fun g O' => ∃ sv' Z', g = .tuple [] ∧ O' = if pushed m dn S h = true then wObj st s m sq sw sv' so (n + 1) dg (K ++ [(h, parsM m h)]) Z' (S ++ [h]) out else wObj st s m sq sw sv' so n dg K Z' S out) := by
  have stay : pushed m dn S h = false → GCalls Try.prog 29 [.ptr 3 sw 0 0, .agg (bytesG h.1)] (wObj st s m sq sw sv so n dg K Z S out) (fun g O' => g = .tuple [] ∧ O' = wObj st s m sq sw sv so n dg K Z S out) →
      GCalls Try.prog 29 [.ptr 3 sw 0 0, .agg (bytesG h.1)] (wObj st s m sq sw sv so n dg K Z S out) (fun g O' => ∃ sv' Z', g = .tuple [] ∧ O' = if pushed m dn S h = true then wObj st s m sq sw sv' so (n + 1) dg (K ++ [(h, parsM m h)]) Z' (S ++ [h]) out else wObj st s m sq sw sv' so n dg K Z' S out) := fun hp hc => by
    rw [hp]
    refine hc.mono ?_
    rintro g O' ⟨rfl, rfl⟩
    exact ⟨sv, Z, rfl, by rw [if_neg (by simp)]⟩
  cases hl : look m h with
  | none => exact stay (by unfold pushed; rw [hl]; rfl) (gPush1 m hm h st s sq sw sv so n dg K Z S out hl hn)
  | some l =>
    rw [parsM_some hl]
    rw [parsM_some hl] at stay
    by_cases hS : h ∈ S
    · exact stay (by unfold pushed; rw [hl]; simp [hS]) (gPush2 m hm h st s sq sw sv so n dg K Z S out l hl hS hn)
    · cases hd with
      | nil =>
        have hp : pushed m (fun _ => false) S h = true := by unfold pushed; rw [hl]; simp [hS]
        rw [hp]
        refine (gPush5 m hm h st s sq sw sv so n K Z S out l hl hS hK hn).mono ?_
        rintro g O' ⟨sv', rfl, rfl⟩
        exact ⟨sv', [], rfl, by rw [if_pos rfl]⟩
      | fn F caps dn hF =>
        have hF := hF h
        cases hb : dn h with
        | true =>
          rw [hb] at hF
          exact stay (by unfold pushed; rw [hl, hb]; simp) (gPush3 m hm h st s sq sw sv so n F caps K Z S out l hl hS hF hn)
        | false =>
          rw [hb] at hF
          have hp : pushed m dn S h = true := by unfold pushed; rw [hl, hb]; simp [hS]
          rw [hp]
          refine (gPush4 m hm h st s sq sw sv so n F caps K Z S out l hl hS hF hK hn).mono ?_
          rintro g O' ⟨sv', rfl, rfl⟩
          exact ⟨sv', [], rfl, by rw [if_pos rfl]⟩
theorem gStep1 (m : GM) (hm : GMOK m) (st s sq sw sv so n : Nat) (dg : GVal) (dn : Hs → Bool) (hd : DoneG dg dn) (K Z : List Cm) (x p : Hs) (r S out : List Hs) (hK : K.length ≤ 999999) (hn : n = K.length) :
    GCalls Try.prog 30 [.ptr 3 sw 0 0] (wObj st s m sq sw sv so (n + 1) dg (K ++ [(x, p :: r)]) Z S out) (fun g O' => ∃ sv' Z', g = .tuple [] ∧ O' = if pushed m dn S p = true then wObj st s m sq sw sv' so (n + 2) dg (K ++ [(x, r)] ++ [(p, parsM m p)]) Z' (S ++ [p]) out else wObj st s m sq sw sv' so (n + 1) dg (K ++ [(x, r)]) Z' S out) := by
  subst hn
  have eS : (csG (K ++ [(x, p :: r)] ++ Z)).getD K.length [] = bytesG x.1 ++ [.slice (hsG (p :: r)) .none] := by
    rw [csG_at _ _ (by simp)]
    simp [List.getD, comG]
  have d1 : ((K.length : Int) + 1 - 1).toNat = K.length := by omega
  have eH : (hsG (p :: r)).getD 0 [] = bytesG p.1 := rfl
  have d2 : ((0 : Int) < (r.length : Int) + 1) = True := eq_true (by omega)
  have eD : List.drop (Int.toNat 1) (List.take ((r.length : Int) + 1).toNat (hsG (p :: r))) = hsG r := by
    have e : ((r.length : Int) + 1).toNat = (hsG (p :: r)).length := by rw [hsG_len]; simp
    rw [e, List.take_length]; rfl
  have eW : (csG (K ++ [(x, p :: r)] ++ Z)).set K.length (bytesG x.1 ++ [.slice (hsG r) .none]) = csG (K ++ [(x, r)] ++ Z) := by
    rw [csG_app, csG_app, csG_app, csG_app, List.append_assoc, List.set_append_right _ _ (by rw [csG_len]; omega), csG_len, Nat.sub_self, List.append_assoc]
    rfl
  have cP := gPush m hm p st s sq sw sv so (K.length + 1) dg dn hd (K ++ [(x, r)]) Z S out (by simp; omega) (by simp)
  refine GCalls.dropTo ?_
  refine h30.calls mixS (by simp) ?_
  simp only [gstart, s30, List.cons_append, List.nil_append, List.length_cons, List.length_nil, Nat.reduceAdd, Nat.reduceSub, List.replicate_succ, List.replicate_zero]
  simp +contextual -implicitDefEqProofs (maxSteps := 2000000) (disch := omega) only [drawC, drawK, keepT, ↓lenV, binV, optV, ↓loadV, ↓storeV, ↓fieldAddrV, ↓indexAddrV, ↓allocV, ↓buildSliceV, ↓sliceV, ↓nilV, ↓appendV, ↓srcV, bound, cutTag, hiTag, fillE, GVal.cells, grp, GVal.ofConst, ↓resV, resG, List.map, List.headD, List.take, List.drop, ↓reduceIte, Nat.reduceEqDiff, Nat.reduceAdd, Nat.reduceSub, Nat.reduceLeDiff, reduceCtorEq, implies_true, ne_eq, ↓asrcV, Tag.cap, List.replicate, allSolid, GVal.solid, Nat.reduceBEq, Nat.reduceMul, Nat.reduceLT, List.length_map, List.length_range, splice, vcA, ↓vcB, vcC, fbFd, e30, solidH, len32, take32, kfind_h, csG_len, take32a, drop32a, drop33a, take33a, len33, solid33, all_csG, eS, eH, d1, d2, eD, eW, all_hsG, toNat0, setO_6, setO_7, true_imp_iff, Nat.sub_zero, List.drop_zero, hsG_len, List.length_append, List.length_cons, List.length_nil, List.length_singleton]
  refine ⟨by omega, by omega, by omega, by omega, by omega, by omega, fun u => ⟨by omega, by omega, by omega, by omega, by omega, ?_⟩⟩
  refine (GCalls.tail cP (by rintro g O' ⟨_, _, rfl, rfl⟩; split <;> exact ⟨rfl, by simp⟩) rfl (by simp) [.row u 32 [bytesG p.1]]).mono ?_
  rintro g O' ⟨_, ⟨sv', Z', rfl, rfl⟩, rfl⟩
  simp +contextual -implicitDefEqProofs (maxSteps := 2000000) (disch := omega) only [drawC, drawK, keepT, ↓lenV, binV, optV, ↓loadV, ↓storeV, ↓fieldAddrV, ↓indexAddrV, ↓allocV, ↓buildSliceV, ↓sliceV, ↓nilV, ↓appendV, ↓srcV, bound, cutTag, hiTag, fillE, GVal.cells, grp, GVal.ofConst, ↓resV, resG, List.map, List.headD, List.take, List.drop, ↓reduceIte, Nat.reduceEqDiff, Nat.reduceAdd, Nat.reduceSub, Nat.reduceLeDiff, reduceCtorEq, implies_true, ne_eq, ↓asrcV, Tag.cap, List.replicate, allSolid, GVal.solid, Nat.reduceBEq, Nat.reduceMul, Nat.reduceLT, List.length_map, List.length_range, splice, vcA, ↓vcB, vcC, fbFd, e30]
  exact ⟨_, _, _, rfl, leA_refl _, sv', Z', rfl, rfl⟩
theorem gStep0 (m : GM) (st s sq sw sv so n : Nat) (dg : GVal) (K Z : List Cm) (x : Hs) (S out : List Hs) (hK : K.length ≤ 999999) (ho : out.length ≤ 1000000) (hn : n = K.length) :
    GCalls Try.prog 30 [.ptr 3 sw 0 0] (wObj st s m sq sw sv so (n + 1) dg (K ++ [(x, [])]) Z S out) (fun g O' => ∃ so', g = .tuple [] ∧ O' = wObj st s m sq sw sv so' n dg K ((x, []) :: Z) S (out ++ [x])) := by
  subst hn
  have eS : (csG (K ++ [(x, [])] ++ Z)).getD K.length [] = bytesG x.1 ++ [.slice (hsG []) .none] := by
    rw [csG_at _ _ (by simp)]
    simp [List.getD, comG]
  have d1 : ((K.length : Int) + 1 - 1).toNat = K.length := by omega
  refine h30.calls mixS (by simp) ?_
  simp only [gstart, s30, List.cons_append, List.nil_append, List.length_cons, List.length_nil, Nat.reduceAdd, Nat.reduceSub, List.replicate_succ, List.replicate_zero]
  simp +contextual -implicitDefEqProofs (maxSteps := 2000000) (disch := omega) only [drawC, drawK, keepT, ↓lenV, binV, optV, ↓loadV, ↓storeV, ↓fieldAddrV, ↓indexAddrV, ↓allocV, ↓buildSliceV, ↓sliceV, ↓nilV, ↓appendV, ↓srcV, bound, cutTag, hiTag, fillE, GVal.cells, grp, GVal.ofConst, ↓resV, resG, List.map, List.headD, List.take, List.drop, ↓reduceIte, Nat.reduceEqDiff, Nat.reduceAdd, Nat.reduceSub, Nat.reduceLeDiff, reduceCtorEq, implies_true, ne_eq, ↓asrcV, Tag.cap, List.replicate, allSolid, GVal.solid, Nat.reduceBEq, Nat.reduceMul, Nat.reduceLT, List.length_map, List.length_range, splice, vcA, ↓vcB, vcC, fbFd, e30, solidH, len32, take32, kfind_h, csG_len, take32a, drop32a, drop33a, take33a, len33, solid33, all_csG, eS, d1, toNat0, setO_6, setO_7, Int.lt_irrefl, false_imp_iff, true_and, Nat.sub_zero, List.drop_zero, hsG_len, all_hsG, List.length_append, List.length_cons, List.length_nil, List.length_singleton]
  refine ⟨by omega, by omega, by omega, by omega, by omega, by omega, by omega, fun so' => ⟨by omega, by omega, by omega, so', ?_⟩⟩
  simp [hsG_app, hsG]
end Gv.Try
/- Contracts: order's Walk. -/
set_option linter.unusedVariables false
set_option linter.unusedSimpArgs false
set_option maxRecDepth 20000
set_option maxHeartbeats 4000000
namespace Gv.Try
open Go Gv Go.Proofs
abbrev WSt := List Hs × List Hs
inductive VisL (m : GM) (dn : Hs → Bool) : List Hs → WSt → WSt → Prop
  | nil (so : WSt) : VisL m dn [] so so
  | skip (p : Hs) (r : List Hs) (so T : WSt) : pushed m dn so.1 p = false → VisL m dn r so T → VisL m dn (p :: r) so T
  | go (p : Hs) (r : List Hs) (so so1 T : WSt) : pushed m dn so.1 p = true → VisL m dn (parsM m p) (so.1 ++ [p], so.2) so1 → VisL m dn r (so1.1, so1.2 ++ [p]) T → VisL m dn (p :: r) so T
theorem VisL.inv_skip {m : GM} {dn : Hs → Bool} {p : Hs} {r : List Hs} {so T : WSt} (h : VisL m dn (p :: r) so T) (hp : pushed m dn so.1 p = false) : VisL m dn r so T := by
  cases h with
  | skip _ _ _ _ _ h => exact h
  | go _ _ _ _ _ h1 => rw [h1] at hp; cases hp
theorem VisL.inv_go {m : GM} {dn : Hs → Bool} {p : Hs} {r : List Hs} {so T : WSt} (h : VisL m dn (p :: r) so T) (hp : pushed m dn so.1 p = true) : ∃ so1, VisL m dn (parsM m p) (so.1 ++ [p], so.2) so1 ∧ VisL m dn r (so1.1, so1.2 ++ [p]) T := by
  cases h with
  | skip _ _ _ _ h1 => rw [h1] at hp; cases hp
  | go _ _ _ so1 _ _ h2 h3 => exact ⟨so1, h2, h3⟩
theorem VisL.inv_nil {m : GM} {dn : Hs → Bool} {so T : WSt} (h : VisL m dn [] so T) : T = so := by cases h; rfl
def FinS (m : GM) (dn : Hs → Bool) : List Cm → WSt → WSt → Prop
  | [], so, T => T = so
  | (x, ps) :: r, so, T => ∃ so1, VisL m dn ps so so1 ∧ FinS m dn r (so1.1, so1.2 ++ [x]) T
structure SInv (m : GM) (S out : List Hs) (n : Nat) : Prop where
  nodup : S.Nodup
  keys : ∀ x ∈ S, (look m x).isSome = true
  len : out.length + n ≤ S.length
theorem look_key {α : Type} {m : List (Hs × α)} {x : Hs} (h : (look m x).isSome = true) : x ∈ m.map (·.1) := by
  induction m with
  | nil => cases h
  | cons p r ih =>
    rw [look] at h
    by_cases e : x = p.1
    · simp [e]
    · rw [if_neg e] at h; simp [ih h]
theorem SInv.le {m : GM} {S out : List Hs} {n : Nat} (h : SInv m S out n) : S.length ≤ m.length := by
  have := nodup_lenH S (m.map (·.1)) h.nodup fun x hx => look_key (h.keys x hx)
  simpa using this
theorem pushed_iff {m : GM} {dn : Hs → Bool} {S : List Hs} {h : Hs} (hp : pushed m dn S h = true) : (look m h).isSome = true ∧ h ∉ S ∧ dn h = false := by
  unfold pushed at hp
  simp only [Bool.and_eq_true, Bool.not_eq_true', decide_eq_false_iff_not] at hp
  exact ⟨hp.1.1, hp.1.2, hp.2⟩
theorem SInv.push {m : GM} {S out : List Hs} {n : Nat} (h : SInv m S out n) {dn : Hs → Bool} {x : Hs} (hp : pushed m dn S x = true) : SInv m (S ++ [x]) out (n + 1) := by
  obtain ⟨h1, h2, _⟩ := pushed_iff hp
  refine ⟨?_, fun y hy => ?_, by have := h.len; rw [List.length_append, List.length_singleton]; omega⟩
  · rw [List.nodup_append]
    exact ⟨h.nodup, by simp, fun a ha b hb => by rw [List.mem_singleton.1 hb]; exact fun e => h2 (e ▸ ha)⟩
  · rcases List.mem_append.1 hy with q | q
    · exact h.keys y q
    · rw [List.mem_singleton.1 q]; exact h1
def wMu (m : GM) (S : List Hs) (K : List Cm) : Nat := 6 * (m.length - S.length) + (K.map fun c => c.2.length + 1).sum
theorem gWalkN (m : GM) (hm : GMOK m) (hs : List Hs) (th : Tag) (st s : Nat)  (T : WSt) (hT : VisL m (fun _ => false) hs ([], []) T) (hl : hs.length ≤ 1000000) :
    GCalls Try.prog 13 [.ptr 0 st 0 0, .slice (hsG hs) th, (.lit .nilFunc)] (gObj st s m) (fun g O' => g = .slice (hsG T.2) .none ∧ O' = gObj st s m) := by
  have hml := hm.len
  have hd : DoneG (.lit .nilFunc) (fun _ => false) := .nil
  refine GCalls.dropTo ?_
  refine h13.calls mixS (by simp) ?_
  simp only [gstart, s13, List.cons_append, List.nil_append, List.length_cons, List.length_nil, Nat.reduceAdd, Nat.reduceSub, List.replicate_succ, List.replicate_zero]
  simp +contextual -implicitDefEqProofs (maxSteps := 2000000) (disch := omega) only [↓lenV, binV, optV, ↓loadV, ↓storeV, ↓fieldAddrV, ↓indexAddrV, ↓allocV, ↓boxV, ↓buildV, ↓sliceV, ↓nilV, bound, cutTag, hiTag, fillG, place, GVal.cells, grp, GVal.ofConst, ↓resV, resG, List.map, List.headD, List.take, List.drop, ↓reduceIte, Nat.reduceEqDiff, Nat.reduceAdd, Nat.reduceSub, Nat.reduceLeDiff, reduceCtorEq, implies_true, ne_eq, ↓makeMapV, aggV, Tag.cap, List.replicate, allSolid, GVal.solid, Nat.reduceBEq, Nat.reduceMul, Nat.reduceLT, List.length_map, List.length_range, splice, vcA, ↓vcB, vcC, fbFd, e13, hsG_len]
  refine fun sq => ⟨⟨rfl, rfl, rfl⟩, rfl, rfl, fun sw => ?_⟩
  refine vcSLoop_by (ι := { p : ((Nat × List Cm) × (List Hs × List Hs)) × (Nat × Nat) // p.1.1.1 ≤ hs.length ∧ VisL m (fun _ => false) (hs.drop p.1.1.1) p.1.2 T ∧ SInv m p.1.2.1 p.1.2.2 0 }) (fun p => ⟨[.ptr 0 st 0 0, .slice (hsG hs) th, (.lit .nilFunc)] ++ List.replicate 4 .any ++ [.ptr 3 sw 0 0] ++ List.replicate 9 .any ++ [.slice (hsG hs) th, .int .i64 hs.length, .int .i64 (p.1.1.1.1 : Nat)] ++ List.replicate 19 .any, wObj st s m sq sw p.1.2.1 p.1.2.2 0 (.lit .nilFunc) [] p.1.1.1.2 p.1.1.2.1 p.1.1.2.2⟩) (fun p => hs.length - p.1.1.1.1) ?_ ?_
  · refine Into.cellRow 3 3 33 rfl rfl rfl rfl ?_
    simp +contextual -implicitDefEqProofs (maxSteps := 2000000) (disch := omega) only [↓lenV, binV, optV, ↓loadV, ↓storeV, ↓fieldAddrV, ↓indexAddrV, ↓allocV, ↓boxV, ↓buildV, ↓sliceV, ↓nilV, bound, cutTag, hiTag, fillG, place, GVal.cells, grp, GVal.ofConst, ↓resV, resG, List.map, List.headD, List.take, List.drop, ↓reduceIte, Nat.reduceEqDiff, Nat.reduceAdd, Nat.reduceSub, Nat.reduceLeDiff, reduceCtorEq, implies_true, ne_eq, ↓makeMapV, aggV, Tag.cap, List.replicate, allSolid, GVal.solid, Nat.reduceBEq, Nat.reduceMul, Nat.reduceLT, List.length_map, List.length_range, splice, vcA, ↓vcB, vcC, fbFd, e13]
    intro sv
    refine Into.cellTok 3 4 32 [] rfl rfl rfl rfl ?_
    simp +contextual -implicitDefEqProofs (maxSteps := 2000000) (disch := omega) only [↓lenV, binV, optV, ↓loadV, ↓storeV, ↓fieldAddrV, ↓indexAddrV, ↓allocV, ↓boxV, ↓buildV, ↓sliceV, ↓nilV, bound, cutTag, hiTag, fillG, place, GVal.cells, grp, GVal.ofConst, ↓resV, resG, List.map, List.headD, List.take, List.drop, ↓reduceIte, Nat.reduceEqDiff, Nat.reduceAdd, Nat.reduceSub, Nat.reduceLeDiff, reduceCtorEq, implies_true, ne_eq, ↓makeMapV, aggV, Tag.cap, List.replicate, allSolid, GVal.solid, Nat.reduceBEq, Nat.reduceMul, Nat.reduceLT, List.length_map, List.length_range, splice, vcA, ↓vcB, vcC, fbFd, e13]
    intro so
    exact Into.first ⟨(((0, []), ([], [])), (sv, so)), by show 0 ≤ _; omega, by simpa using hT, ⟨List.nodup_nil, by simp, by simp⟩⟩ ⟨[], rfl⟩ (by simp [WL, leG_self, leG_any, hsG_len])
  · rintro ⟨⟨⟨⟨k, Z⟩, ⟨S, out⟩⟩, ⟨sv, so⟩⟩, hk, hV, hI⟩
    change k ≤ hs.length at hk
    change VisL m (fun _ => false) (hs.drop k) (S, out) T at hV
    change SInv m S out 0 at hI
    have hSm := hI.le
    have hOl := hI.len
    by_cases h : k < hs.length
    · have d0 : ((k : Int) < (hs.length : Int)) = True := eq_true (by omega)
      have eS := hsG_at hs k h
      rw [dropH h] at hV
      generalize hs.getD k h0 = x at *
      have cP := gPush m hm x st s sq sw sv so 0 (.lit .nilFunc) (fun _ => false) hd [] Z S out (by simp) rfl
      simp +contextual -implicitDefEqProofs (maxSteps := 2000000) (disch := omega) only [↓lenV, binV, optV, ↓loadV, ↓storeV, ↓fieldAddrV, ↓indexAddrV, ↓allocV, ↓boxV, ↓buildV, ↓sliceV, ↓nilV, bound, cutTag, hiTag, fillG, place, GVal.cells, grp, GVal.ofConst, ↓resV, resG, List.map, List.headD, List.take, List.drop, ↓reduceIte, Nat.reduceEqDiff, Nat.reduceAdd, Nat.reduceSub, Nat.reduceLeDiff, reduceCtorEq, implies_true, ne_eq, ↓makeMapV, aggV, Tag.cap, List.replicate, allSolid, GVal.solid, Nat.reduceBEq, Nat.reduceMul, Nat.reduceLT, List.length_map, List.length_range, splice, vcA, ↓vcB, vcC, fbFd, e13, solidH, len32, take32, setO_6, setO_7, hsG_len, d0, eS]
      refine ⟨by omega, fun u => ?_⟩
      refine (GCalls.tail cP (by rintro g O' ⟨_, _, rfl, rfl⟩; split <;> exact ⟨rfl, by simp⟩) rfl (by simp) [.row u 32 [bytesG x.1]]).mono ?_
      rintro g O' ⟨_, ⟨sv2, Z2, rfl, rfl⟩, rfl⟩
      have hT1 : ∃ T1, VisL m (fun _ => false) (hs.drop (k + 1)) T1 T ∧ (if pushed m (fun _ => false) S x = true then FinS m (fun _ => false) [(x, parsM m x)] (S ++ [x], out) T1 else T1 = (S, out)) := by
        cases hp : pushed m (fun _ => false) S x with
        | false => exact ⟨_, hV.inv_skip hp, by rw [if_neg (by simp)]⟩
        | true =>
          obtain ⟨so1, hV1, hV2⟩ := hV.inv_go hp
          exact ⟨_, hV2, by rw [if_pos rfl]; exact ⟨so1, hV1, rfl⟩⟩
      obtain ⟨T1, hV2, hF⟩ := hT1
      simp +contextual -implicitDefEqProofs (maxSteps := 2000000) (disch := omega) only [↓lenV, binV, optV, ↓loadV, ↓storeV, ↓fieldAddrV, ↓indexAddrV, ↓allocV, ↓boxV, ↓buildV, ↓sliceV, ↓nilV, bound, cutTag, hiTag, fillG, place, GVal.cells, grp, GVal.ofConst, ↓resV, resG, List.map, List.headD, List.take, List.drop, ↓reduceIte, Nat.reduceEqDiff, Nat.reduceAdd, Nat.reduceSub, Nat.reduceLeDiff, reduceCtorEq, implies_true, ne_eq, ↓makeMapV, aggV, Tag.cap, List.replicate, allSolid, GVal.solid, Nat.reduceBEq, Nat.reduceMul, Nat.reduceLT, List.length_map, List.length_range, splice, vcA, ↓vcB, vcC, fbFd, e13, solidH, len32, take32, setO_6, setO_7]
      refine vcSLoop_by (ι := { p : ((List Cm × List Cm) × (List Hs × List Hs)) × (Nat × Nat) // FinS m (fun _ => false) p.1.1.1.reverse p.1.2 T1 ∧ SInv m p.1.2.1 p.1.2.2 p.1.1.1.length }) (fun p => ⟨[.ptr 0 st 0 0, .slice (hsG hs) th, (.lit .nilFunc)] ++ List.replicate 4 .any ++ [.ptr 3 sw 0 0] ++ List.replicate 9 .any ++ [.slice (hsG hs) th, .int .i64 hs.length, .int .i64 (k : Nat)] ++ List.replicate 19 .any, wObj st s m sq sw p.1.2.1 p.1.2.2 p.1.1.1.1.length (.lit .nilFunc) p.1.1.1.1 p.1.1.1.2 p.1.1.2.1 p.1.1.2.2⟩) (fun p => wMu m p.1.1.2.1 p.1.1.1.1) ?_ ?_
      · cases hp : pushed m (fun _ => false) S x with
        | false =>
          rw [hp, if_neg (by simp)] at hF
          exact Into.first ⟨((([], Z2), (S, out)), (sv2, so)), hF, hI⟩ ⟨[.row u 32 [bytesG x.1]], by rw [if_neg (by simp)]; rfl⟩ (by simp [WL, leG_self, leG_any])
        | true =>
          rw [hp, if_pos rfl] at hF
          exact Into.first ⟨((([(x, parsM m x)], Z2), (S ++ [x], out)), (sv2, so)), hF, hI.push hp⟩ ⟨[.row u 32 [bytesG x.1]], by rw [if_pos rfl]; rfl⟩ (by simp [WL, leG_self, leG_any])
      · rintro ⟨⟨⟨⟨K, Z3⟩, ⟨S3, out3⟩⟩, ⟨sv3, so3⟩⟩, hF3, hI3⟩
        change FinS m (fun _ => false) K.reverse (S3, out3) T1 at hF3
        change SInv m S3 out3 K.length at hI3
        have hS3 := hI3.le
        have hO3 := hI3.len
        rcases List.eq_nil_or_concat K with rfl | ⟨K0, y, e⟩
        · simp +contextual -implicitDefEqProofs (maxSteps := 2000000) (disch := omega) only [↓lenV, binV, optV, ↓loadV, ↓storeV, ↓fieldAddrV, ↓indexAddrV, ↓allocV, ↓boxV, ↓buildV, ↓sliceV, ↓nilV, bound, cutTag, hiTag, fillG, place, GVal.cells, grp, GVal.ofConst, ↓resV, resG, List.map, List.headD, List.take, List.drop, ↓reduceIte, Nat.reduceEqDiff, Nat.reduceAdd, Nat.reduceSub, Nat.reduceLeDiff, reduceCtorEq, implies_true, ne_eq, ↓makeMapV, aggV, Tag.cap, List.replicate, allSolid, GVal.solid, Nat.reduceBEq, Nat.reduceMul, Nat.reduceLT, List.length_map, List.length_range, splice, vcA, ↓vcB, vcC, fbFd, e13, solidH, len32, take32, setO_6, setO_7, Int.lt_irrefl, List.length_nil, Int.natCast_zero]
          rw [List.reverse_nil] at hF3
          rw [FinS] at hF3
          rw [hF3] at hV2
          exact Into.at ⟨(((k + 1, Z3), (S3, out3)), (sv3, so3)), by show k + 1 ≤ _; omega, hV2, hI3⟩ (by show _ < _; simp; omega) ⟨[], rfl⟩ (by simp [WL, leG_self, leG_any, leG_int])
        · rw [List.concat_eq_append] at e
          subst e
          obtain ⟨y, ps⟩ := y
          rw [List.reverse_append, List.reverse_singleton, List.singleton_append] at hF3
          obtain ⟨so1, hVp, hF4⟩ := hF3
          have dK : ((0 : Int) < (K0.length : Int) + 1) = True := eq_true (by omega)
          have hKl : K0.length + 1 ≤ 10000 := by rw [List.length_append, List.length_singleton] at hO3; omega
          cases ps with
          | nil =>
            have e1 := hVp.inv_nil
            subst e1
            have cS := gStep0 m st s sq sw sv3 so3 K0.length (.lit .nilFunc) K0 Z3 y S3 out3 (by omega) (by omega) rfl
            simp +contextual -implicitDefEqProofs (maxSteps := 2000000) (disch := omega) only [↓lenV, binV, optV, ↓loadV, ↓storeV, ↓fieldAddrV, ↓indexAddrV, ↓allocV, ↓boxV, ↓buildV, ↓sliceV, ↓nilV, bound, cutTag, hiTag, fillG, place, GVal.cells, grp, GVal.ofConst, ↓resV, resG, List.map, List.headD, List.take, List.drop, ↓reduceIte, Nat.reduceEqDiff, Nat.reduceAdd, Nat.reduceSub, Nat.reduceLeDiff, reduceCtorEq, implies_true, ne_eq, ↓makeMapV, aggV, Tag.cap, List.replicate, allSolid, GVal.solid, Nat.reduceBEq, Nat.reduceMul, Nat.reduceLT, List.length_map, List.length_range, splice, vcA, ↓vcB, vcC, fbFd, e13, solidH, len32, take32, setO_6, setO_7, dK, List.length_append, List.length_cons, List.length_nil, List.length_singleton]
            refine cS.mono ?_
            rintro g O' ⟨so4, rfl, rfl⟩
            simp +contextual -implicitDefEqProofs (maxSteps := 2000000) (disch := omega) only [↓lenV, binV, optV, ↓loadV, ↓storeV, ↓fieldAddrV, ↓indexAddrV, ↓allocV, ↓boxV, ↓buildV, ↓sliceV, ↓nilV, bound, cutTag, hiTag, fillG, place, GVal.cells, grp, GVal.ofConst, ↓resV, resG, List.map, List.headD, List.take, List.drop, ↓reduceIte, Nat.reduceEqDiff, Nat.reduceAdd, Nat.reduceSub, Nat.reduceLeDiff, reduceCtorEq, implies_true, ne_eq, ↓makeMapV, aggV, Tag.cap, List.replicate, allSolid, GVal.solid, Nat.reduceBEq, Nat.reduceMul, Nat.reduceLT, List.length_map, List.length_range, splice, vcA, ↓vcB, vcC, fbFd, e13, solidH, len32, take32, setO_6, setO_7]
            refine Into.at ⟨(((K0, (y, []) :: Z3), (S3, out3 ++ [y])), (sv3, so4)), hF4, ⟨hI3.nodup, hI3.keys, ?_⟩⟩ ?_ ⟨[], rfl⟩ (by simp [WL, leG_self, leG_any, leG_int])
            · show (out3 ++ [y]).length + K0.length ≤ S3.length
              rw [List.length_append, List.length_singleton] at hO3 ⊢; omega
            · show wMu m S3 K0 < wMu m S3 (K0 ++ [(y, [])])
              simp [wMu]
          | cons p r =>
            have cS := gStep1 m hm st s sq sw sv3 so3 K0.length (.lit .nilFunc) (fun _ => false) hd K0 Z3 y p r S3 out3 (by omega) rfl
            have hpl := hm.pars p
            simp +contextual -implicitDefEqProofs (maxSteps := 2000000) (disch := omega) only [↓lenV, binV, optV, ↓loadV, ↓storeV, ↓fieldAddrV, ↓indexAddrV, ↓allocV, ↓boxV, ↓buildV, ↓sliceV, ↓nilV, bound, cutTag, hiTag, fillG, place, GVal.cells, grp, GVal.ofConst, ↓resV, resG, List.map, List.headD, List.take, List.drop, ↓reduceIte, Nat.reduceEqDiff, Nat.reduceAdd, Nat.reduceSub, Nat.reduceLeDiff, reduceCtorEq, implies_true, ne_eq, ↓makeMapV, aggV, Tag.cap, List.replicate, allSolid, GVal.solid, Nat.reduceBEq, Nat.reduceMul, Nat.reduceLT, List.length_map, List.length_range, splice, vcA, ↓vcB, vcC, fbFd, e13, solidH, len32, take32, setO_6, setO_7, dK, List.length_append, List.length_cons, List.length_nil, List.length_singleton]
            refine cS.mono ?_
            rintro g O' ⟨sv4, Z4, rfl, rfl⟩
            cases hp : pushed m (fun _ => false) S3 p with
            | false =>
              have hVr := hVp.inv_skip hp
              simp +contextual -implicitDefEqProofs (maxSteps := 2000000) (disch := omega) only [↓lenV, binV, optV, ↓loadV, ↓storeV, ↓fieldAddrV, ↓indexAddrV, ↓allocV, ↓boxV, ↓buildV, ↓sliceV, ↓nilV, bound, cutTag, hiTag, fillG, place, GVal.cells, grp, GVal.ofConst, ↓resV, resG, List.map, List.headD, List.take, List.drop, ↓reduceIte, Nat.reduceEqDiff, Nat.reduceAdd, Nat.reduceSub, Nat.reduceLeDiff, reduceCtorEq, implies_true, ne_eq, ↓makeMapV, aggV, Tag.cap, List.replicate, allSolid, GVal.solid, Nat.reduceBEq, Nat.reduceMul, Nat.reduceLT, List.length_map, List.length_range, splice, vcA, ↓vcB, vcC, fbFd, e13, solidH, len32, take32, setO_6, setO_7, Bool.false_eq_true, if_false]
              refine Into.at ⟨(((K0 ++ [(y, r)], Z4), (S3, out3)), (sv4, so3)), ?_, ⟨hI3.nodup, hI3.keys, ?_⟩⟩ ?_ ⟨[], by simp⟩ (by simp [WL, leG_self, leG_any, leG_int])
              · show FinS m (fun _ => false) (K0 ++ [(y, r)]).reverse (S3, out3) T1
                rw [List.reverse_append, List.reverse_singleton, List.singleton_append]
                exact ⟨so1, hVr, hF4⟩
              · show out3.length + (K0 ++ [(y, r)]).length ≤ S3.length
                rw [List.length_append, List.length_singleton] at hO3 ⊢; exact hO3
              · show wMu m S3 (K0 ++ [(y, r)]) < wMu m S3 (K0 ++ [(y, p :: r)])
                simp [wMu]
            | true =>
              obtain ⟨so2, hVq, hVr⟩ := hVp.inv_go hp
              have hIp := hI3.push hp
              have hIl := hIp.le
              simp +contextual -implicitDefEqProofs (maxSteps := 2000000) (disch := omega) only [↓lenV, binV, optV, ↓loadV, ↓storeV, ↓fieldAddrV, ↓indexAddrV, ↓allocV, ↓boxV, ↓buildV, ↓sliceV, ↓nilV, bound, cutTag, hiTag, fillG, place, GVal.cells, grp, GVal.ofConst, ↓resV, resG, List.map, List.headD, List.take, List.drop, ↓reduceIte, Nat.reduceEqDiff, Nat.reduceAdd, Nat.reduceSub, Nat.reduceLeDiff, reduceCtorEq, implies_true, ne_eq, ↓makeMapV, aggV, Tag.cap, List.replicate, allSolid, GVal.solid, Nat.reduceBEq, Nat.reduceMul, Nat.reduceLT, List.length_map, List.length_range, splice, vcA, ↓vcB, vcC, fbFd, e13, solidH, len32, take32, setO_6, setO_7, if_true]
              refine Into.at ⟨(((K0 ++ [(y, r)] ++ [(p, parsM m p)], Z4), (S3 ++ [p], out3)), (sv4, so3)), ?_, ⟨hIp.nodup, hIp.keys, ?_⟩⟩ ?_ ⟨[], by simp⟩ (by simp [WL, leG_self, leG_any, leG_int])
              · show FinS m (fun _ => false) (K0 ++ [(y, r)] ++ [(p, parsM m p)]).reverse (S3 ++ [p], out3) T1
                rw [List.reverse_append, List.reverse_singleton, List.singleton_append, List.reverse_append, List.reverse_singleton, List.singleton_append]
                exact ⟨so2, hVq, so1, hVr, hF4⟩
              · have := hIp.len
                show out3.length + (K0 ++ [(y, r)] ++ [(p, parsM m p)]).length ≤ (S3 ++ [p]).length
                rw [List.length_append, List.length_singleton] at this ⊢
                rw [List.length_append, List.length_singleton] at this ⊢
                rw [List.length_append, List.length_singleton]
                omega
              · show wMu m (S3 ++ [p]) (K0 ++ [(y, r)] ++ [(p, parsM m p)]) < wMu m S3 (K0 ++ [(y, p :: r)])
                rw [List.length_append, List.length_singleton] at hIl
                simp [wMu]
                omega
    · have d0 : ((k : Int) < (hs.length : Int)) = False := eq_false (by omega)
      rw [List.drop_of_length_le (by omega)] at hV
      have eT := hV.inv_nil
      subst eT
      simp +contextual -implicitDefEqProofs (maxSteps := 2000000) (disch := omega) only [↓lenV, binV, optV, ↓loadV, ↓storeV, ↓fieldAddrV, ↓indexAddrV, ↓allocV, ↓boxV, ↓buildV, ↓sliceV, ↓nilV, bound, cutTag, hiTag, fillG, place, GVal.cells, grp, GVal.ofConst, ↓resV, resG, List.map, List.headD, List.take, List.drop, ↓reduceIte, Nat.reduceEqDiff, Nat.reduceAdd, Nat.reduceSub, Nat.reduceLeDiff, reduceCtorEq, implies_true, ne_eq, ↓makeMapV, aggV, Tag.cap, List.replicate, allSolid, GVal.solid, Nat.reduceBEq, Nat.reduceMul, Nat.reduceLT, List.length_map, List.length_range, splice, vcA, ↓vcB, vcC, fbFd, e13, solidH, len32, take32, setO_6, setO_7, d0]
      exact ⟨.slice (hsG out) .none, gObj st s m, _, rfl, by rw [leA_slice], rfl, rfl⟩
end Gv.Try
/- Contracts: chapter 12's example. -/
set_option linter.unusedVariables false
set_option linter.unusedSimpArgs false
set_option maxRecDepth 20000
set_option maxHeartbeats 4000000
namespace Gv.Try
open Go Gv Go.Proofs
theorem GCalls.args {P : Program} {f : FuncId} {args args' : List GVal} {O : List GObj} {K : GVal → List GObj → Prop} (h : GCalls P f args O K) (ha : GLes args' args) : GCalls P f args' O K :=
  ⟨h.1, fun E w vs hs hv => h.2 E w vs hs ⟨by rw [hv.1, ha.len], fun k g hg => by
    obtain ⟨x, hx, hle⟩ := ha.at_ k g hg
    exact hle _ _ (hv.2 k x hx)⟩⟩
def hq (a b c : UInt8) : Hs := ⟨a :: b :: c :: List.replicate 29 0, rfl⟩
def q1 : Hs := hq 1 0 0
theorem qE1 : ([.int .u8 1, .int .u8 0, .int .u8 0, .int .u8 0, .int .u8 0, .int .u8 0, .int .u8 0, .int .u8 0, .int .u8 0, .int .u8 0, .int .u8 0, .int .u8 0, .int .u8 0, .int .u8 0, .int .u8 0, .int .u8 0, .int .u8 0, .int .u8 0, .int .u8 0, .int .u8 0, .int .u8 0, .int .u8 0, .int .u8 0, .int .u8 0, .int .u8 0, .int .u8 0, .int .u8 0, .int .u8 0, .int .u8 0, .int .u8 0, .int .u8 0, .int .u8 0] : List GVal) = bytesG q1.1 := rfl
theorem qR1 (x : GVal) : ([.int .u8 1, .int .u8 0, .int .u8 0, .int .u8 0, .int .u8 0, .int .u8 0, .int .u8 0, .int .u8 0, .int .u8 0, .int .u8 0, .int .u8 0, .int .u8 0, .int .u8 0, .int .u8 0, .int .u8 0, .int .u8 0, .int .u8 0, .int .u8 0, .int .u8 0, .int .u8 0, .int .u8 0, .int .u8 0, .int .u8 0, .int .u8 0, .int .u8 0, .int .u8 0, .int .u8 0, .int .u8 0, .int .u8 0, .int .u8 0, .int .u8 0, .int .u8 0, x] : List GVal) = bytesG q1.1 ++ [x] := rfl
def q2 : Hs := hq 2 0 0
theorem qE2 : ([.int .u8 2, .int .u8 0, .int .u8 0, .int .u8 0, .int .u8 0, .int .u8 0, .int .u8 0, .int .u8 0, .int .u8 0, .int .u8 0, .int .u8 0, .int .u8 0, .int .u8 0, .int .u8 0, .int .u8 0, .int .u8 0, .int .u8 0, .int .u8 0, .int .u8 0, .int .u8 0, .int .u8 0, .int .u8 0, .int .u8 0, .int .u8 0, .int .u8 0, .int .u8 0, .int .u8 0, .int .u8 0, .int .u8 0, .int .u8 0, .int .u8 0, .int .u8 0] : List GVal) = bytesG q2.1 := rfl
theorem qR2 (x : GVal) : ([.int .u8 2, .int .u8 0, .int .u8 0, .int .u8 0, .int .u8 0, .int .u8 0, .int .u8 0, .int .u8 0, .int .u8 0, .int .u8 0, .int .u8 0, .int .u8 0, .int .u8 0, .int .u8 0, .int .u8 0, .int .u8 0, .int .u8 0, .int .u8 0, .int .u8 0, .int .u8 0, .int .u8 0, .int .u8 0, .int .u8 0, .int .u8 0, .int .u8 0, .int .u8 0, .int .u8 0, .int .u8 0, .int .u8 0, .int .u8 0, .int .u8 0, .int .u8 0, x] : List GVal) = bytesG q2.1 ++ [x] := rfl
def q3 : Hs := hq 3 0 0
theorem qE3 : ([.int .u8 3, .int .u8 0, .int .u8 0, .int .u8 0, .int .u8 0, .int .u8 0, .int .u8 0, .int .u8 0, .int .u8 0, .int .u8 0, .int .u8 0, .int .u8 0, .int .u8 0, .int .u8 0, .int .u8 0, .int .u8 0, .int .u8 0, .int .u8 0, .int .u8 0, .int .u8 0, .int .u8 0, .int .u8 0, .int .u8 0, .int .u8 0, .int .u8 0, .int .u8 0, .int .u8 0, .int .u8 0, .int .u8 0, .int .u8 0, .int .u8 0, .int .u8 0] : List GVal) = bytesG q3.1 := rfl
theorem qR3 (x : GVal) : ([.int .u8 3, .int .u8 0, .int .u8 0, .int .u8 0, .int .u8 0, .int .u8 0, .int .u8 0, .int .u8 0, .int .u8 0, .int .u8 0, .int .u8 0, .int .u8 0, .int .u8 0, .int .u8 0, .int .u8 0, .int .u8 0, .int .u8 0, .int .u8 0, .int .u8 0, .int .u8 0, .int .u8 0, .int .u8 0, .int .u8 0, .int .u8 0, .int .u8 0, .int .u8 0, .int .u8 0, .int .u8 0, .int .u8 0, .int .u8 0, .int .u8 0, .int .u8 0, x] : List GVal) = bytesG q3.1 ++ [x] := rfl
def q4 : Hs := hq 4 0 0
theorem qE4 : ([.int .u8 4, .int .u8 0, .int .u8 0, .int .u8 0, .int .u8 0, .int .u8 0, .int .u8 0, .int .u8 0, .int .u8 0, .int .u8 0, .int .u8 0, .int .u8 0, .int .u8 0, .int .u8 0, .int .u8 0, .int .u8 0, .int .u8 0, .int .u8 0, .int .u8 0, .int .u8 0, .int .u8 0, .int .u8 0, .int .u8 0, .int .u8 0, .int .u8 0, .int .u8 0, .int .u8 0, .int .u8 0, .int .u8 0, .int .u8 0, .int .u8 0, .int .u8 0] : List GVal) = bytesG q4.1 := rfl
theorem qR4 (x : GVal) : ([.int .u8 4, .int .u8 0, .int .u8 0, .int .u8 0, .int .u8 0, .int .u8 0, .int .u8 0, .int .u8 0, .int .u8 0, .int .u8 0, .int .u8 0, .int .u8 0, .int .u8 0, .int .u8 0, .int .u8 0, .int .u8 0, .int .u8 0, .int .u8 0, .int .u8 0, .int .u8 0, .int .u8 0, .int .u8 0, .int .u8 0, .int .u8 0, .int .u8 0, .int .u8 0, .int .u8 0, .int .u8 0, .int .u8 0, .int .u8 0, .int .u8 0, .int .u8 0, x] : List GVal) = bytesG q4.1 ++ [x] := rfl
def fourCs : List Cm := [(q4, [q2, q3]), (q2, [q1]), (q3, [q1]), (q1, [])]
theorem reach_rank {M : GM} (rk : Hs → Nat) (hr : ∀ p ∈ M, ∀ y ∈ p.2, rk y < rk p.1) {l : List Hs} {n : Nat} (hl : ∀ x ∈ l, rk x < n) {x : Hs} (h : Reach (parsM M) l x) : rk x < n := by
  induction h with
  | base x hx => exact hl x hx
  | step x y _ hy ih =>
    obtain ⟨p, h1, h2, h3⟩ := parsM_mem hy
    have := hr p h1 y h3
    rw [h2] at this
    omega
theorem roundP_rank {m M : GM} {cs : List Cm} (rk : Hs → Nat) (hr : ∀ p ∈ M, ∀ y ∈ p.2, rk y < rk p.1) (hc : ∀ c ∈ cs, ∀ y ∈ c.2, rk y < rk c.1) : roundP m M cs = none := by
  unfold roundP
  rw [List.findSome?_eq_none_iff]
  intro c hcm
  unfold roundE
  split
  · rfl
  · rw [if_neg]
    intro h
    have := reach_rank rk hr (hc c hcm) h
    omega
def rkQ (h : Hs) : Nat := (h.1.headD 0).toNat
theorem four_joined : joinedP 2 [] fourCs [] = .ok fourCs := by
  have e1 : sizesP 2 0 fourCs = none := by kernel_rfl
  have e2 : joinP [] fourCs = .ok fourCs := by kernel_rfl
  have e3 : lackP fourCs fourCs [] = none := by kernel_rfl
  have e4 : roundP [] fourCs fourCs = none := roundP_rank rkQ (by decide) (by decide)
  unfold joinedP
  rw [show ([] : List Hs).length = 0 from rfl, e1]
  simp only [e2, e3, e4]
  rw [if_neg (by decide)]
theorem fourG : GOK ([] : GM) := ⟨by simp, by simp⟩
theorem four_arg (st : Nat) : GLes [.ptr 0 st 0 0, .slice [bytesG q4.1 ++ [.slice [bytesG q2.1, bytesG q3.1] .full], bytesG q2.1 ++ [.slice [bytesG q1.1] .full], bytesG q3.1 ++ [.slice [bytesG q1.1] .full], bytesG q1.1 ++ [.slice [] .nil]] .full] [.ptr 0 st 0 0, .slice (csG fourCs) .none] :=
  ⟨GLe.refl _, GLe.trans GLe.none (GLe.slice ⟨GLes.app (GLes.refl _) ⟨GLe.none, trivial⟩, GLes.app (GLes.refl _) ⟨GLe.none, trivial⟩, GLes.app (GLes.refl _) ⟨GLe.none, trivial⟩, GLes.app (GLes.refl _) ⟨GLe.none, trivial⟩, trivial⟩), trivial⟩
theorem gFour : GCalls Try.prog 14 [] [] (fun g O' => ∃ st s, g = .ptr 0 st 0 0 ∧ O' = gObj st s fourCs) := by
  have cA := fun st s => gAdd [] fourG fourCs st s (by decide) (by decide)
  have ea : addedE [] fourCs = none := by unfold addedE; rw [four_joined]
  have em : addedM [] fourCs = fourCs := by unfold addedM; rw [four_joined]
  simp only [ea, em] at cA
  refine h14.calls mixS (by simp) ?_
  simp only [gstart, s14, List.cons_append, List.nil_append, List.length_cons, List.length_nil, Nat.reduceAdd, Nat.reduceSub, List.replicate_succ, List.replicate_zero]
  simp +contextual -implicitDefEqProofs (maxSteps := 2000000) (disch := omega) only [binV, ↓buildV, ↓buildSliceV, fillG, fillE, place, GVal.cells, grp, GVal.ofConst, ↓resV, resG, List.map, List.headD, List.take, List.drop, ↓reduceIte, Nat.reduceEqDiff, Nat.reduceAdd, Nat.reduceSub, Nat.reduceLeDiff, reduceCtorEq, implies_true, ne_eq, aggV, Tag.cap, List.replicate, allSolid, GVal.solid, Nat.reduceBEq, Nat.reduceMul, Nat.reduceLT, List.length_map, List.length_range, splice, vcA, ↓vcB, vcC, fbFd, e14]
  refine gNew.mono ?_
  rintro g O' ⟨st, s, rfl, rfl⟩
  simp +contextual -implicitDefEqProofs (maxSteps := 2000000) (disch := omega) only [binV, ↓buildV, ↓buildSliceV, fillG, fillE, place, GVal.cells, grp, GVal.ofConst, ↓resV, resG, List.map, List.headD, List.take, List.drop, ↓reduceIte, Nat.reduceEqDiff, Nat.reduceAdd, Nat.reduceSub, Nat.reduceLeDiff, reduceCtorEq, implies_true, ne_eq, aggV, Tag.cap, List.replicate, allSolid, GVal.solid, Nat.reduceBEq, Nat.reduceMul, Nat.reduceLT, List.length_map, List.length_range, splice, vcA, ↓vcB, vcC, fbFd, e14, qE1, qE2, qE3, qE4, qR1, qR2, qR3, qR4, len32, take32, take32a, drop32a, drop33a, take33a, len33, solid33, solidH]
  refine (GCalls.args (cA st s) (four_arg st)).mono ?_
  rintro g O' ⟨x', y', rfl, rfl, s', rfl, rfl⟩
  simp +contextual -implicitDefEqProofs (maxSteps := 2000000) (disch := omega) only [binV, ↓buildV, ↓buildSliceV, fillG, fillE, place, GVal.cells, grp, GVal.ofConst, ↓resV, resG, List.map, List.headD, List.take, List.drop, ↓reduceIte, Nat.reduceEqDiff, Nat.reduceAdd, Nat.reduceSub, Nat.reduceLeDiff, reduceCtorEq, implies_true, ne_eq, aggV, Tag.cap, List.replicate, allSolid, GVal.solid, Nat.reduceBEq, Nat.reduceMul, Nat.reduceLT, List.length_map, List.length_range, splice, vcA, ↓vcB, vcC, fbFd, e14, errV]
  exact ⟨st, s', rfl, rfl⟩
theorem fourM : GMOK fourCs := ⟨by decide, by decide⟩
theorem four_walk : VisL fourCs (fun _ => false) [q4] ([], []) ([q4, q2, q1, q3], [q1, q2, q3, q4]) := by
  have p4 : parsM fourCs q4 = [q2, q3] := by kernel_rfl
  have p3 : parsM fourCs q3 = [q1] := by kernel_rfl
  have p2 : parsM fourCs q2 = [q1] := by kernel_rfl
  have p1 : parsM fourCs q1 = [] := by kernel_rfl
  have w1 : VisL fourCs (fun _ => false) [q1] ([q4, q2], []) ([q4, q2, q1], [q1]) := .go q1 [] _ ([q4, q2, q1], []) _ (by kernel_rfl) (by rw [p1]; exact .nil _) (.nil _)
  have w3 : VisL fourCs (fun _ => false) [q1] ([q4, q2, q1, q3], [q1, q2]) ([q4, q2, q1, q3], [q1, q2]) := .skip q1 [] _ _ (by kernel_rfl) (.nil _)
  have w23 : VisL fourCs (fun _ => false) [q3] ([q4, q2, q1], [q1, q2]) ([q4, q2, q1, q3], [q1, q2, q3]) := .go q3 [] _ ([q4, q2, q1, q3], [q1, q2]) _ (by kernel_rfl) (by rw [p3]; exact w3) (.nil _)
  have w2 : VisL fourCs (fun _ => false) [q2, q3] ([q4], []) ([q4, q2, q1, q3], [q1, q2, q3]) := .go q2 [q3] _ ([q4, q2, q1], [q1]) _ (by kernel_rfl) (by rw [p2]; exact w1) w23
  exact .go q4 [] _ ([q4, q2, q1, q3], [q1, q2, q3]) _ (by kernel_rfl) (by rw [p4]; exact w2) (.nil _)
theorem gKnown : GPure Try.prog 10 [] (.bool true) := by
  have cS := hSame [q1, q2, q3, q4] [q1, q2, q3, q4] .none .full (by decide)
  rw [decide_eq_true rfl] at cS
  refine GCalls.toPure ?_
  refine h10.calls mixS (by simp) ?_
  simp only [gstart, s10, List.cons_append, List.nil_append, List.length_cons, List.length_nil, Nat.reduceAdd, Nat.reduceSub, List.replicate_succ, List.replicate_zero]
  simp +contextual -implicitDefEqProofs (maxSteps := 2000000) (disch := omega) only [binV, ↓buildV, ↓buildSliceV, fillG, fillE, place, GVal.cells, grp, GVal.ofConst, ↓resV, resG, List.map, List.headD, List.take, List.drop, ↓reduceIte, Nat.reduceEqDiff, Nat.reduceAdd, Nat.reduceSub, Nat.reduceLeDiff, reduceCtorEq, implies_true, ne_eq, aggV, Tag.cap, List.replicate, allSolid, GVal.solid, Nat.reduceBEq, Nat.reduceMul, Nat.reduceLT, List.length_map, List.length_range, splice, vcA, ↓vcB, vcC, fbFd, e10]
  refine gFour.mono ?_
  rintro g O' ⟨st, s, rfl, rfl⟩
  simp +contextual -implicitDefEqProofs (maxSteps := 2000000) (disch := omega) only [binV, ↓buildV, ↓buildSliceV, fillG, fillE, place, GVal.cells, grp, GVal.ofConst, ↓resV, resG, List.map, List.headD, List.take, List.drop, ↓reduceIte, Nat.reduceEqDiff, Nat.reduceAdd, Nat.reduceSub, Nat.reduceLeDiff, reduceCtorEq, implies_true, ne_eq, aggV, Tag.cap, List.replicate, allSolid, GVal.solid, Nat.reduceBEq, Nat.reduceMul, Nat.reduceLT, List.length_map, List.length_range, splice, vcA, ↓vcB, vcC, fbFd, e10, qE1, qE2, qE3, qE4, qR1, qR2, qR3, qR4, len32, take32, take32a, drop32a, drop33a, take33a, len33, solid33, solidH]
  refine (gWalkN fourCs fourM [q4] .full st s _ four_walk (by decide)).mono ?_
  rintro g O' ⟨rfl, rfl⟩
  simp +contextual -implicitDefEqProofs (maxSteps := 2000000) (disch := omega) only [binV, ↓buildV, ↓buildSliceV, fillG, fillE, place, GVal.cells, grp, GVal.ofConst, ↓resV, resG, List.map, List.headD, List.take, List.drop, ↓reduceIte, Nat.reduceEqDiff, Nat.reduceAdd, Nat.reduceSub, Nat.reduceLeDiff, reduceCtorEq, implies_true, ne_eq, aggV, Tag.cap, List.replicate, allSolid, GVal.solid, Nat.reduceBEq, Nat.reduceMul, Nat.reduceLT, List.length_map, List.length_range, splice, vcA, ↓vcB, vcC, fbFd, e10, qE1, qE2, qE3, qE4, qR1, qR2, qR3, qR4, len32, take32, take32a, drop32a, drop33a, take33a, len33, solid33, solidH]
  refine cS.then ?_ (by rfl)
  simp +contextual -implicitDefEqProofs (maxSteps := 2000000) (disch := omega) only [binV, ↓buildV, ↓buildSliceV, fillG, fillE, place, GVal.cells, grp, GVal.ofConst, ↓resV, resG, List.map, List.headD, List.take, List.drop, ↓reduceIte, Nat.reduceEqDiff, Nat.reduceAdd, Nat.reduceSub, Nat.reduceLeDiff, reduceCtorEq, implies_true, ne_eq, aggV, Tag.cap, List.replicate, allSolid, GVal.solid, Nat.reduceBEq, Nat.reduceMul, Nat.reduceLT, List.length_map, List.length_range, splice, vcA, ↓vcB, vcC, fbFd, e10]
  exact ⟨1, .bool true, rfl, by rw [leA_bool]⟩
end Gv.Try
