/- Contracts: graph's round, joinedBy, Add, New. -/
import Derived.Test.YtgkglnjmiobdmaaDoorP9
import Derived.Test.YtgkglnjmiobdmaaDoorP6
import Derived.KernelRfl
import Derived.Test.YtgkglnjmiobdmaaDoorP5
set_option linter.unusedVariables false
set_option linter.unusedSimpArgs false
set_option maxRecDepth 20000
set_option maxHeartbeats 4000000
namespace Gv.Tryd
open Go Gv Go.Proofs
theorem parsM_some {m : GM} {h : Hs} {l : List Hs} (e : look m h = some l) : parsM m h = l := by rw [parsM, e]; rfl
theorem parsM_none {m : GM} {h : Hs} (e : look m h = none) : parsM m h = [] := by rw [parsM, e]; rfl
theorem gRound1 (a : GObj) (M : GM) (h : Hs) (s : Nat) (l : List Hs) (el : look M h = some l) : GCalls Tryd.prog 65 [.agg (bytesG h.1), .ref [.map 1 s]] [a, .map s (kvG encL M)] (fun g O' => g = .slice (hsG l) .none ∧ O' = [a, .map s (kvG encL M)]) := by
  obtain ⟨i, hi, hv, _⟩ := look_idx encL M h l el
  refine h65.calls mixS (by simp) ?_
  simp only [gstart, s65, List.cons_append, List.nil_append, List.length_cons, List.length_nil, Nat.reduceAdd, Nat.reduceSub, List.replicate_succ, List.replicate_zero]
  simp +contextual -implicitDefEqProofs (maxSteps := 2000000) (disch := omega) only [optV, ↓loadV, ↓boxV, ↓sliceV, bound, cutTag, hiTag, GVal.cells, grp, GVal.ofConst, ↓resV, resG, List.map, List.headD, List.take, List.drop, ↓reduceIte, Nat.reduceEqDiff, Nat.reduceAdd, Nat.reduceSub, Nat.reduceLeDiff, reduceCtorEq, implies_true, ne_eq, ↓lookupV, keyOk, keyCells, pairG, Tag.cap, List.replicate, allSolid, GVal.solid, Nat.reduceBEq, Nat.reduceMul, Nat.reduceLT, List.length_map, List.length_range, splice, vcA, ↓vcB, vcC, fbFu, e65, kfind_h, hi, hv, solidH, len32, take32]
theorem gRound0 (a : GObj) (M : GM) (h : Hs) (s : Nat) (el : look M h = none) : GCalls Tryd.prog 65 [.agg (bytesG h.1), .ref [.map 1 s]] [a, .map s (kvG encL M)] (fun g O' => g = .slice [] .nil ∧ O' = [a, .map s (kvG encL M)]) := by
  obtain ⟨hi, _⟩ := look_none encL M h el
  refine h65.calls mixS (by simp) ?_
  simp only [gstart, s65, List.cons_append, List.nil_append, List.length_cons, List.length_nil, Nat.reduceAdd, Nat.reduceSub, List.replicate_succ, List.replicate_zero]
  simp +contextual -implicitDefEqProofs (maxSteps := 2000000) (disch := omega) only [optV, ↓loadV, ↓boxV, ↓sliceV, bound, cutTag, hiTag, GVal.cells, grp, GVal.ofConst, ↓resV, resG, List.map, List.headD, List.take, List.drop, ↓reduceIte, Nat.reduceEqDiff, Nat.reduceAdd, Nat.reduceSub, Nat.reduceLeDiff, reduceCtorEq, implies_true, ne_eq, ↓lookupV, keyOk, keyCells, pairG, Tag.cap, List.replicate, allSolid, GVal.solid, Nat.reduceBEq, Nat.reduceMul, Nat.reduceLT, List.length_map, List.length_range, splice, vcA, ↓vcB, vcC, fbFu, e65, kfind_h, hi, solidH, len32, take32]
theorem gRoundN (a : GObj) (M : GM) (h : Hs) (s : Nat) : GCalls Tryd.prog 65 [.agg (bytesG h.1), .ref [.map 1 s]] [a, .map s (kvG encL M)] (fun g O' => g = .slice (hsG (parsM M h)) .none ∧ O' = [a, .map s (kvG encL M)]) := by
  cases el : look M h with
  | some l => rw [parsM_some el]; exact gRound1 a M h s l el
  | none =>
    rw [parsM_none el]
    refine GCalls.into ((gRound0 a M h s el).mono ?_)
    rintro g O' ⟨rfl, rfl⟩
    exact GInto.weak (O := [a, .map s (kvG encL M)]) (X := []) (by rw [leG_none]; rfl) (.here ⟨rfl, rfl⟩)
noncomputable def roundE (m M : GM) (c : Cm) : Er := by
  classical exact if (look m c.1).isSome then none else if Reach (parsM M) c.2 c.1 then some (some c.1, 12) else none
def hashesM (M : GM) : List Hs := M.map (·.1) ++ M.flatMap (·.2)
theorem parsM_mem {M : GM} {x y : Hs} (h : y ∈ parsM M x) : ∃ p ∈ M, p.1 = x ∧ y ∈ p.2 := by
  induction M with
  | nil => cases h
  | cons p r ih =>
    unfold parsM at h
    rw [look] at h
    by_cases e : x = p.1
    · rw [if_pos e] at h
      exact ⟨p, by simp, e.symm, h⟩
    · rw [if_neg e] at h
      obtain ⟨q, h1, h2, h3⟩ := ih h
      exact ⟨q, by simp [h1], h2, h3⟩
theorem look_mem {M : GM} {x : Hs} {l : List Hs} (h : look M x = some l) : (x, l) ∈ M := by
  induction M with
  | nil => cases h
  | cons p r ih =>
    rw [look] at h
    by_cases e : x = p.1
    · rw [if_pos e] at h
      cases h
      rw [e]; simp
    · rw [if_neg e] at h
      simp [ih h]
structure GMOK (M : GM) : Prop where
  len : M.length ≤ 10000
  row : ∀ p ∈ M, p.2.length ≤ 4
theorem GMOK.pars {M : GM} (h : GMOK M) (x : Hs) : (parsM M x).length ≤ 4 := by
  cases e : look M x with
  | some l => rw [parsM_some e]; exact h.row _ (look_mem e)
  | none => rw [parsM_none e]; simp
theorem GMOK.hashes {M : GM} (h : GMOK M) : (hashesM M).length ≤ 50000 := by
  have : ∀ M : GM, (∀ p ∈ M, p.2.length ≤ 4) → (hashesM M).length ≤ 5 * M.length := by
    intro M
    induction M with
    | nil => intro _; simp [hashesM]
    | cons p r ih =>
      intro h
      have := ih fun q hq => h q (by simp [hq])
      have := h p (by simp)
      simp only [hashesM, List.map_cons, List.flatMap_cons, List.length_append, List.length_cons] at *
      omega
  have := this M h.row
  have := h.len
  omega
theorem pars_in {M : GM} {x y : Hs} (h : y ∈ parsM M x) : y ∈ hashesM M := by
  obtain ⟨p, h1, _, h3⟩ := parsM_mem h
  exact List.mem_append_right _ (List.mem_flatMap.2 ⟨p, h1, h3⟩)
theorem gReachedM (M : GM) (hM : GMOK M) (l : List Hs) (t : Tag) (ht : t = .nil → l = []) (hl : l.length ≤ 10000) {O : List GObj} {i j : Nat} {a : GObj} {s : Nat} (hi : O[i]? = some a) (hj : O[j]? = some (.map s (kvG encL M))) (hij : i ≠ j) (hca : a.isClock = false) (hc : clockOf O = none) :
    GCalls Tryd.prog 35 [.slice (hsG l) t, .func (.func 65) [] [.ref [.map j s]]] O (fun g O' => ∃ st kv, g = .map O.length st ∧ O' = O ++ [.map st kv] ∧ ∃ S : List Hs, kv = kvG encB (setM S) ∧ S.Nodup ∧ (∀ x, x ∈ S ↔ Reach (parsM M) l x)) := by
  have h := gReached (caps := [.ref [.map 1 s]]) (parsM M) (fun h => gRoundN a M h s) hca l t ht (l ++ hashesM M) (fun x hx => List.mem_append_left _ hx) (fun x _ y hy => List.mem_append_right _ (pars_in hy)) 4 (fun x _ => hM.pars x) (by have := hM.hashes; rw [List.length_append]; omega) (by omega) (by omega)
  refine GCalls.on2new (R := fun st kv => ∃ S : List Hs, kv = kvG encB (setM S) ∧ S.Nodup ∧ (∀ x, x ∈ S ↔ Reach (parsM M) l x)) (h.mono ?_) i j hij hi hj ⟨GLe.refl _, GLe.func _ trivial ⟨GLe.ref ⟨GLe.map _ _ _, trivial⟩, trivial⟩, trivial⟩ hca hc
  rintro g O' ⟨st, S, rfl, rfl, h1, h2, _⟩
  exact ⟨st, _, rfl, rfl, S, rfl, h1, h2⟩
noncomputable def roundP (m M : GM) (cs : List Cm) : Er := cs.findSome? (roundE m M)
theorem gRound (m M : GM) (cs : List Cm) (tc : Tag) (st s s2 : Nat) (hM : GMOK M) (hc : cs.length ≤ 1000000) (hp : ∀ c ∈ cs, c.2.length ≤ 10000) :
    GCalls Tryd.prog 47 [.ptr 0 st 0 0, .map 2 s2, .slice (csG cs) tc] (gObj st s m ++ [.map s2 (kvG encL M)]) (fun g O' => g = errV (roundP m M cs) ∧ O' = gObj st s m ++ [.map s2 (kvG encL M)]) := by
  refine GCalls.dropTo ?_
  refine h47.calls mixS (by simp) ?_
  simp only [gstart, s47, List.cons_append, List.nil_append, List.length_cons, List.length_nil, Nat.reduceAdd, Nat.reduceSub, List.replicate_succ, List.replicate_zero]
  simp +contextual -implicitDefEqProofs (maxSteps := 2000000) (disch := omega) only [drawC, drawK, keepT, ↓lenV, binV, ↓loadV, ↓storeV, ↓fieldAddrV, ↓indexAddrV, ↓allocV, ↓boxV, ↓nilV, ↓ifaceV, GVal.cells, grp, GVal.ofConst, ↓resV, resG, List.map, List.headD, List.take, List.drop, ↓reduceIte, Nat.reduceEqDiff, Nat.reduceAdd, Nat.reduceSub, Nat.reduceLeDiff, reduceCtorEq, implies_true, ne_eq, ↓lookupV, keyOk, keyCells, pairG, Tag.cap, List.replicate, allSolid, GVal.solid, Nat.reduceBEq, Nat.reduceMul, Nat.reduceLT, List.length_map, List.length_range, splice, vcA, ↓vcB, vcC, fbFu, e47, csG_len]
  refine vcSLoop_by (ι := { k : Nat // k ≤ cs.length ∧ cs.findSome? (roundE m M) = (cs.drop k).findSome? (roundE m M) }) (fun k => ⟨[.ptr 0 st 0 0, .any, .any, .any, .ref [.map 2 s2]] ++ List.replicate 6 .any ++ [.slice (csG cs) tc, .int .i64 cs.length, .int .i64 (k.1 : Nat)] ++ List.replicate 26 .any, [.row st 1 [[.map 1 s]], .map s (kvG encL m), .map s2 (kvG encL M)]⟩) (fun k => cs.length - k.1) ?_ ?_
  · exact Into.first ⟨0, by omega, by simp⟩ ⟨[], by simp⟩ (by simp [WL, leG_self, leG_any, leG_int])
  · rintro ⟨k, hk, hf⟩
    by_cases h : k < cs.length
    · have d0 : ((k : Int) < (cs.length : Int)) = True := eq_true (by omega)
      have eS := csG_at cs k h
      have hx := hp _ (memC h)
      rw [findC h] at hf
      generalize cs.getD k default = x at *
      obtain ⟨xh, xp⟩ := x
      change xp.length ≤ 10000 at hx
      cases el : look m xh with
      | some l =>
        obtain ⟨i, hi, hv, _⟩ := look_idx encL m xh l el
        have en : roundE m M (xh, xp) = none := by unfold roundE; rw [el]; simp
        rw [en] at hf
        simp +contextual -implicitDefEqProofs (maxSteps := 2000000) (disch := omega) only [drawC, drawK, keepT, ↓lenV, binV, ↓loadV, ↓storeV, ↓fieldAddrV, ↓indexAddrV, ↓allocV, ↓boxV, ↓nilV, ↓ifaceV, GVal.cells, grp, GVal.ofConst, ↓resV, resG, List.map, List.headD, List.take, List.drop, ↓reduceIte, Nat.reduceEqDiff, Nat.reduceAdd, Nat.reduceSub, Nat.reduceLeDiff, reduceCtorEq, implies_true, ne_eq, ↓lookupV, keyOk, keyCells, pairG, Tag.cap, List.replicate, allSolid, GVal.solid, Nat.reduceBEq, Nat.reduceMul, Nat.reduceLT, List.length_map, List.length_range, splice, vcA, ↓vcB, vcC, fbFu, e47, csG_len, hsG_len, comG, take32a, drop32a, drop33a, take33a, len33, solid33, solidH, len32, take32, kfind_h, d0, eS, hi, hv]
        refine ⟨by omega, fun u => ?_⟩
        exact Into.at ⟨k + 1, by omega, hf⟩ (by show _ < _; simp; omega) ⟨_, rfl⟩ (by simp [WL, leG_self, leG_any, leG_int])
      | none =>
        obtain ⟨hi, _⟩ := look_none encL m xh el
        simp +contextual -implicitDefEqProofs (maxSteps := 2000000) (disch := omega) only [drawC, drawK, keepT, ↓lenV, binV, ↓loadV, ↓storeV, ↓fieldAddrV, ↓indexAddrV, ↓allocV, ↓boxV, ↓nilV, ↓ifaceV, GVal.cells, grp, GVal.ofConst, ↓resV, resG, List.map, List.headD, List.take, List.drop, ↓reduceIte, Nat.reduceEqDiff, Nat.reduceAdd, Nat.reduceSub, Nat.reduceLeDiff, reduceCtorEq, implies_true, ne_eq, ↓lookupV, keyOk, keyCells, pairG, Tag.cap, List.replicate, allSolid, GVal.solid, Nat.reduceBEq, Nat.reduceMul, Nat.reduceLT, List.length_map, List.length_range, splice, vcA, ↓vcB, vcC, fbFu, e47, csG_len, hsG_len, comG, take32a, drop32a, drop33a, take33a, len33, solid33, solidH, len32, take32, kfind_h, d0, eS, hi]
        refine ⟨by omega, fun u => ?_⟩
        refine (gReachedM M hM xp .none (by simp) hx (i := 1) (j := 2) rfl rfl (by simp) rfl rfl).mono ?_
        rintro g O' ⟨sr, kv, rfl, rfl, S, rfl, hS, hR⟩
        by_cases hm : xh ∈ S
        · obtain ⟨i2, hi2, hv2, _⟩ := look_idx encB (setM S) xh true (by rw [look_set, if_pos hm])
          have en : roundE m M (xh, xp) = some (some xh, 12) := by
            unfold roundE; rw [el]; simp [(hR xh).1 hm]
          rw [en] at hf
          simp +contextual -implicitDefEqProofs (maxSteps := 2000000) (disch := omega) only [drawC, drawK, keepT, ↓lenV, binV, ↓loadV, ↓storeV, ↓fieldAddrV, ↓indexAddrV, ↓allocV, ↓boxV, ↓nilV, ↓ifaceV, GVal.cells, grp, GVal.ofConst, ↓resV, resG, List.map, List.headD, List.take, List.drop, ↓reduceIte, Nat.reduceEqDiff, Nat.reduceAdd, Nat.reduceSub, Nat.reduceLeDiff, reduceCtorEq, implies_true, ne_eq, ↓lookupV, keyOk, keyCells, pairG, Tag.cap, List.replicate, allSolid, GVal.solid, Nat.reduceBEq, Nat.reduceMul, Nat.reduceLT, List.length_map, List.length_range, splice, vcA, ↓vcB, vcC, fbFu, e47, csG_len, hsG_len, comG, take32a, drop32a, drop33a, take33a, len33, solid33, solidH, len32, take32, kfind_h, hi2, hv2]
          refine ⟨⟨[_], rfl⟩, ?_⟩
          refine (gOf xh 12).then ?_ (by rfl)
          simp +contextual -implicitDefEqProofs (maxSteps := 2000000) (disch := omega) only [drawC, drawK, keepT, ↓lenV, binV, ↓loadV, ↓storeV, ↓fieldAddrV, ↓indexAddrV, ↓allocV, ↓boxV, ↓nilV, ↓ifaceV, GVal.cells, grp, GVal.ofConst, ↓resV, resG, List.map, List.headD, List.take, List.drop, ↓reduceIte, Nat.reduceEqDiff, Nat.reduceAdd, Nat.reduceSub, Nat.reduceLeDiff, reduceCtorEq, implies_true, ne_eq, ↓lookupV, keyOk, keyCells, pairG, Tag.cap, List.replicate, allSolid, GVal.solid, Nat.reduceBEq, Nat.reduceMul, Nat.reduceLT, List.length_map, List.length_range, splice, vcA, ↓vcB, vcC, fbFu, e47]
          unfold roundP
          rw [hf]
          exact ⟨_, gObj st s m ++ [.map s2 (kvG encL M)], _, rfl, leA_refl _, rfl, rfl⟩
        · obtain ⟨hi2, _⟩ := look_none encB (setM S) xh (by rw [look_set, if_neg hm])
          have en : roundE m M (xh, xp) = none := by
            have hnr : ¬ Reach (parsM M) xp xh := fun q => hm ((hR xh).2 q)
            unfold roundE; rw [el]; simp [hnr]
          rw [en] at hf
          simp +contextual -implicitDefEqProofs (maxSteps := 2000000) (disch := omega) only [drawC, drawK, keepT, ↓lenV, binV, ↓loadV, ↓storeV, ↓fieldAddrV, ↓indexAddrV, ↓allocV, ↓boxV, ↓nilV, ↓ifaceV, GVal.cells, grp, GVal.ofConst, ↓resV, resG, List.map, List.headD, List.take, List.drop, ↓reduceIte, Nat.reduceEqDiff, Nat.reduceAdd, Nat.reduceSub, Nat.reduceLeDiff, reduceCtorEq, implies_true, ne_eq, ↓lookupV, keyOk, keyCells, pairG, Tag.cap, List.replicate, allSolid, GVal.solid, Nat.reduceBEq, Nat.reduceMul, Nat.reduceLT, List.length_map, List.length_range, splice, vcA, ↓vcB, vcC, fbFu, e47, csG_len, hsG_len, comG, take32a, drop32a, drop33a, take33a, len33, solid33, solidH, len32, take32, kfind_h, hi2]
          refine ⟨⟨[_], rfl⟩, ?_⟩
          exact Into.at ⟨k + 1, by omega, hf⟩ (by show _ < _; simp; omega) ⟨_, rfl⟩ (by simp [WL, leG_self, leG_any, leG_int])
    · have d0 : ((k : Int) < (cs.length : Int)) = False := eq_false (by omega)
      rw [List.drop_of_length_le (by omega)] at hf
      simp +contextual -implicitDefEqProofs (maxSteps := 2000000) (disch := omega) only [drawC, drawK, keepT, ↓lenV, binV, ↓loadV, ↓storeV, ↓fieldAddrV, ↓indexAddrV, ↓allocV, ↓boxV, ↓nilV, ↓ifaceV, GVal.cells, grp, GVal.ofConst, ↓resV, resG, List.map, List.headD, List.take, List.drop, ↓reduceIte, Nat.reduceEqDiff, Nat.reduceAdd, Nat.reduceSub, Nat.reduceLeDiff, reduceCtorEq, implies_true, ne_eq, ↓lookupV, keyOk, keyCells, pairG, Tag.cap, List.replicate, allSolid, GVal.solid, Nat.reduceBEq, Nat.reduceMul, Nat.reduceLT, List.length_map, List.length_range, splice, vcA, ↓vcB, vcC, fbFu, e47, csG_len, hsG_len, comG, take32a, drop32a, drop33a, take33a, len33, solid33, solidH, len32, take32, kfind_h, d0]
      unfold roundP
      rw [hf]
      exact ⟨_, gObj st s m ++ [.map s2 (kvG encL M)], [], rfl, leA_refl _, rfl, rfl⟩
theorem errV_some (e : Option Hs × Int) : ∃ ty v, errV (some e) = .iface ty v := by
  obtain ⟨h, n⟩ := e
  cases h with
  | none => exact ⟨_, _, rfl⟩
  | some h => exact ⟨_, _, rfl⟩
theorem kvG_len {α : Type} (enc : α → GVal) (m : List (Hs × α)) : (kvG enc m).length = m.length := by simp [kvG]
structure GOK (m : GM) : Prop where
  len : m.length ≤ 1000
  row : ∀ p ∈ m, p.2.length ≤ 4
theorem sizesP_none {gr : Int} {nh : Nat} {cs : List Cm} (h : sizesP gr nh cs = none) : cs.length ≤ 200 ∧ nh ≤ 200 ∧ (gr = 1 ∨ gr = 2) ∧ ∀ c ∈ cs, c.2.length ≤ 4 ∧ twiceB c.2 = false := by
  unfold sizesP at h
  split at h
  · cases h
  · rename_i hb
    unfold badReq at hb
    refine ⟨by omega, by omega, by omega, fun c hc => ?_⟩
    have := List.findSome?_eq_none_iff.1 h c hc
    unfold sizeE at this
    split at this
    · cases this
    · split at this
      · cases this
      · rename_i h1 h2; exact ⟨by omega, by simpa using h2⟩
theorem mset_mem {α : Type} {m : List (Hs × α)} {h : Hs} {v : α} {p : Hs × α} (hp : p ∈ mset m h v) : p ∈ m ∨ p = (h, v) := by
  induction m with
  | nil => simp [mset] at hp; exact .inr hp
  | cons q r ih =>
    rw [mset] at hp
    split at hp
    · rcases List.mem_cons.1 hp with e | e
      · exact .inr e
      · exact .inl (List.mem_cons_of_mem _ e)
    · rcases List.mem_cons.1 hp with e | e
      · exact .inl (by rw [e]; simp)
      · exact (ih e).imp (List.mem_cons_of_mem _) id
theorem joinP_ok : ∀ {cs : List Cm} {m M : GM}, joinP m cs = .ok M → (∀ p ∈ m, p.2.length ≤ 4) → (∀ c ∈ cs, c.2.length ≤ 4) → M.length ≤ m.length + cs.length ∧ ∀ p ∈ M, p.2.length ≤ 4
  | [], m, M, h, hm, hc => by rw [joinP] at h; cases h; exact ⟨by simp, hm⟩
  | c :: r, m, M, h, hm, hc => by
    rw [joinP] at h
    have hr : ∀ x ∈ r, x.2.length ≤ 4 := fun x hx => hc x (by simp [hx])
    have hx := hc c (by simp)
    unfold joinE at h
    cases el : look m c.1 with
    | some l =>
      simp only [el] at h
      split at h
      · rename_i m' e
        split at e
        · cases e
          obtain ⟨h1, h2⟩ := joinP_ok h hm hr
          exact ⟨by simp only [List.length_cons]; omega, h2⟩
        · cases e
      · cases h
    | none =>
      simp only [el] at h
      obtain ⟨h1, h2⟩ := joinP_ok h (fun p hp => by
        rcases mset_mem hp with q | q
        · exact hm p q
        · rw [q]; exact hx) hr
      have := mset_len m c.1 c.2
      rw [el] at this
      simp at this
      exact ⟨by simp only [List.length_cons]; omega, h2⟩
noncomputable def joinedP (gr : Int) (m : GM) (cs : List Cm) (hs : List Hs) : Except (Option Hs × Int) GM := match sizesP gr hs.length cs with
  | some e => .error e
  | none => match joinP m cs with
    | .error (h, n) => .error (some h, n)
    | .ok M => match lackP M cs hs with
      | some e => .error e
      | none => match roundP m M cs with
        | some e => .error e
        | none => if 1000 < M.length then .error (none, 13) else .ok M
def jdV (st : Nat) : Except (Option Hs × Int) GM → GVal
  | .ok _ => .tuple [.map 2 st, .lit .nilIface]
  | .error e => .tuple [.lit (.map none), errV (some e)]
def jdO (st : Nat) : Except (Option Hs × Int) GM → List GObj
  | .ok M => [.map st (kvG encL M)]
  | .error _ => []
theorem gJoinedBy (m : GM) (hm : GOK m) (cs : List Cm) (hs : List Hs) (th : Tag) (gr : Int) (st s : Nat) (hc : cs.length ≤ 1000000) (hh : hs.length ≤ 1000000) (hp : ∀ c ∈ cs, c.2.length ≤ 1000000) :
    GCalls Tryd.prog 28 [.ptr 0 st 0 0, .agg (reqG cs hs th gr)] (gObj st s m) (fun g O' => ∃ s2, g = jdV s2 (joinedP gr m cs hs) ∧ O' = gObj st s m ++ jdO s2 (joinedP gr m cs hs)) := by
  have c1 := gSizes cs hs th gr hc hh hp
  cases e1 : sizesP gr hs.length cs with
  | some e =>
    have ej : joinedP gr m cs hs = .error e := by unfold joinedP; rw [e1]
    rw [e1] at c1
    obtain ⟨ty, v, ev⟩ := errV_some e
    rw [ev] at c1
    rw [ej]
    refine h28.calls mixS (by simp) ?_
    simp only [gstart, s28, List.cons_append, List.nil_append, List.length_cons, List.length_nil, Nat.reduceAdd, Nat.reduceSub, List.replicate_succ, List.replicate_zero]
    simp +contextual -implicitDefEqProofs (maxSteps := 2000000) (disch := omega) only [↓lenV, binV, ↓loadV, ↓fieldAddrV, ↓boxV, ↓ifaceV, GVal.cells, grp, GVal.ofConst, ↓resV, resG, List.map, List.headD, List.take, List.drop, ↓reduceIte, Nat.reduceEqDiff, Nat.reduceAdd, Nat.reduceSub, Nat.reduceLeDiff, reduceCtorEq, implies_true, ne_eq, aggV, Tag.cap, List.replicate, allSolid, GVal.solid, Nat.reduceBEq, Nat.reduceMul, Nat.reduceLT, List.length_map, List.length_range, splice, vcA, ↓vcB, vcC, fbFu, e28]
    refine c1.then ?_ (by rfl)
    simp +contextual -implicitDefEqProofs (maxSteps := 2000000) (disch := omega) only [↓lenV, binV, ↓loadV, ↓fieldAddrV, ↓boxV, ↓ifaceV, GVal.cells, grp, GVal.ofConst, ↓resV, resG, List.map, List.headD, List.take, List.drop, ↓reduceIte, Nat.reduceEqDiff, Nat.reduceAdd, Nat.reduceSub, Nat.reduceLeDiff, reduceCtorEq, implies_true, ne_eq, aggV, Tag.cap, List.replicate, allSolid, GVal.solid, Nat.reduceBEq, Nat.reduceMul, Nat.reduceLT, List.length_map, List.length_range, splice, vcA, ↓vcB, vcC, fbFu, e28, Tryd.underlying35]
    exact ⟨0, by rw [jdV, ev], rfl⟩
  | none =>
    obtain ⟨n1, n2, n3, n4⟩ := sizesP_none e1
    rw [e1] at c1
    have c2 := gJoined m cs .none st s hc hp (fun h l e => by have := hm.row _ (look_mem e); simp only at this; omega)
    cases e2 : joinP m cs with
    | error x =>
      obtain ⟨xh, xn⟩ := x
      have ej : joinedP gr m cs hs = .error (some xh, xn) := by unfold joinedP; rw [e1]; simp only [e2]
      rw [e2] at c2
      rw [ej]
      refine h28.calls mixS (by simp) ?_
      simp only [gstart, s28, List.cons_append, List.nil_append, List.length_cons, List.length_nil, Nat.reduceAdd, Nat.reduceSub, List.replicate_succ, List.replicate_zero]
      simp +contextual -implicitDefEqProofs (maxSteps := 2000000) (disch := omega) only [↓lenV, binV, ↓loadV, ↓fieldAddrV, ↓boxV, ↓ifaceV, GVal.cells, grp, GVal.ofConst, ↓resV, resG, List.map, List.headD, List.take, List.drop, ↓reduceIte, Nat.reduceEqDiff, Nat.reduceAdd, Nat.reduceSub, Nat.reduceLeDiff, reduceCtorEq, implies_true, ne_eq, aggV, Tag.cap, List.replicate, allSolid, GVal.solid, Nat.reduceBEq, Nat.reduceMul, Nat.reduceLT, List.length_map, List.length_range, splice, vcA, ↓vcB, vcC, fbFu, e28]
      refine c1.then ?_ (by rfl)
      simp +contextual -implicitDefEqProofs (maxSteps := 2000000) (disch := omega) only [↓lenV, binV, ↓loadV, ↓fieldAddrV, ↓boxV, ↓ifaceV, GVal.cells, grp, GVal.ofConst, ↓resV, resG, List.map, List.headD, List.take, List.drop, ↓reduceIte, Nat.reduceEqDiff, Nat.reduceAdd, Nat.reduceSub, Nat.reduceLeDiff, reduceCtorEq, implies_true, ne_eq, aggV, Tag.cap, List.replicate, allSolid, GVal.solid, Nat.reduceBEq, Nat.reduceMul, Nat.reduceLT, List.length_map, List.length_range, splice, vcA, ↓vcB, vcC, fbFu, e28, Tryd.underlying35, errV]
      refine c2.mono ?_
      rintro g O' ⟨_, rfl, rfl⟩
      simp +contextual -implicitDefEqProofs (maxSteps := 2000000) (disch := omega) only [↓lenV, binV, ↓loadV, ↓fieldAddrV, ↓boxV, ↓ifaceV, GVal.cells, grp, GVal.ofConst, ↓resV, resG, List.map, List.headD, List.take, List.drop, ↓reduceIte, Nat.reduceEqDiff, Nat.reduceAdd, Nat.reduceSub, Nat.reduceLeDiff, reduceCtorEq, implies_true, ne_eq, aggV, Tag.cap, List.replicate, allSolid, GVal.solid, Nat.reduceBEq, Nat.reduceMul, Nat.reduceLT, List.length_map, List.length_range, splice, vcA, ↓vcB, vcC, fbFu, e28, Tryd.underlying35, joinV, joinO]
      exact ⟨0, rfl, rfl⟩
    | ok M =>
      obtain ⟨m1, m2⟩ := joinP_ok e2 hm.row (fun c hc => (n4 c hc).1)
      have hM : GMOK M := ⟨by have := hm.len; omega, m2⟩
      have c3 := fun s2 => GCalls.keep1 (gLacking M cs hs th gr s2 hc hh hp) (O := gObj st s m ++ [.map s2 (kvG encL M)]) (args' := [.map 2 s2, .agg (reqG cs hs th gr)]) 2 rfl rfl rfl rfl
      rw [e2] at c2
      cases e3 : lackP M cs hs with
      | some e =>
        have ej : joinedP gr m cs hs = .error e := by unfold joinedP; rw [e1]; simp only [e2, e3]
        rw [e3] at c3
        obtain ⟨ty, v, ev⟩ := errV_some e
        rw [ev] at c3
        rw [ej]
        refine GCalls.dropTo ?_
        refine h28.calls mixS (by simp) ?_
        simp only [gstart, s28, List.cons_append, List.nil_append, List.length_cons, List.length_nil, Nat.reduceAdd, Nat.reduceSub, List.replicate_succ, List.replicate_zero]
        simp +contextual -implicitDefEqProofs (maxSteps := 2000000) (disch := omega) only [↓lenV, binV, ↓loadV, ↓fieldAddrV, ↓boxV, ↓ifaceV, GVal.cells, grp, GVal.ofConst, ↓resV, resG, List.map, List.headD, List.take, List.drop, ↓reduceIte, Nat.reduceEqDiff, Nat.reduceAdd, Nat.reduceSub, Nat.reduceLeDiff, reduceCtorEq, implies_true, ne_eq, aggV, Tag.cap, List.replicate, allSolid, GVal.solid, Nat.reduceBEq, Nat.reduceMul, Nat.reduceLT, List.length_map, List.length_range, splice, vcA, ↓vcB, vcC, fbFu, e28]
        refine c1.then ?_ (by rfl)
        simp +contextual -implicitDefEqProofs (maxSteps := 2000000) (disch := omega) only [↓lenV, binV, ↓loadV, ↓fieldAddrV, ↓boxV, ↓ifaceV, GVal.cells, grp, GVal.ofConst, ↓resV, resG, List.map, List.headD, List.take, List.drop, ↓reduceIte, Nat.reduceEqDiff, Nat.reduceAdd, Nat.reduceSub, Nat.reduceLeDiff, reduceCtorEq, implies_true, ne_eq, aggV, Tag.cap, List.replicate, allSolid, GVal.solid, Nat.reduceBEq, Nat.reduceMul, Nat.reduceLT, List.length_map, List.length_range, splice, vcA, ↓vcB, vcC, fbFu, e28, Tryd.underlying35, errV]
        refine c2.mono ?_
        rintro g O' ⟨s2, rfl, rfl⟩
        simp +contextual -implicitDefEqProofs (maxSteps := 2000000) (disch := omega) only [↓lenV, binV, ↓loadV, ↓fieldAddrV, ↓boxV, ↓ifaceV, GVal.cells, grp, GVal.ofConst, ↓resV, resG, List.map, List.headD, List.take, List.drop, ↓reduceIte, Nat.reduceEqDiff, Nat.reduceAdd, Nat.reduceSub, Nat.reduceLeDiff, reduceCtorEq, implies_true, ne_eq, aggV, Tag.cap, List.replicate, allSolid, GVal.solid, Nat.reduceBEq, Nat.reduceMul, Nat.reduceLT, List.length_map, List.length_range, splice, vcA, ↓vcB, vcC, fbFu, e28, Tryd.underlying35, joinV, joinO]
        refine (c3 s2).mono ?_
        rintro g O' ⟨rfl, rfl⟩
        simp +contextual -implicitDefEqProofs (maxSteps := 2000000) (disch := omega) only [↓lenV, binV, ↓loadV, ↓fieldAddrV, ↓boxV, ↓ifaceV, GVal.cells, grp, GVal.ofConst, ↓resV, resG, List.map, List.headD, List.take, List.drop, ↓reduceIte, Nat.reduceEqDiff, Nat.reduceAdd, Nat.reduceSub, Nat.reduceLeDiff, reduceCtorEq, implies_true, ne_eq, aggV, Tag.cap, List.replicate, allSolid, GVal.solid, Nat.reduceBEq, Nat.reduceMul, Nat.reduceLT, List.length_map, List.length_range, splice, vcA, ↓vcB, vcC, fbFu, e28, Tryd.underlying35]
        exact ⟨_, gObj st s m, _, rfl, leA_refl _, 0, by rw [jdV, ev], rfl⟩
      | none =>
        have c4 := fun s2 => gRound m M cs .none st s s2 hM hc (fun c hc => by have := (n4 c hc).1; omega)
        rw [e3] at c3
        cases e4 : roundP m M cs with
        | some e =>
          have ej : joinedP gr m cs hs = .error e := by unfold joinedP; rw [e1]; simp only [e2, e3, e4]
          rw [e4] at c4
          obtain ⟨ty, v, ev⟩ := errV_some e
          rw [ev] at c4
          rw [ej]
          refine GCalls.dropTo ?_
          refine h28.calls mixS (by simp) ?_
          simp only [gstart, s28, List.cons_append, List.nil_append, List.length_cons, List.length_nil, Nat.reduceAdd, Nat.reduceSub, List.replicate_succ, List.replicate_zero]
          simp +contextual -implicitDefEqProofs (maxSteps := 2000000) (disch := omega) only [↓lenV, binV, ↓loadV, ↓fieldAddrV, ↓boxV, ↓ifaceV, GVal.cells, grp, GVal.ofConst, ↓resV, resG, List.map, List.headD, List.take, List.drop, ↓reduceIte, Nat.reduceEqDiff, Nat.reduceAdd, Nat.reduceSub, Nat.reduceLeDiff, reduceCtorEq, implies_true, ne_eq, aggV, Tag.cap, List.replicate, allSolid, GVal.solid, Nat.reduceBEq, Nat.reduceMul, Nat.reduceLT, List.length_map, List.length_range, splice, vcA, ↓vcB, vcC, fbFu, e28]
          refine c1.then ?_ (by rfl)
          simp +contextual -implicitDefEqProofs (maxSteps := 2000000) (disch := omega) only [↓lenV, binV, ↓loadV, ↓fieldAddrV, ↓boxV, ↓ifaceV, GVal.cells, grp, GVal.ofConst, ↓resV, resG, List.map, List.headD, List.take, List.drop, ↓reduceIte, Nat.reduceEqDiff, Nat.reduceAdd, Nat.reduceSub, Nat.reduceLeDiff, reduceCtorEq, implies_true, ne_eq, aggV, Tag.cap, List.replicate, allSolid, GVal.solid, Nat.reduceBEq, Nat.reduceMul, Nat.reduceLT, List.length_map, List.length_range, splice, vcA, ↓vcB, vcC, fbFu, e28, Tryd.underlying35, errV]
          refine c2.mono ?_
          rintro g O' ⟨s2, rfl, rfl⟩
          simp +contextual -implicitDefEqProofs (maxSteps := 2000000) (disch := omega) only [↓lenV, binV, ↓loadV, ↓fieldAddrV, ↓boxV, ↓ifaceV, GVal.cells, grp, GVal.ofConst, ↓resV, resG, List.map, List.headD, List.take, List.drop, ↓reduceIte, Nat.reduceEqDiff, Nat.reduceAdd, Nat.reduceSub, Nat.reduceLeDiff, reduceCtorEq, implies_true, ne_eq, aggV, Tag.cap, List.replicate, allSolid, GVal.solid, Nat.reduceBEq, Nat.reduceMul, Nat.reduceLT, List.length_map, List.length_range, splice, vcA, ↓vcB, vcC, fbFu, e28, Tryd.underlying35, joinV, joinO]
          refine (c3 s2).mono ?_
          rintro g O' ⟨rfl, rfl⟩
          simp +contextual -implicitDefEqProofs (maxSteps := 2000000) (disch := omega) only [↓lenV, binV, ↓loadV, ↓fieldAddrV, ↓boxV, ↓ifaceV, GVal.cells, grp, GVal.ofConst, ↓resV, resG, List.map, List.headD, List.take, List.drop, ↓reduceIte, Nat.reduceEqDiff, Nat.reduceAdd, Nat.reduceSub, Nat.reduceLeDiff, reduceCtorEq, implies_true, ne_eq, aggV, Tag.cap, List.replicate, allSolid, GVal.solid, Nat.reduceBEq, Nat.reduceMul, Nat.reduceLT, List.length_map, List.length_range, splice, vcA, ↓vcB, vcC, fbFu, e28, Tryd.underlying35, errV]
          refine (c4 s2).mono ?_
          rintro g O' ⟨rfl, rfl⟩
          simp +contextual -implicitDefEqProofs (maxSteps := 2000000) (disch := omega) only [↓lenV, binV, ↓loadV, ↓fieldAddrV, ↓boxV, ↓ifaceV, GVal.cells, grp, GVal.ofConst, ↓resV, resG, List.map, List.headD, List.take, List.drop, ↓reduceIte, Nat.reduceEqDiff, Nat.reduceAdd, Nat.reduceSub, Nat.reduceLeDiff, reduceCtorEq, implies_true, ne_eq, aggV, Tag.cap, List.replicate, allSolid, GVal.solid, Nat.reduceBEq, Nat.reduceMul, Nat.reduceLT, List.length_map, List.length_range, splice, vcA, ↓vcB, vcC, fbFu, e28, Tryd.underlying35]
          exact ⟨_, gObj st s m, _, rfl, leA_refl _, 0, by rw [jdV, ev], rfl⟩
        | none =>
          rw [e4] at c4
          by_cases h5 : 1000 < M.length
          · have d5 : ((1000 : Int) < (M.length : Int)) = True := eq_true (by omega)
            have ej : joinedP gr m cs hs = .error (none, 13) := by unfold joinedP; rw [e1]; simp only [e2, e3, e4]; rw [if_pos h5]
            rw [ej]
            refine GCalls.dropTo ?_
            refine h28.calls mixS (by simp) ?_
            simp only [gstart, s28, List.cons_append, List.nil_append, List.length_cons, List.length_nil, Nat.reduceAdd, Nat.reduceSub, List.replicate_succ, List.replicate_zero]
            simp +contextual -implicitDefEqProofs (maxSteps := 2000000) (disch := omega) only [↓lenV, binV, ↓loadV, ↓fieldAddrV, ↓boxV, ↓ifaceV, GVal.cells, grp, GVal.ofConst, ↓resV, resG, List.map, List.headD, List.take, List.drop, ↓reduceIte, Nat.reduceEqDiff, Nat.reduceAdd, Nat.reduceSub, Nat.reduceLeDiff, reduceCtorEq, implies_true, ne_eq, aggV, Tag.cap, List.replicate, allSolid, GVal.solid, Nat.reduceBEq, Nat.reduceMul, Nat.reduceLT, List.length_map, List.length_range, splice, vcA, ↓vcB, vcC, fbFu, e28]
            refine c1.then ?_ (by rfl)
            simp +contextual -implicitDefEqProofs (maxSteps := 2000000) (disch := omega) only [↓lenV, binV, ↓loadV, ↓fieldAddrV, ↓boxV, ↓ifaceV, GVal.cells, grp, GVal.ofConst, ↓resV, resG, List.map, List.headD, List.take, List.drop, ↓reduceIte, Nat.reduceEqDiff, Nat.reduceAdd, Nat.reduceSub, Nat.reduceLeDiff, reduceCtorEq, implies_true, ne_eq, aggV, Tag.cap, List.replicate, allSolid, GVal.solid, Nat.reduceBEq, Nat.reduceMul, Nat.reduceLT, List.length_map, List.length_range, splice, vcA, ↓vcB, vcC, fbFu, e28, Tryd.underlying35, errV]
            refine c2.mono ?_
            rintro g O' ⟨s2, rfl, rfl⟩
            simp +contextual -implicitDefEqProofs (maxSteps := 2000000) (disch := omega) only [↓lenV, binV, ↓loadV, ↓fieldAddrV, ↓boxV, ↓ifaceV, GVal.cells, grp, GVal.ofConst, ↓resV, resG, List.map, List.headD, List.take, List.drop, ↓reduceIte, Nat.reduceEqDiff, Nat.reduceAdd, Nat.reduceSub, Nat.reduceLeDiff, reduceCtorEq, implies_true, ne_eq, aggV, Tag.cap, List.replicate, allSolid, GVal.solid, Nat.reduceBEq, Nat.reduceMul, Nat.reduceLT, List.length_map, List.length_range, splice, vcA, ↓vcB, vcC, fbFu, e28, Tryd.underlying35, joinV, joinO]
            refine (c3 s2).mono ?_
            rintro g O' ⟨rfl, rfl⟩
            simp +contextual -implicitDefEqProofs (maxSteps := 2000000) (disch := omega) only [↓lenV, binV, ↓loadV, ↓fieldAddrV, ↓boxV, ↓ifaceV, GVal.cells, grp, GVal.ofConst, ↓resV, resG, List.map, List.headD, List.take, List.drop, ↓reduceIte, Nat.reduceEqDiff, Nat.reduceAdd, Nat.reduceSub, Nat.reduceLeDiff, reduceCtorEq, implies_true, ne_eq, aggV, Tag.cap, List.replicate, allSolid, GVal.solid, Nat.reduceBEq, Nat.reduceMul, Nat.reduceLT, List.length_map, List.length_range, splice, vcA, ↓vcB, vcC, fbFu, e28, Tryd.underlying35, errV]
            refine (c4 s2).mono ?_
            rintro g O' ⟨rfl, rfl⟩
            simp +contextual -implicitDefEqProofs (maxSteps := 2000000) (disch := omega) only [↓lenV, binV, ↓loadV, ↓fieldAddrV, ↓boxV, ↓ifaceV, GVal.cells, grp, GVal.ofConst, ↓resV, resG, List.map, List.headD, List.take, List.drop, ↓reduceIte, Nat.reduceEqDiff, Nat.reduceAdd, Nat.reduceSub, Nat.reduceLeDiff, reduceCtorEq, implies_true, ne_eq, aggV, Tag.cap, List.replicate, allSolid, GVal.solid, Nat.reduceBEq, Nat.reduceMul, Nat.reduceLT, List.length_map, List.length_range, splice, vcA, ↓vcB, vcC, fbFu, e28, Tryd.underlying35, errV, kvG_len, d5]
            exact ⟨_, gObj st s m, _, rfl, leA_refl _, 0, rfl, rfl⟩
          · have d5 : ((1000 : Int) < (M.length : Int)) = False := eq_false (by omega)
            have ej : joinedP gr m cs hs = .ok M := by unfold joinedP; rw [e1]; simp only [e2, e3, e4]; rw [if_neg h5]
            rw [ej]
            refine h28.calls mixS (by simp) ?_
            simp only [gstart, s28, List.cons_append, List.nil_append, List.length_cons, List.length_nil, Nat.reduceAdd, Nat.reduceSub, List.replicate_succ, List.replicate_zero]
            simp +contextual -implicitDefEqProofs (maxSteps := 2000000) (disch := omega) only [↓lenV, binV, ↓loadV, ↓fieldAddrV, ↓boxV, ↓ifaceV, GVal.cells, grp, GVal.ofConst, ↓resV, resG, List.map, List.headD, List.take, List.drop, ↓reduceIte, Nat.reduceEqDiff, Nat.reduceAdd, Nat.reduceSub, Nat.reduceLeDiff, reduceCtorEq, implies_true, ne_eq, aggV, Tag.cap, List.replicate, allSolid, GVal.solid, Nat.reduceBEq, Nat.reduceMul, Nat.reduceLT, List.length_map, List.length_range, splice, vcA, ↓vcB, vcC, fbFu, e28]
            refine c1.then ?_ (by rfl)
            simp +contextual -implicitDefEqProofs (maxSteps := 2000000) (disch := omega) only [↓lenV, binV, ↓loadV, ↓fieldAddrV, ↓boxV, ↓ifaceV, GVal.cells, grp, GVal.ofConst, ↓resV, resG, List.map, List.headD, List.take, List.drop, ↓reduceIte, Nat.reduceEqDiff, Nat.reduceAdd, Nat.reduceSub, Nat.reduceLeDiff, reduceCtorEq, implies_true, ne_eq, aggV, Tag.cap, List.replicate, allSolid, GVal.solid, Nat.reduceBEq, Nat.reduceMul, Nat.reduceLT, List.length_map, List.length_range, splice, vcA, ↓vcB, vcC, fbFu, e28, Tryd.underlying35, errV]
            refine c2.mono ?_
            rintro g O' ⟨s2, rfl, rfl⟩
            simp +contextual -implicitDefEqProofs (maxSteps := 2000000) (disch := omega) only [↓lenV, binV, ↓loadV, ↓fieldAddrV, ↓boxV, ↓ifaceV, GVal.cells, grp, GVal.ofConst, ↓resV, resG, List.map, List.headD, List.take, List.drop, ↓reduceIte, Nat.reduceEqDiff, Nat.reduceAdd, Nat.reduceSub, Nat.reduceLeDiff, reduceCtorEq, implies_true, ne_eq, aggV, Tag.cap, List.replicate, allSolid, GVal.solid, Nat.reduceBEq, Nat.reduceMul, Nat.reduceLT, List.length_map, List.length_range, splice, vcA, ↓vcB, vcC, fbFu, e28, Tryd.underlying35, joinV, joinO]
            refine (c3 s2).mono ?_
            rintro g O' ⟨rfl, rfl⟩
            simp +contextual -implicitDefEqProofs (maxSteps := 2000000) (disch := omega) only [↓lenV, binV, ↓loadV, ↓fieldAddrV, ↓boxV, ↓ifaceV, GVal.cells, grp, GVal.ofConst, ↓resV, resG, List.map, List.headD, List.take, List.drop, ↓reduceIte, Nat.reduceEqDiff, Nat.reduceAdd, Nat.reduceSub, Nat.reduceLeDiff, reduceCtorEq, implies_true, ne_eq, aggV, Tag.cap, List.replicate, allSolid, GVal.solid, Nat.reduceBEq, Nat.reduceMul, Nat.reduceLT, List.length_map, List.length_range, splice, vcA, ↓vcB, vcC, fbFu, e28, Tryd.underlying35, errV]
            refine (c4 s2).mono ?_
            rintro g O' ⟨rfl, rfl⟩
            simp +contextual -implicitDefEqProofs (maxSteps := 2000000) (disch := omega) only [↓lenV, binV, ↓loadV, ↓fieldAddrV, ↓boxV, ↓ifaceV, GVal.cells, grp, GVal.ofConst, ↓resV, resG, List.map, List.headD, List.take, List.drop, ↓reduceIte, Nat.reduceEqDiff, Nat.reduceAdd, Nat.reduceSub, Nat.reduceLeDiff, reduceCtorEq, implies_true, ne_eq, aggV, Tag.cap, List.replicate, allSolid, GVal.solid, Nat.reduceBEq, Nat.reduceMul, Nat.reduceLT, List.length_map, List.length_range, splice, vcA, ↓vcB, vcC, fbFu, e28, Tryd.underlying35, errV, kvG_len, d5]
            exact ⟨s2, rfl, rfl⟩
noncomputable def addedM (m : GM) (cs : List Cm) : GM := match joinedP 2 m cs [] with
  | .ok M => M
  | .error _ => m
noncomputable def addedE (m : GM) (cs : List Cm) : Er := match joinedP 2 m cs [] with
  | .ok _ => none
  | .error e => some e
theorem gAddRaw (m M : GM) (cs : List Cm) (st s : Nat) (c1 : GCalls Tryd.prog 28 [.ptr 0 st 0 0, .agg (reqG cs [] .nil 2)] (gObj st s m) (fun g O' => ∃ s2, g = jdV s2 (.ok M) ∧ O' = gObj st s m ++ jdO s2 (.ok M))) :
    GCalls Tryd.prog 10 [.ptr 0 st 0 0, .slice (csG cs) .none] (gObj st s m) (fun g O' => ∃ s2, g = .lit .nilIface ∧ O' = [.row st 1 [[.map 2 s2]], .map s (kvG encL m), .map s2 (kvG encL M)]) := by
  refine h10.calls mixS (by simp) ?_
  simp only [gstart, s10, List.cons_append, List.nil_append, List.length_cons, List.length_nil, Nat.reduceAdd, Nat.reduceSub, List.replicate_succ, List.replicate_zero]
  simp +contextual -implicitDefEqProofs (maxSteps := 2000000) (disch := omega) only [binV, ↓storeV, ↓fieldAddrV, ↓buildV, ↓nilV, fillG, place, GVal.cells, grp, GVal.ofConst, ↓resV, resG, List.map, List.headD, List.take, List.drop, ↓reduceIte, Nat.reduceEqDiff, Nat.reduceAdd, Nat.reduceSub, Nat.reduceLeDiff, reduceCtorEq, implies_true, ne_eq, aggV, Tag.cap, List.replicate, allSolid, GVal.solid, Nat.reduceBEq, Nat.reduceMul, Nat.reduceLT, List.length_map, List.length_range, splice, vcA, ↓vcB, vcC, fbFu, e10]
  refine c1.mono ?_
  rintro g O' ⟨s2, rfl, rfl⟩
  simp +contextual -implicitDefEqProofs (maxSteps := 2000000) (disch := omega) only [binV, ↓storeV, ↓fieldAddrV, ↓buildV, ↓nilV, fillG, place, GVal.cells, grp, GVal.ofConst, ↓resV, resG, List.map, List.headD, List.take, List.drop, ↓reduceIte, Nat.reduceEqDiff, Nat.reduceAdd, Nat.reduceSub, Nat.reduceLeDiff, reduceCtorEq, implies_true, ne_eq, aggV, Tag.cap, List.replicate, allSolid, GVal.solid, Nat.reduceBEq, Nat.reduceMul, Nat.reduceLT, List.length_map, List.length_range, splice, vcA, ↓vcB, vcC, fbFu, e10, Tryd.underlying35, jdV, jdO]
  exact ⟨_, rfl⟩
theorem gAddOk (m M : GM) (cs : List Cm) (st s : Nat) (c1 : GCalls Tryd.prog 28 [.ptr 0 st 0 0, .agg (reqG cs [] .nil 2)] (gObj st s m) (fun g O' => ∃ s2, g = jdV s2 (.ok M) ∧ O' = gObj st s m ++ jdO s2 (.ok M))) :
    GCalls Tryd.prog 10 [.ptr 0 st 0 0, .slice (csG cs) .none] (gObj st s m) (fun g O' => ∃ x' y', O' = [x', y'] ∧ (g = errV none ∧ ∃ s', x' = .row st 1 [[.map 1 s']] ∧ y' = .map s' (kvG encL M))) := by
  refine GCalls.frame (gAddRaw m M cs st s c1) [0, 1] ⟨⟨_, rfl, .refl _⟩, ⟨_, rfl, .refl _⟩, trivial⟩ (by simp) (GLes.refl _) rfl rfl ?_
  rintro g O' ⟨s2, rfl, rfl⟩
  exact ⟨_, [.row st 1 [[.map 1 s2]], .map s2 (kvG encL M)], [(false, 0), (false, 2)], ⟨_, _, rfl, rfl, s2, rfl, rfl⟩, GLe.refl _, ⟨⟨_, rfl, OLe.row ⟨⟨GLe.map _ _ _, trivial⟩, trivial⟩⟩, ⟨_, rfl, .refl _⟩, trivial⟩, by simp, rfl⟩
theorem gAdd (m : GM) (hm : GOK m) (cs : List Cm) (st s : Nat) (hc : cs.length ≤ 1000000) (hp : ∀ c ∈ cs, c.2.length ≤ 1000000) :
    GCalls Tryd.prog 10 [.ptr 0 st 0 0, .slice (csG cs) .none] (gObj st s m) (fun g O' => ∃ x' y', O' = [x', y'] ∧ (g = errV (addedE m cs) ∧ ∃ s', x' = .row st 1 [[.map 1 s']] ∧ y' = .map s' (kvG encL (addedM m cs)))) := by
  have c1 := gJoinedBy m hm cs [] .nil 2 st s hc (by simp) hp
  cases e1 : joinedP 2 m cs [] with
  | error e =>
    have ea : addedE m cs = some e := by unfold addedE; rw [e1]
    have em : addedM m cs = m := by unfold addedM; rw [e1]
    rw [e1] at c1
    rw [ea, em]
    obtain ⟨ty, v, ev⟩ := errV_some e
    refine h10.calls mixS (by simp) ?_
    simp only [gstart, s10, List.cons_append, List.nil_append, List.length_cons, List.length_nil, Nat.reduceAdd, Nat.reduceSub, List.replicate_succ, List.replicate_zero]
    simp +contextual -implicitDefEqProofs (maxSteps := 2000000) (disch := omega) only [binV, ↓storeV, ↓fieldAddrV, ↓buildV, ↓nilV, fillG, place, GVal.cells, grp, GVal.ofConst, ↓resV, resG, List.map, List.headD, List.take, List.drop, ↓reduceIte, Nat.reduceEqDiff, Nat.reduceAdd, Nat.reduceSub, Nat.reduceLeDiff, reduceCtorEq, implies_true, ne_eq, aggV, Tag.cap, List.replicate, allSolid, GVal.solid, Nat.reduceBEq, Nat.reduceMul, Nat.reduceLT, List.length_map, List.length_range, splice, vcA, ↓vcB, vcC, fbFu, e10]
    refine c1.mono ?_
    rintro g O' ⟨s2, rfl, rfl⟩
    simp +contextual -implicitDefEqProofs (maxSteps := 2000000) (disch := omega) only [binV, ↓storeV, ↓fieldAddrV, ↓buildV, ↓nilV, fillG, place, GVal.cells, grp, GVal.ofConst, ↓resV, resG, List.map, List.headD, List.take, List.drop, ↓reduceIte, Nat.reduceEqDiff, Nat.reduceAdd, Nat.reduceSub, Nat.reduceLeDiff, reduceCtorEq, implies_true, ne_eq, aggV, Tag.cap, List.replicate, allSolid, GVal.solid, Nat.reduceBEq, Nat.reduceMul, Nat.reduceLT, List.length_map, List.length_range, splice, vcA, ↓vcB, vcC, fbFu, e10, Tryd.underlying35, jdV, jdO, ev]
    exact ⟨_, _, rfl, s, rfl, rfl⟩
  | ok M =>
    have ea : addedE m cs = none := by unfold addedE; rw [e1]
    have em : addedM m cs = M := by unfold addedM; rw [e1]
    rw [e1] at c1
    rw [ea, em]
    exact gAddOk m M cs st s c1
theorem gNewRaw : GCalls Tryd.prog 7 [] [] (fun g O' => ∃ st s, g = .ptr 1 st 0 0 ∧ O' = [.map s (kvG encL []), .row st 1 [[.map 0 s]]]) := by
  refine h7.calls mixS (by simp) ?_
  simp only [gstart, s7, List.cons_append, List.nil_append, List.length_cons, List.length_nil, Nat.reduceAdd, Nat.reduceSub, List.replicate_succ, List.replicate_zero]
  simp +contextual -implicitDefEqProofs (maxSteps := 2000000) (disch := omega) only [↓boxV, ↓buildV, fillG, place, GVal.cells, grp, GVal.ofConst, ↓resV, resG, List.map, List.headD, List.take, List.drop, ↓reduceIte, Nat.reduceEqDiff, Nat.reduceAdd, Nat.reduceSub, Nat.reduceLeDiff, reduceCtorEq, implies_true, ne_eq, ↓makeMapV, Tag.cap, List.replicate, allSolid, GVal.solid, Nat.reduceBEq, Nat.reduceMul, Nat.reduceLT, List.length_map, List.length_range, splice, vcA, ↓vcB, vcC, fbFu, e7]
  exact fun s => ⟨rfl, fun st => ⟨_, _, rfl, rfl⟩⟩
theorem gNew : GCalls Tryd.prog 7 [] [] (fun g O' => ∃ st s, g = .ptr 0 st 0 0 ∧ O' = gObj st s []) := by
  refine GCalls.frame gNewRaw [] trivial (by simp) trivial rfl rfl ?_
  rintro g O' ⟨st, s, rfl, rfl⟩
  exact ⟨_, gObj st s [], [(false, 1), (false, 0)], ⟨st, s, rfl, rfl⟩, GLe.ptr _ _ _ _ _, ⟨⟨_, rfl, OLe.row ⟨⟨GLe.map _ _ _, trivial⟩, trivial⟩⟩, ⟨_, rfl, .refl _⟩, trivial⟩, by simp, rfl⟩
end Gv.Tryd
/- Contracts: graph's there, Ancestors. -/
set_option linter.unusedVariables false
set_option linter.unusedSimpArgs false
set_option maxRecDepth 20000
set_option maxHeartbeats 4000000
namespace Gv.Tryd
open Go Gv Go.Proofs
def meltTo (n : Nat) (K : GVal → List GObj → Prop) (g : GVal) (O' : List GObj) : Prop := (∃ g', leA g g' ∧ K g' O') ∨ ∃ t sz xs O1, g = .own O1.length t 0 xs.length ∧ O' = O1 ++ [.row t sz xs] ∧ frzLL (Gv.frz [.row t sz xs] n) xs = some xs ∧ K (.slice xs .none) O1
theorem GCalls.meltOr {P : Program} {f : FuncId} {args : List GVal} {O : List GObj} {K : GVal → List GObj → Prop} (n : Nat)
    (h : GCalls P f args O (meltTo n K)) : GCalls P f args O K := by
  refine ⟨h.1, fun E w vs hs ha => (h.2 E w vs hs ha).mono ?_⟩
  rintro e w' ⟨v, E', O', g, h1, h2, h3, h4, (⟨g', hl, hk⟩ | ⟨t, sz, xs, O1, rfl, rfl, hf, hk⟩)⟩
  · exact ⟨v, E', O', g', h1, h2, h3, hl.sound h4, hk⟩
  · obtain ⟨q0, q1, q2⟩ := h2.melt
    have h5 : VR E' v (.own 0 t 0 xs.length) := by
      cases h4 with
      | own a len cap o st i l hl hcap ha => exact .own a _ cap 0 t 0 l hl hcap ha
    exact ⟨v, _, O1, _, h1, q1, h3.trans q2, frz_sound q0 (n + 1) v _ _ h5 (frz_own rfl rfl hf), hk⟩
theorem gIndexNil {F : FuncId} {caps : List GVal} (X : List GObj) : GCalls Tryd.prog 57 [.slice [] .nil, .func (.func F) [] caps] X (fun g O' => g = .int .i64 (-1) ∧ O' = X) := by
  refine h57.calls mixS (by simp) ?_
  simp only [gstart, s57, List.cons_append, List.nil_append, List.length_cons, List.length_nil, Nat.reduceAdd, Nat.reduceSub, List.replicate_succ, List.replicate_zero]
  simp +contextual -implicitDefEqProofs (maxSteps := 2000000) (disch := omega) only [↓lenV, binV, ↓loadV, ↓indexAddrV, GVal.cells, grp, GVal.ofConst, ↓resV, resG, List.map, List.headD, List.take, List.drop, ↓reduceIte, Nat.reduceEqDiff, Nat.reduceAdd, Nat.reduceSub, Nat.reduceLeDiff, reduceCtorEq, implies_true, ne_eq, Tag.cap, List.replicate, allSolid, GVal.solid, Nat.reduceBEq, Nat.reduceMul, Nat.reduceLT, List.length_map, List.length_range, splice, vcA, ↓vcB, vcC, fbFu, e57]
  refine vcSLoop_by (ι := Unit) (fun _ => ⟨[.any, .any, .any, .any, .int .i64 0, .any, .any, .int .i64 0, .int .i64 0] ++ List.replicate 10 .any, X⟩) (fun _ => 0) ?_ ?_
  · exact Into.first () ⟨[], by simp⟩ (by simp [WL, leG_self, leG_any])
  · rintro ⟨⟩
    simp +contextual -implicitDefEqProofs (maxSteps := 2000000) (disch := omega) only [↓lenV, binV, ↓loadV, ↓indexAddrV, GVal.cells, grp, GVal.ofConst, ↓resV, resG, List.map, List.headD, List.take, List.drop, ↓reduceIte, Nat.reduceEqDiff, Nat.reduceAdd, Nat.reduceSub, Nat.reduceLeDiff, reduceCtorEq, implies_true, ne_eq, Tag.cap, List.replicate, allSolid, GVal.solid, Nat.reduceBEq, Nat.reduceMul, Nat.reduceLT, List.length_map, List.length_range, splice, vcA, ↓vcB, vcC, fbFu, e57]
    exact fun h => absurd h (Int.lt_irrefl 0)
theorem gDeleteNil {F : FuncId} {caps : List GVal} (X : List GObj) : GCalls Tryd.prog 55 [.slice [] .nil, .func (.func F) [] caps] X (fun g O' => g = .slice [] .nil ∧ O' = X) := by
  have cI := gIndexNil (F := F) (caps := caps) X
  refine h55.calls mixS (by simp) ?_
  simp only [gstart, s55, List.cons_append, List.nil_append, List.length_cons, List.length_nil, Nat.reduceAdd, Nat.reduceSub, List.replicate_succ, List.replicate_zero]
  simp +contextual -implicitDefEqProofs (maxSteps := 2000000) (disch := omega) only [↓op_clear, ↓lenV, binV, ↓unV, optV, ↓loadV, ↓storeV, ↓indexAddrV, ↓allocV, ↓sliceV, bound, cutTag, hiTag, GVal.cells, grp, GVal.ofConst, ↓resV, resG, List.map, List.headD, List.take, List.drop, ↓reduceIte, Nat.reduceEqDiff, Nat.reduceAdd, Nat.reduceSub, Nat.reduceLeDiff, reduceCtorEq, implies_true, ne_eq, ↓clearV, aggV, Tag.cap, List.replicate, allSolid, GVal.solid, Nat.reduceBEq, Nat.reduceMul, Nat.reduceLT, List.length_map, List.length_range, splice, vcA, ↓vcB, vcC, fbFu, e55]
  refine cI.mono ?_
  rintro g O' ⟨rfl, rfl⟩
  simp +contextual -implicitDefEqProofs (maxSteps := 2000000) (disch := omega) only [↓op_clear, ↓lenV, binV, ↓unV, optV, ↓loadV, ↓storeV, ↓indexAddrV, ↓allocV, ↓sliceV, bound, cutTag, hiTag, GVal.cells, grp, GVal.ofConst, ↓resV, resG, List.map, List.headD, List.take, List.drop, ↓reduceIte, Nat.reduceEqDiff, Nat.reduceAdd, Nat.reduceSub, Nat.reduceLeDiff, reduceCtorEq, implies_true, ne_eq, ↓clearV, aggV, Tag.cap, List.replicate, allSolid, GVal.solid, Nat.reduceBEq, Nat.reduceMul, Nat.reduceLT, List.length_map, List.length_range, splice, vcA, ↓vcB, vcC, fbFu, e55]
theorem gThere (m : GM) (st s : Nat) (l : List Hs) (t : Tag) (ht : t = .nil → l = []) (hl : l.length ≤ 1000000) : GCalls Tryd.prog 36 [.ptr 0 st 0 0, .slice (hsG l) t] (gObj st s m) (fun g O' => g = .slice (hsG (l.filter fun h => (look m h).isSome)) .none ∧ O' = gObj st s m) := by
  have cD := fun v => gDeleteF (p := fun h => !(look m h).isSome) (fun h => gThere1 m h st s) rfl l v hl
  simp only [Bool.not_not] at cD
  have cC := GCalls.newUp (hClone l t (by omega) ht) (O := gObj st s m) rfl (by rintro g O' (⟨_, rfl, rfl⟩ | ⟨st, rfl, rfl⟩) <;> rfl)
  refine GCalls.meltOr 2 ?_
  refine h36.calls mixS (by simp) ?_
  simp only [gstart, s36, List.cons_append, List.nil_append, List.length_cons, List.length_nil, Nat.reduceAdd, Nat.reduceSub, List.replicate_succ, List.replicate_zero]
  simp +contextual -implicitDefEqProofs (maxSteps := 2000000) (disch := omega) only [optV, ↓boxV, ↓sliceV, bound, cutTag, hiTag, GVal.cells, grp, GVal.ofConst, ↓resV, resG, List.map, List.headD, List.take, List.drop, ↓reduceIte, Nat.reduceEqDiff, Nat.reduceAdd, Nat.reduceSub, Nat.reduceLeDiff, reduceCtorEq, implies_true, ne_eq, Tag.cap, List.replicate, allSolid, GVal.solid, Nat.reduceBEq, Nat.reduceMul, Nat.reduceLT, List.length_map, List.length_range, splice, vcA, ↓vcB, vcC, fbFu, e36, hsG_len]
  refine cC.mono ?_
  rintro g O' ⟨g0, O1, (⟨rfl, rfl, rfl⟩ | ⟨v, rfl, rfl⟩), rfl, rfl⟩
  · simp +contextual -implicitDefEqProofs (maxSteps := 2000000) (disch := omega) only [optV, ↓boxV, ↓sliceV, bound, cutTag, hiTag, GVal.cells, grp, GVal.ofConst, ↓resV, resG, List.map, List.headD, List.take, List.drop, ↓reduceIte, Nat.reduceEqDiff, Nat.reduceAdd, Nat.reduceSub, Nat.reduceLeDiff, reduceCtorEq, implies_true, ne_eq, Tag.cap, List.replicate, allSolid, GVal.solid, Nat.reduceBEq, Nat.reduceMul, Nat.reduceLT, List.length_map, List.length_range, splice, vcA, ↓vcB, vcC, fbFu, e36]
    refine (gDeleteNil _).mono ?_
    rintro g O' ⟨rfl, rfl⟩
    simp +contextual -implicitDefEqProofs (maxSteps := 2000000) (disch := omega) only [optV, ↓boxV, ↓sliceV, bound, cutTag, hiTag, GVal.cells, grp, GVal.ofConst, ↓resV, resG, List.map, List.headD, List.take, List.drop, ↓reduceIte, Nat.reduceEqDiff, Nat.reduceAdd, Nat.reduceSub, Nat.reduceLeDiff, reduceCtorEq, implies_true, ne_eq, Tag.cap, List.replicate, allSolid, GVal.solid, Nat.reduceBEq, Nat.reduceMul, Nat.reduceLT, List.length_map, List.length_range, splice, vcA, ↓vcB, vcC, fbFu, e36]
    exact .inl ⟨.slice (hsG (List.filter (fun h => (look m h).isSome) [])) .none, by rw [leA_slice]; rfl, rfl, rfl⟩
  · simp +contextual -implicitDefEqProofs (maxSteps := 2000000) (disch := omega) only [optV, ↓boxV, ↓sliceV, bound, cutTag, hiTag, GVal.cells, grp, GVal.ofConst, ↓resV, resG, List.map, List.headD, List.take, List.drop, ↓reduceIte, Nat.reduceEqDiff, Nat.reduceAdd, Nat.reduceSub, Nat.reduceLeDiff, reduceCtorEq, implies_true, ne_eq, Tag.cap, List.replicate, allSolid, GVal.solid, Nat.reduceBEq, Nat.reduceMul, Nat.reduceLT, List.length_map, List.length_range, splice, vcA, ↓vcB, vcC, fbFu, e36]
    refine (cD v).mono ?_
    rintro g O' ⟨rfl, rfl⟩
    simp +contextual -implicitDefEqProofs (maxSteps := 2000000) (disch := omega) only [optV, ↓boxV, ↓sliceV, bound, cutTag, hiTag, GVal.cells, grp, GVal.ofConst, ↓resV, resG, List.map, List.headD, List.take, List.drop, ↓reduceIte, Nat.reduceEqDiff, Nat.reduceAdd, Nat.reduceSub, Nat.reduceLeDiff, reduceCtorEq, implies_true, ne_eq, Tag.cap, List.replicate, allSolid, GVal.solid, Nat.reduceBEq, Nat.reduceMul, Nat.reduceLT, List.length_map, List.length_range, splice, vcA, ↓vcB, vcC, fbFu, e36]
    exact .inr ⟨v, 32, _, gObj st s m, by rw [hsG_len]; rfl, rfl, frz_hs _ 1 _, rfl, rfl⟩
end Gv.Tryd
/- Contracts: graph's Ancestors. -/
set_option linter.unusedVariables false
set_option linter.unusedSimpArgs false
set_option maxRecDepth 20000
set_option maxHeartbeats 4000000
namespace Gv.Tryd
open Go Gv Go.Proofs
theorem gAnc1 (m : GM) (h : Hs) (st s : Nat) (l : List Hs) (el : look m h = some l) : GCalls Tryd.prog 37 [.agg (bytesG h.1), .ref [.ptr 0 st 0 0]] (gObj st s m) (fun g O' => g = .slice (hsG l) .none ∧ O' = gObj st s m) := by
  obtain ⟨i, hi, hv, _⟩ := look_idx encL m h l el
  refine h37.calls mixS (by simp) ?_
  simp only [gstart, s37, List.cons_append, List.nil_append, List.length_cons, List.length_nil, Nat.reduceAdd, Nat.reduceSub, List.replicate_succ, List.replicate_zero]
  simp +contextual -implicitDefEqProofs (maxSteps := 2000000) (disch := omega) only [drawC, drawK, keepT, optV, ↓loadV, ↓fieldAddrV, ↓boxV, ↓sliceV, ↓nilV, bound, cutTag, hiTag, GVal.cells, grp, GVal.ofConst, ↓resV, resG, List.map, List.headD, List.take, List.drop, ↓reduceIte, Nat.reduceEqDiff, Nat.reduceAdd, Nat.reduceSub, Nat.reduceLeDiff, reduceCtorEq, implies_true, ne_eq, ↓lookupV, keyOk, keyCells, pairG, Tag.cap, List.replicate, allSolid, GVal.solid, Nat.reduceBEq, Nat.reduceMul, Nat.reduceLT, List.length_map, List.length_range, splice, vcA, ↓vcB, vcC, fbFu, e37, kfind_h, hi, hv, solidH, len32, take32]
theorem gAnc0 (m : GM) (h : Hs) (st s : Nat) (el : look m h = none) : GCalls Tryd.prog 37 [.agg (bytesG h.1), .ref [.ptr 0 st 0 0]] (gObj st s m) (fun g O' => g = .slice [] .nil ∧ O' = gObj st s m) := by
  obtain ⟨hi, _⟩ := look_none encL m h el
  refine h37.calls mixS (by simp) ?_
  simp only [gstart, s37, List.cons_append, List.nil_append, List.length_cons, List.length_nil, Nat.reduceAdd, Nat.reduceSub, List.replicate_succ, List.replicate_zero]
  simp +contextual -implicitDefEqProofs (maxSteps := 2000000) (disch := omega) only [drawC, drawK, keepT, optV, ↓loadV, ↓fieldAddrV, ↓boxV, ↓sliceV, ↓nilV, bound, cutTag, hiTag, GVal.cells, grp, GVal.ofConst, ↓resV, resG, List.map, List.headD, List.take, List.drop, ↓reduceIte, Nat.reduceEqDiff, Nat.reduceAdd, Nat.reduceSub, Nat.reduceLeDiff, reduceCtorEq, implies_true, ne_eq, ↓lookupV, keyOk, keyCells, pairG, Tag.cap, List.replicate, allSolid, GVal.solid, Nat.reduceBEq, Nat.reduceMul, Nat.reduceLT, List.length_map, List.length_range, splice, vcA, ↓vcB, vcC, fbFu, e37, kfind_h, hi, solidH, len32, take32]
theorem gAncN (m : GM) (h : Hs) (st s : Nat) : GCalls Tryd.prog 37 [.agg (bytesG h.1), .ref [.ptr 0 st 0 0]] (gObj st s m) (fun g O' => g = .slice (hsG (parsM m h)) .none ∧ O' = gObj st s m) := by
  cases el : look m h with
  | some l => rw [parsM_some el]; exact gAnc1 m h st s l el
  | none =>
    rw [parsM_none el]
    refine GCalls.into ((gAnc0 m h st s el).mono ?_)
    rintro g O' ⟨rfl, rfl⟩
    exact GInto.weak (O := gObj st s m) (X := []) (by rw [leG_none]; rfl) (.here ⟨rfl, rfl⟩)
def inM (m : GM) (l : List Hs) : List Hs := l.filter fun h => (look m h).isSome
noncomputable def ancL (m : GM) (l : List Hs) : List Hs := by
  classical exact sortR ((l ++ hashesM m).filter fun x => decide (Reach (parsM m) (inM m l) x))
theorem ancL_ss (m : GM) (l : List Hs) : SS (ancL m l) := sortR_ss _
theorem ancL_mem (m : GM) (l : List Hs) (x : Hs) : x ∈ ancL m l ↔ Reach (parsM m) (inM m l) x := by
  classical
  unfold ancL
  rw [sortR_mem, List.mem_filter, decide_eq_true_eq]
  refine ⟨fun h => h.2, fun h => ⟨?_, h⟩⟩
  cases h with
  | base x hx => exact List.mem_append_left _ (List.mem_filter.1 hx).1
  | step x y _ hy => exact List.mem_append_right _ (pars_in hy)
theorem gAncestors (m : GM) (hm : GMOK m) (st s : Nat) (l : List Hs) (t : Tag) (ht : t = .nil → l = []) (hl : l.length ≤ 10000) : GCalls Tryd.prog 19 [.ptr 0 st 0 0, .slice (hsG l) t] (gObj st s m) (fun g O' => g = .slice (hsG (ancL m l)) .none ∧ O' = gObj st s m) := by
  have hfl : (inM m l).length ≤ l.length := List.length_filter_le _ _
  have cT := gThere m st s l t ht (by omega)
  have cR := gReached (caps := [.ref [.ptr 0 st 0 0]]) (parsM m) (fun h => gAncN m h st s) rfl (inM m l) .none (by simp) (inM m l ++ hashesM m) (fun x hx => List.mem_append_left _ hx) (fun x _ y hy => List.mem_append_right _ (pars_in hy)) 4 (fun x _ => hm.pars x) (by have := hm.hashes; rw [List.length_append]; omega) (by omega) (by omega)
  refine GCalls.dropTo ?_
  refine h19.calls mixS (by simp) ?_
  simp only [gstart, s19, List.cons_append, List.nil_append, List.length_cons, List.length_nil, Nat.reduceAdd, Nat.reduceSub, List.replicate_succ, List.replicate_zero]
  simp +contextual -implicitDefEqProofs (maxSteps := 2000000) (disch := omega) only [optV, ↓loadV, ↓boxV, ↓sliceV, bound, cutTag, hiTag, GVal.cells, grp, GVal.ofConst, ↓resV, resG, List.map, List.headD, List.take, List.drop, ↓reduceIte, Nat.reduceEqDiff, Nat.reduceAdd, Nat.reduceSub, Nat.reduceLeDiff, reduceCtorEq, implies_true, ne_eq, Tag.cap, List.replicate, allSolid, GVal.solid, Nat.reduceBEq, Nat.reduceMul, Nat.reduceLT, List.length_map, List.length_range, splice, vcA, ↓vcB, vcC, fbFu, e19]
  refine cT.mono ?_
  rintro g O' ⟨rfl, rfl⟩
  simp +contextual -implicitDefEqProofs (maxSteps := 2000000) (disch := omega) only [optV, ↓loadV, ↓boxV, ↓sliceV, bound, cutTag, hiTag, GVal.cells, grp, GVal.ofConst, ↓resV, resG, List.map, List.headD, List.take, List.drop, ↓reduceIte, Nat.reduceEqDiff, Nat.reduceAdd, Nat.reduceSub, Nat.reduceLeDiff, reduceCtorEq, implies_true, ne_eq, Tag.cap, List.replicate, allSolid, GVal.solid, Nat.reduceBEq, Nat.reduceMul, Nat.reduceLT, List.length_map, List.length_range, splice, vcA, ↓vcB, vcC, fbFu, e19]
  refine cR.mono ?_
  rintro g O' ⟨s2, S, rfl, rfl, hS, hR, hSl⟩
  have hh := hm.hashes
  rw [List.length_append] at hSl
  have eA : sortR ((setM S).map (·.1)) = ancL m l := ss_eq (sortR_ss _) (ancL_ss m l) fun z => by
    rw [sortR_mem, ancL_mem, ← hR z]; simp [setM]
  have cS := gSorted encB (setM S) (by simp [setM]; omega) s2
  rw [eA] at cS
  have cS2 : GCalls Tryd.prog 34 [.map 0 s2] [.map s2 (kvG encB (setM S))] (fun g O' => ∃ x', O' = [x'] ∧ (g = .slice (hsG (ancL m l)) .none ∧ x' = .map s2 (kvG encB (setM S)))) := cS.mono (by rintro g O' ⟨rfl, rfl⟩; exact ⟨_, rfl, rfl, rfl⟩)
  have cS3 := GCalls.keep1 (args' := [.map 2 s2]) cS2 (O := gObj st s m ++ [.map s2 (kvG encB (setM S))]) 2 rfl rfl rfl rfl
  simp +contextual -implicitDefEqProofs (maxSteps := 2000000) (disch := omega) only [optV, ↓loadV, ↓boxV, ↓sliceV, bound, cutTag, hiTag, GVal.cells, grp, GVal.ofConst, ↓resV, resG, List.map, List.headD, List.take, List.drop, ↓reduceIte, Nat.reduceEqDiff, Nat.reduceAdd, Nat.reduceSub, Nat.reduceLeDiff, reduceCtorEq, implies_true, ne_eq, Tag.cap, List.replicate, allSolid, GVal.solid, Nat.reduceBEq, Nat.reduceMul, Nat.reduceLT, List.length_map, List.length_range, splice, vcA, ↓vcB, vcC, fbFu, e19]
  refine cS3.mono ?_
  rintro g O' ⟨rfl, rfl⟩
  simp +contextual -implicitDefEqProofs (maxSteps := 2000000) (disch := omega) only [optV, ↓loadV, ↓boxV, ↓sliceV, bound, cutTag, hiTag, GVal.cells, grp, GVal.ofConst, ↓resV, resG, List.map, List.headD, List.take, List.drop, ↓reduceIte, Nat.reduceEqDiff, Nat.reduceAdd, Nat.reduceSub, Nat.reduceLeDiff, reduceCtorEq, implies_true, ne_eq, Tag.cap, List.replicate, allSolid, GVal.solid, Nat.reduceBEq, Nat.reduceMul, Nat.reduceLT, List.length_map, List.length_range, splice, vcA, ↓vcB, vcC, fbFu, e19]
  exact ⟨_, gObj st s m, [.map s2 (kvG encB (setM S))], rfl, leA_refl _, rfl, rfl⟩
end Gv.Tryd
/- A nil slice in a struct's cell is given a row of its own. -/
set_option linter.unusedVariables false
namespace Gv
open Go
section
variable {st : GSt} {N : GSt → Prop}
end
theorem setO_6 (a b c d e f g x : GObj) (r : List GObj) : (a :: b :: c :: d :: e :: f :: g :: r).set 6 x = a :: b :: c :: d :: e :: f :: x :: r := rfl
theorem setO_7 (a b c d e f g h x : GObj) (r : List GObj) : (a :: b :: c :: d :: e :: f :: g :: h :: r).set 7 x = a :: b :: c :: d :: e :: f :: g :: x :: r := rfl
theorem setO_8 (a b c d e f g h i x : GObj) (r : List GObj) : (a :: b :: c :: d :: e :: f :: g :: h :: i :: r).set 8 x = a :: b :: c :: d :: e :: f :: g :: h :: x :: r := rfl
theorem GCalls.tail {P : Program} {f : FuncId} {args : List GVal} {X : List GObj} {K : GVal → List GObj → Prop} (h : GCalls P f args X K) (hK : ∀ g O', K g O' → clockOf O' = none ∧ O' ≠ []) (hc : clockOf X = none) (hX : X ≠ []) (Y : List GObj) :
    GCalls P f args (X ++ Y) (fun g O'' => ∃ O', K g O' ∧ O'' = O' ++ Y) := by
  have hcl : ∀ A : List GObj, clockOf A = none → A ≠ [] → clockOf (A ++ Y) = none := fun A h1 h2 => by
    cases A with
    | nil => exact absurd rfl h2
    | cons a r => cases a <;> first | rfl | cases h1
  refine GCalls.frame h (List.range X.length) ?_ List.nodup_range (GLes.refl _) hc (hcl X hc hX) ?_
  · have : ∀ (A B : List GObj), Fits (A ++ B ++ Y) ((List.range B.length).map (· + A.length)) B := by
      intro A B
      induction B generalizing A with
      | nil => trivial
      | cons b r ih =>
        rw [List.length_cons, List.range_succ_eq_map, List.map_cons, List.map_map]
        refine ⟨⟨b, by simp, .refl _⟩, ?_⟩
        have := ih (A ++ [b])
        simp only [List.length_append, List.length_singleton, List.append_assoc, List.singleton_append] at this ⊢
        have e : ((fun x => x + A.length) ∘ Nat.succ) = (fun x => x + (A.length + 1)) := by funext x; simp; omega
        rw [e]; exact this
    have := this [] X
    simpa using this
  · intro g O' hk
    obtain ⟨h1, h2⟩ := hK g O' hk
    refine ⟨g, O' ++ Y, (List.range O'.length).map (fun k => (false, k)) ++ (List.range Y.length).map (fun k => (true, k + X.length)), ⟨O', hk, rfl⟩, GLe.refl g, Comes.of (by simp) fun k z x hz hx => ?_, ?_, hcl O' h1 h2⟩
    · by_cases hlt : k < O'.length
      · rw [List.getElem?_append_left hlt] at hz
        rw [List.getElem?_append_left (by simpa using hlt)] at hx
        simp only [List.getElem?_map, List.getElem?_range hlt, Option.map_some, Option.some.injEq] at hx
        subst hx
        exact ⟨z, hz, .refl _⟩
      · rw [List.getElem?_append_right (by omega)] at hz
        rw [List.getElem?_append_right (by simpa using hlt)] at hx
        have hk2 : k - O'.length < Y.length := (List.getElem?_eq_some_iff.1 hz).1
        simp only [List.length_map, List.length_range, List.getElem?_map, List.getElem?_range hk2, Option.map_some, Option.some.injEq] at hx
        subst hx
        refine ⟨by simp, z, ?_, .refl _⟩
        rw [List.getElem?_append_right (by omega), Nat.add_sub_cancel]; exact hz
    · rw [List.nodup_append]
      refine ⟨?_, ?_, ?_⟩
      · rw [List.nodup_iff_pairwise_ne, List.pairwise_map]
        exact List.Pairwise.imp (fun {a b} hab => by simp; omega) (List.pairwise_lt_range (n := O'.length))
      · rw [List.nodup_iff_pairwise_ne, List.pairwise_map]
        exact List.Pairwise.imp (fun {a b} hab => by simp; omega) (List.pairwise_lt_range (n := Y.length))
      · intro a ha b hb
        obtain ⟨i, _, rfl⟩ := List.mem_map.1 ha
        obtain ⟨j, _, rfl⟩ := List.mem_map.1 hb
        simp
end Gv
/- Contracts: order's push and step. -/
set_option linter.unusedVariables false
set_option linter.unusedSimpArgs false
set_option maxRecDepth 20000
set_option maxHeartbeats 4000000
namespace Gv.Tryd
open Go Gv Go.Proofs
inductive DoneG : GVal → (Hs → Bool) → Prop
  | nil : DoneG (.lit .nilFunc) (fun _ => false)
  | fn (F : FuncId) (caps : List GVal) (dn : Hs → Bool) : (∀ h : Hs, GPure Tryd.prog F (.agg (bytesG h.1) :: caps) (.bool (dn h))) → DoneG (.func (.func F) [] caps) dn
def pushed (m : GM) (dn : Hs → Bool) (S : List Hs) (h : Hs) : Bool := (look m h).isSome && !(decide (h ∈ S)) && !(dn h)
end Gv.Tryd
/- Contracts: order's Rising. -/
set_option linter.unusedVariables false
set_option linter.unusedSimpArgs false
set_option maxRecDepth 20000
set_option maxHeartbeats 4000000
namespace Gv.Tryd
open Go Gv Go.Proofs
theorem ss_nodup {a : List Hs} (h : SS a) : a.Nodup := h.imp fun {x y} q e => by rw [e] at q; exact LT.irrefl _ q
end Gv.Tryd
/- Contracts: order's Walk. -/
set_option linter.unusedVariables false
set_option linter.unusedSimpArgs false
set_option maxRecDepth 20000
set_option maxHeartbeats 4000000
namespace Gv.Tryd
open Go Gv Go.Proofs
abbrev WSt := List Hs × List Hs
inductive VisL (m : GM) (dn : Hs → Bool) : List Hs → WSt → WSt → Prop
  | nil (so : WSt) : VisL m dn [] so so
  | skip (p : Hs) (r : List Hs) (so T : WSt) : pushed m dn so.1 p = false → VisL m dn r so T → VisL m dn (p :: r) so T
  | go (p : Hs) (r : List Hs) (so so1 T : WSt) : pushed m dn so.1 p = true → VisL m dn (parsM m p) (so.1 ++ [p], so.2) so1 → VisL m dn r (so1.1, so1.2 ++ [p]) T → VisL m dn (p :: r) so T
structure SInv (m : GM) (S out : List Hs) (n : Nat) : Prop where
  nodup : S.Nodup
  keys : ∀ x ∈ S, (look m x).isSome = true
  len : out.length + n ≤ S.length
theorem look_key {α : Type} {m : List (Hs × α)} {x : Hs} (h : (look m x).isSome = true) : x ∈ m.map (·.1) := by
  induction m with
  | nil => cases h
  | cons p r ih =>
    rw [look] at h
    by_cases e : x = p.1
    · simp [e]
    · rw [if_neg e] at h; simp [ih h]
theorem SInv.le {m : GM} {S out : List Hs} {n : Nat} (h : SInv m S out n) : S.length ≤ m.length := by
  have := nodup_lenH S (m.map (·.1)) h.nodup fun x hx => look_key (h.keys x hx)
  simpa using this
theorem pushed_iff {m : GM} {dn : Hs → Bool} {S : List Hs} {h : Hs} (hp : pushed m dn S h = true) : (look m h).isSome = true ∧ h ∉ S ∧ dn h = false := by
  unfold pushed at hp
  simp only [Bool.and_eq_true, Bool.not_eq_true', decide_eq_false_iff_not] at hp
  exact ⟨hp.1.1, hp.1.2, hp.2⟩
theorem SInv.push {m : GM} {S out : List Hs} {n : Nat} (h : SInv m S out n) {dn : Hs → Bool} {x : Hs} (hp : pushed m dn S x = true) : SInv m (S ++ [x]) out (n + 1) := by
  obtain ⟨h1, h2, _⟩ := pushed_iff hp
  refine ⟨?_, fun y hy => ?_, by have := h.len; rw [List.length_append, List.length_singleton]; omega⟩
  · rw [List.nodup_append]
    exact ⟨h.nodup, by simp, fun a ha b hb => by rw [List.mem_singleton.1 hb]; exact fun e => h2 (e ▸ ha)⟩
  · rcases List.mem_append.1 hy with q | q
    · exact h.keys y q
    · rw [List.mem_singleton.1 q]; exact h1
end Gv.Tryd
/- Graphs that may be: plain laws of walks. -/
set_option linter.unusedVariables false
set_option linter.unusedSimpArgs false
set_option maxRecDepth 20000
namespace Gv.Tryd
open Go Gv Go.Proofs
structure Good (m : GM) : Prop where
  ok : GOK m
  keys : (m.map (·.1)).Nodup
  closed : ∀ x y, y ∈ parsM m x → (look m y).isSome = true
  acyc : ∀ x, ¬ Reach (parsM m) (parsM m x) x
theorem Reach.trans {nx : Hs → List Hs} {l l' : List Hs} {x : Hs} (h : Reach nx l' x) (hl : ∀ y ∈ l', Reach nx l y) : Reach nx l x := by
  induction h with
  | base x hx => exact hl x hx
  | step x y _ hy ih => exact .step x y ih hy
theorem Reach.sub {nx : Hs → List Hs} {l l' : List Hs} {x : Hs} (h : Reach nx l' x) (hl : ∀ y ∈ l', y ∈ l) : Reach nx l x := h.trans fun y hy => .base y (hl y hy)
theorem Reach.nil {nx : Hs → List Hs} {x : Hs} (h : Reach nx [] x) : False := by
  induction h with
  | base x hx => cases hx
  | step _ _ _ _ ih => exact ih
theorem pars_there {m : GM} {x y : Hs} (h : y ∈ parsM m x) : (look m x).isSome = true := by
  cases e : look m x with
  | some l => rfl
  | none => rw [parsM_none e] at h; cases h
theorem Reach.inM {m : GM} {l : List Hs} {x : Hs} (h : Reach (parsM m) l x) (hx : (look m x).isSome = true) : Reach (parsM m) (inM m l) x := by
  induction h with
  | base x h => exact .base x (List.mem_filter.2 ⟨h, hx⟩)
  | step x y _ hy ih => exact .step x y (ih (pars_there hy)) hy
end Gv.Tryd
/- Adding commits: a graph that may be stays one; graphs that say alike. -/
set_option linter.unusedVariables false
set_option linter.unusedSimpArgs false
set_option maxRecDepth 20000
namespace Gv.Tryd
open Go Gv Go.Proofs
theorem key_look {α : Type} {m : List (Hs × α)} {x : Hs} (h : x ∈ m.map (·.1)) : (look m x).isSome = true := by
  induction m with
  | nil => cases h
  | cons p r ih =>
    rw [look]
    by_cases e : x = p.1
    · rw [if_pos e]; rfl
    · rw [if_neg e]
      rw [List.map_cons] at h
      rcases List.mem_cons.1 h with q | q
      · exact absurd q e
      · exact ih q
def Alike (m m' : GM) : Prop := ∀ h, look m h = look m' h
theorem Alike.pars {m m' : GM} (h : Alike m m') : parsM m = parsM m' := funext fun x => by unfold parsM; rw [h x]
theorem Alike.len {m m' : GM} (h : Alike m m') (k : (m.map (·.1)).Nodup) (k' : (m'.map (·.1)).Nodup) : m.length = m'.length := by
  have a := nodup_lenH _ (m'.map (·.1)) k fun x hx => look_key (by rw [← h x]; exact key_look hx)
  have b := nodup_lenH _ (m.map (·.1)) k' fun x hx => look_key (by rw [h x]; exact key_look hx)
  simp only [List.length_map] at a b
  omega
theorem Alike.symm {m m' : GM} (h : Alike m m') : Alike m' m := fun x => (h x).symm
end Gv.Tryd
/- Contracts: chapter 12's example. -/
set_option linter.unusedVariables false
set_option linter.unusedSimpArgs false
set_option maxRecDepth 20000
set_option maxHeartbeats 4000000
namespace Gv.Tryd
open Go Gv Go.Proofs
theorem GCalls.args {P : Program} {f : FuncId} {args args' : List GVal} {O : List GObj} {K : GVal → List GObj → Prop} (h : GCalls P f args O K) (ha : GLes args' args) : GCalls P f args' O K :=
  ⟨h.1, fun E w vs hs hv => h.2 E w vs hs ⟨by rw [hv.1, ha.len], fun k g hg => by
    obtain ⟨x, hx, hle⟩ := ha.at_ k g hg
    exact hle _ _ (hv.2 k x hx)⟩⟩
def hq (a b c : UInt8) : Hs := ⟨a :: b :: c :: List.replicate 29 0, rfl⟩
def q1 : Hs := hq 1 0 0
theorem qE1 : ([.int .u8 1, .int .u8 0, .int .u8 0, .int .u8 0, .int .u8 0, .int .u8 0, .int .u8 0, .int .u8 0, .int .u8 0, .int .u8 0, .int .u8 0, .int .u8 0, .int .u8 0, .int .u8 0, .int .u8 0, .int .u8 0, .int .u8 0, .int .u8 0, .int .u8 0, .int .u8 0, .int .u8 0, .int .u8 0, .int .u8 0, .int .u8 0, .int .u8 0, .int .u8 0, .int .u8 0, .int .u8 0, .int .u8 0, .int .u8 0, .int .u8 0, .int .u8 0] : List GVal) = bytesG q1.1 := rfl
theorem qR1 (x : GVal) : ([.int .u8 1, .int .u8 0, .int .u8 0, .int .u8 0, .int .u8 0, .int .u8 0, .int .u8 0, .int .u8 0, .int .u8 0, .int .u8 0, .int .u8 0, .int .u8 0, .int .u8 0, .int .u8 0, .int .u8 0, .int .u8 0, .int .u8 0, .int .u8 0, .int .u8 0, .int .u8 0, .int .u8 0, .int .u8 0, .int .u8 0, .int .u8 0, .int .u8 0, .int .u8 0, .int .u8 0, .int .u8 0, .int .u8 0, .int .u8 0, .int .u8 0, .int .u8 0, x] : List GVal) = bytesG q1.1 ++ [x] := rfl
def q2 : Hs := hq 2 0 0
theorem qE2 : ([.int .u8 2, .int .u8 0, .int .u8 0, .int .u8 0, .int .u8 0, .int .u8 0, .int .u8 0, .int .u8 0, .int .u8 0, .int .u8 0, .int .u8 0, .int .u8 0, .int .u8 0, .int .u8 0, .int .u8 0, .int .u8 0, .int .u8 0, .int .u8 0, .int .u8 0, .int .u8 0, .int .u8 0, .int .u8 0, .int .u8 0, .int .u8 0, .int .u8 0, .int .u8 0, .int .u8 0, .int .u8 0, .int .u8 0, .int .u8 0, .int .u8 0, .int .u8 0] : List GVal) = bytesG q2.1 := rfl
theorem qR2 (x : GVal) : ([.int .u8 2, .int .u8 0, .int .u8 0, .int .u8 0, .int .u8 0, .int .u8 0, .int .u8 0, .int .u8 0, .int .u8 0, .int .u8 0, .int .u8 0, .int .u8 0, .int .u8 0, .int .u8 0, .int .u8 0, .int .u8 0, .int .u8 0, .int .u8 0, .int .u8 0, .int .u8 0, .int .u8 0, .int .u8 0, .int .u8 0, .int .u8 0, .int .u8 0, .int .u8 0, .int .u8 0, .int .u8 0, .int .u8 0, .int .u8 0, .int .u8 0, .int .u8 0, x] : List GVal) = bytesG q2.1 ++ [x] := rfl
def q3 : Hs := hq 3 0 0
theorem qE3 : ([.int .u8 3, .int .u8 0, .int .u8 0, .int .u8 0, .int .u8 0, .int .u8 0, .int .u8 0, .int .u8 0, .int .u8 0, .int .u8 0, .int .u8 0, .int .u8 0, .int .u8 0, .int .u8 0, .int .u8 0, .int .u8 0, .int .u8 0, .int .u8 0, .int .u8 0, .int .u8 0, .int .u8 0, .int .u8 0, .int .u8 0, .int .u8 0, .int .u8 0, .int .u8 0, .int .u8 0, .int .u8 0, .int .u8 0, .int .u8 0, .int .u8 0, .int .u8 0] : List GVal) = bytesG q3.1 := rfl
theorem qR3 (x : GVal) : ([.int .u8 3, .int .u8 0, .int .u8 0, .int .u8 0, .int .u8 0, .int .u8 0, .int .u8 0, .int .u8 0, .int .u8 0, .int .u8 0, .int .u8 0, .int .u8 0, .int .u8 0, .int .u8 0, .int .u8 0, .int .u8 0, .int .u8 0, .int .u8 0, .int .u8 0, .int .u8 0, .int .u8 0, .int .u8 0, .int .u8 0, .int .u8 0, .int .u8 0, .int .u8 0, .int .u8 0, .int .u8 0, .int .u8 0, .int .u8 0, .int .u8 0, .int .u8 0, x] : List GVal) = bytesG q3.1 ++ [x] := rfl
def q4 : Hs := hq 4 0 0
theorem qE4 : ([.int .u8 4, .int .u8 0, .int .u8 0, .int .u8 0, .int .u8 0, .int .u8 0, .int .u8 0, .int .u8 0, .int .u8 0, .int .u8 0, .int .u8 0, .int .u8 0, .int .u8 0, .int .u8 0, .int .u8 0, .int .u8 0, .int .u8 0, .int .u8 0, .int .u8 0, .int .u8 0, .int .u8 0, .int .u8 0, .int .u8 0, .int .u8 0, .int .u8 0, .int .u8 0, .int .u8 0, .int .u8 0, .int .u8 0, .int .u8 0, .int .u8 0, .int .u8 0] : List GVal) = bytesG q4.1 := rfl
def fourCs : List Cm := [(q4, [q2, q3]), (q2, [q1]), (q3, [q1]), (q1, [])]
theorem reach_rank {M : GM} (rk : Hs → Nat) (hr : ∀ p ∈ M, ∀ y ∈ p.2, rk y < rk p.1) {l : List Hs} {n : Nat} (hl : ∀ x ∈ l, rk x < n) {x : Hs} (h : Reach (parsM M) l x) : rk x < n := by
  induction h with
  | base x hx => exact hl x hx
  | step x y _ hy ih =>
    obtain ⟨p, h1, h2, h3⟩ := parsM_mem hy
    have := hr p h1 y h3
    rw [h2] at this
    omega
theorem roundP_rank {m M : GM} {cs : List Cm} (rk : Hs → Nat) (hr : ∀ p ∈ M, ∀ y ∈ p.2, rk y < rk p.1) (hc : ∀ c ∈ cs, ∀ y ∈ c.2, rk y < rk c.1) : roundP m M cs = none := by
  unfold roundP
  rw [List.findSome?_eq_none_iff]
  intro c hcm
  unfold roundE
  split
  · rfl
  · rw [if_neg]
    intro h
    have := reach_rank rk hr (hc c hcm) h
    omega
def rkQ (h : Hs) : Nat := (h.1.headD 0).toNat
theorem fourG : GOK ([] : GM) := ⟨by simp, by simp⟩
end Gv.Tryd
/- Contracts: the law's hashes of numbers. -/
set_option linter.unusedVariables false
set_option linter.unusedSimpArgs false
set_option maxRecDepth 20000
set_option maxHeartbeats 4000000
namespace Gv.Tryd
open Go Gv Go.Proofs
end Gv.Tryd
/- Contracts: taproothand's ahead. -/
set_option linter.unusedVariables false
set_option linter.unusedSimpArgs false
set_option maxRecDepth 20000
set_option maxHeartbeats 4000000
namespace Gv.Tryd
open Go Gv Go.Proofs
theorem all_ints (l : List Int) : (∀ x ∈ ints l, x.length = 1) = True := eq_true fun x hx => by obtain ⟨s, _, rfl⟩ := List.mem_map.1 hx; rfl
theorem ints_at (l : List Int) (i : Nat) (h : i < l.length) : (ints l).getD i [] = [.int .i64 (l.getD i 0)] := by simp [ints, List.getD, h]
end Gv.Tryd
/- Contracts: the reference's graph: find, Has, Parents. -/
set_option linter.unusedVariables false
set_option linter.unusedSimpArgs false
set_option maxRecDepth 20000
set_option maxHeartbeats 4000000
namespace Gv.Tryd
open Go Gv Go.Proofs
end Gv.Tryd
/- Less is said of a row that the call owns. -/
set_option linter.unusedVariables false
namespace Gv
open Go
end Gv
namespace Gv
open Go
end Gv
/- Contracts: taproothand's Request: some request, within bounds. -/
set_option linter.unusedVariables false
set_option linter.unusedSimpArgs false
set_option maxRecDepth 200000
set_option maxHeartbeats 8000000
namespace Gv.Tryd
open Go Gv Go.Proofs
abbrev RC := Int × Int × List Int
instance : Inhabited RC := ⟨(0, 0, [])⟩
structure RR where
  l : List RC
  hs : List Int
  g : Int
  how : Int
structure ReqOK (cs : List Cm) (hs : List Hs) : Prop where
  len : cs.length ≤ 72
  par : ∀ c ∈ cs, c.2.length ≤ 8
  hd : hs.length ≤ 5
end Gv.Tryd
/- A raw request among a caller's objects; a list of raw requests. -/
set_option linter.unusedVariables false
set_option linter.unusedSimpArgs false
set_option maxRecDepth 20000
set_option maxHeartbeats 8000000
namespace Gv.Tryd
open Go Gv Go.Proofs
instance : Inhabited RR := ⟨⟨[], [], 0, 0⟩⟩
end Gv.Tryd
/- maps.Keys of the graph's own map, as an iterator; Collect of it (printed by mkko.py out of KK, KL, KN); the graph's Hashes. -/
set_option linter.unusedVariables false
set_option linter.unusedSimpArgs false
set_option maxRecDepth 100000
set_option maxHeartbeats 4000000
namespace Gv.Tryd.L
open Go Gv Gv.Tryd Go.Proofs Go.RowKit Go.Maps Go.Sort Go.Shelf
theorem keys1 (F : Fence) (n : Nat) (h69 : F.fn 53) (hro : F.round = none) (hn : 1 ≤ n) (l Bm off b clock : Nat) (es : Array MapEntry) (hbo : BornOK es clock) (hks : ∀ e ∈ es.toList, ∃ h : HL, e.key = encH h) (J : List HL → World → Prop)
    (hY : ∀ pre x W, J pre W → pre.length < es.size → YieldAt F (n - 1) Tryd.prog l #[encH x] W fun e W' => e = .returned (.bool true) ∧ J (pre ++ [x]) W' ∧ KeepsWalks W W')
    (W : World) (hJ : AbidesFrom W.heap.size J)
    (hm : W.cell? ⟨Bm, off, none⟩ = some (.map (some b))) (hb : W.heap[b]? = some (.map es clock)) (h0 : J [] W) :
    CallsIn F n Tryd.prog 53 #[.func (.yield l) #[] #[], .pointer (some ⟨Bm, off, none⟩)] W fun e W' => (∃ v, e = .returned v) ∧ ∃ hs : List HL, (hs.map encH).Perm (es.toList.map MapEntry.key) ∧ J hs W' := by
  refine callsIn_of_wp Tryd.func53 rfl h69 ?_ hro
  simp only [Tryd.ntmps53, List.size_toArray, List.length_cons, List.length_nil, Nat.reduceAdd, Nat.reduceSub, Array.replicate_succ, Array.replicate_zero, List.push_toArray, List.append_toArray, List.nil_append, List.cons_append]
  gi_wp2_with (first
    | (gi_at_range; refine wpListIn_range_at _ rfl _ _ rfl _ _ Tryd.underlying62 b clock es rfl hb hbo ?_; intro w0 hrg0 hg0 hs0)
    | gi_in)
  go_frame
  gi_loopw [3] (fun _ wr => ∃ (seen : Array Nat) (xs : List MapEntry) (hs : List HL), WalkAt wr b W.heap.size es clock seen ∧ Came es seen xs ∧ hs.map encH = xs.map MapEntry.key ∧ J hs wr)
    (fun _ wr => wr.rangeLeft b W.heap.size)
  case atStart =>
    exact ⟨#[], [], [], hrg0, Came.nil es, rfl, hJ [] W w0 none h0 hg0 (fun r e => by cases e)⟩
  case round =>
    obtain ⟨seen, xs, hs, hrg, hC, hsx, hJs⟩ := hrel
    gi_wp2_with (first
      | (refine wpListIn_next_at _ rfl _ rfl b W.heap.size clock es hbo seen xs hC rfl hrg ?_ ?_)
      | gi_in)
    · -- NOTHING IS LEFT
      intro hp
      gi_wp2
      go_end0
      exact ⟨⟨_, rfl⟩, hs, by rw [hsx]; exact hp.map _, hJs⟩
    · -- AN ENTRY HAS COME: yield(k)
      intro e w2 hem hC2 hlt hrg2 hmu hg2 hs2 hen
      obtain ⟨x, ex⟩ := hks e (by simpa using hem)
      have hsx2 : (hs ++ [x]).map encH = (xs ++ [e]).map MapEntry.key := by rw [List.map_append, List.map_append, hsx]; simp [ex]
      have hlen : hs.length < es.size := by
        have := congrArg List.length hsx
        rw [List.length_map, List.length_map] at this
        omega
      rw [ex] at hen ⊢
      have hal := World.alloc_heap_new w2 (.cells zero32 40)
      have hst := store_h x.2 hal rfl
      obtain ⟨w3, hw3⟩ : ∃ w3, (w2.alloc (.cells zero32 40)).setRow w2.heap.size (bytesV x.1).toArray = w3 := ⟨_, rfl⟩
      rw [hw3] at hst
      have hx3 : w3.heap[w2.heap.size]? = some (.cells (bytesV x.1).toArray 40 (0, 0)) := by rw [← hw3]; exact setRow_heap _ _ _ _ _ _ hal
      have ho3 : ∀ k, k < w2.heap.size → w3.heap[k]? = w2.heap[k]? := fun k hk => by
        rw [← hw3, setRow_other _ _ _ _ (by omega)]
        exact Below.heap_alloc _ _ k hk
      have hs3 : w3.heap.size = w2.heap.size + 1 := by rw [← hw3]; simp
      have hk3 : KeepsWalks w2 w3 := ⟨by omega, fun k o hk ho => (ho3 k (Array.getElem?_eq_some_iff.1 hk).1).trans hk⟩
      have hg3 : w2.grownBy w3 none := ⟨by rw [← hw3]; rfl, by rw [← hw3]; rfl, by rw [← hw3]; rfl, by omega, fun k hk _ => ho3 k hk⟩
      have hlo := load_h x.2 hx3
      have hJ3 : J hs w3 := hJ hs w2 w3 none (hJ hs wr w2 (some W.heap.size) hJs hg2 (fun r e => by cases e; exact ⟨Nat.le_refl _, hrg.iter_walk⟩)) hg3 (fun r e => by cases e)
      have hrg3 := hrg2.of_walks hk3
      have hmu3 : w3.rangeLeft b W.heap.size < wr.rangeLeft b W.heap.size := by rw [hrg3.left_eq, ← hrg2.left_eq]; exact hmu
      obtain ⟨fn, tmps, assign, body, hy, hR⟩ := hY hs x w3 hJ3 hlen
      change (Instr.yield l #[encV x.1]).run Tryd.prog w3 = _ at hy
      clear hw3 hs2
      gi_wp2_with (first
        | (refine wpListIn_alloc rfl rfl (alloc_h _) ?_)
        | (refine wpListIn_store rfl rfl hst ?_)
        | (refine wpListIn_load rfl rfl hlo ?_)
        | gi_in)
      refine hR.mono ?_
      rintro e' W4 ⟨rfl, hJ4, hk4⟩
      gi_wp2
      have hrg4 := hrg3.of_walks hk4
      go_roundw
      case rel => exact ⟨_, xs ++ [e], hs ++ [x], hrg4, hC2, hsx2, hJ4⟩
      case measure => rw [hrg4.left_eq, ← hrg3.left_eq]; exact hmu3
theorem keysGives (F : Fence) (n : Nat) (h69 : F.fn 53) (hro : F.round = none) (hn : 1 ≤ n) (Bm off b clock : Nat) (es : Array MapEntry) (hbo : BornOK es clock) (hks : ∀ e ∈ es.toList, ∃ h : HL, e.key = encH h) (w : World) (hBm : Bm < w.heap.size)
    (hm : w.cell? ⟨Bm, off, none⟩ = some (.map (some b))) (hb : w.heap[b]? = some (.map es clock)) :
    SeqGives F n Tryd.prog 53 #[.pointer (some ⟨Bm, off, none⟩)] encH (fun hs : List HL => (hs.map encH).Perm (es.toList.map MapEntry.key)) es.size w := fun l J W hW hJ hY h0 =>
  keys1 F n h69 hro hn l Bm off b clock es hbo hks J hY W hJ ((hW.cell (p := ⟨Bm, off, none⟩) hBm).trans hm) ((hW.block b (Array.getElem?_eq_some_iff.1 hb).1).trans hb) h0
theorem gCollect {α : Type} (enc : α → GVal) (m : List (Hs × α)) (hm : m.length ≤ 1000000000) {O : List GObj} {o st oc stc : Nat} (hO : O[o]? = some (.map st (kvG enc m))) (hOc : O[oc]? = some (.row stc 1 [[.map o st]])) :
    GCalls Tryd.prog 30 [.func (.func 53) [] [.ptr oc stc 0 0]] O (fun g O' => ∃ l : List Hs, l.Perm (m.map (·.1)) ∧ g = .slice (hsG l) .none ∧ O' = O) := by
  refine ⟨by kernel_rfl, fun E w vs hs ha => ?_⟩
  obtain ⟨hsz, hat⟩ := ha
  match vs, hsz with
  | ⟨[v]⟩, _ =>
    have hv := hat 0 _ rfl
    change VR E v _ at hv
    cases hv with
    | func fn fs cs gs ks hf hk hfs hcs =>
      obtain ⟨fs⟩ := fs
      obtain ⟨cs⟩ := cs
      match fs, hf with
      | [], _ =>
        match cs, hk with
        | [c], _ =>
          have hc := hcs 0 _ rfl
          change VR E c (.ptr oc stc 0 0) at hc
          cases hc with
          | ptr b off _ _ _ _ lc hlc hbc hoff =>
            have hre := hs.real _ _ hOc
            obtain ⟨lc2, hlc2, hsz2, _, hre⟩ := hre
            rw [hlc] at hlc2; cases hlc2
            rw [hbc] at hre
            obtain ⟨cur, el, hcw, hcs, hct, hrows, _⟩ := hre
            obtain ⟨q, h1, _, h2⟩ := hrows 0 (.map o st) rfl
            have hoff2 : off = lc.off := by rw [hoff]; omega
            have hcell : w.cell? ⟨b, off, none⟩ = some q := by
              simp only [World.cell?, hcw, hoff2]
              simpa using h1
            have hBm : b < w.heap.size := (Array.getElem?_eq_some_iff.1 hcw).1
            cases h2 with
            | map r o st l hl hb =>
              obtain ⟨b2, es, clock, e, hw, hes, hent, hloc, hsn2, hbo⟩ := map_block hs (VR.map r o st l hl hb) hO
              cases e
              have hln : es.size = m.length := by
                have : es.toList.length = (kvG enc m).length := hes
                rw [Array.length_toList] at this
                rw [this, kvG, List.length_map]
              have hkey : es.toList.map MapEntry.key = (m.map (·.1)).map encH := by
                refine List.ext_getElem? fun i => ?_
                rw [List.getElem?_map, List.getElem?_map, List.getElem?_map]
                cases hi : m[i]? with
                | none =>
                  have : es.toList[i]? = none := by
                    rw [List.getElem?_eq_none_iff] at hi ⊢
                    rw [Array.length_toList]; omega
                  rw [this]; rfl
                | some p =>
                  have hlt := (List.getElem?_eq_some_iff.1 hi).1
                  have hi2 : i < es.toList.length := by rw [Array.length_toList]; omega
                  have he : es.toList[i]? = some (es.toList[i]) := List.getElem?_eq_getElem hi2
                  have := (hent i _ (.agg (bytesG p.1.1), enc p.2) he (by simp [kvG, hi])).1
                  rw [he]
                  exact congrArg some (vr_key this)
              have hks : ∀ e ∈ es.toList, ∃ h : HL, e.key = encH h := by
                intro e he
                have : e.key ∈ es.toList.map MapEntry.key := List.mem_map_of_mem he
                rw [hkey] at this
                obtain ⟨h, _, eh⟩ := List.mem_map.1 this
                exact ⟨h, eh.symm⟩
              have hseq := keysGives Fence.wide 3 trivial rfl (by omega) b off r clock es hbo hks w hBm hcell hw
              have hc := collect Fence.wide 5 trivial trivial rfl (by omega) 53 #[.pointer (some ⟨b, off, none⟩)] trivial (enters_of Tryd.func53 (by kernel_rfl) rfl) _ es.size (by rw [hln]; exact Nat.le_trans hm (by decide)) (by omega) w hseq
              refine (callsIn_wide.1 hc).mono ?_
              rintro e' w' ⟨v, ss, rfl, hS, hrow, hnil, hbel⟩
              have hperm : ss.Perm (m.map (·.1)) := perm_of_map (fun _ _ => encH_inj) (by rw [← hkey]; exact hS)
              rcases hrow.2 with ⟨rfl, hz⟩ | ⟨g, cap, cur, rfl, hbase, hgb, r1, r2, r3, r4⟩
              · have hss : ss = [] := List.eq_nil_of_length_eq_zero hz
                subst hss
                obtain ⟨p1, p2⟩ := hs.belowO hbel
                exact ⟨_, E, O, .slice [] .none, rfl, p1, p2, .slice none 0 0 [] .none 32 (fun _ => undef) rfl (Nat.le_refl _) (by simp) (by simp) (by simp) trivial, [], hperm, rfl, rfl⟩
              · have hcur : ∀ j, j < ss.length * 32 → cur[j]? = (bytesV (hsB ss))[j]? := by
                  intro j hj
                  rw [← cellsH_B, ← r4, List.getElem?_take_of_lt hj, Array.getElem?_toList]
                have hbl : (bytesV (hsB ss)).length = ss.length * 32 := by rw [← cellsH_B, cellsH_len]
                obtain ⟨p1, p2⟩ := hs.belowSeal hbel (n := ss.length * 32) hbase hgb (fun j v hj hv => by
                  rw [hcur j hj] at hv
                  exact bytesV_one _ v (List.mem_of_getElem? hv))
                refine ⟨_, _, O, .slice (hsG ss) .none, rfl, p1, p2, .slice _ _ _ _ _ 32 (fun j => (bytesV (hsB ss)).getD j undef) (by rw [hsG_len]) r1 (fun x hx => by obtain ⟨h, _, rfl⟩ := List.mem_map.1 hx; exact len32 h) (fun _ => ⟨g, 0, rfl, fun j hj => ?_⟩) (fun j gv hj => ?_) trivial, ss, hperm, rfl, rfl⟩
                · show (if g = g then (if 0 + j < ss.length * 32 then cur[0 + j]? else none) else E.snap g (0 + j)) = _
                  rw [if_pos rfl, Nat.zero_add, if_pos hj, hcur j hj, List.getD_eq_getElem?_getD]
                  cases hq2 : (bytesV (hsB ss))[j]? with
                  | none => rw [List.getElem?_eq_none_iff] at hq2; omega
                  | some x => rfl
                · rw [hsG_B, bytesG, List.getElem?_map] at hj
                  rw [List.getD_eq_getElem?_getD, bytesV, List.getElem?_map]
                  cases hq2 : (hsB ss)[j]? with
                  | none => rw [hq2] at hj; cases hj
                  | some x =>
                    rw [hq2] at hj
                    cases hj
                    exact .int _ _
theorem gKeys {α : Type} (enc : α → GVal) (m : List (Hs × α)) {st sa : Nat} : GCalls Tryd.prog 31 [.map 1 st] [.row sa 1 [[.map 1 st]], .map st (kvG enc m)] (fun g O' => ∃ stc, g = .func (.func 53) [] [.ptr 2 stc 0 0] ∧ O' = [.row sa 1 [[.map 1 st]], .map st (kvG enc m), .row stc 1 [[.map 1 st]]]) := by
  refine h31.calls mixS (by simp) ?_
  simp only [gstart, s31, List.cons_append, List.nil_append, List.length_cons, List.length_nil, Nat.reduceAdd, Nat.reduceSub, List.replicate_succ, List.replicate_zero]
  simp +contextual -implicitDefEqProofs (maxSteps := 2000000) (disch := omega) only [↓boxV, GVal.cells, grp, GVal.ofConst, ↓resV, resG, List.map, List.headD, List.take, List.drop, ↓reduceIte, Nat.reduceEqDiff, Nat.reduceAdd, Nat.reduceSub, Nat.reduceLeDiff, reduceCtorEq, implies_true, ne_eq, Tag.cap, List.replicate, allSolid, GVal.solid, Nat.reduceBEq, Nat.reduceMul, Nat.reduceLT, List.length_map, List.length_range, splice, vcA, ↓vcB, vcC, fbFu, e31]
  exact fun s => ⟨s, rfl, rfl⟩
theorem gHashes11 (m : GM) (hm : m.length ≤ 1000000000) (st s : Nat) : GCalls Tryd.prog 14 [.ptr 0 st 0 0] (gObj st s m) (fun g O' => g = .slice (hsG (sortR (m.map (·.1)))) .none ∧ O' = gObj st s m) := by
  refine GCalls.dropTo ?_
  refine h14.calls mixS (by simp) ?_
  simp only [gstart, s14, List.cons_append, List.nil_append, List.length_cons, List.length_nil, Nat.reduceAdd, Nat.reduceSub, List.replicate_succ, List.replicate_zero]
  simp +contextual -implicitDefEqProofs (maxSteps := 2000000) (disch := omega) only [optV, ↓loadV, ↓fieldAddrV, ↓sliceV, ↓nilV, bound, cutTag, hiTag, GVal.cells, grp, GVal.ofConst, ↓resV, resG, List.map, List.headD, List.take, List.drop, ↓reduceIte, Nat.reduceEqDiff, Nat.reduceAdd, Nat.reduceSub, Nat.reduceLeDiff, reduceCtorEq, implies_true, ne_eq, Tag.cap, List.replicate, allSolid, GVal.solid, Nat.reduceBEq, Nat.reduceMul, Nat.reduceLT, List.length_map, List.length_range, splice, vcA, ↓vcB, vcC, fbFu, e14]
  refine (gKeys encL m (sa := st)).mono ?_
  rintro g O' ⟨stc, rfl, rfl⟩
  simp +contextual -implicitDefEqProofs (maxSteps := 2000000) (disch := omega) only [optV, ↓loadV, ↓fieldAddrV, ↓sliceV, ↓nilV, bound, cutTag, hiTag, GVal.cells, grp, GVal.ofConst, ↓resV, resG, List.map, List.headD, List.take, List.drop, ↓reduceIte, Nat.reduceEqDiff, Nat.reduceAdd, Nat.reduceSub, Nat.reduceLeDiff, reduceCtorEq, implies_true, ne_eq, Tag.cap, List.replicate, allSolid, GVal.solid, Nat.reduceBEq, Nat.reduceMul, Nat.reduceLT, List.length_map, List.length_range, splice, vcA, ↓vcB, vcC, fbFu, e14]
  refine (gCollect encL m hm (O := [.row st 1 [[.map 1 s]], .map s (kvG encL m), .row stc 1 [[.map 1 s]]]) (o := 1) (oc := 2) rfl rfl).mono ?_
  rintro g O' ⟨l, hl, rfl, rfl⟩
  have hll : l.length = m.length := by rw [hl.length_eq, List.length_map]
  have cS := hSort l .none (by omega) (by simp)
  rw [sortR_perm hl] at cS
  simp +contextual -implicitDefEqProofs (maxSteps := 2000000) (disch := omega) only [optV, ↓loadV, ↓fieldAddrV, ↓sliceV, ↓nilV, bound, cutTag, hiTag, GVal.cells, grp, GVal.ofConst, ↓resV, resG, List.map, List.headD, List.take, List.drop, ↓reduceIte, Nat.reduceEqDiff, Nat.reduceAdd, Nat.reduceSub, Nat.reduceLeDiff, reduceCtorEq, implies_true, ne_eq, Tag.cap, List.replicate, allSolid, GVal.solid, Nat.reduceBEq, Nat.reduceMul, Nat.reduceLT, List.length_map, List.length_range, splice, vcA, ↓vcB, vcC, fbFu, e14]
  refine cS.then ?_ (by rfl)
  simp +contextual -implicitDefEqProofs (maxSteps := 2000000) (disch := omega) only [optV, ↓loadV, ↓fieldAddrV, ↓sliceV, ↓nilV, bound, cutTag, hiTag, GVal.cells, grp, GVal.ofConst, ↓resV, resG, List.map, List.headD, List.take, List.drop, ↓reduceIte, Nat.reduceEqDiff, Nat.reduceAdd, Nat.reduceSub, Nat.reduceLeDiff, reduceCtorEq, implies_true, ne_eq, Tag.cap, List.replicate, allSolid, GVal.solid, Nat.reduceBEq, Nat.reduceMul, Nat.reduceLT, List.length_map, List.length_range, splice, vcA, ↓vcB, vcC, fbFu, e14]
  exact ⟨_, gObj st s m, [.row stc 1 [[.map 1 s]]], rfl, leA_refl _, rfl, rfl⟩
end Gv.Tryd.L
/- Objects that are set aside for a while: a map whose entries are held one by one. -/
set_option linter.unusedVariables false
namespace Gv
open Go Go.MapKept Go.ChangeMaps
variable {P : Program}
structure Hid (E : Env) (O : List GObj) (w : World) (b : Nat) : Prop where
  obj : ¬ InO E O b
  snap : ∀ o, E.snap b o = none
  lt : b < w.heap.size
theorem Hid.keep {E E' : Env} {O O' : List GObj} {w w' : World} {b : Nat} (h : Hid E O w b) (k : Keep E O w E' O' w') : Hid E' O' w' b ∧ w'.heap[b]? = w.heap[b]? := by
  refine ⟨⟨fun hb => ?_, fun o => ?_, Nat.lt_of_lt_of_le h.lt k.size⟩, k.heap b h.lt h.obj⟩
  · rcases k.objs b hb with h1 | h1
    · exact h.obj h1
    · have := h.lt; omega
  · cases hv : E'.snap b o with
    | none => rfl
    | some v =>
      rcases k.snap b o v hv with h1 | h1 | h1
      · rw [h.snap] at h1; cases h1
      · have := h.lt; omega
      · exact absurd h1 h.obj
theorem HSim.grown {E : Env} {O : List GObj} {w w' : World} (h : HSim E O w) {row : Option Nat} (g : w.grownBy w' row) (hr : ∀ r, row = some r → ¬ InO E O r ∧ ∀ o, E.snap r o = none) : HSim E O w' := by
  have hne : ∀ b, InO E O b → some b ≠ row := fun b hb e => (hr b e.symm).1 hb
  refine ⟨h.fin, fun b o v hv => ?_, h.one, fun i obj ho => ?_, h.sep, h.glob⟩
  · have hb : some b ≠ row := fun e => by rw [(hr b e.symm).2 o] at hv; cases hv
    rw [Go.World.cell?_of_block (w := w) (w' := w') (a := ⟨b, o, none⟩) (g.block b (h.lt hv) hb)]
    exact h.sealed _ _ _ hv
  · refine (h.real i obj ho).keep (.refl E) (fun b hb => g.block b ((h.real i obj ho).blk_lt hb) (hne b ⟨i, obj, ho, hb⟩)) (fun b o v hb hv => ?_)
    exact hv
theorem Keep.grown {E0 E : Env} {O0 O : List GObj} {w0 w w' : World} (k : Keep E0 O0 w0 E O w) {row : Option Nat} (g : w.grownBy w' row) (hr : ∀ r, row = some r → w0.heap.size ≤ r) : Keep E0 O0 w0 E O w' :=
  ⟨k.ext, g.os.trans k.os, g.output.trans k.out, Nat.le_trans k.size g.size, fun b hb hn => (g.block b (Nat.lt_of_lt_of_le hb k.size) (fun e => by have := hr b e.symm; omega)).trans (k.heap b hb hn), k.snap, k.objs, trivial⟩
theorem Hid.grown {E : Env} {O : List GObj} {w w' : World} {b : Nat} {row : Option Nat} (h : Hid E O w b) (g : w.grownBy w' row) : Hid E O w' b := ⟨h.obj, h.snap, Nat.lt_of_lt_of_le h.lt g.size⟩
theorem HSim.hide {E : Env} {O : List GObj} {w : World} (h : HSim E O w) (i : Nat) (x : GObj) (hO : O[i]? = some x) (hx : x.isClock = false) : HSim E (O.set i .dead) w ∧ Keep E O w E (O.set i .dead) w := by
  have split : ∀ (j : Nat) y, (O.set i .dead)[j]? = some y → (j = i ∧ y = .dead) ∨ O[j]? = some y := by
    intro j y hy
    rw [List.getElem?_set] at hy
    by_cases e : i = j
    · rw [if_pos e] at hy
      split at hy
      · exact .inl ⟨e.symm, (Option.some.inj hy).symm⟩
      · cases hy
    · rw [if_neg e] at hy; exact .inr hy
  have hc : clockOf (O.set i .dead) = clockOf O := by
    match O, i with
    | [], _ => rfl
    | y :: r, 0 => simp at hO; subst hO; cases y <;> first | rfl | cases hx
    | y :: r, k + 1 => cases y <;> rfl
  refine ⟨⟨by unfold Fin'; rw [hc]; exact h.fin, h.sealed, h.one, fun j y hy => ?_, fun j k oj ok b hjk hj hk hbj hbk => ?_, h.glob⟩, ⟨.refl E, rfl, rfl, Nat.le_refl _, fun _ _ _ => rfl, fun _ _ _ h => .inl h, fun b ⟨j, y, hy, hb⟩ => ?_, trivial⟩⟩
  · rcases split j y hy with ⟨_, rfl⟩ | h1
    · trivial
    · exact h.real j y h1
  · rcases split j oj hj with ⟨_, rfl⟩ | h1
    · cases hbj
    · rcases split k ok hk with ⟨_, rfl⟩ | h2
      · cases hbk
      · exact h.sep j k oj ok b hjk h1 h2 hbj hbk
  · rcases split j y hy with ⟨_, rfl⟩ | h1
    · cases hb
    · exact .inl ⟨j, y, h1, hb⟩
structure MapAt (E : Env) (w : World) (b : Nat) (es : Array MapEntry) (clock : Nat) (kv : List (GVal × GVal)) : Prop where
  at_ : w.heap[b]? = some (.map es clock)
  size : es.size = kv.length
  ent : ∀ (i : Nat) e p, es[i]? = some e → kv[i]? = some p → EntryOK E e p
  born : BornOK es clock
theorem MapAt.ext {E E' : Env} {w w' : World} {b : Nat} {es : Array MapEntry} {clock : Nat} {kv : List (GVal × GVal)} (h : MapAt E w b es clock kv) (hE : E.le E') (hw : w'.heap[b]? = w.heap[b]?) : MapAt E' w' b es clock kv :=
  ⟨hw.trans h.at_, h.size, fun i e p he hp => ⟨(h.ent i e p he hp).1.mono hE, (h.ent i e p he hp).2.mono hE⟩, h.born⟩
theorem HSim.hideMap {E : Env} {O : List GObj} {w : World} (h : HSim E O w) {i st : Nat} {kv : List (GVal × GVal)} (hO : O[i]? = some (.map st kv)) :
    ∃ l b es clock, E.loc st = some l ∧ l.block = some b ∧ MapAt E w b es clock kv ∧ HSim E (O.set i .dead) w ∧ Keep E O w E (O.set i .dead) w ∧ Hid E (O.set i .dead) w b ∧ InO E O b := by
  obtain ⟨l, b, es, clock, hl, hb, hw, hs, he, hbo, hsn⟩ := h.real i _ hO
  obtain ⟨h1, h2⟩ := h.hide i _ hO rfl
  refine ⟨l, b, es, clock, hl, hb, ⟨hw, hs, he, hbo⟩, h1, h2, ⟨fun hi => ?_, hsn, (Array.getElem?_eq_some_iff.1 hw).1⟩, ⟨i, _, hO, by simp [GObj.blk, hl, hb]⟩⟩
  obtain ⟨j, y, hy, hyb⟩ := hi
  rw [List.getElem?_set] at hy
  by_cases e : i = j
  · rw [if_pos e] at hy
    split at hy
    · cases hy; cases hyb
    · cases hy
  · rw [if_neg e] at hy
    exact h.sep i j _ _ b e hO hy (by simp [GObj.blk, hl, hb]) hyb
theorem HSim.showMap {E : Env} {O : List GObj} {w : World} (h : HSim E O w) {i st b clock : Nat} {l : GLoc} {es : Array MapEntry} {kv : List (GVal × GVal)} (hO : O[i]? = some .dead) (hl : E.loc st = some l) (hb : l.block = some b)
    (hm : MapAt E w b es clock kv) (hh : Hid E O w b) : HSim E (O.set i (.map st kv)) w ∧ ∀ E0 O0 w0, Keep E0 O0 w0 E O w → (InO E0 O0 b ∨ w0.heap.size ≤ b) → Keep E0 O0 w0 E (O.set i (.map st kv)) w := by
  have hblk : (GObj.map st kv).blk E = some b := by simp [GObj.blk, hl, hb]
  have split : ∀ (j : Nat) y, (O.set i (.map st kv))[j]? = some y → (j = i ∧ y = .map st kv) ∨ (j ≠ i ∧ O[j]? = some y) := by
    intro j y hy
    rw [List.getElem?_set] at hy
    by_cases e : i = j
    · rw [if_pos e] at hy
      split at hy
      · exact .inl ⟨e.symm, (Option.some.inj hy).symm⟩
      · cases hy
    · rw [if_neg e] at hy; exact .inr ⟨fun q => e q.symm, hy⟩
  have hc : clockOf (O.set i (.map st kv)) = clockOf O := by
    match O, i with
    | [], _ => rfl
    | y :: r, 0 => simp at hO; subst hO; rfl
    | y :: r, k + 1 => cases y <;> rfl
  refine ⟨⟨by unfold Fin'; rw [hc]; exact h.fin, h.sealed, h.one, fun j y hy => ?_, fun j k oj ok b' hjk hj hk hbj hbk => ?_, h.glob⟩, fun E0 O0 w0 K hbn => ⟨K.ext, K.os, K.out, K.size, K.heap, K.snap, fun b' ⟨j, y, hy, hyb⟩ => ?_, trivial⟩⟩
  · rcases split j y hy with ⟨_, rfl⟩ | ⟨_, h1⟩
    · exact ⟨l, b, es, clock, hl, hb, hm.at_, hm.size, hm.ent, hm.born, hh.snap⟩
    · exact h.real j y h1
  · rcases split j oj hj with ⟨e1, rfl⟩ | ⟨e1, h1⟩
    · rcases split k ok hk with ⟨e2, rfl⟩ | ⟨e2, h2⟩
      · exact hjk (e1.trans e2.symm)
      · rw [hblk] at hbj; cases hbj
        exact hh.obj ⟨k, ok, h2, hbk⟩
    · rcases split k ok hk with ⟨e2, rfl⟩ | ⟨e2, h2⟩
      · rw [hblk] at hbk; cases hbk
        exact hh.obj ⟨j, oj, h1, hbj⟩
      · exact h.sep j k oj ok b' hjk h1 h2 hbj hbk
  · rcases split j y hy with ⟨_, rfl⟩ | ⟨_, h1⟩
    · rw [hblk] at hyb; cases hyb; exact hbn
    · exact K.objs b' ⟨j, y, h1, hyb⟩
end Gv
/- `m[k] = f(m[k])`: a map's entry found, and written later. -/
set_option linter.unusedVariables false
namespace Gv
open Go Go.MapKept Go.ChangeMaps
variable {P : Program} {E : Env} {O : List GObj} {w : World}
theorem bornIdx : ∀ {es : List MapEntry} {i : Nat} {e : MapEntry}, es.Pairwise (fun x y => x.born ≠ y.born) → es[i]? = some e → es.findIdx? (fun x => ((x.born : Nat) : Int) == ((e.born : Nat) : Int)) = some i
  | [], i, e, _, h => by cases h
  | a :: r, 0, e, _, h => by cases h; simp [List.findIdx?_cons]
  | a :: r, i + 1, e, hp, h => by
    have h1 : r[i]? = some e := by simpa using h
    have h2 := (List.pairwise_cons.1 hp).1 e (List.mem_of_getElem? h1)
    have h3 : (((a.born : Nat) : Int) == ((e.born : Nat) : Int)) = false := by rw [beq_eq_false_iff_ne]; omega
    rw [List.findIdx?_cons, h3, bornIdx (List.pairwise_cons.1 hp).2 h1]
    rfl
theorem bornIdxA {es : Array MapEntry} {clock i : Nat} {e : MapEntry} (h : BornOK es clock) (hi : es.toList[i]? = some e) : es.findIdx? (fun x => ((x.born : Nat) : Int) == ((e.born : Nat) : Int)) = some i := by
  have : es.findIdx? (fun x => ((x.born : Nat) : Int) == ((e.born : Nat) : Int)) = es.toList.findIdx? (fun x => ((x.born : Nat) : Int) == ((e.born : Nat) : Int)) := by cases es; simp
  rw [this]; exact bornIdx h.2 hi
def oldAt (kv : List (GVal × GVal)) (z : GVal) : Option Nat → GVal
  | some i => match kv[i]? with
    | some p => p.2
    | none => .any
  | none => z
def putAt (kv : List (GVal × GVal)) (x v : GVal) : Option Nat → List (GVal × GVal)
  | some i => kv.set i (x, v)
  | none => kv ++ [(x, v)]
theorem grown_set {w : World} {b : Nat} {es : Array MapEntry} {clock : Nat} (hw : w.heap[b]? = some (.map es clock)) (es' : Array MapEntry) (clock' : Nat) :
    w.grownBy { w with heap := w.heap.setIfInBounds b (.map es' clock') } (some b) ∧ { w with heap := w.heap.setIfInBounds b (.map es' clock') }.heap[b]? = some (.map es' clock') ∧ { w with heap := w.heap.setIfInBounds b (.map es' clock') }.heap.size = w.heap.size := by
  have hlt := (Array.getElem?_eq_some_iff.1 hw).1
  refine ⟨⟨rfl, rfl, rfl, by simp, fun k _ hk => ?_⟩, ?_, by simp⟩
  · show (w.heap.setIfInBounds b _)[k]? = _
    rw [Array.getElem?_setIfInBounds, if_neg (fun e => hk (by rw [e]))]
  · show (w.heap.setIfInBounds b _)[b]? = _
    rw [Array.getElem?_setIfInBounds, if_pos rfl, if_pos hlt]
theorem mapEntry_hid {t : TypeId} {k : KT} {et : TypeId} {z x : GVal} {rx : Value} {r : Option Nat} {b clock : Nat} {es : Array MapEntry} {kv : List (GVal × GVal)} (hkt : keyT P t = some (k, et)) (hz : zeroG P et = some z) (hko : keyOk k x) (hx : VR E rx x)
    (hm : MapAt E w b es clock kv) (hr : kfind k x kv = some r) :
    ∃ (rv0 : Value) (stamp : Nat) (es1 : Array MapEntry) (clock1 : Nat) (w1 : World), (Instr.mapEntry t (.map (some b)) rx).run P w = .ok (.tuple #[rv0, goInt stamp]) w1 ∧ w.grownBy w1 (some b) ∧ w1.heap[b]? = some (.map es1 clock1) ∧ VR E rv0 (oldAt kv z r) ∧
      ∀ (E2 : Env) (w2 : World) (rv : Value) (gv : GVal), E.le E2 → w2.heap[b]? = some (.map es1 clock1) → VR E2 rv gv →
        ∃ (w3 : World) (es3 : Array MapEntry) (clock3 : Nat), (Instr.entryStore t (.map (some b)) (goInt stamp) rv).run P w2 = .ok () w3 ∧ w2.grownBy w3 (some b) ∧ MapAt E2 w3 b es3 clock3 (putAt kv x gv r) := by
  obtain ⟨kt, hu, hf, ht, hn⟩ := keyT_spec hkt
  have hchk : ∀ em, (Instr.checkKey em 10000 kt rx).run P w = .ok () w := fun em => by
    unfold keyOk at hko
    split at hko
    · rename_i cs hcs; exact checkKey_run hf ht hx hcs hko
    · exact hko.elim
  obtain ⟨hw, hl, he, hbo⟩ := hm
  have hl' : es.toList.length = kv.length := by simpa using hl
  have he' : ∀ (i : Nat) e p, es.toList[i]? = some e → kv[i]? = some p → EntryOK E e p := fun i e p h1 h2 => he i e p (by simpa using h1) h2
  have hfk := findKey_run (P := P) (w := w) hf ht hn hx hl' he' hr
  cases r with
  | some i =>
    obtain ⟨p, hp, hpe⟩ := kfind_eq hr
    have hlt : i < es.toList.length := by rw [hl']; exact (List.getElem?_eq_some_iff.1 hp).1
    have hei : es.toList[i]? = some (es.toList[i]) := List.getElem?_eq_getElem hlt
    obtain ⟨e, ee⟩ : ∃ e, es.toList[i] = e := ⟨_, rfl⟩
    rw [ee] at hei
    have hkey : (Instr.keyThatStays e.key rx).run P w = .ok rx w := by
      have h2 := (he' i _ p hei hp).1
      have h3 := keyEq_rigid hn hx h2 hpe
      have h4 : Instr.sameBits 10000 e.key rx = true := by
        have := sameBits_key hn hx h2 hpe
        rw [← h3] at this ⊢; exact this
      unfold Instr.keyThatStays
      rw [if_pos h4]; simp
    have hei' : es[i]? = some e := by simpa using hei
    obtain ⟨g1, g2, _⟩ := grown_set hw (es.modify i fun e => { e with key := rx }) clock
    have hb1 : BornOK (es.modify i fun e => { e with key := rx }) clock := hbo.modify i _ fun _ => rfl
    refine ⟨e.val, e.born, _, _, _, ?_, g1, g2, ?_, ?_⟩
    · unfold Instr.mapEntry
      simp only [Sem.run_bind, run_underlying hu, Result.andThen_ok, getMap hw, hchk, hfk, At, hei, Nat.zero_add, hei', Option.map_some, Option.getD_some, hkey]
      rw [setMap _ hw]
      rfl
    · simp only [oldAt, hp]
      exact (he' i _ p hei hp).2
    · intro E2 w2 rv gv hE hw2 hrv
      obtain ⟨g3, g4, _⟩ := grown_set hw2 ((es.modify i fun e => { e with key := rx }).modify i fun e => { e with val := rv }) clock
      have hidx : (es.modify i fun e => { e with key := rx }).findIdx? (fun e' => ((e'.born : Nat) : Int) == ((e.born : Nat) : Int)) = some i := by
        refine bornIdxA (e := { e with key := rx }) hb1 ?_
        rw [Array.getElem?_toList, Array.getElem?_modify, if_pos rfl, hei']
        rfl
      refine ⟨_, _, _, ?_, g3, g4, by simpa [putAt] using hl, fun j e' p' he2 hp' => ?_, hb1.modify i _ fun _ => rfl⟩
      · simp [Instr.entryStore, MapKept.run_getObj_map hw2, asInt, asIntOf, goInt, hidx, MapKept.run_setObj_map _ hw2, Result.andThen]
      · simp only [putAt] at hp'
        rw [Array.getElem?_modify] at he2
        rw [List.getElem?_set] at hp'
        by_cases hij : i = j
        · subst hij
          rw [if_pos rfl, Array.getElem?_modify, if_pos rfl, hei'] at he2
          simp only [Option.map_some, Option.some.injEq] at he2
          rw [if_pos rfl, if_pos (by rw [← hl']; exact hlt)] at hp'
          simp only [Option.some.injEq] at hp'
          subst he2; subst hp'
          exact ⟨hx.mono hE, hrv⟩
        · rw [if_neg hij] at he2 hp'
          rw [Array.getElem?_modify, if_neg hij] at he2
          exact ⟨(he j e' p' he2 hp').1.mono hE, (he j e' p' he2 hp').2.mono hE⟩
  | none =>
    obtain ⟨v0, hv0, hvz⟩ := zeroG_run hz w E
    have hv0' : ∀ u : World, (zeroValue et).run P u = .ok v0 u → True := fun _ _ => trivial
    obtain ⟨g1, g2, _⟩ := grown_set hw (es.push { key := rx, val := v0, born := clock }) (clock + 1)
    have hb1 : BornOK (es.push { key := rx, val := v0, born := clock }) (clock + 1) := hbo.push _ rfl
    refine ⟨v0, clock, _, _, _, ?_, g1, g2, hvz, ?_⟩
    · unfold Instr.mapEntry
      simp only [Sem.run_bind, run_underlying hu, Result.andThen_ok, getMap hw, hchk, hfk, At, hv0]
      rw [setMap _ hw]
      rfl
    · intro E2 w2 rv gv hE hw2 hrv
      obtain ⟨g3, g4, _⟩ := grown_set hw2 ((es.push { key := rx, val := v0, born := clock }).modify es.size fun e => { e with val := rv }) (clock + 1)
      have hidx : (es.push { key := rx, val := v0, born := clock }).findIdx? (fun e' => ((e'.born : Nat) : Int) == ((clock : Nat) : Int)) = some es.size := by
        exact bornIdxA (e := { key := rx, val := v0, born := clock }) hb1 (by simp)
      refine ⟨_, _, _, ?_, g3, g4, by simpa [putAt] using hl, fun j e' p' he2 hp' => ?_, hb1.modify _ _ fun _ => rfl⟩
      · simp [Instr.entryStore, MapKept.run_getObj_map hw2, asInt, asIntOf, goInt, hidx, MapKept.run_setObj_map _ hw2, Result.andThen]
      · simp only [putAt] at hp'
        rw [Array.getElem?_modify, Array.getElem?_push] at he2
        by_cases hj : j = es.size
        · subst hj
          rw [if_pos rfl, if_pos rfl] at he2
          simp only [Option.map_some, Option.some.injEq] at he2
          rw [List.getElem?_append_right (by omega)] at hp'
          rw [show es.size - kv.length = 0 by omega] at hp'
          simp at hp'
          subst he2; subst hp'
          exact ⟨hx.mono hE, hrv⟩
        · rw [if_neg (fun e => hj e.symm), if_neg hj] at he2
          have hjlt := (Array.getElem?_eq_some_iff.1 he2).1
          rw [List.getElem?_append_left (by omega)] at hp'
          exact ⟨(he j e' p' he2 hp').1.mono hE, (he j e' p' he2 hp').2.mono hE⟩
end Gv
