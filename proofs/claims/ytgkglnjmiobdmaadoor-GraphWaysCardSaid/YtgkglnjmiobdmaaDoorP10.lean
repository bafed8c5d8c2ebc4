/- Contracts: graph's round, joinedBy, Add, New. -/
import Derived.Test.YtgkglnjmiobdmaaDoorP9
import Derived.Test.YtgkglnjmiobdmaaDoorP6
import Derived.KernelRfl
import Derived.Test.YtgkglnjmiobdmaaDoorP8
import Derived.Test.YtgkglnjmiobdmaaDoorP5
set_option linter.unusedVariables false
set_option linter.unusedSimpArgs false
set_option maxRecDepth 20000
set_option maxHeartbeats 4000000
namespace Gv.Tryd
open Go Gv Go.Proofs
theorem parsM_some {m : GM} {h : Hs} {l : List Hs} (e : look m h = some l) : parsM m h = l := by rw [parsM, e]; rfl
theorem parsM_none {m : GM} {h : Hs} (e : look m h = none) : parsM m h = [] := by rw [parsM, e]; rfl
theorem gRound1 (a : GObj) (M : GM) (h : Hs) (s : Nat) (l : List Hs) (el : look M h = some l) : GCalls Tryd.prog 65 [.agg (bytesG h.1), .ref [.map 1 s]] [a, .map s (kvG encL M)] (fun g O' => g = .slice (hsG l) .none ∧ O' = [a, .map s (kvG encL M)]) := by
  obtain ⟨i, hi, hv, _⟩ := look_idx encL M h l el
  refine h65.calls mixS (by simp) ?_
  simp only [gstart, s65, List.cons_append, List.nil_append, List.length_cons, List.length_nil, Nat.reduceAdd, Nat.reduceSub, List.replicate_succ, List.replicate_zero]
  simp +contextual -implicitDefEqProofs (maxSteps := 2000000) (disch := omega) only [optV, ↓loadV, ↓boxV, ↓sliceV, bound, cutTag, hiTag, GVal.cells, grp, GVal.ofConst, ↓resV, resG, List.map, List.headD, List.take, List.drop, ↓reduceIte, Nat.reduceEqDiff, Nat.reduceAdd, Nat.reduceSub, Nat.reduceLeDiff, reduceCtorEq, implies_true, ne_eq, ↓lookupV, keyOk, keyCells, pairG, Tag.cap, List.replicate, allSolid, GVal.solid, Nat.reduceBEq, Nat.reduceMul, Nat.reduceLT, List.length_map, List.length_range, splice, vcA, ↓vcB, vcC, fbFu, e65, kfind_h, hi, hv, solidH, len32, take32]
theorem gRound0 (a : GObj) (M : GM) (h : Hs) (s : Nat) (el : look M h = none) : GCalls Tryd.prog 65 [.agg (bytesG h.1), .ref [.map 1 s]] [a, .map s (kvG encL M)] (fun g O' => g = .slice [] .nil ∧ O' = [a, .map s (kvG encL M)]) := by
  obtain ⟨hi, _⟩ := look_none encL M h el
  refine h65.calls mixS (by simp) ?_
  simp only [gstart, s65, List.cons_append, List.nil_append, List.length_cons, List.length_nil, Nat.reduceAdd, Nat.reduceSub, List.replicate_succ, List.replicate_zero]
  simp +contextual -implicitDefEqProofs (maxSteps := 2000000) (disch := omega) only [optV, ↓loadV, ↓boxV, ↓sliceV, bound, cutTag, hiTag, GVal.cells, grp, GVal.ofConst, ↓resV, resG, List.map, List.headD, List.take, List.drop, ↓reduceIte, Nat.reduceEqDiff, Nat.reduceAdd, Nat.reduceSub, Nat.reduceLeDiff, reduceCtorEq, implies_true, ne_eq, ↓lookupV, keyOk, keyCells, pairG, Tag.cap, List.replicate, allSolid, GVal.solid, Nat.reduceBEq, Nat.reduceMul, Nat.reduceLT, List.length_map, List.length_range, splice, vcA, ↓vcB, vcC, fbFu, e65, kfind_h, hi, solidH, len32, take32]
theorem gRoundN (a : GObj) (M : GM) (h : Hs) (s : Nat) : GCalls Tryd.prog 65 [.agg (bytesG h.1), .ref [.map 1 s]] [a, .map s (kvG encL M)] (fun g O' => g = .slice (hsG (parsM M h)) .none ∧ O' = [a, .map s (kvG encL M)]) := by
  cases el : look M h with
  | some l => rw [parsM_some el]; exact gRound1 a M h s l el
  | none =>
    rw [parsM_none el]
    refine GCalls.into ((gRound0 a M h s el).mono ?_)
    rintro g O' ⟨rfl, rfl⟩
    exact GInto.weak (O := [a, .map s (kvG encL M)]) (X := []) (by rw [leG_none]; rfl) (.here ⟨rfl, rfl⟩)
noncomputable def roundE (m M : GM) (c : Cm) : Er := by
  classical exact if (look m c.1).isSome then none else if Reach (parsM M) c.2 c.1 then some (some c.1, 12) else none
def hashesM (M : GM) : List Hs := M.map (·.1) ++ M.flatMap (·.2)
theorem parsM_mem {M : GM} {x y : Hs} (h : y ∈ parsM M x) : ∃ p ∈ M, p.1 = x ∧ y ∈ p.2 := by
  induction M with
  | nil => cases h
  | cons p r ih =>
    unfold parsM at h
    rw [look] at h
    by_cases e : x = p.1
    · rw [if_pos e] at h
      exact ⟨p, by simp, e.symm, h⟩
    · rw [if_neg e] at h
      obtain ⟨q, h1, h2, h3⟩ := ih h
      exact ⟨q, by simp [h1], h2, h3⟩
theorem look_mem {M : GM} {x : Hs} {l : List Hs} (h : look M x = some l) : (x, l) ∈ M := by
  induction M with
  | nil => cases h
  | cons p r ih =>
    rw [look] at h
    by_cases e : x = p.1
    · rw [if_pos e] at h
      cases h
      rw [e]; simp
    · rw [if_neg e] at h
      simp [ih h]
structure GMOK (M : GM) : Prop where
  len : M.length ≤ 10000
  row : ∀ p ∈ M, p.2.length ≤ 4
theorem GMOK.pars {M : GM} (h : GMOK M) (x : Hs) : (parsM M x).length ≤ 4 := by
  cases e : look M x with
  | some l => rw [parsM_some e]; exact h.row _ (look_mem e)
  | none => rw [parsM_none e]; simp
theorem GMOK.hashes {M : GM} (h : GMOK M) : (hashesM M).length ≤ 50000 := by
  have : ∀ M : GM, (∀ p ∈ M, p.2.length ≤ 4) → (hashesM M).length ≤ 5 * M.length := by
    intro M
    induction M with
    | nil => intro _; simp [hashesM]
    | cons p r ih =>
      intro h
      have := ih fun q hq => h q (by simp [hq])
      have := h p (by simp)
      simp only [hashesM, List.map_cons, List.flatMap_cons, List.length_append, List.length_cons] at *
      omega
  have := this M h.row
  have := h.len
  omega
theorem pars_in {M : GM} {x y : Hs} (h : y ∈ parsM M x) : y ∈ hashesM M := by
  obtain ⟨p, h1, _, h3⟩ := parsM_mem h
  exact List.mem_append_right _ (List.mem_flatMap.2 ⟨p, h1, h3⟩)
theorem gReachedM (M : GM) (hM : GMOK M) (l : List Hs) (t : Tag) (ht : t = .nil → l = []) (hl : l.length ≤ 10000) {O : List GObj} {i j : Nat} {a : GObj} {s : Nat} (hi : O[i]? = some a) (hj : O[j]? = some (.map s (kvG encL M))) (hij : i ≠ j) (hca : a.isClock = false) (hc : clockOf O = none) :
    GCalls Tryd.prog 35 [.slice (hsG l) t, .func (.func 65) [] [.ref [.map j s]]] O (fun g O' => ∃ st kv, g = .map O.length st ∧ O' = O ++ [.map st kv] ∧ ∃ S : List Hs, kv = kvG encB (setM S) ∧ S.Nodup ∧ (∀ x, x ∈ S ↔ Reach (parsM M) l x)) := by
  have h := gReached (caps := [.ref [.map 1 s]]) (parsM M) (fun h => gRoundN a M h s) hca l t ht (l ++ hashesM M) (fun x hx => List.mem_append_left _ hx) (fun x _ y hy => List.mem_append_right _ (pars_in hy)) 4 (fun x _ => hM.pars x) (by have := hM.hashes; rw [List.length_append]; omega) (by omega) (by omega)
  refine GCalls.on2new (R := fun st kv => ∃ S : List Hs, kv = kvG encB (setM S) ∧ S.Nodup ∧ (∀ x, x ∈ S ↔ Reach (parsM M) l x)) (h.mono ?_) i j hij hi hj ⟨GLe.refl _, GLe.func _ trivial ⟨GLe.ref ⟨GLe.map _ _ _, trivial⟩, trivial⟩, trivial⟩ hca hc
  rintro g O' ⟨st, S, rfl, rfl, h1, h2, _⟩
  exact ⟨st, _, rfl, rfl, S, rfl, h1, h2⟩
noncomputable def roundP (m M : GM) (cs : List Cm) : Er := cs.findSome? (roundE m M)
theorem gRound (m M : GM) (cs : List Cm) (tc : Tag) (st s s2 : Nat) (hM : GMOK M) (hc : cs.length ≤ 1000000) (hp : ∀ c ∈ cs, c.2.length ≤ 10000) :
    GCalls Tryd.prog 47 [.ptr 0 st 0 0, .map 2 s2, .slice (csG cs) tc] (gObj st s m ++ [.map s2 (kvG encL M)]) (fun g O' => g = errV (roundP m M cs) ∧ O' = gObj st s m ++ [.map s2 (kvG encL M)]) := by
  refine GCalls.dropTo ?_
  refine h47.calls mixS (by simp) ?_
  simp only [gstart, s47, List.cons_append, List.nil_append, List.length_cons, List.length_nil, Nat.reduceAdd, Nat.reduceSub, List.replicate_succ, List.replicate_zero]
  simp +contextual -implicitDefEqProofs (maxSteps := 2000000) (disch := omega) only [drawC, drawK, keepT, ↓lenV, binV, ↓loadV, ↓storeV, ↓fieldAddrV, ↓indexAddrV, ↓allocV, ↓boxV, ↓nilV, ↓ifaceV, GVal.cells, grp, GVal.ofConst, ↓resV, resG, List.map, List.headD, List.take, List.drop, ↓reduceIte, Nat.reduceEqDiff, Nat.reduceAdd, Nat.reduceSub, Nat.reduceLeDiff, reduceCtorEq, implies_true, ne_eq, ↓lookupV, keyOk, keyCells, pairG, Tag.cap, List.replicate, allSolid, GVal.solid, Nat.reduceBEq, Nat.reduceMul, Nat.reduceLT, List.length_map, List.length_range, splice, vcA, ↓vcB, vcC, fbFu, e47, csG_len]
  refine vcSLoop_by (ι := { k : Nat // k ≤ cs.length ∧ cs.findSome? (roundE m M) = (cs.drop k).findSome? (roundE m M) }) (fun k => ⟨[.ptr 0 st 0 0, .any, .any, .any, .ref [.map 2 s2]] ++ List.replicate 6 .any ++ [.slice (csG cs) tc, .int .i64 cs.length, .int .i64 (k.1 : Nat)] ++ List.replicate 26 .any, [.row st 1 [[.map 1 s]], .map s (kvG encL m), .map s2 (kvG encL M)]⟩) (fun k => cs.length - k.1) ?_ ?_
  · exact Into.first ⟨0, by omega, by simp⟩ ⟨[], by simp⟩ (by simp [WL, leG_self, leG_any, leG_int])
  · rintro ⟨k, hk, hf⟩
    by_cases h : k < cs.length
    · have d0 : ((k : Int) < (cs.length : Int)) = True := eq_true (by omega)
      have eS := csG_at cs k h
      have hx := hp _ (memC h)
      rw [findC h] at hf
      generalize cs.getD k default = x at *
      obtain ⟨xh, xp⟩ := x
      change xp.length ≤ 10000 at hx
      cases el : look m xh with
      | some l =>
        obtain ⟨i, hi, hv, _⟩ := look_idx encL m xh l el
        have en : roundE m M (xh, xp) = none := by unfold roundE; rw [el]; simp
        rw [en] at hf
        simp +contextual -implicitDefEqProofs (maxSteps := 2000000) (disch := omega) only [drawC, drawK, keepT, ↓lenV, binV, ↓loadV, ↓storeV, ↓fieldAddrV, ↓indexAddrV, ↓allocV, ↓boxV, ↓nilV, ↓ifaceV, GVal.cells, grp, GVal.ofConst, ↓resV, resG, List.map, List.headD, List.take, List.drop, ↓reduceIte, Nat.reduceEqDiff, Nat.reduceAdd, Nat.reduceSub, Nat.reduceLeDiff, reduceCtorEq, implies_true, ne_eq, ↓lookupV, keyOk, keyCells, pairG, Tag.cap, List.replicate, allSolid, GVal.solid, Nat.reduceBEq, Nat.reduceMul, Nat.reduceLT, List.length_map, List.length_range, splice, vcA, ↓vcB, vcC, fbFu, e47, csG_len, hsG_len, comG, take32a, drop32a, drop33a, take33a, len33, solid33, solidH, len32, take32, kfind_h, d0, eS, hi, hv]
        refine ⟨by omega, fun u => ?_⟩
        exact Into.at ⟨k + 1, by omega, hf⟩ (by show _ < _; simp; omega) ⟨_, rfl⟩ (by simp [WL, leG_self, leG_any, leG_int])
      | none =>
        obtain ⟨hi, _⟩ := look_none encL m xh el
        simp +contextual -implicitDefEqProofs (maxSteps := 2000000) (disch := omega) only [drawC, drawK, keepT, ↓lenV, binV, ↓loadV, ↓storeV, ↓fieldAddrV, ↓indexAddrV, ↓allocV, ↓boxV, ↓nilV, ↓ifaceV, GVal.cells, grp, GVal.ofConst, ↓resV, resG, List.map, List.headD, List.take, List.drop, ↓reduceIte, Nat.reduceEqDiff, Nat.reduceAdd, Nat.reduceSub, Nat.reduceLeDiff, reduceCtorEq, implies_true, ne_eq, ↓lookupV, keyOk, keyCells, pairG, Tag.cap, List.replicate, allSolid, GVal.solid, Nat.reduceBEq, Nat.reduceMul, Nat.reduceLT, List.length_map, List.length_range, splice, vcA, ↓vcB, vcC, fbFu, e47, csG_len, hsG_len, comG, take32a, drop32a, drop33a, take33a, len33, solid33, solidH, len32, take32, kfind_h, d0, eS, hi]
        refine ⟨by omega, fun u => ?_⟩
        refine (gReachedM M hM xp .none (by simp) hx (i := 1) (j := 2) rfl rfl (by simp) rfl rfl).mono ?_
        rintro g O' ⟨sr, kv, rfl, rfl, S, rfl, hS, hR⟩
        by_cases hm : xh ∈ S
        · obtain ⟨i2, hi2, hv2, _⟩ := look_idx encB (setM S) xh true (by rw [look_set, if_pos hm])
          have en : roundE m M (xh, xp) = some (some xh, 12) := by
            unfold roundE; rw [el]; simp [(hR xh).1 hm]
          rw [en] at hf
          simp +contextual -implicitDefEqProofs (maxSteps := 2000000) (disch := omega) only [drawC, drawK, keepT, ↓lenV, binV, ↓loadV, ↓storeV, ↓fieldAddrV, ↓indexAddrV, ↓allocV, ↓boxV, ↓nilV, ↓ifaceV, GVal.cells, grp, GVal.ofConst, ↓resV, resG, List.map, List.headD, List.take, List.drop, ↓reduceIte, Nat.reduceEqDiff, Nat.reduceAdd, Nat.reduceSub, Nat.reduceLeDiff, reduceCtorEq, implies_true, ne_eq, ↓lookupV, keyOk, keyCells, pairG, Tag.cap, List.replicate, allSolid, GVal.solid, Nat.reduceBEq, Nat.reduceMul, Nat.reduceLT, List.length_map, List.length_range, splice, vcA, ↓vcB, vcC, fbFu, e47, csG_len, hsG_len, comG, take32a, drop32a, drop33a, take33a, len33, solid33, solidH, len32, take32, kfind_h, hi2, hv2]
          refine ⟨⟨[_], rfl⟩, ?_⟩
          refine (gOf xh 12).then ?_ (by rfl)
          simp +contextual -implicitDefEqProofs (maxSteps := 2000000) (disch := omega) only [drawC, drawK, keepT, ↓lenV, binV, ↓loadV, ↓storeV, ↓fieldAddrV, ↓indexAddrV, ↓allocV, ↓boxV, ↓nilV, ↓ifaceV, GVal.cells, grp, GVal.ofConst, ↓resV, resG, List.map, List.headD, List.take, List.drop, ↓reduceIte, Nat.reduceEqDiff, Nat.reduceAdd, Nat.reduceSub, Nat.reduceLeDiff, reduceCtorEq, implies_true, ne_eq, ↓lookupV, keyOk, keyCells, pairG, Tag.cap, List.replicate, allSolid, GVal.solid, Nat.reduceBEq, Nat.reduceMul, Nat.reduceLT, List.length_map, List.length_range, splice, vcA, ↓vcB, vcC, fbFu, e47]
          unfold roundP
          rw [hf]
          exact ⟨_, gObj st s m ++ [.map s2 (kvG encL M)], _, rfl, leA_refl _, rfl, rfl⟩
        · obtain ⟨hi2, _⟩ := look_none encB (setM S) xh (by rw [look_set, if_neg hm])
          have en : roundE m M (xh, xp) = none := by
            have hnr : ¬ Reach (parsM M) xp xh := fun q => hm ((hR xh).2 q)
            unfold roundE; rw [el]; simp [hnr]
          rw [en] at hf
          simp +contextual -implicitDefEqProofs (maxSteps := 2000000) (disch := omega) only [drawC, drawK, keepT, ↓lenV, binV, ↓loadV, ↓storeV, ↓fieldAddrV, ↓indexAddrV, ↓allocV, ↓boxV, ↓nilV, ↓ifaceV, GVal.cells, grp, GVal.ofConst, ↓resV, resG, List.map, List.headD, List.take, List.drop, ↓reduceIte, Nat.reduceEqDiff, Nat.reduceAdd, Nat.reduceSub, Nat.reduceLeDiff, reduceCtorEq, implies_true, ne_eq, ↓lookupV, keyOk, keyCells, pairG, Tag.cap, List.replicate, allSolid, GVal.solid, Nat.reduceBEq, Nat.reduceMul, Nat.reduceLT, List.length_map, List.length_range, splice, vcA, ↓vcB, vcC, fbFu, e47, csG_len, hsG_len, comG, take32a, drop32a, drop33a, take33a, len33, solid33, solidH, len32, take32, kfind_h, hi2]
          refine ⟨⟨[_], rfl⟩, ?_⟩
          exact Into.at ⟨k + 1, by omega, hf⟩ (by show _ < _; simp; omega) ⟨_, rfl⟩ (by simp [WL, leG_self, leG_any, leG_int])
    · have d0 : ((k : Int) < (cs.length : Int)) = False := eq_false (by omega)
      rw [List.drop_of_length_le (by omega)] at hf
      simp +contextual -implicitDefEqProofs (maxSteps := 2000000) (disch := omega) only [drawC, drawK, keepT, ↓lenV, binV, ↓loadV, ↓storeV, ↓fieldAddrV, ↓indexAddrV, ↓allocV, ↓boxV, ↓nilV, ↓ifaceV, GVal.cells, grp, GVal.ofConst, ↓resV, resG, List.map, List.headD, List.take, List.drop, ↓reduceIte, Nat.reduceEqDiff, Nat.reduceAdd, Nat.reduceSub, Nat.reduceLeDiff, reduceCtorEq, implies_true, ne_eq, ↓lookupV, keyOk, keyCells, pairG, Tag.cap, List.replicate, allSolid, GVal.solid, Nat.reduceBEq, Nat.reduceMul, Nat.reduceLT, List.length_map, List.length_range, splice, vcA, ↓vcB, vcC, fbFu, e47, csG_len, hsG_len, comG, take32a, drop32a, drop33a, take33a, len33, solid33, solidH, len32, take32, kfind_h, d0]
      unfold roundP
      rw [hf]
      exact ⟨_, gObj st s m ++ [.map s2 (kvG encL M)], [], rfl, leA_refl _, rfl, rfl⟩
theorem errV_some (e : Option Hs × Int) : ∃ ty v, errV (some e) = .iface ty v := by
  obtain ⟨h, n⟩ := e
  cases h with
  | none => exact ⟨_, _, rfl⟩
  | some h => exact ⟨_, _, rfl⟩
theorem kvG_len {α : Type} (enc : α → GVal) (m : List (Hs × α)) : (kvG enc m).length = m.length := by simp [kvG]
structure GOK (m : GM) : Prop where
  len : m.length ≤ 1000
  row : ∀ p ∈ m, p.2.length ≤ 4
theorem sizesP_none {gr : Int} {nh : Nat} {cs : List Cm} (h : sizesP gr nh cs = none) : cs.length ≤ 200 ∧ nh ≤ 200 ∧ (gr = 1 ∨ gr = 2) ∧ ∀ c ∈ cs, c.2.length ≤ 4 ∧ twiceB c.2 = false := by
  unfold sizesP at h
  split at h
  · cases h
  · rename_i hb
    unfold badReq at hb
    refine ⟨by omega, by omega, by omega, fun c hc => ?_⟩
    have := List.findSome?_eq_none_iff.1 h c hc
    unfold sizeE at this
    split at this
    · cases this
    · split at this
      · cases this
      · rename_i h1 h2; exact ⟨by omega, by simpa using h2⟩
theorem mset_mem {α : Type} {m : List (Hs × α)} {h : Hs} {v : α} {p : Hs × α} (hp : p ∈ mset m h v) : p ∈ m ∨ p = (h, v) := by
  induction m with
  | nil => simp [mset] at hp; exact .inr hp
  | cons q r ih =>
    rw [mset] at hp
    split at hp
    · rcases List.mem_cons.1 hp with e | e
      · exact .inr e
      · exact .inl (List.mem_cons_of_mem _ e)
    · rcases List.mem_cons.1 hp with e | e
      · exact .inl (by rw [e]; simp)
      · exact (ih e).imp (List.mem_cons_of_mem _) id
theorem joinP_ok : ∀ {cs : List Cm} {m M : GM}, joinP m cs = .ok M → (∀ p ∈ m, p.2.length ≤ 4) → (∀ c ∈ cs, c.2.length ≤ 4) → M.length ≤ m.length + cs.length ∧ ∀ p ∈ M, p.2.length ≤ 4
  | [], m, M, h, hm, hc => by rw [joinP] at h; cases h; exact ⟨by simp, hm⟩
  | c :: r, m, M, h, hm, hc => by
    rw [joinP] at h
    have hr : ∀ x ∈ r, x.2.length ≤ 4 := fun x hx => hc x (by simp [hx])
    have hx := hc c (by simp)
    unfold joinE at h
    cases el : look m c.1 with
    | some l =>
      simp only [el] at h
      split at h
      · rename_i m' e
        split at e
        · cases e
          obtain ⟨h1, h2⟩ := joinP_ok h hm hr
          exact ⟨by simp only [List.length_cons]; omega, h2⟩
        · cases e
      · cases h
    | none =>
      simp only [el] at h
      obtain ⟨h1, h2⟩ := joinP_ok h (fun p hp => by
        rcases mset_mem hp with q | q
        · exact hm p q
        · rw [q]; exact hx) hr
      have := mset_len m c.1 c.2
      rw [el] at this
      simp at this
      exact ⟨by simp only [List.length_cons]; omega, h2⟩
noncomputable def joinedP (gr : Int) (m : GM) (cs : List Cm) (hs : List Hs) : Except (Option Hs × Int) GM := match sizesP gr hs.length cs with
  | some e => .error e
  | none => match joinP m cs with
    | .error (h, n) => .error (some h, n)
    | .ok M => match lackP M cs hs with
      | some e => .error e
      | none => match roundP m M cs with
        | some e => .error e
        | none => if 1000 < M.length then .error (none, 13) else .ok M
def jdV (st : Nat) : Except (Option Hs × Int) GM → GVal
  | .ok _ => .tuple [.map 2 st, .lit .nilIface]
  | .error e => .tuple [.lit (.map none), errV (some e)]
def jdO (st : Nat) : Except (Option Hs × Int) GM → List GObj
  | .ok M => [.map st (kvG encL M)]
  | .error _ => []
theorem gJoinedBy (m : GM) (hm : GOK m) (cs : List Cm) (hs : List Hs) (th : Tag) (gr : Int) (st s : Nat) (hc : cs.length ≤ 1000000) (hh : hs.length ≤ 1000000) (hp : ∀ c ∈ cs, c.2.length ≤ 1000000) :
    GCalls Tryd.prog 28 [.ptr 0 st 0 0, .agg (reqG cs hs th gr)] (gObj st s m) (fun g O' => ∃ s2, g = jdV s2 (joinedP gr m cs hs) ∧ O' = gObj st s m ++ jdO s2 (joinedP gr m cs hs)) := by
  have c1 := gSizes cs hs th gr hc hh hp
  cases e1 : sizesP gr hs.length cs with
  | some e =>
    have ej : joinedP gr m cs hs = .error e := by unfold joinedP; rw [e1]
    rw [e1] at c1
    obtain ⟨ty, v, ev⟩ := errV_some e
    rw [ev] at c1
    rw [ej]
    refine h28.calls mixS (by simp) ?_
    simp only [gstart, s28, List.cons_append, List.nil_append, List.length_cons, List.length_nil, Nat.reduceAdd, Nat.reduceSub, List.replicate_succ, List.replicate_zero]
    simp +contextual -implicitDefEqProofs (maxSteps := 2000000) (disch := omega) only [↓lenV, binV, ↓loadV, ↓fieldAddrV, ↓boxV, ↓ifaceV, GVal.cells, grp, GVal.ofConst, ↓resV, resG, List.map, List.headD, List.take, List.drop, ↓reduceIte, Nat.reduceEqDiff, Nat.reduceAdd, Nat.reduceSub, Nat.reduceLeDiff, reduceCtorEq, implies_true, ne_eq, aggV, Tag.cap, List.replicate, allSolid, GVal.solid, Nat.reduceBEq, Nat.reduceMul, Nat.reduceLT, List.length_map, List.length_range, splice, vcA, ↓vcB, vcC, fbFu, e28]
    refine c1.then ?_ (by rfl)
    simp +contextual -implicitDefEqProofs (maxSteps := 2000000) (disch := omega) only [↓lenV, binV, ↓loadV, ↓fieldAddrV, ↓boxV, ↓ifaceV, GVal.cells, grp, GVal.ofConst, ↓resV, resG, List.map, List.headD, List.take, List.drop, ↓reduceIte, Nat.reduceEqDiff, Nat.reduceAdd, Nat.reduceSub, Nat.reduceLeDiff, reduceCtorEq, implies_true, ne_eq, aggV, Tag.cap, List.replicate, allSolid, GVal.solid, Nat.reduceBEq, Nat.reduceMul, Nat.reduceLT, List.length_map, List.length_range, splice, vcA, ↓vcB, vcC, fbFu, e28, Tryd.underlying35]
    exact ⟨0, by rw [jdV, ev], rfl⟩
  | none =>
    obtain ⟨n1, n2, n3, n4⟩ := sizesP_none e1
    rw [e1] at c1
    have c2 := gJoined m cs .none st s hc hp (fun h l e => by have := hm.row _ (look_mem e); simp only at this; omega)
    cases e2 : joinP m cs with
    | error x =>
      obtain ⟨xh, xn⟩ := x
      have ej : joinedP gr m cs hs = .error (some xh, xn) := by unfold joinedP; rw [e1]; simp only [e2]
      rw [e2] at c2
      rw [ej]
      refine h28.calls mixS (by simp) ?_
      simp only [gstart, s28, List.cons_append, List.nil_append, List.length_cons, List.length_nil, Nat.reduceAdd, Nat.reduceSub, List.replicate_succ, List.replicate_zero]
      simp +contextual -implicitDefEqProofs (maxSteps := 2000000) (disch := omega) only [↓lenV, binV, ↓loadV, ↓fieldAddrV, ↓boxV, ↓ifaceV, GVal.cells, grp, GVal.ofConst, ↓resV, resG, List.map, List.headD, List.take, List.drop, ↓reduceIte, Nat.reduceEqDiff, Nat.reduceAdd, Nat.reduceSub, Nat.reduceLeDiff, reduceCtorEq, implies_true, ne_eq, aggV, Tag.cap, List.replicate, allSolid, GVal.solid, Nat.reduceBEq, Nat.reduceMul, Nat.reduceLT, List.length_map, List.length_range, splice, vcA, ↓vcB, vcC, fbFu, e28]
      refine c1.then ?_ (by rfl)
      simp +contextual -implicitDefEqProofs (maxSteps := 2000000) (disch := omega) only [↓lenV, binV, ↓loadV, ↓fieldAddrV, ↓boxV, ↓ifaceV, GVal.cells, grp, GVal.ofConst, ↓resV, resG, List.map, List.headD, List.take, List.drop, ↓reduceIte, Nat.reduceEqDiff, Nat.reduceAdd, Nat.reduceSub, Nat.reduceLeDiff, reduceCtorEq, implies_true, ne_eq, aggV, Tag.cap, List.replicate, allSolid, GVal.solid, Nat.reduceBEq, Nat.reduceMul, Nat.reduceLT, List.length_map, List.length_range, splice, vcA, ↓vcB, vcC, fbFu, e28, Tryd.underlying35, errV]
      refine c2.mono ?_
      rintro g O' ⟨_, rfl, rfl⟩
      simp +contextual -implicitDefEqProofs (maxSteps := 2000000) (disch := omega) only [↓lenV, binV, ↓loadV, ↓fieldAddrV, ↓boxV, ↓ifaceV, GVal.cells, grp, GVal.ofConst, ↓resV, resG, List.map, List.headD, List.take, List.drop, ↓reduceIte, Nat.reduceEqDiff, Nat.reduceAdd, Nat.reduceSub, Nat.reduceLeDiff, reduceCtorEq, implies_true, ne_eq, aggV, Tag.cap, List.replicate, allSolid, GVal.solid, Nat.reduceBEq, Nat.reduceMul, Nat.reduceLT, List.length_map, List.length_range, splice, vcA, ↓vcB, vcC, fbFu, e28, Tryd.underlying35, joinV, joinO]
      exact ⟨0, rfl, rfl⟩
    | ok M =>
      obtain ⟨m1, m2⟩ := joinP_ok e2 hm.row (fun c hc => (n4 c hc).1)
      have hM : GMOK M := ⟨by have := hm.len; omega, m2⟩
      have c3 := fun s2 => GCalls.keep1 (gLacking M cs hs th gr s2 hc hh hp) (O := gObj st s m ++ [.map s2 (kvG encL M)]) (args' := [.map 2 s2, .agg (reqG cs hs th gr)]) 2 rfl rfl rfl rfl
      rw [e2] at c2
      cases e3 : lackP M cs hs with
      | some e =>
        have ej : joinedP gr m cs hs = .error e := by unfold joinedP; rw [e1]; simp only [e2, e3]
        rw [e3] at c3
        obtain ⟨ty, v, ev⟩ := errV_some e
        rw [ev] at c3
        rw [ej]
        refine GCalls.dropTo ?_
        refine h28.calls mixS (by simp) ?_
        simp only [gstart, s28, List.cons_append, List.nil_append, List.length_cons, List.length_nil, Nat.reduceAdd, Nat.reduceSub, List.replicate_succ, List.replicate_zero]
        simp +contextual -implicitDefEqProofs (maxSteps := 2000000) (disch := omega) only [↓lenV, binV, ↓loadV, ↓fieldAddrV, ↓boxV, ↓ifaceV, GVal.cells, grp, GVal.ofConst, ↓resV, resG, List.map, List.headD, List.take, List.drop, ↓reduceIte, Nat.reduceEqDiff, Nat.reduceAdd, Nat.reduceSub, Nat.reduceLeDiff, reduceCtorEq, implies_true, ne_eq, aggV, Tag.cap, List.replicate, allSolid, GVal.solid, Nat.reduceBEq, Nat.reduceMul, Nat.reduceLT, List.length_map, List.length_range, splice, vcA, ↓vcB, vcC, fbFu, e28]
        refine c1.then ?_ (by rfl)
        simp +contextual -implicitDefEqProofs (maxSteps := 2000000) (disch := omega) only [↓lenV, binV, ↓loadV, ↓fieldAddrV, ↓boxV, ↓ifaceV, GVal.cells, grp, GVal.ofConst, ↓resV, resG, List.map, List.headD, List.take, List.drop, ↓reduceIte, Nat.reduceEqDiff, Nat.reduceAdd, Nat.reduceSub, Nat.reduceLeDiff, reduceCtorEq, implies_true, ne_eq, aggV, Tag.cap, List.replicate, allSolid, GVal.solid, Nat.reduceBEq, Nat.reduceMul, Nat.reduceLT, List.length_map, List.length_range, splice, vcA, ↓vcB, vcC, fbFu, e28, Tryd.underlying35, errV]
        refine c2.mono ?_
        rintro g O' ⟨s2, rfl, rfl⟩
        simp +contextual -implicitDefEqProofs (maxSteps := 2000000) (disch := omega) only [↓lenV, binV, ↓loadV, ↓fieldAddrV, ↓boxV, ↓ifaceV, GVal.cells, grp, GVal.ofConst, ↓resV, resG, List.map, List.headD, List.take, List.drop, ↓reduceIte, Nat.reduceEqDiff, Nat.reduceAdd, Nat.reduceSub, Nat.reduceLeDiff, reduceCtorEq, implies_true, ne_eq, aggV, Tag.cap, List.replicate, allSolid, GVal.solid, Nat.reduceBEq, Nat.reduceMul, Nat.reduceLT, List.length_map, List.length_range, splice, vcA, ↓vcB, vcC, fbFu, e28, Tryd.underlying35, joinV, joinO]
        refine (c3 s2).mono ?_
        rintro g O' ⟨rfl, rfl⟩
        simp +contextual -implicitDefEqProofs (maxSteps := 2000000) (disch := omega) only [↓lenV, binV, ↓loadV, ↓fieldAddrV, ↓boxV, ↓ifaceV, GVal.cells, grp, GVal.ofConst, ↓resV, resG, List.map, List.headD, List.take, List.drop, ↓reduceIte, Nat.reduceEqDiff, Nat.reduceAdd, Nat.reduceSub, Nat.reduceLeDiff, reduceCtorEq, implies_true, ne_eq, aggV, Tag.cap, List.replicate, allSolid, GVal.solid, Nat.reduceBEq, Nat.reduceMul, Nat.reduceLT, List.length_map, List.length_range, splice, vcA, ↓vcB, vcC, fbFu, e28, Tryd.underlying35]
        exact ⟨_, gObj st s m, _, rfl, leA_refl _, 0, by rw [jdV, ev], rfl⟩
      | none =>
        have c4 := fun s2 => gRound m M cs .none st s s2 hM hc (fun c hc => by have := (n4 c hc).1; omega)
        rw [e3] at c3
        cases e4 : roundP m M cs with
        | some e =>
          have ej : joinedP gr m cs hs = .error e := by unfold joinedP; rw [e1]; simp only [e2, e3, e4]
          rw [e4] at c4
          obtain ⟨ty, v, ev⟩ := errV_some e
          rw [ev] at c4
          rw [ej]
          refine GCalls.dropTo ?_
          refine h28.calls mixS (by simp) ?_
          simp only [gstart, s28, List.cons_append, List.nil_append, List.length_cons, List.length_nil, Nat.reduceAdd, Nat.reduceSub, List.replicate_succ, List.replicate_zero]
          simp +contextual -implicitDefEqProofs (maxSteps := 2000000) (disch := omega) only [↓lenV, binV, ↓loadV, ↓fieldAddrV, ↓boxV, ↓ifaceV, GVal.cells, grp, GVal.ofConst, ↓resV, resG, List.map, List.headD, List.take, List.drop, ↓reduceIte, Nat.reduceEqDiff, Nat.reduceAdd, Nat.reduceSub, Nat.reduceLeDiff, reduceCtorEq, implies_true, ne_eq, aggV, Tag.cap, List.replicate, allSolid, GVal.solid, Nat.reduceBEq, Nat.reduceMul, Nat.reduceLT, List.length_map, List.length_range, splice, vcA, ↓vcB, vcC, fbFu, e28]
          refine c1.then ?_ (by rfl)
          simp +contextual -implicitDefEqProofs (maxSteps := 2000000) (disch := omega) only [↓lenV, binV, ↓loadV, ↓fieldAddrV, ↓boxV, ↓ifaceV, GVal.cells, grp, GVal.ofConst, ↓resV, resG, List.map, List.headD, List.take, List.drop, ↓reduceIte, Nat.reduceEqDiff, Nat.reduceAdd, Nat.reduceSub, Nat.reduceLeDiff, reduceCtorEq, implies_true, ne_eq, aggV, Tag.cap, List.replicate, allSolid, GVal.solid, Nat.reduceBEq, Nat.reduceMul, Nat.reduceLT, List.length_map, List.length_range, splice, vcA, ↓vcB, vcC, fbFu, e28, Tryd.underlying35, errV]
          refine c2.mono ?_
          rintro g O' ⟨s2, rfl, rfl⟩
          simp +contextual -implicitDefEqProofs (maxSteps := 2000000) (disch := omega) only [↓lenV, binV, ↓loadV, ↓fieldAddrV, ↓boxV, ↓ifaceV, GVal.cells, grp, GVal.ofConst, ↓resV, resG, List.map, List.headD, List.take, List.drop, ↓reduceIte, Nat.reduceEqDiff, Nat.reduceAdd, Nat.reduceSub, Nat.reduceLeDiff, reduceCtorEq, implies_true, ne_eq, aggV, Tag.cap, List.replicate, allSolid, GVal.solid, Nat.reduceBEq, Nat.reduceMul, Nat.reduceLT, List.length_map, List.length_range, splice, vcA, ↓vcB, vcC, fbFu, e28, Tryd.underlying35, joinV, joinO]
          refine (c3 s2).mono ?_
          rintro g O' ⟨rfl, rfl⟩
          simp +contextual -implicitDefEqProofs (maxSteps := 2000000) (disch := omega) only [↓lenV, binV, ↓loadV, ↓fieldAddrV, ↓boxV, ↓ifaceV, GVal.cells, grp, GVal.ofConst, ↓resV, resG, List.map, List.headD, List.take, List.drop, ↓reduceIte, Nat.reduceEqDiff, Nat.reduceAdd, Nat.reduceSub, Nat.reduceLeDiff, reduceCtorEq, implies_true, ne_eq, aggV, Tag.cap, List.replicate, allSolid, GVal.solid, Nat.reduceBEq, Nat.reduceMul, Nat.reduceLT, List.length_map, List.length_range, splice, vcA, ↓vcB, vcC, fbFu, e28, Tryd.underlying35, errV]
          refine (c4 s2).mono ?_
          rintro g O' ⟨rfl, rfl⟩
          simp +contextual -implicitDefEqProofs (maxSteps := 2000000) (disch := omega) only [↓lenV, binV, ↓loadV, ↓fieldAddrV, ↓boxV, ↓ifaceV, GVal.cells, grp, GVal.ofConst, ↓resV, resG, List.map, List.headD, List.take, List.drop, ↓reduceIte, Nat.reduceEqDiff, Nat.reduceAdd, Nat.reduceSub, Nat.reduceLeDiff, reduceCtorEq, implies_true, ne_eq, aggV, Tag.cap, List.replicate, allSolid, GVal.solid, Nat.reduceBEq, Nat.reduceMul, Nat.reduceLT, List.length_map, List.length_range, splice, vcA, ↓vcB, vcC, fbFu, e28, Tryd.underlying35]
          exact ⟨_, gObj st s m, _, rfl, leA_refl _, 0, by rw [jdV, ev], rfl⟩
        | none =>
          rw [e4] at c4
          by_cases h5 : 1000 < M.length
          · have d5 : ((1000 : Int) < (M.length : Int)) = True := eq_true (by omega)
            have ej : joinedP gr m cs hs = .error (none, 13) := by unfold joinedP; rw [e1]; simp only [e2, e3, e4]; rw [if_pos h5]
            rw [ej]
            refine GCalls.dropTo ?_
            refine h28.calls mixS (by simp) ?_
            simp only [gstart, s28, List.cons_append, List.nil_append, List.length_cons, List.length_nil, Nat.reduceAdd, Nat.reduceSub, List.replicate_succ, List.replicate_zero]
            simp +contextual -implicitDefEqProofs (maxSteps := 2000000) (disch := omega) only [↓lenV, binV, ↓loadV, ↓fieldAddrV, ↓boxV, ↓ifaceV, GVal.cells, grp, GVal.ofConst, ↓resV, resG, List.map, List.headD, List.take, List.drop, ↓reduceIte, Nat.reduceEqDiff, Nat.reduceAdd, Nat.reduceSub, Nat.reduceLeDiff, reduceCtorEq, implies_true, ne_eq, aggV, Tag.cap, List.replicate, allSolid, GVal.solid, Nat.reduceBEq, Nat.reduceMul, Nat.reduceLT, List.length_map, List.length_range, splice, vcA, ↓vcB, vcC, fbFu, e28]
            refine c1.then ?_ (by rfl)
            simp +contextual -implicitDefEqProofs (maxSteps := 2000000) (disch := omega) only [↓lenV, binV, ↓loadV, ↓fieldAddrV, ↓boxV, ↓ifaceV, GVal.cells, grp, GVal.ofConst, ↓resV, resG, List.map, List.headD, List.take, List.drop, ↓reduceIte, Nat.reduceEqDiff, Nat.reduceAdd, Nat.reduceSub, Nat.reduceLeDiff, reduceCtorEq, implies_true, ne_eq, aggV, Tag.cap, List.replicate, allSolid, GVal.solid, Nat.reduceBEq, Nat.reduceMul, Nat.reduceLT, List.length_map, List.length_range, splice, vcA, ↓vcB, vcC, fbFu, e28, Tryd.underlying35, errV]
            refine c2.mono ?_
            rintro g O' ⟨s2, rfl, rfl⟩
            simp +contextual -implicitDefEqProofs (maxSteps := 2000000) (disch := omega) only [↓lenV, binV, ↓loadV, ↓fieldAddrV, ↓boxV, ↓ifaceV, GVal.cells, grp, GVal.ofConst, ↓resV, resG, List.map, List.headD, List.take, List.drop, ↓reduceIte, Nat.reduceEqDiff, Nat.reduceAdd, Nat.reduceSub, Nat.reduceLeDiff, reduceCtorEq, implies_true, ne_eq, aggV, Tag.cap, List.replicate, allSolid, GVal.solid, Nat.reduceBEq, Nat.reduceMul, Nat.reduceLT, List.length_map, List.length_range, splice, vcA, ↓vcB, vcC, fbFu, e28, Tryd.underlying35, joinV, joinO]
            refine (c3 s2).mono ?_
            rintro g O' ⟨rfl, rfl⟩
            simp +contextual -implicitDefEqProofs (maxSteps := 2000000) (disch := omega) only [↓lenV, binV, ↓loadV, ↓fieldAddrV, ↓boxV, ↓ifaceV, GVal.cells, grp, GVal.ofConst, ↓resV, resG, List.map, List.headD, List.take, List.drop, ↓reduceIte, Nat.reduceEqDiff, Nat.reduceAdd, Nat.reduceSub, Nat.reduceLeDiff, reduceCtorEq, implies_true, ne_eq, aggV, Tag.cap, List.replicate, allSolid, GVal.solid, Nat.reduceBEq, Nat.reduceMul, Nat.reduceLT, List.length_map, List.length_range, splice, vcA, ↓vcB, vcC, fbFu, e28, Tryd.underlying35, errV]
            refine (c4 s2).mono ?_
            rintro g O' ⟨rfl, rfl⟩
            simp +contextual -implicitDefEqProofs (maxSteps := 2000000) (disch := omega) only [↓lenV, binV, ↓loadV, ↓fieldAddrV, ↓boxV, ↓ifaceV, GVal.cells, grp, GVal.ofConst, ↓resV, resG, List.map, List.headD, List.take, List.drop, ↓reduceIte, Nat.reduceEqDiff, Nat.reduceAdd, Nat.reduceSub, Nat.reduceLeDiff, reduceCtorEq, implies_true, ne_eq, aggV, Tag.cap, List.replicate, allSolid, GVal.solid, Nat.reduceBEq, Nat.reduceMul, Nat.reduceLT, List.length_map, List.length_range, splice, vcA, ↓vcB, vcC, fbFu, e28, Tryd.underlying35, errV, kvG_len, d5]
            exact ⟨_, gObj st s m, _, rfl, leA_refl _, 0, rfl, rfl⟩
          · have d5 : ((1000 : Int) < (M.length : Int)) = False := eq_false (by omega)
            have ej : joinedP gr m cs hs = .ok M := by unfold joinedP; rw [e1]; simp only [e2, e3, e4]; rw [if_neg h5]
            rw [ej]
            refine h28.calls mixS (by simp) ?_
            simp only [gstart, s28, List.cons_append, List.nil_append, List.length_cons, List.length_nil, Nat.reduceAdd, Nat.reduceSub, List.replicate_succ, List.replicate_zero]
            simp +contextual -implicitDefEqProofs (maxSteps := 2000000) (disch := omega) only [↓lenV, binV, ↓loadV, ↓fieldAddrV, ↓boxV, ↓ifaceV, GVal.cells, grp, GVal.ofConst, ↓resV, resG, List.map, List.headD, List.take, List.drop, ↓reduceIte, Nat.reduceEqDiff, Nat.reduceAdd, Nat.reduceSub, Nat.reduceLeDiff, reduceCtorEq, implies_true, ne_eq, aggV, Tag.cap, List.replicate, allSolid, GVal.solid, Nat.reduceBEq, Nat.reduceMul, Nat.reduceLT, List.length_map, List.length_range, splice, vcA, ↓vcB, vcC, fbFu, e28]
            refine c1.then ?_ (by rfl)
            simp +contextual -implicitDefEqProofs (maxSteps := 2000000) (disch := omega) only [↓lenV, binV, ↓loadV, ↓fieldAddrV, ↓boxV, ↓ifaceV, GVal.cells, grp, GVal.ofConst, ↓resV, resG, List.map, List.headD, List.take, List.drop, ↓reduceIte, Nat.reduceEqDiff, Nat.reduceAdd, Nat.reduceSub, Nat.reduceLeDiff, reduceCtorEq, implies_true, ne_eq, aggV, Tag.cap, List.replicate, allSolid, GVal.solid, Nat.reduceBEq, Nat.reduceMul, Nat.reduceLT, List.length_map, List.length_range, splice, vcA, ↓vcB, vcC, fbFu, e28, Tryd.underlying35, errV]
            refine c2.mono ?_
            rintro g O' ⟨s2, rfl, rfl⟩
            simp +contextual -implicitDefEqProofs (maxSteps := 2000000) (disch := omega) only [↓lenV, binV, ↓loadV, ↓fieldAddrV, ↓boxV, ↓ifaceV, GVal.cells, grp, GVal.ofConst, ↓resV, resG, List.map, List.headD, List.take, List.drop, ↓reduceIte, Nat.reduceEqDiff, Nat.reduceAdd, Nat.reduceSub, Nat.reduceLeDiff, reduceCtorEq, implies_true, ne_eq, aggV, Tag.cap, List.replicate, allSolid, GVal.solid, Nat.reduceBEq, Nat.reduceMul, Nat.reduceLT, List.length_map, List.length_range, splice, vcA, ↓vcB, vcC, fbFu, e28, Tryd.underlying35, joinV, joinO]
            refine (c3 s2).mono ?_
            rintro g O' ⟨rfl, rfl⟩
            simp +contextual -implicitDefEqProofs (maxSteps := 2000000) (disch := omega) only [↓lenV, binV, ↓loadV, ↓fieldAddrV, ↓boxV, ↓ifaceV, GVal.cells, grp, GVal.ofConst, ↓resV, resG, List.map, List.headD, List.take, List.drop, ↓reduceIte, Nat.reduceEqDiff, Nat.reduceAdd, Nat.reduceSub, Nat.reduceLeDiff, reduceCtorEq, implies_true, ne_eq, aggV, Tag.cap, List.replicate, allSolid, GVal.solid, Nat.reduceBEq, Nat.reduceMul, Nat.reduceLT, List.length_map, List.length_range, splice, vcA, ↓vcB, vcC, fbFu, e28, Tryd.underlying35, errV]
            refine (c4 s2).mono ?_
            rintro g O' ⟨rfl, rfl⟩
            simp +contextual -implicitDefEqProofs (maxSteps := 2000000) (disch := omega) only [↓lenV, binV, ↓loadV, ↓fieldAddrV, ↓boxV, ↓ifaceV, GVal.cells, grp, GVal.ofConst, ↓resV, resG, List.map, List.headD, List.take, List.drop, ↓reduceIte, Nat.reduceEqDiff, Nat.reduceAdd, Nat.reduceSub, Nat.reduceLeDiff, reduceCtorEq, implies_true, ne_eq, aggV, Tag.cap, List.replicate, allSolid, GVal.solid, Nat.reduceBEq, Nat.reduceMul, Nat.reduceLT, List.length_map, List.length_range, splice, vcA, ↓vcB, vcC, fbFu, e28, Tryd.underlying35, errV, kvG_len, d5]
            exact ⟨s2, rfl, rfl⟩
noncomputable def addedM (m : GM) (cs : List Cm) : GM := match joinedP 2 m cs [] with
  | .ok M => M
  | .error _ => m
noncomputable def addedE (m : GM) (cs : List Cm) : Er := match joinedP 2 m cs [] with
  | .ok _ => none
  | .error e => some e
theorem gAddRaw (m M : GM) (cs : List Cm) (st s : Nat) (c1 : GCalls Tryd.prog 28 [.ptr 0 st 0 0, .agg (reqG cs [] .nil 2)] (gObj st s m) (fun g O' => ∃ s2, g = jdV s2 (.ok M) ∧ O' = gObj st s m ++ jdO s2 (.ok M))) :
    GCalls Tryd.prog 10 [.ptr 0 st 0 0, .slice (csG cs) .none] (gObj st s m) (fun g O' => ∃ s2, g = .lit .nilIface ∧ O' = [.row st 1 [[.map 2 s2]], .map s (kvG encL m), .map s2 (kvG encL M)]) := by
  refine h10.calls mixS (by simp) ?_
  simp only [gstart, s10, List.cons_append, List.nil_append, List.length_cons, List.length_nil, Nat.reduceAdd, Nat.reduceSub, List.replicate_succ, List.replicate_zero]
  simp +contextual -implicitDefEqProofs (maxSteps := 2000000) (disch := omega) only [binV, ↓storeV, ↓fieldAddrV, ↓buildV, ↓nilV, fillG, place, GVal.cells, grp, GVal.ofConst, ↓resV, resG, List.map, List.headD, List.take, List.drop, ↓reduceIte, Nat.reduceEqDiff, Nat.reduceAdd, Nat.reduceSub, Nat.reduceLeDiff, reduceCtorEq, implies_true, ne_eq, aggV, Tag.cap, List.replicate, allSolid, GVal.solid, Nat.reduceBEq, Nat.reduceMul, Nat.reduceLT, List.length_map, List.length_range, splice, vcA, ↓vcB, vcC, fbFu, e10]
  refine c1.mono ?_
  rintro g O' ⟨s2, rfl, rfl⟩
  simp +contextual -implicitDefEqProofs (maxSteps := 2000000) (disch := omega) only [binV, ↓storeV, ↓fieldAddrV, ↓buildV, ↓nilV, fillG, place, GVal.cells, grp, GVal.ofConst, ↓resV, resG, List.map, List.headD, List.take, List.drop, ↓reduceIte, Nat.reduceEqDiff, Nat.reduceAdd, Nat.reduceSub, Nat.reduceLeDiff, reduceCtorEq, implies_true, ne_eq, aggV, Tag.cap, List.replicate, allSolid, GVal.solid, Nat.reduceBEq, Nat.reduceMul, Nat.reduceLT, List.length_map, List.length_range, splice, vcA, ↓vcB, vcC, fbFu, e10, Tryd.underlying35, jdV, jdO]
  exact ⟨_, rfl⟩
theorem gAddOk (m M : GM) (cs : List Cm) (st s : Nat) (c1 : GCalls Tryd.prog 28 [.ptr 0 st 0 0, .agg (reqG cs [] .nil 2)] (gObj st s m) (fun g O' => ∃ s2, g = jdV s2 (.ok M) ∧ O' = gObj st s m ++ jdO s2 (.ok M))) :
    GCalls Tryd.prog 10 [.ptr 0 st 0 0, .slice (csG cs) .none] (gObj st s m) (fun g O' => ∃ x' y', O' = [x', y'] ∧ (g = errV none ∧ ∃ s', x' = .row st 1 [[.map 1 s']] ∧ y' = .map s' (kvG encL M))) := by
  refine GCalls.frame (gAddRaw m M cs st s c1) [0, 1] ⟨⟨_, rfl, .refl _⟩, ⟨_, rfl, .refl _⟩, trivial⟩ (by simp) (GLes.refl _) rfl rfl ?_
  rintro g O' ⟨s2, rfl, rfl⟩
  exact ⟨_, [.row st 1 [[.map 1 s2]], .map s2 (kvG encL M)], [(false, 0), (false, 2)], ⟨_, _, rfl, rfl, s2, rfl, rfl⟩, GLe.refl _, ⟨⟨_, rfl, OLe.row ⟨⟨GLe.map _ _ _, trivial⟩, trivial⟩⟩, ⟨_, rfl, .refl _⟩, trivial⟩, by simp, rfl⟩
theorem gAdd (m : GM) (hm : GOK m) (cs : List Cm) (st s : Nat) (hc : cs.length ≤ 1000000) (hp : ∀ c ∈ cs, c.2.length ≤ 1000000) :
    GCalls Tryd.prog 10 [.ptr 0 st 0 0, .slice (csG cs) .none] (gObj st s m) (fun g O' => ∃ x' y', O' = [x', y'] ∧ (g = errV (addedE m cs) ∧ ∃ s', x' = .row st 1 [[.map 1 s']] ∧ y' = .map s' (kvG encL (addedM m cs)))) := by
  have c1 := gJoinedBy m hm cs [] .nil 2 st s hc (by simp) hp
  cases e1 : joinedP 2 m cs [] with
  | error e =>
    have ea : addedE m cs = some e := by unfold addedE; rw [e1]
    have em : addedM m cs = m := by unfold addedM; rw [e1]
    rw [e1] at c1
    rw [ea, em]
    obtain ⟨ty, v, ev⟩ := errV_some e
    refine h10.calls mixS (by simp) ?_
    simp only [gstart, s10, List.cons_append, List.nil_append, List.length_cons, List.length_nil, Nat.reduceAdd, Nat.reduceSub, List.replicate_succ, List.replicate_zero]
    simp +contextual -implicitDefEqProofs (maxSteps := 2000000) (disch := omega) only [binV, ↓storeV, ↓fieldAddrV, ↓buildV, ↓nilV, fillG, place, GVal.cells, grp, GVal.ofConst, ↓resV, resG, List.map, List.headD, List.take, List.drop, ↓reduceIte, Nat.reduceEqDiff, Nat.reduceAdd, Nat.reduceSub, Nat.reduceLeDiff, reduceCtorEq, implies_true, ne_eq, aggV, Tag.cap, List.replicate, allSolid, GVal.solid, Nat.reduceBEq, Nat.reduceMul, Nat.reduceLT, List.length_map, List.length_range, splice, vcA, ↓vcB, vcC, fbFu, e10]
    refine c1.mono ?_
    rintro g O' ⟨s2, rfl, rfl⟩
    simp +contextual -implicitDefEqProofs (maxSteps := 2000000) (disch := omega) only [binV, ↓storeV, ↓fieldAddrV, ↓buildV, ↓nilV, fillG, place, GVal.cells, grp, GVal.ofConst, ↓resV, resG, List.map, List.headD, List.take, List.drop, ↓reduceIte, Nat.reduceEqDiff, Nat.reduceAdd, Nat.reduceSub, Nat.reduceLeDiff, reduceCtorEq, implies_true, ne_eq, aggV, Tag.cap, List.replicate, allSolid, GVal.solid, Nat.reduceBEq, Nat.reduceMul, Nat.reduceLT, List.length_map, List.length_range, splice, vcA, ↓vcB, vcC, fbFu, e10, Tryd.underlying35, jdV, jdO, ev]
    exact ⟨_, _, rfl, s, rfl, rfl⟩
  | ok M =>
    have ea : addedE m cs = none := by unfold addedE; rw [e1]
    have em : addedM m cs = M := by unfold addedM; rw [e1]
    rw [e1] at c1
    rw [ea, em]
    exact gAddOk m M cs st s c1
theorem gNewRaw : GCalls Tryd.prog 7 [] [] (fun g O' => ∃ st s, g = .ptr 1 st 0 0 ∧ O' = [.map s (kvG encL []), .row st 1 [[.map 0 s]]]) := by
  refine h7.calls mixS (by simp) ?_
  simp only [gstart, s7, List.cons_append, List.nil_append, List.length_cons, List.length_nil, Nat.reduceAdd, Nat.reduceSub, List.replicate_succ, List.replicate_zero]
  simp +contextual -implicitDefEqProofs (maxSteps := 2000000) (disch := omega) only [↓boxV, ↓buildV, fillG, place, GVal.cells, grp, GVal.ofConst, ↓resV, resG, List.map, List.headD, List.take, List.drop, ↓reduceIte, Nat.reduceEqDiff, Nat.reduceAdd, Nat.reduceSub, Nat.reduceLeDiff, reduceCtorEq, implies_true, ne_eq, ↓makeMapV, Tag.cap, List.replicate, allSolid, GVal.solid, Nat.reduceBEq, Nat.reduceMul, Nat.reduceLT, List.length_map, List.length_range, splice, vcA, ↓vcB, vcC, fbFu, e7]
  exact fun s => ⟨rfl, fun st => ⟨_, _, rfl, rfl⟩⟩
theorem gNew : GCalls Tryd.prog 7 [] [] (fun g O' => ∃ st s, g = .ptr 0 st 0 0 ∧ O' = gObj st s []) := by
  refine GCalls.frame gNewRaw [] trivial (by simp) trivial rfl rfl ?_
  rintro g O' ⟨st, s, rfl, rfl⟩
  exact ⟨_, gObj st s [], [(false, 1), (false, 0)], ⟨st, s, rfl, rfl⟩, GLe.ptr _ _ _ _ _, ⟨⟨_, rfl, OLe.row ⟨⟨GLe.map _ _ _, trivial⟩, trivial⟩⟩, ⟨_, rfl, .refl _⟩, trivial⟩, by simp, rfl⟩
end Gv.Tryd
/- Contracts: graph's there, Ancestors. -/
set_option linter.unusedVariables false
set_option linter.unusedSimpArgs false
set_option maxRecDepth 20000
set_option maxHeartbeats 4000000
namespace Gv.Tryd
open Go Gv Go.Proofs
def meltTo (n : Nat) (K : GVal → List GObj → Prop) (g : GVal) (O' : List GObj) : Prop := (∃ g', leA g g' ∧ K g' O') ∨ ∃ t sz xs O1, g = .own O1.length t 0 xs.length ∧ O' = O1 ++ [.row t sz xs] ∧ frzLL (Gv.frz [.row t sz xs] n) xs = some xs ∧ K (.slice xs .none) O1
theorem GCalls.meltOr {P : Program} {f : FuncId} {args : List GVal} {O : List GObj} {K : GVal → List GObj → Prop} (n : Nat)
    (h : GCalls P f args O (meltTo n K)) : GCalls P f args O K := by
  refine ⟨h.1, fun E w vs hs ha => (h.2 E w vs hs ha).mono ?_⟩
  rintro e w' ⟨v, E', O', g, h1, h2, h3, h4, (⟨g', hl, hk⟩ | ⟨t, sz, xs, O1, rfl, rfl, hf, hk⟩)⟩
  · exact ⟨v, E', O', g', h1, h2, h3, hl.sound h4, hk⟩
  · obtain ⟨q0, q1, q2⟩ := h2.melt
    have h5 : VR E' v (.own 0 t 0 xs.length) := by
      cases h4 with
      | own a len cap o st i l hl hcap ha => exact .own a _ cap 0 t 0 l hl hcap ha
    exact ⟨v, _, O1, _, h1, q1, h3.trans q2, frz_sound q0 (n + 1) v _ _ h5 (frz_own rfl rfl hf), hk⟩
theorem gIndexNil {F : FuncId} {caps : List GVal} (X : List GObj) : GCalls Tryd.prog 57 [.slice [] .nil, .func (.func F) [] caps] X (fun g O' => g = .int .i64 (-1) ∧ O' = X) := by
  refine h57.calls mixS (by simp) ?_
  simp only [gstart, s57, List.cons_append, List.nil_append, List.length_cons, List.length_nil, Nat.reduceAdd, Nat.reduceSub, List.replicate_succ, List.replicate_zero]
  simp +contextual -implicitDefEqProofs (maxSteps := 2000000) (disch := omega) only [↓lenV, binV, ↓loadV, ↓indexAddrV, GVal.cells, grp, GVal.ofConst, ↓resV, resG, List.map, List.headD, List.take, List.drop, ↓reduceIte, Nat.reduceEqDiff, Nat.reduceAdd, Nat.reduceSub, Nat.reduceLeDiff, reduceCtorEq, implies_true, ne_eq, Tag.cap, List.replicate, allSolid, GVal.solid, Nat.reduceBEq, Nat.reduceMul, Nat.reduceLT, List.length_map, List.length_range, splice, vcA, ↓vcB, vcC, fbFu, e57]
  refine vcSLoop_by (ι := Unit) (fun _ => ⟨[.any, .any, .any, .any, .int .i64 0, .any, .any, .int .i64 0, .int .i64 0] ++ List.replicate 10 .any, X⟩) (fun _ => 0) ?_ ?_
  · exact Into.first () ⟨[], by simp⟩ (by simp [WL, leG_self, leG_any])
  · rintro ⟨⟩
    simp +contextual -implicitDefEqProofs (maxSteps := 2000000) (disch := omega) only [↓lenV, binV, ↓loadV, ↓indexAddrV, GVal.cells, grp, GVal.ofConst, ↓resV, resG, List.map, List.headD, List.take, List.drop, ↓reduceIte, Nat.reduceEqDiff, Nat.reduceAdd, Nat.reduceSub, Nat.reduceLeDiff, reduceCtorEq, implies_true, ne_eq, Tag.cap, List.replicate, allSolid, GVal.solid, Nat.reduceBEq, Nat.reduceMul, Nat.reduceLT, List.length_map, List.length_range, splice, vcA, ↓vcB, vcC, fbFu, e57]
    exact fun h => absurd h (Int.lt_irrefl 0)
theorem gDeleteNil {F : FuncId} {caps : List GVal} (X : List GObj) : GCalls Tryd.prog 55 [.slice [] .nil, .func (.func F) [] caps] X (fun g O' => g = .slice [] .nil ∧ O' = X) := by
  have cI := gIndexNil (F := F) (caps := caps) X
  refine h55.calls mixS (by simp) ?_
  simp only [gstart, s55, List.cons_append, List.nil_append, List.length_cons, List.length_nil, Nat.reduceAdd, Nat.reduceSub, List.replicate_succ, List.replicate_zero]
  simp +contextual -implicitDefEqProofs (maxSteps := 2000000) (disch := omega) only [↓op_clear, ↓lenV, binV, ↓unV, optV, ↓loadV, ↓storeV, ↓indexAddrV, ↓allocV, ↓sliceV, bound, cutTag, hiTag, GVal.cells, grp, GVal.ofConst, ↓resV, resG, List.map, List.headD, List.take, List.drop, ↓reduceIte, Nat.reduceEqDiff, Nat.reduceAdd, Nat.reduceSub, Nat.reduceLeDiff, reduceCtorEq, implies_true, ne_eq, ↓clearV, aggV, Tag.cap, List.replicate, allSolid, GVal.solid, Nat.reduceBEq, Nat.reduceMul, Nat.reduceLT, List.length_map, List.length_range, splice, vcA, ↓vcB, vcC, fbFu, e55]
  refine cI.mono ?_
  rintro g O' ⟨rfl, rfl⟩
  simp +contextual -implicitDefEqProofs (maxSteps := 2000000) (disch := omega) only [↓op_clear, ↓lenV, binV, ↓unV, optV, ↓loadV, ↓storeV, ↓indexAddrV, ↓allocV, ↓sliceV, bound, cutTag, hiTag, GVal.cells, grp, GVal.ofConst, ↓resV, resG, List.map, List.headD, List.take, List.drop, ↓reduceIte, Nat.reduceEqDiff, Nat.reduceAdd, Nat.reduceSub, Nat.reduceLeDiff, reduceCtorEq, implies_true, ne_eq, ↓clearV, aggV, Tag.cap, List.replicate, allSolid, GVal.solid, Nat.reduceBEq, Nat.reduceMul, Nat.reduceLT, List.length_map, List.length_range, splice, vcA, ↓vcB, vcC, fbFu, e55]
theorem gThere (m : GM) (st s : Nat) (l : List Hs) (t : Tag) (ht : t = .nil → l = []) (hl : l.length ≤ 1000000) : GCalls Tryd.prog 36 [.ptr 0 st 0 0, .slice (hsG l) t] (gObj st s m) (fun g O' => g = .slice (hsG (l.filter fun h => (look m h).isSome)) .none ∧ O' = gObj st s m) := by
  have cD := fun v => gDeleteF (p := fun h => !(look m h).isSome) (fun h => gThere1 m h st s) rfl l v hl
  simp only [Bool.not_not] at cD
  have cC := GCalls.newUp (hClone l t (by omega) ht) (O := gObj st s m) rfl (by rintro g O' (⟨_, rfl, rfl⟩ | ⟨st, rfl, rfl⟩) <;> rfl)
  refine GCalls.meltOr 2 ?_
  refine h36.calls mixS (by simp) ?_
  simp only [gstart, s36, List.cons_append, List.nil_append, List.length_cons, List.length_nil, Nat.reduceAdd, Nat.reduceSub, List.replicate_succ, List.replicate_zero]
  simp +contextual -implicitDefEqProofs (maxSteps := 2000000) (disch := omega) only [optV, ↓boxV, ↓sliceV, bound, cutTag, hiTag, GVal.cells, grp, GVal.ofConst, ↓resV, resG, List.map, List.headD, List.take, List.drop, ↓reduceIte, Nat.reduceEqDiff, Nat.reduceAdd, Nat.reduceSub, Nat.reduceLeDiff, reduceCtorEq, implies_true, ne_eq, Tag.cap, List.replicate, allSolid, GVal.solid, Nat.reduceBEq, Nat.reduceMul, Nat.reduceLT, List.length_map, List.length_range, splice, vcA, ↓vcB, vcC, fbFu, e36, hsG_len]
  refine cC.mono ?_
  rintro g O' ⟨g0, O1, (⟨rfl, rfl, rfl⟩ | ⟨v, rfl, rfl⟩), rfl, rfl⟩
  · simp +contextual -implicitDefEqProofs (maxSteps := 2000000) (disch := omega) only [optV, ↓boxV, ↓sliceV, bound, cutTag, hiTag, GVal.cells, grp, GVal.ofConst, ↓resV, resG, List.map, List.headD, List.take, List.drop, ↓reduceIte, Nat.reduceEqDiff, Nat.reduceAdd, Nat.reduceSub, Nat.reduceLeDiff, reduceCtorEq, implies_true, ne_eq, Tag.cap, List.replicate, allSolid, GVal.solid, Nat.reduceBEq, Nat.reduceMul, Nat.reduceLT, List.length_map, List.length_range, splice, vcA, ↓vcB, vcC, fbFu, e36]
    refine (gDeleteNil _).mono ?_
    rintro g O' ⟨rfl, rfl⟩
    simp +contextual -implicitDefEqProofs (maxSteps := 2000000) (disch := omega) only [optV, ↓boxV, ↓sliceV, bound, cutTag, hiTag, GVal.cells, grp, GVal.ofConst, ↓resV, resG, List.map, List.headD, List.take, List.drop, ↓reduceIte, Nat.reduceEqDiff, Nat.reduceAdd, Nat.reduceSub, Nat.reduceLeDiff, reduceCtorEq, implies_true, ne_eq, Tag.cap, List.replicate, allSolid, GVal.solid, Nat.reduceBEq, Nat.reduceMul, Nat.reduceLT, List.length_map, List.length_range, splice, vcA, ↓vcB, vcC, fbFu, e36]
    exact .inl ⟨.slice (hsG (List.filter (fun h => (look m h).isSome) [])) .none, by rw [leA_slice]; rfl, rfl, rfl⟩
  · simp +contextual -implicitDefEqProofs (maxSteps := 2000000) (disch := omega) only [optV, ↓boxV, ↓sliceV, bound, cutTag, hiTag, GVal.cells, grp, GVal.ofConst, ↓resV, resG, List.map, List.headD, List.take, List.drop, ↓reduceIte, Nat.reduceEqDiff, Nat.reduceAdd, Nat.reduceSub, Nat.reduceLeDiff, reduceCtorEq, implies_true, ne_eq, Tag.cap, List.replicate, allSolid, GVal.solid, Nat.reduceBEq, Nat.reduceMul, Nat.reduceLT, List.length_map, List.length_range, splice, vcA, ↓vcB, vcC, fbFu, e36]
    refine (cD v).mono ?_
    rintro g O' ⟨rfl, rfl⟩
    simp +contextual -implicitDefEqProofs (maxSteps := 2000000) (disch := omega) only [optV, ↓boxV, ↓sliceV, bound, cutTag, hiTag, GVal.cells, grp, GVal.ofConst, ↓resV, resG, List.map, List.headD, List.take, List.drop, ↓reduceIte, Nat.reduceEqDiff, Nat.reduceAdd, Nat.reduceSub, Nat.reduceLeDiff, reduceCtorEq, implies_true, ne_eq, Tag.cap, List.replicate, allSolid, GVal.solid, Nat.reduceBEq, Nat.reduceMul, Nat.reduceLT, List.length_map, List.length_range, splice, vcA, ↓vcB, vcC, fbFu, e36]
    exact .inr ⟨v, 32, _, gObj st s m, by rw [hsG_len]; rfl, rfl, frz_hs _ 1 _, rfl, rfl⟩
end Gv.Tryd
/- Contracts: graph's Ancestors. -/
set_option linter.unusedVariables false
set_option linter.unusedSimpArgs false
set_option maxRecDepth 20000
set_option maxHeartbeats 4000000
namespace Gv.Tryd
open Go Gv Go.Proofs
theorem gAnc1 (m : GM) (h : Hs) (st s : Nat) (l : List Hs) (el : look m h = some l) : GCalls Tryd.prog 37 [.agg (bytesG h.1), .ref [.ptr 0 st 0 0]] (gObj st s m) (fun g O' => g = .slice (hsG l) .none ∧ O' = gObj st s m) := by
  obtain ⟨i, hi, hv, _⟩ := look_idx encL m h l el
  refine h37.calls mixS (by simp) ?_
  simp only [gstart, s37, List.cons_append, List.nil_append, List.length_cons, List.length_nil, Nat.reduceAdd, Nat.reduceSub, List.replicate_succ, List.replicate_zero]
  simp +contextual -implicitDefEqProofs (maxSteps := 2000000) (disch := omega) only [drawC, drawK, keepT, optV, ↓loadV, ↓fieldAddrV, ↓boxV, ↓sliceV, ↓nilV, bound, cutTag, hiTag, GVal.cells, grp, GVal.ofConst, ↓resV, resG, List.map, List.headD, List.take, List.drop, ↓reduceIte, Nat.reduceEqDiff, Nat.reduceAdd, Nat.reduceSub, Nat.reduceLeDiff, reduceCtorEq, implies_true, ne_eq, ↓lookupV, keyOk, keyCells, pairG, Tag.cap, List.replicate, allSolid, GVal.solid, Nat.reduceBEq, Nat.reduceMul, Nat.reduceLT, List.length_map, List.length_range, splice, vcA, ↓vcB, vcC, fbFu, e37, kfind_h, hi, hv, solidH, len32, take32]
theorem gAnc0 (m : GM) (h : Hs) (st s : Nat) (el : look m h = none) : GCalls Tryd.prog 37 [.agg (bytesG h.1), .ref [.ptr 0 st 0 0]] (gObj st s m) (fun g O' => g = .slice [] .nil ∧ O' = gObj st s m) := by
  obtain ⟨hi, _⟩ := look_none encL m h el
  refine h37.calls mixS (by simp) ?_
  simp only [gstart, s37, List.cons_append, List.nil_append, List.length_cons, List.length_nil, Nat.reduceAdd, Nat.reduceSub, List.replicate_succ, List.replicate_zero]
  simp +contextual -implicitDefEqProofs (maxSteps := 2000000) (disch := omega) only [drawC, drawK, keepT, optV, ↓loadV, ↓fieldAddrV, ↓boxV, ↓sliceV, ↓nilV, bound, cutTag, hiTag, GVal.cells, grp, GVal.ofConst, ↓resV, resG, List.map, List.headD, List.take, List.drop, ↓reduceIte, Nat.reduceEqDiff, Nat.reduceAdd, Nat.reduceSub, Nat.reduceLeDiff, reduceCtorEq, implies_true, ne_eq, ↓lookupV, keyOk, keyCells, pairG, Tag.cap, List.replicate, allSolid, GVal.solid, Nat.reduceBEq, Nat.reduceMul, Nat.reduceLT, List.length_map, List.length_range, splice, vcA, ↓vcB, vcC, fbFu, e37, kfind_h, hi, solidH, len32, take32]
theorem gAncN (m : GM) (h : Hs) (st s : Nat) : GCalls Tryd.prog 37 [.agg (bytesG h.1), .ref [.ptr 0 st 0 0]] (gObj st s m) (fun g O' => g = .slice (hsG (parsM m h)) .none ∧ O' = gObj st s m) := by
  cases el : look m h with
  | some l => rw [parsM_some el]; exact gAnc1 m h st s l el
  | none =>
    rw [parsM_none el]
    refine GCalls.into ((gAnc0 m h st s el).mono ?_)
    rintro g O' ⟨rfl, rfl⟩
    exact GInto.weak (O := gObj st s m) (X := []) (by rw [leG_none]; rfl) (.here ⟨rfl, rfl⟩)
def inM (m : GM) (l : List Hs) : List Hs := l.filter fun h => (look m h).isSome
noncomputable def ancL (m : GM) (l : List Hs) : List Hs := by
  classical exact sortR ((l ++ hashesM m).filter fun x => decide (Reach (parsM m) (inM m l) x))
theorem ancL_ss (m : GM) (l : List Hs) : SS (ancL m l) := sortR_ss _
theorem ancL_mem (m : GM) (l : List Hs) (x : Hs) : x ∈ ancL m l ↔ Reach (parsM m) (inM m l) x := by
  classical
  unfold ancL
  rw [sortR_mem, List.mem_filter, decide_eq_true_eq]
  refine ⟨fun h => h.2, fun h => ⟨?_, h⟩⟩
  cases h with
  | base x hx => exact List.mem_append_left _ (List.mem_filter.1 hx).1
  | step x y _ hy => exact List.mem_append_right _ (pars_in hy)
theorem gAncestors (m : GM) (hm : GMOK m) (st s : Nat) (l : List Hs) (t : Tag) (ht : t = .nil → l = []) (hl : l.length ≤ 10000) : GCalls Tryd.prog 19 [.ptr 0 st 0 0, .slice (hsG l) t] (gObj st s m) (fun g O' => g = .slice (hsG (ancL m l)) .none ∧ O' = gObj st s m) := by
  have hfl : (inM m l).length ≤ l.length := List.length_filter_le _ _
  have cT := gThere m st s l t ht (by omega)
  have cR := gReached (caps := [.ref [.ptr 0 st 0 0]]) (parsM m) (fun h => gAncN m h st s) rfl (inM m l) .none (by simp) (inM m l ++ hashesM m) (fun x hx => List.mem_append_left _ hx) (fun x _ y hy => List.mem_append_right _ (pars_in hy)) 4 (fun x _ => hm.pars x) (by have := hm.hashes; rw [List.length_append]; omega) (by omega) (by omega)
  refine GCalls.dropTo ?_
  refine h19.calls mixS (by simp) ?_
  simp only [gstart, s19, List.cons_append, List.nil_append, List.length_cons, List.length_nil, Nat.reduceAdd, Nat.reduceSub, List.replicate_succ, List.replicate_zero]
  simp +contextual -implicitDefEqProofs (maxSteps := 2000000) (disch := omega) only [optV, ↓loadV, ↓boxV, ↓sliceV, bound, cutTag, hiTag, GVal.cells, grp, GVal.ofConst, ↓resV, resG, List.map, List.headD, List.take, List.drop, ↓reduceIte, Nat.reduceEqDiff, Nat.reduceAdd, Nat.reduceSub, Nat.reduceLeDiff, reduceCtorEq, implies_true, ne_eq, Tag.cap, List.replicate, allSolid, GVal.solid, Nat.reduceBEq, Nat.reduceMul, Nat.reduceLT, List.length_map, List.length_range, splice, vcA, ↓vcB, vcC, fbFu, e19]
  refine cT.mono ?_
  rintro g O' ⟨rfl, rfl⟩
  simp +contextual -implicitDefEqProofs (maxSteps := 2000000) (disch := omega) only [optV, ↓loadV, ↓boxV, ↓sliceV, bound, cutTag, hiTag, GVal.cells, grp, GVal.ofConst, ↓resV, resG, List.map, List.headD, List.take, List.drop, ↓reduceIte, Nat.reduceEqDiff, Nat.reduceAdd, Nat.reduceSub, Nat.reduceLeDiff, reduceCtorEq, implies_true, ne_eq, Tag.cap, List.replicate, allSolid, GVal.solid, Nat.reduceBEq, Nat.reduceMul, Nat.reduceLT, List.length_map, List.length_range, splice, vcA, ↓vcB, vcC, fbFu, e19]
  refine cR.mono ?_
  rintro g O' ⟨s2, S, rfl, rfl, hS, hR, hSl⟩
  have hh := hm.hashes
  rw [List.length_append] at hSl
  have eA : sortR ((setM S).map (·.1)) = ancL m l := ss_eq (sortR_ss _) (ancL_ss m l) fun z => by
    rw [sortR_mem, ancL_mem, ← hR z]; simp [setM]
  have cS := gSorted encB (setM S) (by simp [setM]; omega) s2
  rw [eA] at cS
  have cS2 : GCalls Tryd.prog 34 [.map 0 s2] [.map s2 (kvG encB (setM S))] (fun g O' => ∃ x', O' = [x'] ∧ (g = .slice (hsG (ancL m l)) .none ∧ x' = .map s2 (kvG encB (setM S)))) := cS.mono (by rintro g O' ⟨rfl, rfl⟩; exact ⟨_, rfl, rfl, rfl⟩)
  have cS3 := GCalls.keep1 (args' := [.map 2 s2]) cS2 (O := gObj st s m ++ [.map s2 (kvG encB (setM S))]) 2 rfl rfl rfl rfl
  simp +contextual -implicitDefEqProofs (maxSteps := 2000000) (disch := omega) only [optV, ↓loadV, ↓boxV, ↓sliceV, bound, cutTag, hiTag, GVal.cells, grp, GVal.ofConst, ↓resV, resG, List.map, List.headD, List.take, List.drop, ↓reduceIte, Nat.reduceEqDiff, Nat.reduceAdd, Nat.reduceSub, Nat.reduceLeDiff, reduceCtorEq, implies_true, ne_eq, Tag.cap, List.replicate, allSolid, GVal.solid, Nat.reduceBEq, Nat.reduceMul, Nat.reduceLT, List.length_map, List.length_range, splice, vcA, ↓vcB, vcC, fbFu, e19]
  refine cS3.mono ?_
  rintro g O' ⟨rfl, rfl⟩
  simp +contextual -implicitDefEqProofs (maxSteps := 2000000) (disch := omega) only [optV, ↓loadV, ↓boxV, ↓sliceV, bound, cutTag, hiTag, GVal.cells, grp, GVal.ofConst, ↓resV, resG, List.map, List.headD, List.take, List.drop, ↓reduceIte, Nat.reduceEqDiff, Nat.reduceAdd, Nat.reduceSub, Nat.reduceLeDiff, reduceCtorEq, implies_true, ne_eq, Tag.cap, List.replicate, allSolid, GVal.solid, Nat.reduceBEq, Nat.reduceMul, Nat.reduceLT, List.length_map, List.length_range, splice, vcA, ↓vcB, vcC, fbFu, e19]
  exact ⟨_, gObj st s m, [.map s2 (kvG encB (setM S))], rfl, leA_refl _, rfl, rfl⟩
end Gv.Tryd
/- A nil slice in a struct's cell is given a row of its own. -/
set_option linter.unusedVariables false
namespace Gv
open Go
section
variable {st : GSt} {N : GSt → Prop}
end
theorem setO_6 (a b c d e f g x : GObj) (r : List GObj) : (a :: b :: c :: d :: e :: f :: g :: r).set 6 x = a :: b :: c :: d :: e :: f :: x :: r := rfl
theorem setO_7 (a b c d e f g h x : GObj) (r : List GObj) : (a :: b :: c :: d :: e :: f :: g :: h :: r).set 7 x = a :: b :: c :: d :: e :: f :: g :: x :: r := rfl
theorem GCalls.tail {P : Program} {f : FuncId} {args : List GVal} {X : List GObj} {K : GVal → List GObj → Prop} (h : GCalls P f args X K) (hK : ∀ g O', K g O' → clockOf O' = none ∧ O' ≠ []) (hc : clockOf X = none) (hX : X ≠ []) (Y : List GObj) :
    GCalls P f args (X ++ Y) (fun g O'' => ∃ O', K g O' ∧ O'' = O' ++ Y) := by
  have hcl : ∀ A : List GObj, clockOf A = none → A ≠ [] → clockOf (A ++ Y) = none := fun A h1 h2 => by
    cases A with
    | nil => exact absurd rfl h2
    | cons a r => cases a <;> first | rfl | cases h1
  refine GCalls.frame h (List.range X.length) ?_ List.nodup_range (GLes.refl _) hc (hcl X hc hX) ?_
  · have : ∀ (A B : List GObj), Fits (A ++ B ++ Y) ((List.range B.length).map (· + A.length)) B := by
      intro A B
      induction B generalizing A with
      | nil => trivial
      | cons b r ih =>
        rw [List.length_cons, List.range_succ_eq_map, List.map_cons, List.map_map]
        refine ⟨⟨b, by simp, .refl _⟩, ?_⟩
        have := ih (A ++ [b])
        simp only [List.length_append, List.length_singleton, List.append_assoc, List.singleton_append] at this ⊢
        have e : ((fun x => x + A.length) ∘ Nat.succ) = (fun x => x + (A.length + 1)) := by funext x; simp; omega
        rw [e]; exact this
    have := this [] X
    simpa using this
  · intro g O' hk
    obtain ⟨h1, h2⟩ := hK g O' hk
    refine ⟨g, O' ++ Y, (List.range O'.length).map (fun k => (false, k)) ++ (List.range Y.length).map (fun k => (true, k + X.length)), ⟨O', hk, rfl⟩, GLe.refl g, Comes.of (by simp) fun k z x hz hx => ?_, ?_, hcl O' h1 h2⟩
    · by_cases hlt : k < O'.length
      · rw [List.getElem?_append_left hlt] at hz
        rw [List.getElem?_append_left (by simpa using hlt)] at hx
        simp only [List.getElem?_map, List.getElem?_range hlt, Option.map_some, Option.some.injEq] at hx
        subst hx
        exact ⟨z, hz, .refl _⟩
      · rw [List.getElem?_append_right (by omega)] at hz
        rw [List.getElem?_append_right (by simpa using hlt)] at hx
        have hk2 : k - O'.length < Y.length := (List.getElem?_eq_some_iff.1 hz).1
        simp only [List.length_map, List.length_range, List.getElem?_map, List.getElem?_range hk2, Option.map_some, Option.some.injEq] at hx
        subst hx
        refine ⟨by simp, z, ?_, .refl _⟩
        rw [List.getElem?_append_right (by omega), Nat.add_sub_cancel]; exact hz
    · rw [List.nodup_append]
      refine ⟨?_, ?_, ?_⟩
      · rw [List.nodup_iff_pairwise_ne, List.pairwise_map]
        exact List.Pairwise.imp (fun {a b} hab => by simp; omega) (List.pairwise_lt_range (n := O'.length))
      · rw [List.nodup_iff_pairwise_ne, List.pairwise_map]
        exact List.Pairwise.imp (fun {a b} hab => by simp; omega) (List.pairwise_lt_range (n := Y.length))
      · intro a ha b hb
        obtain ⟨i, _, rfl⟩ := List.mem_map.1 ha
        obtain ⟨j, _, rfl⟩ := List.mem_map.1 hb
        simp
end Gv
/- Contracts: order's push and step. -/
set_option linter.unusedVariables false
set_option linter.unusedSimpArgs false
set_option maxRecDepth 20000
set_option maxHeartbeats 4000000
namespace Gv.Tryd
open Go Gv Go.Proofs
inductive DoneG : GVal → (Hs → Bool) → Prop
  | nil : DoneG (.lit .nilFunc) (fun _ => false)
  | fn (F : FuncId) (caps : List GVal) (dn : Hs → Bool) : (∀ h : Hs, GPure Tryd.prog F (.agg (bytesG h.1) :: caps) (.bool (dn h))) → DoneG (.func (.func F) [] caps) dn
def pushed (m : GM) (dn : Hs → Bool) (S : List Hs) (h : Hs) : Bool := (look m h).isSome && !(decide (h ∈ S)) && !(dn h)
end Gv.Tryd
/- Contracts: order's Rising. -/
set_option linter.unusedVariables false
set_option linter.unusedSimpArgs false
set_option maxRecDepth 20000
set_option maxHeartbeats 4000000
namespace Gv.Tryd
open Go Gv Go.Proofs
theorem ss_nodup {a : List Hs} (h : SS a) : a.Nodup := h.imp fun {x y} q e => by rw [e] at q; exact LT.irrefl _ q
end Gv.Tryd
/- Contracts: order's Walk. -/
set_option linter.unusedVariables false
set_option linter.unusedSimpArgs false
set_option maxRecDepth 20000
set_option maxHeartbeats 4000000
namespace Gv.Tryd
open Go Gv Go.Proofs
abbrev WSt := List Hs × List Hs
inductive VisL (m : GM) (dn : Hs → Bool) : List Hs → WSt → WSt → Prop
  | nil (so : WSt) : VisL m dn [] so so
  | skip (p : Hs) (r : List Hs) (so T : WSt) : pushed m dn so.1 p = false → VisL m dn r so T → VisL m dn (p :: r) so T
  | go (p : Hs) (r : List Hs) (so so1 T : WSt) : pushed m dn so.1 p = true → VisL m dn (parsM m p) (so.1 ++ [p], so.2) so1 → VisL m dn r (so1.1, so1.2 ++ [p]) T → VisL m dn (p :: r) so T
structure SInv (m : GM) (S out : List Hs) (n : Nat) : Prop where
  nodup : S.Nodup
  keys : ∀ x ∈ S, (look m x).isSome = true
  len : out.length + n ≤ S.length
theorem look_key {α : Type} {m : List (Hs × α)} {x : Hs} (h : (look m x).isSome = true) : x ∈ m.map (·.1) := by
  induction m with
  | nil => cases h
  | cons p r ih =>
    rw [look] at h
    by_cases e : x = p.1
    · simp [e]
    · rw [if_neg e] at h; simp [ih h]
theorem SInv.le {m : GM} {S out : List Hs} {n : Nat} (h : SInv m S out n) : S.length ≤ m.length := by
  have := nodup_lenH S (m.map (·.1)) h.nodup fun x hx => look_key (h.keys x hx)
  simpa using this
theorem pushed_iff {m : GM} {dn : Hs → Bool} {S : List Hs} {h : Hs} (hp : pushed m dn S h = true) : (look m h).isSome = true ∧ h ∉ S ∧ dn h = false := by
  unfold pushed at hp
  simp only [Bool.and_eq_true, Bool.not_eq_true', decide_eq_false_iff_not] at hp
  exact ⟨hp.1.1, hp.1.2, hp.2⟩
theorem SInv.push {m : GM} {S out : List Hs} {n : Nat} (h : SInv m S out n) {dn : Hs → Bool} {x : Hs} (hp : pushed m dn S x = true) : SInv m (S ++ [x]) out (n + 1) := by
  obtain ⟨h1, h2, _⟩ := pushed_iff hp
  refine ⟨?_, fun y hy => ?_, by have := h.len; rw [List.length_append, List.length_singleton]; omega⟩
  · rw [List.nodup_append]
    exact ⟨h.nodup, by simp, fun a ha b hb => by rw [List.mem_singleton.1 hb]; exact fun e => h2 (e ▸ ha)⟩
  · rcases List.mem_append.1 hy with q | q
    · exact h.keys y q
    · rw [List.mem_singleton.1 q]; exact h1
end Gv.Tryd
/- Graphs that may be: plain laws of walks. -/
set_option linter.unusedVariables false
set_option linter.unusedSimpArgs false
set_option maxRecDepth 20000
namespace Gv.Tryd
open Go Gv Go.Proofs
structure Good (m : GM) : Prop where
  ok : GOK m
  keys : (m.map (·.1)).Nodup
  closed : ∀ x y, y ∈ parsM m x → (look m y).isSome = true
  acyc : ∀ x, ¬ Reach (parsM m) (parsM m x) x
theorem Good.gm {m : GM} (h : Good m) : GMOK m := ⟨by have := h.ok.len; omega, h.ok.row⟩
theorem Reach.trans {nx : Hs → List Hs} {l l' : List Hs} {x : Hs} (h : Reach nx l' x) (hl : ∀ y ∈ l', Reach nx l y) : Reach nx l x := by
  induction h with
  | base x hx => exact hl x hx
  | step x y _ hy ih => exact .step x y ih hy
theorem Reach.sub {nx : Hs → List Hs} {l l' : List Hs} {x : Hs} (h : Reach nx l' x) (hl : ∀ y ∈ l', y ∈ l) : Reach nx l x := h.trans fun y hy => .base y (hl y hy)
theorem Reach.nil {nx : Hs → List Hs} {x : Hs} (h : Reach nx [] x) : False := by
  induction h with
  | base x hx => cases hx
  | step _ _ _ _ ih => exact ih
theorem pars_there {m : GM} {x y : Hs} (h : y ∈ parsM m x) : (look m x).isSome = true := by
  cases e : look m x with
  | some l => rfl
  | none => rw [parsM_none e] at h; cases h
theorem Reach.inM {m : GM} {l : List Hs} {x : Hs} (h : Reach (parsM m) l x) (hx : (look m x).isSome = true) : Reach (parsM m) (inM m l) x := by
  induction h with
  | base x h => exact .base x (List.mem_filter.2 ⟨h, hx⟩)
  | step x y _ hy ih => exact .step x y (ih (pars_there hy)) hy
end Gv.Tryd
/- Adding commits: a graph that may be stays one; graphs that say alike. -/
set_option linter.unusedVariables false
set_option linter.unusedSimpArgs false
set_option maxRecDepth 20000
namespace Gv.Tryd
open Go Gv Go.Proofs
theorem mset_keys {α : Type} (m : List (Hs × α)) (h : Hs) (v : α) : (mset m h v).map (·.1) = if (look m h).isSome = true then m.map (·.1) else m.map (·.1) ++ [h] := by
  induction m with
  | nil => simp [mset, look]
  | cons p r ih =>
    rw [mset, look]
    by_cases e : h = p.1
    · rw [if_pos e, if_pos e]; simp [e]
    · rw [if_neg e, if_neg e, List.map_cons, ih]
      split <;> simp
theorem key_look {α : Type} {m : List (Hs × α)} {x : Hs} (h : x ∈ m.map (·.1)) : (look m x).isSome = true := by
  induction m with
  | nil => cases h
  | cons p r ih =>
    rw [look]
    by_cases e : x = p.1
    · rw [if_pos e]; rfl
    · rw [if_neg e]
      rw [List.map_cons] at h
      rcases List.mem_cons.1 h with q | q
      · exact absurd q e
      · exact ih q
theorem join_spec : ∀ {cs : List Cm} {m M : GM}, joinP m cs = .ok M → (m.map (·.1)).Nodup → (M.map (·.1)).Nodup ∧ (∀ h l, look m h = some l → look M h = some l) ∧ (∀ c ∈ cs, look M c.1 = some c.2) ∧ (∀ h l, look M h = some l → look m h = some l ∨ (h, l) ∈ cs)
  | [], m, M, h, hk => by
    rw [joinP] at h; cases h
    exact ⟨hk, fun _ _ h => h, by simp, fun _ _ h => .inl h⟩
  | c :: r, m, M, h, hk => by
    rw [joinP] at h
    unfold joinE at h
    cases el : look m c.1 with
    | some l =>
      simp only [el] at h
      split at h
      · rename_i m' e
        split at e
        · rename_i e2
          cases e
          obtain ⟨h1, h2, h3, h4⟩ := join_spec h hk
          refine ⟨h1, h2, fun d hd => ?_, fun x l hx => (h4 x l hx).imp id fun q => List.mem_cons_of_mem _ q⟩
          rcases List.mem_cons.1 hd with q | q
          · rw [q, h2 _ _ el, e2]
          · exact h3 d q
        · cases e
      · cases h
    | none =>
      simp only [el] at h
      have hk' : ((mset m c.1 c.2).map (·.1)).Nodup := by
        rw [mset_keys, el]
        simp only [Option.isSome_none, Bool.false_eq_true, if_false]
        rw [List.nodup_append]
        refine ⟨hk, by simp, fun a ha b hb e => ?_⟩
        rw [List.mem_singleton.1 hb] at e
        have := key_look ha
        rw [e, el] at this; cases this
      obtain ⟨h1, h2, h3, h4⟩ := join_spec h hk'
      refine ⟨h1, fun x l hx => h2 x l ?_, fun d hd => ?_, fun x l hx => ?_⟩
      · rw [look_mset, if_neg (fun e => by rw [e, el] at hx; cases hx)]; exact hx
      · rcases List.mem_cons.1 hd with q | q
        · rw [q]; exact h2 _ _ (by rw [look_mset, if_pos rfl])
        · exact h3 d q
      · rcases h4 x l hx with q | q
        · rw [look_mset] at q
          split at q
          · rename_i e
            cases q
            exact .inr (by rw [e]; simp)
          · exact .inl q
        · exact .inr (List.mem_cons_of_mem _ q)
theorem joined_ok {gr : Int} {m M : GM} {cs : List Cm} {hs : List Hs} (h : joinedP gr m cs hs = .ok M) : sizesP gr hs.length cs = none ∧ joinP m cs = .ok M ∧ lackP M cs hs = none ∧ roundP m M cs = none ∧ M.length ≤ 1000 := by
  unfold joinedP at h
  split at h
  · cases h
  · rename_i e1
    split at h
    · cases h
    · rename_i M' e2
      split at h
      · cases h
      · rename_i e3
        split at h
        · cases h
        · rename_i e4
          split at h
          · cases h
          · cases h
            exact ⟨e1, e2, e3, e4, by omega⟩
theorem lack_none {M : GM} {cs : List Cm} {hs : List Hs} (h : lackP M cs hs = none) : (∀ c ∈ cs, ∀ y ∈ c.2, (look M y).isSome = true) ∧ ∀ y ∈ hs, (look M y).isSome = true := by
  unfold lackP at h
  have hn : ∀ n y, nowhere M n y = none → (look M y).isSome = true := fun n y q => by
    unfold nowhere at q
    split at q
    · rename_i e; rw [e]; rfl
    · cases q
  split at h
  · cases h
  · rename_i e
    refine ⟨fun c hc y hy => ?_, fun y hy => hn 11 y (List.findSome?_eq_none_iff.1 h y hy)⟩
    exact hn 10 y (List.findSome?_eq_none_iff.1 (List.findSome?_eq_none_iff.1 e c hc) y hy)
theorem joined_good {gr : Int} {m M : GM} {cs : List Cm} {hs : List Hs} (hm : Good m) (h : joinedP gr m cs hs = .ok M) : Good M := by
  obtain ⟨e1, e2, e3, e4, e5⟩ := joined_ok h
  obtain ⟨_, _, _, n4⟩ := sizesP_none e1
  obtain ⟨_, r2⟩ := joinP_ok e2 hm.ok.row fun c hc => (n4 c hc).1
  obtain ⟨k1, k2, k3, k4⟩ := join_spec e2 hm.keys
  obtain ⟨l1, _⟩ := lack_none e3
  refine ⟨⟨e5, r2⟩, k1, fun x y hy => ?_, fun x hx => ?_⟩
  · cases el : look M x with
    | none => rw [parsM_none el] at hy; cases hy
    | some l =>
      rw [parsM_some el] at hy
      rcases k4 x l el with q | q
      · have := hm.closed x y (by rw [parsM_some q]; exact hy)
        obtain ⟨z, hz⟩ := Option.isSome_iff_exists.1 this
        rw [k2 y z hz]; rfl
      · exact l1 _ q y hy
  · cases el : look M x with
    | none => rw [parsM_none el] at hx; exact hx.nil
    | some l =>
      rw [parsM_some el] at hx
      cases eo : look m x with
      | some l' =>
        have e : l' = l := by
          have := k2 x l' eo
          rw [el] at this; cases this; rfl
        subst e
        have : ∀ z, Reach (parsM M) l' z → Reach (parsM m) l' z ∧ (look m z).isSome = true := fun z hz => by
          induction hz with
          | base z hz => exact ⟨.base z hz, hm.closed x z (by rw [parsM_some eo]; exact hz)⟩
          | step z y _ hy ih =>
            obtain ⟨lz, hlz⟩ := Option.isSome_iff_exists.1 ih.2
            rw [parsM_some (k2 z lz hlz)] at hy
            have hy' : y ∈ parsM m z := by rw [parsM_some hlz]; exact hy
            exact ⟨.step z y ih.1 hy', hm.closed z y hy'⟩
        exact hm.acyc x (by rw [parsM_some eo]; exact (this x hx).1)
      | none =>
        rcases k4 x l el with q | q
        · rw [eo] at q; cases q
        · unfold roundP at e4
          have := List.findSome?_eq_none_iff.1 e4 _ q
          unfold roundE at this
          rw [eo] at this
          simp only [Option.isSome_none, Bool.false_eq_true, if_false] at this
          split at this
          · cases this
          · rename_i hn; exact hn hx
def Alike (m m' : GM) : Prop := ∀ h, look m h = look m' h
theorem Alike.pars {m m' : GM} (h : Alike m m') : parsM m = parsM m' := funext fun x => by unfold parsM; rw [h x]
theorem Alike.len {m m' : GM} (h : Alike m m') (k : (m.map (·.1)).Nodup) (k' : (m'.map (·.1)).Nodup) : m.length = m'.length := by
  have a := nodup_lenH _ (m'.map (·.1)) k fun x hx => look_key (by rw [← h x]; exact key_look hx)
  have b := nodup_lenH _ (m.map (·.1)) k' fun x hx => look_key (by rw [h x]; exact key_look hx)
  simp only [List.length_map] at a b
  omega
theorem Alike.symm {m m' : GM} (h : Alike m m') : Alike m' m := fun x => (h x).symm
end Gv.Tryd
/- Contracts: the reference's graph: find, Has, Parents. -/
set_option linter.unusedVariables false
set_option linter.unusedSimpArgs false
set_option maxRecDepth 20000
set_option maxHeartbeats 4000000
namespace Gv.Tryd
open Go Gv Go.Proofs
theorem GLes_com (h : Hs) (l : List Hs) (t : Tag) : GLes (bytesG h.1 ++ [.slice (hsG l) t]) (comG (h, l)) := GLes.app (GLes.refl _) ⟨GLe.none, trivial⟩
end Gv.Tryd
/- Contracts: chapter 12's example. -/
set_option linter.unusedVariables false
set_option linter.unusedSimpArgs false
set_option maxRecDepth 20000
set_option maxHeartbeats 4000000
namespace Gv.Tryd
open Go Gv Go.Proofs
theorem GCalls.args {P : Program} {f : FuncId} {args args' : List GVal} {O : List GObj} {K : GVal → List GObj → Prop} (h : GCalls P f args O K) (ha : GLes args' args) : GCalls P f args' O K :=
  ⟨h.1, fun E w vs hs hv => h.2 E w vs hs ⟨by rw [hv.1, ha.len], fun k g hg => by
    obtain ⟨x, hx, hle⟩ := ha.at_ k g hg
    exact hle _ _ (hv.2 k x hx)⟩⟩
def hq (a b c : UInt8) : Hs := ⟨a :: b :: c :: List.replicate 29 0, rfl⟩
def q1 : Hs := hq 1 0 0
theorem qE1 : ([.int .u8 1, .int .u8 0, .int .u8 0, .int .u8 0, .int .u8 0, .int .u8 0, .int .u8 0, .int .u8 0, .int .u8 0, .int .u8 0, .int .u8 0, .int .u8 0, .int .u8 0, .int .u8 0, .int .u8 0, .int .u8 0, .int .u8 0, .int .u8 0, .int .u8 0, .int .u8 0, .int .u8 0, .int .u8 0, .int .u8 0, .int .u8 0, .int .u8 0, .int .u8 0, .int .u8 0, .int .u8 0, .int .u8 0, .int .u8 0, .int .u8 0, .int .u8 0] : List GVal) = bytesG q1.1 := rfl
theorem qR1 (x : GVal) : ([.int .u8 1, .int .u8 0, .int .u8 0, .int .u8 0, .int .u8 0, .int .u8 0, .int .u8 0, .int .u8 0, .int .u8 0, .int .u8 0, .int .u8 0, .int .u8 0, .int .u8 0, .int .u8 0, .int .u8 0, .int .u8 0, .int .u8 0, .int .u8 0, .int .u8 0, .int .u8 0, .int .u8 0, .int .u8 0, .int .u8 0, .int .u8 0, .int .u8 0, .int .u8 0, .int .u8 0, .int .u8 0, .int .u8 0, .int .u8 0, .int .u8 0, .int .u8 0, x] : List GVal) = bytesG q1.1 ++ [x] := rfl
def q2 : Hs := hq 2 0 0
theorem qE2 : ([.int .u8 2, .int .u8 0, .int .u8 0, .int .u8 0, .int .u8 0, .int .u8 0, .int .u8 0, .int .u8 0, .int .u8 0, .int .u8 0, .int .u8 0, .int .u8 0, .int .u8 0, .int .u8 0, .int .u8 0, .int .u8 0, .int .u8 0, .int .u8 0, .int .u8 0, .int .u8 0, .int .u8 0, .int .u8 0, .int .u8 0, .int .u8 0, .int .u8 0, .int .u8 0, .int .u8 0, .int .u8 0, .int .u8 0, .int .u8 0, .int .u8 0, .int .u8 0] : List GVal) = bytesG q2.1 := rfl
theorem qR2 (x : GVal) : ([.int .u8 2, .int .u8 0, .int .u8 0, .int .u8 0, .int .u8 0, .int .u8 0, .int .u8 0, .int .u8 0, .int .u8 0, .int .u8 0, .int .u8 0, .int .u8 0, .int .u8 0, .int .u8 0, .int .u8 0, .int .u8 0, .int .u8 0, .int .u8 0, .int .u8 0, .int .u8 0, .int .u8 0, .int .u8 0, .int .u8 0, .int .u8 0, .int .u8 0, .int .u8 0, .int .u8 0, .int .u8 0, .int .u8 0, .int .u8 0, .int .u8 0, .int .u8 0, x] : List GVal) = bytesG q2.1 ++ [x] := rfl
def q3 : Hs := hq 3 0 0
def q4 : Hs := hq 4 0 0
theorem reach_rank {M : GM} (rk : Hs → Nat) (hr : ∀ p ∈ M, ∀ y ∈ p.2, rk y < rk p.1) {l : List Hs} {n : Nat} (hl : ∀ x ∈ l, rk x < n) {x : Hs} (h : Reach (parsM M) l x) : rk x < n := by
  induction h with
  | base x hx => exact hl x hx
  | step x y _ hy ih =>
    obtain ⟨p, h1, h2, h3⟩ := parsM_mem hy
    have := hr p h1 y h3
    rw [h2] at this
    omega
theorem roundP_rank {m M : GM} {cs : List Cm} (rk : Hs → Nat) (hr : ∀ p ∈ M, ∀ y ∈ p.2, rk y < rk p.1) (hc : ∀ c ∈ cs, ∀ y ∈ c.2, rk y < rk c.1) : roundP m M cs = none := by
  unfold roundP
  rw [List.findSome?_eq_none_iff]
  intro c hcm
  unfold roundE
  split
  · rfl
  · rw [if_neg]
    intro h
    have := reach_rank rk hr (hc c hcm) h
    omega
def rkQ (h : Hs) : Nat := (h.1.headD 0).toNat
theorem fourG : GOK ([] : GM) := ⟨by simp, by simp⟩
end Gv.Tryd
/- OrderLong: a line of commits: plain laws. -/
set_option linter.unusedVariables false
set_option linter.unusedSimpArgs false
set_option maxRecDepth 20000
namespace Gv.Tryd
open Go Gv Go.Proofs
def hL (k : Nat) : Hs := hq (UInt8.ofNat (k / 256)) (UInt8.ofNat k) 1
def cL (k : Nat) : Cm := (hL k, if k = 0 then [] else [hL (k - 1)])
def seg (a j : Nat) : List Cm := (List.range j).map fun i => cL (a + i)
abbrev chain (n : Nat) : GM := seg 0 n
end Gv.Tryd
/- Commits put into a sorted list; a list with a hash twice. -/
set_option linter.unusedVariables false
set_option linter.unusedSimpArgs false
set_option maxRecDepth 20000
namespace Gv.Tryd
open Go Gv Go.Proofs
theorem sortR_len_le (l : List Hs) : (sortR l).length ≤ l.length :=
  nodup_lenH _ _ (ss_nodup (sortR_ss l)) fun x hx => (sortR_mem l x).1 hx
end Gv.Tryd
/- Plain laws of GraphUnion. -/
set_option linter.unusedVariables false
set_option linter.unusedSimpArgs false
namespace Gv.Tryd
open Go Gv Go.Proofs
def keysS (m : GM) : List Hs := sortR (m.map (·.1))
theorem keysS_mem (m : GM) (z : Hs) : z ∈ keysS m ↔ (look m z).isSome = true := by
  unfold keysS
  rw [sortR_mem]
  exact ⟨key_look, look_key⟩
theorem keysS_len {m : GM} (h : (m.map (·.1)).Nodup) : (keysS m).length ≤ m.length := by
  unfold keysS
  have := sortR_len_le (m.map (·.1))
  rw [List.length_map] at this
  exact this
end Gv.Tryd
/- Contracts: the law's hashes of numbers. -/
set_option linter.unusedVariables false
set_option linter.unusedSimpArgs false
set_option maxRecDepth 20000
set_option maxHeartbeats 4000000
namespace Gv.Tryd
open Go Gv Go.Proofs
noncomputable def hashF (n : Int) : Hs := Classical.choose (hHash n)
theorem hHashF (n : Int) : GPure Tryd.prog 20 [.int .i64 n] (.agg (bytesG (hashF n).1)) := Classical.choose_spec (hHash n)
end Gv.Tryd
/- Contracts: taproothand's ahead. -/
set_option linter.unusedVariables false
set_option linter.unusedSimpArgs false
set_option maxRecDepth 20000
set_option maxHeartbeats 4000000
namespace Gv.Tryd
open Go Gv Go.Proofs
theorem ints_snoc (l : List Int) (x : Int) : ints l ++ [[.int .i64 x]] = ints (l ++ [x]) := by simp [ints]
theorem ints_len (l : List Int) : (ints l).length = l.length := by simp [ints]
theorem all_ints (l : List Int) : (∀ x ∈ ints l, x.length = 1) = True := eq_true fun x hx => by obtain ⟨s, _, rfl⟩ := List.mem_map.1 hx; rfl
theorem frz_ints (O : List GObj) (n : Nat) (l : List Int) : frzLL (Gv.frz O (n + 1)) (ints l) = some (ints l) :=
  frzLL_same fun x hx => by
    obtain ⟨s, _, rfl⟩ := List.mem_map.1 hx
    exact frzL_same fun y hy => by rw [List.mem_singleton.1 hy]; simp only [Gv.frz]
theorem ints_at (l : List Int) (i : Nat) (h : i < l.length) : (ints l).getD i [] = [.int .i64 (l.getD i 0)] := by simp [ints, List.getD, h]
theorem nrm {x : Int} (h : -9223372036854775808 ≤ x) (k : x ≤ 9223372036854775807) : norm .i64 x = x := norm_i64 ⟨h, k⟩
def ahP (n : Int) (j : Nat) : Int := if n.tmod 7 = 2 then n.tdiv 2 else n - 1 - j * (2 + n.tmod 5)
def ahStep (n : Int) (l : List Int) (j : Nat) : List Int := if 0 ≤ ahP n j ∧ ahP n j < n ∧ (l = [] ∨ l.getD 0 0 ≠ ahP n j) then l ++ [ahP n j] else l
def ahL (n : Int) (k : Nat) : List Int := (List.range k).foldl (ahStep n) []
theorem ahL_succ (n : Int) (k : Nat) : ahL n (k + 1) = ahStep n (ahL n k) k := by simp [ahL, List.range_succ]
theorem ahL_len (n : Int) : ∀ k : Nat, (ahL n k).length ≤ k
  | 0 => by simp [ahL]
  | k + 1 => by
    rw [ahL_succ]
    have := ahL_len n k
    unfold ahStep
    split
    · rw [List.length_append, List.length_singleton]; omega
    · omega
def ahK (n : Int) : Nat := if n = 0 ∨ n.tmod 11 = 5 then 0 else if n.tmod 4 = 3 then 2 else 1
def aheadL (n : Int) : List Int := ahL n (ahK n)
theorem aheadL_len (n : Int) : (aheadL n).length ≤ 2 := by
  have := ahL_len n (ahK n)
  unfold aheadL
  have : ahK n ≤ 2 := by unfold ahK; split <;> (try split) <;> omega
  omega
theorem gAhead (n : Int) (h0 : 0 ≤ n) (h1 : n < 60) : GPure Tryd.prog 27 [.int .i64 n] (.slice (ints (aheadL n)) .none) := by
  have m5 := Int.tmod_nonneg 5 h0
  have m5' := Int.tmod_lt_of_pos n (by decide : (0 : Int) < 5)
  have q2 : 0 ≤ n.tdiv 2 := Int.tdiv_nonneg h0 (by decide)
  have q2' : n.tdiv 2 ≤ n := Int.tdiv_le_self 2 h0
  have hP : ∀ j : Nat, ahP n j = if n.tmod 7 = 2 then n.tdiv 2 else n - 1 - j * (2 + n.tmod 5) := fun j => rfl
  refine GCalls.toPure ?_
  by_cases e0 : n = 0
  · have d0 : (n = 0) = True := eq_true e0
    have ek : ahK n = 0 := by unfold ahK; rw [if_pos (.inl e0)]
    refine h27.calls mixS (by simp) ?_
    simp only [gstart, s27, List.cons_append, List.nil_append, List.length_cons, List.length_nil, Nat.reduceAdd, Nat.reduceSub, List.replicate_succ, List.replicate_zero]
    simp +contextual -implicitDefEqProofs (maxSteps := 2000000) (disch := omega) only [↓lenV, binV, optV, ↓loadV, ↓indexAddrV, ↓buildSliceV, ↓sliceV, ↓appendV, ↓srcV, bound, cutTag, hiTag, fillE, GVal.cells, grp, GVal.ofConst, ↓resV, resG, List.map, List.headD, List.take, List.drop, ↓reduceIte, Nat.reduceEqDiff, Nat.reduceAdd, Nat.reduceSub, Nat.reduceLeDiff, reduceCtorEq, implies_true, ne_eq, ↓asrcV, aggV, Tag.cap, List.replicate, allSolid, GVal.solid, Nat.reduceBEq, Nat.reduceMul, Nat.reduceLT, List.length_map, List.length_range, splice, vcA, ↓vcB, vcC, fbFu, e27, d0, not_true_eq_false, not_false_eq_true, false_imp_iff, true_imp_iff, and_true, true_and]
    refine vcSLoop_by (ι := Unit) (fun p => ⟨[.int .i64 n, .any, .any, .slice [] .nil, .int .i64 0, .int .i64 0] ++ List.replicate 55 .any, []⟩) (fun p => 0) ?_ ?_
    · exact Into.first () ⟨[], by simp⟩ (by simp [WL, leG_self, leG_any])
    · rintro ⟨⟩
      simp +contextual -implicitDefEqProofs (maxSteps := 2000000) (disch := omega) only [↓lenV, binV, optV, ↓loadV, ↓indexAddrV, ↓buildSliceV, ↓sliceV, ↓appendV, ↓srcV, bound, cutTag, hiTag, fillE, GVal.cells, grp, GVal.ofConst, ↓resV, resG, List.map, List.headD, List.take, List.drop, ↓reduceIte, Nat.reduceEqDiff, Nat.reduceAdd, Nat.reduceSub, Nat.reduceLeDiff, reduceCtorEq, implies_true, ne_eq, ↓asrcV, aggV, Tag.cap, List.replicate, allSolid, GVal.solid, Nat.reduceBEq, Nat.reduceMul, Nat.reduceLT, List.length_map, List.length_range, splice, vcA, ↓vcB, vcC, fbFu, e27, Int.lt_irrefl, false_imp_iff, true_and]
      exact ⟨2, .slice [] .nil, by rw [Gv.frz]; rfl, by rw [leA_slice]; unfold aheadL; rw [ek]; rfl⟩
  · have d0 : (n = 0) = False := eq_false e0
    by_cases e1 : n.tmod 11 = 5
    · have d1 : (n.tmod 11 = 5) = True := eq_true e1
      have ek : ahK n = 0 := by unfold ahK; rw [if_pos (.inr e1)]
      refine h27.calls mixS (by simp) ?_
      simp only [gstart, s27, List.cons_append, List.nil_append, List.length_cons, List.length_nil, Nat.reduceAdd, Nat.reduceSub, List.replicate_succ, List.replicate_zero]
      simp +contextual -implicitDefEqProofs (maxSteps := 2000000) (disch := omega) only [↓lenV, binV, optV, ↓loadV, ↓indexAddrV, ↓buildSliceV, ↓sliceV, ↓appendV, ↓srcV, bound, cutTag, hiTag, fillE, GVal.cells, grp, GVal.ofConst, ↓resV, resG, List.map, List.headD, List.take, List.drop, ↓reduceIte, Nat.reduceEqDiff, Nat.reduceAdd, Nat.reduceSub, Nat.reduceLeDiff, reduceCtorEq, implies_true, ne_eq, ↓asrcV, aggV, Tag.cap, List.replicate, allSolid, GVal.solid, Nat.reduceBEq, Nat.reduceMul, Nat.reduceLT, List.length_map, List.length_range, splice, vcA, ↓vcB, vcC, fbFu, e27, d0, d1, not_true_eq_false, not_false_eq_true, false_imp_iff, true_imp_iff, and_true, true_and]
      refine ⟨by decide, ?_⟩
      refine vcSLoop_by (ι := Unit) (fun p => ⟨[.int .i64 n, .any, .any, .slice [] .nil, .int .i64 0, .int .i64 0] ++ List.replicate 55 .any, []⟩) (fun p => 0) ?_ ?_
      · exact Into.first () ⟨[], by simp⟩ (by simp [WL, leG_self, leG_any])
      · rintro ⟨⟩
        simp +contextual -implicitDefEqProofs (maxSteps := 2000000) (disch := omega) only [↓lenV, binV, optV, ↓loadV, ↓indexAddrV, ↓buildSliceV, ↓sliceV, ↓appendV, ↓srcV, bound, cutTag, hiTag, fillE, GVal.cells, grp, GVal.ofConst, ↓resV, resG, List.map, List.headD, List.take, List.drop, ↓reduceIte, Nat.reduceEqDiff, Nat.reduceAdd, Nat.reduceSub, Nat.reduceLeDiff, reduceCtorEq, implies_true, ne_eq, ↓asrcV, aggV, Tag.cap, List.replicate, allSolid, GVal.solid, Nat.reduceBEq, Nat.reduceMul, Nat.reduceLT, List.length_map, List.length_range, splice, vcA, ↓vcB, vcC, fbFu, e27, Int.lt_irrefl, false_imp_iff, true_and]
        exact ⟨2, .slice [] .nil, by rw [Gv.frz]; rfl, by rw [leA_slice]; unfold aheadL; rw [ek]; rfl⟩
    · have d1 : (n.tmod 11 = 5) = False := eq_false e1
      by_cases e2 : n.tmod 4 = 3
      · have d2 : (n.tmod 4 = 3) = True := eq_true e2
        have ek : ahK n = 2 := by unfold ahK; rw [if_neg (by simp [e0, e1]), if_pos e2]
        refine h27.calls mixS (by simp) ?_
        simp only [gstart, s27, List.cons_append, List.nil_append, List.length_cons, List.length_nil, Nat.reduceAdd, Nat.reduceSub, List.replicate_succ, List.replicate_zero]
        simp +contextual -implicitDefEqProofs (maxSteps := 2000000) (disch := omega) only [↓lenV, binV, optV, ↓loadV, ↓indexAddrV, ↓buildSliceV, ↓sliceV, ↓appendV, ↓srcV, bound, cutTag, hiTag, fillE, GVal.cells, grp, GVal.ofConst, ↓resV, resG, List.map, List.headD, List.take, List.drop, ↓reduceIte, Nat.reduceEqDiff, Nat.reduceAdd, Nat.reduceSub, Nat.reduceLeDiff, reduceCtorEq, implies_true, ne_eq, ↓asrcV, aggV, Tag.cap, List.replicate, allSolid, GVal.solid, Nat.reduceBEq, Nat.reduceMul, Nat.reduceLT, List.length_map, List.length_range, splice, vcA, ↓vcB, vcC, fbFu, e27, d0, d1, d2, not_true_eq_false, not_false_eq_true, false_imp_iff, true_imp_iff, and_true, true_and]
        refine ⟨by decide, by decide, ?_⟩
        refine vcSLoop_by (ι := { p : Nat × Nat // p.1 ≤ 2 }) (fun p => ⟨[.int .i64 n, .any, .any, .slice (ints (ahL n p.1.1)) (.tok 0 p.1.2), .int .i64 2, .int .i64 (p.1.1 : Nat)] ++ List.replicate 55 .any, [.tok p.1.2 1]⟩) (fun p => 2 - p.1.1) ?_ ?_
        · refine Into.tok 3 1 [] rfl rfl ?_
          simp +contextual -implicitDefEqProofs (maxSteps := 2000000) (disch := omega) only [↓lenV, binV, optV, ↓loadV, ↓indexAddrV, ↓buildSliceV, ↓sliceV, ↓appendV, ↓srcV, bound, cutTag, hiTag, fillE, GVal.cells, grp, GVal.ofConst, ↓resV, resG, List.map, List.headD, List.take, List.drop, ↓reduceIte, Nat.reduceEqDiff, Nat.reduceAdd, Nat.reduceSub, Nat.reduceLeDiff, reduceCtorEq, implies_true, ne_eq, ↓asrcV, aggV, Tag.cap, List.replicate, allSolid, GVal.solid, Nat.reduceBEq, Nat.reduceMul, Nat.reduceLT, List.length_map, List.length_range, splice, vcA, ↓vcB, vcC, fbFu, e27]
          intro t0
          exact Into.first ⟨(0, t0), by show 0 ≤ 2; omega⟩ ⟨[], by simp⟩ (by simp [WL, leG_self, leG_any, ahL, ints])
        · rintro ⟨⟨j, v⟩, hj⟩
          change j ≤ 2 at hj
          have hll := ahL_len n j
          by_cases h : j < 2
          · have dj : ((j : Int) < 2) = True := eq_true (by omega)
            have j01 : (j : Int) = 0 ∨ (j : Int) = 1 := by omega
            have mj : (j : Int) * (2 + n.tmod 5) ≤ 12 ∧ 0 ≤ (j : Int) * (2 + n.tmod 5) := by rcases j01 with e | e <;> rw [e] <;> omega
            have nm1 : norm .i64 ((j : Int) * (2 + n.tmod 5)) = (j : Int) * (2 + n.tmod 5) := nrm (by omega) (by omega)
            have nm2 : norm .i64 (n - 1 - (j : Int) * (2 + n.tmod 5)) = n - 1 - (j : Int) * (2 + n.tmod 5) := nrm (by omega) (by omega)
            simp +contextual -implicitDefEqProofs (maxSteps := 2000000) (disch := omega) only [↓lenV, binV, optV, ↓loadV, ↓indexAddrV, ↓buildSliceV, ↓sliceV, ↓appendV, ↓srcV, bound, cutTag, hiTag, fillE, GVal.cells, grp, GVal.ofConst, ↓resV, resG, List.map, List.headD, List.take, List.drop, ↓reduceIte, Nat.reduceEqDiff, Nat.reduceAdd, Nat.reduceSub, Nat.reduceLeDiff, reduceCtorEq, implies_true, ne_eq, ↓asrcV, aggV, Tag.cap, List.replicate, allSolid, GVal.solid, Nat.reduceBEq, Nat.reduceMul, Nat.reduceLT, List.length_map, List.length_range, splice, vcA, ↓vcB, vcC, fbFu, e27, dj, nm1, nm2]
            exact ⟨by decide, by decide, fun e7 => ⟨by decide, fun c1 => ⟨fun c2 => ⟨fun c3 => ⟨by omega, by omega, fun st => by
                        have hE : ahL n (j + 1) = ahL n j ++ [n.tdiv 2] := by rw [ahL_succ]; unfold ahStep; rw [hP, if_pos e7]; exact if_pos ⟨c1, c2, .inl (List.length_eq_zero_iff.1 (by omega))⟩
                        exact Into.at ⟨(j + 1, st), by show j + 1 ≤ 2; omega⟩ (by show 2 - (j + 1) < 2 - j; omega) ⟨[], by simp⟩ (by simp [WL, leG_self, leG_any, leG_int, hE, ints_snoc])⟩, fun c3 => ⟨by omega, by omega, fun c4 => ⟨by omega, by omega, fun st => by
                        have hE : ahL n (j + 1) = ahL n j ++ [n.tdiv 2] := by rw [ahL_succ]; unfold ahStep; rw [hP, if_pos e7]; exact if_pos ⟨c1, c2, .inr c4⟩
                        exact Into.at ⟨(j + 1, st), by show j + 1 ≤ 2; omega⟩ (by show 2 - (j + 1) < 2 - j; omega) ⟨[], by simp⟩ (by simp [WL, leG_self, leG_any, leG_int, hE, ints_snoc])⟩, fun c4 => by
                        have hE : ahL n (j + 1) = ahL n j := by rw [ahL_succ]; unfold ahStep; rw [hP, if_pos e7]; exact if_neg (by rintro ⟨_, _, q | q⟩; exact c3 (by rw [q]; rfl); exact q c4)
                        exact Into.at ⟨(j + 1, v), by show j + 1 ≤ 2; omega⟩ (by show 2 - (j + 1) < 2 - j; omega) ⟨[], by simp⟩ (by simp [WL, leG_self, leG_any, leG_int, hE, ints_snoc])⟩⟩, fun c2 => by
                        have hE : ahL n (j + 1) = ahL n j := by rw [ahL_succ]; unfold ahStep; rw [hP, if_pos e7]; exact if_neg (fun q => by omega)
                        exact Into.at ⟨(j + 1, v), by show j + 1 ≤ 2; omega⟩ (by show 2 - (j + 1) < 2 - j; omega) ⟨[], by simp⟩ (by simp [WL, leG_self, leG_any, leG_int, hE, ints_snoc])⟩, fun c1 => by
                        have hE : ahL n (j + 1) = ahL n j := by rw [ahL_succ]; unfold ahStep; rw [hP, if_pos e7]; exact if_neg (fun q => by omega)
                        exact Into.at ⟨(j + 1, v), by show j + 1 ≤ 2; omega⟩ (by show 2 - (j + 1) < 2 - j; omega) ⟨[], by simp⟩ (by simp [WL, leG_self, leG_any, leG_int, hE, ints_snoc])⟩, fun e7 => ⟨fun c1 => ⟨fun c2 => ⟨fun c3 => ⟨by omega, by omega, fun st => by
                        have hE : ahL n (j + 1) = ahL n j ++ [(n - 1 - (j : Int) * (2 + n.tmod 5))] := by rw [ahL_succ]; unfold ahStep; rw [hP, if_neg e7]; exact if_pos ⟨c1, c2, .inl (List.length_eq_zero_iff.1 (by omega))⟩
                        exact Into.at ⟨(j + 1, st), by show j + 1 ≤ 2; omega⟩ (by show 2 - (j + 1) < 2 - j; omega) ⟨[], by simp⟩ (by simp [WL, leG_self, leG_any, leG_int, hE, ints_snoc])⟩, fun c3 => ⟨by omega, by omega, fun c4 => ⟨by omega, by omega, fun st => by
                        have hE : ahL n (j + 1) = ahL n j ++ [(n - 1 - (j : Int) * (2 + n.tmod 5))] := by rw [ahL_succ]; unfold ahStep; rw [hP, if_neg e7]; exact if_pos ⟨c1, c2, .inr c4⟩
                        exact Into.at ⟨(j + 1, st), by show j + 1 ≤ 2; omega⟩ (by show 2 - (j + 1) < 2 - j; omega) ⟨[], by simp⟩ (by simp [WL, leG_self, leG_any, leG_int, hE, ints_snoc])⟩, fun c4 => by
                        have hE : ahL n (j + 1) = ahL n j := by rw [ahL_succ]; unfold ahStep; rw [hP, if_neg e7]; exact if_neg (by rintro ⟨_, _, q | q⟩; exact c3 (by rw [q]; rfl); exact q c4)
                        exact Into.at ⟨(j + 1, v), by show j + 1 ≤ 2; omega⟩ (by show 2 - (j + 1) < 2 - j; omega) ⟨[], by simp⟩ (by simp [WL, leG_self, leG_any, leG_int, hE, ints_snoc])⟩⟩, fun c2 => by
                        have hE : ahL n (j + 1) = ahL n j := by rw [ahL_succ]; unfold ahStep; rw [hP, if_neg e7]; exact if_neg (fun q => by omega)
                        exact Into.at ⟨(j + 1, v), by show j + 1 ≤ 2; omega⟩ (by show 2 - (j + 1) < 2 - j; omega) ⟨[], by simp⟩ (by simp [WL, leG_self, leG_any, leG_int, hE, ints_snoc])⟩, fun c1 => by
                        have hE : ahL n (j + 1) = ahL n j := by rw [ahL_succ]; unfold ahStep; rw [hP, if_neg e7]; exact if_neg (fun q => by omega)
                        exact Into.at ⟨(j + 1, v), by show j + 1 ≤ 2; omega⟩ (by show 2 - (j + 1) < 2 - j; omega) ⟨[], by simp⟩ (by simp [WL, leG_self, leG_any, leG_int, hE, ints_snoc])⟩⟩
          · have dj : ((j : Int) < 2) = False := eq_false (by omega)
            have e : ahL n j = ahL n 2 := by rw [show j = 2 by omega]
            simp +contextual -implicitDefEqProofs (maxSteps := 2000000) (disch := omega) only [↓lenV, binV, optV, ↓loadV, ↓indexAddrV, ↓buildSliceV, ↓sliceV, ↓appendV, ↓srcV, bound, cutTag, hiTag, fillE, GVal.cells, grp, GVal.ofConst, ↓resV, resG, List.map, List.headD, List.take, List.drop, ↓reduceIte, Nat.reduceEqDiff, Nat.reduceAdd, Nat.reduceSub, Nat.reduceLeDiff, reduceCtorEq, implies_true, ne_eq, ↓asrcV, aggV, Tag.cap, List.replicate, allSolid, GVal.solid, Nat.reduceBEq, Nat.reduceMul, Nat.reduceLT, List.length_map, List.length_range, splice, vcA, ↓vcB, vcC, fbFu, e27, dj, e]
            exact ⟨2, .slice (ints (ahL n 2)) (Tag.frz (.tok 0 v)), by rw [Gv.frz, frz_ints], by rw [leA_slice]; unfold aheadL; rw [ek]⟩
      · have d2 : (n.tmod 4 = 3) = False := eq_false e2
        have ek : ahK n = 1 := by unfold ahK; rw [if_neg (by simp [e0, e1]), if_neg e2]
        refine h27.calls mixS (by simp) ?_
        simp only [gstart, s27, List.cons_append, List.nil_append, List.length_cons, List.length_nil, Nat.reduceAdd, Nat.reduceSub, List.replicate_succ, List.replicate_zero]
        simp +contextual -implicitDefEqProofs (maxSteps := 2000000) (disch := omega) only [↓lenV, binV, optV, ↓loadV, ↓indexAddrV, ↓buildSliceV, ↓sliceV, ↓appendV, ↓srcV, bound, cutTag, hiTag, fillE, GVal.cells, grp, GVal.ofConst, ↓resV, resG, List.map, List.headD, List.take, List.drop, ↓reduceIte, Nat.reduceEqDiff, Nat.reduceAdd, Nat.reduceSub, Nat.reduceLeDiff, reduceCtorEq, implies_true, ne_eq, ↓asrcV, aggV, Tag.cap, List.replicate, allSolid, GVal.solid, Nat.reduceBEq, Nat.reduceMul, Nat.reduceLT, List.length_map, List.length_range, splice, vcA, ↓vcB, vcC, fbFu, e27, d0, d1, d2, not_true_eq_false, not_false_eq_true, false_imp_iff, true_imp_iff, and_true, true_and]
        refine ⟨by decide, by decide, ?_⟩
        refine vcSLoop_by (ι := { p : Nat × Nat // p.1 ≤ 1 }) (fun p => ⟨[.int .i64 n, .any, .any, .slice (ints (ahL n p.1.1)) (.tok 0 p.1.2), .int .i64 1, .int .i64 (p.1.1 : Nat)] ++ List.replicate 55 .any, [.tok p.1.2 1]⟩) (fun p => 1 - p.1.1) ?_ ?_
        · refine Into.tok 3 1 [] rfl rfl ?_
          simp +contextual -implicitDefEqProofs (maxSteps := 2000000) (disch := omega) only [↓lenV, binV, optV, ↓loadV, ↓indexAddrV, ↓buildSliceV, ↓sliceV, ↓appendV, ↓srcV, bound, cutTag, hiTag, fillE, GVal.cells, grp, GVal.ofConst, ↓resV, resG, List.map, List.headD, List.take, List.drop, ↓reduceIte, Nat.reduceEqDiff, Nat.reduceAdd, Nat.reduceSub, Nat.reduceLeDiff, reduceCtorEq, implies_true, ne_eq, ↓asrcV, aggV, Tag.cap, List.replicate, allSolid, GVal.solid, Nat.reduceBEq, Nat.reduceMul, Nat.reduceLT, List.length_map, List.length_range, splice, vcA, ↓vcB, vcC, fbFu, e27]
          intro t0
          exact Into.first ⟨(0, t0), by show 0 ≤ 1; omega⟩ ⟨[], by simp⟩ (by simp [WL, leG_self, leG_any, ahL, ints])
        · rintro ⟨⟨j, v⟩, hj⟩
          change j ≤ 1 at hj
          have hll := ahL_len n j
          by_cases h : j < 1
          · have dj : ((j : Int) < 1) = True := eq_true (by omega)
            have j01 : (j : Int) = 0 ∨ (j : Int) = 1 := by omega
            have mj : (j : Int) * (2 + n.tmod 5) ≤ 12 ∧ 0 ≤ (j : Int) * (2 + n.tmod 5) := by rcases j01 with e | e <;> rw [e] <;> omega
            have nm1 : norm .i64 ((j : Int) * (2 + n.tmod 5)) = (j : Int) * (2 + n.tmod 5) := nrm (by omega) (by omega)
            have nm2 : norm .i64 (n - 1 - (j : Int) * (2 + n.tmod 5)) = n - 1 - (j : Int) * (2 + n.tmod 5) := nrm (by omega) (by omega)
            simp +contextual -implicitDefEqProofs (maxSteps := 2000000) (disch := omega) only [↓lenV, binV, optV, ↓loadV, ↓indexAddrV, ↓buildSliceV, ↓sliceV, ↓appendV, ↓srcV, bound, cutTag, hiTag, fillE, GVal.cells, grp, GVal.ofConst, ↓resV, resG, List.map, List.headD, List.take, List.drop, ↓reduceIte, Nat.reduceEqDiff, Nat.reduceAdd, Nat.reduceSub, Nat.reduceLeDiff, reduceCtorEq, implies_true, ne_eq, ↓asrcV, aggV, Tag.cap, List.replicate, allSolid, GVal.solid, Nat.reduceBEq, Nat.reduceMul, Nat.reduceLT, List.length_map, List.length_range, splice, vcA, ↓vcB, vcC, fbFu, e27, dj, nm1, nm2]
            exact ⟨by decide, by decide, fun e7 => ⟨by decide, fun c1 => ⟨fun c2 => ⟨fun c3 => ⟨by omega, by omega, fun st => by
                        have hE : ahL n (j + 1) = ahL n j ++ [n.tdiv 2] := by rw [ahL_succ]; unfold ahStep; rw [hP, if_pos e7]; exact if_pos ⟨c1, c2, .inl (List.length_eq_zero_iff.1 (by omega))⟩
                        exact Into.at ⟨(j + 1, st), by show j + 1 ≤ 1; omega⟩ (by show 1 - (j + 1) < 1 - j; omega) ⟨[], by simp⟩ (by simp [WL, leG_self, leG_any, leG_int, hE, ints_snoc])⟩, fun c3 => (c3 (by omega)).elim⟩, fun c2 => by
                        have hE : ahL n (j + 1) = ahL n j := by rw [ahL_succ]; unfold ahStep; rw [hP, if_pos e7]; exact if_neg (fun q => by omega)
                        exact Into.at ⟨(j + 1, v), by show j + 1 ≤ 1; omega⟩ (by show 1 - (j + 1) < 1 - j; omega) ⟨[], by simp⟩ (by simp [WL, leG_self, leG_any, leG_int, hE, ints_snoc])⟩, fun c1 => by
                        have hE : ahL n (j + 1) = ahL n j := by rw [ahL_succ]; unfold ahStep; rw [hP, if_pos e7]; exact if_neg (fun q => by omega)
                        exact Into.at ⟨(j + 1, v), by show j + 1 ≤ 1; omega⟩ (by show 1 - (j + 1) < 1 - j; omega) ⟨[], by simp⟩ (by simp [WL, leG_self, leG_any, leG_int, hE, ints_snoc])⟩, fun e7 => ⟨fun c1 => ⟨fun c2 => ⟨fun c3 => ⟨by omega, by omega, fun st => by
                        have hE : ahL n (j + 1) = ahL n j ++ [(n - 1 - (j : Int) * (2 + n.tmod 5))] := by rw [ahL_succ]; unfold ahStep; rw [hP, if_neg e7]; exact if_pos ⟨c1, c2, .inl (List.length_eq_zero_iff.1 (by omega))⟩
                        exact Into.at ⟨(j + 1, st), by show j + 1 ≤ 1; omega⟩ (by show 1 - (j + 1) < 1 - j; omega) ⟨[], by simp⟩ (by simp [WL, leG_self, leG_any, leG_int, hE, ints_snoc])⟩, fun c3 => (c3 (by omega)).elim⟩, fun c2 => by
                        have hE : ahL n (j + 1) = ahL n j := by rw [ahL_succ]; unfold ahStep; rw [hP, if_neg e7]; exact if_neg (fun q => by omega)
                        exact Into.at ⟨(j + 1, v), by show j + 1 ≤ 1; omega⟩ (by show 1 - (j + 1) < 1 - j; omega) ⟨[], by simp⟩ (by simp [WL, leG_self, leG_any, leG_int, hE, ints_snoc])⟩, fun c1 => by
                        have hE : ahL n (j + 1) = ahL n j := by rw [ahL_succ]; unfold ahStep; rw [hP, if_neg e7]; exact if_neg (fun q => by omega)
                        exact Into.at ⟨(j + 1, v), by show j + 1 ≤ 1; omega⟩ (by show 1 - (j + 1) < 1 - j; omega) ⟨[], by simp⟩ (by simp [WL, leG_self, leG_any, leG_int, hE, ints_snoc])⟩⟩
          · have dj : ((j : Int) < 1) = False := eq_false (by omega)
            have e : ahL n j = ahL n 1 := by rw [show j = 1 by omega]
            simp +contextual -implicitDefEqProofs (maxSteps := 2000000) (disch := omega) only [↓lenV, binV, optV, ↓loadV, ↓indexAddrV, ↓buildSliceV, ↓sliceV, ↓appendV, ↓srcV, bound, cutTag, hiTag, fillE, GVal.cells, grp, GVal.ofConst, ↓resV, resG, List.map, List.headD, List.take, List.drop, ↓reduceIte, Nat.reduceEqDiff, Nat.reduceAdd, Nat.reduceSub, Nat.reduceLeDiff, reduceCtorEq, implies_true, ne_eq, ↓asrcV, aggV, Tag.cap, List.replicate, allSolid, GVal.solid, Nat.reduceBEq, Nat.reduceMul, Nat.reduceLT, List.length_map, List.length_range, splice, vcA, ↓vcB, vcC, fbFu, e27, dj, e]
            exact ⟨2, .slice (ints (ahL n 1)) (Tag.frz (.tok 0 v)), by rw [Gv.frz, frz_ints], by rw [leA_slice]; unfold aheadL; rw [ek]⟩
end Gv.Tryd
/- Less is said of a row that the call owns. -/
set_option linter.unusedVariables false
namespace Gv
open Go
theorem Into.rowLe {st : GSt} {N : GSt → Prop} (i : Nat) {t sz : Nat} (xs ys : List (List GVal)) (hO : st.o[i]? = some (.row t sz xs)) (hw : GLess xs ys) (h : Into ⟨st.s, st.o.set i (.row t sz ys)⟩ N) : Into st N := by
  intro E a w hs' ha
  obtain ⟨h1, h2, h3⟩ := hw.flat
  obtain ⟨l, _, _, hz, _⟩ := hs'.real i _ hO
  obtain ⟨q1, q2⟩ := hs'.cells hO (ys := ys) h2.symm (fun y hy => h3 sz hz y hy) (fun j g' hj => by
    obtain ⟨g, hg, hl⟩ := h1.at_ j g' hj
    exact ⟨g, hg, fun v hv => hl _ _ hv⟩)
  obtain ⟨st', E', r1, r2, r3, r4⟩ := h E a w q1 ha
  exact ⟨st', E', r1, r2, q2.trans r3, r4⟩
end Gv
namespace Gv
open Go
end Gv
