/- Contracts: the reference's Check. -/
import Derived.Test.YtgkglnjmiobdmaaGreatDoorP11
import Derived.Test.YtgkglnjmiobdmaaGreatDoorP9
set_option linter.unusedVariables false
set_option linter.unusedSimpArgs false
set_option maxRecDepth 20000
set_option maxHeartbeats 8000000
namespace Gv.Tryz
open Go Gv Go.Proofs
open Nat (reduceEqDiff reduceAdd reduceSub reduceLeDiff reduceMul reduceLT)
def chkV : Er → GVal
  | none => .tuple [.int .i64 0, .agg (bytesG h0.1), .bool false]
  | some (none, n) => .tuple [.int .i64 n, .agg (bytesG h0.1), .bool false]
  | some (some h, n) => .tuple [.int .i64 n, .agg (bytesG h.1), .bool true]
noncomputable def checkE (gr : Int) (L : GM) (cs : List Cm) (hs : List Hs) : Er := match joinedP gr L cs hs with
  | .error e => some e
  | .ok _ => none
theorem zeroH : ([.int .u8 0, .int .u8 0, .int .u8 0, .int .u8 0, .int .u8 0, .int .u8 0, .int .u8 0, .int .u8 0, .int .u8 0, .int .u8 0, .int .u8 0, .int .u8 0, .int .u8 0, .int .u8 0, .int .u8 0, .int .u8 0, .int .u8 0, .int .u8 0, .int .u8 0, .int .u8 0, .int .u8 0, .int .u8 0, .int .u8 0, .int .u8 0, .int .u8 0, .int .u8 0, .int .u8 0, .int .u8 0, .int .u8 0, .int .u8 0, .int .u8 0, .int .u8 0] : List GVal) = bytesG h0.1 := rfl
section
variable {gr : Int} {L M : GM} {cs : List Cm} {hs : List Hs}
theorem ck_bad (h : badReq gr cs.length hs.length) : checkE gr L cs hs = some (none, 1) := by
  unfold checkE joinedP sizesP
  rw [if_pos h]
theorem ck_size {e : Option Hs × Int} (h : ¬ badReq gr cs.length hs.length) (h1 : cs.findSome? sizeE = some e) : checkE gr L cs hs = some e := by
  unfold checkE joinedP sizesP
  rw [if_neg h, h1]
theorem ck_join {x : Hs} {n : Int} (h1 : sizesP gr hs.length cs = none) (h2 : joinP L cs = .error (x, n)) : checkE gr L cs hs = some (some x, n) := by
  unfold checkE joinedP
  rw [h1]
  simp only [h2]
theorem ck_lack {e : Option Hs × Int} (h1 : sizesP gr hs.length cs = none) (h2 : joinP L cs = .ok M) (h3 : lackP M cs hs = some e) : checkE gr L cs hs = some e := by
  unfold checkE joinedP
  rw [h1]
  simp only [h2, h3]
theorem ck_round {e : Option Hs × Int} (h1 : sizesP gr hs.length cs = none) (h2 : joinP L cs = .ok M) (h3 : lackP M cs hs = none) (h4 : roundP L M cs = some e) : checkE gr L cs hs = some e := by
  unfold checkE joinedP
  rw [h1]
  simp only [h2, h3, h4]
theorem ck_full (h1 : sizesP gr hs.length cs = none) (h2 : joinP L cs = .ok M) (h3 : lackP M cs hs = none) (h4 : roundP L M cs = none) (h5 : 1000 < M.length) : checkE gr L cs hs = some (none, 13) := by
  unfold checkE joinedP
  rw [h1]
  simp only [h2, h3, h4, if_pos h5]
theorem ck_ok (h1 : sizesP gr hs.length cs = none) (h2 : joinP L cs = .ok M) (h3 : lackP M cs hs = none) (h4 : roundP L M cs = none) (h5 : ¬ 1000 < M.length) : checkE gr L cs hs = none := by
  unfold checkE joinedP
  rw [h1]
  simp only [h2, h3, h4, if_neg h5]
end
theorem old_acyc {m M : GM} {cs : List Cm} (hm : Good m) (h : joinP m cs = .ok M) {x : Hs} (hx : (look m x).isSome = true) : ¬ Reach (parsM M) (parsM M x) x := by
  obtain ⟨_, k2, _, _⟩ := join_spec h hm.keys
  obtain ⟨l, eo⟩ := Option.isSome_iff_exists.1 hx
  rw [parsM_some (k2 x l eo)]
  intro hr
  have : ∀ z, Reach (parsM M) l z → Reach (parsM m) l z ∧ (look m z).isSome = true := fun z hz => by
    induction hz with
    | base z hz => exact ⟨.base z hz, hm.closed x z (by rw [parsM_some eo]; exact hz)⟩
    | step z y _ hy ih =>
      obtain ⟨lz, hlz⟩ := Option.isSome_iff_exists.1 ih.2
      rw [parsM_some (k2 z lz hlz)] at hy
      have hy' : y ∈ parsM m z := by rw [parsM_some hlz]; exact hy
      exact ⟨.step z y ih.1 hy', hm.closed z y hy'⟩
  exact hm.acyc x (by rw [parsM_some eo]; exact (this x hr).1)
noncomputable def refE (X : GM) (c : Cm) : Er := if roundB X c.1 = true then some (some c.1, 12) else none
theorem findSome_congr {α β : Type} {f g : α → Option β} : ∀ {l : List α}, (∀ c ∈ l, f c = g c) → l.findSome? f = l.findSome? g
  | [], _ => rfl
  | c :: r, h => by
    rw [List.findSome?_cons, List.findSome?_cons, h c (by simp), findSome_congr fun x hx => h x (by simp [hx])]
theorem round_ref {L M X : GM} {cs : List Cm} (hg : Good L) (h : joinP L cs = .ok M) (ha : Alike M X) : cs.findSome? (refE X) = roundP L M cs := by
  obtain ⟨_, k2, k3, _⟩ := join_spec h hg.keys
  unfold roundP
  refine findSome_congr fun c hc => ?_
  have e3 := k3 c hc
  have hr : roundB X c.1 = roundB M c.1 := by unfold roundB; rw [ha.pars]
  unfold refE roundE
  rw [hr]
  cases ho : (look L c.1).isSome with
  | true => rw [roundB_no (old_acyc hg h ho)]; simp
  | false =>
    simp only [Bool.false_eq_true, if_false]
    by_cases q : Reach (parsM M) c.2 c.1
    · rw [roundB_yes (by rw [parsM_some e3]; exact q), if_pos q]; rfl
    · rw [roundB_no (by rw [parsM_some e3]; exact q), if_neg q]; rfl
theorem solA (l : List UInt8) : (∀ c ∈ bytesG l, c.solid = true) = True := by
  rw [allSolid_eq]; exact sol_bytes l
theorem GCalls.own1' {P : Program} {f : FuncId} {args args' : List GVal} {x y : GObj} {r : GVal} (h : GCalls P f args [x] (fun g O' => g = r ∧ O' = [y])) {O O2 : List GObj} (i : Nat) (hO : O[i]? = some x) (ha : args.map (GVal.place i) = args') (hx : x.isClock = false) (hy : y.isClock = false) (hc : clockOf O = none) (h2 : O.set i y = O2) :
    GCalls P f args' O (fun g O' => g = r ∧ O' = O2) := by
  subst ha h2
  refine (GCalls.ownFrame (R := fun g x' => g = r ∧ x' = y) (h.mono (by rintro g O' ⟨rfl, rfl⟩; exact ⟨y, rfl, rfl, rfl⟩)) i hO hc (fun g x' q => by rw [q.2]; exact hy) hx).mono ?_
  rintro g O' ⟨x', rfl, rfl, rfl⟩
  exact ⟨rfl, rfl⟩
theorem takeHs (l : List Hs) (k : Nat) : List.take k (hsG l) = hsG (l.take k) := take_hs l k
theorem twice_at {l : List Hs} {k : Nat} (h : k < l.length) (hn : (l.take k).Nodup) : (l.getD k h0 ∈ l.take k → twiceB l = true) ∧ (l.getD k h0 ∉ l.take k → (l.take (k + 1)).Nodup) := by
  have ht := takeH h
  constructor
  · intro hm
    rw [twice_iff]
    intro q
    have h2 : (l.take (k + 1)).Nodup := q.sublist (List.take_sublist _ _)
    rw [ht, List.nodup_append] at h2
    exact h2.2.2 _ hm _ (by simp) rfl
  · intro hm
    rw [ht, List.nodup_append]
    exact ⟨hn, by simp, fun a ha b hb => by rw [List.mem_singleton.1 hb]; exact fun e => hm (e ▸ ha)⟩
theorem rCheck1 (L : GM) (hL : SSC L) (hg : Good L) (cs : List Cm) (hs : List Hs) (th : Tag) (gr : Int) (rt : Nat) (hc : cs.length ≤ 1000000) (hh : hs.length ≤ 1000000) (hp : ∀ c ∈ cs, c.2.length ≤ 1000000) (d1 : (gr = 1) = True) (hgr : gr = 1 ∨ gr = 2) :
    GCalls Tryz.prog 8 [.ptr 0 rt 0 0, .agg (reqG cs hs th gr)] (rObj rt L) (fun g O' => g = chkV (checkE gr L cs hs) ∧ O' = rObj rt L) := by
  refine GCalls.dropTo ?_
  by_cases h2 : 200 < cs.length
  · rw [ck_bad (.inr (.inl h2))]
    have d2 : ((200 : Int) < (cs.length : Int)) = True := eq_true (by omega)
    clear h2 hgr
    refine h8.calls mixS (by simp) ?_
    simp only [gstart, s8, List.cons_append, List.nil_append, List.length_cons, List.length_nil, reduceAdd, reduceSub, List.replicate_succ, List.replicate_zero]
    simp +contextual -implicitDefEqProofs (maxSteps := 2000000) (disch := omega) only [drawC, drawK, ↓lenV, binV, ↓loadV, ↓storeV, ↓fieldAddrV, ↓allocV, ↓boxV, ↓buildV, fillG, GVal.cells, grp, GVal.ofConst, ↓resV, resG, List.map, List.headD, List.take, List.drop, reduceEqDiff, reduceAdd, reduceLeDiff, reduceCtorEq, implies_true, ne_eq, allSolid, GVal.solid, splice, vcA, ↓vcB, vcC, fbFw, e8, d1, d2, csG_len, zeroH, drop32y, sol_bytes, ↓solA, len32, take32, not_true_eq_false, false_imp_iff, true_imp_iff]
    exact fun s5 s7 => ⟨_, rObj rt L, [.row s5 32 [bytesG h0.1], .row s7 32 [bytesG h0.1]], rfl, leA_refl _, rfl, rfl⟩
  · have d2 : ((200 : Int) < (cs.length : Int)) = False := eq_false (by omega)
    by_cases h3 : 200 < hs.length
    · rw [ck_bad (.inr (.inr h3))]
      have d3 : ((200 : Int) < (hs.length : Int)) = True := eq_true (by omega)
      clear h2 h3 hgr
      refine h8.calls mixS (by simp) ?_
      simp only [gstart, s8, List.cons_append, List.nil_append, List.length_cons, List.length_nil, reduceAdd, reduceSub, List.replicate_succ, List.replicate_zero]
      simp +contextual -implicitDefEqProofs (maxSteps := 2000000) (disch := omega) only [drawC, drawK, ↓lenV, binV, ↓loadV, ↓storeV, ↓fieldAddrV, ↓allocV, ↓boxV, ↓buildV, fillG, GVal.cells, grp, GVal.ofConst, ↓resV, resG, List.map, List.headD, List.take, List.drop, reduceEqDiff, reduceAdd, reduceLeDiff, reduceCtorEq, implies_true, ne_eq, allSolid, GVal.solid, splice, vcA, ↓vcB, vcC, fbFw, e8, d1, d2, d3, csG_len, hsG_len, zeroH, drop32y, sol_bytes, ↓solA, len32, take32, not_true_eq_false, false_imp_iff, true_imp_iff]
      exact fun s5 s7 => ⟨_, rObj rt L, [.row s5 32 [bytesG h0.1], .row s7 32 [bytesG h0.1]], rfl, leA_refl _, rfl, rfl⟩
    · have d3 : ((200 : Int) < (hs.length : Int)) = False := eq_false (by omega)
      have nbad : ¬ badReq gr cs.length hs.length := by
        rintro (q | q | q)
        · omega
        · exact h2 q
        · exact h3 q
      have hLl := hg.ok.len
      refine h8.calls mixS (by simp) ?_
      simp only [gstart, s8, List.cons_append, List.nil_append, List.length_cons, List.length_nil, reduceAdd, reduceSub, List.replicate_succ, List.replicate_zero]
      simp +contextual -implicitDefEqProofs (maxSteps := 2000000) (disch := omega) only [drawC, drawK, ↓lenV, binV, ↓loadV, ↓storeV, ↓fieldAddrV, ↓allocV, ↓boxV, ↓buildV, fillG, GVal.cells, grp, GVal.ofConst, ↓resV, resG, List.map, List.headD, List.take, List.drop, reduceEqDiff, reduceAdd, reduceLeDiff, reduceCtorEq, implies_true, ne_eq, allSolid, GVal.solid, splice, vcA, ↓vcB, vcC, fbFw, e8, d1, d2, d3, csG_len, hsG_len, zeroH, drop32y, sol_bytes, ↓solA, len32, take32, not_true_eq_false, false_imp_iff, true_imp_iff]
      intro s5 s7
      refine vcSLoop_by (ι := { k : Nat // k ≤ cs.length ∧ cs.findSome? sizeE = (cs.drop k).findSome? sizeE }) (fun k => ⟨[.ptr 0 rt 0 0, .any, .any, .ref (reqG cs hs th gr), .any, .ptr 1 s5 0 0, .any, .ptr 2 s7 0 0, .int .i64 (k.1 : Nat)] ++ List.replicate 187 .any, [.row rt 1 [[.slice (csG L) .none]], .row s5 32 [bytesG h0.1], .row s7 32 [bytesG h0.1]]⟩) (fun k => cs.length - k.1) ?_ ?_
      · exact Into.first ⟨0, by omega, by simp⟩ ⟨[], by simp⟩ (by simp [WL, leG_self, leG_any])
      · rintro ⟨k, hk, hf⟩
        by_cases h : k < cs.length
        · have d0 : ((k : Int) < (cs.length : Int)) = True := eq_true (by omega)
          have eS := csG_at cs k h
          have hx := hp _ (memC h)
          rw [findC h] at hf
          generalize cs.getD k default = x at *
          obtain ⟨xh, xp⟩ := x
          change xp.length ≤ 1000000 at hx
          by_cases c4 : 4 < xp.length
          · have d4 : ((4 : Int) < (xp.length : Int)) = True := eq_true (by omega)
            have e1 : sizeE (xh, xp) = some (some xh, 8) := by rw [sizeE, if_pos c4]
            rw [e1] at hf
            simp +contextual -implicitDefEqProofs (maxSteps := 2000000) (disch := omega) only [drawC, drawK, ↓lenV, binV, ↓loadV, ↓storeV, ↓fieldAddrV, ↓indexAddrV, ↓allocV, GVal.cells, grp, GVal.ofConst, ↓resV, resG, List.headD, List.take, List.drop, reduceEqDiff, reduceAdd, reduceLeDiff, reduceCtorEq, implies_true, List.replicate, GVal.solid, splice, vcA, ↓vcB, vcC, fbFw, csG_len, hsG_len, drop32y, sol_bytes, comG, take32a, drop32a, take33a, len33, solid33, len32, take32, d0, eS, d4]
            refine ⟨by omega, fun u => ?_⟩
            rw [ck_size nbad hf]
            exact ⟨_, rObj rt L, [.row s5 32 [bytesG xh.1], .row s7 32 [bytesG h0.1], .row u 33 [comG (xh, xp)]], rfl, leA_refl _, rfl, rfl⟩
          · have d4 : ((4 : Int) < (xp.length : Int)) = False := eq_false (by omega)
            simp +contextual -implicitDefEqProofs (maxSteps := 2000000) (disch := omega) only [drawC, drawK, ↓lenV, binV, ↓loadV, ↓storeV, ↓fieldAddrV, ↓indexAddrV, ↓allocV, GVal.cells, grp, GVal.ofConst, ↓resV, resG, List.headD, List.take, List.drop, reduceEqDiff, reduceAdd, reduceLeDiff, reduceCtorEq, implies_true, List.replicate, GVal.solid, splice, vcA, ↓vcB, vcC, fbFw, csG_len, hsG_len, drop32y, sol_bytes, comG, take32a, drop32a, take33a, len33, solid33, len32, take32, d0, eS, d4]
            refine ⟨by omega, fun u => ?_⟩
            refine vcSLoop_by (ι := { j : Nat // j ≤ xp.length ∧ (xp.take j).Nodup }) (fun j => ⟨[.ptr 0 rt 0 0, .any, .any, .ref (reqG cs hs th gr), .any, .ptr 1 s5 0 0, .any, .ptr 2 s7 0 0, .int .i64 (k : Nat), .ptr 3 u 0 0, .int .i64 (j.1 : Nat)] ++ List.replicate 185 .any, [.row rt 1 [[.slice (csG L) .none]], .row s5 32 [bytesG h0.1], .row s7 32 [bytesG h0.1]] ++ [.row u 33 [comG (xh, xp)]]⟩) (fun j => xp.length - j.1) ?_ ?_
            · exact Into.first ⟨0, by omega, by simp⟩ ⟨[], by simp [comG]⟩ (by simp [WL, leG_self, leG_any])
            · rintro ⟨j, hj, hnd⟩
              by_cases h' : j < xp.length
              · have d5 : ((j : Int) < (xp.length : Int)) = True := eq_true (by omega)
                have eP := hsG_at xp j h'
                have tw := twice_at h' hnd
                generalize xp.getD j h0 = y at *
                have cI := hIn (xp.take j) .none y (by rw [List.length_take]; omega)
                by_cases hy : y ∈ xp.take j
                · rw [decide_eq_true hy] at cI
                  have e1 : sizeE (xh, xp) = some (some xh, 1) := by rw [sizeE, if_neg c4, if_pos (tw.1 hy)]
                  rw [e1] at hf
                  simp +contextual -implicitDefEqProofs (maxSteps := 2000000) (disch := omega) only [drawC, drawK, ↓lenV, binV, optV, ↓loadV, ↓fieldAddrV, ↓indexAddrV, ↓sliceV, bound, cutTag, grp, List.map, List.headD, List.take, reduceEqDiff, reduceAdd, reduceLeDiff, reduceCtorEq, implies_true, List.replicate, vcA, ↓vcB, vcC, fbFw, all_hsG, hsG_len, comG, drop32a, len33, len32, take32, d5, eP, takeHs, toNat0]
                  refine ⟨by omega, by omega, by omega, by omega, ?_⟩
                  refine cI.then ?_ (by rfl)
                  simp +contextual -implicitDefEqProofs (maxSteps := 2000000) (disch := omega) only [drawC, drawK, ↓loadV, ↓storeV, ↓fieldAddrV, GVal.cells, grp, GVal.ofConst, ↓resV, resG, List.take, List.drop, reduceEqDiff, reduceLeDiff, reduceCtorEq, splice, vcA, ↓vcB, vcC, fbFw, drop32y, sol_bytes, take32a, len33, len32, take32]
                  rw [ck_size nbad hf]
                  exact ⟨_, rObj rt L, [.row s5 32 [bytesG xh.1], .row s7 32 [bytesG h0.1], .row u 33 [comG (xh, xp)]], rfl, leA_refl _, rfl, rfl⟩
                · rw [decide_eq_false hy] at cI
                  simp +contextual -implicitDefEqProofs (maxSteps := 2000000) (disch := omega) only [drawC, drawK, ↓lenV, binV, optV, ↓loadV, ↓fieldAddrV, ↓indexAddrV, ↓sliceV, bound, cutTag, grp, List.map, List.headD, List.take, reduceEqDiff, reduceAdd, reduceLeDiff, reduceCtorEq, implies_true, List.replicate, vcA, ↓vcB, vcC, fbFw, all_hsG, hsG_len, comG, drop32a, len33, len32, take32, d5, eP, takeHs, toNat0]
                  refine ⟨by omega, by omega, by omega, by omega, ?_⟩
                  refine cI.then ?_ (by rfl)
                  simp +contextual -implicitDefEqProofs (maxSteps := 2000000) (disch := omega) only [drawC, drawK, binV, GVal.ofConst, vcA, ↓vcB, vcC]
                  exact Into.at ⟨j + 1, by omega, tw.2 hy⟩ (by show xp.length - (j + 1) < xp.length - j; omega) ⟨[], by simp []⟩ (by simp [WL, leG_self, leG_any])
              · have d5 : ((j : Int) < (xp.length : Int)) = False := eq_false (by omega)
                have e1 : sizeE (xh, xp) = none := by
                  rw [sizeE, if_neg c4, if_neg]
                  rw [twice_iff]
                  rw [List.take_of_length_le (by omega)] at hnd
                  exact fun q => q hnd
                rw [e1] at hf
                simp +contextual -implicitDefEqProofs (maxSteps := 2000000) (disch := omega) only [drawC, drawK, ↓lenV, binV, optV, ↓loadV, ↓fieldAddrV, ↓indexAddrV, ↓sliceV, bound, cutTag, grp, GVal.ofConst, List.map, List.headD, List.take, ↓reduceIte, reduceEqDiff, reduceAdd, reduceLeDiff, reduceCtorEq, implies_true, List.replicate, vcA, ↓vcB, vcC, fbFw, all_hsG, hsG_len, comG, drop32a, len33, d5]
                exact Into.at ⟨k + 1, by omega, hf⟩ (by show cs.length - (k + 1) < cs.length - k; omega) ⟨[.row u 33 [comG (xh, xp)]], by simp [comG]⟩ (by simp [WL, leG_self, leG_any])
        · have d0 : ((k : Int) < (cs.length : Int)) = False := eq_false (by omega)
          rw [List.drop_of_length_le (by omega)] at hf
          have e1 : sizesP gr hs.length cs = none := by unfold sizesP; rw [if_neg nbad, hf]; rfl
          simp +contextual -implicitDefEqProofs (maxSteps := 2000000) (disch := omega) only [drawC, drawK, ↓lenV, binV, ↓loadV, ↓storeV, ↓fieldAddrV, ↓indexAddrV, ↓allocV, ↓boxV, ↓buildV, ↓nilV, fillG, place, GVal.cells, grp, GVal.ofConst, ↓resV, resG, List.map, List.headD, List.take, List.drop, ↓reduceIte, reduceEqDiff, reduceAdd, reduceLeDiff, reduceCtorEq, implies_true, List.replicate, allSolid, GVal.solid, Nat.reduceBEq, splice, vcA, ↓vcB, vcC, fbFw, csG_len, len32, d0]
          intro sx
          obtain ⟨n1, n2, _, n4⟩ := sizesP_none e1
          refine vcSLoop_by (ι := { p : Nat × GM // p.1 ≤ cs.length ∧ joinP L cs = joinP p.2 (cs.drop p.1) ∧ Alike p.2 (putsC L (cs.take p.1)) }) (fun p => ⟨[.ptr 0 rt 0 0, .any, .any, .ref (reqG cs hs th gr), .any, .ptr 1 s5 0 0, .any, .ptr 2 s7 0 0, .any, .any, .any, .ptr 3 sx 0 0, .int .i64 (p.1.1 : Nat)] ++ List.replicate 183 .any, [.row rt 1 [[.slice (csG L) .none]], .row s5 32 [bytesG h0.1], .row s7 32 [bytesG h0.1], .row sx 1 [[.slice (csG (putsC L (cs.take p.1.1))) .none]]]⟩) (fun p => cs.length - p.1.1) ?_ ?_
          · exact Into.first ⟨(0, L), by show 0 ≤ cs.length; omega, by simp, by simp [putsC]; exact fun _ => rfl⟩ ⟨[], by simp [putsC]⟩ (by simp [WL, leG_self, leG_any])
          · rintro ⟨⟨k, M⟩, hk, hf, hA⟩
            change k ≤ cs.length at hk
            change joinP L cs = joinP M (cs.drop k) at hf
            change Alike M (putsC L (cs.take k)) at hA
            have hXs := putsC_ss (cs.take k) hL
            have hXl := putsC_len (cs.take k) L
            rw [List.length_take] at hXl
            by_cases h : k < cs.length
            · have d0 : ((k : Int) < (cs.length : Int)) = True := eq_true (by omega)
              have eS := csG_at cs k h
              have hx := n4 _ (memC h)
              have hsn := putsC_snoc L cs k h
              rw [joinP_drop _ _ _ h] at hf
              generalize cs.getD k default = x at *
              obtain ⟨xh, xp⟩ := x
              obtain ⟨X, hX⟩ : ∃ X, putsC L (cs.take k) = X := ⟨_, rfl⟩
              rw [hX] at hA hXs hXl hsn
              have hx4 : xp.length ≤ 4 := hx.1
              have cH := rHas X hXs (by omega) xh sx
              have cP := rParents X hXs (by omega) xh sx
              have cPut := rPut X hXs (by omega) (xh, xp) (by show xp.length ≤ 1000000; omega) sx
              cases el : look X xh with
              | some l =>
                have elM : look M xh = some l := by rw [hA]; exact el
                rw [el] at cH
                rw [parsM_some el] at cP
                by_cases e : l = xp
                · have ej : joinE M (xh, xp) = .ok M := by unfold joinE; simp only [elM]; rw [if_pos e]
                  rw [ej] at hf
                  have cS := hSame l xp .none .none (by rw [e]; omega)
                  rw [decide_eq_true e] at cS
                  simp +contextual -implicitDefEqProofs (maxSteps := 2000000) (disch := omega) only [drawC, drawK, ↓lenV, binV, ↓loadV, ↓storeV, ↓fieldAddrV, ↓indexAddrV, ↓allocV, GVal.cells, grp, List.map, List.headD, List.take, List.drop, reduceEqDiff, reduceAdd, reduceLeDiff, reduceCtorEq, implies_true, List.replicate, GVal.solid, splice, vcA, ↓vcB, vcC, fbFw, csG_len, comG, take32a, take33a, len33, solid33, d0, eS, hX]
                  refine ⟨by omega, fun u => ?_⟩
                  refine (GCalls.keep1' cH (O := [.row rt 1 [[.slice (csG L) .none]], .row s5 32 [bytesG h0.1], .row s7 32 [bytesG h0.1], .row sx 1 [[.slice (csG X) .none]], .row u 33 [comG (xh, xp)]]) 3 rfl rfl rfl rfl).mono ?_
                  rintro g O' ⟨rfl, rfl⟩
                  simp +contextual -implicitDefEqProofs (maxSteps := 2000000) (disch := omega) only [drawC, drawK, ↓loadV, ↓fieldAddrV, grp, GVal.ofConst, List.map, List.headD, List.take, List.drop, reduceEqDiff, reduceAdd, reduceLeDiff, reduceCtorEq, implies_true, vcA, ↓vcB, vcC, fbFw, comG, take32a, drop32a, take33a, len33]
                  refine (GCalls.keep1' cP (O := [.row rt 1 [[.slice (csG L) .none]], .row s5 32 [bytesG h0.1], .row s7 32 [bytesG h0.1], .row sx 1 [[.slice (csG X) .none]], .row u 33 [comG (xh, xp)]]) 3 rfl rfl rfl rfl).mono ?_
                  rintro g O' ⟨rfl, rfl⟩
                  simp +contextual -implicitDefEqProofs (maxSteps := 2000000) (disch := omega) only [drawC, drawK, List.map, vcA, ↓vcB, comG]
                  refine ⟨⟨[], by simp []⟩, ?_⟩
                  refine cS.then ?_ (by rfl)
                  simp +contextual -implicitDefEqProofs (maxSteps := 2000000) (disch := omega) only [drawC, drawK, ↓unV, ↓loadV, grp, List.map, List.drop, reduceEqDiff, reduceLeDiff, reduceCtorEq, vcA, ↓vcB, vcC, fbFw, take33a, len33]
                  refine (GCalls.own1' cPut (O := [.row rt 1 [[.slice (csG L) .none]], .row s5 32 [bytesG h0.1], .row s7 32 [bytesG h0.1], .row sx 1 [[.slice (csG X) .none]], .row u 33 [comG (xh, xp)]]) (O2 := [.row rt 1 [[.slice (csG L) .none]], .row s5 32 [bytesG h0.1], .row s7 32 [bytesG h0.1], .row sx 1 [[.slice (csG (putC X (xh, xp))) .none]], .row u 33 [comG (xh, xp)]]) 3 rfl rfl rfl rfl rfl rfl).mono ?_
                  rintro g O' ⟨rfl, rfl⟩
                  simp +contextual -implicitDefEqProofs (maxSteps := 2000000) (disch := omega) only [binV, GVal.ofConst, vcA, ↓vcB, vcC, comG]
                  exact Into.at ⟨(k + 1, M), by show k + 1 ≤ cs.length; omega, hf, by show Alike M (putsC L (cs.take (k + 1))); rw [hsn]; exact join_put hA ej⟩ (by show cs.length - (k + 1) < cs.length - k; omega) ⟨[.row u 33 [comG (xh, xp)]], by simp [comG, hsn]⟩ (by simp [WL, leG_self, leG_any])
                · have ej : joinE M (xh, xp) = .error (xh, 9) := by unfold joinE; simp only [elM]; rw [if_neg e]
                  rw [ej] at hf
                  have hXr : l.length ≤ 1000000 := by
                    have := putsC_row (n := 4) (cs.take k) (L := L) hg.ok.row (fun c hc => (n4 c (List.mem_of_mem_take hc)).1) (xh, l) (by rw [hX]; exact look_mem el)
                    simp only at this; omega
                  have cS := hSame l xp .none .none (by omega)
                  rw [decide_eq_false e] at cS
                  simp +contextual -implicitDefEqProofs (maxSteps := 2000000) (disch := omega) only [drawC, drawK, ↓lenV, binV, ↓loadV, ↓storeV, ↓fieldAddrV, ↓indexAddrV, ↓allocV, GVal.cells, grp, List.map, List.headD, List.take, List.drop, reduceEqDiff, reduceAdd, reduceLeDiff, reduceCtorEq, implies_true, List.replicate, GVal.solid, splice, vcA, ↓vcB, vcC, fbFw, csG_len, comG, take32a, take33a, len33, solid33, d0, eS, hX]
                  refine ⟨by omega, fun u => ?_⟩
                  refine (GCalls.keep1' cH (O := [.row rt 1 [[.slice (csG L) .none]], .row s5 32 [bytesG h0.1], .row s7 32 [bytesG h0.1], .row sx 1 [[.slice (csG X) .none]], .row u 33 [comG (xh, xp)]]) 3 rfl rfl rfl rfl).mono ?_
                  rintro g O' ⟨rfl, rfl⟩
                  simp +contextual -implicitDefEqProofs (maxSteps := 2000000) (disch := omega) only [drawC, drawK, ↓loadV, ↓fieldAddrV, grp, GVal.ofConst, List.map, List.headD, List.take, List.drop, reduceEqDiff, reduceAdd, reduceLeDiff, reduceCtorEq, implies_true, vcA, ↓vcB, vcC, fbFw, comG, take32a, drop32a, take33a, len33]
                  refine (GCalls.keep1' cP (O := [.row rt 1 [[.slice (csG L) .none]], .row s5 32 [bytesG h0.1], .row s7 32 [bytesG h0.1], .row sx 1 [[.slice (csG X) .none]], .row u 33 [comG (xh, xp)]]) 3 rfl rfl rfl rfl).mono ?_
                  rintro g O' ⟨rfl, rfl⟩
                  simp +contextual -implicitDefEqProofs (maxSteps := 2000000) (disch := omega) only [drawC, drawK, List.map, vcA, ↓vcB, comG]
                  refine ⟨⟨[], by simp []⟩, ?_⟩
                  refine cS.then ?_ (by rfl)
                  simp +contextual -implicitDefEqProofs (maxSteps := 2000000) (disch := omega) only [drawC, drawK, ↓unV, ↓loadV, ↓storeV, ↓fieldAddrV, GVal.cells, grp, GVal.ofConst, ↓resV, resG, List.take, List.drop, reduceEqDiff, reduceLeDiff, reduceCtorEq, splice, vcA, ↓vcB, vcC, fbFw, drop32y, sol_bytes, take32a, len33, len32, take32]
                  rw [ck_join e1 hf]
                  exact ⟨_, rObj rt L, [.row s5 32 [bytesG xh.1], .row s7 32 [bytesG h0.1], .row sx 1 [[.slice (csG X) .none]], .row u 33 [comG (xh, xp)]], rfl, leA_refl _, rfl, rfl⟩
              | none =>
                have elM : look M xh = none := by rw [hA]; exact el
                have ej : joinE M (xh, xp) = .ok (mset M xh xp) := by unfold joinE; simp only [elM]
                rw [ej] at hf
                rw [el] at cH
                simp +contextual -implicitDefEqProofs (maxSteps := 2000000) (disch := omega) only [drawC, drawK, ↓lenV, binV, ↓loadV, ↓storeV, ↓fieldAddrV, ↓indexAddrV, ↓allocV, GVal.cells, grp, List.map, List.headD, List.take, List.drop, reduceEqDiff, reduceAdd, reduceLeDiff, reduceCtorEq, implies_true, List.replicate, GVal.solid, splice, vcA, ↓vcB, vcC, fbFw, csG_len, comG, take32a, take33a, len33, solid33, d0, eS, hX]
                refine ⟨by omega, fun u => ?_⟩
                refine (GCalls.keep1' cH (O := [.row rt 1 [[.slice (csG L) .none]], .row s5 32 [bytesG h0.1], .row s7 32 [bytesG h0.1], .row sx 1 [[.slice (csG X) .none]], .row u 33 [comG (xh, xp)]]) 3 rfl rfl rfl rfl).mono ?_
                rintro g O' ⟨rfl, rfl⟩
                simp +contextual -implicitDefEqProofs (maxSteps := 2000000) (disch := omega) only [drawC, drawK, ↓loadV, ↓fieldAddrV, grp, GVal.ofConst, List.map, List.headD, List.take, List.drop, reduceEqDiff, reduceAdd, reduceLeDiff, reduceCtorEq, implies_true, vcA, ↓vcB, vcC, fbFw, comG, take32a, drop32a, take33a, len33]
                refine (GCalls.own1' cPut (O := [.row rt 1 [[.slice (csG L) .none]], .row s5 32 [bytesG h0.1], .row s7 32 [bytesG h0.1], .row sx 1 [[.slice (csG X) .none]], .row u 33 [comG (xh, xp)]]) (O2 := [.row rt 1 [[.slice (csG L) .none]], .row s5 32 [bytesG h0.1], .row s7 32 [bytesG h0.1], .row sx 1 [[.slice (csG (putC X (xh, xp))) .none]], .row u 33 [comG (xh, xp)]]) 3 rfl rfl rfl rfl rfl rfl).mono ?_
                rintro g O' ⟨rfl, rfl⟩
                simp +contextual -implicitDefEqProofs (maxSteps := 2000000) (disch := omega) only [binV, GVal.ofConst, vcA, ↓vcB, vcC, comG]
                exact Into.at ⟨(k + 1, mset M xh xp), by show k + 1 ≤ cs.length; omega, hf, by show Alike (mset M xh xp) (putsC L (cs.take (k + 1))); rw [hsn]; exact join_put hA ej⟩ (by show cs.length - (k + 1) < cs.length - k; omega) ⟨[.row u 33 [comG (xh, xp)]], by simp [comG, hsn]⟩ (by simp [WL, leG_self, leG_any])
            · have d0 : ((k : Int) < (cs.length : Int)) = False := eq_false (by omega)
              rw [List.drop_of_length_le (by omega), joinP] at hf
              rw [List.take_of_length_le (by omega)] at hA hXs hXl
              obtain ⟨X, hX⟩ : ∃ X, putsC L cs = X := ⟨_, rfl⟩
              have hXt : putsC L (cs.take k) = X := by rw [List.take_of_length_le (by omega)]; exact hX
              rw [hX] at hA hXs
              have hXr := putsC_row (n := 4) cs (L := L) hg.ok.row (fun c hc => (n4 c hc).1)
              rw [hX] at hXr hXl
              have hXm : GMOK X := ⟨by omega, hXr⟩
              have hML := hA.len (join_spec hf hg.keys).1 (ssc_keys hXs)
              have hLk : ∀ cs' hs', lackP M cs' hs' = lackP X cs' hs' := lack_alike hA
              have hRd := round_ref hg hf hA
              simp +contextual -implicitDefEqProofs (maxSteps := 2000000) (disch := omega) only [drawC, drawK, ↓lenV, binV, ↓loadV, ↓storeV, ↓fieldAddrV, ↓indexAddrV, ↓allocV, GVal.cells, grp, GVal.ofConst, List.map, List.headD, List.take, List.drop, ↓reduceIte, reduceEqDiff, reduceAdd, reduceLeDiff, reduceCtorEq, implies_true, List.replicate, GVal.solid, splice, vcA, ↓vcB, vcC, fbFw, csG_len, d0, hXt]
              have cH := fun y => rHas X hXs (by omega) y sx
              have cR := fun y => rRound X hXs hXm y sx
              refine vcSLoop_by (ι := { k : Nat // k ≤ cs.length ∧ cs.findSome? (fun c => c.2.findSome? (nowhere X 10)) = (cs.drop k).findSome? (fun c => c.2.findSome? (nowhere X 10)) }) (fun k => ⟨[.ptr 0 rt 0 0, .any, .any, .ref (reqG cs hs th gr), .any, .ptr 1 s5 0 0, .any, .ptr 2 s7 0 0, .any, .any, .any, .ptr 3 sx 0 0, .any, .any, .int .i64 (k.1 : Nat)] ++ List.replicate 181 .any, [.row rt 1 [[.slice (csG L) .none]], .row s5 32 [bytesG h0.1], .row s7 32 [bytesG h0.1], .row sx 1 [[.slice (csG X) .none]]]⟩) (fun k => cs.length - k.1) ?_ ?_
              · exact Into.first ⟨0, by omega, by simp⟩ ⟨[], by simp⟩ (by simp [WL, leG_self, leG_any])
              · rintro ⟨k, hk, hf3⟩
                by_cases h : k < cs.length
                · have d0 : ((k : Int) < (cs.length : Int)) = True := eq_true (by omega)
                  have eS := csG_at cs k h
                  have hx := hp _ (memC h)
                  rw [findC h] at hf3
                  generalize cs.getD k default = x at *
                  obtain ⟨xh, xp⟩ := x
                  change xp.length ≤ 1000000 at hx
                  simp only at hf3
                  simp +contextual -implicitDefEqProofs (maxSteps := 2000000) (disch := omega) only [↓lenV, binV, ↓loadV, ↓fieldAddrV, grp, GVal.ofConst, List.headD, List.take, List.drop, reduceAdd, reduceLeDiff, implies_true, List.replicate, vcA, ↓vcB, vcC, fbFw, csG_len, d0]
                  refine vcSLoop_by (ι := { j : Nat // j ≤ xp.length ∧ xp.findSome? (nowhere X 10) = (xp.drop j).findSome? (nowhere X 10) }) (fun j => ⟨[.ptr 0 rt 0 0, .any, .any, .ref (reqG cs hs th gr), .any, .ptr 1 s5 0 0, .any, .ptr 2 s7 0 0, .any, .any, .any, .ptr 3 sx 0 0, .any, .any, .int .i64 (k : Nat), .int .i64 (j.1 : Nat)] ++ List.replicate 180 .any, [.row rt 1 [[.slice (csG L) .none]], .row s5 32 [bytesG h0.1], .row s7 32 [bytesG h0.1], .row sx 1 [[.slice (csG X) .none]]]⟩) (fun j => xp.length - j.1) ?_ ?_
                  · exact Into.first ⟨0, by omega, by simp⟩ ⟨[], by simp⟩ (by simp [WL, leG_self, leG_any])
                  · rintro ⟨j, hj, hf2⟩
                    by_cases h' : j < xp.length
                    · have d1' : ((j : Int) < (xp.length : Int)) = True := eq_true (by omega)
                      have eP := hsG_at xp j h'
                      rw [findH h'] at hf2
                      generalize xp.getD j h0 = p at *
                      have cHp := cH p
                      cases el : look X p with
                      | some l =>
                        have en : nowhere X 10 p = none := by unfold nowhere; rw [el]
                        rw [en] at hf2
                        simp only [el, Option.isSome_some] at cHp
                        simp +contextual -implicitDefEqProofs (maxSteps := 2000000) (disch := omega) only [↓lenV, binV, ↓loadV, ↓storeV, ↓fieldAddrV, ↓indexAddrV, ↓allocV, GVal.cells, grp, List.map, List.headD, List.take, List.drop, reduceEqDiff, reduceAdd, reduceLeDiff, reduceCtorEq, implies_true, List.replicate, splice, vcA, ↓vcB, vcC, fbFw, csG_len, hsG_len, zeroH, drop32y, sol_bytes, ↓solA, comG, drop32a, len33, len32, take32, d1', eS, eP]
                        refine ⟨by omega, by omega, by omega, by omega, by omega, fun u => ?_⟩
                        refine (GCalls.keep1' cHp (O := [.row rt 1 [[.slice (csG L) .none]], .row s5 32 [bytesG h0.1], .row s7 32 [bytesG h0.1], .row sx 1 [[.slice (csG X) .none]]] ++ [.row u 32 [bytesG p.1]]) 3 rfl rfl rfl rfl).mono ?_
                        rintro g O' ⟨rfl, rfl⟩
                        simp +contextual -implicitDefEqProofs (maxSteps := 2000000) (disch := omega) only [binV, ↓unV, GVal.ofConst, vcA, ↓vcB, vcC]
                        exact Into.at ⟨j + 1, by omega, hf2⟩ (by show xp.length - (j + 1) < xp.length - j; omega) ⟨[.row u 32 [bytesG p.1]], by simp⟩ (by simp [WL, leG_self, leG_any])
                      | none =>
                        have en : nowhere X 10 p = some (some p, 10) := by unfold nowhere; rw [el]
                        rw [en] at hf2
                        rw [hf2] at hf3
                        simp only [el, Option.isSome_none] at cHp
                        simp +contextual -implicitDefEqProofs (maxSteps := 2000000) (disch := omega) only [↓lenV, binV, ↓loadV, ↓storeV, ↓fieldAddrV, ↓indexAddrV, ↓allocV, GVal.cells, grp, List.map, List.headD, List.take, List.drop, reduceEqDiff, reduceAdd, reduceLeDiff, reduceCtorEq, implies_true, List.replicate, splice, vcA, ↓vcB, vcC, fbFw, csG_len, hsG_len, zeroH, drop32y, sol_bytes, ↓solA, comG, drop32a, len33, len32, take32, d1', eS, eP]
                        refine ⟨by omega, by omega, by omega, by omega, by omega, fun u => ?_⟩
                        refine (GCalls.keep1' cHp (O := [.row rt 1 [[.slice (csG L) .none]], .row s5 32 [bytesG h0.1], .row s7 32 [bytesG h0.1], .row sx 1 [[.slice (csG X) .none]]] ++ [.row u 32 [bytesG p.1]]) 3 rfl rfl rfl rfl).mono ?_
                        rintro g O' ⟨rfl, rfl⟩
                        simp +contextual -implicitDefEqProofs (maxSteps := 2000000) (disch := omega) only [drawC, drawK, ↓unV, ↓loadV, ↓storeV, GVal.cells, grp, GVal.ofConst, ↓resV, resG, List.take, List.drop, reduceEqDiff, reduceLeDiff, reduceCtorEq, splice, vcA, ↓vcB, vcC, fbFw, drop32y, sol_bytes, len32, take32]
                        have e : lackP M cs hs = some (some p, 10) := by rw [hLk]; unfold lackP; rw [hf3]
                        rw [ck_lack e1 hf e]
                        exact ⟨_, rObj rt L, [.row s5 32 [bytesG p.1], .row s7 32 [bytesG h0.1], .row sx 1 [[.slice (csG X) .none]], .row u 32 [bytesG p.1]], rfl, leA_refl _, rfl, rfl⟩
                    · have d1' : ((j : Int) < (xp.length : Int)) = False := eq_false (by omega)
                      rw [List.drop_of_length_le (by omega)] at hf2
                      rw [hf2] at hf3
                      simp +contextual -implicitDefEqProofs (maxSteps := 2000000) (disch := omega) only [↓lenV, binV, ↓loadV, ↓storeV, ↓fieldAddrV, ↓indexAddrV, ↓allocV, GVal.cells, grp, GVal.ofConst, List.map, List.headD, List.take, List.drop, ↓reduceIte, reduceEqDiff, reduceAdd, reduceLeDiff, reduceCtorEq, implies_true, List.replicate, splice, vcA, ↓vcB, vcC, fbFw, csG_len, hsG_len, zeroH, ↓solA, comG, drop32a, len33, len32, d1', eS]
                      refine ⟨by omega, by omega, ?_⟩
                      exact Into.at ⟨k + 1, by omega, hf3⟩ (by show cs.length - (k + 1) < cs.length - k; omega) ⟨[], by simp⟩ (by simp [WL, leG_self, leG_any])
                · have d0 : ((k : Int) < (cs.length : Int)) = False := eq_false (by omega)
                  rw [List.drop_of_length_le (by omega)] at hf3
                  have eL : lackP M cs hs = hs.findSome? (nowhere X 11) := by rw [hLk]; unfold lackP; rw [hf3]; rfl
                  simp +contextual -implicitDefEqProofs (maxSteps := 2000000) (disch := omega) only [↓lenV, binV, ↓loadV, ↓fieldAddrV, grp, GVal.ofConst, List.headD, List.take, List.drop, ↓reduceIte, reduceAdd, reduceLeDiff, implies_true, List.replicate, vcA, ↓vcB, vcC, fbFw, csG_len, d0]
                  refine vcSLoop_by (ι := { j : Nat // j ≤ hs.length ∧ hs.findSome? (nowhere X 11) = (hs.drop j).findSome? (nowhere X 11) }) (fun j => ⟨[.ptr 0 rt 0 0, .any, .any, .ref (reqG cs hs th gr), .any, .ptr 1 s5 0 0, .any, .ptr 2 s7 0 0, .any, .any, .any, .ptr 3 sx 0 0, .any, .any, .any, .any, .any, .int .i64 (j.1 : Nat)] ++ List.replicate 178 .any, [.row rt 1 [[.slice (csG L) .none]], .row s5 32 [bytesG h0.1], .row s7 32 [bytesG h0.1], .row sx 1 [[.slice (csG X) .none]]]⟩) (fun j => hs.length - j.1) ?_ ?_
                  · exact Into.first ⟨0, by omega, by simp⟩ ⟨[], by simp⟩ (by simp [WL, leG_self, leG_any])
                  · rintro ⟨j, hj, hf2⟩
                    by_cases h' : j < hs.length
                    · have d1' : ((j : Int) < (hs.length : Int)) = True := eq_true (by omega)
                      have eP := hsG_at hs j h'
                      rw [findH h'] at hf2
                      generalize hs.getD j h0 = p at *
                      have cHp := cH p
                      cases el : look X p with
                      | some l =>
                        have en : nowhere X 11 p = none := by unfold nowhere; rw [el]
                        rw [en] at hf2
                        simp only [el, Option.isSome_some] at cHp
                        simp +contextual -implicitDefEqProofs (maxSteps := 2000000) (disch := omega) only [↓lenV, binV, ↓loadV, ↓fieldAddrV, ↓indexAddrV, grp, List.map, List.headD, List.take, List.drop, reduceEqDiff, reduceAdd, reduceLeDiff, reduceCtorEq, implies_true, List.replicate, vcA, ↓vcB, vcC, fbFw, hsG_len, len32, take32, d1', eP]
                        refine ⟨by omega, ?_⟩
                        refine (GCalls.keep1' cHp (O := [.row rt 1 [[.slice (csG L) .none]], .row s5 32 [bytesG h0.1], .row s7 32 [bytesG h0.1], .row sx 1 [[.slice (csG X) .none]]]) 3 rfl rfl rfl rfl).mono ?_
                        rintro g O' ⟨rfl, rfl⟩
                        simp +contextual -implicitDefEqProofs (maxSteps := 2000000) (disch := omega) only [binV, ↓unV, GVal.ofConst, vcA, ↓vcB, vcC]
                        exact Into.at ⟨j + 1, by omega, hf2⟩ (by show hs.length - (j + 1) < hs.length - j; omega) ⟨[], by simp⟩ (by simp [WL, leG_self, leG_any])
                      | none =>
                        have en : nowhere X 11 p = some (some p, 11) := by unfold nowhere; rw [el]
                        rw [en] at hf2
                        rw [hf2] at eL
                        simp only [el, Option.isSome_none] at cHp
                        simp +contextual -implicitDefEqProofs (maxSteps := 2000000) (disch := omega) only [↓lenV, binV, ↓loadV, ↓fieldAddrV, ↓indexAddrV, grp, List.map, List.headD, List.take, List.drop, reduceEqDiff, reduceAdd, reduceLeDiff, reduceCtorEq, implies_true, List.replicate, vcA, ↓vcB, vcC, fbFw, hsG_len, len32, take32, d1', eP]
                        refine ⟨by omega, ?_⟩
                        refine (GCalls.keep1' cHp (O := [.row rt 1 [[.slice (csG L) .none]], .row s5 32 [bytesG h0.1], .row s7 32 [bytesG h0.1], .row sx 1 [[.slice (csG X) .none]]]) 3 rfl rfl rfl rfl).mono ?_
                        rintro g O' ⟨rfl, rfl⟩
                        simp +contextual -implicitDefEqProofs (maxSteps := 2000000) (disch := omega) only [drawC, drawK, ↓unV, ↓loadV, ↓storeV, ↓fieldAddrV, ↓indexAddrV, GVal.cells, grp, GVal.ofConst, ↓resV, resG, List.headD, List.take, List.drop, reduceEqDiff, reduceAdd, reduceLeDiff, reduceCtorEq, implies_true, splice, vcA, ↓vcB, vcC, fbFw, hsG_len, drop32y, sol_bytes, len32, take32, eP]
                        rw [ck_lack e1 hf eL]
                        exact ⟨by omega, by omega, _, rObj rt L, [.row s5 32 [bytesG p.1], .row s7 32 [bytesG h0.1], .row sx 1 [[.slice (csG X) .none]]], rfl, leA_refl _, rfl, rfl⟩
                    · have d1' : ((j : Int) < (hs.length : Int)) = False := eq_false (by omega)
                      rw [List.drop_of_length_le (by omega)] at hf2
                      rw [hf2] at eL
                      simp +contextual -implicitDefEqProofs (maxSteps := 2000000) (disch := omega) only [↓lenV, binV, ↓loadV, ↓fieldAddrV, ↓indexAddrV, grp, GVal.ofConst, List.map, List.headD, List.take, List.drop, ↓reduceIte, reduceEqDiff, reduceAdd, reduceLeDiff, reduceCtorEq, implies_true, List.replicate, vcA, ↓vcB, vcC, fbFw, hsG_len, d1']
                      refine vcSLoop_by (ι := { k : Nat // k ≤ cs.length ∧ cs.findSome? (refE X) = (cs.drop k).findSome? (refE X) }) (fun k => ⟨[.ptr 0 rt 0 0, .any, .any, .ref (reqG cs hs th gr), .any, .ptr 1 s5 0 0, .any, .ptr 2 s7 0 0, .any, .any, .any, .ptr 3 sx 0 0, .any, .any, .any, .any, .any, .any, .int .i64 (k.1 : Nat)] ++ List.replicate 177 .any, [.row rt 1 [[.slice (csG L) .none]], .row s5 32 [bytesG h0.1], .row s7 32 [bytesG h0.1], .row sx 1 [[.slice (csG X) .none]]]⟩) (fun k => cs.length - k.1) ?_ ?_
                      · exact Into.first ⟨0, by omega, by simp⟩ ⟨[], by simp⟩ (by simp [WL, leG_self, leG_any])
                      · rintro ⟨k, hk, hf5⟩
                        by_cases h : k < cs.length
                        · have d0 : ((k : Int) < (cs.length : Int)) = True := eq_true (by omega)
                          have eS := csG_at cs k h
                          rw [findC h] at hf5
                          generalize cs.getD k default = x at *
                          obtain ⟨xh, xp⟩ := x
                          have cRx := cR xh
                          cases er : roundB X xh with
                          | true =>
                            have en : refE X (xh, xp) = some (some xh, 12) := by unfold refE; rw [er]; rfl
                            rw [en] at hf5
                            rw [hf5] at hRd
                            rw [er] at cRx
                            simp +contextual -implicitDefEqProofs (maxSteps := 2000000) (disch := omega) only [↓lenV, binV, ↓loadV, ↓fieldAddrV, ↓indexAddrV, grp, List.map, List.headD, List.take, List.drop, reduceEqDiff, reduceAdd, reduceLeDiff, reduceCtorEq, implies_true, List.replicate, vcA, ↓vcB, vcC, fbFw, csG_len, comG, take32a, len33, d0, eS]
                            refine ⟨by omega, ?_⟩
                            refine (GCalls.keep1' cRx (O := [.row rt 1 [[.slice (csG L) .none]], .row s5 32 [bytesG h0.1], .row s7 32 [bytesG h0.1], .row sx 1 [[.slice (csG X) .none]]]) 3 rfl rfl rfl rfl).mono ?_
                            rintro g O' ⟨rfl, rfl⟩
                            simp +contextual -implicitDefEqProofs (maxSteps := 2000000) (disch := omega) only [drawC, drawK, ↓loadV, ↓storeV, ↓fieldAddrV, ↓indexAddrV, GVal.cells, grp, GVal.ofConst, ↓resV, resG, List.headD, List.take, List.drop, reduceEqDiff, reduceAdd, reduceLeDiff, reduceCtorEq, implies_true, splice, vcA, ↓vcB, vcC, fbFw, csG_len, drop32y, sol_bytes, comG, take32a, len33, len32, take32, eS]
                            rw [ck_round e1 hf eL hRd.symm]
                            exact ⟨by omega, by omega, _, rObj rt L, [.row s5 32 [bytesG xh.1], .row s7 32 [bytesG h0.1], .row sx 1 [[.slice (csG X) .none]]], rfl, leA_refl _, rfl, rfl⟩
                          | false =>
                            have en : refE X (xh, xp) = none := by unfold refE; rw [er]; rfl
                            rw [en] at hf5
                            rw [er] at cRx
                            simp +contextual -implicitDefEqProofs (maxSteps := 2000000) (disch := omega) only [↓lenV, binV, ↓loadV, ↓fieldAddrV, ↓indexAddrV, grp, List.map, List.headD, List.take, List.drop, reduceEqDiff, reduceAdd, reduceLeDiff, reduceCtorEq, implies_true, List.replicate, vcA, ↓vcB, vcC, fbFw, csG_len, comG, take32a, len33, d0, eS]
                            refine ⟨by omega, ?_⟩
                            refine (GCalls.keep1' cRx (O := [.row rt 1 [[.slice (csG L) .none]], .row s5 32 [bytesG h0.1], .row s7 32 [bytesG h0.1], .row sx 1 [[.slice (csG X) .none]]]) 3 rfl rfl rfl rfl).mono ?_
                            rintro g O' ⟨rfl, rfl⟩
                            simp +contextual -implicitDefEqProofs (maxSteps := 2000000) (disch := omega) only [binV, GVal.ofConst, vcA, ↓vcB, vcC]
                            exact Into.at ⟨k + 1, by omega, hf5⟩ (by show cs.length - (k + 1) < cs.length - k; omega) ⟨[], by simp⟩ (by simp [WL, leG_self, leG_any])
                        · have d0 : ((k : Int) < (cs.length : Int)) = False := eq_false (by omega)
                          rw [List.drop_of_length_le (by omega)] at hf5
                          have eR : roundP L M cs = none := by rw [← hRd, hf5]; rfl
                          by_cases h5 : 1000 < X.length
                          · have d5 : ((1000 : Int) < (X.length : Int)) = True := eq_true (by omega)
                            simp +contextual -implicitDefEqProofs (maxSteps := 2000000) (disch := omega) only [drawC, drawK, ↓lenV, binV, ↓loadV, ↓storeV, ↓fieldAddrV, ↓indexAddrV, ↓nilV, GVal.cells, grp, GVal.ofConst, ↓resV, resG, List.map, List.headD, List.take, List.drop, ↓reduceIte, reduceEqDiff, reduceAdd, reduceLeDiff, reduceCtorEq, implies_true, List.replicate, splice, vcA, ↓vcB, vcC, fbFw, csG_len, drop32y, sol_bytes, len32, take32, d0, d5]
                            rw [ck_full e1 hf eL eR (by omega)]
                            exact ⟨_, rObj rt L, [.row s5 32 [bytesG h0.1], .row s7 32 [bytesG h0.1], .row sx 1 [[.slice (csG X) .none]]], rfl, leA_refl _, rfl, rfl⟩
                          · have d5 : ((1000 : Int) < (X.length : Int)) = False := eq_false (by omega)
                            simp +contextual -implicitDefEqProofs (maxSteps := 2000000) (disch := omega) only [drawC, drawK, ↓lenV, binV, ↓loadV, ↓storeV, ↓fieldAddrV, ↓indexAddrV, ↓nilV, GVal.cells, grp, GVal.ofConst, ↓resV, resG, List.map, List.headD, List.take, List.drop, ↓reduceIte, reduceEqDiff, reduceAdd, reduceLeDiff, reduceCtorEq, implies_true, List.replicate, splice, vcA, ↓vcB, vcC, fbFw, csG_len, drop32y, sol_bytes, len32, take32, d0, d5]
                            rw [ck_ok e1 hf eL eR (by omega)]
                            exact ⟨_, rObj rt L, [.row s5 32 [bytesG h0.1], .row s7 32 [bytesG h0.1], .row sx 1 [[.slice (csG X) .none]]], rfl, leA_refl _, rfl, rfl⟩
theorem rCheck2 (L : GM) (hL : SSC L) (hg : Good L) (cs : List Cm) (hs : List Hs) (th : Tag) (gr : Int) (rt : Nat) (hc : cs.length ≤ 1000000) (hh : hs.length ≤ 1000000) (hp : ∀ c ∈ cs, c.2.length ≤ 1000000) (d1 : (gr = 1) = False) (dd : (gr = 2) = True) (hgr : gr = 1 ∨ gr = 2) :
    GCalls Tryz.prog 8 [.ptr 0 rt 0 0, .agg (reqG cs hs th gr)] (rObj rt L) (fun g O' => g = chkV (checkE gr L cs hs) ∧ O' = rObj rt L) := by
  refine GCalls.dropTo ?_
  by_cases h2 : 200 < cs.length
  · rw [ck_bad (.inr (.inl h2))]
    have d2 : ((200 : Int) < (cs.length : Int)) = True := eq_true (by omega)
    clear h2 hgr
    refine h8.calls mixS (by simp) ?_
    simp only [gstart, s8, List.cons_append, List.nil_append, List.length_cons, List.length_nil, reduceAdd, reduceSub, List.replicate_succ, List.replicate_zero]
    simp +contextual -implicitDefEqProofs (maxSteps := 2000000) (disch := omega) only [drawC, drawK, ↓lenV, binV, ↓loadV, ↓storeV, ↓fieldAddrV, ↓allocV, ↓boxV, ↓buildV, fillG, GVal.cells, grp, GVal.ofConst, ↓resV, resG, List.map, List.headD, List.take, List.drop, reduceEqDiff, reduceAdd, reduceLeDiff, reduceCtorEq, implies_true, ne_eq, allSolid, GVal.solid, splice, vcA, ↓vcB, vcC, fbFw, e8, d1, dd, d2, csG_len, zeroH, drop32y, sol_bytes, ↓solA, len32, take32, not_true_eq_false, false_imp_iff, true_imp_iff]
    exact fun s5 s7 => ⟨_, rObj rt L, [.row s5 32 [bytesG h0.1], .row s7 32 [bytesG h0.1]], rfl, leA_refl _, rfl, rfl⟩
  · have d2 : ((200 : Int) < (cs.length : Int)) = False := eq_false (by omega)
    by_cases h3 : 200 < hs.length
    · rw [ck_bad (.inr (.inr h3))]
      have d3 : ((200 : Int) < (hs.length : Int)) = True := eq_true (by omega)
      clear h2 h3 hgr
      refine h8.calls mixS (by simp) ?_
      simp only [gstart, s8, List.cons_append, List.nil_append, List.length_cons, List.length_nil, reduceAdd, reduceSub, List.replicate_succ, List.replicate_zero]
      simp +contextual -implicitDefEqProofs (maxSteps := 2000000) (disch := omega) only [drawC, drawK, ↓lenV, binV, ↓loadV, ↓storeV, ↓fieldAddrV, ↓allocV, ↓boxV, ↓buildV, fillG, GVal.cells, grp, GVal.ofConst, ↓resV, resG, List.map, List.headD, List.take, List.drop, reduceEqDiff, reduceAdd, reduceLeDiff, reduceCtorEq, implies_true, ne_eq, allSolid, GVal.solid, splice, vcA, ↓vcB, vcC, fbFw, e8, d1, dd, d2, d3, csG_len, hsG_len, zeroH, drop32y, sol_bytes, ↓solA, len32, take32, not_true_eq_false, false_imp_iff, true_imp_iff]
      exact fun s5 s7 => ⟨_, rObj rt L, [.row s5 32 [bytesG h0.1], .row s7 32 [bytesG h0.1]], rfl, leA_refl _, rfl, rfl⟩
    · have d3 : ((200 : Int) < (hs.length : Int)) = False := eq_false (by omega)
      have nbad : ¬ badReq gr cs.length hs.length := by
        rintro (q | q | q)
        · omega
        · exact h2 q
        · exact h3 q
      have hLl := hg.ok.len
      refine h8.calls mixS (by simp) ?_
      simp only [gstart, s8, List.cons_append, List.nil_append, List.length_cons, List.length_nil, reduceAdd, reduceSub, List.replicate_succ, List.replicate_zero]
      simp +contextual -implicitDefEqProofs (maxSteps := 2000000) (disch := omega) only [drawC, drawK, ↓lenV, binV, ↓loadV, ↓storeV, ↓fieldAddrV, ↓allocV, ↓boxV, ↓buildV, fillG, GVal.cells, grp, GVal.ofConst, ↓resV, resG, List.map, List.headD, List.take, List.drop, reduceEqDiff, reduceAdd, reduceLeDiff, reduceCtorEq, implies_true, ne_eq, allSolid, GVal.solid, splice, vcA, ↓vcB, vcC, fbFw, e8, d1, dd, d2, d3, csG_len, hsG_len, zeroH, drop32y, sol_bytes, ↓solA, len32, take32, not_true_eq_false, false_imp_iff, true_imp_iff]
      intro s5 s7
      refine vcSLoop_by (ι := { k : Nat // k ≤ cs.length ∧ cs.findSome? sizeE = (cs.drop k).findSome? sizeE }) (fun k => ⟨[.ptr 0 rt 0 0, .any, .any, .ref (reqG cs hs th gr), .any, .ptr 1 s5 0 0, .any, .ptr 2 s7 0 0, .int .i64 (k.1 : Nat)] ++ List.replicate 187 .any, [.row rt 1 [[.slice (csG L) .none]], .row s5 32 [bytesG h0.1], .row s7 32 [bytesG h0.1]]⟩) (fun k => cs.length - k.1) ?_ ?_
      · exact Into.first ⟨0, by omega, by simp⟩ ⟨[], by simp⟩ (by simp [WL, leG_self, leG_any])
      · rintro ⟨k, hk, hf⟩
        by_cases h : k < cs.length
        · have d0 : ((k : Int) < (cs.length : Int)) = True := eq_true (by omega)
          have eS := csG_at cs k h
          have hx := hp _ (memC h)
          rw [findC h] at hf
          generalize cs.getD k default = x at *
          obtain ⟨xh, xp⟩ := x
          change xp.length ≤ 1000000 at hx
          by_cases c4 : 4 < xp.length
          · have d4 : ((4 : Int) < (xp.length : Int)) = True := eq_true (by omega)
            have e1 : sizeE (xh, xp) = some (some xh, 8) := by rw [sizeE, if_pos c4]
            rw [e1] at hf
            simp +contextual -implicitDefEqProofs (maxSteps := 2000000) (disch := omega) only [drawC, drawK, ↓lenV, binV, ↓loadV, ↓storeV, ↓fieldAddrV, ↓indexAddrV, ↓allocV, GVal.cells, grp, GVal.ofConst, ↓resV, resG, List.headD, List.take, List.drop, reduceEqDiff, reduceAdd, reduceLeDiff, reduceCtorEq, implies_true, List.replicate, GVal.solid, splice, vcA, ↓vcB, vcC, fbFw, csG_len, hsG_len, drop32y, sol_bytes, comG, take32a, drop32a, take33a, len33, solid33, len32, take32, d0, eS, d4]
            refine ⟨by omega, fun u => ?_⟩
            rw [ck_size nbad hf]
            exact ⟨_, rObj rt L, [.row s5 32 [bytesG xh.1], .row s7 32 [bytesG h0.1], .row u 33 [comG (xh, xp)]], rfl, leA_refl _, rfl, rfl⟩
          · have d4 : ((4 : Int) < (xp.length : Int)) = False := eq_false (by omega)
            simp +contextual -implicitDefEqProofs (maxSteps := 2000000) (disch := omega) only [drawC, drawK, ↓lenV, binV, ↓loadV, ↓storeV, ↓fieldAddrV, ↓indexAddrV, ↓allocV, GVal.cells, grp, GVal.ofConst, ↓resV, resG, List.headD, List.take, List.drop, reduceEqDiff, reduceAdd, reduceLeDiff, reduceCtorEq, implies_true, List.replicate, GVal.solid, splice, vcA, ↓vcB, vcC, fbFw, csG_len, hsG_len, drop32y, sol_bytes, comG, take32a, drop32a, take33a, len33, solid33, len32, take32, d0, eS, d4]
            refine ⟨by omega, fun u => ?_⟩
            refine vcSLoop_by (ι := { j : Nat // j ≤ xp.length ∧ (xp.take j).Nodup }) (fun j => ⟨[.ptr 0 rt 0 0, .any, .any, .ref (reqG cs hs th gr), .any, .ptr 1 s5 0 0, .any, .ptr 2 s7 0 0, .int .i64 (k : Nat), .ptr 3 u 0 0, .int .i64 (j.1 : Nat)] ++ List.replicate 185 .any, [.row rt 1 [[.slice (csG L) .none]], .row s5 32 [bytesG h0.1], .row s7 32 [bytesG h0.1]] ++ [.row u 33 [comG (xh, xp)]]⟩) (fun j => xp.length - j.1) ?_ ?_
            · exact Into.first ⟨0, by omega, by simp⟩ ⟨[], by simp [comG]⟩ (by simp [WL, leG_self, leG_any])
            · rintro ⟨j, hj, hnd⟩
              by_cases h' : j < xp.length
              · have d5 : ((j : Int) < (xp.length : Int)) = True := eq_true (by omega)
                have eP := hsG_at xp j h'
                have tw := twice_at h' hnd
                generalize xp.getD j h0 = y at *
                have cI := hIn (xp.take j) .none y (by rw [List.length_take]; omega)
                by_cases hy : y ∈ xp.take j
                · rw [decide_eq_true hy] at cI
                  have e1 : sizeE (xh, xp) = some (some xh, 1) := by rw [sizeE, if_neg c4, if_pos (tw.1 hy)]
                  rw [e1] at hf
                  simp +contextual -implicitDefEqProofs (maxSteps := 2000000) (disch := omega) only [drawC, drawK, ↓lenV, binV, optV, ↓loadV, ↓fieldAddrV, ↓indexAddrV, ↓sliceV, bound, cutTag, grp, List.map, List.headD, List.take, reduceEqDiff, reduceAdd, reduceLeDiff, reduceCtorEq, implies_true, List.replicate, vcA, ↓vcB, vcC, fbFw, all_hsG, hsG_len, comG, drop32a, len33, len32, take32, d5, eP, takeHs, toNat0]
                  refine ⟨by omega, by omega, by omega, by omega, ?_⟩
                  refine cI.then ?_ (by rfl)
                  simp +contextual -implicitDefEqProofs (maxSteps := 2000000) (disch := omega) only [drawC, drawK, ↓loadV, ↓storeV, ↓fieldAddrV, GVal.cells, grp, GVal.ofConst, ↓resV, resG, List.take, List.drop, reduceEqDiff, reduceLeDiff, reduceCtorEq, splice, vcA, ↓vcB, vcC, fbFw, drop32y, sol_bytes, take32a, len33, len32, take32]
                  rw [ck_size nbad hf]
                  exact ⟨_, rObj rt L, [.row s5 32 [bytesG xh.1], .row s7 32 [bytesG h0.1], .row u 33 [comG (xh, xp)]], rfl, leA_refl _, rfl, rfl⟩
                · rw [decide_eq_false hy] at cI
                  simp +contextual -implicitDefEqProofs (maxSteps := 2000000) (disch := omega) only [drawC, drawK, ↓lenV, binV, optV, ↓loadV, ↓fieldAddrV, ↓indexAddrV, ↓sliceV, bound, cutTag, grp, List.map, List.headD, List.take, reduceEqDiff, reduceAdd, reduceLeDiff, reduceCtorEq, implies_true, List.replicate, vcA, ↓vcB, vcC, fbFw, all_hsG, hsG_len, comG, drop32a, len33, len32, take32, d5, eP, takeHs, toNat0]
                  refine ⟨by omega, by omega, by omega, by omega, ?_⟩
                  refine cI.then ?_ (by rfl)
                  simp +contextual -implicitDefEqProofs (maxSteps := 2000000) (disch := omega) only [drawC, drawK, binV, GVal.ofConst, vcA, ↓vcB, vcC]
                  exact Into.at ⟨j + 1, by omega, tw.2 hy⟩ (by show xp.length - (j + 1) < xp.length - j; omega) ⟨[], by simp []⟩ (by simp [WL, leG_self, leG_any])
              · have d5 : ((j : Int) < (xp.length : Int)) = False := eq_false (by omega)
                have e1 : sizeE (xh, xp) = none := by
                  rw [sizeE, if_neg c4, if_neg]
                  rw [twice_iff]
                  rw [List.take_of_length_le (by omega)] at hnd
                  exact fun q => q hnd
                rw [e1] at hf
                simp +contextual -implicitDefEqProofs (maxSteps := 2000000) (disch := omega) only [drawC, drawK, ↓lenV, binV, optV, ↓loadV, ↓fieldAddrV, ↓indexAddrV, ↓sliceV, bound, cutTag, grp, GVal.ofConst, List.map, List.headD, List.take, ↓reduceIte, reduceEqDiff, reduceAdd, reduceLeDiff, reduceCtorEq, implies_true, List.replicate, vcA, ↓vcB, vcC, fbFw, all_hsG, hsG_len, comG, drop32a, len33, d5]
                exact Into.at ⟨k + 1, by omega, hf⟩ (by show cs.length - (k + 1) < cs.length - k; omega) ⟨[.row u 33 [comG (xh, xp)]], by simp [comG]⟩ (by simp [WL, leG_self, leG_any])
        · have d0 : ((k : Int) < (cs.length : Int)) = False := eq_false (by omega)
          rw [List.drop_of_length_le (by omega)] at hf
          have e1 : sizesP gr hs.length cs = none := by unfold sizesP; rw [if_neg nbad, hf]; rfl
          simp +contextual -implicitDefEqProofs (maxSteps := 2000000) (disch := omega) only [drawC, drawK, ↓lenV, binV, ↓loadV, ↓storeV, ↓fieldAddrV, ↓indexAddrV, ↓allocV, ↓boxV, ↓buildV, ↓nilV, fillG, place, GVal.cells, grp, GVal.ofConst, ↓resV, resG, List.map, List.headD, List.take, List.drop, ↓reduceIte, reduceEqDiff, reduceAdd, reduceLeDiff, reduceCtorEq, implies_true, List.replicate, allSolid, GVal.solid, Nat.reduceBEq, splice, vcA, ↓vcB, vcC, fbFw, csG_len, len32, d0]
          intro sx
          obtain ⟨n1, n2, _, n4⟩ := sizesP_none e1
          refine vcSLoop_by (ι := { p : Nat × GM // p.1 ≤ cs.length ∧ joinP L cs = joinP p.2 (cs.drop p.1) ∧ Alike p.2 (putsC L (cs.take p.1)) }) (fun p => ⟨[.ptr 0 rt 0 0, .any, .any, .ref (reqG cs hs th gr), .any, .ptr 1 s5 0 0, .any, .ptr 2 s7 0 0, .any, .any, .any, .ptr 3 sx 0 0, .int .i64 (p.1.1 : Nat)] ++ List.replicate 183 .any, [.row rt 1 [[.slice (csG L) .none]], .row s5 32 [bytesG h0.1], .row s7 32 [bytesG h0.1], .row sx 1 [[.slice (csG (putsC L (cs.take p.1.1))) .none]]]⟩) (fun p => cs.length - p.1.1) ?_ ?_
          · exact Into.first ⟨(0, L), by show 0 ≤ cs.length; omega, by simp, by simp [putsC]; exact fun _ => rfl⟩ ⟨[], by simp [putsC]⟩ (by simp [WL, leG_self, leG_any])
          · rintro ⟨⟨k, M⟩, hk, hf, hA⟩
            change k ≤ cs.length at hk
            change joinP L cs = joinP M (cs.drop k) at hf
            change Alike M (putsC L (cs.take k)) at hA
            have hXs := putsC_ss (cs.take k) hL
            have hXl := putsC_len (cs.take k) L
            rw [List.length_take] at hXl
            by_cases h : k < cs.length
            · have d0 : ((k : Int) < (cs.length : Int)) = True := eq_true (by omega)
              have eS := csG_at cs k h
              have hx := n4 _ (memC h)
              have hsn := putsC_snoc L cs k h
              rw [joinP_drop _ _ _ h] at hf
              generalize cs.getD k default = x at *
              obtain ⟨xh, xp⟩ := x
              obtain ⟨X, hX⟩ : ∃ X, putsC L (cs.take k) = X := ⟨_, rfl⟩
              rw [hX] at hA hXs hXl hsn
              have hx4 : xp.length ≤ 4 := hx.1
              have cH := rHas X hXs (by omega) xh sx
              have cP := rParents X hXs (by omega) xh sx
              have cPut := rPut X hXs (by omega) (xh, xp) (by show xp.length ≤ 1000000; omega) sx
              cases el : look X xh with
              | some l =>
                have elM : look M xh = some l := by rw [hA]; exact el
                rw [el] at cH
                rw [parsM_some el] at cP
                by_cases e : l = xp
                · have ej : joinE M (xh, xp) = .ok M := by unfold joinE; simp only [elM]; rw [if_pos e]
                  rw [ej] at hf
                  have cS := hSame l xp .none .none (by rw [e]; omega)
                  rw [decide_eq_true e] at cS
                  simp +contextual -implicitDefEqProofs (maxSteps := 2000000) (disch := omega) only [drawC, drawK, ↓lenV, binV, ↓loadV, ↓storeV, ↓fieldAddrV, ↓indexAddrV, ↓allocV, GVal.cells, grp, List.map, List.headD, List.take, List.drop, reduceEqDiff, reduceAdd, reduceLeDiff, reduceCtorEq, implies_true, List.replicate, GVal.solid, splice, vcA, ↓vcB, vcC, fbFw, csG_len, comG, take32a, take33a, len33, solid33, d0, eS, hX]
                  refine ⟨by omega, fun u => ?_⟩
                  refine (GCalls.keep1' cH (O := [.row rt 1 [[.slice (csG L) .none]], .row s5 32 [bytesG h0.1], .row s7 32 [bytesG h0.1], .row sx 1 [[.slice (csG X) .none]], .row u 33 [comG (xh, xp)]]) 3 rfl rfl rfl rfl).mono ?_
                  rintro g O' ⟨rfl, rfl⟩
                  simp +contextual -implicitDefEqProofs (maxSteps := 2000000) (disch := omega) only [drawC, drawK, ↓loadV, ↓fieldAddrV, grp, GVal.ofConst, List.map, List.headD, List.take, List.drop, reduceEqDiff, reduceAdd, reduceLeDiff, reduceCtorEq, implies_true, vcA, ↓vcB, vcC, fbFw, comG, take32a, drop32a, take33a, len33]
                  refine (GCalls.keep1' cP (O := [.row rt 1 [[.slice (csG L) .none]], .row s5 32 [bytesG h0.1], .row s7 32 [bytesG h0.1], .row sx 1 [[.slice (csG X) .none]], .row u 33 [comG (xh, xp)]]) 3 rfl rfl rfl rfl).mono ?_
                  rintro g O' ⟨rfl, rfl⟩
                  simp +contextual -implicitDefEqProofs (maxSteps := 2000000) (disch := omega) only [drawC, drawK, List.map, vcA, ↓vcB, comG]
                  refine ⟨⟨[], by simp []⟩, ?_⟩
                  refine cS.then ?_ (by rfl)
                  simp +contextual -implicitDefEqProofs (maxSteps := 2000000) (disch := omega) only [drawC, drawK, ↓unV, ↓loadV, grp, List.map, List.drop, reduceEqDiff, reduceLeDiff, reduceCtorEq, vcA, ↓vcB, vcC, fbFw, take33a, len33]
                  refine (GCalls.own1' cPut (O := [.row rt 1 [[.slice (csG L) .none]], .row s5 32 [bytesG h0.1], .row s7 32 [bytesG h0.1], .row sx 1 [[.slice (csG X) .none]], .row u 33 [comG (xh, xp)]]) (O2 := [.row rt 1 [[.slice (csG L) .none]], .row s5 32 [bytesG h0.1], .row s7 32 [bytesG h0.1], .row sx 1 [[.slice (csG (putC X (xh, xp))) .none]], .row u 33 [comG (xh, xp)]]) 3 rfl rfl rfl rfl rfl rfl).mono ?_
                  rintro g O' ⟨rfl, rfl⟩
                  simp +contextual -implicitDefEqProofs (maxSteps := 2000000) (disch := omega) only [binV, GVal.ofConst, vcA, ↓vcB, vcC, comG]
                  exact Into.at ⟨(k + 1, M), by show k + 1 ≤ cs.length; omega, hf, by show Alike M (putsC L (cs.take (k + 1))); rw [hsn]; exact join_put hA ej⟩ (by show cs.length - (k + 1) < cs.length - k; omega) ⟨[.row u 33 [comG (xh, xp)]], by simp [comG, hsn]⟩ (by simp [WL, leG_self, leG_any])
                · have ej : joinE M (xh, xp) = .error (xh, 9) := by unfold joinE; simp only [elM]; rw [if_neg e]
                  rw [ej] at hf
                  have hXr : l.length ≤ 1000000 := by
                    have := putsC_row (n := 4) (cs.take k) (L := L) hg.ok.row (fun c hc => (n4 c (List.mem_of_mem_take hc)).1) (xh, l) (by rw [hX]; exact look_mem el)
                    simp only at this; omega
                  have cS := hSame l xp .none .none (by omega)
                  rw [decide_eq_false e] at cS
                  simp +contextual -implicitDefEqProofs (maxSteps := 2000000) (disch := omega) only [drawC, drawK, ↓lenV, binV, ↓loadV, ↓storeV, ↓fieldAddrV, ↓indexAddrV, ↓allocV, GVal.cells, grp, List.map, List.headD, List.take, List.drop, reduceEqDiff, reduceAdd, reduceLeDiff, reduceCtorEq, implies_true, List.replicate, GVal.solid, splice, vcA, ↓vcB, vcC, fbFw, csG_len, comG, take32a, take33a, len33, solid33, d0, eS, hX]
                  refine ⟨by omega, fun u => ?_⟩
                  refine (GCalls.keep1' cH (O := [.row rt 1 [[.slice (csG L) .none]], .row s5 32 [bytesG h0.1], .row s7 32 [bytesG h0.1], .row sx 1 [[.slice (csG X) .none]], .row u 33 [comG (xh, xp)]]) 3 rfl rfl rfl rfl).mono ?_
                  rintro g O' ⟨rfl, rfl⟩
                  simp +contextual -implicitDefEqProofs (maxSteps := 2000000) (disch := omega) only [drawC, drawK, ↓loadV, ↓fieldAddrV, grp, GVal.ofConst, List.map, List.headD, List.take, List.drop, reduceEqDiff, reduceAdd, reduceLeDiff, reduceCtorEq, implies_true, vcA, ↓vcB, vcC, fbFw, comG, take32a, drop32a, take33a, len33]
                  refine (GCalls.keep1' cP (O := [.row rt 1 [[.slice (csG L) .none]], .row s5 32 [bytesG h0.1], .row s7 32 [bytesG h0.1], .row sx 1 [[.slice (csG X) .none]], .row u 33 [comG (xh, xp)]]) 3 rfl rfl rfl rfl).mono ?_
                  rintro g O' ⟨rfl, rfl⟩
                  simp +contextual -implicitDefEqProofs (maxSteps := 2000000) (disch := omega) only [drawC, drawK, List.map, vcA, ↓vcB, comG]
                  refine ⟨⟨[], by simp []⟩, ?_⟩
                  refine cS.then ?_ (by rfl)
                  simp +contextual -implicitDefEqProofs (maxSteps := 2000000) (disch := omega) only [drawC, drawK, ↓unV, ↓loadV, ↓storeV, ↓fieldAddrV, GVal.cells, grp, GVal.ofConst, ↓resV, resG, List.take, List.drop, reduceEqDiff, reduceLeDiff, reduceCtorEq, splice, vcA, ↓vcB, vcC, fbFw, drop32y, sol_bytes, take32a, len33, len32, take32]
                  rw [ck_join e1 hf]
                  exact ⟨_, rObj rt L, [.row s5 32 [bytesG xh.1], .row s7 32 [bytesG h0.1], .row sx 1 [[.slice (csG X) .none]], .row u 33 [comG (xh, xp)]], rfl, leA_refl _, rfl, rfl⟩
              | none =>
                have elM : look M xh = none := by rw [hA]; exact el
                have ej : joinE M (xh, xp) = .ok (mset M xh xp) := by unfold joinE; simp only [elM]
                rw [ej] at hf
                rw [el] at cH
                simp +contextual -implicitDefEqProofs (maxSteps := 2000000) (disch := omega) only [drawC, drawK, ↓lenV, binV, ↓loadV, ↓storeV, ↓fieldAddrV, ↓indexAddrV, ↓allocV, GVal.cells, grp, List.map, List.headD, List.take, List.drop, reduceEqDiff, reduceAdd, reduceLeDiff, reduceCtorEq, implies_true, List.replicate, GVal.solid, splice, vcA, ↓vcB, vcC, fbFw, csG_len, comG, take32a, take33a, len33, solid33, d0, eS, hX]
                refine ⟨by omega, fun u => ?_⟩
                refine (GCalls.keep1' cH (O := [.row rt 1 [[.slice (csG L) .none]], .row s5 32 [bytesG h0.1], .row s7 32 [bytesG h0.1], .row sx 1 [[.slice (csG X) .none]], .row u 33 [comG (xh, xp)]]) 3 rfl rfl rfl rfl).mono ?_
                rintro g O' ⟨rfl, rfl⟩
                simp +contextual -implicitDefEqProofs (maxSteps := 2000000) (disch := omega) only [drawC, drawK, ↓loadV, ↓fieldAddrV, grp, GVal.ofConst, List.map, List.headD, List.take, List.drop, reduceEqDiff, reduceAdd, reduceLeDiff, reduceCtorEq, implies_true, vcA, ↓vcB, vcC, fbFw, comG, take32a, drop32a, take33a, len33]
                refine (GCalls.own1' cPut (O := [.row rt 1 [[.slice (csG L) .none]], .row s5 32 [bytesG h0.1], .row s7 32 [bytesG h0.1], .row sx 1 [[.slice (csG X) .none]], .row u 33 [comG (xh, xp)]]) (O2 := [.row rt 1 [[.slice (csG L) .none]], .row s5 32 [bytesG h0.1], .row s7 32 [bytesG h0.1], .row sx 1 [[.slice (csG (putC X (xh, xp))) .none]], .row u 33 [comG (xh, xp)]]) 3 rfl rfl rfl rfl rfl rfl).mono ?_
                rintro g O' ⟨rfl, rfl⟩
                simp +contextual -implicitDefEqProofs (maxSteps := 2000000) (disch := omega) only [binV, GVal.ofConst, vcA, ↓vcB, vcC, comG]
                exact Into.at ⟨(k + 1, mset M xh xp), by show k + 1 ≤ cs.length; omega, hf, by show Alike (mset M xh xp) (putsC L (cs.take (k + 1))); rw [hsn]; exact join_put hA ej⟩ (by show cs.length - (k + 1) < cs.length - k; omega) ⟨[.row u 33 [comG (xh, xp)]], by simp [comG, hsn]⟩ (by simp [WL, leG_self, leG_any])
            · have d0 : ((k : Int) < (cs.length : Int)) = False := eq_false (by omega)
              rw [List.drop_of_length_le (by omega), joinP] at hf
              rw [List.take_of_length_le (by omega)] at hA hXs hXl
              obtain ⟨X, hX⟩ : ∃ X, putsC L cs = X := ⟨_, rfl⟩
              have hXt : putsC L (cs.take k) = X := by rw [List.take_of_length_le (by omega)]; exact hX
              rw [hX] at hA hXs
              have hXr := putsC_row (n := 4) cs (L := L) hg.ok.row (fun c hc => (n4 c hc).1)
              rw [hX] at hXr hXl
              have hXm : GMOK X := ⟨by omega, hXr⟩
              have hML := hA.len (join_spec hf hg.keys).1 (ssc_keys hXs)
              have hLk : ∀ cs' hs', lackP M cs' hs' = lackP X cs' hs' := lack_alike hA
              have hRd := round_ref hg hf hA
              simp +contextual -implicitDefEqProofs (maxSteps := 2000000) (disch := omega) only [drawC, drawK, ↓lenV, binV, ↓loadV, ↓storeV, ↓fieldAddrV, ↓indexAddrV, ↓allocV, GVal.cells, grp, GVal.ofConst, List.map, List.headD, List.take, List.drop, ↓reduceIte, reduceEqDiff, reduceAdd, reduceLeDiff, reduceCtorEq, implies_true, List.replicate, GVal.solid, splice, vcA, ↓vcB, vcC, fbFw, csG_len, d0, hXt]
              have cH := fun y => rHas X hXs (by omega) y sx
              have cR := fun y => rRound X hXs hXm y sx
              refine vcSLoop_by (ι := { k : Nat // k ≤ cs.length ∧ cs.findSome? (fun c => c.2.findSome? (nowhere X 10)) = (cs.drop k).findSome? (fun c => c.2.findSome? (nowhere X 10)) }) (fun k => ⟨[.ptr 0 rt 0 0, .any, .any, .ref (reqG cs hs th gr), .any, .ptr 1 s5 0 0, .any, .ptr 2 s7 0 0, .any, .any, .any, .ptr 3 sx 0 0, .any, .any, .int .i64 (k.1 : Nat)] ++ List.replicate 181 .any, [.row rt 1 [[.slice (csG L) .none]], .row s5 32 [bytesG h0.1], .row s7 32 [bytesG h0.1], .row sx 1 [[.slice (csG X) .none]]]⟩) (fun k => cs.length - k.1) ?_ ?_
              · exact Into.first ⟨0, by omega, by simp⟩ ⟨[], by simp⟩ (by simp [WL, leG_self, leG_any])
              · rintro ⟨k, hk, hf3⟩
                by_cases h : k < cs.length
                · have d0 : ((k : Int) < (cs.length : Int)) = True := eq_true (by omega)
                  have eS := csG_at cs k h
                  have hx := hp _ (memC h)
                  rw [findC h] at hf3
                  generalize cs.getD k default = x at *
                  obtain ⟨xh, xp⟩ := x
                  change xp.length ≤ 1000000 at hx
                  simp only at hf3
                  simp +contextual -implicitDefEqProofs (maxSteps := 2000000) (disch := omega) only [↓lenV, binV, ↓loadV, ↓fieldAddrV, grp, GVal.ofConst, List.headD, List.take, List.drop, reduceAdd, reduceLeDiff, implies_true, List.replicate, vcA, ↓vcB, vcC, fbFw, csG_len, d0]
                  refine vcSLoop_by (ι := { j : Nat // j ≤ xp.length ∧ xp.findSome? (nowhere X 10) = (xp.drop j).findSome? (nowhere X 10) }) (fun j => ⟨[.ptr 0 rt 0 0, .any, .any, .ref (reqG cs hs th gr), .any, .ptr 1 s5 0 0, .any, .ptr 2 s7 0 0, .any, .any, .any, .ptr 3 sx 0 0, .any, .any, .int .i64 (k : Nat), .int .i64 (j.1 : Nat)] ++ List.replicate 180 .any, [.row rt 1 [[.slice (csG L) .none]], .row s5 32 [bytesG h0.1], .row s7 32 [bytesG h0.1], .row sx 1 [[.slice (csG X) .none]]]⟩) (fun j => xp.length - j.1) ?_ ?_
                  · exact Into.first ⟨0, by omega, by simp⟩ ⟨[], by simp⟩ (by simp [WL, leG_self, leG_any])
                  · rintro ⟨j, hj, hf2⟩
                    by_cases h' : j < xp.length
                    · have d1' : ((j : Int) < (xp.length : Int)) = True := eq_true (by omega)
                      have eP := hsG_at xp j h'
                      rw [findH h'] at hf2
                      generalize xp.getD j h0 = p at *
                      have cHp := cH p
                      cases el : look X p with
                      | some l =>
                        have en : nowhere X 10 p = none := by unfold nowhere; rw [el]
                        rw [en] at hf2
                        simp only [el, Option.isSome_some] at cHp
                        simp +contextual -implicitDefEqProofs (maxSteps := 2000000) (disch := omega) only [↓lenV, binV, ↓loadV, ↓storeV, ↓fieldAddrV, ↓indexAddrV, ↓allocV, GVal.cells, grp, List.map, List.headD, List.take, List.drop, reduceEqDiff, reduceAdd, reduceLeDiff, reduceCtorEq, implies_true, List.replicate, splice, vcA, ↓vcB, vcC, fbFw, csG_len, hsG_len, zeroH, drop32y, sol_bytes, ↓solA, comG, drop32a, len33, len32, take32, d1', eS, eP]
                        refine ⟨by omega, by omega, by omega, by omega, by omega, fun u => ?_⟩
                        refine (GCalls.keep1' cHp (O := [.row rt 1 [[.slice (csG L) .none]], .row s5 32 [bytesG h0.1], .row s7 32 [bytesG h0.1], .row sx 1 [[.slice (csG X) .none]]] ++ [.row u 32 [bytesG p.1]]) 3 rfl rfl rfl rfl).mono ?_
                        rintro g O' ⟨rfl, rfl⟩
                        simp +contextual -implicitDefEqProofs (maxSteps := 2000000) (disch := omega) only [binV, ↓unV, GVal.ofConst, vcA, ↓vcB, vcC]
                        exact Into.at ⟨j + 1, by omega, hf2⟩ (by show xp.length - (j + 1) < xp.length - j; omega) ⟨[.row u 32 [bytesG p.1]], by simp⟩ (by simp [WL, leG_self, leG_any])
                      | none =>
                        have en : nowhere X 10 p = some (some p, 10) := by unfold nowhere; rw [el]
                        rw [en] at hf2
                        rw [hf2] at hf3
                        simp only [el, Option.isSome_none] at cHp
                        simp +contextual -implicitDefEqProofs (maxSteps := 2000000) (disch := omega) only [↓lenV, binV, ↓loadV, ↓storeV, ↓fieldAddrV, ↓indexAddrV, ↓allocV, GVal.cells, grp, List.map, List.headD, List.take, List.drop, reduceEqDiff, reduceAdd, reduceLeDiff, reduceCtorEq, implies_true, List.replicate, splice, vcA, ↓vcB, vcC, fbFw, csG_len, hsG_len, zeroH, drop32y, sol_bytes, ↓solA, comG, drop32a, len33, len32, take32, d1', eS, eP]
                        refine ⟨by omega, by omega, by omega, by omega, by omega, fun u => ?_⟩
                        refine (GCalls.keep1' cHp (O := [.row rt 1 [[.slice (csG L) .none]], .row s5 32 [bytesG h0.1], .row s7 32 [bytesG h0.1], .row sx 1 [[.slice (csG X) .none]]] ++ [.row u 32 [bytesG p.1]]) 3 rfl rfl rfl rfl).mono ?_
                        rintro g O' ⟨rfl, rfl⟩
                        simp +contextual -implicitDefEqProofs (maxSteps := 2000000) (disch := omega) only [drawC, drawK, ↓unV, ↓loadV, ↓storeV, GVal.cells, grp, GVal.ofConst, ↓resV, resG, List.take, List.drop, reduceEqDiff, reduceLeDiff, reduceCtorEq, splice, vcA, ↓vcB, vcC, fbFw, drop32y, sol_bytes, len32, take32]
                        have e : lackP M cs hs = some (some p, 10) := by rw [hLk]; unfold lackP; rw [hf3]
                        rw [ck_lack e1 hf e]
                        exact ⟨_, rObj rt L, [.row s5 32 [bytesG p.1], .row s7 32 [bytesG h0.1], .row sx 1 [[.slice (csG X) .none]], .row u 32 [bytesG p.1]], rfl, leA_refl _, rfl, rfl⟩
                    · have d1' : ((j : Int) < (xp.length : Int)) = False := eq_false (by omega)
                      rw [List.drop_of_length_le (by omega)] at hf2
                      rw [hf2] at hf3
                      simp +contextual -implicitDefEqProofs (maxSteps := 2000000) (disch := omega) only [↓lenV, binV, ↓loadV, ↓storeV, ↓fieldAddrV, ↓indexAddrV, ↓allocV, GVal.cells, grp, GVal.ofConst, List.map, List.headD, List.take, List.drop, ↓reduceIte, reduceEqDiff, reduceAdd, reduceLeDiff, reduceCtorEq, implies_true, List.replicate, splice, vcA, ↓vcB, vcC, fbFw, csG_len, hsG_len, zeroH, ↓solA, comG, drop32a, len33, len32, d1', eS]
                      refine ⟨by omega, by omega, ?_⟩
                      exact Into.at ⟨k + 1, by omega, hf3⟩ (by show cs.length - (k + 1) < cs.length - k; omega) ⟨[], by simp⟩ (by simp [WL, leG_self, leG_any])
                · have d0 : ((k : Int) < (cs.length : Int)) = False := eq_false (by omega)
                  rw [List.drop_of_length_le (by omega)] at hf3
                  have eL : lackP M cs hs = hs.findSome? (nowhere X 11) := by rw [hLk]; unfold lackP; rw [hf3]; rfl
                  simp +contextual -implicitDefEqProofs (maxSteps := 2000000) (disch := omega) only [↓lenV, binV, ↓loadV, ↓fieldAddrV, grp, GVal.ofConst, List.headD, List.take, List.drop, ↓reduceIte, reduceAdd, reduceLeDiff, implies_true, List.replicate, vcA, ↓vcB, vcC, fbFw, csG_len, d0]
                  refine vcSLoop_by (ι := { j : Nat // j ≤ hs.length ∧ hs.findSome? (nowhere X 11) = (hs.drop j).findSome? (nowhere X 11) }) (fun j => ⟨[.ptr 0 rt 0 0, .any, .any, .ref (reqG cs hs th gr), .any, .ptr 1 s5 0 0, .any, .ptr 2 s7 0 0, .any, .any, .any, .ptr 3 sx 0 0, .any, .any, .any, .any, .any, .int .i64 (j.1 : Nat)] ++ List.replicate 178 .any, [.row rt 1 [[.slice (csG L) .none]], .row s5 32 [bytesG h0.1], .row s7 32 [bytesG h0.1], .row sx 1 [[.slice (csG X) .none]]]⟩) (fun j => hs.length - j.1) ?_ ?_
                  · exact Into.first ⟨0, by omega, by simp⟩ ⟨[], by simp⟩ (by simp [WL, leG_self, leG_any])
                  · rintro ⟨j, hj, hf2⟩
                    by_cases h' : j < hs.length
                    · have d1' : ((j : Int) < (hs.length : Int)) = True := eq_true (by omega)
                      have eP := hsG_at hs j h'
                      rw [findH h'] at hf2
                      generalize hs.getD j h0 = p at *
                      have cHp := cH p
                      cases el : look X p with
                      | some l =>
                        have en : nowhere X 11 p = none := by unfold nowhere; rw [el]
                        rw [en] at hf2
                        simp only [el, Option.isSome_some] at cHp
                        simp +contextual -implicitDefEqProofs (maxSteps := 2000000) (disch := omega) only [↓lenV, binV, ↓loadV, ↓fieldAddrV, ↓indexAddrV, grp, List.map, List.headD, List.take, List.drop, reduceEqDiff, reduceAdd, reduceLeDiff, reduceCtorEq, implies_true, List.replicate, vcA, ↓vcB, vcC, fbFw, hsG_len, len32, take32, d1', eP]
                        refine ⟨by omega, ?_⟩
                        refine (GCalls.keep1' cHp (O := [.row rt 1 [[.slice (csG L) .none]], .row s5 32 [bytesG h0.1], .row s7 32 [bytesG h0.1], .row sx 1 [[.slice (csG X) .none]]]) 3 rfl rfl rfl rfl).mono ?_
                        rintro g O' ⟨rfl, rfl⟩
                        simp +contextual -implicitDefEqProofs (maxSteps := 2000000) (disch := omega) only [binV, ↓unV, GVal.ofConst, vcA, ↓vcB, vcC]
                        exact Into.at ⟨j + 1, by omega, hf2⟩ (by show hs.length - (j + 1) < hs.length - j; omega) ⟨[], by simp⟩ (by simp [WL, leG_self, leG_any])
                      | none =>
                        have en : nowhere X 11 p = some (some p, 11) := by unfold nowhere; rw [el]
                        rw [en] at hf2
                        rw [hf2] at eL
                        simp only [el, Option.isSome_none] at cHp
                        simp +contextual -implicitDefEqProofs (maxSteps := 2000000) (disch := omega) only [↓lenV, binV, ↓loadV, ↓fieldAddrV, ↓indexAddrV, grp, List.map, List.headD, List.take, List.drop, reduceEqDiff, reduceAdd, reduceLeDiff, reduceCtorEq, implies_true, List.replicate, vcA, ↓vcB, vcC, fbFw, hsG_len, len32, take32, d1', eP]
                        refine ⟨by omega, ?_⟩
                        refine (GCalls.keep1' cHp (O := [.row rt 1 [[.slice (csG L) .none]], .row s5 32 [bytesG h0.1], .row s7 32 [bytesG h0.1], .row sx 1 [[.slice (csG X) .none]]]) 3 rfl rfl rfl rfl).mono ?_
                        rintro g O' ⟨rfl, rfl⟩
                        simp +contextual -implicitDefEqProofs (maxSteps := 2000000) (disch := omega) only [drawC, drawK, ↓unV, ↓loadV, ↓storeV, ↓fieldAddrV, ↓indexAddrV, GVal.cells, grp, GVal.ofConst, ↓resV, resG, List.headD, List.take, List.drop, reduceEqDiff, reduceAdd, reduceLeDiff, reduceCtorEq, implies_true, splice, vcA, ↓vcB, vcC, fbFw, hsG_len, drop32y, sol_bytes, len32, take32, eP]
                        rw [ck_lack e1 hf eL]
                        exact ⟨by omega, by omega, _, rObj rt L, [.row s5 32 [bytesG p.1], .row s7 32 [bytesG h0.1], .row sx 1 [[.slice (csG X) .none]]], rfl, leA_refl _, rfl, rfl⟩
                    · have d1' : ((j : Int) < (hs.length : Int)) = False := eq_false (by omega)
                      rw [List.drop_of_length_le (by omega)] at hf2
                      rw [hf2] at eL
                      simp +contextual -implicitDefEqProofs (maxSteps := 2000000) (disch := omega) only [↓lenV, binV, ↓loadV, ↓fieldAddrV, ↓indexAddrV, grp, GVal.ofConst, List.map, List.headD, List.take, List.drop, ↓reduceIte, reduceEqDiff, reduceAdd, reduceLeDiff, reduceCtorEq, implies_true, List.replicate, vcA, ↓vcB, vcC, fbFw, hsG_len, d1']
                      refine vcSLoop_by (ι := { k : Nat // k ≤ cs.length ∧ cs.findSome? (refE X) = (cs.drop k).findSome? (refE X) }) (fun k => ⟨[.ptr 0 rt 0 0, .any, .any, .ref (reqG cs hs th gr), .any, .ptr 1 s5 0 0, .any, .ptr 2 s7 0 0, .any, .any, .any, .ptr 3 sx 0 0, .any, .any, .any, .any, .any, .any, .int .i64 (k.1 : Nat)] ++ List.replicate 177 .any, [.row rt 1 [[.slice (csG L) .none]], .row s5 32 [bytesG h0.1], .row s7 32 [bytesG h0.1], .row sx 1 [[.slice (csG X) .none]]]⟩) (fun k => cs.length - k.1) ?_ ?_
                      · exact Into.first ⟨0, by omega, by simp⟩ ⟨[], by simp⟩ (by simp [WL, leG_self, leG_any])
                      · rintro ⟨k, hk, hf5⟩
                        by_cases h : k < cs.length
                        · have d0 : ((k : Int) < (cs.length : Int)) = True := eq_true (by omega)
                          have eS := csG_at cs k h
                          rw [findC h] at hf5
                          generalize cs.getD k default = x at *
                          obtain ⟨xh, xp⟩ := x
                          have cRx := cR xh
                          cases er : roundB X xh with
                          | true =>
                            have en : refE X (xh, xp) = some (some xh, 12) := by unfold refE; rw [er]; rfl
                            rw [en] at hf5
                            rw [hf5] at hRd
                            rw [er] at cRx
                            simp +contextual -implicitDefEqProofs (maxSteps := 2000000) (disch := omega) only [↓lenV, binV, ↓loadV, ↓fieldAddrV, ↓indexAddrV, grp, List.map, List.headD, List.take, List.drop, reduceEqDiff, reduceAdd, reduceLeDiff, reduceCtorEq, implies_true, List.replicate, vcA, ↓vcB, vcC, fbFw, csG_len, comG, take32a, len33, d0, eS]
                            refine ⟨by omega, ?_⟩
                            refine (GCalls.keep1' cRx (O := [.row rt 1 [[.slice (csG L) .none]], .row s5 32 [bytesG h0.1], .row s7 32 [bytesG h0.1], .row sx 1 [[.slice (csG X) .none]]]) 3 rfl rfl rfl rfl).mono ?_
                            rintro g O' ⟨rfl, rfl⟩
                            simp +contextual -implicitDefEqProofs (maxSteps := 2000000) (disch := omega) only [drawC, drawK, ↓loadV, ↓storeV, ↓fieldAddrV, ↓indexAddrV, GVal.cells, grp, GVal.ofConst, ↓resV, resG, List.headD, List.take, List.drop, reduceEqDiff, reduceAdd, reduceLeDiff, reduceCtorEq, implies_true, splice, vcA, ↓vcB, vcC, fbFw, csG_len, drop32y, sol_bytes, comG, take32a, len33, len32, take32, eS]
                            rw [ck_round e1 hf eL hRd.symm]
                            exact ⟨by omega, by omega, _, rObj rt L, [.row s5 32 [bytesG xh.1], .row s7 32 [bytesG h0.1], .row sx 1 [[.slice (csG X) .none]]], rfl, leA_refl _, rfl, rfl⟩
                          | false =>
                            have en : refE X (xh, xp) = none := by unfold refE; rw [er]; rfl
                            rw [en] at hf5
                            rw [er] at cRx
                            simp +contextual -implicitDefEqProofs (maxSteps := 2000000) (disch := omega) only [↓lenV, binV, ↓loadV, ↓fieldAddrV, ↓indexAddrV, grp, List.map, List.headD, List.take, List.drop, reduceEqDiff, reduceAdd, reduceLeDiff, reduceCtorEq, implies_true, List.replicate, vcA, ↓vcB, vcC, fbFw, csG_len, comG, take32a, len33, d0, eS]
                            refine ⟨by omega, ?_⟩
                            refine (GCalls.keep1' cRx (O := [.row rt 1 [[.slice (csG L) .none]], .row s5 32 [bytesG h0.1], .row s7 32 [bytesG h0.1], .row sx 1 [[.slice (csG X) .none]]]) 3 rfl rfl rfl rfl).mono ?_
                            rintro g O' ⟨rfl, rfl⟩
                            simp +contextual -implicitDefEqProofs (maxSteps := 2000000) (disch := omega) only [binV, GVal.ofConst, vcA, ↓vcB, vcC]
                            exact Into.at ⟨k + 1, by omega, hf5⟩ (by show cs.length - (k + 1) < cs.length - k; omega) ⟨[], by simp⟩ (by simp [WL, leG_self, leG_any])
                        · have d0 : ((k : Int) < (cs.length : Int)) = False := eq_false (by omega)
                          rw [List.drop_of_length_le (by omega)] at hf5
                          have eR : roundP L M cs = none := by rw [← hRd, hf5]; rfl
                          by_cases h5 : 1000 < X.length
                          · have d5 : ((1000 : Int) < (X.length : Int)) = True := eq_true (by omega)
                            simp +contextual -implicitDefEqProofs (maxSteps := 2000000) (disch := omega) only [drawC, drawK, ↓lenV, binV, ↓loadV, ↓storeV, ↓fieldAddrV, ↓indexAddrV, ↓nilV, GVal.cells, grp, GVal.ofConst, ↓resV, resG, List.map, List.headD, List.take, List.drop, ↓reduceIte, reduceEqDiff, reduceAdd, reduceLeDiff, reduceCtorEq, implies_true, List.replicate, splice, vcA, ↓vcB, vcC, fbFw, csG_len, drop32y, sol_bytes, len32, take32, d0, d5]
                            rw [ck_full e1 hf eL eR (by omega)]
                            exact ⟨_, rObj rt L, [.row s5 32 [bytesG h0.1], .row s7 32 [bytesG h0.1], .row sx 1 [[.slice (csG X) .none]]], rfl, leA_refl _, rfl, rfl⟩
                          · have d5 : ((1000 : Int) < (X.length : Int)) = False := eq_false (by omega)
                            simp +contextual -implicitDefEqProofs (maxSteps := 2000000) (disch := omega) only [drawC, drawK, ↓lenV, binV, ↓loadV, ↓storeV, ↓fieldAddrV, ↓indexAddrV, ↓nilV, GVal.cells, grp, GVal.ofConst, ↓resV, resG, List.map, List.headD, List.take, List.drop, ↓reduceIte, reduceEqDiff, reduceAdd, reduceLeDiff, reduceCtorEq, implies_true, List.replicate, splice, vcA, ↓vcB, vcC, fbFw, csG_len, drop32y, sol_bytes, len32, take32, d0, d5]
                            rw [ck_ok e1 hf eL eR (by omega)]
                            exact ⟨_, rObj rt L, [.row s5 32 [bytesG h0.1], .row s7 32 [bytesG h0.1], .row sx 1 [[.slice (csG X) .none]]], rfl, leA_refl _, rfl, rfl⟩
theorem rCheck (L : GM) (hL : SSC L) (hg : Good L) (cs : List Cm) (hs : List Hs) (th : Tag) (gr : Int) (rt : Nat) (hc : cs.length ≤ 1000000) (hh : hs.length ≤ 1000000) (hp : ∀ c ∈ cs, c.2.length ≤ 1000000) :
    GCalls Tryz.prog 8 [.ptr 0 rt 0 0, .agg (reqG cs hs th gr)] (rObj rt L) (fun g O' => g = chkV (checkE gr L cs hs) ∧ O' = rObj rt L) := by
  by_cases h1 : gr = 1
  · exact rCheck1 L hL hg cs hs th gr rt hc hh hp (eq_true h1) (.inl h1)
  · by_cases h2 : gr = 2
    · exact rCheck2 L hL hg cs hs th gr rt hc hh hp (eq_false h1) (eq_true h2) (.inr h2)
    · rw [ck_bad (.inl ⟨h1, h2⟩)]
      have d1 : (gr = 1) = False := eq_false h1
      have dd : (gr = 2) = False := eq_false h2
      refine GCalls.dropTo ?_
      refine h8.calls mixS (by simp) ?_
      simp only [gstart, s8, List.cons_append, List.nil_append, List.length_cons, List.length_nil, reduceAdd, reduceSub, List.replicate_succ, List.replicate_zero]
      simp +contextual -implicitDefEqProofs (maxSteps := 2000000) (disch := omega) only [drawC, drawK, ↓lenV, binV, ↓loadV, ↓storeV, ↓fieldAddrV, ↓allocV, ↓boxV, ↓buildV, fillG, GVal.cells, grp, GVal.ofConst, ↓resV, resG, List.map, List.headD, List.take, List.drop, reduceEqDiff, reduceAdd, reduceLeDiff, reduceCtorEq, implies_true, ne_eq, allSolid, GVal.solid, splice, vcA, ↓vcB, vcC, fbFw, e8, d1, dd, csG_len, hsG_len, zeroH, drop32y, sol_bytes, ↓solA, len32, take32, false_imp_iff, true_imp_iff]
      exact fun s5 s7 => ⟨_, rObj rt L, [.row s5 32 [bytesG h0.1], .row s7 32 [bytesG h0.1]], rfl, leA_refl _, rfl, rfl⟩
end Gv.Tryz
/- Contracts: the law's same: an error is the document's. -/
set_option linter.unusedVariables false
set_option linter.unusedSimpArgs false
set_option maxRecDepth 20000
set_option maxHeartbeats 4000000
namespace Gv.Tryz
open Go Gv Go.Proofs
open Nat (reduceEqDiff reduceAdd reduceSub reduceLeDiff reduceMul reduceLT)
def erN : Er → Int
  | none => 0
  | some (_, n) => n
def erH : Er → Hs
  | some (some h, _) => h
  | _ => h0
def erB : Er → Bool
  | some (some _, _) => true
  | _ => false
theorem chkV_eq (e : Er) : chkV e = .tuple [.int .i64 (erN e), .agg (bytesG (erH e).1), .bool (erB e)] := by
  rcases e with _ | ⟨_ | h, n⟩ <;> rfl
theorem gSame (e : Er) : GPure Tryz.prog 9 [errV e, .int .i64 (erN e), .agg (bytesG (erH e).1), .bool (erB e)] (.bool true) := by
  rcases e with _ | ⟨_ | h, n⟩
  · show GPure Tryz.prog 9 [.lit .nilIface, .int .i64 0, .agg (bytesG h0.1), .bool false] (.bool true)
    refine h9.pure mixS (by simp) ?_
    simp only [gstart, s9, List.cons_append, List.nil_append, List.length_cons, List.length_nil, reduceAdd, reduceSub, List.replicate_succ, List.replicate_zero]
    simp +contextual -implicitDefEqProofs (maxSteps := 2000000) (disch := omega) only [↓boxV, GVal.cells, GVal.ofConst, List.map, vcA, ↓vcB, vcC, e9, solidH]
    refine gWhoseNil.then ?_ (by rfl)
    simp +contextual -implicitDefEqProofs (maxSteps := 2000000) (disch := omega) only [↓storeV, ↓allocV, GVal.cells, List.map, List.take, List.drop, reduceAdd, reduceLeDiff, GVal.solid, splice, vcA, ↓vcB, vcC, fbFw, len32, solidH]
    intro s9
    refine hKindNil.then ?_ (by rfl)
    simp +contextual -implicitDefEqProofs (maxSteps := 2000000) (disch := omega) only [binV, ↓unV, GVal.ofConst, ↓resV, resG, vcA, ↓vcB, vcC, fbFw]
  · show GPure Tryz.prog 9 [errG n, .int .i64 n, .agg (bytesG h0.1), .bool false] (.bool true)
    refine h9.pure mixS (by simp) ?_
    simp only [gstart, s9, List.cons_append, List.nil_append, List.length_cons, List.length_nil, reduceAdd, reduceSub, List.replicate_succ, List.replicate_zero]
    simp +contextual -implicitDefEqProofs (maxSteps := 2000000) (disch := omega) only [↓boxV, GVal.cells, GVal.ofConst, List.map, vcA, ↓vcB, vcC, e9, solidH]
    refine (gWhoseErr n).then ?_ (by rfl)
    simp +contextual -implicitDefEqProofs (maxSteps := 2000000) (disch := omega) only [↓storeV, ↓allocV, GVal.cells, List.map, List.take, List.drop, reduceAdd, reduceLeDiff, GVal.solid, splice, vcA, ↓vcB, vcC, fbFw, len32, solidH]
    intro s9
    refine (hKindErr n).then ?_ (by rfl)
    simp +contextual -implicitDefEqProofs (maxSteps := 2000000) (disch := omega) only [binV, ↓unV, GVal.ofConst, ↓resV, resG, vcA, ↓vcB, vcC, fbFw]
  · show GPure Tryz.prog 9 [whichG h n, .int .i64 n, .agg (bytesG h.1), .bool true] (.bool true)
    have ce := cellsEq_hs h h
    rw [decide_eq_true rfl] at ce
    refine h9.pure mixS (by simp) ?_
    simp only [gstart, s9, List.cons_append, List.nil_append, List.length_cons, List.length_nil, reduceAdd, reduceSub, List.replicate_succ, List.replicate_zero]
    simp +contextual -implicitDefEqProofs (maxSteps := 2000000) (disch := omega) only [↓boxV, GVal.cells, GVal.ofConst, List.map, vcA, ↓vcB, vcC, e9, solidH]
    refine (gWhose h n).then ?_ (by rfl)
    simp +contextual -implicitDefEqProofs (maxSteps := 2000000) (disch := omega) only [↓storeV, ↓allocV, GVal.cells, List.map, List.take, List.drop, reduceAdd, reduceLeDiff, GVal.solid, splice, vcA, ↓vcB, vcC, fbFw, len32, solidH]
    intro s9
    refine (hKindWhich (bytesG h.1) n (len32 h)).then ?_ (by rfl)
    simp +contextual -implicitDefEqProofs (maxSteps := 2000000) (disch := omega) only [binV, ↓unV, ↓loadV, grp, ↓resV, resG, List.drop, reduceEqDiff, reduceLeDiff, reduceCtorEq, aggV, vcA, ↓vcB, vcC, fbFw, len32, take32, ce]
end Gv.Tryz
/- Contracts: the program's Check, in general. -/
set_option linter.unusedVariables false
set_option linter.unusedSimpArgs false
set_option maxRecDepth 20000
set_option maxHeartbeats 4000000
namespace Gv.Tryz
open Go Gv Go.Proofs
end Gv.Tryz
/- Contracts: the reference's Hashes; the graph's other questions behind one another. -/
set_option linter.unusedVariables false
set_option linter.unusedSimpArgs false
set_option maxRecDepth 20000
set_option maxHeartbeats 4000000
namespace Gv.Tryz
open Go Gv Go.Proofs
def keysC (L : GM) : List Hs := L.map (·.1)
theorem keysC_take (L : GM) (k : Nat) (h : k < L.length) : keysC (L.take (k + 1)) = keysC (L.take k) ++ [(L.getD k default).1] := by
  rw [takeC h]; simp [keysC]
theorem rHashes (L : GM) (hl : L.length ≤ 100000) (rt : Nat) : GCalls Tryz.prog 16 [.ptr 0 rt 0 0] (rObj rt L) (fun g O' => g = .slice (hsG (keysC L)) .none ∧ O' = rObj rt L) := by
  refine GCalls.dropTo ?_
  refine h16.calls mixS (by simp) ?_
  simp only [gstart, s16, List.cons_append, List.nil_append, List.length_cons, List.length_nil, Nat.reduceAdd, Nat.reduceSub, List.replicate_succ, List.replicate_zero]
  simp +contextual -implicitDefEqProofs (maxSteps := 2000000) (disch := omega) only [GVal.ofConst, vcA, ↓vcB, e16]
  refine vcSLoop_by (ι := { p : Nat × Nat // p.1 ≤ L.length }) (fun p => ⟨[.ptr 0 rt 0 0, .any, .any, .slice (hsG (keysC (L.take p.1.1))) (.tok 1 p.1.2), .int .i64 (p.1.1 : Nat)] ++ List.replicate 21 .any, rObj rt L ++ [.tok p.1.2 32]⟩) (fun p => L.length - p.1.1) ?_ ?_
  · refine Into.tok 3 32 [] rfl rfl ?_
    simp +contextual -implicitDefEqProofs (maxSteps := 2000000) (disch := omega) only [List.replicate, vcA, vcC]
    intro so
    exact Into.first ⟨(0, so), Nat.zero_le _⟩ ⟨[], by simp⟩ (by simp [WL, leG_self, leG_any, keysC, hsG])
  · rintro ⟨⟨k, so⟩, hk⟩
    change k ≤ L.length at hk
    have hsl : (keysC (L.take k)).length ≤ 100000 := by rw [keysC, List.length_map, List.length_take]; omega
    by_cases h : k < L.length
    · have d0 : ((k : Int) < (L.length : Int)) = True := eq_true (by omega)
      have eS := csG_at L k h
      have hst := keysC_take L k h
      obtain ⟨xh, xp, hx⟩ : ∃ xh xp, L.getD k default = (xh, xp) := ⟨_, _, rfl⟩
      rw [hx] at eS hst
      simp +contextual -implicitDefEqProofs (maxSteps := 2000000) (disch := omega) only [↓lenV, binV, ↓loadV, ↓fieldAddrV, ↓indexAddrV, ↓buildSliceV, ↓nilV, ↓appendV, ↓srcV, fillE, GVal.cells, grp, GVal.ofConst, List.map, List.headD, List.take, List.drop, ↓reduceIte, Nat.reduceEqDiff, Nat.reduceLeDiff, reduceCtorEq, implies_true, ↓asrcV, Tag.cap, List.replicate, GVal.solid, Nat.reduceMul, vcA, ↓vcB, vcC, fbFw, d0, eS, csG_len, comG, take32a, len33, solidH, len32, hsG_len, all_hsG]
      refine ⟨by omega, by omega, by omega, fun st => ?_⟩
      exact Into.at ⟨(k + 1, st), by show k + 1 ≤ L.length; omega⟩ (by show L.length - (k + 1) < L.length - k; omega) ⟨[], by simp⟩ (by simp [WL, leG_self, leG_any, hst, hsG])
    · have d0 : ((k : Int) < (L.length : Int)) = False := eq_false (by omega)
      have e1 : L.take k = L := List.take_of_length_le (by omega)
      simp +contextual -implicitDefEqProofs (maxSteps := 2000000) (disch := omega) only [↓lenV, binV, ↓loadV, ↓fieldAddrV, ↓indexAddrV, ↓buildSliceV, ↓nilV, ↓appendV, ↓srcV, fillE, GVal.cells, grp, GVal.ofConst, ↓resV, resG, List.map, List.headD, List.take, List.drop, ↓reduceIte, Nat.reduceEqDiff, Nat.reduceLeDiff, reduceCtorEq, implies_true, ↓asrcV, Tag.cap, List.replicate, GVal.solid, Nat.reduceMul, vcA, ↓vcB, vcC, fbFw, d0, csG_len, e1]
      exact ⟨_, rObj rt L, [.tok so 32], rfl, by rw [leA_slice], rfl, rfl⟩
end Gv.Tryz
/- Contracts: the reference's Add. -/
set_option linter.unusedVariables false
set_option linter.unusedSimpArgs false
set_option maxRecDepth 20000
set_option maxHeartbeats 4000000
namespace Gv.Tryz
open Go Gv Go.Proofs
theorem rAdd (L : GM) (hL : SSC L) (hl : L.length ≤ 100000) (cs : List Cm) (t : Tag) (rt : Nat) (hc : cs.length ≤ 100000) (hp : ∀ c ∈ cs, c.2.length ≤ 100000) : GCalls Tryz.prog 12 [.ptr 0 rt 0 0, .slice (csG cs) t] (rObj rt L) (fun g O' => g = .tuple [] ∧ O' = rObj rt (putsC L cs)) := by
  refine h12.calls mixS (by simp) ?_
  simp only [gstart, s12, List.cons_append, List.nil_append, List.length_cons, List.length_nil, Nat.reduceAdd, Nat.reduceSub, List.replicate_succ, List.replicate_zero]
  simp +contextual -implicitDefEqProofs (maxSteps := 2000000) (disch := omega) only [GVal.ofConst, vcA, ↓vcB, e12]
  refine vcSLoop_by (ι := { k : Nat // k ≤ cs.length }) (fun k => ⟨[.ptr 0 rt 0 0, .slice (csG cs) t, .any, .any, .int .i64 (k.1 : Nat)] ++ List.replicate 12 .any, rObj rt (putsC L (cs.take k.1))⟩) (fun k => cs.length - k.1) ?_ ?_
  · exact Into.first ⟨0, by omega⟩ ⟨[], by simp [putsC]⟩ (by simp [WL, leG_self])
  · rintro ⟨k, hk⟩
    by_cases h : k < cs.length
    · have d0 : ((k : Int) < (cs.length : Int)) = True := eq_true (by omega)
      have eS := csG_at cs k h
      have hx := hp _ (memC h)
      have hsn := putsC_snoc L cs k h
      have hXs := putsC_ss (cs.take k) hL
      have hXl := putsC_len (cs.take k) L
      rw [List.length_take] at hXl
      generalize cs.getD k default = x at *
      have cP := rPut _ hXs (by omega) x (by omega) rt
      obtain ⟨xh, xp⟩ := x
      simp +contextual -implicitDefEqProofs (maxSteps := 2000000) (disch := omega) only [↓lenV, binV, ↓loadV, ↓indexAddrV, grp, List.map, Nat.reduceEqDiff, Nat.reduceLeDiff, reduceCtorEq, List.replicate, vcA, ↓vcB, vcC, fbFw, d0, eS, csG_len, comG, len33, take33a]
      refine ⟨by omega, cP.mono ?_⟩
      rintro g O' ⟨rfl, rfl⟩
      simp +contextual -implicitDefEqProofs (maxSteps := 2000000) (disch := omega) only [binV, GVal.ofConst, vcA, ↓vcB, vcC]
      rw [← hsn]
      exact Into.at ⟨k + 1, by omega⟩ (by show cs.length - (k + 1) < cs.length - k; omega) ⟨[], by simp⟩ (by simp [WL, leG_self, leG_any])
    · have d0 : ((k : Int) < (cs.length : Int)) = False := eq_false (by omega)
      simp +contextual -implicitDefEqProofs (maxSteps := 2000000) (disch := omega) only [↓lenV, binV, ↓loadV, ↓indexAddrV, grp, ↓resV, resG, List.map, ↓reduceIte, Nat.reduceEqDiff, reduceCtorEq, List.replicate, vcA, ↓vcB, vcC, fbFw, d0, csG_len]
      rw [List.take_of_length_le (by omega)]
end Gv.Tryz
/- Contracts: the law's hashes of numbers. -/
set_option linter.unusedVariables false
set_option linter.unusedSimpArgs false
set_option maxRecDepth 20000
set_option maxHeartbeats 4000000
namespace Gv.Tryz
open Go Gv Go.Proofs
noncomputable def hashF (n : Int) : Hs := Classical.choose (hHash n)
theorem hHashF (n : Int) : GPure Tryz.prog 17 [.int .i64 n] (.agg (bytesG (hashF n).1)) := Classical.choose_spec (hHash n)
noncomputable def hashN (l : List Int) (k : Nat) : List Hs := (List.range k).map fun j => hashF (l.getD j 0)
theorem hashN_len (l : List Int) (k : Nat) : (hashN l k).length = k := by simp [hashN]
theorem hashN_succ (l : List Int) (k : Nat) : hsG (hashN l (k + 1)) = hsG (hashN l k) ++ [bytesG (hashF (l.getD k 0)).1] := by
  simp [hashN, List.range_succ, hsG]
end Gv.Tryz
