/- GraphPlays: requests, one behind the other. -/
import Derived.Test.YtgkglnjmiobdmaaGreatDoorP12
import Derived.Test.YtgkglnjmiobdmaaGreatDoorP14
import Derived.Test.YtgkglnjmiobdmaaGreatDoorP13
import Derived.Test.YtgkglnjmiobdmaaGreatDoorP4
import Derived.Test.YtgkglnjmiobdmaaGreatDoorP5
import Derived.Test.YtgkglnjmiobdmaaGreatDoorP9
import Derived.OpenShut
import Derived.SizedLaws
import Derived.Test.YtgkglnjmiobdmaaGreatDoorRows
import Derived.ChangeSame
import Derived.ChangeVars
import Derived.JoinedOf
import Derived.RowKit
import Derived.RowKitTokens
import Derived.LaidLaws
import Derived.LaidHandle
import Derived.Stop.Joined
set_option linter.unusedVariables false
set_option linter.unusedSimpArgs false
set_option maxRecDepth 20000
set_option maxHeartbeats 8000000
namespace Gv.Tryz
open Go Gv Go.Proofs
theorem good_nilG : Good ([] : GM) := ⟨⟨by simp, by simp⟩, by simp, by intro x y h; simp [parsM, look] at h, by
  intro x h
  cases h with
  | base _ h => simp [parsM, look] at h
  | step _ _ _ h => simp [parsM, look] at h⟩
structure PlayInv (l : List RR) (i : Nat) (m L : GM) : Prop where
  il : i ≤ l.length
  i8 : i ≤ 8
  good : Good m
  ss : SSC L
  alike : Alike m L
theorem keys_eq {m L : GM} (hm : Good m) (hL : SSC L) (hA : Alike m L) : keysS m = keysC L := by
  have hs : SS (keysC L) := by
    unfold SS keysC
    rw [List.pairwise_map]
    exact hL
  refine ss_eq (sortR_ss _) hs fun x => ?_
  show x ∈ keysS m ↔ x ∈ keysC L
  rw [keysS_mem, hA x]
  exact ⟨look_key, key_look⟩
theorem er_pos {gr : Int} {m : GM} {cs : List Cm} {hs : List Hs} {e : Option Hs × Int} (h : joinedP gr m cs hs = .error e) : erN (some e) ≠ 0 := by
  have := err_pos h
  obtain ⟨_, n⟩ := e
  exact this
theorem reach_congr {n1 n2 : Hs → List Hs} (h : ∀ x y, y ∈ n1 x → y ∈ n2 x) {l : List Hs} {x : Hs} (hr : Reach n1 l x) : Reach n2 l x := by
  induction hr with
  | base x hx => exact .base x hx
  | step x y _ hy ih => exact .step x y ih (h x y hy)
theorem there_len {m : GM} {l : List Hs} (hn : l.Nodup) (h : ∀ x ∈ l, (look m x).isSome = true) : l.length ≤ m.length := by
  have := nodup_lenH l (m.map (·.1)) hn fun x hx => look_key (h x hx)
  simpa using this
theorem des_lenG {m : GM} (hm : Good m) (l : List Hs) : (desL m l).length ≤ 1000 := by
  have := there_len (m := m) (ss_nodup (desL_ss m l)) fun x hx => by
    cases (desL_mem m l x).1 hx with
    | base _ h => exact (List.mem_filter.1 h).2
    | step y _ _ h => exact kids_there h
  have := hm.ok.len
  omega
end Gv.Tryz
/- Contracts: the reference's Remove. -/
set_option linter.unusedVariables false
set_option linter.unusedSimpArgs false
set_option maxRecDepth 20000
set_option maxHeartbeats 4000000
namespace Gv.Tryz
open Go Gv Go.Proofs
theorem findD {f : Cm → Option Hs} {L : GM} {k : Nat} (h : k < L.length) : (L.drop k).findSome? f = match f (L.getD k default) with
    | some b => some b
    | none => (L.drop (k + 1)).findSome? f := by rw [dropC h, List.findSome?_cons]; cases f (L.getD k default) <;> rfl
def rRmF (l : List Hs) (c : Cm) : Option Hs := if c.1 ∈ l then none else if c.2.any (fun p => decide (p ∈ l)) = true then some c.1 else none
def rRmE (L : GM) (l : List Hs) : Option Hs := L.findSome? (rRmF l)
def rRmM (L : GM) (l : List Hs) : GM := L.filter fun c => !decide (c.1 ∈ l)
def rRmV : Option Hs → GVal
  | some h => .tuple [.int .i64 10, .agg (bytesG h.1)]
  | none => .tuple [.int .i64 0, .agg (bytesG h0.1)]
def rRmN (L : GM) (l : List Hs) : GM := if (rRmE L l).isSome = true then L else rRmM L l
theorem rRemoveRaw (L : GM) (hg : Good L) (l : List Hs) (t : Tag) (hll : l.length ≤ 100000) (rt : Nat) :
    GCalls Tryz.prog 27 [.ptr 0 rt 0 0, .slice (hsG l) t] (rObj rt L) (fun g O' => g = rRmV (rRmE L l) ∧ ∃ tag X, O' = .row rt 1 [[.slice (csG (rRmN L l)) tag]] :: X) := by
  have hml := hg.ok.len
  have hrow := hg.ok.row
  have cI := fun x => hIn l t x (by omega)
  obtain ⟨n, hn⟩ : ∃ n, L.length = n := ⟨_, rfl⟩
  refine h27.calls mixS (by simp) ?_
  simp only [gstart, s27, List.cons_append, List.nil_append, List.length_cons, List.length_nil, Nat.reduceAdd, Nat.reduceSub, List.replicate_succ, List.replicate_zero]
  simp +contextual -implicitDefEqProofs (maxSteps := 2000000) (disch := omega) only [↓allocV, GVal.ofConst, vcA, ↓vcB, vcC, fbFw, e27, zeroH, ↓solA, len32]
  intro s5
  refine vcSLoop_by (ι := { k : Nat // k ≤ n ∧ rRmE L l = (L.drop k).findSome? (rRmF l) }) (fun k => ⟨[.ptr 0 rt 0 0, .slice (hsG l) t, .any, .any, .any, .ptr 1 s5 0 0, .int .i64 (k.1 : Nat)] ++ List.replicate 91 .any, rObj rt L ++ [.row s5 32 [bytesG h0.1]]⟩) (fun k => n - k.1) ?_ ?_
  · exact Into.first ⟨0, Nat.zero_le _, rfl⟩ ⟨[], by simp⟩ (by simp [WL, leG_self, leG_any])
  · rintro ⟨i, hi, hE⟩
    change i ≤ n at hi
    by_cases h : i < n
    · have d0 : ((i : Int) < (n : Int)) = True := eq_true (by omega)
      have eC := csG_at L i (by omega)
      rw [findD (show i < L.length by omega)] at hE
      have hx4 := hrow _ (memC (show i < L.length by omega))
      generalize L.getD i default = x at *
      obtain ⟨xh, ps⟩ := x
      change ps.length ≤ 4 at hx4
      have cIx := cI xh
      by_cases hm : xh ∈ l
      · rw [decide_eq_true hm] at cIx
        have e1 : rRmF l (xh, ps) = none := by rw [rRmF, if_pos hm]
        rw [e1] at hE
        simp +contextual -implicitDefEqProofs (maxSteps := 2000000) (disch := omega) only [↓lenV, binV, ↓loadV, ↓fieldAddrV, ↓indexAddrV, ↓nilV, grp, List.map, List.headD, List.take, List.drop, Nat.reduceEqDiff, Nat.reduceLeDiff, reduceCtorEq, implies_true, List.replicate, vcA, ↓vcB, vcC, fbFw, d0, eC, csG_len, hn, comG, take32a, len33]
        refine ⟨by omega, ?_⟩
        refine cIx.then ?_ (by rfl)
        simp +contextual -implicitDefEqProofs (maxSteps := 2000000) (disch := omega) only [binV, GVal.ofConst, ↓reduceIte, vcA, ↓vcB, vcC]
        exact Into.at ⟨i + 1, by omega, hE⟩ (by show n - (i + 1) < n - i; omega) ⟨[], by simp⟩ (by simp [WL, leG_self, leG_any])
      · rw [decide_eq_false hm] at cIx
        simp +contextual -implicitDefEqProofs (maxSteps := 2000000) (disch := omega) only [↓lenV, binV, ↓loadV, ↓fieldAddrV, ↓indexAddrV, ↓nilV, grp, List.map, List.headD, List.take, List.drop, Nat.reduceEqDiff, Nat.reduceLeDiff, reduceCtorEq, implies_true, List.replicate, vcA, ↓vcB, vcC, fbFw, d0, eC, csG_len, hn, comG, take32a, len33]
        refine ⟨by omega, ?_⟩
        refine cIx.then ?_ (by rfl)
        simp +contextual -implicitDefEqProofs (maxSteps := 2000000) (disch := omega) only [GVal.ofConst, vcA, ↓vcB]
        refine vcSLoop_by (ι := { j : Nat // j ≤ ps.length ∧ (ps.take j).any (fun p => decide (p ∈ l)) = false }) (fun j => ⟨[.ptr 0 rt 0 0, .slice (hsG l) t, .any, .any, .any, .ptr 1 s5 0 0, .int .i64 (i : Nat), .int .i64 (j.1 : Nat)] ++ List.replicate 90 .any, rObj rt L ++ [.row s5 32 [bytesG h0.1]]⟩) (fun j => ps.length - j.1) ?_ ?_
        · exact Into.first ⟨0, Nat.zero_le _, by simp⟩ ⟨[], by simp⟩ (by simp [WL, leG_self, leG_any])
        · rintro ⟨j, hj, hno⟩
          change j ≤ ps.length at hj
          by_cases h' : j < ps.length
          · have d2 : ((j : Int) < (ps.length : Int)) = True := eq_true (by omega)
            have ej : norm .i64 ((j : Int) + 1) = (j : Int) + 1 := norm_i64 (by omega)
            have eP := hsG_at ps j h'
            have hym : ps.getD j h0 ∈ ps := by
              rw [List.getD_eq_getElem?_getD, List.getElem?_eq_getElem h']; exact List.getElem_mem h'
            have htp := takeH h'
            generalize ps.getD j h0 = y at *
            have cIy := cI y
            by_cases hy : y ∈ l
            · rw [decide_eq_true hy] at cIy
              have e1 : rRmF l (xh, ps) = some xh := by rw [rRmF, if_neg hm, if_pos (List.any_eq_true.2 ⟨y, hym, decide_eq_true hy⟩)]
              rw [e1] at hE
              simp +contextual -implicitDefEqProofs (maxSteps := 2000000) (disch := omega) only [↓lenV, binV, ↓loadV, ↓fieldAddrV, ↓indexAddrV, ↓nilV, grp, List.map, List.headD, List.take, List.drop, Nat.reduceEqDiff, Nat.reduceLeDiff, reduceCtorEq, implies_true, List.replicate, vcA, ↓vcB, vcC, fbFw, d2, eC, eP, csG_len, comG, drop32a, len33, len32, take32, hsG_len, hn]
              refine ⟨by omega, by omega, by omega, by omega, by omega, ?_⟩
              refine cIy.then ?_ (by rfl)
              simp +contextual -implicitDefEqProofs (maxSteps := 2000000) (disch := omega) only [drawC, drawK, ↓loadV, ↓storeV, ↓fieldAddrV, ↓indexAddrV, ↓nilV, GVal.cells, grp, GVal.ofConst, ↓resV, resG, List.headD, List.take, List.drop, Nat.reduceEqDiff, Nat.reduceLeDiff, reduceCtorEq, implies_true, splice, vcA, ↓vcB, vcC, fbFw, eC, csG_len, comG, take32a, len33, len32, take32, hn, drop32y, sol_bytes]
              exact ⟨by omega, by omega, by rw [hE]; rfl, .none, [.row s5 32 [bytesG xh.1]], by rw [rRmN, if_pos (by rw [hE]; rfl)]⟩
            · rw [decide_eq_false hy] at cIy
              simp +contextual -implicitDefEqProofs (maxSteps := 2000000) (disch := omega) only [↓lenV, binV, ↓loadV, ↓fieldAddrV, ↓indexAddrV, ↓nilV, grp, List.map, List.headD, List.take, List.drop, Nat.reduceEqDiff, Nat.reduceLeDiff, reduceCtorEq, implies_true, List.replicate, vcA, ↓vcB, vcC, fbFw, d2, eC, eP, csG_len, comG, drop32a, len33, len32, take32, hsG_len, hn]
              refine ⟨by omega, by omega, by omega, by omega, by omega, ?_⟩
              refine cIy.then ?_ (by rfl)
              simp +contextual -implicitDefEqProofs (maxSteps := 2000000) (disch := omega) only [binV, GVal.ofConst, vcA, ↓vcB, vcC, ej]
              refine Into.at ⟨j + 1, h', ?_⟩ (by show ps.length - (j + 1) < ps.length - j; omega) ⟨[], by simp⟩ (by simp [WL, leG_self, leG_any])
              rw [htp, List.any_append, hno]; simpa using hy
          · have d2 : ((j : Int) < (ps.length : Int)) = False := eq_false (by omega)
            rw [List.take_of_length_le (by omega)] at hno
            have e1 : rRmF l (xh, ps) = none := by rw [rRmF, if_neg hm, if_neg (by rw [hno]; simp)]
            rw [e1] at hE
            simp +contextual -implicitDefEqProofs (maxSteps := 2000000) (disch := omega) only [↓lenV, binV, ↓loadV, ↓fieldAddrV, ↓indexAddrV, ↓nilV, grp, GVal.ofConst, List.map, List.headD, List.take, List.drop, ↓reduceIte, Nat.reduceEqDiff, Nat.reduceLeDiff, reduceCtorEq, implies_true, List.replicate, vcA, ↓vcB, vcC, fbFw, d2, eC, csG_len, comG, drop32a, len33, hsG_len, hn]
            refine ⟨by omega, by omega, ?_⟩
            exact Into.at ⟨i + 1, by omega, hE⟩ (by show n - (i + 1) < n - i; omega) ⟨[], by simp⟩ (by simp [WL, leG_self, leG_any])
    · have d0 : ((i : Int) < (n : Int)) = False := eq_false (by omega)
      rw [List.drop_of_length_le (by omega)] at hE
      have hE : rRmE L l = none := hE
      have hN : rRmN L l = rRmM L l := by rw [rRmN, if_neg (by rw [hE]; simp)]
      simp +contextual -implicitDefEqProofs (maxSteps := 2000000) (disch := omega) only [↓lenV, binV, ↓loadV, ↓fieldAddrV, ↓indexAddrV, ↓nilV, grp, GVal.ofConst, List.map, List.headD, List.take, List.drop, ↓reduceIte, Nat.reduceEqDiff, Nat.reduceLeDiff, reduceCtorEq, implies_true, List.replicate, vcA, ↓vcB, vcC, fbFw, d0, csG_len, hn]
      refine vcSLoop_by (ι := { p : Nat × Nat // p.1 ≤ n }) (fun p => ⟨[.ptr 0 rt 0 0, .slice (hsG l) t, .any, .any, .any, .ptr 1 s5 0 0, .any, .any, .slice (csG (rRmM (L.take p.1.1) l)) (.tok 2 p.1.2), .int .i64 (p.1.1 : Nat)] ++ List.replicate 88 .any, rObj rt L ++ [.row s5 32 [bytesG h0.1], .tok p.1.2 33]⟩) (fun p => n - p.1.1) ?_ ?_
      · refine Into.tok 8 33 [] rfl rfl ?_
        simp +contextual -implicitDefEqProofs (maxSteps := 2000000) (disch := omega) only [Nat.reduceAdd, List.replicate, vcA, vcC]
        intro so
        exact Into.first ⟨(0, so), Nat.zero_le _⟩ ⟨[], by simp⟩ (by simp [WL, leG_self, leG_any, rRmM, csG])
      · rintro ⟨⟨k, so⟩, hk⟩
        change k ≤ n at hk
        have hfl : (rRmM (L.take k) l).length ≤ k := by
          unfold rRmM; refine Nat.le_trans (List.length_filter_le _ _) ?_; rw [List.length_take]; omega
        by_cases h : k < n
        · have d0 : ((k : Int) < (n : Int)) = True := eq_true (by omega)
          have eC := csG_at L k (by omega)
          have ht := takeC (show k < L.length by omega)
          obtain ⟨x, hx⟩ : ∃ x, L.getD k default = x := ⟨_, rfl⟩
          rw [hx] at eC ht
          obtain ⟨xh, ps⟩ := x
          have cIx := cI xh
          by_cases hm : xh ∈ l
          · rw [decide_eq_true hm] at cIx
            have e2 : rRmM (L.take (k + 1)) l = rRmM (L.take k) l := by rw [ht, rRmM, List.filter_append]; simp [hm, rRmM]
            simp +contextual -implicitDefEqProofs (maxSteps := 2000000) (disch := omega) only [↓lenV, binV, ↓loadV, ↓fieldAddrV, ↓indexAddrV, ↓nilV, grp, List.map, List.headD, List.take, List.drop, Nat.reduceEqDiff, Nat.reduceLeDiff, reduceCtorEq, implies_true, List.replicate, vcA, ↓vcB, vcC, fbFw, d0, eC, csG_len, hn, comG, take32a, len33]
            refine ⟨by omega, ?_⟩
            refine cIx.then ?_ (by rfl)
            simp +contextual -implicitDefEqProofs (maxSteps := 2000000) (disch := omega) only [binV, ↓unV, GVal.ofConst, vcA, ↓vcB, vcC]
            exact Into.at ⟨(k + 1, so), h⟩ (by show n - (k + 1) < n - k; omega) ⟨[], by simp⟩ (by simp [WL, leG_self, leG_any, e2])
          · rw [decide_eq_false hm] at cIx
            have e2 : rRmM (L.take (k + 1)) l = rRmM (L.take k) l ++ [(xh, ps)] := by rw [ht, rRmM, List.filter_append]; simp [hm, rRmM]
            simp +contextual -implicitDefEqProofs (maxSteps := 2000000) (disch := omega) only [↓lenV, binV, ↓loadV, ↓fieldAddrV, ↓indexAddrV, ↓nilV, grp, List.map, List.headD, List.take, List.drop, Nat.reduceEqDiff, Nat.reduceLeDiff, reduceCtorEq, implies_true, List.replicate, vcA, ↓vcB, vcC, fbFw, d0, eC, csG_len, hn, comG, take32a, len33]
            refine ⟨by omega, ?_⟩
            refine cIx.then ?_ (by rfl)
            simp +contextual -implicitDefEqProofs (maxSteps := 2000000) (disch := omega) only [binV, ↓unV, ↓loadV, ↓fieldAddrV, ↓indexAddrV, ↓buildSliceV, ↓nilV, ↓appendV, ↓srcV, fillE, GVal.cells, grp, GVal.ofConst, List.map, List.headD, List.take, List.drop, ↓reduceIte, Nat.reduceEqDiff, Nat.reduceLeDiff, reduceCtorEq, implies_true, ↓asrcV, Tag.cap, List.replicate, GVal.solid, Nat.reduceMul, vcA, ↓vcB, vcC, fbFw, eC, csG_len, hn, comG, take33a, len33, solid33, all_csG]
            refine ⟨by omega, by omega, by omega, by omega, fun so' => ?_⟩
            exact Into.at ⟨(k + 1, so'), h⟩ (by show n - (k + 1) < n - k; omega) ⟨[], by simp⟩ (by simp [WL, leG_self, leG_any, e2, csG, comG])
        · have d0 : ((k : Int) < (n : Int)) = False := eq_false (by omega)
          have e1 : L.take k = L := List.take_of_length_le (by omega)
          simp +contextual -implicitDefEqProofs (maxSteps := 2000000) (disch := omega) only [↓lenV, binV, ↓loadV, ↓storeV, ↓fieldAddrV, ↓indexAddrV, ↓buildV, ↓nilV, fillG, GVal.cells, grp, GVal.ofConst, ↓resV, resG, List.map, List.headD, List.take, List.drop, ↓reduceIte, Nat.reduceEqDiff, Nat.reduceLeDiff, reduceCtorEq, implies_true, List.replicate, allSolid, GVal.solid, splice, vcA, ↓vcB, vcC, fbFw, d0, csG_len, hn, e1, zeroH, drop32y, sol_bytes, ↓solA, len32, take32, false_imp_iff, true_imp_iff]
          exact ⟨by rw [hE]; rfl, .tok 2 so, [.row s5 32 [bytesG h0.1], .tok so 33], by rw [rRmN, if_neg (by rw [hE]; simp)]⟩
theorem rRemove (L : GM) (hg : Good L) (l : List Hs) (t : Tag) (hll : l.length ≤ 100000) (rt : Nat) :
    GCalls Tryz.prog 27 [.ptr 0 rt 0 0, .slice (hsG l) t] (rObj rt L) (fun g O' => g = rRmV (rRmE L l) ∧ O' = rObj rt (rRmN L l)) := by
  refine GCalls.frame (rRemoveRaw L hg l t hll rt) [0] ⟨⟨_, rfl, .refl _⟩, trivial⟩ (by simp) (GLes.refl _) rfl rfl ?_
  rintro g O' ⟨rfl, tag, X, rfl⟩
  exact ⟨_, rObj rt (rRmN L l), [(false, 0)], ⟨rfl, rfl⟩, GLe.refl _, ⟨⟨_, rfl, OLe.row ⟨⟨GLe.none, trivial⟩, trivial⟩⟩, trivial⟩, by simp, rfl⟩
end Gv.Tryz
/- GraphRemoves: plain laws. -/
set_option linter.unusedVariables false
set_option linter.unusedSimpArgs false
set_option maxRecDepth 20000
set_option maxHeartbeats 4000000
namespace Gv.Tryz
open Go Gv Go.Proofs
def outM (m : GM) (S : List Hs) : GM := m.filter fun p => !decide (p.1 ∈ S)
theorem look_out : ∀ (m : GM) (S : List Hs) (x : Hs), look (outM m S) x = if x ∈ S then none else look m x
  | [], S, x => by simp [outM, look]
  | p :: r, S, x => by
    have ih := look_out r S x
    unfold outM at ih ⊢
    rw [List.filter_cons]
    by_cases hp : p.1 ∈ S
    · rw [if_neg (by simp [hp]), ih]
      by_cases hx : x ∈ S
      · rw [if_pos hx, if_pos hx]
      · rw [if_neg hx, if_neg hx, look, if_neg (fun e => hx (by rw [e]; exact hp))]
    · rw [if_pos (by simp [hp]), look, ih]
      by_cases e : x = p.1
      · rw [if_pos e, if_neg (by rw [e]; exact hp), look, if_pos e]
      · rw [if_neg e]
        by_cases hx : x ∈ S
        · rw [if_pos hx, if_pos hx]
        · rw [if_neg hx, if_neg hx, look, if_neg e]
theorem pars_out {m : GM} {S : List Hs} {x y : Hs} (h : y ∈ parsM (outM m S) x) : x ∉ S ∧ y ∈ parsM m x := by
  unfold parsM at h ⊢
  rw [look_out] at h
  by_cases hx : x ∈ S
  · rw [if_pos hx] at h; cases h
  · rw [if_neg hx] at h; exact ⟨hx, h⟩
theorem good_out {m : GM} (hm : Good m) {S : List Hs} (hS : ∀ x, x ∉ S → ∀ y ∈ parsM m x, y ∉ S) : Good (outM m S) := by
  have sub : (outM m S).Sublist m := List.filter_sublist
  refine ⟨⟨Nat.le_trans sub.length_le hm.ok.len, fun p hp => hm.ok.row p (sub.subset hp)⟩, hm.keys.sublist (sub.map _), fun x y hy => ?_, fun x hx => ?_⟩
  · obtain ⟨h1, h2⟩ := pars_out hy
    rw [look_out, if_neg (hS x h1 y h2)]
    exact hm.closed x y h2
  · refine hm.acyc x ?_
    have := reach_congr (n2 := parsM m) (fun a b h => (pars_out h).2) hx
    exact this.trans fun y hy => .base y (pars_out hy).2
theorem alike_out {m L : GM} (hA : Alike m L) {S T : List Hs} (h : ∀ x, (look m x).isSome = true → (x ∈ S ↔ x ∈ T)) : Alike (outM m S) (outM L T) := fun x => by
  rw [look_out, look_out, hA x]
  cases e : look L x with
  | none => split <;> split <;> rfl
  | some v =>
    have := h x (by rw [hA x, e]; rfl)
    by_cases hx : x ∈ S
    · rw [if_pos hx, if_pos (this.1 hx)]
    · rw [if_neg hx, if_neg fun q => hx (this.2 q)]
theorem set_there {m : GM} {l : List Hs} {x : Hs} (h : (look m x).isSome = true) : x ∈ setAll (inM m l) ↔ x ∈ l := by
  rw [setAll_mem, inM_mem]
  exact ⟨fun q => q.1, fun q => ⟨q, h⟩⟩
theorem find_map {α β γ : Type} (f : β → Option γ) (g : α → β) : ∀ l : List α, (l.map g).findSome? f = l.findSome? fun a => f (g a)
  | [] => rfl
  | a :: r => by rw [List.map_cons, List.findSome?_cons, List.findSome?_cons, find_map f g r]
theorem find_opt {α β γ : Type} (f : α → Option β) (g : β → γ) : ∀ l : List α, (l.findSome? fun a => (f a).map g) = (l.findSome? f).map g
  | [] => rfl
  | a :: r => by rw [List.findSome?_cons, List.findSome?_cons, find_opt f g r]; cases f a <;> rfl
theorem rem_say {m L : GM} (hm : Good m) (hL : SSC L) (hA : Alike m L) (l : List Hs) : removeE m (setAll (inM m l)) = (rRmE L l).map fun h => (some h, 10) := by
  have hg := good_alike hm hA hL
  unfold removeE rRmE
  rw [keys_eq hm hL hA, keysC, find_map, ← find_opt]
  refine findSome_congr fun c hc => ?_
  have hl := look_of_mem (ssc_keys hL) hc
  have hp : parsM m c.1 = c.2 := by rw [hA.pars, parsM_some hl]
  have h1 : c.1 ∈ setAll (inM m l) ↔ c.1 ∈ l := set_there (by rw [hA c.1, hl]; rfl)
  have h2 : c.2.any (fun p => decide (p ∈ setAll (inM m l))) = c.2.any (fun p => decide (p ∈ l)) := by
    have hh : ∀ p ∈ c.2, (p ∈ setAll (inM m l) ↔ p ∈ l) := fun p hp' => set_there (hm.closed c.1 p (by rw [hp]; exact hp'))
    rw [Bool.eq_iff_iff, List.any_eq_true, List.any_eq_true]
    exact ⟨fun ⟨p, a, b⟩ => ⟨p, a, decide_eq_true ((hh p a).1 (of_decide_eq_true b))⟩, fun ⟨p, a, b⟩ => ⟨p, a, decide_eq_true ((hh p a).2 (of_decide_eq_true b))⟩⟩
  unfold rmF rRmF
  rw [hp, h2]
  by_cases a : c.1 ∈ l
  · rw [if_pos (h1.2 a), if_pos a]; rfl
  · rw [if_neg fun q => a (h1.1 q), if_neg a]
    split <;> rfl
theorem rem_graph {m L : GM} (hm : Good m) (hL : SSC L) (hA : Alike m L) (l : List Hs) : Good (removeM m (setAll (inM m l))) ∧ SSC (rRmN L l) ∧ Alike (removeM m (setAll (inM m l))) (rRmN L l) := by
  have hs := rem_say hm hL hA l
  unfold removeM rRmN
  cases e : rRmE L l with
  | some h =>
    rw [e] at hs
    simp only [hs, Option.map_some]
    exact ⟨hm, hL, hA⟩
  | none =>
    rw [e] at hs
    simp only [hs, Option.map_none]
    have hS : ∀ x, x ∉ setAll (inM m l) → ∀ y ∈ parsM m x, y ∉ setAll (inM m l) := fun x hx y hy q => by
      obtain ⟨p, h1, h2, h3⟩ := parsM_mem hy
      have hk : x ∈ keysS m := by rw [keysS_mem, ← h2]; exact key_look (List.mem_map_of_mem h1)
      have := List.findSome?_eq_none_iff.1 (show (keysS m).findSome? (rmF m (setAll (inM m l))) = none from hs) x hk
      unfold rmF at this
      rw [if_neg hx, if_pos (List.any_eq_true.2 ⟨y, hy, decide_eq_true q⟩)] at this
      cases this
    refine ⟨good_out hm hS, ?_, alike_out (T := l) hA fun x hx => set_there hx⟩
    exact hL.sublist List.filter_sublist
end Gv.Tryz
/- GraphRemoves. -/
set_option linter.unusedVariables false
set_option linter.unusedSimpArgs false
set_option maxRecDepth 20000
set_option maxHeartbeats 8000000
namespace Gv.Tryz
open Go Gv Go.Proofs
open Nat (reduceEqDiff reduceAdd reduceSub reduceLeDiff reduceMul reduceLT)
def intss (ls : List (List Int)) : List (List GVal) := ls.map fun a => [.slice (ints a) .none]
theorem intss_len (ls : List (List Int)) : (intss ls).length = ls.length := by simp [intss]
theorem intss_at (ls : List (List Int)) (i : Nat) (h : i < ls.length) : (intss ls).getD i [] = [.slice (ints (ls.getD i [])) .none] := by simp [intss, List.getD, h]
theorem hsG_appG (a b : List Hs) : hsG a ++ hsG b = hsG (a ++ b) := by simp [hsG]
theorem rmV_eq (e : Option Hs) : rRmV e = .tuple [.int .i64 (erN (e.map fun h => (some h, 10))), .agg (bytesG (erH (e.map fun h => (some h, 10))).1)] := by cases e <;> rfl
theorem erB_ne (e : Option Hs) : erB (e.map fun h => (some h, 10)) = (erN (e.map fun h => (some h, 10)) != 0) := by cases e <;> rfl
structure RemInv (m L : GM) : Prop where
  good : Good m
  ss : SSC L
  alike : Alike m L
theorem specRemoves (l : List RR) (ls : List (List Int)) (wh : Bool) : GPure Tryz.prog 4 [.slice (rrsG l) .none, .slice (intss ls) .none, .bool wh] (.bool true) := by
  refine GCalls.toPure ?_
  refine h4.calls mixS (by simp) ?_
  simp only [gstart, s4, List.cons_append, List.nil_append, List.length_cons, List.length_nil, reduceAdd, reduceSub, List.replicate_succ, List.replicate_zero]
  simp +contextual -implicitDefEqProofs (maxSteps := 2000000) (disch := omega) only [GVal.ofConst, List.map, vcA, ↓vcB, e4]
  refine gNew.mono ?_
  rintro g O' ⟨st, s, rfl, rfl⟩
  simp +contextual -implicitDefEqProofs (maxSteps := 2000000) (disch := omega) only [List.map, vcA, ↓vcB]
  refine gKnown11.then ?_ (by rfl)
  simp +contextual -implicitDefEqProofs (maxSteps := 2000000) (disch := omega) only [binV, ↓unV, ↓boxV, ↓buildV, fillG, GVal.cells, GVal.ofConst, List.map, reduceAdd, allSolid, GVal.solid, vcA, ↓vcB, vcC, fbFw]
  intro rt
  refine vcSLoop_by (ι := { p : (Nat × Nat) × (GM × GM) // PlayInv l p.1.1 p.2.1 p.2.2 }) (fun p => ⟨[.slice (rrsG l) .none, .slice (intss ls) .none, .bool wh, .any, .any, .any, .any, .ptr 0 st 0 0, .ptr 2 rt 0 0, .int .i64 (p.1.1.1 : Nat)] ++ List.replicate 131 .any, gObj st p.1.1.2 p.1.2.1 ++ rObj rt p.1.2.2⟩) (fun p => 8 - p.1.1.1) ?_ ?_
  · refine Into.rowLe 2 [[.slice [] .nil]] [[.slice (csG []) .none]] rfl ⟨⟨GLe.none, trivial⟩, trivial⟩ ?_
    exact Into.first ⟨((0, s), ([], [])), ⟨Nat.zero_le _, Nat.zero_le _, good_nilG, List.Pairwise.nil, fun _ => rfl⟩⟩ ⟨[], by simp⟩ (by simp [WL, leG_self, leG_any])
  · rintro ⟨⟨⟨i, s⟩, ⟨m, L⟩⟩, hI⟩
    obtain ⟨hil, hi8, hm, hL, hA⟩ : PlayInv l i m L := hI
    have hgL := good_alike hm hA hL
    by_cases h : i < l.length ∧ i < 4
    · have d0 : ((i : Int) < (l.length : Int)) = True := eq_true (by omega)
      have d1 : ((i : Int) < 4) = True := eq_true (by omega)
      have eR := rrsG_at l i h.1
      generalize l.getD i default = x at *
      simp +contextual -implicitDefEqProofs (maxSteps := 2000000) (disch := omega) only [↓lenV, binV, ↓loadV, ↓indexAddrV, grp, GVal.ofConst, List.map, List.take, reduceEqDiff, reduceAdd, reduceLeDiff, reduceCtorEq, List.replicate, vcA, ↓vcB, vcC, fbFw, d0, d1, eR, rrsG_len]
      refine ⟨by omega, ?_⟩
      refine (gRequestO x (gObj st s m ++ rObj rt L) rfl).mono ?_
      rintro g O' ⟨cs, hs, gr, hr, rfl, rfl⟩
      have hcl := hr.len
      have hpl : ∀ c ∈ cs, c.2.length ≤ 100000 := fun c hc => by have := hr.par c hc; omega
      have hpm : ∀ c ∈ cs, c.2.length ≤ 1000000 := fun c hc => by have := hr.par c hc; omega
      have cY := fun (X : List GObj) => GCalls.keep1' (rCheck L hL hgL cs [] .nil 2 rt (by omega) (by simp) hpm) (O := gObj st s m ++ rObj rt L ++ X) (args' := [.ptr 2 rt 0 0, .agg (reqG cs [] .nil 2)]) 2 rfl rfl rfl rfl
      simp only [chkV_eq] at cY
      obtain ⟨eY, hY⟩ : ∃ e, checkE 2 L cs [] = e := ⟨_, rfl⟩
      rw [hY] at cY
      have hYs : ∃ (M K : GM), addedE m cs = eY ∧ addedM m cs = M ∧ Good M ∧ SSC K ∧ Alike M K ∧ ((erN eY ≠ 0 ∧ K = L) ∨ (erN eY = 0 ∧ K = putsC L cs)) := by
        rcases joined_alike hA hm.keys (ssc_keys hL) 2 cs [] with ⟨e, e1, e2⟩ | ⟨M, M', e1, e2, H⟩
        · have ec : eY = some e := by rw [← hY]; unfold checkE; rw [e2]
          exact ⟨m, L, by rw [ec]; unfold addedE; rw [e1], by unfold addedM; rw [e1], hm, hL, hA, .inl ⟨by rw [ec]; exact er_pos e2, rfl⟩⟩
        · have ec : eY = none := by rw [← hY]; unfold checkE; rw [e2]
          exact ⟨M, putsC L cs, by rw [ec]; unfold addedE; rw [e1], by unfold addedM; rw [e1], joined_good hm e1, putsC_ss cs hL, join_puts hA (joined_ok e1).2.1, .inr ⟨by rw [ec]; rfl, rfl⟩⟩
      obtain ⟨M, K, hE, hM', gM, sK, aK, hcase⟩ := hYs
      have hll := hgL.ok.len
      have cA := fun K X => kAdd m M hm.ok cs eY hE hM' st s (by omega) hpm (.row rt 1 [[.slice (csG K) .none]] :: X) (GLes.refl _)
      simp +contextual -implicitDefEqProofs (maxSteps := 2000000) (disch := omega) only [↓loadV, ↓storeV, ↓fieldAddrV, ↓allocV, ↓buildV, fillG, place, GVal.cells, grp, GVal.ofConst, List.map, List.headD, List.take, List.drop, ↓reduceIte, reduceAdd, reduceLeDiff, implies_true, allSolid, GVal.solid, splice, vcA, ↓vcB, vcC, fbFw]
      intro sx
      refine (cY [.row sx 3 [reqG cs hs .none gr]]).mono ?_
      rintro g O' ⟨rfl, rfl⟩
      simp +contextual -implicitDefEqProofs (maxSteps := 2000000) (disch := omega) only [binV, ↓loadV, ↓storeV, ↓fieldAddrV, ↓allocV, GVal.cells, grp, GVal.ofConst, List.map, List.headD, List.take, List.drop, reduceAdd, reduceLeDiff, implies_true, ne_eq, GVal.solid, splice, vcA, ↓vcB, vcC, fbFw, len32, solidH]
      intro sh
      rcases hcase with ⟨eN, rfl⟩ | ⟨eN, hK⟩
      · simp +contextual -implicitDefEqProofs (maxSteps := 2000000) (disch := omega) only [vcC, eN]
        refine (cA _ [.row sx 3 [reqG cs hs .none gr], .row sh 32 [bytesG (erH eY).1]]).mono ?_
        rintro g O' ⟨s', rfl, rfl⟩
        simp +contextual -implicitDefEqProofs (maxSteps := 2000000) (disch := omega) only [binV, GVal.ofConst, vcA, ↓vcB, vcC]
        exact Into.at ⟨((i + 1, s'), (M, _)), ⟨show i + 1 ≤ l.length by omega, show i + 1 ≤ 8 by omega, gM, sK, aK⟩⟩ (by show 8 - (i + 1) < 8 - i; omega) ⟨_, rfl⟩ (by simp [WL, leG_self, leG_any])
      · have cAd := fun (X : List GObj) => GCalls.own1' (rAdd L hL (by omega) cs .none rt (by omega) hpl) (O := gObj st s m ++ rObj rt L ++ X) (O2 := gObj st s m ++ rObj rt (putsC L cs) ++ X) (args' := [.ptr 2 rt 0 0, .slice (csG cs) .none]) 2 rfl rfl rfl rfl rfl rfl
        rw [← hK] at cAd
        simp +contextual -implicitDefEqProofs (maxSteps := 2000000) (disch := omega) only [vcC, eN]
        refine ⟨?_, fun h => absurd trivial h⟩
        refine (cAd _).mono ?_
        rintro g O' ⟨rfl, rfl⟩
        simp +contextual -implicitDefEqProofs (maxSteps := 2000000) (disch := omega) only [↓loadV, ↓fieldAddrV, grp, List.map, List.headD, List.take, List.drop, reduceAdd, reduceLeDiff, implies_true, vcA, ↓vcB, vcC, fbFw]
        refine (cA K [.row sx 3 [reqG cs hs .none gr], .row sh 32 [bytesG (erH eY).1]]).mono ?_
        rintro g O' ⟨s', rfl, rfl⟩
        simp +contextual -implicitDefEqProofs (maxSteps := 2000000) (disch := omega) only [binV, GVal.ofConst, vcA, ↓vcB, vcC]
        exact Into.at ⟨((i + 1, s'), (M, _)), ⟨show i + 1 ≤ l.length by omega, show i + 1 ≤ 8 by omega, gM, sK, aK⟩⟩ (by show 8 - (i + 1) < 8 - i; omega) ⟨_, rfl⟩ (by simp [WL, leG_self, leG_any])
    · have hcase : (((i : Int) < (l.length : Int)) = True ∧ ((i : Int) < 4) = False) ∨ (((i : Int) < (l.length : Int)) = False ∧ (True = True)) := by
        by_cases hh : i < l.length
        · exact .inl ⟨eq_true (by omega), eq_false (by omega)⟩
        · exact .inr ⟨eq_false (by omega), rfl⟩
      clear h
      rcases hcase with ⟨d0, d1⟩ | ⟨d0, d1⟩
      all_goals
        simp +contextual -implicitDefEqProofs (maxSteps := 2000000) (disch := omega) only [↓lenV, binV, ↓loadV, ↓indexAddrV, grp, GVal.ofConst, List.map, ↓reduceIte, reduceEqDiff, reduceCtorEq, List.replicate, vcA, ↓vcB, vcC, fbFw, d0, d1, rrsG_len]
        refine vcSLoop_by (ι := { p : (Nat × Nat) × (GM × GM) // p.1.1 ≤ ls.length ∧ p.1.1 ≤ 5 ∧ RemInv p.2.1 p.2.2 }) (fun p => ⟨[.any, .slice (intss ls) .none, .bool wh, .any, .any, .any, .any, .ptr 0 st 0 0, .ptr 2 rt 0 0, .any, .any, .any, .any, .any, .int .i64 (p.1.1.1 : Nat)] ++ List.replicate 126 .any, gObj st p.1.1.2 p.1.2.1 ++ rObj rt p.1.2.2⟩) (fun p => 5 - p.1.1.1) ?_ ?_
        · exact Into.first ⟨((0, s), (m, L)), Nat.zero_le _, Nat.zero_le _, ⟨hm, hL, hA⟩⟩ ⟨[], by simp⟩ (by simp [WL, leG_self, leG_any])
        · clear hm hL hA hgL hil hi8
          rintro ⟨⟨⟨i, s⟩, ⟨m, L⟩⟩, hil, hi5, hI⟩
          change i ≤ ls.length at hil
          change i ≤ 5 at hi5
          obtain ⟨hm, hL, hA⟩ : RemInv m L := hI
          have hgL := good_alike hm hA hL
          by_cases h : i < ls.length ∧ i < 5
          · have d2 : ((i : Int) < (ls.length : Int)) = True := eq_true (by omega)
            have d3 : ((i : Int) < 5) = True := eq_true (by omega)
            have eL := intss_at ls i h.1
            generalize ls.getD i [] = ask at *
            simp +contextual -implicitDefEqProofs (maxSteps := 2000000) (disch := omega) only [↓lenV, binV, GVal.ofConst, List.replicate, vcA, ↓vcB, vcC, fbFw, d2, d3, intss_len]
            refine vcSLoop_by (ι := { p : Nat × Nat // p.1 ≤ ask.length ∧ p.1 ≤ 5 }) (fun p => ⟨[.any, .slice (intss ls) .none, .bool wh, .any, .any, .any, .any, .ptr 0 st 0 0, .ptr 2 rt 0 0, .any, .any, .any, .any, .any, .int .i64 (i : Nat), .slice (hsG (hashN ask p.1.1)) (.tok 3 p.1.2), .int .i64 (p.1.1 : Nat)] ++ List.replicate 124 .any, gObj st s m ++ rObj rt L ++ [.tok p.1.2 32]⟩) (fun p => 5 - p.1.1) ?_ ?_
            · refine Into.tok 15 32 [] rfl rfl ?_
              simp +contextual -implicitDefEqProofs (maxSteps := 2000000) (disch := omega) only [reduceAdd, List.replicate, vcA, vcC]
              intro v
              exact Into.first ⟨(0, v), Nat.zero_le _, Nat.zero_le _⟩ ⟨[], rfl⟩ (by simp [WL, leG_self, leG_any, hashN, hsG])
            · rintro ⟨⟨j, v⟩, hj, hj5⟩
              change j ≤ ask.length at hj
              change j ≤ 5 at hj5
              have tl := hashN_len ask j
              by_cases h' : j < ask.length ∧ j < 5
              · have dj : ((j : Int) < (ask.length : Int)) = True := eq_true (by omega)
                have dj5 : ((j : Int) < 5) = True := eq_true (by omega)
                have eA := ints_at ask j h'.1
                have eN := hashN_succ ask j
                generalize ask.getD j 0 = x at *
                simp +contextual -implicitDefEqProofs (maxSteps := 2000000) (disch := omega) only [↓lenV, binV, ↓loadV, ↓indexAddrV, grp, GVal.ofConst, List.map, List.headD, List.take, reduceLeDiff, implies_true, List.replicate, vcA, ↓vcB, vcC, fbFw, dj, dj5, eA, eL, intss_len]
                refine ⟨by omega, by omega, by omega, by omega, by omega, ?_⟩
                refine (hHashF x).then ?_ (by rfl)
                simp +contextual -implicitDefEqProofs (maxSteps := 2000000) (disch := omega) only [binV, ↓buildSliceV, ↓appendV, ↓srcV, fillE, GVal.cells, GVal.ofConst, List.map, ↓reduceIte, reduceLeDiff, ↓asrcV, Tag.cap, List.replicate, GVal.solid, reduceMul, vcA, ↓vcB, vcC, fbFw, hsG_len, tl, all_hsG, len32, solidH]
                refine ⟨by omega, by omega, fun v2 => ?_⟩
                rw [← eN]
                exact Into.at ⟨(j + 1, v2), h'.1, h'.2⟩ (by show 5 - (j + 1) < 5 - j; omega) ⟨[], rfl⟩ (by simp [WL, leG_self, leG_any])
              · have hc2 : (((j : Int) < (ask.length : Int)) = True ∧ ((j : Int) < 5) = False) ∨ (((j : Int) < (ask.length : Int)) = False ∧ (True = True)) := by
                  by_cases hh : j < ask.length
                  · exact .inl ⟨eq_true (by omega), eq_false (by omega)⟩
                  · exact .inr ⟨eq_false (by omega), rfl⟩
                rcases hc2 with ⟨dj, dj5⟩ | ⟨dj, dj5⟩
                all_goals
                  simp +contextual -implicitDefEqProofs (maxSteps := 2000000) (disch := omega) only [↓lenV, binV, ↓loadV, ↓indexAddrV, grp, GVal.ofConst, List.map, List.headD, List.take, ↓reduceIte, reduceLeDiff, implies_true, List.replicate, vcA, ↓vcB, vcC, fbFw, dj, dj5, eL, intss_len]
                  refine ⟨by omega, by omega, ?_⟩
                  have hDl := des_lenG hgL (hashN ask j)
                  have rDe := fun (X : List GObj) => GCalls.keep1' (rDescendants L hL hgL (hashN ask j) (.tok 3 v) (by omega) rt) (O := gObj st s m ++ rObj rt L ++ X) (args' := [.ptr 2 rt 0 0, .slice (hsG (hashN ask j)) (.tok 3 v)]) 2 rfl rfl rfl rfl
                  cases wh
                  case' false =>
                    have hHl : (hashN ask j).length ≤ 1005 := by omega
                    clear hDl rDe
                    generalize hashN ask j = H at *
                    simp +contextual -implicitDefEqProofs (maxSteps := 2000000) (disch := omega) only [↓vcB]
                  case' true =>
                    refine (rDe _).mono ?_
                    rintro g O' ⟨rfl, rfl⟩
                    simp +contextual -implicitDefEqProofs (maxSteps := 2000000) (disch := omega) only [↓appendV, ↓srcV, List.map, ↓asrcV, Tag.cap, vcA, ↓vcB, vcC, fbFw, hsG_len, all_hsG]
                    refine ⟨by omega, by omega, fun v => ?_⟩
                    rw [hsG_appG]
                    have hHl : (hashN ask j ++ desL L (hashN ask j)).length ≤ 1005 := by rw [List.length_append]; omega
                    clear hDl rDe
                    generalize hashN ask j ++ desL L (hashN ask j) = H at *
                  all_goals
                    have hs := rem_say hm hL hA H
                    obtain ⟨gM, sK, aK⟩ := rem_graph hm hL hA H
                    have hml := hm.ok.len
                    have hMl := gM.ok.len
                    have cP := gCopy m st s [.row rt 1 [[.slice (csG L) .none]], .tok v 32]
                    have cC := fun X => (gCount m (by omega) st s).keep2 rfl X
                    have cR := fun (X : List GObj) => GCalls.own1' (rRemove L hgL H (.tok 3 v) (by omega) rt) (O := gObj st s m ++ rObj rt L ++ X) (O2 := gObj st s m ++ rObj rt (rRmN L H) ++ X) (args' := [.ptr 2 rt 0 0, .slice (hsG H) (.tok 3 v)]) 2 rfl rfl rfl rfl rfl rfl
                    simp only [rmV_eq] at cR
                    have hb := erB_ne (rRmE L H)
                    obtain ⟨e, he⟩ : ∃ e, ((rRmE L H).map fun h => ((some h, 10) : Option Hs × Int)) = e := ⟨_, rfl⟩
                    rw [he] at hs hb
                    simp only [he] at cR
                    have sS := gSame e
                    rw [hb] at sS
                    obtain ⟨M, eM⟩ : ∃ M, removeM m (setAll (inM m H)) = M := ⟨_, rfl⟩
                    rw [eM] at gM aK hMl
                    generalize rRmN L H = K at *
                    have cK := fun X => kRem m M hm.gm hm.keys H (.tok 3 v) (by simp) (by omega) e hs eM st s (gObj st s m ++ X) 0 1 (by omega) rfl rfl rfl
                    have ek := keys_eq gM sK aK
                    have hKl : K.length ≤ 1000 := by rw [← aK.len gM.keys (ssc_keys sK)]; exact hMl
                    have cE := hSame (keysC K) (keysC K) .none .none (by rw [keysC, List.length_map]; omega)
                    rw [decide_eq_true rfl] at cE
                    have hk2 : ∀ (s' : Nat) (X : List GObj), GCalls Tryz.prog 15 [.ptr 0 st 0 0] (gObj st s' M ++ X) (fun g O' => g = .slice (hsG (keysS M)) .none ∧ O' = gObj st s' M ++ X) := fun s' X => (_root_.Gv.Tryz.L.gHashes11 M (by omega) st s').keep2 rfl X
                    have hr2 := fun s' X => GCalls.keep1' (rHashes K (by omega) rt) (O := gObj st s' M ++ rObj rt K ++ X) (args' := [.ptr 2 rt 0 0]) 2 rfl rfl rfl rfl
                    refine cP.mono ?_
                    rintro g O' ⟨st2, s2, rfl, rfl⟩
                    simp +contextual -implicitDefEqProofs (maxSteps := 2000000) (disch := omega) only [List.map, reduceAdd, vcA, ↓vcB, vcC]
                    refine (cC _).mono ?_
                    rintro g O' ⟨rfl, rfl⟩
                    simp +contextual -implicitDefEqProofs (maxSteps := 2000000) (disch := omega) only [List.map, vcA, ↓vcB]
                    refine (cR _).mono ?_
                    rintro g O' ⟨rfl, rfl⟩
                    simp +contextual -implicitDefEqProofs (maxSteps := 2000000) (disch := omega) only [drawC, drawK, binV, ↓loadV, ↓storeV, ↓allocV, GVal.cells, grp, GVal.ofConst, List.map, List.take, List.drop, reduceEqDiff, reduceAdd, reduceLeDiff, reduceCtorEq, GVal.solid, splice, vcA, ↓vcB, vcC, fbFw, List.set, v32]
                    intro sh
                    refine (cK _).mono ?_
                    rintro g O' ⟨s', rfl, rfl⟩
                    simp +contextual -implicitDefEqProofs (maxSteps := 2000000) (disch := omega) only [drawC, drawK, keepT, List.map, vcA, ↓vcB, vcC, List.set]
                    refine sS.then ?_ (by rfl)
                    simp +contextual -implicitDefEqProofs (maxSteps := 2000000) (disch := omega) only [drawC, drawK, ↓unV, List.map, vcA, ↓vcB, vcC]
                    refine (hk2 s' _).mono ?_
                    rintro g O' ⟨rfl, rfl⟩
                    simp +contextual -implicitDefEqProofs (maxSteps := 2000000) (disch := omega) only [drawC, drawK, List.map, vcA, ↓vcB, vcC]
                    refine (hr2 s' _).mono ?_
                    rintro g O' ⟨rfl, rfl⟩
                    simp +contextual -implicitDefEqProofs (maxSteps := 2000000) (disch := omega) only [drawC, drawK, List.map, vcA, ↓vcB, vcC, ek]
                    refine cE.then ?_ (by rfl)
                    simp +contextual -implicitDefEqProofs (maxSteps := 2000000) (disch := omega) only [drawC, drawK, ↓unV, List.map, vcA, ↓vcB, vcC]
                    refine (kCount m (by omega) st2 s2 _ 5 4 (by omega) rfl rfl rfl).mono ?_
                    rintro g O' ⟨rfl, rfl⟩
                    simp +contextual -implicitDefEqProofs (maxSteps := 2000000) (disch := omega) only [drawC, drawK, binV, GVal.ofConst, ↓resV, resG, ne_eq, vcA, ↓vcB, vcC]
                    refine ⟨fun h => absurd trivial h, ?_⟩
                    exact Into.at ⟨((i + 1, s'), (M, K)), h.1, h.2, ⟨gM, sK, aK⟩⟩ (by show 5 - (i + 1) < 5 - i; omega) ⟨_, rfl⟩ (by simp [WL, leG_self, leG_any])
          · have hc2 : (((i : Int) < (ls.length : Int)) = True ∧ ((i : Int) < 5) = False) ∨ (((i : Int) < (ls.length : Int)) = False ∧ (True = True)) := by
              by_cases hh : i < ls.length
              · exact .inl ⟨eq_true (by omega), eq_false (by omega)⟩
              · exact .inr ⟨eq_false (by omega), rfl⟩
            rcases hc2 with ⟨d2, d3⟩ | ⟨d2, d3⟩
            all_goals
              simp +contextual -implicitDefEqProofs (maxSteps := 2000000) (disch := omega) only [↓lenV, binV, GVal.ofConst, ↓resV, resG, ↓reduceIte, List.replicate, vcA, ↓vcB, vcC, fbFw, d2, d3, intss_len]
              exact ⟨1, .bool true, rfl, by rw [leA_bool]⟩
end Gv.Tryz
/- Sets of numbers as lists of spans: the plain theory. -/
set_option linter.unusedVariables false
namespace Gv.Sp
open Gv
abbrev S := Int × Int
def has (l : List S) (n : Int) : Prop := ∃ s ∈ l, 0 ≤ n ∧ s.1 ≤ n ∧ n ≤ s.2
theorem has_cons (s : S) (l : List S) (n : Int) : has (s :: l) n ↔ (0 ≤ n ∧ s.1 ≤ n ∧ n ≤ s.2) ∨ has l n := by simp [has]
def Rt : Int → List S → Prop
  | _, [] => True
  | b, s :: r => b ≤ s.1 ∧ s.1 ≤ s.2 ∧ Rt (s.2 + 2) r
theorem Rt.weak {b b' : Int} : ∀ {l : List S}, Rt b l → b' ≤ b → Rt b' l
  | [], _, _ => trivial
  | s :: r, ⟨h1, h2, h3⟩, h => ⟨by omega, h2, h3⟩
theorem Rt.ge {n : Int} : ∀ {l : List S} {b : Int}, Rt b l → has l n → b ≤ n
  | [], b, _, h => by simp [has] at h
  | s :: r, b, ⟨h1, h2, h3⟩, h => by
    rcases (has_cons s r n).1 h with h | h
    · omega
    · have := h3.ge h; omega
theorem Rt.mem {s : S} : ∀ {l : List S} {b : Int}, Rt b l → s ∈ l → b ≤ s.1 ∧ s.1 ≤ s.2
  | [], b, _, h => by simp at h
  | x :: r, b, ⟨h1, h2, h3⟩, h => by
    rcases List.mem_cons.1 h with rfl | h
    · exact ⟨h1, h2⟩
    · have := h3.mem h; omega
theorem Rt.lo {s : S} {l : List S} {b : Int} (h : Rt b l) (hb : 0 ≤ b) (hs : s ∈ l) : has l s.1 := ⟨s, hs, by have := h.mem hs; omega⟩
theorem Rt.hi {s : S} {l : List S} {b : Int} (h : Rt b l) (hb : 0 ≤ b) (hs : s ∈ l) : has l s.2 := ⟨s, hs, by have := h.mem hs; omega⟩
theorem uniq : ∀ {l l' : List S} {b b' : Int}, Rt b l → Rt b' l' → 0 ≤ b → 0 ≤ b' → (∀ n, has l n ↔ has l' n) → l = l'
  | [], [], _, _, _, _, _, _, _ => rfl
  | [], y :: r, _, b', _, h', _, h0', h => absurd ((h y.1).2 (h'.lo h0' (by simp))) (by simp [has])
  | x :: r, [], b, _, h', _, h0', _, h => absurd ((h x.1).1 (h'.lo h0' (by simp))) (by simp [has])
  | (x1, x2) :: r, (y1, y2) :: q, b, b', hx, hy, hb, hb', h => by
    have e1 : has ((y1, y2) :: q) x1 := (h _).1 (hx.lo hb (s := (x1, x2)) (by simp))
    have e2 : has ((x1, x2) :: r) y1 := (h _).2 (hy.lo hb' (s := (y1, y2)) (by simp))
    obtain ⟨p1, p2, p3⟩ := hx
    obtain ⟨q1, q2, q3⟩ := hy
    simp only at p1 p2 p3 q1 q2 q3
    have g1 : y1 ≤ x1 := by
      rcases (has_cons _ _ _).1 e1 with e | e
      · exact e.2.1
      · have := q3.ge e; omega
    have g2 : x1 ≤ y1 := by
      rcases (has_cons _ _ _).1 e2 with e | e
      · exact e.2.1
      · have := p3.ge e; omega
    have g : x1 = y1 := by omega
    have k1 : ¬ x2 < y2 := fun hlt => by
      have e := (h (x2 + 1)).2 ((has_cons _ _ _).2 (.inl ⟨by omega, by show y1 ≤ _; omega, by show _ ≤ y2; omega⟩))
      rcases (has_cons _ _ _).1 e with e | e
      · have := e.2.2; simp only at this; omega
      · have := p3.ge e; omega
    have k2 : ¬ y2 < x2 := fun hlt => by
      have e := (h (y2 + 1)).1 ((has_cons _ _ _).2 (.inl ⟨by omega, by show x1 ≤ _; omega, by show _ ≤ x2; omega⟩))
      rcases (has_cons _ _ _).1 e with e | e
      · have := e.2.2; simp only at this; omega
      · have := q3.ge e; omega
    have k : x2 = y2 := by omega
    subst g; subst k
    have hr : ∀ n, has r n ↔ has q n := fun n => by
      constructor
      · intro hn
        rcases (has_cons _ _ _).1 ((h n).1 ((has_cons _ _ _).2 (.inr hn))) with e | e
        · have := p3.ge hn; have := e.2.2; simp only at this; omega
        · exact e
      · intro hn
        rcases (has_cons _ _ _).1 ((h n).2 ((has_cons _ _ _).2 (.inr hn))) with e | e
        · have := q3.ge hn; have := e.2.2; simp only at this; omega
        · exact e
    rw [uniq p3 q3 (by omega) (by omega) hr]

def ins : List S → S → List S
  | [], s => [s]
  | x :: r, s => if x.2 + 1 < s.1 then x :: ins r s else if s.2 + 1 < x.1 then s :: x :: r else ins r (min s.1 x.1, max s.2 x.2)
def put (acc : List S) (s : S) : List S := if max s.1 0 ≤ s.2 then ins acc (max s.1 0, s.2) else acc
def Ok (l : List S) : Prop := ∀ s ∈ l, (-9223372036854775808 ≤ s.1 ∧ s.1 ≤ 9223372036854775807) ∧ (-9223372036854775808 ≤ s.2 ∧ s.2 ≤ 9223372036854775807)
theorem Ok.has {l : List S} (h : Ok l) {n : Int} (hn : has l n) : n ≤ 9223372036854775807 := by obtain ⟨s, hs, h1, h2, h3⟩ := hn; have := (h s hs).2.2; omega
theorem Ok.app {a b : List S} (ha : Ok a) (hb : Ok b) : Ok (a ++ b) := fun s hs => (List.mem_append.1 hs).elim (ha s) (hb s)
theorem Ok.nil : Ok [] := fun s hs => by simp at hs
theorem Ok.at {l : List S} (h : Ok l) (i : Nat) : (-9223372036854775808 ≤ (l.getD i (0, 0)).1 ∧ (l.getD i (0, 0)).1 ≤ 9223372036854775807) ∧ (-9223372036854775808 ≤ (l.getD i (0, 0)).2 ∧ (l.getD i (0, 0)).2 ≤ 9223372036854775807) := by
  by_cases hi : i < l.length
  · rw [List.getD_eq_getElem?_getD, List.getElem?_eq_getElem hi]; exact h _ (List.getElem_mem hi)
  · rw [List.getD_eq_getElem?_getD, List.getElem?_eq_none (by omega)]; simp
theorem Rt.at {l : List S} {b : Int} (h : Rt b l) (i : Nat) (hi : i < l.length) : b ≤ (l.getD i (0, 0)).1 ∧ (l.getD i (0, 0)).1 ≤ (l.getD i (0, 0)).2 := by
  rw [List.getD_eq_getElem?_getD, List.getElem?_eq_getElem hi]; exact h.mem (List.getElem_mem hi)

def both (a b : List S) : List S :=
  match a, b with
  | [], _ => []
  | _ :: _, [] => []
  | x :: a, y :: b => (if max x.1 y.1 ≤ min x.2 y.2 then [(max x.1 y.1, min x.2 y.2)] else []) ++ if x.2 < y.2 then both a (y :: b) else both (x :: a) b
termination_by a.length + b.length
def restF (low : Int) : List S → List S
  | [] => [(low, 9223372036854775807)]
  | s :: r => (if low < s.1 then [(low, s.1 - 1)] else []) ++ if s.2 = 9223372036854775807 then [] else restF (s.2 + 1) r
def rest (l : List S) : List S := restF 0 l
end Gv.Sp
/- Spans as ghost values. -/
set_option linter.unusedVariables false
namespace Gv
end Gv
/- What some shapes read as. -/
set_option linter.unusedVariables false
namespace Gv
open Go
theorem den_slice {α : Type} {e : Sh} (enc : α → List GVal) (ok : α → Prop) (he : ∀ {x}, Den e x → ∃ a, x = enc a ∧ ok a) {gs : List GVal} (h : Den (.slice e) gs) : ∃ l : List α, gs = [.slice (l.map enc) .none] ∧ l.length ≤ maxLen ∧ ∀ a ∈ l, ok a := by
  obtain ⟨xs, rfl, hl, hx⟩ := h
  have : ∀ xs : List (List GVal), (∀ x ∈ xs, Den e x) → ∃ l : List α, xs = l.map enc ∧ ∀ a ∈ l, ok a := by
    intro xs
    induction xs with
    | nil => exact fun _ => ⟨[], rfl, by simp⟩
    | cons a r ih =>
      intro h
      obtain ⟨l, rfl, hl⟩ := ih fun x hx => h x (by simp [hx])
      obtain ⟨n, rfl, hn⟩ := he (h a (by simp))
      exact ⟨n :: l, rfl, by simpa using ⟨hn, hl⟩⟩
  obtain ⟨l, rfl, h2⟩ := this xs hx
  exact ⟨l, rfl, by simpa using hl, h2⟩
end Gv
/- Readings of a law's raw requests. -/
set_option linter.unusedVariables false
namespace Gv.Tryz
open Go Gv Go.Proofs
abbrev rawS : Sh := .agg [.int .i64, .int .i64, .slice (.int .i64)]
abbrev rrS : Sh := .agg [.slice rawS, .slice (.int .i64), .int .i64, .int .i64]
theorem den_ints {gs : List GVal} (h : Den (.slice (.int .i64)) gs) : ∃ l : List Int, gs = [.slice (ints l) .none] := by
  obtain ⟨l, rfl, _⟩ := den_slice (fun n : Int => [.int .i64 n]) (fun n => (Lit.int .i64 n).wf = true) (fun {x} (h : Den (.int .i64) x) => h) h
  exact ⟨l, rfl⟩
theorem den_raw {gs : List GVal} (h : Den rawS gs) : ∃ r : RC, gs = rawC r ∧ True := by
  obtain ⟨ps, rfl, p, q, rfl, ⟨a, rfl, _⟩, p2, q2, rfl, ⟨b, rfl, _⟩, p3, q3, rfl, h3, rfl⟩ := h
  obtain ⟨l, rfl⟩ := den_ints h3
  exact ⟨(a, b, l), rfl, trivial⟩
theorem den_rr {gs : List GVal} (h : Den rrS gs) : ∃ r : RR, gs = rrG r ∧ True := by
  obtain ⟨ps, rfl, p, q, rfl, h1, p2, q2, rfl, h2, p3, q3, rfl, ⟨c, rfl, _⟩, p4, q4, rfl, ⟨d, rfl, _⟩, rfl⟩ := h
  obtain ⟨l, rfl, _, _⟩ := den_slice rawC (fun _ => True) (fun {x} h => den_raw h) h1
  obtain ⟨hs, rfl⟩ := den_ints h2
  exact ⟨⟨l, hs, c, d⟩, rfl, trivial⟩
theorem den_rrs {gs : List GVal} (h : Den (.slice rrS) gs) : ∃ l : List RR, gs = [.slice (rrsG l) .none] := by
  obtain ⟨l, rfl, _, _⟩ := den_slice rrG (fun _ => True) (fun {x} h => den_rr h) h
  exact ⟨l, rfl⟩
end Gv.Tryz
/- GraphRemoves: from the readings. -/
set_option linter.unusedVariables false
namespace Gv.Tryz
open Go Gv Go.Proofs
theorem den_intss {gs : List GVal} (h : Den (.slice (.slice (.int .i64))) gs) : ∃ l : List (List Int), gs = [.slice (intss l) .none] := by
  obtain ⟨l, rfl, _, _⟩ := den_slice (fun a : List Int => [.slice (ints a) .none]) (fun _ => True) (fun {x} h => by obtain ⟨a, rfl⟩ := den_ints h; exact ⟨a, rfl, trivial⟩) h
  exact ⟨l, rfl⟩
theorem wRemoves {g0 g1 g2 : List GVal} (h0 : Den (.slice rrS) g0) (h1 : Den (.slice (.slice (.int .i64))) g1) (h2 : Den .bool g2) : GPure Tryz.prog 4 ([Sh.val (.slice rrS) g0, Sh.val (.slice (.slice (.int .i64))) g1, Sh.val .bool g2]) (.bool true) := by
  obtain ⟨l, rfl⟩ := den_rrs h0
  obtain ⟨a, rfl⟩ := den_intss h1
  obtain ⟨b, rfl⟩ := h2
  exact specRemoves l a b
end Gv.Tryz
/- From a reading of plain data to what it is without memory: with arrays, and how long slices can be at most. -/
set_option linter.unusedVariables false
namespace Gv
open Go Go.RowKit Go.WideShapes Go.ChangeShapes
namespace Z

inductive Sh where
  | int (k : IntKind)
  | bool
  | str
  | slice (e : Sh)
  | agg (l : List Sh)
  | arr (n : Nat) (e : Sh)
mutual
def Sh.size : Sh → Nat
  | .agg l => Sh.sizes l
  | .arr n e => n * e.size
  | _ => 1
def Sh.sizes : List Sh → Nat
  | [] => 0
  | s :: r => s.size + Sh.sizes r
end
mutual
def Sh.low : Sh → Nat
  | .int .i64 => 8
  | .int .u64 => 8
  | .int _ => 1
  | .bool => 1
  | .str => 16
  | .slice _ => 24
  | .agg l => Sh.lows l
  | .arr n e => n * e.low
def Sh.lows : List Sh → Nat
  | [] => 0
  | s :: r => s.low + Sh.lows r
end
mutual
def shB (P : Program) : Sh → TypeId → Bool
  | .int k, t => match P.underlying t with
    | some (.int k') => k = k'
    | _ => false
  | .bool, t => match P.underlying t with
    | some .bool => true
    | _ => false
  | .str, t => match P.underlying t with
    | some .string => true
    | _ => false
  | .slice e, t => match P.underlying t with
    | some (.slice et) => shB P e et && P.cellsOf et == e.size && decide (0 < e.size) && decide (e.low ≤ P.bytesOf et)
    | _ => false
  | .agg l, t => match P.underlying t with
    | some (.struct fs) => shBs P l fs.toList 0 && P.cellsOf t == Sh.sizes l
    | _ => false
  | .arr n e, t => match P.underlying t with
    | some (.array n' et) => n == n' && shB P e et && P.cellsOf et == e.size && P.cellsOf t == n * e.size
    | _ => false
def shBs (P : Program) : List Sh → List Field → Nat → Bool
  | [], [], _ => true
  | s :: r, f :: fs, o => f.offset == o && P.cellsOf f.type == s.size && shB P s f.type && shBs P r fs (o + s.size)
  | _, _, _ => false
end
mutual
def Den : Sh → List GVal → Prop
  | .int k, gs => ∃ n, gs = [.int k n] ∧ (Lit.int k n).wf = true
  | .bool, gs => ∃ b, gs = [.bool b]
  | .str, gs => ∃ s, gs = [.str s] ∧ s.length ≤ reachBytes
  | .slice e, gs => ∃ xs, gs = [.slice xs .none] ∧ (xs.length ≤ maxLen ∧ xs.length * e.low ≤ reachBytes) ∧ ∀ x ∈ xs, Den e x
  | .agg l, gs => ∃ ps, gs = ps.flatten ∧ Dens l ps
  | .arr n e, gs => ∃ ps : List (List GVal), gs = ps.flatten ∧ ps.length = n ∧ ∀ p ∈ ps, Den e p ∧ p.length = e.size
def Dens : List Sh → List (List GVal) → Prop
  | [], ps => ps = []
  | s :: r, ps => ∃ p q, ps = p :: q ∧ Den s p ∧ Dens r q
end

theorem mem_all {H : Type} {P : Program} {e : TypeId} : ∀ {ds : List (DataW H)} {d : DataW H}, d ∈ ds → ∀ n ∈ d.weights P e, n ∈ DataW.weightsAll P e ds
  | a :: r, d, hd, n, hn => by
    simp only [DataW.weightsAll, List.mem_append]
    rcases List.mem_cons.1 hd with rfl | hd
    · exact .inl hn
    · exact .inr (mem_all hd n hn)
  | [], d, hd, n, hn => by simp at hd
section
variable {H : Type} {enc : TypeId × Value → H} {P : Program} {w : World} {spare : Nat → Bool} {held : Bool}

mutual
theorem rd : ∀ (S : Sh) (n : Nat) (t : TypeId) (cs : List Value) (x : DataW H × List MemPlace), shB P S t = true → DataW.trod enc P w 0 spare held n t cs = some x → (∀ k ∈ x.1.weights P t, k ≤ reachBytes) → ∃ gs, CellsOK w cs gs ∧ Den S gs ∧ cs.length = S.size
  | .int k, n, t, cs, x, hs, h, hw => by
    unfold shB at hs
    split at hs
    · rename_i k' hu
      have hs : k = k' := by simpa using hs
      subst hs
      obtain ⟨m, rfl, _, hwf⟩ := DataW.trod_int hu h
      exact ⟨[.int k m], .one rfl (.int _ _), ⟨m, rfl, hwf⟩, rfl⟩
    · cases hs
  | .bool, n, t, cs, x, hs, h, hw => by
    unfold shB at hs
    split at hs
    · rename_i hu
      obtain ⟨b, rfl, _⟩ := DataW.trod_bool hu h
      exact ⟨[.bool b], .one rfl (.bool _), ⟨b, rfl⟩, rfl⟩
    · cases hs
  | .str, n, t, cs, x, hs, h, hw => by
    unfold shB at hs
    split at hs
    · rename_i hu
      cases n with
      | zero => simp [DataW.trod] at h
      | succ n =>
        unfold DataW.trod at h
        rw [hu] at h
        match cs, h with
        | [.string b], h =>
          simp only at h
          split at h
          · rename_i hl
            simp only [Option.some.injEq] at h
            subst h
            refine ⟨[.str b.data.toList], .one rfl ?_, ⟨_, rfl, ?_⟩, rfl⟩
            · exact VR.str (E := Env.all w) b.data.toList
            · exact hw _ (by simp [DataW.weights])
          · cases h
    · cases hs
  | .slice e, n, t, cs, x, hs, h, hw => by
    unfold shB at hs
    split at hs
    · rename_i et hu
      simp only [Bool.and_eq_true, beq_iff_eq] at hs
      obtain ⟨⟨⟨hs, hsz⟩, hpos⟩, hlow⟩ := hs
      have hpos : 0 < e.size := by simpa using hpos
      have hlow : e.low ≤ P.bytesOf et := by simpa using hlow
      rcases DataW.trod_slice hu h with ⟨rfl, _⟩ | ⟨a, len, cap, elems, rest, m, rfl, rfl, rfl, _, hlc, hcm, hel, helem, _, _⟩
      · exact ⟨[.slice [] .none], .one rfl (.slice none 0 0 [] .none 0 (fun _ => .bool true) rfl (Nat.le_refl _) (by simp) (fun hx => absurd rfl hx) (by simp) trivial), ⟨[], rfl, ⟨by simp, by simp⟩, by simp⟩, rfl⟩
      · have hw0 : (elems.length + rest.length) * P.bytesOf et ≤ reachBytes := by
          have := hw ((elems.length + rest.length) * P.bytesOf et) (by show _ ∈ DataW.weights P t (.slice _ _); rw [DataW.weights]; simp only [hu, List.length_map]; exact List.mem_cons_self)
          exact this
        have hwE : ∀ d ∈ elems.map (·.1), ∀ k ∈ d.weights P et, k ≤ reachBytes := fun d hd k hk =>
          hw k (by show k ∈ DataW.weights P t (.slice _ _); rw [DataW.weights]; simp only [hu]; exact List.mem_cons_of_mem _ (List.mem_append_left _ (mem_all hd k hk)))
        have each : ∀ i : Nat, ∃ cs gs, i < len → (w.cells? 0 (a.add (i * P.cellsOf et)) (P.cellsOf et)) = some cs ∧ CellsOK w cs gs ∧ Den e gs ∧ cs.length = e.size := by
          intro i
          by_cases hi : i < len
          · have := helem i hi
            rw [← hel] at hi
            rw [List.getElem?_eq_getElem hi, Option.bind_eq_some_iff] at this
            obtain ⟨cs, h1, h2⟩ := this
            obtain ⟨gs, h3, h4, h5⟩ := rd e m et cs _ hs h2 (fun k hk => hwE _ (List.mem_map_of_mem (List.getElem_mem hi)) k hk)
            exact ⟨cs, gs, fun _ => ⟨h1, h3, h4, h5⟩⟩
          · exact ⟨[], [], fun h => absurd h hi⟩
        obtain ⟨C, hC⟩ := Classical.axiomOfChoice each
        obtain ⟨G, hCG⟩ := Classical.axiomOfChoice hC
        refine ⟨[.slice ((List.range len).map G) .none], .one rfl ?_, ⟨_, rfl, ⟨by simp; omega, ?_⟩, fun x hx => ?_⟩, rfl⟩
        · have hG : ∀ i, i < len → (G i).length = e.size := fun i hi => by rw [← (hCG i hi).2.1.1]; exact (hCG i hi).2.2.2
          have cell : ∀ i, i < len → ∀ j, j < e.size → w.cell? ((a.add (i * e.size)).add j) = (C i)[j]? := fun i hi j hj => by
            have := cells_at (hCG i hi).1
            rw [hsz] at this
            exact this.2 j hj
          have dm : ∀ k, k < len * e.size → k / e.size < len ∧ k % e.size < e.size ∧ k / e.size * e.size + k % e.size = k := fun k hk =>
            ⟨(Nat.div_lt_iff_lt_mul hpos).2 hk, Nat.mod_lt _ hpos, by rw [Nat.mul_comm]; exact Nat.div_add_mod k e.size⟩
          have hszs : ∀ x ∈ (List.range len).map G, x.length = e.size := fun x hx => by
            obtain ⟨i, hi, rfl⟩ := List.mem_map.1 hx
            exact hG i (by simpa using hi)
          refine .slice (some a) len cap _ .none e.size (fun k => ((C (k / e.size))[k % e.size]?).getD (.bool true)) (by simp) hlc hszs (fun hx => ?_) (fun k g hk => ?_) trivial
          · have hlen : 0 < len := by
              rcases Nat.eq_zero_or_pos len with h0 | h0
              · subst h0; simp at hx
              · exact h0
            have in_ : ∀ i, i < len → ∀ j, j < e.size → ∃ v, (C i)[j]? = some v ∧ v.oneCell' = true := fun i hi j hj => by
              have hl : j < (C i).length := by rw [(hCG i hi).2.2.2]; exact hj
              exact ⟨_, List.getElem?_eq_getElem hl, (hCG i hi).2.1.2.1 _ (List.getElem_mem hl)⟩
            obtain ⟨b, off, spot⟩ := a
            have hspot : spot = none := by
              obtain ⟨v, hv, _⟩ := in_ 0 hlen 0 hpos
              have := cell 0 hlen 0 hpos
              rw [hv] at this
              simpa [Addr.add] using World.cell?_spot this
            subst hspot
            refine ⟨b, off, rfl, fun k hk => ?_⟩
            obtain ⟨d1, d2, d3⟩ := dm k hk
            obtain ⟨v, hv, hv2⟩ := in_ _ d1 _ d2
            have := cell _ d1 _ d2
            rw [hv] at this
            rw [hv]
            refine Env.all_at ?_ hv2
            rw [add_at, add_at, Nat.add_assoc, d3] at this
            exact this
          · have hk' : k < len * e.size := by
              have := (List.getElem?_eq_some_iff.1 hk).1
              rw [flat_len hszs] at this
              simpa using this
            obtain ⟨d1, d2, d3⟩ := dm k hk'
            have hx : ((List.range len).map G)[k / e.size]? = some (G (k / e.size)) := by simp [d1]
            have e1 := flatten_at _ hszs (k / e.size) (k % e.size) _ hx d2
            rw [d3, hk] at e1
            have hl : k % e.size < (C (k / e.size)).length := by rw [(hCG _ d1).2.2.2]; exact d2
            rw [List.getElem?_eq_getElem hl]
            exact (hCG _ d1).2.1.2.2 _ _ _ (List.getElem?_eq_getElem hl) e1.symm
        · rw [List.length_map, List.length_range]
          refine Nat.le_trans (Nat.mul_le_mul (by omega : len ≤ elems.length + rest.length) hlow) hw0
        · obtain ⟨i, hi, rfl⟩ := List.mem_map.1 hx
          exact (hCG i (by simpa using hi)).2.2.1
    · cases hs
  | .agg l, n, t, cs, x, hs, h, hw => by
    unfold shB at hs
    split at hs
    · rename_i fs hu
      simp only [Bool.and_eq_true, beq_iff_eq] at hs
      obtain ⟨hs, hsz⟩ := hs
      obtain ⟨xs, m, rfl, rfl, hcl, hxl, hf⟩ := DataW.trod_struct hu h
      obtain ⟨ps, h1, h2⟩ := rds l m fs.toList cs 0 hs (by simpa [hsz] using hcl) (fun f hf' => by
        obtain ⟨i, hi⟩ := List.getElem?_of_mem hf'
        have := hf i f (by simpa using hi)
        have hlt : i < xs.length := by rw [hxl]; simpa using (List.getElem?_eq_some_iff.1 hi).1
        rw [List.getElem?_eq_getElem hlt] at this
        refine ⟨_, this, fun k hk => hw k ?_⟩
        simp only [DataW.weights, hu]
        exact DataW.weights_mem_each (j := i) (t := f.type) (d := xs[i].1) (by rw [List.getElem?_map, hi]; rfl) (by rw [List.getElem?_map, List.getElem?_eq_getElem hlt]; rfl) k hk)
      exact ⟨ps.flatten, by simpa using h1, ⟨ps, rfl, h2⟩, by rw [hcl, hsz]; rfl⟩
    · cases hs
  | .arr c e, n, t, cs, x, hs, h, hw => by
    unfold shB at hs
    split at hs
    · rename_i n' et hu
      simp only [Bool.and_eq_true, beq_iff_eq] at hs
      obtain ⟨⟨⟨rfl, hs⟩, hsz⟩, hct⟩ := hs
      obtain ⟨xs, m, rfl, rfl, hcl, hxl, hf⟩ := DataW.trod_array hu h
      have key : ∀ k, k ≤ c → ∃ ps : List (List GVal), CellsOK w (cs.take (k * e.size)) ps.flatten ∧ ps.length = k ∧ ∀ p ∈ ps, Den e p ∧ p.length = e.size := by
        intro k
        induction k with
        | zero => exact fun _ => ⟨[], by simp [CellsOK], rfl, by simp⟩
        | succ k ih =>
          intro hk
          obtain ⟨ps, h1, h2, h3⟩ := ih (by omega)
          have := hf k (by omega)
          have hlt : k < xs.length := by omega
          rw [List.getElem?_eq_getElem hlt] at this
          obtain ⟨gs, q1, q2, q3⟩ := rd e m et _ _ hs this (fun z hz => hw z (by
            simp only [DataW.weights, hu]
            exact mem_all (List.mem_map_of_mem (List.getElem_mem hlt)) z hz))
          refine ⟨ps ++ [gs], ?_, by simp [h2], fun p hp => ?_⟩
          · rw [List.flatten_append, List.flatten_cons, List.flatten_nil, List.append_nil, Nat.succ_mul, List.take_add]
            rw [hsz] at q1
            exact h1.append q1
          · rcases List.mem_append.1 hp with hp | hp
            · exact h3 p hp
            · simp at hp; subst hp
              exact ⟨q2, by rw [← q1.1, q3]⟩
      obtain ⟨ps, h1, h2, h3⟩ := key c (Nat.le_refl _)
      rw [List.take_of_length_le (by omega)] at h1
      exact ⟨ps.flatten, h1, ⟨ps, rfl, h2, h3⟩, by rw [hcl, hct]; rfl⟩
    · cases hs
theorem rds : ∀ (l : List Sh) (n : Nat) (fs : List Field) (cs : List Value) (o : Nat), shBs P l fs o = true → cs.length = o + Sh.sizes l →
    (∀ f ∈ fs, ∃ x, DataW.trod enc P w 0 spare held n f.type ((cs.drop f.offset).take (P.cellsOf f.type)) = some x ∧ ∀ k ∈ x.1.weights P f.type, k ≤ reachBytes) → ∃ ps, CellsOK w (cs.drop o) ps.flatten ∧ Dens l ps
  | [], n, fs, cs, o, hs, hl, h => by
    refine ⟨[], ?_, rfl⟩
    rw [List.drop_eq_nil_of_le (by rw [hl]; simp [Sh.sizes])]
    exact ⟨rfl, by simp, fun j c g h1 => by simp at h1⟩
  | s :: r, n, fs, cs, o, hs, hl, h => by
    match fs, hs, h with
    | f :: fs, hs, h =>
      unfold shBs at hs
      simp only [Bool.and_eq_true, beq_iff_eq] at hs
      obtain ⟨⟨⟨h1, h2⟩, h3⟩, h4⟩ := hs
      obtain ⟨x, hx, hxw⟩ := h f (by simp)
      obtain ⟨gs, q1, q2, q3⟩ := rd s n f.type _ _ h3 hx hxw
      simp only [Sh.sizes] at hl
      obtain ⟨ps, k1, k2⟩ := rds r n fs cs (o + s.size) h4 (by rw [hl]; omega) (fun f' hf' => h f' (by simp [hf']))
      refine ⟨gs :: ps, ?_, ⟨gs, ps, rfl, q2, k2⟩⟩
      rw [List.flatten_cons]
      have e : cs.drop o = (cs.drop f.offset).take (P.cellsOf f.type) ++ cs.drop (o + s.size) := by
        rw [h1, h2, ← List.drop_drop]; exact (List.take_append_drop _ _).symm
      rw [e]
      exact q1.append k1
    | [], hs, h => simp [shBs] at hs
end

def Sh.val : Sh → List GVal → GVal
  | .agg _, gs => .agg gs
  | .arr _ _, gs => .agg gs
  | _, gs => gs.headD .any

theorem arg_read {S : Sh} {t : TypeId} {r : Reach} {base : Nat} {v : Value} {d : DataW H} {ps : List MemPlace} (hs : shB P S t = true) (hval : Value.okWide P w r base t v) (h : DataW.Trod enc P w 0 spare held t v d ps) (hw : ∀ k ∈ d.weights P t, k ≤ reachBytes) :
    ∃ gs, Den S gs ∧ VR (Env.all w) v (S.val gs) := by
  obtain ⟨n, h⟩ := h
  obtain ⟨gs, h1, h2, h3⟩ := rd S n t _ _ hs h hw
  refine ⟨gs, h2, ?_⟩
  have single : ∀ x : Value, v = x → x.cells.toList = [x] → (∃ g, gs = [g]) → S.val gs = gs.headD .any → VR (Env.all w) v (S.val gs) := by
    intro x hx hc ⟨g, hg⟩ hv
    subst hx; subst hg
    rw [hv]
    rw [hc] at h1
    exact h1.2.2 0 _ _ rfl rfl
  cases S with
  | int k =>
    unfold shB at hs
    split at hs
    · rename_i k' hu
      obtain ⟨n, rfl⟩ := okWide_int hu hval
      obtain ⟨m, e, _⟩ := h2
      exact single _ rfl rfl ⟨_, e⟩ rfl
    · cases hs
  | bool =>
    unfold shB at hs
    split at hs
    · rename_i hu
      obtain ⟨n, rfl⟩ := okWide_bool hu hval
      obtain ⟨m, e⟩ := h2
      exact single _ rfl rfl ⟨_, e⟩ rfl
    · cases hs
  | str =>
    unfold shB at hs
    split at hs
    · rename_i hu
      obtain ⟨n, rfl⟩ := okWide_string hu hval
      obtain ⟨m, e, _⟩ := h2
      exact single _ rfl rfl ⟨_, e⟩ rfl
    · cases hs
  | slice e =>
    unfold shB at hs
    split at hs
    · rename_i et hu
      obtain ⟨a, len, cap, rfl⟩ := okWide_slice hu hval
      obtain ⟨m, e, _⟩ := h2
      exact single _ rfl rfl ⟨_, e⟩ rfl
    · cases hs
  | agg l =>
    unfold shB at hs
    split at hs
    · rename_i fs hu
      obtain ⟨cs, rfl, _⟩ := okWide_struct hu hval
      refine .agg cs gs (by have := h1.1; simpa [Value.cells] using this) (fun j g hj => ?_)
      have hl : j < cs.size := by
        have := (List.getElem?_eq_some_iff.1 hj).1
        rw [← h1.1] at this; simpa [Value.cells] using this
      have := h1.2.2 j cs[j] g (by simp [Value.cells, hl]) hj
      simpa [Array.getD, hl] using this
    · cases hs
  | arr c e =>
    unfold shB at hs
    split at hs
    · rename_i n' et hu
      have hval' := hval
      simp only [Value.okWide, hu] at hval'
      obtain ⟨cs, rfl, hcs, _⟩ := hval'
      refine .agg cs gs (by have := h1.1; simpa [Value.cells] using this) (fun j g hj => ?_)
      have hl : j < cs.size := by
        have := (List.getElem?_eq_some_iff.1 hj).1
        rw [← h1.1] at this; simpa [Value.cells] using this
      have := h1.2.2 j cs[j] g (by simp [Value.cells, hl]) hj
      simpa [Array.getD, hl] using this
    · cases hs
end
end Z
end Gv
/- What the listed variable (errors.errorType) holds when a call begins, for this seat. -/
namespace Go.Proofs.YtgkglnjmiobdmaaGreatDoor
open Go Go.ChangeShapes Go.WideShapes Go.RowKit
theorem laidOwn : ownKnob Tryz.prog.godebug = none := by kernel_rfl
theorem laidOut : laidOutB Tryz.prog = true := by kernel_rfl
abbrev laidL : List (String × DataW Unit) := [("errors.errorType", Rows.laid_errors_errorType)]
theorem laidVar : Tryz.prog.globalNamed "errors.errorType" = some 0 := by kernel_rfl
theorem laidRt : (Tryz.prog.cutTypes.find? (·.1 == "internal/reflectlite.rtype")).map (·.2) = some 131 := by kernel_rfl
theorem laidRow : ((List.range 193).filter fun t => Tryz.prog.rowNamed t [101, 114, 114, 111, 114]) = [45] := by kernel_rfl
theorem laidSize : Tryz.prog.types.size = 193 := by kernel_rfl
theorem laidHandle {W : World} (h : laidMetH Tryz.prog laidL W) : W.cell? ⟨0, 0, none⟩ = some (.iface 131 (.agg #[.pointer (some ⟨2, 45, none⟩)])) := by
  have h' : laidMet Tryz.prog [] W ∧ handlesMet Tryz.prog laidL W := h
  obtain ⟨name, u, ty, e1, e2, e3, e4, e5⟩ := h'.2 _ (List.mem_singleton.2 rfl)
  have en : name = [101, 114, 114, 111, 114] := (Option.some.inj e1).symm
  subst en
  obtain rfl := Option.some.inj (laidRt.symm.trans e2)
  have hm : ty ∈ (List.range 193).filter fun t => Tryz.prog.rowNamed t [101, 114, 114, 111, 114] := List.mem_filter.2 ⟨List.mem_range.2 (by rw [← laidSize]; exact e3), e4⟩
  rw [laidRow] at hm
  obtain rfl := List.mem_singleton.1 hm
  have hh : typeHandle Tryz.prog 45 = .pointer (some ⟨2, 45, none⟩) := by kernel_rfl
  rw [hh] at e5
  simpa using World.var?_cell laidVar e5 0
theorem laidGlobs {W : World} (h : laidMetH Tryz.prog laidL W) : Gv.GlobsIn W := fun p hp => by
  obtain rfl : p = (0, 0, .iface 131 (.agg #[.pointer (some ⟨2, 45, none⟩)])) := by simpa [Gv.globs] using hp
  exact ⟨laidHandle h, rfl⟩
noncomputable def laidWorld (os : Os) : World :=
  let w0 := World.holding Tryz.prog os ⟨#[], #[], []⟩
  { w0 with heap := w0.heap.modify 0 fun
      | .cells _ t frozen => .cells #[.iface 131 (.agg #[.pointer (some ⟨2, 45, none⟩)])] t frozen
      | o => o }
theorem laidWorld_met (os : Os) (args : Array Value) : laidMetH Tryz.prog laidL ((laidWorld os).forCall (fun _ _ => 0) ⟨#[], args, []⟩).memory :=
  laidMetH_of_parts (laidMet_nil _ _) (by kernel_rfl)
end Go.Proofs.YtgkglnjmiobdmaaGreatDoor
