/- The graph's Check, Count; the example of chapter 11. -/
import Derived.Test.YtgkglnjmiobdmaaGreatDoorP11
import Derived.Test.YtgkglnjmiobdmaaGreatDoorP9
import Derived.Test.YtgkglnjmiobdmaaGreatDoorP10
import Derived.Test.YtgkglnjmiobdmaaGreatDoorP13
import Derived.Test.YtgkglnjmiobdmaaGreatDoorP14
import Derived.Test.YtgkglnjmiobdmaaGreatDoorP8
import Derived.Test.YtgkglnjmiobdmaaGreatDoorP6
import Derived.Test.YtgkglnjmiobdmaaGreatDoorP5
import Derived.Test.YtgkglnjmiobdmaaGreatDoorP12
import Derived.Test.YtgkglnjmiobdmaaGreatDoorP4
import Derived.OpenShut
import Derived.SizedLaws
import Derived.Test.YtgkglnjmiobdmaaGreatDoorRows
import Derived.ChangeSame
import Derived.ChangeVars
import Derived.JoinedOf
import Derived.RowKit
import Derived.RowKitTokens
import Derived.LaidLaws
import Derived.LaidHandle
import Derived.Stop.Joined
set_option linter.unusedVariables false
set_option linter.unusedSimpArgs false
set_option maxRecDepth 20000
set_option maxHeartbeats 4000000
namespace Gv.Tryz
open Go Gv Go.Proofs
open Nat (reduceEqDiff reduceAdd reduceSub reduceLeDiff reduceMul reduceLT)
theorem gCount (m : GM) (hm : m.length ≤ 1000000) (st s : Nat) : GCalls Tryz.prog 13 [.ptr 0 st 0 0] (gObj st s m) (fun g O' => g = .int .i64 m.length ∧ O' = gObj st s m) := by
  refine h13.calls mixS (by simp) ?_
  simp only [gstart, s13, List.cons_append, List.nil_append, List.length_cons, List.length_nil, reduceAdd, reduceSub, List.replicate_succ, List.replicate_zero]
  simp +contextual -implicitDefEqProofs (maxSteps := 2000000) (disch := omega) only [↓lenV, ↓loadV, ↓fieldAddrV, ↓nilV, grp, GVal.ofConst, ↓resV, resG, List.headD, List.take, List.drop, reduceLeDiff, implies_true, vcA, ↓vcB, vcC, fbFw, e13, kvG_len]
theorem gCheckE (m : GM) (hm : GOK m) (cs : List Cm) (hs : List Hs) (th : Tag) (gr : Int) (st s : Nat) (hc : cs.length ≤ 1000000) (hh : hs.length ≤ 1000000) (hp : ∀ c ∈ cs, c.2.length ≤ 1000000) (e : Option Hs × Int) (he : joinedP gr m cs hs = .error e) :
    GCalls Tryz.prog 10 [.ptr 0 st 0 0, .agg (reqG cs hs th gr)] (gObj st s m) (fun g O' => g = errV (some e) ∧ O' = gObj st s m) := by
  have c1 := gJoinedBy m hm cs hs th gr st s hc hh hp
  rw [he] at c1
  obtain ⟨ty, v, ev⟩ := errV_some e
  refine h10.calls mixS (by simp) ?_
  simp only [gstart, s10, List.cons_append, List.nil_append, List.length_cons, List.length_nil, reduceAdd, reduceSub, List.replicate_succ, List.replicate_zero]
  simp +contextual -implicitDefEqProofs (maxSteps := 2000000) (disch := omega) only [↓loadV, ↓boxV, GVal.cells, grp, GVal.ofConst, List.map, List.take, reduceEqDiff, reduceAdd, reduceLeDiff, reduceCtorEq, allSolid, GVal.solid, vcA, ↓vcB, vcC, fbFw, e10]
  refine c1.mono ?_
  rintro g O' ⟨s2, rfl, rfl⟩
  simp +contextual -implicitDefEqProofs (maxSteps := 2000000) (disch := omega) only [↓resV, resG, vcA, ↓vcB, vcC, jdV, jdO, ev]
theorem known_err : joinedP 2 [] [(q1, [q2])] [] = .error (some q2, 10) := by
  have h1 : sizesP 2 0 [(q1, [q2])] = none := by kernel_rfl
  have h2 : joinP [] [(q1, [q2])] = .ok [(q1, [q2])] := by kernel_rfl
  have h3 : lackP [(q1, [q2])] [(q1, [q2])] [] = some (some q2, 10) := by kernel_rfl
  unfold joinedP
  simp only [List.length_nil, h1, h2, h3]
theorem known_ok : joinedP 2 [] [(q1, [])] [] = .ok [(q1, [])] := by
  have h1 : sizesP 2 0 [(q1, [])] = none := by kernel_rfl
  have h2 : joinP [] [(q1, [])] = .ok [(q1, [])] := by kernel_rfl
  have h3 : lackP [(q1, [])] [(q1, [])] [] = none := by kernel_rfl
  have h4 : roundP [] [(q1, [])] [(q1, [])] = none := roundP_rank rkQ (by decide) (by decide)
  unfold joinedP
  simp only [List.length_nil, h1, h2, h3, h4]
  rfl
theorem gKnown11 : GPure Tryz.prog 6 [] (.bool true) := by
  have cA := fun st s => gAdd [] fourG [(q1, [])] st s (by decide) (by decide)
  have ea : addedE [] [(q1, [])] = none := by unfold addedE; rw [known_ok]
  have em : addedM [] [(q1, [])] = [(q1, [])] := by unfold addedM; rw [known_ok]
  simp only [ea, em] at cA
  have cC := fun st s => gCheckE [] fourG [(q1, [q2])] [] .nil 2 st s (by decide) (by decide) (by decide) _ known_err
  have aC : ∀ st, GLes [.ptr 0 st 0 0, .agg [.slice [bytesG q1.1 ++ [.slice [bytesG q2.1] .full]] .full, .slice [] .nil, .int .i64 2]] [.ptr 0 st 0 0, .agg (reqG [(q1, [q2])] [] .nil 2)] := fun st =>
    ⟨GLe.refl _, GLe.agg ⟨GLe.trans GLe.none (GLe.slice ⟨GLes.app (GLes.refl _) ⟨GLe.none, trivial⟩, trivial⟩), GLe.refl _, GLe.refl _, trivial⟩, trivial⟩
  have aA : ∀ st, GLes [.ptr 0 st 0 0, .slice [bytesG q1.1 ++ [.slice [] .nil]] .full] [.ptr 0 st 0 0, .slice (csG [(q1, [])]) .none] := fun st =>
    ⟨GLe.refl _, GLe.trans GLe.none (GLe.slice ⟨GLes.app (GLes.refl _) ⟨GLe.none, trivial⟩, trivial⟩), trivial⟩
  have cW := gWhose q2 10
  have cK := hKindWhich (bytesG q2.1) 10 (len32 q2)
  have cH := fun st s => gHas [(q1, [])] q1 st s
  have eH : (look [(q1, ([] : List Hs))] q1).isSome = true := by kernel_rfl
  simp only [eH] at cH
  have cN := fun st s => gCount [(q1, [])] (by decide) st s
  refine GCalls.toPure ?_
  refine h6.calls mixS (by simp) ?_
  simp only [gstart, s6, List.nil_append, List.length_nil, reduceSub, List.replicate_succ, List.replicate_zero]
  simp +contextual -implicitDefEqProofs (maxSteps := 2000000) (disch := omega) only [GVal.ofConst, List.map, vcA, ↓vcB, e6]
  refine gNew.mono ?_
  rintro g O' ⟨st, s, rfl, rfl⟩
  simp +contextual -implicitDefEqProofs (maxSteps := 2000000) (disch := omega) only [binV, ↓buildV, ↓buildSliceV, fillG, fillE, place, GVal.cells, GVal.ofConst, List.map, List.take, List.drop, ↓reduceIte, reduceAdd, reduceLeDiff, List.replicate, allSolid, GVal.solid, reduceMul, splice, vcA, ↓vcB, vcC, fbFw, qE1, qE2, len32, take32a, drop33a, len33, solid33, solidH]
  refine (GCalls.args (cC st s) (aC st)).mono ?_
  rintro g O' ⟨rfl, rfl⟩
  simp +contextual -implicitDefEqProofs (maxSteps := 2000000) (disch := omega) only [List.map, vcA, ↓vcB, errV]
  refine cW.then ?_ (by rfl)
  simp +contextual -implicitDefEqProofs (maxSteps := 2000000) (disch := omega) only [↓storeV, ↓allocV, GVal.cells, List.map, List.take, List.drop, reduceAdd, reduceLeDiff, GVal.solid, splice, vcA, ↓vcB, vcC, fbFw, len32, solidH]
  intro s3
  refine cK.then ?_ (by rfl)
  simp +contextual -implicitDefEqProofs (maxSteps := 2000000) (disch := omega) only [binV, ↓loadV, ↓buildV, ↓buildSliceV, fillG, fillE, place, GVal.cells, grp, GVal.ofConst, List.map, List.take, List.drop, ↓reduceIte, reduceEqDiff, reduceAdd, reduceLeDiff, reduceCtorEq, aggV, List.replicate, allSolid, GVal.solid, reduceMul, splice, vcA, ↓vcB, vcC, fbFw, qE1, qE2, len33, solid33, cellsEq_hs q2 q2, v32]
  refine (GCalls.on2 (R := fun g x' y' => g = errV none ∧ ∃ s', x' = .row st 1 [[.map 1 s']] ∧ y' = .map s' (kvG encL [(q1, [])])) (cA st s) (O := gObj st s [] ++ [.row s3 32 [bytesG q2.1]]) 0 1 (by omega) rfl rfl (.refl _) (aA st) rfl rfl (by rintro g x' y' ⟨_, s', rfl, rfl⟩; exact ⟨rfl, rfl⟩) rfl).mono ?_
  rintro g O' ⟨x', y', ⟨rfl, s', rfl, rfl⟩, rfl⟩
  simp +contextual -implicitDefEqProofs (maxSteps := 2000000) (disch := omega) only [↓buildV, fillG, place, GVal.cells, GVal.ofConst, ↓resV, resG, List.map, List.take, List.drop, ↓reduceIte, reduceAdd, reduceLeDiff, allSolid, GVal.solid, reduceMul, splice, vcA, ↓vcB, vcC, fbFw, errV, qE1, GObj.place, List.set, Tryz.underlying45]
  refine (GCalls.keep2 (cH st s') rfl [.row s3 32 [bytesG q2.1]]).mono ?_
  rintro g O' ⟨rfl, rfl⟩
  simp +contextual -implicitDefEqProofs (maxSteps := 2000000) (disch := omega) only [List.map, vcA, ↓vcB]
  refine (GCalls.keep2 (cN st s') rfl [.row s3 32 [bytesG q2.1]]).mono ?_
  rintro g O' ⟨rfl, rfl⟩
  simp +contextual -implicitDefEqProofs (maxSteps := 2000000) (disch := omega) only [binV, GVal.ofConst, ↓resV, resG, vcA, ↓vcB, vcC]
  exact ⟨1, .bool true, rfl, by rw [leA_bool]⟩
end Gv.Tryz
/- maps.Keys of the graph's own map, as an iterator; Collect of it (printed by mkko.py out of KK, KL, KN); the graph's Hashes. -/
set_option linter.unusedVariables false
set_option linter.unusedSimpArgs false
set_option maxRecDepth 100000
set_option maxHeartbeats 4000000
namespace Gv.Tryz.L
open Go Gv Gv.Tryz Go.Proofs Go.RowKit Go.Maps Go.Sort Go.Shelf
theorem keys1 (F : Fence) (n : Nat) (h69 : F.fn 63) (hro : F.round = none) (hn : 1 ≤ n) (l Bm off b clock : Nat) (es : Array MapEntry) (hbo : BornOK es clock) (hks : ∀ e ∈ es.toList, ∃ h : HL, e.key = encH h) (J : List HL → World → Prop)
    (hY : ∀ pre x W, J pre W → pre.length < es.size → YieldAt F (n - 1) Tryz.prog l #[encH x] W fun e W' => e = .returned (.bool true) ∧ J (pre ++ [x]) W' ∧ KeepsWalks W W')
    (W : World) (hJ : AbidesFrom W.heap.size J)
    (hm : W.cell? ⟨Bm, off, none⟩ = some (.map (some b))) (hb : W.heap[b]? = some (.map es clock)) (h0 : J [] W) :
    CallsIn F n Tryz.prog 63 #[.func (.yield l) #[] #[], .pointer (some ⟨Bm, off, none⟩)] W fun e W' => (∃ v, e = .returned v) ∧ ∃ hs : List HL, (hs.map encH).Perm (es.toList.map MapEntry.key) ∧ J hs W' := by
  refine callsIn_of_wp Tryz.func63 rfl h69 ?_ hro
  simp only [Tryz.ntmps63, List.size_toArray, List.length_cons, List.length_nil, Nat.reduceAdd, Nat.reduceSub, Array.replicate_succ, Array.replicate_zero, List.push_toArray, List.append_toArray, List.nil_append, List.cons_append]
  gi_wp2_with (first
    | (gi_at_range; refine wpListIn_range_at _ rfl _ _ rfl _ _ Tryz.underlying64 b clock es rfl hb hbo ?_; intro w0 hrg0 hg0 hs0)
    | gi_in)
  go_frame
  gi_loopw [3] (fun _ wr => ∃ (seen : Array Nat) (xs : List MapEntry) (hs : List HL), WalkAt wr b W.heap.size es clock seen ∧ Came es seen xs ∧ hs.map encH = xs.map MapEntry.key ∧ J hs wr)
    (fun _ wr => wr.rangeLeft b W.heap.size)
  case atStart =>
    exact ⟨#[], [], [], hrg0, Came.nil es, rfl, hJ [] W w0 none h0 hg0 (fun r e => by cases e)⟩
  case round =>
    obtain ⟨seen, xs, hs, hrg, hC, hsx, hJs⟩ := hrel
    gi_wp2_with (first
      | (refine wpListIn_next_at _ rfl _ rfl b W.heap.size clock es hbo seen xs hC rfl hrg ?_ ?_)
      | gi_in)
    · -- NOTHING IS LEFT
      intro hp
      gi_wp2
      go_end0
      exact ⟨⟨_, rfl⟩, hs, by rw [hsx]; exact hp.map _, hJs⟩
    · -- AN ENTRY HAS COME: yield(k)
      intro e w2 hem hC2 hlt hrg2 hmu hg2 hs2 hen
      obtain ⟨x, ex⟩ := hks e (by simpa using hem)
      have hsx2 : (hs ++ [x]).map encH = (xs ++ [e]).map MapEntry.key := by rw [List.map_append, List.map_append, hsx]; simp [ex]
      have hlen : hs.length < es.size := by
        have := congrArg List.length hsx
        rw [List.length_map, List.length_map] at this
        omega
      rw [ex] at hen ⊢
      have hal := World.alloc_heap_new w2 (.cells zero32 40)
      have hst := store_h x.2 hal rfl
      obtain ⟨w3, hw3⟩ : ∃ w3, (w2.alloc (.cells zero32 40)).setRow w2.heap.size (bytesV x.1).toArray = w3 := ⟨_, rfl⟩
      rw [hw3] at hst
      have hx3 : w3.heap[w2.heap.size]? = some (.cells (bytesV x.1).toArray 40 (0, 0)) := by rw [← hw3]; exact setRow_heap _ _ _ _ _ _ hal
      have ho3 : ∀ k, k < w2.heap.size → w3.heap[k]? = w2.heap[k]? := fun k hk => by
        rw [← hw3, setRow_other _ _ _ _ (by omega)]
        exact Below.heap_alloc _ _ k hk
      have hs3 : w3.heap.size = w2.heap.size + 1 := by rw [← hw3]; simp
      have hk3 : KeepsWalks w2 w3 := ⟨by omega, fun k o hk ho => (ho3 k (Array.getElem?_eq_some_iff.1 hk).1).trans hk⟩
      have hg3 : w2.grownBy w3 none := ⟨by rw [← hw3]; rfl, by rw [← hw3]; rfl, by rw [← hw3]; rfl, by omega, fun k hk _ => ho3 k hk⟩
      have hlo := load_h x.2 hx3
      have hJ3 : J hs w3 := hJ hs w2 w3 none (hJ hs wr w2 (some W.heap.size) hJs hg2 (fun r e => by cases e; exact ⟨Nat.le_refl _, hrg.iter_walk⟩)) hg3 (fun r e => by cases e)
      have hrg3 := hrg2.of_walks hk3
      have hmu3 : w3.rangeLeft b W.heap.size < wr.rangeLeft b W.heap.size := by rw [hrg3.left_eq, ← hrg2.left_eq]; exact hmu
      obtain ⟨fn, tmps, assign, body, hy, hR⟩ := hY hs x w3 hJ3 hlen
      change (Instr.yield l #[encV x.1]).run Tryz.prog w3 = _ at hy
      clear hw3 hs2
      gi_wp2_with (first
        | (refine wpListIn_alloc rfl rfl (alloc_h _) ?_)
        | (refine wpListIn_store rfl rfl hst ?_)
        | (refine wpListIn_load rfl rfl hlo ?_)
        | gi_in)
      refine hR.mono ?_
      rintro e' W4 ⟨rfl, hJ4, hk4⟩
      gi_wp2
      have hrg4 := hrg3.of_walks hk4
      go_roundw
      case rel => exact ⟨_, xs ++ [e], hs ++ [x], hrg4, hC2, hsx2, hJ4⟩
      case measure => rw [hrg4.left_eq, ← hrg3.left_eq]; exact hmu3
theorem keysGives (F : Fence) (n : Nat) (h69 : F.fn 63) (hro : F.round = none) (hn : 1 ≤ n) (Bm off b clock : Nat) (es : Array MapEntry) (hbo : BornOK es clock) (hks : ∀ e ∈ es.toList, ∃ h : HL, e.key = encH h) (w : World) (hBm : Bm < w.heap.size)
    (hm : w.cell? ⟨Bm, off, none⟩ = some (.map (some b))) (hb : w.heap[b]? = some (.map es clock)) :
    SeqGives F n Tryz.prog 63 #[.pointer (some ⟨Bm, off, none⟩)] encH (fun hs : List HL => (hs.map encH).Perm (es.toList.map MapEntry.key)) es.size w := fun l J W hW hJ hY h0 =>
  keys1 F n h69 hro hn l Bm off b clock es hbo hks J hY W hJ ((hW.cell (p := ⟨Bm, off, none⟩) hBm).trans hm) ((hW.block b (Array.getElem?_eq_some_iff.1 hb).1).trans hb) h0
theorem gCollect {α : Type} (enc : α → GVal) (m : List (Hs × α)) (hm : m.length ≤ 1000000000) {O : List GObj} {o st oc stc : Nat} (hO : O[o]? = some (.map st (kvG enc m))) (hOc : O[oc]? = some (.row stc 1 [[.map o st]])) :
    GCalls Tryz.prog 38 [.func (.func 63) [] [.ptr oc stc 0 0]] O (fun g O' => ∃ l : List Hs, l.Perm (m.map (·.1)) ∧ g = .slice (hsG l) .none ∧ O' = O) := by
  refine ⟨by kernel_rfl, fun E w vs hs ha => ?_⟩
  obtain ⟨hsz, hat⟩ := ha
  match vs, hsz with
  | ⟨[v]⟩, _ =>
    have hv := hat 0 _ rfl
    change VR E v _ at hv
    cases hv with
    | func fn fs cs gs ks hf hk hfs hcs =>
      obtain ⟨fs⟩ := fs
      obtain ⟨cs⟩ := cs
      match fs, hf with
      | [], _ =>
        match cs, hk with
        | [c], _ =>
          have hc := hcs 0 _ rfl
          change VR E c (.ptr oc stc 0 0) at hc
          cases hc with
          | ptr b off _ _ _ _ lc hlc hbc hoff =>
            have hre := hs.real _ _ hOc
            obtain ⟨lc2, hlc2, hsz2, _, hre⟩ := hre
            rw [hlc] at hlc2; cases hlc2
            rw [hbc] at hre
            obtain ⟨cur, el, hcw, hcs, hct, hrows, _⟩ := hre
            obtain ⟨q, h1, _, h2⟩ := hrows 0 (.map o st) rfl
            have hoff2 : off = lc.off := by rw [hoff]; omega
            have hcell : w.cell? ⟨b, off, none⟩ = some q := by
              simp only [World.cell?, hcw, hoff2]
              simpa using h1
            have hBm : b < w.heap.size := (Array.getElem?_eq_some_iff.1 hcw).1
            cases h2 with
            | map r o st l hl hb =>
              obtain ⟨b2, es, clock, e, hw, hes, hent, hloc, hsn2, hbo⟩ := map_block hs (VR.map r o st l hl hb) hO
              cases e
              have hln : es.size = m.length := by
                have : es.toList.length = (kvG enc m).length := hes
                rw [Array.length_toList] at this
                rw [this, kvG, List.length_map]
              have hkey : es.toList.map MapEntry.key = (m.map (·.1)).map encH := by
                refine List.ext_getElem? fun i => ?_
                rw [List.getElem?_map, List.getElem?_map, List.getElem?_map]
                cases hi : m[i]? with
                | none =>
                  have : es.toList[i]? = none := by
                    rw [List.getElem?_eq_none_iff] at hi ⊢
                    rw [Array.length_toList]; omega
                  rw [this]; rfl
                | some p =>
                  have hlt := (List.getElem?_eq_some_iff.1 hi).1
                  have hi2 : i < es.toList.length := by rw [Array.length_toList]; omega
                  have he : es.toList[i]? = some (es.toList[i]) := List.getElem?_eq_getElem hi2
                  have := (hent i _ (.agg (bytesG p.1.1), enc p.2) he (by simp [kvG, hi])).1
                  rw [he]
                  exact congrArg some (vr_key this)
              have hks : ∀ e ∈ es.toList, ∃ h : HL, e.key = encH h := by
                intro e he
                have : e.key ∈ es.toList.map MapEntry.key := List.mem_map_of_mem he
                rw [hkey] at this
                obtain ⟨h, _, eh⟩ := List.mem_map.1 this
                exact ⟨h, eh.symm⟩
              have hseq := keysGives Fence.wide 3 trivial rfl (by omega) b off r clock es hbo hks w hBm hcell hw
              have hc := collect Fence.wide 5 trivial trivial rfl (by omega) 63 #[.pointer (some ⟨b, off, none⟩)] trivial (enters_of Tryz.func63 (by kernel_rfl) rfl) _ es.size (by rw [hln]; exact Nat.le_trans hm (by decide)) (by omega) w hseq
              refine (callsIn_wide.1 hc).mono ?_
              rintro e' w' ⟨v, ss, rfl, hS, hrow, hnil, hbel⟩
              have hperm : ss.Perm (m.map (·.1)) := perm_of_map (fun _ _ => encH_inj) (by rw [← hkey]; exact hS)
              rcases hrow.2 with ⟨rfl, hz⟩ | ⟨g, cap, cur, rfl, hbase, hgb, r1, r2, r3, r4⟩
              · have hss : ss = [] := List.eq_nil_of_length_eq_zero hz
                subst hss
                obtain ⟨p1, p2⟩ := hs.belowO hbel
                exact ⟨_, E, O, .slice [] .none, rfl, p1, p2, .slice none 0 0 [] .none 32 (fun _ => undef) rfl (Nat.le_refl _) (by simp) (by simp) (by simp) trivial, [], hperm, rfl, rfl⟩
              · have hcur : ∀ j, j < ss.length * 32 → cur[j]? = (bytesV (hsB ss))[j]? := by
                  intro j hj
                  rw [← cellsH_B, ← r4, List.getElem?_take_of_lt hj, Array.getElem?_toList]
                have hbl : (bytesV (hsB ss)).length = ss.length * 32 := by rw [← cellsH_B, cellsH_len]
                obtain ⟨p1, p2⟩ := hs.belowSeal hbel (n := ss.length * 32) hbase hgb (fun j v hj hv => by
                  rw [hcur j hj] at hv
                  exact bytesV_one _ v (List.mem_of_getElem? hv))
                refine ⟨_, _, O, .slice (hsG ss) .none, rfl, p1, p2, .slice _ _ _ _ _ 32 (fun j => (bytesV (hsB ss)).getD j undef) (by rw [hsG_len]) r1 (fun x hx => by obtain ⟨h, _, rfl⟩ := List.mem_map.1 hx; exact len32 h) (fun _ => ⟨g, 0, rfl, fun j hj => ?_⟩) (fun j gv hj => ?_) trivial, ss, hperm, rfl, rfl⟩
                · show (if g = g then (if 0 + j < ss.length * 32 then cur[0 + j]? else none) else E.snap g (0 + j)) = _
                  rw [if_pos rfl, Nat.zero_add, if_pos hj, hcur j hj, List.getD_eq_getElem?_getD]
                  cases hq2 : (bytesV (hsB ss))[j]? with
                  | none => rw [List.getElem?_eq_none_iff] at hq2; omega
                  | some x => rfl
                · rw [hsG_B, bytesG, List.getElem?_map] at hj
                  rw [List.getD_eq_getElem?_getD, bytesV, List.getElem?_map]
                  cases hq2 : (hsB ss)[j]? with
                  | none => rw [hq2] at hj; cases hj
                  | some x =>
                    rw [hq2] at hj
                    cases hj
                    exact .int _ _
theorem gKeys {α : Type} (enc : α → GVal) (m : List (Hs × α)) {st sa : Nat} : GCalls Tryz.prog 39 [.map 1 st] [.row sa 1 [[.map 1 st]], .map st (kvG enc m)] (fun g O' => ∃ stc, g = .func (.func 63) [] [.ptr 2 stc 0 0] ∧ O' = [.row sa 1 [[.map 1 st]], .map st (kvG enc m), .row stc 1 [[.map 1 st]]]) := by
  refine h39.calls mixS (by simp) ?_
  simp only [gstart, s39, List.cons_append, List.nil_append, List.length_cons, List.length_nil, Nat.reduceAdd, Nat.reduceSub, List.replicate_succ, List.replicate_zero]
  simp +contextual -implicitDefEqProofs (maxSteps := 2000000) (disch := omega) only [↓boxV, GVal.cells, GVal.ofConst, ↓resV, resG, List.map, Nat.reduceAdd, allSolid, GVal.solid, vcA, ↓vcB, vcC, e39]
  exact fun s => ⟨s, rfl, rfl⟩
theorem gHashes11 (m : GM) (hm : m.length ≤ 1000000000) (st s : Nat) : GCalls Tryz.prog 15 [.ptr 0 st 0 0] (gObj st s m) (fun g O' => g = .slice (hsG (sortR (m.map (·.1)))) .none ∧ O' = gObj st s m) := by
  refine GCalls.dropTo ?_
  refine h15.calls mixS (by simp) ?_
  simp only [gstart, s15, List.cons_append, List.nil_append, List.length_cons, List.length_nil, Nat.reduceAdd, Nat.reduceSub, List.replicate_succ, List.replicate_zero]
  simp +contextual -implicitDefEqProofs (maxSteps := 2000000) (disch := omega) only [↓loadV, ↓fieldAddrV, ↓nilV, grp, GVal.ofConst, List.map, List.headD, List.take, List.drop, Nat.reduceLeDiff, implies_true, vcA, ↓vcB, vcC, fbFw, e15]
  refine (gKeys encL m (sa := st)).mono ?_
  rintro g O' ⟨stc, rfl, rfl⟩
  simp +contextual -implicitDefEqProofs (maxSteps := 2000000) (disch := omega) only [List.map, vcA, ↓vcB]
  refine (gCollect encL m hm (O := [.row st 1 [[.map 1 s]], .map s (kvG encL m), .row stc 1 [[.map 1 s]]]) (o := 1) (oc := 2) rfl rfl).mono ?_
  rintro g O' ⟨l, hl, rfl, rfl⟩
  have hll : l.length = m.length := by rw [hl.length_eq, List.length_map]
  have cS := hSort l .none (by omega) (by simp)
  rw [sortR_perm hl] at cS
  simp +contextual -implicitDefEqProofs (maxSteps := 2000000) (disch := omega) only [List.map, vcA, ↓vcB]
  refine cS.then ?_ (by rfl)
  simp +contextual -implicitDefEqProofs (maxSteps := 2000000) (disch := omega) only [↓resV, resG, vcA, ↓vcB]
  exact ⟨_, gObj st s m, [.row stc 1 [[.map 1 s]]], rfl, leA_refl _, rfl, rfl⟩
end Gv.Tryz.L
/- graph.Remove: the ghost parts. -/
set_option linter.unusedVariables false
set_option linter.unusedSimpArgs false
set_option maxRecDepth 20000
set_option maxHeartbeats 4000000
namespace Gv.Tryz
open Go Gv Go.Proofs
end Gv.Tryz
/- graph.Remove: its first two loops. -/
set_option linter.unusedVariables false
set_option linter.unusedSimpArgs false
set_option maxRecDepth 20000
set_option maxHeartbeats 4000000
namespace Gv.Tryz
open Go Gv Go.Proofs
end Gv.Tryz
/- Plain laws of GraphUnion. -/
set_option linter.unusedVariables false
set_option linter.unusedSimpArgs false
namespace Gv.Tryz
open Go Gv Go.Proofs
def keysS (m : GM) : List Hs := sortR (m.map (·.1))
theorem keysS_mem (m : GM) (z : Hs) : z ∈ keysS m ↔ (look m z).isSome = true := by
  unfold keysS
  rw [sortR_mem]
  exact ⟨key_look, look_key⟩
end Gv.Tryz
/- graph.Remove: may they go? -/
set_option linter.unusedVariables false
set_option linter.unusedSimpArgs false
set_option maxRecDepth 20000
set_option maxHeartbeats 4000000
namespace Gv.Tryz
open Go Gv Go.Proofs
end Gv.Tryz
/- Some of the objects, in another order. -/
set_option linter.unusedVariables false
namespace Gv
open Go
theorem HSim.pick {E : Env} {O X : List GObj} {w : World} (h : HSim E O w) (pl : List Nat) (hX : Fits O pl X) (hnd : pl.Nodup) (hc : clockOf X = none) : HSim E X w ∧ Keep E O w E X w := by
  have hpl : ∀ {i j k : Nat}, pl[i]? = some k → pl[j]? = some k → i = j := fun {i j k} hi hj => by
    obtain ⟨h1, e1⟩ := List.getElem?_eq_some_iff.1 hi
    obtain ⟨h2, e2⟩ := List.getElem?_eq_some_iff.1 hj
    have hp := List.pairwise_iff_getElem.1 hnd
    rcases Nat.lt_trichotomy i j with q | q | q
    · exact absurd (e1.trans e2.symm) (hp i j h1 h2 q)
    · exact q
    · exact absurd (e2.trans e1.symm) (hp j i h2 h1 q)
  refine ⟨⟨?_, h.sealed, h.one, fun i x hx => ?_, fun i j oi oj b hij hi hj hbi hbj => ?_, h.glob⟩, ⟨.refl E, rfl, rfl, Nat.le_refl _, fun _ _ _ => rfl, fun _ _ _ hv => .inl hv, fun b ⟨i, x, hx, hb⟩ => ?_, trivial⟩⟩
  · obtain ⟨n, _, q⟩ := h.fin
    exact ⟨n, (fun c e => by rw [hc] at e; cases e), q⟩
  · obtain ⟨j, y, _, hy, hle⟩ := hX.at_ i x hx
    exact hle.real E w (h.real j y hy)
  · obtain ⟨i', yi, pi, hyi, li⟩ := hX.at_ i oi hi
    obtain ⟨j', yj, pj, hyj, lj⟩ := hX.at_ j oj hj
    rw [li.blk] at hbi
    rw [lj.blk] at hbj
    refine h.sep i' j' yi yj b (fun e => hij ?_) hyi hyj hbi hbj
    rw [e] at pi
    exact hpl pi pj
  · obtain ⟨j, y, _, hy, hle⟩ := hX.at_ i x hx
    exact .inl ⟨j, y, hy, by rw [← hle.blk]; exact hb⟩
end Gv
/- A contract over some objects, used among others. -/
set_option linter.unusedVariables false
namespace Gv
open Go
def FitsR (O : List GObj) : List Nat → List GObj → Prop
  | [], [] => True
  | j :: pl, x :: r => (∃ y, O[j]? = some y ∧ OLe x y) ∧ FitsR O pl r
  | _, _ => False
theorem FitsR.at_ {O : List GObj} : ∀ {pl : List Nat} {X : List GObj}, FitsR O pl X → ∀ (i j : Nat), pl[i]? = some j → ∃ x y, X[i]? = some x ∧ O[j]? = some y ∧ OLe x y
  | [], [], _, i, j, h => by simp at h
  | j :: pl, x :: r, h, 0, k, hk => by simp at hk; subst hk; obtain ⟨y, h1, h2⟩ := h.1; exact ⟨x, y, rfl, h1, h2⟩
  | j :: pl, x :: r, h, i + 1, k, hk => by simpa using FitsR.at_ h.2 i k (by simpa using hk)
  | [], _ :: _, h, _, _, _ => h.elim
  | _ :: _, [], h, _, _, _ => h.elim
theorem GInto.pick {g : GVal} {O X : List GObj} {N : GVal → List GObj → Prop} (pl : List Nat) (hX : Fits O pl X) (hnd : pl.Nodup) (hc : clockOf X = none) (h : N g X) : GInto g O N := fun E v w hs hv => by
  obtain ⟨h1, h2⟩ := hs.pick pl hX hnd hc
  exact ⟨g, X, E, h, h1, h2, hv⟩
structure VCs (P : Program) (R : List Nat) (s : SCode) (Q : Ex → GSt → Prop) (st : GSt) : Prop where
  ok : vcS P R s Q st
end Gv
/- graph.Remove: the contract. -/
set_option linter.unusedVariables false
set_option linter.unusedSimpArgs false
set_option maxRecDepth 20000
set_option maxHeartbeats 4000000
namespace Gv.Tryz
open Go Gv Go.Proofs
end Gv.Tryz
/- graph.Descendants: put together. -/
set_option linter.unusedVariables false
set_option linter.unusedSimpArgs false
set_option maxRecDepth 20000
set_option maxHeartbeats 4000000
namespace Gv.Tryz
open Go Gv Go.Proofs
theorem ent_fn {β : Type} (R : MapEntry → β → Prop) : ∀ (l : List MapEntry) (m : List β), l.Nodup → l.length = m.length → (∀ (i : Nat) e p, l[i]? = some e → m[i]? = some p → R e p) → (hβ : Nonempty β) → ∃ f : MapEntry → β, l.map f = m ∧ ∀ e ∈ l, R e (f e)
  | [], [], _, _, _, ⟨b⟩ => ⟨fun _ => b, rfl, by simp⟩
  | [], _ :: _, _, h, _, _ => by simp at h
  | _ :: _, [], _, h, _, _ => by simp at h
  | e :: l, p :: m, hn, hl, hR, hb => by
    classical
    obtain ⟨h1, h2⟩ := List.nodup_cons.1 hn
    obtain ⟨f, hf, hr⟩ := ent_fn R l m h2 (by simpa using hl) (fun i x y hx hy => hR (i + 1) x y (by simpa using hx) (by simpa using hy)) hb
    refine ⟨fun x => if x = e then p else f x, ?_, fun x hx => ?_⟩
    · rw [List.map_cons, if_pos rfl, ← hf]
      congr 1
      refine List.map_congr_left fun x hx => ?_
      have hne : x ≠ e := fun q => h1 (by rw [← q]; exact hx)
      show (if x = e then p else f x) = f x
      rw [if_neg hne]
    · rcases List.mem_cons.1 hx with rfl | hx
      · show R x (if x = x then p else f x)
        rw [if_pos rfl]; exact hR 0 _ _ rfl rfl
      · have hne : x ≠ e := fun q => h1 (by rw [← q]; exact hx)
        show R x (if x = e then p else f x)
        rw [if_neg hne]; exact hr x hx
theorem hid_set {E : Env} {O : List GObj} {w : World} {b : Nat} (h : Hid E O w b) (i : Nat) (x : GObj) (hx : x.blk E ≠ some b) : Hid E (O.set i x) w b :=
  ⟨fun ⟨j, y, hy, hb⟩ => by
    rw [List.getElem?_set] at hy
    by_cases e : i = j
    · rw [if_pos e] at hy
      split at hy
      · cases hy; exact hx hb
      · cases hy
    · rw [if_neg e] at hy; exact h.obj ⟨j, y, hy, hb⟩, h.snap, h.lt⟩
theorem gDescendants (m : GM) (hm : GMOK m) (st s : Nat) (l : List Hs) (t : Tag) (ht : t = .nil → l = []) (hl : l.length ≤ 10000) : GCalls Tryz.prog 24 [.ptr 0 st 0 0, .slice (hsG l) t] (gObj st s m) (fun g O' => g = .slice (hsG (desL m l)) .none ∧ O' = gObj st s m) := by
  refine GCalls.dropTo ?_
  refine gcalls_of_wp (hf := Tryz.func24) (hb := rfl) (hn := Tryz.ntmps24) (hr := Tryz.results24) (hen := by kernel_rfl) (hargs := by simp) ?_
  intro E a w hs ha
  obtain ⟨lg, b, es, clock, hlg, hbg, hMg, hs0, k0, hid0, hin0⟩ := hs.hideMap (i := 1) rfl
  change HSim E [.row st 1 [[.map 1 s]], .dead] w at hs0
  change Keep E (gObj st s m) w E [.row st 1 [[.map 1 s]], .dead] w at k0
  change Hid E [.row st 1 [[.map 1 s]], .dead] w b at hid0
  obtain ⟨f, hf, hfe⟩ := ent_fn (fun e (p : Hs × List Hs) => EntryOK E e (.agg (bytesG p.1.1), encL p.2)) es.toList m (hMg.born.2.imp fun h e => h (congrArg _ e)) (by rw [Array.length_toList, hMg.size, kvG, List.length_map]) (fun i e p he hp => hMg.ent i e _ (by simpa using he) (by rw [kvG, List.getElem?_map, hp]; rfl)) ⟨(h0, [])⟩
  have hml : m.length ≤ 10000 := hm.len
  refine wp_seq (wp_part (st := ⟨(gstart 42 [.ptr 0 st 0 0, .slice (hsG l) t] []).s, [.row st 1 [[.map 1 s]], .dead]⟩) mixS (s := s24_0) (C := C0) (by kernel_rfl) (by kernel_rfl) hs0 ha (dR0 _ _ _) ?_)
  rintro ⟨t1, O1⟩ E1 a1 w1 q1 k1 s1R ⟨e1, hw1⟩
  change O1 = [.row st 1 [[.map 1 s]], .dead] at e1
  subst e1
  have s1 := s1R.weak hw1
  show (Code.seq _ _).wp _ _ _ _
  refine wp_seq (wp_part (st := ⟨dS (.ptr 0 st 0 0) (.slice (hsG l) t) .any .any .any .any .any .any .any .any, [.row st 1 [[.map 1 s]], .dead]⟩) mixS (s := s24_1) (C := C0) (by kernel_rfl) (by kernel_rfl) q1 s1 (dR1 _ _ _ (fun _ _ => rfl) (fun _ => rfl)) ?_)
  rintro ⟨t2, O2⟩ E2 a2 w2 q2 k2 s2R ⟨stC, stb, e2, hw2⟩
  change O2 = [.row st 1 [[.map 1 s]], .dead, .map stC [], .row stb 1 [[.map 2 stC]]] at e2
  subst e2
  have s2 := s2R.weak hw2
  have k02 := k1.trans k2
  obtain ⟨lC, bC, esC, cC, hlC, hbC, hMC, h3, k3, hidC, hinC⟩ := q2.hideMap (i := 2) rfl
  have hC0 : w.heap.size ≤ bC := by
    rcases k02.objs bC hinC with ⟨i, x, hx, hb⟩ | h
    · match i with
      | 0 =>
        cases hx
        have : (GObj.row st 1 [[.map 1 s]]).blk E2 = some bC := by rw [GObj.blk_mono k02.ext (hs0.real 0 _ rfl)]; exact hb
        exact absurd (by simp [GObj.blk, hlC, hbC]) (q2.sep 0 2 _ (.map stC []) bC (by omega) rfl rfl this)
      | 1 => cases hx; cases hb
      | i + 2 => simp at hx
    · exact h
  change HSim E2 (obs st s stC stb []) w2 at h3
  change Keep E2 _ w2 E2 (obs st s stC stb []) w2 at k3
  change Hid E2 (obs st s stC stb []) w2 bC at hidC
  have hid2 := (hid0.keep (k02.trans k3)).1
  have hb2 := (hid0.keep (k02.trans k3)).2
  have hnb : bC ≠ b := fun e => by have := hid0.lt; omega
  show (Code.seq _ _).wp _ _ _ _
  refine wp_seq (wp_seq (wp_region_lit (ops_seg (st := ⟨dS (.ptr 0 st 0 0) (.slice (hsG l) t) (.ptr 3 stb 0 0) .any .any .any .any .any .any .any, obs st s stC stb []⟩) 4 rfl rfl h3 s2 (dR2 _ _ st s _) ?_)))
  rintro ⟨t3, O3⟩ E3 a3 w3 q3 k3' s3R ⟨e3, hw3⟩
  change O3 = obs st s stC stb [] at e3
  subst e3
  have s3 := s3R.weak hw3
  have k03 := (k02.trans k3).trans k3'
  have hb3 : w3.heap[b]? = some (.map es clock) := ((hid2.keep k3').2.trans hb2).trans hMg.at_
  have hid3 := (hid2.keep k3').1
  have hidC3 := (hidC.keep k3').1
  have hC3 := (hidC.keep k3').2
  have v14 : a3.eval (.tmp 14) = .map (some b) := map_val (SlotsR.ev (st := ⟨_, []⟩) s3 (.tmp 14)) (k03.ext.loc _ _ hlg) hbg
  refine range_step (t := 64) (k := 40) (e := 31) (m := .tmp 14) rfl rfl (by kernel_rfl) v14 hb3 hMg.born ?_
  intro w4 hwk hg hsz
  have hDok : DOK ⟨st, s, stC, stb, b, w3.heap.size, bC, m, es, clock, E, w, lC⟩ := ⟨hbC, hC0, k03.size, hnb, fun e => by have h1 := hidC3.lt; change bC = w3.heap.size at e; omega, fun e => by have h1 := hid3.lt; change w3.heap.size = b at e; omega, hMg.born⟩
  have hA : AtW ⟨st, s, stC, stb, b, w3.heap.size, bC, m, es, clock, E, w, lC⟩ #[] E3 (obs st s stC stb []) w4 :=
    ⟨q3.grown hg (fun r e => by cases e), k03.grown hg (fun r e => by cases e), hwk, hid3.grown hg,
     ⟨fun ⟨i, x, hx, hb⟩ => absurd ((q3.real i x hx).blk_lt hb) (Nat.lt_irrefl _), fun o => by
        cases hv : E3.snap w3.heap.size o with
        | none => rfl
        | some v => exact absurd (q3.lt hv) (Nat.lt_irrefl _), by show w3.heap.size < w4.heap.size; omega⟩, hidC3.grown hg, k3'.ext.loc _ _ hlC⟩
  have hE : Ent ⟨st, s, stC, stb, b, w3.heap.size, bC, m, es, clock, E, w, lC⟩ [] E3 w4 := ⟨esC, cC, hMC.ext k3'.ext ((hg.block _ hidC3.lt (fun e => by cases e)).trans hC3)⟩
  have hvl : VR E3 (.pointer (some ⟨w3.heap.size, 0, none⟩)) (.lit (.pointer (some ⟨w3.heap.size, 0, none⟩))) := .lit _
  have s4 := (SlotsR.put (st := ⟨_, []⟩) s3 (.refl E3) (d := some 15) hvl []).weak (s' := dS (.ptr 0 st 0 0) (.slice (hsG l) t) (.ptr 3 stb 0 0) .any .any .any (.lit (.pointer (some ⟨w3.heap.size, 0, none⟩))) .any .any .any) (by simp [GSt.put, WL, leG_self, leG_any])
  refine wpList_nil ?_
  show (Code.block _ _).wp _ _ _ _
  refine wp_block (dOuter ⟨st, s, stC, stb, b, w3.heap.size, bC, m, es, clock, E, w, lC⟩ hDok hm f hf hfe ⟨rfl, rfl, rfl⟩ rfl rfl ⟨rfl, rfl, rfl⟩ rfl rfl (by kernel_rfl) (by kernel_rfl) (by kernel_rfl) (by kernel_rfl) (by kernel_rfl) (by kernel_rfl) (by kernel_rfl) (by kernel_rfl) ⟨rfl, rfl, ⟨rfl, rfl, rfl⟩, rfl, rfl, ⟨rfl, rfl, rfl⟩⟩ hA hE s4 ?_)
  intro ct' pre seen E5 a5 w5 hp hct hA5 hE5 s5
  refine inBlock_self ?_
  obtain ⟨es5, c5, hM5⟩ := hE5
  have hM5' : MapAt E5 w5 bC es5 c5 (kvG encL (ctM ct')) := ⟨hM5.at_, by rw [hM5.size, kvT_len]; simp [kvG, ctM], fun i e p he hp => by
    rw [kvG, ctM, List.map_map, List.getElem?_map] at hp
    cases hq : ct'[i]? with
    | none => rw [hq] at hp; cases hp
    | some q =>
      rw [hq] at hp
      cases hp
      have := hM5.ent i e _ he (by rw [kvT_at, hq]; rfl)
      exact ⟨this.1, leG.sound (x := .slice (hsG q.1.2) (.tok (i + 4) q.2)) (y := .slice (hsG q.1.2) .none) (by rw [leG_none]) this.2⟩, hM5.born⟩
  have hMg5 : MapAt E5 w5 b es clock (kvG encL m) := by
    obtain ⟨since, c0, e1, _⟩ := hA5.walk
    exact ⟨e1, hMg.size, fun i e p he hp => ⟨(hMg.ent i e p he hp).1.mono hA5.keep.ext, (hMg.ent i e p he hp).2.mono hA5.keep.ext⟩, hMg.born⟩
  obtain ⟨q6, kf6⟩ := hA5.sim.showMap (i := 2) (st := stC) rfl hA5.loc hbC hM5' hA5.hC
  have k6 := kf6 _ _ _ hA5.keep (.inr hC0)
  have hid6 : Hid E5 ((obs st s stC stb ct').set 2 (.map stC (kvG encL (ctM ct')))) w5 b := hid_set hA5.hb 2 _ (by
    have : (GObj.map stC (kvG encL (ctM ct'))).blk E5 = some bC := by
      have hl := hA5.loc
      change E5.loc stC = some lC at hl
      simp [GObj.blk, hl, hbC]
    rw [this]
    exact fun e => hnb (Option.some.inj e))
  obtain ⟨q7, kf7⟩ := q6.showMap (i := 1) (st := s) rfl (hA5.keep.ext.loc _ _ hlg) hbg hMg5 hid6
  have k7 := kf7 _ _ _ (k0.trans k6) (.inl hin0)
  change HSim E5 (((gObj st s m ++ [.map stC (kvG encL (ctM ct'))]) ++ [.row stb 1 [[.map 2 stC]]]) ++ ct'.map fun q => .tok q.2 32) w5 at q7
  change Keep E (gObj st s m) w E5 (((gObj st s m ++ [.map stC (kvG encL (ctM ct'))]) ++ [.row stb 1 [[.map 2 stC]]]) ++ ct'.map fun q => .tok q.2 32) w5 at k7
  obtain ⟨q8, k8⟩ := q7.drop
  obtain ⟨q9, k9, s9⟩ := q8.meltBox1 s5 5 rfl rfl
  have K9 := (k7.trans k8).trans k9
  have hKb : Kb 40000 (ctM ct') := by
    have := Kb.all pre (fun q hq => hm.row q (hp.mem_iff.1 hq))
    rw [← hct] at this
    intro q hq
    have h1 := this q hq
    have h2 := hp.length_eq
    change pre.length = m.length at h2
    omega
  show (Code.seq _ _).wp _ _ _ _
  refine wp_mono (vc_sound mixS _ (retQ Tryz.prog [.tmp 4] _) ⟨_, _⟩ _ a5 w5 (C := C0) (by kernel_rfl) q9 (s9.weak ?_) (vcS_ok (C := C0) _ _ _ _ _ (by kernel_rfl) (fun _ _ h => h) (dHalf m hm st s stC l t ht hl (ctM ct') (fun x y => by rw [hct]; exact kids_of_perm hp x y) hKb))) (fun e a' w' hpost => Post.trans K9 hpost)
  simp [WL, leG_self]
end Gv.Tryz
/- graph.Remove: put together. -/
set_option linter.unusedVariables false
set_option linter.unusedSimpArgs false
set_option maxRecDepth 20000
set_option maxHeartbeats 4000000
namespace Gv.Tryz
open Go Gv Go.Proofs
structure RW where
  (b r : Nat)
  es : Array MapEntry
  clock : Nat
  E0 : Env
  O0 : List GObj
  w0 : World
structure AtR (D : RW) (seen : Array Nat) (E : Env) (O : List GObj) (w : World) : Prop where
  sim : HSim E O w
  keep : Keep D.E0 D.O0 D.w0 E O w
  walk : WalkAt w D.b D.r D.es D.clock seen
  hb : Hid E O w D.b
  hr : Hid E O w D.r
theorem AtR.step {D : RW} {seen : Array Nat} {E E' : Env} {O O' : List GObj} {w w' : World} (h : AtR D seen E O w) (h' : HSim E' O' w') (k : Keep E O w E' O' w') : AtR D seen E' O' w' :=
  ⟨h', h.keep.trans k, walk_same h.walk (h.hb.keep k).2 (h.hr.keep k).2, (h.hb.keep k).1, (h.hr.keep k).1⟩
theorem AtR.poke {D : RW} (hr0 : D.w0.heap.size ≤ D.r) {seen seen' : Array Nat} {E : Env} {O : List GObj} {w w' : World} (h : AtR D seen E O w) (g : w.grownBy w' (some D.r)) (hw : WalkAt w' D.b D.r D.es D.clock seen') : AtR D seen' E O w' :=
  ⟨h.sim.grown g (fun r e => by cases e; exact ⟨h.hr.obj, h.hr.snap⟩), h.keep.grown g (fun r e => by cases e; exact hr0), hw, h.hb.grown g, h.hr.grown g⟩
end Gv.Tryz
/- graph.Remove: the contract. -/
set_option linter.unusedVariables false
set_option linter.unusedSimpArgs false
set_option maxRecDepth 20000
set_option maxHeartbeats 400000
namespace Gv.Tryz
open Go Gv Go.Proofs
end Gv.Tryz
/- Ancestors and descendants: plain laws. -/
set_option linter.unusedVariables false
set_option linter.unusedSimpArgs false
namespace Gv.Tryz
open Go Gv Go.Proofs
theorem kid_par {m : GM} (hm : Good m) (x y : Hs) : y ∈ kidsM m x ↔ x ∈ parsM m y := by
  rw [kidsM_mem]
  constructor
  · rintro ⟨q, h1, h2, rfl⟩
    rw [parsM_some (look_of_mem hm.keys h1)]
    exact h2
  · intro h
    obtain ⟨p, h1, h2, h3⟩ := parsM_mem h
    exact ⟨p, h1, h3, h2.symm⟩
theorem kids_there {m : GM} {x y : Hs} (h : y ∈ kidsM m x) : (look m y).isSome = true := by
  obtain ⟨q, h1, _, rfl⟩ := kidsM_mem.1 h
  exact key_look (List.mem_map_of_mem h1)
end Gv.Tryz
/- OrderKnown: the parts. -/
set_option linter.unusedVariables false
set_option linter.unusedSimpArgs false
set_option maxRecDepth 20000
set_option maxHeartbeats 4000000
namespace Gv.Tryz
open Go Gv Go.Proofs
def q9 : Hs := hq 9 0 0
theorem p4 : parsM fourCs q4 = [q2, q3] := by kernel_rfl
theorem p3 : parsM fourCs q3 = [q1] := by kernel_rfl
theorem p2 : parsM fourCs q2 = [q1] := by kernel_rfl
theorem p1 : parsM fourCs q1 = [] := by kernel_rfl
end Gv.Tryz
/- GraphKnown: the parts. -/
set_option linter.unusedVariables false
set_option linter.unusedSimpArgs false
set_option maxRecDepth 20000
set_option maxHeartbeats 4000000
namespace Gv.Tryz
open Go Gv Go.Proofs
def q5 : Hs := hq 5 0 0
def q6 : Hs := hq 6 0 0
def q7 : Hs := hq 7 0 0
def q8 : Hs := hq 8 0 0
theorem kAdd (m M : GM) (hG : GOK m) (cs : List Cm) (e : Er) (he : addedE m cs = e) (hM : addedM m cs = M) (st s : Nat) (hc : cs.length ≤ 1000000) (hp : ∀ c ∈ cs, c.2.length ≤ 1000000) (X : List GObj) {args' : List GVal} (ha : GLes args' [.ptr 0 st 0 0, .slice (csG cs) .none]) :
    GCalls Tryz.prog 11 args' (gObj st s m ++ X) (fun g O' => ∃ s', g = errV e ∧ O' = gObj st s' M ++ X) := by
  refine (GCalls.on2 (R := fun g x' y' => g = errV (addedE m cs) ∧ ∃ s', x' = .row st 1 [[.map 1 s']] ∧ y' = .map s' (kvG encL (addedM m cs))) (gAdd m hG cs st s hc hp) (O := gObj st s m ++ X) 0 1 (by omega) rfl rfl (.refl _) ha rfl rfl (by rintro g x' y' ⟨_, s', rfl, rfl⟩; exact ⟨rfl, rfl⟩) rfl).mono ?_
  rintro g O' ⟨x', y', ⟨rfl, s', rfl, rfl⟩, rfl⟩
  exact ⟨s', by rw [he], by rw [hM]; rfl⟩
end Gv.Tryz
/- Guards and tests without a match: the kernel need not look into what is left out. -/
set_option linter.unusedVariables false
namespace Gv
open Go
def guardV (v : GVal) (A B C : Prop) : Prop := match v with
  | .bool b => gif b A B
  | .lit (.tuple _) => C
  | _ => False
@[congr] theorem cg_guardV {v v' : GVal} {A B C : Prop} (h : v = v') : guardV v A B C = guardV v' A B C := by subst h; rfl
def condV (v : GVal) (A B : Prop) : Prop := match v with
  | .bool b => gif b A B
  | .ubool => A ∧ B
  | _ => False
@[congr] theorem cg_condV {v v' : GVal} {A B : Prop} (h : v = v') : condV v A B = condV v' A B := by subst h; rfl
theorem nil_ptr (a b c d : Nat) (K : GVal → Prop) : nilV (.ptr a b c d) K = K (.ptr a b c d) := rfl
section
variable (P : Program) (R : List Nat) (Q : Ex → GSt → Prop) (st : GSt)
end
end Gv
/- GraphPlays: requests, one behind the other. -/
set_option linter.unusedVariables false
set_option linter.unusedSimpArgs false
set_option maxRecDepth 20000
set_option maxHeartbeats 8000000
namespace Gv.Tryz
open Go Gv Go.Proofs
open Nat (reduceEqDiff reduceAdd reduceSub reduceLeDiff reduceMul reduceLT)
theorem good_nilG : Good ([] : GM) := ⟨⟨by simp, by simp⟩, by simp, by intro x y h; simp [parsM, look] at h, by
  intro x h
  cases h with
  | base _ h => simp [parsM, look] at h
  | step _ _ _ h => simp [parsM, look] at h⟩
structure PlayInv (l : List RR) (i : Nat) (m L : GM) : Prop where
  il : i ≤ l.length
  i8 : i ≤ 8
  good : Good m
  ss : SSC L
  alike : Alike m L
theorem keys_eq {m L : GM} (hm : Good m) (hL : SSC L) (hA : Alike m L) : keysS m = keysC L := by
  have hs : SS (keysC L) := by
    unfold SS keysC
    rw [List.pairwise_map]
    exact hL
  refine ss_eq (sortR_ss _) hs fun x => ?_
  show x ∈ keysS m ↔ x ∈ keysC L
  rw [keysS_mem, hA x]
  exact ⟨look_key, key_look⟩
theorem er_pos {gr : Int} {m : GM} {cs : List Cm} {hs : List Hs} {e : Option Hs × Int} (h : joinedP gr m cs hs = .error e) : erN (some e) ≠ 0 := by
  have := err_pos h
  obtain ⟨_, n⟩ := e
  exact this
theorem both_say {m L : GM} (hm : Good m) (hL : SSC L) (hA : Alike m L) (gr : Int) (cs : List Cm) (hs : List Hs) : chkP gr m cs hs = checkE gr L cs hs := by
  unfold chkP checkE
  rcases joined_alike hA hm.keys (ssc_keys hL) gr cs hs with ⟨e, e1, e2⟩ | ⟨M, M', e1, e2, H⟩
  · rw [e1, e2]
  · rw [e1, e2]
theorem inM_alike {m L : GM} (hA : Alike m L) (l : List Hs) : inM m l = inM L l := by
  unfold inM
  exact List.filter_congr fun x _ => by rw [hA x]
theorem anc_alike {m L : GM} (hA : Alike m L) (l : List Hs) : ancL m l = ancL L l := ss_eq (ancL_ss _ _) (ancL_ss _ _) fun x => by
  rw [ancL_mem, ancL_mem, hA.pars, inM_alike hA]
theorem reach_congr {n1 n2 : Hs → List Hs} (h : ∀ x y, y ∈ n1 x → y ∈ n2 x) {l : List Hs} {x : Hs} (hr : Reach n1 l x) : Reach n2 l x := by
  induction hr with
  | base x hx => exact .base x hx
  | step x y _ hy ih => exact .step x y ih (h x y hy)
theorem des_alike {m L : GM} (hm : Good m) (hg : Good L) (hA : Alike m L) (l : List Hs) : desL m l = desL L l := ss_eq (desL_ss _ _) (desL_ss _ _) fun x => by
  have hk : ∀ x y, y ∈ kidsM m x ↔ y ∈ kidsM L x := fun x y => by rw [kid_par hm, kid_par hg, hA.pars]
  rw [desL_mem, desL_mem, inM_alike hA]
  exact ⟨reach_congr fun x y => (hk x y).1, reach_congr fun x y => (hk x y).2⟩
theorem there_len {m : GM} {l : List Hs} (hn : l.Nodup) (h : ∀ x ∈ l, (look m x).isSome = true) : l.length ≤ m.length := by
  have := nodup_lenH l (m.map (·.1)) hn fun x hx => look_key (h x hx)
  simpa using this
theorem anc_lenG {m : GM} (hm : Good m) (l : List Hs) : (ancL m l).length ≤ 1000 := by
  have := there_len (m := m) (ss_nodup (ancL_ss m l)) fun x hx => by
    cases (ancL_mem m l x).1 hx with
    | base _ h => exact (List.mem_filter.1 h).2
    | step y _ _ h => exact hm.closed y x h
  have := hm.ok.len
  omega
theorem des_lenG {m : GM} (hm : Good m) (l : List Hs) : (desL m l).length ≤ 1000 := by
  have := there_len (m := m) (ss_nodup (desL_ss m l)) fun x hx => by
    cases (desL_mem m l x).1 hx with
    | base _ h => exact (List.mem_filter.1 h).2
    | step y _ _ h => exact kids_there h
  have := hm.ok.len
  omega
theorem specPlays (l : List RR) (ask : List Int) : GPure Tryz.prog 3 [.slice (rrsG l) .none, .slice (ints ask) .none] (.bool true) := by
  refine GCalls.toPure ?_
  refine h3.calls mixS (by simp) ?_
  simp only [gstart, s3, List.cons_append, List.nil_append, List.length_cons, List.length_nil, reduceAdd, reduceSub, List.replicate_succ, List.replicate_zero]
  simp +contextual -implicitDefEqProofs (maxSteps := 2000000) (disch := omega) only [GVal.ofConst, List.map, vcA, ↓vcB, e3]
  refine gNew.mono ?_
  rintro g O' ⟨st, s, rfl, rfl⟩
  simp +contextual -implicitDefEqProofs (maxSteps := 2000000) (disch := omega) only [List.map, vcA, ↓vcB]
  refine gKnown11.then ?_ (by rfl)
  simp +contextual -implicitDefEqProofs (maxSteps := 2000000) (disch := omega) only [binV, ↓unV, ↓boxV, ↓buildV, fillG, GVal.cells, GVal.ofConst, List.map, reduceAdd, allSolid, GVal.solid, vcA, ↓vcB, vcC, fbFw]
  intro rt
  refine vcSLoop_by (ι := { p : (Nat × Nat) × (GM × GM) // PlayInv l p.1.1 p.2.1 p.2.2 }) (fun p => ⟨[.slice (rrsG l) .none, .slice (ints ask) .none, .any, .any, .any, .ptr 0 st 0 0, .ptr 2 rt 0 0, .int .i64 (p.1.1.1 : Nat)] ++ List.replicate 151 .any, gObj st p.1.1.2 p.1.2.1 ++ rObj rt p.1.2.2⟩) (fun p => 8 - p.1.1.1) ?_ ?_
  · refine Into.rowLe 2 [[.slice [] .nil]] [[.slice (csG []) .none]] rfl ⟨⟨GLe.none, trivial⟩, trivial⟩ ?_
    exact Into.first ⟨((0, s), ([], [])), ⟨Nat.zero_le _, Nat.zero_le _, good_nilG, List.Pairwise.nil, fun _ => rfl⟩⟩ ⟨[], by simp⟩ (by simp [WL, leG_self, leG_any])
  · rintro ⟨⟨⟨i, s⟩, ⟨m, L⟩⟩, hI⟩
    obtain ⟨hil, hi8, hm, hL, hA⟩ : PlayInv l i m L := hI
    have hgL := good_alike hm hA hL
    by_cases h : i < l.length ∧ i < 8
    · have d0 : ((i : Int) < (l.length : Int)) = True := eq_true (by omega)
      have d1 : ((i : Int) < 8) = True := eq_true (by omega)
      have eR := rrsG_at l i h.1
      generalize l.getD i default = x at *
      simp +contextual -implicitDefEqProofs (maxSteps := 2000000) (disch := omega) only [↓lenV, binV, ↓loadV, ↓indexAddrV, grp, GVal.ofConst, List.map, List.take, reduceEqDiff, reduceAdd, reduceLeDiff, reduceCtorEq, List.replicate, vcA, ↓vcB, vcC, fbFw, d0, d1, eR, rrsG_len]
      refine ⟨by omega, ?_⟩
      refine (gRequestO x (gObj st s m ++ rObj rt L) rfl).mono ?_
      rintro g O' ⟨cs, hs, gr, hr, rfl, rfl⟩
      have hcl := hr.len
      have hhl := hr.hd
      have hpl : ∀ c ∈ cs, c.2.length ≤ 100000 := fun c hc => by have := hr.par c hc; omega
      have hpm : ∀ c ∈ cs, c.2.length ≤ 1000000 := fun c hc => by have := hr.par c hc; omega
      have cX := fun (X : List GObj) => GCalls.keep1' (rCheck L hL hgL cs hs .none gr rt (by omega) (by omega) hpm) (O := gObj st s m ++ rObj rt L ++ X) (args' := [.ptr 2 rt 0 0, .agg (reqG cs hs .none gr)]) 2 rfl rfl rfl rfl
      have cY := fun (X : List GObj) => GCalls.keep1' (rCheck L hL hgL cs [] .nil 2 rt (by omega) (by simp) hpm) (O := gObj st s m ++ rObj rt L ++ X) (args' := [.ptr 2 rt 0 0, .agg (reqG cs [] .nil 2)]) 2 rfl rfl rfl rfl
      have cG := fun X => (iCheck m hm.ok cs hs .none gr st s (by omega) (by omega) hpm).keep2 rfl X
      have bX := both_say hm hL hA gr cs hs
      have bY := both_say hm hL hA 2 cs []
      rw [bX] at cG
      simp only [chkV_eq] at cX cY
      have sX := gSame (checkE gr L cs hs)
      have sY := gSame (checkE 2 L cs [])
      generalize checkE gr L cs hs = eX at *
      obtain ⟨eY, hY⟩ : ∃ e, checkE 2 L cs [] = e := ⟨_, rfl⟩
      rw [hY] at cY sY
      have hl2 : ∀ M : GM, M.length ≤ 1000000 → ∀ (X : List GObj) s, GCalls Tryz.prog 13 [.ptr 0 st 0 0] (gObj st s M ++ X) (fun g O' => g = .int .i64 M.length ∧ O' = gObj st s M ++ X) := fun M hM X s => (gCount M hM st s).keep2 rfl X
      have hk2 : ∀ M : GM, M.length ≤ 1000000 → ∀ (X : List GObj) s, GCalls Tryz.prog 15 [.ptr 0 st 0 0] (gObj st s M ++ X) (fun g O' => g = .slice (hsG (keysS M)) .none ∧ O' = gObj st s M ++ X) := fun M hM X s => (_root_.Gv.Tryz.L.gHashes11 M (by omega) st s).keep2 rfl X
      have hr2 : ∀ (M K : GM), K.length ≤ 100000 → ∀ (X : List GObj) s, GCalls Tryz.prog 16 [.ptr 2 rt 0 0] (gObj st s M ++ rObj rt K ++ X) (fun g O' => g = .slice (hsG (keysC K)) .none ∧ O' = gObj st s M ++ rObj rt K ++ X) := fun M K hK X s => GCalls.keep1' (rHashes K hK rt) (O := gObj st s M ++ rObj rt K ++ X) (args' := [.ptr 2 rt 0 0]) 2 rfl rfl rfl rfl
      have hYs : ∃ (M K : GM) (dn : Prop), addedE m cs = eY ∧ addedM m cs = M ∧ (erN eY = 0) = dn ∧ Good M ∧ SSC K ∧ Alike M K ∧ ((dn = False ∧ K = L) ∨ (dn = True ∧ K = putsC L cs)) := by
        rcases joined_alike hA hm.keys (ssc_keys hL) 2 cs [] with ⟨e, e1, e2⟩ | ⟨M, M', e1, e2, H⟩
        · have ec : eY = some e := by rw [← hY]; unfold checkE; rw [e2]
          exact ⟨m, L, False, by rw [ec]; unfold addedE; rw [e1], by unfold addedM; rw [e1], by rw [ec]; exact eq_false (er_pos e2), hm, hL, hA, .inl ⟨rfl, rfl⟩⟩
        · have ec : eY = none := by rw [← hY]; unfold checkE; rw [e2]
          exact ⟨M, putsC L cs, True, by rw [ec]; unfold addedE; rw [e1], by unfold addedM; rw [e1], by rw [ec]; exact eq_true rfl, joined_good hm e1, putsC_ss cs hL, join_puts hA (joined_ok e1).2.1, .inr ⟨rfl, rfl⟩⟩
      obtain ⟨M, K, dn, hE, hM', eN, gM, sK, aK, hcase⟩ := hYs
      have hll := hgL.ok.len
      have hml := gM.ok.len
      have el : (M.length : Int) = K.length := by rw [aK.len gM.keys (ssc_keys sK)]
      have hKl : K.length ≤ 1000 := by omega
      have ek := keys_eq gM sK aK
      have cE := hSame (keysC K) (keysC K) .none .none (by rw [keysC, List.length_map]; omega)
      rw [decide_eq_true rfl] at cE
      have cA := fun X => kAdd m M hm.ok cs eY hE hM' st s (by omega) hpm X (GLes.refl _)
      simp +contextual -implicitDefEqProofs (maxSteps := 2000000) (disch := omega) only [↓loadV, ↓storeV, ↓allocV, GVal.cells, grp, List.map, List.take, List.drop, reduceEqDiff, reduceAdd, reduceLeDiff, reduceCtorEq, allSolid, GVal.solid, splice, vcA, ↓vcB, vcC, fbFw]
      intro sx
      refine (cX [.row sx 3 [reqG cs hs .none gr]]).mono ?_
      rintro g O' ⟨rfl, rfl⟩
      simp +contextual -implicitDefEqProofs (maxSteps := 2000000) (disch := omega) only [drawC, drawK, ↓loadV, ↓storeV, ↓allocV, GVal.cells, grp, List.map, List.take, List.drop, reduceEqDiff, reduceAdd, reduceLeDiff, reduceCtorEq, GVal.solid, splice, vcA, ↓vcB, vcC, fbFw, v32]
      intro sh
      refine (cG [.row rt 1 [[.slice (csG L) .none]], .row sx 3 [reqG cs hs .none gr], .row sh 32 [bytesG (erH eX).1]]).mono ?_
      rintro g O' ⟨rfl, rfl⟩
      simp +contextual -implicitDefEqProofs (maxSteps := 2000000) (disch := omega) only [drawC, drawK, keepT, List.map, vcA, ↓vcB, vcC]
      refine sX.then ?_ (by rfl)
      simp +contextual -implicitDefEqProofs (maxSteps := 2000000) (disch := omega) only [drawC, drawK, ↓unV, ↓loadV, ↓storeV, ↓fieldAddrV, ↓allocV, ↓buildV, fillG, place, GVal.cells, grp, GVal.ofConst, List.map, List.headD, List.take, List.drop, ↓reduceIte, reduceEqDiff, reduceAdd, reduceLeDiff, reduceCtorEq, implies_true, allSolid, GVal.solid, splice, vcA, ↓vcB, vcC, fbFw, List.set]
      intro sy
      refine (cY [.row sx 3 [reqG cs hs .none gr], .row sh 32 [bytesG (erH eX).1], .row sy 3 [reqG cs [] .nil 2]]).mono ?_
      rintro g O' ⟨rfl, rfl⟩
      simp +contextual -implicitDefEqProofs (maxSteps := 2000000) (disch := omega) only [drawC, drawK, ↓loadV, ↓storeV, ↓fieldAddrV, GVal.cells, grp, List.map, List.headD, List.take, List.drop, reduceEqDiff, reduceAdd, reduceLeDiff, reduceCtorEq, implies_true, splice, vcA, ↓vcB, vcC, fbFw, drop32y, List.set, v32]
      refine (cA [.row rt 1 [[.slice (csG L) .none]], .row sx 3 [reqG cs hs .none gr], .row sh 32 [bytesG (erH eY).1], .row sy 3 [reqG cs [] .nil 2]]).mono ?_
      rintro g O' ⟨s', rfl, rfl⟩
      simp +contextual -implicitDefEqProofs (maxSteps := 2000000) (disch := omega) only [drawC, drawK, keepT, List.map, vcA, ↓vcB, vcC, List.set]
      rcases hcase with ⟨rfl, rfl⟩ | ⟨rfl, hK⟩
      · refine sY.then ?_ (by rfl)
        simp +contextual -implicitDefEqProofs (maxSteps := 2000000) (disch := omega) only [drawC, drawK, ↓lenV, binV, ↓unV, ↓loadV, ↓fieldAddrV, ↓nil_ptr, grp, GVal.ofConst, List.map, List.headD, List.take, List.drop, reduceAdd, reduceLeDiff, implies_true, ne_eq, vcA, ↓vcB, vcC, fbFw, eN]
        refine (hl2 M (by omega) _ s').mono ?_
        rintro g O' ⟨rfl, rfl⟩
        simp +contextual -implicitDefEqProofs (maxSteps := 2000000) (disch := omega) only [drawC, drawK, binV, GVal.ofConst, ↓resV, resG, List.map, ne_eq, vcA, ↓vcB, vcC, el, csG_len]
        refine ⟨⟨[], by simp⟩, fun h => absurd trivial h, ?_⟩
        refine (hk2 M (by omega) _ s').mono ?_
        rintro g O' ⟨rfl, rfl⟩
        simp +contextual -implicitDefEqProofs (maxSteps := 2000000) (disch := omega) only [drawC, drawK, List.map, vcA, ↓vcB, vcC]
        refine (hr2 M _ (by omega) _ s').mono ?_
        rintro g O' ⟨rfl, rfl⟩
        simp +contextual -implicitDefEqProofs (maxSteps := 2000000) (disch := omega) only [drawC, drawK, List.map, vcA, ↓vcB, vcC, ek]
        refine cE.then ?_ (by rfl)
        simp +contextual -implicitDefEqProofs (maxSteps := 2000000) (disch := omega) only [drawC, drawK, binV, ↓unV, GVal.ofConst, vcA, ↓vcB, vcC]
        exact Into.at ⟨((i + 1, s'), (M, _)), ⟨show i + 1 ≤ l.length by omega, show i + 1 ≤ 8 by omega, gM, sK, aK⟩⟩ (by show 8 - (i + 1) < 8 - i; omega) ⟨_, rfl⟩ (by simp [WL, leG_self, leG_any])
      · have cAd := fun (X : List GObj) => GCalls.own1' (rAdd L hL (by omega) cs .none rt (by omega) hpl) (O := gObj st s' M ++ rObj rt L ++ X) (O2 := gObj st s' M ++ rObj rt (putsC L cs) ++ X) (args' := [.ptr 2 rt 0 0, .slice (csG cs) .none]) 2 rfl rfl rfl rfl rfl rfl
        rw [← hK] at cAd
        have eN0 : erN eY = 0 := of_eq_true eN
        refine sY.then ?_ (by rfl)
        simp +contextual -implicitDefEqProofs (maxSteps := 2000000) (disch := omega) only [drawC, drawK, binV, ↓unV, ↓loadV, ↓fieldAddrV, grp, GVal.ofConst, List.map, List.headD, List.take, List.drop, reduceAdd, reduceLeDiff, implies_true, vcA, ↓vcB, vcC, fbFw, eN0]
        refine (cAd _).mono ?_
        rintro g O' ⟨rfl, rfl⟩
        simp +contextual -implicitDefEqProofs (maxSteps := 2000000) (disch := omega) only [drawC, drawK, ↓lenV, ↓loadV, ↓fieldAddrV, ↓nil_ptr, grp, List.map, List.headD, List.take, List.drop, reduceLeDiff, implies_true, vcA, ↓vcB, vcC, fbFw]
        refine (hl2 M (by omega) _ s').mono ?_
        rintro g O' ⟨rfl, rfl⟩
        simp +contextual -implicitDefEqProofs (maxSteps := 2000000) (disch := omega) only [drawC, drawK, binV, GVal.ofConst, ↓resV, resG, List.map, ne_eq, vcA, ↓vcB, vcC, el, csG_len]
        refine ⟨⟨[], by simp⟩, fun h => absurd trivial h, ?_⟩
        refine (hk2 M (by omega) _ s').mono ?_
        rintro g O' ⟨rfl, rfl⟩
        simp +contextual -implicitDefEqProofs (maxSteps := 2000000) (disch := omega) only [drawC, drawK, List.map, vcA, ↓vcB, vcC]
        refine (hr2 M _ (by omega) _ s').mono ?_
        rintro g O' ⟨rfl, rfl⟩
        simp +contextual -implicitDefEqProofs (maxSteps := 2000000) (disch := omega) only [drawC, drawK, List.map, vcA, ↓vcB, vcC, ek]
        refine cE.then ?_ (by rfl)
        simp +contextual -implicitDefEqProofs (maxSteps := 2000000) (disch := omega) only [drawC, drawK, binV, ↓unV, GVal.ofConst, vcA, ↓vcB, vcC]
        exact Into.at ⟨((i + 1, s'), (M, _)), ⟨show i + 1 ≤ l.length by omega, show i + 1 ≤ 8 by omega, gM, sK, aK⟩⟩ (by show 8 - (i + 1) < 8 - i; omega) ⟨_, rfl⟩ (by simp [WL, leG_self, leG_any])
    · have hcase : (((i : Int) < (l.length : Int)) = True ∧ ((i : Int) < 8) = False) ∨ (((i : Int) < (l.length : Int)) = False ∧ (True = True)) := by
        by_cases hh : i < l.length
        · exact .inl ⟨eq_true (by omega), eq_false (by omega)⟩
        · exact .inr ⟨eq_false (by omega), rfl⟩
      clear h
      have hml := hm.ok.len
      have hll := hgL.ok.len
      have hAp : parsM m = parsM L := hA.pars
      have p4 : ∀ h, (parsM L h).length ≤ 4 := hgL.gm.pars
      have cP := fun (h : Hs) (X : List GObj) => (gParents m h st s (by rw [hAp]; have := p4 h; omega)).keep2 rfl X
      have cH := fun (h : Hs) (X : List GObj) => (gHas m h st s).keep2 rfl X
      have rH := fun (h : Hs) (X : List GObj) => GCalls.keep1' (rHas L hL (by omega) h rt) (O := gObj st s m ++ rObj rt L ++ X) (args' := [.ptr 2 rt 0 0, .agg (bytesG h.1)]) 2 rfl rfl rfl rfl
      have rP := fun (h : Hs) (X : List GObj) => GCalls.keep1' (rParents L hL (by omega) h rt) (O := gObj st s m ++ rObj rt L ++ X) (args' := [.ptr 2 rt 0 0, .agg (bytesG h.1)]) 2 rfl rfl rfl rfl
      simp only [hAp, show ∀ h, look m h = look L h from hA] at cP cH
      have cEq := fun h => hSame (parsM L h) (parsM L h) .none .none (by have := p4 h; omega)
      simp only [decide_true] at cEq
      rcases hcase with ⟨d0, d1⟩ | ⟨d0, d1⟩
      all_goals
        simp +contextual -implicitDefEqProofs (maxSteps := 2000000) (disch := omega) only [↓lenV, binV, ↓loadV, ↓indexAddrV, grp, GVal.ofConst, List.map, ↓reduceIte, reduceEqDiff, reduceCtorEq, List.replicate, vcA, ↓vcB, vcC, fbFw, d0, d1, rrsG_len]
        refine vcSLoop_by (ι := { p : Nat × Nat // p.1 ≤ ask.length ∧ p.1 ≤ 5 }) (fun p => ⟨[.any, .slice (ints ask) .none, .any, .any, .any, .ptr 0 st 0 0, .ptr 2 rt 0 0, .any, .any, .any, .any, .any, .any, .slice (hsG (hashN ask p.1.1)) (.tok 3 p.1.2), .int .i64 (p.1.1 : Nat)] ++ List.replicate 144 .any, gObj st s m ++ rObj rt L ++ [.tok p.1.2 32]⟩) (fun p => 5 - p.1.1) ?_ ?_
        · refine Into.tok 13 32 [] rfl rfl ?_
          simp +contextual -implicitDefEqProofs (maxSteps := 2000000) (disch := omega) only [reduceAdd, List.replicate, vcA, vcC]
          intro v
          exact Into.first ⟨(0, v), Nat.zero_le _, Nat.zero_le _⟩ ⟨[], rfl⟩ (by simp [WL, leG_self, leG_any, hashN, hsG])
        · rintro ⟨⟨j, v⟩, hj, hj5⟩
          change j ≤ ask.length at hj
          change j ≤ 5 at hj5
          have tl := hashN_len ask j
          by_cases h : j < ask.length ∧ j < 5
          · have dj : ((j : Int) < (ask.length : Int)) = True := eq_true (by omega)
            have dj5 : ((j : Int) < 5) = True := eq_true (by omega)
            have eA := ints_at ask j h.1
            have eN := hashN_succ ask j
            generalize ask.getD j 0 = x at *
            simp +contextual -implicitDefEqProofs (maxSteps := 2000000) (disch := omega) only [↓lenV, binV, ↓loadV, ↓indexAddrV, grp, GVal.ofConst, List.map, List.headD, List.take, reduceLeDiff, implies_true, List.replicate, vcA, ↓vcB, vcC, fbFw, dj, dj5, eA]
            refine ⟨by omega, ?_⟩
            refine (hHashF x).then ?_ (by rfl)
            simp +contextual -implicitDefEqProofs (maxSteps := 2000000) (disch := omega) only [↓loadV, ↓storeV, ↓allocV, ↓buildSliceV, ↓appendV, ↓srcV, fillE, GVal.cells, grp, List.map, List.take, List.drop, ↓reduceIte, reduceEqDiff, reduceAdd, reduceLeDiff, reduceCtorEq, ↓asrcV, Tag.cap, List.replicate, GVal.solid, reduceMul, splice, vcA, ↓vcB, vcC, fbFw, hsG_len, tl, all_hsG, v32]
            refine fun sb => ⟨by omega, by omega, fun v2 => ?_⟩
            rw [← eN]
            generalize hashF x = y at *
            have cPy := cP y [.row rt 1 [[.slice (csG L) .none]], .tok v2 32, .row sb 32 [bytesG y.1]]
            have rHy := rH y [.tok v2 32, .row sb 32 [bytesG y.1]]
            have cHy := cH y [.row rt 1 [[.slice (csG L) .none]], .tok v2 32, .row sb 32 [bytesG y.1]]
            generalize (look L y).isSome = b at cPy rHy cHy
            cases b
            all_goals
              refine cPy.mono ?_
              rintro g O' ⟨rfl, rfl⟩
              simp +contextual -implicitDefEqProofs (maxSteps := 2000000) (disch := omega) only [↓loadV, grp, List.map, List.drop, reduceEqDiff, reduceLeDiff, reduceCtorEq, vcA, ↓vcB, vcC, fbFw, take32, len32]
              refine rHy.mono ?_
              rintro g O' ⟨rfl, rfl⟩
              simp +contextual -implicitDefEqProofs (maxSteps := 2000000) (disch := omega) only [binV, ↓loadV, grp, List.map, List.drop, reduceEqDiff, reduceLeDiff, reduceCtorEq, vcA, ↓vcB, vcC, fbFw, take32, len32]
              refine cHy.mono ?_
              rintro g O' ⟨rfl, rfl⟩
              simp +contextual -implicitDefEqProofs (maxSteps := 2000000) (disch := omega) only [binV, ↓loadV, grp, List.map, List.drop, reduceEqDiff, reduceLeDiff, reduceCtorEq, vcA, ↓vcB, vcC, fbFw, take32, len32]
              refine (rP y [.tok v2 32, .row sb 32 [bytesG y.1]]).mono ?_
              rintro g O' ⟨rfl, rfl⟩
              simp +contextual -implicitDefEqProofs (maxSteps := 2000000) (disch := omega) only [List.map, vcA, ↓vcB, vcC]
              refine (cEq y).then ?_ (by rfl)
              simp +contextual -implicitDefEqProofs (maxSteps := 2000000) (disch := omega) only [binV, ↓unV, GVal.ofConst, vcA, ↓vcB, vcC]
              exact Into.at ⟨(j + 1, v2), h.1, h.2⟩ (by show 5 - (j + 1) < 5 - j; omega) ⟨[_], rfl⟩ (by simp [WL, leG_self, leG_any])
          · have hc2 : (((j : Int) < (ask.length : Int)) = True ∧ ((j : Int) < 5) = False) ∨ (((j : Int) < (ask.length : Int)) = False ∧ (True = True)) := by
              by_cases hh : j < ask.length
              · exact .inl ⟨eq_true (by omega), eq_false (by omega)⟩
              · exact .inr ⟨eq_false (by omega), rfl⟩
            have cAn := fun (X : List GObj) => (gAncestors m hm.gm st s (hashN ask j) (.tok 3 v) (by simp) (by omega)).keep2 rfl X
            have cDe := fun (X : List GObj) => (gDescendants m hm.gm st s (hashN ask j) (.tok 3 v) (by simp) (by omega)).keep2 rfl X
            have rAn := fun (X : List GObj) => GCalls.keep1' (rAncestors L hL hgL (hashN ask j) (.tok 3 v) (by omega) rt) (O := gObj st s m ++ rObj rt L ++ X) (args' := [.ptr 2 rt 0 0, .slice (hsG (hashN ask j)) (.tok 3 v)]) 2 rfl rfl rfl rfl
            have rDe := fun (X : List GObj) => GCalls.keep1' (rDescendants L hL hgL (hashN ask j) (.tok 3 v) (by omega) rt) (O := gObj st s m ++ rObj rt L ++ X) (args' := [.ptr 2 rt 0 0, .slice (hsG (hashN ask j)) (.tok 3 v)]) 2 rfl rfl rfl rfl
            have eAn := anc_alike hA (hashN ask j)
            have eDe := des_alike hm hgL hA (hashN ask j)
            have lAn := anc_lenG hgL (hashN ask j)
            have lDe := des_lenG hgL (hashN ask j)
            rw [eAn] at cAn
            rw [eDe] at cDe
            have sAn := hSame (ancL L (hashN ask j)) (ancL L (hashN ask j)) .none .none (by omega)
            have sDe := hSame (desL L (hashN ask j)) (desL L (hashN ask j)) .none .none (by omega)
            rw [decide_eq_true rfl] at sAn sDe
            generalize hashN ask j = H at *
            rcases hc2 with ⟨dj, dj5⟩ | ⟨dj, dj5⟩
            all_goals
              simp +contextual -implicitDefEqProofs (maxSteps := 2000000) (disch := omega) only [↓lenV, binV, ↓loadV, ↓indexAddrV, grp, GVal.ofConst, List.map, List.headD, ↓reduceIte, implies_true, List.replicate, vcA, ↓vcB, vcC, fbFw, dj, dj5]
              refine (cAn _).mono ?_
              rintro g O' ⟨rfl, rfl⟩
              simp +contextual -implicitDefEqProofs (maxSteps := 2000000) (disch := omega) only [List.map, vcA, ↓vcB]
              refine (rAn _).mono ?_
              rintro g O' ⟨rfl, rfl⟩
              simp +contextual -implicitDefEqProofs (maxSteps := 2000000) (disch := omega) only [List.map, vcA, ↓vcB, vcC]
              refine sAn.then ?_ (by rfl)
              simp +contextual -implicitDefEqProofs (maxSteps := 2000000) (disch := omega) only [List.map, vcA, ↓vcB]
              refine (cDe _).mono ?_
              rintro g O' ⟨rfl, rfl⟩
              simp +contextual -implicitDefEqProofs (maxSteps := 2000000) (disch := omega) only [List.map, vcA, ↓vcB]
              refine (rDe _).mono ?_
              rintro g O' ⟨rfl, rfl⟩
              simp +contextual -implicitDefEqProofs (maxSteps := 2000000) (disch := omega) only [List.map, vcA, ↓vcB, vcC]
              refine sDe.then ?_ (by rfl)
              simp +contextual -implicitDefEqProofs (maxSteps := 2000000) (disch := omega) only [↓resV, resG, vcA, ↓vcB]
              exact ⟨1, .bool true, rfl, by rw [leA_bool]⟩
end Gv.Tryz
/- Sets of numbers as lists of spans: the plain theory. -/
set_option linter.unusedVariables false
namespace Gv.Sp
open Gv
abbrev S := Int × Int
def has (l : List S) (n : Int) : Prop := ∃ s ∈ l, 0 ≤ n ∧ s.1 ≤ n ∧ n ≤ s.2
theorem has_cons (s : S) (l : List S) (n : Int) : has (s :: l) n ↔ (0 ≤ n ∧ s.1 ≤ n ∧ n ≤ s.2) ∨ has l n := by simp [has]
def Rt : Int → List S → Prop
  | _, [] => True
  | b, s :: r => b ≤ s.1 ∧ s.1 ≤ s.2 ∧ Rt (s.2 + 2) r
theorem Rt.weak {b b' : Int} : ∀ {l : List S}, Rt b l → b' ≤ b → Rt b' l
  | [], _, _ => trivial
  | s :: r, ⟨h1, h2, h3⟩, h => ⟨by omega, h2, h3⟩
theorem Rt.ge {n : Int} : ∀ {l : List S} {b : Int}, Rt b l → has l n → b ≤ n
  | [], b, _, h => by simp [has] at h
  | s :: r, b, ⟨h1, h2, h3⟩, h => by
    rcases (has_cons s r n).1 h with h | h
    · omega
    · have := h3.ge h; omega
theorem Rt.mem {s : S} : ∀ {l : List S} {b : Int}, Rt b l → s ∈ l → b ≤ s.1 ∧ s.1 ≤ s.2
  | [], b, _, h => by simp at h
  | x :: r, b, ⟨h1, h2, h3⟩, h => by
    rcases List.mem_cons.1 h with rfl | h
    · exact ⟨h1, h2⟩
    · have := h3.mem h; omega
theorem Rt.lo {s : S} {l : List S} {b : Int} (h : Rt b l) (hb : 0 ≤ b) (hs : s ∈ l) : has l s.1 := ⟨s, hs, by have := h.mem hs; omega⟩
theorem Rt.hi {s : S} {l : List S} {b : Int} (h : Rt b l) (hb : 0 ≤ b) (hs : s ∈ l) : has l s.2 := ⟨s, hs, by have := h.mem hs; omega⟩
theorem uniq : ∀ {l l' : List S} {b b' : Int}, Rt b l → Rt b' l' → 0 ≤ b → 0 ≤ b' → (∀ n, has l n ↔ has l' n) → l = l'
  | [], [], _, _, _, _, _, _, _ => rfl
  | [], y :: r, _, b', _, h', _, h0', h => absurd ((h y.1).2 (h'.lo h0' (by simp))) (by simp [has])
  | x :: r, [], b, _, h', _, h0', _, h => absurd ((h x.1).1 (h'.lo h0' (by simp))) (by simp [has])
  | (x1, x2) :: r, (y1, y2) :: q, b, b', hx, hy, hb, hb', h => by
    have e1 : has ((y1, y2) :: q) x1 := (h _).1 (hx.lo hb (s := (x1, x2)) (by simp))
    have e2 : has ((x1, x2) :: r) y1 := (h _).2 (hy.lo hb' (s := (y1, y2)) (by simp))
    obtain ⟨p1, p2, p3⟩ := hx
    obtain ⟨q1, q2, q3⟩ := hy
    simp only at p1 p2 p3 q1 q2 q3
    have g1 : y1 ≤ x1 := by
      rcases (has_cons _ _ _).1 e1 with e | e
      · exact e.2.1
      · have := q3.ge e; omega
    have g2 : x1 ≤ y1 := by
      rcases (has_cons _ _ _).1 e2 with e | e
      · exact e.2.1
      · have := p3.ge e; omega
    have g : x1 = y1 := by omega
    have k1 : ¬ x2 < y2 := fun hlt => by
      have e := (h (x2 + 1)).2 ((has_cons _ _ _).2 (.inl ⟨by omega, by show y1 ≤ _; omega, by show _ ≤ y2; omega⟩))
      rcases (has_cons _ _ _).1 e with e | e
      · have := e.2.2; simp only at this; omega
      · have := p3.ge e; omega
    have k2 : ¬ y2 < x2 := fun hlt => by
      have e := (h (y2 + 1)).1 ((has_cons _ _ _).2 (.inl ⟨by omega, by show x1 ≤ _; omega, by show _ ≤ x2; omega⟩))
      rcases (has_cons _ _ _).1 e with e | e
      · have := e.2.2; simp only at this; omega
      · have := q3.ge e; omega
    have k : x2 = y2 := by omega
    subst g; subst k
    have hr : ∀ n, has r n ↔ has q n := fun n => by
      constructor
      · intro hn
        rcases (has_cons _ _ _).1 ((h n).1 ((has_cons _ _ _).2 (.inr hn))) with e | e
        · have := p3.ge hn; have := e.2.2; simp only at this; omega
        · exact e
      · intro hn
        rcases (has_cons _ _ _).1 ((h n).2 ((has_cons _ _ _).2 (.inr hn))) with e | e
        · have := q3.ge hn; have := e.2.2; simp only at this; omega
        · exact e
    rw [uniq p3 q3 (by omega) (by omega) hr]

def ins : List S → S → List S
  | [], s => [s]
  | x :: r, s => if x.2 + 1 < s.1 then x :: ins r s else if s.2 + 1 < x.1 then s :: x :: r else ins r (min s.1 x.1, max s.2 x.2)
def put (acc : List S) (s : S) : List S := if max s.1 0 ≤ s.2 then ins acc (max s.1 0, s.2) else acc
def Ok (l : List S) : Prop := ∀ s ∈ l, (-9223372036854775808 ≤ s.1 ∧ s.1 ≤ 9223372036854775807) ∧ (-9223372036854775808 ≤ s.2 ∧ s.2 ≤ 9223372036854775807)
theorem Ok.has {l : List S} (h : Ok l) {n : Int} (hn : has l n) : n ≤ 9223372036854775807 := by obtain ⟨s, hs, h1, h2, h3⟩ := hn; have := (h s hs).2.2; omega
theorem Ok.app {a b : List S} (ha : Ok a) (hb : Ok b) : Ok (a ++ b) := fun s hs => (List.mem_append.1 hs).elim (ha s) (hb s)
theorem Ok.nil : Ok [] := fun s hs => by simp at hs
theorem Ok.at {l : List S} (h : Ok l) (i : Nat) : (-9223372036854775808 ≤ (l.getD i (0, 0)).1 ∧ (l.getD i (0, 0)).1 ≤ 9223372036854775807) ∧ (-9223372036854775808 ≤ (l.getD i (0, 0)).2 ∧ (l.getD i (0, 0)).2 ≤ 9223372036854775807) := by
  by_cases hi : i < l.length
  · rw [List.getD_eq_getElem?_getD, List.getElem?_eq_getElem hi]; exact h _ (List.getElem_mem hi)
  · rw [List.getD_eq_getElem?_getD, List.getElem?_eq_none (by omega)]; simp
theorem Rt.at {l : List S} {b : Int} (h : Rt b l) (i : Nat) (hi : i < l.length) : b ≤ (l.getD i (0, 0)).1 ∧ (l.getD i (0, 0)).1 ≤ (l.getD i (0, 0)).2 := by
  rw [List.getD_eq_getElem?_getD, List.getElem?_eq_getElem hi]; exact h.mem (List.getElem_mem hi)

def both (a b : List S) : List S :=
  match a, b with
  | [], _ => []
  | _ :: _, [] => []
  | x :: a, y :: b => (if max x.1 y.1 ≤ min x.2 y.2 then [(max x.1 y.1, min x.2 y.2)] else []) ++ if x.2 < y.2 then both a (y :: b) else both (x :: a) b
termination_by a.length + b.length
def restF (low : Int) : List S → List S
  | [] => [(low, 9223372036854775807)]
  | s :: r => (if low < s.1 then [(low, s.1 - 1)] else []) ++ if s.2 = 9223372036854775807 then [] else restF (s.2 + 1) r
def rest (l : List S) : List S := restF 0 l
end Gv.Sp
/- Spans as ghost values. -/
set_option linter.unusedVariables false
namespace Gv
end Gv
/- What some shapes read as. -/
set_option linter.unusedVariables false
namespace Gv
open Go
theorem den_slice {α : Type} {e : Sh} (enc : α → List GVal) (ok : α → Prop) (he : ∀ {x}, Den e x → ∃ a, x = enc a ∧ ok a) {gs : List GVal} (h : Den (.slice e) gs) : ∃ l : List α, gs = [.slice (l.map enc) .none] ∧ l.length ≤ maxLen ∧ ∀ a ∈ l, ok a := by
  obtain ⟨xs, rfl, hl, hx⟩ := h
  have : ∀ xs : List (List GVal), (∀ x ∈ xs, Den e x) → ∃ l : List α, xs = l.map enc ∧ ∀ a ∈ l, ok a := by
    intro xs
    induction xs with
    | nil => exact fun _ => ⟨[], rfl, by simp⟩
    | cons a r ih =>
      intro h
      obtain ⟨l, rfl, hl⟩ := ih fun x hx => h x (by simp [hx])
      obtain ⟨n, rfl, hn⟩ := he (h a (by simp))
      exact ⟨n :: l, rfl, by simpa using ⟨hn, hl⟩⟩
  obtain ⟨l, rfl, h2⟩ := this xs hx
  exact ⟨l, rfl, by simpa using hl, h2⟩
end Gv
/- Readings of a law's raw requests. -/
set_option linter.unusedVariables false
namespace Gv.Tryz
open Go Gv Go.Proofs
abbrev rawS : Sh := .agg [.int .i64, .int .i64, .slice (.int .i64)]
abbrev rrS : Sh := .agg [.slice rawS, .slice (.int .i64), .int .i64, .int .i64]
theorem den_ints {gs : List GVal} (h : Den (.slice (.int .i64)) gs) : ∃ l : List Int, gs = [.slice (ints l) .none] := by
  obtain ⟨l, rfl, _⟩ := den_slice (fun n : Int => [.int .i64 n]) (fun n => (Lit.int .i64 n).wf = true) (fun {x} (h : Den (.int .i64) x) => h) h
  exact ⟨l, rfl⟩
theorem den_raw {gs : List GVal} (h : Den rawS gs) : ∃ r : RC, gs = rawC r ∧ True := by
  obtain ⟨ps, rfl, p, q, rfl, ⟨a, rfl, _⟩, p2, q2, rfl, ⟨b, rfl, _⟩, p3, q3, rfl, h3, rfl⟩ := h
  obtain ⟨l, rfl⟩ := den_ints h3
  exact ⟨(a, b, l), rfl, trivial⟩
theorem den_rr {gs : List GVal} (h : Den rrS gs) : ∃ r : RR, gs = rrG r ∧ True := by
  obtain ⟨ps, rfl, p, q, rfl, h1, p2, q2, rfl, h2, p3, q3, rfl, ⟨c, rfl, _⟩, p4, q4, rfl, ⟨d, rfl, _⟩, rfl⟩ := h
  obtain ⟨l, rfl, _, _⟩ := den_slice rawC (fun _ => True) (fun {x} h => den_raw h) h1
  obtain ⟨hs, rfl⟩ := den_ints h2
  exact ⟨⟨l, hs, c, d⟩, rfl, trivial⟩
theorem den_rrs {gs : List GVal} (h : Den (.slice rrS) gs) : ∃ l : List RR, gs = [.slice (rrsG l) .none] := by
  obtain ⟨l, rfl, _, _⟩ := den_slice rrG (fun _ => True) (fun {x} h => den_rr h) h
  exact ⟨l, rfl⟩
end Gv.Tryz
/- GraphPlays: from the readings. -/
set_option linter.unusedVariables false
namespace Gv.Tryz
open Go Gv Go.Proofs
theorem wPlays {g0 g1 : List GVal} (h0 : Den (.slice rrS) g0) (h1 : Den (.slice (.int .i64)) g1) : GPure Tryz.prog 3 ([Sh.val (.slice rrS) g0, Sh.val (.slice (.int .i64)) g1]) (.bool true) := by
  obtain ⟨l, rfl⟩ := den_rrs h0
  obtain ⟨a, rfl⟩ := den_ints h1
  exact specPlays l a
end Gv.Tryz
/- From a reading of plain data to what it is without memory: with arrays, and how long slices can be at most. -/
set_option linter.unusedVariables false
namespace Gv
open Go Go.RowKit Go.WideShapes Go.ChangeShapes
namespace Z

inductive Sh where
  | int (k : IntKind)
  | bool
  | str
  | slice (e : Sh)
  | agg (l : List Sh)
  | arr (n : Nat) (e : Sh)
mutual
def Sh.size : Sh → Nat
  | .agg l => Sh.sizes l
  | .arr n e => n * e.size
  | _ => 1
def Sh.sizes : List Sh → Nat
  | [] => 0
  | s :: r => s.size + Sh.sizes r
end
mutual
def Sh.low : Sh → Nat
  | .int .i64 => 8
  | .int .u64 => 8
  | .int _ => 1
  | .bool => 1
  | .str => 16
  | .slice _ => 24
  | .agg l => Sh.lows l
  | .arr n e => n * e.low
def Sh.lows : List Sh → Nat
  | [] => 0
  | s :: r => s.low + Sh.lows r
end
mutual
def shB (P : Program) : Sh → TypeId → Bool
  | .int k, t => match P.underlying t with
    | some (.int k') => k = k'
    | _ => false
  | .bool, t => match P.underlying t with
    | some .bool => true
    | _ => false
  | .str, t => match P.underlying t with
    | some .string => true
    | _ => false
  | .slice e, t => match P.underlying t with
    | some (.slice et) => shB P e et && P.cellsOf et == e.size && decide (0 < e.size) && decide (e.low ≤ P.bytesOf et)
    | _ => false
  | .agg l, t => match P.underlying t with
    | some (.struct fs) => shBs P l fs.toList 0 && P.cellsOf t == Sh.sizes l
    | _ => false
  | .arr n e, t => match P.underlying t with
    | some (.array n' et) => n == n' && shB P e et && P.cellsOf et == e.size && P.cellsOf t == n * e.size
    | _ => false
def shBs (P : Program) : List Sh → List Field → Nat → Bool
  | [], [], _ => true
  | s :: r, f :: fs, o => f.offset == o && P.cellsOf f.type == s.size && shB P s f.type && shBs P r fs (o + s.size)
  | _, _, _ => false
end
mutual
def Den : Sh → List GVal → Prop
  | .int k, gs => ∃ n, gs = [.int k n] ∧ (Lit.int k n).wf = true
  | .bool, gs => ∃ b, gs = [.bool b]
  | .str, gs => ∃ s, gs = [.str s] ∧ s.length ≤ reachBytes
  | .slice e, gs => ∃ xs, gs = [.slice xs .none] ∧ (xs.length ≤ maxLen ∧ xs.length * e.low ≤ reachBytes) ∧ ∀ x ∈ xs, Den e x
  | .agg l, gs => ∃ ps, gs = ps.flatten ∧ Dens l ps
  | .arr n e, gs => ∃ ps : List (List GVal), gs = ps.flatten ∧ ps.length = n ∧ ∀ p ∈ ps, Den e p ∧ p.length = e.size
def Dens : List Sh → List (List GVal) → Prop
  | [], ps => ps = []
  | s :: r, ps => ∃ p q, ps = p :: q ∧ Den s p ∧ Dens r q
end

theorem mem_all {H : Type} {P : Program} {e : TypeId} : ∀ {ds : List (DataW H)} {d : DataW H}, d ∈ ds → ∀ n ∈ d.weights P e, n ∈ DataW.weightsAll P e ds
  | a :: r, d, hd, n, hn => by
    simp only [DataW.weightsAll, List.mem_append]
    rcases List.mem_cons.1 hd with rfl | hd
    · exact .inl hn
    · exact .inr (mem_all hd n hn)
  | [], d, hd, n, hn => by simp at hd
section
variable {H : Type} {enc : TypeId × Value → H} {P : Program} {w : World} {spare : Nat → Bool} {held : Bool}

mutual
theorem rd : ∀ (S : Sh) (n : Nat) (t : TypeId) (cs : List Value) (x : DataW H × List MemPlace), shB P S t = true → DataW.trod enc P w 0 spare held n t cs = some x → (∀ k ∈ x.1.weights P t, k ≤ reachBytes) → ∃ gs, CellsOK w cs gs ∧ Den S gs ∧ cs.length = S.size
  | .int k, n, t, cs, x, hs, h, hw => by
    unfold shB at hs
    split at hs
    · rename_i k' hu
      have hs : k = k' := by simpa using hs
      subst hs
      obtain ⟨m, rfl, _, hwf⟩ := DataW.trod_int hu h
      exact ⟨[.int k m], .one rfl (.int _ _), ⟨m, rfl, hwf⟩, rfl⟩
    · cases hs
  | .bool, n, t, cs, x, hs, h, hw => by
    unfold shB at hs
    split at hs
    · rename_i hu
      obtain ⟨b, rfl, _⟩ := DataW.trod_bool hu h
      exact ⟨[.bool b], .one rfl (.bool _), ⟨b, rfl⟩, rfl⟩
    · cases hs
  | .str, n, t, cs, x, hs, h, hw => by
    unfold shB at hs
    split at hs
    · rename_i hu
      cases n with
      | zero => simp [DataW.trod] at h
      | succ n =>
        unfold DataW.trod at h
        rw [hu] at h
        match cs, h with
        | [.string b], h =>
          simp only at h
          split at h
          · rename_i hl
            simp only [Option.some.injEq] at h
            subst h
            refine ⟨[.str b.data.toList], .one rfl ?_, ⟨_, rfl, ?_⟩, rfl⟩
            · exact VR.str (E := Env.all w) b.data.toList
            · exact hw _ (by simp [DataW.weights])
          · cases h
    · cases hs
  | .slice e, n, t, cs, x, hs, h, hw => by
    unfold shB at hs
    split at hs
    · rename_i et hu
      simp only [Bool.and_eq_true, beq_iff_eq] at hs
      obtain ⟨⟨⟨hs, hsz⟩, hpos⟩, hlow⟩ := hs
      have hpos : 0 < e.size := by simpa using hpos
      have hlow : e.low ≤ P.bytesOf et := by simpa using hlow
      rcases DataW.trod_slice hu h with ⟨rfl, _⟩ | ⟨a, len, cap, elems, rest, m, rfl, rfl, rfl, _, hlc, hcm, hel, helem, _, _⟩
      · exact ⟨[.slice [] .none], .one rfl (.slice none 0 0 [] .none 0 (fun _ => .bool true) rfl (Nat.le_refl _) (by simp) (fun hx => absurd rfl hx) (by simp) trivial), ⟨[], rfl, ⟨by simp, by simp⟩, by simp⟩, rfl⟩
      · have hw0 : (elems.length + rest.length) * P.bytesOf et ≤ reachBytes := by
          have := hw ((elems.length + rest.length) * P.bytesOf et) (by show _ ∈ DataW.weights P t (.slice _ _); rw [DataW.weights]; simp only [hu, List.length_map]; exact List.mem_cons_self)
          exact this
        have hwE : ∀ d ∈ elems.map (·.1), ∀ k ∈ d.weights P et, k ≤ reachBytes := fun d hd k hk =>
          hw k (by show k ∈ DataW.weights P t (.slice _ _); rw [DataW.weights]; simp only [hu]; exact List.mem_cons_of_mem _ (List.mem_append_left _ (mem_all hd k hk)))
        have each : ∀ i : Nat, ∃ cs gs, i < len → (w.cells? 0 (a.add (i * P.cellsOf et)) (P.cellsOf et)) = some cs ∧ CellsOK w cs gs ∧ Den e gs ∧ cs.length = e.size := by
          intro i
          by_cases hi : i < len
          · have := helem i hi
            rw [← hel] at hi
            rw [List.getElem?_eq_getElem hi, Option.bind_eq_some_iff] at this
            obtain ⟨cs, h1, h2⟩ := this
            obtain ⟨gs, h3, h4, h5⟩ := rd e m et cs _ hs h2 (fun k hk => hwE _ (List.mem_map_of_mem (List.getElem_mem hi)) k hk)
            exact ⟨cs, gs, fun _ => ⟨h1, h3, h4, h5⟩⟩
          · exact ⟨[], [], fun h => absurd h hi⟩
        obtain ⟨C, hC⟩ := Classical.axiomOfChoice each
        obtain ⟨G, hCG⟩ := Classical.axiomOfChoice hC
        refine ⟨[.slice ((List.range len).map G) .none], .one rfl ?_, ⟨_, rfl, ⟨by simp; omega, ?_⟩, fun x hx => ?_⟩, rfl⟩
        · have hG : ∀ i, i < len → (G i).length = e.size := fun i hi => by rw [← (hCG i hi).2.1.1]; exact (hCG i hi).2.2.2
          have cell : ∀ i, i < len → ∀ j, j < e.size → w.cell? ((a.add (i * e.size)).add j) = (C i)[j]? := fun i hi j hj => by
            have := cells_at (hCG i hi).1
            rw [hsz] at this
            exact this.2 j hj
          have dm : ∀ k, k < len * e.size → k / e.size < len ∧ k % e.size < e.size ∧ k / e.size * e.size + k % e.size = k := fun k hk =>
            ⟨(Nat.div_lt_iff_lt_mul hpos).2 hk, Nat.mod_lt _ hpos, by rw [Nat.mul_comm]; exact Nat.div_add_mod k e.size⟩
          have hszs : ∀ x ∈ (List.range len).map G, x.length = e.size := fun x hx => by
            obtain ⟨i, hi, rfl⟩ := List.mem_map.1 hx
            exact hG i (by simpa using hi)
          refine .slice (some a) len cap _ .none e.size (fun k => ((C (k / e.size))[k % e.size]?).getD (.bool true)) (by simp) hlc hszs (fun hx => ?_) (fun k g hk => ?_) trivial
          · have hlen : 0 < len := by
              rcases Nat.eq_zero_or_pos len with h0 | h0
              · subst h0; simp at hx
              · exact h0
            have in_ : ∀ i, i < len → ∀ j, j < e.size → ∃ v, (C i)[j]? = some v ∧ v.oneCell' = true := fun i hi j hj => by
              have hl : j < (C i).length := by rw [(hCG i hi).2.2.2]; exact hj
              exact ⟨_, List.getElem?_eq_getElem hl, (hCG i hi).2.1.2.1 _ (List.getElem_mem hl)⟩
            obtain ⟨b, off, spot⟩ := a
            have hspot : spot = none := by
              obtain ⟨v, hv, _⟩ := in_ 0 hlen 0 hpos
              have := cell 0 hlen 0 hpos
              rw [hv] at this
              simpa [Addr.add] using World.cell?_spot this
            subst hspot
            refine ⟨b, off, rfl, fun k hk => ?_⟩
            obtain ⟨d1, d2, d3⟩ := dm k hk
            obtain ⟨v, hv, hv2⟩ := in_ _ d1 _ d2
            have := cell _ d1 _ d2
            rw [hv] at this
            rw [hv]
            refine Env.all_at ?_ hv2
            rw [add_at, add_at, Nat.add_assoc, d3] at this
            exact this
          · have hk' : k < len * e.size := by
              have := (List.getElem?_eq_some_iff.1 hk).1
              rw [flat_len hszs] at this
              simpa using this
            obtain ⟨d1, d2, d3⟩ := dm k hk'
            have hx : ((List.range len).map G)[k / e.size]? = some (G (k / e.size)) := by simp [d1]
            have e1 := flatten_at _ hszs (k / e.size) (k % e.size) _ hx d2
            rw [d3, hk] at e1
            have hl : k % e.size < (C (k / e.size)).length := by rw [(hCG _ d1).2.2.2]; exact d2
            rw [List.getElem?_eq_getElem hl]
            exact (hCG _ d1).2.1.2.2 _ _ _ (List.getElem?_eq_getElem hl) e1.symm
        · rw [List.length_map, List.length_range]
          refine Nat.le_trans (Nat.mul_le_mul (by omega : len ≤ elems.length + rest.length) hlow) hw0
        · obtain ⟨i, hi, rfl⟩ := List.mem_map.1 hx
          exact (hCG i (by simpa using hi)).2.2.1
    · cases hs
  | .agg l, n, t, cs, x, hs, h, hw => by
    unfold shB at hs
    split at hs
    · rename_i fs hu
      simp only [Bool.and_eq_true, beq_iff_eq] at hs
      obtain ⟨hs, hsz⟩ := hs
      obtain ⟨xs, m, rfl, rfl, hcl, hxl, hf⟩ := DataW.trod_struct hu h
      obtain ⟨ps, h1, h2⟩ := rds l m fs.toList cs 0 hs (by simpa [hsz] using hcl) (fun f hf' => by
        obtain ⟨i, hi⟩ := List.getElem?_of_mem hf'
        have := hf i f (by simpa using hi)
        have hlt : i < xs.length := by rw [hxl]; simpa using (List.getElem?_eq_some_iff.1 hi).1
        rw [List.getElem?_eq_getElem hlt] at this
        refine ⟨_, this, fun k hk => hw k ?_⟩
        simp only [DataW.weights, hu]
        exact DataW.weights_mem_each (j := i) (t := f.type) (d := xs[i].1) (by rw [List.getElem?_map, hi]; rfl) (by rw [List.getElem?_map, List.getElem?_eq_getElem hlt]; rfl) k hk)
      exact ⟨ps.flatten, by simpa using h1, ⟨ps, rfl, h2⟩, by rw [hcl, hsz]; rfl⟩
    · cases hs
  | .arr c e, n, t, cs, x, hs, h, hw => by
    unfold shB at hs
    split at hs
    · rename_i n' et hu
      simp only [Bool.and_eq_true, beq_iff_eq] at hs
      obtain ⟨⟨⟨rfl, hs⟩, hsz⟩, hct⟩ := hs
      obtain ⟨xs, m, rfl, rfl, hcl, hxl, hf⟩ := DataW.trod_array hu h
      have key : ∀ k, k ≤ c → ∃ ps : List (List GVal), CellsOK w (cs.take (k * e.size)) ps.flatten ∧ ps.length = k ∧ ∀ p ∈ ps, Den e p ∧ p.length = e.size := by
        intro k
        induction k with
        | zero => exact fun _ => ⟨[], by simp [CellsOK], rfl, by simp⟩
        | succ k ih =>
          intro hk
          obtain ⟨ps, h1, h2, h3⟩ := ih (by omega)
          have := hf k (by omega)
          have hlt : k < xs.length := by omega
          rw [List.getElem?_eq_getElem hlt] at this
          obtain ⟨gs, q1, q2, q3⟩ := rd e m et _ _ hs this (fun z hz => hw z (by
            simp only [DataW.weights, hu]
            exact mem_all (List.mem_map_of_mem (List.getElem_mem hlt)) z hz))
          refine ⟨ps ++ [gs], ?_, by simp [h2], fun p hp => ?_⟩
          · rw [List.flatten_append, List.flatten_cons, List.flatten_nil, List.append_nil, Nat.succ_mul, List.take_add]
            rw [hsz] at q1
            exact h1.append q1
          · rcases List.mem_append.1 hp with hp | hp
            · exact h3 p hp
            · simp at hp; subst hp
              exact ⟨q2, by rw [← q1.1, q3]⟩
      obtain ⟨ps, h1, h2, h3⟩ := key c (Nat.le_refl _)
      rw [List.take_of_length_le (by omega)] at h1
      exact ⟨ps.flatten, h1, ⟨ps, rfl, h2, h3⟩, by rw [hcl, hct]; rfl⟩
    · cases hs
theorem rds : ∀ (l : List Sh) (n : Nat) (fs : List Field) (cs : List Value) (o : Nat), shBs P l fs o = true → cs.length = o + Sh.sizes l →
    (∀ f ∈ fs, ∃ x, DataW.trod enc P w 0 spare held n f.type ((cs.drop f.offset).take (P.cellsOf f.type)) = some x ∧ ∀ k ∈ x.1.weights P f.type, k ≤ reachBytes) → ∃ ps, CellsOK w (cs.drop o) ps.flatten ∧ Dens l ps
  | [], n, fs, cs, o, hs, hl, h => by
    refine ⟨[], ?_, rfl⟩
    rw [List.drop_eq_nil_of_le (by rw [hl]; simp [Sh.sizes])]
    exact ⟨rfl, by simp, fun j c g h1 => by simp at h1⟩
  | s :: r, n, fs, cs, o, hs, hl, h => by
    match fs, hs, h with
    | f :: fs, hs, h =>
      unfold shBs at hs
      simp only [Bool.and_eq_true, beq_iff_eq] at hs
      obtain ⟨⟨⟨h1, h2⟩, h3⟩, h4⟩ := hs
      obtain ⟨x, hx, hxw⟩ := h f (by simp)
      obtain ⟨gs, q1, q2, q3⟩ := rd s n f.type _ _ h3 hx hxw
      simp only [Sh.sizes] at hl
      obtain ⟨ps, k1, k2⟩ := rds r n fs cs (o + s.size) h4 (by rw [hl]; omega) (fun f' hf' => h f' (by simp [hf']))
      refine ⟨gs :: ps, ?_, ⟨gs, ps, rfl, q2, k2⟩⟩
      rw [List.flatten_cons]
      have e : cs.drop o = (cs.drop f.offset).take (P.cellsOf f.type) ++ cs.drop (o + s.size) := by
        rw [h1, h2, ← List.drop_drop]; exact (List.take_append_drop _ _).symm
      rw [e]
      exact q1.append k1
    | [], hs, h => simp [shBs] at hs
end

def Sh.val : Sh → List GVal → GVal
  | .agg _, gs => .agg gs
  | .arr _ _, gs => .agg gs
  | _, gs => gs.headD .any

theorem arg_read {S : Sh} {t : TypeId} {r : Reach} {base : Nat} {v : Value} {d : DataW H} {ps : List MemPlace} (hs : shB P S t = true) (hval : Value.okWide P w r base t v) (h : DataW.Trod enc P w 0 spare held t v d ps) (hw : ∀ k ∈ d.weights P t, k ≤ reachBytes) :
    ∃ gs, Den S gs ∧ VR (Env.all w) v (S.val gs) := by
  obtain ⟨n, h⟩ := h
  obtain ⟨gs, h1, h2, h3⟩ := rd S n t _ _ hs h hw
  refine ⟨gs, h2, ?_⟩
  have single : ∀ x : Value, v = x → x.cells.toList = [x] → (∃ g, gs = [g]) → S.val gs = gs.headD .any → VR (Env.all w) v (S.val gs) := by
    intro x hx hc ⟨g, hg⟩ hv
    subst hx; subst hg
    rw [hv]
    rw [hc] at h1
    exact h1.2.2 0 _ _ rfl rfl
  cases S with
  | int k =>
    unfold shB at hs
    split at hs
    · rename_i k' hu
      obtain ⟨n, rfl⟩ := okWide_int hu hval
      obtain ⟨m, e, _⟩ := h2
      exact single _ rfl rfl ⟨_, e⟩ rfl
    · cases hs
  | bool =>
    unfold shB at hs
    split at hs
    · rename_i hu
      obtain ⟨n, rfl⟩ := okWide_bool hu hval
      obtain ⟨m, e⟩ := h2
      exact single _ rfl rfl ⟨_, e⟩ rfl
    · cases hs
  | str =>
    unfold shB at hs
    split at hs
    · rename_i hu
      obtain ⟨n, rfl⟩ := okWide_string hu hval
      obtain ⟨m, e, _⟩ := h2
      exact single _ rfl rfl ⟨_, e⟩ rfl
    · cases hs
  | slice e =>
    unfold shB at hs
    split at hs
    · rename_i et hu
      obtain ⟨a, len, cap, rfl⟩ := okWide_slice hu hval
      obtain ⟨m, e, _⟩ := h2
      exact single _ rfl rfl ⟨_, e⟩ rfl
    · cases hs
  | agg l =>
    unfold shB at hs
    split at hs
    · rename_i fs hu
      obtain ⟨cs, rfl, _⟩ := okWide_struct hu hval
      refine .agg cs gs (by have := h1.1; simpa [Value.cells] using this) (fun j g hj => ?_)
      have hl : j < cs.size := by
        have := (List.getElem?_eq_some_iff.1 hj).1
        rw [← h1.1] at this; simpa [Value.cells] using this
      have := h1.2.2 j cs[j] g (by simp [Value.cells, hl]) hj
      simpa [Array.getD, hl] using this
    · cases hs
  | arr c e =>
    unfold shB at hs
    split at hs
    · rename_i n' et hu
      have hval' := hval
      simp only [Value.okWide, hu] at hval'
      obtain ⟨cs, rfl, hcs, _⟩ := hval'
      refine .agg cs gs (by have := h1.1; simpa [Value.cells] using this) (fun j g hj => ?_)
      have hl : j < cs.size := by
        have := (List.getElem?_eq_some_iff.1 hj).1
        rw [← h1.1] at this; simpa [Value.cells] using this
      have := h1.2.2 j cs[j] g (by simp [Value.cells, hl]) hj
      simpa [Array.getD, hl] using this
    · cases hs
end
end Z
end Gv
/- What the listed variable (errors.errorType) holds when a call begins, for this seat. -/
namespace Go.Proofs.YtgkglnjmiobdmaaGreatDoor
open Go Go.ChangeShapes Go.WideShapes Go.RowKit
theorem laidOwn : ownKnob Tryz.prog.godebug = none := by kernel_rfl
theorem laidOut : laidOutB Tryz.prog = true := by kernel_rfl
abbrev laidL : List (String × DataW Unit) := [("errors.errorType", Rows.laid_errors_errorType)]
theorem laidVar : Tryz.prog.globalNamed "errors.errorType" = some 0 := by kernel_rfl
theorem laidRt : (Tryz.prog.cutTypes.find? (·.1 == "internal/reflectlite.rtype")).map (·.2) = some 131 := by kernel_rfl
theorem laidRow : ((List.range 193).filter fun t => Tryz.prog.rowNamed t [101, 114, 114, 111, 114]) = [45] := by kernel_rfl
theorem laidSize : Tryz.prog.types.size = 193 := by kernel_rfl
theorem laidHandle {W : World} (h : laidMetH Tryz.prog laidL W) : W.cell? ⟨0, 0, none⟩ = some (.iface 131 (.agg #[.pointer (some ⟨2, 45, none⟩)])) := by
  have h' : laidMet Tryz.prog [] W ∧ handlesMet Tryz.prog laidL W := h
  obtain ⟨name, u, ty, e1, e2, e3, e4, e5⟩ := h'.2 _ (List.mem_singleton.2 rfl)
  have en : name = [101, 114, 114, 111, 114] := (Option.some.inj e1).symm
  subst en
  obtain rfl := Option.some.inj (laidRt.symm.trans e2)
  have hm : ty ∈ (List.range 193).filter fun t => Tryz.prog.rowNamed t [101, 114, 114, 111, 114] := List.mem_filter.2 ⟨List.mem_range.2 (by rw [← laidSize]; exact e3), e4⟩
  rw [laidRow] at hm
  obtain rfl := List.mem_singleton.1 hm
  have hh : typeHandle Tryz.prog 45 = .pointer (some ⟨2, 45, none⟩) := by kernel_rfl
  rw [hh] at e5
  simpa using World.var?_cell laidVar e5 0
theorem laidGlobs {W : World} (h : laidMetH Tryz.prog laidL W) : Gv.GlobsIn W := fun p hp => by
  obtain rfl : p = (0, 0, .iface 131 (.agg #[.pointer (some ⟨2, 45, none⟩)])) := by simpa [Gv.globs] using hp
  exact ⟨laidHandle h, rfl⟩
noncomputable def laidWorld (os : Os) : World :=
  let w0 := World.holding Tryz.prog os ⟨#[], #[], []⟩
  { w0 with heap := w0.heap.modify 0 fun
      | .cells _ t frozen => .cells #[.iface 131 (.agg #[.pointer (some ⟨2, 45, none⟩)])] t frozen
      | o => o }
theorem laidWorld_met (os : Os) (args : Array Value) : laidMetH Tryz.prog laidL ((laidWorld os).forCall (fun _ _ => 0) ⟨#[], args, []⟩).memory :=
  laidMetH_of_parts (laidMet_nil _ _) (by kernel_rfl)
end Go.Proofs.YtgkglnjmiobdmaaGreatDoor
