/- GraphKnown: the parts. -/
import Derived.Test.YtgkglnjmiobdmaaDoorP12
import Derived.Test.YtgkglnjmiobdmaaDoorP6
import Derived.OpenShut
import Derived.SizedLaws
import Derived.Test.YtgkglnjmiobdmaaDoorRows
import Derived.ChangeSame
import Derived.ChangeVars
import Derived.JoinedOf
import Derived.RowKit
import Derived.RowKitTokens
import Derived.LaidLaws
import Derived.LaidHandle
import Derived.Stop.Joined
set_option linter.unusedVariables false
set_option linter.unusedSimpArgs false
set_option maxRecDepth 20000
set_option maxHeartbeats 4000000
namespace Gv.Tryd
open Go Gv Go.Proofs
def q5 : Hs := hq 5 0 0
theorem qE5 : ([.int .u8 5, .int .u8 0, .int .u8 0, .int .u8 0, .int .u8 0, .int .u8 0, .int .u8 0, .int .u8 0, .int .u8 0, .int .u8 0, .int .u8 0, .int .u8 0, .int .u8 0, .int .u8 0, .int .u8 0, .int .u8 0, .int .u8 0, .int .u8 0, .int .u8 0, .int .u8 0, .int .u8 0, .int .u8 0, .int .u8 0, .int .u8 0, .int .u8 0, .int .u8 0, .int .u8 0, .int .u8 0, .int .u8 0, .int .u8 0, .int .u8 0, .int .u8 0] : List GVal) = bytesG q5.1 := rfl
def q6 : Hs := hq 6 0 0
theorem qE6 : ([.int .u8 6, .int .u8 0, .int .u8 0, .int .u8 0, .int .u8 0, .int .u8 0, .int .u8 0, .int .u8 0, .int .u8 0, .int .u8 0, .int .u8 0, .int .u8 0, .int .u8 0, .int .u8 0, .int .u8 0, .int .u8 0, .int .u8 0, .int .u8 0, .int .u8 0, .int .u8 0, .int .u8 0, .int .u8 0, .int .u8 0, .int .u8 0, .int .u8 0, .int .u8 0, .int .u8 0, .int .u8 0, .int .u8 0, .int .u8 0, .int .u8 0, .int .u8 0] : List GVal) = bytesG q6.1 := rfl
def q7 : Hs := hq 7 0 0
theorem qE7 : ([.int .u8 7, .int .u8 0, .int .u8 0, .int .u8 0, .int .u8 0, .int .u8 0, .int .u8 0, .int .u8 0, .int .u8 0, .int .u8 0, .int .u8 0, .int .u8 0, .int .u8 0, .int .u8 0, .int .u8 0, .int .u8 0, .int .u8 0, .int .u8 0, .int .u8 0, .int .u8 0, .int .u8 0, .int .u8 0, .int .u8 0, .int .u8 0, .int .u8 0, .int .u8 0, .int .u8 0, .int .u8 0, .int .u8 0, .int .u8 0, .int .u8 0, .int .u8 0] : List GVal) = bytesG q7.1 := rfl
def q8 : Hs := hq 8 0 0
theorem qE8 : ([.int .u8 8, .int .u8 0, .int .u8 0, .int .u8 0, .int .u8 0, .int .u8 0, .int .u8 0, .int .u8 0, .int .u8 0, .int .u8 0, .int .u8 0, .int .u8 0, .int .u8 0, .int .u8 0, .int .u8 0, .int .u8 0, .int .u8 0, .int .u8 0, .int .u8 0, .int .u8 0, .int .u8 0, .int .u8 0, .int .u8 0, .int .u8 0, .int .u8 0, .int .u8 0, .int .u8 0, .int .u8 0, .int .u8 0, .int .u8 0, .int .u8 0, .int .u8 0] : List GVal) = bytesG q8.1 := rfl
theorem qR9 (x : GVal) : ([.int .u8 9, .int .u8 0, .int .u8 0, .int .u8 0, .int .u8 0, .int .u8 0, .int .u8 0, .int .u8 0, .int .u8 0, .int .u8 0, .int .u8 0, .int .u8 0, .int .u8 0, .int .u8 0, .int .u8 0, .int .u8 0, .int .u8 0, .int .u8 0, .int .u8 0, .int .u8 0, .int .u8 0, .int .u8 0, .int .u8 0, .int .u8 0, .int .u8 0, .int .u8 0, .int .u8 0, .int .u8 0, .int .u8 0, .int .u8 0, .int .u8 0, .int .u8 0, x] : List GVal) = bytesG q9.1 ++ [x] := rfl

theorem h25w : FnS Tryd.prog 25 ⟨[], []⟩ 10 [(.tmp 2)] s25 := .mk' Tryd.func25 (by kernel_rfl) (by kernel_rfl) (by kernel_rfl) (by kernel_rfl) (by kernel_rfl) (by kernel_rfl)
theorem gCopy (m : GM) (st s : Nat) (X : List GObj) : GCalls Tryd.prog 25 [.ptr 0 st 0 0] (gObj st s m ++ X) (fun g O' => ∃ st2 s2, g = .ptr (X.length + 3) st2 0 0 ∧ O' = gObj st s m ++ X ++ [.map s2 (kvG encL m), .row st2 1 [[.map (X.length + 2) s2]]]) := by
  have cC := cMapClone (O := gObj st s m ++ X) (o := 1) (st := s) (kv := kvG encL m) rfl rfl
  refine h25w.calls mixS (by simp) ?_
  simp only [gstart, s25, List.cons_append, List.nil_append, List.length_cons, List.length_nil, Nat.reduceAdd, Nat.reduceSub, List.replicate_succ, List.replicate_zero]
  skip
  simp +contextual -implicitDefEqProofs (maxSteps := 2000000) (disch := omega) only [↓loadV, ↓fieldAddrV, ↓boxV, ↓buildV, ↓nilV, fillG, place, GVal.cells, grp, GVal.ofConst, ↓resV, resG, List.map, List.headD, List.take, List.drop, ↓reduceIte, Nat.reduceEqDiff, Nat.reduceAdd, Nat.reduceSub, Nat.reduceLeDiff, reduceCtorEq, implies_true, ne_eq, Tag.cap, List.replicate, allSolid, GVal.solid, Nat.reduceBEq, Nat.reduceMul, Nat.reduceLT, List.length_map, List.length_range, splice, vcA, ↓vcB, vcC, fbFu, e25]
  refine cC.mono ?_
  rintro g O' ⟨s', rfl, rfl⟩
  simp +contextual -implicitDefEqProofs (maxSteps := 2000000) (disch := omega) only [↓loadV, ↓fieldAddrV, ↓boxV, ↓buildV, ↓nilV, fillG, place, GVal.cells, grp, GVal.ofConst, ↓resV, resG, List.map, List.headD, List.take, List.drop, ↓reduceIte, Nat.reduceEqDiff, Nat.reduceAdd, Nat.reduceSub, Nat.reduceLeDiff, reduceCtorEq, implies_true, ne_eq, Tag.cap, List.replicate, allSolid, GVal.solid, Nat.reduceBEq, Nat.reduceMul, Nat.reduceLT, List.length_map, List.length_range, splice, vcA, ↓vcB, vcC, fbFu, e25]
  exact ⟨rfl, fun v => ⟨v, s', by simp, by simp⟩⟩
theorem kAdd (m M : GM) (hG : GOK m) (cs : List Cm) (e : Er) (he : addedE m cs = e) (hM : addedM m cs = M) (st s : Nat) (hc : cs.length ≤ 1000000) (hp : ∀ c ∈ cs, c.2.length ≤ 1000000) (X : List GObj) {args' : List GVal} (ha : GLes args' [.ptr 0 st 0 0, .slice (csG cs) .none]) :
    GCalls Tryd.prog 10 args' (gObj st s m ++ X) (fun g O' => ∃ s', g = errV e ∧ O' = gObj st s' M ++ X) := by
  refine (GCalls.on2 (R := fun g x' y' => g = errV (addedE m cs) ∧ ∃ s', x' = .row st 1 [[.map 1 s']] ∧ y' = .map s' (kvG encL (addedM m cs))) (gAdd m hG cs st s hc hp) (O := gObj st s m ++ X) 0 1 (by omega) rfl rfl (.refl _) ha rfl rfl (by rintro g x' y' ⟨_, s', rfl, rfl⟩; exact ⟨rfl, rfl⟩) rfl).mono ?_
  rintro g O' ⟨x', y', ⟨rfl, s', rfl, rfl⟩, rfl⟩
  exact ⟨s', by rw [he], by rw [hM]; rfl⟩
theorem kRem (m M : GM) (hG : GMOK m) (hk : (m.map (·.1)).Nodup) (l : List Hs) (t : Tag) (ht : t = .nil → l = []) (hl : l.length ≤ 10000) (e : Er) (he : removeE m (setAll (inM m l)) = e) (hM : removeM m (setAll (inM m l)) = M) (st s : Nat) (O : List GObj) (i j : Nat) (hij : i ≠ j) (hi : O[i]? = some (.row st 1 [[.map j s]])) (hj : O[j]? = some (.map s (kvG encL m))) (hc : clockOf O = none) :
    GCalls Tryd.prog 23 [.ptr i st 0 0, .slice (hsG l) t] O (fun g O' => ∃ s', g = errV e ∧ O' = (O.set i (.row st 1 [[.map j s']])).set j (.map s' (kvG encL M))) := by
  refine (GCalls.on2 (R := fun g x' y' => g = errV e ∧ ∃ s', x' = .row st 1 [[.map 1 s']] ∧ y' = .map s' (kvG encL M)) (x := .row st 1 [[.map 1 s]]) (y := .map s (kvG encL m)) (args := [.ptr 0 st 0 0, .slice (hsG l) t]) (args' := [.ptr i st 0 0, .slice (hsG l) t]) ((gRemove m hG hk st s l t ht hl).mono (by
    rintro g O' ⟨rfl, s', rfl⟩
    exact ⟨_, _, rfl, by rw [he], s', rfl, by rw [hM]⟩)) (O := O) i j hij hi hj (OLe.row ⟨⟨GLe.map _ _ _, trivial⟩, trivial⟩) ⟨GLe.ptr _ _ _ _ _, GLe.refl _, trivial⟩ rfl rfl (by rintro g x' y' ⟨_, s', rfl, rfl⟩; exact ⟨rfl, rfl⟩) hc).mono ?_
  rintro g O' ⟨x', y', ⟨rfl, s', rfl, rfl⟩, rfl⟩
  exact ⟨s', rfl, rfl⟩
theorem kCount (m : GM) (hm : m.length ≤ 1000000) (st s : Nat) (O : List GObj) (i j : Nat) (hij : i ≠ j) (hi : O[i]? = some (.row st 1 [[.map j s]])) (hj : O[j]? = some (.map s (kvG encL m))) (hc : clockOf O = none) :
    GCalls Tryd.prog 11 [.ptr i st 0 0] O (fun g O' => g = .int .i64 m.length ∧ O' = (O.set i (.row st 1 [[.map j s]])).set j (.map s (kvG encL m))) := by
  refine (GCalls.on2 (R := fun g x' y' => g = .int .i64 m.length ∧ x' = .row st 1 [[.map 1 s]] ∧ y' = .map s (kvG encL m)) (x := .row st 1 [[.map 1 s]]) (y := .map s (kvG encL m)) (args := [.ptr 0 st 0 0]) (args' := [.ptr i st 0 0]) ((gCount m hm st s).mono (by
    rintro g O' ⟨rfl, rfl⟩
    exact ⟨_, _, rfl, rfl, rfl, rfl⟩)) (O := O) i j hij hi hj (OLe.row ⟨⟨GLe.map _ _ _, trivial⟩, trivial⟩) ⟨GLe.ptr _ _ _ _ _, trivial⟩ rfl rfl (by rintro g x' y' ⟨_, rfl, rfl⟩; exact ⟨rfl, rfl⟩) hc).mono ?_
  rintro g O' ⟨x', y', ⟨rfl, rfl, rfl⟩, rfl⟩
  exact ⟨rfl, rfl⟩
def kM : GM := [(q2, [q1]), (q1, [])]
theorem kG : GOK kM := ⟨by decide, by decide⟩
theorem kGM : GMOK kM := ⟨by decide, by decide⟩
theorem kNd : (kM.map (·.1)).Nodup := by decide
theorem jE0 : joinedP 0 [] [] [] = .error (none, 1) := by
  have h1 : sizesP 0 0 [] = some (none, 1) := by kernel_rfl
  unfold joinedP
  simp only [List.length_nil, h1]
theorem jE1 : joinedP 2 [] [(q1, [q4, q5, q6, q7, q8])] [] = .error (some q1, 8) := by
  have h1 : sizesP 2 0 [(q1, [q4, q5, q6, q7, q8])] = some (some q1, 8) := by kernel_rfl
  unfold joinedP
  simp only [List.length_nil, h1]
theorem jE2 : joinedP 2 [] [(q1, [q2, q2])] [] = .error (some q1, 1) := by
  have h1 : sizesP 2 0 [(q1, [q2, q2])] = some (some q1, 1) := by kernel_rfl
  unfold joinedP
  simp only [List.length_nil, h1]
theorem jO3 : joinedP 2 [] [(q2, [q1]), (q1, []), (q2, [q1])] [] = .ok kM := by
  have h1 : sizesP 2 0 [(q2, [q1]), (q1, []), (q2, [q1])] = none := by kernel_rfl
  have h2 : joinP [] [(q2, [q1]), (q1, []), (q2, [q1])] = .ok kM := by kernel_rfl
  have h3 : lackP kM [(q2, [q1]), (q1, []), (q2, [q1])] [] = none := by kernel_rfl
  have h4 : roundP [] kM [(q2, [q1]), (q1, []), (q2, [q1])] = none := roundP_rank rkQ (by decide) (by decide)
  unfold joinedP
  simp only [List.length_nil, h1, h2, h3, h4]
  rfl
theorem jE4 : joinedP 2 kM [(q2, [])] [] = .error (some q2, 9) := by
  have h1 : sizesP 2 0 [(q2, [])] = none := by kernel_rfl
  have h2 : joinP kM [(q2, [])] = .error (q2, 9) := by kernel_rfl
  unfold joinedP
  simp only [List.length_nil, h1, h2]
theorem jE5 : joinedP 1 kM [] [q1, q3] = .error (some q3, 11) := by
  have h1 : sizesP 1 2 [] = none := by kernel_rfl
  have h2 : joinP kM [] = .ok kM := by kernel_rfl
  have h3 : lackP kM [] [q1, q3] = some (some q3, 11) := by kernel_rfl
  unfold joinedP
  simp only [List.length_cons, List.length_nil, h1, h2, h3]
theorem jE6 : joinedP 2 kM [(q3, [q9]), (q9, [q3])] [] = .error (some q3, 12) := by
  have h1 : sizesP 2 0 [(q3, [q9]), (q9, [q3])] = none := by kernel_rfl
  have h2 : joinP kM [(q3, [q9]), (q9, [q3])] = .ok (kM ++ [(q3, [q9]), (q9, [q3])]) := by kernel_rfl
  have h3 : lackP (kM ++ [(q3, [q9]), (q9, [q3])]) [(q3, [q9]), (q9, [q3])] [] = none := by kernel_rfl
  have h5 : (look kM q3).isSome = false := by kernel_rfl
  have h6 : parsM (kM ++ [(q3, [q9]), (q9, [q3])]) q9 = [q3] := by kernel_rfl
  have h4 : roundP kM (kM ++ [(q3, [q9]), (q9, [q3])]) [(q3, [q9]), (q9, [q3])] = some (some q3, 12) := by
    unfold roundP
    rw [List.findSome?_cons]
    have : roundE kM (kM ++ [(q3, [q9]), (q9, [q3])]) (q3, [q9]) = some (some q3, 12) := by
      unfold roundE
      rw [if_neg (by show ¬ (look kM q3).isSome = true; rw [h5]; decide), if_pos]
      exact .step q9 q3 (.base q9 (by simp)) (by rw [h6]; simp)
    rw [this]
  unfold joinedP
  simp only [List.length_nil, h1, h2, h3, h4]
theorem rE1 : removeE kM (setAll (inM kM [q1])) = some (some q2, 10) := by kernel_rfl
theorem rM1 : removeM kM (setAll (inM kM [q1])) = kM := by unfold removeM; rw [rE1]
theorem rE2 : removeE kM (setAll (inM kM [q2, q3])) = none := by kernel_rfl
theorem rM2 : removeM kM (setAll (inM kM [q2, q3])) = [(q1, [])] := by unfold removeM; rw [rE2]; kernel_rfl
theorem kClosed : ∀ x y, y ∈ parsM kM x → (look kM y).isSome = true := by
  intro x y h
  obtain ⟨p, h1, h2, h3⟩ := parsM_mem h
  simp only [kM, List.mem_cons, List.not_mem_nil, or_false] at h1
  rcases h1 with rfl | rfl
  · simp at h3; subst h3; kernel_rfl
  · cases h3
theorem kKeys {z : Hs} (h : (look kM z).isSome = true) : z = q2 ∨ z = q1 := by
  have := look_key h
  simpa [kM] using this
theorem kAnc : ancL kM [q2] = keysS kM := ss_eq (ancL_ss _ _) (sortR_ss _) fun z => by
  rw [ancL_mem]
  show _ ↔ z ∈ keysS kM
  rw [keysS_mem]
  constructor
  · exact fun h => reach_there kClosed h
  · intro h
    have hb : Reach (parsM kM) (inM kM [q2]) q2 := .base _ (by decide)
    rcases kKeys h with rfl | rfl
    · exact hb
    · exact .step _ _ hb (by decide)
theorem kDes : desL kM [q1] = keysS kM := ss_eq (desL_ss _ _) (sortR_ss _) fun z => by
  rw [desL_mem]
  show _ ↔ z ∈ keysS kM
  rw [keysS_mem]
  constructor
  · exact fun h => reach_there (fun _ _ q => kids_there q) h
  · intro h
    have hb : Reach (kidsM kM) (inM kM [q1]) q1 := .base _ (by decide)
    rcases kKeys h with rfl | rfl
    · exact .step _ _ hb (by decide)
    · exact hb
theorem kLen : (keysS kM).length = 2 := by kernel_rfl
end Gv.Tryd
/- GraphKnown. -/
set_option linter.unusedVariables false
set_option linter.unusedSimpArgs false
set_option maxRecDepth 20000
set_option maxHeartbeats 4000000
namespace Gv.Tryd
open Go Gv Go.Proofs
theorem specKnown11 : GPure Tryd.prog 6 [] (.bool true) := by
  have c0 := fun st s => gCheckE [] fourG [] [] .nil 0 st s (by decide) (by decide) (by decide) _ jE0
  have a0 : ∀ st, GLes [.ptr 0 st 0 0, .agg [.slice [] .nil, .slice [] .nil, .int .i64 0]] [.ptr 0 st 0 0, .agg (reqG [] [] .nil 0)] := fun st =>
    ⟨GLe.refl _, GLe.agg ⟨GLe.none, GLe.refl _, GLe.refl _, trivial⟩, trivial⟩
  have c1 := fun st s X => kAdd [] [] fourG [(q1, [q4, q5, q6, q7, q8])] (some (some q1, 8)) (by unfold addedE; rw [jE1]) (by unfold addedM; rw [jE1]) st s (by decide) (by decide) X (args' := [.ptr 0 st 0 0, .slice [bytesG q1.1 ++ [.slice [bytesG q4.1, bytesG q5.1, bytesG q6.1, bytesG q7.1, bytesG q8.1] .full]] .full]) ⟨GLe.refl _, GLe.trans GLe.none (GLe.slice ⟨GLes.app (GLes.refl _) ⟨GLe.none, trivial⟩, trivial⟩), trivial⟩
  have c2 := fun st s X => kAdd [] [] fourG [(q1, [q2, q2])] (some (some q1, 1)) (by unfold addedE; rw [jE2]) (by unfold addedM; rw [jE2]) st s (by decide) (by decide) X (args' := [.ptr 0 st 0 0, .slice [bytesG q1.1 ++ [.slice [bytesG q2.1, bytesG q2.1] .full]] .full]) ⟨GLe.refl _, GLe.trans GLe.none (GLe.slice ⟨GLes.app (GLes.refl _) ⟨GLe.none, trivial⟩, trivial⟩), trivial⟩
  have c3 := fun st s X => kAdd [] kM fourG [(q2, [q1]), (q1, []), (q2, [q1])] none (by unfold addedE; rw [jO3]) (by unfold addedM; rw [jO3]) st s (by decide) (by decide) X (args' := [.ptr 0 st 0 0, .slice [bytesG q2.1 ++ [.slice [bytesG q1.1] .full], bytesG q1.1 ++ [.slice [] .nil], bytesG q2.1 ++ [.slice [bytesG q1.1] .full]] .full]) ⟨GLe.refl _, GLe.trans GLe.none (GLe.slice ⟨GLes.app (GLes.refl _) ⟨GLe.none, trivial⟩, GLes.app (GLes.refl _) ⟨GLe.none, trivial⟩, GLes.app (GLes.refl _) ⟨GLe.none, trivial⟩, trivial⟩), trivial⟩
  have c4 := fun st s X => kAdd kM kM kG [(q2, [])] (some (some q2, 9)) (by unfold addedE; rw [jE4]) (by unfold addedM; rw [jE4]) st s (by decide) (by decide) X (args' := [.ptr 0 st 0 0, .slice [bytesG q2.1 ++ [.slice [] .nil]] .full]) ⟨GLe.refl _, GLe.trans GLe.none (GLe.slice ⟨GLes.app (GLes.refl _) ⟨GLe.none, trivial⟩, trivial⟩), trivial⟩
  have c5 := fun st s => GCalls.args (args' := [.ptr 0 st 0 0, .agg [.slice [] .nil, .slice [bytesG q1.1, bytesG q3.1] .full, .int .i64 1]]) (gCheckE kM kG [] [q1, q3] .full 1 st s (by decide) (by decide) (by decide) _ jE5) ⟨GLe.refl _, GLe.agg ⟨GLe.none, GLe.refl _, GLe.refl _, trivial⟩, trivial⟩
  have c6 := fun st s => GCalls.args (args' := [.ptr 0 st 0 0, .agg [.slice [bytesG q3.1 ++ [.slice [bytesG q9.1] .full], bytesG q9.1 ++ [.slice [bytesG q3.1] .full]] .full, .slice [] .nil, .int .i64 2]]) (gCheckE kM kG [(q3, [q9]), (q9, [q3])] [] .nil 2 st s (by decide) (by decide) (by decide) _ jE6) ⟨GLe.refl _, GLe.agg ⟨GLe.trans GLe.none (GLe.slice ⟨GLes.app (GLes.refl _) ⟨GLe.none, trivial⟩, GLes.app (GLes.refl _) ⟨GLe.none, trivial⟩, trivial⟩), GLe.refl _, GLe.refl _, trivial⟩, trivial⟩
  have c7 := fun st s X => kRem kM kM kGM kNd [q1] .full (by simp) (by simp) _ rE1 rM1 st s (gObj st s kM ++ X) 0 1 (by omega) rfl rfl rfl
  have w3 := gWhose q3 12
  have w2 := gWhose q2 10
  have cP := fun st s X => (gParents kM q2 st s (by decide)).keep2 rfl X
  have eP : parsM kM q2 = [q1] := by kernel_rfl
  have eL : (look kM q2).isSome = true := by kernel_rfl
  simp only [eP, eL] at cP
  have c8 := fun st s O h1 h2 h3 => kRem kM [(q1, [])] kGM kNd [q2, q3] .full (by simp) (by simp) _ rE2 rM2 st s O 8 7 (by omega) h1 h2 h3
  have k0 := hKindErr 1
  have k1 := hKindWhich (bytesG q1.1) 8 (len32 q1)
  have k2 := hKindWhich (bytesG q1.1) 1 (len32 q1)
  have k4 := hKindWhich (bytesG q2.1) 9 (len32 q2)
  have k5 := hKindWhich (bytesG q3.1) 11 (len32 q3)
  have k6 := hKindWhich (bytesG q3.1) 12 (len32 q3)
  have k7 := hKindWhich (bytesG q2.1) 10 (len32 q2)
  have kl : kM.length = 2 := rfl
  have eg : (hsG [q1]).getD (Int.toNat 0) [] = bytesG q1.1 := rfl
  have cA := fun st s X => (gAncestors kM kGM st s [q2] .full (by simp) (by simp)).keep2 rfl X
  rw [kAnc] at cA
  have cD := fun st s X => (gDescendants kM kGM st s [q1] .full (by simp) (by simp)).keep2 rfl X
  rw [kDes] at cD
  refine GCalls.toPure ?_
  refine h6.calls mixS (by simp) ?_
  simp only [gstart, s6, List.cons_append, List.nil_append, List.length_cons, List.length_nil, Nat.reduceAdd, Nat.reduceSub, List.replicate_succ, List.replicate_zero]
  simp +contextual -implicitDefEqProofs (maxSteps := 2000000) (disch := omega) only [drawC, drawK, keepT, ↓lenV, binV, ↓unV, ↓loadV, ↓storeV, ↓indexAddrV, ↓allocV, ↓buildV, ↓buildSliceV, fillG, fillE, place, GVal.cells, grp, GVal.ofConst, ↓resV, resG, List.map, List.headD, List.take, List.drop, ↓reduceIte, Nat.reduceEqDiff, Nat.reduceAdd, Nat.reduceSub, Nat.reduceLeDiff, reduceCtorEq, implies_true, ne_eq, aggV, Tag.cap, List.replicate, allSolid, GVal.solid, Nat.reduceBEq, Nat.reduceMul, Nat.reduceLT, List.length_map, List.length_range, splice, vcA, ↓vcB, vcC, fbFu, e6]
  refine gNew.mono ?_
  rintro g O' ⟨st, s, rfl, rfl⟩
  simp +contextual -implicitDefEqProofs (maxSteps := 2000000) (disch := omega) only [drawC, drawK, keepT, ↓lenV, binV, ↓unV, ↓loadV, ↓storeV, ↓indexAddrV, ↓allocV, ↓buildV, ↓buildSliceV, fillG, fillE, place, GVal.cells, grp, GVal.ofConst, ↓resV, resG, List.map, List.headD, List.take, List.drop, ↓reduceIte, Nat.reduceEqDiff, Nat.reduceAdd, Nat.reduceSub, Nat.reduceLeDiff, reduceCtorEq, implies_true, ne_eq, aggV, Tag.cap, List.replicate, allSolid, GVal.solid, Nat.reduceBEq, Nat.reduceMul, Nat.reduceLT, List.length_map, List.length_range, splice, vcA, ↓vcB, vcC, fbFu, e6]
  refine gKnown11.then ?_ (by rfl)
  simp +contextual -implicitDefEqProofs (maxSteps := 2000000) (disch := omega) only [drawC, drawK, keepT, ↓lenV, binV, ↓unV, ↓loadV, ↓storeV, ↓indexAddrV, ↓allocV, ↓buildV, ↓buildSliceV, fillG, fillE, place, GVal.cells, grp, GVal.ofConst, ↓resV, resG, List.map, List.headD, List.take, List.drop, ↓reduceIte, Nat.reduceEqDiff, Nat.reduceAdd, Nat.reduceSub, Nat.reduceLeDiff, reduceCtorEq, implies_true, ne_eq, aggV, Tag.cap, List.replicate, allSolid, GVal.solid, Nat.reduceBEq, Nat.reduceMul, Nat.reduceLT, List.length_map, List.length_range, splice, vcA, ↓vcB, vcC, fbFu, e6, qE1, qE2, qE3, qE4, qE5, qE6, qE7, qE8, qE9, qR1, qR2, qR3, qR9, len32, take32, take32a, drop32a, drop33a, take33a, len33, solid33, solidH, setO_6, setO_7, setO_8]
  intro sa sb sc
  obtain ⟨X, eX⟩ : ∃ X, X = [GObj.row sa 32 [bytesG q1.1], GObj.row sb 32 [bytesG q2.1], GObj.row sc 32 [bytesG q3.1]] := ⟨_, rfl⟩
  refine ((GCalls.args (c0 st s) (a0 st)).keep2 rfl [GObj.row sa 32 [bytesG q1.1], GObj.row sb 32 [bytesG q2.1], GObj.row sc 32 [bytesG q3.1]]).mono ?_
  rintro g O' ⟨rfl, rfl⟩
  simp +contextual -implicitDefEqProofs (maxSteps := 2000000) (disch := omega) only [drawC, drawK, keepT, ↓lenV, binV, ↓unV, ↓loadV, ↓storeV, ↓indexAddrV, ↓allocV, ↓buildV, ↓buildSliceV, fillG, fillE, place, GVal.cells, grp, GVal.ofConst, ↓resV, resG, List.map, List.headD, List.take, List.drop, ↓reduceIte, Nat.reduceEqDiff, Nat.reduceAdd, Nat.reduceSub, Nat.reduceLeDiff, reduceCtorEq, implies_true, ne_eq, aggV, Tag.cap, List.replicate, allSolid, GVal.solid, Nat.reduceBEq, Nat.reduceMul, Nat.reduceLT, List.length_map, List.length_range, splice, vcA, ↓vcB, vcC, fbFu, e6, qE1, qE2, qE3, qE4, qE5, qE6, qE7, qE8, qE9, qR1, qR2, qR3, qR9, len32, take32, take32a, drop32a, drop33a, take33a, len33, solid33, solidH, setO_6, setO_7, setO_8]
  refine (c1 st s _).mono ?_
  rintro g O' ⟨s1, rfl, rfl⟩
  simp +contextual -implicitDefEqProofs (maxSteps := 2000000) (disch := omega) only [drawC, drawK, keepT, ↓lenV, binV, ↓unV, ↓loadV, ↓storeV, ↓indexAddrV, ↓allocV, ↓buildV, ↓buildSliceV, fillG, fillE, place, GVal.cells, grp, GVal.ofConst, ↓resV, resG, List.map, List.headD, List.take, List.drop, ↓reduceIte, Nat.reduceEqDiff, Nat.reduceAdd, Nat.reduceSub, Nat.reduceLeDiff, reduceCtorEq, implies_true, ne_eq, aggV, Tag.cap, List.replicate, allSolid, GVal.solid, Nat.reduceBEq, Nat.reduceMul, Nat.reduceLT, List.length_map, List.length_range, splice, vcA, ↓vcB, vcC, fbFu, e6, qE1, qE2, qE3, qE4, qE5, qE6, qE7, qE8, qE9, qR1, qR2, qR3, qR9, len32, take32, take32a, drop32a, drop33a, take33a, len33, solid33, solidH, setO_6, setO_7, setO_8]
  refine (c2 st s1 _).mono ?_
  rintro g O' ⟨s2, rfl, rfl⟩
  simp +contextual -implicitDefEqProofs (maxSteps := 2000000) (disch := omega) only [drawC, drawK, keepT, ↓lenV, binV, ↓unV, ↓loadV, ↓storeV, ↓indexAddrV, ↓allocV, ↓buildV, ↓buildSliceV, fillG, fillE, place, GVal.cells, grp, GVal.ofConst, ↓resV, resG, List.map, List.headD, List.take, List.drop, ↓reduceIte, Nat.reduceEqDiff, Nat.reduceAdd, Nat.reduceSub, Nat.reduceLeDiff, reduceCtorEq, implies_true, ne_eq, aggV, Tag.cap, List.replicate, allSolid, GVal.solid, Nat.reduceBEq, Nat.reduceMul, Nat.reduceLT, List.length_map, List.length_range, splice, vcA, ↓vcB, vcC, fbFu, e6, qE1, qE2, qE3, qE4, qE5, qE6, qE7, qE8, qE9, qR1, qR2, qR3, qR9, len32, take32, take32a, drop32a, drop33a, take33a, len33, solid33, solidH, setO_6, setO_7, setO_8]
  refine (c3 st s2 _).mono ?_
  rintro g O' ⟨s3, rfl, rfl⟩
  simp +contextual -implicitDefEqProofs (maxSteps := 2000000) (disch := omega) only [drawC, drawK, keepT, ↓lenV, binV, ↓unV, ↓loadV, ↓storeV, ↓indexAddrV, ↓allocV, ↓buildV, ↓buildSliceV, fillG, fillE, place, GVal.cells, grp, GVal.ofConst, ↓resV, resG, List.map, List.headD, List.take, List.drop, ↓reduceIte, Nat.reduceEqDiff, Nat.reduceAdd, Nat.reduceSub, Nat.reduceLeDiff, reduceCtorEq, implies_true, ne_eq, aggV, Tag.cap, List.replicate, allSolid, GVal.solid, Nat.reduceBEq, Nat.reduceMul, Nat.reduceLT, List.length_map, List.length_range, splice, vcA, ↓vcB, vcC, fbFu, e6, qE1, qE2, qE3, qE4, qE5, qE6, qE7, qE8, qE9, qR1, qR2, qR3, qR9, len32, take32, take32a, drop32a, drop33a, take33a, len33, solid33, solidH, setO_6, setO_7, setO_8]
  refine (c4 st s3 _).mono ?_
  rintro g O' ⟨s4, rfl, rfl⟩
  simp +contextual -implicitDefEqProofs (maxSteps := 2000000) (disch := omega) only [drawC, drawK, keepT, ↓lenV, binV, ↓unV, ↓loadV, ↓storeV, ↓indexAddrV, ↓allocV, ↓buildV, ↓buildSliceV, fillG, fillE, place, GVal.cells, grp, GVal.ofConst, ↓resV, resG, List.map, List.headD, List.take, List.drop, ↓reduceIte, Nat.reduceEqDiff, Nat.reduceAdd, Nat.reduceSub, Nat.reduceLeDiff, reduceCtorEq, implies_true, ne_eq, aggV, Tag.cap, List.replicate, allSolid, GVal.solid, Nat.reduceBEq, Nat.reduceMul, Nat.reduceLT, List.length_map, List.length_range, splice, vcA, ↓vcB, vcC, fbFu, e6, qE1, qE2, qE3, qE4, qE5, qE6, qE7, qE8, qE9, qR1, qR2, qR3, qR9, len32, take32, take32a, drop32a, drop33a, take33a, len33, solid33, solidH, setO_6, setO_7, setO_8]
  refine ((c5 st s4).keep2 rfl [GObj.row sa 32 [bytesG q1.1], GObj.row sb 32 [bytesG q2.1], GObj.row sc 32 [bytesG q3.1]]).mono ?_
  rintro g O' ⟨rfl, rfl⟩
  simp +contextual -implicitDefEqProofs (maxSteps := 2000000) (disch := omega) only [drawC, drawK, keepT, ↓lenV, binV, ↓unV, ↓loadV, ↓storeV, ↓indexAddrV, ↓allocV, ↓buildV, ↓buildSliceV, fillG, fillE, place, GVal.cells, grp, GVal.ofConst, ↓resV, resG, List.map, List.headD, List.take, List.drop, ↓reduceIte, Nat.reduceEqDiff, Nat.reduceAdd, Nat.reduceSub, Nat.reduceLeDiff, reduceCtorEq, implies_true, ne_eq, aggV, Tag.cap, List.replicate, allSolid, GVal.solid, Nat.reduceBEq, Nat.reduceMul, Nat.reduceLT, List.length_map, List.length_range, splice, vcA, ↓vcB, vcC, fbFu, e6, qE1, qE2, qE3, qE4, qE5, qE6, qE7, qE8, qE9, qR1, qR2, qR3, qR9, len32, take32, take32a, drop32a, drop33a, take33a, len33, solid33, solidH, setO_6, setO_7, setO_8]
  refine ((c6 st s4).keep2 rfl [GObj.row sa 32 [bytesG q1.1], GObj.row sb 32 [bytesG q2.1], GObj.row sc 32 [bytesG q3.1]]).mono ?_
  rintro g O' ⟨rfl, rfl⟩
  simp +contextual -implicitDefEqProofs (maxSteps := 2000000) (disch := omega) only [drawC, drawK, keepT, ↓lenV, binV, ↓unV, ↓loadV, ↓storeV, ↓indexAddrV, ↓allocV, ↓buildV, ↓buildSliceV, fillG, fillE, place, GVal.cells, grp, GVal.ofConst, ↓resV, resG, List.map, List.headD, List.take, List.drop, ↓reduceIte, Nat.reduceEqDiff, Nat.reduceAdd, Nat.reduceSub, Nat.reduceLeDiff, reduceCtorEq, implies_true, ne_eq, aggV, Tag.cap, List.replicate, allSolid, GVal.solid, Nat.reduceBEq, Nat.reduceMul, Nat.reduceLT, List.length_map, List.length_range, splice, vcA, ↓vcB, vcC, fbFu, e6, qE1, qE2, qE3, qE4, qE5, qE6, qE7, qE8, qE9, qR1, qR2, qR3, qR9, len32, take32, take32a, drop32a, drop33a, take33a, len33, solid33, solidH, setO_6, setO_7, setO_8]
  refine (c7 st s4 _).mono ?_
  rintro g O' ⟨s5, rfl, rfl⟩
  simp +contextual -implicitDefEqProofs (maxSteps := 2000000) (disch := omega) only [drawC, drawK, keepT, ↓lenV, binV, ↓unV, ↓loadV, ↓storeV, ↓indexAddrV, ↓allocV, ↓buildV, ↓buildSliceV, fillG, fillE, place, GVal.cells, grp, GVal.ofConst, ↓resV, resG, List.map, List.headD, List.take, List.drop, ↓reduceIte, Nat.reduceEqDiff, Nat.reduceAdd, Nat.reduceSub, Nat.reduceLeDiff, reduceCtorEq, implies_true, ne_eq, aggV, Tag.cap, List.replicate, allSolid, GVal.solid, Nat.reduceBEq, Nat.reduceMul, Nat.reduceLT, List.length_map, List.length_range, splice, vcA, ↓vcB, vcC, fbFu, e6, qE1, qE2, qE3, qE4, qE5, qE6, qE7, qE8, qE9, qR1, qR2, qR3, qR9, len32, take32, take32a, drop32a, drop33a, take33a, len33, solid33, solidH, List.set]
  refine w3.then ?_ (by rfl)
  simp +contextual -implicitDefEqProofs (maxSteps := 2000000) (disch := omega) only [drawC, drawK, keepT, ↓lenV, binV, ↓unV, ↓loadV, ↓storeV, ↓indexAddrV, ↓allocV, ↓buildV, ↓buildSliceV, fillG, fillE, place, GVal.cells, grp, GVal.ofConst, ↓resV, resG, List.map, List.headD, List.take, List.drop, ↓reduceIte, Nat.reduceEqDiff, Nat.reduceAdd, Nat.reduceSub, Nat.reduceLeDiff, reduceCtorEq, implies_true, ne_eq, aggV, Tag.cap, List.replicate, allSolid, GVal.solid, Nat.reduceBEq, Nat.reduceMul, Nat.reduceLT, List.length_map, List.length_range, splice, vcA, ↓vcB, vcC, fbFu, e6, qE1, qE2, qE3, qE4, qE5, qE6, qE7, qE8, qE9, qR1, qR2, qR3, qR9, len32, take32, take32a, drop32a, drop33a, take33a, len33, solid33, solidH, setO_6, setO_7, setO_8]
  intro sx
  refine w2.then ?_ (by rfl)
  simp +contextual -implicitDefEqProofs (maxSteps := 2000000) (disch := omega) only [drawC, drawK, keepT, ↓lenV, binV, ↓unV, ↓loadV, ↓storeV, ↓indexAddrV, ↓allocV, ↓buildV, ↓buildSliceV, fillG, fillE, place, GVal.cells, grp, GVal.ofConst, ↓resV, resG, List.map, List.headD, List.take, List.drop, ↓reduceIte, Nat.reduceEqDiff, Nat.reduceAdd, Nat.reduceSub, Nat.reduceLeDiff, reduceCtorEq, implies_true, ne_eq, aggV, Tag.cap, List.replicate, allSolid, GVal.solid, Nat.reduceBEq, Nat.reduceMul, Nat.reduceLT, List.length_map, List.length_range, splice, vcA, ↓vcB, vcC, fbFu, e6, qE1, qE2, qE3, qE4, qE5, qE6, qE7, qE8, qE9, qR1, qR2, qR3, qR9, len32, take32, take32a, drop32a, drop33a, take33a, len33, solid33, solidH, setO_6, setO_7, setO_8]
  intro sy
  refine (cP st s5 [GObj.row sa 32 [bytesG q1.1], GObj.row sb 32 [bytesG q2.1], GObj.row sc 32 [bytesG q3.1], GObj.row sx 32 [bytesG q3.1], GObj.row sy 32 [bytesG q2.1]]).mono ?_
  rintro g O' ⟨rfl, rfl⟩
  simp +contextual -implicitDefEqProofs (maxSteps := 2000000) (disch := omega) only [drawC, drawK, keepT, ↓lenV, binV, ↓unV, ↓loadV, ↓storeV, ↓indexAddrV, ↓allocV, ↓buildV, ↓buildSliceV, fillG, fillE, place, GVal.cells, grp, GVal.ofConst, ↓resV, resG, List.map, List.headD, List.take, List.drop, ↓reduceIte, Nat.reduceEqDiff, Nat.reduceAdd, Nat.reduceSub, Nat.reduceLeDiff, reduceCtorEq, implies_true, ne_eq, aggV, Tag.cap, List.replicate, allSolid, GVal.solid, Nat.reduceBEq, Nat.reduceMul, Nat.reduceLT, List.length_map, List.length_range, splice, vcA, ↓vcB, vcC, fbFu, e6, qE1, qE2, qE3, qE4, qE5, qE6, qE7, qE8, qE9, qR1, qR2, qR3, qR9, len32, take32, take32a, drop32a, drop33a, take33a, len33, solid33, solidH, setO_6, setO_7, setO_8]
  refine (gCopy kM st s5 [GObj.row sa 32 [bytesG q1.1], GObj.row sb 32 [bytesG q2.1], GObj.row sc 32 [bytesG q3.1], GObj.row sx 32 [bytesG q3.1], GObj.row sy 32 [bytesG q2.1]]).mono ?_
  rintro g O' ⟨st2, t2, rfl, rfl⟩
  simp +contextual -implicitDefEqProofs (maxSteps := 2000000) (disch := omega) only [drawC, drawK, keepT, ↓lenV, binV, ↓unV, ↓loadV, ↓storeV, ↓indexAddrV, ↓allocV, ↓buildV, ↓buildSliceV, fillG, fillE, place, GVal.cells, grp, GVal.ofConst, ↓resV, resG, List.map, List.headD, List.take, List.drop, ↓reduceIte, Nat.reduceEqDiff, Nat.reduceAdd, Nat.reduceSub, Nat.reduceLeDiff, reduceCtorEq, implies_true, ne_eq, aggV, Tag.cap, List.replicate, allSolid, GVal.solid, Nat.reduceBEq, Nat.reduceMul, Nat.reduceLT, List.length_map, List.length_range, splice, vcA, ↓vcB, vcC, fbFu, e6, qE1, qE2, qE3, qE4, qE5, qE6, qE7, qE8, qE9, qR1, qR2, qR3, qR9, len32, take32, take32a, drop32a, drop33a, take33a, len33, solid33, solidH, setO_6, setO_7, setO_8]
  refine (c8 st2 t2 _ rfl rfl rfl).mono ?_
  rintro g O' ⟨t3, rfl, rfl⟩
  simp +contextual -implicitDefEqProofs (maxSteps := 2000000) (disch := omega) only [drawC, drawK, keepT, ↓lenV, binV, ↓unV, ↓loadV, ↓storeV, ↓indexAddrV, ↓allocV, ↓buildV, ↓buildSliceV, fillG, fillE, place, GVal.cells, grp, GVal.ofConst, ↓resV, resG, List.map, List.headD, List.take, List.drop, ↓reduceIte, Nat.reduceEqDiff, Nat.reduceAdd, Nat.reduceSub, Nat.reduceLeDiff, reduceCtorEq, implies_true, ne_eq, aggV, Tag.cap, List.replicate, allSolid, GVal.solid, Nat.reduceBEq, Nat.reduceMul, Nat.reduceLT, List.length_map, List.length_range, splice, vcA, ↓vcB, vcC, fbFu, e6, qE1, qE2, qE3, qE4, qE5, qE6, qE7, qE8, qE9, qR1, qR2, qR3, qR9, len32, take32, take32a, drop32a, drop33a, take33a, len33, solid33, solidH, setO_6, setO_7, setO_8, errV]
  refine k0.then ?_ (by rfl)
  simp +contextual -implicitDefEqProofs (maxSteps := 2000000) (disch := omega) only [drawC, drawK, keepT, ↓lenV, binV, ↓unV, ↓loadV, ↓storeV, ↓indexAddrV, ↓allocV, ↓buildV, ↓buildSliceV, fillG, fillE, place, GVal.cells, grp, GVal.ofConst, ↓resV, resG, List.map, List.headD, List.take, List.drop, ↓reduceIte, Nat.reduceEqDiff, Nat.reduceAdd, Nat.reduceSub, Nat.reduceLeDiff, reduceCtorEq, implies_true, ne_eq, aggV, Tag.cap, List.replicate, allSolid, GVal.solid, Nat.reduceBEq, Nat.reduceMul, Nat.reduceLT, List.length_map, List.length_range, splice, vcA, ↓vcB, vcC, fbFu, e6, qE1, qE2, qE3, qE4, qE5, qE6, qE7, qE8, qE9, qR1, qR2, qR3, qR9, len32, take32, take32a, drop32a, drop33a, take33a, len33, solid33, solidH, setO_6, setO_7, setO_8, errV]
  refine k1.then ?_ (by rfl)
  simp +contextual -implicitDefEqProofs (maxSteps := 2000000) (disch := omega) only [drawC, drawK, keepT, ↓lenV, binV, ↓unV, ↓loadV, ↓storeV, ↓indexAddrV, ↓allocV, ↓buildV, ↓buildSliceV, fillG, fillE, place, GVal.cells, grp, GVal.ofConst, ↓resV, resG, List.map, List.headD, List.take, List.drop, ↓reduceIte, Nat.reduceEqDiff, Nat.reduceAdd, Nat.reduceSub, Nat.reduceLeDiff, reduceCtorEq, implies_true, ne_eq, aggV, Tag.cap, List.replicate, allSolid, GVal.solid, Nat.reduceBEq, Nat.reduceMul, Nat.reduceLT, List.length_map, List.length_range, splice, vcA, ↓vcB, vcC, fbFu, e6, qE1, qE2, qE3, qE4, qE5, qE6, qE7, qE8, qE9, qR1, qR2, qR3, qR9, len32, take32, take32a, drop32a, drop33a, take33a, len33, solid33, solidH, setO_6, setO_7, setO_8, errV]
  refine k2.then ?_ (by rfl)
  simp +contextual -implicitDefEqProofs (maxSteps := 2000000) (disch := omega) only [drawC, drawK, keepT, ↓lenV, binV, ↓unV, ↓loadV, ↓storeV, ↓indexAddrV, ↓allocV, ↓buildV, ↓buildSliceV, fillG, fillE, place, GVal.cells, grp, GVal.ofConst, ↓resV, resG, List.map, List.headD, List.take, List.drop, ↓reduceIte, Nat.reduceEqDiff, Nat.reduceAdd, Nat.reduceSub, Nat.reduceLeDiff, reduceCtorEq, implies_true, ne_eq, aggV, Tag.cap, List.replicate, allSolid, GVal.solid, Nat.reduceBEq, Nat.reduceMul, Nat.reduceLT, List.length_map, List.length_range, splice, vcA, ↓vcB, vcC, fbFu, e6, qE1, qE2, qE3, qE4, qE5, qE6, qE7, qE8, qE9, qR1, qR2, qR3, qR9, len32, take32, take32a, drop32a, drop33a, take33a, len33, solid33, solidH, setO_6, setO_7, setO_8, errV]
  refine ⟨und34, ?_⟩
  refine k4.then ?_ (by rfl)
  simp +contextual -implicitDefEqProofs (maxSteps := 2000000) (disch := omega) only [drawC, drawK, keepT, ↓lenV, binV, ↓unV, ↓loadV, ↓storeV, ↓indexAddrV, ↓allocV, ↓buildV, ↓buildSliceV, fillG, fillE, place, GVal.cells, grp, GVal.ofConst, ↓resV, resG, List.map, List.headD, List.take, List.drop, ↓reduceIte, Nat.reduceEqDiff, Nat.reduceAdd, Nat.reduceSub, Nat.reduceLeDiff, reduceCtorEq, implies_true, ne_eq, aggV, Tag.cap, List.replicate, allSolid, GVal.solid, Nat.reduceBEq, Nat.reduceMul, Nat.reduceLT, List.length_map, List.length_range, splice, vcA, ↓vcB, vcC, fbFu, e6, qE1, qE2, qE3, qE4, qE5, qE6, qE7, qE8, qE9, qR1, qR2, qR3, qR9, len32, take32, take32a, drop32a, drop33a, take33a, len33, solid33, solidH, setO_6, setO_7, setO_8, errV]
  refine k5.then ?_ (by rfl)
  simp +contextual -implicitDefEqProofs (maxSteps := 2000000) (disch := omega) only [drawC, drawK, keepT, ↓lenV, binV, ↓unV, ↓loadV, ↓storeV, ↓indexAddrV, ↓allocV, ↓buildV, ↓buildSliceV, fillG, fillE, place, GVal.cells, grp, GVal.ofConst, ↓resV, resG, List.map, List.headD, List.take, List.drop, ↓reduceIte, Nat.reduceEqDiff, Nat.reduceAdd, Nat.reduceSub, Nat.reduceLeDiff, reduceCtorEq, implies_true, ne_eq, aggV, Tag.cap, List.replicate, allSolid, GVal.solid, Nat.reduceBEq, Nat.reduceMul, Nat.reduceLT, List.length_map, List.length_range, splice, vcA, ↓vcB, vcC, fbFu, e6, qE1, qE2, qE3, qE4, qE5, qE6, qE7, qE8, qE9, qR1, qR2, qR3, qR9, len32, take32, take32a, drop32a, drop33a, take33a, len33, solid33, solidH, setO_6, setO_7, setO_8, errV]
  refine k6.then ?_ (by rfl)
  simp +contextual -implicitDefEqProofs (maxSteps := 2000000) (disch := omega) only [drawC, drawK, keepT, ↓lenV, binV, ↓unV, ↓loadV, ↓storeV, ↓indexAddrV, ↓allocV, ↓buildV, ↓buildSliceV, fillG, fillE, place, GVal.cells, grp, GVal.ofConst, ↓resV, resG, List.map, List.headD, List.take, List.drop, ↓reduceIte, Nat.reduceEqDiff, Nat.reduceAdd, Nat.reduceSub, Nat.reduceLeDiff, reduceCtorEq, implies_true, ne_eq, aggV, Tag.cap, List.replicate, allSolid, GVal.solid, Nat.reduceBEq, Nat.reduceMul, Nat.reduceLT, List.length_map, List.length_range, splice, vcA, ↓vcB, vcC, fbFu, e6, qE1, qE2, qE3, qE4, qE5, qE6, qE7, qE8, qE9, qR1, qR2, qR3, qR9, len32, take32, take32a, drop32a, drop33a, take33a, len33, solid33, solidH, setO_6, setO_7, setO_8, errV, cellsEq_hs q3 q3]
  refine k7.then ?_ (by rfl)
  simp +contextual -implicitDefEqProofs (maxSteps := 2000000) (disch := omega) only [drawC, drawK, keepT, ↓lenV, binV, ↓unV, ↓loadV, ↓storeV, ↓indexAddrV, ↓allocV, ↓buildV, ↓buildSliceV, fillG, fillE, place, GVal.cells, grp, GVal.ofConst, ↓resV, resG, List.map, List.headD, List.take, List.drop, ↓reduceIte, Nat.reduceEqDiff, Nat.reduceAdd, Nat.reduceSub, Nat.reduceLeDiff, reduceCtorEq, implies_true, ne_eq, aggV, Tag.cap, List.replicate, allSolid, GVal.solid, Nat.reduceBEq, Nat.reduceMul, Nat.reduceLT, List.length_map, List.length_range, splice, vcA, ↓vcB, vcC, fbFu, e6, qE1, qE2, qE3, qE4, qE5, qE6, qE7, qE8, qE9, qR1, qR2, qR3, qR9, len32, take32, take32a, drop32a, drop33a, take33a, len33, solid33, solidH, setO_6, setO_7, setO_8, errV, cellsEq_hs q2 q2, cellsEq_hs q1 q1, hsG_len, eg]
  refine ⟨by omega, by omega, und34, ?_⟩
  refine (kCount [(q1, [])] (by decide) st2 t3 _ 8 7 (by omega) rfl rfl rfl).mono ?_
  rintro g O' ⟨rfl, rfl⟩
  simp +contextual -implicitDefEqProofs (maxSteps := 2000000) (disch := omega) only [drawC, drawK, keepT, ↓lenV, binV, ↓unV, ↓loadV, ↓storeV, ↓indexAddrV, ↓allocV, ↓buildV, ↓buildSliceV, fillG, fillE, place, GVal.cells, grp, GVal.ofConst, ↓resV, resG, List.map, List.headD, List.take, List.drop, ↓reduceIte, Nat.reduceEqDiff, Nat.reduceAdd, Nat.reduceSub, Nat.reduceLeDiff, reduceCtorEq, implies_true, ne_eq, aggV, Tag.cap, List.replicate, allSolid, GVal.solid, Nat.reduceBEq, Nat.reduceMul, Nat.reduceLT, List.length_map, List.length_range, splice, vcA, ↓vcB, vcC, fbFu, e6, qE1, qE2, qE3, qE4, qE5, qE6, qE7, qE8, qE9, qR1, qR2, qR3, qR9, len32, take32, take32a, drop32a, drop33a, take33a, len33, solid33, solidH, setO_6, setO_7, setO_8, errV]
  refine (kCount kM (by decide) st s5 _ 0 1 (by omega) rfl rfl rfl).mono ?_
  rintro g O' ⟨rfl, rfl⟩
  simp +contextual -implicitDefEqProofs (maxSteps := 2000000) (disch := omega) only [drawC, drawK, keepT, ↓lenV, binV, ↓unV, ↓loadV, ↓storeV, ↓indexAddrV, ↓allocV, ↓buildV, ↓buildSliceV, fillG, fillE, place, GVal.cells, grp, GVal.ofConst, ↓resV, resG, List.map, List.headD, List.take, List.drop, ↓reduceIte, Nat.reduceEqDiff, Nat.reduceAdd, Nat.reduceSub, Nat.reduceLeDiff, reduceCtorEq, implies_true, ne_eq, aggV, Tag.cap, List.replicate, allSolid, GVal.solid, Nat.reduceBEq, Nat.reduceMul, Nat.reduceLT, List.length_map, List.length_range, splice, vcA, ↓vcB, vcC, fbFu, e6, qE1, qE2, qE3, qE4, qE5, qE6, qE7, qE8, qE9, qR1, qR2, qR3, qR9, len32, take32, take32a, drop32a, drop33a, take33a, len33, solid33, solidH, setO_6, setO_7, setO_8, errV, kl]
  refine (cA st s5 _).mono ?_
  rintro g O' ⟨rfl, rfl⟩
  simp +contextual -implicitDefEqProofs (maxSteps := 2000000) (disch := omega) only [drawC, drawK, keepT, ↓lenV, binV, ↓unV, ↓loadV, ↓storeV, ↓indexAddrV, ↓allocV, ↓buildV, ↓buildSliceV, fillG, fillE, place, GVal.cells, grp, GVal.ofConst, ↓resV, resG, List.map, List.headD, List.take, List.drop, ↓reduceIte, Nat.reduceEqDiff, Nat.reduceAdd, Nat.reduceSub, Nat.reduceLeDiff, reduceCtorEq, implies_true, ne_eq, aggV, Tag.cap, List.replicate, allSolid, GVal.solid, Nat.reduceBEq, Nat.reduceMul, Nat.reduceLT, List.length_map, List.length_range, splice, vcA, ↓vcB, vcC, fbFu, e6, qE1, qE2, qE3, qE4, qE5, qE6, qE7, qE8, qE9, qR1, qR2, qR3, qR9, len32, take32, take32a, drop32a, drop33a, take33a, len33, solid33, solidH, setO_6, setO_7, setO_8, errV, hsG_len, kLen]
  refine (cD st s5 _).mono ?_
  rintro g O' ⟨rfl, rfl⟩
  simp +contextual -implicitDefEqProofs (maxSteps := 2000000) (disch := omega) only [drawC, drawK, keepT, ↓lenV, binV, ↓unV, ↓loadV, ↓storeV, ↓indexAddrV, ↓allocV, ↓buildV, ↓buildSliceV, fillG, fillE, place, GVal.cells, grp, GVal.ofConst, ↓resV, resG, List.map, List.headD, List.take, List.drop, ↓reduceIte, Nat.reduceEqDiff, Nat.reduceAdd, Nat.reduceSub, Nat.reduceLeDiff, reduceCtorEq, implies_true, ne_eq, aggV, Tag.cap, List.replicate, allSolid, GVal.solid, Nat.reduceBEq, Nat.reduceMul, Nat.reduceLT, List.length_map, List.length_range, splice, vcA, ↓vcB, vcC, fbFu, e6, qE1, qE2, qE3, qE4, qE5, qE6, qE7, qE8, qE9, qR1, qR2, qR3, qR9, len32, take32, take32a, drop32a, drop33a, take33a, len33, solid33, solidH, setO_6, setO_7, setO_8, errV, hsG_len, kLen]
  exact ⟨1, .bool true, rfl, by rw [leA_bool]⟩
end Gv.Tryd
/- From a reading of plain data to what it is without memory: with arrays, and how long slices can be at most. -/
set_option linter.unusedVariables false
namespace Gv
open Go Go.RowKit Go.WideShapes Go.ChangeShapes
namespace Z

inductive Sh where
  | int (k : IntKind)
  | bool
  | str
  | slice (e : Sh)
  | agg (l : List Sh)
  | arr (n : Nat) (e : Sh)
mutual
def Sh.size : Sh → Nat
  | .agg l => Sh.sizes l
  | .arr n e => n * e.size
  | _ => 1
def Sh.sizes : List Sh → Nat
  | [] => 0
  | s :: r => s.size + Sh.sizes r
end
mutual
def Sh.low : Sh → Nat
  | .int .i64 => 8
  | .int .u64 => 8
  | .int _ => 1
  | .bool => 1
  | .str => 16
  | .slice _ => 24
  | .agg l => Sh.lows l
  | .arr n e => n * e.low
def Sh.lows : List Sh → Nat
  | [] => 0
  | s :: r => s.low + Sh.lows r
end
mutual
def shB (P : Program) : Sh → TypeId → Bool
  | .int k, t => match P.underlying t with
    | some (.int k') => k = k'
    | _ => false
  | .bool, t => match P.underlying t with
    | some .bool => true
    | _ => false
  | .str, t => match P.underlying t with
    | some .string => true
    | _ => false
  | .slice e, t => match P.underlying t with
    | some (.slice et) => shB P e et && P.cellsOf et == e.size && decide (0 < e.size) && decide (e.low ≤ P.bytesOf et)
    | _ => false
  | .agg l, t => match P.underlying t with
    | some (.struct fs) => shBs P l fs.toList 0 && P.cellsOf t == Sh.sizes l
    | _ => false
  | .arr n e, t => match P.underlying t with
    | some (.array n' et) => n == n' && shB P e et && P.cellsOf et == e.size && P.cellsOf t == n * e.size
    | _ => false
def shBs (P : Program) : List Sh → List Field → Nat → Bool
  | [], [], _ => true
  | s :: r, f :: fs, o => f.offset == o && P.cellsOf f.type == s.size && shB P s f.type && shBs P r fs (o + s.size)
  | _, _, _ => false
end
mutual
def Den : Sh → List GVal → Prop
  | .int k, gs => ∃ n, gs = [.int k n] ∧ (Lit.int k n).wf = true
  | .bool, gs => ∃ b, gs = [.bool b]
  | .str, gs => ∃ s, gs = [.str s] ∧ s.length ≤ reachBytes
  | .slice e, gs => ∃ xs, gs = [.slice xs .none] ∧ (xs.length ≤ maxLen ∧ xs.length * e.low ≤ reachBytes) ∧ ∀ x ∈ xs, Den e x
  | .agg l, gs => ∃ ps, gs = ps.flatten ∧ Dens l ps
  | .arr n e, gs => ∃ ps : List (List GVal), gs = ps.flatten ∧ ps.length = n ∧ ∀ p ∈ ps, Den e p ∧ p.length = e.size
def Dens : List Sh → List (List GVal) → Prop
  | [], ps => ps = []
  | s :: r, ps => ∃ p q, ps = p :: q ∧ Den s p ∧ Dens r q
end

theorem mem_all {H : Type} {P : Program} {e : TypeId} : ∀ {ds : List (DataW H)} {d : DataW H}, d ∈ ds → ∀ n ∈ d.weights P e, n ∈ DataW.weightsAll P e ds
  | a :: r, d, hd, n, hn => by
    simp only [DataW.weightsAll, List.mem_append]
    rcases List.mem_cons.1 hd with rfl | hd
    · exact .inl hn
    · exact .inr (mem_all hd n hn)
  | [], d, hd, n, hn => by simp at hd
section
variable {H : Type} {enc : TypeId × Value → H} {P : Program} {w : World} {spare : Nat → Bool} {held : Bool}

mutual
theorem rd : ∀ (S : Sh) (n : Nat) (t : TypeId) (cs : List Value) (x : DataW H × List MemPlace), shB P S t = true → DataW.trod enc P w 0 spare held n t cs = some x → (∀ k ∈ x.1.weights P t, k ≤ reachBytes) → ∃ gs, CellsOK w cs gs ∧ Den S gs ∧ cs.length = S.size
  | .int k, n, t, cs, x, hs, h, hw => by
    unfold shB at hs
    split at hs
    · rename_i k' hu
      have hs : k = k' := by simpa using hs
      subst hs
      obtain ⟨m, rfl, _, hwf⟩ := DataW.trod_int hu h
      exact ⟨[.int k m], .one rfl (.int _ _), ⟨m, rfl, hwf⟩, rfl⟩
    · cases hs
  | .bool, n, t, cs, x, hs, h, hw => by
    unfold shB at hs
    split at hs
    · rename_i hu
      obtain ⟨b, rfl, _⟩ := DataW.trod_bool hu h
      exact ⟨[.bool b], .one rfl (.bool _), ⟨b, rfl⟩, rfl⟩
    · cases hs
  | .str, n, t, cs, x, hs, h, hw => by
    unfold shB at hs
    split at hs
    · rename_i hu
      cases n with
      | zero => simp [DataW.trod] at h
      | succ n =>
        unfold DataW.trod at h
        rw [hu] at h
        match cs, h with
        | [.string b], h =>
          simp only at h
          split at h
          · rename_i hl
            simp only [Option.some.injEq] at h
            subst h
            refine ⟨[.str b.data.toList], .one rfl ?_, ⟨_, rfl, ?_⟩, rfl⟩
            · exact VR.str (E := Env.all w) b.data.toList
            · exact hw _ (by simp [DataW.weights])
          · cases h
    · cases hs
  | .slice e, n, t, cs, x, hs, h, hw => by
    unfold shB at hs
    split at hs
    · rename_i et hu
      simp only [Bool.and_eq_true, beq_iff_eq] at hs
      obtain ⟨⟨⟨hs, hsz⟩, hpos⟩, hlow⟩ := hs
      have hpos : 0 < e.size := by simpa using hpos
      have hlow : e.low ≤ P.bytesOf et := by simpa using hlow
      rcases DataW.trod_slice hu h with ⟨rfl, _⟩ | ⟨a, len, cap, elems, rest, m, rfl, rfl, rfl, _, hlc, hcm, hel, helem, _, _⟩
      · exact ⟨[.slice [] .none], .one rfl (.slice none 0 0 [] .none 0 (fun _ => .bool true) rfl (Nat.le_refl _) (by simp) (fun hx => absurd rfl hx) (by simp) trivial), ⟨[], rfl, ⟨by simp, by simp⟩, by simp⟩, rfl⟩
      · have hw0 : (elems.length + rest.length) * P.bytesOf et ≤ reachBytes := by
          have := hw ((elems.length + rest.length) * P.bytesOf et) (by show _ ∈ DataW.weights P t (.slice _ _); rw [DataW.weights]; simp only [hu, List.length_map]; exact List.mem_cons_self)
          exact this
        have hwE : ∀ d ∈ elems.map (·.1), ∀ k ∈ d.weights P et, k ≤ reachBytes := fun d hd k hk =>
          hw k (by show k ∈ DataW.weights P t (.slice _ _); rw [DataW.weights]; simp only [hu]; exact List.mem_cons_of_mem _ (List.mem_append_left _ (mem_all hd k hk)))
        have each : ∀ i : Nat, ∃ cs gs, i < len → (w.cells? 0 (a.add (i * P.cellsOf et)) (P.cellsOf et)) = some cs ∧ CellsOK w cs gs ∧ Den e gs ∧ cs.length = e.size := by
          intro i
          by_cases hi : i < len
          · have := helem i hi
            rw [← hel] at hi
            rw [List.getElem?_eq_getElem hi, Option.bind_eq_some_iff] at this
            obtain ⟨cs, h1, h2⟩ := this
            obtain ⟨gs, h3, h4, h5⟩ := rd e m et cs _ hs h2 (fun k hk => hwE _ (List.mem_map_of_mem (List.getElem_mem hi)) k hk)
            exact ⟨cs, gs, fun _ => ⟨h1, h3, h4, h5⟩⟩
          · exact ⟨[], [], fun h => absurd h hi⟩
        obtain ⟨C, hC⟩ := Classical.axiomOfChoice each
        obtain ⟨G, hCG⟩ := Classical.axiomOfChoice hC
        refine ⟨[.slice ((List.range len).map G) .none], .one rfl ?_, ⟨_, rfl, ⟨by simp; omega, ?_⟩, fun x hx => ?_⟩, rfl⟩
        · have hG : ∀ i, i < len → (G i).length = e.size := fun i hi => by rw [← (hCG i hi).2.1.1]; exact (hCG i hi).2.2.2
          have cell : ∀ i, i < len → ∀ j, j < e.size → w.cell? ((a.add (i * e.size)).add j) = (C i)[j]? := fun i hi j hj => by
            have := cells_at (hCG i hi).1
            rw [hsz] at this
            exact this.2 j hj
          have dm : ∀ k, k < len * e.size → k / e.size < len ∧ k % e.size < e.size ∧ k / e.size * e.size + k % e.size = k := fun k hk =>
            ⟨(Nat.div_lt_iff_lt_mul hpos).2 hk, Nat.mod_lt _ hpos, by rw [Nat.mul_comm]; exact Nat.div_add_mod k e.size⟩
          have hszs : ∀ x ∈ (List.range len).map G, x.length = e.size := fun x hx => by
            obtain ⟨i, hi, rfl⟩ := List.mem_map.1 hx
            exact hG i (by simpa using hi)
          refine .slice (some a) len cap _ .none e.size (fun k => ((C (k / e.size))[k % e.size]?).getD (.bool true)) (by simp) hlc hszs (fun hx => ?_) (fun k g hk => ?_) trivial
          · have hlen : 0 < len := by
              rcases Nat.eq_zero_or_pos len with h0 | h0
              · subst h0; simp at hx
              · exact h0
            have in_ : ∀ i, i < len → ∀ j, j < e.size → ∃ v, (C i)[j]? = some v ∧ v.oneCell' = true := fun i hi j hj => by
              have hl : j < (C i).length := by rw [(hCG i hi).2.2.2]; exact hj
              exact ⟨_, List.getElem?_eq_getElem hl, (hCG i hi).2.1.2.1 _ (List.getElem_mem hl)⟩
            obtain ⟨b, off, spot⟩ := a
            have hspot : spot = none := by
              obtain ⟨v, hv, _⟩ := in_ 0 hlen 0 hpos
              have := cell 0 hlen 0 hpos
              rw [hv] at this
              simpa [Addr.add] using World.cell?_spot this
            subst hspot
            refine ⟨b, off, rfl, fun k hk => ?_⟩
            obtain ⟨d1, d2, d3⟩ := dm k hk
            obtain ⟨v, hv, hv2⟩ := in_ _ d1 _ d2
            have := cell _ d1 _ d2
            rw [hv] at this
            rw [hv]
            refine Env.all_at ?_ hv2
            rw [add_at, add_at, Nat.add_assoc, d3] at this
            exact this
          · have hk' : k < len * e.size := by
              have := (List.getElem?_eq_some_iff.1 hk).1
              rw [flat_len hszs] at this
              simpa using this
            obtain ⟨d1, d2, d3⟩ := dm k hk'
            have hx : ((List.range len).map G)[k / e.size]? = some (G (k / e.size)) := by simp [d1]
            have e1 := flatten_at _ hszs (k / e.size) (k % e.size) _ hx d2
            rw [d3, hk] at e1
            have hl : k % e.size < (C (k / e.size)).length := by rw [(hCG _ d1).2.2.2]; exact d2
            rw [List.getElem?_eq_getElem hl]
            exact (hCG _ d1).2.1.2.2 _ _ _ (List.getElem?_eq_getElem hl) e1.symm
        · rw [List.length_map, List.length_range]
          refine Nat.le_trans (Nat.mul_le_mul (by omega : len ≤ elems.length + rest.length) hlow) hw0
        · obtain ⟨i, hi, rfl⟩ := List.mem_map.1 hx
          exact (hCG i (by simpa using hi)).2.2.1
    · cases hs
  | .agg l, n, t, cs, x, hs, h, hw => by
    unfold shB at hs
    split at hs
    · rename_i fs hu
      simp only [Bool.and_eq_true, beq_iff_eq] at hs
      obtain ⟨hs, hsz⟩ := hs
      obtain ⟨xs, m, rfl, rfl, hcl, hxl, hf⟩ := DataW.trod_struct hu h
      obtain ⟨ps, h1, h2⟩ := rds l m fs.toList cs 0 hs (by simpa [hsz] using hcl) (fun f hf' => by
        obtain ⟨i, hi⟩ := List.getElem?_of_mem hf'
        have := hf i f (by simpa using hi)
        have hlt : i < xs.length := by rw [hxl]; simpa using (List.getElem?_eq_some_iff.1 hi).1
        rw [List.getElem?_eq_getElem hlt] at this
        refine ⟨_, this, fun k hk => hw k ?_⟩
        simp only [DataW.weights, hu]
        exact DataW.weights_mem_each (j := i) (t := f.type) (d := xs[i].1) (by rw [List.getElem?_map, hi]; rfl) (by rw [List.getElem?_map, List.getElem?_eq_getElem hlt]; rfl) k hk)
      exact ⟨ps.flatten, by simpa using h1, ⟨ps, rfl, h2⟩, by rw [hcl, hsz]; rfl⟩
    · cases hs
  | .arr c e, n, t, cs, x, hs, h, hw => by
    unfold shB at hs
    split at hs
    · rename_i n' et hu
      simp only [Bool.and_eq_true, beq_iff_eq] at hs
      obtain ⟨⟨⟨rfl, hs⟩, hsz⟩, hct⟩ := hs
      obtain ⟨xs, m, rfl, rfl, hcl, hxl, hf⟩ := DataW.trod_array hu h
      have key : ∀ k, k ≤ c → ∃ ps : List (List GVal), CellsOK w (cs.take (k * e.size)) ps.flatten ∧ ps.length = k ∧ ∀ p ∈ ps, Den e p ∧ p.length = e.size := by
        intro k
        induction k with
        | zero => exact fun _ => ⟨[], by simp [CellsOK], rfl, by simp⟩
        | succ k ih =>
          intro hk
          obtain ⟨ps, h1, h2, h3⟩ := ih (by omega)
          have := hf k (by omega)
          have hlt : k < xs.length := by omega
          rw [List.getElem?_eq_getElem hlt] at this
          obtain ⟨gs, q1, q2, q3⟩ := rd e m et _ _ hs this (fun z hz => hw z (by
            simp only [DataW.weights, hu]
            exact mem_all (List.mem_map_of_mem (List.getElem_mem hlt)) z hz))
          refine ⟨ps ++ [gs], ?_, by simp [h2], fun p hp => ?_⟩
          · rw [List.flatten_append, List.flatten_cons, List.flatten_nil, List.append_nil, Nat.succ_mul, List.take_add]
            rw [hsz] at q1
            exact h1.append q1
          · rcases List.mem_append.1 hp with hp | hp
            · exact h3 p hp
            · simp at hp; subst hp
              exact ⟨q2, by rw [← q1.1, q3]⟩
      obtain ⟨ps, h1, h2, h3⟩ := key c (Nat.le_refl _)
      rw [List.take_of_length_le (by omega)] at h1
      exact ⟨ps.flatten, h1, ⟨ps, rfl, h2, h3⟩, by rw [hcl, hct]; rfl⟩
    · cases hs
theorem rds : ∀ (l : List Sh) (n : Nat) (fs : List Field) (cs : List Value) (o : Nat), shBs P l fs o = true → cs.length = o + Sh.sizes l →
    (∀ f ∈ fs, ∃ x, DataW.trod enc P w 0 spare held n f.type ((cs.drop f.offset).take (P.cellsOf f.type)) = some x ∧ ∀ k ∈ x.1.weights P f.type, k ≤ reachBytes) → ∃ ps, CellsOK w (cs.drop o) ps.flatten ∧ Dens l ps
  | [], n, fs, cs, o, hs, hl, h => by
    refine ⟨[], ?_, rfl⟩
    rw [List.drop_eq_nil_of_le (by rw [hl]; simp [Sh.sizes])]
    exact ⟨rfl, by simp, fun j c g h1 => by simp at h1⟩
  | s :: r, n, fs, cs, o, hs, hl, h => by
    match fs, hs, h with
    | f :: fs, hs, h =>
      unfold shBs at hs
      simp only [Bool.and_eq_true, beq_iff_eq] at hs
      obtain ⟨⟨⟨h1, h2⟩, h3⟩, h4⟩ := hs
      obtain ⟨x, hx, hxw⟩ := h f (by simp)
      obtain ⟨gs, q1, q2, q3⟩ := rd s n f.type _ _ h3 hx hxw
      simp only [Sh.sizes] at hl
      obtain ⟨ps, k1, k2⟩ := rds r n fs cs (o + s.size) h4 (by rw [hl]; omega) (fun f' hf' => h f' (by simp [hf']))
      refine ⟨gs :: ps, ?_, ⟨gs, ps, rfl, q2, k2⟩⟩
      rw [List.flatten_cons]
      have e : cs.drop o = (cs.drop f.offset).take (P.cellsOf f.type) ++ cs.drop (o + s.size) := by
        rw [h1, h2, ← List.drop_drop]; exact (List.take_append_drop _ _).symm
      rw [e]
      exact q1.append k1
    | [], hs, h => simp [shBs] at hs
end

def Sh.val : Sh → List GVal → GVal
  | .agg _, gs => .agg gs
  | .arr _ _, gs => .agg gs
  | _, gs => gs.headD .any

end
end Z
end Gv
/- What the listed variable (errors.errorType) holds when a call begins, for this seat. -/
namespace Go.Proofs.YtgkglnjmiobdmaaDoor
open Go Go.ChangeShapes Go.WideShapes Go.RowKit
theorem laidOwn : ownKnob Tryd.prog.godebug = none := by kernel_rfl
abbrev laidL : List (String × DataW Unit) := [("errors.errorType", Rows.laid_errors_errorType)]
theorem laidVar : Tryd.prog.globalNamed "errors.errorType" = some 0 := by kernel_rfl
theorem laidRt : (Tryd.prog.cutTypes.find? (·.1 == "internal/reflectlite.rtype")).map (·.2) = some 119 := by kernel_rfl
theorem laidRow : ((List.range 181).filter fun t => Tryd.prog.rowNamed t [101, 114, 114, 111, 114]) = [35] := by kernel_rfl
theorem laidSize : Tryd.prog.types.size = 181 := by kernel_rfl
theorem laidHandle {W : World} (h : laidMetH Tryd.prog laidL W) : W.cell? ⟨0, 0, none⟩ = some (.iface 119 (.agg #[.pointer (some ⟨2, 35, none⟩)])) := by
  have h' : laidMet Tryd.prog [] W ∧ handlesMet Tryd.prog laidL W := h
  obtain ⟨name, u, ty, e1, e2, e3, e4, e5⟩ := h'.2 _ (List.mem_singleton.2 rfl)
  have en : name = [101, 114, 114, 111, 114] := (Option.some.inj e1).symm
  subst en
  obtain rfl := Option.some.inj (laidRt.symm.trans e2)
  have hm : ty ∈ (List.range 181).filter fun t => Tryd.prog.rowNamed t [101, 114, 114, 111, 114] := List.mem_filter.2 ⟨List.mem_range.2 (by rw [← laidSize]; exact e3), e4⟩
  rw [laidRow] at hm
  obtain rfl := List.mem_singleton.1 hm
  have hh : typeHandle Tryd.prog 35 = .pointer (some ⟨2, 35, none⟩) := by kernel_rfl
  rw [hh] at e5
  simpa using World.var?_cell laidVar e5 0
theorem laidGlobs {W : World} (h : laidMetH Tryd.prog laidL W) : Gv.GlobsIn W := fun p hp => by
  obtain rfl : p = (0, 0, .iface 119 (.agg #[.pointer (some ⟨2, 35, none⟩)])) := by simpa [Gv.globs] using hp
  exact ⟨laidHandle h, rfl⟩
noncomputable def laidWorld (os : Os) : World :=
  let w0 := World.holding Tryd.prog os ⟨#[], #[], []⟩
  { w0 with heap := w0.heap.modify 0 fun
      | .cells _ t frozen => .cells #[.iface 119 (.agg #[.pointer (some ⟨2, 35, none⟩)])] t frozen
      | o => o }
theorem laidWorld_met (os : Os) (args : Array Value) : laidMetH Tryd.prog laidL ((laidWorld os).forCall (fun _ _ => 0) ⟨#[], args, []⟩).memory :=
  laidMetH_of_parts (laidMet_nil _ _) (by kernel_rfl)
end Go.Proofs.YtgkglnjmiobdmaaDoor
