/- Contracts: parents and children of a set. -/
import Derived.Test.YthidcccnjplafaaGreatP12
import Derived.Test.YthidcccnjplafaaGreatP5
set_option linter.unusedVariables false
set_option linter.unusedSimpArgs false
set_option maxRecDepth 20000
set_option maxHeartbeats 8000000
namespace Gv.Tryz
open Go Gv Go.Proofs
theorem both_bounds {S : List Sp.S} {lo hi : Int} {x : Sp.S} (hx : x ∈ Sp.bothS S [(lo, hi)]) : 0 ≤ x.1 ∧ x.1 ≤ x.2 ∧ lo ≤ x.1 ∧ x.2 ≤ hi := by
  have h1 := (Sp.bothS_rt S [(lo, hi)]).mem hx
  have h2 := ((Sp.bothS_has _ _ _).1 ((Sp.bothS_rt S [(lo, hi)]).lo (Int.le_refl _) hx)).2
  have h3 := ((Sp.bothS_has _ _ _).1 ((Sp.bothS_rt S [(lo, hi)]).hi (Int.le_refl _) hx)).2
  obtain ⟨p, hp, a1, a2, a3⟩ := h2
  obtain ⟨q, hq, b1, b2, b3⟩ := h3
  simp only [List.mem_singleton] at hp hq
  subst hp; subst hq
  simp only at a2 b3
  omega
theorem has_moved (S : List Sp.S) (b n : Int) : Sp.has (movedS S b) n ↔ ∃ x ∈ S, 0 ≤ n ∧ x.1 ≤ n - b ∧ n - b ≤ x.2 := by
  unfold Sp.has movedS
  constructor
  · rintro ⟨s, hs, h0, h1, h2⟩
    obtain ⟨x, hx, rfl⟩ := List.mem_map.1 hs
    simp only at h1 h2
    exact ⟨x, hx, h0, by omega, by omega⟩
  · rintro ⟨x, hx, h0, h1, h2⟩
    exact ⟨_, List.mem_map.2 ⟨x, hx, rfl⟩, h0, by simp only; omega, by simp only; omega⟩
theorem has_flatMap {α : Type} (l : List α) (f : α → List Sp.S) (n : Int) : Sp.has (l.flatMap f) n ↔ ∃ x ∈ l, Sp.has (f x) n := by
  unfold Sp.has
  constructor
  · rintro ⟨s, hs, h⟩
    obtain ⟨x, hx, hs⟩ := List.mem_flatMap.1 hs
    exact ⟨x, hx, s, hs, h⟩
  · rintro ⟨x, hx, s, hs, h⟩
    exact ⟨s, List.mem_flatMap.2 ⟨x, hx, hs⟩, h⟩
theorem flatMap_len {α : Type} (f : α → List Sp.S) (c : Nat) : ∀ (l : List α), (∀ x ∈ l, (f x).length ≤ c) → (l.flatMap f).length ≤ l.length * c
  | [], _ => by simp
  | a :: r, h => by
    have h1 := flatMap_len f c r fun x hx => h x (by simp [hx])
    have h2 := h a (by simp)
    rw [List.flatMap_cons, List.length_append, List.length_cons, Nat.succ_mul]; omega
theorem flatMap_take {α : Type} (f : α → List Sp.S) (l : List α) (d : α) (k : Nat) (h : k < l.length) : (l.take (k + 1)).flatMap f = (l.take k).flatMap f ++ f (l.getD k d) := by
  rw [List.take_add_one, List.flatMap_append]; simp [List.getD, h]
theorem getD_bounds {l : List Int} {a b : Int} (h : ∀ x ∈ l, a ≤ x ∧ x ≤ b) (ha : a ≤ 0) (hb : 0 ≤ b) (i : Nat) : a ≤ l.getD i 0 ∧ l.getD i 0 ≤ b := by
  by_cases hi : i < l.length
  · exact h _ (getD_mem hi)
  · rw [List.getD_eq_getElem?_getD, List.getElem?_eq_none (by omega)]; exact ⟨ha, hb⟩
theorem idsOk {m o : List (List Int)} (h : TOK m o) {l : List Int} (hl : ∀ p ∈ l, inT m o p) : Sp.Ok (l.map fun i => (i, i)) := fun s hs => by
  obtain ⟨i, hi, rfl⟩ := List.mem_map.1 hs
  have := inT_range h (hl i hi)
  simp only; omega
def parOut (S : List Sp.S) (x : Seg) : List Sp.S := (if Sp.hasB S x.lo = true then Sp.nf (x.par.map fun i => (i, i)) else []) ++ movedS (Sp.bothS S [(x.lo + 1, x.hi)]) (-1)
theorem parOut_len {m o : List (List Int)} (h : TOK m o) {S : List Sp.S} {x : Seg} (hx : FlatS m o x) (hS : S.length ≤ 1000) : (parOut S x).length ≤ 1005 := by
  unfold parOut
  have h1 := flat_par4 h hx
  have h2 := Sp.nf_len (x.par.map fun i => (i, i))
  have h3 := Sp.bothS_len S [(x.lo + 1, x.hi)]
  rw [List.length_map] at h2
  rw [List.length_append, movedS_len]
  split <;> simp at * <;> omega
theorem parOut_ok {m o : List (List Int)} (h : TOK m o) {S : List Sp.S} {x : Seg} (hx : FlatS m o x) : Sp.Ok (parOut S x) := by
  refine Sp.Ok.app ?_ ?_
  · split
    · exact Sp.nf_ok (idsOk h fun p hp => by rw [hx.par] at hp; exact (h.par hp).2)
    · exact Sp.Ok.nil
  · intro s hs
    obtain ⟨y, hy, rfl⟩ := List.mem_map.1 hs
    have := both_bounds hy
    have := hx.top
    simp only; omega
theorem parOut_has {m o : List (List Int)} (h : TOK m o) {S : List Sp.S} {x : Seg} (hx : FlatS m o x) (n : Int) : Sp.has (parOut S x) n ↔ ∃ y, x.lo ≤ y ∧ y ≤ x.hi ∧ Sp.has S y ∧ n ∈ parI m o y := by
  unfold parOut
  rw [Sp.has_app, has_moved]
  constructor
  · rintro (h1 | ⟨p, hp, h0, h1, h2⟩)
    · split at h1
      · rename_i hq
        rw [Sp.nf_has, has_ones _ _ (fun p hp => by rw [hx.par] at hp; exact (inT_range h (h.par hp).2).1)] at h1
        exact ⟨x.lo, Int.le_refl _, hx.le, (Sp.hasB_iff _ _).1 hq, by rw [← hx.par]; exact h1⟩
      · exact absurd h1 (by simp [Sp.has])
    · have hb := both_bounds hp
      have hh : Sp.has (Sp.bothS S [(x.lo + 1, x.hi)]) (n + 1) := ⟨p, hp, by omega, by omega, by omega⟩
      refine ⟨n + 1, by omega, by omega, ((Sp.bothS_has _ _ _).1 hh).1, ?_⟩
      rw [hx.one (n + 1) (by omega) (by omega)]; simp
  · rintro ⟨y, h1, h2, h3, h4⟩
    by_cases e : y = x.lo
    · left
      rw [e] at h3 h4
      rw [if_pos ((Sp.hasB_iff _ _).2 h3), Sp.nf_has, has_ones _ _ (fun p hp => by rw [hx.par] at hp; exact (inT_range h (h.par hp).2).1), hx.par]
      exact h4
    · right
      rw [hx.one y (by omega) h2] at h4
      have en : n = y - 1 := by simpa using h4
      have hlo := hx.lo
      have hh : Sp.has (Sp.bothS S [(x.lo + 1, x.hi)]) y := (Sp.bothS_has _ _ _).2 ⟨h3, (x.lo + 1, x.hi), by simp, by omega, by simp only; omega, by simp only; omega⟩
      obtain ⟨p, hp, a0, a1, a2⟩ := hh
      exact ⟨p, hp, by omega, by omega, by omega⟩
theorem DagOK.parEq {m o : List (List Int)} {L : List (List Seg)} (h : DagOK m o L) (s : List Sp.S) : Sp.nf ((L.getD 0 []).flatMap (parOut (idsP m o (Sp.has s)))) = idsP m o (pP m o s) := by
  refine idsP_eq (Sp.nf_rt _) fun n => ?_
  rw [Sp.nf_has, has_flatMap]
  constructor
  · rintro ⟨x, hx, hn⟩
    obtain ⟨y, h1, h2, h3, h4⟩ := (parOut_has h.tok (h.flat x hx) n).1 hn
    have := (idsP_has _ _ _ _).1 h3
    exact ⟨(h.tok.par h4).2, y, this.1, this.2, h4⟩
  · rintro ⟨hn, y, hy, hs, hp⟩
    obtain ⟨k, hk, hin, _⟩ := h.seg (i := 0) (by have := h.len1; omega) hy
    exact ⟨_, seg_mem hk, (parOut_has h.tok (h.flat _ (seg_mem hk)) n).2 ⟨y, hin.1, hin.2, (idsP_has _ _ _ _).2 ⟨hy, hs⟩, hp⟩⟩
theorem aParents {m o : List (List Int)} {L : List (List Seg)} (h : DagOK m o L) (s : List Sp.S) (t : Tag) (hl : s.length ≤ 1000000) (hs : Sp.Ok s) : DPure 15 L (allN L) [.slice (spl s) t] (.slice (spl (idsP m o (pP m o s))) .none) := by
  intro st kk
  have hS := h.thereEq s
  have lS := idsP_len m o (Sp.has s)
  have oS := idsP_ok h.tok (Sp.has s)
  have hN := h.allLen
  have hT := h.tok.len
  have eP := h.parEq s
  have hfl := h.flat
  have hll := (h.size 0).1
  refine GCalls.dropTo ?_
  refine h15.calls mixS (by simp) ?_
  simp only [gstart, s15, List.cons_append, List.nil_append, List.length_cons, List.length_nil, Nat.reduceAdd, Nat.reduceSub, List.replicate_succ, List.replicate_zero]
  simp +contextual -implicitDefEqProofs (maxSteps := 2000000) (disch := omega) only [↓lenV, binV, optV, ↓loadV, ↓storeV, ↓fieldAddrV, ↓indexAddrV, ↓allocV, ↓sliceV, ↓appendV, ↓srcV, bound, cutTag, hiTag, GVal.cells, grp, GVal.ofConst, ↓resV, resG, List.map, List.headD, List.take, List.drop, ↓reduceIte, Nat.reduceEqDiff, Nat.reduceAdd, Nat.reduceSub, Nat.reduceLeDiff, reduceCtorEq, implies_true, ne_eq, ↓asrcV, Tag.cap, List.replicate, allSolid, GVal.solid, Nat.reduceBEq, Nat.reduceMul, Nat.reduceLT, List.length_map, List.length_range, splice, vcA, ↓vcB, vcC, fbFz, e15]
  refine (aThere L (allN L) s t (by omega) hs h.allOk).then ?_
  rw [hS]
  generalize idsP m o (Sp.has s) = S at *
  simp +contextual -implicitDefEqProofs (maxSteps := 2000000) (disch := omega) only [↓lenV, binV, optV, ↓loadV, ↓storeV, ↓fieldAddrV, ↓indexAddrV, ↓allocV, ↓sliceV, ↓appendV, ↓srcV, bound, cutTag, hiTag, GVal.cells, grp, GVal.ofConst, ↓resV, resG, List.map, List.headD, List.take, List.drop, ↓reduceIte, Nat.reduceEqDiff, Nat.reduceAdd, Nat.reduceSub, Nat.reduceLeDiff, reduceCtorEq, implies_true, ne_eq, ↓asrcV, Tag.cap, List.replicate, allSolid, GVal.solid, Nat.reduceBEq, Nat.reduceMul, Nat.reduceLT, List.length_map, List.length_range, splice, vcA, ↓vcB, vcC, fbFz, e15]
  refine (aFlat L (allN L) h.len1).then ?_
  generalize L.getD 0 [] = l at *
  simp +contextual -implicitDefEqProofs (maxSteps := 2000000) (disch := omega) only [↓lenV, binV, optV, ↓loadV, ↓storeV, ↓fieldAddrV, ↓indexAddrV, ↓allocV, ↓sliceV, ↓appendV, ↓srcV, bound, cutTag, hiTag, GVal.cells, grp, GVal.ofConst, ↓resV, resG, List.map, List.headD, List.take, List.drop, ↓reduceIte, Nat.reduceEqDiff, Nat.reduceAdd, Nat.reduceSub, Nat.reduceLeDiff, reduceCtorEq, implies_true, ne_eq, ↓asrcV, Tag.cap, List.replicate, allSolid, GVal.solid, Nat.reduceBEq, Nat.reduceMul, Nat.reduceLT, List.length_map, List.length_range, splice, vcA, ↓vcB, vcC, fbFz, e15, segsG_length]
  have olen : ∀ k, ((l.take k).flatMap (parOut S)).length ≤ k * 1005 := fun k => by
    have := flatMap_len (parOut S) 1005 (l.take k) fun x hx => parOut_len h.tok (hfl x (List.mem_of_mem_take hx)) (by omega)
    rw [List.length_take] at this
    have : min k l.length * 1005 ≤ k * 1005 := Nat.mul_le_mul_right _ (Nat.min_le_left _ _)
    omega
  refine vcSLoop_by (ι := { p : Nat × Nat // p.1 ≤ l.length }) (fun p => ⟨[.ptr 0 st 0 0, .slice (spl S) .none, .any, .any, .any, .slice (spl ((l.take p.1.1).flatMap (parOut S))) (.tok 1 p.1.2), .any, .any, .any, .any, .any, .any, .slice (segsG l) .none, .int .i64 l.length, .int .i64 (p.1.1 : Nat)] ++ List.replicate 25 .any, [.row st 3 [dagG L (allN L) kk], .tok p.1.2 2]⟩) (fun p => l.length - p.1.1) ?_ ?_
  · refine Into.tok 5 2 [] rfl rfl ?_
    simp +contextual -implicitDefEqProofs (maxSteps := 2000000) (disch := omega) only [↓lenV, binV, optV, ↓loadV, ↓storeV, ↓fieldAddrV, ↓indexAddrV, ↓allocV, ↓sliceV, ↓appendV, ↓srcV, bound, cutTag, hiTag, GVal.cells, grp, GVal.ofConst, ↓resV, resG, List.map, List.headD, List.take, List.drop, ↓reduceIte, Nat.reduceEqDiff, Nat.reduceAdd, Nat.reduceSub, Nat.reduceLeDiff, reduceCtorEq, implies_true, ne_eq, ↓asrcV, Tag.cap, List.replicate, allSolid, GVal.solid, Nat.reduceBEq, Nat.reduceMul, Nat.reduceLT, List.length_map, List.length_range, splice, vcA, ↓vcB, vcC, fbFz, e15]
    intro u
    exact Into.first ⟨(0, u), by omega⟩ ⟨[], by simp [spl]⟩ (by simp [WL, leG_self, leG_any, spl])
  · rintro ⟨⟨k, u⟩, hk⟩
    change k ≤ l.length at hk
    by_cases hkl : k < l.length
    · have d0 : ((k : Int) < (l.length : Int)) = True := eq_true (by omega)
      have eS := segsG_at l k hkl
      have eN := flatMap_take (parOut S) l default k hkl
      have lk := olen k
      have hF := hfl _ (seg_mem hkl)
      have hp4 := flat_par4 h.tok hF
      have hpr : ∀ p ∈ (l.getD k default).par, inT m o p := fun p hp => by rw [hF.par] at hp; exact (h.tok.par hp).2
      have hpb : ∀ i, -9223372036854775808 ≤ (l.getD k default).par.getD i 0 ∧ (l.getD k default).par.getD i 0 ≤ 9223372036854775807 := getD_bounds (fun p hp => by have := inT_range h.tok (hpr p hp); omega) (by omega) (by omega)
      have q1 := hF.lo
      have q2 := hF.le
      have q3 := hF.top
      have q4 := fun x hx => both_bounds (S := S) (lo := (l.getD k default).lo + 1) (hi := (l.getD k default).hi) (x := x) hx
      generalize l.getD k default = x at *
      generalize (l.take k).flatMap (parOut S) = A at *
      have eU : parOut S x = (if Sp.hasB S x.lo = true then Sp.nf (x.par.map fun i => (i, i)) else []) ++ movedS (Sp.bothS S [(x.lo + 1, x.hi)]) (-1) := rfl
      rw [eU] at eN
      clear eU
      have q5 := Sp.bothS_len S [(x.lo + 1, x.hi)]
      have q6 := Sp.nf_len (x.par.map fun i => (i, i))
      rw [List.length_map] at q6
      simp only [List.length_singleton] at q5
      simp +contextual -implicitDefEqProofs (maxSteps := 2000000) (disch := omega) only [↓lenV, binV, optV, ↓loadV, ↓storeV, ↓fieldAddrV, ↓indexAddrV, ↓allocV, ↓sliceV, ↓appendV, ↓srcV, bound, cutTag, hiTag, GVal.cells, grp, GVal.ofConst, ↓resV, resG, List.map, List.headD, List.take, List.drop, ↓reduceIte, Nat.reduceEqDiff, Nat.reduceAdd, Nat.reduceSub, Nat.reduceLeDiff, reduceCtorEq, implies_true, ne_eq, ↓asrcV, Tag.cap, List.replicate, allSolid, GVal.solid, Nat.reduceBEq, Nat.reduceMul, Nat.reduceLT, List.length_map, List.length_range, splice, vcA, ↓vcB, vcC, fbFz, e15, segsG_length, d0, eS, segG, spl_length, all_spl]
      refine ⟨by omega, fun st1 => ?_⟩
      refine (sHas S .none x.lo (by omega) oS).then ?_ (by rfl)
      cases hq : Sp.hasB S x.lo with
      | true =>
        rw [hq, if_pos rfl] at eN
        simp +contextual -implicitDefEqProofs (maxSteps := 2000000) (disch := omega) only [↓lenV, binV, optV, ↓loadV, ↓storeV, ↓fieldAddrV, ↓indexAddrV, ↓allocV, ↓sliceV, ↓appendV, ↓srcV, bound, cutTag, hiTag, GVal.cells, grp, GVal.ofConst, ↓resV, resG, List.map, List.headD, List.take, List.drop, ↓reduceIte, Nat.reduceEqDiff, Nat.reduceAdd, Nat.reduceSub, Nat.reduceLeDiff, reduceCtorEq, implies_true, ne_eq, ↓asrcV, Tag.cap, List.replicate, allSolid, GVal.solid, Nat.reduceBEq, Nat.reduceMul, Nat.reduceLT, List.length_map, List.length_range, splice, vcA, ↓vcB, vcC, fbFz, e15, segsG_length, d0, eS, segG, spl_length, all_spl]
        refine (sOf x.par .none (by omega) hpb).then ?_ (by rfl)
        generalize Sp.nf (x.par.map fun i => (i, i)) = B at *
        simp +contextual -implicitDefEqProofs (maxSteps := 2000000) (disch := omega) only [↓lenV, binV, optV, ↓loadV, ↓storeV, ↓fieldAddrV, ↓indexAddrV, ↓allocV, ↓sliceV, ↓appendV, ↓srcV, bound, cutTag, hiTag, GVal.cells, grp, GVal.ofConst, ↓resV, resG, List.map, List.headD, List.take, List.drop, ↓reduceIte, Nat.reduceEqDiff, Nat.reduceAdd, Nat.reduceSub, Nat.reduceLeDiff, reduceCtorEq, implies_true, ne_eq, ↓asrcV, Tag.cap, List.replicate, allSolid, GVal.solid, Nat.reduceBEq, Nat.reduceMul, Nat.reduceLT, List.length_map, List.length_range, splice, vcA, ↓vcB, vcC, fbFz, e15, segsG_length, d0, eS, segG, spl_length, all_spl]
        refine ⟨by omega, by omega, fun st2 => ?_⟩
        refine (aPart S .none (x.lo + 1) x.hi (by omega) oS (by omega) (by omega)).then ?_ (by rfl)
        have q7 := movedS_len (Sp.bothS S [(x.lo + 1, x.hi)]) (-1)
        have cM := aMoved (Sp.bothS S [(x.lo + 1, x.hi)]) (-1) (by omega) (by omega) (fun z hz => by have := q4 z hz; omega)
        generalize Sp.bothS S [(x.lo + 1, x.hi)] = C at *
        simp +contextual -implicitDefEqProofs (maxSteps := 2000000) (disch := omega) only [↓lenV, binV, optV, ↓loadV, ↓storeV, ↓fieldAddrV, ↓indexAddrV, ↓allocV, ↓sliceV, ↓appendV, ↓srcV, bound, cutTag, hiTag, GVal.cells, grp, GVal.ofConst, ↓resV, resG, List.map, List.headD, List.take, List.drop, ↓reduceIte, Nat.reduceEqDiff, Nat.reduceAdd, Nat.reduceSub, Nat.reduceLeDiff, reduceCtorEq, implies_true, ne_eq, ↓asrcV, Tag.cap, List.replicate, allSolid, GVal.solid, Nat.reduceBEq, Nat.reduceMul, Nat.reduceLT, List.length_map, List.length_range, splice, vcA, ↓vcB, vcC, fbFz, e15, segsG_length, d0, eS, segG, spl_length, all_spl]
        refine cM.then ?_ (by rfl)
        generalize movedS C (-1) = D at *
        simp +contextual -implicitDefEqProofs (maxSteps := 2000000) (disch := omega) only [↓lenV, binV, optV, ↓loadV, ↓storeV, ↓fieldAddrV, ↓indexAddrV, ↓allocV, ↓sliceV, ↓appendV, ↓srcV, bound, cutTag, hiTag, GVal.cells, grp, GVal.ofConst, ↓resV, resG, List.map, List.headD, List.take, List.drop, ↓reduceIte, Nat.reduceEqDiff, Nat.reduceAdd, Nat.reduceSub, Nat.reduceLeDiff, reduceCtorEq, implies_true, ne_eq, ↓asrcV, Tag.cap, List.replicate, allSolid, GVal.solid, Nat.reduceBEq, Nat.reduceMul, Nat.reduceLT, List.length_map, List.length_range, splice, vcA, ↓vcB, vcC, fbFz, e15, segsG_length, d0, eS, segG, spl_length, all_spl, List.length_append]
        refine ⟨by omega, by omega, fun v => ?_⟩
        exact Into.at ⟨(k + 1, v), by show k + 1 ≤ _; omega⟩ (by show _ < _; simp; omega) ⟨[.row st1 5 [segG x]], by simp [eN, spl_append, segG]⟩ (by simp [WL, leG_self, leG_any, leG_int, eN, spl_append])
      | false =>
        rw [hq, if_neg (by simp)] at eN
        simp +contextual -implicitDefEqProofs (maxSteps := 2000000) (disch := omega) only [↓lenV, binV, optV, ↓loadV, ↓storeV, ↓fieldAddrV, ↓indexAddrV, ↓allocV, ↓sliceV, ↓appendV, ↓srcV, bound, cutTag, hiTag, GVal.cells, grp, GVal.ofConst, ↓resV, resG, List.map, List.headD, List.take, List.drop, ↓reduceIte, Nat.reduceEqDiff, Nat.reduceAdd, Nat.reduceSub, Nat.reduceLeDiff, reduceCtorEq, implies_true, ne_eq, ↓asrcV, Tag.cap, List.replicate, allSolid, GVal.solid, Nat.reduceBEq, Nat.reduceMul, Nat.reduceLT, List.length_map, List.length_range, splice, vcA, ↓vcB, vcC, fbFz, e15, segsG_length, d0, eS, segG, spl_length, all_spl]
        refine (aPart S .none (x.lo + 1) x.hi (by omega) oS (by omega) (by omega)).then ?_ (by rfl)
        have q7 := movedS_len (Sp.bothS S [(x.lo + 1, x.hi)]) (-1)
        have cM := aMoved (Sp.bothS S [(x.lo + 1, x.hi)]) (-1) (by omega) (by omega) (fun z hz => by have := q4 z hz; omega)
        generalize Sp.bothS S [(x.lo + 1, x.hi)] = C at *
        simp +contextual -implicitDefEqProofs (maxSteps := 2000000) (disch := omega) only [↓lenV, binV, optV, ↓loadV, ↓storeV, ↓fieldAddrV, ↓indexAddrV, ↓allocV, ↓sliceV, ↓appendV, ↓srcV, bound, cutTag, hiTag, GVal.cells, grp, GVal.ofConst, ↓resV, resG, List.map, List.headD, List.take, List.drop, ↓reduceIte, Nat.reduceEqDiff, Nat.reduceAdd, Nat.reduceSub, Nat.reduceLeDiff, reduceCtorEq, implies_true, ne_eq, ↓asrcV, Tag.cap, List.replicate, allSolid, GVal.solid, Nat.reduceBEq, Nat.reduceMul, Nat.reduceLT, List.length_map, List.length_range, splice, vcA, ↓vcB, vcC, fbFz, e15, segsG_length, d0, eS, segG, spl_length, all_spl]
        refine cM.then ?_ (by rfl)
        generalize movedS C (-1) = D at *
        simp +contextual -implicitDefEqProofs (maxSteps := 2000000) (disch := omega) only [↓lenV, binV, optV, ↓loadV, ↓storeV, ↓fieldAddrV, ↓indexAddrV, ↓allocV, ↓sliceV, ↓appendV, ↓srcV, bound, cutTag, hiTag, GVal.cells, grp, GVal.ofConst, ↓resV, resG, List.map, List.headD, List.take, List.drop, ↓reduceIte, Nat.reduceEqDiff, Nat.reduceAdd, Nat.reduceSub, Nat.reduceLeDiff, reduceCtorEq, implies_true, ne_eq, ↓asrcV, Tag.cap, List.replicate, allSolid, GVal.solid, Nat.reduceBEq, Nat.reduceMul, Nat.reduceLT, List.length_map, List.length_range, splice, vcA, ↓vcB, vcC, fbFz, e15, segsG_length, d0, eS, segG, spl_length, all_spl]
        refine ⟨by omega, by omega, fun v => ?_⟩
        exact Into.at ⟨(k + 1, v), by show k + 1 ≤ _; omega⟩ (by show _ < _; simp; omega) ⟨[.row st1 5 [segG x]], by simp [eN, spl_append, segG]⟩ (by simp [WL, leG_self, leG_any, leG_int, eN, spl_append])
    · have d0 : ((k : Int) < (l.length : Int)) = False := eq_false (by omega)
      have e : k = l.length := by omega
      have ll := olen k
      subst e
      rw [List.take_length] at ll
      have hok : Sp.Ok (l.flatMap (parOut S)) := fun q hq => by
        obtain ⟨x, hx, hq⟩ := List.mem_flatMap.1 hq
        exact parOut_ok h.tok (hfl x hx) q hq
      simp +contextual -implicitDefEqProofs (maxSteps := 2000000) (disch := omega) only [↓lenV, binV, optV, ↓loadV, ↓storeV, ↓fieldAddrV, ↓indexAddrV, ↓allocV, ↓sliceV, ↓appendV, ↓srcV, bound, cutTag, hiTag, GVal.cells, grp, GVal.ofConst, ↓resV, resG, List.map, List.headD, List.take, List.drop, ↓reduceIte, Nat.reduceEqDiff, Nat.reduceAdd, Nat.reduceSub, Nat.reduceLeDiff, reduceCtorEq, implies_true, ne_eq, ↓asrcV, Tag.cap, List.replicate, allSolid, GVal.solid, Nat.reduceBEq, Nat.reduceMul, Nat.reduceLT, List.length_map, List.length_range, splice, vcA, ↓vcB, vcC, fbFz, e15, segsG_length, d0, List.take_length]
      refine (sMake (l.flatMap (parOut S)) _ (by omega) hok).then ?_ (by rfl)
      rw [eP]
      simp +contextual -implicitDefEqProofs (maxSteps := 2000000) (disch := omega) only [↓lenV, binV, optV, ↓loadV, ↓storeV, ↓fieldAddrV, ↓indexAddrV, ↓allocV, ↓sliceV, ↓appendV, ↓srcV, bound, cutTag, hiTag, GVal.cells, grp, GVal.ofConst, ↓resV, resG, List.map, List.headD, List.take, List.drop, ↓reduceIte, Nat.reduceEqDiff, Nat.reduceAdd, Nat.reduceSub, Nat.reduceLeDiff, reduceCtorEq, implies_true, ne_eq, ↓asrcV, Tag.cap, List.replicate, allSolid, GVal.solid, Nat.reduceBEq, Nat.reduceMul, Nat.reduceLT, List.length_map, List.length_range, splice, vcA, ↓vcB, vcC, fbFz, e15]
      exact ⟨.slice (spl (idsP m o (pP m o s))) .none, [.row st 3 [dagG L (allN L) kk]], [.tok u 2], rfl, by rw [leA_slice], _, rfl, rfl, rfl⟩
def chiOut (S : List Sp.S) (x : Seg) : List Sp.S := (if (x.par.any fun a => Sp.hasB S a) = true then [(x.lo, x.lo)] else []) ++ movedS (Sp.bothS S [(x.lo, x.hi - 1)]) 1
theorem chiOut_len {S : List Sp.S} {x : Seg} (hS : S.length ≤ 1000) : (chiOut S x).length ≤ 1005 := by
  unfold chiOut
  have h3 := Sp.bothS_len S [(x.lo, x.hi - 1)]
  rw [List.length_append, movedS_len]
  split <;> simp at * <;> omega
theorem chiOut_ok {m o : List (List Int)} {S : List Sp.S} {x : Seg} (hx : FlatS m o x) : Sp.Ok (chiOut S x) := by
  have h1 := hx.lo
  have h2 := hx.le
  have h3 := hx.top
  refine Sp.Ok.app ?_ ?_
  · split
    · intro s hs; simp at hs; subst hs; simp only; omega
    · exact Sp.Ok.nil
  · intro s hs
    obtain ⟨y, hy, rfl⟩ := List.mem_map.1 hs
    have := both_bounds hy
    simp only; omega
theorem chiOut_has {m o : List (List Int)} {S : List Sp.S} {x : Seg} (hx : FlatS m o x) (n : Int) : Sp.has (chiOut S x) n ↔ (x.lo ≤ n ∧ n ≤ x.hi) ∧ ∃ p ∈ parI m o n, Sp.has S p := by
  have hlo := hx.lo
  have hle := hx.le
  unfold chiOut
  rw [Sp.has_app, has_moved]
  constructor
  · rintro (h1 | ⟨p, hp, h0, h1, h2⟩)
    · split at h1
      · rename_i hq
        obtain ⟨q, hq2, b0, b1, b2⟩ := h1
        simp at hq2; subst hq2
        simp only at b1 b2
        have e : n = x.lo := by omega
        subst e
        obtain ⟨a, ha, hb⟩ := List.any_eq_true.1 hq
        exact ⟨⟨by omega, by omega⟩, a, by rw [← hx.par]; exact ha, (Sp.hasB_iff _ _).1 hb⟩
      · exact absurd h1 (by simp [Sp.has])
    · have hb := both_bounds hp
      have hh : Sp.has (Sp.bothS S [(x.lo, x.hi - 1)]) (n - 1) := ⟨p, hp, by omega, by omega, by omega⟩
      refine ⟨⟨by omega, by omega⟩, n - 1, ?_, ((Sp.bothS_has _ _ _).1 hh).1⟩
      rw [hx.one n (by omega) (by omega)]; simp
  · rintro ⟨⟨h1, h2⟩, p, hp, h3⟩
    by_cases e : n = x.lo
    · left
      subst e
      rw [if_pos (List.any_eq_true.2 ⟨p, by rw [hx.par]; exact hp, (Sp.hasB_iff _ _).2 h3⟩)]
      exact ⟨_, List.mem_singleton.2 rfl, by omega, by simp only; omega, by simp only; omega⟩
    · right
      rw [hx.one n (by omega) h2] at hp
      have en : p = n - 1 := by simpa using hp
      subst en
      have hh : Sp.has (Sp.bothS S [(x.lo, x.hi - 1)]) (n - 1) := (Sp.bothS_has _ _ _).2 ⟨h3, (x.lo, x.hi - 1), by simp, by omega, by simp only; omega, by simp only; omega⟩
      obtain ⟨q, hq, a0, a1, a2⟩ := hh
      exact ⟨q, hq, by omega, by omega, by omega⟩
theorem DagOK.chiEq {m o : List (List Int)} {L : List (List Seg)} (h : DagOK m o L) (s : List Sp.S) : Sp.nf ((L.getD 0 []).flatMap (chiOut (idsP m o (Sp.has s)))) = idsP m o (cP m o s) := by
  refine idsP_eq (Sp.nf_rt _) fun n => ?_
  rw [Sp.nf_has, has_flatMap]
  constructor
  · rintro ⟨x, hx, hn⟩
    obtain ⟨⟨h1, h2⟩, p, h3, h4⟩ := (chiOut_has (h.flat x hx) n).1 hn
    exact ⟨(h.flat x hx).inn n h1 h2, p, h3, ((idsP_has _ _ _ _).1 h4).2⟩
  · rintro ⟨hn, p, hp, hs⟩
    obtain ⟨k, hk, hin, _⟩ := h.seg (i := 0) (by have := h.len1; omega) hn
    exact ⟨_, seg_mem hk, (chiOut_has (h.flat _ (seg_mem hk)) n).2 ⟨⟨hin.1, hin.2⟩, p, hp, (idsP_has _ _ _ _).2 ⟨(h.tok.par hp).2, hs⟩⟩⟩
theorem aChildren {m o : List (List Int)} {L : List (List Seg)} (h : DagOK m o L) (s : List Sp.S) (t : Tag) (hl : s.length ≤ 1000000) (hs : Sp.Ok s) : DPure 17 L (allN L) [.slice (spl s) t] (.slice (spl (idsP m o (cP m o s))) .none) := by
  intro st kk
  have hS := h.thereEq s
  have lS := idsP_len m o (Sp.has s)
  have oS := idsP_ok h.tok (Sp.has s)
  have hN := h.allLen
  have hT := h.tok.len
  have eP := h.chiEq s
  have hfl := h.flat
  have hll := (h.size 0).1
  refine GCalls.dropTo ?_
  refine h17.calls mixS (by simp) ?_
  simp only [gstart, s17, List.cons_append, List.nil_append, List.length_cons, List.length_nil, Nat.reduceAdd, Nat.reduceSub, List.replicate_succ, List.replicate_zero]
  simp +contextual -implicitDefEqProofs (maxSteps := 2000000) (disch := omega) only [↓lenV, binV, optV, ↓loadV, ↓storeV, ↓fieldAddrV, ↓indexAddrV, ↓allocV, ↓buildV, ↓buildSliceV, ↓sliceV, ↓appendV, ↓srcV, bound, cutTag, hiTag, fillG, fillE, place, GVal.cells, grp, GVal.ofConst, ↓resV, resG, List.map, List.headD, List.take, List.drop, ↓reduceIte, Nat.reduceEqDiff, Nat.reduceAdd, Nat.reduceSub, Nat.reduceLeDiff, reduceCtorEq, implies_true, ne_eq, ↓asrcV, Tag.cap, List.replicate, allSolid, GVal.solid, Nat.reduceBEq, Nat.reduceMul, Nat.reduceLT, List.length_map, List.length_range, splice, vcA, ↓vcB, vcC, fbFz, e17]
  refine (aThere L (allN L) s t (by omega) hs h.allOk).then ?_
  rw [hS]
  generalize idsP m o (Sp.has s) = S at *
  simp +contextual -implicitDefEqProofs (maxSteps := 2000000) (disch := omega) only [↓lenV, binV, optV, ↓loadV, ↓storeV, ↓fieldAddrV, ↓indexAddrV, ↓allocV, ↓buildV, ↓buildSliceV, ↓sliceV, ↓appendV, ↓srcV, bound, cutTag, hiTag, fillG, fillE, place, GVal.cells, grp, GVal.ofConst, ↓resV, resG, List.map, List.headD, List.take, List.drop, ↓reduceIte, Nat.reduceEqDiff, Nat.reduceAdd, Nat.reduceSub, Nat.reduceLeDiff, reduceCtorEq, implies_true, ne_eq, ↓asrcV, Tag.cap, List.replicate, allSolid, GVal.solid, Nat.reduceBEq, Nat.reduceMul, Nat.reduceLT, List.length_map, List.length_range, splice, vcA, ↓vcB, vcC, fbFz, e17]
  refine (aFlat L (allN L) h.len1).then ?_
  generalize L.getD 0 [] = l at *
  simp +contextual -implicitDefEqProofs (maxSteps := 2000000) (disch := omega) only [↓lenV, binV, optV, ↓loadV, ↓storeV, ↓fieldAddrV, ↓indexAddrV, ↓allocV, ↓buildV, ↓buildSliceV, ↓sliceV, ↓appendV, ↓srcV, bound, cutTag, hiTag, fillG, fillE, place, GVal.cells, grp, GVal.ofConst, ↓resV, resG, List.map, List.headD, List.take, List.drop, ↓reduceIte, Nat.reduceEqDiff, Nat.reduceAdd, Nat.reduceSub, Nat.reduceLeDiff, reduceCtorEq, implies_true, ne_eq, ↓asrcV, Tag.cap, List.replicate, allSolid, GVal.solid, Nat.reduceBEq, Nat.reduceMul, Nat.reduceLT, List.length_map, List.length_range, splice, vcA, ↓vcB, vcC, fbFz, e17, segsG_length]
  have olen : ∀ k, ((l.take k).flatMap (chiOut S)).length ≤ k * 1005 := fun k => by
    have := flatMap_len (chiOut S) 1005 (l.take k) fun x hx => chiOut_len (by omega)
    rw [List.length_take] at this
    have : min k l.length * 1005 ≤ k * 1005 := Nat.mul_le_mul_right _ (Nat.min_le_left _ _)
    omega
  refine vcSLoop_by (ι := { p : Nat × Nat // p.1 ≤ l.length }) (fun p => ⟨[.ptr 0 st 0 0, .slice (spl S) .none, .any, .any, .any, .slice (spl ((l.take p.1.1).flatMap (chiOut S))) (.tok 1 p.1.2), .any, .any, .any, .any, .any, .any, .slice (segsG l) .none, .int .i64 l.length, .int .i64 (p.1.1 : Nat)] ++ List.replicate 28 .any, [.row st 3 [dagG L (allN L) kk], .tok p.1.2 2]⟩) (fun p => l.length - p.1.1) ?_ ?_
  · refine Into.tok 5 2 [] rfl rfl ?_
    simp +contextual -implicitDefEqProofs (maxSteps := 2000000) (disch := omega) only [↓lenV, binV, optV, ↓loadV, ↓storeV, ↓fieldAddrV, ↓indexAddrV, ↓allocV, ↓buildV, ↓buildSliceV, ↓sliceV, ↓appendV, ↓srcV, bound, cutTag, hiTag, fillG, fillE, place, GVal.cells, grp, GVal.ofConst, ↓resV, resG, List.map, List.headD, List.take, List.drop, ↓reduceIte, Nat.reduceEqDiff, Nat.reduceAdd, Nat.reduceSub, Nat.reduceLeDiff, reduceCtorEq, implies_true, ne_eq, ↓asrcV, Tag.cap, List.replicate, allSolid, GVal.solid, Nat.reduceBEq, Nat.reduceMul, Nat.reduceLT, List.length_map, List.length_range, splice, vcA, ↓vcB, vcC, fbFz, e17]
    intro u
    exact Into.first ⟨(0, u), by omega⟩ ⟨[], by simp [spl]⟩ (by simp [WL, leG_self, leG_any, spl])
  · rintro ⟨⟨k, u⟩, hk⟩
    change k ≤ l.length at hk
    by_cases hkl : k < l.length
    · have d0 : ((k : Int) < (l.length : Int)) = True := eq_true (by omega)
      have eS := segsG_at l k hkl
      have eN := flatMap_take (chiOut S) l default k hkl
      have lk := olen k
      have hF := hfl _ (seg_mem hkl)
      have hp4 := flat_par4 h.tok hF
      have hpr : ∀ p ∈ (l.getD k default).par, inT m o p := fun p hp => by rw [hF.par] at hp; exact (h.tok.par hp).2
      have hpb : ∀ i, -9223372036854775808 ≤ (l.getD k default).par.getD i 0 ∧ (l.getD k default).par.getD i 0 ≤ 9223372036854775807 := getD_bounds (fun p hp => by have := inT_range h.tok (hpr p hp); omega) (by omega) (by omega)
      have q1 := hF.lo
      have q2 := hF.le
      have q3 := hF.top
      have q4 := fun x hx => both_bounds (S := S) (lo := (l.getD k default).lo) (hi := (l.getD k default).hi - 1) (x := x) hx
      generalize l.getD k default = x at *
      generalize (l.take k).flatMap (chiOut S) = A at *
      have eU : chiOut S x = (if (x.par.any fun a => Sp.hasB S a) = true then [(x.lo, x.lo)] else []) ++ movedS (Sp.bothS S [(x.lo, x.hi - 1)]) 1 := rfl
      rw [eU] at eN
      clear eU
      have q5 := Sp.bothS_len S [(x.lo, x.hi - 1)]
      simp only [List.length_singleton] at q5
      simp +contextual -implicitDefEqProofs (maxSteps := 2000000) (disch := omega) only [↓lenV, binV, optV, ↓loadV, ↓storeV, ↓fieldAddrV, ↓indexAddrV, ↓allocV, ↓buildV, ↓buildSliceV, ↓sliceV, ↓appendV, ↓srcV, bound, cutTag, hiTag, fillG, fillE, place, GVal.cells, grp, GVal.ofConst, ↓resV, resG, List.map, List.headD, List.take, List.drop, ↓reduceIte, Nat.reduceEqDiff, Nat.reduceAdd, Nat.reduceSub, Nat.reduceLeDiff, reduceCtorEq, implies_true, ne_eq, ↓asrcV, Tag.cap, List.replicate, allSolid, GVal.solid, Nat.reduceBEq, Nat.reduceMul, Nat.reduceLT, List.length_map, List.length_range, splice, vcA, ↓vcB, vcC, fbFz, e17, segsG_length, d0, eS, segG, spl_length, all_spl]
      refine ⟨by omega, fun st1 => ?_⟩
      refine (aTouches x.par .none S (by omega) (by omega) oS).then ?_ (by rfl)
      cases hq : x.par.any fun a => Sp.hasB S a with
      | true =>
        rw [hq, if_pos rfl] at eN
        simp +contextual -implicitDefEqProofs (maxSteps := 2000000) (disch := omega) only [↓lenV, binV, optV, ↓loadV, ↓storeV, ↓fieldAddrV, ↓indexAddrV, ↓allocV, ↓buildV, ↓buildSliceV, ↓sliceV, ↓appendV, ↓srcV, bound, cutTag, hiTag, fillG, fillE, place, GVal.cells, grp, GVal.ofConst, ↓resV, resG, List.map, List.headD, List.take, List.drop, ↓reduceIte, Nat.reduceEqDiff, Nat.reduceAdd, Nat.reduceSub, Nat.reduceLeDiff, reduceCtorEq, implies_true, ne_eq, ↓asrcV, Tag.cap, List.replicate, allSolid, GVal.solid, Nat.reduceBEq, Nat.reduceMul, Nat.reduceLT, List.length_map, List.length_range, splice, vcA, ↓vcB, vcC, fbFz, e17, segsG_length, d0, eS, segG, spl_length, all_spl]
        refine ⟨by omega, by omega, fun st2 => ?_⟩
        refine (aPart S .none x.lo (x.hi - 1) (by omega) oS (by omega) (by omega)).then ?_ (by rfl)
        have q7 := movedS_len (Sp.bothS S [(x.lo, x.hi - 1)]) 1
        have cM := aMoved (Sp.bothS S [(x.lo, x.hi - 1)]) 1 (by omega) (by omega) (fun z hz => by have := q4 z hz; omega)
        generalize Sp.bothS S [(x.lo, x.hi - 1)] = C at *
        simp +contextual -implicitDefEqProofs (maxSteps := 2000000) (disch := omega) only [↓lenV, binV, optV, ↓loadV, ↓storeV, ↓fieldAddrV, ↓indexAddrV, ↓allocV, ↓buildV, ↓buildSliceV, ↓sliceV, ↓appendV, ↓srcV, bound, cutTag, hiTag, fillG, fillE, place, GVal.cells, grp, GVal.ofConst, ↓resV, resG, List.map, List.headD, List.take, List.drop, ↓reduceIte, Nat.reduceEqDiff, Nat.reduceAdd, Nat.reduceSub, Nat.reduceLeDiff, reduceCtorEq, implies_true, ne_eq, ↓asrcV, Tag.cap, List.replicate, allSolid, GVal.solid, Nat.reduceBEq, Nat.reduceMul, Nat.reduceLT, List.length_map, List.length_range, splice, vcA, ↓vcB, vcC, fbFz, e17, segsG_length, d0, eS, segG, spl_length, all_spl]
        refine cM.then ?_ (by rfl)
        generalize movedS C 1 = D at *
        simp +contextual -implicitDefEqProofs (maxSteps := 2000000) (disch := omega) only [↓lenV, binV, optV, ↓loadV, ↓storeV, ↓fieldAddrV, ↓indexAddrV, ↓allocV, ↓buildV, ↓buildSliceV, ↓sliceV, ↓appendV, ↓srcV, bound, cutTag, hiTag, fillG, fillE, place, GVal.cells, grp, GVal.ofConst, ↓resV, resG, List.map, List.headD, List.take, List.drop, ↓reduceIte, Nat.reduceEqDiff, Nat.reduceAdd, Nat.reduceSub, Nat.reduceLeDiff, reduceCtorEq, implies_true, ne_eq, ↓asrcV, Tag.cap, List.replicate, allSolid, GVal.solid, Nat.reduceBEq, Nat.reduceMul, Nat.reduceLT, List.length_map, List.length_range, splice, vcA, ↓vcB, vcC, fbFz, e17, segsG_length, d0, eS, segG, spl_length, all_spl, List.length_append]
        refine ⟨by omega, by omega, fun v => ?_⟩
        exact Into.at ⟨(k + 1, v), by show k + 1 ≤ _; omega⟩ (by show _ < _; simp; omega) ⟨[.row st1 5 [segG x]], by simp [eN, spl_append, segG]⟩ (by simp [WL, leG_self, leG_any, leG_int, eN, spl_append, spl_cons, spG])
      | false =>
        rw [hq, if_neg (by simp)] at eN
        simp +contextual -implicitDefEqProofs (maxSteps := 2000000) (disch := omega) only [↓lenV, binV, optV, ↓loadV, ↓storeV, ↓fieldAddrV, ↓indexAddrV, ↓allocV, ↓buildV, ↓buildSliceV, ↓sliceV, ↓appendV, ↓srcV, bound, cutTag, hiTag, fillG, fillE, place, GVal.cells, grp, GVal.ofConst, ↓resV, resG, List.map, List.headD, List.take, List.drop, ↓reduceIte, Nat.reduceEqDiff, Nat.reduceAdd, Nat.reduceSub, Nat.reduceLeDiff, reduceCtorEq, implies_true, ne_eq, ↓asrcV, Tag.cap, List.replicate, allSolid, GVal.solid, Nat.reduceBEq, Nat.reduceMul, Nat.reduceLT, List.length_map, List.length_range, splice, vcA, ↓vcB, vcC, fbFz, e17, segsG_length, d0, eS, segG, spl_length, all_spl]
        refine (aPart S .none x.lo (x.hi - 1) (by omega) oS (by omega) (by omega)).then ?_ (by rfl)
        have q7 := movedS_len (Sp.bothS S [(x.lo, x.hi - 1)]) 1
        have cM := aMoved (Sp.bothS S [(x.lo, x.hi - 1)]) 1 (by omega) (by omega) (fun z hz => by have := q4 z hz; omega)
        generalize Sp.bothS S [(x.lo, x.hi - 1)] = C at *
        simp +contextual -implicitDefEqProofs (maxSteps := 2000000) (disch := omega) only [↓lenV, binV, optV, ↓loadV, ↓storeV, ↓fieldAddrV, ↓indexAddrV, ↓allocV, ↓buildV, ↓buildSliceV, ↓sliceV, ↓appendV, ↓srcV, bound, cutTag, hiTag, fillG, fillE, place, GVal.cells, grp, GVal.ofConst, ↓resV, resG, List.map, List.headD, List.take, List.drop, ↓reduceIte, Nat.reduceEqDiff, Nat.reduceAdd, Nat.reduceSub, Nat.reduceLeDiff, reduceCtorEq, implies_true, ne_eq, ↓asrcV, Tag.cap, List.replicate, allSolid, GVal.solid, Nat.reduceBEq, Nat.reduceMul, Nat.reduceLT, List.length_map, List.length_range, splice, vcA, ↓vcB, vcC, fbFz, e17, segsG_length, d0, eS, segG, spl_length, all_spl]
        refine cM.then ?_ (by rfl)
        generalize movedS C 1 = D at *
        simp +contextual -implicitDefEqProofs (maxSteps := 2000000) (disch := omega) only [↓lenV, binV, optV, ↓loadV, ↓storeV, ↓fieldAddrV, ↓indexAddrV, ↓allocV, ↓buildV, ↓buildSliceV, ↓sliceV, ↓appendV, ↓srcV, bound, cutTag, hiTag, fillG, fillE, place, GVal.cells, grp, GVal.ofConst, ↓resV, resG, List.map, List.headD, List.take, List.drop, ↓reduceIte, Nat.reduceEqDiff, Nat.reduceAdd, Nat.reduceSub, Nat.reduceLeDiff, reduceCtorEq, implies_true, ne_eq, ↓asrcV, Tag.cap, List.replicate, allSolid, GVal.solid, Nat.reduceBEq, Nat.reduceMul, Nat.reduceLT, List.length_map, List.length_range, splice, vcA, ↓vcB, vcC, fbFz, e17, segsG_length, d0, eS, segG, spl_length, all_spl]
        refine ⟨by omega, by omega, fun v => ?_⟩
        exact Into.at ⟨(k + 1, v), by show k + 1 ≤ _; omega⟩ (by show _ < _; simp; omega) ⟨[.row st1 5 [segG x]], by simp [eN, spl_append, segG]⟩ (by simp [WL, leG_self, leG_any, leG_int, eN, spl_append, spl_cons, spG])
    · have d0 : ((k : Int) < (l.length : Int)) = False := eq_false (by omega)
      have e : k = l.length := by omega
      have ll := olen k
      subst e
      rw [List.take_length] at ll
      have hok : Sp.Ok (l.flatMap (chiOut S)) := fun q hq => by
        obtain ⟨x, hx, hq⟩ := List.mem_flatMap.1 hq
        exact chiOut_ok (hfl x hx) q hq
      simp +contextual -implicitDefEqProofs (maxSteps := 2000000) (disch := omega) only [↓lenV, binV, optV, ↓loadV, ↓storeV, ↓fieldAddrV, ↓indexAddrV, ↓allocV, ↓buildV, ↓buildSliceV, ↓sliceV, ↓appendV, ↓srcV, bound, cutTag, hiTag, fillG, fillE, place, GVal.cells, grp, GVal.ofConst, ↓resV, resG, List.map, List.headD, List.take, List.drop, ↓reduceIte, Nat.reduceEqDiff, Nat.reduceAdd, Nat.reduceSub, Nat.reduceLeDiff, reduceCtorEq, implies_true, ne_eq, ↓asrcV, Tag.cap, List.replicate, allSolid, GVal.solid, Nat.reduceBEq, Nat.reduceMul, Nat.reduceLT, List.length_map, List.length_range, splice, vcA, ↓vcB, vcC, fbFz, e17, segsG_length, d0, List.take_length]
      refine (sMake (l.flatMap (chiOut S)) _ (by omega) hok).then ?_ (by rfl)
      rw [eP]
      simp +contextual -implicitDefEqProofs (maxSteps := 2000000) (disch := omega) only [↓lenV, binV, optV, ↓loadV, ↓storeV, ↓fieldAddrV, ↓indexAddrV, ↓allocV, ↓buildV, ↓buildSliceV, ↓sliceV, ↓appendV, ↓srcV, bound, cutTag, hiTag, fillG, fillE, place, GVal.cells, grp, GVal.ofConst, ↓resV, resG, List.map, List.headD, List.take, List.drop, ↓reduceIte, Nat.reduceEqDiff, Nat.reduceAdd, Nat.reduceSub, Nat.reduceLeDiff, reduceCtorEq, implies_true, ne_eq, ↓asrcV, Tag.cap, List.replicate, allSolid, GVal.solid, Nat.reduceBEq, Nat.reduceMul, Nat.reduceLT, List.length_map, List.length_range, splice, vcA, ↓vcB, vcC, fbFz, e17]
      exact ⟨.slice (spl (idsP m o (cP m o s))) .none, [.row st 3 [dagG L (allN L) kk]], [.tok u 2], rfl, by rw [leA_slice], _, rfl, rfl, rfl⟩
end Gv.Tryz
/- Guards and tests without a match: the kernel need not look into what is left out. -/
set_option linter.unusedVariables false
namespace Gv
open Go
def guardV (v : GVal) (A B C : Prop) : Prop := match v with
  | .bool b => gif b A B
  | .lit (.tuple _) => C
  | _ => False
@[congr] theorem cg_guardV {v v' : GVal} {A B C : Prop} (h : v = v') : guardV v A B C = guardV v' A B C := by subst h; rfl
def condV (v : GVal) (A B : Prop) : Prop := match v with
  | .bool b => gif b A B
  | .ubool => A ∧ B
  | _ => False
@[congr] theorem cg_condV {v v' : GVal} {A B : Prop} (h : v = v') : condV v A B = condV v' A B := by subst h; rfl
theorem nil_ptr (a b c d : Nat) (K : GVal → Prop) : nilV (.ptr a b c d) K = K (.ptr a b c d) := rfl
theorem nil_ref (cs : List GVal) (K : GVal → Prop) : nilV (.ref cs) K = K (.ref cs) := rfl
section
variable (P : Program) (R : List Nat) (Q : Ex → GSt → Prop) (st : GSt)
end
end Gv
/- Contracts: the greatest segment of an ID; ancestors. -/
set_option linter.unusedVariables false
set_option linter.unusedSimpArgs false
set_option maxRecDepth 20000
set_option maxHeartbeats 8000000
namespace Gv.Tryz
open Go Gv Go.Proofs
structure Tells (m o : List (List Int)) (x : Seg) (id : Int) : Prop where
  lo : 0 ≤ x.lo
  le : x.lo ≤ id
  hi : id ≤ x.hi
  lead : ∀ y, x.lo ≤ y → y ≤ id → Leads m o y id
  all : ∀ y, x.lo ≤ y → y ≤ id → ∀ p ∈ parI m o y, p < x.lo → p ∈ x.par
  par : ∀ p ∈ x.par, inT m o p ∧ Leads m o p id
  len : x.par.length ≤ 1000
  top : x.hi ≤ 1099511628776
theorem SegH.tells {m o : List (List Int)} (h : TOK m o) {x : Seg} (hx : SegH m o x) : Tells m o x x.hi := by
  have h1 := inT_range h (hx.has x.lo (Int.le_refl _) hx.le)
  have h2 := inT_range h (hx.has x.hi hx.le (Int.le_refl _))
  have hp : ∀ p ∈ x.par, inT m o p ∧ Leads m o p x.hi := fun p hp => by
    obtain ⟨_, y, y1, y2, y3⟩ := hx.from_ p hp
    exact ⟨(h.par y3).2, (Leads.par y3 (h.par y3).2).trans (hx.lead y y1 y2)⟩
  refine ⟨h1.1, hx.le, Int.le_refl _, hx.lead, hx.all, hp, ?_, h2.2⟩
  have := nodup_len x.par (allI m.length o.length) hx.nodup fun p q => (allI_hasI _ _ _).2 (hp p q).1
  have := allI_len m.length o.length
  have := h.len
  omega
theorem FlatS.leads {m o : List (List Int)} {x : Seg} (hx : FlatS m o x) {id : Int} (h2 : id ≤ x.hi) : ∀ (k : Nat), x.lo ≤ id - k → Leads m o (id - k) id := by
  intro k
  induction k with
  | zero => intro _; simp; exact Leads.refl m o id
  | succ k ih =>
    intro hk
    refine Leads.trans ?_ (ih (by omega))
    refine Leads.par ?_ (hx.inn _ (by omega) (by omega))
    rw [hx.one (id - k) (by omega) (by omega)]; simp; omega
theorem FlatS.tells {m o : List (List Int)} (h : TOK m o) {x : Seg} (hx : FlatS m o x) {id : Int} (h1 : x.lo ≤ id) (h2 : id ≤ x.hi) : Tells m o x id := by
  have hl : ∀ y, x.lo ≤ y → y ≤ id → Leads m o y id := fun y q1 q2 => by
    have := hx.leads h2 (id - y).toNat (by omega)
    rwa [show id - ((id - y).toNat : Int) = y by omega] at this
  refine ⟨hx.lo, h1, h2, hl, fun y q1 q2 p hp q3 => ?_, fun p hp => ?_, by have := flat_par4 h hx; omega, hx.top⟩
  · by_cases e : y = x.lo
    · rw [e] at hp; rw [hx.par]; exact hp
    · rw [hx.one y (by omega) (by omega)] at hp
      simp at hp; omega
  · rw [hx.par] at hp
    exact ⟨(h.par hp).2, (Leads.par hp (h.par hp).2).trans (hl x.lo (Int.le_refl _) h1)⟩
theorem aFind {m o : List (List Int)} {L : List (List Seg)} (h : DagOK m o L) (i : Nat) (hi : i < L.length) (id : Int) : GPure Tryz.prog 75 [.slice (segsG (L.getD i [])) .none, .int .i64 id] (.tuple [.int .i64 (fnd id (L.getD i []) 0).1, .bool (fnd id (L.getD i []) 0).2]) :=
  spec33 _ _ id _ (by have := (h.size i).1; omega) fun k hk => ends_fnd (h.segs i hi).sorted id k hk
theorem DagOK.below {m o : List (List Int)} {L : List (List Seg)} (h : DagOK m o L) {i : Nat} (hi : i < L.length) {x : Seg} (hx : x ∈ L.getD i []) {id : Int} (hl : x.lo ≤ id) : ∀ s ∈ L.getD 0 [], s.lo ≤ id → id ≤ s.hi → x.lo ≤ s.lo := by
  intro s hs h1 h2
  obtain ⟨q, hq, e⟩ := h.lows i hi x hx
  rw [e]
  obtain ⟨a, ha, ea⟩ := List.getElem_of_mem hs
  obtain ⟨b, hb, eb⟩ := List.getElem_of_mem hq
  have ea' : (L.getD 0 []).getD a default = s := by rw [List.getD_eq_getElem?_getD, List.getElem?_eq_getElem ha]; exact ea
  have eb' : (L.getD 0 []).getD b default = q := by rw [List.getD_eq_getElem?_getD, List.getElem?_eq_getElem hb]; exact eb
  have so := (h.segs 0 (by have := h.len1; omega)).sorted
  by_cases c : a < b
  · have := so.at_ a b c hb
    rw [ea', eb'] at this
    omega
  · by_cases c2 : b < a
    · have := so.at_ b a c2 ha
      have := (h.flat q hq).le
      rw [ea', eb'] at *
      omega
    · have : a = b := by omega
      subst this
      rw [← ea', ← eb']; omega
theorem aWhole {m o : List (List Int)} {L : List (List Seg)} (h : DagOK m o L) (id : Int) (hid : inT m o id) (st : Nat) (kk : Int) (hk : 0 ≤ kk ∧ kk ≤ 1000000000) :
    GCalls Tryz.prog 52 [.ptr 0 st 0 0, .int .i64 id] [.row st 3 [dagG L (allN L) kk]] (fun g O' => ∃ x', O' = [x'] ∧ ∃ x k', g = .agg (segG x) ∧ x' = .row st 3 [dagG L (allN L) k'] ∧ kk + 1 ≤ k' ∧ k' ≤ kk + L.length ∧ Tells m o x id ∧ ∀ s ∈ L.getD 0 [], s.lo ≤ id → id ≤ s.hi → x.lo ≤ s.lo) := by
  have hL1 := h.len1
  have hL4 := h.len4
  have hidr := inT_range h.tok hid
  refine GCalls.dropTo ?_
  refine h52.calls mixS (by simp) ?_
  simp only [gstart, s52, List.cons_append, List.nil_append, List.length_cons, List.length_nil, Nat.reduceAdd, Nat.reduceSub, List.replicate_succ, List.replicate_zero]
  simp +contextual -implicitDefEqProofs (maxSteps := 2000000) (disch := omega) only [↓lenV, binV, ↓loadV, ↓storeV, ↓fieldAddrV, ↓indexAddrV, ↓allocV, ↓nil_ptr, ↓nil_ref, GVal.cells, grp, GVal.ofConst, ↓resV, resG, List.map, List.headD, List.take, List.drop, ↓reduceIte, Nat.reduceEqDiff, Nat.reduceAdd, Nat.reduceSub, Nat.reduceLeDiff, reduceCtorEq, implies_true, ne_eq, aggV, Tag.cap, List.replicate, allSolid, GVal.solid, Nat.reduceBEq, Nat.reduceMul, Nat.reduceLT, List.length_map, List.length_range, splice, vcA, ↓vcB, vcC, fbFz, e52, levsG_length]
  intro w
  refine vcSLoop_by (ι := { p : Nat × Int // p.1 < L.length ∧ kk ≤ p.2 ∧ p.2 + p.1 + 1 ≤ kk + L.length }) (fun p => ⟨[.ptr 0 st 0 0, .int .i64 id, .any, .any, .ptr 1 w 0 0, .int .i64 (p.1.1 : Nat)] ++ List.replicate 78 .any, [.row st 3 [dagG L (allN L) p.1.2], .row w 5 [[.int .i64 0, .int .i64 0, .slice [] .nil, .bool false, .bool false]]]⟩) (fun p => p.1.1) ?_ ?_
  · exact Into.first ⟨(L.length - 1, kk), by show L.length - 1 < _; omega, Int.le_refl _, by show kk + ((L.length - 1 : Nat) : Int) + 1 ≤ _; omega⟩ ⟨[], by simp⟩ (by simp [WL, leG_self, leG_any, leG_int] <;> omega)
  · rintro ⟨⟨i, k'⟩, hi, hk1, hk2⟩
    change i < L.length at hi
    change kk ≤ k' at hk1
    change k' + i + 1 ≤ kk + L.length at hk2
    obtain ⟨j, hj, hin, hfd⟩ := h.seg hi hid
    obtain ⟨j0, hj0, hin0, hfd0⟩ := h.seg (i := 0) (by omega) hid
    have cF := aFind h i hi id
    have cF0 := aFind h 0 (by omega) id
    rw [hfd] at cF
    rw [hfd0] at cF0
    simp only [] at cF cF0
    have eL := levsG_at L i hi
    have hsH := h.segH hi hj
    have hF0 := h.flat _ (seg_mem hj0)
    have eS := segsG_at (L.getD i []) j hj
    have eS0 := segsG_at (L.getD 0 []) j0 hj0
    obtain ⟨h1, h2⟩ := hin
    obtain ⟨h3, h4⟩ := hin0
    have T0 := hF0.tells h.tok h3 h4
    have TH := hsH.tells h.tok
    have W0 := h.below (by omega) (seg_mem hj0) h3
    have WH := h.below hi (seg_mem hj) h1
    clear hsH hF0 hfd hfd0
    generalize (L.getD i []).getD j default = x at *
    generalize (L.getD 0 []).getD j0 default = x0 at *
    by_cases h0 : 0 < i
    · have d0 : ((0 : Int) < (i : Int)) = True := eq_true (by omega)
      by_cases e : x.hi = id
      · have d1 : (x.hi == id) = true := by simpa using e
        simp +contextual -implicitDefEqProofs (maxSteps := 2000000) (disch := omega) only [↓lenV, binV, ↓loadV, ↓storeV, ↓fieldAddrV, ↓indexAddrV, ↓allocV, ↓nil_ptr, ↓nil_ref, GVal.cells, grp, GVal.ofConst, ↓resV, resG, List.map, List.headD, List.take, List.drop, ↓reduceIte, Nat.reduceEqDiff, Nat.reduceAdd, Nat.reduceSub, Nat.reduceLeDiff, reduceCtorEq, implies_true, ne_eq, aggV, Tag.cap, List.replicate, allSolid, GVal.solid, Nat.reduceBEq, Nat.reduceMul, Nat.reduceLT, List.length_map, List.length_range, splice, vcA, ↓vcB, vcC, fbFz, e52, levsG_length, d0, eL]
        refine ⟨by omega, by omega, ?_⟩
        refine cF.then ?_ (by rfl)
        simp +contextual -implicitDefEqProofs (maxSteps := 2000000) (disch := omega) only [↓lenV, binV, ↓loadV, ↓storeV, ↓fieldAddrV, ↓indexAddrV, ↓allocV, ↓nil_ptr, ↓nil_ref, GVal.cells, grp, GVal.ofConst, ↓resV, resG, List.map, List.headD, List.take, List.drop, ↓reduceIte, Nat.reduceEqDiff, Nat.reduceAdd, Nat.reduceSub, Nat.reduceLeDiff, reduceCtorEq, implies_true, ne_eq, aggV, Tag.cap, List.replicate, allSolid, GVal.solid, Nat.reduceBEq, Nat.reduceMul, Nat.reduceLT, List.length_map, List.length_range, splice, vcA, ↓vcB, vcC, fbFz, e52, levsG_length, d0, eL, segsG_length, eS, segG, d1]
        refine ⟨by omega, by omega, by omega, by omega, by omega, by omega, by omega, by omega, ?_⟩
        exact ⟨.agg (segG x), [.row st 3 [dagG L (allN L) (k' + 1)]], [_], rfl, by rw [leA_agg]; simp [segG, WL, leG_self], _, rfl, x, k' + 1, rfl, rfl, by omega, by omega, by rw [← e]; exact TH, WH⟩
      · have d1 : (x.hi == id) = false := by simpa using e
        simp +contextual -implicitDefEqProofs (maxSteps := 2000000) (disch := omega) only [↓lenV, binV, ↓loadV, ↓storeV, ↓fieldAddrV, ↓indexAddrV, ↓allocV, ↓nil_ptr, ↓nil_ref, GVal.cells, grp, GVal.ofConst, ↓resV, resG, List.map, List.headD, List.take, List.drop, ↓reduceIte, Nat.reduceEqDiff, Nat.reduceAdd, Nat.reduceSub, Nat.reduceLeDiff, reduceCtorEq, implies_true, ne_eq, aggV, Tag.cap, List.replicate, allSolid, GVal.solid, Nat.reduceBEq, Nat.reduceMul, Nat.reduceLT, List.length_map, List.length_range, splice, vcA, ↓vcB, vcC, fbFz, e52, levsG_length, d0, eL]
        refine ⟨by omega, by omega, ?_⟩
        refine cF.then ?_ (by rfl)
        simp +contextual -implicitDefEqProofs (maxSteps := 2000000) (disch := omega) only [↓lenV, binV, ↓loadV, ↓storeV, ↓fieldAddrV, ↓indexAddrV, ↓allocV, ↓nil_ptr, ↓nil_ref, GVal.cells, grp, GVal.ofConst, ↓resV, resG, List.map, List.headD, List.take, List.drop, ↓reduceIte, Nat.reduceEqDiff, Nat.reduceAdd, Nat.reduceSub, Nat.reduceLeDiff, reduceCtorEq, implies_true, ne_eq, aggV, Tag.cap, List.replicate, allSolid, GVal.solid, Nat.reduceBEq, Nat.reduceMul, Nat.reduceLT, List.length_map, List.length_range, splice, vcA, ↓vcB, vcC, fbFz, e52, levsG_length, d0, eL, segsG_length, eS, segG, d1]
        refine ⟨by omega, by omega, by omega, by omega, ?_⟩
        exact Into.at ⟨(i - 1, k' + 1), by show i - 1 < _; omega, by show kk ≤ k' + 1; omega, by show k' + 1 + ((i - 1 : Nat) : Int) + 1 ≤ _; omega⟩ (by show i - 1 < i; omega) ⟨[], rfl⟩ (by simp [WL, leG_self, leG_any, leG_int] <;> omega)
    · have d0 : ((0 : Int) < (i : Int)) = False := eq_false (by omega)
      simp +contextual -implicitDefEqProofs (maxSteps := 2000000) (disch := omega) only [↓lenV, binV, ↓loadV, ↓storeV, ↓fieldAddrV, ↓indexAddrV, ↓allocV, ↓nil_ptr, ↓nil_ref, GVal.cells, grp, GVal.ofConst, ↓resV, resG, List.map, List.headD, List.take, List.drop, ↓reduceIte, Nat.reduceEqDiff, Nat.reduceAdd, Nat.reduceSub, Nat.reduceLeDiff, reduceCtorEq, implies_true, ne_eq, aggV, Tag.cap, List.replicate, allSolid, GVal.solid, Nat.reduceBEq, Nat.reduceMul, Nat.reduceLT, List.length_map, List.length_range, splice, vcA, ↓vcB, vcC, fbFz, e52, levsG_length, d0]
      refine (aFlat L (allN L) h.len1).then ?_
      simp +contextual -implicitDefEqProofs (maxSteps := 2000000) (disch := omega) only [↓lenV, binV, ↓loadV, ↓storeV, ↓fieldAddrV, ↓indexAddrV, ↓allocV, ↓nil_ptr, ↓nil_ref, GVal.cells, grp, GVal.ofConst, ↓resV, resG, List.map, List.headD, List.take, List.drop, ↓reduceIte, Nat.reduceEqDiff, Nat.reduceAdd, Nat.reduceSub, Nat.reduceLeDiff, reduceCtorEq, implies_true, ne_eq, aggV, Tag.cap, List.replicate, allSolid, GVal.solid, Nat.reduceBEq, Nat.reduceMul, Nat.reduceLT, List.length_map, List.length_range, splice, vcA, ↓vcB, vcC, fbFz, e52, levsG_length, d0]
      refine cF0.then ?_ (by rfl)
      simp +contextual -implicitDefEqProofs (maxSteps := 2000000) (disch := omega) only [↓lenV, binV, ↓loadV, ↓storeV, ↓fieldAddrV, ↓indexAddrV, ↓allocV, ↓nil_ptr, ↓nil_ref, GVal.cells, grp, GVal.ofConst, ↓resV, resG, List.map, List.headD, List.take, List.drop, ↓reduceIte, Nat.reduceEqDiff, Nat.reduceAdd, Nat.reduceSub, Nat.reduceLeDiff, reduceCtorEq, implies_true, ne_eq, aggV, Tag.cap, List.replicate, allSolid, GVal.solid, Nat.reduceBEq, Nat.reduceMul, Nat.reduceLT, List.length_map, List.length_range, splice, vcA, ↓vcB, vcC, fbFz, e52, levsG_length, d0, ext_0, ext_1]
      refine (aFlat L (allN L) h.len1).then ?_
      simp +contextual -implicitDefEqProofs (maxSteps := 2000000) (disch := omega) only [↓lenV, binV, ↓loadV, ↓storeV, ↓fieldAddrV, ↓indexAddrV, ↓allocV, ↓nil_ptr, ↓nil_ref, GVal.cells, grp, GVal.ofConst, ↓resV, resG, List.map, List.headD, List.take, List.drop, ↓reduceIte, Nat.reduceEqDiff, Nat.reduceAdd, Nat.reduceSub, Nat.reduceLeDiff, reduceCtorEq, implies_true, ne_eq, aggV, Tag.cap, List.replicate, allSolid, GVal.solid, Nat.reduceBEq, Nat.reduceMul, Nat.reduceLT, List.length_map, List.length_range, splice, vcA, ↓vcB, vcC, fbFz, e52, levsG_length, segsG_length, d0, eS0, segG]
      exact ⟨by omega, by omega, .agg (segG x0), [.row st 3 [dagG L (allN L) (k' + 1)]], [_], rfl, by rw [leA_agg]; simp [segG, WL, leG_self], _, rfl, x0, k' + 1, rfl, rfl, by omega, by omega, T0, W0⟩
def cntB (l : List Seg) (B : Int) : Nat := (l.filter fun s => decide (B ≤ s.lo)).length
theorem cntB_le (l : List Seg) (B : Int) : cntB l B ≤ l.length := List.length_filter_le _ _
theorem cntB_mono : ∀ (l : List Seg) {B B' : Int}, B' ≤ B → cntB l B ≤ cntB l B'
  | [], _, _, _ => Nat.le_refl _
  | s :: r, B, B', h => by
    have := cntB_mono r h
    unfold cntB at *
    simp only [List.filter_cons]
    by_cases c : B ≤ s.lo
    · rw [if_pos (by simpa using c), if_pos (by simp; omega)]; simp; exact this
    · rw [if_neg (by simpa using c)]
      split
      · simp; omega
      · exact this
theorem cntB_step : ∀ (l : List Seg) {B B' : Int} {s : Seg}, s ∈ l → s.lo < B → B' ≤ s.lo → cntB l B + 1 ≤ cntB l B'
  | [], _, _, s, hs, _, _ => by simp at hs
  | a :: r, B, B', s, hs, h1, h2 => by
    rcases List.mem_cons.1 hs with rfl | hs
    · have := cntB_mono r (B := B) (B' := B') (by omega)
      unfold cntB at *
      simp only [List.filter_cons]
      rw [if_neg (by simp; omega), if_pos (by simpa using h2)]; simp; exact this
    · have := cntB_step r hs h1 h2
      unfold cntB at *
      simp only [List.filter_cons]
      by_cases c : B ≤ a.lo
      · rw [if_pos (by simpa using c), if_pos (by simp; omega)]; simp; exact this
      · rw [if_neg (by simpa using c)]
        split
        · simp; omega
        · exact this
theorem filter_lt {α : Type} (p q : α → Bool) : ∀ (l : List α), (∀ x ∈ l, q x = true → p x = true) → (∃ x ∈ l, p x = true ∧ q x = false) → (l.filter q).length < (l.filter p).length
  | [], _, ⟨x, hx, _⟩ => by simp at hx
  | a :: r, h, hx => by
    have mono : ∀ (l : List α), (∀ x ∈ l, q x = true → p x = true) → (l.filter q).length ≤ (l.filter p).length := by
      intro l
      induction l with
      | nil => intro _; exact Nat.le_refl _
      | cons b t ih =>
        intro hh
        have := ih fun x hx => hh x (by simp [hx])
        have hb := hh b (by simp)
        simp only [List.filter_cons]
        cases hq : q b with
        | true => rw [hb hq]; simpa using this
        | false => cases p b <;> simp <;> omega
    obtain ⟨x, hx, h1, h2⟩ := hx
    simp only [List.filter_cons]
    rcases List.mem_cons.1 hx with rfl | hx
    · have := mono r fun y hy => h y (by simp [hy])
      rw [h1, h2]; simp; omega
    · have := filter_lt p q r (fun y hy => h y (by simp [hy])) ⟨x, hx, h1, h2⟩
      have ha := h a (by simp)
      cases hq : q a with
      | true => rw [ha hq]; simpa using this
      | false => cases p a <;> simp <;> omega
def lackN (m o : List (List Int)) (s : List Sp.S) : Nat := ((allI m.length o.length).filter fun x => !Sp.hasB s x).length
structure AncI (m o : List (List Int)) (L : List (List Seg)) (s : List Sp.S) (kk : Int) (out todo : List Sp.S) (k : Int) : Prop where
  r1 : Sp.Rt 0 out
  r2 : Sp.Rt 0 todo
  o1 : ∀ n, Sp.has out n → inT m o n ∧ aP m o s n
  t1 : ∀ n, Sp.has todo n → inT m o n ∧ aP m o s n
  all : ∀ n, inT m o n → Sp.has s n → Sp.has out n ∨ Sp.has todo n
  cl : ∀ n p, Sp.has out n → p ∈ parI m o n → Sp.has out p ∨ Sp.has todo p
  dis : ∀ n, Sp.has todo n → ¬ Sp.has out n
  cnt : ∃ B : Int, (∀ n, Sp.has todo n → n < B) ∧ kk ≤ k ∧ k ≤ kk + ((L.length * cntB (L.getD 0 []) B : Nat) : Int)
  one : kk + 1 ≤ k ∨ todo = idsP m o (Sp.has s)
theorem rt_ids {m o : List (List Int)} {l : List Sp.S} (h : Sp.Rt 0 l) (hn : ∀ n, Sp.has l n → inT m o n) : l = idsP m o (Sp.has l) := idsP_eq h fun n => ⟨fun q => ⟨hn n q, q⟩, fun q => q.2⟩
theorem AncI.done {m o : List (List Int)} (h : TOK m o) {L : List (List Seg)} {s out : List Sp.S} {kk k : Int} (hI : AncI m o L s kk out [] k) : out = idsP m o (aP m o s) := by
  refine idsP_eq hI.r1 fun n => ⟨fun q => hI.o1 n q, fun ⟨hn, b, hb, hs, hl⟩ => ?_⟩
  have hb' : Sp.has out b := (hI.all b hb hs).elim id fun q => absurd q (by simp [Sp.has])
  classical
  have := hl ((allI m.length o.length).filter fun x => decide (Sp.has out x)) (by simp only [List.mem_filter, decide_eq_true_iff]; exact ⟨(allI_hasI _ _ _).2 hb, hb'⟩) (by
    intro x hx p hp hpt
    simp only [List.mem_filter, decide_eq_true_iff] at hx ⊢
    exact ⟨(allI_hasI _ _ _).2 hpt, (hI.cl x p hx.2 hp).elim id fun q => absurd q (by simp [Sp.has])⟩)
  simp only [List.mem_filter, decide_eq_true_iff] at this
  exact this.2
theorem AncI.step {m o : List (List Int)} {L : List (List Seg)} (h : DagOK m o L) {s out todo : List Sp.S} {kk k k2 high : Int} {x : Seg} (hI : AncI m o L s kk out todo k) (hh : Sp.has todo high) (hm : ∀ n, Sp.has todo n → n ≤ high)
    (T : Tells m o x high) (W : ∀ s ∈ L.getD 0 [], s.lo ≤ high → high ≤ s.hi → x.lo ≤ s.lo) (h1 : k + 1 ≤ k2) (h2 : k2 ≤ k + L.length) :
    AncI m o L s kk (Sp.uni out [(x.lo, high)]) (Sp.minus (Sp.uni todo (Sp.nf (x.par.map fun i => (i, i)))) (Sp.uni out [(x.lo, high)])) k2 ∧
      lackN m o (Sp.uni out [(x.lo, high)]) < lackN m o out := by
  have hT := hI.t1 high hh
  have Tlo := T.lo
  have okO : Sp.Ok out := by rw [rt_ids hI.r1 fun n q => (hI.o1 n q).1]; exact idsP_ok h.tok _
  have okT : Sp.Ok todo := by rw [rt_ids hI.r2 fun n q => (hI.t1 n q).1]; exact idsP_ok h.tok _
  have okX : Sp.Ok [(x.lo, high)] := fun q hq => by
    simp at hq; subst hq
    have := inT_range h.tok hT.1
    have := T.le
    simp only; omega
  have okP := idsOk h.tok fun p hp => (T.par p hp).1
  have hX : ∀ n, Sp.has [(x.lo, high)] n ↔ x.lo ≤ n ∧ n ≤ high := fun n => by
    unfold Sp.has; simp; omega
  have hP : ∀ n, Sp.has (Sp.nf (x.par.map fun i => (i, i))) n ↔ n ∈ x.par := fun n => by
    rw [Sp.nf_has, has_ones _ _ fun p hp => (inT_range h.tok (T.par p hp).1).1]
  have hO : ∀ n, Sp.has (Sp.uni out [(x.lo, high)]) n ↔ Sp.has out n ∨ (x.lo ≤ n ∧ n ≤ high) := fun n => by rw [Sp.uni_has, hX]
  have hQ : ∀ n, Sp.has (Sp.minus (Sp.uni todo (Sp.nf (x.par.map fun i => (i, i)))) (Sp.uni out [(x.lo, high)])) n ↔ (Sp.has todo n ∨ n ∈ x.par) ∧ ¬ (Sp.has out n ∨ (x.lo ≤ n ∧ n ≤ high)) := fun n => by
    rw [Sp.minus_has (Sp.uni_ok okT (Sp.nf_ok okP)) (Sp.uni_ok okO okX), Sp.uni_has, hP, hO]
  have anc : ∀ n, Leads m o n high → aP m o s n := fun n hl => by
    obtain ⟨b, hb, hs, hl2⟩ := hT.2
    exact ⟨b, hb, hs, hl.trans hl2⟩
  have inX : ∀ n, x.lo ≤ n → n ≤ high → inT m o n ∧ aP m o s n := fun n q1 q2 => ⟨leads_in (T.lead n q1 q2) hT.1, anc n (T.lead n q1 q2)⟩
  refine ⟨⟨Sp.uni_rt _ _, Sp.minus_rt _ _, fun n q => ?_, fun n q => ?_, fun n q1 q2 => ?_, fun n p q hp => ?_, fun n q => ?_, ?_, .inl ?_⟩, ?_⟩
  · rcases (hO n).1 q with q | q
    · exact hI.o1 n q
    · exact inX n q.1 q.2
  · rcases ((hQ n).1 q).1 with q | q
    · exact hI.t1 n q
    · exact ⟨(T.par n q).1, anc n (T.par n q).2⟩
  · rw [hO, hQ]
    rcases hI.all n q1 q2 with q | q
    · exact .inl (.inl q)
    · by_cases c : Sp.has out n ∨ (x.lo ≤ n ∧ n ≤ high)
      · exact .inl c
      · exact .inr ⟨.inl q, c⟩
  · rw [hO, hQ]
    by_cases c : Sp.has out p ∨ (x.lo ≤ p ∧ p ≤ high)
    · exact .inl c
    · refine .inr ⟨?_, c⟩
      rcases (hO n).1 q with q | q
      · rcases hI.cl n p q hp with q | q
        · exact absurd (.inl q) c
        · exact .inl q
      · have := h.tok.par hp
        exact .inr (T.all n q.1 q.2 p hp (by
          by_cases c2 : p < x.lo
          · exact c2
          · exact absurd (.inr ⟨by omega, by omega⟩) c))
  · rw [hO]; exact ((hQ n).1 q).2
  · obtain ⟨B, hB, hk1, hk2⟩ := hI.cnt
    obtain ⟨j, hj, hin, _⟩ := h.seg (i := 0) (by have := h.len1; omega) hT.1
    have hs0 := seg_mem hj
    generalize (L.getD 0 []).getD j default = s0 at *
    have hlo := W s0 hs0 hin.1 hin.2
    have hb := hB high hh
    have hin1 := hin.1
    have c1 := cntB_step (L.getD 0 []) (B := B) (B' := x.lo) hs0 (by omega) hlo
    refine ⟨x.lo, fun n q => ?_, by omega, ?_⟩
    · obtain ⟨q1, q2⟩ := (hQ n).1 q
      rcases q1 with q1 | q1
      · have := hm n q1
        by_cases c2 : n < x.lo
        · exact c2
        · exact absurd (.inr ⟨by omega, this⟩) q2
      · have := leads_le h.tok (T.par n q1).2
        by_cases c2 : n < x.lo
        · exact c2
        · exact absurd (.inr ⟨by omega, this⟩) q2
    · have c2 : L.length * (cntB (L.getD 0 []) B + 1) ≤ L.length * cntB (L.getD 0 []) x.lo := Nat.mul_le_mul_left _ c1
      rw [Nat.mul_succ] at c2
      omega
  · obtain ⟨B, hB, hk1, hk2⟩ := hI.cnt
    omega
  · refine filter_lt _ _ _ (fun n _ q => ?_) ⟨high, (allI_hasI _ _ _).2 hT.1, ?_, ?_⟩
    · simp only [Bool.not_eq_true'] at q ⊢
      cases hq : Sp.hasB out n with
      | false => rfl
      | true =>
        have := (Sp.hasB_iff _ _).2 ((hO n).2 (.inl ((Sp.hasB_iff _ _).1 hq)))
        rw [this] at q; cases q
    · simp only [Bool.not_eq_true']
      cases hq : Sp.hasB out high with
      | false => rfl
      | true => exact absurd ((Sp.hasB_iff _ _).1 hq) (hI.dis high hh)
    · simp only [Bool.not_eq_false']
      exact (Sp.hasB_iff _ _).2 ((hO high).2 (.inr ⟨T.le, Int.le_refl _⟩))
end Gv.Tryz
/- Contracts: ancestors of a set. -/
set_option linter.unusedVariables false
set_option linter.unusedSimpArgs false
set_option maxRecDepth 20000
set_option maxHeartbeats 8000000
namespace Gv.Tryz
open Go Gv Go.Proofs
theorem rt_last {l : List Sp.S} (h : Sp.Rt 0 l) {n : Int} (hn : Sp.has l n) : n ≤ (l.getD (l.length - 1) (0, 0)).2 := by
  rcases List.eq_nil_or_concat l with e | ⟨A, x, e⟩
  · subst e; simp [Sp.has] at hn
  · subst e
    rw [List.concat_eq_append] at *
    have e1 : (A ++ [x]).length - 1 = A.length := by simp
    rw [e1, getD_last]
    obtain ⟨_, _, h3, h4⟩ := (Sp.Rt_snoc x A 0).1 h
    rcases (Sp.has_app _ _ _).1 hn with ⟨y, hy, q1, q2, q3⟩ | ⟨y, hy, q1, q2, q3⟩
    · have := h4 y hy; omega
    · simp at hy; subst hy; exact q3
theorem aAncestors {m o : List (List Int)} {L : List (List Seg)} (h : DagOK m o L) (s : List Sp.S) (t : Tag) (hl : s.length ≤ 1000000) (hs : Sp.Ok s) (st : Nat) (kk : Int) (hk : 0 ≤ kk ∧ kk ≤ 100000000) :
    GCalls Tryz.prog 19 [.ptr 0 st 0 0, .slice (spl s) t] [.row st 3 [dagG L (allN L) kk]] (fun g O' => ∃ x', O' = [x'] ∧ ∃ k', g = .slice (spl (idsP m o (aP m o s))) .none ∧ x' = .row st 3 [dagG L (allN L) k'] ∧ kk ≤ k' ∧ k' ≤ kk + ((L.length * (L.getD 0 []).length : Nat) : Int) ∧ (idsP m o (Sp.has s) ≠ [] → kk + 1 ≤ k')) := by
  have hN := h.allLen
  have hT := h.tok.len
  have hL1 := h.len1
  have hL4 := h.len4
  have hll := (h.size 0).1
  have hfz : ∀ B, L.length * cntB (L.getD 0 []) B ≤ L.length * (L.getD 0 []).length := fun B => Nat.mul_le_mul_left _ (cntB_le _ _)
  have hf2 : L.length * (L.getD 0 []).length ≤ 4 * 1000 := Nat.mul_le_mul hL4 hll
  refine h19.calls mixS (by simp) ?_
  simp only [gstart, s19, List.cons_append, List.nil_append, List.length_cons, List.length_nil, Nat.reduceAdd, Nat.reduceSub, List.replicate_succ, List.replicate_zero]
  simp +contextual -implicitDefEqProofs (maxSteps := 2000000) (disch := omega) only [↓unV, optV, ↓loadV, ↓storeV, ↓fieldAddrV, ↓allocV, ↓buildV, ↓buildSliceV, ↓sliceV, bound, cutTag, hiTag, fillG, fillE, place, GVal.cells, grp, GVal.ofConst, ↓resV, resG, List.map, List.headD, List.take, List.drop, ↓reduceIte, Nat.reduceEqDiff, Nat.reduceAdd, Nat.reduceSub, Nat.reduceLeDiff, reduceCtorEq, implies_true, ne_eq, Tag.cap, List.replicate, allSolid, GVal.solid, Nat.reduceBEq, Nat.reduceMul, Nat.reduceLT, List.length_map, List.length_range, splice, vcA, ↓vcB, vcC, fbFz, e19]
  refine (aThere L (allN L) s t (by omega) hs h.allOk).then ?_
  rw [h.thereEq s]
  simp +contextual -implicitDefEqProofs (maxSteps := 2000000) (disch := omega) only [↓unV, optV, ↓loadV, ↓storeV, ↓fieldAddrV, ↓allocV, ↓buildV, ↓buildSliceV, ↓sliceV, bound, cutTag, hiTag, fillG, fillE, place, GVal.cells, grp, GVal.ofConst, ↓resV, resG, List.map, List.headD, List.take, List.drop, ↓reduceIte, Nat.reduceEqDiff, Nat.reduceAdd, Nat.reduceSub, Nat.reduceLeDiff, reduceCtorEq, implies_true, ne_eq, Tag.cap, List.replicate, allSolid, GVal.solid, Nat.reduceBEq, Nat.reduceMul, Nat.reduceLT, List.length_map, List.length_range, splice, vcA, ↓vcB, vcC, fbFz, e19]
  refine vcSLoop_by (ι := { p : List Sp.S × List Sp.S × Int // AncI m o L s kk p.1 p.2.1 p.2.2 }) (fun p => ⟨[.ptr 0 st 0 0, .any, .any, .any, .any, .slice (spl p.1.1) .none, .slice (spl p.1.2.1) .none] ++ List.replicate 33 .any, [.row st 3 [dagG L (allN L) p.1.2.2]]⟩) (fun p => lackN m o p.1.1) ?_ ?_
  · refine Into.first ⟨([], idsP m o (Sp.has s), kk), ?_⟩ ⟨[], by simp⟩ (by simp [WL, leG_self, leG_any, leG_none, spl])
    have no : ∀ n, ¬ Sp.has [] n := fun n q => by simp [Sp.has] at q
    refine ⟨trivial, idsP_rt _ _ _, fun n q => absurd q (no n), fun n q => ?_, fun n q1 q2 => .inr ((idsP_has _ _ _ _).2 ⟨q1, q2⟩), fun n p q => absurd q (no n), fun n q => no n, ⟨1099511628777, fun n q => ?_, Int.le_refl _, by show kk ≤ kk + _; omega⟩, .inr rfl⟩
    · have := (idsP_has _ _ _ _).1 q
      exact ⟨this.1, n, this.1, this.2, Leads.refl m o n⟩
    · have := inT_range h.tok ((idsP_has _ _ _ _).1 q).1; omega
  · rintro ⟨⟨out, todo, k⟩, hI⟩
    change AncI m o L s kk out todo k at hI
    have eO := rt_ids hI.r1 fun n q => (hI.o1 n q).1
    have eT := rt_ids hI.r2 fun n q => (hI.t1 n q).1
    have lO : out.length ≤ 1000 := by rw [eO]; have := idsP_len m o (Sp.has out); omega
    have lT : todo.length ≤ 1000 := by rw [eT]; have := idsP_len m o (Sp.has todo); omega
    have okO : Sp.Ok out := by rw [eO]; exact idsP_ok h.tok _
    have okT : Sp.Ok todo := by rw [eT]; exact idsP_ok h.tok _
    have cH := sHigh todo .none (by omega) okT
    rw [Sp.nf_rt_eq hI.r2] at cH
    unfold highV at cH
    obtain ⟨B, hB, hk1, hk2⟩ := hI.cnt
    have hb := hfz B
    by_cases h0 : 0 < todo.length
    · rw [decide_eq_true h0] at cH
      have hmem : todo.getD (todo.length - 1) (0, 0) ∈ todo := by
        rw [List.getD_eq_getElem?_getD, List.getElem?_eq_getElem (by omega)]; exact List.getElem_mem _
      have hhas := hI.r2.hi (Int.le_refl _) hmem
      have hmax : ∀ n, Sp.has todo n → n ≤ (todo.getD (todo.length - 1) (0, 0)).2 := fun n q => rt_last hI.r2 q
      have hin := hI.t1 _ hhas
      have hr := inT_range h.tok hin.1
      generalize (todo.getD (todo.length - 1) (0, 0)).2 = high at *
      simp +contextual -implicitDefEqProofs (maxSteps := 2000000) (disch := omega) only [↓unV, optV, ↓loadV, ↓storeV, ↓fieldAddrV, ↓allocV, ↓buildV, ↓buildSliceV, ↓sliceV, bound, cutTag, hiTag, fillG, fillE, place, GVal.cells, grp, GVal.ofConst, ↓resV, resG, List.map, List.headD, List.take, List.drop, ↓reduceIte, Nat.reduceEqDiff, Nat.reduceAdd, Nat.reduceSub, Nat.reduceLeDiff, reduceCtorEq, implies_true, ne_eq, Tag.cap, List.replicate, allSolid, GVal.solid, Nat.reduceBEq, Nat.reduceMul, Nat.reduceLT, List.length_map, List.length_range, splice, vcA, ↓vcB, vcC, fbFz, e19]
      refine cH.then ?_ (by rfl)
      simp +contextual -implicitDefEqProofs (maxSteps := 2000000) (disch := omega) only [↓unV, optV, ↓loadV, ↓storeV, ↓fieldAddrV, ↓allocV, ↓buildV, ↓buildSliceV, ↓sliceV, bound, cutTag, hiTag, fillG, fillE, place, GVal.cells, grp, GVal.ofConst, ↓resV, resG, List.map, List.headD, List.take, List.drop, ↓reduceIte, Nat.reduceEqDiff, Nat.reduceAdd, Nat.reduceSub, Nat.reduceLeDiff, reduceCtorEq, implies_true, ne_eq, Tag.cap, List.replicate, allSolid, GVal.solid, Nat.reduceBEq, Nat.reduceMul, Nat.reduceLT, List.length_map, List.length_range, splice, vcA, ↓vcB, vcC, fbFz, e19]
      refine (aWhole h high hin.1 st k (by omega)).mono ?_
      rintro g O' ⟨_, rfl, x, k2, rfl, rfl, hk3, hk4, T, W⟩
      obtain ⟨I2, hlack⟩ := hI.step h hhas hmax T W hk3 hk4
      have T1 := T.lo
      have T2 := T.le
      have okX : Sp.Ok [(x.lo, high)] := fun q hq => by simp at hq; subst hq; simp only; omega
      have okP := idsOk h.tok fun p hp => (T.par p hp).1
      have cU := sUnion out [(x.lo, high)] .none .full (by simp; omega) okO okX
      have lU := Sp.uni_len out [(x.lo, high)]
      have okU := Sp.uni_ok okO okX
      have cOf := sOf x.par .none T.len (getD_bounds (fun p hp => by have := inT_range h.tok (T.par p hp).1; omega) (by omega) (by omega))
      have lP := Sp.nf_len (x.par.map fun i => (i, i))
      rw [List.length_map] at lP
      have lX := T.len
      have cU2 := sUnion todo (Sp.nf (x.par.map fun i => (i, i))) .none .none (by omega) okT (Sp.nf_ok okP)
      have lU2 := Sp.uni_len todo (Sp.nf (x.par.map fun i => (i, i)))
      have okU2 := Sp.uni_ok okT (Sp.nf_ok okP)
      simp only [List.length_singleton] at lU
      have cM := sMinus (Sp.uni todo (Sp.nf (x.par.map fun i => (i, i)))) (Sp.uni out [(x.lo, high)]) .none .none (by omega) okU2 okU
      simp +contextual -implicitDefEqProofs (maxSteps := 2000000) (disch := omega) only [↓unV, optV, ↓loadV, ↓storeV, ↓fieldAddrV, ↓allocV, ↓buildV, ↓buildSliceV, ↓sliceV, bound, cutTag, hiTag, fillG, fillE, place, GVal.cells, grp, GVal.ofConst, ↓resV, resG, List.map, List.headD, List.take, List.drop, ↓reduceIte, Nat.reduceEqDiff, Nat.reduceAdd, Nat.reduceSub, Nat.reduceLeDiff, reduceCtorEq, implies_true, ne_eq, Tag.cap, List.replicate, allSolid, GVal.solid, Nat.reduceBEq, Nat.reduceMul, Nat.reduceLT, List.length_map, List.length_range, splice, vcA, ↓vcB, vcC, fbFz, e19, segG]
      intro w
      refine cU.then ?_ (by rfl)
      simp +contextual -implicitDefEqProofs (maxSteps := 2000000) (disch := omega) only [↓unV, optV, ↓loadV, ↓storeV, ↓fieldAddrV, ↓allocV, ↓buildV, ↓buildSliceV, ↓sliceV, bound, cutTag, hiTag, fillG, fillE, place, GVal.cells, grp, GVal.ofConst, ↓resV, resG, List.map, List.headD, List.take, List.drop, ↓reduceIte, Nat.reduceEqDiff, Nat.reduceAdd, Nat.reduceSub, Nat.reduceLeDiff, reduceCtorEq, implies_true, ne_eq, Tag.cap, List.replicate, allSolid, GVal.solid, Nat.reduceBEq, Nat.reduceMul, Nat.reduceLT, List.length_map, List.length_range, splice, vcA, ↓vcB, vcC, fbFz, e19, segG]
      refine cOf.then ?_ (by rfl)
      simp +contextual -implicitDefEqProofs (maxSteps := 2000000) (disch := omega) only [↓unV, optV, ↓loadV, ↓storeV, ↓fieldAddrV, ↓allocV, ↓buildV, ↓buildSliceV, ↓sliceV, bound, cutTag, hiTag, fillG, fillE, place, GVal.cells, grp, GVal.ofConst, ↓resV, resG, List.map, List.headD, List.take, List.drop, ↓reduceIte, Nat.reduceEqDiff, Nat.reduceAdd, Nat.reduceSub, Nat.reduceLeDiff, reduceCtorEq, implies_true, ne_eq, Tag.cap, List.replicate, allSolid, GVal.solid, Nat.reduceBEq, Nat.reduceMul, Nat.reduceLT, List.length_map, List.length_range, splice, vcA, ↓vcB, vcC, fbFz, e19, segG]
      refine cU2.then ?_ (by rfl)
      simp +contextual -implicitDefEqProofs (maxSteps := 2000000) (disch := omega) only [↓unV, optV, ↓loadV, ↓storeV, ↓fieldAddrV, ↓allocV, ↓buildV, ↓buildSliceV, ↓sliceV, bound, cutTag, hiTag, fillG, fillE, place, GVal.cells, grp, GVal.ofConst, ↓resV, resG, List.map, List.headD, List.take, List.drop, ↓reduceIte, Nat.reduceEqDiff, Nat.reduceAdd, Nat.reduceSub, Nat.reduceLeDiff, reduceCtorEq, implies_true, ne_eq, Tag.cap, List.replicate, allSolid, GVal.solid, Nat.reduceBEq, Nat.reduceMul, Nat.reduceLT, List.length_map, List.length_range, splice, vcA, ↓vcB, vcC, fbFz, e19, segG]
      refine cM.then ?_ (by rfl)
      simp +contextual -implicitDefEqProofs (maxSteps := 2000000) (disch := omega) only [↓unV, optV, ↓loadV, ↓storeV, ↓fieldAddrV, ↓allocV, ↓buildV, ↓buildSliceV, ↓sliceV, bound, cutTag, hiTag, fillG, fillE, place, GVal.cells, grp, GVal.ofConst, ↓resV, resG, List.map, List.headD, List.take, List.drop, ↓reduceIte, Nat.reduceEqDiff, Nat.reduceAdd, Nat.reduceSub, Nat.reduceLeDiff, reduceCtorEq, implies_true, ne_eq, Tag.cap, List.replicate, allSolid, GVal.solid, Nat.reduceBEq, Nat.reduceMul, Nat.reduceLT, List.length_map, List.length_range, splice, vcA, ↓vcB, vcC, fbFz, e19, segG]
      exact Into.at ⟨(Sp.uni out [(x.lo, high)], Sp.minus (Sp.uni todo (Sp.nf (x.par.map fun i => (i, i)))) (Sp.uni out [(x.lo, high)]), k2), I2⟩ hlack ⟨[.row w 5 [segG x]], by simp [segG]⟩ (by simp [WL, leG_self, leG_any])
    · rw [decide_eq_false h0] at cH
      have e : todo = [] := List.length_eq_zero_iff.1 (by omega)
      subst e
      have hd := hI.done h.tok
      simp +contextual -implicitDefEqProofs (maxSteps := 2000000) (disch := omega) only [↓unV, optV, ↓loadV, ↓storeV, ↓fieldAddrV, ↓allocV, ↓buildV, ↓buildSliceV, ↓sliceV, bound, cutTag, hiTag, fillG, fillE, place, GVal.cells, grp, GVal.ofConst, ↓resV, resG, List.map, List.headD, List.take, List.drop, ↓reduceIte, Nat.reduceEqDiff, Nat.reduceAdd, Nat.reduceSub, Nat.reduceLeDiff, reduceCtorEq, implies_true, ne_eq, Tag.cap, List.replicate, allSolid, GVal.solid, Nat.reduceBEq, Nat.reduceMul, Nat.reduceLT, List.length_map, List.length_range, splice, vcA, ↓vcB, vcC, fbFz, e19]
      refine cH.then ?_ (by rfl)
      simp +contextual -implicitDefEqProofs (maxSteps := 2000000) (disch := omega) only [↓unV, optV, ↓loadV, ↓storeV, ↓fieldAddrV, ↓allocV, ↓buildV, ↓buildSliceV, ↓sliceV, bound, cutTag, hiTag, fillG, fillE, place, GVal.cells, grp, GVal.ofConst, ↓resV, resG, List.map, List.headD, List.take, List.drop, ↓reduceIte, Nat.reduceEqDiff, Nat.reduceAdd, Nat.reduceSub, Nat.reduceLeDiff, reduceCtorEq, implies_true, ne_eq, Tag.cap, List.replicate, allSolid, GVal.solid, Nat.reduceBEq, Nat.reduceMul, Nat.reduceLT, List.length_map, List.length_range, splice, vcA, ↓vcB, vcC, fbFz, e19]
      refine ⟨_, rfl, k, by rw [hd], rfl, hk1, by omega, fun hne => ?_⟩
      rcases hI.one with q | q
      · exact q
      · exact absurd q.symm hne
end Gv.Tryz
/- The document's questions: plain laws. -/
set_option linter.unusedVariables false
set_option linter.unusedSimpArgs false
namespace Gv.Tryz
open Go Gv Go.Proofs
def thereL (m o : List (List Int)) (s : List Sp.S) : List Int := (allI m.length o.length).filter fun n => Sp.hasB s n
theorem there_mem {m o : List (List Int)} {s : List Sp.S} {n : Int} : n ∈ thereL m o s ↔ inT m o n ∧ Sp.has s n := by
  unfold thereL
  rw [List.mem_filter, allI_hasI, Sp.hasB_iff]
theorem there_len (m o : List (List Int)) (s : List Sp.S) : (thereL m o s).length ≤ m.length + o.length := by
  refine Nat.le_trans (List.length_filter_le _ _) ?_
  rw [allI_len]; omega
theorem of_idsP {m o : List (List Int)} {P : Int → Prop} {l : List Int} (hn : ∀ n, n ∈ l ↔ inT m o n ∧ P n) : Sp.nf (l.map fun i => (i, i)) = idsP m o P := by
  refine idsP_eq (Sp.nf_rt _) fun n => ?_
  rw [Sp.nf_has, has_ones _ _ (fun x hx => allI_pos m.length o.length x ((allI_hasI _ _ _).2 ((hn x).1 hx).1)), hn]
theorem list_range {m o : List (List Int)} (h : TOK m o) {l : List Int} (hn : ∀ n, n ∈ l → inT m o n) (i : Nat) : -9223372036854775808 ≤ l.getD i 0 ∧ l.getD i 0 ≤ 9223372036854775807 := by
  by_cases hi : i < l.length
  · have := inT_range h (hn _ (getD_mem hi)); omega
  · rw [List.getD_eq_getElem?_getD, List.getElem?_eq_none (by omega)]; simp
def parsL (m o : List (List Int)) (l : List Int) : List Int := l.flatMap (parI m o)
theorem parsL_mem {m o : List (List Int)} (h : TOK m o) {s : List Sp.S} {n : Int} : n ∈ parsL m o (thereL m o s) ↔ inT m o n ∧ pP m o s n := by
  unfold parsL
  rw [List.mem_flatMap]
  constructor
  · rintro ⟨x, hx, hp⟩
    have := there_mem.1 hx
    exact ⟨(h.par hp).2, x, this.1, this.2, hp⟩
  · rintro ⟨_, x, h1, h2, h3⟩
    exact ⟨x, there_mem.2 ⟨h1, h2⟩, h3⟩
theorem parsL_take {m o : List (List Int)} (l : List Int) (k : Nat) (h : k < l.length) : parsL m o (l.take (k + 1)) = parsL m o (l.take k) ++ parI m o (l.getD k 0) := by
  unfold parsL
  rw [List.take_add_one, List.flatMap_append]; simp [List.getD, h]
theorem parsL_len {m o : List (List Int)} (h4 : ∀ x, (parI m o x).length ≤ 4) : ∀ l : List Int, (parsL m o l).length ≤ 4 * l.length
  | [] => by simp [parsL]
  | a :: l => by
    have := parsL_len h4 l
    have := h4 a
    simp only [parsL, List.flatMap_cons, List.length_append, List.length_cons] at *
    omega
def anyIn (l p : List Int) : Bool := p.any fun x => decide (x ∈ l)
theorem anyIn_take (l p : List Int) (k : Nat) (h : k < p.length) : anyIn l (p.take (k + 1)) = (anyIn l (p.take k) || decide (p.getD k 0 ∈ l)) := by
  unfold anyIn
  rw [List.take_add_one, List.any_append]; simp [List.getD, h]
theorem anyIn_iff (l p : List Int) : anyIn l p = true ↔ ∃ x ∈ p, x ∈ l := by simp [anyIn]
theorem anyIn_cP {m o : List (List Int)} (h : TOK m o) {s : List Sp.S} {c : Int} : anyIn (thereL m o s) (parI m o c) = true ↔ cP m o s c := by
  rw [anyIn_iff]
  exact ⟨fun ⟨x, hx, ht⟩ => ⟨x, hx, (there_mem.1 ht).2⟩, fun ⟨x, hx, ht⟩ => ⟨x, hx, there_mem.2 ⟨(h.par hx).2, ht⟩⟩⟩
def kidsL (m o : List (List Int)) (s : List Sp.S) (l : List Int) : List Int := l.filter fun c => anyIn (thereL m o s) (parI m o c)
theorem kidsL_mem {m o : List (List Int)} (h : TOK m o) {s : List Sp.S} {n : Int} : n ∈ kidsL m o s (allI m.length o.length) ↔ inT m o n ∧ cP m o s n := by
  unfold kidsL
  rw [List.mem_filter, allI_hasI, anyIn_cP h]
theorem filt_take1 (l : List Int) (f : Int → Bool) (k : Nat) (h : k < l.length) : (l.take (k + 1)).filter f = (l.take k).filter f ++ (if f (l.getD k 0) = true then [l.getD k 0] else []) := by
  rw [List.take_add_one, List.filter_append, List.getElem?_eq_getElem h]
  have : l.getD k 0 = l[k] := by simp [List.getD, h]
  rw [this]
  simp only [Option.toList, List.filter_cons, List.filter_nil]
def rootsL (m o : List (List Int)) (s : List Sp.S) (l : List Int) : List Int := l.filter fun c => !anyIn (thereL m o s) (parI m o c)
theorem rootsL_mem {m o : List (List Int)} (h : TOK m o) {s : List Sp.S} {n : Int} : n ∈ rootsL m o s (thereL m o s) ↔ inT m o n ∧ (Sp.has s n ∧ ¬ cP m o s n) := by
  unfold rootsL
  rw [List.mem_filter, there_mem, ← anyIn_cP h (s := s)]
  simp [and_assoc]
theorem upset_mem {m o : List (List Int)} (h : TOK m o) {s : List Sp.S} {l : List Int} (hu : UpSet m o (thereL m o s) l) (n : Int) : n ∈ l ↔ inT m o n ∧ aP m o s n := by
  constructor
  · intro hn
    refine ⟨hu.has n hn, ?_⟩
    exact hu.least (aP m o s) (fun x hx => ⟨x, (there_mem.1 hx).1, (there_mem.1 hx).2, Leads.refl m o x⟩) (fun x ⟨b, hb, hs, hl⟩ p hp => ⟨b, hb, hs, (Leads.par hp (h.par hp).2).trans hl⟩) n (.inl hn)
  · rintro ⟨hn, b, hb, hs, hl⟩
    have hbl : b ∈ l := (hu.start b (there_mem.2 ⟨hb, hs⟩) hb).resolve_right (by simp)
    exact hl l hbl fun x hx p hp hpt => (hu.step x hx p hp hpt).resolve_right (by simp)
structure DownInv (m o : List (List Int)) (s : List Sp.S) (k : Nat) (out : List Int) : Prop where
  nodup : out.Nodup
  mem : ∀ n, n ∈ out ↔ inT m o n ∧ (Sp.has s n ∨ n ∈ (allI m.length o.length).take k ∧ dP m o s n)
theorem DownInv.len {m o : List (List Int)} {s : List Sp.S} {k : Nat} {out : List Int} (h : DownInv m o s k out) : out.length ≤ m.length + o.length := by
  have := nodup_len out (allI m.length o.length) h.nodup fun x hx => (allI_hasI _ _ _).2 ((h.mem x).1 hx).1
  rwa [allI_len] at this
theorem allI_nodup (a b : Nat) (h1000 : a ≤ 1000) : (allI a b).Nodup := by
  refine List.pairwise_iff_getElem.2 fun i j hi hj hij => ?_
  have e1 := allI_at a b i (by rw [allI_len] at hi; exact hi)
  have e2 := allI_at a b j (by rw [allI_len] at hj; exact hj)
  simp only [List.getD, List.getElem?_eq_getElem hi, List.getElem?_eq_getElem hj, Option.getD_some] at e1 e2
  have hs : split = 1099511627776 := rfl
  rw [allI_len] at hi hj
  intro e
  split at e1 <;> split at e2 <;> omega
theorem DownInv.start {m o : List (List Int)} (h : TOK m o) (s : List Sp.S) : DownInv m o s 0 (thereL m o s) :=
  ⟨(allI_nodup _ _ (by have := h.len; omega)).filter _, fun n => by rw [there_mem]; simp⟩
theorem ahead_take {m o : List (List Int)} (hsz : m.length + o.length ≤ 1000) {k : Nat} (hk : k < m.length + o.length) {p : Int} (hp : inT m o p) : p ∈ (allI m.length o.length).take k ↔ p < (allI m.length o.length).getD k 0 := by
  have hs : split = 1099511627776 := rfl
  have ek := allI_at m.length o.length k hk
  have hl := allI_len m.length o.length
  constructor
  · intro h
    obtain ⟨i, hi, e⟩ := List.getElem_of_mem h
    rw [List.length_take] at hi
    rw [List.getElem_take] at e
    have ei := allI_at m.length o.length i (by omega)
    simp only [List.getD, List.getElem?_eq_getElem (by omega : i < (allI m.length o.length).length), Option.getD_some, e] at ei
    split at ei <;> split at ek <;> omega
  · intro h
    obtain ⟨i, hi, e⟩ := List.getElem_of_mem ((allI_hasI _ _ _).2 hp)
    have ei := allI_at m.length o.length i (by omega)
    simp only [List.getD, List.getElem?_eq_getElem hi, Option.getD_some, e] at ei
    have hik : i < k := by split at ei <;> split at ek <;> omega
    rw [← e]
    rw [List.mem_take_iff_getElem]
    exact ⟨i, by omega, rfl⟩
theorem dP_step {m o : List (List Int)} (h : TOK m o) {s : List Sp.S} {d : Int} (hd : inT m o d) : dP m o s d ↔ Sp.has s d ∨ ∃ p ∈ parI m o d, dP m o s p := by
  constructor
  · rintro ⟨a, ha, hs, hl⟩
    rcases (leads_iff h).1 hl with e | ⟨p, hp, hl⟩
    · exact .inl (by rw [← e]; exact hs)
    · exact .inr ⟨p, hp, a, ha, hs, hl⟩
  · rintro (hs | ⟨p, hp, a, ha, hs, hl⟩)
    · exact ⟨d, hd, hs, Leads.refl m o d⟩
    · exact ⟨a, ha, hs, (leads_iff h).2 (.inr ⟨p, hp, hl⟩)⟩
def downStep (out : List Int) (x : Int) (p : List Int) : List Int := if anyIn out p = true ∧ x ∉ out then out ++ [x] else out
theorem DownInv.go {m o : List (List Int)} (h : TOK m o) {s : List Sp.S} {k : Nat} {out : List Int} (hI : DownInv m o s k out) (hk : k < m.length + o.length) :
    DownInv m o s (k + 1) (downStep out ((allI m.length o.length).getD k 0) (parI m o ((allI m.length o.length).getD k 0))) := by
  have hl := allI_len m.length o.length
  have ht : (allI m.length o.length).take (k + 1) = (allI m.length o.length).take k ++ [(allI m.length o.length).getD k 0] := by
    rw [List.take_add_one]; simp [List.getD, (by omega : k < (allI m.length o.length).length)]
  have hah := fun p => ahead_take (m := m) (o := o) h.len hk (p := p)
  have hx : inT m o ((allI m.length o.length).getD k 0) := (allI_hasI _ _ _).1 (getD_mem (by omega))
  generalize (allI m.length o.length).getD k 0 = x at *
  have hany : anyIn out (parI m o x) = true ↔ ∃ p ∈ parI m o x, dP m o s p := by
    rw [anyIn_iff]
    constructor
    · rintro ⟨p, hp, ho⟩
      obtain ⟨h1, h2⟩ := (hI.mem p).1 ho
      exact ⟨p, hp, h2.elim (fun h2 => (dP_step h h1).2 (.inl h2)) (·.2)⟩
    · rintro ⟨p, hp, hd⟩
      obtain ⟨h1, h2⟩ := h.par hp
      exact ⟨p, hp, (hI.mem p).2 ⟨h2, .inr ⟨(hah p h2).2 h1, hd⟩⟩⟩
  have hxout : x ∈ out ↔ Sp.has s x := by
    rw [hI.mem]
    constructor
    · rintro ⟨_, h2 | ⟨h2, _⟩⟩
      · exact h2
      · exact absurd ((hah x hx).1 h2) (by omega)
    · exact fun h2 => ⟨hx, .inl h2⟩
  have hd := dP_step (s := s) h hx
  unfold downStep
  split
  · rename_i hc
    refine ⟨?_, fun n => ?_⟩
    · rw [List.nodup_append]
      exact ⟨hI.nodup, by simp, fun a ha b hb => by simp at hb; subst hb; exact fun e => hc.2 (by rw [← e]; exact ha)⟩
    · rw [List.mem_append, hI.mem, ht, List.mem_append, List.mem_singleton]
      constructor
      · rintro (⟨h1, h2 | ⟨h2, h3⟩⟩ | rfl)
        · exact ⟨h1, .inl h2⟩
        · exact ⟨h1, .inr ⟨.inl h2, h3⟩⟩
        · exact ⟨hx, .inr ⟨.inr rfl, hd.2 (.inr (hany.1 hc.1))⟩⟩
      · rintro ⟨h1, h2 | ⟨h2 | h2, h3⟩⟩
        · exact .inl ⟨h1, .inl h2⟩
        · exact .inl ⟨h1, .inr ⟨h2, h3⟩⟩
        · exact .inr h2
  · rename_i hc
    refine ⟨hI.nodup, fun n => ?_⟩
    rw [hI.mem, ht, List.mem_append, List.mem_singleton]
    constructor
    · rintro ⟨h1, h2 | ⟨h2, h3⟩⟩
      · exact ⟨h1, .inl h2⟩
      · exact ⟨h1, .inr ⟨.inl h2, h3⟩⟩
    · rintro ⟨h1, h2 | ⟨h2 | rfl, h3⟩⟩
      · exact ⟨h1, .inl h2⟩
      · exact ⟨h1, .inr ⟨h2, h3⟩⟩
      · rcases hd.1 h3 with q | q
        · exact ⟨h1, .inl q⟩
        · have := hany.2 q
          by_cases hxo : n ∈ out
          · exact ⟨h1, .inl (hxout.1 hxo)⟩
          · exact absurd ⟨this, hxo⟩ hc
theorem DownInv.fin {m o : List (List Int)} (h : TOK m o) {s : List Sp.S} {out : List Int} (hI : DownInv m o s (m.length + o.length) out) (n : Int) : n ∈ out ↔ inT m o n ∧ dP m o s n := by
  have hl := allI_len m.length o.length
  rw [hI.mem, List.take_of_length_le (by omega)]
  constructor
  · rintro ⟨h1, h2 | ⟨_, h2⟩⟩
    · exact ⟨h1, (dP_step h h1).2 (.inl h2)⟩
    · exact ⟨h1, h2⟩
  · rintro ⟨h1, h2⟩
    exact ⟨h1, .inr ⟨(allI_hasI _ _ _).2 h1, h2⟩⟩
end Gv.Tryz
