/- Contracts: descendants, heads, roots, what lies between. -/
import Derived.Test.YthidcccnjplafaaGreatP13
import Derived.Test.YthidcccnjplafaaGreatP14
import Derived.Test.YthidcccnjplafaaGreatP5
import Derived.OpenShut
import Derived.ChangeArms
import Derived.Carry
import Derived.Test.YthidcccnjplafaaGreatP9
set_option linter.unusedVariables false
set_option linter.unusedSimpArgs false
set_option maxRecDepth 20000
set_option maxHeartbeats 8000000
namespace Gv.Tryz
open Go Gv Go.Proofs
theorem rt_first {l : List Sp.S} (h : Sp.Rt 0 l) {n : Int} (hn : Sp.has l n) : (l.getD 0 (0, 0)).1 ≤ n := by
  cases l with
  | nil => simp [Sp.has] at hn
  | cons x r =>
    obtain ⟨h1, h2, h3⟩ := h
    rcases (Sp.has_cons _ _ _).1 hn with ⟨_, q, _⟩ | q
    · exact q
    · have := h3.ge q
      show x.1 ≤ n
      omega
structure DesI (m o : List (List Int)) (s : List Sp.S) (l : List Seg) (k : Nat) (out : List Sp.S) : Prop where
  rt : Sp.Rt 0 out
  has : ∀ n, Sp.has out n ↔ (∃ x ∈ l.take k, x.lo ≤ n ∧ n ≤ x.hi) ∧ inT m o n ∧ dP m o s n
theorem dP_iff {m o : List (List Int)} (h : TOK m o) {s : List Sp.S} {n : Int} (hn : inT m o n) : dP m o s n ↔ Sp.has s n ∨ ∃ p ∈ parI m o n, dP m o s p := by
  unfold dP
  constructor
  · rintro ⟨a, ha, hs, hl⟩
    rcases (leads_iff h).1 hl with rfl | ⟨p, hp, hl⟩
    · exact .inl hs
    · exact .inr ⟨p, hp, a, ha, hs, hl⟩
  · rintro (hs | ⟨p, hp, a, ha, hs, hl⟩)
    · exact ⟨n, hn, hs, Leads.refl m o n⟩
    · exact ⟨a, ha, hs, hl.trans (Leads.par hp (h.par hp).2)⟩
theorem dP_seg {m o : List (List Int)} (h : TOK m o) {s : List Sp.S} {x : Seg} (hx : FlatS m o x) {n : Int} (h1 : x.lo ≤ n) (h2 : n ≤ x.hi) : dP m o s n ↔ (∃ p ∈ x.par, dP m o s p) ∨ ∃ y, x.lo ≤ y ∧ y ≤ n ∧ Sp.has s y := by
  have key : ∀ k : Nat, x.lo + k ≤ x.hi → (dP m o s (x.lo + k) ↔ (∃ p ∈ x.par, dP m o s p) ∨ ∃ y, x.lo ≤ y ∧ y ≤ x.lo + k ∧ Sp.has s y) := by
    intro k
    induction k with
    | zero =>
      intro hk
      rw [dP_iff h (hx.inn _ (by omega) hk)]
      have e : x.lo + ((0 : Nat) : Int) = x.lo := by omega
      rw [e, ← hx.par]
      constructor
      · rintro (q | q)
        · exact .inr ⟨x.lo, Int.le_refl _, Int.le_refl _, q⟩
        · exact .inl q
      · rintro (q | ⟨y, y1, y2, y3⟩)
        · exact .inr q
        · have : y = x.lo := by omega
          rw [this] at y3; exact .inl y3
    | succ k ih =>
      intro hk
      have ih := ih (by omega)
      rw [dP_iff h (hx.inn _ (by omega) hk), hx.one _ (by omega) hk]
      have e : x.lo + ((k + 1 : Nat) : Int) - 1 = x.lo + k := by omega
      rw [e]
      constructor
      · rintro (q | ⟨p, hp, q⟩)
        · exact .inr ⟨_, by omega, Int.le_refl _, q⟩
        · simp at hp; subst hp
          rcases ih.1 q with q | ⟨y, y1, y2, y3⟩
          · exact .inl q
          · exact .inr ⟨y, y1, by omega, y3⟩
      · rintro (q | ⟨y, y1, y2, y3⟩)
        · exact .inr ⟨_, by simp, ih.2 (.inl q)⟩
        · by_cases c : y = x.lo + ((k + 1 : Nat) : Int)
          · rw [c] at y3; exact .inl y3
          · exact .inr ⟨_, by simp, ih.2 (.inr ⟨y, y1, by omega, y3⟩)⟩
  have := key (n - x.lo).toNat (by omega)
  rwa [show x.lo + ((n - x.lo).toNat : Int) = n by omega] at this
theorem DesI.more {m o : List (List Int)} {s : List Sp.S} {l : List Seg} {k : Nat} {out : List Sp.S} (hI : DesI m o s l k out) (hk : k < l.length) (hx : FlatS m o (l.getD k default)) {low : Int} (h0 : (l.getD k default).lo ≤ low)
    (hd : ∀ n, (l.getD k default).lo ≤ n → n ≤ (l.getD k default).hi → (dP m o s n ↔ low ≤ n)) : DesI m o s l (k + 1) (Sp.uni out [(low, (l.getD k default).hi)]) := by
  refine ⟨Sp.uni_rt _ _, fun n => ?_⟩
  have e : l.take (k + 1) = l.take k ++ [l.getD k default] := by rw [List.take_add_one]; simp [List.getD, hk]
  rw [Sp.uni_has, hI.has, e]
  generalize l.getD k default = x at *
  have hX : Sp.has [(low, x.hi)] n ↔ 0 ≤ n ∧ low ≤ n ∧ n ≤ x.hi := by unfold Sp.has; simp
  rw [hX]
  have hlo := hx.lo
  constructor
  · rintro (⟨⟨y, hy, q⟩, r⟩ | ⟨q0, q1, q2⟩)
    · exact ⟨⟨y, by simp [hy], q⟩, r⟩
    · exact ⟨⟨x, by simp, by omega, q2⟩, hx.inn n (by omega) q2, (hd n (by omega) q2).2 q1⟩
  · rintro ⟨⟨y, hy, q1, q2⟩, r1, r2⟩
    rcases List.mem_append.1 hy with hy | hy
    · exact .inl ⟨⟨y, hy, q1, q2⟩, r1, r2⟩
    · simp at hy; subst hy
      exact .inr ⟨by omega, (hd n q1 q2).1 r2, q2⟩
theorem DesI.none {m o : List (List Int)} {s : List Sp.S} {l : List Seg} {k : Nat} {out : List Sp.S} (hI : DesI m o s l k out) (hk : k < l.length)
    (hd : ∀ n, (l.getD k default).lo ≤ n → n ≤ (l.getD k default).hi → ¬ dP m o s n) : DesI m o s l (k + 1) out := by
  refine ⟨hI.rt, fun n => ?_⟩
  have e : l.take (k + 1) = l.take k ++ [l.getD k default] := by rw [List.take_add_one]; simp [List.getD, hk]
  rw [hI.has, e]
  generalize l.getD k default = x at *
  constructor
  · rintro ⟨⟨y, hy, q⟩, r⟩
    exact ⟨⟨y, by simp [hy], q⟩, r⟩
  · rintro ⟨⟨y, hy, q1, q2⟩, r1, r2⟩
    rcases List.mem_append.1 hy with hy | hy
    · exact ⟨⟨y, hy, q1, q2⟩, r1, r2⟩
    · simp at hy; subst hy
      exact absurd r2 (hd n q1 q2)
theorem DesI.touch {m o : List (List Int)} {L : List (List Seg)} (h : DagOK m o L) {s out : List Sp.S} {k : Nat} (hI : DesI m o s (L.getD 0 []) k out) (hk : k < (L.getD 0 []).length) :
    (((L.getD 0 []).getD k default).par.any fun a => Sp.hasB out a) = true ↔ ∃ p ∈ ((L.getD 0 []).getD k default).par, dP m o s p := by
  have hx := h.flat _ (seg_mem hk)
  rw [List.any_eq_true]
  constructor
  · rintro ⟨p, hp, q⟩
    exact ⟨p, hp, ((hI.has p).1 ((Sp.hasB_iff _ _).1 q)).2.2⟩
  · rintro ⟨p, hp, q⟩
    refine ⟨p, hp, (Sp.hasB_iff _ _).2 ((hI.has p).2 ⟨?_, ?_, q⟩)⟩
    · have hp2 := hp
      rw [hx.par] at hp2
      have hpt := h.tok.par hp2
      obtain ⟨j, hj, hin, _⟩ := h.seg (i := 0) (by have := h.len1; omega) hpt.2
      have hjk : j < k := by
        by_cases c : j < k
        · exact c
        · exfalso
          obtain ⟨i1, i2⟩ := hin
          by_cases e : j = k
          · subst e; omega
          · have := (h.segs 0 (by have := h.len1; omega)).sorted.at_ k j (by omega) hj
            have := hx.le
            omega
      refine ⟨(L.getD 0 []).getD j default, ?_, hin⟩
      have e : (L.getD 0 []).getD j default = ((L.getD 0 []).take k)[j]'(by rw [List.length_take]; omega) := by
        rw [List.getElem_take]; rw [List.getD_eq_getElem?_getD, List.getElem?_eq_getElem hj]; rfl
      rw [e]; exact List.getElem_mem _
    · rw [hx.par] at hp; exact (h.tok.par hp).2
theorem DesI.all {m o : List (List Int)} {L : List (List Seg)} (h : DagOK m o L) {s out : List Sp.S} (hI : DesI m o s (L.getD 0 []) (L.getD 0 []).length out) : out = idsP m o (dP m o s) := by
  refine idsP_eq hI.rt fun n => ?_
  rw [hI.has, List.take_length]
  constructor
  · rintro ⟨_, q⟩; exact q
  · intro q
    obtain ⟨j, hj, hin, _⟩ := h.seg (i := 0) (by have := h.len1; omega) q.1
    exact ⟨⟨_, seg_mem hj, hin⟩, q⟩
theorem aDescendants {m o : List (List Int)} {L : List (List Seg)} (h : DagOK m o L) (s : List Sp.S) (t : Tag) (hl : s.length ≤ 1000000) (hs : Sp.Ok s) : DPure 21 L (allN L) [.slice (spl s) t] (.slice (spl (idsP m o (dP m o s))) .none) := by
  intro st kk
  have hS := h.thereEq s
  have lS := idsP_len m o (Sp.has s)
  have oS := idsP_ok h.tok (Sp.has s)
  have hSh := idsP_has m o (Sp.has s)
  have hN := h.allLen
  have hT := h.tok.len
  have hfl := h.flat
  have hll := (h.size 0).1
  have tch := fun k out (hI : DesI m o s (L.getD 0 []) k out) hk => hI.touch h hk
  have fin := fun out (hI : DesI m o s (L.getD 0 []) (L.getD 0 []).length out) => hI.all h
  refine GCalls.dropTo ?_
  refine h21.calls mixS (by simp) ?_
  simp only [gstart, s21, List.cons_append, List.nil_append, List.length_cons, List.length_nil, Nat.reduceAdd, Nat.reduceSub, List.replicate_succ, List.replicate_zero]
  simp +contextual -implicitDefEqProofs (maxSteps := 2000000) (disch := omega) only [↓lenV, binV, optV, ↓loadV, ↓storeV, ↓fieldAddrV, ↓indexAddrV, ↓allocV, ↓buildV, ↓buildSliceV, ↓sliceV, bound, cutTag, hiTag, fillG, fillE, place, GVal.cells, grp, GVal.ofConst, ↓resV, resG, List.map, List.headD, List.take, List.drop, ↓reduceIte, Nat.reduceEqDiff, Nat.reduceAdd, Nat.reduceSub, Nat.reduceLeDiff, reduceCtorEq, implies_true, ne_eq, Tag.cap, List.replicate, allSolid, GVal.solid, Nat.reduceBEq, Nat.reduceMul, Nat.reduceLT, List.length_map, List.length_range, splice, vcA, ↓vcB, vcC, fbFz, e21]
  refine (aThere L (allN L) s t (by omega) hs h.allOk).then ?_
  rw [hS]
  generalize idsP m o (Sp.has s) = S at *
  simp +contextual -implicitDefEqProofs (maxSteps := 2000000) (disch := omega) only [↓lenV, binV, optV, ↓loadV, ↓storeV, ↓fieldAddrV, ↓indexAddrV, ↓allocV, ↓buildV, ↓buildSliceV, ↓sliceV, bound, cutTag, hiTag, fillG, fillE, place, GVal.cells, grp, GVal.ofConst, ↓resV, resG, List.map, List.headD, List.take, List.drop, ↓reduceIte, Nat.reduceEqDiff, Nat.reduceAdd, Nat.reduceSub, Nat.reduceLeDiff, reduceCtorEq, implies_true, ne_eq, Tag.cap, List.replicate, allSolid, GVal.solid, Nat.reduceBEq, Nat.reduceMul, Nat.reduceLT, List.length_map, List.length_range, splice, vcA, ↓vcB, vcC, fbFz, e21]
  refine (aFlat L (allN L) h.len1).then ?_
  generalize L.getD 0 [] = l at *
  simp +contextual -implicitDefEqProofs (maxSteps := 2000000) (disch := omega) only [↓lenV, binV, optV, ↓loadV, ↓storeV, ↓fieldAddrV, ↓indexAddrV, ↓allocV, ↓buildV, ↓buildSliceV, ↓sliceV, bound, cutTag, hiTag, fillG, fillE, place, GVal.cells, grp, GVal.ofConst, ↓resV, resG, List.map, List.headD, List.take, List.drop, ↓reduceIte, Nat.reduceEqDiff, Nat.reduceAdd, Nat.reduceSub, Nat.reduceLeDiff, reduceCtorEq, implies_true, ne_eq, Tag.cap, List.replicate, allSolid, GVal.solid, Nat.reduceBEq, Nat.reduceMul, Nat.reduceLT, List.length_map, List.length_range, splice, vcA, ↓vcB, vcC, fbFz, e21, segsG_length]
  refine vcSLoop_by (ι := { p : Nat × List Sp.S // p.1 ≤ l.length ∧ DesI m o s l p.1 p.2 }) (fun p => ⟨[.ptr 0 st 0 0, .slice (spl S) .none, .any, .any, .any, .slice (spl p.1.2) .none, .any, .any, .any, .any, .any, .any, .any, .any, .slice (segsG l) .none, .int .i64 l.length, .int .i64 (p.1.1 : Nat)] ++ List.replicate 29 .any, [.row st 3 [dagG L (allN L) kk]]⟩) (fun p => l.length - p.1.1) ?_ ?_
  · exact Into.first ⟨(0, []), by omega, trivial, fun n => by simp [Sp.has]⟩ ⟨[], by simp⟩ (by simp [WL, leG_self, leG_any, leG_none, spl])
  · rintro ⟨⟨k, out⟩, hk, hI⟩
    change k ≤ l.length at hk
    change DesI m o s l k out at hI
    have eO := rt_ids (m := m) (o := o) hI.rt fun n q => ((hI.has n).1 q).2.1
    have lO : out.length ≤ 1000 := by rw [eO]; have := idsP_len m o (Sp.has out); omega
    have okO : Sp.Ok out := by rw [eO]; exact idsP_ok h.tok _
    by_cases hkl : k < l.length
    · have d0 : ((k : Int) < (l.length : Int)) = True := eq_true (by omega)
      have eS := segsG_at l k hkl
      have hF := hfl _ (seg_mem hkl)
      have tc := tch k out hI hkl
      have more := fun low h0 hd => hI.more hkl hF (low := low) h0 hd
      have none := hI.none hkl
      have hp4 := flat_par4 h.tok hF
      have dseg := fun n q1 q2 => dP_seg (s := s) h.tok hF (n := n) q1 q2
      have q1 := hF.lo
      have q2 := hF.le
      have q3 := hF.top
      have hinn := hF.inn
      have hin1 : k + 1 ≤ l.length := hkl
      generalize l.getD k default = x at *
      have hPh := Sp.bothS_has S [(x.lo, x.hi)]
      have hPr := Sp.bothS_rt S [(x.lo, x.hi)]
      have lP := Sp.bothS_len S [(x.lo, x.hi)]
      have oP := Sp.bothS_ok (b := [(x.lo, x.hi)]) oS
      have bP := fun y hy => both_bounds (S := S) (lo := x.lo) (hi := x.hi) (x := y) hy
      have cP := aPart S .none x.lo x.hi (by omega) oS (by omega) (by omega)
      simp only [List.length_singleton] at lP
      generalize Sp.bothS S [(x.lo, x.hi)] = Q at *
      have cL := sLow Q .none (by omega) oP
      rw [Sp.nf_rt_eq hPr] at cL
      unfold lowV at cL
      have cT := aTouches x.par .none out (by omega) (by omega) okO
      have hQ : ∀ n, x.lo ≤ n → n ≤ x.hi → Sp.has s n → Sp.has Q n := fun n a b c => (hPh n).2 ⟨(hSh n).2 ⟨hinn n a b, c⟩, (x.lo, x.hi), by simp, by omega, a, b⟩
      have cU := fun low (h1 : 0 ≤ low) (h2 : low ≤ x.hi) => sUnion out [(low, x.hi)] .none .full (by simp; omega) okO (fun q hq => by simp at hq; subst hq; simp only; omega)
      cases ht : x.par.any fun a => Sp.hasB out a with
      | true =>
        rw [ht] at cT
        have hd := more x.lo (Int.le_refl _) (fun n a b => ⟨fun _ => a, fun _ => (dseg n a b).2 (.inl (tc.1 ht))⟩)
        simp +contextual -implicitDefEqProofs (maxSteps := 2000000) (disch := omega) only [↓lenV, binV, optV, ↓loadV, ↓storeV, ↓fieldAddrV, ↓indexAddrV, ↓allocV, ↓buildV, ↓buildSliceV, ↓sliceV, bound, cutTag, hiTag, fillG, fillE, place, GVal.cells, grp, GVal.ofConst, ↓resV, resG, List.map, List.headD, List.take, List.drop, ↓reduceIte, Nat.reduceEqDiff, Nat.reduceAdd, Nat.reduceSub, Nat.reduceLeDiff, reduceCtorEq, implies_true, ne_eq, Tag.cap, List.replicate, allSolid, GVal.solid, Nat.reduceBEq, Nat.reduceMul, Nat.reduceLT, List.length_map, List.length_range, splice, vcA, ↓vcB, vcC, fbFz, e21, segsG_length, d0, eS, segG]
        refine ⟨by omega, fun w => ?_⟩
        refine cP.then ?_ (by rfl)
        simp +contextual -implicitDefEqProofs (maxSteps := 2000000) (disch := omega) only [↓lenV, binV, optV, ↓loadV, ↓storeV, ↓fieldAddrV, ↓indexAddrV, ↓allocV, ↓buildV, ↓buildSliceV, ↓sliceV, bound, cutTag, hiTag, fillG, fillE, place, GVal.cells, grp, GVal.ofConst, ↓resV, resG, List.map, List.headD, List.take, List.drop, ↓reduceIte, Nat.reduceEqDiff, Nat.reduceAdd, Nat.reduceSub, Nat.reduceLeDiff, reduceCtorEq, implies_true, ne_eq, Tag.cap, List.replicate, allSolid, GVal.solid, Nat.reduceBEq, Nat.reduceMul, Nat.reduceLT, List.length_map, List.length_range, splice, vcA, ↓vcB, vcC, fbFz, e21, segsG_length, d0, eS, segG]
        refine cL.then ?_ (by rfl)
        simp +contextual -implicitDefEqProofs (maxSteps := 2000000) (disch := omega) only [↓lenV, binV, optV, ↓loadV, ↓storeV, ↓fieldAddrV, ↓indexAddrV, ↓allocV, ↓buildV, ↓buildSliceV, ↓sliceV, bound, cutTag, hiTag, fillG, fillE, place, GVal.cells, grp, GVal.ofConst, ↓resV, resG, List.map, List.headD, List.take, List.drop, ↓reduceIte, Nat.reduceEqDiff, Nat.reduceAdd, Nat.reduceSub, Nat.reduceLeDiff, reduceCtorEq, implies_true, ne_eq, Tag.cap, List.replicate, allSolid, GVal.solid, Nat.reduceBEq, Nat.reduceMul, Nat.reduceLT, List.length_map, List.length_range, splice, vcA, ↓vcB, vcC, fbFz, e21, segsG_length, d0, eS, segG]
        refine cT.then ?_ (by rfl)
        simp +contextual -implicitDefEqProofs (maxSteps := 2000000) (disch := omega) only [↓lenV, binV, optV, ↓loadV, ↓storeV, ↓fieldAddrV, ↓indexAddrV, ↓allocV, ↓buildV, ↓buildSliceV, ↓sliceV, bound, cutTag, hiTag, fillG, fillE, place, GVal.cells, grp, GVal.ofConst, ↓resV, resG, List.map, List.headD, List.take, List.drop, ↓reduceIte, Nat.reduceEqDiff, Nat.reduceAdd, Nat.reduceSub, Nat.reduceLeDiff, reduceCtorEq, implies_true, ne_eq, Tag.cap, List.replicate, allSolid, GVal.solid, Nat.reduceBEq, Nat.reduceMul, Nat.reduceLT, List.length_map, List.length_range, splice, vcA, ↓vcB, vcC, fbFz, e21, segsG_length, d0, eS, segG]
        refine (cU x.lo q1 q2).then ?_ (by rfl)
        simp +contextual -implicitDefEqProofs (maxSteps := 2000000) (disch := omega) only [↓lenV, binV, optV, ↓loadV, ↓storeV, ↓fieldAddrV, ↓indexAddrV, ↓allocV, ↓buildV, ↓buildSliceV, ↓sliceV, bound, cutTag, hiTag, fillG, fillE, place, GVal.cells, grp, GVal.ofConst, ↓resV, resG, List.map, List.headD, List.take, List.drop, ↓reduceIte, Nat.reduceEqDiff, Nat.reduceAdd, Nat.reduceSub, Nat.reduceLeDiff, reduceCtorEq, implies_true, ne_eq, Tag.cap, List.replicate, allSolid, GVal.solid, Nat.reduceBEq, Nat.reduceMul, Nat.reduceLT, List.length_map, List.length_range, splice, vcA, ↓vcB, vcC, fbFz, e21, segsG_length, d0, eS, segG]
        exact Into.at ⟨(k + 1, Sp.uni out [(x.lo, x.hi)]), hin1, hd⟩ (by show _ < _; simp; omega) ⟨[.row w 5 [segG x]], by simp [segG]⟩ (by simp [WL, leG_self, leG_any, leG_int])
      | false =>
        rw [ht] at cT
        have nt : ¬ ∃ p ∈ x.par, dP m o s p := fun q => by rw [tc.2 q] at ht; cases ht
        by_cases hq : 0 < Q.length
        · rw [decide_eq_true hq] at cL
          have hm0 : Q.getD 0 (0, 0) ∈ Q := by rw [List.getD_eq_getElem?_getD, List.getElem?_eq_getElem hq]; exact List.getElem_mem _
          have hb0 := bP _ hm0
          have hh0 := (hSh _).1 ((hPh _).1 (hPr.lo (Int.le_refl _) hm0)).1
          have hfst := fun n (q : Sp.has Q n) => rt_first hPr q
          generalize (Q.getD 0 (0, 0)) = y0 at *
          have hd := more y0.1 (by omega) (fun n a b => by
            rw [dseg n a b]
            constructor
            · rintro (q | ⟨y, y1, y2, y3⟩)
              · exact absurd q nt
              · have := hfst y (hQ y y1 (by omega) y3); omega
            · intro q
              exact .inr ⟨y0.1, by omega, q, hh0.2⟩)
          simp +contextual -implicitDefEqProofs (maxSteps := 2000000) (disch := omega) only [↓lenV, binV, optV, ↓loadV, ↓storeV, ↓fieldAddrV, ↓indexAddrV, ↓allocV, ↓buildV, ↓buildSliceV, ↓sliceV, bound, cutTag, hiTag, fillG, fillE, place, GVal.cells, grp, GVal.ofConst, ↓resV, resG, List.map, List.headD, List.take, List.drop, ↓reduceIte, Nat.reduceEqDiff, Nat.reduceAdd, Nat.reduceSub, Nat.reduceLeDiff, reduceCtorEq, implies_true, ne_eq, Tag.cap, List.replicate, allSolid, GVal.solid, Nat.reduceBEq, Nat.reduceMul, Nat.reduceLT, List.length_map, List.length_range, splice, vcA, ↓vcB, vcC, fbFz, e21, segsG_length, d0, eS, segG]
          refine ⟨by omega, fun w => ?_⟩
          refine cP.then ?_ (by rfl)
          simp +contextual -implicitDefEqProofs (maxSteps := 2000000) (disch := omega) only [↓lenV, binV, optV, ↓loadV, ↓storeV, ↓fieldAddrV, ↓indexAddrV, ↓allocV, ↓buildV, ↓buildSliceV, ↓sliceV, bound, cutTag, hiTag, fillG, fillE, place, GVal.cells, grp, GVal.ofConst, ↓resV, resG, List.map, List.headD, List.take, List.drop, ↓reduceIte, Nat.reduceEqDiff, Nat.reduceAdd, Nat.reduceSub, Nat.reduceLeDiff, reduceCtorEq, implies_true, ne_eq, Tag.cap, List.replicate, allSolid, GVal.solid, Nat.reduceBEq, Nat.reduceMul, Nat.reduceLT, List.length_map, List.length_range, splice, vcA, ↓vcB, vcC, fbFz, e21, segsG_length, d0, eS, segG]
          refine cL.then ?_ (by rfl)
          simp +contextual -implicitDefEqProofs (maxSteps := 2000000) (disch := omega) only [↓lenV, binV, optV, ↓loadV, ↓storeV, ↓fieldAddrV, ↓indexAddrV, ↓allocV, ↓buildV, ↓buildSliceV, ↓sliceV, bound, cutTag, hiTag, fillG, fillE, place, GVal.cells, grp, GVal.ofConst, ↓resV, resG, List.map, List.headD, List.take, List.drop, ↓reduceIte, Nat.reduceEqDiff, Nat.reduceAdd, Nat.reduceSub, Nat.reduceLeDiff, reduceCtorEq, implies_true, ne_eq, Tag.cap, List.replicate, allSolid, GVal.solid, Nat.reduceBEq, Nat.reduceMul, Nat.reduceLT, List.length_map, List.length_range, splice, vcA, ↓vcB, vcC, fbFz, e21, segsG_length, d0, eS, segG]
          refine cT.then ?_ (by rfl)
          simp +contextual -implicitDefEqProofs (maxSteps := 2000000) (disch := omega) only [↓lenV, binV, optV, ↓loadV, ↓storeV, ↓fieldAddrV, ↓indexAddrV, ↓allocV, ↓buildV, ↓buildSliceV, ↓sliceV, bound, cutTag, hiTag, fillG, fillE, place, GVal.cells, grp, GVal.ofConst, ↓resV, resG, List.map, List.headD, List.take, List.drop, ↓reduceIte, Nat.reduceEqDiff, Nat.reduceAdd, Nat.reduceSub, Nat.reduceLeDiff, reduceCtorEq, implies_true, ne_eq, Tag.cap, List.replicate, allSolid, GVal.solid, Nat.reduceBEq, Nat.reduceMul, Nat.reduceLT, List.length_map, List.length_range, splice, vcA, ↓vcB, vcC, fbFz, e21, segsG_length, d0, eS, segG]
          refine (cU y0.1 (by omega) (by omega)).then ?_ (by rfl)
          simp +contextual -implicitDefEqProofs (maxSteps := 2000000) (disch := omega) only [↓lenV, binV, optV, ↓loadV, ↓storeV, ↓fieldAddrV, ↓indexAddrV, ↓allocV, ↓buildV, ↓buildSliceV, ↓sliceV, bound, cutTag, hiTag, fillG, fillE, place, GVal.cells, grp, GVal.ofConst, ↓resV, resG, List.map, List.headD, List.take, List.drop, ↓reduceIte, Nat.reduceEqDiff, Nat.reduceAdd, Nat.reduceSub, Nat.reduceLeDiff, reduceCtorEq, implies_true, ne_eq, Tag.cap, List.replicate, allSolid, GVal.solid, Nat.reduceBEq, Nat.reduceMul, Nat.reduceLT, List.length_map, List.length_range, splice, vcA, ↓vcB, vcC, fbFz, e21, segsG_length, d0, eS, segG]
          exact Into.at ⟨(k + 1, Sp.uni out [(y0.1, x.hi)]), hin1, hd⟩ (by show _ < _; simp; omega) ⟨[.row w 5 [segG x]], by simp [segG]⟩ (by simp [WL, leG_self, leG_any, leG_int])
        · rw [decide_eq_false hq] at cL
          have e : Q = [] := List.length_eq_zero_iff.1 (by omega)
          have hd := none (fun n a b q => by
            rcases (dseg n a b).1 q with q | ⟨y, y1, y2, y3⟩
            · exact nt q
            · have := hQ y y1 (by omega) y3
              rw [e] at this; simp [Sp.has] at this)
          simp +contextual -implicitDefEqProofs (maxSteps := 2000000) (disch := omega) only [↓lenV, binV, optV, ↓loadV, ↓storeV, ↓fieldAddrV, ↓indexAddrV, ↓allocV, ↓buildV, ↓buildSliceV, ↓sliceV, bound, cutTag, hiTag, fillG, fillE, place, GVal.cells, grp, GVal.ofConst, ↓resV, resG, List.map, List.headD, List.take, List.drop, ↓reduceIte, Nat.reduceEqDiff, Nat.reduceAdd, Nat.reduceSub, Nat.reduceLeDiff, reduceCtorEq, implies_true, ne_eq, Tag.cap, List.replicate, allSolid, GVal.solid, Nat.reduceBEq, Nat.reduceMul, Nat.reduceLT, List.length_map, List.length_range, splice, vcA, ↓vcB, vcC, fbFz, e21, segsG_length, d0, eS, segG]
          refine ⟨by omega, fun w => ?_⟩
          refine cP.then ?_ (by rfl)
          simp +contextual -implicitDefEqProofs (maxSteps := 2000000) (disch := omega) only [↓lenV, binV, optV, ↓loadV, ↓storeV, ↓fieldAddrV, ↓indexAddrV, ↓allocV, ↓buildV, ↓buildSliceV, ↓sliceV, bound, cutTag, hiTag, fillG, fillE, place, GVal.cells, grp, GVal.ofConst, ↓resV, resG, List.map, List.headD, List.take, List.drop, ↓reduceIte, Nat.reduceEqDiff, Nat.reduceAdd, Nat.reduceSub, Nat.reduceLeDiff, reduceCtorEq, implies_true, ne_eq, Tag.cap, List.replicate, allSolid, GVal.solid, Nat.reduceBEq, Nat.reduceMul, Nat.reduceLT, List.length_map, List.length_range, splice, vcA, ↓vcB, vcC, fbFz, e21, segsG_length, d0, eS, segG]
          refine cL.then ?_ (by rfl)
          simp +contextual -implicitDefEqProofs (maxSteps := 2000000) (disch := omega) only [↓lenV, binV, optV, ↓loadV, ↓storeV, ↓fieldAddrV, ↓indexAddrV, ↓allocV, ↓buildV, ↓buildSliceV, ↓sliceV, bound, cutTag, hiTag, fillG, fillE, place, GVal.cells, grp, GVal.ofConst, ↓resV, resG, List.map, List.headD, List.take, List.drop, ↓reduceIte, Nat.reduceEqDiff, Nat.reduceAdd, Nat.reduceSub, Nat.reduceLeDiff, reduceCtorEq, implies_true, ne_eq, Tag.cap, List.replicate, allSolid, GVal.solid, Nat.reduceBEq, Nat.reduceMul, Nat.reduceLT, List.length_map, List.length_range, splice, vcA, ↓vcB, vcC, fbFz, e21, segsG_length, d0, eS, segG]
          refine cT.then ?_ (by rfl)
          simp +contextual -implicitDefEqProofs (maxSteps := 2000000) (disch := omega) only [↓lenV, binV, optV, ↓loadV, ↓storeV, ↓fieldAddrV, ↓indexAddrV, ↓allocV, ↓buildV, ↓buildSliceV, ↓sliceV, bound, cutTag, hiTag, fillG, fillE, place, GVal.cells, grp, GVal.ofConst, ↓resV, resG, List.map, List.headD, List.take, List.drop, ↓reduceIte, Nat.reduceEqDiff, Nat.reduceAdd, Nat.reduceSub, Nat.reduceLeDiff, reduceCtorEq, implies_true, ne_eq, Tag.cap, List.replicate, allSolid, GVal.solid, Nat.reduceBEq, Nat.reduceMul, Nat.reduceLT, List.length_map, List.length_range, splice, vcA, ↓vcB, vcC, fbFz, e21, segsG_length, d0, eS, segG]
          exact Into.at ⟨(k + 1, out), hin1, hd⟩ (by show _ < _; simp; omega) ⟨[.row w 5 [segG x]], by simp [segG]⟩ (by simp [WL, leG_self, leG_any, leG_int])
    · have d0 : ((k : Int) < (l.length : Int)) = False := eq_false (by omega)
      have e : k = l.length := by omega
      subst e
      have ef := fin out hI
      simp +contextual -implicitDefEqProofs (maxSteps := 2000000) (disch := omega) only [↓lenV, binV, optV, ↓loadV, ↓storeV, ↓fieldAddrV, ↓indexAddrV, ↓allocV, ↓buildV, ↓buildSliceV, ↓sliceV, bound, cutTag, hiTag, fillG, fillE, place, GVal.cells, grp, GVal.ofConst, ↓resV, resG, List.map, List.headD, List.take, List.drop, ↓reduceIte, Nat.reduceEqDiff, Nat.reduceAdd, Nat.reduceSub, Nat.reduceLeDiff, reduceCtorEq, implies_true, ne_eq, Tag.cap, List.replicate, allSolid, GVal.solid, Nat.reduceBEq, Nat.reduceMul, Nat.reduceLT, List.length_map, List.length_range, splice, vcA, ↓vcB, vcC, fbFz, e21, segsG_length, d0]
      exact ⟨.slice (spl (idsP m o (dP m o s))) .none, [.row st 3 [dagG L (allN L) kk]], [], rfl, by rw [ef, leA_slice], _, rfl, rfl, rfl⟩
theorem aHeads {m o : List (List Int)} {L : List (List Seg)} (h : DagOK m o L) (s : List Sp.S) (t : Tag) (hl : s.length ≤ 1000000) (hs : Sp.Ok s) : DPure 23 L (allN L) [.slice (spl s) t] (.slice (spl (idsP m o fun n => Sp.has s n ∧ ¬ pP m o s n)) .none) := by
  intro st kk
  have hN := h.allLen
  have hT := h.tok.len
  have l1 := idsP_len m o (Sp.has s)
  have l2 := idsP_len m o (pP m o s)
  have o1 := idsP_ok h.tok (Sp.has s)
  have o2 := idsP_ok h.tok (pP m o s)
  have e : Sp.minus (idsP m o (Sp.has s)) (idsP m o (pP m o s)) = idsP m o fun n => Sp.has s n ∧ ¬ pP m o s n := idsP_eq (Sp.minus_rt _ _) fun n => by
    rw [Sp.minus_has o1 o2, idsP_has, idsP_has]
    constructor
    · rintro ⟨⟨a, b⟩, c⟩; exact ⟨a, b, fun d => c ⟨a, d⟩⟩
    · rintro ⟨a, b, c⟩; exact ⟨⟨a, b⟩, fun d => c d.2⟩
  refine h23.calls mixS (by simp) ?_
  simp only [gstart, s23, List.cons_append, List.nil_append, List.length_cons, List.length_nil, Nat.reduceAdd, Nat.reduceSub, List.replicate_succ, List.replicate_zero]
  simp +contextual -implicitDefEqProofs (maxSteps := 2000000) (disch := omega) only [optV, ↓sliceV, bound, cutTag, hiTag, GVal.cells, grp, GVal.ofConst, ↓resV, resG, List.map, List.headD, List.take, List.drop, ↓reduceIte, Nat.reduceEqDiff, Nat.reduceAdd, Nat.reduceSub, Nat.reduceLeDiff, reduceCtorEq, implies_true, ne_eq, Tag.cap, List.replicate, allSolid, GVal.solid, Nat.reduceBEq, Nat.reduceMul, Nat.reduceLT, List.length_map, List.length_range, splice, vcA, ↓vcB, vcC, fbFz, e23]
  refine (aThere L (allN L) s t (by omega) hs h.allOk).then ?_
  rw [h.thereEq s]
  simp +contextual -implicitDefEqProofs (maxSteps := 2000000) (disch := omega) only [optV, ↓sliceV, bound, cutTag, hiTag, GVal.cells, grp, GVal.ofConst, ↓resV, resG, List.map, List.headD, List.take, List.drop, ↓reduceIte, Nat.reduceEqDiff, Nat.reduceAdd, Nat.reduceSub, Nat.reduceLeDiff, reduceCtorEq, implies_true, ne_eq, Tag.cap, List.replicate, allSolid, GVal.solid, Nat.reduceBEq, Nat.reduceMul, Nat.reduceLT, List.length_map, List.length_range, splice, vcA, ↓vcB, vcC, fbFz, e23]
  refine (aParents h s t hl hs).then ?_
  simp +contextual -implicitDefEqProofs (maxSteps := 2000000) (disch := omega) only [optV, ↓sliceV, bound, cutTag, hiTag, GVal.cells, grp, GVal.ofConst, ↓resV, resG, List.map, List.headD, List.take, List.drop, ↓reduceIte, Nat.reduceEqDiff, Nat.reduceAdd, Nat.reduceSub, Nat.reduceLeDiff, reduceCtorEq, implies_true, ne_eq, Tag.cap, List.replicate, allSolid, GVal.solid, Nat.reduceBEq, Nat.reduceMul, Nat.reduceLT, List.length_map, List.length_range, splice, vcA, ↓vcB, vcC, fbFz, e23]
  refine (sMinus _ _ .none .none (by omega) o1 o2).then ?_ (by rfl)
  rw [e]
  simp +contextual -implicitDefEqProofs (maxSteps := 2000000) (disch := omega) only [optV, ↓sliceV, bound, cutTag, hiTag, GVal.cells, grp, GVal.ofConst, ↓resV, resG, List.map, List.headD, List.take, List.drop, ↓reduceIte, Nat.reduceEqDiff, Nat.reduceAdd, Nat.reduceSub, Nat.reduceLeDiff, reduceCtorEq, implies_true, ne_eq, Tag.cap, List.replicate, allSolid, GVal.solid, Nat.reduceBEq, Nat.reduceMul, Nat.reduceLT, List.length_map, List.length_range, splice, vcA, ↓vcB, vcC, fbFz, e23]
  exact ⟨_, rfl, rfl⟩
theorem aRoots {m o : List (List Int)} {L : List (List Seg)} (h : DagOK m o L) (s : List Sp.S) (t : Tag) (hl : s.length ≤ 1000000) (hs : Sp.Ok s) : DPure 25 L (allN L) [.slice (spl s) t] (.slice (spl (idsP m o fun n => Sp.has s n ∧ ¬ cP m o s n)) .none) := by
  intro st kk
  have hN := h.allLen
  have hT := h.tok.len
  have l1 := idsP_len m o (Sp.has s)
  have l2 := idsP_len m o (cP m o s)
  have o1 := idsP_ok h.tok (Sp.has s)
  have o2 := idsP_ok h.tok (cP m o s)
  have e : Sp.minus (idsP m o (Sp.has s)) (idsP m o (cP m o s)) = idsP m o fun n => Sp.has s n ∧ ¬ cP m o s n := idsP_eq (Sp.minus_rt _ _) fun n => by
    rw [Sp.minus_has o1 o2, idsP_has, idsP_has]
    constructor
    · rintro ⟨⟨a, b⟩, c⟩; exact ⟨a, b, fun d => c ⟨a, d⟩⟩
    · rintro ⟨a, b, c⟩; exact ⟨⟨a, b⟩, fun d => c d.2⟩
  refine h25.calls mixS (by simp) ?_
  simp only [gstart, s25, List.cons_append, List.nil_append, List.length_cons, List.length_nil, Nat.reduceAdd, Nat.reduceSub, List.replicate_succ, List.replicate_zero]
  simp +contextual -implicitDefEqProofs (maxSteps := 2000000) (disch := omega) only [optV, ↓sliceV, bound, cutTag, hiTag, GVal.cells, grp, GVal.ofConst, ↓resV, resG, List.map, List.headD, List.take, List.drop, ↓reduceIte, Nat.reduceEqDiff, Nat.reduceAdd, Nat.reduceSub, Nat.reduceLeDiff, reduceCtorEq, implies_true, ne_eq, Tag.cap, List.replicate, allSolid, GVal.solid, Nat.reduceBEq, Nat.reduceMul, Nat.reduceLT, List.length_map, List.length_range, splice, vcA, ↓vcB, vcC, fbFz, e25]
  refine (aThere L (allN L) s t (by omega) hs h.allOk).then ?_
  rw [h.thereEq s]
  simp +contextual -implicitDefEqProofs (maxSteps := 2000000) (disch := omega) only [optV, ↓sliceV, bound, cutTag, hiTag, GVal.cells, grp, GVal.ofConst, ↓resV, resG, List.map, List.headD, List.take, List.drop, ↓reduceIte, Nat.reduceEqDiff, Nat.reduceAdd, Nat.reduceSub, Nat.reduceLeDiff, reduceCtorEq, implies_true, ne_eq, Tag.cap, List.replicate, allSolid, GVal.solid, Nat.reduceBEq, Nat.reduceMul, Nat.reduceLT, List.length_map, List.length_range, splice, vcA, ↓vcB, vcC, fbFz, e25]
  refine (aChildren h s t hl hs).then ?_
  simp +contextual -implicitDefEqProofs (maxSteps := 2000000) (disch := omega) only [optV, ↓sliceV, bound, cutTag, hiTag, GVal.cells, grp, GVal.ofConst, ↓resV, resG, List.map, List.headD, List.take, List.drop, ↓reduceIte, Nat.reduceEqDiff, Nat.reduceAdd, Nat.reduceSub, Nat.reduceLeDiff, reduceCtorEq, implies_true, ne_eq, Tag.cap, List.replicate, allSolid, GVal.solid, Nat.reduceBEq, Nat.reduceMul, Nat.reduceLT, List.length_map, List.length_range, splice, vcA, ↓vcB, vcC, fbFz, e25]
  refine (sMinus _ _ .none .none (by omega) o1 o2).then ?_ (by rfl)
  rw [e]
  simp +contextual -implicitDefEqProofs (maxSteps := 2000000) (disch := omega) only [optV, ↓sliceV, bound, cutTag, hiTag, GVal.cells, grp, GVal.ofConst, ↓resV, resG, List.map, List.headD, List.take, List.drop, ↓reduceIte, Nat.reduceEqDiff, Nat.reduceAdd, Nat.reduceSub, Nat.reduceLeDiff, reduceCtorEq, implies_true, ne_eq, Tag.cap, List.replicate, allSolid, GVal.solid, Nat.reduceBEq, Nat.reduceMul, Nat.reduceLT, List.length_map, List.length_range, splice, vcA, ↓vcB, vcC, fbFz, e25]
  exact ⟨_, rfl, rfl⟩
end Gv.Tryz
/- Contracts: what lies between; sets of raw numbers. -/
set_option linter.unusedVariables false
set_option linter.unusedSimpArgs false
set_option maxRecDepth 20000
set_option maxHeartbeats 8000000
namespace Gv.Tryz
open Go Gv Go.Proofs
theorem aBetween {m o : List (List Int)} {L : List (List Seg)} (h : DagOK m o L) (a b : List Sp.S) (ta tb : Tag) (la : a.length ≤ 1000000) (lb : b.length ≤ 1000000) (oa : Sp.Ok a) (ob : Sp.Ok b) (st : Nat) (kk : Int) (hk : 0 ≤ kk ∧ kk ≤ 100000000) :
    GCalls Tryz.prog 27 [.ptr 0 st 0 0, .slice (spl a) ta, .slice (spl b) tb] [.row st 3 [dagG L (allN L) kk]] (fun g O' => ∃ x', O' = [x'] ∧ ∃ k', g = .slice (spl (idsP m o fun n => dP m o a n ∧ aP m o b n)) .none ∧ x' = .row st 3 [dagG L (allN L) k'] ∧ kk ≤ k' ∧ k' ≤ kk + 4000) := by
  have hT := h.tok.len
  have l1 := idsP_len m o (dP m o a)
  have l2 := idsP_len m o (aP m o b)
  have o1 := idsP_ok h.tok (dP m o a)
  have o2 := idsP_ok h.tok (aP m o b)
  have hf2 : L.length * (L.getD 0 []).length ≤ 4 * 1000 := Nat.mul_le_mul h.len4 (h.size 0).1
  have e : Sp.bothS (idsP m o (dP m o a)) (idsP m o (aP m o b)) = idsP m o fun n => dP m o a n ∧ aP m o b n := idsP_eq (Sp.bothS_rt _ _) fun n => by
    rw [Sp.bothS_has, idsP_has, idsP_has]
    constructor
    · rintro ⟨⟨p, q⟩, _, r⟩; exact ⟨p, q, r⟩
    · rintro ⟨p, q, r⟩; exact ⟨⟨p, q⟩, p, r⟩
  refine h27.calls mixS (by simp) ?_
  simp only [gstart, s27, List.cons_append, List.nil_append, List.length_cons, List.length_nil, Nat.reduceAdd, Nat.reduceSub, List.replicate_succ, List.replicate_zero]
  simp +contextual -implicitDefEqProofs (maxSteps := 2000000) (disch := omega) only [optV, ↓sliceV, bound, cutTag, hiTag, GVal.cells, grp, GVal.ofConst, ↓resV, resG, List.map, List.headD, List.take, List.drop, ↓reduceIte, Nat.reduceEqDiff, Nat.reduceAdd, Nat.reduceSub, Nat.reduceLeDiff, reduceCtorEq, implies_true, ne_eq, Tag.cap, List.replicate, allSolid, GVal.solid, Nat.reduceBEq, Nat.reduceMul, Nat.reduceLT, List.length_map, List.length_range, splice, vcA, ↓vcB, vcC, fbFz, e27]
  refine (aDescendants h a ta la oa).then ?_
  simp +contextual -implicitDefEqProofs (maxSteps := 2000000) (disch := omega) only [optV, ↓sliceV, bound, cutTag, hiTag, GVal.cells, grp, GVal.ofConst, ↓resV, resG, List.map, List.headD, List.take, List.drop, ↓reduceIte, Nat.reduceEqDiff, Nat.reduceAdd, Nat.reduceSub, Nat.reduceLeDiff, reduceCtorEq, implies_true, ne_eq, Tag.cap, List.replicate, allSolid, GVal.solid, Nat.reduceBEq, Nat.reduceMul, Nat.reduceLT, List.length_map, List.length_range, splice, vcA, ↓vcB, vcC, fbFz, e27]
  refine (aAncestors h b tb lb ob st kk hk).mono ?_
  rintro g O' ⟨_, rfl, k', rfl, rfl, h1, h2, h3⟩
  simp +contextual -implicitDefEqProofs (maxSteps := 2000000) (disch := omega) only [optV, ↓sliceV, bound, cutTag, hiTag, GVal.cells, grp, GVal.ofConst, ↓resV, resG, List.map, List.headD, List.take, List.drop, ↓reduceIte, Nat.reduceEqDiff, Nat.reduceAdd, Nat.reduceSub, Nat.reduceLeDiff, reduceCtorEq, implies_true, ne_eq, Tag.cap, List.replicate, allSolid, GVal.solid, Nat.reduceBEq, Nat.reduceMul, Nat.reduceLT, List.length_map, List.length_range, splice, vcA, ↓vcB, vcC, fbFz, e27]
  refine (sBoth _ _ .none .none (by omega) o1 o2).then ?_ (by rfl)
  rw [e]
  simp +contextual -implicitDefEqProofs (maxSteps := 2000000) (disch := omega) only [optV, ↓sliceV, bound, cutTag, hiTag, GVal.cells, grp, GVal.ofConst, ↓resV, resG, List.map, List.headD, List.take, List.drop, ↓reduceIte, Nat.reduceEqDiff, Nat.reduceAdd, Nat.reduceSub, Nat.reduceLeDiff, reduceCtorEq, implies_true, ne_eq, Tag.cap, List.replicate, allSolid, GVal.solid, Nat.reduceBEq, Nat.reduceMul, Nat.reduceLT, List.length_map, List.length_range, splice, vcA, ↓vcB, vcC, fbFz, e27]
  exact ⟨_, rfl, k', rfl, h1, by omega⟩
def elA (x y : Int) : Sp.S := if x.tmod 31 = 30 then (0, 9223372036854775807) else if x.tmod 3 = 1 then (x % 30 - 2 + 1099511627776, x % 30 - 2 + y % 7 - 1 + 1099511627776) else (x % 30 - 2, x % 30 - 2 + y % 7 - 1)
def setA (l : List Int) (k : Nat) : List Sp.S := (List.range k).map fun j => elA (l.getD (2 * j) 0) (l.getD (2 * j + 1) 0)
theorem elA_ok (x y : Int) : (-9223372036854775808 ≤ (elA x y).1 ∧ (elA x y).1 ≤ 9223372036854775807) ∧ (-9223372036854775808 ≤ (elA x y).2 ∧ (elA x y).2 ≤ 9223372036854775807) := by
  have e1 := Int.emod_nonneg x (by decide : (30 : Int) ≠ 0)
  have e2 := Int.emod_lt_of_pos x (by decide : (0 : Int) < 30)
  have e3 := Int.emod_nonneg y (by decide : (7 : Int) ≠ 0)
  have e4 := Int.emod_lt_of_pos y (by decide : (0 : Int) < 7)
  unfold elA
  split
  · simp only; omega
  · split <;> simp only <;> omega
theorem setA_lim (l : List Int) (k : Nat) (hk : k ≤ 6) : Sp.Lim (setA l k) 6 := by
  refine ⟨by simp [setA]; omega, fun s hs => ?_⟩
  simp only [setA, List.mem_map] at hs
  obtain ⟨j, _, rfl⟩ := hs
  exact elA_ok _ _
theorem aSet (l : List Int) (t : Tag) (hl : l.length ≤ 9223372036854775807) (hi : ∀ i, -9223372036854775808 ≤ l.getD i 0 ∧ l.getD i 0 ≤ 9223372036854775807) :
    GPure Tryz.prog 11 [.slice (ints l) t] (.slice (spl (setA l (min 6 (l.length / 2)))) .none) := by
  refine h11.pure mixS (by simp) ?_
  simp only [gstart, s11, List.cons_append, List.nil_append, List.length_cons, List.length_nil, Nat.reduceAdd, Nat.reduceSub, List.replicate_succ, List.replicate_zero]
  simp +contextual -implicitDefEqProofs (maxSteps := 2000000) (disch := omega) only [drawC, drawK, keepT, ↓lenV, binV, optV, ↓loadV, ↓storeV, ↓fieldAddrV, ↓indexAddrV, ↓allocV, ↓buildV, ↓buildSliceV, ↓sliceV, ↓appendV, ↓srcV, bound, cutTag, hiTag, fillG, fillE, place, GVal.cells, grp, GVal.ofConst, ↓resV, resG, List.map, List.headD, List.take, List.drop, ↓reduceIte, Nat.reduceEqDiff, Nat.reduceAdd, Nat.reduceSub, Nat.reduceLeDiff, reduceCtorEq, implies_true, ne_eq, ↓asrcV, aggV, Tag.cap, List.replicate, allSolid, GVal.solid, Nat.reduceBEq, Nat.reduceMul, Nat.reduceLT, List.length_map, List.length_range, splice, vcA, ↓vcB, vcC, fbFz, e11]
  refine vcSLoop_by (ι := { p : Nat × Nat // p.1 ≤ min 6 (l.length / 2) }) (fun p => ⟨[.slice (ints l) t, .any, .any, .slice (spl (setA l p.1.1)) (.tok 0 p.1.2), .int .i64 ((2 * p.1.1 : Nat) : Int)] ++ List.replicate 56 .any, [.tok p.1.2 2]⟩) (fun p => 6 - p.1.1) ?_ ?_
  · refine Into.tok 3 2 [] rfl rfl ?_
    simp +contextual -implicitDefEqProofs (maxSteps := 2000000) (disch := omega) only [drawC, drawK, keepT, ↓lenV, binV, optV, ↓loadV, ↓storeV, ↓fieldAddrV, ↓indexAddrV, ↓allocV, ↓buildV, ↓buildSliceV, ↓sliceV, ↓appendV, ↓srcV, bound, cutTag, hiTag, fillG, fillE, place, GVal.cells, grp, GVal.ofConst, ↓resV, resG, List.map, List.headD, List.take, List.drop, ↓reduceIte, Nat.reduceEqDiff, Nat.reduceAdd, Nat.reduceSub, Nat.reduceLeDiff, reduceCtorEq, implies_true, ne_eq, ↓asrcV, aggV, Tag.cap, List.replicate, allSolid, GVal.solid, Nat.reduceBEq, Nat.reduceMul, Nat.reduceLT, List.length_map, List.length_range, splice, vcA, ↓vcB, vcC, fbFz, e11]
    intro t0
    exact Into.first ⟨(0, t0), by omega⟩ ⟨[], by simp⟩ (by simp [WL, leG_self, leG_any, setA, spl_nil])
  · rintro ⟨⟨k, v⟩, hk⟩
    change k ≤ min 6 (l.length / 2) at hk
    have hx := hi (2 * k)
    have hy := hi (2 * k + 1)
    by_cases h : k < min 6 (l.length / 2)
    · have d0 : (((2 * k : Nat) : Int) + 1 < (l.length : Int)) = True := eq_true (by omega)
      have d1 : (((2 * k : Nat) : Int) < 12) = True := eq_true (by omega)
      have tn1 : (((2 * k : Nat) : Int) + 1).toNat = 2 * k + 1 := by omega
      have eN : setA l (k + 1) = setA l k ++ [elA (l.getD (2 * k) 0) (l.getD (2 * k + 1) 0)] := by simp [setA, List.range_succ]
      have lk : (setA l k).length = k := by simp [setA]
      have i1 := ints_at l (2 * k) (by omega)
      have i2 := ints_at l (2 * k + 1) (by omega)
      generalize l.getD (2 * k) 0 = x at *
      generalize l.getD (2 * k + 1) 0 = y at *
      have ee1 := Int.emod_nonneg x (by decide : (30 : Int) ≠ 0)
      have e2 := Int.emod_lt_of_pos x (by decide : (0 : Int) < 30)
      have e3 := Int.emod_nonneg y (by decide : (7 : Int) ≠ 0)
      have e4 := Int.emod_lt_of_pos y (by decide : (0 : Int) < 7)
      have cx := sPick x 30 (by omega) (by omega)
      have cy := sPick y 7 (by omega) (by omega)
      generalize setA l k = A at *
      by_cases c1 : x.tmod 3 = 1
      · by_cases c2 : x.tmod 31 = 30
        · have hE : elA x y = (0, 9223372036854775807) := by unfold elA; rw [if_pos c2]
          have t1 : (x.tmod 3 == 1) = true := by simpa using c1
          have t2 : (x.tmod 31 == 30) = true := by simpa using c2
          rw [hE] at eN
          simp +contextual -implicitDefEqProofs (maxSteps := 2000000) (disch := omega) only [drawC, drawK, keepT, ↓lenV, binV, optV, ↓loadV, ↓storeV, ↓fieldAddrV, ↓indexAddrV, ↓allocV, ↓buildV, ↓buildSliceV, ↓sliceV, ↓appendV, ↓srcV, bound, cutTag, hiTag, fillG, fillE, place, GVal.cells, grp, GVal.ofConst, ↓resV, resG, List.map, List.headD, List.take, List.drop, ↓reduceIte, Nat.reduceEqDiff, Nat.reduceAdd, Nat.reduceSub, Nat.reduceLeDiff, reduceCtorEq, implies_true, ne_eq, ↓asrcV, aggV, Tag.cap, List.replicate, allSolid, GVal.solid, Nat.reduceBEq, Nat.reduceMul, Nat.reduceLT, List.length_map, List.length_range, splice, vcAi, ↓vcB, vcC, fbFz, e11, d0, d1, tn1, i1, i2, t1, t2, spl_length, all_spl, lk]
          refine ⟨by omega, by omega, ?_⟩
          refine cx.then ?_ (by rfl)
          simp +contextual -implicitDefEqProofs (maxSteps := 2000000) (disch := omega) only [drawC, drawK, keepT, ↓lenV, binV, optV, ↓loadV, ↓storeV, ↓fieldAddrV, ↓indexAddrV, ↓allocV, ↓buildV, ↓buildSliceV, ↓sliceV, ↓appendV, ↓srcV, bound, cutTag, hiTag, fillG, fillE, place, GVal.cells, grp, GVal.ofConst, ↓resV, resG, List.map, List.headD, List.take, List.drop, ↓reduceIte, Nat.reduceEqDiff, Nat.reduceAdd, Nat.reduceSub, Nat.reduceLeDiff, reduceCtorEq, implies_true, ne_eq, ↓asrcV, aggV, Tag.cap, List.replicate, allSolid, GVal.solid, Nat.reduceBEq, Nat.reduceMul, Nat.reduceLT, List.length_map, List.length_range, splice, vcAi, ↓vcB, vcC, fbFz, e11, d0, d1, tn1, i1, i2, t1, t2, spl_length, all_spl, lk]
          intro st
          refine ⟨by omega, ?_⟩
          refine cy.then ?_ (by rfl)
          simp +contextual -implicitDefEqProofs (maxSteps := 2000000) (disch := omega) only [drawC, drawK, keepT, ↓lenV, binV, optV, ↓loadV, ↓storeV, ↓fieldAddrV, ↓indexAddrV, ↓allocV, ↓buildV, ↓buildSliceV, ↓sliceV, ↓appendV, ↓srcV, bound, cutTag, hiTag, fillG, fillE, place, GVal.cells, grp, GVal.ofConst, ↓resV, resG, List.map, List.headD, List.take, List.drop, ↓reduceIte, Nat.reduceEqDiff, Nat.reduceAdd, Nat.reduceSub, Nat.reduceLeDiff, reduceCtorEq, implies_true, ne_eq, ↓asrcV, aggV, Tag.cap, List.replicate, allSolid, GVal.solid, Nat.reduceBEq, Nat.reduceMul, Nat.reduceLT, List.length_map, List.length_range, splice, vcAi, ↓vcB, vcC, fbFz, e11, d0, d1, tn1, i1, i2, t1, t2, spl_length, all_spl, lk]
          refine ⟨⟨[], by simp⟩, by omega, by omega, by omega, by omega, by omega, by omega, by omega, by omega, fun v2 => ?_⟩
          exact Into.at ⟨(k + 1, v2), by show k + 1 ≤ _; omega⟩ (by show 6 - (k + 1) < 6 - k; omega) ⟨[_], rfl⟩ (by simp [WL, leG_self, leG_any, leG_int, eN, spl_append, spl_one, spG] <;> omega)
        · have hE : elA x y = (x % 30 - 2 + 1099511627776, x % 30 - 2 + y % 7 - 1 + 1099511627776) := by unfold elA; rw [if_neg c2, if_pos c1]
          have t1 : (x.tmod 3 == 1) = true := by simpa using c1
          have t2 : (x.tmod 31 == 30) = false := by simpa using c2
          rw [hE] at eN
          simp +contextual -implicitDefEqProofs (maxSteps := 2000000) (disch := omega) only [drawC, drawK, keepT, ↓lenV, binV, optV, ↓loadV, ↓storeV, ↓fieldAddrV, ↓indexAddrV, ↓allocV, ↓buildV, ↓buildSliceV, ↓sliceV, ↓appendV, ↓srcV, bound, cutTag, hiTag, fillG, fillE, place, GVal.cells, grp, GVal.ofConst, ↓resV, resG, List.map, List.headD, List.take, List.drop, ↓reduceIte, Nat.reduceEqDiff, Nat.reduceAdd, Nat.reduceSub, Nat.reduceLeDiff, reduceCtorEq, implies_true, ne_eq, ↓asrcV, aggV, Tag.cap, List.replicate, allSolid, GVal.solid, Nat.reduceBEq, Nat.reduceMul, Nat.reduceLT, List.length_map, List.length_range, splice, vcAi, ↓vcB, vcC, fbFz, e11, d0, d1, tn1, i1, i2, t1, t2, spl_length, all_spl, lk]
          refine ⟨by omega, by omega, ?_⟩
          refine cx.then ?_ (by rfl)
          simp +contextual -implicitDefEqProofs (maxSteps := 2000000) (disch := omega) only [drawC, drawK, keepT, ↓lenV, binV, optV, ↓loadV, ↓storeV, ↓fieldAddrV, ↓indexAddrV, ↓allocV, ↓buildV, ↓buildSliceV, ↓sliceV, ↓appendV, ↓srcV, bound, cutTag, hiTag, fillG, fillE, place, GVal.cells, grp, GVal.ofConst, ↓resV, resG, List.map, List.headD, List.take, List.drop, ↓reduceIte, Nat.reduceEqDiff, Nat.reduceAdd, Nat.reduceSub, Nat.reduceLeDiff, reduceCtorEq, implies_true, ne_eq, ↓asrcV, aggV, Tag.cap, List.replicate, allSolid, GVal.solid, Nat.reduceBEq, Nat.reduceMul, Nat.reduceLT, List.length_map, List.length_range, splice, vcAi, ↓vcB, vcC, fbFz, e11, d0, d1, tn1, i1, i2, t1, t2, spl_length, all_spl, lk]
          intro st
          refine ⟨by omega, ?_⟩
          refine cy.then ?_ (by rfl)
          simp +contextual -implicitDefEqProofs (maxSteps := 2000000) (disch := omega) only [drawC, drawK, keepT, ↓lenV, binV, optV, ↓loadV, ↓storeV, ↓fieldAddrV, ↓indexAddrV, ↓allocV, ↓buildV, ↓buildSliceV, ↓sliceV, ↓appendV, ↓srcV, bound, cutTag, hiTag, fillG, fillE, place, GVal.cells, grp, GVal.ofConst, ↓resV, resG, List.map, List.headD, List.take, List.drop, ↓reduceIte, Nat.reduceEqDiff, Nat.reduceAdd, Nat.reduceSub, Nat.reduceLeDiff, reduceCtorEq, implies_true, ne_eq, ↓asrcV, aggV, Tag.cap, List.replicate, allSolid, GVal.solid, Nat.reduceBEq, Nat.reduceMul, Nat.reduceLT, List.length_map, List.length_range, splice, vcAi, ↓vcB, vcC, fbFz, e11, d0, d1, tn1, i1, i2, t1, t2, spl_length, all_spl, lk]
          refine ⟨⟨[], by simp⟩, by omega, by omega, by omega, by omega, by omega, by omega, by omega, by omega, fun v2 => ?_⟩
          exact Into.at ⟨(k + 1, v2), by show k + 1 ≤ _; omega⟩ (by show 6 - (k + 1) < 6 - k; omega) ⟨[_], rfl⟩ (by simp [WL, leG_self, leG_any, leG_int, eN, spl_append, spl_one, spG] <;> omega)
      · by_cases c2 : x.tmod 31 = 30
        · have hE : elA x y = (0, 9223372036854775807) := by unfold elA; rw [if_pos c2]
          have t1 : (x.tmod 3 == 1) = false := by simpa using c1
          have t2 : (x.tmod 31 == 30) = true := by simpa using c2
          rw [hE] at eN
          simp +contextual -implicitDefEqProofs (maxSteps := 2000000) (disch := omega) only [drawC, drawK, keepT, ↓lenV, binV, optV, ↓loadV, ↓storeV, ↓fieldAddrV, ↓indexAddrV, ↓allocV, ↓buildV, ↓buildSliceV, ↓sliceV, ↓appendV, ↓srcV, bound, cutTag, hiTag, fillG, fillE, place, GVal.cells, grp, GVal.ofConst, ↓resV, resG, List.map, List.headD, List.take, List.drop, ↓reduceIte, Nat.reduceEqDiff, Nat.reduceAdd, Nat.reduceSub, Nat.reduceLeDiff, reduceCtorEq, implies_true, ne_eq, ↓asrcV, aggV, Tag.cap, List.replicate, allSolid, GVal.solid, Nat.reduceBEq, Nat.reduceMul, Nat.reduceLT, List.length_map, List.length_range, splice, vcAi, ↓vcB, vcC, fbFz, e11, d0, d1, tn1, i1, i2, t1, t2, spl_length, all_spl, lk]
          refine ⟨by omega, by omega, ?_⟩
          refine cx.then ?_ (by rfl)
          simp +contextual -implicitDefEqProofs (maxSteps := 2000000) (disch := omega) only [drawC, drawK, keepT, ↓lenV, binV, optV, ↓loadV, ↓storeV, ↓fieldAddrV, ↓indexAddrV, ↓allocV, ↓buildV, ↓buildSliceV, ↓sliceV, ↓appendV, ↓srcV, bound, cutTag, hiTag, fillG, fillE, place, GVal.cells, grp, GVal.ofConst, ↓resV, resG, List.map, List.headD, List.take, List.drop, ↓reduceIte, Nat.reduceEqDiff, Nat.reduceAdd, Nat.reduceSub, Nat.reduceLeDiff, reduceCtorEq, implies_true, ne_eq, ↓asrcV, aggV, Tag.cap, List.replicate, allSolid, GVal.solid, Nat.reduceBEq, Nat.reduceMul, Nat.reduceLT, List.length_map, List.length_range, splice, vcAi, ↓vcB, vcC, fbFz, e11, d0, d1, tn1, i1, i2, t1, t2, spl_length, all_spl, lk]
          intro st
          refine ⟨by omega, ?_⟩
          refine cy.then ?_ (by rfl)
          simp +contextual -implicitDefEqProofs (maxSteps := 2000000) (disch := omega) only [drawC, drawK, keepT, ↓lenV, binV, optV, ↓loadV, ↓storeV, ↓fieldAddrV, ↓indexAddrV, ↓allocV, ↓buildV, ↓buildSliceV, ↓sliceV, ↓appendV, ↓srcV, bound, cutTag, hiTag, fillG, fillE, place, GVal.cells, grp, GVal.ofConst, ↓resV, resG, List.map, List.headD, List.take, List.drop, ↓reduceIte, Nat.reduceEqDiff, Nat.reduceAdd, Nat.reduceSub, Nat.reduceLeDiff, reduceCtorEq, implies_true, ne_eq, ↓asrcV, aggV, Tag.cap, List.replicate, allSolid, GVal.solid, Nat.reduceBEq, Nat.reduceMul, Nat.reduceLT, List.length_map, List.length_range, splice, vcAi, ↓vcB, vcC, fbFz, e11, d0, d1, tn1, i1, i2, t1, t2, spl_length, all_spl, lk]
          refine ⟨⟨[], by simp⟩, by omega, by omega, by omega, by omega, by omega, by omega, by omega, by omega, fun v2 => ?_⟩
          exact Into.at ⟨(k + 1, v2), by show k + 1 ≤ _; omega⟩ (by show 6 - (k + 1) < 6 - k; omega) ⟨[_], rfl⟩ (by simp [WL, leG_self, leG_any, leG_int, eN, spl_append, spl_one, spG] <;> omega)
        · have hE : elA x y = (x % 30 - 2, x % 30 - 2 + y % 7 - 1) := by unfold elA; rw [if_neg c2, if_neg c1]
          have t1 : (x.tmod 3 == 1) = false := by simpa using c1
          have t2 : (x.tmod 31 == 30) = false := by simpa using c2
          rw [hE] at eN
          simp +contextual -implicitDefEqProofs (maxSteps := 2000000) (disch := omega) only [drawC, drawK, keepT, ↓lenV, binV, optV, ↓loadV, ↓storeV, ↓fieldAddrV, ↓indexAddrV, ↓allocV, ↓buildV, ↓buildSliceV, ↓sliceV, ↓appendV, ↓srcV, bound, cutTag, hiTag, fillG, fillE, place, GVal.cells, grp, GVal.ofConst, ↓resV, resG, List.map, List.headD, List.take, List.drop, ↓reduceIte, Nat.reduceEqDiff, Nat.reduceAdd, Nat.reduceSub, Nat.reduceLeDiff, reduceCtorEq, implies_true, ne_eq, ↓asrcV, aggV, Tag.cap, List.replicate, allSolid, GVal.solid, Nat.reduceBEq, Nat.reduceMul, Nat.reduceLT, List.length_map, List.length_range, splice, vcAi, ↓vcB, vcC, fbFz, e11, d0, d1, tn1, i1, i2, t1, t2, spl_length, all_spl, lk]
          refine ⟨by omega, by omega, ?_⟩
          refine cx.then ?_ (by rfl)
          simp +contextual -implicitDefEqProofs (maxSteps := 2000000) (disch := omega) only [drawC, drawK, keepT, ↓lenV, binV, optV, ↓loadV, ↓storeV, ↓fieldAddrV, ↓indexAddrV, ↓allocV, ↓buildV, ↓buildSliceV, ↓sliceV, ↓appendV, ↓srcV, bound, cutTag, hiTag, fillG, fillE, place, GVal.cells, grp, GVal.ofConst, ↓resV, resG, List.map, List.headD, List.take, List.drop, ↓reduceIte, Nat.reduceEqDiff, Nat.reduceAdd, Nat.reduceSub, Nat.reduceLeDiff, reduceCtorEq, implies_true, ne_eq, ↓asrcV, aggV, Tag.cap, List.replicate, allSolid, GVal.solid, Nat.reduceBEq, Nat.reduceMul, Nat.reduceLT, List.length_map, List.length_range, splice, vcAi, ↓vcB, vcC, fbFz, e11, d0, d1, tn1, i1, i2, t1, t2, spl_length, all_spl, lk]
          intro st
          refine ⟨by omega, ?_⟩
          refine cy.then ?_ (by rfl)
          simp +contextual -implicitDefEqProofs (maxSteps := 2000000) (disch := omega) only [drawC, drawK, keepT, ↓lenV, binV, optV, ↓loadV, ↓storeV, ↓fieldAddrV, ↓indexAddrV, ↓allocV, ↓buildV, ↓buildSliceV, ↓sliceV, ↓appendV, ↓srcV, bound, cutTag, hiTag, fillG, fillE, place, GVal.cells, grp, GVal.ofConst, ↓resV, resG, List.map, List.headD, List.take, List.drop, ↓reduceIte, Nat.reduceEqDiff, Nat.reduceAdd, Nat.reduceSub, Nat.reduceLeDiff, reduceCtorEq, implies_true, ne_eq, ↓asrcV, aggV, Tag.cap, List.replicate, allSolid, GVal.solid, Nat.reduceBEq, Nat.reduceMul, Nat.reduceLT, List.length_map, List.length_range, splice, vcAi, ↓vcB, vcC, fbFz, e11, d0, d1, tn1, i1, i2, t1, t2, spl_length, all_spl, lk]
          refine ⟨⟨[], by simp⟩, by omega, by omega, by omega, by omega, by omega, by omega, by omega, by omega, fun v2 => ?_⟩
          exact Into.at ⟨(k + 1, v2), by show k + 1 ≤ _; omega⟩ (by show 6 - (k + 1) < 6 - k; omega) ⟨[_], rfl⟩ (by simp [WL, leG_self, leG_any, leG_int, eN, spl_append, spl_one, spG] <;> omega)
    · have hk' : k = min 6 (l.length / 2) := by omega
      have fin : setA l k = setA l (min 6 (l.length / 2)) := by rw [← hk']
      generalize setA l (min 6 (l.length / 2)) = F at *
      simp +contextual -implicitDefEqProofs (maxSteps := 2000000) (disch := omega) only [drawC, drawK, keepT, ↓lenV, binV, optV, ↓loadV, ↓storeV, ↓fieldAddrV, ↓indexAddrV, ↓allocV, ↓buildV, ↓buildSliceV, ↓sliceV, ↓appendV, ↓srcV, bound, cutTag, hiTag, fillG, fillE, place, GVal.cells, grp, GVal.ofConst, ↓resV, resG, List.map, List.headD, List.take, List.drop, ↓reduceIte, Nat.reduceEqDiff, Nat.reduceAdd, Nat.reduceSub, Nat.reduceLeDiff, reduceCtorEq, implies_true, ne_eq, ↓asrcV, aggV, Tag.cap, List.replicate, allSolid, GVal.solid, Nat.reduceBEq, Nat.reduceMul, Nat.reduceLT, List.length_map, List.length_range, splice, vcA, ↓vcB, vcC, fbFz, e11]
      exact ⟨fun h1 => ⟨fun h2 => by exfalso; omega, fun _ => by rw [fin]⟩, fun _ => by rw [fin]⟩
end Gv.Tryz
/- The plain laws of heads, roots, what lies between. -/
set_option linter.unusedVariables false
set_option linter.unusedSimpArgs false
set_option maxRecDepth 20000
set_option maxHeartbeats 8000000
namespace Gv.Tryz
open Go Gv Go.Proofs
section
variable {m o : List (List Int)} (h : TOK m o) {s t : List Sp.S}
include h
end
theorem aSame {a b : List Sp.S} (la : a.length ≤ 1000) (e : a = b) : GPure Tryz.prog 12 [.slice (spl a) .none, .slice (spl b) .none] (.bool true) := by
  have := sSameSpans a b .none .none (by omega)
  rw [decide_eq_true e] at this
  exact this
end Gv.Tryz
/- A call that is handed rows of the caller's to read: for the call they are plain lists; behind it they are rows again. What it makes lies behind them. -/
set_option linter.unusedVariables false
namespace Gv
open Go
def plainG : GVal → Bool
  | .any => true
  | .bool _ => true
  | .ubool => true
  | .int _ _ => true
  | .str _ => true
  | .lit _ => true
  | .own _ _ _ _ => true
  | .slice [] .none => true
  | _ => false
theorem VR.plain {E F : Env} {v : Value} {g : GVal} (hl : ∀ s l, E.loc s = some l → F.loc s = some l) (h : VR E v g) (hg : plainG g = true) : VR F v g := by
  cases h with
  | any v => exact .any v
  | bool b => exact .bool b
  | ubool b => exact .ubool b
  | int k n => exact .int k n
  | str s => exact .str s
  | lit v => exact .lit v
  | own a len cap o st i l h1 hcap ha => exact .own a len cap o st i l (hl _ _ h1) hcap ha
  | slice a len cap xs tag sz c hlen hcap hsz ha hc ht =>
    cases xs with
    | cons x r => cases hg
    | nil => cases tag with
      | none => exact .slice a len cap [] .none sz c hlen hcap hsz (fun h => absurd rfl h) (fun j g hj => by simp at hj) trivial
      | _ => cases hg
  | _ => cases hg
def GObj.flat : GObj → Bool
  | .row _ _ xs => xs.all fun r => r.all plainG
  | .dead => true
  | _ => false
def GVal.shift (k : Nat) : GVal → GVal
  | .own o st i len => .own (o + k) st i len
  | g => g
theorem VR.shift {E : Env} {v : Value} {g : GVal} (k : Nat) (h : VR E v g) : VR E v (g.shift k) := by
  cases h with
  | own a len cap o st i l h1 hcap ha => exact .own a len cap _ st i l h1 hcap ha
  | any v => exact .any v
  | bool b => exact .bool b
  | ubool b => exact .ubool b
  | int k n => exact .int k n
  | str s => exact .str s
  | lit v => exact .lit v
  | slice a len cap xs tag sz c hlen hcap hsz ha hc ht => exact .slice a len cap xs tag sz c hlen hcap hsz ha hc ht
  | agg vs cs hs hc => exact .agg vs cs hs hc
  | tuple vs cs hs hc => exact .tuple vs cs hs hc
  | ref b off cs c ha hc => exact .ref b off cs c ha hc
  | ptr b off o st i j l hl hb ho => exact .ptr b off o st i j l hl hb ho
  | map r o st l hl hb => exact .map r o st l hl hb
  | func fn fs cs gs ks hf hk hfs hcs => exact .func fn fs cs gs ks hf hk hfs hcs
  | iface t v g h => exact .iface t v g h
  | cond c v g h => exact .cond c v g h
open Classical in
theorem GCalls.borrow {P : Program} {f : FuncId} {args args' : List GVal} {O : List GObj} {K : GVal → List GObj → Prop} (n : Nat) (h : GCalls P f args' [] K) (ha' : frzL (Gv.frz O n) args = some args') (hc : clockOf O = none)
    (hK : ∀ g O', K g O' → plainG g = true ∧ ∀ x ∈ O', x.flat = true) : GCalls P f args O (fun g O'' => ∃ g0 O', K g0 O' ∧ g = g0.shift O.length ∧ O'' = O ++ O') := by
  refine ⟨h.1, fun E w vs hs ha => ?_⟩
  obtain ⟨f1, f2⟩ := hs.frz
  have hb : ArgsR (E.frz O w) vs args' := ⟨by rw [ha.1, frzL_len ha'], fun i g hg => by
    obtain ⟨x, q1, q2⟩ := frzL_at ha' i g hg
    exact frz_sound hs n _ x g (ha.2 i x q1) q2⟩
  refine (h.2 _ w vs f1 hb).mono ?_
  rintro e w' ⟨v, E', O', g, rfl, h1, h2, h3, h5⟩
  obtain ⟨hg, hfl⟩ := hK g O' h5
  have hno : ∀ b, ¬ InO (E.frz O w) [] b := fun b ⟨i, x, hx, _⟩ => by simp at hx
  have hold : ∀ b, b < w.heap.size → w'.heap[b]? = w.heap[b]? := fun b hb => h2.heap b hb (hno b)
  have hle : E.le E' := f2.ext.trans h2.ext
  let F : Env := { loc := E'.loc, snap := fun b o => match E.snap b o with
    | some v => some v
    | none => if b < w.heap.size then none else E'.snap b o }
  have hF : E.le F := ⟨fun b o v h => by show (match E.snap b o with | some v => some v | none => _) = _; rw [h], hle.loc⟩
  have hFs : ∀ b o v, F.snap b o = some v → E'.snap b o = some v := by
    intro b o v hv
    change (match E.snap b o with | some v => some v | none => if b < w.heap.size then none else E'.snap b o) = some v at hv
    cases hs : E.snap b o with
    | some u => rw [hs] at hv; cases hv; exact hle.snap _ _ _ hs
    | none =>
      rw [hs] at hv
      simp only at hv
      split at hv
      · cases hv
      · exact hv
  have hFo : ∀ b o v, b < w.heap.size → F.snap b o = some v → E.snap b o = some v := by
    intro b o v hb hv
    change (match E.snap b o with | some v => some v | none => if b < w.heap.size then none else E'.snap b o) = some v at hv
    cases hs : E.snap b o with
    | some u => rw [hs] at hv; exact hv
    | none => rw [hs] at hv; simp only [if_pos hb] at hv; cases hv
  have hFn : ∀ b o, E'.snap b o = none → F.snap b o = none := fun b o hn => by
    cases hq : F.snap b o with
    | none => rfl
    | some v => rw [hFs b o v hq] at hn; cases hn
  have hbk : ∀ x : GObj, x.blk F = x.blk E' := fun x => by cases x <;> rfl
  have hbO : ∀ (i : Nat) x, O[i]? = some x → x.blk F = x.blk E := fun i x hx => GObj.blk_mono hF (hs.real i x hx)
  have hnew : ∀ (i : Nat) x b, O'[i]? = some x → x.blk F = some b → w.heap.size ≤ b := fun i x b hx hb => by
    rcases h2.objs b ⟨i, x, hx, by rw [← hbk]; exact hb⟩ with q | q
    · exact absurd q (hno b)
    · exact q
  have hcl : clockOf (O ++ O') = none := by
    cases O with
    | nil =>
      rw [List.nil_append]
      cases O' with
      | nil => rfl
      | cons x r =>
        have := hfl x (by simp)
        cases x <;> first | rfl | cases this
    | cons x r => cases x <;> first | rfl | cases hc
  have hreal : ∀ (i : Nat) x, (O ++ O')[i]? = some x → Realized F w' x := by
    intro i x hx
    by_cases hi : i < O.length
    · rw [List.getElem?_append_left hi] at hx
      exact (hs.real i x hx).keep hF (fun b hb => hold b ((hs.real i x hx).blk_lt hb)) (fun b o v hb hv => hFo b o v ((hs.real i x hx).blk_lt hb) hv)
    · rw [List.getElem?_append_right (by omega)] at hx
      have hr := h1.real _ x hx
      have hf := hfl x (List.mem_of_getElem? hx)
      cases x with
      | dead => trivial
      | row st sz xs =>
        obtain ⟨l, hl, hls, hsx, hrr⟩ := hr
        refine ⟨l, hl, hls, hsx, ?_⟩
        cases hb : l.block with
        | none => simp only [hb] at hrr; exact hrr
        | some b =>
          simp only [hb] at hrr
          obtain ⟨cur, el, q1, q2, q3, q4, q5⟩ := hrr
          refine ⟨cur, el, q1, q2, q3, fun k c hk => ?_, fun o => hFn _ _ (q5 o)⟩
          obtain ⟨x, z1, z2, z3⟩ := q4 k c hk
          refine ⟨x, z1, z2, z3.plain (E := E') (F := F) (fun s l h => show F.loc s = some l from h) ?_⟩
          have hcm := List.mem_of_getElem? hk
          obtain ⟨r, hr1, hr2⟩ := List.mem_flatten.1 hcm
          simp only [GObj.flat, List.all_eq_true] at hf
          exact hf r hr1 c hr2
      | _ => cases hf
  refine ⟨v, F, O ++ O', g.shift O.length, rfl, ⟨?_, fun b o v hv => h1.sealed b o v (hFs b o v hv), fun b o v hv => h1.one b o v (hFs b o v hv), hreal, ?_, hs.globLe hF⟩, ⟨hF, ?_, ?_, h2.size, fun b hb _ => hold b hb, ?_, ?_, trivial⟩, (h3.plain (E := E') (F := F) (fun s l h => show F.loc s = some l from h) hg).shift _, g, O', h5, rfl, rfl⟩
  · obtain ⟨m, _, q⟩ := h1.fin
    exact ⟨m, fun c e => by rw [hcl] at e; (cases e), q⟩
  · intro i j oi oj b hij hi hj hbi hbj
    by_cases ii : i < O.length
    · rw [List.getElem?_append_left ii] at hi
      rw [hbO i oi hi] at hbi
      by_cases jj : j < O.length
      · rw [List.getElem?_append_left jj] at hj
        rw [hbO j oj hj] at hbj
        exact hs.sep i j oi oj b hij hi hj hbi hbj
      · rw [List.getElem?_append_right (by omega)] at hj
        have h6 := hnew _ oj b hj hbj
        have h7 := (hs.real i oi hi).blk_lt hbi
        omega
    · rw [List.getElem?_append_right (by omega)] at hi
      by_cases jj : j < O.length
      · rw [List.getElem?_append_left jj] at hj
        rw [hbO j oj hj] at hbj
        have h6 := hnew _ oi b hi hbi
        have h7 := (hs.real j oj hj).blk_lt hbj
        omega
      · rw [List.getElem?_append_right (by omega)] at hj
        rw [hbk] at hbi hbj
        exact h1.sep _ _ oi oj b (by omega) hi hj hbi hbj
  · rw [h2.os, f2.os]
  · rw [h2.out, f2.out]
  · intro b o v hv
    by_cases hb : b < w.heap.size
    · exact .inl (hFo b o v hb hv)
    · exact .inr (.inl (by omega))
  · intro b ⟨i, x, hx, hbx⟩
    by_cases hi : i < O.length
    · rw [List.getElem?_append_left hi] at hx
      exact .inl ⟨i, x, hx, by rw [← hbO i x hx]; exact hbx⟩
    · rw [List.getElem?_append_right (by omega)] at hx
      exact .inr (hnew _ x b hx hbx)
end Gv
/- A row at the end of the objects becomes a plain list, in the middle of a walk. -/
set_option linter.unusedVariables false
namespace Gv
open Go
theorem GCalls.newBy (u : GVal → GVal) (hu : ∀ E v g, VR E v g → VR E v (u g)) {P : Program} {f : FuncId} {args : List GVal} {K : GVal → List GObj → Prop} (h : GCalls P f args [] K) {O : List GObj} (hc : clockOf O = none) (hK : ∀ g O', K g O' → clockOf O' = none) :
    GCalls P f args O (fun g O'' => ∃ g0 O', K g0 O' ∧ g = u g0 ∧ O'' = O ++ O') := by
  refine ⟨h.1, fun E w vs hs ha => (h.2 E w vs hs.nil ha).mono ?_⟩
  rintro e w' ⟨v, E', O', g, rfl, h1, h2, h3, h5⟩
  have hno : ∀ b, ¬ InO E [] b := fun b ⟨i, x, hx, _⟩ => by simp at hx
  have hold : ∀ b, b < w.heap.size → w'.heap[b]? = w.heap[b]? := fun b hb => h2.heap b hb (hno b)
  have hsn : ∀ b o v, b < w.heap.size → E'.snap b o = some v → E.snap b o = some v := fun b o v hb hv => by
    rcases h2.snap b o v hv with q | q | q
    · exact q
    · omega
    · exact absurd q (hno b)
  have hb : ∀ (i : Nat) x, O[i]? = some x → x.blk E' = x.blk E := fun i x hx => GObj.blk_mono h2.ext (hs.real i x hx)
  have hnew : ∀ (i : Nat) x b, O'[i]? = some x → x.blk E' = some b → w.heap.size ≤ b := fun i x b hx hb => by
    rcases h2.objs b ⟨i, x, hx, hb⟩ with q | q
    · exact absurd q (hno b)
    · exact q
  have hcl : clockOf (O ++ O') = none := by
    cases O with
    | nil => rw [List.nil_append]; exact hK g O' h5
    | cons x r => cases x <;> first | rfl | cases hc
  have hreal : ∀ (i : Nat) x, (O ++ O')[i]? = some x → Realized E' w' x := by
    intro i x hx
    by_cases hi : i < O.length
    · rw [List.getElem?_append_left hi] at hx
      exact (hs.real i x hx).keep h2.ext (fun b hb => hold b ((hs.real i x hx).blk_lt hb)) (fun b o v hb hv => hsn b o v ((hs.real i x hx).blk_lt hb) hv)
    · rw [List.getElem?_append_right (by omega)] at hx
      exact h1.real _ x hx
  refine ⟨v, E', O ++ O', u g, rfl, ⟨?_, h1.sealed, h1.one, hreal, ?_, h1.glob⟩, ⟨h2.ext, h2.os, h2.out, h2.size, fun b hb _ => hold b hb, ?_, ?_, trivial⟩, hu _ _ _ h3, g, O', h5, rfl, rfl⟩
  · obtain ⟨m, _, q⟩ := h1.fin
    exact ⟨m, fun c e => by rw [hcl] at e; (cases e), q⟩
  · intro i j oi oj b hij hi hj hbi hbj
    by_cases ii : i < O.length
    · rw [List.getElem?_append_left ii] at hi
      rw [hb i oi hi] at hbi
      by_cases jj : j < O.length
      · rw [List.getElem?_append_left jj] at hj
        rw [hb j oj hj] at hbj
        exact hs.sep i j oi oj b hij hi hj hbi hbj
      · rw [List.getElem?_append_right (by omega)] at hj
        have h6 := hnew _ oj b hj hbj
        have h7 := (hs.real i oi hi).blk_lt hbi
        omega
    · rw [List.getElem?_append_right (by omega)] at hi
      by_cases jj : j < O.length
      · rw [List.getElem?_append_left jj] at hj
        rw [hb j oj hj] at hbj
        have h6 := hnew _ oi b hi hbi
        have h7 := (hs.real j oj hj).blk_lt hbj
        omega
      · rw [List.getElem?_append_right (by omega)] at hj
        exact h1.sep _ _ oi oj b (by omega) hi hj hbi hbj
  · intro b o v hv
    rcases h2.snap b o v hv with q | q | q
    · exact .inl q
    · exact .inr (.inl q)
    · exact absurd q (hno b)
  · intro b ⟨i, x, hx, hbx⟩
    by_cases hi : i < O.length
    · rw [List.getElem?_append_left hi] at hx
      rw [hb i x hx] at hbx
      exact .inl ⟨i, x, hx, hbx⟩
    · rw [List.getElem?_append_right (by omega)] at hx
      exact .inr (hnew _ x b hx hbx)
def GVal.up (k : Nat) : GVal → GVal
  | .own o st i len => .own (o + k) st i len
  | .ptr o st i j => .ptr (o + k) st i j
  | .map o st => .map (o + k) st
  | g => g
theorem VR.up (k : Nat) (E : Env) (v : Value) (g : GVal) (h : VR E v g) : VR E v (g.up k) := by
  cases g with
  | ptr o st a b => cases h; exact .ptr _ _ _ _ _ _ _ (by assumption) (by assumption) (by assumption)
  | own o st a b => cases h; exact .own _ _ _ _ _ _ _ (by assumption) (by assumption) (by assumption)
  | map o st => cases h; exact .map _ _ _ _ (by assumption) (by assumption)
  | _ => exact h
theorem GCalls.new {P : Program} {f : FuncId} {args : List GVal} {K : GVal → List GObj → Prop} (h : GCalls P f args [] K) {O : List GObj} (hc : clockOf O = none) (hK : ∀ g O', K g O' → clockOf O' = none) :
    GCalls P f args O (fun g O'' => ∃ g0 O', K g0 O' ∧ g = g0.shift O.length ∧ O'' = O ++ O') := GCalls.newBy (GVal.shift O.length) (fun _ _ _ h => h.shift _) h hc hK
theorem GCalls.newUp {P : Program} {f : FuncId} {args : List GVal} {K : GVal → List GObj → Prop} (h : GCalls P f args [] K) {O : List GObj} (hc : clockOf O = none) (hK : ∀ g O', K g O' → clockOf O' = none) :
    GCalls P f args O (fun g O'' => ∃ g0 O', K g0 O' ∧ g = g0.up O.length ∧ O'' = O ++ O') := GCalls.newBy (GVal.up O.length) (VR.up O.length) h hc hK
end Gv
/- AskTells: the law. -/
set_option linter.unusedVariables false
set_option linter.unusedSimpArgs false
set_option maxRecDepth 20000
set_option maxHeartbeats 8000000
namespace Gv.Tryz
open Go Gv Go.Proofs
def KPure (f : FuncId) (L : List (List Seg)) (N : List Sp.S) (ar : List GVal) (r : GVal) : Prop :=
  ∀ (st : Nat) (kk : Int), 0 ≤ kk ∧ kk ≤ 100000000 → GCalls Tryz.prog f (.ptr 0 st 0 0 :: ar) [.row st 3 [dagG L N kk]] (fun g O' => ∃ x', O' = [x'] ∧ (g = r ∧ ∃ k', x' = .row st 3 [dagG L N k'] ∧ 0 ≤ k' ∧ k' ≤ kk + 4000))
theorem KPure.on1 {f : FuncId} {L : List (List Seg)} {N : List Sp.S} {ar : List GVal} {r : GVal} (h : KPure f L N ar r) {a : GObj} {st : Nat} {kk : Int} (hk : 0 ≤ kk ∧ kk ≤ 100000000) (hc : clockOf [a, .row st 3 [dagG L N kk]] = none := by rfl) (ha : ar.map (GVal.place 1) = ar := by rfl) :
    GCalls Tryz.prog f (.ptr 1 st 0 0 :: ar) [a, .row st 3 [dagG L N kk]] (fun g O' => ∃ k', g = r ∧ O' = [a, .row st 3 [dagG L N k']] ∧ 0 ≤ k' ∧ k' ≤ kk + 4000) := by
  have := GCalls.ownFrame (h st kk hk) (O := [a, .row st 3 [dagG L N kk]]) 1 rfl hc (fun g x' h => by obtain ⟨_, k', e, _⟩ := h; rw [e]; rfl) rfl
  rw [List.map_cons, ha] at this
  refine this.mono ?_
  rintro g O' ⟨x', rfl, rfl, k', rfl, h1, h2⟩
  exact ⟨k', rfl, rfl, h1, h2⟩
theorem KPure.on3 {f : FuncId} {L : List (List Seg)} {N : List Sp.S} {ar : List GVal} {r : GVal} (h : KPure f L N ar r) {a b c : GObj} {st : Nat} {kk : Int} (hk : 0 ≤ kk ∧ kk ≤ 100000000) (hc : clockOf [a, b, c, .row st 3 [dagG L N kk]] = none := by rfl) (ha : ar.map (GVal.place 3) = ar := by rfl) :
    GCalls Tryz.prog f (.ptr 3 st 0 0 :: ar) [a, b, c, .row st 3 [dagG L N kk]] (fun g O' => ∃ k', g = r ∧ O' = [a, b, c, .row st 3 [dagG L N k']] ∧ 0 ≤ k' ∧ k' ≤ kk + 4000) := by
  have := GCalls.ownFrame (h st kk hk) (O := [a, b, c, .row st 3 [dagG L N kk]]) 3 rfl hc (fun g x' h => by obtain ⟨_, k', e, _⟩ := h; rw [e]; rfl) rfl
  rw [List.map_cons, ha] at this
  refine this.mono ?_
  rintro g O' ⟨x', rfl, rfl, k', rfl, h1, h2⟩
  exact ⟨k', rfl, rfl, h1, h2⟩
theorem kUp {m o : List (List Int)} {L : List (List Seg)} (h : DagOK m o L) (s : List Sp.S) (t : Tag) (hl : s.length ≤ 1000000) (hs : Sp.Ok s) : KPure 19 L (allN L) [.slice (spl s) t] (.slice (spl (idsP m o (aP m o s))) .none) := fun st kk hk => (aAncestors h s t hl hs st kk hk).mono (by
  rintro g O' ⟨x', rfl, k', rfl, rfl, h1, h2, _⟩
  have : L.length * (L.getD 0 []).length ≤ 4 * 1000 := Nat.mul_le_mul h.len4 (h.size 0).1
  exact ⟨_, rfl, rfl, k', rfl, by omega, by omega⟩)
theorem kBetween {m o : List (List Int)} {L : List (List Seg)} (h : DagOK m o L) (a b : List Sp.S) (ta tb : Tag) (la : a.length ≤ 1000000) (lb : b.length ≤ 1000000) (oa : Sp.Ok a) (ob : Sp.Ok b) :
    KPure 27 L (allN L) [.slice (spl a) ta, .slice (spl b) tb] (.slice (spl (idsP m o fun n => dP m o a n ∧ aP m o b n)) .none) := fun st kk hk => (aBetween h a b ta tb la lb oa ob st kk hk).mono (by
  rintro g O' ⟨x', rfl, k', rfl, rfl, h1, h2⟩
  exact ⟨_, rfl, rfl, k', rfl, by omega, by omega⟩)
theorem refFlatT {m o : List (List Int)} (h : TOK m o) : GPure Tryz.prog 9 [.agg [.slice (tabG m) .none, .slice (tabG o) .none]] (.slice (segsG (buildI m o)) .none) := by
  have hl := h.len
  have hoS := build_okS m o (by omega) (by omega) h.right
  refine spec24 m o h.len h.right (fun x => okRow_len h.right x) fun s hs => ?_
  have f := okS_flat _ 0 hoS s hs
  have := f.lo
  have := f.le
  have := f.top
  have hs : split = 1099511627776 := rfl
  omega
theorem aOf {m o : List (List Int)} (h : TOK m o) (size : Int) (hs : 2 ≤ size) :
    GCalls Tryz.prog 8 [.slice (segsG (buildI m o)) .none, .int .i64 size] [] (fun g O' => ∃ s0 X st L, g = .ptr 1 st 0 0 ∧ O' = [.row s0 2 X, .row st 3 [dagG L (allN L) 0]] ∧ DagOK m o L ∧ LevOK size (buildI m o) L) := by
  have hl := h.len
  have hoS := build_okS m o (by omega) (by omega) h.right
  have hbl := buildI_len h
  have hfl := fun s hs => okS_flat (m := m) (o := o) (buildI m o) 0 hoS s hs
  have hall : ∀ i, ((buildI m o).getD i default).par.length ≤ 17592186044416 ∧ ((buildI m o).getD i default).hi ≤ 9223372036854775807 := fun i => by
    by_cases hi : i < (buildI m o).length
    · have f := hfl _ (seg_mem hi)
      have := flat_par4 h f
      have := f.top
      omega
    · rw [List.getD_eq_getElem?_getD, List.getElem?_eq_none (by omega)]
      exact ⟨Nat.zero_le _, by decide⟩
  have cB := spec27 (buildI m o) .none (by omega) (fun i => (hall i).1) (fun i => (hall i).2)
  rw [back_build h.len h.right] at cB
  unfold pairTG at cB
  simp only [tabOf, tgOf, Option.isSome] at cB
  have cO := aOver h hoS hbl size hs
  have d0 : (size < 2) = False := eq_false (by omega)
  refine h8.calls mixS (by simp) ?_
  simp only [gstart, s8, List.cons_append, List.nil_append, List.length_cons, List.length_nil, Nat.reduceAdd, Nat.reduceSub, List.replicate_succ, List.replicate_zero]
  simp +contextual -implicitDefEqProofs (maxSteps := 2000000) (disch := omega) only [binV, ↓unV, ↓storeV, ↓allocV, GVal.cells, grp, GVal.ofConst, ↓resV, resG, List.map, List.headD, List.take, List.drop, ↓reduceIte, Nat.reduceEqDiff, Nat.reduceAdd, Nat.reduceSub, Nat.reduceLeDiff, reduceCtorEq, implies_true, ne_eq, Tag.cap, List.replicate, allSolid, GVal.solid, Nat.reduceBEq, Nat.reduceMul, Nat.reduceLT, List.length_map, List.length_range, splice, vcA, ↓vcB, vcC, fbFz, e8]
  refine cB.then ?_ (by rfl)
  simp +contextual -implicitDefEqProofs (maxSteps := 2000000) (disch := omega) only [binV, ↓unV, ↓storeV, ↓allocV, GVal.cells, grp, GVal.ofConst, ↓resV, resG, List.map, List.headD, List.take, List.drop, ↓reduceIte, Nat.reduceEqDiff, Nat.reduceAdd, Nat.reduceSub, Nat.reduceLeDiff, reduceCtorEq, implies_true, ne_eq, Tag.cap, List.replicate, allSolid, GVal.solid, Nat.reduceBEq, Nat.reduceMul, Nat.reduceLT, List.length_map, List.length_range, splice, vcA, ↓vcB, vcC, fbFz, e8, d0]
  intro s0
  refine (GCalls.newUp cO (by rfl) (by rintro g O' ⟨st, L, rfl, rfl, _⟩; rfl)).mono ?_
  rintro g O' ⟨g0, O1, ⟨st, L, rfl, rfl, hD, hL⟩, rfl, rfl⟩
  simp +contextual -implicitDefEqProofs (maxSteps := 2000000) (disch := omega) only [binV, ↓unV, ↓storeV, ↓allocV, GVal.cells, grp, GVal.ofConst, ↓resV, resG, List.map, List.headD, List.take, List.drop, ↓reduceIte, Nat.reduceEqDiff, Nat.reduceAdd, Nat.reduceSub, Nat.reduceLeDiff, reduceCtorEq, implies_true, ne_eq, Tag.cap, List.replicate, allSolid, GVal.solid, Nat.reduceBEq, Nat.reduceMul, Nat.reduceLT, List.length_map, List.length_range, splice, vcA, ↓vcB, vcC, fbFz, e8, GVal.up]
  exact ⟨s0, _, st, L, rfl, rfl, hD, hL⟩
theorem specTellsF (x y : List Int) (size : Int) (a b : List Int) (ha : Ints a) (hb : Ints b) : GPure Tryz.prog 3 [.agg [.slice (ints x) .none, .slice (ints y) .none], .int .i64 size, .slice (ints a) .none, .slice (ints b) .none, .bool false] (.bool true) := by
  have b1 := Int.emod_nonneg size (by decide : (5 : Int) ≠ 0)
  have b2 := Int.emod_lt_of_pos size (by decide : (0 : Int) < 5)
  have cPk := sPick size 5 (by omega) (by omega)
  have cA := aSet a .none ha.1 ha.2
  have cB := aSet b .none hb.1 hb.2
  have limA := setA_lim a (min 6 (a.length / 2)) (by omega)
  have limB := setA_lim b (min 6 (b.length / 2)) (by omega)
  have cT := spec11 x y .none .none
  have hT : TOK (tabM x) (tabO x y) := ⟨by have := tabM_len x; have := tabO_len x y; omega, raw_right x y⟩
  have cPl := spec13 (tabG (tabM x)) (tabG (tabO x y)) .none .none
  generalize tabM x = m at *
  generalize tabO x y = o at *
  generalize size % 5 = q at *
  generalize setA a (min 6 (a.length / 2)) = A at *
  generalize setA b (min 6 (b.length / 2)) = B at *
  have lA : A.length ≤ 6 := limA.1
  have lB : B.length ≤ 6 := limB.1
  have hTl := hT.len
  have cF := refFlatT hT
  have cN := aNew hT .none .none (2 + q) (by omega)
  have cOf := aOf hT (2 + q) (by omega)
  have len := fun P => idsP_len m o P
  have rA := rAll hT
  have r1 := rPars hT A .none (by omega) limA.2
  have r2 := rKids hT A .none (by omega) limA.2
  have r3 := rUp hT A .none (by omega) limA.2
  have r4 := rDown hT A .none (by omega) limA.2
  have r5 := rHeads hT A .none (by omega) limA.2
  have r6 := rRoots hT A .none (by omega) limA.2
  have r7 := rBetween hT A B .none .none (by omega) (by omega) limA.2 limB.2
  have sm := fun P => aSame (a := idsP m o P) (b := idsP m o P) (Nat.le_trans (len _) (by omega)) rfl
  refine GCalls.toPure ?_
  refine h3.calls mixS (by simp) ?_
  simp only [gstart, s3, List.cons_append, List.nil_append, List.length_cons, List.length_nil, Nat.reduceAdd, Nat.reduceSub, List.replicate_succ, List.replicate_zero]
  simp +contextual -implicitDefEqProofs (maxSteps := 2000000) (disch := omega) only [drawC, drawK, keepT, binV, ↓unV, ↓loadV, ↓storeV, ↓allocV, ↓boxV, GVal.cells, grp, GVal.ofConst, ↓resV, resG, List.map, List.headD, List.take, List.drop, ↓reduceIte, Nat.reduceEqDiff, Nat.reduceAdd, Nat.reduceSub, Nat.reduceLeDiff, reduceCtorEq, implies_true, ne_eq, aggV, Tag.cap, List.replicate, allSolid, GVal.solid, Nat.reduceBEq, Nat.reduceMul, Nat.reduceLT, List.length_map, List.length_range, splice, vcA, ↓vcB, vcC, fbFz, e3]
  refine cT.then ?_ (by rfl)
  simp +contextual -implicitDefEqProofs (maxSteps := 2000000) (disch := omega) only [drawC, drawK, keepT, binV, ↓unV, ↓loadV, ↓storeV, ↓allocV, ↓boxV, GVal.cells, grp, GVal.ofConst, ↓resV, resG, List.map, List.headD, List.take, List.drop, ↓reduceIte, Nat.reduceEqDiff, Nat.reduceAdd, Nat.reduceSub, Nat.reduceLeDiff, reduceCtorEq, implies_true, ne_eq, aggV, Tag.cap, List.replicate, allSolid, GVal.solid, Nat.reduceBEq, Nat.reduceMul, Nat.reduceLT, List.length_map, List.length_range, splice, vcA, ↓vcB, vcC, fbFz, e3]
  intro s0
  refine cPk.then ?_ (by rfl)
  simp +contextual -implicitDefEqProofs (maxSteps := 2000000) (disch := omega) only [drawC, drawK, keepT, binV, ↓unV, ↓loadV, ↓storeV, ↓allocV, ↓boxV, GVal.cells, grp, GVal.ofConst, ↓resV, resG, List.map, List.headD, List.take, List.drop, ↓reduceIte, Nat.reduceEqDiff, Nat.reduceAdd, Nat.reduceSub, Nat.reduceLeDiff, reduceCtorEq, implies_true, ne_eq, aggV, Tag.cap, List.replicate, allSolid, GVal.solid, Nat.reduceBEq, Nat.reduceMul, Nat.reduceLT, List.length_map, List.length_range, splice, vcA, ↓vcB, vcC, fbFz, e3]
  refine cPl.then ?_ (by rfl)
  simp +contextual -implicitDefEqProofs (maxSteps := 2000000) (disch := omega) only [drawC, drawK, keepT, binV, ↓unV, ↓loadV, ↓storeV, ↓allocV, ↓boxV, GVal.cells, grp, GVal.ofConst, ↓resV, resG, List.map, List.headD, List.take, List.drop, ↓reduceIte, Nat.reduceEqDiff, Nat.reduceAdd, Nat.reduceSub, Nat.reduceLeDiff, reduceCtorEq, implies_true, ne_eq, aggV, Tag.cap, List.replicate, allSolid, GVal.solid, Nat.reduceBEq, Nat.reduceMul, Nat.reduceLT, List.length_map, List.length_range, splice, vcA, ↓vcB, vcC, fbFz, e3]
  refine (GCalls.newUp cN (by rfl) (by rintro g O' ⟨st, L, rfl, rfl, _⟩; rfl)).mono ?_
  rintro g O' ⟨g0, O1, ⟨st, L, rfl, rfl, hD, hL⟩, rfl, rfl⟩
  have hN := hD.allLen
  have cAl := aAll L (allN L) (by omega)
  have sA := aSame (a := allN L) (b := idsP m o (fun _ => True)) (by omega) hD.allEq
  have c1 := aParents hD A .none (by omega) limA.2
  have c2 := aChildren hD A .none (by omega) limA.2
  have c3 := kUp hD A .none (by omega) limA.2
  have c4 := aDescendants hD A .none (by omega) limA.2
  have c5 := aHeads hD A .none (by omega) limA.2
  have c6 := aRoots hD A .none (by omega) limA.2
  have c7 := kBetween hD A B .none .none (by omega) (by omega) limA.2 limB.2
  simp +contextual -implicitDefEqProofs (maxSteps := 2000000) (disch := omega) only [drawC, drawK, keepT, binV, ↓unV, ↓loadV, ↓storeV, ↓allocV, ↓boxV, GVal.cells, grp, GVal.ofConst, ↓resV, resG, List.map, List.headD, List.take, List.drop, ↓reduceIte, Nat.reduceEqDiff, Nat.reduceAdd, Nat.reduceSub, Nat.reduceLeDiff, reduceCtorEq, implies_true, ne_eq, aggV, Tag.cap, List.replicate, allSolid, GVal.solid, Nat.reduceBEq, Nat.reduceMul, Nat.reduceLT, List.length_map, List.length_range, splice, vcA, ↓vcB, vcC, fbFz, e3, GVal.up]
  refine aKnown.then ?_ (by rfl)
  repeat
    simp +contextual -implicitDefEqProofs (maxSteps := 2000000) (disch := omega) only [drawC, drawK, keepT, binV, ↓unV, ↓loadV, ↓storeV, ↓allocV, ↓boxV, GVal.cells, grp, GVal.ofConst, ↓resV, resG, List.map, List.headD, List.take, List.drop, ↓reduceIte, Nat.reduceEqDiff, Nat.reduceAdd, Nat.reduceSub, Nat.reduceLeDiff, reduceCtorEq, implies_true, ne_eq, aggV, Tag.cap, List.replicate, allSolid, GVal.solid, Nat.reduceBEq, Nat.reduceMul, Nat.reduceLT, List.length_map, List.length_range, splice, vcA, ↓vcB, vcC, fbFz, e3]
    first
      | exact frzB _
      | refine cA.then ?_ (by rfl)
      | refine cB.then ?_ (by rfl)
      | refine cAl.then ?_
      | refine rA.then ?_ (by rfl)
      | refine sA.then ?_ (by rfl)
      | refine (sm _).then ?_ (by rfl)
      | refine c1.then ?_
      | refine c2.then ?_
      | refine c4.then ?_
      | refine c5.then ?_
      | refine c6.then ?_
      | refine r1.then ?_ (by rfl)
      | refine r2.then ?_ (by rfl)
      | refine r3.then ?_ (by rfl)
      | refine r4.then ?_ (by rfl)
      | refine r5.then ?_ (by rfl)
      | refine r6.then ?_ (by rfl)
      | refine r7.then ?_ (by rfl)
      | (refine (c3.on1 (by omega)).mono ?_; rintro g O' ⟨k3, rfl, rfl, p3, q3⟩)
      | (refine (c7.on1 (by omega)).mono ?_; rintro g O' ⟨k7, rfl, rfl, p7, q7⟩)
theorem specTellsT (x y : List Int) (size : Int) (a b : List Int) (ha : Ints a) (hb : Ints b) : GPure Tryz.prog 3 [.agg [.slice (ints x) .none, .slice (ints y) .none], .int .i64 size, .slice (ints a) .none, .slice (ints b) .none, .bool true] (.bool true) := by
  have b1 := Int.emod_nonneg size (by decide : (5 : Int) ≠ 0)
  have b2 := Int.emod_lt_of_pos size (by decide : (0 : Int) < 5)
  have cPk := sPick size 5 (by omega) (by omega)
  have cA := aSet a .none ha.1 ha.2
  have cB := aSet b .none hb.1 hb.2
  have limA := setA_lim a (min 6 (a.length / 2)) (by omega)
  have limB := setA_lim b (min 6 (b.length / 2)) (by omega)
  have cT := spec11 x y .none .none
  have hT : TOK (tabM x) (tabO x y) := ⟨by have := tabM_len x; have := tabO_len x y; omega, raw_right x y⟩
  have cPl := spec13 (tabG (tabM x)) (tabG (tabO x y)) .none .none
  generalize tabM x = m at *
  generalize tabO x y = o at *
  generalize size % 5 = q at *
  generalize setA a (min 6 (a.length / 2)) = A at *
  generalize setA b (min 6 (b.length / 2)) = B at *
  have lA : A.length ≤ 6 := limA.1
  have lB : B.length ≤ 6 := limB.1
  have hTl := hT.len
  have cF := refFlatT hT
  have cN := aNew hT .none .none (2 + q) (by omega)
  have cOf := aOf hT (2 + q) (by omega)
  have len := fun P => idsP_len m o P
  have rA := rAll hT
  have r1 := rPars hT A .none (by omega) limA.2
  have r2 := rKids hT A .none (by omega) limA.2
  have r3 := rUp hT A .none (by omega) limA.2
  have r4 := rDown hT A .none (by omega) limA.2
  have r5 := rHeads hT A .none (by omega) limA.2
  have r6 := rRoots hT A .none (by omega) limA.2
  have r7 := rBetween hT A B .none .none (by omega) (by omega) limA.2 limB.2
  have sm := fun P => aSame (a := idsP m o P) (b := idsP m o P) (Nat.le_trans (len _) (by omega)) rfl
  refine GCalls.toPure ?_
  refine h3.calls mixS (by simp) ?_
  simp only [gstart, s3, List.cons_append, List.nil_append, List.length_cons, List.length_nil, Nat.reduceAdd, Nat.reduceSub, List.replicate_succ, List.replicate_zero]
  simp +contextual -implicitDefEqProofs (maxSteps := 2000000) (disch := omega) only [drawC, drawK, keepT, binV, ↓unV, ↓loadV, ↓storeV, ↓allocV, ↓boxV, GVal.cells, grp, GVal.ofConst, ↓resV, resG, List.map, List.headD, List.take, List.drop, ↓reduceIte, Nat.reduceEqDiff, Nat.reduceAdd, Nat.reduceSub, Nat.reduceLeDiff, reduceCtorEq, implies_true, ne_eq, aggV, Tag.cap, List.replicate, allSolid, GVal.solid, Nat.reduceBEq, Nat.reduceMul, Nat.reduceLT, List.length_map, List.length_range, splice, vcA, ↓vcB, vcC, fbFz, e3]
  refine cT.then ?_ (by rfl)
  simp +contextual -implicitDefEqProofs (maxSteps := 2000000) (disch := omega) only [drawC, drawK, keepT, binV, ↓unV, ↓loadV, ↓storeV, ↓allocV, ↓boxV, GVal.cells, grp, GVal.ofConst, ↓resV, resG, List.map, List.headD, List.take, List.drop, ↓reduceIte, Nat.reduceEqDiff, Nat.reduceAdd, Nat.reduceSub, Nat.reduceLeDiff, reduceCtorEq, implies_true, ne_eq, aggV, Tag.cap, List.replicate, allSolid, GVal.solid, Nat.reduceBEq, Nat.reduceMul, Nat.reduceLT, List.length_map, List.length_range, splice, vcA, ↓vcB, vcC, fbFz, e3]
  intro s0
  refine cPk.then ?_ (by rfl)
  simp +contextual -implicitDefEqProofs (maxSteps := 2000000) (disch := omega) only [drawC, drawK, keepT, binV, ↓unV, ↓loadV, ↓storeV, ↓allocV, ↓boxV, GVal.cells, grp, GVal.ofConst, ↓resV, resG, List.map, List.headD, List.take, List.drop, ↓reduceIte, Nat.reduceEqDiff, Nat.reduceAdd, Nat.reduceSub, Nat.reduceLeDiff, reduceCtorEq, implies_true, ne_eq, aggV, Tag.cap, List.replicate, allSolid, GVal.solid, Nat.reduceBEq, Nat.reduceMul, Nat.reduceLT, List.length_map, List.length_range, splice, vcA, ↓vcB, vcC, fbFz, e3]
  refine cPl.then ?_ (by rfl)
  simp +contextual -implicitDefEqProofs (maxSteps := 2000000) (disch := omega) only [drawC, drawK, keepT, binV, ↓unV, ↓loadV, ↓storeV, ↓allocV, ↓boxV, GVal.cells, grp, GVal.ofConst, ↓resV, resG, List.map, List.headD, List.take, List.drop, ↓reduceIte, Nat.reduceEqDiff, Nat.reduceAdd, Nat.reduceSub, Nat.reduceLeDiff, reduceCtorEq, implies_true, ne_eq, aggV, Tag.cap, List.replicate, allSolid, GVal.solid, Nat.reduceBEq, Nat.reduceMul, Nat.reduceLT, List.length_map, List.length_range, splice, vcA, ↓vcB, vcC, fbFz, e3]
  refine (GCalls.newUp cN (by rfl) (by rintro g O' ⟨st, L, rfl, rfl, _⟩; rfl)).mono ?_
  rintro g O' ⟨g0, O1, ⟨st0, L0, rfl, rfl, _, _⟩, rfl, rfl⟩
  simp +contextual -implicitDefEqProofs (maxSteps := 2000000) (disch := omega) only [drawC, drawK, keepT, binV, ↓unV, ↓loadV, ↓storeV, ↓allocV, ↓boxV, GVal.cells, grp, GVal.ofConst, ↓resV, resG, List.map, List.headD, List.take, List.drop, ↓reduceIte, Nat.reduceEqDiff, Nat.reduceAdd, Nat.reduceSub, Nat.reduceLeDiff, reduceCtorEq, implies_true, ne_eq, aggV, Tag.cap, List.replicate, allSolid, GVal.solid, Nat.reduceBEq, Nat.reduceMul, Nat.reduceLT, List.length_map, List.length_range, splice, vcA, ↓vcB, vcC, fbFz, e3, GVal.up]
  refine cF.then ?_ (by rfl)
  simp +contextual -implicitDefEqProofs (maxSteps := 2000000) (disch := omega) only [drawC, drawK, keepT, binV, ↓unV, ↓loadV, ↓storeV, ↓allocV, ↓boxV, GVal.cells, grp, GVal.ofConst, ↓resV, resG, List.map, List.headD, List.take, List.drop, ↓reduceIte, Nat.reduceEqDiff, Nat.reduceAdd, Nat.reduceSub, Nat.reduceLeDiff, reduceCtorEq, implies_true, ne_eq, aggV, Tag.cap, List.replicate, allSolid, GVal.solid, Nat.reduceBEq, Nat.reduceMul, Nat.reduceLT, List.length_map, List.length_range, splice, vcA, ↓vcB, vcC, fbFz, e3]
  refine (GCalls.newUp cOf (by rfl) (by rintro g O' ⟨s0, X, st, L, rfl, rfl, _⟩; rfl)).mono ?_
  rintro g O' ⟨g0, O1, ⟨s2, X, st, L, rfl, rfl, hD, hL⟩, rfl, rfl⟩
  have hN := hD.allLen
  have cAl := aAll L (allN L) (by omega)
  have sA := aSame (a := allN L) (b := idsP m o (fun _ => True)) (by omega) hD.allEq
  have c1 := aParents hD A .none (by omega) limA.2
  have c2 := aChildren hD A .none (by omega) limA.2
  have c3 := kUp hD A .none (by omega) limA.2
  have c4 := aDescendants hD A .none (by omega) limA.2
  have c5 := aHeads hD A .none (by omega) limA.2
  have c6 := aRoots hD A .none (by omega) limA.2
  have c7 := kBetween hD A B .none .none (by omega) (by omega) limA.2 limB.2
  simp +contextual -implicitDefEqProofs (maxSteps := 2000000) (disch := omega) only [drawC, drawK, keepT, binV, ↓unV, ↓loadV, ↓storeV, ↓allocV, ↓boxV, GVal.cells, grp, GVal.ofConst, ↓resV, resG, List.map, List.headD, List.take, List.drop, ↓reduceIte, Nat.reduceEqDiff, Nat.reduceAdd, Nat.reduceSub, Nat.reduceLeDiff, reduceCtorEq, implies_true, ne_eq, aggV, Tag.cap, List.replicate, allSolid, GVal.solid, Nat.reduceBEq, Nat.reduceMul, Nat.reduceLT, List.length_map, List.length_range, splice, vcA, ↓vcB, vcC, fbFz, e3, GVal.up]
  refine aKnown.then ?_ (by rfl)
  repeat
    simp +contextual -implicitDefEqProofs (maxSteps := 2000000) (disch := omega) only [drawC, drawK, keepT, binV, ↓unV, ↓loadV, ↓storeV, ↓allocV, ↓boxV, GVal.cells, grp, GVal.ofConst, ↓resV, resG, List.map, List.headD, List.take, List.drop, ↓reduceIte, Nat.reduceEqDiff, Nat.reduceAdd, Nat.reduceSub, Nat.reduceLeDiff, reduceCtorEq, implies_true, ne_eq, aggV, Tag.cap, List.replicate, allSolid, GVal.solid, Nat.reduceBEq, Nat.reduceMul, Nat.reduceLT, List.length_map, List.length_range, splice, vcA, ↓vcB, vcC, fbFz, e3]
    first
      | exact frzB _
      | refine cA.then ?_ (by rfl)
      | refine cB.then ?_ (by rfl)
      | refine cAl.then ?_
      | refine rA.then ?_ (by rfl)
      | refine sA.then ?_ (by rfl)
      | refine (sm _).then ?_ (by rfl)
      | refine c1.then ?_
      | refine c2.then ?_
      | refine c4.then ?_
      | refine c5.then ?_
      | refine c6.then ?_
      | refine r1.then ?_ (by rfl)
      | refine r2.then ?_ (by rfl)
      | refine r3.then ?_ (by rfl)
      | refine r4.then ?_ (by rfl)
      | refine r5.then ?_ (by rfl)
      | refine r6.then ?_ (by rfl)
      | refine r7.then ?_ (by rfl)
      | (refine (c3.on3 (by omega)).mono ?_; rintro g O' ⟨k3, rfl, rfl, p3, q3⟩)
      | (refine (c7.on3 (by omega)).mono ?_; rintro g O' ⟨k7, rfl, rfl, p7, q7⟩)
theorem specTells (x y : List Int) (size : Int) (a b : List Int) (seg : Bool) (ha : Ints a) (hb : Ints b) : GPure Tryz.prog 3 [.agg [.slice (ints x) .none, .slice (ints y) .none], .int .i64 size, .slice (ints a) .none, .slice (ints b) .none, .bool seg] (.bool true) := by
  cases seg
  · exact specTellsF x y size a b ha hb
  · exact specTellsT x y size a b ha hb
end Gv.Tryz
/- From a reading of plain data (numbers, bools, strings, slices, structs) to what it is without memory. -/
set_option linter.unusedVariables false
namespace Gv
open Go Go.RowKit Go.WideShapes Go.ChangeShapes

def Env.all (w : World) : Env := ⟨fun b o => match w.cell? ⟨b, o, none⟩ with
  | some v => if v.oneCell' = true then some v else none
  | none => none, fun _ => none⟩
theorem Env.all_at {w : World} {b o : Nat} {v : Value} (h : w.cell? ⟨b, o, none⟩ = some v) (hv : v.oneCell' = true) : (Env.all w).snap b o = some v := by
  simp [Env.all, h, hv]
def GlobsIn (w : World) : Prop := ∀ p ∈ globs, w.cell? ⟨p.1, p.2.1, none⟩ = some p.2.2 ∧ p.2.2.oneCell' = true
theorem globsIn_none {w : World} (h : globs = []) : GlobsIn w := fun p hp => by rw [h] at hp; cases hp
theorem HSim.all (w : World) (hg : GlobsIn w) : HSim (Env.all w) [] w := by
  have key : ∀ b o v, (Env.all w).snap b o = some v → w.cell? ⟨b, o, none⟩ = some v ∧ v.oneCell' = true := by
    intro b o v h
    simp only [Env.all] at h
    split at h
    · rename_i x hx
      split at h
      · rename_i hv
        simp only [Option.some.injEq] at h
        subst h
        exact ⟨hx, hv⟩
      · cases h
    · cases h
  exact ⟨⟨0, (fun c hc => by cases hc), fun _ _ => rfl⟩, fun b o v h => (key b o v h).1, fun b o v h => (key b o v h).2, fun i x hx => by simp at hx, fun i j oi oj b _ hi => by simp at hi, fun p hp => Env.all_at (hg p hp).1 (hg p hp).2⟩

inductive Sh where
  | int (k : IntKind)
  | bool
  | str
  | slice (e : Sh)
  | agg (l : List Sh)
mutual
def Sh.size : Sh → Nat
  | .agg l => Sh.sizes l
  | _ => 1
def Sh.sizes : List Sh → Nat
  | [] => 0
  | s :: r => s.size + Sh.sizes r
end
mutual
def shB (P : Program) : Sh → TypeId → Bool
  | .int k, t => match P.underlying t with
    | some (.int k') => k = k'
    | _ => false
  | .bool, t => match P.underlying t with
    | some .bool => true
    | _ => false
  | .str, t => match P.underlying t with
    | some .string => true
    | _ => false
  | .slice e, t => match P.underlying t with
    | some (.slice et) => shB P e et && P.cellsOf et == e.size && decide (0 < e.size)
    | _ => false
  | .agg l, t => match P.underlying t with
    | some (.struct fs) => shBs P l fs.toList 0 && P.cellsOf t == Sh.sizes l
    | some (.array n e) => l.length == n && (shAs P l e && P.cellsOf t == Sh.sizes l)
    | _ => false
def shAs (P : Program) : List Sh → TypeId → Bool
  | [], _ => true
  | s :: r, t => P.cellsOf t == s.size && (shB P s t && shAs P r t)
def shBs (P : Program) : List Sh → List Field → Nat → Bool
  | [], [], _ => true
  | s :: r, f :: fs, o => f.offset == o && P.cellsOf f.type == s.size && shB P s f.type && shBs P r fs (o + s.size)
  | _, _, _ => false
end
mutual
def Den : Sh → List GVal → Prop
  | .int k, gs => ∃ n, gs = [.int k n] ∧ (Lit.int k n).wf = true
  | .bool, gs => ∃ b, gs = [.bool b]
  | .str, gs => ∃ s, gs = [.str s] ∧ s.length ≤ maxLen
  | .slice e, gs => ∃ xs, gs = [.slice xs .none] ∧ xs.length ≤ maxLen ∧ ∀ x ∈ xs, Den e x
  | .agg l, gs => ∃ ps, gs = ps.flatten ∧ Dens l ps
def Dens : List Sh → List (List GVal) → Prop
  | [], ps => ps = []
  | s :: r, ps => ∃ p q, ps = p :: q ∧ Den s p ∧ Dens r q
end

def CellsOK (w : World) (cs : List Value) (gs : List GVal) : Prop :=
  cs.length = gs.length ∧ (∀ c ∈ cs, c.oneCell' = true) ∧ ∀ (j : Nat) c g, cs[j]? = some c → gs[j]? = some g → VR (Env.all w) c g
theorem CellsOK.one {w : World} {v : Value} {g : GVal} (hv : v.oneCell' = true) (h : VR (Env.all w) v g) : CellsOK w [v] [g] :=
  ⟨rfl, by simpa using hv, fun j c g' h1 h2 => by
    cases j with
    | zero => simp at h1 h2; subst h1; subst h2; exact h
    | succ j => simp at h1⟩
theorem CellsOK.append {w : World} {a b : List Value} {x y : List GVal} (h : CellsOK w a x) (k : CellsOK w b y) : CellsOK w (a ++ b) (x ++ y) := by
  refine ⟨by simp [h.1, k.1], fun c hc => ?_, fun j c g h1 h2 => ?_⟩
  · rcases List.mem_append.1 hc with hc | hc
    · exact h.2.1 c hc
    · exact k.2.1 c hc
  · by_cases hj : j < a.length
    · rw [List.getElem?_append_left hj] at h1
      rw [List.getElem?_append_left (by rw [← h.1]; exact hj)] at h2
      exact h.2.2 j c g h1 h2
    · rw [List.getElem?_append_right (by omega)] at h1
      rw [List.getElem?_append_right (by rw [← h.1]; omega), ← h.1] at h2
      exact k.2.2 _ c g h1 h2

section
variable {H : Type} {enc : TypeId × Value → H} {P : Program} {w : World} {spare : Nat → Bool} {held : Bool}

theorem cells_at {base : Nat} {a : Addr} {n : Nat} {cs : List Value} (h : w.cells? base a n = some cs) : cs.length = n ∧ ∀ j, j < n → w.cell? (a.add j) = cs[j]? := by
  unfold World.cells? at h
  split at h
  · have hl := mapM_some_length h
    refine ⟨by simpa using hl, fun j hj => ?_⟩
    exact mapM_some_get h j j (by simp [hj])
  · cases h

theorem flat_len {α : Type} {sz : Nat} : ∀ {xs : List (List α)}, (∀ x ∈ xs, x.length = sz) → xs.flatten.length = xs.length * sz
  | [], _ => by simp
  | x :: xs, h => by
    rw [List.flatten_cons, List.length_append, h x (by simp), flat_len fun y hy => h y (by simp [hy])]
    simp [Nat.succ_mul, Nat.add_comm]

mutual
theorem rd : ∀ (S : Sh) (n : Nat) (t : TypeId) (cs : List Value) (x : DataW H × List MemPlace), shB P S t = true → DataW.trod enc P w 0 spare held n t cs = some x → ∃ gs, CellsOK w cs gs ∧ Den S gs ∧ cs.length = S.size
  | .int k, n, t, cs, x, hs, h => by
    unfold shB at hs
    split at hs
    · rename_i k' hu
      have hs : k = k' := by simpa using hs
      subst hs
      obtain ⟨m, rfl, _, hwf⟩ := DataW.trod_int hu h
      exact ⟨[.int k m], .one rfl (.int _ _), ⟨m, rfl, hwf⟩, rfl⟩
    · cases hs
  | .bool, n, t, cs, x, hs, h => by
    unfold shB at hs
    split at hs
    · rename_i hu
      obtain ⟨b, rfl, _⟩ := DataW.trod_bool hu h
      exact ⟨[.bool b], .one rfl (.bool _), ⟨b, rfl⟩, rfl⟩
    · cases hs
  | .str, n, t, cs, x, hs, h => by
    unfold shB at hs
    split at hs
    · rename_i hu
      cases n with
      | zero => simp [DataW.trod] at h
      | succ n =>
        unfold DataW.trod at h
        rw [hu] at h
        match cs, h with
        | [.string b], h =>
          simp only at h
          split at h
          · rename_i hl
            refine ⟨[.str b.data.toList], .one rfl ?_, ⟨_, rfl, ?_⟩, rfl⟩
            · exact VR.str (E := Env.all w) b.data.toList
            · simpa using hl
          · cases h
    · cases hs
  | .slice e, n, t, cs, x, hs, h => by
    unfold shB at hs
    split at hs
    · rename_i et hu
      simp only [Bool.and_eq_true, beq_iff_eq] at hs
      obtain ⟨⟨hs, hsz⟩, hpos⟩ := hs
      have hpos : 0 < e.size := by simpa using hpos
      rcases DataW.trod_slice hu h with ⟨rfl, _⟩ | ⟨a, len, cap, elems, rest, m, rfl, rfl, _, _, hlc, hcm, hel, helem, _, _⟩
      · exact ⟨[.slice [] .none], .one rfl (.slice none 0 0 [] .none 0 (fun _ => .bool true) rfl (Nat.le_refl _) (by simp) (fun hx => absurd rfl hx) (by simp) trivial), ⟨[], rfl, by simp, by simp⟩, rfl⟩
      · have each : ∀ i : Nat, ∃ cs gs, i < len → (w.cells? 0 (a.add (i * P.cellsOf et)) (P.cellsOf et)) = some cs ∧ CellsOK w cs gs ∧ Den e gs ∧ cs.length = e.size := by
          intro i
          by_cases hi : i < len
          · have := helem i hi
            rw [← hel] at hi
            rw [List.getElem?_eq_getElem hi, Option.bind_eq_some_iff] at this
            obtain ⟨cs, h1, h2⟩ := this
            obtain ⟨gs, h3, h4, h5⟩ := rd e m et cs _ hs h2
            exact ⟨cs, gs, fun _ => ⟨h1, h3, h4, h5⟩⟩
          · exact ⟨[], [], fun h => absurd h hi⟩
        obtain ⟨C, hC⟩ := Classical.axiomOfChoice each
        obtain ⟨G, hCG⟩ := Classical.axiomOfChoice hC
        refine ⟨[.slice ((List.range len).map G) .none], .one rfl ?_, ⟨_, rfl, by simp; omega, fun x hx => ?_⟩, rfl⟩
        · have hG : ∀ i, i < len → (G i).length = e.size := fun i hi => by rw [← (hCG i hi).2.1.1]; exact (hCG i hi).2.2.2
          have cell : ∀ i, i < len → ∀ j, j < e.size → w.cell? ((a.add (i * e.size)).add j) = (C i)[j]? := fun i hi j hj => by
            have := cells_at (hCG i hi).1
            rw [hsz] at this
            exact this.2 j hj
          have dm : ∀ k, k < len * e.size → k / e.size < len ∧ k % e.size < e.size ∧ k / e.size * e.size + k % e.size = k := fun k hk =>
            ⟨(Nat.div_lt_iff_lt_mul hpos).2 hk, Nat.mod_lt _ hpos, by rw [Nat.mul_comm]; exact Nat.div_add_mod k e.size⟩
          have hszs : ∀ x ∈ (List.range len).map G, x.length = e.size := fun x hx => by
            obtain ⟨i, hi, rfl⟩ := List.mem_map.1 hx
            exact hG i (by simpa using hi)
          refine .slice (some a) len cap _ .none e.size (fun k => ((C (k / e.size))[k % e.size]?).getD (.bool true)) (by simp) hlc hszs (fun hx => ?_) (fun k g hk => ?_) trivial
          · have hlen : 0 < len := by
              rcases Nat.eq_zero_or_pos len with h0 | h0
              · subst h0; simp at hx
              · exact h0
            have in_ : ∀ i, i < len → ∀ j, j < e.size → ∃ v, (C i)[j]? = some v ∧ v.oneCell' = true := fun i hi j hj => by
              have hl : j < (C i).length := by rw [(hCG i hi).2.2.2]; exact hj
              exact ⟨_, List.getElem?_eq_getElem hl, (hCG i hi).2.1.2.1 _ (List.getElem_mem hl)⟩
            obtain ⟨b, off, spot⟩ := a
            have hspot : spot = none := by
              obtain ⟨v, hv, _⟩ := in_ 0 hlen 0 hpos
              have := cell 0 hlen 0 hpos
              rw [hv] at this
              simpa [Addr.add] using World.cell?_spot this
            subst hspot
            refine ⟨b, off, rfl, fun k hk => ?_⟩
            obtain ⟨d1, d2, d3⟩ := dm k hk
            obtain ⟨v, hv, hv2⟩ := in_ _ d1 _ d2
            have := cell _ d1 _ d2
            rw [hv] at this
            rw [hv]
            refine Env.all_at ?_ hv2
            rw [add_at, add_at, Nat.add_assoc, d3] at this
            exact this
          · have hk' : k < len * e.size := by
              have := (List.getElem?_eq_some_iff.1 hk).1
              rw [flat_len hszs] at this
              simpa using this
            obtain ⟨d1, d2, d3⟩ := dm k hk'
            have hx : ((List.range len).map G)[k / e.size]? = some (G (k / e.size)) := by simp [d1]
            have e1 := flatten_at _ hszs (k / e.size) (k % e.size) _ hx d2
            rw [d3, hk] at e1
            have hl : k % e.size < (C (k / e.size)).length := by rw [(hCG _ d1).2.2.2]; exact d2
            rw [List.getElem?_eq_getElem hl]
            exact (hCG _ d1).2.1.2.2 _ _ _ (List.getElem?_eq_getElem hl) e1.symm
        · obtain ⟨i, hi, rfl⟩ := List.mem_map.1 hx
          exact (hCG i (by simpa using hi)).2.2.1
    · cases hs
  | .agg l, n, t, cs, x, hs, h => by
    unfold shB at hs
    split at hs
    · rename_i fs hu
      simp only [Bool.and_eq_true, beq_iff_eq] at hs
      obtain ⟨hs, hsz⟩ := hs
      obtain ⟨xs, m, rfl, rfl, hcl, hxl, hf⟩ := DataW.trod_struct hu h
      obtain ⟨ps, h1, h2⟩ := rds l m fs.toList cs 0 hs (by simpa [hsz] using hcl) (fun f hf' => by
        obtain ⟨i, hi⟩ := List.getElem?_of_mem hf'
        have := hf i f (by simpa using hi)
        have hlt : i < xs.length := by rw [hxl]; simpa using (List.getElem?_eq_some_iff.1 hi).1
        rw [List.getElem?_eq_getElem hlt] at this
        exact ⟨_, this⟩)
      exact ⟨ps.flatten, by simpa using h1, ⟨ps, rfl, h2⟩, by rw [hcl, hsz]; rfl⟩
    · rename_i k et hu
      simp only [Bool.and_eq_true, beq_iff_eq] at hs
      obtain ⟨hlk, hs, hsz⟩ := hs
      obtain ⟨xs, m, rfl, rfl, hcl, hxl, hf⟩ := DataW.trod_array hu h
      obtain ⟨ps, h1, h2⟩ := rda l m et cs hs (by simpa [hsz] using hcl) (fun i hi => by
        have := hf i (by omega)
        rw [List.getElem?_eq_getElem (by omega)] at this
        exact ⟨_, this⟩)
      exact ⟨ps.flatten, h1, ⟨ps, rfl, h2⟩, by rw [hcl, hsz]; rfl⟩
    · cases hs
theorem rda : ∀ (l : List Sh) (n : Nat) (et : TypeId) (cs : List Value), shAs P l et = true → cs.length = Sh.sizes l →
    (∀ i, i < l.length → ∃ x, DataW.trod enc P w 0 spare held n et ((cs.drop (i * P.cellsOf et)).take (P.cellsOf et)) = some x) → ∃ ps, CellsOK w cs ps.flatten ∧ Dens l ps
  | [], n, et, cs, hs, hl, h => by
    have : cs = [] := List.length_eq_zero_iff.1 hl
    subst this
    exact ⟨[], ⟨rfl, by simp, fun j c g h1 => by simp at h1⟩, rfl⟩
  | s :: r, n, et, cs, hs, hl, h => by
    unfold shAs at hs
    simp only [Bool.and_eq_true, beq_iff_eq] at hs
    obtain ⟨h1, h2, h3⟩ := hs
    obtain ⟨x, hx⟩ := h 0 (by simp)
    rw [Nat.zero_mul, List.drop_zero] at hx
    obtain ⟨gs, q1, q2, q3⟩ := rd s n et _ _ h2 hx
    simp only [Sh.sizes] at hl
    obtain ⟨ps, k1, k2⟩ := rda r n et (cs.drop (P.cellsOf et)) h3 (by rw [List.length_drop, hl, h1]; omega) (fun i hi => by
      obtain ⟨y, hy⟩ := h (i + 1) (by simpa using hi)
      rw [List.drop_drop]
      have e : P.cellsOf et + i * P.cellsOf et = (i + 1) * P.cellsOf et := by rw [Nat.succ_mul, Nat.add_comm]
      rw [e]; exact ⟨y, hy⟩)
    refine ⟨gs :: ps, ?_, ⟨gs, ps, rfl, q2, k2⟩⟩
    rw [List.flatten_cons]
    have := q1.append k1
    rwa [List.take_append_drop] at this
theorem rds : ∀ (l : List Sh) (n : Nat) (fs : List Field) (cs : List Value) (o : Nat), shBs P l fs o = true → cs.length = o + Sh.sizes l →
    (∀ f ∈ fs, ∃ x, DataW.trod enc P w 0 spare held n f.type ((cs.drop f.offset).take (P.cellsOf f.type)) = some x) → ∃ ps, CellsOK w (cs.drop o) ps.flatten ∧ Dens l ps
  | [], n, fs, cs, o, hs, hl, h => by
    refine ⟨[], ?_, rfl⟩
    rw [List.drop_eq_nil_of_le (by rw [hl]; simp [Sh.sizes])]
    exact ⟨rfl, by simp, fun j c g h1 => by simp at h1⟩
  | s :: r, n, fs, cs, o, hs, hl, h => by
    match fs, hs, h with
    | f :: fs, hs, h =>
      unfold shBs at hs
      simp only [Bool.and_eq_true, beq_iff_eq] at hs
      obtain ⟨⟨⟨h1, h2⟩, h3⟩, h4⟩ := hs
      obtain ⟨x, hx⟩ := h f (by simp)
      obtain ⟨gs, q1, q2, q3⟩ := rd s n f.type _ _ h3 hx
      simp only [Sh.sizes] at hl
      obtain ⟨ps, k1, k2⟩ := rds r n fs cs (o + s.size) h4 (by rw [hl]; omega) (fun f' hf' => h f' (by simp [hf']))
      refine ⟨gs :: ps, ?_, ⟨gs, ps, rfl, q2, k2⟩⟩
      rw [List.flatten_cons]
      have e : cs.drop o = (cs.drop f.offset).take (P.cellsOf f.type) ++ cs.drop (o + s.size) := by
        rw [h1, h2, ← List.drop_drop]; exact (List.take_append_drop _ _).symm
      rw [e]
      exact q1.append k1
    | [], hs, h => simp [shBs] at hs
end

def Sh.val : Sh → List GVal → GVal
  | .agg _, gs => .agg gs
  | _, gs => gs.headD .any

theorem arg_read {S : Sh} {t : TypeId} {r : Reach} {base : Nat} {v : Value} {d : DataW H} {ps : List MemPlace} (hs : shB P S t = true) (hval : Value.okWide P w r base t v) (h : DataW.Trod enc P w 0 spare held t v d ps) :
    ∃ gs, Den S gs ∧ VR (Env.all w) v (S.val gs) := by
  obtain ⟨n, h⟩ := h
  obtain ⟨gs, h1, h2, h3⟩ := rd S n t _ _ hs h
  refine ⟨gs, h2, ?_⟩
  have single : ∀ x : Value, v = x → x.cells.toList = [x] → (∃ g, gs = [g]) → S.val gs = gs.headD .any → VR (Env.all w) v (S.val gs) := by
    intro x hx hc ⟨g, hg⟩ hv
    subst hx; subst hg
    rw [hv]
    rw [hc] at h1
    exact h1.2.2 0 _ _ rfl rfl
  cases S with
  | int k =>
    unfold shB at hs
    split at hs
    · rename_i k' hu
      obtain ⟨n, rfl⟩ := okWide_int hu hval
      obtain ⟨m, e, _⟩ := h2
      exact single _ rfl rfl ⟨_, e⟩ rfl
    · cases hs
  | bool =>
    unfold shB at hs
    split at hs
    · rename_i hu
      obtain ⟨n, rfl⟩ := okWide_bool hu hval
      obtain ⟨m, e⟩ := h2
      exact single _ rfl rfl ⟨_, e⟩ rfl
    · cases hs
  | str =>
    unfold shB at hs
    split at hs
    · rename_i hu
      obtain ⟨n, rfl⟩ := okWide_string hu hval
      obtain ⟨m, e, _⟩ := h2
      exact single _ rfl rfl ⟨_, e⟩ rfl
    · cases hs
  | slice e =>
    unfold shB at hs
    split at hs
    · rename_i et hu
      obtain ⟨a, len, cap, rfl⟩ := okWide_slice hu hval
      obtain ⟨m, e, _⟩ := h2
      exact single _ rfl rfl ⟨_, e⟩ rfl
    · cases hs
  | agg l =>
    unfold shB at hs
    split at hs
    · rename_i fs hu
      obtain ⟨cs, rfl, _⟩ := okWide_struct hu hval
      refine .agg cs gs (by have := h1.1; simpa [Value.cells] using this) (fun j g hj => ?_)
      have hl : j < cs.size := by
        have := (List.getElem?_eq_some_iff.1 hj).1
        rw [← h1.1] at this; simpa [Value.cells] using this
      have := h1.2.2 j cs[j] g (by simp [Value.cells, hl]) hj
      simpa [Array.getD, hl] using this
    · rename_i n e hu
      obtain ⟨cs, rfl⟩ : ∃ cs : Array Value, v = .agg cs := by
        simp only [Value.okWide, hu] at hval
        obtain ⟨cs, h1, _⟩ := hval
        exact ⟨cs, h1⟩
      refine .agg cs gs (by have := h1.1; simpa [Value.cells] using this) (fun j g hj => ?_)
      have hl : j < cs.size := by
        have := (List.getElem?_eq_some_iff.1 hj).1
        rw [← h1.1] at this; simpa [Value.cells] using this
      have := h1.2.2 j cs[j] g (by simp [Value.cells, hl]) hj
      simpa [Array.getD, hl] using this
    · cases hs

theorem GPure.lawAt {P : Program} {f : FuncId} {args : Array Value} {gs : List GVal} {w : World} (h : GPure P f gs (.bool true)) (ha : ArgsR (Env.all w) args gs) (hg : GlobsIn w := by exact Gv.globsIn_none rfl) :
    Calls P f args w fun e w' => e = .returned (.bool true) ∧ Old w w' := by
  refine (h.2 (Env.all w) w args (HSim.all w hg) ha).mono ?_
  rintro e w' ⟨v, E', O', g, rfl, h1, h2, h3, rfl, rfl⟩
  cases h3
  exact ⟨rfl, h2.old⟩
theorem ArgsR.nil {E : Env} : ArgsR E #[] [] := ⟨rfl, fun i g h => by simp at h⟩
theorem ArgsR.one {E : Env} {v : Value} {g : GVal} (h : VR E v g) : ArgsR E #[v] [g] := ⟨rfl, fun i g' hg => by
  cases i with
  | zero => simp at hg; subst hg; exact h
  | succ i => simp at hg⟩

theorem Old.trod {W W' : World} {t : TypeId} {v : Value} {d : DataW H} {ps : List MemPlace} (hl : laidOutB P = true) (hr : P.readableRec t = true) (hrow : t < P.types.size) (hb : Old W W') {sp : Nat → Bool}
    (h : DataW.Trod enc P W 0 (fun _ => true) true t v d ps) (hlt : ∀ x ∈ ps, x.block < W.heap.size) (hs : ∀ x ∈ ps, sp x.block = true) : DataW.Trod enc P W' 0 sp true t v d ps :=
  WideElems.Trod_stays hl hr hrow h (fun x hx => by
    have hp := hlt x hx
    cases x with
    | cell b o => exact World.cell?_of_block (w := W) (hb.block b hp)
    | map b => exact hb.block b hp) hs
end
end Gv
/- What some shapes read as. -/
set_option linter.unusedVariables false
namespace Gv
open Go
theorem wf_i64 {n : Int} (h : (Lit.int .i64 n).wf = true) : -9223372036854775808 ≤ n ∧ n ≤ 9223372036854775807 := by
  have e1 : IntKind.i64.min = -9223372036854775808 := by decide
  have e2 : IntKind.i64.max = 9223372036854775807 := by decide
  simp [Lit.wf] at h; omega
theorem den_slice {α : Type} {e : Sh} (enc : α → List GVal) (ok : α → Prop) (he : ∀ {x}, Den e x → ∃ a, x = enc a ∧ ok a) {gs : List GVal} (h : Den (.slice e) gs) : ∃ l : List α, gs = [.slice (l.map enc) .none] ∧ l.length ≤ maxLen ∧ ∀ a ∈ l, ok a := by
  obtain ⟨xs, rfl, hl, hx⟩ := h
  have : ∀ xs : List (List GVal), (∀ x ∈ xs, Den e x) → ∃ l : List α, xs = l.map enc ∧ ∀ a ∈ l, ok a := by
    intro xs
    induction xs with
    | nil => exact fun _ => ⟨[], rfl, by simp⟩
    | cons a r ih =>
      intro h
      obtain ⟨l, rfl, hl⟩ := ih fun x hx => h x (by simp [hx])
      obtain ⟨n, rfl, hn⟩ := he (h a (by simp))
      exact ⟨n :: l, rfl, by simpa using ⟨hn, hl⟩⟩
  obtain ⟨l, rfl, h2⟩ := this xs hx
  exact ⟨l, rfl, by simpa using hl, h2⟩
theorem den_i64s {gs : List GVal} (h : Den (.slice (.int .i64)) gs) : ∃ l : List Int, gs = [.slice (ints l) .none] ∧ l.length ≤ 9223372036854775807 ∧ ∀ i, -9223372036854775808 ≤ l.getD i 0 ∧ l.getD i 0 ≤ 9223372036854775807 := by
  obtain ⟨l, rfl, h1, h2⟩ := den_slice (fun n : Int => [.int .i64 n]) (fun n => (Lit.int .i64 n).wf = true) (fun {x} (h : Den (.int .i64) x) => h) h
  refine ⟨l, rfl, Nat.le_trans h1 (by decide), fun i => ?_⟩
  by_cases hi : i < l.length
  · rw [List.getD_eq_getElem?_getD, List.getElem?_eq_getElem hi]; exact wf_i64 (h2 _ (List.getElem_mem hi))
  · rw [List.getD_eq_getElem?_getD, List.getElem?_eq_none (by omega)]; simp
end Gv
