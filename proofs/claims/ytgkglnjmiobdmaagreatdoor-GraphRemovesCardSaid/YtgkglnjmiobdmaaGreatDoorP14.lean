/- graph.Descendants: its two loops. -/
import Derived.Test.YtgkglnjmiobdmaaGreatDoorP13
import Derived.Test.YtgkglnjmiobdmaaGreatDoorP11
import Derived.Test.YtgkglnjmiobdmaaGreatDoorP9
import Derived.Test.YtgkglnjmiobdmaaGreatDoorP10
import Derived.Test.YtgkglnjmiobdmaaGreatDoorP8
import Derived.Test.YtgkglnjmiobdmaaGreatDoorP6
import Derived.Test.YtgkglnjmiobdmaaGreatDoorP5
set_option linter.unusedVariables false
set_option linter.unusedSimpArgs false
set_option maxRecDepth 20000
set_option maxHeartbeats 4000000
namespace Gv.Tryz
open Go Gv Go.Proofs
def Kb (N : Nat) (ch : GM) : Prop := ∀ q ∈ ch, q.2.length ≤ N
theorem look_memG : ∀ {m : GM} {h : Hs} {l : List Hs}, look m h = some l → (h, l) ∈ m
  | [], h, l, e => by cases e
  | p :: r, h, l, e => by
    rw [look] at e
    by_cases hp : h = p.1
    · rw [if_pos hp] at e; cases e; rw [hp]; simp
    · rw [if_neg hp] at e; exact List.mem_cons_of_mem _ (look_memG e)
theorem mem_mset {m : GM} {h : Hs} {v : List Hs} {q : Hs × List Hs} (hq : q ∈ mset m h v) : q ∈ m ∨ q = (h, v) := by
  induction m with
  | nil => rw [mset] at hq; exact .inr (by simpa using hq)
  | cons p r ih =>
    rw [mset] at hq
    split at hq
    · rcases List.mem_cons.1 hq with e | e
      · exact .inr e
      · exact .inl (List.mem_cons_of_mem _ e)
    · rcases List.mem_cons.1 hq with e | e
      · exact .inl (by rw [e]; simp)
      · rcases ih e with e | e
        · exact .inl (List.mem_cons_of_mem _ e)
        · exact .inr e
theorem Kb.put {N : Nat} {ch : GM} (h : Kb N ch) (p x : Hs) : Kb (N + 1) (kidPut ch p x) := by
  intro q hq
  rcases mem_mset hq with e | e
  · have := h q e; omega
  · rw [e]
    show ((look ch p).getD [] ++ [x]).length ≤ N + 1
    rw [List.length_append, List.length_singleton]
    cases hl : look ch p with
    | none => simp
    | some l => have := h _ (look_memG hl); simp at this ⊢; omega
theorem Kb.row {N : Nat} {ch : GM} (h : Kb N ch) (x : Hs) : ∀ ps : List Hs, Kb (N + ps.length) (kidRow ch x ps) := by
  intro ps
  induction ps generalizing N ch with
  | nil => exact h
  | cons p r ih =>
    have := ih (h.put p x)
    rw [List.length_cons, show N + (r.length + 1) = N + 1 + r.length by omega]
    exact this
theorem Kb.foldl : ∀ (pre ch : GM) (N : Nat), Kb N ch → (∀ q ∈ pre, q.2.length ≤ 4) → Kb (N + 4 * pre.length) (pre.foldl (fun c q => kidRow c q.1 q.2) ch)
  | [], ch, N, h, _ => h
  | q :: r, ch, N, h, hq => by
    have h1 := h.row q.1 q.2
    have h2 := hq q (by simp)
    have := Kb.foldl r _ (N + 4) (fun x hx => by have := h1 x hx; omega) (fun y hy => hq y (by simp [hy]))
    rw [List.length_cons, show N + 4 * (r.length + 1) = N + 4 + 4 * r.length by omega]
    exact this
theorem Kb.all (pre : GM) (h : ∀ q ∈ pre, q.2.length ≤ 4) : Kb (4 * pre.length) (kidAll pre) := by
  have := Kb.foldl pre [] 0 (fun q hq => by cases hq) h
  rw [Nat.zero_add] at this
  exact this
abbrev l8a : List SOp := [(.mk (some 27) (.load 64 (.tmp 5)) none), (.mk (some 28) (.load 40 (.tmp 9)) none), (.mk (some 30) (.load 40 (.tmp 6)) none), (.mk (some 31) (.buildSlice 31 1 #[(0, (.tmp 30))]) none)]
abbrev l8b : List SOp := [(.mk (some 29) (.extract (.tmp 32) 0) none), (.mk (some 33) (.call (.mk (.builtin (.append)) #[(.tmp 29), (.tmp 31)] #[31, 31])) none), (.mk (some 34) (.extract (.tmp 32) 1) none)]
structure R8 (o1 o2 o3 o4 o5 o6 o7 o8 o9 : Oper) : Prop where
  a4 : [o1, o2, o3, o4].map (fun o => (⟨o.dst, o.op, none⟩ : SOp)) = l8a
  ga : [o1, o2, o3, o4].all (fun o => o.guard.isNone) = true
  h5 : o5.op = .mapEntry 64 (.tmp 27) (.tmp 28) ∧ o5.guard = none ∧ o5.dst = some 32
  b3 : [o6, o7, o8].map (fun o => (⟨o.dst, o.op, none⟩ : SOp)) = l8b
  gb : [o6, o7, o8].all (fun o => o.guard.isNone) = true
  h9 : o9.op = .entryStore 64 (.tmp 27) (.tmp 34) (.tmp 33) ∧ o9.guard = none ∧ o9.dst = none
abbrev C0 : Cfg := ⟨[], []⟩
end Gv.Tryz
/- graph.Descendants: its outer loop. -/
set_option linter.unusedVariables false
set_option linter.unusedSimpArgs false
set_option maxRecDepth 20000
set_option maxHeartbeats 4000000
namespace Gv.Tryz
open Go Gv Go.Proofs
theorem inBlock_self {id : Nat} {Q : Exit → Act → World → Prop} {a : Act} {w : World} (h : Q .normal a w) : Exit.inBlock id Q (.exit id) a w := by simp only [Exit.inBlock, if_true]; exact h
end Gv.Tryz
/- graph.Descendants: the contract. -/
set_option linter.unusedVariables false
set_option linter.unusedSimpArgs false
set_option maxRecDepth 20000
set_option maxHeartbeats 4000000
namespace Gv.Tryz
open Go Gv Go.Proofs
def kidsM (m : GM) (x : Hs) : List Hs := (m.filter fun q => decide (x ∈ q.2)).map (·.1)
theorem kidsM_mem {m : GM} {x y : Hs} : y ∈ kidsM m x ↔ ∃ q ∈ m, x ∈ q.2 ∧ y = q.1 := by
  unfold kidsM
  rw [List.mem_map]
  constructor
  · rintro ⟨q, hq, rfl⟩
    obtain ⟨h1, h2⟩ := List.mem_filter.1 hq
    exact ⟨q, h1, of_decide_eq_true h2, rfl⟩
  · rintro ⟨q, h1, h2, rfl⟩
    exact ⟨q, List.mem_filter.2 ⟨h1, decide_eq_true h2⟩, rfl⟩
noncomputable def desL (m : GM) (l : List Hs) : List Hs := by
  classical exact sortR ((l ++ hashesM m).filter fun x => decide (Reach (kidsM m) (inM m l) x))
theorem desL_ss (m : GM) (l : List Hs) : SS (desL m l) := sortR_ss _
theorem kids_in {m : GM} {x y : Hs} (h : y ∈ kidsM m x) : y ∈ hashesM m := by
  obtain ⟨q, h1, _, rfl⟩ := kidsM_mem.1 h
  exact List.mem_append_left _ (List.mem_map_of_mem h1)
theorem desL_mem (m : GM) (l : List Hs) (x : Hs) : x ∈ desL m l ↔ Reach (kidsM m) (inM m l) x := by
  classical
  unfold desL
  rw [sortR_mem, List.mem_filter, decide_eq_true_eq]
  refine ⟨fun h => h.2, fun h => ⟨?_, h⟩⟩
  cases h with
  | base x hx => exact List.mem_append_left _ (List.mem_filter.1 hx).1
  | step x y _ hy => exact List.mem_append_right _ (kids_in hy)
end Gv.Tryz
/- Contracts: the reference's Descendants. -/
set_option linter.unusedVariables false
set_option linter.unusedSimpArgs false
set_option maxRecDepth 20000
set_option maxHeartbeats 4000000
namespace Gv.Tryz
open Go Gv Go.Proofs
theorem cnt_set : ∀ (B : List Bool) (i : Nat), i < B.length → B.getD i false = false → (B.set i true).count true = B.count true + 1
  | [], i, h, _ => by simp at h
  | b :: r, 0, _, e => by
    simp at e; subst e; simp []
  | b :: r, i + 1, h, e => by
    have := cnt_set r i (by simpa using h) (by simpa using e)
    rw [List.set_cons_succ, List.count_cons, List.count_cons, this]; omega
theorem getD_set_b (B : List Bool) (i q : Nat) (b : Bool) (h : i < B.length) : (B.set i b).getD q false = if i = q then b else B.getD q false := by
  rw [List.getD_eq_getElem?_getD, List.getElem?_set]
  by_cases e : i = q
  · rw [if_pos e, if_pos e, if_pos h]; rfl
  · rw [if_neg e, if_neg e, List.getD_eq_getElem?_getD]
def CloAt (L : GM) (B : List Bool) (i : Nat) : Prop := B.getD i false = true ∨ ∀ y ∈ (L.getD i default).2, ∀ j, findO L y = some j → B.getD j false = false
theorem des_end {L : GM} (hL : SSC L) (hg : Good L) {l : List Hs} {B : List Bool} (hB : B.length = L.length) (hs : ∀ q, q < L.length → B.getD q false = true → Reach (kidsM L) (inM L l) (hdL L q)) (hb : ∀ q, q < L.length → hdL L q ∈ l → B.getD q false = true) (hc : ∀ i, i < L.length → CloAt L B i) : someL L B = desL L l := by
  have hf := fun x => find_look L x
  have hfi : ∀ x, (look L x).isSome = true → ∃ j, findO L x = some j ∧ j < L.length ∧ hdL L j = x := fun x hx => by
    cases e : findO L x with
    | none => rw [(hf x).2 e] at hx; cases hx
    | some j => exact ⟨j, rfl, ((hf x).1 j e).1, ((hf x).1 j e).2.2⟩
  have inj : ∀ a b, a < L.length → b < L.length → hdL L a = hdL L b → a = b := fun a b ha hb e => by
    rcases Nat.lt_trichotomy a b with q | q | q
    · have := ssc_lt hL q (by omega)
      rw [show (L.getD a default).1 = (L.getD b default).1 from e] at this
      exact absurd this (LT.irrefl _)
    · exact q
    · have := ssc_lt hL q (by omega)
      rw [show (L.getD b default).1 = (L.getD a default).1 from e.symm] at this
      exact absurd this (LT.irrefl _)
  refine ss_eq (someL_ss L B hL) (desL_ss L l) fun x => ?_
  rw [someL_mem L B x hB, desL_mem]
  constructor
  · rintro ⟨i, h1, h2, h3⟩
    rw [← h3]; exact hs i h1 h2
  · intro hx
    have key : ∀ z, Reach (kidsM L) (inM L l) z → ∀ j, findO L z = some j → B.getD j false = true := by
      intro z hz
      induction hz with
      | base z h =>
        intro j hj
        obtain ⟨a1, a2, a3⟩ := (hf z).1 j hj
        exact hb j a1 (by rw [show hdL L j = z from a3]; exact (List.mem_filter.1 h).1)
      | step x z _ hy ih =>
        intro j hj
        obtain ⟨a1, a2, a3⟩ := (hf z).1 j hj
        obtain ⟨q, q1, q2, rfl⟩ := kidsM_mem.1 hy
        have hlq := look_of_mem (ssc_keys hL) q1
        rw [hlq] at a2
        have eq : (L.getD j default).2 = q.2 := by injection a2 with a2; exact a2.symm
        have hx1 : (look L x).isSome = true := hg.closed q.1 x (by rw [parsM_some hlq]; exact q2)
        obtain ⟨k, k1, k2, k3⟩ := hfi x hx1
        have hk := ih k k1
        rcases hc j a1 with h | h
        · exact h
        · have := h x (by rw [eq]; exact q2) k k1
          rw [hk] at this; cases this
    have hth : (look L x).isSome = true := by
      cases hx with
      | base x hx => exact (List.mem_filter.1 hx).2
      | step _ _ _ hy =>
        obtain ⟨q, h1, _, rfl⟩ := kidsM_mem.1 hy
        exact key_look (List.mem_map_of_mem h1)
    obtain ⟨j, j1, j2, j3⟩ := hfi x hth
    exact ⟨j, j2, key x hx j j1, j3⟩
theorem rDescendants (L : GM) (hL : SSC L) (hg : Good L) (l : List Hs) (t : Tag) (hll : l.length ≤ 100000) (rt : Nat) :
    GCalls Tryz.prog 25 [.ptr 0 rt 0 0, .slice (hsG l) t] (rObj rt L) (fun g O' => g = .slice (hsG (desL L l)) .none ∧ O' = rObj rt L) := by
  have hml := hg.ok.len
  have hf := fun x => find_look L x
  have hend := fun B => @des_end L hL hg l B
  refine GCalls.dropTo ?_
  refine h25.calls mixS (by simp) ?_
  simp only [gstart, s25, List.cons_append, List.nil_append, List.length_cons, List.length_nil, Nat.reduceAdd, Nat.reduceSub, List.replicate_succ, List.replicate_zero]
  simp +contextual -implicitDefEqProofs (maxSteps := 2000000) (disch := omega) only [↓lenV, ↓loadV, ↓fieldAddrV, ↓nilV, grp, GVal.ofConst, List.headD, List.take, List.drop, Nat.reduceLeDiff, implies_true, GVal.solid, vcA, ↓vcB, vcC, fbFw, e25, csG_len, ↓op_makeSlice, ↓makeSliceV]
  refine ⟨by omega, by omega, by omega, fun sb => ?_⟩
  have eI : List.replicate L.length [GVal.bool false] = blr (List.replicate L.length false) := by simp [blr]
  rw [eI]
  obtain ⟨n, hn⟩ : ∃ n, L.length = n := ⟨_, rfl⟩
  rw [hn] at hend
  have hfi : ∀ x, (look L x).isSome = true → ∃ j, findO L x = some j ∧ j < n ∧ hdL L j = x := fun x hx => by
    cases e : findO L x with
    | none => rw [(hf x).2 e] at hx; cases hx
    | some j => exact ⟨j, rfl, by rw [← hn]; exact ((hf x).1 j e).1, ((hf x).1 j e).2.2⟩
  have hpk : ∀ k, k < n → L.getD k default ∈ L := fun k hk => by
    rw [List.getD_eq_getElem?_getD, List.getElem?_eq_getElem (by omega)]
    exact List.getElem_mem (by omega)
  have cF := fun x (X : List GObj) => GCalls.keep1' (rFind L hL (by omega) x rt) (O := rObj rt L ++ X) 0 rfl rfl rfl rfl
  have cI := fun x => hIn l t x (by omega)
  refine vcSLoop_by (ι := { p : Nat × List Bool // p.1 ≤ n ∧ p.2.length = n ∧ ∀ q, q < n → (p.2.getD q false = true ↔ q < p.1 ∧ hdL L q ∈ l) }) (fun p => ⟨[.ptr 0 rt 0 0, .slice (hsG l) t, .any, .any, .any, .own 1 sb 0 n, .int .i64 (p.1.1 : Nat)] ++ List.replicate 83 .any, rObj rt L ++ [.row sb 1 (blr p.1.2)]⟩) (fun p => n - p.1.1) ?_ ?_
  · exact Into.first ⟨(0, List.replicate n false), Nat.zero_le _, by simp, fun q hq => by rw [List.getD_eq_getElem?_getD, List.getElem?_replicate, if_pos hq]; simp⟩ ⟨[], by simp [hn]⟩ (by simp [WL, leG_self, leG_any, hn])
  · rintro ⟨⟨i, B⟩, hi, hB, hBq⟩
    change i ≤ n at hi
    have hB : B.length = n := hB
    have hBq : ∀ q, q < n → (B.getD q false = true ↔ q < i ∧ hdL L q ∈ l) := hBq
    by_cases h : i < n
    · have d0 : ((i : Int) < (n : Int)) = True := eq_true (by omega)
      have eC := csG_at L i (by omega)
      obtain ⟨xh, ps, hx⟩ : ∃ xh xp, L.getD i default = (xh, xp) := ⟨_, _, rfl⟩
      have hxh : hdL L i = xh := by show (L.getD i default).1 = xh; rw [hx]
      rw [hx] at eC
      have cIx := cI xh
      simp +contextual -implicitDefEqProofs (maxSteps := 2000000) (disch := omega) only [↓lenV, binV, ↓loadV, ↓fieldAddrV, ↓indexAddrV, ↓nilV, grp, List.map, List.headD, List.take, List.drop, Nat.reduceEqDiff, Nat.reduceLeDiff, reduceCtorEq, implies_true, List.replicate, vcA, ↓vcB, vcC, fbFw, d0, eC, csG_len, comG, take32a, len33, hn]
      refine ⟨by omega, ?_⟩
      refine cIx.then ?_ (by rfl)
      have eB := blr_at B i (by omega)
      simp +contextual -implicitDefEqProofs (maxSteps := 2000000) (disch := omega) only [binV, ↓storeV, ↓indexAddrV, GVal.cells, GVal.ofConst, List.take, List.drop, Nat.reduceLeDiff, allSolid, GVal.solid, splice, vcA, ↓vcB, vcC, fbFw, blr_len, blr_set, hB, eB]
      refine ⟨by omega, by omega, h, h, ?_⟩
      refine Into.at ⟨(i + 1, B.set i (decide (xh ∈ l))), by show i + 1 ≤ n; omega, by show (B.set i (decide (xh ∈ l))).length = n; rw [List.length_set]; exact hB, fun q hq => ?_⟩ (by show n - (i + 1) < n - i; omega) ⟨[], by simp⟩ (by simp [WL, leG_self, leG_any])
      show (B.set i (decide (xh ∈ l))).getD q false = true ↔ q < i + 1 ∧ hdL L q ∈ l
      rw [getD_set_b B i q _ (by omega)]
      by_cases e : i = q
      · subst e
        rw [if_pos rfl, hxh, decide_eq_true_eq]
        exact ⟨fun w => ⟨by omega, w⟩, fun w => w.2⟩
      · rw [if_neg e, hBq q hq]
        exact ⟨fun w => ⟨by omega, w.2⟩, fun w => ⟨by omega, w.2⟩⟩
    · have d0 : ((i : Int) < (n : Int)) = False := eq_false (by omega)
      obtain rfl : n = i := by omega
      simp +contextual -implicitDefEqProofs (maxSteps := 2000000) (disch := omega) only [↓lenV, binV, ↓loadV, ↓fieldAddrV, ↓indexAddrV, ↓nilV, grp, GVal.ofConst, List.map, List.headD, List.take, List.drop, ↓reduceIte, Nat.reduceEqDiff, Nat.reduceLeDiff, reduceCtorEq, implies_true, List.replicate, vcA, ↓vcB, vcC, fbFw, d0, csG_len, hn]
      refine vcSLoop_by (ι := { p : Bool × List Bool // p.2.length = n ∧ (∀ q, q < n → p.2.getD q false = true → Reach (kidsM L) (inM L l) (hdL L q)) ∧ (∀ q, q < n → hdL L q ∈ l → p.2.getD q false = true) ∧ (p.1 = false → ∀ k, k < n → CloAt L p.2 k) }) (fun p => ⟨[.ptr 0 rt 0 0, .slice (hsG l) t, .any, .any, .any, .own 1 sb 0 n, .any, .bool p.1.1] ++ List.replicate 82 .any, rObj rt L ++ [.row sb 1 (blr p.1.2)]⟩) (fun p => (n - p.1.2.count true) + if p.1.1 = true then 1 else 0) ?_ ?_
      · refine Into.first ⟨(true, B), hB, fun q hq hb => ?_, fun q hq hm => ?_, by simp⟩ ⟨[], by simp⟩ (by simp [WL, leG_self, leG_any])
        · exact .base _ (List.mem_filter.2 ⟨((hBq q hq).1 hb).2, by
            have := hpk q hq
            rw [show hdL L q = (L.getD q default).1 from rfl, look_of_mem (ssc_keys hL) this]; rfl⟩)
        · exact (hBq q hq).2 ⟨hq, hm⟩
      · clear hBq hB h d0 hi
        rintro ⟨⟨a, B⟩, hB, hS, hBs, hC⟩
        have hB : B.length = n := hB
        have hS : ∀ q, q < n → B.getD q false = true → Reach (kidsM L) (inM L l) (hdL L q) := hS
        have hBs : ∀ q, q < n → hdL L q ∈ l → B.getD q false = true := hBs
        have hC : a = false → ∀ k, k < n → CloAt L B k := hC
        have cS := fun (B : List Bool) (hB : B.length = n) => rSome L (by omega) B (by rw [hB, hn]) rt sb
        cases a with
        | false =>
          have cSB := cS B hB
          rw [hend B hB hS hBs (hC rfl), hn] at cSB
          simp +contextual -implicitDefEqProofs (maxSteps := 2000000) (disch := omega) only [List.map, ↓reduceIte, reduceCtorEq, List.replicate, vcA, ↓vcB, vcC]
          refine cSB.mono ?_
          rintro g O' ⟨rfl, rfl⟩
          simp +contextual -implicitDefEqProofs (maxSteps := 2000000) (disch := omega) only [↓resV, resG, vcA, ↓vcB, vcC]
          exact ⟨_, rObj rt L, [.row sb 1 (blr B)], rfl, leA_refl _, rfl, rfl⟩
        | true =>
          simp +contextual -implicitDefEqProofs (maxSteps := 2000000) (disch := omega) only [GVal.ofConst, ↓reduceIte, List.replicate, vcA, ↓vcB, vcC]
          refine vcSLoop_by (ι := { p : (Nat × Bool) × List Bool // p.1.1 ≤ n ∧ p.2.length = n ∧ (∀ q, q < n → p.2.getD q false = true → Reach (kidsM L) (inM L l) (hdL L q)) ∧ (∀ q, q < n → hdL L q ∈ l → p.2.getD q false = true) ∧ ((p.1.2 = false ∧ p.2 = B ∧ ∀ k, k < p.1.1 → CloAt L B k) ∨ (p.1.2 = true ∧ B.count true < p.2.count true)) }) (fun p => ⟨[.ptr 0 rt 0 0, .slice (hsG l) t, .any, .any, .any, .own 1 sb 0 n, .any, .bool p.1.1.2, .int .i64 (p.1.1.1 : Nat)] ++ List.replicate 81 .any, rObj rt L ++ [.row sb 1 (blr p.1.2)]⟩) (fun p => n - p.1.1.1) ?_ ?_
          · exact Into.first ⟨((0, false), B), Nat.zero_le _, hB, hS, hBs, .inl ⟨rfl, rfl, fun k hk => absurd hk (Nat.not_lt_zero _)⟩⟩ ⟨[], by simp⟩ (by simp [WL, leG_self, leG_any])
          · rintro ⟨⟨⟨i, a⟩, B1⟩, hi, hB1, hS1, hBs1, hC1⟩
            change i ≤ n at hi
            have hB1 : B1.length = n := hB1
            have hS1 : ∀ q, q < n → B1.getD q false = true → Reach (kidsM L) (inM L l) (hdL L q) := hS1
            have hBs1 : ∀ q, q < n → hdL L q ∈ l → B1.getD q false = true := hBs1
            have hC1 : (a = false ∧ B1 = B ∧ ∀ k, k < i → CloAt L B k) ∨ (a = true ∧ B.count true < B1.count true) := hC1
            by_cases h : i < n
            · have d0 : ((i : Int) < (n : Int)) = True := eq_true (by omega)
              have eC := csG_at L i (by omega)
              have hmem := hpk i h
              obtain ⟨xh, ps, hx⟩ : ∃ xh xp, L.getD i default = (xh, xp) := ⟨_, _, rfl⟩
              have hxh : hdL L i = xh := by show (L.getD i default).1 = xh; rw [hx]
              rw [hx] at eC hmem
              have hlk := look_of_mem (ssc_keys hL) hmem
              have hclo : ∀ y ∈ ps, (look L y).isSome = true := fun y hy => hg.closed xh y (by rw [parsM_some hlk]; exact hy)
              have hp4 : ps.length ≤ 4 := hg.ok.row _ hmem
              simp +contextual -implicitDefEqProofs (maxSteps := 2000000) (disch := omega) only [↓lenV, binV, ↓loadV, ↓fieldAddrV, ↓nilV, grp, GVal.ofConst, List.headD, List.take, List.drop, Nat.reduceLeDiff, implies_true, List.replicate, vcA, ↓vcB, vcC, fbFw, d0, csG_len, hn]
              refine vcSLoop_by (ι := { p : (Nat × Bool) × List Bool // p.1.1 ≤ ps.length ∧ p.2.length = n ∧ (∀ q, q < n → p.2.getD q false = true → Reach (kidsM L) (inM L l) (hdL L q)) ∧ (∀ q, q < n → hdL L q ∈ l → p.2.getD q false = true) ∧ ((p.1.2 = false ∧ p.2 = B ∧ (∀ k, k < i → CloAt L B k) ∧ ∀ j, j < p.1.1 → ∀ q, findO L (ps.getD j h0) = some q → B.getD q false = false) ∨ (p.1.2 = true ∧ B.count true < p.2.count true)) }) (fun p => ⟨[.ptr 0 rt 0 0, .slice (hsG l) t, .any, .any, .any, .own 1 sb 0 n, .any, .bool p.1.1.2, .int .i64 (i : Nat), .int .i64 (p.1.1.1 : Nat)] ++ List.replicate 80 .any, rObj rt L ++ [.row sb 1 (blr p.1.2)]⟩) (fun p => ps.length - p.1.1.1) ?_ ?_
              · refine Into.first ⟨((0, a), B1), Nat.zero_le _, hB1, hS1, hBs1, ?_⟩ ⟨[], by simp⟩ (by simp [WL, leG_self, leG_any])
                rcases hC1 with ⟨q1, q2, q3⟩ | q
                · exact .inl ⟨q1, q2, q3, fun j hj => absurd hj (Nat.not_lt_zero _)⟩
                · exact .inr q
              · clear hC1 hBs1 hS1 hB1
                rintro ⟨⟨⟨j, a⟩, B1⟩, hj, hB1, hS1, hBs1, hC1⟩
                change j ≤ ps.length at hj
                have hB1 : B1.length = n := hB1
                have hS1 : ∀ q, q < n → B1.getD q false = true → Reach (kidsM L) (inM L l) (hdL L q) := hS1
                have hBs1 : ∀ q, q < n → hdL L q ∈ l → B1.getD q false = true := hBs1
                have hC1 : (a = false ∧ B1 = B ∧ (∀ k, k < i → CloAt L B k) ∧ ∀ j', j' < j → ∀ q, findO L (ps.getD j' h0) = some q → B.getD q false = false) ∨ (a = true ∧ B.count true < B1.count true) := hC1
                have eB := blr_at B1 i (by omega)
                have out : (B1.getD i false = true ∨ ps.length ≤ j) → (a = false ∧ B1 = B ∧ ∀ k, k < i + 1 → CloAt L B k) ∨ (a = true ∧ B.count true < B1.count true) := fun w => by
                  rcases hC1 with ⟨w1, rfl, w3, w4⟩ | w1
                  · refine .inl ⟨w1, rfl, fun k hk => ?_⟩
                    by_cases e : k = i
                    · subst e
                      rcases w with w | w
                      · exact .inl w
                      · refine .inr fun y hy q hq => ?_
                        rw [hx] at hy
                        obtain ⟨j', hj', rfl⟩ := List.getElem_of_mem hy
                        refine w4 j' (by have : j' < ps.length := hj'; omega) q ?_
                        rw [List.getD_eq_getElem?_getD, List.getElem?_eq_getElem hj']; exact hq
                    · exact w3 k (by omega)
                  · exact .inr w1
                by_cases h' : j < ps.length
                · have d2 : ((j : Int) < (ps.length : Int)) = True := eq_true (by omega)
                  cases eb : B1.getD i false with
                  | true =>
                    rw [eb] at eB
                    simp +contextual -implicitDefEqProofs (maxSteps := 2000000) (disch := omega) only [↓lenV, binV, ↓unV, ↓loadV, ↓fieldAddrV, ↓indexAddrV, ↓nilV, grp, GVal.ofConst, List.headD, List.take, List.drop, ↓reduceIte, Nat.reduceLeDiff, implies_true, List.replicate, vcA, ↓vcB, vcC, fbFw, d2, eC, csG_len, comG, drop32a, len33, hsG_len, hn, blr_len, hB1, eB]
                    refine ⟨by omega, by omega, by omega, by omega, h, h, ?_⟩
                    exact Into.at ⟨((i + 1, a), B1), by show i + 1 ≤ n; omega, hB1, hS1, hBs1, out (.inl eb)⟩ (by show n - (i + 1) < n - i; omega) ⟨[], by simp⟩ (by simp [WL, leG_self, leG_any])
                  | false =>
                    rw [eb] at eB
                    have eP := hsG_at ps j h'
                    have ej : norm .i64 ((j : Int) + 1) = (j : Int) + 1 := norm_i64 (by omega)
                    have hym : ps.getD j h0 ∈ ps := by
                      rw [List.getD_eq_getElem?_getD, List.getElem?_eq_getElem h']; exact List.getElem_mem h'
                    obtain ⟨y, hy⟩ : ∃ y, ps.getD j h0 = y := ⟨_, rfl⟩
                    rw [hy] at eP hym
                    obtain ⟨q, q1, q2, q3⟩ := hfi y (hclo y hym)
                    have cFy := cF y [.row sb 1 (blr B1)]
                    have ez : findZ L y = (q : Int) := by unfold findZ; rw [q1]
                    rw [ez] at cFy
                    have eQ := blr_at B1 q (by omega)
                    cases eq : B1.getD q false with
                    | true =>
                      rw [eq] at eQ
                      simp +contextual -implicitDefEqProofs (maxSteps := 2000000) (disch := omega) only [↓lenV, binV, ↓unV, ↓loadV, ↓fieldAddrV, ↓indexAddrV, ↓nilV, grp, List.map, List.headD, List.take, List.drop, Nat.reduceEqDiff, Nat.reduceLeDiff, reduceCtorEq, implies_true, List.replicate, vcA, ↓vcB, vcC, fbFw, d2, eC, eP, csG_len, comG, drop32a, len33, len32, take32, hsG_len, hn, blr_len, hB1, eB]
                      refine ⟨by omega, by omega, by omega, by omega, h, h, by omega, by omega, by omega, cFy.mono ?_⟩
                      rintro g O' ⟨rfl, rfl⟩
                      simp +contextual -implicitDefEqProofs (maxSteps := 2000000) (disch := omega) only [binV, ↓loadV, ↓storeV, ↓indexAddrV, GVal.cells, grp, GVal.ofConst, List.headD, List.take, List.drop, Nat.reduceLeDiff, implies_true, allSolid, GVal.solid, splice, vcA, ↓vcB, vcC, fbFw, blr_len, hB1, eQ, blr_set, eB, ej]
                      have hcs := cnt_set B1 i (by omega) eb
                      refine ⟨by omega, by omega, q2, q2, by omega, by omega, h, h, ?_⟩
                      refine Into.at ⟨((j + 1, true), B1.set i true), by show j + 1 ≤ ps.length; omega, by show (B1.set i true).length = n; rw [List.length_set]; exact hB1, fun k hk hb => ?_, fun k hk hm => ?_, .inr ⟨rfl, ?_⟩⟩ (by show ps.length - (j + 1) < ps.length - j; omega) ⟨[], by simp⟩ (by simp [WL, leG_self, leG_any])
                      · have hb : (B1.set i true).getD k false = true := hb
                        rw [getD_set_b B1 i k _ (by omega)] at hb
                        by_cases e : i = k
                        · subst e
                          rw [hxh]
                          refine .step y xh ?_ (kidsM_mem.2 ⟨(xh, ps), hmem, hym, rfl⟩)
                          have := hS1 q q2 eq
                          rw [q3] at this; exact this
                        · rw [if_neg e] at hb
                          exact hS1 k hk hb
                      · show (B1.set i true).getD k false = true
                        rw [getD_set_b B1 i k _ (by omega)]
                        by_cases e : i = k
                        · rw [if_pos e]
                        · rw [if_neg e]; exact hBs1 k hk hm
                      · show B.count true < (B1.set i true).count true
                        rw [hcs]
                        rcases hC1 with ⟨_, rfl, _⟩ | ⟨_, w⟩
                        · omega
                        · omega
                    | false =>
                      rw [eq] at eQ
                      simp +contextual -implicitDefEqProofs (maxSteps := 2000000) (disch := omega) only [↓lenV, binV, ↓unV, ↓loadV, ↓fieldAddrV, ↓indexAddrV, ↓nilV, grp, List.map, List.headD, List.take, List.drop, Nat.reduceEqDiff, Nat.reduceLeDiff, reduceCtorEq, implies_true, List.replicate, vcA, ↓vcB, vcC, fbFw, d2, eC, eP, csG_len, comG, drop32a, len33, len32, take32, hsG_len, hn, blr_len, hB1, eB]
                      refine ⟨by omega, by omega, by omega, by omega, h, h, by omega, by omega, by omega, cFy.mono ?_⟩
                      rintro g O' ⟨rfl, rfl⟩
                      simp +contextual -implicitDefEqProofs (maxSteps := 2000000) (disch := omega) only [binV, ↓loadV, ↓indexAddrV, grp, GVal.ofConst, List.headD, List.take, List.drop, Nat.reduceLeDiff, implies_true, vcA, ↓vcB, vcC, fbFw, blr_len, hB1, eQ, ej]
                      refine ⟨by omega, by omega, q2, q2, ?_⟩
                      refine Into.at ⟨((j + 1, a), B1), by show j + 1 ≤ ps.length; omega, hB1, hS1, hBs1, ?_⟩ (by show ps.length - (j + 1) < ps.length - j; omega) ⟨[], by simp⟩ (by simp [WL, leG_self, leG_any])
                      rcases hC1 with ⟨w1, w2, w3, w4⟩ | w1
                      · refine .inl ⟨w1, w2, w3, fun j' hj' q' hq' => ?_⟩
                        by_cases e : j' = j
                        · subst e
                          rw [hy, q1] at hq'
                          injection hq' with hq'
                          subst hq'
                          rw [← show B1 = B from w2]; exact eq
                        · exact w4 j' (by have : j' < j + 1 := hj'; omega) q' hq'
                      · exact .inr w1
                · have d2 : ((j : Int) < (ps.length : Int)) = False := eq_false (by omega)
                  simp +contextual -implicitDefEqProofs (maxSteps := 2000000) (disch := omega) only [↓lenV, binV, ↓unV, ↓loadV, ↓fieldAddrV, ↓indexAddrV, ↓nilV, grp, GVal.ofConst, List.map, List.headD, List.take, List.drop, ↓reduceIte, Nat.reduceEqDiff, Nat.reduceLeDiff, reduceCtorEq, implies_true, List.replicate, vcA, ↓vcB, vcC, fbFw, d2, eC, csG_len, comG, drop32a, len33, hsG_len, hn]
                  refine ⟨by omega, by omega, ?_⟩
                  exact Into.at ⟨((i + 1, a), B1), by show i + 1 ≤ n; omega, hB1, hS1, hBs1, out (.inr (by omega))⟩ (by show n - (i + 1) < n - i; omega) ⟨[], by simp⟩ (by simp [WL, leG_self, leG_any])
            · have d0 : ((i : Int) < (n : Int)) = False := eq_false (by omega)
              simp +contextual -implicitDefEqProofs (maxSteps := 2000000) (disch := omega) only [↓lenV, binV, ↓loadV, ↓fieldAddrV, ↓nilV, grp, GVal.ofConst, List.headD, List.take, List.drop, ↓reduceIte, Nat.reduceLeDiff, implies_true, List.replicate, vcA, ↓vcB, vcC, fbFw, d0, csG_len, hn]
              have hcn : B1.count true ≤ n := by rw [← hB1]; exact List.count_le_length
              refine Into.at ⟨(a, B1), hB1, hS1, hBs1, fun ha k hk => ?_⟩ ?_ ⟨[], by simp⟩ (by simp [WL, leG_self, leG_any])
              · rcases hC1 with ⟨w1, rfl, w3⟩ | ⟨w1, _⟩
                · exact w3 k (by omega)
                · rw [w1] at ha; cases ha
              · show (n - B1.count true + if a = true then 1 else 0) < n - B.count true + 1
                rcases hC1 with ⟨rfl, rfl, _⟩ | ⟨rfl, w⟩
                · simp
                · rw [if_pos rfl]; omega
end Gv.Tryz
/- The graph's Check, Count; the example of chapter 11. -/
set_option linter.unusedVariables false
set_option linter.unusedSimpArgs false
set_option maxRecDepth 20000
set_option maxHeartbeats 4000000
namespace Gv.Tryz
open Go Gv Go.Proofs
open Nat (reduceEqDiff reduceAdd reduceSub reduceLeDiff reduceMul reduceLT)
theorem gCount (m : GM) (hm : m.length ≤ 1000000) (st s : Nat) : GCalls Tryz.prog 13 [.ptr 0 st 0 0] (gObj st s m) (fun g O' => g = .int .i64 m.length ∧ O' = gObj st s m) := by
  refine h13.calls mixS (by simp) ?_
  simp only [gstart, s13, List.cons_append, List.nil_append, List.length_cons, List.length_nil, reduceAdd, reduceSub, List.replicate_succ, List.replicate_zero]
  simp +contextual -implicitDefEqProofs (maxSteps := 2000000) (disch := omega) only [↓lenV, ↓loadV, ↓fieldAddrV, ↓nilV, grp, GVal.ofConst, ↓resV, resG, List.headD, List.take, List.drop, reduceLeDiff, implies_true, vcA, ↓vcB, vcC, fbFw, e13, kvG_len]
theorem gCheckE (m : GM) (hm : GOK m) (cs : List Cm) (hs : List Hs) (th : Tag) (gr : Int) (st s : Nat) (hc : cs.length ≤ 1000000) (hh : hs.length ≤ 1000000) (hp : ∀ c ∈ cs, c.2.length ≤ 1000000) (e : Option Hs × Int) (he : joinedP gr m cs hs = .error e) :
    GCalls Tryz.prog 10 [.ptr 0 st 0 0, .agg (reqG cs hs th gr)] (gObj st s m) (fun g O' => g = errV (some e) ∧ O' = gObj st s m) := by
  have c1 := gJoinedBy m hm cs hs th gr st s hc hh hp
  rw [he] at c1
  obtain ⟨ty, v, ev⟩ := errV_some e
  refine h10.calls mixS (by simp) ?_
  simp only [gstart, s10, List.cons_append, List.nil_append, List.length_cons, List.length_nil, reduceAdd, reduceSub, List.replicate_succ, List.replicate_zero]
  simp +contextual -implicitDefEqProofs (maxSteps := 2000000) (disch := omega) only [↓loadV, ↓boxV, GVal.cells, grp, GVal.ofConst, List.map, List.take, reduceEqDiff, reduceAdd, reduceLeDiff, reduceCtorEq, allSolid, GVal.solid, vcA, ↓vcB, vcC, fbFw, e10]
  refine c1.mono ?_
  rintro g O' ⟨s2, rfl, rfl⟩
  simp +contextual -implicitDefEqProofs (maxSteps := 2000000) (disch := omega) only [↓resV, resG, vcA, ↓vcB, vcC, jdV, jdO, ev]
theorem known_err : joinedP 2 [] [(q1, [q2])] [] = .error (some q2, 10) := by
  have h1 : sizesP 2 0 [(q1, [q2])] = none := by kernel_rfl
  have h2 : joinP [] [(q1, [q2])] = .ok [(q1, [q2])] := by kernel_rfl
  have h3 : lackP [(q1, [q2])] [(q1, [q2])] [] = some (some q2, 10) := by kernel_rfl
  unfold joinedP
  simp only [List.length_nil, h1, h2, h3]
theorem known_ok : joinedP 2 [] [(q1, [])] [] = .ok [(q1, [])] := by
  have h1 : sizesP 2 0 [(q1, [])] = none := by kernel_rfl
  have h2 : joinP [] [(q1, [])] = .ok [(q1, [])] := by kernel_rfl
  have h3 : lackP [(q1, [])] [(q1, [])] [] = none := by kernel_rfl
  have h4 : roundP [] [(q1, [])] [(q1, [])] = none := roundP_rank rkQ (by decide) (by decide)
  unfold joinedP
  simp only [List.length_nil, h1, h2, h3, h4]
  rfl
theorem gKnown11 : GPure Tryz.prog 6 [] (.bool true) := by
  have cA := fun st s => gAdd [] fourG [(q1, [])] st s (by decide) (by decide)
  have ea : addedE [] [(q1, [])] = none := by unfold addedE; rw [known_ok]
  have em : addedM [] [(q1, [])] = [(q1, [])] := by unfold addedM; rw [known_ok]
  simp only [ea, em] at cA
  have cC := fun st s => gCheckE [] fourG [(q1, [q2])] [] .nil 2 st s (by decide) (by decide) (by decide) _ known_err
  have aC : ∀ st, GLes [.ptr 0 st 0 0, .agg [.slice [bytesG q1.1 ++ [.slice [bytesG q2.1] .full]] .full, .slice [] .nil, .int .i64 2]] [.ptr 0 st 0 0, .agg (reqG [(q1, [q2])] [] .nil 2)] := fun st =>
    ⟨GLe.refl _, GLe.agg ⟨GLe.trans GLe.none (GLe.slice ⟨GLes.app (GLes.refl _) ⟨GLe.none, trivial⟩, trivial⟩), GLe.refl _, GLe.refl _, trivial⟩, trivial⟩
  have aA : ∀ st, GLes [.ptr 0 st 0 0, .slice [bytesG q1.1 ++ [.slice [] .nil]] .full] [.ptr 0 st 0 0, .slice (csG [(q1, [])]) .none] := fun st =>
    ⟨GLe.refl _, GLe.trans GLe.none (GLe.slice ⟨GLes.app (GLes.refl _) ⟨GLe.none, trivial⟩, trivial⟩), trivial⟩
  have cW := gWhose q2 10
  have cK := hKindWhich (bytesG q2.1) 10 (len32 q2)
  have cH := fun st s => gHas [(q1, [])] q1 st s
  have eH : (look [(q1, ([] : List Hs))] q1).isSome = true := by kernel_rfl
  simp only [eH] at cH
  have cN := fun st s => gCount [(q1, [])] (by decide) st s
  refine GCalls.toPure ?_
  refine h6.calls mixS (by simp) ?_
  simp only [gstart, s6, List.nil_append, List.length_nil, reduceSub, List.replicate_succ, List.replicate_zero]
  simp +contextual -implicitDefEqProofs (maxSteps := 2000000) (disch := omega) only [GVal.ofConst, List.map, vcA, ↓vcB, e6]
  refine gNew.mono ?_
  rintro g O' ⟨st, s, rfl, rfl⟩
  simp +contextual -implicitDefEqProofs (maxSteps := 2000000) (disch := omega) only [binV, ↓buildV, ↓buildSliceV, fillG, fillE, place, GVal.cells, GVal.ofConst, List.map, List.take, List.drop, ↓reduceIte, reduceAdd, reduceLeDiff, List.replicate, allSolid, GVal.solid, reduceMul, splice, vcA, ↓vcB, vcC, fbFw, qE1, qE2, len32, take32a, drop33a, len33, solid33, solidH]
  refine (GCalls.args (cC st s) (aC st)).mono ?_
  rintro g O' ⟨rfl, rfl⟩
  simp +contextual -implicitDefEqProofs (maxSteps := 2000000) (disch := omega) only [List.map, vcA, ↓vcB, errV]
  refine cW.then ?_ (by rfl)
  simp +contextual -implicitDefEqProofs (maxSteps := 2000000) (disch := omega) only [↓storeV, ↓allocV, GVal.cells, List.map, List.take, List.drop, reduceAdd, reduceLeDiff, GVal.solid, splice, vcA, ↓vcB, vcC, fbFw, len32, solidH]
  intro s3
  refine cK.then ?_ (by rfl)
  simp +contextual -implicitDefEqProofs (maxSteps := 2000000) (disch := omega) only [binV, ↓loadV, ↓buildV, ↓buildSliceV, fillG, fillE, place, GVal.cells, grp, GVal.ofConst, List.map, List.take, List.drop, ↓reduceIte, reduceEqDiff, reduceAdd, reduceLeDiff, reduceCtorEq, aggV, List.replicate, allSolid, GVal.solid, reduceMul, splice, vcA, ↓vcB, vcC, fbFw, qE1, qE2, len33, solid33, cellsEq_hs q2 q2, v32]
  refine (GCalls.on2 (R := fun g x' y' => g = errV none ∧ ∃ s', x' = .row st 1 [[.map 1 s']] ∧ y' = .map s' (kvG encL [(q1, [])])) (cA st s) (O := gObj st s [] ++ [.row s3 32 [bytesG q2.1]]) 0 1 (by omega) rfl rfl (.refl _) (aA st) rfl rfl (by rintro g x' y' ⟨_, s', rfl, rfl⟩; exact ⟨rfl, rfl⟩) rfl).mono ?_
  rintro g O' ⟨x', y', ⟨rfl, s', rfl, rfl⟩, rfl⟩
  simp +contextual -implicitDefEqProofs (maxSteps := 2000000) (disch := omega) only [↓buildV, fillG, place, GVal.cells, GVal.ofConst, ↓resV, resG, List.map, List.take, List.drop, ↓reduceIte, reduceAdd, reduceLeDiff, allSolid, GVal.solid, reduceMul, splice, vcA, ↓vcB, vcC, fbFw, errV, qE1, GObj.place, List.set, Tryz.underlying45]
  refine (GCalls.keep2 (cH st s') rfl [.row s3 32 [bytesG q2.1]]).mono ?_
  rintro g O' ⟨rfl, rfl⟩
  simp +contextual -implicitDefEqProofs (maxSteps := 2000000) (disch := omega) only [List.map, vcA, ↓vcB]
  refine (GCalls.keep2 (cN st s') rfl [.row s3 32 [bytesG q2.1]]).mono ?_
  rintro g O' ⟨rfl, rfl⟩
  simp +contextual -implicitDefEqProofs (maxSteps := 2000000) (disch := omega) only [binV, GVal.ofConst, ↓resV, resG, vcA, ↓vcB, vcC]
  exact ⟨1, .bool true, rfl, by rw [leA_bool]⟩
end Gv.Tryz
/- maps.Keys of the graph's own map, as an iterator; Collect of it (printed by mkko.py out of KK, KL, KN); the graph's Hashes. -/
set_option linter.unusedVariables false
set_option linter.unusedSimpArgs false
set_option maxRecDepth 100000
set_option maxHeartbeats 4000000
namespace Gv.Tryz.L
open Go Gv Gv.Tryz Go.Proofs Go.RowKit Go.Maps Go.Sort Go.Shelf
theorem keys1 (F : Fence) (n : Nat) (h69 : F.fn 63) (hro : F.round = none) (hn : 1 ≤ n) (l Bm off b clock : Nat) (es : Array MapEntry) (hbo : BornOK es clock) (hks : ∀ e ∈ es.toList, ∃ h : HL, e.key = encH h) (J : List HL → World → Prop)
    (hY : ∀ pre x W, J pre W → pre.length < es.size → YieldAt F (n - 1) Tryz.prog l #[encH x] W fun e W' => e = .returned (.bool true) ∧ J (pre ++ [x]) W' ∧ KeepsWalks W W')
    (W : World) (hJ : AbidesFrom W.heap.size J)
    (hm : W.cell? ⟨Bm, off, none⟩ = some (.map (some b))) (hb : W.heap[b]? = some (.map es clock)) (h0 : J [] W) :
    CallsIn F n Tryz.prog 63 #[.func (.yield l) #[] #[], .pointer (some ⟨Bm, off, none⟩)] W fun e W' => (∃ v, e = .returned v) ∧ ∃ hs : List HL, (hs.map encH).Perm (es.toList.map MapEntry.key) ∧ J hs W' := by
  refine callsIn_of_wp Tryz.func63 rfl h69 ?_ hro
  simp only [Tryz.ntmps63, List.size_toArray, List.length_cons, List.length_nil, Nat.reduceAdd, Nat.reduceSub, Array.replicate_succ, Array.replicate_zero, List.push_toArray, List.append_toArray, List.nil_append, List.cons_append]
  gi_wp2_with (first
    | (gi_at_range; refine wpListIn_range_at _ rfl _ _ rfl _ _ Tryz.underlying64 b clock es rfl hb hbo ?_; intro w0 hrg0 hg0 hs0)
    | gi_in)
  go_frame
  gi_loopw [3] (fun _ wr => ∃ (seen : Array Nat) (xs : List MapEntry) (hs : List HL), WalkAt wr b W.heap.size es clock seen ∧ Came es seen xs ∧ hs.map encH = xs.map MapEntry.key ∧ J hs wr)
    (fun _ wr => wr.rangeLeft b W.heap.size)
  case atStart =>
    exact ⟨#[], [], [], hrg0, Came.nil es, rfl, hJ [] W w0 none h0 hg0 (fun r e => by cases e)⟩
  case round =>
    obtain ⟨seen, xs, hs, hrg, hC, hsx, hJs⟩ := hrel
    gi_wp2_with (first
      | (refine wpListIn_next_at _ rfl _ rfl b W.heap.size clock es hbo seen xs hC rfl hrg ?_ ?_)
      | gi_in)
    · -- NOTHING IS LEFT
      intro hp
      gi_wp2
      go_end0
      exact ⟨⟨_, rfl⟩, hs, by rw [hsx]; exact hp.map _, hJs⟩
    · -- AN ENTRY HAS COME: yield(k)
      intro e w2 hem hC2 hlt hrg2 hmu hg2 hs2 hen
      obtain ⟨x, ex⟩ := hks e (by simpa using hem)
      have hsx2 : (hs ++ [x]).map encH = (xs ++ [e]).map MapEntry.key := by rw [List.map_append, List.map_append, hsx]; simp [ex]
      have hlen : hs.length < es.size := by
        have := congrArg List.length hsx
        rw [List.length_map, List.length_map] at this
        omega
      rw [ex] at hen ⊢
      have hal := World.alloc_heap_new w2 (.cells zero32 40)
      have hst := store_h x.2 hal rfl
      obtain ⟨w3, hw3⟩ : ∃ w3, (w2.alloc (.cells zero32 40)).setRow w2.heap.size (bytesV x.1).toArray = w3 := ⟨_, rfl⟩
      rw [hw3] at hst
      have hx3 : w3.heap[w2.heap.size]? = some (.cells (bytesV x.1).toArray 40 (0, 0)) := by rw [← hw3]; exact setRow_heap _ _ _ _ _ _ hal
      have ho3 : ∀ k, k < w2.heap.size → w3.heap[k]? = w2.heap[k]? := fun k hk => by
        rw [← hw3, setRow_other _ _ _ _ (by omega)]
        exact Below.heap_alloc _ _ k hk
      have hs3 : w3.heap.size = w2.heap.size + 1 := by rw [← hw3]; simp
      have hk3 : KeepsWalks w2 w3 := ⟨by omega, fun k o hk ho => (ho3 k (Array.getElem?_eq_some_iff.1 hk).1).trans hk⟩
      have hg3 : w2.grownBy w3 none := ⟨by rw [← hw3]; rfl, by rw [← hw3]; rfl, by rw [← hw3]; rfl, by omega, fun k hk _ => ho3 k hk⟩
      have hlo := load_h x.2 hx3
      have hJ3 : J hs w3 := hJ hs w2 w3 none (hJ hs wr w2 (some W.heap.size) hJs hg2 (fun r e => by cases e; exact ⟨Nat.le_refl _, hrg.iter_walk⟩)) hg3 (fun r e => by cases e)
      have hrg3 := hrg2.of_walks hk3
      have hmu3 : w3.rangeLeft b W.heap.size < wr.rangeLeft b W.heap.size := by rw [hrg3.left_eq, ← hrg2.left_eq]; exact hmu
      obtain ⟨fn, tmps, assign, body, hy, hR⟩ := hY hs x w3 hJ3 hlen
      change (Instr.yield l #[encV x.1]).run Tryz.prog w3 = _ at hy
      clear hw3 hs2
      gi_wp2_with (first
        | (refine wpListIn_alloc rfl rfl (alloc_h _) ?_)
        | (refine wpListIn_store rfl rfl hst ?_)
        | (refine wpListIn_load rfl rfl hlo ?_)
        | gi_in)
      refine hR.mono ?_
      rintro e' W4 ⟨rfl, hJ4, hk4⟩
      gi_wp2
      have hrg4 := hrg3.of_walks hk4
      go_roundw
      case rel => exact ⟨_, xs ++ [e], hs ++ [x], hrg4, hC2, hsx2, hJ4⟩
      case measure => rw [hrg4.left_eq, ← hrg3.left_eq]; exact hmu3
theorem keysGives (F : Fence) (n : Nat) (h69 : F.fn 63) (hro : F.round = none) (hn : 1 ≤ n) (Bm off b clock : Nat) (es : Array MapEntry) (hbo : BornOK es clock) (hks : ∀ e ∈ es.toList, ∃ h : HL, e.key = encH h) (w : World) (hBm : Bm < w.heap.size)
    (hm : w.cell? ⟨Bm, off, none⟩ = some (.map (some b))) (hb : w.heap[b]? = some (.map es clock)) :
    SeqGives F n Tryz.prog 63 #[.pointer (some ⟨Bm, off, none⟩)] encH (fun hs : List HL => (hs.map encH).Perm (es.toList.map MapEntry.key)) es.size w := fun l J W hW hJ hY h0 =>
  keys1 F n h69 hro hn l Bm off b clock es hbo hks J hY W hJ ((hW.cell (p := ⟨Bm, off, none⟩) hBm).trans hm) ((hW.block b (Array.getElem?_eq_some_iff.1 hb).1).trans hb) h0
theorem gCollect {α : Type} (enc : α → GVal) (m : List (Hs × α)) (hm : m.length ≤ 1000000000) {O : List GObj} {o st oc stc : Nat} (hO : O[o]? = some (.map st (kvG enc m))) (hOc : O[oc]? = some (.row stc 1 [[.map o st]])) :
    GCalls Tryz.prog 38 [.func (.func 63) [] [.ptr oc stc 0 0]] O (fun g O' => ∃ l : List Hs, l.Perm (m.map (·.1)) ∧ g = .slice (hsG l) .none ∧ O' = O) := by
  refine ⟨by kernel_rfl, fun E w vs hs ha => ?_⟩
  obtain ⟨hsz, hat⟩ := ha
  match vs, hsz with
  | ⟨[v]⟩, _ =>
    have hv := hat 0 _ rfl
    change VR E v _ at hv
    cases hv with
    | func fn fs cs gs ks hf hk hfs hcs =>
      obtain ⟨fs⟩ := fs
      obtain ⟨cs⟩ := cs
      match fs, hf with
      | [], _ =>
        match cs, hk with
        | [c], _ =>
          have hc := hcs 0 _ rfl
          change VR E c (.ptr oc stc 0 0) at hc
          cases hc with
          | ptr b off _ _ _ _ lc hlc hbc hoff =>
            have hre := hs.real _ _ hOc
            obtain ⟨lc2, hlc2, hsz2, _, hre⟩ := hre
            rw [hlc] at hlc2; cases hlc2
            rw [hbc] at hre
            obtain ⟨cur, el, hcw, hcs, hct, hrows, _⟩ := hre
            obtain ⟨q, h1, _, h2⟩ := hrows 0 (.map o st) rfl
            have hoff2 : off = lc.off := by rw [hoff]; omega
            have hcell : w.cell? ⟨b, off, none⟩ = some q := by
              simp only [World.cell?, hcw, hoff2]
              simpa using h1
            have hBm : b < w.heap.size := (Array.getElem?_eq_some_iff.1 hcw).1
            cases h2 with
            | map r o st l hl hb =>
              obtain ⟨b2, es, clock, e, hw, hes, hent, hloc, hsn2, hbo⟩ := map_block hs (VR.map r o st l hl hb) hO
              cases e
              have hln : es.size = m.length := by
                have : es.toList.length = (kvG enc m).length := hes
                rw [Array.length_toList] at this
                rw [this, kvG, List.length_map]
              have hkey : es.toList.map MapEntry.key = (m.map (·.1)).map encH := by
                refine List.ext_getElem? fun i => ?_
                rw [List.getElem?_map, List.getElem?_map, List.getElem?_map]
                cases hi : m[i]? with
                | none =>
                  have : es.toList[i]? = none := by
                    rw [List.getElem?_eq_none_iff] at hi ⊢
                    rw [Array.length_toList]; omega
                  rw [this]; rfl
                | some p =>
                  have hlt := (List.getElem?_eq_some_iff.1 hi).1
                  have hi2 : i < es.toList.length := by rw [Array.length_toList]; omega
                  have he : es.toList[i]? = some (es.toList[i]) := List.getElem?_eq_getElem hi2
                  have := (hent i _ (.agg (bytesG p.1.1), enc p.2) he (by simp [kvG, hi])).1
                  rw [he]
                  exact congrArg some (vr_key this)
              have hks : ∀ e ∈ es.toList, ∃ h : HL, e.key = encH h := by
                intro e he
                have : e.key ∈ es.toList.map MapEntry.key := List.mem_map_of_mem he
                rw [hkey] at this
                obtain ⟨h, _, eh⟩ := List.mem_map.1 this
                exact ⟨h, eh.symm⟩
              have hseq := keysGives Fence.wide 3 trivial rfl (by omega) b off r clock es hbo hks w hBm hcell hw
              have hc := collect Fence.wide 5 trivial trivial rfl (by omega) 63 #[.pointer (some ⟨b, off, none⟩)] trivial (enters_of Tryz.func63 (by kernel_rfl) rfl) _ es.size (by rw [hln]; exact Nat.le_trans hm (by decide)) (by omega) w hseq
              refine (callsIn_wide.1 hc).mono ?_
              rintro e' w' ⟨v, ss, rfl, hS, hrow, hnil, hbel⟩
              have hperm : ss.Perm (m.map (·.1)) := perm_of_map (fun _ _ => encH_inj) (by rw [← hkey]; exact hS)
              rcases hrow.2 with ⟨rfl, hz⟩ | ⟨g, cap, cur, rfl, hbase, hgb, r1, r2, r3, r4⟩
              · have hss : ss = [] := List.eq_nil_of_length_eq_zero hz
                subst hss
                obtain ⟨p1, p2⟩ := hs.belowO hbel
                exact ⟨_, E, O, .slice [] .none, rfl, p1, p2, .slice none 0 0 [] .none 32 (fun _ => undef) rfl (Nat.le_refl _) (by simp) (by simp) (by simp) trivial, [], hperm, rfl, rfl⟩
              · have hcur : ∀ j, j < ss.length * 32 → cur[j]? = (bytesV (hsB ss))[j]? := by
                  intro j hj
                  rw [← cellsH_B, ← r4, List.getElem?_take_of_lt hj, Array.getElem?_toList]
                have hbl : (bytesV (hsB ss)).length = ss.length * 32 := by rw [← cellsH_B, cellsH_len]
                obtain ⟨p1, p2⟩ := hs.belowSeal hbel (n := ss.length * 32) hbase hgb (fun j v hj hv => by
                  rw [hcur j hj] at hv
                  exact bytesV_one _ v (List.mem_of_getElem? hv))
                refine ⟨_, _, O, .slice (hsG ss) .none, rfl, p1, p2, .slice _ _ _ _ _ 32 (fun j => (bytesV (hsB ss)).getD j undef) (by rw [hsG_len]) r1 (fun x hx => by obtain ⟨h, _, rfl⟩ := List.mem_map.1 hx; exact len32 h) (fun _ => ⟨g, 0, rfl, fun j hj => ?_⟩) (fun j gv hj => ?_) trivial, ss, hperm, rfl, rfl⟩
                · show (if g = g then (if 0 + j < ss.length * 32 then cur[0 + j]? else none) else E.snap g (0 + j)) = _
                  rw [if_pos rfl, Nat.zero_add, if_pos hj, hcur j hj, List.getD_eq_getElem?_getD]
                  cases hq2 : (bytesV (hsB ss))[j]? with
                  | none => rw [List.getElem?_eq_none_iff] at hq2; omega
                  | some x => rfl
                · rw [hsG_B, bytesG, List.getElem?_map] at hj
                  rw [List.getD_eq_getElem?_getD, bytesV, List.getElem?_map]
                  cases hq2 : (hsB ss)[j]? with
                  | none => rw [hq2] at hj; cases hj
                  | some x =>
                    rw [hq2] at hj
                    cases hj
                    exact .int _ _
theorem gKeys {α : Type} (enc : α → GVal) (m : List (Hs × α)) {st sa : Nat} : GCalls Tryz.prog 39 [.map 1 st] [.row sa 1 [[.map 1 st]], .map st (kvG enc m)] (fun g O' => ∃ stc, g = .func (.func 63) [] [.ptr 2 stc 0 0] ∧ O' = [.row sa 1 [[.map 1 st]], .map st (kvG enc m), .row stc 1 [[.map 1 st]]]) := by
  refine h39.calls mixS (by simp) ?_
  simp only [gstart, s39, List.cons_append, List.nil_append, List.length_cons, List.length_nil, Nat.reduceAdd, Nat.reduceSub, List.replicate_succ, List.replicate_zero]
  simp +contextual -implicitDefEqProofs (maxSteps := 2000000) (disch := omega) only [↓boxV, GVal.cells, GVal.ofConst, ↓resV, resG, List.map, Nat.reduceAdd, allSolid, GVal.solid, vcA, ↓vcB, vcC, e39]
  exact fun s => ⟨s, rfl, rfl⟩
theorem gHashes11 (m : GM) (hm : m.length ≤ 1000000000) (st s : Nat) : GCalls Tryz.prog 15 [.ptr 0 st 0 0] (gObj st s m) (fun g O' => g = .slice (hsG (sortR (m.map (·.1)))) .none ∧ O' = gObj st s m) := by
  refine GCalls.dropTo ?_
  refine h15.calls mixS (by simp) ?_
  simp only [gstart, s15, List.cons_append, List.nil_append, List.length_cons, List.length_nil, Nat.reduceAdd, Nat.reduceSub, List.replicate_succ, List.replicate_zero]
  simp +contextual -implicitDefEqProofs (maxSteps := 2000000) (disch := omega) only [↓loadV, ↓fieldAddrV, ↓nilV, grp, GVal.ofConst, List.map, List.headD, List.take, List.drop, Nat.reduceLeDiff, implies_true, vcA, ↓vcB, vcC, fbFw, e15]
  refine (gKeys encL m (sa := st)).mono ?_
  rintro g O' ⟨stc, rfl, rfl⟩
  simp +contextual -implicitDefEqProofs (maxSteps := 2000000) (disch := omega) only [List.map, vcA, ↓vcB]
  refine (gCollect encL m hm (O := [.row st 1 [[.map 1 s]], .map s (kvG encL m), .row stc 1 [[.map 1 s]]]) (o := 1) (oc := 2) rfl rfl).mono ?_
  rintro g O' ⟨l, hl, rfl, rfl⟩
  have hll : l.length = m.length := by rw [hl.length_eq, List.length_map]
  have cS := hSort l .none (by omega) (by simp)
  rw [sortR_perm hl] at cS
  simp +contextual -implicitDefEqProofs (maxSteps := 2000000) (disch := omega) only [List.map, vcA, ↓vcB]
  refine cS.then ?_ (by rfl)
  simp +contextual -implicitDefEqProofs (maxSteps := 2000000) (disch := omega) only [↓resV, resG, vcA, ↓vcB]
  exact ⟨_, gObj st s m, [.row stc 1 [[.map 1 s]]], rfl, leA_refl _, rfl, rfl⟩
end Gv.Tryz.L
/- graph.Remove: the ghost parts. -/
set_option linter.unusedVariables false
set_option linter.unusedSimpArgs false
set_option maxRecDepth 20000
set_option maxHeartbeats 4000000
namespace Gv.Tryz
open Go Gv Go.Proofs
abbrev rS (p0 p1 x5 x14 x15 x16 x24 x25 x26 x57 : GVal) : List GVal := [p0, p1, .any, .any, .any, x5, .any, .any, .any, .any, .any, .any, .any, .any, x14, x15, x16, .any, .any, .any, .any, .any, .any, .any, x24, x25, x26, .any, .any, .any, .any, .any, .any, .any, .any, .any, .any, .any, .any, .any, .any, .any, .any, .any, .any, .any, .any, .any, .any, .any, .any, .any, .any, .any, .any, .any, .any, x57, .any, .any, .any, .any, .any, .any, .any, .any, .any]
theorem gIndexP {F : FuncId} {caps : List GVal} (O : List GObj) (hc : clockOf O = none) (p : Hs → Bool) (hN : ∀ h : Hs, GCalls Tryz.prog F (.agg (bytesG h.1) :: caps) O (fun g O' => g = .bool (p h) ∧ O' = O))
    (l : List Hs) (t : Tag) (hl : l.length ≤ 1000000) :
    GCalls Tryz.prog 68 [.slice (hsG l) t, .func (.func F) [] caps] O (fun g O' => g = .int .i64 (match l.findIdx? p with | some i => (i : Int) | none => -1) ∧ O' = O) := by
  have hst : ∀ (K : Nat → Prop), stamp O K = ∀ st, K st := fun K => by unfold stamp; rw [hc]
  have htk : tickO O = O := tickO_none hc
  refine h68.calls mixS (by simp) ?_
  simp only [gstart, s68, List.cons_append, List.nil_append, List.length_cons, List.length_nil, Nat.reduceAdd, Nat.reduceSub, List.replicate_succ, List.replicate_zero]
  simp +contextual -implicitDefEqProofs (maxSteps := 2000000) (disch := omega) only [↓lenV, GVal.ofConst, vcA, ↓vcB, vcC, fbFw, e68, hsG_len]
  refine vcSLoop_by (ι := { k : Nat // k ≤ l.length ∧ ∀ x ∈ l.take k, p x = false }) (fun k => ⟨[.slice (hsG l) t, .func (.func F) [] caps, .any, .any, .int .i64 0, .any, .slice (hsG l) t, .int .i64 l.length, .int .i64 (k.1 : Nat)] ++ List.replicate 10 .any, O⟩) (fun k => l.length - k.1) ?_ ?_
  · exact Into.first ⟨0, by omega, by simp⟩ ⟨[], by simp⟩ (by simp [WL, leG_self])
  · rintro ⟨k, hk, hp⟩
    change k ≤ l.length at hk
    have hp : ∀ x ∈ l.take k, p x = false := hp
    by_cases h : k < l.length
    · have d0 : ((k : Int) < (l.length : Int)) = True := eq_true (by omega)
      have eS := hsG_at l k h
      have eg : l.getD k h0 = l[k] := by simp [List.getD, h]
      rw [eg] at eS
      have ht : l.take (k + 1) = l.take k ++ [l[k]] := List.take_succ_eq_append_getElem h
      generalize l[k] = x at eS ht
      have cN := hN x
      by_cases hx : p x = true
      · rw [hx] at cN
        have hf : l.findIdx? p = some k := by
          have e : l = l.take k ++ x :: l.drop (k + 1) := by
            have := List.take_append_drop (k + 1) l
            rw [ht] at this
            simpa using this.symm
          rw [e, List.findIdx?_append]
          have : (l.take k).findIdx? p = none := by rw [List.findIdx?_eq_none_iff]; exact hp
          rw [this]
          simp [List.findIdx?_cons, hx, List.length_take]; omega
        simp +contextual -implicitDefEqProofs (maxSteps := 2000000) (disch := omega) only [binV, ↓loadV, ↓indexAddrV, grp, List.map, Nat.reduceEqDiff, Nat.reduceLeDiff, reduceCtorEq, List.replicate, vcA, ↓vcB, vcC, fbFw, hsG_len, d0, eS, take32, len32, hf]
        refine ⟨by omega, ?_⟩
        refine cN.mono ?_
        rintro g O' ⟨rfl, rfl⟩
        simp +contextual -implicitDefEqProofs (maxSteps := 2000000) (disch := omega) only [↓resV, resG, vcA, ↓vcB, vcC]
      · have hx : p x = false := by simpa using hx
        rw [hx] at cN
        simp +contextual -implicitDefEqProofs (maxSteps := 2000000) (disch := omega) only [binV, ↓loadV, ↓indexAddrV, grp, List.map, Nat.reduceEqDiff, Nat.reduceLeDiff, reduceCtorEq, List.replicate, vcA, ↓vcB, vcC, fbFw, hsG_len, d0, eS, take32, len32]
        refine ⟨by omega, ?_⟩
        refine cN.mono ?_
        rintro g O' ⟨rfl, rfl⟩
        simp +contextual -implicitDefEqProofs (maxSteps := 2000000) (disch := omega) only [binV, GVal.ofConst, vcA, ↓vcB, vcC]
        refine Into.at ⟨k + 1, by omega, fun y hy => ?_⟩ (by show _ < _; simp; omega) ⟨[], by simp⟩ (by simp [WL, leG_self, leG_any])
        have hy : y ∈ l.take (k + 1) := hy
        rw [ht] at hy
        rcases List.mem_append.1 hy with q | q
        · exact hp y q
        · rw [List.mem_singleton.1 q]; exact hx
    · have d0 : ((k : Int) < (l.length : Int)) = False := eq_false (by omega)
      have hf : l.findIdx? p = none := by
        rw [List.findIdx?_eq_none_iff]
        rw [List.take_of_length_le (by omega)] at hp
        exact hp
      simp +contextual -implicitDefEqProofs (maxSteps := 2000000) (disch := omega) only [binV, ↓loadV, ↓indexAddrV, grp, GVal.ofConst, ↓resV, resG, List.map, ↓reduceIte, Nat.reduceEqDiff, reduceCtorEq, implies_true, List.replicate, vcA, ↓vcB, vcC, fbFw, hsG_len, d0, hf]
theorem gContF {F : FuncId} {caps : List GVal} (O : List GObj) (hc : clockOf O = none) (p : Hs → Bool) (hN : ∀ h : Hs, GCalls Tryz.prog F (.agg (bytesG h.1) :: caps) O (fun g O' => g = .bool (p h) ∧ O' = O))
    (l : List Hs) (t : Tag) (hl : l.length ≤ 1000000) :
    GCalls Tryz.prog 49 [.slice (hsG l) t, .func (.func F) [] caps] O (fun g O' => g = .bool (l.any p) ∧ O' = O) := by
  have cI := gIndexP O hc p hN l t hl
  cases hf : l.findIdx? p with
  | none =>
    rw [hf] at cI
    have e : l.any p = false := by
      rw [List.findIdx?_eq_none_iff] at hf
      rw [List.any_eq_false]
      intro x hx
      rw [hf x hx]; simp
    rw [e]
    refine h49.calls mixS (by simp) ?_
    simp only [gstart, s49, List.cons_append, List.nil_append, List.length_cons, List.length_nil, Nat.reduceAdd, Nat.reduceSub, List.replicate_succ, List.replicate_zero]
    simp +contextual -implicitDefEqProofs (maxSteps := 2000000) (disch := omega) only [GVal.ofConst, List.map, vcA, ↓vcB, e49]
    refine cI.mono ?_
    rintro g O' ⟨rfl, rfl⟩
    simp +contextual -implicitDefEqProofs (maxSteps := 2000000) (disch := omega) only [binV, GVal.ofConst, ↓resV, resG, vcA, ↓vcB, vcC]
    rfl
  | some i =>
    rw [hf] at cI
    have e : l.any p = true := by
      obtain ⟨h1, h2, _⟩ := List.findIdx?_eq_some_iff_getElem.1 hf
      exact List.any_eq_true.2 ⟨_, List.getElem_mem h1, h2⟩
    have d0 : ((0 : Int) ≤ (i : Int)) = True := eq_true (by omega)
    rw [e]
    refine h49.calls mixS (by simp) ?_
    simp only [gstart, s49, List.cons_append, List.nil_append, List.length_cons, List.length_nil, Nat.reduceAdd, Nat.reduceSub, List.replicate_succ, List.replicate_zero]
    simp +contextual -implicitDefEqProofs (maxSteps := 2000000) (disch := omega) only [GVal.ofConst, List.map, vcA, ↓vcB, e49]
    refine cI.mono ?_
    rintro g O' ⟨rfl, rfl⟩
    simp +contextual -implicitDefEqProofs (maxSteps := 2000000) (disch := omega) only [binV, GVal.ofConst, ↓resV, resG, vcA, ↓vcB, vcC, d0]
theorem gRm1 (a c : GObj) (X : List GObj) (S : List Hs) (h : Hs) (s : Nat) : GCalls Tryz.prog 50 [.agg (bytesG h.1), .ref [.map 2 s]] (a :: c :: .map s (kvG encB (setM S)) :: X) (fun g O' => g = .bool (decide (h ∈ S)) ∧ O' = (a :: c :: .map s (kvG encB (setM S)) :: X)) := by
  by_cases hx : h ∈ S
  · obtain ⟨i, hi, hv, _⟩ := look_idx encB (setM S) h true (by rw [look_set, if_pos hx])
    rw [decide_eq_true hx]
    refine h50.calls mixS (by simp) ?_
    simp only [gstart, s50, List.cons_append, List.nil_append, List.length_cons, List.length_nil, Nat.reduceAdd, Nat.reduceSub, List.replicate_succ, List.replicate_zero]
    simp +contextual -implicitDefEqProofs (maxSteps := 2000000) (disch := omega) only [↓loadV, ↓boxV, GVal.cells, grp, GVal.ofConst, ↓resV, resG, List.headD, List.take, Nat.reduceEqDiff, Nat.reduceAdd, Nat.reduceLeDiff, reduceCtorEq, implies_true, ↓lookupV, keyOk, keyCells, pairG, vcA, ↓vcB, vcC, fbFw, e50, kfind_h, hi, hv, v32]
  · obtain ⟨hi, _⟩ := look_none encB (setM S) h (by rw [look_set, if_neg hx])
    rw [decide_eq_false hx]
    refine h50.calls mixS (by simp) ?_
    simp only [gstart, s50, List.cons_append, List.nil_append, List.length_cons, List.length_nil, Nat.reduceAdd, Nat.reduceSub, List.replicate_succ, List.replicate_zero]
    simp +contextual -implicitDefEqProofs (maxSteps := 2000000) (disch := omega) only [↓loadV, ↓boxV, GVal.cells, grp, GVal.ofConst, ↓resV, resG, List.headD, List.take, Nat.reduceEqDiff, Nat.reduceAdd, Nat.reduceLeDiff, reduceCtorEq, implies_true, ↓lookupV, keyOk, keyCells, pairG, vcA, ↓vcB, vcC, fbFw, e50, kfind_h, hi, v32]
end Gv.Tryz
/- graph.Remove: its first two loops. -/
set_option linter.unusedVariables false
set_option linter.unusedSimpArgs false
set_option maxRecDepth 20000
set_option maxHeartbeats 4000000
namespace Gv.Tryz
open Go Gv Go.Proofs
open Nat (reduceEqDiff reduceAdd reduceSub reduceLeDiff reduceMul reduceLT)
def setAdd (S : List Hs) (h : Hs) : List Hs := if h ∈ S then S else S ++ [h]
def setAll (l : List Hs) : List Hs := l.foldl setAdd []
theorem setAdd_mem (S : List Hs) (h x : Hs) : x ∈ setAdd S h ↔ x ∈ S ∨ x = h := by
  unfold setAdd
  split
  · rename_i hm
    exact ⟨.inl, fun q => q.elim id fun e => e ▸ hm⟩
  · simp
theorem setAdd_nd {S : List Hs} (h : Hs) (hn : S.Nodup) : (setAdd S h).Nodup := by
  unfold setAdd
  split
  · exact hn
  · rename_i hm
    exact List.nodup_append.2 ⟨hn, by simp, fun a ha b hb e => hm (by rw [List.mem_singleton.1 hb] at e; exact e ▸ ha)⟩
theorem setFold : ∀ (l S : List Hs), S.Nodup → (l.foldl setAdd S).Nodup ∧ (∀ x, x ∈ l.foldl setAdd S ↔ x ∈ S ∨ x ∈ l) ∧ (l.foldl setAdd S).length ≤ S.length + l.length
  | [], S, h => ⟨h, by simp, by simp⟩
  | a :: r, S, h => by
    obtain ⟨h1, h2, h3⟩ := setFold r (setAdd S a) (setAdd_nd a h)
    refine ⟨h1, fun x => ?_, ?_⟩
    · rw [List.foldl_cons, h2, setAdd_mem]; simp [or_assoc]
    · rw [List.foldl_cons]
      have : (setAdd S a).length ≤ S.length + 1 := by unfold setAdd; split <;> simp
      simp only [List.length_cons]; omega
theorem setAll_mem (l : List Hs) (x : Hs) : x ∈ setAll l ↔ x ∈ l := by rw [setAll, (setFold l [] List.nodup_nil).2.1]; simp
theorem setAll_len (l : List Hs) : (setAll l).length ≤ l.length := by have := (setFold l [] List.nodup_nil).2.2; rw [List.length_nil, Nat.zero_add] at this; exact this
theorem setAll_snoc (l : List Hs) (h : Hs) : setAll (l ++ [h]) = setAdd (setAll l) h := by simp [setAll]
theorem mset_in : ∀ {S : List Hs} {h : Hs}, h ∈ S → mset (setM S) h true = setM S
  | [], h, hm => by cases hm
  | a :: r, h, hm => by
    rw [show setM (a :: r) = (a, true) :: setM r from rfl, mset]
    by_cases e : h = a
    · rw [if_pos e, e]
    · rw [if_neg e, mset_in ((List.mem_cons.1 hm).resolve_left e)]
theorem mset_add (S : List Hs) (h : Hs) : mset (setM S) h true = setM (setAdd S h) := by
  unfold setAdd
  split
  · exact mset_in (by assumption)
  · exact mset_set S h (by assumption)
theorem rR0 (p0 p1 : GVal) (O : List GObj) : vcS Tryz.prog [] s28_0 (vcN (NW (rS p0 p1 .any .any .any .any .any .any .any .any) O)) (gstart 67 [p0, p1] O) := by
  simp only [gstart, List.cons_append, List.nil_append, List.length_cons, List.length_nil, reduceAdd, reduceSub, List.replicate_succ, List.replicate_zero]
  skip
  simp +contextual -implicitDefEqProofs (maxSteps := 2000000) (disch := omega) only [GVal.ofConst, vcA, ↓vcB, vcC, e28, vcN, NW, leG_any]
theorem rR1 (p0 p1 : GVal) (st s : Nat) (m : GM) : vcS Tryz.prog [] s28_1 (vcN fun st' => ∃ sg sb, NW (rS p0 p1 (.ptr 3 sb 0 0) .any .any .any .any .any .any .any) (gObj st s m ++ [.map sg [], .row sb 1 [[.map 2 sg]]]) st') ⟨rS p0 p1 .any .any .any .any .any .any .any .any, gObj st s m⟩ := by
  skip
  simp +contextual -implicitDefEqProofs (maxSteps := 2000000) (disch := omega) only [↓storeV, ↓allocV, GVal.cells, List.take, List.drop, reduceAdd, reduceLeDiff, ↓makeMapV, allSolid, GVal.solid, splice, vcA, ↓vcB, vcC, fbFw, e28, vcN, NW, leG_any, rS]
  exact fun sg => ⟨rfl, fun sb => ⟨sg, sb, rfl, by simp [leG_self]⟩⟩
theorem rL1 (m : GM) (st s sg : Nat) (l : List Hs) (t : Tag) (ht : t = .nil → l = []) (hl : l.length ≤ 10000) : vcS Tryz.prog [] s28_9 (vcN (NW (rS (.ptr 0 st 0 0) .any (.ref [.map 2 sg]) .any .any .any .any .any .any .any) (gObj st s m ++ [.map sg (kvG encB (setM (setAll (inM m l))))]))) ⟨rS (.ptr 0 st 0 0) (.slice (hsG l) t) (.ref [.map 2 sg]) .any .any .any .any .any .any .any, gObj st s m ++ [.map sg []]⟩ := by
  have hfl : (inM m l).length ≤ l.length := List.length_filter_le _ _
  have cT := (gThere m st s l t ht (by omega)).keep2 rfl [.map sg []]
  rw [show (l.filter fun h => (look m h).isSome) = inM m l from rfl] at cT
  generalize inM m l = L at *
  skip
  simp +contextual -implicitDefEqProofs (maxSteps := 2000000) (disch := omega) only [List.map, vcA, ↓vcB, vcC, e28, rS]
  refine cT.mono ?_
  rintro g O' ⟨rfl, rfl⟩
  simp +contextual -implicitDefEqProofs (maxSteps := 2000000) (disch := omega) only [↓lenV, GVal.ofConst, vcA, ↓vcB, vcC, fbFw, hsG_len]
  refine vcSLoop_by (ι := { k : Nat // k ≤ L.length }) (fun k => ⟨rS (.ptr 0 st 0 0) .any (.ref [.map 2 sg]) (.slice (hsG L) .none) (.int .i64 L.length) (.int .i64 (k.1 : Nat)) .any .any .any .any, gObj st s m ++ [.map sg (kvG encB (setM (setAll (L.take k.1))))]⟩) (fun k => L.length - k.1) ?_ ?_
  · exact Into.first ⟨0, Nat.zero_le _⟩ ⟨[], by simp [kvG, setAll]⟩ (by simp [WL, leG_self, leG_any])
  · rintro ⟨k, hk⟩
    change k ≤ L.length at hk
    by_cases h : k < L.length
    · have d0 : ((k : Int) < (L.length : Int)) = True := eq_true (by omega)
      have eS := hsG_at L k h
      have eT : setAll (L.take (k + 1)) = setAdd (setAll (L.take k)) (L.getD k h0) := by rw [takeH h, setAll_snoc]
      generalize L.getD k h0 = x at *
      generalize setAll (L.take k) = S at *
      have em := mset_add S x
      rw [← eT] at em
      by_cases hx : x ∈ S
      · obtain ⟨i, hi, hv, hw⟩ := look_idx encB (setM S) x true (by rw [look_set, if_pos hx])
        have hw := hw true
        rw [em] at hw
        simp +contextual -implicitDefEqProofs (maxSteps := 2000000) (disch := omega) only [binV, ↓loadV, ↓storeV, ↓indexAddrV, ↓allocV, GVal.cells, grp, GVal.ofConst, List.headD, List.take, List.drop, reduceEqDiff, reduceAdd, reduceLeDiff, reduceCtorEq, implies_true, ↓mapUpdateV, keyOk, keyCells, GVal.solid, splice, vcA, ↓vcB, vcC, fbFw, rS, d0, eS, hsG_len, kfind_h, hi, hw, v32]
        refine ⟨by omega, fun sb => ?_⟩
        exact Into.at ⟨k + 1, h⟩ (by show _ < _; simp; omega) ⟨[.row sb 32 [bytesG x.1]], by simp⟩ (by simp [WL, leG_self, leG_any])
      · obtain ⟨hi, hw⟩ := look_none encB (setM S) x (by rw [look_set, if_neg hx])
        have hw := hw true
        rw [em] at hw
        simp +contextual -implicitDefEqProofs (maxSteps := 2000000) (disch := omega) only [binV, ↓loadV, ↓storeV, ↓indexAddrV, ↓allocV, GVal.cells, grp, GVal.ofConst, List.headD, List.take, List.drop, reduceEqDiff, reduceAdd, reduceLeDiff, reduceCtorEq, implies_true, ↓mapUpdateV, keyOk, keyCells, GVal.solid, splice, vcA, ↓vcB, vcC, fbFw, rS, d0, eS, hsG_len, kfind_h, hi, hw, v32]
        refine ⟨by omega, fun sb => ?_⟩
        exact Into.at ⟨k + 1, h⟩ (by show _ < _; simp; omega) ⟨[.row sb 32 [bytesG x.1]], by simp⟩ (by simp [WL, leG_self, leG_any])
    · have d0 : ((k : Int) < (L.length : Int)) = False := eq_false (by omega)
      rw [List.take_of_length_le (show L.length ≤ k by omega)]
      simp +contextual -implicitDefEqProofs (maxSteps := 2000000) (disch := omega) only [binV, ↓loadV, ↓storeV, ↓indexAddrV, ↓allocV, GVal.cells, grp, GVal.ofConst, List.headD, List.take, List.drop, ↓reduceIte, reduceEqDiff, reduceAdd, reduceLeDiff, reduceCtorEq, implies_true, ↓mapUpdateV, keyOk, keyCells, GVal.solid, splice, vcA, ↓vcB, vcC, fbFw, rS, d0, vcN, NW, leG_any]
end Gv.Tryz
/- Plain laws of GraphUnion. -/
set_option linter.unusedVariables false
set_option linter.unusedSimpArgs false
namespace Gv.Tryz
open Go Gv Go.Proofs
def keysS (m : GM) : List Hs := sortR (m.map (·.1))
theorem keysS_mem (m : GM) (z : Hs) : z ∈ keysS m ↔ (look m z).isSome = true := by
  unfold keysS
  rw [sortR_mem]
  exact ⟨key_look, look_key⟩
theorem keysS_len {m : GM} (h : (m.map (·.1)).Nodup) : (keysS m).length ≤ m.length := by
  unfold keysS
  have := sortR_len_le (m.map (·.1))
  rw [List.length_map] at this
  exact this
end Gv.Tryz
/- graph.Remove: may they go? -/
set_option linter.unusedVariables false
set_option linter.unusedSimpArgs false
set_option maxRecDepth 20000
set_option maxHeartbeats 4000000
namespace Gv.Tryz
open Go Gv Go.Proofs
open Nat (reduceEqDiff reduceAdd reduceSub reduceLeDiff reduceMul reduceLT)
def rmF (m : GM) (S : List Hs) (h : Hs) : Er := if h ∈ S then none else if (parsM m h).any (fun p => decide (p ∈ S)) = true then some (some h, 10) else none
def removeE (m : GM) (S : List Hs) : Er := (keysS m).findSome? (rmF m S)
def rmQ (E : Er) (S : List GVal) (O : List GObj) : Ex → GSt → Prop
  | .normal, st' => E = none ∧ NW S O st'
  | .ret, st' => ∃ X, E ≠ none ∧ st'.o = O ++ X ∧ sget st'.s 4 = errV E
  | .exit _, _ => False
theorem drop_cons_at {l : List Hs} {k : Nat} (h : k < l.length) : l.drop k = l.getD k h0 :: l.drop (k + 1) := by
  rw [List.drop_eq_getElem_cons h]
  simp [List.getD, h]
theorem rL2 (m : GM) (hm : GMOK m) (hk0 : (m.map (·.1)).Nodup) (st s sg : Nat) (S : List Hs) (hS : S.length ≤ 100000) : vcS Tryz.prog [] s28_19 (rmQ (removeE m S) (rS (.ptr 0 st 0 0) .any (.ref [.map 2 sg]) .any .any .any .any .any .any .any) (gObj st s m ++ [.map sg (kvG encB (setM S))])) ⟨rS (.ptr 0 st 0 0) .any (.ref [.map 2 sg]) .any .any .any .any .any .any .any, gObj st s m ++ [.map sg (kvG encB (setM S))]⟩ := by
  have hml := hm.len
  have cH := (L.gHashes11 m (by omega) st s).keep2 rfl [.map sg (kvG encB (setM S))]
  rw [show sortR (m.map (·.1)) = keysS m from rfl] at cH
  have hKl := keysS_len hk0
  obtain ⟨K, eK⟩ : ∃ K, keysS m = K := ⟨_, rfl⟩
  have hKm : ∀ h ∈ K, (look m h).isSome = true := fun h hh => (keysS_mem m h).1 (by rw [eK]; exact hh)
  rw [eK] at cH hKl
  have eR : removeE m S = K.findSome? (rmF m S) := by unfold removeE; rw [eK]
  rw [eR]
  clear eR eK
  skip
  simp +contextual -implicitDefEqProofs (maxSteps := 2000000) (disch := omega) only [List.map, vcA, ↓vcB, vcC, e28, rS]
  refine cH.mono ?_
  rintro g O' ⟨rfl, rfl⟩
  simp +contextual -implicitDefEqProofs (maxSteps := 2000000) (disch := omega) only [↓lenV, GVal.ofConst, vcA, ↓vcB, vcC, fbFw, hsG_len]
  refine vcSLoop_by (ι := { k : Nat // k ≤ K.length ∧ K.findSome? (rmF m S) = (K.drop k).findSome? (rmF m S) }) (fun k => ⟨rS (.ptr 0 st 0 0) .any (.ref [.map 2 sg]) .any .any .any (.slice (hsG K) .none) (.int .i64 K.length) (.int .i64 (k.1 : Nat)) .any, gObj st s m ++ [.map sg (kvG encB (setM S))]⟩) (fun k => K.length - k.1) ?_ ?_
  · exact Into.first ⟨0, Nat.zero_le _, by simp⟩ ⟨[], by simp⟩ (by simp [WL, leG_self, leG_any])
  · rintro ⟨k, hk, hf⟩
    change k ≤ K.length at hk
    change K.findSome? (rmF m S) = (K.drop k).findSome? (rmF m S) at hf
    by_cases h : k < K.length
    · have d0 : ((k : Int) < (K.length : Int)) = True := eq_true (by omega)
      have eS := hsG_at K k h
      have eD := drop_cons_at h
      have hin : K.getD k h0 ∈ K := by rw [List.getD_eq_getElem?_getD, List.getElem?_eq_getElem h]; exact List.getElem_mem h
      generalize K.getD k h0 = x at *
      rw [eD, List.findSome?_cons] at hf
      obtain ⟨ps, hps⟩ := Option.isSome_iff_exists.1 (hKm x hin)
      by_cases hx : x ∈ S
      · obtain ⟨i, hi, hv, _⟩ := look_idx encB (setM S) x true (by rw [look_set, if_pos hx])
        have eF : rmF m S x = none := if_pos hx
        rw [eF] at hf
        simp +contextual -implicitDefEqProofs (maxSteps := 2000000) (disch := omega) only [drawC, drawK, binV, ↓unV, ↓loadV, ↓storeV, ↓indexAddrV, ↓allocV, GVal.cells, grp, GVal.ofConst, List.headD, List.take, List.drop, reduceEqDiff, reduceAdd, reduceLeDiff, reduceCtorEq, implies_true, ↓lookupV, keyOk, keyCells, pairG, GVal.solid, splice, vcA, ↓vcB, vcC, fbFw, rS, d0, eS, hsG_len, kfind_h, hi, hv, v32]
        refine ⟨by omega, fun sb => ?_⟩
        exact Into.at ⟨k + 1, h, hf⟩ (by show _ < _; simp; omega) ⟨[.row sb 32 [bytesG x.1]], by simp⟩ (by simp [WL, leG_self, leG_any])
      · obtain ⟨hi, _⟩ := look_none encB (setM S) x (by rw [look_set, if_neg hx])
        obtain ⟨j, hj, hjv, _⟩ := look_idx encL m x ps hps
        have hpl : ps.length ≤ 4 := hm.row _ (look_mem hps)
        have cF := fun X => gContF (caps := [.ref [.map 2 sg]]) (gObj st s m ++ .map sg (kvG encB (setM S)) :: X) rfl (fun p => decide (p ∈ S)) (fun p => gRm1 _ _ X S p sg) ps .none (by omega)
        have ep : parsM m x = ps := by rw [parsM, hps]; rfl
        have eF : rmF m S x = if ps.any (fun p => decide (p ∈ S)) = true then some (some x, 10) else none := by unfold rmF; rw [if_neg hx, ep]
        rw [eF] at hf
        generalize ps.any (fun p => decide (p ∈ S)) = bb at *
        cases bb with
        | false =>
          rw [if_neg (by decide)] at hf
          simp +contextual -implicitDefEqProofs (maxSteps := 2000000) (disch := omega) only [drawC, drawK, binV, ↓unV, ↓loadV, ↓storeV, ↓fieldAddrV, ↓indexAddrV, ↓allocV, ↓nilV, GVal.cells, grp, List.map, List.headD, List.take, List.drop, reduceEqDiff, reduceAdd, reduceLeDiff, reduceCtorEq, implies_true, ↓lookupV, keyOk, keyCells, pairG, GVal.solid, splice, vcA, ↓vcB, vcC, fbFw, rS, d0, eS, hsG_len, kfind_h, hi, hj, hjv, v32]
          refine ⟨by omega, fun sb => ?_⟩
          refine (cF [.row sb 32 [bytesG x.1]]).mono ?_
          rintro g O' ⟨rfl, rfl⟩
          simp +contextual -implicitDefEqProofs (maxSteps := 2000000) (disch := omega) only [drawC, drawK, binV, GVal.ofConst, vcA, ↓vcB, vcC]
          exact Into.at ⟨k + 1, h, hf⟩ (by show _ < _; simp; omega) ⟨[.row sb 32 [bytesG x.1]], by simp⟩ (by simp [WL, leG_self, leG_any])
        | true =>
          rw [if_pos rfl] at hf
          simp +contextual -implicitDefEqProofs (maxSteps := 2000000) (disch := omega) only [drawC, drawK, binV, ↓unV, ↓loadV, ↓storeV, ↓fieldAddrV, ↓indexAddrV, ↓allocV, ↓nilV, GVal.cells, grp, List.map, List.headD, List.take, List.drop, reduceEqDiff, reduceAdd, reduceLeDiff, reduceCtorEq, implies_true, ↓lookupV, keyOk, keyCells, pairG, GVal.solid, splice, vcA, ↓vcB, vcC, fbFw, rS, d0, eS, hsG_len, kfind_h, hi, hj, hjv, v32]
          refine ⟨by omega, fun sb => ?_⟩
          refine (cF [.row sb 32 [bytesG x.1]]).mono ?_
          rintro g O' ⟨rfl, rfl⟩
          simp +contextual -implicitDefEqProofs (maxSteps := 2000000) (disch := omega) only [drawC, drawK, ↓loadV, ↓ifaceV, grp, GVal.ofConst, List.map, List.drop, reduceEqDiff, reduceLeDiff, reduceCtorEq, vcA, ↓vcB, vcC, fbFw, take32, len32]
          refine (gOf x 10).then ?_ (by rfl)
          simp +contextual -implicitDefEqProofs (maxSteps := 2000000) (disch := omega) only [ne_eq, vcA, ↓vcB, vcC, rmQ]
          exact ⟨[.row sb 32 [bytesG x.1]], by rw [hf]; simp, rfl, by rw [hf]; rfl⟩
    · have d0 : ((k : Int) < (K.length : Int)) = False := eq_false (by omega)
      rw [List.drop_of_length_le (show K.length ≤ k by omega)] at hf
      simp +contextual -implicitDefEqProofs (maxSteps := 2000000) (disch := omega) only [drawC, drawK, binV, ↓unV, ↓loadV, ↓storeV, ↓fieldAddrV, ↓indexAddrV, ↓allocV, ↓nilV, GVal.cells, grp, GVal.ofConst, List.map, List.headD, List.take, List.drop, ↓reduceIte, reduceEqDiff, reduceAdd, reduceLeDiff, reduceCtorEq, implies_true, ↓lookupV, keyOk, keyCells, pairG, GVal.solid, splice, vcA, ↓vcB, vcC, fbFw, rS, d0, rmQ, NW, leG_any]
      exact hf
end Gv.Tryz
/- Some of the objects, in another order. -/
set_option linter.unusedVariables false
namespace Gv
open Go
theorem HSim.pick {E : Env} {O X : List GObj} {w : World} (h : HSim E O w) (pl : List Nat) (hX : Fits O pl X) (hnd : pl.Nodup) (hc : clockOf X = none) : HSim E X w ∧ Keep E O w E X w := by
  have hpl : ∀ {i j k : Nat}, pl[i]? = some k → pl[j]? = some k → i = j := fun {i j k} hi hj => by
    obtain ⟨h1, e1⟩ := List.getElem?_eq_some_iff.1 hi
    obtain ⟨h2, e2⟩ := List.getElem?_eq_some_iff.1 hj
    have hp := List.pairwise_iff_getElem.1 hnd
    rcases Nat.lt_trichotomy i j with q | q | q
    · exact absurd (e1.trans e2.symm) (hp i j h1 h2 q)
    · exact q
    · exact absurd (e2.trans e1.symm) (hp j i h2 h1 q)
  refine ⟨⟨?_, h.sealed, h.one, fun i x hx => ?_, fun i j oi oj b hij hi hj hbi hbj => ?_, h.glob⟩, ⟨.refl E, rfl, rfl, Nat.le_refl _, fun _ _ _ => rfl, fun _ _ _ hv => .inl hv, fun b ⟨i, x, hx, hb⟩ => ?_, trivial⟩⟩
  · obtain ⟨n, _, q⟩ := h.fin
    exact ⟨n, (fun c e => by rw [hc] at e; cases e), q⟩
  · obtain ⟨j, y, _, hy, hle⟩ := hX.at_ i x hx
    exact hle.real E w (h.real j y hy)
  · obtain ⟨i', yi, pi, hyi, li⟩ := hX.at_ i oi hi
    obtain ⟨j', yj, pj, hyj, lj⟩ := hX.at_ j oj hj
    rw [li.blk] at hbi
    rw [lj.blk] at hbj
    refine h.sep i' j' yi yj b (fun e => hij ?_) hyi hyj hbi hbj
    rw [e] at pi
    exact hpl pi pj
  · obtain ⟨j, y, _, hy, hle⟩ := hX.at_ i x hx
    exact .inl ⟨j, y, hy, by rw [← hle.blk]; exact hb⟩
end Gv
/- A contract over some objects, used among others. -/
set_option linter.unusedVariables false
namespace Gv
open Go
def FitsR (O : List GObj) : List Nat → List GObj → Prop
  | [], [] => True
  | j :: pl, x :: r => (∃ y, O[j]? = some y ∧ OLe x y) ∧ FitsR O pl r
  | _, _ => False
theorem FitsR.at_ {O : List GObj} : ∀ {pl : List Nat} {X : List GObj}, FitsR O pl X → ∀ (i j : Nat), pl[i]? = some j → ∃ x y, X[i]? = some x ∧ O[j]? = some y ∧ OLe x y
  | [], [], _, i, j, h => by simp at h
  | j :: pl, x :: r, h, 0, k, hk => by simp at hk; subst hk; obtain ⟨y, h1, h2⟩ := h.1; exact ⟨x, y, rfl, h1, h2⟩
  | j :: pl, x :: r, h, i + 1, k, hk => by simpa using FitsR.at_ h.2 i k (by simpa using hk)
  | [], _ :: _, h, _, _, _ => h.elim
  | _ :: _, [], h, _, _, _ => h.elim
theorem GInto.pick {g : GVal} {O X : List GObj} {N : GVal → List GObj → Prop} (pl : List Nat) (hX : Fits O pl X) (hnd : pl.Nodup) (hc : clockOf X = none) (h : N g X) : GInto g O N := fun E v w hs hv => by
  obtain ⟨h1, h2⟩ := hs.pick pl hX hnd hc
  exact ⟨g, X, E, h, h1, h2, hv⟩
structure VCs (P : Program) (R : List Nat) (s : SCode) (Q : Ex → GSt → Prop) (st : GSt) : Prop where
  ok : vcS P R s Q st
theorem wp_partV {P : Program} {E : Env} {st : GSt} {a : Act} {w : World} {C : Cfg} (hmix : P.follows .mixedOrders = true) {c : Code} {s : SCode} (hs : slim C c = some s) (hc : codeOk C c = true) (h : HSim E st.o w) (ha : SlotsR E a st.s) {N : GSt → Prop} (hv : VCs P C.ro s (vcN N) st) {Q : Exit → Act → World → Prop}
    (hn : ∀ st' E' a' w', HSim E' st'.o w' → Keep E st.o w E' st'.o w' → SlotsR E' a' st'.s → N st' → Q .normal a' w') : c.wp P Q a w := wp_part hmix hs hc h ha hv.ok hn
end Gv
/- graph.Remove: the contract. -/
set_option linter.unusedVariables false
set_option linter.unusedSimpArgs false
set_option maxRecDepth 20000
set_option maxHeartbeats 4000000
namespace Gv.Tryz
open Go Gv Go.Proofs
open Nat (reduceEqDiff reduceAdd reduceSub reduceLeDiff reduceMul reduceLT)
def mdel : GM → Hs → GM
  | [], _ => []
  | p :: r, h => if h = p.1 then r else p :: mdel r h
theorem mdel_at : ∀ (M : GM) (h : Hs) (i : Nat), idxM M h = some i → (kvG encL M).eraseIdx i = kvG encL (mdel M h)
  | [], h, i, e => by cases e
  | p :: r, h, i, e => by
    rw [idxM] at e
    rw [mdel]
    by_cases hp : h = p.1
    · rw [if_pos hp] at e ⊢
      cases e
      rfl
    · rw [if_neg hp] at e ⊢
      cases hi : idxM r h with
      | none => rw [hi] at e; cases e
      | some j =>
        rw [hi] at e
        cases e
        have := mdel_at r h j hi
        simp only [kvG, List.map_cons, List.eraseIdx_cons_succ] at this ⊢
        rw [this]
theorem mdel_no : ∀ (M : GM) (h : Hs), idxM M h = none → mdel M h = M
  | [], h, e => rfl
  | p :: r, h, e => by
    rw [idxM] at e
    rw [mdel]
    by_cases hp : h = p.1
    · rw [if_pos hp] at e; cases e
    · rw [if_neg hp] at e ⊢
      cases hi : idxM r h with
      | none => rw [mdel_no r h hi]
      | some j => rw [hi] at e; cases e
theorem mdel_filter : ∀ (M : GM) (h : Hs), (M.map (·.1)).Nodup → mdel M h = M.filter fun p => !decide (p.1 = h)
  | [], h, _ => rfl
  | p :: r, h, hn => by
    rw [List.map_cons, List.nodup_cons] at hn
    rw [mdel]
    by_cases hp : h = p.1
    · have : (r.filter fun q => !decide (q.1 = h)) = r := List.filter_eq_self.2 fun q hq => by
        have : q.1 ≠ h := fun e => hn.1 (by rw [← hp, ← e]; exact List.mem_map_of_mem hq)
        simp [this]
      rw [if_pos hp, List.filter_cons, this]
      simp [hp]
    · have hp' : ¬ p.1 = h := fun e => hp e.symm
      rw [if_neg hp, mdel_filter r h hn.2, List.filter_cons]
      simp [hp']
def dropM (m : GM) (S : List Hs) : GM := m.filter fun p => !decide (p.1 ∈ S)
theorem dropM_nd {m : GM} (h : (m.map (·.1)).Nodup) (S : List Hs) : ((dropM m S).map (·.1)).Nodup := h.sublist (List.Sublist.map _ List.filter_sublist)
theorem dropM_snoc {m : GM} (hm : (m.map (·.1)).Nodup) (S : List Hs) (h : Hs) : mdel (dropM m S) h = dropM m (S ++ [h]) := by
  rw [mdel_filter _ _ (dropM_nd hm S), dropM, dropM, List.filter_filter]
  refine List.filter_congr fun p _ => ?_
  by_cases a : p.1 = h <;> by_cases b : p.1 ∈ S <;> simp [a, b]
theorem dropM_perm {m : GM} {S T : List Hs} (h : ∀ x, x ∈ S ↔ x ∈ T) : dropM m S = dropM m T := List.filter_congr fun p _ => by rw [decide_eq_decide.2 (h p.1)]
def removeM (m : GM) (S : List Hs) : GM := match removeE m S with
  | some _ => m
  | none => dropM m S
abbrev C23 : Cfg := cfgOf h28
theorem rR20 (m : GM) (st s sg : Nat) (kv : List (GVal × GVal)) : VCs Tryz.prog [] s28_20 (vcN fun st' => ∃ s', NW (rS (.ptr 0 st 0 0) .any (.ref [.map 2 sg]) .any .any .any .any .any .any .any) [.row st 1 [[.map 3 s']], .map s (kvG encL m), .map sg kv, .map s' (kvG encL m)] st') ⟨rS (.ptr 0 st 0 0) .any (.ref [.map 2 sg]) .any .any .any .any .any .any .any, gObj st s m ++ [.map sg kv]⟩ := by
  refine ⟨?_⟩
  have cC := cMapClone (O := gObj st s m ++ [.map sg kv]) (o := 1) (st := s) (kv := kvG encL m) rfl rfl
  skip
  simp +contextual -implicitDefEqProofs (maxSteps := 2000000) (disch := omega) only [↓loadV, ↓fieldAddrV, ↓nilV, grp, List.map, List.headD, List.take, List.drop, reduceLeDiff, implies_true, vcA, ↓vcB, vcC, fbFw, e28, rS]
  refine cC.mono ?_
  rintro g O' ⟨s', rfl, rfl⟩
  simp +contextual -implicitDefEqProofs (maxSteps := 2000000) (disch := omega) only [↓storeV, ↓fieldAddrV, ↓nilV, GVal.cells, List.take, List.drop, reduceAdd, reduceLeDiff, allSolid, GVal.solid, splice, vcA, ↓vcB, vcC, fbFw, vcN, NW, leG_any]
  exact ⟨s', rfl⟩
theorem rR21 (p0 p1 : GVal) (sg : Nat) (O : List GObj) : opsS Tryz.prog [] [(.mk (some 56) (.load 88 (.tmp 5)) none)] (NW ((rS p0 p1 .any .any .any .any .any .any .any .any).set 56 (.map 2 sg)) O) ⟨rS p0 p1 (.ref [.map 2 sg]) .any .any .any .any .any .any .any, O⟩ := by
  skip
  simp +contextual -implicitDefEqProofs (maxSteps := 2000000) (disch := omega) only [↓loadV, grp, List.headD, List.take, reduceLeDiff, implies_true, vcA, ↓vcB, vcC, fbFw, rS, NW, leG_any]
theorem rR22 (p0 p1 x57 : GVal) (b : Bool) (r : List GVal) (O : List GObj) : opsS Tryz.prog [] [(.mk (some 59) (.extract (.tmp 58) 0) none)] (NW ((rS p0 p1 .any .any .any .any .any .any .any x57).set 59 (.bool b)) O) ⟨(rS p0 p1 .any .any .any .any .any .any .any x57).set 58 (.tuple (.bool b :: r)), O⟩ := by
  skip
  simp +contextual -implicitDefEqProofs (maxSteps := 2000000) (disch := omega) only [vcA, ↓vcB, vcC, rS, NW, leG_any]
theorem rR23 (p0 p1 x57 y : GVal) (h : Hs) (O : List GObj) (hst : ∀ K : Nat → Prop, stamp O K = ∀ st, K st) (htk : tickO O = O) : opsS Tryz.prog [] [(.mk (some 61) (.extract (.tmp 60) 0) none), (.mk (some 10) (.alloc 40) none), (.mk none (.store 40 (.tmp 10) (.tmp 61)) none)]
    (fun st' => ∃ v, NW ((rS p0 p1 .any .any .any .any .any .any .any x57).set 10 (.ptr O.length v 0 0)) (O ++ [.row v 32 [bytesG h.1]]) st') ⟨(rS p0 p1 .any .any .any .any .any .any .any x57).set 60 (.tuple [.agg (bytesG h.1), y]), O⟩ := by
  have hO : ∀ x : GObj, (O ++ [x])[O.length]? = some x := fun x => by simp
  have hS : ∀ x y : GObj, (O ++ [x]).set O.length y = O ++ [y] := fun x y => by simp
  skip
  simp +contextual -implicitDefEqProofs (maxSteps := 2000000) (disch := omega) only [↓storeV, ↓allocV, GVal.cells, List.take, List.drop, reduceAdd, reduceLeDiff, GVal.solid, splice, vcA, ↓vcB, vcC, fbFw, NW, leG_any, rS, hst, htk, hO, hS, len32, solidH]
  first
    | exact fun v => ⟨v, rfl, by rw [leG_self]; trivial⟩
    | exact fun v => ⟨v, rfl⟩
theorem rR24 (p1 x57 : GVal) (h : Hs) (st v s' : Nat) (r1 : GObj) (M : GM) : vcS Tryz.prog [] s28_24 (vcN (NW (rS (.ptr 0 st 0 0) p1 .any .any .any .any .any .any .any x57) [.row st 1 [[.map 3 s']], r1, .dead, .map s' (kvG encL (mdel M h)), .row v 32 [bytesG h.1]])) ⟨(rS (.ptr 0 st 0 0) p1 .any .any .any .any .any .any .any x57).set 10 (.ptr 4 v 0 0), [.row st 1 [[.map 3 s']], r1, .dead, .map s' (kvG encL M), .row v 32 [bytesG h.1]]⟩ := by
  cases hi : idxM M h with
  | some i =>
    have e := mdel_at M h i hi
    skip
    simp +contextual -implicitDefEqProofs (maxSteps := 2000000) (disch := omega) only [drawC, drawK, ↓loadV, ↓fieldAddrV, ↓nilV, grp, List.headD, List.take, List.drop, reduceEqDiff, reduceAdd, reduceLeDiff, reduceCtorEq, implies_true, ↓deleteV, keyOk, keyCells, vcA, ↓vcB, vcC, fbFw, e28, vcN, NW, leG_any, rS, len32, take32, kfind_h, hi, e]
  | none =>
    have e := mdel_no M h hi
    rw [e]
    skip
    simp +contextual -implicitDefEqProofs (maxSteps := 2000000) (disch := omega) only [drawC, drawK, ↓loadV, ↓fieldAddrV, ↓nilV, grp, List.headD, List.take, List.drop, reduceEqDiff, reduceAdd, reduceLeDiff, reduceCtorEq, implies_true, ↓deleteV, keyOk, keyCells, vcA, ↓vcB, vcC, fbFw, e28, vcN, NW, leG_any, rS, len32, take32, kfind_h, hi]
end Gv.Tryz
/- graph.Descendants: put together. -/
set_option linter.unusedVariables false
set_option linter.unusedSimpArgs false
set_option maxRecDepth 20000
set_option maxHeartbeats 4000000
namespace Gv.Tryz
open Go Gv Go.Proofs
theorem ent_fn {β : Type} (R : MapEntry → β → Prop) : ∀ (l : List MapEntry) (m : List β), l.Nodup → l.length = m.length → (∀ (i : Nat) e p, l[i]? = some e → m[i]? = some p → R e p) → (hβ : Nonempty β) → ∃ f : MapEntry → β, l.map f = m ∧ ∀ e ∈ l, R e (f e)
  | [], [], _, _, _, ⟨b⟩ => ⟨fun _ => b, rfl, by simp⟩
  | [], _ :: _, _, h, _, _ => by simp at h
  | _ :: _, [], _, h, _, _ => by simp at h
  | e :: l, p :: m, hn, hl, hR, hb => by
    classical
    obtain ⟨h1, h2⟩ := List.nodup_cons.1 hn
    obtain ⟨f, hf, hr⟩ := ent_fn R l m h2 (by simpa using hl) (fun i x y hx hy => hR (i + 1) x y (by simpa using hx) (by simpa using hy)) hb
    refine ⟨fun x => if x = e then p else f x, ?_, fun x hx => ?_⟩
    · rw [List.map_cons, if_pos rfl, ← hf]
      congr 1
      refine List.map_congr_left fun x hx => ?_
      have hne : x ≠ e := fun q => h1 (by rw [← q]; exact hx)
      show (if x = e then p else f x) = f x
      rw [if_neg hne]
    · rcases List.mem_cons.1 hx with rfl | hx
      · show R x (if x = x then p else f x)
        rw [if_pos rfl]; exact hR 0 _ _ rfl rfl
      · have hne : x ≠ e := fun q => h1 (by rw [← q]; exact hx)
        show R x (if x = e then p else f x)
        rw [if_neg hne]; exact hr x hx
end Gv.Tryz
/- graph.Remove: put together. -/
set_option linter.unusedVariables false
set_option linter.unusedSimpArgs false
set_option maxRecDepth 20000
set_option maxHeartbeats 4000000
namespace Gv.Tryz
open Go Gv Go.Proofs
structure RW where
  (b r : Nat)
  es : Array MapEntry
  clock : Nat
  E0 : Env
  O0 : List GObj
  w0 : World
structure AtR (D : RW) (seen : Array Nat) (E : Env) (O : List GObj) (w : World) : Prop where
  sim : HSim E O w
  keep : Keep D.E0 D.O0 D.w0 E O w
  walk : WalkAt w D.b D.r D.es D.clock seen
  hb : Hid E O w D.b
  hr : Hid E O w D.r
theorem AtR.step {D : RW} {seen : Array Nat} {E E' : Env} {O O' : List GObj} {w w' : World} (h : AtR D seen E O w) (h' : HSim E' O' w') (k : Keep E O w E' O' w') : AtR D seen E' O' w' :=
  ⟨h', h.keep.trans k, walk_same h.walk (h.hb.keep k).2 (h.hr.keep k).2, (h.hb.keep k).1, (h.hr.keep k).1⟩
theorem AtR.poke {D : RW} (hr0 : D.w0.heap.size ≤ D.r) {seen seen' : Array Nat} {E : Env} {O : List GObj} {w w' : World} (h : AtR D seen E O w) (g : w.grownBy w' (some D.r)) (hw : WalkAt w' D.b D.r D.es D.clock seen') : AtR D seen' E O w' :=
  ⟨h.sim.grown g (fun r e => by cases e; exact ⟨h.hr.obj, h.hr.snap⟩), h.keep.grown g (fun r e => by cases e; exact hr0), hw, h.hb.grown g, h.hr.grown g⟩
abbrev rmO (st s s' : Nat) (m M : GM) : List GObj := [.row st 1 [[.map 3 s']], .map s (kvG encL m), .dead, .map s' (kvG encL M)]
theorem rLoop {Q : Exit → Act → World → Prop} (D : RW) (hD : BornOK D.es D.clock) (hr0 : D.w0.heap.size ≤ D.r) (m : GM) (hm : (m.map (·.1)).Nodup) (S : List Hs) (st s s' : Nat) (f : MapEntry → Hs × Bool) (hf : D.es.toList.map f = setM S) (hfe : ∀ e ∈ D.es.toList, EntryOK D.E0 e (.agg (bytesG (f e).1.1), encB (f e).2))
    {c24 : Code} {id22 id23 : Nat} {n1 n2 e1 e2 e3 e4 : Oper}
    (hn1 : n1.op = .next (.tmp 57) false ∧ n1.guard = none ∧ n1.dst = some 58) (hn2 : [n2].map (fun o => (⟨o.dst, o.op, none⟩ : SOp)) = [(.mk (some 59) (.extract (.tmp 58) 0) none)]) (gn2 : [n2].all (fun o => o.guard.isNone) = true)
    (he1 : e1.op = .entry (.tmp 57) ∧ e1.guard = none ∧ e1.dst = some 60) (he2 : [e2, e3, e4].map (fun o => (⟨o.dst, o.op, none⟩ : SOp)) = [(.mk (some 61) (.extract (.tmp 60) 0) none), (.mk (some 10) (.alloc 40) none), (.mk none (.store 40 (.tmp 10) (.tmp 61)) none)]) (ge2 : [e2, e3, e4].all (fun o => o.guard.isNone) = true)
    {CC : Cfg} (hro : CC.ro = []) (s24 : slim CC c24 = some s28_24) (k24 : codeOk CC c24 = true)
    {E : Env} {a : Act} {w : World} (hA : AtR D #[] E (rmO st s s' m m) w) {p1 : GVal}
    (ha : SlotsR E a (rS (.ptr 0 st 0 0) p1 .any .any .any .any .any .any .any (.lit (.pointer (some ⟨D.r, 0, none⟩)))))
    (hq : ∀ seen T E' a' w', (∀ x, x ∈ T ↔ x ∈ S) → AtR D seen E' (rmO st s s' m (dropM m T)) w' → SlotsR E' a' (rS (.ptr 0 st 0 0) p1 .any .any .any .any .any .any .any .any) → Q (.exit 4) a' w') :
    (Code.loop ((Code.region id22 #[n1, n2] false).seq ((Code.cond (.tmp 59) .skip (.exit 4)).seq (Code.block 5 ((Code.region id23 #[e1, e2, e3, e4] false).seq c24))))).wp Tryz.prog Q a w := by
  obtain ⟨x57, e57⟩ : ∃ x : GVal, .lit (.pointer (some ⟨D.r, 0, none⟩)) = x := ⟨_, rfl⟩
  have lit57 : ∀ {E : Env} {a : Act} {S : List GVal}, SlotsR E a S → S.getD 57 .any = x57 → a.eval (.tmp 57) = .pointer (some ⟨D.r, 0, none⟩) := by
    intro E a S h hx
    have := SlotsR.ev (st := ⟨S, []⟩) h (.tmp 57)
    change VR E _ (S.getD 57 .any) at this
    rw [hx, ← e57] at this
    generalize a.eval (.tmp 57) = v at this
    cases this; rfl
  rw [e57] at ha
  refine wp_loop_ghost (fun n a w => ∃ seen xs E, Came D.es seen xs ∧ w.rangeLeft D.b D.r = n ∧ AtR D seen E (rmO st s s' m (dropM m (xs.map fun e => (f e).1))) w ∧ SlotsR E a (rS (.ptr 0 st 0 0) p1 .any .any .any .any .any .any .any x57)) _ ⟨#[], [], E, Came.nil _, rfl, by
    have : dropM m ([].map fun e => (f e).1) = m := List.filter_eq_self.2 fun p _ => by simp
    rw [this]; exact hA, ha⟩ ?_
  rintro n a1 w1 ⟨seen, xs, E1, hC, rfl, hA1, s1⟩
  obtain ⟨M, eM⟩ : ∃ M, dropM m (xs.map fun e => (f e).1) = M := ⟨_, rfl⟩
  rw [eM] at hA1
  refine wp_seq (wp_region_lit (next_step hn1.2.1 hn1.1 hD hC (lit57 s1 rfl) hA1.walk ?_ ?_))
  · intro hp
    rw [hn1.2.2]
    have hvt : VR E1 (.tuple #[.bool false]) (.tuple [.bool false]) := .tuple _ _ rfl (fun j g hj => by
      match j with
      | 0 => cases hj; exact .bool _
      | j + 1 => simp at hj)
    have s2 := (SlotsR.put (st := ⟨_, []⟩) s1 (.refl E1) (d := some 58) hvt [])
    refine ops_seg (st := ⟨(rS (.ptr 0 st 0 0) p1 .any .any .any .any .any .any .any x57).set 58 (.tuple [.bool false]), rmO st s s' m M⟩) 1 hn2 gn2 hA1.sim s2 (rR22 _ p1 x57 false [] _) ?_
    rintro ⟨t2, O2⟩ E2 a2 w2 q2 k2 s2R ⟨e2', hw2⟩
    change O2 = rmO st s s' m M at e2'
    subst e2'
    have s3 := s2R.weak hw2
    have hc : a2.eval (.tmp 59) = .bool false := by
      have : VR E2 (a2.eval (.tmp 59)) (.bool false) := SlotsR.ev (st := ⟨_, []⟩) s3 (.tmp 59)
      generalize a2.eval (.tmp 59) = v at this
      cases this; rfl
    refine wpList_nil ?_
    show (Code.seq _ _).wp _ _ _ _
    refine wp_seq (wp_cond_split hc (fun ht => by cases ht) (fun _ => wp_exit ?_))
    refine hq seen (xs.map fun e => (f e).1) E2 a2 w2 ?_ (by rw [eM]; exact hA1.step q2 k2) (s3.weak (by simp [WL, leG_self, leG_any]))
    intro x
    have h1 : (xs.map fun e => (f e).1).Perm S := by
      have h2 := (hp.map f).map (·.1)
      rw [hf, List.map_map] at h2
      simpa [setM, Function.comp_def] using h2
    exact h1.mem_iff
  · intro e w' hem hC2 hlt hwk hmu hg hent
    rw [hn1.2.2]
    have hA' := hA1.poke hr0 hg hwk
    have hvt : VR E1 (.tuple #[.bool true, e.key, e.val]) (.tuple [.bool true, .any, .any]) := .tuple _ _ rfl (fun j g hj => by
      match j with
      | 0 => cases hj; exact .bool _
      | 1 => cases hj; exact .any _
      | 2 => cases hj; exact .any _
      | j + 3 => simp at hj)
    have s2 := (SlotsR.put (st := ⟨_, []⟩) s1 (.refl E1) (d := some 58) hvt [])
    refine ops_seg (st := ⟨(rS (.ptr 0 st 0 0) p1 .any .any .any .any .any .any .any x57).set 58 (.tuple [.bool true, .any, .any]), rmO st s s' m M⟩) 1 hn2 gn2 hA'.sim s2 (rR22 _ p1 x57 true [.any, .any] _) ?_
    rintro ⟨t2, O2⟩ E2 a2 w2 q2 k2 s2R ⟨e2', hw2⟩
    change O2 = rmO st s s' m M at e2'
    subst e2'
    have s3 := s2R.weak hw2
    have hc : a2.eval (.tmp 59) = .bool true := by
      have : VR E2 (a2.eval (.tmp 59)) (.bool true) := SlotsR.ev (st := ⟨_, []⟩) s3 (.tmp 59)
      generalize a2.eval (.tmp 59) = v at this
      cases this; rfl
    have hA2 := hA'.step q2 k2
    have hent2 := hent w2 (hA'.hb.keep k2).2 (hA'.hr.keep k2).2
    refine wpList_nil ?_
    show (Code.seq _ _).wp _ _ _ _
    refine wp_seq (wp_cond_split hc (fun ht => wp_skip ?_) (fun hf => by cases hf))
    show (Code.block _ _).wp _ _ _ _
    refine wp_block (wp_seq (wp_region_lit (entry_step he1.2.1 he1.1 (lit57 s3 rfl) hent2 ?_)))
    rw [he1.2.2]
    obtain ⟨hv1, hv2⟩ := hfe e hem
    obtain ⟨h, eh⟩ : ∃ h, (f e).1 = h := ⟨_, rfl⟩
    rw [eh] at hv1
    have hvt2 : VR E2 (.tuple #[e.key, e.val]) (.tuple [.agg (bytesG h.1), .any]) := .tuple _ _ rfl (fun j g hj => by
      match j with
      | 0 => cases hj; exact hv1.mono hA2.keep.ext
      | 1 => cases hj; exact .any _
      | j + 2 => simp at hj)
    have s4 := (SlotsR.put (st := ⟨_, []⟩) s3 (.refl E2) (d := some 60) hvt2 []).weak (s' := (rS (.ptr 0 st 0 0) p1 .any .any .any .any .any .any .any x57).set 60 (.tuple [.agg (bytesG h.1), .any])) (by simp [GSt.put, WL, leG_self, leG_any])
    refine ops_seg (st := ⟨(rS (.ptr 0 st 0 0) p1 .any .any .any .any .any .any .any x57).set 60 (.tuple [.agg (bytesG h.1), .any]), rmO st s s' m M⟩) 3 he2 ge2 hA2.sim s4 (rR23 _ p1 x57 .any h _ (fun _ => rfl) rfl) ?_
    rintro ⟨t3, O3⟩ E3 a3 w3 q3 k3 s3R ⟨v, e3', hw3⟩
    change O3 = rmO st s s' m M ++ [.row v 32 [bytesG h.1]] at e3'
    subst e3'
    have s5 := s3R.weak hw3
    refine wpList_nil ?_
    refine wp_part (C := CC) (st := ⟨(rS (.ptr 0 st 0 0) p1 .any .any .any .any .any .any .any x57).set 10 (.ptr 4 v 0 0), [.row st 1 [[.map 3 s']], .map s (kvG encL m), .dead, .map s' (kvG encL M), .row v 32 [bytesG h.1]]⟩) mixS s24 k24 q3 s5 (by rw [hro]; exact rR24 p1 x57 h st v s' _ M) ?_
    rintro ⟨t4, O4⟩ E4 a4 w4 q4 k4 s4R ⟨e4', hw4⟩
    change O4 = rmO st s s' m (mdel M h) ++ [.row v 32 [bytesG h.1]] at e4'
    subst e4'
    obtain ⟨q5, k5⟩ := q4.drop
    have hA5 := hA2.step q5 ((k3.trans k4).trans k5)
    refine ⟨w4.rangeLeft D.b D.r, ?_, _, xs ++ [e], E4, hC2, rfl, ?_, s4R.weak hw4⟩
    · rw [hA5.walk.left_eq, ← hwk.left_eq]; exact hmu
    · rw [List.map_append, List.map_cons, List.map_nil, ← dropM_snoc hm, eM, eh]
      exact hA5
end Gv.Tryz
/- graph.Remove: the contract. -/
set_option linter.unusedVariables false
set_option linter.unusedSimpArgs false
set_option maxRecDepth 20000
set_option maxHeartbeats 400000
namespace Gv.Tryz
open Go Gv Go.Proofs
theorem rEnd (p0 p1 : GVal) (O : List GObj) (K : GVal → List GObj → Prop) (h : K (.lit .nilIface) O) : vcS Tryz.prog [] (.seq s28_27 .ret) (retQ Tryz.prog [.tmp 4] K) ⟨rS p0 p1 .any .any .any .any .any .any .any .any, O⟩ := by
  skip
  simp +contextual -implicitDefEqProofs (maxSteps := 2000000) (disch := omega) only [GVal.ofConst, ↓resV, resG, vcA, ↓vcB, e28, rS]
  exact h
theorem gRemove (m : GM) (hm : GMOK m) (hk : (m.map (·.1)).Nodup) (st s : Nat) (l : List Hs) (t : Tag) (ht : t = .nil → l = []) (hl : l.length ≤ 10000) : GCalls Tryz.prog 28 [.ptr 0 st 0 0, .slice (hsG l) t] (gObj st s m) (fun g O' => g = errV (removeE m (setAll (inM m l))) ∧ ∃ s', O' = gObj st s' (removeM m (setAll (inM m l)))) := by
  have hSl : (setAll (inM m l)).length ≤ 100000 := by
    have h1 := setAll_len (inM m l)
    have h2 : (inM m l).length ≤ l.length := List.length_filter_le _ _
    omega
  have cL1 := fun sg => rL1 m st s sg l t ht hl
  generalize setAll (inM m l) = S at *
  have cL2 := fun sg => rL2 m hm hk st s sg S hSl
  refine GCalls.dropTo ?_
  refine gcalls_of_wp (hf := Tryz.func28) (hb := rfl) (hn := Tryz.ntmps28) (hr := Tryz.results28) (hen := by kernel_rfl) (hargs := by simp) ?_
  intro E a w hs ha
  refine wp_seq (wp_part (st := ⟨(gstart 67 [.ptr 0 st 0 0, .slice (hsG l) t] []).s, gObj st s m⟩) mixS (s := s28_0) (C := C0) (by kernel_rfl) (by kernel_rfl) hs ha (rR0 _ _ _) ?_)
  rintro ⟨t1, O1⟩ E1 a1 w1 q1 k1 s1R ⟨e1, hw1⟩
  change O1 = gObj st s m at e1
  subst e1
  have s1 := s1R.weak hw1
  show (Code.seq _ _).wp _ _ _ _
  refine wp_seq (wp_part (st := ⟨rS (.ptr 0 st 0 0) (.slice (hsG l) t) .any .any .any .any .any .any .any .any, gObj st s m⟩) mixS (s := s28_1) (C := C0) (by kernel_rfl) (by kernel_rfl) q1 s1 (rR1 _ _ _ _ _) ?_)
  rintro ⟨t2, O2⟩ E2 a2 w2 q2 k2 s2R ⟨sg, sb, e2, hw2⟩
  change O2 = (gObj st s m ++ [.map sg []]) ++ [.row sb 1 [[.map 2 sg]]] at e2
  subst e2
  obtain ⟨q3, k3, s3⟩ := q2.meltBox1 (s2R.weak hw2) 5 rfl rfl
  have k03 := (k1.trans k2).trans k3
  show (Code.seq _ _).wp _ _ _ _
  refine wp_seq (wp_part (st := ⟨rS (.ptr 0 st 0 0) (.slice (hsG l) t) (.ref [.map 2 sg]) .any .any .any .any .any .any .any, gObj st s m ++ [.map sg []]⟩) mixS (s := s28_9) (C := C0) (by kernel_rfl) (by kernel_rfl) q3 (s3.weak (by simp [WL, leG_self])) (cL1 sg) ?_)
  rintro ⟨t4, O4⟩ E4 a4 w4 q4 k4 s4R ⟨e4, hw4⟩
  change O4 = gObj st s m ++ [.map sg (kvG encB (setM S))] at e4
  subst e4
  have s4 := s4R.weak hw4
  have k04 := k03.trans k4
  show (Code.seq _ _).wp _ _ _ _
  refine wp_seq (wp_mono (vc_sound mixS (C := C23) _ (rmQ (removeE m S) (rS (.ptr 0 st 0 0) .any (.ref [.map 2 sg]) .any .any .any .any .any .any .any) (gObj st s m ++ [.map sg (kvG encB (setM S))])) ⟨rS (.ptr 0 st 0 0) .any (.ref [.map 2 sg]) .any .any .any .any .any .any .any, gObj st s m ++ [.map sg (kvG encB (setM S))]⟩ E4 a4 w4 (by kernel_rfl) q4 s4 (vcS_ok (C := C23) _ _ _ _ _ (by kernel_rfl) (fun _ _ h => h) (cL2 sg))) ?_)
  rintro e a5 w5 ⟨ex, ⟨t5, O5⟩, E5, hx, q5, k5, s5R, h5⟩
  cases e <;> cases ex <;> first | exact hx.elim | exact h5.elim | skip
  · -- they may
    obtain ⟨eE, e5, hw5⟩ := h5
    change O5 = gObj st s m ++ [.map sg (kvG encB (setM S))] at e5
    subst e5
    have s5 := s5R.weak hw5
    have k05 := k04.trans k5
    show (Code.seq _ _).wp _ _ _ _
    refine wp_seq (wp_partV (st := ⟨rS (.ptr 0 st 0 0) .any (.ref [.map 2 sg]) .any .any .any .any .any .any .any, gObj st s m ++ [.map sg (kvG encB (setM S))]⟩) mixS (s := s28_20) (C := C0) (by kernel_rfl) (by kernel_rfl) q5 s5 (rR20 m st s sg (kvG encB (setM S))) ?_)
    rintro ⟨t6, O6⟩ E6 a6 w6 q6 k6 s6R ⟨s', e6, hw6⟩
    change O6 = [.row st 1 [[.map 3 s']], .map s (kvG encL m), .map sg (kvG encB (setM S)), .map s' (kvG encL m)] at e6
    subst e6
    have s6 := s6R.weak hw6
    have k06 := k05.trans k6
    show (Code.seq _ _).wp _ _ _ _
    refine wp_seq (wp_seq (wp_region_lit (ops_seg (st := ⟨rS (.ptr 0 st 0 0) .any (.ref [.map 2 sg]) .any .any .any .any .any .any .any, [.row st 1 [[.map 3 s']], .map s (kvG encL m), .map sg (kvG encB (setM S)), .map s' (kvG encL m)]⟩) 1 rfl rfl q6 s6 (rR21 _ _ _ _) ?_)))
    rintro ⟨t7, O7⟩ E7 a7 w7 q7 k7 s7R ⟨e7, hw7⟩
    change O7 = [.row st 1 [[.map 3 s']], .map s (kvG encL m), .map sg (kvG encB (setM S)), .map s' (kvG encL m)] at e7
    subst e7
    have s7 := s7R.weak hw7
    obtain ⟨lg, b, es, clock, hlg, hbg, hMg, q8, k8, hid8, hin8⟩ := q7.hideMap (i := 2) rfl
    change HSim E7 (rmO st s s' m m) w7 at q8
    change Keep E7 _ w7 E7 (rmO st s s' m m) w7 at k8
    change Hid E7 (rmO st s s' m m) w7 b at hid8
    have k08 := (k06.trans k7).trans k8
    obtain ⟨f, hf, hfe⟩ := ent_fn (fun e (p : Hs × Bool) => EntryOK E7 e (.agg (bytesG p.1.1), encB p.2)) es.toList (setM S) (hMg.born.2.imp fun h e => h (congrArg _ e)) (by rw [Array.length_toList, hMg.size, kvG, List.length_map]) (fun i e p he hp => hMg.ent i e _ (by simpa using he) (by rw [kvG, List.getElem?_map, hp]; rfl)) ⟨(h0, true)⟩
    have v56 : a7.eval (.tmp 56) = .map (some b) := map_val (SlotsR.ev (st := ⟨_, []⟩) s7 (.tmp 56)) hlg hbg
    refine range_step (t := 88) (k := 40) (e := 4) (m := .tmp 56) rfl rfl (by kernel_rfl) v56 hMg.at_ hMg.born ?_
    intro w9 hwk hg hsz
    have hA : AtR ⟨b, w7.heap.size, es, clock, E7, rmO st s s' m m, w7⟩ #[] E7 (rmO st s s' m m) w9 :=
      ⟨q8.grown hg (fun r e => by cases e), (Keep.refl _ _ _).grown hg (fun r e => by cases e), hwk, hid8.grown hg,
       ⟨fun ⟨i, x, hx, hb⟩ => absurd ((q8.real i x hx).blk_lt hb) (Nat.lt_irrefl _), fun o => by
          cases hv : E7.snap w7.heap.size o with
          | none => rfl
          | some v => exact absurd (q8.lt hv) (Nat.lt_irrefl _), by show w7.heap.size < w9.heap.size; omega⟩⟩
    have hvl : VR E7 (.pointer (some ⟨w7.heap.size, 0, none⟩)) (.lit (.pointer (some ⟨w7.heap.size, 0, none⟩))) := .lit _
    have s9 := (SlotsR.put (st := ⟨_, []⟩) s7 (.refl E7) (d := some 57) hvl []).weak (s' := rS (.ptr 0 st 0 0) .any .any .any .any .any .any .any .any (.lit (.pointer (some ⟨w7.heap.size, 0, none⟩)))) (by simp [GSt.put, WL, leG_self, leG_any])
    refine wpList_nil ?_
    show (Code.block _ _).wp _ _ _ _
    refine wp_block (rLoop ⟨b, w7.heap.size, es, clock, E7, rmO st s s' m m, w7⟩ hMg.born (Nat.le_refl _) m hk S st s s' f hf hfe ⟨rfl, rfl, rfl⟩ rfl rfl ⟨rfl, rfl, rfl⟩ rfl rfl (CC := C23) rfl (by kernel_rfl) (by kernel_rfl) hA s9 ?_)
    intro seen T Ex ax wx hT hAx sx
    refine inBlock_self ?_
    obtain ⟨qp, kp⟩ := hAx.sim.pick (X := gObj st s' (dropM m T)) [0, 3] ⟨⟨_, rfl, OLe.row ⟨⟨GLe.map _ _ _, trivial⟩, trivial⟩⟩, ⟨_, rfl, .refl _⟩, trivial⟩ (by simp) rfl
    have K9 := (k08.trans hAx.keep).trans kp
    have eM : removeM m S = dropM m T := by
      unfold removeM
      rw [eE]
      exact (dropM_perm hT).symm
    show (Code.seq _ _).wp _ _ _ _
    refine wp_mono (vc_sound mixS _ (retQ Tryz.prog [.tmp 4] _) ⟨_, _⟩ _ ax wx (C := C0) (by kernel_rfl) qp sx (vcS_ok (C := C0) _ _ _ _ _ (by kernel_rfl) (fun _ _ h => h) (rEnd _ _ _ _ ?_))) (fun e a' w' hpost => Post.trans K9 hpost)
    refine ⟨_, gObj st s' (dropM m T), [], by simp, leA_refl _, by rw [eE]; rfl, s', by rw [eM]⟩
  · -- one stays that stands on one that goes
    obtain ⟨X, hne, e5, h4⟩ := h5
    change O5 = (gObj st s m ++ [.map sg (kvG encB (setM S))]) ++ X at e5
    subst e5
    refine ⟨.ret, ⟨t5, _⟩, E5, trivial, q5, k04.trans k5, s5R, ?_⟩
    show dropTo _ (sget t5 4) _
    refine ⟨errV (removeE m S), gObj st s m, [.map sg (kvG encB (setM S))] ++ X, by simp, ?_, rfl, s, ?_⟩
    · have h4' : sget t5 4 = errV (removeE m S) := h4
      rw [h4']; exact leA_refl _
    · unfold removeM
      cases hE : removeE m S with
      | none => exact absurd hE hne
      | some e => rfl
end Gv.Tryz
/- Ancestors and descendants: plain laws. -/
set_option linter.unusedVariables false
set_option linter.unusedSimpArgs false
namespace Gv.Tryz
open Go Gv Go.Proofs
theorem kids_there {m : GM} {x y : Hs} (h : y ∈ kidsM m x) : (look m y).isSome = true := by
  obtain ⟨q, h1, _, rfl⟩ := kidsM_mem.1 h
  exact key_look (List.mem_map_of_mem h1)
theorem inM_mem {m : GM} {l : List Hs} {x : Hs} : x ∈ inM m l ↔ x ∈ l ∧ (look m x).isSome = true := by unfold inM; exact List.mem_filter
end Gv.Tryz
/- OrderKnown: the parts. -/
set_option linter.unusedVariables false
set_option linter.unusedSimpArgs false
set_option maxRecDepth 20000
set_option maxHeartbeats 4000000
namespace Gv.Tryz
open Go Gv Go.Proofs
theorem p4 : parsM fourCs q4 = [q2, q3] := by kernel_rfl
theorem p3 : parsM fourCs q3 = [q1] := by kernel_rfl
theorem p2 : parsM fourCs q2 = [q1] := by kernel_rfl
theorem p1 : parsM fourCs q1 = [] := by kernel_rfl
end Gv.Tryz
/- GraphKnown: the parts. -/
set_option linter.unusedVariables false
set_option linter.unusedSimpArgs false
set_option maxRecDepth 20000
set_option maxHeartbeats 4000000
namespace Gv.Tryz
open Go Gv Go.Proofs
def q5 : Hs := hq 5 0 0
def q6 : Hs := hq 6 0 0
def q7 : Hs := hq 7 0 0
def q8 : Hs := hq 8 0 0
theorem h25w : FnS Tryz.prog 26 ⟨[], []⟩ 10 [(.tmp 2)] s26 := .mk' Tryz.func26 (by kernel_rfl) (by kernel_rfl) (by kernel_rfl) (by kernel_rfl) (by kernel_rfl) (by kernel_rfl)
theorem gCopy (m : GM) (st s : Nat) (X : List GObj) : GCalls Tryz.prog 26 [.ptr 0 st 0 0] (gObj st s m ++ X) (fun g O' => ∃ st2 s2, g = .ptr (X.length + 3) st2 0 0 ∧ O' = gObj st s m ++ X ++ [.map s2 (kvG encL m), .row st2 1 [[.map (X.length + 2) s2]]]) := by
  have cC := cMapClone (O := gObj st s m ++ X) (o := 1) (st := s) (kv := kvG encL m) rfl rfl
  refine h25w.calls mixS (by simp) ?_
  simp only [gstart, s26, List.cons_append, List.nil_append, List.length_cons, List.length_nil, Nat.reduceAdd, Nat.reduceSub, List.replicate_succ, List.replicate_zero]
  skip
  simp +contextual -implicitDefEqProofs (maxSteps := 2000000) (disch := omega) only [↓loadV, ↓fieldAddrV, ↓nilV, grp, GVal.ofConst, List.map, List.headD, List.take, List.drop, Nat.reduceLeDiff, implies_true, vcA, ↓vcB, vcC, fbFw, e26]
  refine cC.mono ?_
  rintro g O' ⟨s', rfl, rfl⟩
  simp +contextual -implicitDefEqProofs (maxSteps := 2000000) (disch := omega) only [↓boxV, ↓buildV, fillG, place, GVal.cells, ↓resV, resG, List.map, List.take, List.drop, ↓reduceIte, Nat.reduceLeDiff, allSolid, GVal.solid, splice, vcA, ↓vcB, vcC, fbFw]
  exact ⟨rfl, fun v => ⟨v, s', by simp, by simp⟩⟩
theorem kAdd (m M : GM) (hG : GOK m) (cs : List Cm) (e : Er) (he : addedE m cs = e) (hM : addedM m cs = M) (st s : Nat) (hc : cs.length ≤ 1000000) (hp : ∀ c ∈ cs, c.2.length ≤ 1000000) (X : List GObj) {args' : List GVal} (ha : GLes args' [.ptr 0 st 0 0, .slice (csG cs) .none]) :
    GCalls Tryz.prog 11 args' (gObj st s m ++ X) (fun g O' => ∃ s', g = errV e ∧ O' = gObj st s' M ++ X) := by
  refine (GCalls.on2 (R := fun g x' y' => g = errV (addedE m cs) ∧ ∃ s', x' = .row st 1 [[.map 1 s']] ∧ y' = .map s' (kvG encL (addedM m cs))) (gAdd m hG cs st s hc hp) (O := gObj st s m ++ X) 0 1 (by omega) rfl rfl (.refl _) ha rfl rfl (by rintro g x' y' ⟨_, s', rfl, rfl⟩; exact ⟨rfl, rfl⟩) rfl).mono ?_
  rintro g O' ⟨x', y', ⟨rfl, s', rfl, rfl⟩, rfl⟩
  exact ⟨s', by rw [he], by rw [hM]; rfl⟩
theorem kRem (m M : GM) (hG : GMOK m) (hk : (m.map (·.1)).Nodup) (l : List Hs) (t : Tag) (ht : t = .nil → l = []) (hl : l.length ≤ 10000) (e : Er) (he : removeE m (setAll (inM m l)) = e) (hM : removeM m (setAll (inM m l)) = M) (st s : Nat) (O : List GObj) (i j : Nat) (hij : i ≠ j) (hi : O[i]? = some (.row st 1 [[.map j s]])) (hj : O[j]? = some (.map s (kvG encL m))) (hc : clockOf O = none) :
    GCalls Tryz.prog 28 [.ptr i st 0 0, .slice (hsG l) t] O (fun g O' => ∃ s', g = errV e ∧ O' = (O.set i (.row st 1 [[.map j s']])).set j (.map s' (kvG encL M))) := by
  refine (GCalls.on2 (R := fun g x' y' => g = errV e ∧ ∃ s', x' = .row st 1 [[.map 1 s']] ∧ y' = .map s' (kvG encL M)) (x := .row st 1 [[.map 1 s]]) (y := .map s (kvG encL m)) (args := [.ptr 0 st 0 0, .slice (hsG l) t]) (args' := [.ptr i st 0 0, .slice (hsG l) t]) ((gRemove m hG hk st s l t ht hl).mono (by
    rintro g O' ⟨rfl, s', rfl⟩
    exact ⟨_, _, rfl, by rw [he], s', rfl, by rw [hM]⟩)) (O := O) i j hij hi hj (OLe.row ⟨⟨GLe.map _ _ _, trivial⟩, trivial⟩) ⟨GLe.ptr _ _ _ _ _, GLe.refl _, trivial⟩ rfl rfl (by rintro g x' y' ⟨_, s', rfl, rfl⟩; exact ⟨rfl, rfl⟩) hc).mono ?_
  rintro g O' ⟨x', y', ⟨rfl, s', rfl, rfl⟩, rfl⟩
  exact ⟨s', rfl, rfl⟩
theorem kCount (m : GM) (hm : m.length ≤ 1000000) (st s : Nat) (O : List GObj) (i j : Nat) (hij : i ≠ j) (hi : O[i]? = some (.row st 1 [[.map j s]])) (hj : O[j]? = some (.map s (kvG encL m))) (hc : clockOf O = none) :
    GCalls Tryz.prog 13 [.ptr i st 0 0] O (fun g O' => g = .int .i64 m.length ∧ O' = (O.set i (.row st 1 [[.map j s]])).set j (.map s (kvG encL m))) := by
  refine (GCalls.on2 (R := fun g x' y' => g = .int .i64 m.length ∧ x' = .row st 1 [[.map 1 s]] ∧ y' = .map s (kvG encL m)) (x := .row st 1 [[.map 1 s]]) (y := .map s (kvG encL m)) (args := [.ptr 0 st 0 0]) (args' := [.ptr i st 0 0]) ((gCount m hm st s).mono (by
    rintro g O' ⟨rfl, rfl⟩
    exact ⟨_, _, rfl, rfl, rfl, rfl⟩)) (O := O) i j hij hi hj (OLe.row ⟨⟨GLe.map _ _ _, trivial⟩, trivial⟩) ⟨GLe.ptr _ _ _ _ _, trivial⟩ rfl rfl (by rintro g x' y' ⟨_, rfl, rfl⟩; exact ⟨rfl, rfl⟩) hc).mono ?_
  rintro g O' ⟨x', y', ⟨rfl, rfl, rfl⟩, rfl⟩
  exact ⟨rfl, rfl⟩
end Gv.Tryz
/- Guards and tests without a match: the kernel need not look into what is left out. -/
set_option linter.unusedVariables false
namespace Gv
open Go
def guardV (v : GVal) (A B C : Prop) : Prop := match v with
  | .bool b => gif b A B
  | .lit (.tuple _) => C
  | _ => False
@[congr] theorem cg_guardV {v v' : GVal} {A B C : Prop} (h : v = v') : guardV v A B C = guardV v' A B C := by subst h; rfl
def condV (v : GVal) (A B : Prop) : Prop := match v with
  | .bool b => gif b A B
  | .ubool => A ∧ B
  | _ => False
@[congr] theorem cg_condV {v v' : GVal} {A B : Prop} (h : v = v') : condV v A B = condV v' A B := by subst h; rfl
section
variable (P : Program) (R : List Nat) (Q : Ex → GSt → Prop) (st : GSt)
end
end Gv
