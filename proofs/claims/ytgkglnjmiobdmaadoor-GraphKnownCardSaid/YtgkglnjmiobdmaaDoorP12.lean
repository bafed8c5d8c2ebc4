/- graph.Descendants: its outer loop. -/
import Derived.Test.YtgkglnjmiobdmaaDoorP11
import Derived.Test.YtgkglnjmiobdmaaDoorP10
import Derived.Test.YtgkglnjmiobdmaaDoorProg
import Derived.WalkKit
import Derived.LaidEql
import Derived.Stop.Asserts
import Derived.RowKitTokens
import Derived.Test.YtgkglnjmiobdmaaDoorP6
import Derived.Test.YtgkglnjmiobdmaaDoorP9
set_option linter.unusedVariables false
set_option linter.unusedSimpArgs false
set_option maxRecDepth 20000
set_option maxHeartbeats 4000000
namespace Gv.Tryd
open Go Gv Go.Proofs
theorem AtW.pokeR {D : DD} (hD : DOK D) {seen seen' : Array Nat} {E : Env} {O : List GObj} {w w' : World} (h : AtW D seen E O w) (g : w.grownBy w' (some D.r)) (hw : WalkAt w' D.b D.r D.es D.clock seen') : AtW D seen' E O w' :=
  ⟨h.sim.grown g (fun r e => by cases e; exact ⟨h.hr.obj, h.hr.snap⟩), h.keep.grown g (fun r e => by cases e; exact hD.hr0), hw, h.hb.grown g, h.hr.grown g, h.hC.grown g, h.loc⟩
theorem inBlock_self {id : Nat} {Q : Exit → Act → World → Prop} {a : Act} {w : World} (h : Q .normal a w) : Exit.inBlock id Q (.exit id) a w := by simp only [Exit.inBlock, if_true]; exact h
abbrev l4 : List SOp := [(.mk (some 19) (.extract (.tmp 18) 0) none), (.mk (some 20) (.extract (.tmp 18) 1) none), (.mk (some 6) (.alloc 40) none), (.mk none (.store 40 (.tmp 6) (.tmp 19)) none), (.mk (some 7) (.assign (.tmp 20)) none)]
theorem dOuter {Q : Exit → Act → World → Prop} (D : DD) (hD : DOK D) (hm : GMOK D.m) (f : MapEntry → Hs × List Hs) (hf : D.es.toList.map f = D.m) (hfe : ∀ e ∈ D.es.toList, EntryOK D.E0 e (.agg (bytesG (f e).1.1), encL (f e).2))
    {c5 c6 c7 c9 : Code} {id3 id4 id8 : Nat} {n1 n2 e1 e2 e3 e4 e5 e6 o1 o2 o3 o4 o5 o6 o7 o8 o9 : Oper}
    (hn1 : n1.op = .next (.tmp 15) false ∧ n1.guard = none ∧ n1.dst = some 16) (hn2 : [n2].map (fun o => (⟨o.dst, o.op, none⟩ : SOp)) = [(.mk (some 17) (.extract (.tmp 16) 0) none)]) (gn2 : [n2].all (fun o => o.guard.isNone) = true)
    (he1 : e1.op = .entry (.tmp 15) ∧ e1.guard = none ∧ e1.dst = some 18) (he2 : [e2, e3, e4, e5, e6].map (fun o => (⟨o.dst, o.op, none⟩ : SOp)) = l4) (ge2 : [e2, e3, e4, e5, e6].all (fun o => o.guard.isNone) = true)
    (s5 : slim C0 c5 = some s21_5) (k5 : codeOk C0 c5 = true) (s6 : slim C0 c6 = some s21_6) (k6 : codeOk C0 c6 = true) (s7 : slim C0 c7 = some s21_7) (k7 : codeOk C0 c7 = true)
    (s9 : slim C0 c9 = some s21_9) (k9 : codeOk C0 c9 = true) (r8 : R8 o1 o2 o3 o4 o5 o6 o7 o8 o9)
    {E : Env} {a : Act} {w : World} (hA : AtW D #[] E (D.o []) w) (hE : Ent D [] E w) {p0 p1 : GVal}
    (ha : SlotsR E a (dS p0 p1 (.ptr 3 D.stb 0 0) .any .any .any (.lit (.pointer (some ⟨D.r, 0, none⟩))) .any .any .any))
    (hq : ∀ ct' pre seen E' a' w', pre.Perm D.m → ctM ct' = kidAll pre → AtW D seen E' (D.o ct') w' → Ent D ct' E' w' → SlotsR E' a' (dS p0 p1 (.ptr 3 D.stb 0 0) .any .any .any .any .any .any .any) → Q (.exit 0) a' w') :
    (Code.loop ((Code.region id3 #[n1, n2] false).seq ((Code.cond (.tmp 17) .skip (.exit 0)).seq (Code.block 1 ((Code.region id4 #[e1, e2, e3, e4, e5, e6] false).seq (c5.seq (Code.block 2
      (Code.loop (c6.seq ((Code.cond (.tmp 24) .skip (.exit 2)).seq ((Code.block 3 (c7.seq (Code.region id8 #[o1, o2, o3, o4, o5, o6, o7, o8, o9] false))).seq c9))))))))))).wp Tryd.prog Q a w := by
  obtain ⟨x15, e15⟩ : ∃ x : GVal, .lit (.pointer (some ⟨D.r, 0, none⟩)) = x := ⟨_, rfl⟩
  have lit15 : ∀ {E : Env} {a : Act} {S : List GVal}, SlotsR E a S → S.getD 15 .any = x15 → a.eval (.tmp 15) = .pointer (some ⟨D.r, 0, none⟩) := by
    intro E a S h hx
    have := SlotsR.ev (st := ⟨S, []⟩) h (.tmp 15)
    change VR E _ (S.getD 15 .any) at this
    rw [hx, ← e15] at this
    generalize a.eval (.tmp 15) = v at this
    cases this; rfl
  rw [e15] at ha
  refine wp_loop_ghost (fun n a w => ∃ ct seen xs E, Came D.es seen xs ∧ w.rangeLeft D.b D.r = n ∧ ctM ct = kidAll (xs.map f) ∧ AtW D seen E (D.o ct) w ∧ Ent D ct E w ∧ SlotsR E a (dS p0 p1 (.ptr 3 D.stb 0 0) .any .any .any x15 .any .any .any)) _ ⟨[], #[], [], E, Came.nil _, rfl, rfl, hA, hE, ha⟩ ?_
  rintro n a1 w1 ⟨ct, seen, xs, E1, hC, rfl, hct, hA1, hE1, s1⟩
  refine wp_seq (wp_region_lit (next_step hn1.2.1 hn1.1 hD.born hC (lit15 s1 rfl) hA1.walk ?_ ?_))
  · -- nothing is left
    intro hp
    rw [hn1.2.2]
    have hvt : VR E1 (.tuple #[.bool false]) (.tuple [.bool false]) := .tuple _ _ rfl (fun j g hj => by
      match j with
      | 0 => cases hj; exact .bool _
      | j + 1 => simp at hj)
    have s2 := (SlotsR.put (st := ⟨_, []⟩) s1 (.refl E1) (d := some 16) hvt [])
    refine ops_seg (st := ⟨(dS p0 p1 (.ptr 3 D.stb 0 0) .any .any .any x15 .any .any .any).set 16 (.tuple [.bool false]), D.o ct⟩) 1 hn2 gn2 hA1.sim s2 (dR3' p0 p1 _ x15 false (D.o ct)) ?_
    rintro ⟨t2, O2⟩ E2 a2 w2 q2 k2 s2R ⟨e2, hw2⟩
    change O2 = D.o ct at e2
    subst e2
    have s3 := s2R.weak hw2
    have hc : a2.eval (.tmp 17) = .bool false := by
      have : VR E2 (a2.eval (.tmp 17)) (.bool false) := SlotsR.ev (st := ⟨_, []⟩) s3 (.tmp 17)
      generalize a2.eval (.tmp 17) = v at this
      cases this; rfl
    refine wpList_nil ?_
    show (Code.seq _ _).wp _ _ _ _
    refine wp_seq (wp_cond_split hc (fun ht => by cases ht) (fun _ => wp_exit ?_))
    refine hq ct (xs.map f) seen E2 a2 w2 ?_ hct (hA1.step q2 k2) (hE1.step hA1 k2) (s3.weak (by simp [WL, leG_self, leG_any]))
    rw [← hf]
    exact hp.map f
  · intro e w' hem hC2 hlt hwk hmu hg hent
    rw [hn1.2.2]
    have hA' := hA1.pokeR hD hg hwk
    have hE' : Ent D ct E1 w' := by
      obtain ⟨esC, cC, hmC⟩ := hE1
      exact ⟨esC, cC, hmC.ext (.refl _) (hg.block _ hA1.hC.lt (fun e => hD.nr (Option.some.inj e)))⟩
    have hvt : VR E1 (.tuple #[.bool true, e.key, e.val]) (.tuple [.bool true, .any, .any]) := .tuple _ _ rfl (fun j g hj => by
      match j with
      | 0 => cases hj; exact .bool _
      | 1 => cases hj; exact .any _
      | 2 => cases hj; exact .any _
      | j + 3 => simp at hj)
    have s2 := (SlotsR.put (st := ⟨_, []⟩) s1 (.refl E1) (d := some 16) hvt [])
    refine ops_seg (st := ⟨(dS p0 p1 (.ptr 3 D.stb 0 0) .any .any .any x15 .any .any .any).set 16 (.tuple [.bool true, .any, .any]), D.o ct⟩) 1 hn2 gn2 hA'.sim s2 (dR3 p0 p1 _ x15 true .any .any (D.o ct)) ?_
    rintro ⟨t2, O2⟩ E2 a2 w2 q2 k2 s2R ⟨e2', hw2⟩
    change O2 = D.o ct at e2'
    subst e2'
    have s3 := s2R.weak hw2
    have hc : a2.eval (.tmp 17) = .bool true := by
      have : VR E2 (a2.eval (.tmp 17)) (.bool true) := SlotsR.ev (st := ⟨_, []⟩) s3 (.tmp 17)
      generalize a2.eval (.tmp 17) = v at this
      cases this; rfl
    have hA2 := hA'.step q2 k2
    have hE2 := hE'.step hA' k2
    have hent2 := hent w2 (hA'.hb.keep k2).2 (hA'.hr.keep k2).2
    refine wpList_nil ?_
    show (Code.seq _ _).wp _ _ _ _
    refine wp_seq (wp_cond_split hc (fun ht => wp_skip ?_) (fun hf => by cases hf))
    show (Code.block _ _).wp _ _ _ _
    refine wp_block (wp_seq (wp_region_lit (entry_step he1.2.1 he1.1 (lit15 s3 rfl) hent2 ?_)))
    rw [he1.2.2]
    obtain ⟨hv1, hv2⟩ := hfe e hem
    obtain ⟨q, eq⟩ : ∃ q, f e = q := ⟨_, rfl⟩
    have hqm : q ∈ D.m := by rw [← eq, ← hf]; exact List.mem_map_of_mem hem
    rw [eq] at hv1 hv2
    obtain ⟨h, ps⟩ := q
    have hvt2 : VR E2 (.tuple #[e.key, e.val]) (.tuple [.agg (bytesG h.1), .slice (hsG ps) .none]) := .tuple _ _ rfl (fun j g hj => by
      match j with
      | 0 => cases hj; exact hv1.mono hA2.keep.ext
      | 1 => cases hj; exact hv2.mono hA2.keep.ext
      | j + 2 => simp at hj)
    have s4 := (SlotsR.put (st := ⟨_, []⟩) s3 (.refl E2) (d := some 18) hvt2 []).weak (s' := (dS p0 p1 (.ptr 3 D.stb 0 0) .any .any .any x15 .any .any .any).set 18 (.tuple [.agg (bytesG h.1), .slice (hsG ps) .none])) (by simp [GSt.put, WL, leG_self, leG_any])
    refine ops_seg (st := ⟨(dS p0 p1 (.ptr 3 D.stb 0 0) .any .any .any x15 .any .any .any).set 18 (.tuple [.agg (bytesG h.1), .slice (hsG ps) .none]), D.o ct⟩) 5 he2 ge2 hA2.sim s4 (dR4 p0 p1 _ x15 h ps (D.o ct) (obs_stamp _ _ _ _ _) (obs_tick _ _ _ _ _)) ?_
    rintro ⟨t3, O3⟩ E3 a3 w3 q3 k3 s3R ⟨v, e3', hw3⟩
    change O3 = D.o ct ++ [.row v 32 [bytesG h.1]] at e3'
    subst e3'
    have s5' := s3R.weak hw3
    obtain ⟨m1, m2, m3⟩ := q3.meltBox s5' 6 1 rfl (by rw [len32]) (frzL_hs _ 0 h) (by intro e; have := len32 h; rw [e] at this; cases this)
    have kk := k3.trans m2
    have hA3 := hA2.step m1 kk
    have hE3 := hE2.step hA2 kk
    refine wpList_nil ?_
    show (Code.seq _ _).wp _ _ _ _
    refine wp_seq (wp_part (st := ⟨dS p0 p1 (.ptr 3 D.stb 0 0) (.ref (bytesG h.1)) (.slice (hsG ps) .none) .any x15 .any .any .any, D.o ct⟩) mixS s5 k5 hA3.sim (m3.weak (by simp [WL, leG_self, leG_any])) (dR5 p0 p1 _ _ x15 ps (D.o ct)) ?_)
    rintro ⟨t4, O4⟩ E4 a4 w4 q4 k4 s4R ⟨e4', hw4⟩
    change O4 = D.o ct at e4'
    subst e4'
    have hps : ps.length ≤ 4 := hm.row _ hqm
    have hle : xs.length ≤ D.m.length := by
      have : D.es.toList.length = D.m.length := by rw [← hf, List.length_map]
      have h2 : D.es.toList.length = D.es.size := Array.length_toList
      omega
    have hml := hm.len
    have hKb := Kb.all (xs.map f) (fun q hq => by
      obtain ⟨y, hy, rfl⟩ := List.mem_map.1 hq
      exact hm.row _ (by rw [← hf]; exact List.mem_map_of_mem (hC.2.2 y hy)))
    rw [← hct, List.length_map] at hKb
    show (Code.block _ _).wp _ _ _ _
    refine wp_block (dInner D hD s6 k6 s7 k7 s9 k9 r8 (hA3.step q4 k4) (hE3.step hA3 k4) hKb (by omega) (s4R.weak hw4) ?_)
    intro ct' E5 a5 w5 hct' hA5 hE5 s6'
    refine inBlock_self ?_
    refine ⟨w5.rangeLeft D.b D.r, ?_, ct', _, xs ++ [e], E5, hC2, rfl, ?_, hA5, hE5, s6'⟩
    · rw [hA5.walk.left_eq, ← hwk.left_eq]; exact hmu
    · rw [List.map_append, List.map_cons, List.map_nil, kidAll_snoc, eq, hct', hct]
end Gv.Tryd
/- graph.Descendants: the contract. -/
set_option linter.unusedVariables false
set_option linter.unusedSimpArgs false
set_option maxRecDepth 20000
set_option maxHeartbeats 4000000
namespace Gv.Tryd
open Go Gv Go.Proofs
def kidsM (m : GM) (x : Hs) : List Hs := (m.filter fun q => decide (x ∈ q.2)).map (·.1)
theorem kidsM_mem {m : GM} {x y : Hs} : y ∈ kidsM m x ↔ ∃ q ∈ m, x ∈ q.2 ∧ y = q.1 := by
  unfold kidsM
  rw [List.mem_map]
  constructor
  · rintro ⟨q, hq, rfl⟩
    obtain ⟨h1, h2⟩ := List.mem_filter.1 hq
    exact ⟨q, h1, of_decide_eq_true h2, rfl⟩
  · rintro ⟨q, h1, h2, rfl⟩
    exact ⟨q, List.mem_filter.2 ⟨h1, decide_eq_true h2⟩, rfl⟩
theorem parsM_put (ch : GM) (p h x : Hs) : parsM (kidPut ch p h) x = if x = p then parsM ch x ++ [h] else parsM ch x := by
  unfold parsM kidPut
  rw [look_mset]
  by_cases e : x = p
  · rw [if_pos e, if_pos e, e]; rfl
  · rw [if_neg e, if_neg e]
theorem parsM_row (h x y : Hs) : ∀ (ps : List Hs) (ch : GM), y ∈ parsM (kidRow ch h ps) x ↔ y ∈ parsM ch x ∨ (x ∈ ps ∧ y = h)
  | [], ch => by simp [kidRow]
  | p :: r, ch => by
    have := parsM_row h x y r (kidPut ch p h)
    rw [show kidRow ch h (p :: r) = kidRow (kidPut ch p h) h r from rfl, this, parsM_put]
    by_cases e : x = p
    · rw [if_pos e]; simp [e]; exact fun _ q => .inr q
    · rw [if_neg e]; simp [e]
theorem parsM_all (x y : Hs) : ∀ (pre ch : GM), y ∈ parsM (pre.foldl (fun c q => kidRow c q.1 q.2) ch) x ↔ y ∈ parsM ch x ∨ ∃ q ∈ pre, x ∈ q.2 ∧ y = q.1
  | [], ch => by simp
  | q :: r, ch => by
    rw [List.foldl_cons, parsM_all x y r, parsM_row]
    constructor
    · rintro ((h | h) | ⟨z, h1, h2⟩)
      · exact .inl h
      · exact .inr ⟨q, by simp, h⟩
      · exact .inr ⟨z, by simp [h1], h2⟩
    · rintro (h | ⟨z, h1, h2⟩)
      · exact .inl (.inl h)
      · rcases List.mem_cons.1 h1 with e | e
        · rw [e] at h2; exact .inl (.inr h2)
        · exact .inr ⟨z, e, h2⟩
theorem kids_of_perm {pre m : GM} (hp : pre.Perm m) (x y : Hs) : y ∈ parsM (kidAll pre) x ↔ y ∈ kidsM m x := by
  unfold kidAll
  rw [parsM_all, kidsM_mem]
  constructor
  · rintro (h | ⟨q, h1, h2⟩)
    · cases h
    · exact ⟨q, hp.mem_iff.1 h1, h2⟩
  · rintro ⟨q, h1, h2⟩
    exact .inr ⟨q, hp.mem_iff.2 h1, h2⟩
theorem reach_iff {n1 n2 : Hs → List Hs} (h : ∀ x y, y ∈ n1 x ↔ y ∈ n2 x) (l : List Hs) (z : Hs) : Reach n1 l z ↔ Reach n2 l z := by
  constructor
  · intro r
    induction r with
    | base x hx => exact .base x hx
    | step x y _ hy ih => exact .step x y ih ((h x y).1 hy)
  · intro r
    induction r with
    | base x hx => exact .base x hx
    | step x y _ hy ih => exact .step x y ih ((h x y).2 hy)
noncomputable def desL (m : GM) (l : List Hs) : List Hs := by
  classical exact sortR ((l ++ hashesM m).filter fun x => decide (Reach (kidsM m) (inM m l) x))
theorem desL_ss (m : GM) (l : List Hs) : SS (desL m l) := sortR_ss _
theorem kids_in {m : GM} {x y : Hs} (h : y ∈ kidsM m x) : y ∈ hashesM m := by
  obtain ⟨q, h1, _, rfl⟩ := kidsM_mem.1 h
  exact List.mem_append_left _ (List.mem_map_of_mem h1)
theorem desL_mem (m : GM) (l : List Hs) (x : Hs) : x ∈ desL m l ↔ Reach (kidsM m) (inM m l) x := by
  classical
  unfold desL
  rw [sortR_mem, List.mem_filter, decide_eq_true_eq]
  refine ⟨fun h => h.2, fun h => ⟨?_, h⟩⟩
  cases h with
  | base x hx => exact List.mem_append_left _ (List.mem_filter.1 hx).1
  | step x y _ hy => exact List.mem_append_right _ (kids_in hy)
theorem gDes1 (a : GObj) (M : GM) (h : Hs) (s : Nat) (l : List Hs) (el : look M h = some l) : GCalls Tryd.prog 38 [.agg (bytesG h.1), .ref [.map 1 s]] [a, .map s (kvG encL M)] (fun g O' => g = .slice (hsG l) .none ∧ O' = [a, .map s (kvG encL M)]) := by
  obtain ⟨i, hi, hv, _⟩ := look_idx encL M h l el
  refine h38.calls mixS (by simp) ?_
  simp only [gstart, s38, List.cons_append, List.nil_append, List.length_cons, List.length_nil, Nat.reduceAdd, Nat.reduceSub, List.replicate_succ, List.replicate_zero]
  simp +contextual -implicitDefEqProofs (maxSteps := 2000000) (disch := omega) only [optV, ↓loadV, ↓boxV, ↓sliceV, bound, cutTag, hiTag, GVal.cells, grp, GVal.ofConst, ↓resV, resG, List.map, List.headD, List.take, List.drop, ↓reduceIte, Nat.reduceEqDiff, Nat.reduceAdd, Nat.reduceSub, Nat.reduceLeDiff, reduceCtorEq, implies_true, ne_eq, ↓lookupV, keyOk, keyCells, pairG, Tag.cap, List.replicate, allSolid, GVal.solid, Nat.reduceBEq, Nat.reduceMul, Nat.reduceLT, List.length_map, List.length_range, splice, vcA, ↓vcB, vcC, fbFu, e38, kfind_h, hi, hv, solidH, len32, take32]
theorem gDes0 (a : GObj) (M : GM) (h : Hs) (s : Nat) (el : look M h = none) : GCalls Tryd.prog 38 [.agg (bytesG h.1), .ref [.map 1 s]] [a, .map s (kvG encL M)] (fun g O' => g = .slice [] .nil ∧ O' = [a, .map s (kvG encL M)]) := by
  obtain ⟨hi, _⟩ := look_none encL M h el
  refine h38.calls mixS (by simp) ?_
  simp only [gstart, s38, List.cons_append, List.nil_append, List.length_cons, List.length_nil, Nat.reduceAdd, Nat.reduceSub, List.replicate_succ, List.replicate_zero]
  simp +contextual -implicitDefEqProofs (maxSteps := 2000000) (disch := omega) only [optV, ↓loadV, ↓boxV, ↓sliceV, bound, cutTag, hiTag, GVal.cells, grp, GVal.ofConst, ↓resV, resG, List.map, List.headD, List.take, List.drop, ↓reduceIte, Nat.reduceEqDiff, Nat.reduceAdd, Nat.reduceSub, Nat.reduceLeDiff, reduceCtorEq, implies_true, ne_eq, ↓lookupV, keyOk, keyCells, pairG, Tag.cap, List.replicate, allSolid, GVal.solid, Nat.reduceBEq, Nat.reduceMul, Nat.reduceLT, List.length_map, List.length_range, splice, vcA, ↓vcB, vcC, fbFu, e38, kfind_h, hi, solidH, len32, take32]
theorem gDesN (a : GObj) (M : GM) (h : Hs) (s : Nat) : GCalls Tryd.prog 38 [.agg (bytesG h.1), .ref [.map 1 s]] [a, .map s (kvG encL M)] (fun g O' => g = .slice (hsG (parsM M h)) .none ∧ O' = [a, .map s (kvG encL M)]) := by
  cases el : look M h with
  | some l => rw [parsM_some el]; exact gDes1 a M h s l el
  | none =>
    rw [parsM_none el]
    refine GCalls.into ((gDes0 a M h s el).mono ?_)
    rintro g O' ⟨rfl, rfl⟩
    exact GInto.weak (O := [a, .map s (kvG encL M)]) (X := []) (by rw [leG_none]; rfl) (.here ⟨rfl, rfl⟩)
theorem dHalf (m : GM) (hm : GMOK m) (st s stC : Nat) (l : List Hs) (t : Tag) (ht : t = .nil → l = []) (hl : l.length ≤ 10000) (ch : GM) (hch : ∀ x y, y ∈ parsM ch x ↔ y ∈ kidsM m x) (hKb : Kb 40000 ch) :
    vcS Tryd.prog [] (.seq s21_15 .ret) (retQ Tryd.prog [.tmp 4] (dropTo fun g O' => g = .slice (hsG (desL m l)) .none ∧ O' = gObj st s m)) ⟨dS (.ptr 0 st 0 0) (.slice (hsG l) t) (.ref [.map 2 stC]) .any .any .any .any .any .any .any, gObj st s m ++ [.map stC (kvG encL ch)]⟩ := by
  have hfl : (inM m l).length ≤ l.length := List.length_filter_le _ _
  have cT := (gThere m st s l t ht (by omega)).keep2 rfl [.map stC (kvG encL ch)]
  have hkl : ∀ x, (parsM ch x).length ≤ 40000 := fun x => by
    cases e : look ch x with
    | some r => rw [parsM_some e]; exact hKb _ (look_memG e)
    | none => rw [parsM_none e]; simp
  have cR0 := gReached (caps := [.ref [.map 1 stC]]) (parsM ch) (fun h => gDesN (.row st 1 [[.map 1 s]]) ch h stC) rfl (inM m l) .none (by simp) (inM m l ++ hashesM m) (fun x hx => List.mem_append_left _ hx) (fun x _ y hy => List.mem_append_right _ (kids_in ((hch x y).1 hy))) 40000 (fun x _ => hkl x) (by have := hm.hashes; rw [List.length_append]; omega) (by omega) (by omega)
  have cR := GCalls.on2new (O := gObj st s m ++ [.map stC (kvG encL ch)]) (args' := [.slice (hsG (inM m l)) .none, .func (.func 38) [] [.ref [.map 2 stC]]]) (R := fun st kv => ∃ S : List Hs, kv = kvG encB (setM S) ∧ S.Nodup ∧ (∀ x, x ∈ S ↔ Reach (parsM ch) (inM m l) x) ∧ S.length ≤ (inM m l ++ hashesM m).length) (cR0.mono (by
    rintro g O' ⟨st, S, rfl, rfl, h1, h2, h3⟩
    exact ⟨st, _, rfl, rfl, S, rfl, h1, h2, h3⟩)) 0 2 (by omega) rfl rfl ⟨GLe.refl _, GLe.func _ trivial ⟨GLe.ref ⟨GLe.map _ _ _, trivial⟩, trivial⟩, trivial⟩ rfl rfl
  skip
  simp +contextual -implicitDefEqProofs (maxSteps := 2000000) (disch := omega) only [↓lenV, binV, optV, ↓loadV, ↓storeV, ↓fieldAddrV, ↓indexAddrV, ↓allocV, ↓buildSliceV, ↓sliceV, ↓nilV, ↓appendV, ↓srcV, bound, cutTag, hiTag, fillE, GVal.cells, grp, GVal.ofConst, ↓resV, resG, List.map, List.headD, List.take, List.drop, ↓reduceIte, Nat.reduceEqDiff, Nat.reduceAdd, Nat.reduceSub, Nat.reduceLeDiff, reduceCtorEq, implies_true, ne_eq, ↓asrcV, ↓makeMapV, Tag.cap, List.replicate, allSolid, GVal.solid, Nat.reduceBEq, Nat.reduceMul, Nat.reduceLT, List.length_map, List.length_range, splice, vcA, ↓vcB, vcC, fbFu, e21, dS]
  refine cT.mono ?_
  rintro g O' ⟨rfl, rfl⟩
  simp +contextual -implicitDefEqProofs (maxSteps := 2000000) (disch := omega) only [↓lenV, binV, optV, ↓loadV, ↓storeV, ↓fieldAddrV, ↓indexAddrV, ↓allocV, ↓buildSliceV, ↓sliceV, ↓nilV, ↓appendV, ↓srcV, bound, cutTag, hiTag, fillE, GVal.cells, grp, GVal.ofConst, ↓resV, resG, List.map, List.headD, List.take, List.drop, ↓reduceIte, Nat.reduceEqDiff, Nat.reduceAdd, Nat.reduceSub, Nat.reduceLeDiff, reduceCtorEq, implies_true, ne_eq, ↓asrcV, ↓makeMapV, Tag.cap, List.replicate, allSolid, GVal.solid, Nat.reduceBEq, Nat.reduceMul, Nat.reduceLT, List.length_map, List.length_range, splice, vcA, ↓vcB, vcC, fbFu, e21]
  refine cR.mono ?_
  rintro g O' ⟨s2, kv, rfl, rfl, S, rfl, hS, hR, hSl⟩
  have hh := hm.hashes
  rw [List.length_append] at hSl
  have eA : sortR ((setM S).map (·.1)) = desL m l := ss_eq (sortR_ss _) (desL_ss m l) fun z => by
    rw [sortR_mem, desL_mem, ← reach_iff hch, ← hR z]; simp [setM]
  have cS := gSorted encB (setM S) (by simp [setM]; omega) s2
  rw [eA] at cS
  have cS2 : GCalls Tryd.prog 34 [.map 0 s2] [.map s2 (kvG encB (setM S))] (fun g O' => ∃ x', O' = [x'] ∧ (g = .slice (hsG (desL m l)) .none ∧ x' = .map s2 (kvG encB (setM S)))) := cS.mono (by rintro g O' ⟨rfl, rfl⟩; exact ⟨_, rfl, rfl, rfl⟩)
  have cS3 := GCalls.keep1 (args' := [.map 3 s2]) cS2 (O := gObj st s m ++ [.map stC (kvG encL ch)] ++ [.map s2 (kvG encB (setM S))]) 3 rfl rfl rfl rfl
  simp +contextual -implicitDefEqProofs (maxSteps := 2000000) (disch := omega) only [↓lenV, binV, optV, ↓loadV, ↓storeV, ↓fieldAddrV, ↓indexAddrV, ↓allocV, ↓buildSliceV, ↓sliceV, ↓nilV, ↓appendV, ↓srcV, bound, cutTag, hiTag, fillE, GVal.cells, grp, GVal.ofConst, ↓resV, resG, List.map, List.headD, List.take, List.drop, ↓reduceIte, Nat.reduceEqDiff, Nat.reduceAdd, Nat.reduceSub, Nat.reduceLeDiff, reduceCtorEq, implies_true, ne_eq, ↓asrcV, ↓makeMapV, Tag.cap, List.replicate, allSolid, GVal.solid, Nat.reduceBEq, Nat.reduceMul, Nat.reduceLT, List.length_map, List.length_range, splice, vcA, ↓vcB, vcC, fbFu, e21]
  refine cS3.mono ?_
  rintro g O' ⟨rfl, rfl⟩
  simp +contextual -implicitDefEqProofs (maxSteps := 2000000) (disch := omega) only [↓lenV, binV, optV, ↓loadV, ↓storeV, ↓fieldAddrV, ↓indexAddrV, ↓allocV, ↓buildSliceV, ↓sliceV, ↓nilV, ↓appendV, ↓srcV, bound, cutTag, hiTag, fillE, GVal.cells, grp, GVal.ofConst, ↓resV, resG, List.map, List.headD, List.take, List.drop, ↓reduceIte, Nat.reduceEqDiff, Nat.reduceAdd, Nat.reduceSub, Nat.reduceLeDiff, reduceCtorEq, implies_true, ne_eq, ↓asrcV, ↓makeMapV, Tag.cap, List.replicate, allSolid, GVal.solid, Nat.reduceBEq, Nat.reduceMul, Nat.reduceLT, List.length_map, List.length_range, splice, vcA, ↓vcB, vcC, fbFu, e21]
  exact ⟨_, gObj st s m, [.map stC (kvG encL ch), .map s2 (kvG encB (setM S))], rfl, leA_refl _, rfl, rfl⟩
end Gv.Tryd
/- graph.Descendants: put together. -/
set_option linter.unusedVariables false
set_option linter.unusedSimpArgs false
set_option maxRecDepth 20000
set_option maxHeartbeats 4000000
namespace Gv.Tryd
open Go Gv Go.Proofs
theorem ent_fn {β : Type} (R : MapEntry → β → Prop) : ∀ (l : List MapEntry) (m : List β), l.Nodup → l.length = m.length → (∀ (i : Nat) e p, l[i]? = some e → m[i]? = some p → R e p) → (hβ : Nonempty β) → ∃ f : MapEntry → β, l.map f = m ∧ ∀ e ∈ l, R e (f e)
  | [], [], _, _, _, ⟨b⟩ => ⟨fun _ => b, rfl, by simp⟩
  | [], _ :: _, _, h, _, _ => by simp at h
  | _ :: _, [], _, h, _, _ => by simp at h
  | e :: l, p :: m, hn, hl, hR, hb => by
    classical
    obtain ⟨h1, h2⟩ := List.nodup_cons.1 hn
    obtain ⟨f, hf, hr⟩ := ent_fn R l m h2 (by simpa using hl) (fun i x y hx hy => hR (i + 1) x y (by simpa using hx) (by simpa using hy)) hb
    refine ⟨fun x => if x = e then p else f x, ?_, fun x hx => ?_⟩
    · rw [List.map_cons, if_pos rfl, ← hf]
      congr 1
      refine List.map_congr_left fun x hx => ?_
      have hne : x ≠ e := fun q => h1 (by rw [← q]; exact hx)
      show (if x = e then p else f x) = f x
      rw [if_neg hne]
    · rcases List.mem_cons.1 hx with rfl | hx
      · show R x (if x = x then p else f x)
        rw [if_pos rfl]; exact hR 0 _ _ rfl rfl
      · have hne : x ≠ e := fun q => h1 (by rw [← q]; exact hx)
        show R x (if x = e then p else f x)
        rw [if_neg hne]; exact hr x hx
theorem hid_set {E : Env} {O : List GObj} {w : World} {b : Nat} (h : Hid E O w b) (i : Nat) (x : GObj) (hx : x.blk E ≠ some b) : Hid E (O.set i x) w b :=
  ⟨fun ⟨j, y, hy, hb⟩ => by
    rw [List.getElem?_set] at hy
    by_cases e : i = j
    · rw [if_pos e] at hy
      split at hy
      · cases hy; exact hx hb
      · cases hy
    · rw [if_neg e] at hy; exact h.obj ⟨j, y, hy, hb⟩, h.snap, h.lt⟩
theorem gDescendants (m : GM) (hm : GMOK m) (st s : Nat) (l : List Hs) (t : Tag) (ht : t = .nil → l = []) (hl : l.length ≤ 10000) : GCalls Tryd.prog 21 [.ptr 0 st 0 0, .slice (hsG l) t] (gObj st s m) (fun g O' => g = .slice (hsG (desL m l)) .none ∧ O' = gObj st s m) := by
  refine GCalls.dropTo ?_
  refine gcalls_of_wp (hf := Tryd.func21) (hb := rfl) (hn := Tryd.ntmps21) (hr := Tryd.results21) (hen := by kernel_rfl) (hargs := by simp) ?_
  intro E a w hs ha
  obtain ⟨lg, b, es, clock, hlg, hbg, hMg, hs0, k0, hid0, hin0⟩ := hs.hideMap (i := 1) rfl
  change HSim E [.row st 1 [[.map 1 s]], .dead] w at hs0
  change Keep E (gObj st s m) w E [.row st 1 [[.map 1 s]], .dead] w at k0
  change Hid E [.row st 1 [[.map 1 s]], .dead] w b at hid0
  obtain ⟨f, hf, hfe⟩ := ent_fn (fun e (p : Hs × List Hs) => EntryOK E e (.agg (bytesG p.1.1), encL p.2)) es.toList m (hMg.born.2.imp fun h e => h (congrArg _ e)) (by rw [Array.length_toList, hMg.size, kvG, List.length_map]) (fun i e p he hp => hMg.ent i e _ (by simpa using he) (by rw [kvG, List.getElem?_map, hp]; rfl)) ⟨(h0, [])⟩
  have hml : m.length ≤ 10000 := hm.len
  refine wp_seq (wp_part (st := ⟨(gstart 42 [.ptr 0 st 0 0, .slice (hsG l) t] []).s, [.row st 1 [[.map 1 s]], .dead]⟩) mixS (s := s21_0) (C := C0) (by kernel_rfl) (by kernel_rfl) hs0 ha (dR0 _ _ _) ?_)
  rintro ⟨t1, O1⟩ E1 a1 w1 q1 k1 s1R ⟨e1, hw1⟩
  change O1 = [.row st 1 [[.map 1 s]], .dead] at e1
  subst e1
  have s1 := s1R.weak hw1
  show (Code.seq _ _).wp _ _ _ _
  refine wp_seq (wp_part (st := ⟨dS (.ptr 0 st 0 0) (.slice (hsG l) t) .any .any .any .any .any .any .any .any, [.row st 1 [[.map 1 s]], .dead]⟩) mixS (s := s21_1) (C := C0) (by kernel_rfl) (by kernel_rfl) q1 s1 (dR1 _ _ _ (fun _ _ => rfl) (fun _ => rfl)) ?_)
  rintro ⟨t2, O2⟩ E2 a2 w2 q2 k2 s2R ⟨stC, stb, e2, hw2⟩
  change O2 = [.row st 1 [[.map 1 s]], .dead, .map stC [], .row stb 1 [[.map 2 stC]]] at e2
  subst e2
  have s2 := s2R.weak hw2
  have k02 := k1.trans k2
  obtain ⟨lC, bC, esC, cC, hlC, hbC, hMC, h3, k3, hidC, hinC⟩ := q2.hideMap (i := 2) rfl
  have hC0 : w.heap.size ≤ bC := by
    rcases k02.objs bC hinC with ⟨i, x, hx, hb⟩ | h
    · match i with
      | 0 =>
        cases hx
        have : (GObj.row st 1 [[.map 1 s]]).blk E2 = some bC := by rw [GObj.blk_mono k02.ext (hs0.real 0 _ rfl)]; exact hb
        exact absurd (by simp [GObj.blk, hlC, hbC]) (q2.sep 0 2 _ (.map stC []) bC (by omega) rfl rfl this)
      | 1 => cases hx; cases hb
      | i + 2 => simp at hx
    · exact h
  change HSim E2 (obs st s stC stb []) w2 at h3
  change Keep E2 _ w2 E2 (obs st s stC stb []) w2 at k3
  change Hid E2 (obs st s stC stb []) w2 bC at hidC
  have hid2 := (hid0.keep (k02.trans k3)).1
  have hb2 := (hid0.keep (k02.trans k3)).2
  have hnb : bC ≠ b := fun e => by have := hid0.lt; omega
  show (Code.seq _ _).wp _ _ _ _
  refine wp_seq (wp_seq (wp_region_lit (ops_seg (st := ⟨dS (.ptr 0 st 0 0) (.slice (hsG l) t) (.ptr 3 stb 0 0) .any .any .any .any .any .any .any, obs st s stC stb []⟩) 4 rfl rfl h3 s2 (dR2 _ _ st s _) ?_)))
  rintro ⟨t3, O3⟩ E3 a3 w3 q3 k3' s3R ⟨e3, hw3⟩
  change O3 = obs st s stC stb [] at e3
  subst e3
  have s3 := s3R.weak hw3
  have k03 := (k02.trans k3).trans k3'
  have hb3 : w3.heap[b]? = some (.map es clock) := ((hid2.keep k3').2.trans hb2).trans hMg.at_
  have hid3 := (hid2.keep k3').1
  have hidC3 := (hidC.keep k3').1
  have hC3 := (hidC.keep k3').2
  have v14 : a3.eval (.tmp 14) = .map (some b) := map_val (SlotsR.ev (st := ⟨_, []⟩) s3 (.tmp 14)) (k03.ext.loc _ _ hlg) hbg
  refine range_step (t := 62) (k := 40) (e := 30) (m := .tmp 14) rfl rfl (by kernel_rfl) v14 hb3 hMg.born ?_
  intro w4 hwk hg hsz
  have hDok : DOK ⟨st, s, stC, stb, b, w3.heap.size, bC, m, es, clock, E, w, lC⟩ := ⟨hbC, hC0, k03.size, hnb, fun e => by have h1 := hidC3.lt; change bC = w3.heap.size at e; omega, fun e => by have h1 := hid3.lt; change w3.heap.size = b at e; omega, hMg.born⟩
  have hA : AtW ⟨st, s, stC, stb, b, w3.heap.size, bC, m, es, clock, E, w, lC⟩ #[] E3 (obs st s stC stb []) w4 :=
    ⟨q3.grown hg (fun r e => by cases e), k03.grown hg (fun r e => by cases e), hwk, hid3.grown hg,
     ⟨fun ⟨i, x, hx, hb⟩ => absurd ((q3.real i x hx).blk_lt hb) (Nat.lt_irrefl _), fun o => by
        cases hv : E3.snap w3.heap.size o with
        | none => rfl
        | some v => exact absurd (q3.lt hv) (Nat.lt_irrefl _), by show w3.heap.size < w4.heap.size; omega⟩, hidC3.grown hg, k3'.ext.loc _ _ hlC⟩
  have hE : Ent ⟨st, s, stC, stb, b, w3.heap.size, bC, m, es, clock, E, w, lC⟩ [] E3 w4 := ⟨esC, cC, hMC.ext k3'.ext ((hg.block _ hidC3.lt (fun e => by cases e)).trans hC3)⟩
  have hvl : VR E3 (.pointer (some ⟨w3.heap.size, 0, none⟩)) (.lit (.pointer (some ⟨w3.heap.size, 0, none⟩))) := .lit _
  have s4 := (SlotsR.put (st := ⟨_, []⟩) s3 (.refl E3) (d := some 15) hvl []).weak (s' := dS (.ptr 0 st 0 0) (.slice (hsG l) t) (.ptr 3 stb 0 0) .any .any .any (.lit (.pointer (some ⟨w3.heap.size, 0, none⟩))) .any .any .any) (by simp [GSt.put, WL, leG_self, leG_any])
  refine wpList_nil ?_
  show (Code.block _ _).wp _ _ _ _
  refine wp_block (dOuter ⟨st, s, stC, stb, b, w3.heap.size, bC, m, es, clock, E, w, lC⟩ hDok hm f hf hfe ⟨rfl, rfl, rfl⟩ rfl rfl ⟨rfl, rfl, rfl⟩ rfl rfl (by kernel_rfl) (by kernel_rfl) (by kernel_rfl) (by kernel_rfl) (by kernel_rfl) (by kernel_rfl) (by kernel_rfl) (by kernel_rfl) ⟨rfl, rfl, ⟨rfl, rfl, rfl⟩, rfl, rfl, ⟨rfl, rfl, rfl⟩⟩ hA hE s4 ?_)
  intro ct' pre seen E5 a5 w5 hp hct hA5 hE5 s5
  refine inBlock_self ?_
  obtain ⟨es5, c5, hM5⟩ := hE5
  have hM5' : MapAt E5 w5 bC es5 c5 (kvG encL (ctM ct')) := ⟨hM5.at_, by rw [hM5.size, kvT_len]; simp [kvG, ctM], fun i e p he hp => by
    rw [kvG, ctM, List.map_map, List.getElem?_map] at hp
    cases hq : ct'[i]? with
    | none => rw [hq] at hp; cases hp
    | some q =>
      rw [hq] at hp
      cases hp
      have := hM5.ent i e _ he (by rw [kvT_at, hq]; rfl)
      exact ⟨this.1, leG.sound (x := .slice (hsG q.1.2) (.tok (i + 4) q.2)) (y := .slice (hsG q.1.2) .none) (by rw [leG_none]) this.2⟩, hM5.born⟩
  have hMg5 : MapAt E5 w5 b es clock (kvG encL m) := by
    obtain ⟨since, c0, e1, _⟩ := hA5.walk
    exact ⟨e1, hMg.size, fun i e p he hp => ⟨(hMg.ent i e p he hp).1.mono hA5.keep.ext, (hMg.ent i e p he hp).2.mono hA5.keep.ext⟩, hMg.born⟩
  obtain ⟨q6, kf6⟩ := hA5.sim.showMap (i := 2) (st := stC) rfl hA5.loc hbC hM5' hA5.hC
  have k6 := kf6 _ _ _ hA5.keep (.inr hC0)
  have hid6 : Hid E5 ((obs st s stC stb ct').set 2 (.map stC (kvG encL (ctM ct')))) w5 b := hid_set hA5.hb 2 _ (by
    have : (GObj.map stC (kvG encL (ctM ct'))).blk E5 = some bC := by
      have hl := hA5.loc
      change E5.loc stC = some lC at hl
      simp [GObj.blk, hl, hbC]
    rw [this]
    exact fun e => hnb (Option.some.inj e))
  obtain ⟨q7, kf7⟩ := q6.showMap (i := 1) (st := s) rfl (hA5.keep.ext.loc _ _ hlg) hbg hMg5 hid6
  have k7 := kf7 _ _ _ (k0.trans k6) (.inl hin0)
  change HSim E5 (((gObj st s m ++ [.map stC (kvG encL (ctM ct'))]) ++ [.row stb 1 [[.map 2 stC]]]) ++ ct'.map fun q => .tok q.2 32) w5 at q7
  change Keep E (gObj st s m) w E5 (((gObj st s m ++ [.map stC (kvG encL (ctM ct'))]) ++ [.row stb 1 [[.map 2 stC]]]) ++ ct'.map fun q => .tok q.2 32) w5 at k7
  obtain ⟨q8, k8⟩ := q7.drop
  obtain ⟨q9, k9, s9⟩ := q8.meltBox1 s5 5 rfl rfl
  have K9 := (k7.trans k8).trans k9
  have hKb : Kb 40000 (ctM ct') := by
    have := Kb.all pre (fun q hq => hm.row q (hp.mem_iff.1 hq))
    rw [← hct] at this
    intro q hq
    have h1 := this q hq
    have h2 := hp.length_eq
    change pre.length = m.length at h2
    omega
  show (Code.seq _ _).wp _ _ _ _
  refine wp_mono (vc_sound mixS _ (retQ Tryd.prog [.tmp 4] _) ⟨_, _⟩ _ a5 w5 (C := C0) (by kernel_rfl) q9 (s9.weak ?_) (vcS_ok (C := C0) _ _ _ _ _ (by kernel_rfl) (fun _ _ h => h) (dHalf m hm st s stC l t ht hl (ctM ct') (fun x y => by rw [hct]; exact kids_of_perm hp x y) hKb))) (fun e a' w' hpost => Post.trans K9 hpost)
  simp [WL, leG_self, leG_any]
end Gv.Tryd
/- graph.Remove: put together. -/
set_option linter.unusedVariables false
set_option linter.unusedSimpArgs false
set_option maxRecDepth 20000
set_option maxHeartbeats 4000000
namespace Gv.Tryd
open Go Gv Go.Proofs
structure RW where
  (b r : Nat)
  es : Array MapEntry
  clock : Nat
  E0 : Env
  O0 : List GObj
  w0 : World
structure AtR (D : RW) (seen : Array Nat) (E : Env) (O : List GObj) (w : World) : Prop where
  sim : HSim E O w
  keep : Keep D.E0 D.O0 D.w0 E O w
  walk : WalkAt w D.b D.r D.es D.clock seen
  hb : Hid E O w D.b
  hr : Hid E O w D.r
theorem AtR.step {D : RW} {seen : Array Nat} {E E' : Env} {O O' : List GObj} {w w' : World} (h : AtR D seen E O w) (h' : HSim E' O' w') (k : Keep E O w E' O' w') : AtR D seen E' O' w' :=
  ⟨h', h.keep.trans k, walk_same h.walk (h.hb.keep k).2 (h.hr.keep k).2, (h.hb.keep k).1, (h.hr.keep k).1⟩
theorem AtR.poke {D : RW} (hr0 : D.w0.heap.size ≤ D.r) {seen seen' : Array Nat} {E : Env} {O : List GObj} {w w' : World} (h : AtR D seen E O w) (g : w.grownBy w' (some D.r)) (hw : WalkAt w' D.b D.r D.es D.clock seen') : AtR D seen' E O w' :=
  ⟨h.sim.grown g (fun r e => by cases e; exact ⟨h.hr.obj, h.hr.snap⟩), h.keep.grown g (fun r e => by cases e; exact hr0), hw, h.hb.grown g, h.hr.grown g⟩
abbrev rmO (st s s' : Nat) (m M : GM) : List GObj := [.row st 1 [[.map 3 s']], .map s (kvG encL m), .dead, .map s' (kvG encL M)]
theorem rLoop {Q : Exit → Act → World → Prop} (D : RW) (hD : BornOK D.es D.clock) (hr0 : D.w0.heap.size ≤ D.r) (m : GM) (hm : (m.map (·.1)).Nodup) (S : List Hs) (st s s' : Nat) (f : MapEntry → Hs × Bool) (hf : D.es.toList.map f = setM S) (hfe : ∀ e ∈ D.es.toList, EntryOK D.E0 e (.agg (bytesG (f e).1.1), encB (f e).2))
    {c24 : Code} {id22 id23 : Nat} {n1 n2 e1 e2 e3 e4 : Oper}
    (hn1 : n1.op = .next (.tmp 57) false ∧ n1.guard = none ∧ n1.dst = some 58) (hn2 : [n2].map (fun o => (⟨o.dst, o.op, none⟩ : SOp)) = [(.mk (some 59) (.extract (.tmp 58) 0) none)]) (gn2 : [n2].all (fun o => o.guard.isNone) = true)
    (he1 : e1.op = .entry (.tmp 57) ∧ e1.guard = none ∧ e1.dst = some 60) (he2 : [e2, e3, e4].map (fun o => (⟨o.dst, o.op, none⟩ : SOp)) = [(.mk (some 61) (.extract (.tmp 60) 0) none), (.mk (some 10) (.alloc 40) none), (.mk none (.store 40 (.tmp 10) (.tmp 61)) none)]) (ge2 : [e2, e3, e4].all (fun o => o.guard.isNone) = true)
    {CC : Cfg} (hro : CC.ro = []) (s24 : slim CC c24 = some s23_24) (k24 : codeOk CC c24 = true)
    {E : Env} {a : Act} {w : World} (hA : AtR D #[] E (rmO st s s' m m) w) {p1 : GVal}
    (ha : SlotsR E a (rS (.ptr 0 st 0 0) p1 .any .any .any .any .any .any .any (.lit (.pointer (some ⟨D.r, 0, none⟩)))))
    (hq : ∀ seen T E' a' w', (∀ x, x ∈ T ↔ x ∈ S) → AtR D seen E' (rmO st s s' m (dropM m T)) w' → SlotsR E' a' (rS (.ptr 0 st 0 0) p1 .any .any .any .any .any .any .any .any) → Q (.exit 4) a' w') :
    (Code.loop ((Code.region id22 #[n1, n2] false).seq ((Code.cond (.tmp 59) .skip (.exit 4)).seq (Code.block 5 ((Code.region id23 #[e1, e2, e3, e4] false).seq c24))))).wp Tryd.prog Q a w := by
  obtain ⟨x57, e57⟩ : ∃ x : GVal, .lit (.pointer (some ⟨D.r, 0, none⟩)) = x := ⟨_, rfl⟩
  have lit57 : ∀ {E : Env} {a : Act} {S : List GVal}, SlotsR E a S → S.getD 57 .any = x57 → a.eval (.tmp 57) = .pointer (some ⟨D.r, 0, none⟩) := by
    intro E a S h hx
    have := SlotsR.ev (st := ⟨S, []⟩) h (.tmp 57)
    change VR E _ (S.getD 57 .any) at this
    rw [hx, ← e57] at this
    generalize a.eval (.tmp 57) = v at this
    cases this; rfl
  rw [e57] at ha
  refine wp_loop_ghost (fun n a w => ∃ seen xs E, Came D.es seen xs ∧ w.rangeLeft D.b D.r = n ∧ AtR D seen E (rmO st s s' m (dropM m (xs.map fun e => (f e).1))) w ∧ SlotsR E a (rS (.ptr 0 st 0 0) p1 .any .any .any .any .any .any .any x57)) _ ⟨#[], [], E, Came.nil _, rfl, by
    have : dropM m ([].map fun e => (f e).1) = m := List.filter_eq_self.2 fun p _ => by simp
    rw [this]; exact hA, ha⟩ ?_
  rintro n a1 w1 ⟨seen, xs, E1, hC, rfl, hA1, s1⟩
  obtain ⟨M, eM⟩ : ∃ M, dropM m (xs.map fun e => (f e).1) = M := ⟨_, rfl⟩
  rw [eM] at hA1
  refine wp_seq (wp_region_lit (next_step hn1.2.1 hn1.1 hD hC (lit57 s1 rfl) hA1.walk ?_ ?_))
  · intro hp
    rw [hn1.2.2]
    have hvt : VR E1 (.tuple #[.bool false]) (.tuple [.bool false]) := .tuple _ _ rfl (fun j g hj => by
      match j with
      | 0 => cases hj; exact .bool _
      | j + 1 => simp at hj)
    have s2 := (SlotsR.put (st := ⟨_, []⟩) s1 (.refl E1) (d := some 58) hvt [])
    refine ops_seg (st := ⟨(rS (.ptr 0 st 0 0) p1 .any .any .any .any .any .any .any x57).set 58 (.tuple [.bool false]), rmO st s s' m M⟩) 1 hn2 gn2 hA1.sim s2 (rR22 _ p1 x57 false [] _) ?_
    rintro ⟨t2, O2⟩ E2 a2 w2 q2 k2 s2R ⟨e2', hw2⟩
    change O2 = rmO st s s' m M at e2'
    subst e2'
    have s3 := s2R.weak hw2
    have hc : a2.eval (.tmp 59) = .bool false := by
      have : VR E2 (a2.eval (.tmp 59)) (.bool false) := SlotsR.ev (st := ⟨_, []⟩) s3 (.tmp 59)
      generalize a2.eval (.tmp 59) = v at this
      cases this; rfl
    refine wpList_nil ?_
    show (Code.seq _ _).wp _ _ _ _
    refine wp_seq (wp_cond_split hc (fun ht => by cases ht) (fun _ => wp_exit ?_))
    refine hq seen (xs.map fun e => (f e).1) E2 a2 w2 ?_ (by rw [eM]; exact hA1.step q2 k2) (s3.weak (by simp [WL, leG_self, leG_any]))
    intro x
    have h1 : (xs.map fun e => (f e).1).Perm S := by
      have h2 := (hp.map f).map (·.1)
      rw [hf, List.map_map] at h2
      simpa [setM, Function.comp_def] using h2
    exact h1.mem_iff
  · intro e w' hem hC2 hlt hwk hmu hg hent
    rw [hn1.2.2]
    have hA' := hA1.poke hr0 hg hwk
    have hvt : VR E1 (.tuple #[.bool true, e.key, e.val]) (.tuple [.bool true, .any, .any]) := .tuple _ _ rfl (fun j g hj => by
      match j with
      | 0 => cases hj; exact .bool _
      | 1 => cases hj; exact .any _
      | 2 => cases hj; exact .any _
      | j + 3 => simp at hj)
    have s2 := (SlotsR.put (st := ⟨_, []⟩) s1 (.refl E1) (d := some 58) hvt [])
    refine ops_seg (st := ⟨(rS (.ptr 0 st 0 0) p1 .any .any .any .any .any .any .any x57).set 58 (.tuple [.bool true, .any, .any]), rmO st s s' m M⟩) 1 hn2 gn2 hA'.sim s2 (rR22 _ p1 x57 true [.any, .any] _) ?_
    rintro ⟨t2, O2⟩ E2 a2 w2 q2 k2 s2R ⟨e2', hw2⟩
    change O2 = rmO st s s' m M at e2'
    subst e2'
    have s3 := s2R.weak hw2
    have hc : a2.eval (.tmp 59) = .bool true := by
      have : VR E2 (a2.eval (.tmp 59)) (.bool true) := SlotsR.ev (st := ⟨_, []⟩) s3 (.tmp 59)
      generalize a2.eval (.tmp 59) = v at this
      cases this; rfl
    have hA2 := hA'.step q2 k2
    have hent2 := hent w2 (hA'.hb.keep k2).2 (hA'.hr.keep k2).2
    refine wpList_nil ?_
    show (Code.seq _ _).wp _ _ _ _
    refine wp_seq (wp_cond_split hc (fun ht => wp_skip ?_) (fun hf => by cases hf))
    show (Code.block _ _).wp _ _ _ _
    refine wp_block (wp_seq (wp_region_lit (entry_step he1.2.1 he1.1 (lit57 s3 rfl) hent2 ?_)))
    rw [he1.2.2]
    obtain ⟨hv1, hv2⟩ := hfe e hem
    obtain ⟨h, eh⟩ : ∃ h, (f e).1 = h := ⟨_, rfl⟩
    rw [eh] at hv1
    have hvt2 : VR E2 (.tuple #[e.key, e.val]) (.tuple [.agg (bytesG h.1), .any]) := .tuple _ _ rfl (fun j g hj => by
      match j with
      | 0 => cases hj; exact hv1.mono hA2.keep.ext
      | 1 => cases hj; exact .any _
      | j + 2 => simp at hj)
    have s4 := (SlotsR.put (st := ⟨_, []⟩) s3 (.refl E2) (d := some 60) hvt2 []).weak (s' := (rS (.ptr 0 st 0 0) p1 .any .any .any .any .any .any .any x57).set 60 (.tuple [.agg (bytesG h.1), .any])) (by simp [GSt.put, WL, leG_self, leG_any])
    refine ops_seg (st := ⟨(rS (.ptr 0 st 0 0) p1 .any .any .any .any .any .any .any x57).set 60 (.tuple [.agg (bytesG h.1), .any]), rmO st s s' m M⟩) 3 he2 ge2 hA2.sim s4 (rR23 _ p1 x57 .any h _ (fun _ => rfl) rfl) ?_
    rintro ⟨t3, O3⟩ E3 a3 w3 q3 k3 s3R ⟨v, e3', hw3⟩
    change O3 = rmO st s s' m M ++ [.row v 32 [bytesG h.1]] at e3'
    subst e3'
    have s5 := s3R.weak hw3
    refine wpList_nil ?_
    refine wp_part (C := CC) (st := ⟨(rS (.ptr 0 st 0 0) p1 .any .any .any .any .any .any .any x57).set 10 (.ptr 4 v 0 0), [.row st 1 [[.map 3 s']], .map s (kvG encL m), .dead, .map s' (kvG encL M), .row v 32 [bytesG h.1]]⟩) mixS s24 k24 q3 s5 (by rw [hro]; exact rR24 p1 x57 h st v s' _ M) ?_
    rintro ⟨t4, O4⟩ E4 a4 w4 q4 k4 s4R ⟨e4', hw4⟩
    change O4 = rmO st s s' m (mdel M h) ++ [.row v 32 [bytesG h.1]] at e4'
    subst e4'
    obtain ⟨q5, k5⟩ := q4.drop
    have hA5 := hA2.step q5 ((k3.trans k4).trans k5)
    refine ⟨w4.rangeLeft D.b D.r, ?_, _, xs ++ [e], E4, hC2, rfl, ?_, s4R.weak hw4⟩
    · rw [hA5.walk.left_eq, ← hwk.left_eq]; exact hmu
    · rw [List.map_append, List.map_cons, List.map_nil, ← dropM_snoc hm, eM, eh]
      exact hA5
end Gv.Tryd
/- graph.Remove: the contract. -/
set_option linter.unusedVariables false
set_option linter.unusedSimpArgs false
set_option maxRecDepth 20000
set_option maxHeartbeats 400000
namespace Gv.Tryd
open Go Gv Go.Proofs
theorem rEnd (p0 p1 : GVal) (O : List GObj) (K : GVal → List GObj → Prop) (h : K (.lit .nilIface) O) : vcS Tryd.prog [] (.seq s23_27 .ret) (retQ Tryd.prog [.tmp 4] K) ⟨rS p0 p1 .any .any .any .any .any .any .any .any, O⟩ := by
  skip
  simp +contextual -implicitDefEqProofs (maxSteps := 2000000) (disch := omega) only [drawC, drawK, keepT, ↓lenV, binV, ↓unV, ↓loadV, ↓storeV, ↓fieldAddrV, ↓indexAddrV, ↓allocV, ↓nilV, ↓ifaceV, GVal.cells, grp, GVal.ofConst, ↓resV, resG, List.map, List.headD, List.take, List.drop, ↓reduceIte, Nat.reduceEqDiff, Nat.reduceAdd, Nat.reduceSub, Nat.reduceLeDiff, reduceCtorEq, implies_true, ne_eq, ↓lookupV, ↓mapUpdateV, ↓deleteV, ↓makeMapV, keyOk, keyCells, pairG, Tag.cap, List.replicate, allSolid, GVal.solid, Nat.reduceBEq, Nat.reduceMul, Nat.reduceLT, List.length_map, List.length_range, splice, vcA, ↓vcB, vcC, fbFu, e23, rS]
  exact h
theorem gRemove (m : GM) (hm : GMOK m) (hk : (m.map (·.1)).Nodup) (st s : Nat) (l : List Hs) (t : Tag) (ht : t = .nil → l = []) (hl : l.length ≤ 10000) : GCalls Tryd.prog 23 [.ptr 0 st 0 0, .slice (hsG l) t] (gObj st s m) (fun g O' => g = errV (removeE m (setAll (inM m l))) ∧ ∃ s', O' = gObj st s' (removeM m (setAll (inM m l)))) := by
  have hSl : (setAll (inM m l)).length ≤ 100000 := by
    have h1 := setAll_len (inM m l)
    have h2 : (inM m l).length ≤ l.length := List.length_filter_le _ _
    omega
  have cL1 := fun sg => rL1 m st s sg l t ht hl
  generalize setAll (inM m l) = S at *
  have cL2 := fun sg => rL2 m hm hk st s sg S hSl
  refine GCalls.dropTo ?_
  refine gcalls_of_wp (hf := Tryd.func23) (hb := rfl) (hn := Tryd.ntmps23) (hr := Tryd.results23) (hen := by kernel_rfl) (hargs := by simp) ?_
  intro E a w hs ha
  refine wp_seq (wp_part (st := ⟨(gstart 67 [.ptr 0 st 0 0, .slice (hsG l) t] []).s, gObj st s m⟩) mixS (s := s23_0) (C := C0) (by kernel_rfl) (by kernel_rfl) hs ha (rR0 _ _ _) ?_)
  rintro ⟨t1, O1⟩ E1 a1 w1 q1 k1 s1R ⟨e1, hw1⟩
  change O1 = gObj st s m at e1
  subst e1
  have s1 := s1R.weak hw1
  show (Code.seq _ _).wp _ _ _ _
  refine wp_seq (wp_part (st := ⟨rS (.ptr 0 st 0 0) (.slice (hsG l) t) .any .any .any .any .any .any .any .any, gObj st s m⟩) mixS (s := s23_1) (C := C0) (by kernel_rfl) (by kernel_rfl) q1 s1 (rR1 _ _ _ _ _) ?_)
  rintro ⟨t2, O2⟩ E2 a2 w2 q2 k2 s2R ⟨sg, sb, e2, hw2⟩
  change O2 = (gObj st s m ++ [.map sg []]) ++ [.row sb 1 [[.map 2 sg]]] at e2
  subst e2
  obtain ⟨q3, k3, s3⟩ := q2.meltBox1 (s2R.weak hw2) 5 rfl rfl
  have k03 := (k1.trans k2).trans k3
  show (Code.seq _ _).wp _ _ _ _
  refine wp_seq (wp_part (st := ⟨rS (.ptr 0 st 0 0) (.slice (hsG l) t) (.ref [.map 2 sg]) .any .any .any .any .any .any .any, gObj st s m ++ [.map sg []]⟩) mixS (s := s23_9) (C := C0) (by kernel_rfl) (by kernel_rfl) q3 (s3.weak (by simp [WL, leG_self, leG_any])) (cL1 sg) ?_)
  rintro ⟨t4, O4⟩ E4 a4 w4 q4 k4 s4R ⟨e4, hw4⟩
  change O4 = gObj st s m ++ [.map sg (kvG encB (setM S))] at e4
  subst e4
  have s4 := s4R.weak hw4
  have k04 := k03.trans k4
  show (Code.seq _ _).wp _ _ _ _
  refine wp_seq (wp_mono (vc_sound mixS (C := C23) _ (rmQ (removeE m S) (rS (.ptr 0 st 0 0) .any (.ref [.map 2 sg]) .any .any .any .any .any .any .any) (gObj st s m ++ [.map sg (kvG encB (setM S))])) ⟨rS (.ptr 0 st 0 0) .any (.ref [.map 2 sg]) .any .any .any .any .any .any .any, gObj st s m ++ [.map sg (kvG encB (setM S))]⟩ E4 a4 w4 (by kernel_rfl) q4 s4 (vcS_ok (C := C23) _ _ _ _ _ (by kernel_rfl) (fun _ _ h => h) (cL2 sg))) ?_)
  rintro e a5 w5 ⟨ex, ⟨t5, O5⟩, E5, hx, q5, k5, s5R, h5⟩
  cases e <;> cases ex <;> first | exact hx.elim | exact h5.elim | skip
  · -- they may
    obtain ⟨eE, e5, hw5⟩ := h5
    change O5 = gObj st s m ++ [.map sg (kvG encB (setM S))] at e5
    subst e5
    have s5 := s5R.weak hw5
    have k05 := k04.trans k5
    show (Code.seq _ _).wp _ _ _ _
    refine wp_seq (wp_partV (st := ⟨rS (.ptr 0 st 0 0) .any (.ref [.map 2 sg]) .any .any .any .any .any .any .any, gObj st s m ++ [.map sg (kvG encB (setM S))]⟩) mixS (s := s23_20) (C := C0) (by kernel_rfl) (by kernel_rfl) q5 s5 (rR20 m st s sg (kvG encB (setM S))) ?_)
    rintro ⟨t6, O6⟩ E6 a6 w6 q6 k6 s6R ⟨s', e6, hw6⟩
    change O6 = [.row st 1 [[.map 3 s']], .map s (kvG encL m), .map sg (kvG encB (setM S)), .map s' (kvG encL m)] at e6
    subst e6
    have s6 := s6R.weak hw6
    have k06 := k05.trans k6
    show (Code.seq _ _).wp _ _ _ _
    refine wp_seq (wp_seq (wp_region_lit (ops_seg (st := ⟨rS (.ptr 0 st 0 0) .any (.ref [.map 2 sg]) .any .any .any .any .any .any .any, [.row st 1 [[.map 3 s']], .map s (kvG encL m), .map sg (kvG encB (setM S)), .map s' (kvG encL m)]⟩) 1 rfl rfl q6 s6 (rR21 _ _ _ _) ?_)))
    rintro ⟨t7, O7⟩ E7 a7 w7 q7 k7 s7R ⟨e7, hw7⟩
    change O7 = [.row st 1 [[.map 3 s']], .map s (kvG encL m), .map sg (kvG encB (setM S)), .map s' (kvG encL m)] at e7
    subst e7
    have s7 := s7R.weak hw7
    obtain ⟨lg, b, es, clock, hlg, hbg, hMg, q8, k8, hid8, hin8⟩ := q7.hideMap (i := 2) rfl
    change HSim E7 (rmO st s s' m m) w7 at q8
    change Keep E7 _ w7 E7 (rmO st s s' m m) w7 at k8
    change Hid E7 (rmO st s s' m m) w7 b at hid8
    have k08 := (k06.trans k7).trans k8
    obtain ⟨f, hf, hfe⟩ := ent_fn (fun e (p : Hs × Bool) => EntryOK E7 e (.agg (bytesG p.1.1), encB p.2)) es.toList (setM S) (hMg.born.2.imp fun h e => h (congrArg _ e)) (by rw [Array.length_toList, hMg.size, kvG, List.length_map]) (fun i e p he hp => hMg.ent i e _ (by simpa using he) (by rw [kvG, List.getElem?_map, hp]; rfl)) ⟨(h0, true)⟩
    have v56 : a7.eval (.tmp 56) = .map (some b) := map_val (SlotsR.ev (st := ⟨_, []⟩) s7 (.tmp 56)) hlg hbg
    refine range_step (t := 77) (k := 40) (e := 4) (m := .tmp 56) rfl rfl (by kernel_rfl) v56 hMg.at_ hMg.born ?_
    intro w9 hwk hg hsz
    have hA : AtR ⟨b, w7.heap.size, es, clock, E7, rmO st s s' m m, w7⟩ #[] E7 (rmO st s s' m m) w9 :=
      ⟨q8.grown hg (fun r e => by cases e), (Keep.refl _ _ _).grown hg (fun r e => by cases e), hwk, hid8.grown hg,
       ⟨fun ⟨i, x, hx, hb⟩ => absurd ((q8.real i x hx).blk_lt hb) (Nat.lt_irrefl _), fun o => by
          cases hv : E7.snap w7.heap.size o with
          | none => rfl
          | some v => exact absurd (q8.lt hv) (Nat.lt_irrefl _), by show w7.heap.size < w9.heap.size; omega⟩⟩
    have hvl : VR E7 (.pointer (some ⟨w7.heap.size, 0, none⟩)) (.lit (.pointer (some ⟨w7.heap.size, 0, none⟩))) := .lit _
    have s9 := (SlotsR.put (st := ⟨_, []⟩) s7 (.refl E7) (d := some 57) hvl []).weak (s' := rS (.ptr 0 st 0 0) .any .any .any .any .any .any .any .any (.lit (.pointer (some ⟨w7.heap.size, 0, none⟩)))) (by simp [GSt.put, WL, leG_self, leG_any])
    refine wpList_nil ?_
    show (Code.block _ _).wp _ _ _ _
    refine wp_block (rLoop ⟨b, w7.heap.size, es, clock, E7, rmO st s s' m m, w7⟩ hMg.born (Nat.le_refl _) m hk S st s s' f hf hfe ⟨rfl, rfl, rfl⟩ rfl rfl ⟨rfl, rfl, rfl⟩ rfl rfl (CC := C23) rfl (by kernel_rfl) (by kernel_rfl) hA s9 ?_)
    intro seen T Ex ax wx hT hAx sx
    refine inBlock_self ?_
    obtain ⟨qp, kp⟩ := hAx.sim.pick (X := gObj st s' (dropM m T)) [0, 3] ⟨⟨_, rfl, OLe.row ⟨⟨GLe.map _ _ _, trivial⟩, trivial⟩⟩, ⟨_, rfl, .refl _⟩, trivial⟩ (by simp) rfl
    have K9 := (k08.trans hAx.keep).trans kp
    have eM : removeM m S = dropM m T := by
      unfold removeM
      rw [eE]
      exact (dropM_perm hT).symm
    show (Code.seq _ _).wp _ _ _ _
    refine wp_mono (vc_sound mixS _ (retQ Tryd.prog [.tmp 4] _) ⟨_, _⟩ _ ax wx (C := C0) (by kernel_rfl) qp sx (vcS_ok (C := C0) _ _ _ _ _ (by kernel_rfl) (fun _ _ h => h) (rEnd _ _ _ _ ?_))) (fun e a' w' hpost => Post.trans K9 hpost)
    refine ⟨_, gObj st s' (dropM m T), [], by simp, leA_refl _, by rw [eE]; rfl, s', by rw [eM]⟩
  · -- one stays that stands on one that goes
    obtain ⟨X, hne, e5, h4⟩ := h5
    change O5 = (gObj st s m ++ [.map sg (kvG encB (setM S))]) ++ X at e5
    subst e5
    refine ⟨.ret, ⟨t5, _⟩, E5, trivial, q5, k04.trans k5, s5R, ?_⟩
    show dropTo _ (sget t5 4) _
    refine ⟨errV (removeE m S), gObj st s m, [.map sg (kvG encB (setM S))] ++ X, by simp, ?_, rfl, s, ?_⟩
    · have h4' : sget t5 4 = errV (removeE m S) := h4
      rw [h4']; exact leA_refl _
    · unfold removeM
      cases hE : removeE m S with
      | none => exact absurd hE hne
      | some e => rfl
end Gv.Tryd
/- Ancestors and descendants: plain laws. -/
set_option linter.unusedVariables false
set_option linter.unusedSimpArgs false
namespace Gv.Tryd
open Go Gv Go.Proofs
theorem kids_there {m : GM} {x y : Hs} (h : y ∈ kidsM m x) : (look m y).isSome = true := by
  obtain ⟨q, h1, _, rfl⟩ := kidsM_mem.1 h
  exact key_look (List.mem_map_of_mem h1)
theorem inM_mem {m : GM} {l : List Hs} {x : Hs} : x ∈ inM m l ↔ x ∈ l ∧ (look m x).isSome = true := by unfold inM; exact List.mem_filter
theorem reach_there {m : GM} {nx : Hs → List Hs} (hn : ∀ x y, y ∈ nx x → (look m y).isSome = true) {l : List Hs} {x : Hs} (h : Reach nx (inM m l) x) : (look m x).isSome = true := by
  cases h with
  | base x hx => exact (inM_mem.1 hx).2
  | step z x _ hx => exact hn z x hx
end Gv.Tryd
/- errors.As at a target of kind *api.Errno: Go's own text walked (after the worked example toyas). -/
namespace Gv.Tryd
open Go Go.Proofs Go.RowKit Go.Extern.Stop Go.Stop Go.Extern

/-! ### CLOSED FACTS ON THE MODEL's ENTRIES FOR internal/reflectlite, at this program's types: 25: *p.E · 27: **p.E · 23: error · 45: reflectlite's rtype · 1: how many package-level variables the dump has -/
theorem AsD.valueOf27 (t : Addr) (w : World) : (ReflectliteValue.unpack (.iface 89 (.pointer (some t)))).run Tryd.prog w
    = .ok (.agg #[.pointer (some ⟨2, 89, none⟩), .pointer (some ⟨w.heap.size, 0, none⟩), .int .u64 150]) (w.alloc (.cells #[.pointer (some t)] 89)) := by kernel_rfl
theorem AsD.type27 (a : Addr) (w : World) : (ReflectliteValue.methodAny (ReflectliteValue.valueError "reflectlite.Value.Type" 0) (fun t _ _ _ => ReflectliteType.toType t) #[.agg #[.pointer (some ⟨2, 89, none⟩), .pointer (some a), .int .u64 150]]).run Tryd.prog w
    = .ok (.iface 119 (.agg #[.pointer (some ⟨2, 89, none⟩)])) w := by kernel_rfl
theorem AsD.methodKind (h : Value) (w : World) : (Go.method 281 119 (.agg #[h]) "Kind").run Tryd.prog w = .ok (103, h) w := by kernel_rfl
theorem AsD.kind27 (w : World) : ((ReflectliteType.abiMethod fun t => (fun a : Nat => Value.int IntKind.u8 (a : Int)) <$> Rtype.kind t) #[.pointer (some ⟨2, 89, none⟩)]).run Tryd.prog w = .ok (.int .u8 22) w := by kernel_rfl
theorem AsD.kind25 (w : World) : ((ReflectliteType.abiMethod fun t => (fun a : Nat => Value.int IntKind.u8 (a : Int)) <$> Rtype.kind t) #[.pointer (some ⟨2, 60, none⟩)]).run Tryd.prog w = .ok (.int .u8 2) w := by kernel_rfl

/-! ### THE ENTRIES THAT READ OR WRITE MEMORY: laws with a premise on the cell (after Derived/Lib/ReflectliteSlice.lean's manner: each unfolding a lemma of its own, by rfl) -/
theorem rlm (z : Sem Value) (f : TypeId → Addr → Nat → Nat → Sem Value) (v : Value) :
    ReflectliteValue.method z f #[v] = (do match ← ReflectliteValue.parts v with | none => z | some (t, a, fl) => f t a fl (fl % 32)) := rfl
theorem AsD.parts27 (a : Addr) (w : World) : (ReflectliteValue.parts (.agg #[.pointer (some ⟨2, 89, none⟩), .pointer (some a), .int .u64 150])).run Tryd.prog w = .ok (some (89, a, 150)) w := by kernel_rfl
theorem AsD.isNil27 (a p : Addr) (W : World) (ha : W.cell? a = some (.pointer (some p))) :
    (ReflectliteValue.method (ReflectliteValue.valueError "reflectlite.Value.IsNil" 0) ReflectliteValue.isNil #[.agg #[.pointer (some ⟨2, 89, none⟩), .pointer (some a), .int .u64 150]]).run Tryd.prog W = .ok (.bool false) W := by
  rw [rlm]
  simp only [Sem.run_bind, AsD.parts27, Result.andThen]
  simp [ReflectliteValue.isNil, loadVar, isAgg, underlying, Tryd.underlying89, ha, Result.andThen]

theorem AsD.methodElem (h : Value) (w : World) : (Go.method 281 119 (.agg #[h]) "Elem").run Tryd.prog w = .ok (115, .agg #[h]) w := by kernel_rfl
theorem AsD.methodImplements (h : Value) (w : World) : (Go.method 281 119 (.agg #[h]) "Implements").run Tryd.prog w = .ok (116, .agg #[h]) w := by kernel_rfl
theorem AsD.methodAssignableTo (h : Value) (w : World) : (Go.method 281 119 (.agg #[h]) "AssignableTo").run Tryd.prog w = .ok (113, .agg #[h]) w := by kernel_rfl
theorem AsD.elem27 (w : World) : (ReflectliteType.method ReflectliteType.elem #[.agg #[.pointer (some ⟨2, 89, none⟩)]]).run Tryd.prog w = .ok (.iface 119 (.agg #[.pointer (some ⟨2, 60, none⟩)])) w := by kernel_rfl
theorem AsD.implements25 (w : World) : (ReflectliteType.relation "Implements" ReflectliteType.implements_ #[.agg #[.pointer (some ⟨2, 60, none⟩)], .iface 119 (.agg #[.pointer (some ⟨2, 35, none⟩)])]).run Tryd.prog w = .ok (.bool true) w := by kernel_rfl
theorem AsD.typeOf25 (v : Value) (w : World) : (ReflectliteType.typeOf #[.iface 60 v]).run Tryd.prog w = .ok (.iface 119 (.agg #[.pointer (some ⟨2, 60, none⟩)])) w := by kernel_rfl
theorem AsD.assignable25 (w : World) : (ReflectliteType.relation "AssignableTo" ReflectliteType.assignableTo #[.agg #[.pointer (some ⟨2, 60, none⟩)], .iface 119 (.agg #[.pointer (some ⟨2, 60, none⟩)])]).run Tryd.prog w = .ok (.bool true) w := by kernel_rfl
theorem AsD.valueOf25 (e : Int) (w : World) : (ReflectliteValue.unpack (.iface 60 (.int .i64 e))).run Tryd.prog w
    = .ok (.agg #[.pointer (some ⟨2, 60, none⟩), .pointer (some ⟨w.heap.size, 0, none⟩), .int .u64 130]) (w.alloc (.cells #[.int .i64 e] 60)) := by kernel_rfl

theorem AsD.elemOf27 (w : World) : (Rtype.elem? 89).run Tryd.prog w = .ok (some 60) w := by kernel_rfl
theorem AsD.mk25 (p : Addr) (w : World) : (ReflectliteValue.mk 60 p ReflectliteValue.flagAddr).run Tryd.prog w = .ok (.agg #[.pointer (some ⟨2, 60, none⟩), .pointer (some p), .int .u64 386]) w := by kernel_rfl
theorem AsD.elemV27 (a p : Addr) (W : World) (ha : W.cell? a = some (.pointer (some p))) :
    (ReflectliteValue.method (ReflectliteValue.valueError "reflectlite.Value.Elem" 0) ReflectliteValue.elem #[.agg #[.pointer (some ⟨2, 89, none⟩), .pointer (some a), .int .u64 150]]).run Tryd.prog W
      = .ok (.agg #[.pointer (some ⟨2, 60, none⟩), .pointer (some p), .int .u64 386]) W := by
  rw [rlm]
  simp only [Sem.run_bind, AsD.parts27, Result.andThen]
  simp [ReflectliteValue.elem, loadVar, isAgg, underlying, Tryd.underlying89, ha, Result.andThen, AsD.elemOf27, AsD.mk25]
theorem rls (v x : Value) : ReflectliteValue.set #[v, x] = (do
    let (some (dst, a, fl), some (src, b, _)) := (← ReflectliteValue.parts v, ← ReflectliteValue.parts x)
      | unsupported (.noEntry "extern/(internal/reflectlite.Value).Set.zeroValue")
    if fl / ReflectliteValue.flagAddr % 2 == 0 then unsupported (.noEntry "extern/(internal/reflectlite.Value).Set.unaddressable")
    let val ← loadVar src b
    if ← Rtype.directlyAssignable dst src then storeVar dst a val
    else if ← Rtype.implements dst src then
      if (← Rtype.kind src) == 20 then
        match val with
        | .nilIface => unsupported (.noEntry "extern/reflectlite: a nil value of one interface type handed on as a value of another")
        | _ => storeVar dst a val
      else storeVar dst a (.iface src val)
    else panicString ("reflectlite.Set: value of type " ++ (← Rtype.spelt src) ++ " is not assignable to type " ++ (← Rtype.spelt dst))
    pure (.tuple #[])) := rfl
theorem AsD.parts25a (a : Addr) (w : World) : (ReflectliteValue.parts (.agg #[.pointer (some ⟨2, 60, none⟩), .pointer (some a), .int .u64 386])).run Tryd.prog w = .ok (some (60, a, 386)) w := by kernel_rfl
theorem AsD.parts25 (a : Addr) (w : World) : (ReflectliteValue.parts (.agg #[.pointer (some ⟨2, 60, none⟩), .pointer (some a), .int .u64 130])).run Tryd.prog w = .ok (some (60, a, 130)) w := by kernel_rfl
theorem AsD.direct25 (w : World) : (Rtype.directlyAssignable 60 60).run Tryd.prog w = .ok true w := by kernel_rfl
theorem AsD.set25 (ta b : Addr) (e : Int) (old : Value) (W : World) (hb : W.cell? b = some (.int .i64 e)) (ht : W.cell? ta = some old) (hf : W.frozen? ta = false) :
    (ReflectliteValue.set #[.agg #[.pointer (some ⟨2, 60, none⟩), .pointer (some ta), .int .u64 386], .agg #[.pointer (some ⟨2, 60, none⟩), .pointer (some b), .int .u64 130]]).run Tryd.prog W
      = .ok (.tuple #[]) (W.setCell ta (.int .i64 e)) := by
  rw [rls]
  simp only [Sem.run_bind, AsD.parts25a, AsD.parts25, Result.andThen]
  simp [ReflectliteValue.flagAddr, loadVar, isAgg, underlying, Tryd.underlying60, hb, Result.andThen, AsD.direct25, storeVar, Value.cells, storeCells, Addr.add]
  rw [run_store Tryd.prog W ta _ _ (by rfl)]
  simp [ht, hf]

set_option maxRecDepth 20000 in
set_option maxHeartbeats 4000000 in
theorem as_hit (e : Int) (t : Addr) (old : Value) (w : World) (hg : w.cell? ⟨0, 0, none⟩ = some (.iface 119 (.agg #[.pointer (some ⟨2, 35, none⟩)]))) (ht0 : w.cell? t = some old) (hf0 : w.frozen? t = false) :
    Calls Tryd.prog 43 #[.iface 60 (.int .i64 e), .iface 89 (.pointer (some t))] w fun ev w' => ev = .returned (.bool true) ∧ w' = ((((w.alloc (.cells #[.pointer (some t)] 89)).alloc (.cells #[.pointer (some ⟨2, 89, none⟩), .pointer (some ⟨w.heap.size, 0, none⟩), .int .u64 150] 105)).alloc (.cells #[.pointer (some ⟨2, 89, none⟩), .pointer (some ⟨w.heap.size, 0, none⟩), .int .u64 150] 105)).alloc (.cells #[.int .i64 e] 60)).setCell t (.int .i64 e) := by
  have h6 := @run_callFunc_extern Tryd.prog 59 _ (fun args => ReflectliteValue.unpack (args.getD 0 (.tuple #[]))) Tryd.func59 (by kernel_rfl) (by kernel_rfl) (by kernel_rfl) (by kernel_rfl)
  have h7 := @run_callFunc_extern Tryd.prog 60 _ (ReflectliteValue.methodAny (ReflectliteValue.valueError "reflectlite.Value.Type" 0) (fun t _ _ _ => ReflectliteType.toType t)) Tryd.func60 (by kernel_rfl) (by kernel_rfl) (by kernel_rfl) (by kernel_rfl)
  have h8 := @run_callFunc_extern Tryd.prog 61 _ (ReflectliteValue.method (ReflectliteValue.valueError "reflectlite.Value.IsNil" 0) ReflectliteValue.isNil) Tryd.func61 (by kernel_rfl) (by kernel_rfl) (by kernel_rfl) (by kernel_rfl)
  have h27 := @run_callFunc_extern Tryd.prog 103 _ (ReflectliteType.abiMethod fun t => do pure (.int .u8 (← Rtype.kind t))) Tryd.func103 (by kernel_rfl) (by kernel_rfl) (by kernel_rfl) (by kernel_rfl)
  have h37 := @run_callFunc_extern Tryd.prog 115 _ (ReflectliteType.method ReflectliteType.elem) Tryd.func115 (by kernel_rfl) (by kernel_rfl) (by kernel_rfl) (by kernel_rfl)
  have h38 := @run_callFunc_extern Tryd.prog 116 _ (ReflectliteType.relation "Implements" ReflectliteType.implements_) Tryd.func116 (by kernel_rfl) (by kernel_rfl) (by kernel_rfl) (by kernel_rfl)
  have h10 := @run_callFunc_extern Tryd.prog 70 _ ReflectliteType.typeOf Tryd.func70 (by kernel_rfl) (by kernel_rfl) (by kernel_rfl) (by kernel_rfl)
  have h35 := @run_callFunc_extern Tryd.prog 113 _ (ReflectliteType.relation "AssignableTo" ReflectliteType.assignableTo) Tryd.func113 (by kernel_rfl) (by kernel_rfl) (by kernel_rfl) (by kernel_rfl)
  have h11 := @run_callFunc_extern Tryd.prog 71 _ (ReflectliteValue.method (ReflectliteValue.valueError "reflectlite.Value.Elem" 0) ReflectliteValue.elem) Tryd.func71 (by kernel_rfl) (by kernel_rfl) (by kernel_rfl) (by kernel_rfl)
  have h12 := @run_callFunc_extern Tryd.prog 72 _ ReflectliteValue.set Tryd.func72 (by kernel_rfl) (by kernel_rfl) (by kernel_rfl) (by kernel_rfl)
  have tO := AsD.typeOf25
  have mA := AsD.methodAssignableTo
  have a25 := AsD.assignable25
  have v25 := AsD.valueOf25
  have f6 := AsD.valueOf27
  have f7 := AsD.type27
  have mK := AsD.methodKind
  have mE := AsD.methodElem
  have mI := AsD.methodImplements
  have k27 := AsD.kind27
  have k25 := AsD.kind25
  have e27 := AsD.elem27
  have i25 := AsD.implements25
  have n8 := AsD.isNil27 ⟨w.heap.size, 0, none⟩ t ((w.alloc (.cells #[.pointer (some t)] 89)).alloc (.cells #[.pointer (some ⟨2, 89, none⟩), .pointer (some ⟨w.heap.size, 0, none⟩), .int .u64 150] 105)) (by simp)
  have hlt : 0 < w.heap.size := by
    rcases Nat.eq_zero_or_pos w.heap.size with h0 | h
    · simp [World.cell?, h0] at hg
    · exact h
  have hg2 : ((w.alloc (.cells #[.pointer (some t)] 89)).alloc (.cells #[.pointer (some ⟨2, 89, none⟩), .pointer (some ⟨w.heap.size, 0, none⟩), .int .u64 150] 105)).cell? ⟨0, 0, none⟩ = some (.iface 119 (.agg #[.pointer (some ⟨2, 35, none⟩)])) := by
    rw [World.cell?_alloc_lt _ _ ⟨0, 0, none⟩ (by simp), World.cell?_alloc_lt _ _ ⟨0, 0, none⟩ hlt]; exact hg
  have htl : t.block < w.heap.size := by
    rcases Nat.lt_or_ge t.block w.heap.size with h | h
    · exact h
    · simp [World.cell?, Array.getElem?_eq_none h] at ht0
  have el := AsD.elemV27 ⟨w.heap.size, 0, none⟩ t (((w.alloc (.cells #[.pointer (some t)] 89)).alloc (.cells #[.pointer (some ⟨2, 89, none⟩), .pointer (some ⟨w.heap.size, 0, none⟩), .int .u64 150] 105)).alloc (.cells #[.pointer (some ⟨2, 89, none⟩), .pointer (some ⟨w.heap.size, 0, none⟩), .int .u64 150] 105)) (by rw [World.cell?_alloc_lt _ _ ⟨w.heap.size, 0, none⟩ (by simp; omega)]; simp)
  have st := AsD.set25 t ⟨w.heap.size + 1 + 1 + 1, 0, none⟩ e old ((((w.alloc (.cells #[.pointer (some t)] 89)).alloc (.cells #[.pointer (some ⟨2, 89, none⟩), .pointer (some ⟨w.heap.size, 0, none⟩), .int .u64 150] 105)).alloc (.cells #[.pointer (some ⟨2, 89, none⟩), .pointer (some ⟨w.heap.size, 0, none⟩), .int .u64 150] 105)).alloc (.cells #[.int .i64 e] 60))
    (by rw [World.cell?_alloc_at _ _ _ _ (by simp)]; rfl)
    (by rw [World.cell?_alloc_lt _ _ t (by simp; omega), World.cell?_alloc_lt _ _ t (by simp; omega), World.cell?_alloc_lt _ _ t (by simp; omega), World.cell?_alloc_lt _ _ t htl]; exact ht0)
    (by rw [World.frozen?_alloc_old _ _ t (by simp; omega), World.frozen?_alloc_old _ _ t (by simp; omega), World.frozen?_alloc_old _ _ t (by simp; omega), World.frozen?_alloc_old _ _ t (Nat.ne_of_lt htl)]; exact hf0)
  go_enter Tryd.func43, Tryd.ntmps43
  go_wp2
  refine wp_loop_rounds 1 ?_
  rw [rounds_succ]
  go_wp2
  go_ret
  exact ⟨rfl, rfl⟩
end Gv.Tryd
/- errors.As at *api.Errno where the error is a *oops.Which; at **oops.Which. -/
namespace Gv.Tryd
open Go Go.Proofs Go.RowKit Go.Extern.Stop Go.Stop Go.Extern
theorem AsW.typeOf (v : Value) (w : World) : (ReflectliteType.typeOf #[.iface 84 v]).run Tryd.prog w = .ok (.iface 119 (.agg #[.pointer (some ⟨2, 84, none⟩)])) w := by kernel_rfl
theorem AsW.notAssignable (w : World) : (ReflectliteType.relation "AssignableTo" ReflectliteType.assignableTo #[.agg #[.pointer (some ⟨2, 84, none⟩)], .iface 119 (.agg #[.pointer (some ⟨2, 60, none⟩)])]).run Tryd.prog w = .ok (.bool false) w := by kernel_rfl
theorem AsW.noAs (v : Value) (xT : TypeId) (w : World) : (Instr.typeAssert (.iface 84 v) xT 124 true).run Tryd.prog w = .ok (.tuple #[.nilIface, .bool false]) w := run_typeAssert_lacksB Tryd.underlying124 (by kernel_rfl) (by kernel_rfl) v xT w
theorem AsW.hasUnwrap (v : Value) (xT : TypeId) (w : World) : (Instr.typeAssert (.iface 84 v) xT 127 true).run Tryd.prog w = .ok (.tuple #[.iface 84 v, .bool true]) w := run_typeAssert_hasB Tryd.underlying127 (by kernel_rfl) v xT w
theorem AsW.methodUnwrap (p : Value) (w : World) : (Go.method 281 84 p "Unwrap").run Tryd.prog w = .ok (108, p) w := by kernel_rfl
set_option maxRecDepth 20000 in
set_option maxHeartbeats 4000000 in
theorem as_wrap (b0 off : Nat) (e : Int) (t : Addr) (old : Value) (w : World) (hp : w.cell? ⟨b0, off + 32, none⟩ = some (.iface 60 (.int .i64 e))) (hg : w.cell? ⟨0, 0, none⟩ = some (.iface 119 (.agg #[.pointer (some ⟨2, 35, none⟩)]))) (ht0 : w.cell? t = some old) (hf0 : w.frozen? t = false) :
    Calls Tryd.prog 43 #[.iface 84 (.pointer (some ⟨b0, off, none⟩)), .iface 89 (.pointer (some t))] w fun ev w' => ev = .returned (.bool true) ∧ w' = ((((w.alloc (.cells #[.pointer (some t)] 89)).alloc (.cells #[.pointer (some ⟨2, 89, none⟩), .pointer (some ⟨w.heap.size, 0, none⟩), .int .u64 150] 105)).alloc (.cells #[.pointer (some ⟨2, 89, none⟩), .pointer (some ⟨w.heap.size, 0, none⟩), .int .u64 150] 105)).alloc (.cells #[.int .i64 e] 60)).setCell t (.int .i64 e) := by
  have h6 := @run_callFunc_extern Tryd.prog 59 _ (fun args => ReflectliteValue.unpack (args.getD 0 (.tuple #[]))) Tryd.func59 (by kernel_rfl) (by kernel_rfl) (by kernel_rfl) (by kernel_rfl)
  have h7 := @run_callFunc_extern Tryd.prog 60 _ (ReflectliteValue.methodAny (ReflectliteValue.valueError "reflectlite.Value.Type" 0) (fun t _ _ _ => ReflectliteType.toType t)) Tryd.func60 (by kernel_rfl) (by kernel_rfl) (by kernel_rfl) (by kernel_rfl)
  have h8 := @run_callFunc_extern Tryd.prog 61 _ (ReflectliteValue.method (ReflectliteValue.valueError "reflectlite.Value.IsNil" 0) ReflectliteValue.isNil) Tryd.func61 (by kernel_rfl) (by kernel_rfl) (by kernel_rfl) (by kernel_rfl)
  have h27 := @run_callFunc_extern Tryd.prog 103 _ (ReflectliteType.abiMethod fun t => do pure (.int .u8 (← Rtype.kind t))) Tryd.func103 (by kernel_rfl) (by kernel_rfl) (by kernel_rfl) (by kernel_rfl)
  have h37 := @run_callFunc_extern Tryd.prog 115 _ (ReflectliteType.method ReflectliteType.elem) Tryd.func115 (by kernel_rfl) (by kernel_rfl) (by kernel_rfl) (by kernel_rfl)
  have h38 := @run_callFunc_extern Tryd.prog 116 _ (ReflectliteType.relation "Implements" ReflectliteType.implements_) Tryd.func116 (by kernel_rfl) (by kernel_rfl) (by kernel_rfl) (by kernel_rfl)
  have h10 := @run_callFunc_extern Tryd.prog 70 _ ReflectliteType.typeOf Tryd.func70 (by kernel_rfl) (by kernel_rfl) (by kernel_rfl) (by kernel_rfl)
  have h35 := @run_callFunc_extern Tryd.prog 113 _ (ReflectliteType.relation "AssignableTo" ReflectliteType.assignableTo) Tryd.func113 (by kernel_rfl) (by kernel_rfl) (by kernel_rfl) (by kernel_rfl)
  have h11 := @run_callFunc_extern Tryd.prog 71 _ (ReflectliteValue.method (ReflectliteValue.valueError "reflectlite.Value.Elem" 0) ReflectliteValue.elem) Tryd.func71 (by kernel_rfl) (by kernel_rfl) (by kernel_rfl) (by kernel_rfl)
  have h12 := @run_callFunc_extern Tryd.prog 72 _ ReflectliteValue.set Tryd.func72 (by kernel_rfl) (by kernel_rfl) (by kernel_rfl) (by kernel_rfl)
  have tW := AsW.typeOf
  have nA := AsW.notAssignable
  have noA := AsW.noAs
  have hU := AsW.hasUnwrap
  have mU := AsW.methodUnwrap
  have tO := AsD.typeOf25
  have mA := AsD.methodAssignableTo
  have a25 := AsD.assignable25
  have v25 := AsD.valueOf25
  have f6 := AsD.valueOf27
  have f7 := AsD.type27
  have mK := AsD.methodKind
  have mE := AsD.methodElem
  have mI := AsD.methodImplements
  have k27 := AsD.kind27
  have k25 := AsD.kind25
  have e27 := AsD.elem27
  have i25 := AsD.implements25
  have n8 := AsD.isNil27 ⟨w.heap.size, 0, none⟩ t ((w.alloc (.cells #[.pointer (some t)] 89)).alloc (.cells #[.pointer (some ⟨2, 89, none⟩), .pointer (some ⟨w.heap.size, 0, none⟩), .int .u64 150] 105)) (by simp)
  have hlt : 0 < w.heap.size := by
    rcases Nat.eq_zero_or_pos w.heap.size with h0 | h
    · simp [World.cell?, h0] at hg
    · exact h
  have hg2 : ((w.alloc (.cells #[.pointer (some t)] 89)).alloc (.cells #[.pointer (some ⟨2, 89, none⟩), .pointer (some ⟨w.heap.size, 0, none⟩), .int .u64 150] 105)).cell? ⟨0, 0, none⟩ = some (.iface 119 (.agg #[.pointer (some ⟨2, 35, none⟩)])) := by
    rw [World.cell?_alloc_lt _ _ ⟨0, 0, none⟩ (by simp), World.cell?_alloc_lt _ _ ⟨0, 0, none⟩ hlt]; exact hg
  have htl : t.block < w.heap.size := by
    rcases Nat.lt_or_ge t.block w.heap.size with h | h
    · exact h
    · simp [World.cell?, Array.getElem?_eq_none h] at ht0
  have el := AsD.elemV27 ⟨w.heap.size, 0, none⟩ t (((w.alloc (.cells #[.pointer (some t)] 89)).alloc (.cells #[.pointer (some ⟨2, 89, none⟩), .pointer (some ⟨w.heap.size, 0, none⟩), .int .u64 150] 105)).alloc (.cells #[.pointer (some ⟨2, 89, none⟩), .pointer (some ⟨w.heap.size, 0, none⟩), .int .u64 150] 105)) (by rw [World.cell?_alloc_lt _ _ ⟨w.heap.size, 0, none⟩ (by simp; omega)]; simp)
  have st := AsD.set25 t ⟨w.heap.size + 1 + 1 + 1, 0, none⟩ e old ((((w.alloc (.cells #[.pointer (some t)] 89)).alloc (.cells #[.pointer (some ⟨2, 89, none⟩), .pointer (some ⟨w.heap.size, 0, none⟩), .int .u64 150] 105)).alloc (.cells #[.pointer (some ⟨2, 89, none⟩), .pointer (some ⟨w.heap.size, 0, none⟩), .int .u64 150] 105)).alloc (.cells #[.int .i64 e] 60))
    (by rw [World.cell?_alloc_at _ _ _ _ (by simp)]; rfl)
    (by rw [World.cell?_alloc_lt _ _ t (by simp; omega), World.cell?_alloc_lt _ _ t (by simp; omega), World.cell?_alloc_lt _ _ t (by simp; omega), World.cell?_alloc_lt _ _ t htl]; exact ht0)
    (by rw [World.frozen?_alloc_old _ _ t (by simp; omega), World.frozen?_alloc_old _ _ t (by simp; omega), World.frozen?_alloc_old _ _ t (by simp; omega), World.frozen?_alloc_old _ _ t (Nat.ne_of_lt htl)]; exact hf0)
  have hbl : b0 < w.heap.size := by
    rcases Nat.lt_or_ge b0 w.heap.size with h | h
    · exact h
    · simp [World.cell?, Array.getElem?_eq_none h] at hp
  have hp3 : (((w.alloc (.cells #[.pointer (some t)] 89)).alloc (.cells #[.pointer (some ⟨2, 89, none⟩), .pointer (some ⟨w.heap.size, 0, none⟩), .int .u64 150] 105)).alloc (.cells #[.pointer (some ⟨2, 89, none⟩), .pointer (some ⟨w.heap.size, 0, none⟩), .int .u64 150] 105)).cell? ⟨b0, off + 32, none⟩ = some (.iface 60 (.int .i64 e)) := by
    rw [World.cell?_alloc_lt _ _ ⟨b0, off + 32, none⟩ (by simp; omega), World.cell?_alloc_lt _ _ ⟨b0, off + 32, none⟩ (by simp; omega), World.cell?_alloc_lt _ _ ⟨b0, off + 32, none⟩ hbl]; exact hp
  go_enter Tryd.func43, Tryd.ntmps43
  go_wp2
  refine wp_loop_rounds 2 ?_
  rw [rounds_succ]
  go_wp2
  rw [rounds_succ]
  go_wp2
  go_ret
  exact ⟨rfl, rfl⟩
end Gv.Tryd
/- errors.As at **oops.Which: the error is a *oops.Which; it is a plain api.Errno. -/
namespace Gv.Tryd
open Go Go.Proofs Go.RowKit Go.Extern.Stop Go.Stop Go.Extern
theorem AsX.valueOf27 (t : Addr) (w : World) : (ReflectliteValue.unpack (.iface 86 (.pointer (some t)))).run Tryd.prog w
    = .ok (.agg #[.pointer (some ⟨2, 86, none⟩), .pointer (some ⟨w.heap.size, 0, none⟩), .int .u64 150]) (w.alloc (.cells #[.pointer (some t)] 86)) := by kernel_rfl
theorem AsX.type27 (a : Addr) (w : World) : (ReflectliteValue.methodAny (ReflectliteValue.valueError "reflectlite.Value.Type" 0) (fun t _ _ _ => ReflectliteType.toType t) #[.agg #[.pointer (some ⟨2, 86, none⟩), .pointer (some a), .int .u64 150]]).run Tryd.prog w
    = .ok (.iface 119 (.agg #[.pointer (some ⟨2, 86, none⟩)])) w := by kernel_rfl
theorem AsX.methodKind (h : Value) (w : World) : (Go.method 281 119 (.agg #[h]) "Kind").run Tryd.prog w = .ok (103, h) w := by kernel_rfl
theorem AsX.kind27 (w : World) : ((ReflectliteType.abiMethod fun t => (fun a : Nat => Value.int IntKind.u8 (a : Int)) <$> Rtype.kind t) #[.pointer (some ⟨2, 86, none⟩)]).run Tryd.prog w = .ok (.int .u8 22) w := by kernel_rfl
theorem AsX.kind25 (w : World) : ((ReflectliteType.abiMethod fun t => (fun a : Nat => Value.int IntKind.u8 (a : Int)) <$> Rtype.kind t) #[.pointer (some ⟨2, 84, none⟩)]).run Tryd.prog w = .ok (.int .u8 22) w := by kernel_rfl

theorem AsX.parts27 (a : Addr) (w : World) : (ReflectliteValue.parts (.agg #[.pointer (some ⟨2, 86, none⟩), .pointer (some a), .int .u64 150])).run Tryd.prog w = .ok (some (86, a, 150)) w := by kernel_rfl
theorem AsX.isNil27 (a p : Addr) (W : World) (ha : W.cell? a = some (.pointer (some p))) :
    (ReflectliteValue.method (ReflectliteValue.valueError "reflectlite.Value.IsNil" 0) ReflectliteValue.isNil #[.agg #[.pointer (some ⟨2, 86, none⟩), .pointer (some a), .int .u64 150]]).run Tryd.prog W = .ok (.bool false) W := by
  rw [rlm]
  simp only [Sem.run_bind, AsX.parts27, Result.andThen]
  simp [ReflectliteValue.isNil, loadVar, isAgg, underlying, Tryd.underlying86, ha, Result.andThen]

theorem AsX.methodElem (h : Value) (w : World) : (Go.method 281 119 (.agg #[h]) "Elem").run Tryd.prog w = .ok (115, .agg #[h]) w := by kernel_rfl
theorem AsX.methodImplements (h : Value) (w : World) : (Go.method 281 119 (.agg #[h]) "Implements").run Tryd.prog w = .ok (116, .agg #[h]) w := by kernel_rfl
theorem AsX.methodAssignableTo (h : Value) (w : World) : (Go.method 281 119 (.agg #[h]) "AssignableTo").run Tryd.prog w = .ok (113, .agg #[h]) w := by kernel_rfl
theorem AsX.elem27 (w : World) : (ReflectliteType.method ReflectliteType.elem #[.agg #[.pointer (some ⟨2, 86, none⟩)]]).run Tryd.prog w = .ok (.iface 119 (.agg #[.pointer (some ⟨2, 84, none⟩)])) w := by kernel_rfl
theorem AsX.implements25 (w : World) : (ReflectliteType.relation "Implements" ReflectliteType.implements_ #[.agg #[.pointer (some ⟨2, 84, none⟩)], .iface 119 (.agg #[.pointer (some ⟨2, 35, none⟩)])]).run Tryd.prog w = .ok (.bool true) w := by kernel_rfl
theorem AsX.typeOf25 (v : Value) (w : World) : (ReflectliteType.typeOf #[.iface 84 v]).run Tryd.prog w = .ok (.iface 119 (.agg #[.pointer (some ⟨2, 84, none⟩)])) w := by kernel_rfl
theorem AsX.assignable25 (w : World) : (ReflectliteType.relation "AssignableTo" ReflectliteType.assignableTo #[.agg #[.pointer (some ⟨2, 84, none⟩)], .iface 119 (.agg #[.pointer (some ⟨2, 84, none⟩)])]).run Tryd.prog w = .ok (.bool true) w := by kernel_rfl
theorem AsX.valueOf25 (p : Addr) (w : World) : (ReflectliteValue.unpack (.iface 84 (.pointer (some p)))).run Tryd.prog w
    = .ok (.agg #[.pointer (some ⟨2, 84, none⟩), .pointer (some ⟨w.heap.size, 0, none⟩), .int .u64 150]) (w.alloc (.cells #[.pointer (some p)] 84)) := by kernel_rfl

theorem AsX.elemOf27 (w : World) : (Rtype.elem? 86).run Tryd.prog w = .ok (some 84) w := by kernel_rfl
theorem AsX.mk25 (p : Addr) (w : World) : (ReflectliteValue.mk 84 p ReflectliteValue.flagAddr).run Tryd.prog w = .ok (.agg #[.pointer (some ⟨2, 84, none⟩), .pointer (some p), .int .u64 406]) w := by kernel_rfl
theorem AsX.elemV27 (a p : Addr) (W : World) (ha : W.cell? a = some (.pointer (some p))) :
    (ReflectliteValue.method (ReflectliteValue.valueError "reflectlite.Value.Elem" 0) ReflectliteValue.elem #[.agg #[.pointer (some ⟨2, 86, none⟩), .pointer (some a), .int .u64 150]]).run Tryd.prog W
      = .ok (.agg #[.pointer (some ⟨2, 84, none⟩), .pointer (some p), .int .u64 406]) W := by
  rw [rlm]
  simp only [Sem.run_bind, AsX.parts27, Result.andThen]
  simp [ReflectliteValue.elem, loadVar, isAgg, underlying, Tryd.underlying86, ha, Result.andThen, AsX.elemOf27, AsX.mk25]
theorem AsX.parts25a (a : Addr) (w : World) : (ReflectliteValue.parts (.agg #[.pointer (some ⟨2, 84, none⟩), .pointer (some a), .int .u64 406])).run Tryd.prog w = .ok (some (84, a, 406)) w := by kernel_rfl
theorem AsX.parts25 (a : Addr) (w : World) : (ReflectliteValue.parts (.agg #[.pointer (some ⟨2, 84, none⟩), .pointer (some a), .int .u64 150])).run Tryd.prog w = .ok (some (84, a, 150)) w := by kernel_rfl
theorem AsX.direct25 (w : World) : (Rtype.directlyAssignable 84 84).run Tryd.prog w = .ok true w := by kernel_rfl
theorem AsX.set25 (ta b p : Addr) (old : Value) (W : World) (hb : W.cell? b = some (.pointer (some p))) (ht : W.cell? ta = some old) (hf : W.frozen? ta = false) :
    (ReflectliteValue.set #[.agg #[.pointer (some ⟨2, 84, none⟩), .pointer (some ta), .int .u64 406], .agg #[.pointer (some ⟨2, 84, none⟩), .pointer (some b), .int .u64 150]]).run Tryd.prog W
      = .ok (.tuple #[]) (W.setCell ta (.pointer (some p))) := by
  rw [rls]
  simp only [Sem.run_bind, AsX.parts25a, AsX.parts25, Result.andThen]
  simp [ReflectliteValue.flagAddr, loadVar, isAgg, underlying, Tryd.underlying84, hb, Result.andThen, AsX.direct25, storeVar, Value.cells, storeCells, Addr.add]
  rw [run_store Tryd.prog W ta _ _ (by rfl)]
  simp [ht, hf]

set_option maxRecDepth 20000 in
set_option maxHeartbeats 4000000 in
theorem as_hitW (p : Addr) (t : Addr) (old : Value) (w : World) (hg : w.cell? ⟨0, 0, none⟩ = some (.iface 119 (.agg #[.pointer (some ⟨2, 35, none⟩)]))) (ht0 : w.cell? t = some old) (hf0 : w.frozen? t = false) :
    Calls Tryd.prog 43 #[.iface 84 (.pointer (some p)), .iface 86 (.pointer (some t))] w fun ev w' => ev = .returned (.bool true) ∧ w' = ((((w.alloc (.cells #[.pointer (some t)] 86)).alloc (.cells #[.pointer (some ⟨2, 86, none⟩), .pointer (some ⟨w.heap.size, 0, none⟩), .int .u64 150] 105)).alloc (.cells #[.pointer (some ⟨2, 86, none⟩), .pointer (some ⟨w.heap.size, 0, none⟩), .int .u64 150] 105)).alloc (.cells #[.pointer (some p)] 84)).setCell t (.pointer (some p)) := by
  have h6 := @run_callFunc_extern Tryd.prog 59 _ (fun args => ReflectliteValue.unpack (args.getD 0 (.tuple #[]))) Tryd.func59 (by kernel_rfl) (by kernel_rfl) (by kernel_rfl) (by kernel_rfl)
  have h7 := @run_callFunc_extern Tryd.prog 60 _ (ReflectliteValue.methodAny (ReflectliteValue.valueError "reflectlite.Value.Type" 0) (fun t _ _ _ => ReflectliteType.toType t)) Tryd.func60 (by kernel_rfl) (by kernel_rfl) (by kernel_rfl) (by kernel_rfl)
  have h8 := @run_callFunc_extern Tryd.prog 61 _ (ReflectliteValue.method (ReflectliteValue.valueError "reflectlite.Value.IsNil" 0) ReflectliteValue.isNil) Tryd.func61 (by kernel_rfl) (by kernel_rfl) (by kernel_rfl) (by kernel_rfl)
  have h27 := @run_callFunc_extern Tryd.prog 103 _ (ReflectliteType.abiMethod fun t => do pure (.int .u8 (← Rtype.kind t))) Tryd.func103 (by kernel_rfl) (by kernel_rfl) (by kernel_rfl) (by kernel_rfl)
  have h37 := @run_callFunc_extern Tryd.prog 115 _ (ReflectliteType.method ReflectliteType.elem) Tryd.func115 (by kernel_rfl) (by kernel_rfl) (by kernel_rfl) (by kernel_rfl)
  have h38 := @run_callFunc_extern Tryd.prog 116 _ (ReflectliteType.relation "Implements" ReflectliteType.implements_) Tryd.func116 (by kernel_rfl) (by kernel_rfl) (by kernel_rfl) (by kernel_rfl)
  have h10 := @run_callFunc_extern Tryd.prog 70 _ ReflectliteType.typeOf Tryd.func70 (by kernel_rfl) (by kernel_rfl) (by kernel_rfl) (by kernel_rfl)
  have h35 := @run_callFunc_extern Tryd.prog 113 _ (ReflectliteType.relation "AssignableTo" ReflectliteType.assignableTo) Tryd.func113 (by kernel_rfl) (by kernel_rfl) (by kernel_rfl) (by kernel_rfl)
  have h11 := @run_callFunc_extern Tryd.prog 71 _ (ReflectliteValue.method (ReflectliteValue.valueError "reflectlite.Value.Elem" 0) ReflectliteValue.elem) Tryd.func71 (by kernel_rfl) (by kernel_rfl) (by kernel_rfl) (by kernel_rfl)
  have h12 := @run_callFunc_extern Tryd.prog 72 _ ReflectliteValue.set Tryd.func72 (by kernel_rfl) (by kernel_rfl) (by kernel_rfl) (by kernel_rfl)
  have tO := AsX.typeOf25
  have mA := AsX.methodAssignableTo
  have a25 := AsX.assignable25
  have v25 := AsX.valueOf25
  have f6 := AsX.valueOf27
  have f7 := AsX.type27
  have mK := AsX.methodKind
  have mE := AsX.methodElem
  have mI := AsX.methodImplements
  have k27 := AsX.kind27
  have k25 := AsX.kind25
  have e27 := AsX.elem27
  have i25 := AsX.implements25
  have n8 := AsX.isNil27 ⟨w.heap.size, 0, none⟩ t ((w.alloc (.cells #[.pointer (some t)] 86)).alloc (.cells #[.pointer (some ⟨2, 86, none⟩), .pointer (some ⟨w.heap.size, 0, none⟩), .int .u64 150] 105)) (by simp)
  have hlt : 0 < w.heap.size := by
    rcases Nat.eq_zero_or_pos w.heap.size with h0 | h
    · simp [World.cell?, h0] at hg
    · exact h
  have hg2 : ((w.alloc (.cells #[.pointer (some t)] 86)).alloc (.cells #[.pointer (some ⟨2, 86, none⟩), .pointer (some ⟨w.heap.size, 0, none⟩), .int .u64 150] 105)).cell? ⟨0, 0, none⟩ = some (.iface 119 (.agg #[.pointer (some ⟨2, 35, none⟩)])) := by
    rw [World.cell?_alloc_lt _ _ ⟨0, 0, none⟩ (by simp), World.cell?_alloc_lt _ _ ⟨0, 0, none⟩ hlt]; exact hg
  have htl : t.block < w.heap.size := by
    rcases Nat.lt_or_ge t.block w.heap.size with h | h
    · exact h
    · simp [World.cell?, Array.getElem?_eq_none h] at ht0
  have el := AsX.elemV27 ⟨w.heap.size, 0, none⟩ t (((w.alloc (.cells #[.pointer (some t)] 86)).alloc (.cells #[.pointer (some ⟨2, 86, none⟩), .pointer (some ⟨w.heap.size, 0, none⟩), .int .u64 150] 105)).alloc (.cells #[.pointer (some ⟨2, 86, none⟩), .pointer (some ⟨w.heap.size, 0, none⟩), .int .u64 150] 105)) (by rw [World.cell?_alloc_lt _ _ ⟨w.heap.size, 0, none⟩ (by simp; omega)]; simp)
  have st := AsX.set25 t ⟨w.heap.size + 1 + 1 + 1, 0, none⟩ p old ((((w.alloc (.cells #[.pointer (some t)] 86)).alloc (.cells #[.pointer (some ⟨2, 86, none⟩), .pointer (some ⟨w.heap.size, 0, none⟩), .int .u64 150] 105)).alloc (.cells #[.pointer (some ⟨2, 86, none⟩), .pointer (some ⟨w.heap.size, 0, none⟩), .int .u64 150] 105)).alloc (.cells #[.pointer (some p)] 84))
    (by rw [World.cell?_alloc_at _ _ _ _ (by simp)]; rfl)
    (by rw [World.cell?_alloc_lt _ _ t (by simp; omega), World.cell?_alloc_lt _ _ t (by simp; omega), World.cell?_alloc_lt _ _ t (by simp; omega), World.cell?_alloc_lt _ _ t htl]; exact ht0)
    (by rw [World.frozen?_alloc_old _ _ t (by simp; omega), World.frozen?_alloc_old _ _ t (by simp; omega), World.frozen?_alloc_old _ _ t (by simp; omega), World.frozen?_alloc_old _ _ t (Nat.ne_of_lt htl)]; exact hf0)
  go_enter Tryd.func43, Tryd.ntmps43
  go_wp2
  refine wp_loop_rounds 1 ?_
  rw [rounds_succ]
  go_wp2
  go_ret
  exact ⟨rfl, rfl⟩
end Gv.Tryd
/- errors.As at **oops.Which: the error is a plain api.Errno. -/
namespace Gv.Tryd
open Go Go.Proofs Go.RowKit Go.Extern.Stop Go.Stop Go.Extern
theorem AsM.typeOf (v : Value) (w : World) : (ReflectliteType.typeOf #[.iface 60 v]).run Tryd.prog w = .ok (.iface 119 (.agg #[.pointer (some ⟨2, 60, none⟩)])) w := by kernel_rfl
theorem AsM.notAssignable (w : World) : (ReflectliteType.relation "AssignableTo" ReflectliteType.assignableTo #[.agg #[.pointer (some ⟨2, 60, none⟩)], .iface 119 (.agg #[.pointer (some ⟨2, 84, none⟩)])]).run Tryd.prog w = .ok (.bool false) w := by kernel_rfl
theorem AsM.noAs (v : Value) (xT : TypeId) (w : World) : (Instr.typeAssert (.iface 60 v) xT 124 true).run Tryd.prog w = .ok (.tuple #[.nilIface, .bool false]) w := run_typeAssert_lacksB Tryd.underlying124 (by kernel_rfl) (by kernel_rfl) v xT w
end Gv.Tryd
/- Kind of an error, for seat u: nil, an api.Errno, an oops.Which about an api.Errno. -/
set_option linter.unusedVariables false
namespace Gv.Tryd
open Go Gv Go.Proofs Go.RowKit
theorem cell_size {w : World} {t : Addr} {v : Value} (h : w.cell? t = some v) : t.block < w.heap.size := by
  rcases Nat.lt_or_ge t.block w.heap.size with h1 | h1
  · exact h1
  · simp [World.cell?, Array.getElem?_eq_none h1] at h
theorem after4 (w : World) (t : Addr) (old v : Value) (o1 o2 o3 o4 : Obj) (ht0 : w.cell? t = some old) :
    ((((((w.alloc o1).alloc o2).alloc o3).alloc o4).setCell t v)).cell? t = some v ∧ Below t.block w ((((((w.alloc o1).alloc o2).alloc o3).alloc o4).setCell t v)) := by
  have htl := cell_size ht0
  have b0 : Below t.block w w := Below.refl _ _
  refine ⟨?_, (((((b0.alloc (by omega) _).alloc (by simp; omega) _).alloc (by simp; omega) _).alloc (by simp; omega) _).setCell (Nat.le_refl _) _)⟩
  refine World.cell?_setCell_same _ t _ (u := old) ?_
  rw [World.cell?_alloc_lt _ _ t (by simp; omega), World.cell?_alloc_lt _ _ t (by simp; omega), World.cell?_alloc_lt _ _ t (by simp; omega), World.cell?_alloc_lt _ _ t htl]; exact ht0
theorem as_hitB (e : Int) (t : Addr) (old : Value) (w : World) (hg : w.cell? ⟨0, 0, none⟩ = some (.iface 119 (.agg #[.pointer (some ⟨2, 35, none⟩)]))) (ht0 : w.cell? t = some old) (hf0 : w.frozen? t = false) :
    Calls Tryd.prog 43 #[.iface 60 (.int .i64 e), .iface 89 (.pointer (some t))] w fun ev w' => ev = .returned (.bool true) ∧ w'.cell? t = some (.int .i64 e) ∧ Below t.block w w' := by
  refine (as_hit e t old w hg ht0 hf0).mono ?_
  rintro ev w' ⟨rfl, rfl⟩
  obtain ⟨h1, h2⟩ := after4 w t old _ _ _ _ _ ht0
  exact ⟨rfl, h1, h2⟩
theorem as_wrapB (b0 off : Nat) (e : Int) (t : Addr) (old : Value) (w : World) (hp : w.cell? ⟨b0, off + 32, none⟩ = some (.iface 60 (.int .i64 e))) (hg : w.cell? ⟨0, 0, none⟩ = some (.iface 119 (.agg #[.pointer (some ⟨2, 35, none⟩)]))) (ht0 : w.cell? t = some old) (hf0 : w.frozen? t = false) :
    Calls Tryd.prog 43 #[.iface 84 (.pointer (some ⟨b0, off, none⟩)), .iface 89 (.pointer (some t))] w fun ev w' => ev = .returned (.bool true) ∧ w'.cell? t = some (.int .i64 e) ∧ Below t.block w w' := by
  refine (as_wrap b0 off e t old w hp hg ht0 hf0).mono ?_
  rintro ev w' ⟨rfl, rfl⟩
  obtain ⟨h1, h2⟩ := after4 w t old _ _ _ _ _ ht0
  exact ⟨rfl, h1, h2⟩
set_option maxRecDepth 20000 in
set_option maxHeartbeats 4000000 in
theorem kind_hit (n : Int) (w : World) (hg : w.cell? ⟨0, 0, none⟩ = some (.iface 119 (.agg #[.pointer (some ⟨2, 35, none⟩)]))) :
    Calls Tryd.prog 26 #[.iface 60 (.int .i64 n)] w fun e w' => e = .returned (.int .i64 n) ∧ Below w.heap.size w w' := by
  have hlt := cell_size hg
  have ht := as_hitB n ⟨w.heap.size, 0, none⟩ (.int .i64 0) (w.alloc (.cells #[.int .i64 0] 60)) (by rw [World.cell?_alloc_lt _ _ ⟨0, 0, none⟩ hlt]; exact hg) (by simp) (by simp)
  go_enter Tryd.func26, Tryd.ntmps26
  go_wp2_with (go_at_call 43; refine ht.mono ?_; rintro e w' ⟨rfl, hc, hb⟩)
  go_ret
  exact ⟨rfl, ((Below.refl _ w).alloc (Nat.le_refl _) _).trans hb⟩
set_option maxRecDepth 20000 in
set_option maxHeartbeats 4000000 in
theorem kind_which (b0 off : Nat) (n : Int) (w : World) (hp : w.cell? ⟨b0, off + 32, none⟩ = some (.iface 60 (.int .i64 n))) (hg : w.cell? ⟨0, 0, none⟩ = some (.iface 119 (.agg #[.pointer (some ⟨2, 35, none⟩)]))) :
    Calls Tryd.prog 26 #[.iface 84 (.pointer (some ⟨b0, off, none⟩))] w fun e w' => e = .returned (.int .i64 n) ∧ Below w.heap.size w w' := by
  have hlt := cell_size hg
  have hlp := cell_size hp
  have ht := as_wrapB b0 off n ⟨w.heap.size, 0, none⟩ (.int .i64 0) (w.alloc (.cells #[.int .i64 0] 60)) (by rw [World.cell?_alloc_lt _ _ ⟨b0, off + 32, none⟩ hlp]; exact hp) (by rw [World.cell?_alloc_lt _ _ ⟨0, 0, none⟩ hlt]; exact hg) (by simp) (by simp)
  go_enter Tryd.func26, Tryd.ntmps26
  go_wp2_with (go_at_call 43; refine ht.mono ?_; rintro e w' ⟨rfl, hc, hb⟩)
  go_ret
  exact ⟨rfl, ((Below.refl _ w).alloc (Nat.le_refl _) _).trans hb⟩
end Gv.Tryd
/- Kind of an error; errors.As at the program's *oops.Which: the contracts. -/
set_option linter.unusedVariables false
namespace Gv.Tryd
open Go Gv Go.Proofs Go.RowKit
theorem glob_cell {E : Env} {O : List GObj} {w : World} (h : HSim E O w) : w.cell? ⟨0, 0, none⟩ = some (.iface 119 (.agg #[.pointer (some ⟨2, 35, none⟩)])) :=
  h.sealed _ _ _ (h.glob (0, 0, .iface 119 (.agg #[.pointer (some ⟨2, 35, none⟩)])) (by simp [globs]))
theorem args_one {E : Env} {vs : Array Value} {g : GVal} (h : ArgsR E vs [g]) : ∃ v, vs = #[v] ∧ VR E v g := by
  obtain ⟨h1, h2⟩ := h
  have h3 := h2 0 _ rfl
  refine ⟨vs.getD 0 undef, ?_, h3⟩
  apply Array.ext (by simpa using h1)
  intro i hi hi2
  simp at hi2; subst hi2
  simp [Array.getD, hi]
theorem args_two {E : Env} {vs : Array Value} {g k : GVal} (h : ArgsR E vs [g, k]) : ∃ v u, vs = #[v, u] ∧ VR E v g ∧ VR E u k := by
  obtain ⟨h1, h2⟩ := h
  have h3 := h2 0 _ rfl
  have h4 := h2 1 _ rfl
  have hs : vs.size = 2 := by simpa using h1
  refine ⟨vs.getD 0 undef, vs.getD 1 undef, ?_, h3, h4⟩
  apply Array.ext (by simpa using h1)
  intro i hi hi2
  match i with
  | 0 => simp [Array.getD, hs]
  | 1 => simp [Array.getD, hs]
  | i + 2 => omega
theorem hKindErr (n : Int) : GPure Tryd.prog 26 [.iface 60 (.int .i64 n)] (.int .i64 n) :=
  GPure.ofBelow (by kernel_rfl) fun E w vs hs ha => by
    obtain ⟨v, rfl, hv⟩ := args_one ha
    cases hv with
    | iface t v g h =>
      cases h
      exact (kind_hit n w (glob_cell hs)).mono fun e w' ⟨h1, h2⟩ => ⟨_, h1, h2, .int _ _⟩
theorem hKindWhich (gs : List GVal) (n : Int) (h32 : gs.length = 32) : GPure Tryd.prog 26 [.iface 84 (.ref (gs ++ [.iface 60 (.int .i64 n)]))] (.int .i64 n) :=
  GPure.ofBelow (by kernel_rfl) fun E w vs hs ha => by
    obtain ⟨v, rfl, hv⟩ := args_one ha
    cases hv with
    | iface t v g h =>
      cases h with
      | ref b off _ c hsn hc =>
        have h1 := hs.sealed _ _ _ (hsn 32 (by simp [h32]))
        have h2 := hc 32 _ (by rw [List.getElem?_append_right (by omega), h32]; rfl)
        generalize hq : c 32 = x at h1 h2
        cases h2 with
        | iface t v g h3 =>
          cases h3
          exact (kind_which b off n w h1 (glob_cell hs)).mono fun e w' ⟨h1, h2⟩ => ⟨_, h1, h2, .int _ _⟩
theorem storeW (t p : Addr) (old : Value) (W : World) (ht : W.cell? t = some old) (hf : W.frozen? t = false) :
    (Instr.storeAt 84 (.pointer (some t)) (.pointer (some p))).run Tryd.prog W = .ok () (W.setCell t (.pointer (some p))) := by
  have h84 : tab Tryd.prog 84 = some (1, false) := by kernel_rfl
  simp only [Instr.storeAt, Instr.sureAddr, storeVar, Sem.run_bind, Sem.run_pure, Result.andThen_ok, (tab_spec h84 W).1]
  simp [Value.cells, storeCells, Addr.add]
  rw [run_store Tryd.prog W t _ _ (by rfl)]
  simp [ht, hf]
theorem hAsWhich (gs : List GVal) (O : List GObj) (o st : Nat) (g0 : GVal) (hO : O[o]? = some (.row st 1 [[g0]])) (hsol : (GVal.ref gs).solid = true) :
    GCalls Tryd.prog 43 [.iface 84 (.ref gs), .iface 86 (.ptr o st 0 0)] O (fun g O' => g = .bool true ∧ O' = O.set o (.row st 1 [[.ref gs]])) := by
  refine ⟨by kernel_rfl, fun E w vs hs ha => ?_⟩
  obtain ⟨v, u, rfl, hv, hu⟩ := args_two ha
  cases hv with
  | iface t v g h =>
    cases h with
    | ref b off _ c hsn hc =>
      cases hu with
      | iface t u g h =>
        cases h with
        | ptr b2 off2 o st i j l hl hb ho =>
          obtain ⟨l', hl', hls, hsz, hreal⟩ := hs.real _ _ hO
          rw [hl] at hl'; cases hl'
          simp only [hb] at hreal
          obtain ⟨cur, el, hw, hcur, htot, hrows, hsnap⟩ := hreal
          have e2 : off2 < cur.size := by simp at htot; rw [hcur, ho]; omega
          have ht0 : w.cell? ⟨b2, off2, none⟩ = some cur[off2] := by
            simp [World.cell?, hw, e2]
          have hf0 : w.frozen? ⟨b2, off2, none⟩ = false := by
            simp [World.frozen?, hw]
          refine (as_hitW ⟨b, off, none⟩ ⟨b2, off2, none⟩ _ w (glob_cell hs) ht0 hf0).mono ?_
          rintro ev w' ⟨rfl, rfl⟩
          have htl := cell_size ht0
          have hBelow := ((((Below.refl w.heap.size w).alloc (Nat.le_refl _) (.cells #[.pointer (some ⟨b2, off2, none⟩)] 86)).alloc (by simp) (.cells #[.pointer (some ⟨2, 86, none⟩), .pointer (some ⟨w.heap.size, 0, none⟩), .int .u64 150] 105)).alloc (by simp; omega) (.cells #[.pointer (some ⟨2, 86, none⟩), .pointer (some ⟨w.heap.size, 0, none⟩), .int .u64 150] 105)).alloc (by simp; omega) (.cells #[.pointer (some ⟨b, off, none⟩)] 84)
          obtain ⟨s1, k1⟩ := hs.belowO hBelow
          have ht4 : ((((w.alloc (.cells #[.pointer (some ⟨b2, off2, none⟩)] 86)).alloc (.cells #[.pointer (some ⟨2, 86, none⟩), .pointer (some ⟨w.heap.size, 0, none⟩), .int .u64 150] 105)).alloc (.cells #[.pointer (some ⟨2, 86, none⟩), .pointer (some ⟨w.heap.size, 0, none⟩), .int .u64 150] 105)).alloc (.cells #[.pointer (some ⟨b, off, none⟩)] 84)).cell? ⟨b2, off2, none⟩ = some cur[off2] := by
            have htl' : b2 < w.heap.size := htl
            rw [World.cell?_alloc_lt _ _ _ (by simp; omega), World.cell?_alloc_lt _ _ _ (by simp; omega), World.cell?_alloc_lt _ _ _ (by simp; omega), World.cell?_alloc_lt _ _ _ htl']; exact ht0
          have hf4 : ((((w.alloc (.cells #[.pointer (some ⟨b2, off2, none⟩)] 86)).alloc (.cells #[.pointer (some ⟨2, 86, none⟩), .pointer (some ⟨w.heap.size, 0, none⟩), .int .u64 150] 105)).alloc (.cells #[.pointer (some ⟨2, 86, none⟩), .pointer (some ⟨w.heap.size, 0, none⟩), .int .u64 150] 105)).alloc (.cells #[.pointer (some ⟨b, off, none⟩)] 84)).frozen? ⟨b2, off2, none⟩ = false := by
            have htl' : b2 < w.heap.size := htl
            rw [World.frozen?_alloc_old _ _ _ (by simp; omega), World.frozen?_alloc_old _ _ _ (by simp; omega), World.frozen?_alloc_old _ _ _ (by simp; omega), World.frozen?_alloc_old _ _ _ (Nat.ne_of_lt htl')]; exact hf0
          generalize ((((w.alloc (.cells #[.pointer (some ⟨b2, off2, none⟩)] 86)).alloc (.cells #[.pointer (some ⟨2, 86, none⟩), .pointer (some ⟨w.heap.size, 0, none⟩), .int .u64 150] 105)).alloc (.cells #[.pointer (some ⟨2, 86, none⟩), .pointer (some ⟨w.heap.size, 0, none⟩), .int .u64 150] 105)).alloc (.cells #[.pointer (some ⟨b, off, none⟩)] 84)) = w4 at s1 k1 ht4 hf4 ⊢
          obtain ⟨w5, E5, O5, hrun, s5, k5, rfl⟩ := store_sound (P := Tryd.prog) (t := 84) (g := .ptr o st 0 0) (v := .ref gs) (KU := fun O' => O' = O.set o (.row st 1 [[.ref gs]])) s1 (.ptr b2 off2 o st 0 0 l hl hb ho) (.ref b off gs c hsn hc) (by
            have h84 : tab Tryd.prog 84 = some (1, false) := by kernel_rfl
            simp only [storeV, h84, hO]
            simp [GVal.okCells, GVal.cells, splice, hsol])
          rw [storeW _ _ _ _ ht4 hf4] at hrun
          cases hrun
          exact ⟨_, _, _, _, rfl, s5, k1.trans k5, .bool true, rfl, rfl⟩
end Gv.Tryd
/- Whose hash an error tells. -/
set_option linter.unusedVariables false
set_option linter.unusedSimpArgs false
set_option maxRecDepth 20000
set_option maxHeartbeats 4000000
namespace Gv.Tryd
open Go Gv Go.Proofs
theorem gWhose (h : Hs) (n : Int) : GPure Tryd.prog 24 [whichG h n] (.tuple [.agg (bytesG h.1), .bool true]) := by
  have hs33 : (GVal.ref (bytesG h.1 ++ [errG n])).solid = true := by simp [GVal.solid, solidH, errG]
  refine h24.pure mixS (by simp) ?_
  simp only [gstart, s24, List.cons_append, List.nil_append, List.length_cons, List.length_nil, Nat.reduceAdd, Nat.reduceSub, List.replicate_succ, List.replicate_zero]
  simp +contextual -implicitDefEqProofs (maxSteps := 2000000) (disch := omega) only [binV, ↓loadV, ↓storeV, ↓fieldAddrV, ↓allocV, ↓buildV, ↓nilV, ↓ifaceV, fillG, place, GVal.cells, grp, GVal.ofConst, ↓resV, resG, List.map, List.headD, List.take, List.drop, ↓reduceIte, Nat.reduceEqDiff, Nat.reduceAdd, Nat.reduceSub, Nat.reduceLeDiff, reduceCtorEq, implies_true, ne_eq, aggV, Tag.cap, List.replicate, allSolid, GVal.solid, Nat.reduceBEq, Nat.reduceMul, Nat.reduceLT, List.length_map, List.length_range, splice, vcA, ↓vcB, vcC, fbFu, e24]
  intro s1
  refine ⟨rfl, fun s2 => ?_⟩
  refine (hAsWhich (bytesG h.1 ++ [errG n]) _ 1 s2 _ rfl hs33).mono ?_
  rintro g O' ⟨rfl, rfl⟩
  simp +contextual -implicitDefEqProofs (maxSteps := 2000000) (disch := omega) only [binV, ↓loadV, ↓storeV, ↓fieldAddrV, ↓allocV, ↓buildV, ↓nilV, ↓ifaceV, fillG, place, GVal.cells, grp, GVal.ofConst, ↓resV, resG, List.map, List.headD, List.take, List.drop, ↓reduceIte, Nat.reduceEqDiff, Nat.reduceAdd, Nat.reduceSub, Nat.reduceLeDiff, reduceCtorEq, implies_true, ne_eq, aggV, Tag.cap, List.replicate, allSolid, GVal.solid, Nat.reduceBEq, Nat.reduceMul, Nat.reduceLT, List.length_map, List.length_range, splice, vcA, ↓vcB, vcC, fbFu, e24, len32, take32, solidH, List.set, bytesG_len]
  have h32 : (bytesG h.1).length = 32 := len32 h
  have e1 : List.take 32 (bytesG h.1 ++ [errG n]) = bytesG h.1 := List.take_left' h32
  have e2 : ∀ X, List.take 32 (bytesG h.1 ++ X) = bytesG h.1 := fun X => List.take_left' h32
  simp only [e1, e2, h32, List.length_append]
  exact ⟨by omega, by simp, of_eq_true (solidH h), trivial, by simp, of_eq_true (leG_self _)⟩
end Gv.Tryd
/- The graph's Check, Count; the example of chapter 11. -/
set_option linter.unusedVariables false
set_option linter.unusedSimpArgs false
set_option maxRecDepth 20000
set_option maxHeartbeats 4000000
namespace Gv.Tryd
open Go Gv Go.Proofs
theorem gCount (m : GM) (hm : m.length ≤ 1000000) (st s : Nat) : GCalls Tryd.prog 11 [.ptr 0 st 0 0] (gObj st s m) (fun g O' => g = .int .i64 m.length ∧ O' = gObj st s m) := by
  refine h11.calls mixS (by simp) ?_
  simp only [gstart, s11, List.cons_append, List.nil_append, List.length_cons, List.length_nil, Nat.reduceAdd, Nat.reduceSub, List.replicate_succ, List.replicate_zero]
  simp +contextual -implicitDefEqProofs (maxSteps := 2000000) (disch := omega) only [↓lenV, ↓loadV, ↓fieldAddrV, ↓nilV, GVal.cells, grp, GVal.ofConst, ↓resV, resG, List.map, List.headD, List.take, List.drop, ↓reduceIte, Nat.reduceEqDiff, Nat.reduceAdd, Nat.reduceSub, Nat.reduceLeDiff, reduceCtorEq, implies_true, ne_eq, Tag.cap, List.replicate, allSolid, GVal.solid, Nat.reduceBEq, Nat.reduceMul, Nat.reduceLT, List.length_map, List.length_range, splice, vcA, ↓vcB, vcC, fbFu, e11, kvG_len]
theorem gCheckE (m : GM) (hm : GOK m) (cs : List Cm) (hs : List Hs) (th : Tag) (gr : Int) (st s : Nat) (hc : cs.length ≤ 1000000) (hh : hs.length ≤ 1000000) (hp : ∀ c ∈ cs, c.2.length ≤ 1000000) (e : Option Hs × Int) (he : joinedP gr m cs hs = .error e) :
    GCalls Tryd.prog 22 [.ptr 0 st 0 0, .agg (reqG cs hs th gr)] (gObj st s m) (fun g O' => g = errV (some e) ∧ O' = gObj st s m) := by
  have c1 := gJoinedBy m hm cs hs th gr st s hc hh hp
  rw [he] at c1
  obtain ⟨ty, v, ev⟩ := errV_some e
  refine h22.calls mixS (by simp) ?_
  simp only [gstart, s22, List.cons_append, List.nil_append, List.length_cons, List.length_nil, Nat.reduceAdd, Nat.reduceSub, List.replicate_succ, List.replicate_zero]
  simp +contextual -implicitDefEqProofs (maxSteps := 2000000) (disch := omega) only [↓loadV, ↓boxV, GVal.cells, grp, GVal.ofConst, ↓resV, resG, List.map, List.headD, List.take, List.drop, ↓reduceIte, Nat.reduceEqDiff, Nat.reduceAdd, Nat.reduceSub, Nat.reduceLeDiff, reduceCtorEq, implies_true, ne_eq, Tag.cap, List.replicate, allSolid, GVal.solid, Nat.reduceBEq, Nat.reduceMul, Nat.reduceLT, List.length_map, List.length_range, splice, vcA, ↓vcB, vcC, fbFu, e22]
  refine c1.mono ?_
  rintro g O' ⟨s2, rfl, rfl⟩
  simp +contextual -implicitDefEqProofs (maxSteps := 2000000) (disch := omega) only [↓loadV, ↓boxV, GVal.cells, grp, GVal.ofConst, ↓resV, resG, List.map, List.headD, List.take, List.drop, ↓reduceIte, Nat.reduceEqDiff, Nat.reduceAdd, Nat.reduceSub, Nat.reduceLeDiff, reduceCtorEq, implies_true, ne_eq, Tag.cap, List.replicate, allSolid, GVal.solid, Nat.reduceBEq, Nat.reduceMul, Nat.reduceLT, List.length_map, List.length_range, splice, vcA, ↓vcB, vcC, fbFu, e22, jdV, jdO, ev]
theorem known_err : joinedP 2 [] [(q1, [q2])] [] = .error (some q2, 10) := by
  have h1 : sizesP 2 0 [(q1, [q2])] = none := by kernel_rfl
  have h2 : joinP [] [(q1, [q2])] = .ok [(q1, [q2])] := by kernel_rfl
  have h3 : lackP [(q1, [q2])] [(q1, [q2])] [] = some (some q2, 10) := by kernel_rfl
  unfold joinedP
  simp only [List.length_nil, h1, h2, h3]
theorem known_ok : joinedP 2 [] [(q1, [])] [] = .ok [(q1, [])] := by
  have h1 : sizesP 2 0 [(q1, [])] = none := by kernel_rfl
  have h2 : joinP [] [(q1, [])] = .ok [(q1, [])] := by kernel_rfl
  have h3 : lackP [(q1, [])] [(q1, [])] [] = none := by kernel_rfl
  have h4 : roundP [] [(q1, [])] [(q1, [])] = none := roundP_rank rkQ (by decide) (by decide)
  unfold joinedP
  simp only [List.length_nil, h1, h2, h3, h4]
  rfl
theorem gKnown11 : GPure Tryd.prog 8 [] (.bool true) := by
  have cA := fun st s => gAdd [] fourG [(q1, [])] st s (by decide) (by decide)
  have ea : addedE [] [(q1, [])] = none := by unfold addedE; rw [known_ok]
  have em : addedM [] [(q1, [])] = [(q1, [])] := by unfold addedM; rw [known_ok]
  simp only [ea, em] at cA
  have cC := fun st s => gCheckE [] fourG [(q1, [q2])] [] .nil 2 st s (by decide) (by decide) (by decide) _ known_err
  have aC : ∀ st, GLes [.ptr 0 st 0 0, .agg [.slice [bytesG q1.1 ++ [.slice [bytesG q2.1] .full]] .full, .slice [] .nil, .int .i64 2]] [.ptr 0 st 0 0, .agg (reqG [(q1, [q2])] [] .nil 2)] := fun st =>
    ⟨GLe.refl _, GLe.agg ⟨GLe.trans GLe.none (GLe.slice ⟨GLes.app (GLes.refl _) ⟨GLe.none, trivial⟩, trivial⟩), GLe.refl _, GLe.refl _, trivial⟩, trivial⟩
  have aA : ∀ st, GLes [.ptr 0 st 0 0, .slice [bytesG q1.1 ++ [.slice [] .nil]] .full] [.ptr 0 st 0 0, .slice (csG [(q1, [])]) .none] := fun st =>
    ⟨GLe.refl _, GLe.trans GLe.none (GLe.slice ⟨GLes.app (GLes.refl _) ⟨GLe.none, trivial⟩, trivial⟩), trivial⟩
  have cW := gWhose q2 10
  have cK := hKindWhich (bytesG q2.1) 10 (len32 q2)
  have cH := fun st s => gHas [(q1, [])] q1 st s
  have eH : (look [(q1, ([] : List Hs))] q1).isSome = true := by kernel_rfl
  simp only [eH] at cH
  have cN := fun st s => gCount [(q1, [])] (by decide) st s
  refine GCalls.toPure ?_
  refine h8.calls mixS (by simp) ?_
  simp only [gstart, s8, List.cons_append, List.nil_append, List.length_cons, List.length_nil, Nat.reduceAdd, Nat.reduceSub, List.replicate_succ, List.replicate_zero]
  simp +contextual -implicitDefEqProofs (maxSteps := 2000000) (disch := omega) only [binV, ↓loadV, ↓storeV, ↓allocV, ↓buildV, ↓buildSliceV, fillG, fillE, place, GVal.cells, grp, GVal.ofConst, ↓resV, resG, List.map, List.headD, List.take, List.drop, ↓reduceIte, Nat.reduceEqDiff, Nat.reduceAdd, Nat.reduceSub, Nat.reduceLeDiff, reduceCtorEq, implies_true, ne_eq, aggV, Tag.cap, List.replicate, allSolid, GVal.solid, Nat.reduceBEq, Nat.reduceMul, Nat.reduceLT, List.length_map, List.length_range, splice, vcA, ↓vcB, vcC, fbFu, e8]
  refine gNew.mono ?_
  rintro g O' ⟨st, s, rfl, rfl⟩
  simp +contextual -implicitDefEqProofs (maxSteps := 2000000) (disch := omega) only [binV, ↓loadV, ↓storeV, ↓allocV, ↓buildV, ↓buildSliceV, fillG, fillE, place, GVal.cells, grp, GVal.ofConst, ↓resV, resG, List.map, List.headD, List.take, List.drop, ↓reduceIte, Nat.reduceEqDiff, Nat.reduceAdd, Nat.reduceSub, Nat.reduceLeDiff, reduceCtorEq, implies_true, ne_eq, aggV, Tag.cap, List.replicate, allSolid, GVal.solid, Nat.reduceBEq, Nat.reduceMul, Nat.reduceLT, List.length_map, List.length_range, splice, vcA, ↓vcB, vcC, fbFu, e8, qE1, qE2, qR1, qR2, len32, take32, take32a, drop32a, drop33a, take33a, len33, solid33, solidH]
  refine (GCalls.args (cC st s) (aC st)).mono ?_
  rintro g O' ⟨rfl, rfl⟩
  simp +contextual -implicitDefEqProofs (maxSteps := 2000000) (disch := omega) only [binV, ↓loadV, ↓storeV, ↓allocV, ↓buildV, ↓buildSliceV, fillG, fillE, place, GVal.cells, grp, GVal.ofConst, ↓resV, resG, List.map, List.headD, List.take, List.drop, ↓reduceIte, Nat.reduceEqDiff, Nat.reduceAdd, Nat.reduceSub, Nat.reduceLeDiff, reduceCtorEq, implies_true, ne_eq, aggV, Tag.cap, List.replicate, allSolid, GVal.solid, Nat.reduceBEq, Nat.reduceMul, Nat.reduceLT, List.length_map, List.length_range, splice, vcA, ↓vcB, vcC, fbFu, e8, errV]
  refine cW.then ?_ (by rfl)
  simp +contextual -implicitDefEqProofs (maxSteps := 2000000) (disch := omega) only [binV, ↓loadV, ↓storeV, ↓allocV, ↓buildV, ↓buildSliceV, fillG, fillE, place, GVal.cells, grp, GVal.ofConst, ↓resV, resG, List.map, List.headD, List.take, List.drop, ↓reduceIte, Nat.reduceEqDiff, Nat.reduceAdd, Nat.reduceSub, Nat.reduceLeDiff, reduceCtorEq, implies_true, ne_eq, aggV, Tag.cap, List.replicate, allSolid, GVal.solid, Nat.reduceBEq, Nat.reduceMul, Nat.reduceLT, List.length_map, List.length_range, splice, vcA, ↓vcB, vcC, fbFu, e8, len32, take32, solidH]
  intro s3
  refine cK.then ?_ (by rfl)
  simp +contextual -implicitDefEqProofs (maxSteps := 2000000) (disch := omega) only [binV, ↓loadV, ↓storeV, ↓allocV, ↓buildV, ↓buildSliceV, fillG, fillE, place, GVal.cells, grp, GVal.ofConst, ↓resV, resG, List.map, List.headD, List.take, List.drop, ↓reduceIte, Nat.reduceEqDiff, Nat.reduceAdd, Nat.reduceSub, Nat.reduceLeDiff, reduceCtorEq, implies_true, ne_eq, aggV, Tag.cap, List.replicate, allSolid, GVal.solid, Nat.reduceBEq, Nat.reduceMul, Nat.reduceLT, List.length_map, List.length_range, splice, vcA, ↓vcB, vcC, fbFu, e8, qE1, qE2, qR1, qR2, len32, take32, take32a, drop32a, drop33a, take33a, len33, solid33, solidH, cellsEq_hs q2 q2]
  refine (GCalls.on2 (R := fun g x' y' => g = errV none ∧ ∃ s', x' = .row st 1 [[.map 1 s']] ∧ y' = .map s' (kvG encL [(q1, [])])) (cA st s) (O := gObj st s [] ++ [.row s3 32 [bytesG q2.1]]) 0 1 (by omega) rfl rfl (.refl _) (aA st) rfl rfl (by rintro g x' y' ⟨_, s', rfl, rfl⟩; exact ⟨rfl, rfl⟩) rfl).mono ?_
  rintro g O' ⟨x', y', ⟨rfl, s', rfl, rfl⟩, rfl⟩
  simp +contextual -implicitDefEqProofs (maxSteps := 2000000) (disch := omega) only [binV, ↓loadV, ↓storeV, ↓allocV, ↓buildV, ↓buildSliceV, fillG, fillE, place, GVal.cells, grp, GVal.ofConst, ↓resV, resG, List.map, List.headD, List.take, List.drop, ↓reduceIte, Nat.reduceEqDiff, Nat.reduceAdd, Nat.reduceSub, Nat.reduceLeDiff, reduceCtorEq, implies_true, ne_eq, aggV, Tag.cap, List.replicate, allSolid, GVal.solid, Nat.reduceBEq, Nat.reduceMul, Nat.reduceLT, List.length_map, List.length_range, splice, vcA, ↓vcB, vcC, fbFu, e8, errV, qE1, qE2, qR1, qR2, len32, take32, take32a, drop32a, drop33a, take33a, len33, solid33, solidH, GObj.place, List.set, Tryd.underlying35]
  refine (GCalls.keep2 (cH st s') rfl [.row s3 32 [bytesG q2.1]]).mono ?_
  rintro g O' ⟨rfl, rfl⟩
  simp +contextual -implicitDefEqProofs (maxSteps := 2000000) (disch := omega) only [binV, ↓loadV, ↓storeV, ↓allocV, ↓buildV, ↓buildSliceV, fillG, fillE, place, GVal.cells, grp, GVal.ofConst, ↓resV, resG, List.map, List.headD, List.take, List.drop, ↓reduceIte, Nat.reduceEqDiff, Nat.reduceAdd, Nat.reduceSub, Nat.reduceLeDiff, reduceCtorEq, implies_true, ne_eq, aggV, Tag.cap, List.replicate, allSolid, GVal.solid, Nat.reduceBEq, Nat.reduceMul, Nat.reduceLT, List.length_map, List.length_range, splice, vcA, ↓vcB, vcC, fbFu, e8]
  refine (GCalls.keep2 (cN st s') rfl [.row s3 32 [bytesG q2.1]]).mono ?_
  rintro g O' ⟨rfl, rfl⟩
  simp +contextual -implicitDefEqProofs (maxSteps := 2000000) (disch := omega) only [binV, ↓loadV, ↓storeV, ↓allocV, ↓buildV, ↓buildSliceV, fillG, fillE, place, GVal.cells, grp, GVal.ofConst, ↓resV, resG, List.map, List.headD, List.take, List.drop, ↓reduceIte, Nat.reduceEqDiff, Nat.reduceAdd, Nat.reduceSub, Nat.reduceLeDiff, reduceCtorEq, implies_true, ne_eq, aggV, Tag.cap, List.replicate, allSolid, GVal.solid, Nat.reduceBEq, Nat.reduceMul, Nat.reduceLT, List.length_map, List.length_range, splice, vcA, ↓vcB, vcC, fbFu, e8]
  exact ⟨1, .bool true, rfl, by rw [leA_bool]⟩
end Gv.Tryd
/- OrderKnown: the parts. -/
set_option linter.unusedVariables false
set_option linter.unusedSimpArgs false
set_option maxRecDepth 20000
set_option maxHeartbeats 4000000
namespace Gv.Tryd
open Go Gv Go.Proofs
def q9 : Hs := hq 9 0 0
theorem qE9 : ([.int .u8 9, .int .u8 0, .int .u8 0, .int .u8 0, .int .u8 0, .int .u8 0, .int .u8 0, .int .u8 0, .int .u8 0, .int .u8 0, .int .u8 0, .int .u8 0, .int .u8 0, .int .u8 0, .int .u8 0, .int .u8 0, .int .u8 0, .int .u8 0, .int .u8 0, .int .u8 0, .int .u8 0, .int .u8 0, .int .u8 0, .int .u8 0, .int .u8 0, .int .u8 0, .int .u8 0, .int .u8 0, .int .u8 0, .int .u8 0, .int .u8 0, .int .u8 0] : List GVal) = bytesG q9.1 := rfl
theorem p3 : parsM fourCs q3 = [q1] := by kernel_rfl
theorem p2 : parsM fourCs q2 = [q1] := by kernel_rfl
theorem p1 : parsM fourCs q1 = [] := by kernel_rfl
end Gv.Tryd
