/- slices.AppendSeq and slices.Collect of an iterator of hashes: the walk. -/
import Derived.Test.YtnenmmdpclglhaaGreatDoorP9
import Derived.Test.YtnenmmdpclglhaaGreatDoorP8
import Derived.Test.YtnenmmdpclglhaaGreatDoorP5
set_option linter.defProp false
set_option linter.unusedSimpArgs false
set_option linter.unusedVariables false
set_option maxHeartbeats 4000000
set_option maxRecDepth 100000
namespace Gv.Tryz
open Go Gv Go.Proofs Go.RowKit Go.Maps Go.Sort Go.Shelf
theorem QkU : ∃ i : TypeInfo, Tryz.prog.info? 44 = some i ∧ i.zero = some (.agg Qc3) ∧ i.size = 32 ∧ i.bytes = 32 := by
 cases h : Tryz.prog.info? 44 with
 | none =>
  have : (Tryz.prog.info? 44).isSome = true := by kernel_rfl
  rw [h] at this; cases this
 | some i =>
  have h1 : (Tryz.prog.info? 44).bind (·.zero) = some (.agg Qc3) := by kernel_rfl
  have h2 : (Tryz.prog.info? 44).map (·.size) = some 32 := by kernel_rfl
  have h3 : (Tryz.prog.info? 44).map (·.bytes) = some 32 := by kernel_rfl
  rw [h] at h1 h2 h3;exact ⟨i, rfl, h1, by simpa using h2, by simpa using h3⟩
theorem Qpe (F : Fence) (m : Nat) (w0 : World) (fn : FuncId) (hfn : F.fn fn) (sv : Value) (Bs l D : Nat) (hBl : Bs ≠ l) (hDl : D ≠ l) (hDB : D ≠ Bs) (h0B : w0.heap.size ≤ Bs) (h0l : w0.heap.size ≤ l)
    (N : Nat) (hN : N ≤ maxLen) (hNb : N * 32 ≤ 140737488355328) (ss : List HL) (x : HL) (W : World) (h : ApAt w0 fn sv Bs l D ss W) (hlen : ss.length < N) :
    YieldAt F m Tryz.prog l #[encH x] W fun e W' => e = .returned (.bool true) ∧ ApAt w0 fn sv Bs l D (ss ++ [x]) W' ∧ KeepsWalks W W' := by
  have hne : (33 : TypeId) ≠ 44 := by decide
  obtain ⟨i0, hi, hz0, hz1, hz2⟩ := QkU;obtain ⟨v, hv, hrow, _⟩ := h.box;refine ⟨fn, #[.slice none 0 0, sv, .pointer (some ⟨Bs, 0, none⟩), undef, .slice none 0 0, undef, sv, encH x, undef, undef, undef, undef, undef], Qf6, Qko, by simpa [Qez] using run_yield (P := Tryz.prog) (args := #[encH x]) h.L rfl, roundIn_of_wpIn hfn ?_⟩;have hl : l < W.heap.size := (Array.getElem?_eq_some_iff.1 h.L).1;have hal := World.alloc_heap_new W (.cells Qc3 44);have hst := Qhy x.2 hal rfl;obtain ⟨W1, hW1⟩ : ∃ w3, (W.alloc (.cells Qc3 44)).setRow W.heap.size (Qah x.1).toArray = w3 := ⟨_, rfl⟩
  rw [hW1] at hst;have hx1 : W1.heap[W.heap.size]? = some (.cells (Qah x.1).toArray 44 (0, 0)) := by rw [← hW1]; exact setRow_heap _ _ _ _ _ _ hal
  have ho1 : ∀ k, k < W.heap.size → W1.heap[k]? = W.heap[k]? := fun k hk => by
    rw [← hW1, setRow_other _ _ _ _ (by omega)];exact Below.heap_alloc _ _ k hk
  have hs1 : W1.heap.size = W.heap.size + 1 := by rw [← hW1]; simp
  have hg1 : W.grownBy W1 none := ⟨by rw [← hW1]; rfl, by rw [← hW1]; rfl, by rw [← hW1]; rfl, by omega, fun k hk _ => ho1 k hk⟩
  have hk1 : KeepsWalks W W1 := ⟨by omega, fun k o hk ho => (ho1 k (Array.getElem?_eq_some_iff.1 hk).1).trans hk⟩
  clear hW1;have old : ∀ {k : Nat} {o : Obj}, W.heap[k]? = some o → W1.heap[k]? = some o := fun hk => (ho1 _ (Array.getElem?_eq_some_iff.1 hk).1).trans hk
  have hv1 := old hv;have hK1 := old h.K;have hL1 := old h.L;have hob : v.ownBlock = none ∨ v.ownBlock ≠ none := by cases v.ownBlock <;> simp
  have hrow1 : W1.ownsRow w0.heap.size 44 32 v ss.length (Qca ss) := hrow.kept hg1 hob;have hb1 : Below w0.heap.size w0 W1 := h.below.grown hg1 h.below.size (fun k e => by cases e);have hl1 : l < W1.heap.size := by omega
  have hbr := run_beginRound (P := Tryz.prog) hL1 rfl;obtain ⟨W2, hW2⟩ : ∃ W2, W1.putObj l (.loop { Qez fn sv Bs D .ready none with state := .busy }) = W2 := ⟨_, rfl⟩
  rw [hW2] at hbr;have hg2 : W1.grownBy W2 (some l) := by rw [← hW2]; exact grownBy_putObj_a _ _ _
  have hk2 : KeepsWalks W W2 := hk1.trans (by rw [← hW2]; exact KeepsWalks.putObj _ hL1 rfl);have hv2 : W2.heap[Bs]? = some (.cells #[v] 33 (0, 0)) := by rw [← hW2]; exact (World.putObj_heap_other hBl).trans hv1
  have hK2 : W2.heap[D]? = some (.deferred (some [])) := by rw [← hW2]; exact (World.putObj_heap_other hDl).trans hK1
  have hL2 : W2.heap[l]? = some (.loop { Qez fn sv Bs D .ready none with state := .busy }) := by rw [← hW2]; exact World.putObj_heap_same hl1
  have hx2 : W2.heap[W.heap.size]? = some (.cells (Qah x.1).toArray 44 (0, 0)) := by rw [← hW2]; exact (World.putObj_heap_other (by omega)).trans hx1
  have hrow2 : W2.ownsRow w0.heap.size 44 32 v ss.length (Qca ss) := hrow1.kept hg2 (ownsRow_ne_a hrow1 hL1 (fun cur e => by first | cases e | exact hne (Obj.cells.inj e).2.1));have hb2 : Below w0.heap.size w0 W2 := hb1.grown hg2 hb1.size (fun k e => by cases e; exact h0l);have hlo := QjR x.2 hx2;clear hW2;obtain ⟨hc2, hf2⟩ := cell_of_box_a hv2;have hBlt : Bs < W2.heap.size := (Array.getElem?_eq_some_iff.1 hv2).1;have hl2 : l < W2.heap.size := (Array.getElem?_eq_some_iff.1 hL2).1;have hDlt : D < W2.heap.size := (Array.getElem?_eq_some_iff.1 hK2).1;have ne_of : ∀ {j : Nat} {o : Obj}, W2.heap[j]? = some o → (∀ cur, o ≠ .cells cur 44 (0, 0)) → some j ≠ v.ownBlock := fun hj hno => by
    rcases ownsRow_ne_a hrow2 hj hno with e | e
    · rw [e]; simp
    · exact fun e' => e e'.symm
  have hbd := QoC W2 x.2;have h32 : (Qah x.1).length = 32 := by rw [Qcn, x.2]
  obtain ⟨V, hV⟩ : ∃ V, W2.alloc (.cells (Qah x.1).toArray 44) = V := ⟨_, rfl⟩
  rw [hV] at hbd;have hcl : ∀ (j : Nat) (u : Value), (Qah x.1)[j]? = some u → V.cell? (Addr.add ⟨W2.heap.size, 0, none⟩ j) = some u := fun j u hj => by
    have ha : Addr.add ⟨W2.heap.size, 0, none⟩ j = ⟨W2.heap.size, j, none⟩ := by unfold Addr.add; split <;> simp_all
    have := World.alloc_heap_new W2 (.cells (Qah x.1).toArray 44);rw [ha, ← hV];simp only [World.cell?, this]
    simpa using hj
  have hrowV : V.ownsRow w0.heap.size 44 32 v ss.length (Qca ss) := by rw [← hV]; exact hrow2.alloc _
  have hsV : V.heap.size = W2.heap.size + 1 := by rw [← hV]; simp
  have oldV : ∀ {k : Nat} {o : Obj}, W2.heap[k]? = some o → V.heap[k]? = some o := fun hk => by rw [← hV]; exact (Below.heap_alloc _ _ _ (Array.getElem?_eq_some_iff.1 hk).1).trans hk
  have hbV : Below w0.heap.size w0 V := by rw [← hV]; exact hb2.alloc hb2.size _
  have hkV : KeepsWalks W V := hk2.trans (by rw [← hV]; exact KeepsWalks.alloc _ _);have h0V := hbV.size;clear hV;unfold Qf6
  gi_wp2_with (first
    | (refine Qcf (t := 44) rfl rfl (Qhx _) ?_)
    | (refine Qcg (t := 44) (x := .tmp 5) (y := .tmp 7) (w' := W1) rfl rfl ?_ ?_; exact hst)
    | gi_round_op_a)
  unfold Qko
  gi_wp2_with (first
    | (refine Qcw (t := 44) (x := .tmp 5) (v := encV x.1) rfl rfl ?_ ?_; exact hlo)
    | (refine Qc1 (t := 33) (x := .tmp 9) (v := .slice (some ⟨W2.heap.size, 0, none⟩) 1 1) (w' := V) rfl rfl ?_ ?_; exact hbd)
    | (gi_at_builtin; refine wpListIn_append_own V rfl (.tmp 8) (.tmp 10) 33 rfl w0.heap.size 44 i0 (.agg Qc3) 32 32 Tryz.underlying33 hi hz0 hz1 hz2 rfl (by decide) v _ _ rfl hrowV ⟨W2.heap.size, 0, none⟩ 1 1 (Qah x.1) rfl (by rw [h32]) hcl (QcV x.1) (by omega) (by omega) h0V ?_; intro v' w3 hown' hg3 hnil3
       have hv3 : w3.heap[Bs]? = some (.cells #[v] 33 (0, 0)) := (hg3.block Bs (by omega) (ne_of hv2 (fun cur e => by first | cases e | exact hne (Obj.cells.inj e).2.1))).trans (oldV hv2);obtain ⟨hc3, hf3⟩ := cell_of_box_a hv3;obtain ⟨g', cap', cur', rfl, hbase', hgb', hr1, hr2, hr3, hr4⟩ : ∃ g' cap' cur', v' = .slice (some ⟨g', 0, none⟩) (ss.length + 1) cap' ∧ w0.heap.size ≤ g' ∧ w3.heap[g']? = some (.cells cur' 44 (0, 0)) ∧ ss.length + 1 ≤ cap' ∧ cap' ≤ maxLen ∧ cur'.size = cap' * 32 ∧ cur'.toList.take ((ss.length + 1) * 32) = Qca ss ++ Qah x.1 := by
         rcases hown'.2 with ⟨_, h0⟩ | h'
         · exact absurd h0 (by omega)
         · exact h'
       go_frame)
    | gi_round_op_a)
  have hL3 : w3.heap[l]? = some (.loop { Qez fn sv Bs D .ready none with state := .busy }) := (hg3.block l (by omega) (ne_of hL2 (fun cur e => by first | cases e | exact hne (Obj.cells.inj e).2.1))).trans (oldV hL2);have hK3 : w3.heap[D]? = some (.deferred (some [])) := (hg3.block D (by omega) (ne_of hK2 (fun cur e => by first | cases e | exact hne (Obj.cells.inj e).2.1))).trans (oldV hK2);obtain ⟨w4, hw4⟩ : ∃ w4, w3.setCell ⟨Bs, 0, none⟩ (.slice (some ⟨g', 0, none⟩) (ss.length + 1) cap') = w4 := ⟨_, rfl⟩
  rw [hw4];have hg4 : w3.grownBy w4 (some Bs) := by rw [← hw4]; exact grownBy_setCell0_a _ _ _
  have hv4 : w4.heap[Bs]? = some (.cells #[.slice (some ⟨g', 0, none⟩) (ss.length + 1) cap'] 33 (0, 0)) := by rw [← hw4]; exact heap_setCell_box_a _ hv3
  have hL4 : w4.heap[l]? = some (.loop { Qez fn sv Bs D .ready none with state := .busy }) := (hg4.block l (Array.getElem?_eq_some_iff.1 hL3).1 (fun e => hBl (by cases e; rfl))).trans hL3;have hK4 : w4.heap[D]? = some (.deferred (some [])) := (hg4.block D (Array.getElem?_eq_some_iff.1 hK3).1 (fun e => hDB (by cases e; rfl))).trans hK3;have hrow4 := hown'.kept hg4 (ownsRow_ne_a hown' hv3 (fun cur e => by first | cases e | exact hne (Obj.cells.inj e).2.1));have hl4 : l < w4.heap.size := (Array.getElem?_eq_some_iff.1 hL4).1;have hb3 : Below w0.heap.size w0 w3 := hbV.grown hg3 h0V (fun k e => (hrow2.lt k e).1);have hb4 : Below w0.heap.size w0 w4 := hb3.grown hg4 hb3.size (fun k e => by cases e; exact h0B);have hk4 : KeepsWalks W w4 := (hkV.trans (KeepsWalks.of_grownBy hg3 (ownsRow_not_walk_a hrowV))).trans (by rw [← hw4]; exact KeepsWalks.setCell _ _ _);clear hw4;refine ⟨_, _, run_endRound none hL4, rfl, ⟨⟨_, (World.putObj_heap_other hBl).trans hv4, ?_, by simp⟩, World.putObj_heap_same hl4, (World.putObj_heap_other hDl).trans hK4, hb4.grown (grownBy_putObj_a _ _ _) hb4.size (fun k e => by cases e; exact h0l)⟩, hk4.trans (KeepsWalks.putObj _ hL4 rfl)⟩;have := hrow4.kept (grownBy_putObj_a w4 l (.loop { { Qez fn sv Bs D .ready none with state := .busy } with state := if (none : Option Code).isNone then .ready else .done, pending := none })) (ownsRow_ne_a hrow4 hL4 (fun cur e => by first | cases e | exact hne (Obj.cells.inj e).2.1));rw [QhO, List.length_append];exact this
theorem QkV (F : Fence) (n : Nat) (h11 : F.fn 108) (hro : F.round = none) (hn : 2 ≤ n) (g : Nat) (lb : Array Value) (hFg : F.fn g) (eg : ∀ args w, (callFunc g args).run Tryz.prog w = .ok (.enter g args) w)
    (S : List HL → Prop) (N : Nat) (hN : N ≤ maxLen) (hNb : N * 32 ≤ 140737488355328) (w : World) (hseq : SeqGives F (n - 1) Tryz.prog g lb encH S N w) :
    CallsIn F n Tryz.prog 108 #[.slice none 0 0, .func (.func g) #[] lb] w fun e w' => ∃ (v : Value) (ss : List HL), e = .returned v ∧ S ss ∧ w'.ownsRow w.heap.size 44 32 v ss.length (Qca ss) ∧ (v = .slice none 0 0 ↔ ss = []) ∧ Below w.heap.size w w' := by
  have h1 : 1 ≤ n := by omega
  have hne : (33 : TypeId) ≠ 44 := by decide
  refine callsIn_of_wp_marks Tryz.func108 rfl h11 ?_ hro;simp only [Tryz.ntmps108, List.size_toArray, List.length_cons, List.length_nil, Nat.reduceAdd, Nat.reduceSub, Array.replicate_succ, Array.replicate_zero, List.push_toArray, List.append_toArray, List.nil_append, List.cons_append]
  gi_wp2
  refine wpIn_rangeFunc ?_;intro fn hfn;rw [hro];obtain ⟨W0, hW0⟩ : ∃ W0, w.alloc (.cells #[.slice none 0 0] 33) = W0 := ⟨_, rfl⟩
  have hs0 : W0.heap.size = w.heap.size + 1 := by rw [← hW0]; simp
  have hv0 : W0.heap[w.heap.size]? = some (.cells #[.slice none 0 0] 33 (0, 0)) := by rw [← hW0]; exact World.alloc_heap_new w _
  have hb0 : Below w.heap.size w W0 := by rw [← hW0]; exact (Below.refl _ w).alloc (Nat.le_refl _) _
  rw [hW0];obtain ⟨W1, hW1⟩ : ∃ W1, (W0.alloc (.deferred (some []))).alloc (.loop (Qez fn (.func (.func g) #[] lb) w.heap.size W0.heap.size .ready none)) = W1 := ⟨_, rfl⟩
  have hold : ∀ k, k < W0.heap.size → W1.heap[k]? = W0.heap[k]? := fun k hk => by
    rw [← hW1]; exact (Below.heap_alloc _ _ k (by simp; omega)).trans (Below.heap_alloc _ _ k hk)
  have hb1 : Below w.heap.size w W1 := by rw [← hW1]; exact (hb0.alloc hb0.size _).alloc (by have := hb0.size; simp; omega) _
  have hs1 : W1.heap.size = W0.heap.size + 2 := by rw [← hW1]; simp
  have hM : ApAt w fn (.func (.func g) #[] lb) w.heap.size (W0.heap.size + 1) W0.heap.size [] W1 :=
    ⟨⟨_, (hold w.heap.size (by omega)).trans hv0, ⟨rfl, .inl ⟨rfl, rfl⟩⟩, by simp⟩,
     by rw [← hW1]; have := World.alloc_heap_new (W0.alloc (.deferred (some []))) (.loop (Qez fn (.func (.func g) #[] lb) w.heap.size W0.heap.size .ready none)); rwa [World.size_alloc] at this,
     by rw [← hW1]; exact (Below.heap_alloc _ _ _ (by simp)).trans (World.alloc_heap_new W0 _), hb1⟩
  refine ⟨W0.heap.size + 1, [{ target := .collected W0.heap.size, args := #[] }], W1, { target := .fn (.func g) lb, args := #[.func (.yield (W0.heap.size + 1)) #[] #[]] }, W1, g,
    #[.func (.yield (W0.heap.size + 1)) #[] #[]] ++ lb, W1, ?_, ?_, ?_, ?_, fun _ => h1, ?_⟩
  · rw [← hW1]; exact run_enterLoop_outer _ _ _ _ _
  · simp [resolve, go_sem]
  · intro f' hf'; simp [Target.leads] at hf'; subst hf'; exact hFg
  · simp [invoke, go_sem, eg]
  · refine (hseq (W0.heap.size + 1) (ApAt w fn (.func (.func g) #[] lb) w.heap.size (W0.heap.size + 1) W0.heap.size) W1 hb1 (Qkp _ _ _ _ _ _ _ hb1.size)
      (fun pre x W hJ hl => Qpe F (n - 1 - 1) w fn hfn _ w.heap.size (W0.heap.size + 1) W0.heap.size (by omega) (by omega) (by omega) (Nat.le_refl _) (by omega) N hN hNb pre x W hJ hl) hM).mono ?_
    rintro e W2 ⟨⟨v0, rfl⟩, ss, hS, h2⟩;obtain ⟨v, hv, hrow, hnil⟩ := h2.box;have hend := run_endLoop (P := Tryz.prog) h2.L (by simp [Qez]);obtain ⟨W3, hW3⟩ : ∃ W3, W2.putObj (W0.heap.size + 1) (.loop { Qez fn (.func (.func g) #[] lb) w.heap.size W0.heap.size .ready none with state := .exhausted }) = W3 := ⟨_, rfl⟩
    rw [hW3] at hend;have hg3 : W2.grownBy W3 (some (W0.heap.size + 1)) := by rw [← hW3]; exact grownBy_putObj_a _ _ _
    have hv3 : W3.heap[w.heap.size]? = some (.cells #[v] 33 (0, 0)) := by rw [← hW3]; exact (World.putObj_heap_other (by omega)).trans hv
    have hK3 : W3.heap[W0.heap.size]? = some (.deferred (some [])) := by rw [← hW3]; exact (World.putObj_heap_other (by omega)).trans h2.K
    have hrow3 := hrow.kept hg3 (ownsRow_ne_a hrow h2.L (fun cur e => by first | cases e | exact hne (Obj.cells.inj e).2.1));have hb3 : Below w.heap.size w W3 := h2.below.grown hg3 h2.below.size (fun k e => by cases e; omega);obtain ⟨hc3, hf3⟩ := cell_of_box_a hv3;clear hW3;refine ⟨none, W3, hend, ?_⟩
    gi_wp2
    rw [← hs0];refine ⟨by simp, .inl ⟨_, _, rfl, run_takeDeferred hK3, ?_⟩⟩;exact ⟨_, results_tmp rfl _ _ _, v, ss, rfl, hS, hrow3.kept (grownBy_putObj_a _ _ _) (ownsRow_ne_a hrow3 hK3 (fun cur e => by first | cases e | exact hne (Obj.cells.inj e).2.1)), hnil, hb3.grown (grownBy_putObj_a _ _ _) hb3.size (fun k e => by cases e; omega)⟩
theorem Qkg (F : Fence) (n : Nat) (h8 : F.fn 79) (h11 : F.fn 108) (hro : F.round = none) (hn : 3 ≤ n) (g : Nat) (lb : Array Value) (hFg : F.fn g) (eg : ∀ args w, (callFunc g args).run Tryz.prog w = .ok (.enter g args) w)
 (S : List HL → Prop) (N : Nat) (hN : N ≤ maxLen) (hNb : N * 32 ≤ 140737488355328) (w : World) (hseq : SeqGives F (n - 1 - 1) Tryz.prog g lb encH S N w) :
 CallsIn F n Tryz.prog 79 #[.func (.func g) #[] lb] w fun e w' => ∃ (v : Value) (ss : List HL), e = .returned v ∧ S ss ∧ w'.ownsRow w.heap.size 44 32 v ss.length (Qca ss) ∧ (v = .slice none 0 0 ↔ ss = []) ∧ Below w.heap.size w w' := by
 have h1 : 1 ≤ n := by omega
 have e11 : ∀ args w, (callFunc 108 args).run Tryz.prog w = .ok (.enter 108 args) w := enters_of Tryz.func108 (by kernel_rfl) rfl
 refine callsIn_of_wp Tryz.func79 rfl h8 ?_ hro
 simp only [Tryz.ntmps79, List.size_toArray, List.length_cons, List.length_nil, Nat.reduceAdd, Nat.reduceSub, Array.replicate_succ, Array.replicate_zero, List.push_toArray, List.append_toArray, List.nil_append, List.cons_append]
 gi_wp2_with (gi_at_fn 108; refine (QkV F (n - 1) h11 hro (by omega) g lb hFg eg S N hN hNb _ hseq).mono ?_; rintro e w' ⟨v, ss, rfl, hS, hrow, hnil, hb⟩)
 go_ret
 exact ⟨v, ss, rfl, hS, hrow, hnil, hb⟩
open Go Gv Go.Proofs Go.RowKit
def hsB (l : List Hs) : List UInt8 := l.flatMap (·.1)
theorem Qd7 (l : List Hs) : Qca l = Qah (hsB l) := by
 induction l with
 | nil => rfl
 | cons h r ih => simp only [Qca, hsB, List.flatMap_cons, Qah, List.map_append] at ih ⊢; rw [ih]
theorem Qp6 (l : List Hs) : (hsG l).flatten = bytesG (hsB l) := by
 induction l with
 | nil => rfl
 | cons h r ih => simp only [hsG, hsB, List.flatMap_cons, List.map_cons, List.flatten_cons, bytesG, List.map_append] at ih ⊢; rw [ih]
theorem Qnh {E : Env} {v : Value} {h : Hs} (hv : VR E v (.agg (bytesG h.1))) : v = encH h := by
 have := Qgz (E := E) (vs := #[v]) (l := h.1) ⟨rfl, fun i g hg => by
  match i with
  | 0 => simp at hg; subst hg; simpa using hv
  | i + 1 => simp at hg⟩
 have h2 : v = .agg (Qah h.1).toArray := by simpa using this
 exact h2
theorem Qiz {a b : Hs} (h : encH a = encH b) : a = b := by
 have h1 : (Qah a.1).toArray = (Qah b.1).toArray := by injection h
 have h2 : Qah a.1 = Qah b.1 := by simpa using h1
 refine Subtype.ext ?_
 have : ∀ (x y : List UInt8), Qah x = Qah y → x = y := by
  intro x;induction x with
  | nil => intro y h; cases y with
   | nil => rfl
   | cons => cases h
  | cons c r ih =>
   intro y h;cases y with
   | nil => cases h
   | cons d s =>
    simp only [Qah, List.map_cons, List.cons.injEq, Value.int.injEq, true_and] at h;rw [ih s h.2];have : c.toNat = d.toNat := by have := h.1; omega
    rw [UInt8.toNat_inj.1 this]
 exact this _ _ h2
theorem Qey {α β : Type} {f : α → β} (hf : ∀ a b, f a = f b → a = b) {l m : List α} (h : (l.map f).Perm (m.map f)) : l.Perm m := by
 classical
 rw [List.perm_iff_count] at h ⊢
 intro a
 have := h (f a)
 have hc : ∀ x : List α, (x.map f).count (f a) = x.count a := by
  intro x;induction x with
  | nil => rfl
  | cons b r ih =>
   rw [List.map_cons, List.count_cons, List.count_cons, ih];by_cases e : b = a
   · simp [e]
   · have : f b ≠ f a := fun q => e (hf _ _ q)
     simp [e, this]
 rwa [hc, hc] at this
theorem Qf4 {α : Type} (enc : α → GVal) (m : List (Hs × α)) (hm : m.length ≤ 1000000000) {O : List GObj} {o st oc stc : Nat} (hO : O[o]? = some (.map st (kvG enc m))) (hOc : O[oc]? = some (.row stc 1 [[.map o st]])) :
 GCalls Tryz.prog 79 [.func (.func 109) [] [.ptr oc stc 0 0]] O (fun g O' => ∃ l : List Hs, l.Perm (m.map (·.1)) ∧ g = .slice (hsG l) .none ∧ O' = O) := by
 refine ⟨by kernel_rfl, fun E w vs hs ha => ?_⟩
 obtain ⟨hsz, hat⟩ := ha
 match vs, hsz with
 | ⟨[v]⟩, _ =>
  have hv := hat 0 _ rfl
  change VR E v _ at hv
  cases hv with
  | func fn fs cs gs ks hf hk hfs hcs =>
   obtain ⟨fs⟩ := fs;obtain ⟨cs⟩ := cs
   match fs, hf with
   | [], _ =>
    match cs, hk with
    | [c], _ =>
     have hc := hcs 0 _ rfl
     change VR E c (.ptr oc stc 0 0) at hc
     cases hc with
     | ptr b off _ _ _ _ lc hlc hbc hoff =>
      have hre := hs.real _ _ hOc;obtain ⟨lc2, hlc2, hsz2, _, hre⟩ := hre;rw [hlc] at hlc2; cases hlc2;rw [hbc] at hre;obtain ⟨cur, el, hcw, hcs, hct, hrows, _⟩ := hre;obtain ⟨q, h1, _, h2⟩ := hrows 0 (.map o st) rfl;have hoff2 : off = lc.off := by rw [hoff]; omega
      have hcell : w.cell? ⟨b, off, none⟩ = some q := by
       simp only [World.cell?, hcw, hoff2]
       simpa using h1
      have hBm : b < w.heap.size := (Array.getElem?_eq_some_iff.1 hcw).1;cases h2 with
      | map r o st l hl hb =>
       obtain ⟨b2, es, clock, e, hw, hes, hent, hloc, hsn2, hbo⟩ := Qcl hs (VR.map r o st l hl hb) hO;cases e;have hln : es.size = m.length := by
        have : es.toList.length = (kvG enc m).length := hes;rw [Array.length_toList] at this;rw [this, kvG, List.length_map]
       have hkey : es.toList.map MapEntry.key = (m.map (·.1)).map encH := by
        refine List.ext_getElem? fun i => ?_;rw [List.getElem?_map, List.getElem?_map, List.getElem?_map];cases hi : m[i]? with
        | none =>
         have : es.toList[i]? = none := by
          rw [List.getElem?_eq_none_iff] at hi ⊢;rw [Array.length_toList]; omega
         rw [this]; rfl
        | some p =>
         have hlt := (List.getElem?_eq_some_iff.1 hi).1;have hi2 : i < es.toList.length := by rw [Array.length_toList]; omega
         have he : es.toList[i]? = some (es.toList[i]) := List.getElem?_eq_getElem hi2;have := (hent i _ (.agg (bytesG p.1.1), enc p.2) he (by simp [kvG, hi])).1;rw [he];exact congrArg some (Qnh this)
       have hks : ∀ e ∈ es.toList, ∃ h : HL, e.key = encH h := by
        intro e he;have : e.key ∈ es.toList.map MapEntry.key := List.mem_map_of_mem he;rw [hkey] at this;obtain ⟨h, _, eh⟩ := List.mem_map.1 this;exact ⟨h, eh.symm⟩
       have hseq := Qex Fence.wide 3 trivial rfl (by omega) b off r clock es hbo hks w hBm hcell hw;have hc := Qkg Fence.wide 5 trivial trivial rfl (by omega) 109 #[.pointer (some ⟨b, off, none⟩)] trivial (enters_of Tryz.func109 (by kernel_rfl) rfl) _ es.size (by rw [hln]; exact Nat.le_trans hm (by decide)) (by omega) w hseq;refine (callsIn_wide.1 hc).mono ?_;rintro e' w' ⟨v, ss, rfl, hS, hrow, hnil, hbel⟩;have hperm : ss.Perm (m.map (·.1)) := Qey (fun _ _ => Qiz) (by rw [← hkey]; exact hS);rcases hrow.2 with ⟨rfl, hz⟩ | ⟨g, cap, cur, rfl, hbase, hgb, r1, r2, r3, r4⟩
       · have hss : ss = [] := List.eq_nil_of_length_eq_zero hz;subst hss;obtain ⟨p1, p2⟩ := hs.belowO hbel;exact ⟨_, E, O, .slice [] .none, rfl, p1, p2, .slice none 0 0 [] .none 32 (fun _ => undef) rfl (Nat.le_refl _) (by simp) (by simp) (by simp) trivial, [], hperm, rfl, rfl⟩
       · have hcur : ∀ j, j < ss.length * 32 → cur[j]? = (Qah (hsB ss))[j]? := by
          intro j hj
          rw [← Qd7, ← r4, List.getElem?_take_of_lt hj, Array.getElem?_toList]
         have hbl : (Qah (hsB ss)).length = ss.length * 32 := by rw [← Qd7, Qfw]
         obtain ⟨p1, p2⟩ := hs.belowSeal hbel (n := ss.length * 32) hbase hgb (fun j v hj hv => by
          rw [hcur j hj] at hv;exact QcV _ v (List.mem_of_getElem? hv))
         refine ⟨_, _, O, .slice (hsG ss) .none, rfl, p1, p2, .slice _ _ _ _ _ 32 (fun j => (Qah (hsB ss)).getD j undef) (by rw [hsG_len]) r1 (fun x hx => by obtain ⟨h, _, rfl⟩ := List.mem_map.1 hx; exact len32 h) (fun _ => ⟨g, 0, rfl, fun j hj => ?_⟩) (fun j gv hj => ?_) trivial, ss, hperm, rfl, rfl⟩
         · show (if g = g then (if 0 + j < ss.length * 32 then cur[0 + j]? else none) else E.snap g (0 + j)) = _;rw [if_pos rfl, Nat.zero_add, if_pos hj, hcur j hj, List.getD_eq_getElem?_getD];cases hq2 : (Qah (hsB ss))[j]? with
           | none => rw [List.getElem?_eq_none_iff] at hq2; omega
           | some x => rfl
         · rw [Qp6, bytesG, List.getElem?_map] at hj;rw [List.getD_eq_getElem?_getD, Qah, List.getElem?_map];cases hq2 : (hsB ss)[j]? with
           | none => rw [hq2] at hj; cases hj
           | some x =>
            rw [hq2] at hj;cases hj;exact .int _ _
theorem QnX {α : Type} (enc : α → GVal) (m : List (Hs × α)) {st : Nat} : GCalls Tryz.prog 80 [.map 0 st] [.map st (kvG enc m)] (fun g O' => ∃ stc, g = .func (.func 109) [] [.ptr 1 stc 0 0] ∧ O' = [.map st (kvG enc m), .row stc 1 [[.map 0 st]]]) := by
 refine h80.ca ?_
 refine vq0 ?_
 exact fun s => ⟨s, rfl, rfl⟩
open Go Gv Go.Proofs
open Nat (reduceEqDiff reduceAdd reduceSub reduceLeDiff reduceMul reduceLT)
theorem Qfx {a b : List Hs} (h : a.Perm b) : sortR a = sortR b := ss_eq (sortR_ss a) (sortR_ss b) fun z => by rw [sortR_mem, sortR_mem]; exact h.mem_iff
theorem gSorted {α : Type} (enc : α → GVal) (m : List (Hs × α)) (hm : m.length ≤ 1000000000) (st : Nat) : GCalls Tryz.prog 45 [.map 0 st] [.map st (kvG enc m)] (fun g O' => g = .slice (hsG (sortR (m.map (·.1)))) .none ∧ O' = [.map st (kvG enc m)]) := by
 refine GCalls.dropTo ?_
 refine h45.ca ?_
 refine vq0 ?_
 refine (QnX enc m).mono ?_
 rintro g O' ⟨stc, rfl, rfl⟩
 refine vq0 ?_
 refine (Qf4 enc m hm (O := [.map st (kvG enc m), .row stc 1 [[.map 0 st]]]) (o := 0) (oc := 1) rfl rfl).mono ?_
 rintro g O' ⟨l, hl, rfl, rfl⟩
 have hll : l.length = m.length := by rw [hl.length_eq, List.length_map]
 have cS := QnY l .none (by omega) (by simp)
 rw [Qfx hl] at cS
 refine vq0 ?_
 refine cS.then ?_ (by rfl)
 refine vq0 ?_
 exact ⟨_, [.map st (kvG enc m)], [.row stc 1 [[.map 0 st]]], rfl, leA_refl _, rfl, rfl⟩
theorem Qnv (m : GM) (h : Hs) (st s : Nat) : GCalls Tryz.prog 81 [.agg (bytesG h.1), .ref [.ptr 0 st 0 0]] (gObj st s m) (fun g O' => g = .bool (!(look m h).isSome) ∧ O' = gObj st s m) := by
 have cH := gHas m h st s
 refine h81.ca ?_
 refine vq1 @v32 ?_
 refine cH.mono ?_
 rintro g O' ⟨rfl, rfl⟩
 exact vd0
def zb10 := ai @hsG_len <| ai @Qbr <| ai @Nat.sub_zero <| ai @true_imp_iff <| @v32
theorem QpI {F : FuncId} {caps : List GVal} {a b : GObj} (p : Hs → Bool) (hN : ∀ h : Hs, GCalls Tryz.prog F (.agg (bytesG h.1) :: caps) [a, b] (fun g O' => g = .bool (p h) ∧ O' = [a, b])) (ha : a.isClock = false)
 (l : List Hs) (v : Nat) (hl : l.length ≤ 1000000) :
 GCalls Tryz.prog 95 [.own 2 v 0 l.length, .func (.func F) [] caps] [a, b, .row v 32 (hsG l)] (fun g O' => g = .int .i64 (match l.findIdx? p with | some i => (i : Int) | none => -1) ∧ O' = [a, b, .row v 32 (hsG l)]) := by
 have hcl : ∀ Y, Qad (a :: Y) = none := fun Y => by cases a <;> first | rfl | cases ha
 have hst : ∀ (r : List GObj) (K : Nat → Prop), stamp (a :: r) K = ∀ st, K st := fun r K => by unfold stamp; rw [hcl]
 have htk : ∀ r : List GObj, tickO (a :: r) = a :: r := fun r => Qck (hcl r)
 refine h95.ca ?_
 refine vq3 hst htk @hsG_len ?_
 refine Qab (ι := { k : Nat // k ≤ l.length ∧ ∀ x ∈ l.take k, p x = false }) (fun k => ⟨[.own 2 v 0 l.length, .func (.func F) [] caps, .any, .any, .int .i64 0, .any, .own 2 v 0 l.length, .int .i64 l.length, .int .i64 (k.1 : Nat)] ++ List.replicate 10 .any, [a, b, .row v 32 (hsG l)]⟩) (fun k => l.length - k.1) ?_ ?_
 · exact Into.first ⟨0, by omega, by simp⟩ ⟨[], by simp⟩ (by simp [WL, leG_self, leG_any])
 · rintro ⟨k, hk, hp⟩
   change k ≤ l.length at hk
   have hp : ∀ x ∈ l.take k, p x = false := hp;by_cases h : k < l.length
   · have d0 : ((k : Int) < (l.length : Int)) = True := eq_true (by omega);have eS := hsG_at l k h;have eg : l.getD k h0 = l[k] := by simp [List.getD, h]
     rw [eg] at eS;have ht : l.take (k + 1) = l.take k ++ [l[k]] := List.take_succ_eq_append_getElem h;generalize l[k] = x at eS ht;have cN := hN x;by_cases hx : p x = true
     · rw [hx] at cN;have cN := cN.keep2 ha;have hf : l.findIdx? p = some k := by
        have e : l = l.take k ++ x :: l.drop (k + 1) := by
         have := List.take_append_drop (k + 1) l;rw [ht, List.append_assoc] at this;exact this.symm
        rw [e, List.findIdx?_append, List.findIdx?_eq_none_iff.2 hp, List.findIdx?_cons, hx];simp;omega
       rw [hf];refine vq5 hst htk d0 eS zb10 ?_;refine ⟨by omega, by omega, by omega, (cN _).mono ?_⟩;rintro g O' ⟨rfl, rfl⟩;exact vd2 hst htk
     · have hx : p x = false := by simpa using hx
       rw [hx] at cN;have cN := cN.keep2 ha;refine vq5 hst htk d0 eS zb10 ?_;refine ⟨by omega, by omega, by omega, (cN _).mono ?_⟩;rintro g O' ⟨rfl, rfl⟩;refine vq2 hst htk ?_;exact Into.at ⟨k + 1, by omega, by rw [ht]; intro y hy; rcases List.mem_append.1 hy with q | q; exact hp y q; rw [List.mem_singleton.1 q]; exact hx⟩ (by show l.length - (k + 1) < l.length - k; omega) ⟨[], by simp⟩ (by simp [WL, leG_self, leG_any, Qaa])
   · have d0 : ((k : Int) < (l.length : Int)) = False := eq_false (by omega);have hf : l.findIdx? p = none := by
      rw [List.findIdx?_eq_none_iff];rw [List.take_of_length_le (by omega)] at hp;exact hp
     rw [hf];exact vd4 hst htk @hsG_len d0
theorem QaC (h : Hs) : List.drop 32 (bytesG h.1) = [] := List.drop_of_length_le (by rw [len32]; omega)
theorem Qiu {F : FuncId} {caps : List GVal} {a b : GObj} (p : Hs → Bool) (hN : ∀ h : Hs, GCalls Tryz.prog F (.agg (bytesG h.1) :: caps) [a, b] (fun g O' => g = .bool (p h) ∧ O' = [a, b])) (ha : a.isClock = false)
 (l : List Hs) (v : Nat) (hl : l.length ≤ 1000000) :
 GCalls Tryz.prog 76 [.own 2 v 0 l.length, .func (.func F) [] caps] [a, b, .row v 32 (hsG l)] (fun g O' => g = .own 2 v 0 (l.filter fun h => !p h).length ∧ O' = [a, b, .row v 32 (hsG (l.filter fun h => !p h))]) := by
 have hcl : ∀ Y, Qad (a :: Y) = none := fun Y => by cases a <;> first | rfl | cases ha
 have hst : ∀ (r : List GObj) (K : Nat → Prop), stamp (a :: r) K = ∀ st, K st := fun r K => by unfold stamp; rw [hcl]
 have htk : ∀ r : List GObj, tickO (a :: r) = a :: r := fun r => Qck (hcl r)
 refine GCalls.dropTo ?_
 have cI := QpI p hN ha l v hl
 cases hf : l.findIdx? p with
 | none =>
  rw [hf] at cI;have hall : l.filter (fun h => !p h) = l := List.filter_eq_self.2 fun x hx => by rw [List.findIdx?_eq_none_iff.1 hf x hx]; rfl
  rw [hall];refine h76.ca ?_;refine vq2 hst htk ?_;refine cI.mono ?_;rintro g O' ⟨rfl, rfl⟩;refine vq2 hst htk ?_;exact ⟨_, [a, b, .row v 32 (hsG l)], [], rfl, leA_refl _, rfl, rfl⟩
 | some i =>
  rw [hf] at cI;have hi : i < l.length := (List.findIdx?_eq_some_iff_findIdx_eq.1 hf).1;have n1 : ((i : Int) = -1) = False := eq_false (by omega);refine h76.ca ?_;refine vq2 hst htk ?_;refine cI.mono ?_;rintro g O' ⟨rfl, rfl⟩;refine vq3 hst htk n1 ?_;have esp : l = l.take i ++ l[i] :: l.drop (i + 1) := by
   have := List.take_append_drop i l;rw [List.drop_eq_getElem_cons hi] at this;exact this.symm
  have hpi : p l[i] = true ∧ ∀ x ∈ l.take i, p x = false := by
   have := List.findIdx?_eq_some_iff_getElem.1 hf;obtain ⟨_, h1, h2⟩ := this;refine ⟨h1, fun x hx => ?_⟩;obtain ⟨j, hj, rfl⟩ := List.getElem_of_mem hx;rw [List.getElem_take];have := h2 j (by simp at hj; omega)
   simpa using this
  have hfl : l.take i ++ (l.drop (i + 1)).filter (fun h => !p h) = l.filter fun h => !p h := by
   conv => rhs; rw [esp]
   rw [List.filter_append, List.filter_cons, hpi.1];have : (l.take i).filter (fun h => !p h) = l.take i := List.filter_eq_self.2 fun x hx => by rw [hpi.2 x hx]; rfl
   rw [this]; rfl
  refine Qab (ι := { q : (List Hs × List Hs) × (List Hs × Nat) // (q.1.2 ≠ [] ∧ q.1.1.length + q.1.2.length = q.2.2) ∧ q.2.2 + q.2.1.length = l.length ∧ q.1.1 ++ q.2.1.filter (fun h => !p h) = l.filter fun h => !p h }) (fun q => ⟨[.own 2 v 0 l.length, .func (.func F) [] caps, .any, .any, .any, .int .i64 (q.1.1.1.length : Nat), .int .i64 (q.1.2.2 : Nat)] ++ List.replicate 35 .any, [a, b, .row v 32 (hsG (q.1.1.1 ++ q.1.1.2 ++ q.1.2.1))]⟩) (fun q => q.1.2.1.length) ?_ ?_
  · have : min i l.length = i := by omega
    refine Into.first ⟨((l.take i, [l[i]]), (l.drop (i + 1), i + 1)), ⟨by simp, by simp [this]⟩, by simp; omega, hfl⟩ ⟨[], ?_⟩ ?_
    · rw [List.append_nil];show _ = [a, b, GObj.row v 32 (hsG (l.take i ++ [l[i]] ++ l.drop (i + 1)))];rw [List.append_assoc, List.singleton_append, ← esp]
    · simp [WL, leG_self, leG_any, Qaa, this]
  · rintro ⟨⟨⟨A, Z⟩, ⟨R, J⟩⟩, ⟨hZ, hJ⟩, hlen, hfil⟩
    change Z ≠ [] at hZ
    change A.length + Z.length = J at hJ
    change J + R.length = l.length at hlen
    change A ++ R.filter (fun h => !p h) = l.filter fun h => !p h at hfil
    obtain ⟨z, Z', rfl⟩ := List.exists_cons_of_ne_nil hZ;have hAJ : A.length < J := by rw [← hJ]; simp
    cases R with
    | nil =>
     have d0 : ((J : Int) < (l.length : Int)) = False := eq_false (by simp at hlen; omega);have hA : A = l.filter fun h => !p h := by simpa using hfil
     obtain ⟨W, hW⟩ : ∃ W, A ++ z :: Z' ++ [] = W := ⟨_, rfl⟩
     have hWl : W.length = l.length := by rw [← hW, ← hlen, ← hJ]; simp
     have hWt : (hsG W).take A.length = hsG A := by rw [← hW]; simp [hsG]
     have hAl : A.length ≤ l.length := by omega
     refine vq9 hst htk @hsG_len @Qbr @Nat.sub_zero d0 hW hWl hWt ?_;exact ⟨by omega, by omega, by omega, by omega, by omega, by omega, _, [a, b, .row v 32 (hsG A)], [], rfl, leA_refl _, by rw [← hA], by rw [← hA]⟩
    | cons x R' =>
     have d0 : ((J : Int) < (l.length : Int)) = True := eq_true (by simp at hlen; omega);obtain ⟨W, hW⟩ : ∃ W, A ++ z :: Z' ++ x :: R' = W := ⟨_, rfl⟩
     have hWl : W.length = l.length := by rw [← hW, ← hlen, ← hJ]; simp; omega
     have eS : (hsG W).getD J [] = bytesG x.1 := by
      rw [hsG_at _ _ (by simp at hlen; omega)];have : W.getD J h0 = x := by
       rw [← hW, ← hJ];simp [List.getD, List.getElem?_append_right]
      rw [this]
     have eT : (hsG W).set A.length (bytesG x.1) = hsG (A ++ [x] ++ (Z' ++ [x]) ++ R') := by
      rw [← hW];simp [hsG, List.set_append]
     have eZ : (hsG W).getD A.length [] = bytesG z.1 := by
      rw [hsG_at _ _ (by simp at hlen; omega)];have : W.getD A.length h0 = z := by
       rw [← hW];simp [List.getD, List.getElem?_append_right]
      rw [this]
     have hl2 : J < l.length := by simp at hlen; omega
     have cN := hN x;by_cases hx : p x = true
     · rw [hx] at cN;have cN := cN.keep2 ha;refine vq7 hst htk d0 hW hWl eS zb10 ?_;refine ⟨by omega, hl2, hl2, fun u => (cN _).mono ?_⟩;rintro g O' ⟨rfl, rfl⟩;refine vq2 hst htk ?_;refine Into.at ⟨((A, z :: Z' ++ [x]), (R', J + 1)), ⟨by simp, ?_⟩, ?_, ?_⟩ ?_ ⟨[.row u 32 [bytesG x.1]], ?_⟩ (by simp [WL, leG_self, leG_any, Qaa])
       · show A.length + (z :: Z' ++ [x]).length = J + 1
         rw [← hJ]; simp; omega
       · show J + 1 + R'.length = l.length;simp at hlen; omega
       · show A ++ R'.filter (fun h => !p h) = _
         rw [← hfil, List.filter_cons, hx]; rfl
       · show R'.length < (x :: R').length;simp
       · show _ = [a, b, GObj.row v 32 (hsG (A ++ (z :: Z' ++ [x]) ++ R'))] ++ [GObj.row u 32 [bytesG x.1]]
         rw [← hW]; simp
     · have hx : p x = false := by simpa using hx
       rw [hx] at cN;have cN := cN.keep2 ha;refine vq8 hst htk d0 hW hWl eS eT zb10 ?_;refine ⟨by omega, hl2, hl2, fun u => (cN _).mono ?_⟩;rintro g O' ⟨rfl, rfl⟩;refine vq1 (ai hst <| ai htk <| ai @hsG_len <| ai @Qbr <| ai hW <| ai hWl <| ai eZ <| ai eT <| ai @QaC <| ai @List.append_nil.{0} <| @v32) ?_;refine ⟨by omega, by omega, by omega, by omega, ?_⟩;refine Into.at ⟨((A ++ [x], Z' ++ [x]), (R', J + 1)), ⟨by simp, ?_⟩, ?_, ?_⟩ ?_ ⟨[.row u 32 [bytesG x.1]], ?_⟩ (by simp [WL, leG_self, leG_any, Qaa])
       · show (A ++ [x]).length + (Z' ++ [x]).length = J + 1
         rw [← hJ]; simp; omega
       · show J + 1 + R'.length = l.length;simp at hlen; omega
       · show A ++ [x] ++ R'.filter (fun h => !p h) = _
         rw [← hfil, List.filter_cons, hx]; simp
       · show R'.length < (x :: R').length;simp
       · rfl
def QpO (n : Nat) (K : GVal → List GObj → Prop) (g : GVal) (O' : List GObj) : Prop := (∃ g', leA g g' ∧ K g' O') ∨ ∃ t sz xs O1, g = .own O1.length t 0 xs.length ∧ O' = O1 ++ [.row t sz xs] ∧ frzLL (Gv.frz [.row t sz xs] n) xs = some xs ∧ K (.slice xs .none) O1
theorem GCalls.meltOr {P : Program} {f : FuncId} {args : List GVal} {O : List GObj} {K : GVal → List GObj → Prop} (n : Nat)
 (h : GCalls P f args O (QpO n K)) : GCalls P f args O K := by
 refine ⟨h.1, fun E w vs hs ha => (h.2 E w vs hs ha).mono ?_⟩
 rintro e w' ⟨v, E', O', g, h1, h2, h3, h4, (⟨g', hl, hk⟩ | ⟨t, sz, xs, O1, rfl, rfl, hf, hk⟩)⟩
 · exact ⟨v, E', O', g', h1, h2, h3, hl.sound h4, hk⟩
 · obtain ⟨q0, q1, q2⟩ := h2.melt;have h5 : VR E' v (.own 0 t 0 xs.length) := by
    cases h4 with
    | own a len cap o st i l hl hcap ha => exact .own a _ cap 0 t 0 l hl hcap ha
   exact ⟨v, _, O1, _, h1, q1, h3.trans q2, Qb1 q0 (n + 1) v _ _ h5 (QdA rfl rfl hf), hk⟩
theorem QjN {F : FuncId} {caps : List GVal} (X : List GObj) : GCalls Tryz.prog 95 [.slice [] .nil, .func (.func F) [] caps] X (fun g O' => g = .int .i64 (-1) ∧ O' = X) := by
 refine h95.ca ?_
 refine vq0 ?_
 refine Qab (ι := Unit) (fun _ => ⟨[.any, .any, .any, .any, .int .i64 0, .any, .any, .int .i64 0, .int .i64 0] ++ List.replicate 10 .any, X⟩) (fun _ => 0) ?_ ?_
 · exact Into.first () ⟨[], by simp⟩ (by simp [WL, leG_self, leG_any])
 · rintro ⟨⟩;refine vq0 ?_;exact fun h => absurd h (Int.lt_irrefl 0)
theorem Qfl {F : FuncId} {caps : List GVal} (X : List GObj) : GCalls Tryz.prog 76 [.slice [] .nil, .func (.func F) [] caps] X (fun g O' => g = .slice [] .nil ∧ O' = X) := by
 have cI := QjN (F := F) (caps := caps) X
 refine h76.ca ?_
 refine vq0 ?_
 refine cI.mono ?_
 rintro g O' ⟨rfl, rfl⟩
 exact vd0
theorem gThere (m : GM) (st s : Nat) (l : List Hs) (t : Tag) (ht : t = .nil → l = []) (hl : l.length ≤ 1000000) : GCalls Tryz.prog 47 [.ptr 0 st 0 0, .slice (hsG l) t] (gObj st s m) (fun g O' => g = .slice (hsG (l.filter fun h => (look m h).isSome)) .none ∧ O' = gObj st s m) := by
 have cD := fun v => Qiu (p := fun h => !(look m h).isSome) (fun h => Qnv m h st s) rfl l v hl
 simp only [Bool.not_not] at cD
 have cC := GCalls.newUp (Qfm l t (by omega) ht) (O := gObj st s m) rfl (by rintro g O' (⟨_, rfl, rfl⟩ | ⟨st, rfl, rfl⟩) <;> rfl)
 refine GCalls.meltOr 2 ?_
 refine h47.ca ?_
 refine vq1 @hsG_len ?_
 refine cC.mono ?_
 rintro g O' ⟨g0, O1, (⟨rfl, rfl, rfl⟩ | ⟨v, rfl, rfl⟩), rfl, rfl⟩
 · refine vq0 ?_;refine (Qfl _).mono ?_;rintro g O' ⟨rfl, rfl⟩;refine vq0 ?_;exact .inl ⟨.slice (hsG (List.filter (fun h => (look m h).isSome) [])) .none, by rw [Qax]; rfl, rfl, rfl⟩
 · refine vq0 ?_;refine (cD v).mono ?_;rintro g O' ⟨rfl, rfl⟩;refine vq0 ?_;exact .inr ⟨v, 32, _, gObj st s m, by rw [hsG_len]; rfl, rfl, frz_hs _ 1 _, rfl, rfl⟩
theorem QuW (ti so : Nat) (n : Int) (M O : List Hs) (j : Nat) (hj : j ≤ 1000000) (hO : O.length ≤ 1000000) : GCalls Tryz.prog 23 [.ptr 0 ti 0 0, .int .i64 (1099511627776 + (j : Int))] (idO ti so n M O) (fun g O' => g = .tuple [.agg (bytesG (O.getD j h0).1), .bool (decide (j < O.length))] ∧ O' = idO ti so n M O) := by
 have d0 : ((1099511627776 : Int) ≤ 1099511627776 + (j : Int)) = True := eq_true (by omega)
 have eV : (1099511627776 + (j : Int) - 1099511627776) = j := by omega
 have d1 : ((j : Int) < 0) = False := eq_false (by omega)
 refine GCalls.dropTo ?_
 by_cases h : j < O.length
 · have d2 : ((O.length : Int) ≤ (j : Int)) = False := eq_false (by omega);have eS := hsG_at O j h;rw [decide_eq_true h];generalize O.getD j h0 = x at *;refine h23.ca ?_;refine vq8 d0 eV d1 d2 @hsG_len eS @all_hsG @v32 ?_;exact fun sb => ⟨by omega, by omega, _, idO ti so n M O, [.row sb 32 [bytesG x.1]], rfl, leA_refl _, rfl, rfl⟩
 · have d2 : ((O.length : Int) ≤ (j : Int)) = True := eq_true (by omega);have ex : O.getD j h0 = h0 := by rw [List.getD_eq_getElem?_getD, List.getElem?_eq_none (by omega)]; rfl
   rw [decide_eq_false h, ex];refine h23.ca ?_;refine vq5 d0 eV d1 d2 @hsG_len ?_;exact fun sb => ⟨_, idO ti so n M O, [_], rfl, leA_refl _, rfl, rfl⟩
theorem QuV (ti so : Nat) (n : Int) (M O : List Hs) (j : Nat) (hj : j ≤ 1000000) (hM : M.length ≤ 1000000) : GCalls Tryz.prog 23 [.ptr 0 ti 0 0, .int .i64 (j : Int)] (idO ti so n M O) (fun g O' => g = .tuple [.agg (bytesG (M.getD j h0).1), .bool (decide (j < M.length))] ∧ O' = idO ti so n M O) := by
 have d0 : ((1099511627776 : Int) ≤ (j : Int)) = False := eq_false (by omega)
 have d1 : ((j : Int) < 0) = False := eq_false (by omega)
 refine GCalls.dropTo ?_
 by_cases h : j < M.length
 · have d2 : ((M.length : Int) ≤ (j : Int)) = False := eq_false (by omega);have eS := hsG_at M j h;rw [decide_eq_true h];generalize M.getD j h0 = x at *;refine h23.ca ?_;refine vq7 d0 d1 d2 @hsG_len eS @all_hsG @v32 ?_;exact fun sb => ⟨by omega, by omega, _, idO ti so n M O, [.row sb 32 [bytesG x.1]], rfl, leA_refl _, rfl, rfl⟩
 · have d2 : ((M.length : Int) ≤ (j : Int)) = True := eq_true (by omega);have ex : M.getD j h0 = h0 := by rw [List.getD_eq_getElem?_getD, List.getElem?_eq_none (by omega)]; rfl
   rw [decide_eq_false h, ex];refine h23.ca ?_;refine vq4 d0 d1 d2 @hsG_len ?_;exact fun sb => ⟨_, idO ti so n M O, [_], rfl, leA_refl _, rfl, rfl⟩
theorem h46w : FnS Tryz.prog 75 ⟨[22], []⟩ 27 [(.tmp 4)] s75 := .mk' Tryz.func75 (by kernel_rfl) (by kernel_rfl) (by kernel_rfl) (by kernel_rfl) (by kernel_rfl) (by kernel_rfl)
theorem iGrow (n : Nat) (hn : n ≤ 4398046511104) : GCalls Tryz.prog 75 [.slice [] .nil, .int .i64 n] [] (fun g O' => (n = 0 ∧ g = .slice [] .nil ∧ O' = []) ∨ ∃ st xs, g = .own 0 st 0 0 ∧ O' = [.row st 32 xs]) := by
 refine h46w.calls mixS (by simp) ?_
 simp only [gs0, s75, reduceAdd, reduceSub]
 have d0 : ((n : Int) < 0) = False := eq_false (by omega)
 refine vq3 d0 @false_imp_iff @true_and ?_
 refine ⟨fun h => ⟨by omega, by omega, by omega, by omega, by omega, by omega, fun y hy => by rw [(List.mem_replicate.1 hy).2]; rfl, by simp; omega, by simp; omega, .inr trivial, fun st => ⟨by omega, by omega, by omega, .inr ⟨st, _, rfl, rfl⟩⟩⟩, fun h => .inl (by omega)⟩
theorem QfY (a b : List Hs) (ta tb tt : Tag) (hl : a.length + b.length ≤ 4398046511104) : GPure Tryz.prog 40 [.slice [[.slice (hsG a) ta], [.slice (hsG b) tb]] tt] (.slice (hsG (a ++ b)) .none) := by
 refine h40.pf ?_
 refine vq0 ?_
 refine Qab (ι := { p : Nat × Nat // (p.1 = 0 ∧ p.2 = 0) ∨ (p.1 = 1 ∧ p.2 = a.length) ∨ (p.1 = 2 ∧ p.2 = a.length + b.length) }) (fun p => ⟨[.slice [[.slice (hsG a) ta], [.slice (hsG b) tb]] tt, .any, .any, .int .i64 (p.1.2 : Nat), .any, .any, .any, .any, .any, .slice [[.slice (hsG a) ta], [.slice (hsG b) tb]] tt, .int .i64 2, .int .i64 (p.1.1 : Nat)] ++ List.replicate 24 .any, []⟩) (fun p => 2 - p.1.1) ?_ ?_
 · exact Into.first ⟨(0, 0), .inl ⟨rfl, rfl⟩⟩ ⟨[], by simp⟩ (by simp [WL, leG_self, leG_any])
 · rintro ⟨⟨k, n⟩, hk⟩;simp only [] at hk;rcases hk with ⟨rfl, rfl⟩ | ⟨rfl, rfl⟩ | ⟨rfl, rfl⟩
   · have d1 : ((0 : Int) + a.length < 0) = False := eq_false (by omega);simp +contextual -implicitDefEqProofs (maxSteps := 2000000) (disch := omega) only [↓lenV, binV, optV, ↓QaH, ↓Qac, ↓Qao, ↓QaO, ↓Qal, ↓srcV, QaG, Qaq, Qbe, GVal.cells, GVal.ofConst, ↓resV, resG, ↓reduceIte, reduceEqDiff, reduceAdd, reduceSub, reduceLeDiff, reduceCtorEq, ↓QaY, Tag.cap, GVal.solid, Nat.reduceBEq, reduceMul, reduceLT, vcA, ↓vcB, vcC, fbFy, hsG_len, Int.reduceLT, Int.reduceLE, Int.reduceToNat, true_imp_iff, false_imp_iff, d1, vcD]
     exact Into.at ⟨(1, a.length), .inr (.inl ⟨rfl, rfl⟩)⟩ (by show _ < _; simp) ⟨[], by simp⟩ (by simp [WL, leG_self, leG_any, Qaa])
   · have d1 : ((a.length : Int) + b.length < 0) = False := eq_false (by omega);simp +contextual -implicitDefEqProofs (maxSteps := 2000000) (disch := omega) only [↓lenV, binV, optV, ↓QaH, ↓Qac, ↓Qao, ↓QaO, ↓Qal, ↓srcV, QaG, Qaq, Qbe, GVal.cells, GVal.ofConst, ↓resV, resG, ↓reduceIte, reduceEqDiff, reduceAdd, reduceSub, reduceLeDiff, reduceCtorEq, ↓QaY, Tag.cap, GVal.solid, Nat.reduceBEq, reduceMul, reduceLT, vcA, ↓vcB, vcC, fbFy, hsG_len, Int.reduceLT, Int.reduceLE, Int.reduceToNat, true_imp_iff, false_imp_iff, d1, vcD]
     exact Into.at ⟨(2, a.length + b.length), .inr (.inr ⟨rfl, rfl⟩)⟩ (by show _ < _; simp) ⟨[], by simp⟩ (by simp [WL, leG_self, leG_any, Qaa])
   · simp +contextual -implicitDefEqProofs (maxSteps := 2000000) (disch := omega) only [↓lenV, binV, optV, ↓QaH, ↓Qac, ↓Qao, ↓QaO, ↓Qal, ↓srcV, QaG, Qaq, Qbe, GVal.cells, GVal.ofConst, ↓resV, resG, ↓reduceIte, reduceEqDiff, reduceAdd, reduceSub, reduceLeDiff, reduceCtorEq, ↓QaY, Tag.cap, GVal.solid, Nat.reduceBEq, reduceMul, reduceLT, vcA, ↓vcB, vcC, fbFy, hsG_len, Int.reduceLT, Int.reduceLE, Int.reduceToNat, true_imp_iff, false_imp_iff, vcD]
     have hg := iGrow (a.length + b.length) hl;rw [Int.natCast_add] at hg;refine hg.mono ?_;clear hg;rintro g O' hg;refine vq0 ?_;refine Qab (ι := { p : Nat × List Hs × Nat × List (List GVal) // (p.1 = 0 ∧ p.2.1 = []) ∨ (p.1 = 1 ∧ p.2.1 = a ∧ p.2.2.2 = hsG a) ∨ (p.1 = 2 ∧ p.2.1 = a ++ b ∧ p.2.2.2 = hsG (a ++ b)) }) (fun p => ⟨[.any, .any, .any, .any, .any, .any, .own 0 p.1.2.2.1 0 p.1.2.1.length] ++ List.replicate 18 .any ++ [.slice [[.slice (hsG a) ta], [.slice (hsG b) tb]] tt, .int .i64 2, .int .i64 (p.1.1 : Nat)] ++ List.replicate 8 .any, [.row p.1.2.2.1 32 p.1.2.2.2]⟩) (fun p => 2 - p.1.1) ?_ ?_
     · rcases hg with ⟨_, rfl, rfl⟩ | ⟨st, xs, rfl, rfl⟩
       · refine Into.row 6 32 rfl rfl ?_;refine vq0 ?_;intro t0;exact Into.first ⟨(0, [], t0, []), .inl ⟨rfl, rfl⟩⟩ ⟨[], by simp⟩ (by simp [WL, leG_self, leG_any])
       · exact Into.first ⟨(0, [], st, xs), .inl ⟨rfl, rfl⟩⟩ ⟨[], by simp⟩ (by simp [WL, leG_self, leG_any])
     · rintro ⟨⟨k, L, v, xs⟩, hk⟩;simp only [] at hk;rcases hk with ⟨rfl, rfl⟩ | ⟨rfl, rfl, rfl⟩ | ⟨rfl, rfl, rfl⟩
       · simp +contextual -implicitDefEqProofs (maxSteps := 2000000) (disch := omega) only [↓lenV, binV, optV, ↓QaH, ↓Qac, ↓Qao, ↓QaO, ↓Qal, ↓srcV, QaG, Qaq, Qbe, GVal.cells, GVal.ofConst, ↓resV, resG, ↓reduceIte, reduceEqDiff, reduceAdd, reduceSub, reduceLeDiff, reduceCtorEq, ↓QaY, Tag.cap, GVal.solid, Nat.reduceBEq, reduceMul, reduceLT, vcA, ↓vcB, vcC, fbFy, hsG_len, Int.reduceLT, Int.reduceLE, Int.reduceToNat, true_imp_iff, false_imp_iff, all_hsG, vcD]
         exact ⟨by omega, by omega, by omega, fun st => Into.at ⟨(1, a, st, hsG a), .inr (.inl ⟨rfl, rfl, rfl⟩)⟩ (by show _ < _; simp) ⟨[], by simp⟩ (by simp [WL, leG_self, leG_any, Qaa])⟩
       · simp +contextual -implicitDefEqProofs (maxSteps := 2000000) (disch := omega) only [↓lenV, binV, optV, ↓QaH, ↓Qac, ↓Qao, ↓QaO, ↓Qal, ↓srcV, QaG, Qaq, Qbe, GVal.cells, GVal.ofConst, ↓resV, resG, ↓reduceIte, reduceEqDiff, reduceAdd, reduceSub, reduceLeDiff, reduceCtorEq, ↓QaY, Tag.cap, GVal.solid, Nat.reduceBEq, reduceMul, reduceLT, vcA, ↓vcB, vcC, fbFy, hsG_len, Int.reduceLT, Int.reduceLE, Int.reduceToNat, true_imp_iff, false_imp_iff, all_hsG, vcD]
         exact ⟨by omega, by omega, by omega, fun st => Into.at ⟨(2, L ++ b, st, hsG (L ++ b)), .inr (.inr ⟨rfl, rfl, rfl⟩)⟩ (by show _ < _; simp) ⟨[], by rw [List.take_of_length_le (by rw [hsG_len]; exact Nat.le_refl _), hsG_app]; simp⟩ (by simp [WL, leG_self, leG_any, Qaa])⟩
       · simp +contextual -implicitDefEqProofs (maxSteps := 2000000) (disch := omega) only [↓lenV, binV, optV, ↓QaH, ↓Qac, ↓Qao, ↓QaO, ↓Qal, ↓srcV, QaG, Qaq, Qbe, GVal.cells, GVal.ofConst, ↓resV, resG, ↓reduceIte, reduceEqDiff, reduceAdd, reduceSub, reduceLeDiff, reduceCtorEq, ↓QaY, Tag.cap, GVal.solid, Nat.reduceBEq, reduceMul, reduceLT, vcA, ↓vcB, vcC, fbFy, hsG_len, Int.reduceLT, Int.reduceLE, Int.reduceToNat, true_imp_iff, false_imp_iff, vcD]
         exact ⟨4, .slice (hsG (a ++ b)) .none, QdA rfl (hsG_len _).symm (frz_hs _ 2 _), by rw [Qax]⟩
theorem Qo9 (a b : GObj) (S : List Hs) (h : Hs) (s sb : Nat) : GCalls Tryz.prog 77 [.agg (bytesG h.1), .ptr 1 sb 0 0] [.map s (kvG encB (setM S)), .row sb 1 [[.map 0 s]]] (fun g O' => g = .bool (decide (h ∈ S)) ∧ O' = [.map s (kvG encB (setM S)), .row sb 1 [[.map 0 s]]]) := by
 by_cases hx : h ∈ S
 · obtain ⟨i, hi, hv, _⟩ := look_idx encB (setM S) h true (by rw [QaL, if_pos hx]);rw [decide_eq_true hx];refine h77.ca ?_;exact vd4 @kfind_h hi hv @v32
 · obtain ⟨hi, _⟩ := look_none encB (setM S) h (by rw [QaL, if_neg hx]);rw [decide_eq_false hx];refine h77.ca ?_;exact vd3 @kfind_h hi @v32
def QdV (S : List Hs) (h : Hs) : List Hs := if h ∈ S then S else S ++ [h]
def Qb5 (l : List Hs) : List Hs := l.foldl QdV []
theorem Qjv (S : List Hs) (h x : Hs) : x ∈ QdV S h ↔ x ∈ S ∨ x = h := by
 unfold QdV
 split
 · rename_i hm;exact ⟨.inl, fun q => q.elim id fun e => e ▸ hm⟩
 · simp
theorem QeT : ∀ (l S : List Hs) (x : Hs), x ∈ l.foldl QdV S ↔ x ∈ S ∨ x ∈ l
 | [], S, x => by simp
 | a :: r, S, x => by rw [List.foldl_cons, QeT r, Qjv]; simp [or_assoc]
theorem Qjw (l : List Hs) (x : Hs) : x ∈ Qb5 l ↔ x ∈ l := by rw [Qb5, QeT]; simp
theorem Qh7 (l : List Hs) (h : Hs) : Qb5 (l ++ [h]) = QdV (Qb5 l) h := by simp [Qb5]
theorem QkR : ∀ {S : List Hs} {h : Hs}, h ∈ S → mset (setM S) h true = setM S
 | [], h, hm => by cases hm
 | a :: r, h, hm => by
  rw [show setM (a :: r) = (a, true) :: setM r from rfl, mset];by_cases e : h = a
  · rw [if_pos e, e]
  · rw [if_neg e, QkR ((List.mem_cons.1 hm).resolve_left e)]
theorem QmI (S : List Hs) (h : Hs) : mset (setM S) h true = setM (QdV S h) := by
 unfold QdV
 split
 · exact QkR (by assumption)
 · exact Qdp S h (by assumption)
def woL (l gone : List Hs) : List Hs := l.filter fun h => !decide (h ∈ gone)
theorem Qix (l gone : List Hs) (hl : l.length ≤ 1000000) (hg : gone.length ≤ 1000000) : GPure Tryz.prog 41 [.slice (hsG l) .none, .slice (hsG gone) .none] (.slice (hsG (woL l gone)) .none) := by
 refine GCalls.dropTo (GCalls.meltOr 2 ?_)
 have eW : woL l gone = l.filter fun h => !decide (h ∈ Qb5 gone) := List.filter_congr fun h _ => by rw [decide_eq_decide.2 (Qjw gone h)]
 rw [eW]
 refine h41.ca ?_
 refine vq0 ?_
 intro s
 refine ⟨rfl, fun sb => ?_⟩
 have cD := fun v => Qiu (caps := [.ptr 1 sb 0 0]) (fun h => decide (h ∈ Qb5 gone)) (fun h => Qo9 .dead .dead (Qb5 gone) h s sb) rfl l v hl
 have cC := GCalls.newUp (Qfm l .none (by omega) (by simp)) (O := [.map s (kvG encB (setM (Qb5 gone))), .row sb 1 [[.map 0 s]]]) rfl (by rintro g O' (⟨_, rfl, rfl⟩ | ⟨st, rfl, rfl⟩) <;> rfl)
 refine Qab (ι := { k : Nat // k ≤ gone.length }) (fun k => ⟨[.slice (hsG l) .none, .slice (hsG gone) .none, .any, .any, .any, .ptr 1 sb 0 0, .any, .any, .any, .slice (hsG gone) .none, .int .i64 gone.length, .int .i64 (k.1 : Nat)] ++ List.replicate 10 .any, [.map s (kvG encB (setM (Qb5 (gone.take k.1)))), .row sb 1 [[.map 0 s]]]⟩) (fun k => gone.length - k.1) ?_ ?_
 · exact Into.first ⟨0, Nat.zero_le _⟩ ⟨[], by simp [kvG, Qb5]⟩ (by simp [WL, leG_self, leG_any, hsG_len])
 · rintro ⟨k, hk⟩
   change k ≤ gone.length at hk
   by_cases h : k < gone.length
   · have d0 : ((k : Int) < (gone.length : Int)) = True := eq_true (by omega);have eS := hsG_at gone k h;have eT : Qb5 (gone.take (k + 1)) = QdV (Qb5 (gone.take k)) (gone.getD k h0) := by rw [takeH h, Qh7]
     clear cD cC eW;generalize gone.getD k h0 = x at *;generalize Qb5 (gone.take k) = S at *;have em := QmI S x
     rw [← eT] at em;by_cases hx : x ∈ S
     · obtain ⟨i, hi, hv, hw⟩ := look_idx encB (setM S) x true (by rw [QaL, if_pos hx]);have hw := hw true;rw [em] at hw;refine vq9 d0 eS @hsG_len @all_hsG @kfind_h hi hv hw @v32 ?_;refine ⟨by omega, fun sc => ?_⟩;exact Into.at ⟨k + 1, h⟩ (by show _ < _; simp; omega) ⟨[.row sc 32 [bytesG x.1]], by simp⟩ (by simp [WL, leG_self, leG_any, Qaa])
     · obtain ⟨hi, hw⟩ := look_none encB (setM S) x (by rw [QaL, if_neg hx]);have hw := hw true;rw [em] at hw;refine vq8 d0 eS @hsG_len @all_hsG @kfind_h hi hw @v32 ?_;refine ⟨by omega, fun sc => ?_⟩;exact Into.at ⟨k + 1, h⟩ (by show _ < _; simp; omega) ⟨[.row sc 32 [bytesG x.1]], by simp⟩ (by simp [WL, leG_self, leG_any, Qaa])
   · have d0 : ((k : Int) < (gone.length : Int)) = False := eq_false (by omega);rw [List.take_of_length_le (show gone.length ≤ k by omega)];refine vq1 d0 ?_;refine cC.mono ?_;rintro g O' ⟨g0, O1, (⟨rfl, rfl, rfl⟩ | ⟨v, rfl, rfl⟩), rfl, rfl⟩
     · refine vq0 ?_;refine (Qfl _).mono ?_;rintro g O' ⟨rfl, rfl⟩;refine vq0 ?_;exact .inl ⟨.slice [] .nil, leA_refl _, .slice [] .none, [], _, rfl, by rw [Qax], rfl, rfl⟩
     · refine vq0 ?_;refine (cD v).mono ?_;rintro g O' ⟨rfl, rfl⟩;refine vq0 ?_;exact .inr ⟨v, 32, _, [.map s (kvG encB (setM (Qb5 gone))), .row sb 1 [[.map 0 s]]], by rw [hsG_len]; rfl, rfl, frz_hs _ 1 _, _, [], _, rfl, leA_refl _, rfl, rfl⟩
abbrev Qb3 (y1 y2 : GObj) (st s : Nat) (m : GM) (sq sw sv so n : Nat) (dg : GVal) (K Z : List Cm) (S out : List Hs) : List GObj :=
 [.row st 1 [[.map 1 s]], .map s (kvG encL m), y1, y2, .map sq (kvG encB (setM S)), .row sw 5 [[.ptr 0 st 0 0, dg, .map 4 sq, .own 6 sv 0 n, .slice (hsG out) (.tok 7 so)]], .row sv 33 (csG (K ++ Z)), .tok so 32]
abbrev Qkf (y1 y2 : GObj) (st s : Nat) (m : GM) (F : FuncId) (pre caps : List GVal) (h : Hs) (b : Bool) : Prop := ∀ X : List GObj, GCalls Tryz.prog F (pre ++ [.agg (bytesG h.1)] ++ caps) (.row st 1 [[.map 1 s]] :: .map s (kvG encL m) :: y1 :: y2 :: X) (fun g O' => g = .bool b ∧ O' = .row st 1 [[.map 1 s]] :: .map s (kvG encL m) :: y1 :: y2 :: X)
def zb7 := ai @Qb8 <| ai @Qb9 <| ai @Qcq <| ai @Qbn <| ai @Qbo <| ai @QcD <| ai @kfind_h <| @v32
theorem Qo1 (y1 y2 : GObj) (m : GM) (hm : GMOK m) (h : Hs) (st s sq sw sv so n : Nat) (dg : GVal) (K Z : List Cm) (S out : List Hs) (hl : look m h = none) (hn : n = K.length) :
 GCalls Tryz.prog 73 [.ptr 5 sw 0 0, .agg (bytesG h.1)] (Qb3 y1 y2 st s m sq sw sv so n dg K Z S out) (fun g O' => g = .tuple [] ∧ O' = Qb3 y1 y2 st s m sq sw sv so n dg K Z S out) := by
 subst hn
 have c := fun X => QmD m h st s (by have := hm.pars h; omega) X
 simp only [hl, Option.isSome_none] at c
 refine h73.ca ?_
 refine vq1 @v32 ?_
 refine (c _).mono ?_
 rintro g O' ⟨rfl, rfl⟩
 exact vd1 zb7
theorem Qo2 (y1 y2 : GObj) (m : GM) (hm : GMOK m) (h : Hs) (st s sq sw sv so n : Nat) (dg : GVal) (K Z : List Cm) (S out : List Hs) (l : List Hs) (hl : look m h = some l) (hS : h ∈ S) (hn : n = K.length) :
 GCalls Tryz.prog 73 [.ptr 5 sw 0 0, .agg (bytesG h.1)] (Qb3 y1 y2 st s m sq sw sv so n dg K Z S out) (fun g O' => g = .tuple [] ∧ O' = Qb3 y1 y2 st s m sq sw sv so n dg K Z S out) := by
 subst hn
 have c := fun X => QmD m h st s (by have := hm.pars h; omega) X
 simp only [hl, Option.isSome_some, parsM_some hl] at c
 obtain ⟨i, hi, hv, _⟩ := look_idx encB (setM S) h true (by rw [QaL, if_pos hS])
 refine h73.ca ?_
 refine vq1 @v32 ?_
 refine (c _).mono ?_
 rintro g O' ⟨rfl, rfl⟩
 exact vd3 hi hv zb7
theorem Qo3 (y1 y2 : GObj) (m : GM) (hm : GMOK m) (h : Hs) (st s sq sw sv so n : Nat) (F : FuncId) (pre caps : List GVal) (K Z : List Cm) (S out : List Hs) (l : List Hs) (hl : look m h = some l) (hS : h ∉ S) (hF : Qkf y1 y2 st s m F pre caps h true) (hn : n = K.length) :
 GCalls Tryz.prog 73 [.ptr 5 sw 0 0, .agg (bytesG h.1)] (Qb3 y1 y2 st s m sq sw sv so n (.func (.func F) pre caps) K Z S out) (fun g O' => g = .tuple [] ∧ O' = Qb3 y1 y2 st s m sq sw sv so n (.func (.func F) pre caps) K Z S out) := by
 subst hn
 have c := fun X => QmD m h st s (by have := hm.pars h; omega) X
 simp only [hl, Option.isSome_some, parsM_some hl] at c
 obtain ⟨hi, hw⟩ := look_none encB (setM S) h (by rw [QaL, if_neg hS])
 have hw := hw true
 rw [Qdp S h hS] at hw
 refine h73.ca ?_
 refine vq1 @v32 ?_
 refine (c _).mono ?_
 rintro g O' ⟨rfl, rfl⟩
 refine vq3 hi hw zb7 ?_
 refine (hF _).mono ?_
 rintro g O' ⟨rfl, rfl⟩
 exact vd1 (ai @Qb8 <| ai @Qb9 <| ai @Qcq <| ai @Qbn <| ai @Qbo <| ai @QcD <| ai @kfind_h <| ai @Qae <| ai @Qa7 <| ai hi <| ai hw <| ai @v33 <| @v32)
theorem Qo4 (y1 y2 : GObj) (m : GM) (hm : GMOK m) (h : Hs) (st s sq sw sv so n : Nat) (F : FuncId) (pre caps : List GVal) (K Z : List Cm) (S out : List Hs) (l : List Hs) (hl : look m h = some l) (hS : h ∉ S) (hF : Qkf y1 y2 st s m F pre caps h false) (hK : K.length ≤ 1000000) (hn : n = K.length) :
 GCalls Tryz.prog 73 [.ptr 5 sw 0 0, .agg (bytesG h.1)] (Qb3 y1 y2 st s m sq sw sv so n (.func (.func F) pre caps) K Z S out) (fun g O' => ∃ sv', g = .tuple [] ∧ O' = Qb3 y1 y2 st s m sq sw sv' so (n + 1) (.func (.func F) pre caps) (K ++ [(h, l)]) [] (S ++ [h]) out) := by
 subst hn
 have c := fun X => QmD m h st s (by have := hm.pars h; omega) X
 simp only [hl, Option.isSome_some, parsM_some hl] at c
 obtain ⟨hi, hw⟩ := look_none encB (setM S) h (by rw [QaL, if_neg hS])
 have hw := hw true
 rw [Qdp S h hS] at hw
 refine h73.ca ?_
 refine vq1 @v32 ?_
 refine (c _).mono ?_
 rintro g O' ⟨rfl, rfl⟩
 refine vq3 hi hw zb7 ?_
 refine (hF _).mono ?_
 rintro g O' ⟨rfl, rfl⟩
 refine vq1 (ai @Qb8 <| ai @Qb9 <| ai @Qcq <| ai @Qbn <| ai @Qbo <| ai @QcD <| ai @kfind_h <| ai @Qae <| ai @Qa7 <| ai hi <| ai hw <| ai @v33 <| @v32) ?_
 refine ⟨by simp, by omega, by omega, fun v => ⟨v, ?_⟩⟩
 rw [QmE]
 simp [Qbg, Qo5, comG]
theorem Qng (y1 y2 : GObj) (m : GM) (hm : GMOK m) (h : Hs) (st s sq sw sv so n : Nat) (F : FuncId) (pre caps : List GVal) (dn : Hs → Bool) (hd : ∀ h, Qkf y1 y2 st s m F pre caps h (dn h)) (K Z : List Cm) (S out : List Hs) (hK : K.length ≤ 1000000) (hn : n = K.length) :
 GCalls Tryz.prog 73 [.ptr 5 sw 0 0, .agg (bytesG h.1)] (Qb3 y1 y2 st s m sq sw sv so n (.func (.func F) pre caps) K Z S out) (fun g O' => ∃ sv' Z', g = .tuple [] ∧ O' = if QaP m dn S h = true then Qb3 y1 y2 st s m sq sw sv' so (n + 1) (.func (.func F) pre caps) (K ++ [(h, parsM m h)]) Z' (S ++ [h]) out else Qb3 y1 y2 st s m sq sw sv' so n (.func (.func F) pre caps) K Z' S out) := by
 have stay : QaP m dn S h = false → GCalls Tryz.prog 73 [.ptr 5 sw 0 0, .agg (bytesG h.1)] (Qb3 y1 y2 st s m sq sw sv so n (.func (.func F) pre caps) K Z S out) (fun g O' => g = .tuple [] ∧ O' = Qb3 y1 y2 st s m sq sw sv so n (.func (.func F) pre caps) K Z S out) →
  GCalls Tryz.prog 73 [.ptr 5 sw 0 0, .agg (bytesG h.1)] (Qb3 y1 y2 st s m sq sw sv so n (.func (.func F) pre caps) K Z S out) (fun g O' => ∃ sv' Z', g = .tuple [] ∧ O' = if QaP m dn S h = true then Qb3 y1 y2 st s m sq sw sv' so (n + 1) (.func (.func F) pre caps) (K ++ [(h, parsM m h)]) Z' (S ++ [h]) out else Qb3 y1 y2 st s m sq sw sv' so n (.func (.func F) pre caps) K Z' S out) := fun hp hc => by
  rw [hp];refine hc.mono ?_;rintro g O' ⟨rfl, rfl⟩;exact ⟨sv, Z, rfl, by rw [if_neg (by simp)]⟩
 cases hl : look m h with
 | none => exact stay (by unfold QaP; rw [hl]; rfl) (Qo1 y1 y2 m hm h st s sq sw sv so n (.func (.func F) pre caps) K Z S out hl hn)
 | some l =>
  rw [parsM_some hl];rw [parsM_some hl] at stay;by_cases hS : h ∈ S
  · exact stay (by unfold QaP; rw [hl]; simp [hS]) (Qo2 y1 y2 m hm h st s sq sw sv so n (.func (.func F) pre caps) K Z S out l hl hS hn)
  · have hF := hd h;cases hb : dn h with
    | true =>
     rw [hb] at hF;exact stay (by unfold QaP; rw [hl, hb]; simp) (Qo3 y1 y2 m hm h st s sq sw sv so n F pre caps K Z S out l hl hS hF hn)
    | false =>
     rw [hb] at hF;have hp : QaP m dn S h = true := by unfold QaP; rw [hl, hb]; simp [hS]
     rw [hp];refine (Qo4 y1 y2 m hm h st s sq sw sv so n F pre caps K Z S out l hl hS hF hK hn).mono ?_;rintro g O' ⟨sv', rfl, rfl⟩;exact ⟨sv', [], rfl, by rw [if_pos rfl]⟩
theorem QnW (y1 y2 : GObj) (m : GM) (hm : GMOK m) (st s sq sw sv so n : Nat) (F : FuncId) (pre caps : List GVal) (dn : Hs → Bool) (hd : ∀ h, Qkf y1 y2 st s m F pre caps h (dn h)) (K Z : List Cm) (x p : Hs) (r S out : List Hs) (hK : K.length ≤ 999999) (hn : n = K.length) :
 GCalls Tryz.prog 74 [.ptr 5 sw 0 0] (Qb3 y1 y2 st s m sq sw sv so (n + 1) (.func (.func F) pre caps) (K ++ [(x, p :: r)]) Z S out) (fun g O' => ∃ sv' Z', g = .tuple [] ∧ O' = if QaP m dn S p = true then Qb3 y1 y2 st s m sq sw sv' so (n + 2) (.func (.func F) pre caps) (K ++ [(x, r)] ++ [(p, parsM m p)]) Z' (S ++ [p]) out else Qb3 y1 y2 st s m sq sw sv' so (n + 1) (.func (.func F) pre caps) (K ++ [(x, r)]) Z' S out) := by
 subst hn
 have eS : (csG (K ++ [(x, p :: r)] ++ Z)).getD K.length [] = bytesG x.1 ++ [.slice (hsG (p :: r)) .none] := by
  rw [Qa0 _ _ (by simp)];simp [List.getD, comG]
 have d1 : ((K.length : Int) + 1 - 1).toNat = K.length := by omega
 have eH : (hsG (p :: r)).getD 0 [] = bytesG p.1 := rfl
 have d2 : ((0 : Int) < (r.length : Int) + 1) = True := eq_true (by omega)
 have eD : List.drop (Int.toNat 1) (List.take ((r.length : Int) + 1).toNat (hsG (p :: r))) = hsG r := by
  have e : ((r.length : Int) + 1).toNat = (hsG (p :: r)).length := by rw [hsG_len]; simp
  rw [e, List.take_length]; rfl
 have eW : (csG (K ++ [(x, p :: r)] ++ Z)).set K.length (bytesG x.1 ++ [.slice (hsG r) .none]) = csG (K ++ [(x, r)] ++ Z) := by
  rw [Qbg, Qbg, Qbg, Qbg, List.append_assoc, List.set_append_right _ _ (by rw [Qae]; omega), Qae, Nat.sub_self, List.append_assoc];rfl
 have cP := Qng y1 y2 m hm p st s sq sw sv so (K.length + 1) F pre caps dn hd (K ++ [(x, r)]) Z S out (by simp; omega) (by simp)
 refine GCalls.dropTo ?_
 refine h74.ca ?_
 refine vq1 (ai @kfind_h <| ai @Qae <| ai @Qa7 <| ai eS <| ai eH <| ai d1 <| ai d2 <| ai eD <| ai eW <| ai @all_hsG <| ai @Qbr <| ai @Qb8 <| ai @Qb9 <| ai @Qcq <| ai @Qbn <| ai @Qbo <| ai @QcD <| ai @true_imp_iff <| ai @Nat.sub_zero <| ai @List.drop_zero.{0} <| ai @hsG_len <| ai @List.length_append.{0} <| ai @List.length_cons.{0} <| ai @List.length_nil.{0} <| ai @List.length_singleton.{0} <| ai @v33 <| @v32) ?_
 refine ⟨by omega, by omega, by omega, by omega, by omega, by omega, fun u => ⟨by omega, by omega, by omega, by omega, by omega, ?_⟩⟩
 refine (GCalls.tail cP (by rintro g O' ⟨_, _, rfl, rfl⟩; split <;> exact ⟨rfl, by simp⟩) rfl (by simp) [.row u 32 [bytesG p.1]]).mono ?_
 rintro g O' ⟨_, ⟨sv', Z', rfl, rfl⟩, rfl⟩
 refine vq0 ?_
 exact ⟨_, _, _, rfl, leA_refl _, sv', Z', rfl, rfl⟩
theorem QnV (y1 y2 : GObj) (m : GM) (st s sq sw sv so n : Nat) (dg : GVal) (K Z : List Cm) (x : Hs) (S out : List Hs) (hK : K.length ≤ 999999) (ho : out.length ≤ 1000000) (hn : n = K.length) :
 GCalls Tryz.prog 74 [.ptr 5 sw 0 0] (Qb3 y1 y2 st s m sq sw sv so (n + 1) dg (K ++ [(x, [])]) Z S out) (fun g O' => ∃ so', g = .tuple [] ∧ O' = Qb3 y1 y2 st s m sq sw sv so' n dg K ((x, []) :: Z) S (out ++ [x])) := by
 subst hn
 have eS : (csG (K ++ [(x, [])] ++ Z)).getD K.length [] = bytesG x.1 ++ [.slice (hsG []) .none] := by
  rw [Qa0 _ _ (by simp)];simp [List.getD, comG]
 have d1 : ((K.length : Int) + 1 - 1).toNat = K.length := by omega
 refine h74.ca ?_
 refine vq1 (ai @kfind_h <| ai @Qae <| ai @Qa7 <| ai eS <| ai d1 <| ai @Qbr <| ai @Qb8 <| ai @Qb9 <| ai @Qcq <| ai @Qbn <| ai @Qbo <| ai @QcD <| ai @Int.lt_irrefl <| ai @false_imp_iff <| ai @true_and <| ai @Nat.sub_zero <| ai @List.drop_zero.{0} <| ai @hsG_len <| ai @all_hsG <| ai @List.length_append.{0} <| ai @List.length_cons.{0} <| ai @List.length_nil.{0} <| ai @List.length_singleton.{0} <| ai @v33 <| @v32) ?_
 refine ⟨by omega, by omega, by omega, by omega, by omega, by omega, by omega, fun so' => ⟨by omega, by omega, by omega, so', ?_⟩⟩
 simp [hsG_app, hsG]
def zb8 := ai @Qb8 <| ai @Qb9 <| ai @Qcq <| ai @Qbn <| ai @Qbo <| ai @QcD <| @v32
def zb9 := ai @Qb8 <| ai @Qb9 <| ai @Qcq <| ai @Qbn <| ai @Qbo <| ai @QcD <| ai @List.length_append.{0} <| ai @List.length_cons.{0} <| ai @List.length_nil.{0} <| ai @List.length_singleton.{0} <| @v32
theorem Qnf (y1 y2 : GObj) (m : GM) (hm : GMOK m) (hs : List Hs) (th : Tag) (st s : Nat) (F : FuncId) (pre caps : List GVal) (dn : Hs → Bool) (hF : ∀ h : Hs, Qkf y1 y2 st s m F pre caps h (dn h)) (T : WSt) (hT : VisL m dn hs ([], []) T) (hl : hs.length ≤ 1000000) :
 GCalls Tryz.prog 38 [.ptr 0 st 0 0, .slice (hsG hs) th, (.func (.func F) pre caps)] (gObj st s m ++ [y1, y2]) (fun g O' => g = .slice (hsG T.2) .none ∧ O' = gObj st s m ++ [y1, y2]) := by
 have hml := hm.len
 have hd := hF
 refine GCalls.dropTo ?_
 refine h38.ca ?_
 refine vq1 @hsG_len ?_
 refine fun sq => ⟨⟨rfl, rfl, rfl⟩, fun sw => ?_⟩
 refine Qab (ι := { p : ((Nat × List Cm) × (List Hs × List Hs)) × (Nat × Nat) // p.1.1.1 ≤ hs.length ∧ VisL m dn (hs.drop p.1.1.1) p.1.2 T ∧ SInv m p.1.2.1 p.1.2.2 0 }) (fun p => ⟨[.ptr 0 st 0 0, .slice (hsG hs) th, (.func (.func F) pre caps)] ++ List.replicate 4 .any ++ [.ptr 5 sw 0 0] ++ List.replicate 9 .any ++ [.slice (hsG hs) th, .int .i64 hs.length, .int .i64 (p.1.1.1.1 : Nat)] ++ List.replicate 19 .any, Qb3 y1 y2 st s m sq sw p.1.2.1 p.1.2.2 0 (.func (.func F) pre caps) [] p.1.1.1.2 p.1.1.2.1 p.1.1.2.2⟩) (fun p => hs.length - p.1.1.1.1) ?_ ?_
 · refine Into.cellRow 5 3 33 rfl rfl rfl rfl ?_;refine vq0 ?_;intro sv;refine Into.cellTok 5 4 32 [] rfl rfl rfl rfl ?_;refine vq0 ?_;intro so;exact Into.first ⟨(((0, []), ([], [])), (sv, so)), by show 0 ≤ _; omega, by simpa using hT, ⟨List.nodup_nil, by simp, by simp⟩⟩ ⟨[], rfl⟩ (by simp [WL, leG_self, leG_any, hsG_len])
 · rintro ⟨⟨⟨⟨k, Z⟩, ⟨S, out⟩⟩, ⟨sv, so⟩⟩, hk, hV, hI⟩
   change k ≤ hs.length at hk
   change VisL m dn (hs.drop k) (S, out) T at hV
   change SInv m S out 0 at hI
   have hSm := hI.le;have hOl := hI.len;by_cases h : k < hs.length
   · have d0 : ((k : Int) < (hs.length : Int)) = True := eq_true (by omega);have eS := hsG_at hs k h;rw [Qi4 h] at hV;generalize hs.getD k h0 = x at *;have cP := Qng y1 y2 m hm x st s sq sw sv so 0 F pre caps dn hd [] Z S out (by simp) rfl;refine vq10 @Qb8 @Qb9 @Qcq @Qbn @Qbo @QcD @hsG_len d0 eS @v32 ?_;refine ⟨by omega, fun u => ?_⟩;refine (GCalls.tail cP (by rintro g O' ⟨_, _, rfl, rfl⟩; split <;> exact ⟨rfl, by simp⟩) rfl (by simp) [.row u 32 [bytesG x.1]]).mono ?_;rintro g O' ⟨_, ⟨sv2, Z2, rfl, rfl⟩, rfl⟩;have hT1 : ∃ T1, VisL m dn (hs.drop (k + 1)) T1 T ∧ (if QaP m dn S x = true then FinS m dn [(x, parsM m x)] (S ++ [x], out) T1 else T1 = (S, out)) := by
      cases hp : QaP m dn S x with
      | false => exact ⟨_, hV.inv_skip hp, by rw [if_neg (by simp)]⟩
      | true =>
       obtain ⟨so1, hV1, hV2⟩ := hV.inv_go hp;exact ⟨_, hV2, by rw [if_pos rfl]; exact ⟨so1, hV1, rfl⟩⟩
     obtain ⟨T1, hV2, hF⟩ := hT1;refine vq1 zb8 ?_;refine Qab (ι := { p : ((List Cm × List Cm) × (List Hs × List Hs)) × (Nat × Nat) // FinS m dn p.1.1.1.reverse p.1.2 T1 ∧ SInv m p.1.2.1 p.1.2.2 p.1.1.1.length }) (fun p => ⟨[.ptr 0 st 0 0, .slice (hsG hs) th, (.func (.func F) pre caps)] ++ List.replicate 4 .any ++ [.ptr 5 sw 0 0] ++ List.replicate 9 .any ++ [.slice (hsG hs) th, .int .i64 hs.length, .int .i64 (k : Nat)] ++ List.replicate 19 .any, Qb3 y1 y2 st s m sq sw p.1.2.1 p.1.2.2 p.1.1.1.1.length (.func (.func F) pre caps) p.1.1.1.1 p.1.1.1.2 p.1.1.2.1 p.1.1.2.2⟩) (fun p => wMu m p.1.1.2.1 p.1.1.1.1) ?_ ?_
     · cases hp : QaP m dn S x with
       | false =>
        rw [hp, if_neg (by simp)] at hF;exact Into.first ⟨((([], Z2), (S, out)), (sv2, so)), hF, hI⟩ ⟨[.row u 32 [bytesG x.1]], by rw [if_neg (by simp)]; rfl⟩ (by simp [WL, leG_self, leG_any])
       | true =>
        rw [hp, if_pos rfl] at hF;exact Into.first ⟨((([(x, parsM m x)], Z2), (S ++ [x], out)), (sv2, so)), hF, hI.push hp⟩ ⟨[.row u 32 [bytesG x.1]], by rw [if_pos rfl]; rfl⟩ (by simp [WL, leG_self, leG_any])
     · rintro ⟨⟨⟨⟨K, Z3⟩, ⟨S3, out3⟩⟩, ⟨sv3, so3⟩⟩, hF3, hI3⟩
       change FinS m dn K.reverse (S3, out3) T1 at hF3
       change SInv m S3 out3 K.length at hI3
       have hS3 := hI3.le;have hO3 := hI3.len;rcases List.eq_nil_or_concat K with rfl | ⟨K0, y, e⟩
       · refine vq10 @Qb8 @Qb9 @Qcq @Qbn @Qbo @QcD @Int.lt_irrefl @List.length_nil.{0} @Int.natCast_zero @v32 ?_;rw [List.reverse_nil] at hF3;rw [FinS] at hF3;rw [hF3] at hV2;exact Into.at ⟨(((k + 1, Z3), (S3, out3)), (sv3, so3)), by show k + 1 ≤ _; omega, hV2, hI3⟩ (by show _ < _; simp; omega) ⟨[], rfl⟩ (by simp [WL, leG_self, leG_any, Qaa])
       · rw [List.concat_eq_append] at e;subst e;obtain ⟨y, ps⟩ := y;rw [List.reverse_append, List.reverse_singleton, List.singleton_append] at hF3;obtain ⟨so1, hVp, hF4⟩ := hF3;have dK : ((0 : Int) < (K0.length : Int) + 1) = True := eq_true (by omega);have hKl : K0.length + 1 ≤ 10000 := by rw [List.length_append, List.length_singleton] at hO3; omega
         cases ps with
         | nil =>
          have e1 := hVp.inv_nil;subst e1;have cS := QnV y1 y2 m st s sq sw sv3 so3 K0.length (.func (.func F) pre caps) K0 Z3 y S3 out3 (by omega) (by omega) rfl;refine vq2 dK zb9 ?_;refine cS.mono ?_;rintro g O' ⟨so4, rfl, rfl⟩;refine vq1 zb8 ?_;refine Into.at ⟨(((K0, (y, []) :: Z3), (S3, out3 ++ [y])), (sv3, so4)), hF4, ⟨hI3.nodup, hI3.keys, ?_⟩⟩ ?_ ⟨[], rfl⟩ (by simp [WL, leG_self, leG_any, Qaa])
          · show (out3 ++ [y]).length + K0.length ≤ S3.length;rw [List.length_append, List.length_singleton] at hO3 ⊢; omega
          · show wMu m S3 K0 < wMu m S3 (K0 ++ [(y, [])]);simp [wMu]
         | cons p r =>
          have cS := QnW y1 y2 m hm st s sq sw sv3 so3 K0.length F pre caps dn hd K0 Z3 y p r S3 out3 (by omega) rfl;have hpl := hm.pars p;refine vq2 dK zb9 ?_;refine cS.mono ?_;rintro g O' ⟨sv4, Z4, rfl, rfl⟩;cases hp : QaP m dn S3 p with
          | false =>
           have hVr := hVp.inv_skip hp;refine vq9 @Qb8 @Qb9 @Qcq @Qbn @Qbo @QcD @Bool.false_eq_true @if_false.{1} @v32 ?_;refine Into.at ⟨(((K0 ++ [(y, r)], Z4), (S3, out3)), (sv4, so3)), ?_, ⟨hI3.nodup, hI3.keys, ?_⟩⟩ ?_ ⟨[], by simp⟩ (by simp [WL, leG_self, leG_any, Qaa])
           · show FinS m dn (K0 ++ [(y, r)]).reverse (S3, out3) T1;rw [List.reverse_append, List.reverse_singleton, List.singleton_append];exact ⟨so1, hVr, hF4⟩
           · show out3.length + (K0 ++ [(y, r)]).length ≤ S3.length;rw [List.length_append, List.length_singleton] at hO3 ⊢; exact hO3
           · show wMu m S3 (K0 ++ [(y, r)]) < wMu m S3 (K0 ++ [(y, p :: r)]);simp [wMu]
          | true =>
           obtain ⟨so2, hVq, hVr⟩ := hVp.inv_go hp;have hIp := hI3.push hp;have hIl := hIp.le;refine vq8 @Qb8 @Qb9 @Qcq @Qbn @Qbo @QcD @if_true.{1} @v32 ?_;refine Into.at ⟨(((K0 ++ [(y, r)] ++ [(p, parsM m p)], Z4), (S3 ++ [p], out3)), (sv4, so3)), ?_, ⟨hIp.nodup, hIp.keys, ?_⟩⟩ ?_ ⟨[], by simp⟩ (by simp [WL, leG_self, leG_any, Qaa])
           · show FinS m dn (K0 ++ [(y, r)] ++ [(p, parsM m p)]).reverse (S3 ++ [p], out3) T1;rw [List.reverse_append, List.reverse_singleton, List.singleton_append, List.reverse_append, List.reverse_singleton, List.singleton_append];exact ⟨so2, hVq, so1, hVr, hF4⟩
           · have := hIp.len;show out3.length + (K0 ++ [(y, r)] ++ [(p, parsM m p)]).length ≤ (S3 ++ [p]).length;rw [List.length_append, List.length_singleton] at this ⊢;rw [List.length_append, List.length_singleton] at this ⊢;rw [List.length_append, List.length_singleton];omega
           · show wMu m (S3 ++ [p]) (K0 ++ [(y, r)] ++ [(p, parsM m p)]) < wMu m S3 (K0 ++ [(y, p :: r)]);rw [List.length_append, List.length_singleton] at hIl;simp [wMu];omega
   · have d0 : ((k : Int) < (hs.length : Int)) = False := eq_false (by omega);rw [List.drop_of_length_le (by omega)] at hV;have eT := hV.inv_nil;subst eT;refine vq2 d0 zb8 ?_;exact ⟨.slice (hsG out) .none, gObj st s m ++ [y1, y2], _, rfl, by rw [Qax], rfl, rfl⟩
abbrev idO2 (ti so : Nat) (n : Int) (M O : List Hs) : List GObj := [.row ti 4 [[.int .i64 n, .slice (hsG M) .none, .slice (hsG O) .none, .map 3 so]], .map so (kvG encI (ofM M O))]
theorem QfZ (g1 g2 : GObj) (X : List GObj) (ti so : Nat) (n : Int) (M O : List Hs) (h : Hs) : GCalls Tryz.prog 39 [.ptr 2 ti 0 0, .agg (bytesG h.1)] (g1 :: g2 :: (idO2 ti so n M O ++ X)) (fun g O' => g = .bool (Qar (ofM M O) h) ∧ O' = g1 :: g2 :: (idO2 ti so n M O ++ X)) := by
 cases e : look (ofM M O) h with
 | some v =>
  obtain ⟨i, hi, hv, _⟩ := look_idx encI (ofM M O) h v e;have ev : Qar (ofM M O) h = decide (v < splI) := by unfold Qar; rw [e]
  rw [ev];refine h39.ca ?_;exact vd4 @kfind_h hi hv @v32
 | none =>
  obtain ⟨hi, _⟩ := look_none encI (ofM M O) h e;have ev : Qar (ofM M O) h = false := by unfold Qar; rw [e]
  rw [ev];refine h39.ca ?_;exact vd3 @kfind_h hi @v32
theorem Qu7 (g1 g2 : GObj) (X : List GObj) (ti so : Nat) (n : GVal) (M O : List Hs) (h : Hs) : GCalls Tryz.prog 44 [.agg (bytesG h.1), .ref [.ptr 2 ti 0 0]] (g1 :: g2 :: .row ti 4 [[n, .slice (hsG M) .none, .slice (hsG O) .none, .map 3 so]] :: .map so (kvG encI (ofM M O)) :: X) (fun g O' => g = .bool (look (ofM M O) h).isSome ∧ O' = g1 :: g2 :: .row ti 4 [[n, .slice (hsG M) .none, .slice (hsG O) .none, .map 3 so]] :: .map so (kvG encI (ofM M O)) :: X) := by
 cases e : look (ofM M O) h with
 | some v =>
  obtain ⟨i, hi, hv, _⟩ := look_idx encI (ofM M O) h v e;refine h44.ca ?_;exact vd5 @kfind_h hi hv @Option.isSome_some.{0} @v32
 | none =>
  obtain ⟨hi, _⟩ := look_none encI (ofM M O) h e;refine h44.ca ?_;exact vd4 @kfind_h hi @Option.isSome_none.{0} @v32
theorem Qnq (m : GM) (hm : GMOK m) (hs : List Hs) (th : Tag) (st s ti so : Nat) (n : Int) (M O : List Hs) (T : WSt) (hT : VisL m (Qar (ofM M O)) hs ([], []) T) (hl : hs.length ≤ 1000000) :
 GCalls Tryz.prog 38 [.ptr 0 st 0 0, .slice (hsG hs) th, (.func (.func 39) [.ptr 2 ti 0 0] [])] (gObj st s m ++ idO2 ti so n M O) (fun g O' => g = .slice (hsG T.2) .none ∧ O' = gObj st s m ++ idO2 ti so n M O) :=
 Qnf _ _ m hm hs th st s _ _ _ (Qar (ofM M O)) (fun h X => QfZ _ _ X ti so n M O h) T hT hl
theorem Qu8 (m : GM) (hm : GMOK m) (hs : List Hs) (th : Tag) (st s ti so : Nat) (n : GVal) (M O : List Hs) (T : WSt) (hT : VisL m (fun h => (look (ofM M O) h).isSome) hs ([], []) T) (hl : hs.length ≤ 1000000) :
 GCalls Tryz.prog 38 [.ptr 0 st 0 0, .slice (hsG hs) th, (.func (.func 44) [] [.ref [.ptr 2 ti 0 0]])] (gObj st s m ++ [.row ti 4 [[n, .slice (hsG M) .none, .slice (hsG O) .none, .map 3 so]], .map so (kvG encI (ofM M O))]) (fun g O' => g = .slice (hsG T.2) .none ∧ O' = gObj st s m ++ [.row ti 4 [[n, .slice (hsG M) .none, .slice (hsG O) .none, .map 3 so]], .map so (kvG encI (ofM M O))]) :=
 Qnf _ _ m hm hs th st s _ _ _ (fun h => (look (ofM M O) h).isSome) (fun h X => Qu7 _ _ X ti so n M O h) T hT hl
end Gv.Tryz
namespace Gv
open Go Go.MapKept Go.ChangeMaps
variable {P : Program}
structure Hid (E : Env) (O : List GObj) (w : World) (b : Nat) : Prop where
 obj : ¬ InO E O b
 snap : ∀ o, E.snap b o = none
 lt : b < w.heap.size
theorem Hid.keep {E E' : Env} {O O' : List GObj} {w w' : World} {b : Nat} (h : Hid E O w b) (k : Keep E O w E' O' w') : Hid E' O' w' b ∧ w'.heap[b]? = w.heap[b]? := by
 refine ⟨⟨fun hb => ?_, fun o => ?_, Nat.lt_of_lt_of_le h.lt k.size⟩, k.heap b h.lt h.obj⟩
 · rcases k.objs b hb with h1 | h1
   · exact h.obj h1
   · have := h.lt; omega
 · cases hv : E'.snap b o with
   | none => rfl
   | some v =>
    rcases k.snap b o v hv with h1 | h1 | h1
    · rw [h.snap] at h1; cases h1
    · have := h.lt; omega
    · exact absurd h1 h.obj
theorem HSim.grown {E : Env} {O : List GObj} {w w' : World} (h : HSim E O w) {row : Option Nat} (g : w.grownBy w' row) (hr : ∀ r, row = some r → ¬ InO E O r ∧ ∀ o, E.snap r o = none) : HSim E O w' := by
 have hne : ∀ b, InO E O b → some b ≠ row := fun b hb e => (hr b e.symm).1 hb
 refine ⟨h.fin, fun b o v hv => ?_, h.one, fun i obj ho => ?_, h.sep, h.glob⟩
 · have hb : some b ≠ row := fun e => by rw [(hr b e.symm).2 o] at hv; cases hv
   rw [Go.World.cell?_of_block (w := w) (w' := w') (a := ⟨b, o, none⟩) (g.block b (h.lt hv) hb)];exact h.sealed _ _ _ hv
 · refine (h.real i obj ho).keep (.refl E) (fun b hb => g.block b ((h.real i obj ho).blk_lt hb) (hne b ⟨i, obj, ho, hb⟩)) (fun b o v hb hv => ?_);exact hv
theorem Keep.grown {E0 E : Env} {O0 O : List GObj} {w0 w w' : World} (k : Keep E0 O0 w0 E O w) {row : Option Nat} (g : w.grownBy w' row) (hr : ∀ r, row = some r → w0.heap.size ≤ r) : Keep E0 O0 w0 E O w' :=
 ⟨k.ext, g.os.trans k.os, g.output.trans k.out, Nat.le_trans k.size g.size, fun b hb hn => (g.block b (Nat.lt_of_lt_of_le hb k.size) (fun e => by have := hr b e.symm; omega)).trans (k.heap b hb hn), k.snap, k.objs, trivial⟩
theorem Hid.grown {E : Env} {O : List GObj} {w w' : World} {b : Nat} {row : Option Nat} (h : Hid E O w b) (g : w.grownBy w' row) : Hid E O w' b := ⟨h.obj, h.snap, Nat.lt_of_lt_of_le h.lt g.size⟩
theorem HSim.hide {E : Env} {O : List GObj} {w : World} (h : HSim E O w) (i : Nat) (x : GObj) (hO : O[i]? = some x) (hx : x.isClock = false) : HSim E (O.set i .dead) w ∧ Keep E O w E (O.set i .dead) w := by
 have split : ∀ (j : Nat) y, (O.set i .dead)[j]? = some y → (j = i ∧ y = .dead) ∨ O[j]? = some y := by
  intro j y hy;rw [List.getElem?_set] at hy;by_cases e : i = j
  · rw [if_pos e] at hy;split at hy
    · exact .inl ⟨e.symm, (Option.some.inj hy).symm⟩
    · cases hy
  · rw [if_neg e] at hy; exact .inr hy
 have hc : Qad (O.set i .dead) = Qad O := by
  match O, i with
  | [], _ => rfl
  | y :: r, 0 => simp at hO; subst hO; cases y <;> first | rfl | cases hx
  | y :: r, k + 1 => cases y <;> rfl
 refine ⟨⟨by unfold Fin'; rw [hc]; exact h.fin, h.sealed, h.one, fun j y hy => ?_, fun j k oj ok b hjk hj hk hbj hbk => ?_, h.glob⟩, ⟨.refl E, rfl, rfl, Nat.le_refl _, fun _ _ _ => rfl, fun _ _ _ h => .inl h, fun b ⟨j, y, hy, hb⟩ => ?_, trivial⟩⟩
 · rcases split j y hy with ⟨_, rfl⟩ | h1
   · trivial
   · exact h.real j y h1
 · rcases split j oj hj with ⟨_, rfl⟩ | h1
   · cases hbj
   · rcases split k ok hk with ⟨_, rfl⟩ | h2
     · cases hbk
     · exact h.sep j k oj ok b hjk h1 h2 hbj hbk
 · rcases split j y hy with ⟨_, rfl⟩ | h1
   · cases hb
   · exact .inl ⟨j, y, h1, hb⟩
structure MapAt (E : Env) (w : World) (b : Nat) (es : Array MapEntry) (clock : Nat) (kv : List (GVal × GVal)) : Prop where
 at_ : w.heap[b]? = some (.map es clock)
 size : es.size = kv.length
 ent : ∀ (i : Nat) e p, es[i]? = some e → kv[i]? = some p → EntryOK E e p
 born : BornOK es clock
theorem MapAt.ext {E E' : Env} {w w' : World} {b : Nat} {es : Array MapEntry} {clock : Nat} {kv : List (GVal × GVal)} (h : MapAt E w b es clock kv) (hE : E.le E') (hw : w'.heap[b]? = w.heap[b]?) : MapAt E' w' b es clock kv :=
 ⟨hw.trans h.at_, h.size, fun i e p he hp => ⟨(h.ent i e p he hp).1.mono hE, (h.ent i e p he hp).2.mono hE⟩, h.born⟩
theorem HSim.hideMap {E : Env} {O : List GObj} {w : World} (h : HSim E O w) {i st : Nat} {kv : List (GVal × GVal)} (hO : O[i]? = some (.map st kv)) :
 ∃ l b es clock, E.loc st = some l ∧ l.block = some b ∧ MapAt E w b es clock kv ∧ HSim E (O.set i .dead) w ∧ Keep E O w E (O.set i .dead) w ∧ Hid E (O.set i .dead) w b ∧ InO E O b := by
 obtain ⟨l, b, es, clock, hl, hb, hw, hs, he, hbo, hsn⟩ := h.real i _ hO
 obtain ⟨h1, h2⟩ := h.hide i _ hO rfl
 refine ⟨l, b, es, clock, hl, hb, ⟨hw, hs, he, hbo⟩, h1, h2, ⟨fun hi => ?_, hsn, (Array.getElem?_eq_some_iff.1 hw).1⟩, ⟨i, _, hO, by simp [GObj.blk, hl, hb]⟩⟩
 obtain ⟨j, y, hy, hyb⟩ := hi
 rw [List.getElem?_set] at hy
 by_cases e : i = j
 · rw [if_pos e] at hy;split at hy
   · cases hy; cases hyb
   · cases hy
 · rw [if_neg e] at hy;exact h.sep i j _ _ b e hO hy (by simp [GObj.blk, hl, hb]) hyb
theorem HSim.showMap {E : Env} {O : List GObj} {w : World} (h : HSim E O w) {i st b clock : Nat} {l : GLoc} {es : Array MapEntry} {kv : List (GVal × GVal)} (hO : O[i]? = some .dead) (hl : E.loc st = some l) (hb : l.block = some b)
 (hm : MapAt E w b es clock kv) (hh : Hid E O w b) : HSim E (O.set i (.map st kv)) w ∧ ∀ E0 O0 w0, Keep E0 O0 w0 E O w → (InO E0 O0 b ∨ w0.heap.size ≤ b) → Keep E0 O0 w0 E (O.set i (.map st kv)) w := by
 have hblk : (GObj.map st kv).blk E = some b := by simp [GObj.blk, hl, hb]
 have split : ∀ (j : Nat) y, (O.set i (.map st kv))[j]? = some y → (j = i ∧ y = .map st kv) ∨ (j ≠ i ∧ O[j]? = some y) := by
  intro j y hy;rw [List.getElem?_set] at hy;by_cases e : i = j
  · rw [if_pos e] at hy;split at hy
    · exact .inl ⟨e.symm, (Option.some.inj hy).symm⟩
    · cases hy
  · rw [if_neg e] at hy; exact .inr ⟨fun q => e q.symm, hy⟩
 have hc : Qad (O.set i (.map st kv)) = Qad O := by
  match O, i with
  | [], _ => rfl
  | y :: r, 0 => simp at hO; subst hO; rfl
  | y :: r, k + 1 => cases y <;> rfl
 refine ⟨⟨by unfold Fin'; rw [hc]; exact h.fin, h.sealed, h.one, fun j y hy => ?_, fun j k oj ok b' hjk hj hk hbj hbk => ?_, h.glob⟩, fun E0 O0 w0 K hbn => ⟨K.ext, K.os, K.out, K.size, K.heap, K.snap, fun b' ⟨j, y, hy, hyb⟩ => ?_, trivial⟩⟩
 · rcases split j y hy with ⟨_, rfl⟩ | ⟨_, h1⟩
   · exact ⟨l, b, es, clock, hl, hb, hm.at_, hm.size, hm.ent, hm.born, hh.snap⟩
   · exact h.real j y h1
 · rcases split j oj hj with ⟨e1, rfl⟩ | ⟨e1, h1⟩
   · rcases split k ok hk with ⟨e2, rfl⟩ | ⟨e2, h2⟩
     · exact hjk (e1.trans e2.symm)
     · rw [hblk] at hbj; cases hbj;exact hh.obj ⟨k, ok, h2, hbk⟩
   · rcases split k ok hk with ⟨e2, rfl⟩ | ⟨e2, h2⟩
     · rw [hblk] at hbk; cases hbk;exact hh.obj ⟨j, oj, h1, hbj⟩
     · exact h.sep j k oj ok b' hjk h1 h2 hbj hbk
 · rcases split j y hy with ⟨_, rfl⟩ | ⟨_, h1⟩
   · rw [hblk] at hyb; cases hyb; exact hbn
   · exact K.objs b' ⟨j, y, h1, hyb⟩
end Gv
namespace Gv
open Go Go.MapKept Go.ChangeMaps
variable {P : Program} {E : Env} {O : List GObj} {w : World}
theorem QlC : ∀ {es : List MapEntry} {i : Nat} {e : MapEntry}, es.Pairwise (fun x y => x.born ≠ y.born) → es[i]? = some e → es.findIdx? (fun x => ((x.born : Nat) : Int) == ((e.born : Nat) : Int)) = some i
 | [], i, e, _, h => by cases h
 | a :: r, 0, e, _, h => by cases h; simp [List.findIdx?_cons]
 | a :: r, i + 1, e, hp, h => by
  have h1 : r[i]? = some e := by simpa using h
  have h2 := (List.pairwise_cons.1 hp).1 e (List.mem_of_getElem? h1);have h3 : (((a.born : Nat) : Int) == ((e.born : Nat) : Int)) = false := by rw [beq_eq_false_iff_ne]; omega
  rw [List.findIdx?_cons, h3, QlC (List.pairwise_cons.1 hp).2 h1];rfl
theorem Qi2 {es : Array MapEntry} {clock i : Nat} {e : MapEntry} (h : BornOK es clock) (hi : es.toList[i]? = some e) : es.findIdx? (fun x => ((x.born : Nat) : Int) == ((e.born : Nat) : Int)) = some i := by
 have : es.findIdx? (fun x => ((x.born : Nat) : Int) == ((e.born : Nat) : Int)) = es.toList.findIdx? (fun x => ((x.born : Nat) : Int) == ((e.born : Nat) : Int)) := by cases es; simp
 rw [this]; exact QlC h.2 hi
def oldAt (kv : List (GVal × GVal)) (z : GVal) : Option Nat → GVal
 | some i => match kv[i]? with
  | some p => p.2
  | none => .any
 | none => z
def putAt (kv : List (GVal × GVal)) (x v : GVal) : Option Nat → List (GVal × GVal)
 | some i => kv.set i (x, v)
 | none => kv ++ [(x, v)]
theorem Qdz {w : World} {b : Nat} {es : Array MapEntry} {clock : Nat} (hw : w.heap[b]? = some (.map es clock)) (es' : Array MapEntry) (clock' : Nat) :
 w.grownBy { w with heap := w.heap.setIfInBounds b (.map es' clock') } (some b) ∧ { w with heap := w.heap.setIfInBounds b (.map es' clock') }.heap[b]? = some (.map es' clock') ∧ { w with heap := w.heap.setIfInBounds b (.map es' clock') }.heap.size = w.heap.size := by
 have hlt := (Array.getElem?_eq_some_iff.1 hw).1
 refine ⟨⟨rfl, rfl, rfl, by simp, fun k _ hk => ?_⟩, ?_, by simp⟩
 · show (w.heap.setIfInBounds b _)[k]? = _;rw [Array.getElem?_setIfInBounds, if_neg (fun e => hk (by rw [e]))]
 · show (w.heap.setIfInBounds b _)[b]? = _;rw [Array.getElem?_setIfInBounds, if_pos rfl, if_pos hlt]
theorem mapEntry_hid {t : TypeId} {k : KT} {et : TypeId} {z x : GVal} {rx : Value} {r : Option Nat} {b clock : Nat} {es : Array MapEntry} {kv : List (GVal × GVal)} (hkt : keyT P t = some (k, et)) (hz : zeroG P et = some z) (hko : keyOk k x) (hx : VR E rx x)
 (hm : MapAt E w b es clock kv) (hr : kfind k x kv = some r) :
 ∃ (rv0 : Value) (stamp : Nat) (es1 : Array MapEntry) (clock1 : Nat) (w1 : World), (Instr.mapEntry t (.map (some b)) rx).run P w = .ok (.tuple #[rv0, goInt stamp]) w1 ∧ w.grownBy w1 (some b) ∧ w1.heap[b]? = some (.map es1 clock1) ∧ VR E rv0 (oldAt kv z r) ∧
  ∀ (E2 : Env) (w2 : World) (rv : Value) (gv : GVal), E.le E2 → w2.heap[b]? = some (.map es1 clock1) → VR E2 rv gv →
   ∃ (w3 : World) (es3 : Array MapEntry) (clock3 : Nat), (Instr.entryStore t (.map (some b)) (goInt stamp) rv).run P w2 = .ok () w3 ∧ w2.grownBy w3 (some b) ∧ MapAt E2 w3 b es3 clock3 (putAt kv x gv r) := by
 obtain ⟨kt, hu, hf, ht, hn⟩ := Qdq hkt
 have hchk : ∀ em, (Instr.checkKey em 10000 kt rx).run P w = .ok () w := fun em => by
  unfold keyOk at hko;split at hko
  · rename_i cs hcs; exact Qcd hf ht hx hcs hko
  · exact hko.elim
 obtain ⟨hw, hl, he, hbo⟩ := hm
 have hl' : es.toList.length = kv.length := by simpa using hl
 have he' : ∀ (i : Nat) e p, es.toList[i]? = some e → kv[i]? = some p → EntryOK E e p := fun i e p h1 h2 => he i e p (by simpa using h1) h2
 have hfk := Qbh (P := P) (w := w) hf ht hn hx hl' he' hr
 cases r with
 | some i =>
  obtain ⟨p, hp, hpe⟩ := Qeb hr;have hlt : i < es.toList.length := by rw [hl']; exact (List.getElem?_eq_some_iff.1 hp).1
  have hei : es.toList[i]? = some (es.toList[i]) := List.getElem?_eq_getElem hlt;obtain ⟨e, ee⟩ : ∃ e, es.toList[i] = e := ⟨_, rfl⟩
  rw [ee] at hei;have hkey : (Instr.keyThatStays e.key rx).run P w = .ok rx w := by
   have h2 := (he' i _ p hei hp).1;have h3 := QeP hn hx h2 hpe;have h4 : Instr.sameBits 10000 e.key rx = true := by
    have := QdU hn hx h2 hpe
    rw [← h3] at this ⊢; exact this
   unfold Instr.keyThatStays;rw [if_pos h4]; simp
  have hei' : es[i]? = some e := by simpa using hei
  obtain ⟨g1, g2, _⟩ := Qdz hw (es.modify i fun e => { e with key := rx }) clock;have hb1 : BornOK (es.modify i fun e => { e with key := rx }) clock := hbo.modify i _ fun _ => rfl
  refine ⟨e.val, e.born, _, _, _, ?_, g1, g2, ?_, ?_⟩
  · unfold Instr.mapEntry;simp only [Sem.run_bind, run_underlying hu, Result.andThen_ok, QeR hw, hchk, hfk, At, hei, Nat.zero_add, hei', Option.map_some, Option.getD_some, hkey];rw [QfC _ hw];rfl
  · simp only [oldAt, hp];exact (he' i _ p hei hp).2
  · intro E2 w2 rv gv hE hw2 hrv;obtain ⟨g3, g4, _⟩ := Qdz hw2 ((es.modify i fun e => { e with key := rx }).modify i fun e => { e with val := rv }) clock;have hidx : (es.modify i fun e => { e with key := rx }).findIdx? (fun e' => ((e'.born : Nat) : Int) == ((e.born : Nat) : Int)) = some i := by
     refine Qi2 (e := { e with key := rx }) hb1 ?_;rw [Array.getElem?_toList, Array.getElem?_modify, if_pos rfl, hei'];rfl
    refine ⟨_, _, _, ?_, g3, g4, by simpa [putAt] using hl, fun j e' p' he2 hp' => ?_, hb1.modify i _ fun _ => rfl⟩
    · simp [Instr.entryStore, MapKept.run_getObj_map hw2, asInt, asIntOf, goInt, hidx, MapKept.run_setObj_map _ hw2, Result.andThen]
    · simp only [putAt] at hp';rw [Array.getElem?_modify] at he2;rw [List.getElem?_set] at hp';by_cases hij : i = j
      · subst hij;rw [if_pos rfl, Array.getElem?_modify, if_pos rfl, hei'] at he2;simp only [Option.map_some, Option.some.injEq] at he2;rw [if_pos rfl, if_pos (by rw [← hl']; exact hlt)] at hp';simp only [Option.some.injEq] at hp';subst he2; subst hp';exact ⟨hx.mono hE, hrv⟩
      · rw [if_neg hij] at he2 hp';rw [Array.getElem?_modify, if_neg hij] at he2;exact ⟨(he j e' p' he2 hp').1.mono hE, (he j e' p' he2 hp').2.mono hE⟩
 | none =>
  obtain ⟨v0, hv0, hvz⟩ := Qha hz w E;have hv0' : ∀ u : World, (zeroValue et).run P u = .ok v0 u → True := fun _ _ => trivial
  obtain ⟨g1, g2, _⟩ := Qdz hw (es.push { key := rx, val := v0, born := clock }) (clock + 1);have hb1 : BornOK (es.push { key := rx, val := v0, born := clock }) (clock + 1) := hbo.push _ rfl;refine ⟨v0, clock, _, _, _, ?_, g1, g2, hvz, ?_⟩
  · unfold Instr.mapEntry;simp only [Sem.run_bind, run_underlying hu, Result.andThen_ok, QeR hw, hchk, hfk, At, hv0];rw [QfC _ hw];rfl
  · intro E2 w2 rv gv hE hw2 hrv;obtain ⟨g3, g4, _⟩ := Qdz hw2 ((es.push { key := rx, val := v0, born := clock }).modify es.size fun e => { e with val := rv }) (clock + 1);have hidx : (es.push { key := rx, val := v0, born := clock }).findIdx? (fun e' => ((e'.born : Nat) : Int) == ((clock : Nat) : Int)) = some es.size := by
     exact Qi2 (e := { key := rx, val := v0, born := clock }) hb1 (by simp)
    refine ⟨_, _, _, ?_, g3, g4, by simpa [putAt] using hl, fun j e' p' he2 hp' => ?_, hb1.modify _ _ fun _ => rfl⟩
    · simp [Instr.entryStore, MapKept.run_getObj_map hw2, asInt, asIntOf, goInt, hidx, MapKept.run_setObj_map _ hw2, Result.andThen]
    · simp only [putAt] at hp';rw [Array.getElem?_modify, Array.getElem?_push] at he2;by_cases hj : j = es.size
      · subst hj;rw [if_pos rfl, if_pos rfl] at he2;simp only [Option.map_some, Option.some.injEq] at he2;rw [List.getElem?_append_right (by omega)] at hp';rw [show es.size - kv.length = 0 by omega] at hp';simp at hp';subst he2; subst hp';exact ⟨hx.mono hE, hrv⟩
      · rw [if_neg (fun e => hj e.symm), if_neg hj] at he2;have hjlt := (Array.getElem?_eq_some_iff.1 he2).1;rw [List.getElem?_append_left (by omega)] at hp';exact ⟨(he j e' p' he2 hp').1.mono hE, (he j e' p' he2 hp').2.mono hE⟩
end Gv
namespace Gv
open Go Go.MapKept Go.ChangeMaps Go.Maps
variable {P : Program} {all : Array Oper} {QQ : Exit → Act → World → Prop} {E : Env} {st : GSt} {a : Act} {w : World} {o : Oper} {rest : List Oper}
@[reducible] def QuS {P : Program} {f : FuncId} {C : Cfg} {n : Nat} {rs : List ResultVar} {s : Qbc} (_ : FnS P f C n rs s) : Cfg := C
def vcN (N : GSt → Prop) : Ex → GSt → Prop
 | .normal, s => N s
 | _, _ => False
def NW (s : List GVal) (O : List GObj) (st : GSt) : Prop := st.o = O ∧ WL st.s s
theorem wp_part {C : Cfg} (hmix : P.follows .mixedOrders = true) {c : Code} {s : Qbc} (hs : slim C c = some s) (hc : codeOk C c = true) (h : HSim E st.o w) (ha : SlotsR E a st.s) {N : GSt → Prop} (hv : vcS P C.ro s (vcN N) st) {Q : Exit → Act → World → Prop}
 (hn : ∀ st' E' a' w', HSim E' st'.o w' → Keep E st.o w E' st'.o w' → SlotsR E' a' st'.s → N st' → Q .normal a' w') : c.wp P Q a w := by
 refine wp_mono (vc_sound hmix c (vcN N) st E a w hc h ha (vcS_ok c s (vcN N) (vcN N) st hs (fun _ _ h => h) hv)) ?_
 rintro e a' w' ⟨ex, st', E', hx, h1, h2, h3, h4⟩
 cases e <;> cases ex <;> first
  | exact hx.elim
  | exact h4.elim
  | exact hn st' E' a' w' h1 h2 h3 h4
theorem Post.trans {E0 E : Env} {O0 O : List GObj} {w0 w : World} {Q : Ex → GSt → Prop} {e : Exit} {a' : Act} {w' : World} (k : Keep E0 O0 w0 E O w) (h : Post E O w Q e a' w') : Post E0 O0 w0 Q e a' w' := by
 obtain ⟨ex, st', E', hx, h1, h2, h3, h4⟩ := h
 exact ⟨ex, st', E', hx, h1, k.trans h2, h3, h4⟩
theorem Qcu (hg : o.guard = none) {v : Value} {w' : World} (hr : (execOp a.eval o).run P w = .ok (.value v) w') (h : wpList P all QQ rest (a.put o.dst v) w') : wpList P all QQ (o :: rest) a w :=
 wpList_plain hg fun K' hK' => by
  unfold Oper.wp;rw [hr];simp only [Oper.upon_value];exact hK' _ _ h
theorem Qh5 (hg : o.guard = none) {w' : World} (hr : (execOp a.eval o).run P w = .ok .skip w') (h : wpList P all QQ rest (a.put o.dst undef) w') : wpList P all QQ (o :: rest) a w :=
 wpList_plain hg fun K' hK' => by
  unfold Oper.wp;rw [hr];exact hK' _ _ h
theorem Qo8 (hg : o.guard = none) (h : HSim E st.o w) (ha : SlotsR E a st.s) {R : List Nat} {N : GSt → Prop} (hk : opv P R st o (fun g O' => N (st.put o.dst g O')))
 (hq : ∀ st' E' a' w', HSim E' st'.o w' → Keep E st.o w E' st'.o w' → SlotsR E' a' st'.s → N st' → wpList P all QQ rest a' w') : wpList P all QQ (o :: rest) a w :=
 wpList_plain hg fun K' hK' => Oper.wp_mono (fun a w h => hK' a w h) (Qgf h ha hk (fun v w' E' O' g h1 h2 h3 h4 =>
  hq (st.put o.dst g O') E' _ w' (by rw [GSt.put_o]; exact h1) (by rw [GSt.put_o]; exact h2) (ha.put h2.ext h3 O') h4))
theorem ops_seg {R : List Nat} : ∀ (k : Nat) {ops : List Oper} {l : List SOp} {st : GSt} {E : Env} {a : Act} {w : World} (hl : (ops.take k).map (fun o => (⟨o.dst, o.op, none⟩ : SOp)) = l) (hg : (ops.take k).all (fun o => o.guard.isNone) = true)
 (h : HSim E st.o w) (ha : SlotsR E a st.s) {N : GSt → Prop} (hv : opsS P R l N st)
 (hq : ∀ st' E' a' w', HSim E' st'.o w' → Keep E st.o w E' st'.o w' → SlotsR E' a' st'.s → N st' → wpList P all QQ (ops.drop k) a' w'), wpList P all QQ ops a w
 | 0, ops, l, st, E, a, w, hl, hg, h, ha, N, hv, hq => by
  simp only [List.take_zero, List.map_nil] at hl;subst hl;rw [Qga] at hv;exact hq st E a w h (.refl _ _ _) ha hv
 | k + 1, [], l, st, E, a, w, hl, hg, h, ha, N, hv, hq => by
  simp only [List.take_nil, List.map_nil] at hl;subst hl;rw [Qga] at hv;exact hq st E a w h (.refl _ _ _) ha hv
 | k + 1, o :: r, l, st, E, a, w, hl, hg, h, ha, N, hv, hq => by
  simp only [List.take_succ_cons, List.map_cons] at hl;subst hl;simp only [List.take_succ_cons, List.all_cons, Bool.and_eq_true, Option.isNone_iff_eq_none] at hg;rw [Qd9, ← QeN] at hv;refine Qo8 (N := fun s => opsS P R ((r.take k).map (fun o => (⟨o.dst, o.op, none⟩ : SOp))) N s) hg.1 h ha hv (fun st' E' a' w' h1 h2 h3 h4 => ?_);exact ops_seg k rfl hg.2 h1 h3 h4 (fun st2 E2 a2 w2 q1 q2 q3 q4 => hq st2 E2 a2 w2 q1 (h2.trans q2) q3 q4)
theorem range_step (hg : o.guard = none) {m : Operand} {t k e : TypeId} (hop : o.op = Op.range t m) (ht : P.underlying t = some (.map k e)) {b clock : Nat} {es : Array MapEntry}
 (hm : a.eval m = .map (some b)) (hb : w.heap[b]? = some (.map es clock)) (hbo : Gv.BornOK es clock)
 (hK : ∀ w', WalkAt w' b w.heap.size es clock #[] → w.grownBy w' none → w'.heap.size = w.heap.size + 1 → wpList P all QQ rest (a.put o.dst (.pointer (some ⟨w.heap.size, 0, none⟩))) w') :
 wpList P all QQ (o :: rest) a w := by
 have hrun := run_range_map w t k e b es clock ht hb
 have hlt := (Array.getElem?_eq_some_iff.1 hb).1
 refine Qcu (v := .pointer (some ⟨w.heap.size, 0, none⟩)) (w' := w.alloc (.mapIter (some b) clock #[] clock)) hg (by simp [execOp, hop, hm, hrun, Result.andThen]) ?_
 exact hK _ ⟨clock, clock, ((MapKept.heap_alloc w _).2 b hlt).trans hb, (MapKept.heap_alloc w _).1, hbo.1, Nat.le_refl _, Nat.le_refl _⟩ (World.grownBy_alloc w _ none) (by simp)
theorem next_step (hg : o.guard = none) {it : Operand} (hop : o.op = Op.next it false) {b r clock : Nat} {es : Array MapEntry} (hbo : Gv.BornOK es clock) {seen : Array Nat} {xs : List MapEntry} (hx : Came es seen xs)
 (hit : a.eval it = .pointer (some ⟨r, 0, none⟩)) (h : WalkAt w b r es clock seen)
 (hDone : xs.Perm es.toList → wpList P all QQ rest (a.put o.dst (.tuple #[.bool false])) w)
 (hMore : ∀ (e : MapEntry) (w' : World), e ∈ es.toList → Came es (seen.push e.born) (xs ++ [e]) → xs.length < es.size → WalkAt w' b r es clock (seen.push e.born) → w'.rangeLeft b r < w.rangeLeft b r →
  w.grownBy w' (some r) → (∀ w2 : World, w2.heap[b]? = w'.heap[b]? → w2.heap[r]? = w'.heap[r]? → (Instr.entry (.pointer (some ⟨r, 0, none⟩))).run P w2 = .ok (.tuple #[e.key, e.val]) w2) → wpList P all QQ rest (a.put o.dst (.tuple #[.bool true, e.key, e.val])) w') :
 wpList P all QQ (o :: rest) a w := by
 have hle := h.left_eq
 obtain ⟨since, c0, hb, hr, hold, hsc, hsk⟩ := h
 obtain ⟨hse, hxn, hxm⟩ := hx
 have hne : r ≠ b := fun e => by rw [e, hb] at hr; cases hr
 have hnd : es.toList.Nodup := hbo.2.imp fun h e => h (congrArg _ e)
 have hbn : (es.toList.map (·.born)).Nodup := List.pairwise_map.2 hbo.2
 rcases run_next_at (P := P) w o.type r b since c0 seen es clock hr hb hold hsc with ⟨h0, hrun⟩ | ⟨e, he, w1, hal, hrun⟩
 · refine Qcu hg (by simp [execOp, hop, hit, hrun, Result.andThen]) (hDone ?_);refine (List.perm_ext_iff_of_nodup hxn hnd).2 fun x => ⟨fun q => hxm x q, fun q => ?_⟩
   have hs := all_seen es seen h0 x q;rw [hse] at hs;have hm : x.born ∈ xs.map MapEntry.born := by simpa using hs
   obtain ⟨y, hy, ey⟩ := List.mem_map.1 hm
   rwa [← born_inj hbn (hxm y hy) q ey]
 · have hr1 : w1.heap[r]? = some (.mapIter (some b) since seen c0) := by rcases hal with rfl | rfl <;> exact hr
   have hb1 : w1.heap[b]? = some (.map es clock) := by rcases hal with rfl | rfl <;> exact hb
   have hset := heap_set (o' := .mapIter (some b) since (seen.push e.born) clock) hr1;have hb' : (ChangeMaps.setBlock w1 r (.mapIter (some b) since (seen.push e.born) clock)).heap[b]? = some (.map es clock) := (hset.2 b (fun e1 => hne e1.symm)).trans hb1;obtain ⟨hem, hes⟩ := mem_left he;have hc : Came es (seen.push e.born) (xs ++ [e]) := by
    refine ⟨by rw [hse]; simp, List.nodup_append.2 ⟨hxn, by simp, fun y hy z hz => ?_⟩, fun y hy => ?_⟩
    · rw [List.mem_singleton.1 hz];intro q;have : e.born ∈ xs.map MapEntry.born := List.mem_map_of_mem (q ▸ hy);rw [hse] at hes;have h3 : (xs.map MapEntry.born).toArray.contains e.born = true := by simpa using this
      rw [h3] at hes; cases hes
    · rcases List.mem_append.1 hy with q | q
      · exact hxm y q
      · rw [List.mem_singleton.1 q]; exact hem
   have hlen : (xs ++ [e]).length ≤ es.toList.length := QfU _ _ hc.2.1 hc.2.2;have hw : WalkAt (ChangeMaps.setBlock w1 r (.mapIter (some b) since (seen.push e.born) clock)) b r es clock (seen.push e.born) := ⟨since, clock, hb', hset.1, hold, hsk, hsk⟩
   refine Qcu hg (by simp [execOp, hop, hit, hrun, Result.andThen]) (hMore e _ hem hc (by simp at hlen; omega) hw ?_ ?_ (fun w2 e1 e2 => run_entry_at w2 r b since seen es clock e (e2.trans hset.1) (e1.trans hb') hem hbn))
   · rw [hle, hw.left_eq];exact left_shrinks es _ e he
   · rcases hal with rfl | rfl <;> exact ⟨rfl, rfl, rfl, by simp [ChangeMaps.setBlock], fun i _ hi => hset.2 i (fun e1 => hi (by rw [e1]))⟩
theorem entry_step (hg : o.guard = none) {it : Operand} (hop : o.op = Op.entry it) {r : Nat} {v : Value} (hit : a.eval it = .pointer (some ⟨r, 0, none⟩)) (he : (Instr.entry (.pointer (some ⟨r, 0, none⟩))).run P w = .ok v w)
 (h : wpList P all QQ rest (a.put o.dst v) w) : wpList P all QQ (o :: rest) a w :=
 Qcu hg (by simp [execOp, hop, hit, he, Result.andThen]) h
theorem mapEntry_step (hg : o.guard = none) {m x : Operand} {t : TypeId} (hop : o.op = Op.mapEntry t m x) {v : Value} {w' : World} (hr : (Instr.mapEntry t (a.eval m) (a.eval x)).run P w = .ok v w')
 (h : wpList P all QQ rest (a.put o.dst v) w') : wpList P all QQ (o :: rest) a w :=
 Qcu hg (by simp [execOp, hop, hr, Result.andThen]) h
theorem entryStore_step (hg : o.guard = none) {m x y : Operand} {t : TypeId} (hop : o.op = Op.entryStore t m x y) {w' : World} (hr : (Instr.entryStore t (a.eval m) (a.eval x) (a.eval y)).run P w = .ok () w')
 (h : wpList P all QQ rest (a.put o.dst undef) w') : wpList P all QQ (o :: rest) a w :=
 Qh5 hg (by simp [execOp, hop, hr, Result.andThen]) h
theorem map_val {v : Value} {i s b : Nat} {l : GLoc} (h : VR E v (.map i s)) (hl : E.loc s = some l) (hb : l.block = some b) : v = .map (some b) := by
 cases h with
 | map r o st l' hl' hb' =>
  rw [hl] at hl'; cases hl';rw [hb] at hb'; cases hb';rfl
theorem HSim.meltBox {O : List GObj} {t sz : Nat} {cs cs' : List GVal} (h : HSim E (O ++ [.row t sz [cs]]) w) {s : List GVal} (ha : SlotsR E a s) (i n : Nat) (hx : s.getD i .any = .ptr O.length t 0 0) (hsz : cs.length = sz)
 (hf : frzL (Gv.frz [.row t sz [cs]] n) cs = some cs') (hne : cs ≠ []) :
 HSim (E.frz [.row t sz [cs]] w) O w ∧ Keep E (O ++ [.row t sz [cs]]) w (E.frz [.row t sz [cs]] w) O w ∧ SlotsR (E.frz [.row t sz [cs]] w) a (s.set i (.ref cs')) := by
 obtain ⟨h0, h1, h2⟩ := h.melt
 refine ⟨h1, h2, by simp [ha.size], ha.defers, fun k g hg => ?_⟩
 rw [List.getElem?_set] at hg
 by_cases hk : i = k
 · subst hk;rw [if_pos rfl] at hg;split at hg
   · rename_i hlt;simp only [Option.some.injEq] at hg;subst hg;have := ha.at_ i _ (Qa2 (d := GVal.any) hlt);rw [hx] at this
     revert this
     generalize a.tmps.getD i undef = tv;intro this;cases this with
     | ptr b off o st i j l hl hb ho =>
      have hreal := h0.real 0 _ rfl;obtain ⟨l', hl', hsz', hxs, hr⟩ := hreal;rw [hl] at hl'; cases hl';rw [hb] at hr;obtain ⟨cur, el, hcw, hcs, hct, hrows, hsn⟩ := hr;have hrow : ∀ j g, [cs].flatten[j]? = some g → ∃ v, (E.frz [.row t sz [cs]] w).snap b (off + j) = some v ∧ VR E v g := fun j g hj => by
       have := Qew h0 (i := 0) rfl hl hb hj;obtain ⟨v, hv1, hv2⟩ := this;refine ⟨v, ?_, ?_⟩
       · rw [ho]; simpa using hv1
       · first | exact hv2 | exact hv2.2 | exact hv2.1
      have hl2 := QbD hf;refine .ref b off cs' (fun j => ((E.frz [.row t sz [cs]] w).snap b (off + j)).getD undef) (fun j hj => ?_) (fun j g hg => ?_)
      · obtain ⟨v, hv, _⟩ := hrow j (cs[j]'(by omega)) (by simp);rw [hv]; rfl
      · obtain ⟨x, hx1, hx2⟩ := QfN hf j g hg;obtain ⟨v, hv, hvr⟩ := hrow j x (by simpa using hx1);rw [hv];exact Qb1 h0 n _ _ _ hvr hx2
   · cases hg
 · rw [if_neg hk] at hg;exact (ha.at_ k g hg).mono h2.ext
theorem HSim.meltBox1 {O : List GObj} {t sz : Nat} {cs : List GVal} (h : HSim E (O ++ [.row t sz [cs]]) w) {s : List GVal} (ha : SlotsR E a s) (i : Nat) (hx : s.getD i .any = .ptr O.length t 0 0) (hsz : cs.length = sz) :
 HSim (E.frz [.row t sz [cs]] w) O w ∧ Keep E (O ++ [.row t sz [cs]]) w (E.frz [.row t sz [cs]] w) O w ∧ SlotsR (E.frz [.row t sz [cs]] w) a (s.set i (.ref cs)) := by
 obtain ⟨h0, h1, h2⟩ := h.melt
 refine ⟨h1, h2, by simp [ha.size], ha.defers, fun k g hg => ?_⟩
 rw [List.getElem?_set] at hg
 by_cases hk : i = k
 · subst hk;rw [if_pos rfl] at hg;split at hg
   · rename_i hlt;simp only [Option.some.injEq] at hg;subst hg;have := ha.at_ i _ (Qa2 (d := GVal.any) hlt);rw [hx] at this
     revert this
     generalize a.tmps.getD i undef = tv;intro this;cases this with
     | ptr b off o st i j l hl hb ho =>
      have hreal := h0.real 0 _ rfl;obtain ⟨l', hl', hsz', hxs, hr⟩ := hreal;rw [hl] at hl'; cases hl';rw [hb] at hr;obtain ⟨cur, el, hcw, hcs, hct, hrows, hsn⟩ := hr;have hrow : ∀ j g, [cs].flatten[j]? = some g → ∃ v, (E.frz [.row t sz [cs]] w).snap b (off + j) = some v ∧ VR E v g := fun j g hj => by
       have := Qew h0 (i := 0) rfl hl hb hj;obtain ⟨v, hv1, hv2⟩ := this;refine ⟨v, ?_, ?_⟩
       · rw [ho]; simpa using hv1
       · first | exact hv2 | exact hv2.2 | exact hv2.1
      refine .ref b off cs (fun j => ((E.frz [.row t sz [cs]] w).snap b (off + j)).getD undef) (fun j hj => ?_) (fun j g hg => ?_)
      · obtain ⟨v, hv, _⟩ := hrow j (cs[j]'(by omega)) (by simp);rw [hv]; rfl
      · obtain ⟨v, hv, hvr⟩ := hrow j g (by simpa using hg);rw [hv];exact hvr.mono h2.ext
   · cases hg
 · rw [if_neg hk] at hg;exact (ha.at_ k g hg).mono h2.ext
end Gv
