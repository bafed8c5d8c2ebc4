/- maps.Keys of a set of hashes, and its iterator. -/
import Derived.Test.YtnenmmdpclglhaaGreatDoorP10
import Derived.Shelf.SlIter.Collect
import Derived.Deep.RegionWith
import Derived.Test.YtnenmmdpclglhaaGreatDoorProg
import Derived.KernelRfl
import Derived.Test.YtnenmmdpclglhaaGreatDoorP9
set_option linter.unusedVariables false
set_option maxRecDepth 100000
namespace Gv.Tryz
open Go Gv Go.Proofs Go.RowKit
def encV (l : List UInt8) : Value := .agg (bytesV l).toArray
theorem bytesV_len (l : List UInt8) : (bytesV l).length = l.length := by simp [bytesV]
theorem bytesV_one (l : List UInt8) : ∀ v ∈ bytesV l, v.oneCell' = true := by
  intro v hv
  obtain ⟨c, _, rfl⟩ := List.mem_map.1 hv
  rfl
theorem bytesV_all (l : List UInt8) : (bytesV l).toArray.all (·.oneCell') = true := by
  rw [Array.all_eq_true_iff_forall_mem]
  intro v hv
  exact bytesV_one l v (by simpa using hv)
def zero32 : Array Value := #[.int .u8 0, .int .u8 0, .int .u8 0, .int .u8 0, .int .u8 0, .int .u8 0, .int .u8 0, .int .u8 0, .int .u8 0, .int .u8 0, .int .u8 0, .int .u8 0, .int .u8 0, .int .u8 0, .int .u8 0, .int .u8 0, .int .u8 0, .int .u8 0, .int .u8 0, .int .u8 0, .int .u8 0, .int .u8 0, .int .u8 0, .int .u8 0, .int .u8 0, .int .u8 0, .int .u8 0, .int .u8 0, .int .u8 0, .int .u8 0, .int .u8 0, .int .u8 0]
theorem alloc_h (w : World) : (Instr.alloc 44 true (.tuple #[])).run Tryz.prog w = .ok (.pointer (some ⟨w.heap.size, 0, none⟩)) (w.alloc (.cells zero32 44)) := by
  unfold Instr.alloc
  simp only [Sem.run_bind, Tryz.zeroValue44, Result.andThen_ok]
  rfl
theorem info_h : (Tryz.prog.info? 44).map (·.size) = some 32 := by kernel_rfl
theorem store_h {w : World} {b : Nat} {old : Array Value} {t : TypeId} {l : List UInt8} (hl : l.length = 32) (hb : w.heap[b]? = some (.cells old t (0, 0))) (ho : old.size = 32) :
    (Instr.storeAt 44 (.pointer (some ⟨b, 0, none⟩)) (encV l)).run Tryz.prog w = .ok () (w.setRow b (bytesV l).toArray) := by
  have hs : (bytesV l).toArray.size = 32 := by rw [List.size_toArray, bytesV_len, hl]
  unfold Instr.storeAt
  simp only [Instr.sureAddr, Sem.run_bind, Sem.run_pure, Result.andThen_ok]
  exact run_storeVar_row w b t _ old _ hb (by rw [info_h, hs]) (by rw [hs, ho]) (bytesV_all l)
theorem load_h {w : World} {b : Nat} {t : TypeId} {fz : Nat × Nat} {l : List UInt8} (hl : l.length = 32) (h : w.heap[b]? = some (.cells (bytesV l).toArray t fz)) : (Instr.loadAt 44 (.pointer (some ⟨b, 0, none⟩))).run Tryz.prog w = .ok (encV l) w := by
  have ht : tab Tryz.prog 44 = some (32, true) := by kernel_rfl
  obtain ⟨v, h1, h2⟩ := load_run (P := Tryz.prog) (w := w) (E := Env.all w) ht (by decide) (b := b) (off := 0) (cs := bytesG l) (fun j => .int .u8 (l.getD j 0).toNat) (by simp [bytesG, hl]) (fun j hj => by simp [World.cell?, h, bytesV, hl, hj, List.getD]) (fun j g hj _ => by
    simp only [bytesG, List.getElem?_map] at hj
    cases hq : l[j]? with
    | none => rw [hq] at hj; cases hj
    | some c => rw [hq] at hj; simp at hj; subst hj; simp [List.getD, hq]; exact .int _ _)
  rw [List.take_of_length_le (by simp [bytesG, hl])] at h2
  rw [h1]
  have := argsR_agg (E := Env.all w) (vs := #[v]) (l := l) ⟨rfl, fun i g hg => by
    match i with
    | 0 => simp at hg; subst hg; exact h2
    | i + 1 => simp at hg⟩
  have e : v = .agg (bytesV l).toArray := by simpa using this
  rw [e]; rfl
abbrev HL := { l : List UInt8 // l.length = 32 }
def encH (h : HL) : Value := encV h.1
set_option maxHeartbeats 4000000 in
theorem keys1 (F : Fence) (n : Nat) (h69 : F.fn 109) (hro : F.round = none) (hn : 1 ≤ n) (l Bm off b clock : Nat) (es : Array MapEntry) (hbo : BornOK es clock) (hks : ∀ e ∈ es.toList, ∃ h : HL, e.key = encH h) (J : List HL → World → Prop)
    (hY : ∀ pre x W, J pre W → pre.length < es.size → YieldAt F (n - 1) Tryz.prog l #[encH x] W fun e W' => e = .returned (.bool true) ∧ J (pre ++ [x]) W' ∧ KeepsWalks W W')
    (W : World) (hJ : AbidesFrom W.heap.size J)
    (hm : W.cell? ⟨Bm, off, none⟩ = some (.map (some b))) (hb : W.heap[b]? = some (.map es clock)) (h0 : J [] W) :
    CallsIn F n Tryz.prog 109 #[.func (.yield l) #[] #[], .pointer (some ⟨Bm, off, none⟩)] W fun e W' => (∃ v, e = .returned v) ∧ ∃ hs : List HL, (hs.map encH).Perm (es.toList.map MapEntry.key) ∧ J hs W' := by
  refine callsIn_of_wp Tryz.func109 rfl h69 ?_ hro
  simp only [Tryz.ntmps109, List.size_toArray, List.length_cons, List.length_nil, Nat.reduceAdd, Nat.reduceSub, Array.replicate_succ, Array.replicate_zero, List.push_toArray, List.append_toArray, List.nil_append, List.cons_append]
  gi_wp2_with (first
    | (gi_at_range; refine wpListIn_range_at _ rfl _ _ rfl _ _ Tryz.underlying107 b clock es rfl hb hbo ?_; intro w0 hrg0 hg0 hs0)
    | gi_in)
  go_frame
  gi_loopw [3] (fun _ wr => ∃ (seen : Array Nat) (xs : List MapEntry) (hs : List HL), WalkAt wr b W.heap.size es clock seen ∧ Came es seen xs ∧ hs.map encH = xs.map MapEntry.key ∧ J hs wr)
    (fun _ wr => wr.rangeLeft b W.heap.size)
  case atStart =>
    exact ⟨#[], [], [], hrg0, Came.nil es, rfl, hJ [] W w0 none h0 hg0 (fun r e => by cases e)⟩
  case round =>
    obtain ⟨seen, xs, hs, hrg, hC, hsx, hJs⟩ := hrel
    gi_wp2_with (first
      | (refine wpListIn_next_at _ rfl _ rfl b W.heap.size clock es hbo seen xs hC rfl hrg ?_ ?_)
      | gi_in)
    · -- NOTHING IS LEFT
      intro hp
      gi_wp2
      go_end0
      exact ⟨⟨_, rfl⟩, hs, by rw [hsx]; exact hp.map _, hJs⟩
    · -- AN ENTRY HAS COME: yield(k)
      intro e w2 hem hC2 hlt hrg2 hmu hg2 hs2 hen
      obtain ⟨x, ex⟩ := hks e (by simpa using hem)
      have hsx2 : (hs ++ [x]).map encH = (xs ++ [e]).map MapEntry.key := by rw [List.map_append, List.map_append, hsx]; simp [ex]
      have hlen : hs.length < es.size := by
        have := congrArg List.length hsx
        rw [List.length_map, List.length_map] at this
        omega
      rw [ex] at hen ⊢
      have hal := World.alloc_heap_new w2 (.cells zero32 44)
      have hst := store_h x.2 hal rfl
      obtain ⟨w3, hw3⟩ : ∃ w3, (w2.alloc (.cells zero32 44)).setRow w2.heap.size (bytesV x.1).toArray = w3 := ⟨_, rfl⟩
      rw [hw3] at hst
      have hx3 : w3.heap[w2.heap.size]? = some (.cells (bytesV x.1).toArray 44 (0, 0)) := by rw [← hw3]; exact setRow_heap _ _ _ _ _ _ hal
      have ho3 : ∀ k, k < w2.heap.size → w3.heap[k]? = w2.heap[k]? := fun k hk => by
        rw [← hw3, setRow_other _ _ _ _ (by omega)]
        exact Below.heap_alloc _ _ k hk
      have hs3 : w3.heap.size = w2.heap.size + 1 := by rw [← hw3]; simp
      have hk3 : KeepsWalks w2 w3 := ⟨by omega, fun k o hk ho => (ho3 k (Array.getElem?_eq_some_iff.1 hk).1).trans hk⟩
      have hg3 : w2.grownBy w3 none := ⟨by rw [← hw3]; rfl, by rw [← hw3]; rfl, by rw [← hw3]; rfl, by omega, fun k hk _ => ho3 k hk⟩
      have hlo := load_h x.2 hx3
      have hJ3 : J hs w3 := hJ hs w2 w3 none (hJ hs wr w2 (some W.heap.size) hJs hg2 (fun r e => by cases e; exact ⟨Nat.le_refl _, hrg.iter_walk⟩)) hg3 (fun r e => by cases e)
      have hrg3 := hrg2.of_walks hk3
      have hmu3 : w3.rangeLeft b W.heap.size < wr.rangeLeft b W.heap.size := by rw [hrg3.left_eq, ← hrg2.left_eq]; exact hmu
      obtain ⟨fn, tmps, assign, body, hy, hR⟩ := hY hs x w3 hJ3 hlen
      change (Instr.yield l #[encV x.1]).run Tryz.prog w3 = _ at hy
      clear hw3 hs2
      gi_wp2_with (first
        | (refine wpListIn_alloc rfl rfl (alloc_h _) ?_)
        | (refine wpListIn_store rfl rfl hst ?_)
        | (refine wpListIn_load rfl rfl hlo ?_)
        | gi_in)
      refine hR.mono ?_
      rintro e' W4 ⟨rfl, hJ4, hk4⟩
      gi_wp2
      have hrg4 := hrg3.of_walks hk4
      go_roundw
      case rel => exact ⟨_, xs ++ [e], hs ++ [x], hrg4, hC2, hsx2, hJ4⟩
      case measure => rw [hrg4.left_eq, ← hrg3.left_eq]; exact hmu3
end Gv.Tryz
/- slices.Collect of an iterator of hashes. -/
set_option linter.unusedVariables false
set_option maxRecDepth 100000
namespace Gv.Tryz
open Go Gv Go.Proofs Go.RowKit Go.Maps Go.Sort Go.Shelf
theorem keysGives (F : Fence) (n : Nat) (h69 : F.fn 109) (hro : F.round = none) (hn : 1 ≤ n) (Bm off b clock : Nat) (es : Array MapEntry) (hbo : BornOK es clock) (hks : ∀ e ∈ es.toList, ∃ h : HL, e.key = encH h) (w : World) (hBm : Bm < w.heap.size)
    (hm : w.cell? ⟨Bm, off, none⟩ = some (.map (some b))) (hb : w.heap[b]? = some (.map es clock)) :
    SeqGives F n Tryz.prog 109 #[.pointer (some ⟨Bm, off, none⟩)] encH (fun hs : List HL => (hs.map encH).Perm (es.toList.map MapEntry.key)) es.size w := fun l J W hW hJ hY h0 =>
  keys1 F n h69 hro hn l Bm off b clock es hbo hks J hY W hJ ((hW.cell (p := ⟨Bm, off, none⟩) hBm).trans hm) ((hW.block b (Array.getElem?_eq_some_iff.1 hb).1).trans hb) h0
theorem foldl_fill : ∀ (xs : List Value) (k : Nat) (cs : Array Value), k + xs.length = cs.size → ((xs.zipIdx k).foldl (fun cs p => cs.setIfInBounds p.2 p.1) cs).toList = cs.toList.take k ++ xs
  | [], k, cs, h => by simp at h ⊢; rw [List.take_of_length_le (by simp [h])]
  | x :: r, k, cs, h => by
    simp only [List.zipIdx_cons, List.foldl_cons]
    rw [foldl_fill r (k + 1) _ (by simp at h ⊢; omega)]
    have hk : k < cs.toList.length := by simp at h ⊢; omega
    rw [Array.toList_setIfInBounds, List.take_succ_eq_append_getElem (by simpa using hk), List.getElem_set_self]
    rw [List.take_set_of_le (Nat.le_refl k)]
    simp
theorem build_h (w : World) {l : List UInt8} (hl : l.length = 32) : (Instr.buildSlice 33 1 #[(0, encV l)]).run Tryz.prog w = .ok (.slice (some ⟨w.heap.size, 0, none⟩) 1 1) (w.alloc (.cells (bytesV l).toArray 44)) := by
  have hs : (bytesV l).toArray.size = 32 := by rw [List.size_toArray, bytesV_len, hl]
  have hf : ∀ a : Array Value, a.size = 32 → Instr.fill (fun i => some (i * 32, 32)) a [(0, encV l)] = some (bytesV l).toArray := by
    intro a ha
    have hc : (encV l).cells = (bytesV l).toArray := rfl
    simp only [Instr.fill, hc, hs, ha, ne_eq, not_true_eq_false, decide_false, Bool.false_or, Nat.zero_mul, gt_iff_lt, Nat.lt_irrefl, if_false, Bool.false_eq_true, Nat.zero_add]
    congr 1
    rw [← Array.foldl_toList, Array.toList_zipIdx]
    apply Array.ext'
    have := foldl_fill (bytesV l) 0 a (by rw [bytesV_len, hl, ha])
    rw [List.take_zero, List.nil_append] at this
    exact this
  unfold Instr.buildSlice
  simp only [Sem.run_bind, run_underlying Tryz.underlying33, Tryz.sizeOf44, Result.andThen_ok]
  rw [if_neg (by decide)]
  rw [if_neg (by decide)]
  simp only [Sem.run_bind, Tryz.zeroValue44, Result.andThen_ok, Sem.run_pure]
  rw [hf _ (by simp)]
  rfl
def apAssign : Code := (Code.region 2 #[{ dst := some 5, op := Op.alloc 44, type := 0, pos := "iter.go:51", after := #[], guard := none }, { dst := none, op := Op.store 44 (Operand.tmp 5) (Operand.tmp 7), type := 0, pos := "iter.go:51", after := #[{ on := 0, ground := Ground.data }, { on := 0, ground := Ground.phase }], guard := none }] false)
def apBody : Code := (Code.block 1 (Code.region 3 #[{ dst := some 8, op := Op.load 33 (Operand.tmp 2), type := 33, pos := "iter.go:52", after := #[], guard := none }, { dst := some 9, op := Op.load 44 (Operand.tmp 5), type := 44, pos := "iter.go:52", after := #[], guard := none }, { dst := some 10, op := Op.buildSlice 33 1 #[(0, Operand.tmp 9)], type := 33, pos := "iter.go:52", after := #[{ on := 1, ground := Ground.data }], guard := none }, { dst := some 11, op := Op.call { callee := Callee.builtin Builtin.append, args := #[Operand.tmp 8, Operand.tmp 10], argTypes := #[33, 33] }, type := 33, pos := "iter.go:52", after := #[{ on := 0, ground := Ground.data }, { on := 2, ground := Ground.data }], guard := none }, { dst := none, op := Op.store 33 (Operand.tmp 2) (Operand.tmp 11), type := 0, pos := "iter.go:52", after := #[{ on := 3, ground := Ground.data }, { on := 3, ground := Ground.chain }, { on := 0, ground := Ground.phase }, { on := 1, ground := Ground.phase }, { on := 2, ground := Ground.phase }, { on := 3, ground := Ground.phase }], guard := none }] false))
def apRec (fn : FuncId) (sv : Value) (Bs D : Nat) (st : LoopState) (pend : Option Code) : Loop :=
  { state := st, pending := pend, fn, tmps := #[.slice none 0 0, sv, .pointer (some ⟨Bs, 0, none⟩), undef, .slice none 0 0, undef, sv, undef, undef, undef, undef, undef, undef], params := #[7], assign := apAssign, body := apBody, defers := D }
def cellsH (hs : List HL) : List Value := hs.flatMap fun h => bytesV h.1
theorem cellsH_len (hs : List HL) : (cellsH hs).length = hs.length * 32 := by
  induction hs with
  | nil => rfl
  | cons h r ih => simp only [cellsH, List.flatMap_cons, List.length_append, List.length_cons] at ih ⊢; rw [ih, bytesV_len, h.2]; omega
theorem cellsH_snoc (hs : List HL) (h : HL) : cellsH (hs ++ [h]) = cellsH hs ++ bytesV h.1 := by simp [cellsH]
structure ApAt (w0 : World) (fn : FuncId) (sv : Value) (Bs l D : Nat) (ss : List HL) (W : World) : Prop where
  box : ∃ v, W.heap[Bs]? = some (.cells #[v] 33 (0, 0)) ∧ W.ownsRow w0.heap.size 44 32 v ss.length (cellsH ss) ∧ (v = .slice none 0 0 ↔ ss = [])
  L : W.heap[l]? = some (.loop (apRec fn sv Bs D .ready none))
  K : W.heap[D]? = some (.deferred (some []))
  below : Below w0.heap.size w0 W
theorem ap_abides (w0 : World) (fn : FuncId) (sv : Value) (Bs l D B : Nat) (hB : w0.heap.size ≤ B) : AbidesFrom B (ApAt w0 fn sv Bs l D) := fun s W W' row h hg hrow => by
  have hrow' : ∀ r, row = some r → ∃ o : Obj, W.heap[r]? = some o ∧ o.isWalk = true := fun r e => (hrow r e).2
  obtain ⟨v, hv, hr, hn⟩ := h.box
  exact ⟨⟨v, (grownBy_keeps hg hrow' hv rfl).trans hv, ownsRow_abides_a hr hg hrow', hn⟩, (grownBy_keeps hg hrow' h.L rfl).trans h.L, (grownBy_keeps hg hrow' h.K rfl).trans h.K,
    h.below.grown hg h.below.size (fun k e => Nat.le_trans hB (hrow k e).1)⟩
end Gv.Tryz
/- slices.AppendSeq and slices.Collect of an iterator of hashes: the walk. -/
set_option linter.unusedVariables false
set_option maxRecDepth 100000
namespace Gv.Tryz
open Go Gv Go.Proofs Go.RowKit Go.Maps Go.Sort Go.Shelf
theorem info_hash : ∃ i : TypeInfo, Tryz.prog.info? 44 = some i ∧ i.zero = some (.agg zero32) ∧ i.size = 32 ∧ i.bytes = 32 := by
  cases h : Tryz.prog.info? 44 with
  | none =>
    have : (Tryz.prog.info? 44).isSome = true := by kernel_rfl
    rw [h] at this; cases this
  | some i =>
    have h1 : (Tryz.prog.info? 44).bind (·.zero) = some (.agg zero32) := by kernel_rfl
    have h2 : (Tryz.prog.info? 44).map (·.size) = some 32 := by kernel_rfl
    have h3 : (Tryz.prog.info? 44).map (·.bytes) = some 32 := by kernel_rfl
    rw [h] at h1 h2 h3
    exact ⟨i, rfl, h1, by simpa using h2, by simpa using h3⟩
set_option maxHeartbeats 800000 in
theorem apYield (F : Fence) (m : Nat) (w0 : World) (fn : FuncId) (hfn : F.fn fn) (sv : Value) (Bs l D : Nat) (hBl : Bs ≠ l) (hDl : D ≠ l) (hDB : D ≠ Bs) (h0B : w0.heap.size ≤ Bs) (h0l : w0.heap.size ≤ l)
    (N : Nat) (hN : N ≤ maxLen) (hNb : N * 32 ≤ 140737488355328) (ss : List HL) (x : HL) (W : World) (h : ApAt w0 fn sv Bs l D ss W) (hlen : ss.length < N) :
    YieldAt F m Tryz.prog l #[encH x] W fun e W' => e = .returned (.bool true) ∧ ApAt w0 fn sv Bs l D (ss ++ [x]) W' ∧ KeepsWalks W W' := by
  have hne : (33 : TypeId) ≠ 44 := by decide
  obtain ⟨i0, hi, hz0, hz1, hz2⟩ := info_hash
  obtain ⟨v, hv, hrow, _⟩ := h.box
  refine ⟨fn, #[.slice none 0 0, sv, .pointer (some ⟨Bs, 0, none⟩), undef, .slice none 0 0, undef, sv, encH x, undef, undef, undef, undef, undef], apAssign, apBody, by simpa [apRec] using run_yield (P := Tryz.prog) (args := #[encH x]) h.L rfl, roundIn_of_wpIn hfn ?_⟩
  have hl : l < W.heap.size := (Array.getElem?_eq_some_iff.1 h.L).1
  have hal := World.alloc_heap_new W (.cells zero32 44)
  have hst := store_h x.2 hal rfl
  obtain ⟨W1, hW1⟩ : ∃ w3, (W.alloc (.cells zero32 44)).setRow W.heap.size (bytesV x.1).toArray = w3 := ⟨_, rfl⟩
  rw [hW1] at hst
  have hx1 : W1.heap[W.heap.size]? = some (.cells (bytesV x.1).toArray 44 (0, 0)) := by rw [← hW1]; exact setRow_heap _ _ _ _ _ _ hal
  have ho1 : ∀ k, k < W.heap.size → W1.heap[k]? = W.heap[k]? := fun k hk => by
    rw [← hW1, setRow_other _ _ _ _ (by omega)]
    exact Below.heap_alloc _ _ k hk
  have hs1 : W1.heap.size = W.heap.size + 1 := by rw [← hW1]; simp
  have hg1 : W.grownBy W1 none := ⟨by rw [← hW1]; rfl, by rw [← hW1]; rfl, by rw [← hW1]; rfl, by omega, fun k hk _ => ho1 k hk⟩
  have hk1 : KeepsWalks W W1 := ⟨by omega, fun k o hk ho => (ho1 k (Array.getElem?_eq_some_iff.1 hk).1).trans hk⟩
  clear hW1
  have old : ∀ {k : Nat} {o : Obj}, W.heap[k]? = some o → W1.heap[k]? = some o := fun hk => (ho1 _ (Array.getElem?_eq_some_iff.1 hk).1).trans hk
  have hv1 := old hv
  have hK1 := old h.K
  have hL1 := old h.L
  have hob : v.ownBlock = none ∨ v.ownBlock ≠ none := by cases v.ownBlock <;> simp
  have hrow1 : W1.ownsRow w0.heap.size 44 32 v ss.length (cellsH ss) := hrow.kept hg1 hob
  have hb1 : Below w0.heap.size w0 W1 := h.below.grown hg1 h.below.size (fun k e => by cases e)
  have hl1 : l < W1.heap.size := by omega
  have hbr := run_beginRound (P := Tryz.prog) hL1 rfl
  obtain ⟨W2, hW2⟩ : ∃ W2, W1.putObj l (.loop { apRec fn sv Bs D .ready none with state := .busy }) = W2 := ⟨_, rfl⟩
  rw [hW2] at hbr
  have hg2 : W1.grownBy W2 (some l) := by rw [← hW2]; exact grownBy_putObj_a _ _ _
  have hk2 : KeepsWalks W W2 := hk1.trans (by rw [← hW2]; exact KeepsWalks.putObj _ hL1 rfl)
  have hv2 : W2.heap[Bs]? = some (.cells #[v] 33 (0, 0)) := by rw [← hW2]; exact (World.putObj_heap_other hBl).trans hv1
  have hK2 : W2.heap[D]? = some (.deferred (some [])) := by rw [← hW2]; exact (World.putObj_heap_other hDl).trans hK1
  have hL2 : W2.heap[l]? = some (.loop { apRec fn sv Bs D .ready none with state := .busy }) := by rw [← hW2]; exact World.putObj_heap_same hl1
  have hx2 : W2.heap[W.heap.size]? = some (.cells (bytesV x.1).toArray 44 (0, 0)) := by rw [← hW2]; exact (World.putObj_heap_other (by omega)).trans hx1
  have hrow2 : W2.ownsRow w0.heap.size 44 32 v ss.length (cellsH ss) := hrow1.kept hg2 (ownsRow_ne_a hrow1 hL1 (fun cur e => by first | cases e | exact hne (Obj.cells.inj e).2.1))
  have hb2 : Below w0.heap.size w0 W2 := hb1.grown hg2 hb1.size (fun k e => by cases e; exact h0l)
  have hlo := load_h x.2 hx2
  clear hW2
  obtain ⟨hc2, hf2⟩ := cell_of_box_a hv2
  have hBlt : Bs < W2.heap.size := (Array.getElem?_eq_some_iff.1 hv2).1
  have hl2 : l < W2.heap.size := (Array.getElem?_eq_some_iff.1 hL2).1
  have hDlt : D < W2.heap.size := (Array.getElem?_eq_some_iff.1 hK2).1
  have ne_of : ∀ {j : Nat} {o : Obj}, W2.heap[j]? = some o → (∀ cur, o ≠ .cells cur 44 (0, 0)) → some j ≠ v.ownBlock := fun hj hno => by
    rcases ownsRow_ne_a hrow2 hj hno with e | e
    · rw [e]; simp
    · exact fun e' => e e'.symm
  have hbd := build_h W2 x.2
  have h32 : (bytesV x.1).length = 32 := by rw [bytesV_len, x.2]
  obtain ⟨V, hV⟩ : ∃ V, W2.alloc (.cells (bytesV x.1).toArray 44) = V := ⟨_, rfl⟩
  rw [hV] at hbd
  have hcl : ∀ (j : Nat) (u : Value), (bytesV x.1)[j]? = some u → V.cell? (Addr.add ⟨W2.heap.size, 0, none⟩ j) = some u := fun j u hj => by
    have ha : Addr.add ⟨W2.heap.size, 0, none⟩ j = ⟨W2.heap.size, j, none⟩ := by unfold Addr.add; split <;> simp_all
    have := World.alloc_heap_new W2 (.cells (bytesV x.1).toArray 44)
    rw [ha, ← hV]
    simp only [World.cell?, this]
    simpa using hj
  have hrowV : V.ownsRow w0.heap.size 44 32 v ss.length (cellsH ss) := by rw [← hV]; exact hrow2.alloc _
  have hsV : V.heap.size = W2.heap.size + 1 := by rw [← hV]; simp
  have oldV : ∀ {k : Nat} {o : Obj}, W2.heap[k]? = some o → V.heap[k]? = some o := fun hk => by rw [← hV]; exact (Below.heap_alloc _ _ _ (Array.getElem?_eq_some_iff.1 hk).1).trans hk
  have hbV : Below w0.heap.size w0 V := by rw [← hV]; exact hb2.alloc hb2.size _
  have hkV : KeepsWalks W V := hk2.trans (by rw [← hV]; exact KeepsWalks.alloc _ _)
  have h0V := hbV.size
  clear hV
  unfold apAssign
  gi_wp2_with (first
    | (refine wpListIn_alloc (t := 44) rfl rfl (alloc_h _) ?_)
    | (refine wpListIn_store (t := 44) (x := .tmp 5) (y := .tmp 7) (w' := W1) rfl rfl ?_ ?_; exact hst)
    | gi_round_op_a)
  unfold apBody
  gi_wp2_with (first
    | (refine wpListIn_load (t := 44) (x := .tmp 5) (v := encV x.1) rfl rfl ?_ ?_; exact hlo)
    | (refine wpListIn_buildSlice1 (t := 33) (x := .tmp 9) (v := .slice (some ⟨W2.heap.size, 0, none⟩) 1 1) (w' := V) rfl rfl ?_ ?_; exact hbd)
    | (gi_at_builtin; refine wpListIn_append_own V rfl (.tmp 8) (.tmp 10) 33 rfl w0.heap.size 44 i0 (.agg zero32) 32 32 Tryz.underlying33 hi hz0 hz1 hz2 rfl (by decide) v _ _ rfl hrowV ⟨W2.heap.size, 0, none⟩ 1 1 (bytesV x.1) rfl (by rw [h32]) hcl (bytesV_one x.1) (by omega) (by omega) h0V ?_; intro v' w3 hown' hg3 hnil3
       have hv3 : w3.heap[Bs]? = some (.cells #[v] 33 (0, 0)) := (hg3.block Bs (by omega) (ne_of hv2 (fun cur e => by first | cases e | exact hne (Obj.cells.inj e).2.1))).trans (oldV hv2)
       obtain ⟨hc3, hf3⟩ := cell_of_box_a hv3
       obtain ⟨g', cap', cur', rfl, hbase', hgb', hr1, hr2, hr3, hr4⟩ : ∃ g' cap' cur', v' = .slice (some ⟨g', 0, none⟩) (ss.length + 1) cap' ∧ w0.heap.size ≤ g' ∧ w3.heap[g']? = some (.cells cur' 44 (0, 0)) ∧ ss.length + 1 ≤ cap' ∧ cap' ≤ maxLen ∧ cur'.size = cap' * 32 ∧ cur'.toList.take ((ss.length + 1) * 32) = cellsH ss ++ bytesV x.1 := by
         rcases hown'.2 with ⟨_, h0⟩ | h'
         · exact absurd h0 (by omega)
         · exact h'
       go_frame)
    | gi_round_op_a)
  have hL3 : w3.heap[l]? = some (.loop { apRec fn sv Bs D .ready none with state := .busy }) := (hg3.block l (by omega) (ne_of hL2 (fun cur e => by first | cases e | exact hne (Obj.cells.inj e).2.1))).trans (oldV hL2)
  have hK3 : w3.heap[D]? = some (.deferred (some [])) := (hg3.block D (by omega) (ne_of hK2 (fun cur e => by first | cases e | exact hne (Obj.cells.inj e).2.1))).trans (oldV hK2)
  obtain ⟨w4, hw4⟩ : ∃ w4, w3.setCell ⟨Bs, 0, none⟩ (.slice (some ⟨g', 0, none⟩) (ss.length + 1) cap') = w4 := ⟨_, rfl⟩
  rw [hw4]
  have hg4 : w3.grownBy w4 (some Bs) := by rw [← hw4]; exact grownBy_setCell0_a _ _ _
  have hv4 : w4.heap[Bs]? = some (.cells #[.slice (some ⟨g', 0, none⟩) (ss.length + 1) cap'] 33 (0, 0)) := by rw [← hw4]; exact heap_setCell_box_a _ hv3
  have hL4 : w4.heap[l]? = some (.loop { apRec fn sv Bs D .ready none with state := .busy }) := (hg4.block l (Array.getElem?_eq_some_iff.1 hL3).1 (fun e => hBl (by cases e; rfl))).trans hL3
  have hK4 : w4.heap[D]? = some (.deferred (some [])) := (hg4.block D (Array.getElem?_eq_some_iff.1 hK3).1 (fun e => hDB (by cases e; rfl))).trans hK3
  have hrow4 := hown'.kept hg4 (ownsRow_ne_a hown' hv3 (fun cur e => by first | cases e | exact hne (Obj.cells.inj e).2.1))
  have hl4 : l < w4.heap.size := (Array.getElem?_eq_some_iff.1 hL4).1
  have hb3 : Below w0.heap.size w0 w3 := hbV.grown hg3 h0V (fun k e => (hrow2.lt k e).1)
  have hb4 : Below w0.heap.size w0 w4 := hb3.grown hg4 hb3.size (fun k e => by cases e; exact h0B)
  have hk4 : KeepsWalks W w4 := (hkV.trans (KeepsWalks.of_grownBy hg3 (ownsRow_not_walk_a hrowV))).trans (by rw [← hw4]; exact KeepsWalks.setCell _ _ _)
  clear hw4
  refine ⟨_, _, run_endRound none hL4, rfl, ⟨⟨_, (World.putObj_heap_other hBl).trans hv4, ?_, by simp⟩, World.putObj_heap_same hl4, (World.putObj_heap_other hDl).trans hK4, hb4.grown (grownBy_putObj_a _ _ _) hb4.size (fun k e => by cases e; exact h0l)⟩, hk4.trans (KeepsWalks.putObj _ hL4 rfl)⟩
  have := hrow4.kept (grownBy_putObj_a w4 l (.loop { { apRec fn sv Bs D .ready none with state := .busy } with state := if (none : Option Code).isNone then .ready else .done, pending := none })) (ownsRow_ne_a hrow4 hL4 (fun cur e => by first | cases e | exact hne (Obj.cells.inj e).2.1))
  rw [cellsH_snoc, List.length_append]
  exact this
set_option maxHeartbeats 2000000 in
theorem appendSeq (F : Fence) (n : Nat) (h11 : F.fn 108) (hro : F.round = none) (hn : 2 ≤ n) (g : Nat) (lb : Array Value) (hFg : F.fn g) (eg : ∀ args w, (callFunc g args).run Tryz.prog w = .ok (.enter g args) w)
    (S : List HL → Prop) (N : Nat) (hN : N ≤ maxLen) (hNb : N * 32 ≤ 140737488355328) (w : World) (hseq : SeqGives F (n - 1) Tryz.prog g lb encH S N w) :
    CallsIn F n Tryz.prog 108 #[.slice none 0 0, .func (.func g) #[] lb] w fun e w' => ∃ (v : Value) (ss : List HL), e = .returned v ∧ S ss ∧ w'.ownsRow w.heap.size 44 32 v ss.length (cellsH ss) ∧ (v = .slice none 0 0 ↔ ss = []) ∧ Below w.heap.size w w' := by
  have h1 : 1 ≤ n := by omega
  have hne : (33 : TypeId) ≠ 44 := by decide
  refine callsIn_of_wp_marks Tryz.func108 rfl h11 ?_ hro
  simp only [Tryz.ntmps108, List.size_toArray, List.length_cons, List.length_nil, Nat.reduceAdd, Nat.reduceSub, Array.replicate_succ, Array.replicate_zero, List.push_toArray, List.append_toArray, List.nil_append, List.cons_append]
  gi_wp2
  refine wpIn_rangeFunc ?_
  intro fn hfn
  rw [hro]
  obtain ⟨W0, hW0⟩ : ∃ W0, w.alloc (.cells #[.slice none 0 0] 33) = W0 := ⟨_, rfl⟩
  have hs0 : W0.heap.size = w.heap.size + 1 := by rw [← hW0]; simp
  have hv0 : W0.heap[w.heap.size]? = some (.cells #[.slice none 0 0] 33 (0, 0)) := by rw [← hW0]; exact World.alloc_heap_new w _
  have hb0 : Below w.heap.size w W0 := by rw [← hW0]; exact (Below.refl _ w).alloc (Nat.le_refl _) _
  rw [hW0]
  obtain ⟨W1, hW1⟩ : ∃ W1, (W0.alloc (.deferred (some []))).alloc (.loop (apRec fn (.func (.func g) #[] lb) w.heap.size W0.heap.size .ready none)) = W1 := ⟨_, rfl⟩
  have hold : ∀ k, k < W0.heap.size → W1.heap[k]? = W0.heap[k]? := fun k hk => by
    rw [← hW1]; exact (Below.heap_alloc _ _ k (by simp; omega)).trans (Below.heap_alloc _ _ k hk)
  have hb1 : Below w.heap.size w W1 := by rw [← hW1]; exact (hb0.alloc hb0.size _).alloc (by have := hb0.size; simp; omega) _
  have hs1 : W1.heap.size = W0.heap.size + 2 := by rw [← hW1]; simp
  have hM : ApAt w fn (.func (.func g) #[] lb) w.heap.size (W0.heap.size + 1) W0.heap.size [] W1 :=
    ⟨⟨_, (hold w.heap.size (by omega)).trans hv0, ⟨rfl, .inl ⟨rfl, rfl⟩⟩, by simp⟩,
     by rw [← hW1]; have := World.alloc_heap_new (W0.alloc (.deferred (some []))) (.loop (apRec fn (.func (.func g) #[] lb) w.heap.size W0.heap.size .ready none)); rwa [World.size_alloc] at this,
     by rw [← hW1]; exact (Below.heap_alloc _ _ _ (by simp)).trans (World.alloc_heap_new W0 _), hb1⟩
  refine ⟨W0.heap.size + 1, [{ target := .collected W0.heap.size, args := #[] }], W1, { target := .fn (.func g) lb, args := #[.func (.yield (W0.heap.size + 1)) #[] #[]] }, W1, g,
    #[.func (.yield (W0.heap.size + 1)) #[] #[]] ++ lb, W1, ?_, ?_, ?_, ?_, fun _ => h1, ?_⟩
  · rw [← hW1]; exact run_enterLoop_outer _ _ _ _ _
  · simp [resolve, go_sem]
  · intro f' hf'; simp [Target.leads] at hf'; subst hf'; exact hFg
  · simp [invoke, go_sem, eg]
  · refine (hseq (W0.heap.size + 1) (ApAt w fn (.func (.func g) #[] lb) w.heap.size (W0.heap.size + 1) W0.heap.size) W1 hb1 (ap_abides _ _ _ _ _ _ _ hb1.size)
      (fun pre x W hJ hl => apYield F (n - 1 - 1) w fn hfn _ w.heap.size (W0.heap.size + 1) W0.heap.size (by omega) (by omega) (by omega) (Nat.le_refl _) (by omega) N hN hNb pre x W hJ hl) hM).mono ?_
    rintro e W2 ⟨⟨v0, rfl⟩, ss, hS, h2⟩
    obtain ⟨v, hv, hrow, hnil⟩ := h2.box
    have hend := run_endLoop (P := Tryz.prog) h2.L (by simp [apRec])
    obtain ⟨W3, hW3⟩ : ∃ W3, W2.putObj (W0.heap.size + 1) (.loop { apRec fn (.func (.func g) #[] lb) w.heap.size W0.heap.size .ready none with state := .exhausted }) = W3 := ⟨_, rfl⟩
    rw [hW3] at hend
    have hg3 : W2.grownBy W3 (some (W0.heap.size + 1)) := by rw [← hW3]; exact grownBy_putObj_a _ _ _
    have hv3 : W3.heap[w.heap.size]? = some (.cells #[v] 33 (0, 0)) := by rw [← hW3]; exact (World.putObj_heap_other (by omega)).trans hv
    have hK3 : W3.heap[W0.heap.size]? = some (.deferred (some [])) := by rw [← hW3]; exact (World.putObj_heap_other (by omega)).trans h2.K
    have hrow3 := hrow.kept hg3 (ownsRow_ne_a hrow h2.L (fun cur e => by first | cases e | exact hne (Obj.cells.inj e).2.1))
    have hb3 : Below w.heap.size w W3 := h2.below.grown hg3 h2.below.size (fun k e => by cases e; omega)
    obtain ⟨hc3, hf3⟩ := cell_of_box_a hv3
    clear hW3
    refine ⟨none, W3, hend, ?_⟩
    gi_wp2
    rw [← hs0]
    refine ⟨by simp, .inl ⟨_, _, rfl, run_takeDeferred hK3, ?_⟩⟩
    exact ⟨_, results_tmp rfl _ _ _, v, ss, rfl, hS, hrow3.kept (grownBy_putObj_a _ _ _) (ownsRow_ne_a hrow3 hK3 (fun cur e => by first | cases e | exact hne (Obj.cells.inj e).2.1)), hnil, hb3.grown (grownBy_putObj_a _ _ _) hb3.size (fun k e => by cases e; omega)⟩
set_option maxHeartbeats 1000000 in
theorem collect (F : Fence) (n : Nat) (h8 : F.fn 79) (h11 : F.fn 108) (hro : F.round = none) (hn : 3 ≤ n) (g : Nat) (lb : Array Value) (hFg : F.fn g) (eg : ∀ args w, (callFunc g args).run Tryz.prog w = .ok (.enter g args) w)
    (S : List HL → Prop) (N : Nat) (hN : N ≤ maxLen) (hNb : N * 32 ≤ 140737488355328) (w : World) (hseq : SeqGives F (n - 1 - 1) Tryz.prog g lb encH S N w) :
    CallsIn F n Tryz.prog 79 #[.func (.func g) #[] lb] w fun e w' => ∃ (v : Value) (ss : List HL), e = .returned v ∧ S ss ∧ w'.ownsRow w.heap.size 44 32 v ss.length (cellsH ss) ∧ (v = .slice none 0 0 ↔ ss = []) ∧ Below w.heap.size w w' := by
  have h1 : 1 ≤ n := by omega
  have e11 : ∀ args w, (callFunc 108 args).run Tryz.prog w = .ok (.enter 108 args) w := enters_of Tryz.func108 (by kernel_rfl) rfl
  refine callsIn_of_wp Tryz.func79 rfl h8 ?_ hro
  simp only [Tryz.ntmps79, List.size_toArray, List.length_cons, List.length_nil, Nat.reduceAdd, Nat.reduceSub, Array.replicate_succ, Array.replicate_zero, List.push_toArray, List.append_toArray, List.nil_append, List.cons_append]
  gi_wp2_with (gi_at_fn 108; refine (appendSeq F (n - 1) h11 hro (by omega) g lb hFg eg S N hN hNb _ hseq).mono ?_; rintro e w' ⟨v, ss, rfl, hS, hrow, hnil, hb⟩)
  go_ret
  exact ⟨v, ss, rfl, hS, hrow, hnil, hb⟩
end Gv.Tryz
/- slices.Collect(maps.Keys(set)): the set's hashes, in some order. -/
set_option linter.unusedVariables false
set_option linter.unusedSimpArgs false
set_option maxRecDepth 20000
set_option maxHeartbeats 4000000
namespace Gv.Tryz
open Go Gv Go.Proofs Go.RowKit
def hsB (l : List Hs) : List UInt8 := l.flatMap (·.1)
theorem cellsH_B (l : List Hs) : cellsH l = bytesV (hsB l) := by
  induction l with
  | nil => rfl
  | cons h r ih => simp only [cellsH, hsB, List.flatMap_cons, bytesV, List.map_append] at ih ⊢; rw [ih]
theorem hsG_B (l : List Hs) : (hsG l).flatten = bytesG (hsB l) := by
  induction l with
  | nil => rfl
  | cons h r ih => simp only [hsG, hsB, List.flatMap_cons, List.map_cons, List.flatten_cons, bytesG, List.map_append] at ih ⊢; rw [ih]
theorem vr_key {E : Env} {v : Value} {h : Hs} (hv : VR E v (.agg (bytesG h.1))) : v = encH h := by
  have := argsR_agg (E := E) (vs := #[v]) (l := h.1) ⟨rfl, fun i g hg => by
    match i with
    | 0 => simp at hg; subst hg; simpa using hv
    | i + 1 => simp at hg⟩
  have h2 : v = .agg (bytesV h.1).toArray := by simpa using this
  exact h2
theorem encH_inj {a b : Hs} (h : encH a = encH b) : a = b := by
  have h1 : (bytesV a.1).toArray = (bytesV b.1).toArray := by injection h
  have h2 : bytesV a.1 = bytesV b.1 := by simpa using h1
  refine Subtype.ext ?_
  have : ∀ (x y : List UInt8), bytesV x = bytesV y → x = y := by
    intro x
    induction x with
    | nil => intro y h; cases y with
      | nil => rfl
      | cons => cases h
    | cons c r ih =>
      intro y h
      cases y with
      | nil => cases h
      | cons d s =>
        simp only [bytesV, List.map_cons, List.cons.injEq, Value.int.injEq, true_and] at h
        rw [ih s h.2]
        have : c.toNat = d.toNat := by have := h.1; omega
        rw [UInt8.toNat_inj.1 this]
  exact this _ _ h2
theorem perm_of_map {α β : Type} {f : α → β} (hf : ∀ a b, f a = f b → a = b) {l m : List α} (h : (l.map f).Perm (m.map f)) : l.Perm m := by
  classical
  rw [List.perm_iff_count] at h ⊢
  intro a
  have := h (f a)
  have hc : ∀ x : List α, (x.map f).count (f a) = x.count a := by
    intro x
    induction x with
    | nil => rfl
    | cons b r ih =>
      rw [List.map_cons, List.count_cons, List.count_cons, ih]
      by_cases e : b = a
      · simp [e]
      · have : f b ≠ f a := fun q => e (hf _ _ q)
        simp [e, this]
  rwa [hc, hc] at this
theorem gCollect {α : Type} (enc : α → GVal) (m : List (Hs × α)) (hm : m.length ≤ 1000000000) {O : List GObj} {o st oc stc : Nat} (hO : O[o]? = some (.map st (kvG enc m))) (hOc : O[oc]? = some (.row stc 1 [[.map o st]])) :
    GCalls Tryz.prog 79 [.func (.func 109) [] [.ptr oc stc 0 0]] O (fun g O' => ∃ l : List Hs, l.Perm (m.map (·.1)) ∧ g = .slice (hsG l) .none ∧ O' = O) := by
  refine ⟨by kernel_rfl, fun E w vs hs ha => ?_⟩
  obtain ⟨hsz, hat⟩ := ha
  match vs, hsz with
  | ⟨[v]⟩, _ =>
    have hv := hat 0 _ rfl
    change VR E v _ at hv
    cases hv with
    | func fn fs cs gs ks hf hk hfs hcs =>
      obtain ⟨fs⟩ := fs
      obtain ⟨cs⟩ := cs
      match fs, hf with
      | [], _ =>
        match cs, hk with
        | [c], _ =>
          have hc := hcs 0 _ rfl
          change VR E c (.ptr oc stc 0 0) at hc
          cases hc with
          | ptr b off _ _ _ _ lc hlc hbc hoff =>
            have hre := hs.real _ _ hOc
            obtain ⟨lc2, hlc2, hsz2, _, hre⟩ := hre
            rw [hlc] at hlc2; cases hlc2
            rw [hbc] at hre
            obtain ⟨cur, el, hcw, hcs, hct, hrows, _⟩ := hre
            obtain ⟨q, h1, _, h2⟩ := hrows 0 (.map o st) rfl
            have hoff2 : off = lc.off := by rw [hoff]; omega
            have hcell : w.cell? ⟨b, off, none⟩ = some q := by
              simp only [World.cell?, hcw, hoff2]
              simpa using h1
            have hBm : b < w.heap.size := (Array.getElem?_eq_some_iff.1 hcw).1
            cases h2 with
            | map r o st l hl hb =>
              obtain ⟨b2, es, clock, e, hw, hes, hent, hloc, hsn2, hbo⟩ := map_block hs (VR.map r o st l hl hb) hO
              cases e
              have hln : es.size = m.length := by
                have : es.toList.length = (kvG enc m).length := hes
                rw [Array.length_toList] at this
                rw [this, kvG, List.length_map]
              have hkey : es.toList.map MapEntry.key = (m.map (·.1)).map encH := by
                refine List.ext_getElem? fun i => ?_
                rw [List.getElem?_map, List.getElem?_map, List.getElem?_map]
                cases hi : m[i]? with
                | none =>
                  have : es.toList[i]? = none := by
                    rw [List.getElem?_eq_none_iff] at hi ⊢
                    rw [Array.length_toList]; omega
                  rw [this]; rfl
                | some p =>
                  have hlt := (List.getElem?_eq_some_iff.1 hi).1
                  have hi2 : i < es.toList.length := by rw [Array.length_toList]; omega
                  have he : es.toList[i]? = some (es.toList[i]) := List.getElem?_eq_getElem hi2
                  have := (hent i _ (.agg (bytesG p.1.1), enc p.2) he (by simp [kvG, hi])).1
                  rw [he]
                  exact congrArg some (vr_key this)
              have hks : ∀ e ∈ es.toList, ∃ h : HL, e.key = encH h := by
                intro e he
                have : e.key ∈ es.toList.map MapEntry.key := List.mem_map_of_mem he
                rw [hkey] at this
                obtain ⟨h, _, eh⟩ := List.mem_map.1 this
                exact ⟨h, eh.symm⟩
              have hseq := keysGives Fence.wide 3 trivial rfl (by omega) b off r clock es hbo hks w hBm hcell hw
              have hc := collect Fence.wide 5 trivial trivial rfl (by omega) 109 #[.pointer (some ⟨b, off, none⟩)] trivial (enters_of Tryz.func109 (by kernel_rfl) rfl) _ es.size (by rw [hln]; exact Nat.le_trans hm (by decide)) (by omega) w hseq
              refine (callsIn_wide.1 hc).mono ?_
              rintro e' w' ⟨v, ss, rfl, hS, hrow, hnil, hbel⟩
              have hperm : ss.Perm (m.map (·.1)) := perm_of_map (fun _ _ => encH_inj) (by rw [← hkey]; exact hS)
              rcases hrow.2 with ⟨rfl, hz⟩ | ⟨g, cap, cur, rfl, hbase, hgb, r1, r2, r3, r4⟩
              · have hss : ss = [] := List.eq_nil_of_length_eq_zero hz
                subst hss
                obtain ⟨p1, p2⟩ := hs.belowO hbel
                exact ⟨_, E, O, .slice [] .none, rfl, p1, p2, .slice none 0 0 [] .none 32 (fun _ => undef) rfl (Nat.le_refl _) (by simp) (by simp) (by simp) trivial, [], hperm, rfl, rfl⟩
              · have hcur : ∀ j, j < ss.length * 32 → cur[j]? = (bytesV (hsB ss))[j]? := by
                  intro j hj
                  rw [← cellsH_B, ← r4, List.getElem?_take_of_lt hj, Array.getElem?_toList]
                have hbl : (bytesV (hsB ss)).length = ss.length * 32 := by rw [← cellsH_B, cellsH_len]
                obtain ⟨p1, p2⟩ := hs.belowSeal hbel (n := ss.length * 32) hbase hgb (fun j v hj hv => by
                  rw [hcur j hj] at hv
                  exact bytesV_one _ v (List.mem_of_getElem? hv))
                refine ⟨_, _, O, .slice (hsG ss) .none, rfl, p1, p2, .slice _ _ _ _ _ 32 (fun j => (bytesV (hsB ss)).getD j undef) (by rw [hsG_len]) r1 (fun x hx => by obtain ⟨h, _, rfl⟩ := List.mem_map.1 hx; exact len32 h) (fun _ => ⟨g, 0, rfl, fun j hj => ?_⟩) (fun j gv hj => ?_) trivial, ss, hperm, rfl, rfl⟩
                · show (if g = g then (if 0 + j < ss.length * 32 then cur[0 + j]? else none) else E.snap g (0 + j)) = _
                  rw [if_pos rfl, Nat.zero_add, if_pos hj, hcur j hj, List.getD_eq_getElem?_getD]
                  cases hq2 : (bytesV (hsB ss))[j]? with
                  | none => rw [List.getElem?_eq_none_iff] at hq2; omega
                  | some x => rfl
                · rw [hsG_B, bytesG, List.getElem?_map] at hj
                  rw [List.getD_eq_getElem?_getD, bytesV, List.getElem?_map]
                  cases hq2 : (hsB ss)[j]? with
                  | none => rw [hq2] at hj; cases hj
                  | some x =>
                    rw [hq2] at hj
                    cases hj
                    exact .int _ _
theorem gKeys {α : Type} (enc : α → GVal) (m : List (Hs × α)) {st : Nat} : GCalls Tryz.prog 80 [.map 0 st] [.map st (kvG enc m)] (fun g O' => ∃ stc, g = .func (.func 109) [] [.ptr 1 stc 0 0] ∧ O' = [.map st (kvG enc m), .row stc 1 [[.map 0 st]]]) := by
  refine h80.calls mixS (by simp) ?_
  simp only [gstart, s80, List.cons_append, List.nil_append, List.length_cons, List.length_nil, Nat.reduceAdd, Nat.reduceSub, List.replicate_succ, List.replicate_zero]
  simp +contextual -implicitDefEqProofs (maxSteps := 2000000) (disch := omega) only [↓boxV, GVal.cells, GVal.ofConst, ↓resV, resG, ↓reduceIte, Nat.reduceEqDiff, Nat.reduceAdd, Nat.reduceSub, Nat.reduceLeDiff, reduceCtorEq, Tag.cap, GVal.solid, Nat.reduceBEq, Nat.reduceMul, Nat.reduceLT, vcA, ↓vcB, vcC, fbFy, e80, vcD]
  exact fun s => ⟨s, rfl, rfl⟩
end Gv.Tryz
/- Contracts: graph's sorted, there's closure, IndexFunc. -/
set_option linter.unusedVariables false
set_option linter.unusedSimpArgs false
set_option maxRecDepth 20000
set_option maxHeartbeats 4000000
namespace Gv.Tryz
open Go Gv Go.Proofs
open Nat (reduceEqDiff reduceAdd reduceSub reduceLeDiff reduceMul reduceLT)
theorem sortR_perm {a b : List Hs} (h : a.Perm b) : sortR a = sortR b := ss_eq (sortR_ss a) (sortR_ss b) fun z => by rw [sortR_mem, sortR_mem]; exact h.mem_iff
theorem gSorted {α : Type} (enc : α → GVal) (m : List (Hs × α)) (hm : m.length ≤ 1000000000) (st : Nat) : GCalls Tryz.prog 45 [.map 0 st] [.map st (kvG enc m)] (fun g O' => g = .slice (hsG (sortR (m.map (·.1)))) .none ∧ O' = [.map st (kvG enc m)]) := by
  refine GCalls.dropTo ?_
  refine h45.calls mixS (by simp) ?_
  simp only [gstart, s45, List.cons_append, List.nil_append, List.length_cons, List.length_nil, reduceAdd, reduceSub, List.replicate_succ, List.replicate_zero]
  simp +contextual -implicitDefEqProofs (maxSteps := 2000000) (disch := omega) only [optV, ↓sliceV, bound, cutTag, hiTag, GVal.cells, GVal.ofConst, ↓resV, resG, ↓reduceIte, reduceEqDiff, reduceAdd, reduceSub, reduceLeDiff, reduceCtorEq, Tag.cap, GVal.solid, Nat.reduceBEq, reduceMul, reduceLT, vcA, ↓vcB, vcC, fbFy, e45, vcD]
  refine (gKeys enc m).mono ?_
  rintro g O' ⟨stc, rfl, rfl⟩
  simp +contextual -implicitDefEqProofs (maxSteps := 2000000) (disch := omega) only [optV, ↓sliceV, bound, cutTag, hiTag, GVal.cells, GVal.ofConst, ↓resV, resG, ↓reduceIte, reduceEqDiff, reduceAdd, reduceSub, reduceLeDiff, reduceCtorEq, Tag.cap, GVal.solid, Nat.reduceBEq, reduceMul, reduceLT, vcA, ↓vcB, vcC, fbFy, e45, vcD]
  refine (gCollect enc m hm (O := [.map st (kvG enc m), .row stc 1 [[.map 0 st]]]) (o := 0) (oc := 1) rfl rfl).mono ?_
  rintro g O' ⟨l, hl, rfl, rfl⟩
  have hll : l.length = m.length := by rw [hl.length_eq, List.length_map]
  have cS := hSort l .none (by omega) (by simp)
  rw [sortR_perm hl] at cS
  simp +contextual -implicitDefEqProofs (maxSteps := 2000000) (disch := omega) only [optV, ↓sliceV, bound, cutTag, hiTag, GVal.cells, GVal.ofConst, ↓resV, resG, ↓reduceIte, reduceEqDiff, reduceAdd, reduceSub, reduceLeDiff, reduceCtorEq, Tag.cap, GVal.solid, Nat.reduceBEq, reduceMul, reduceLT, vcA, ↓vcB, vcC, fbFy, e45, vcD]
  refine cS.then ?_ (by rfl)
  simp +contextual -implicitDefEqProofs (maxSteps := 2000000) (disch := omega) only [optV, ↓sliceV, bound, cutTag, hiTag, GVal.cells, GVal.ofConst, ↓resV, resG, ↓reduceIte, reduceEqDiff, reduceAdd, reduceSub, reduceLeDiff, reduceCtorEq, Tag.cap, GVal.solid, Nat.reduceBEq, reduceMul, reduceLT, vcA, ↓vcB, vcC, fbFy, e45, vcD]
  exact ⟨_, [.map st (kvG enc m)], [.row stc 1 [[.map 0 st]]], rfl, leA_refl _, rfl, rfl⟩
theorem gThere1 (m : GM) (h : Hs) (st s : Nat) : GCalls Tryz.prog 81 [.agg (bytesG h.1), .ref [.ptr 0 st 0 0]] (gObj st s m) (fun g O' => g = .bool (!(look m h).isSome) ∧ O' = gObj st s m) := by
  have cH := gHas m h st s
  refine h81.calls mixS (by simp) ?_
  simp only [gstart, s81, List.cons_append, List.nil_append, List.length_cons, List.length_nil, reduceAdd, reduceSub, List.replicate_succ, List.replicate_zero]
  simp +contextual -implicitDefEqProofs (maxSteps := 2000000) (disch := omega) only [↓unV, ↓loadV, ↓boxV, GVal.cells, GVal.ofConst, ↓resV, resG, ↓reduceIte, reduceEqDiff, reduceAdd, reduceSub, reduceLeDiff, reduceCtorEq, Tag.cap, GVal.solid, Nat.reduceBEq, reduceMul, reduceLT, vcA, ↓vcB, vcC, fbFy, e81, vcD, v32]
  refine cH.mono ?_
  rintro g O' ⟨rfl, rfl⟩
  simp +contextual -implicitDefEqProofs (maxSteps := 2000000) (disch := omega) only [↓unV, ↓loadV, ↓boxV, GVal.cells, GVal.ofConst, ↓resV, resG, ↓reduceIte, reduceEqDiff, reduceAdd, reduceSub, reduceLeDiff, reduceCtorEq, Tag.cap, GVal.solid, Nat.reduceBEq, reduceMul, reduceLT, vcA, ↓vcB, vcC, fbFy, e81, vcD]
theorem gIndexF {F : FuncId} {caps : List GVal} {a b : GObj} (p : Hs → Bool) (hN : ∀ h : Hs, GCalls Tryz.prog F (.agg (bytesG h.1) :: caps) [a, b] (fun g O' => g = .bool (p h) ∧ O' = [a, b])) (ha : a.isClock = false)
    (l : List Hs) (v : Nat) (hl : l.length ≤ 1000000) :
    GCalls Tryz.prog 95 [.own 2 v 0 l.length, .func (.func F) [] caps] [a, b, .row v 32 (hsG l)] (fun g O' => g = .int .i64 (match l.findIdx? p with | some i => (i : Int) | none => -1) ∧ O' = [a, b, .row v 32 (hsG l)]) := by
  have hcl : ∀ Y, clockOf (a :: Y) = none := fun Y => by cases a <;> first | rfl | cases ha
  have hst : ∀ (r : List GObj) (K : Nat → Prop), stamp (a :: r) K = ∀ st, K st := fun r K => by unfold stamp; rw [hcl]
  have htk : ∀ r : List GObj, tickO (a :: r) = a :: r := fun r => tickO_none (hcl r)
  refine h95.calls mixS (by simp) ?_
  simp only [gstart, s95, List.cons_append, List.nil_append, List.length_cons, List.length_nil, reduceAdd, reduceSub, List.replicate_succ, List.replicate_zero]
  simp +contextual -implicitDefEqProofs (maxSteps := 2000000) (disch := omega) only [↓lenV, binV, ↓loadV, ↓indexAddrV, GVal.cells, GVal.ofConst, ↓resV, resG, ↓reduceIte, reduceEqDiff, reduceAdd, reduceSub, reduceLeDiff, reduceCtorEq, Tag.cap, GVal.solid, Nat.reduceBEq, reduceMul, reduceLT, vcA, ↓vcB, vcC, fbFy, e95, hst, htk, hsG_len, vcD]
  refine vcSLoop_by (ι := { k : Nat // k ≤ l.length ∧ ∀ x ∈ l.take k, p x = false }) (fun k => ⟨[.own 2 v 0 l.length, .func (.func F) [] caps, .any, .any, .int .i64 0, .any, .own 2 v 0 l.length, .int .i64 l.length, .int .i64 (k.1 : Nat)] ++ List.replicate 10 .any, [a, b, .row v 32 (hsG l)]⟩) (fun k => l.length - k.1) ?_ ?_
  · exact Into.first ⟨0, by omega, by simp⟩ ⟨[], by simp⟩ (by simp [WL, leG_self, leG_any])
  · rintro ⟨k, hk, hp⟩
    change k ≤ l.length at hk
    have hp : ∀ x ∈ l.take k, p x = false := hp
    by_cases h : k < l.length
    · have d0 : ((k : Int) < (l.length : Int)) = True := eq_true (by omega)
      have eS := hsG_at l k h
      have eg : l.getD k h0 = l[k] := by simp [List.getD, h]
      rw [eg] at eS
      have ht : l.take (k + 1) = l.take k ++ [l[k]] := List.take_succ_eq_append_getElem h
      generalize l[k] = x at eS ht
      have cN := hN x
      by_cases hx : p x = true
      · rw [hx] at cN
        have cN := cN.keep2 ha
        have hf : l.findIdx? p = some k := by
          have e : l = l.take k ++ x :: l.drop (k + 1) := by
            have := List.take_append_drop (k + 1) l
            rw [ht, List.append_assoc] at this
            exact this.symm
          rw [e, List.findIdx?_append, List.findIdx?_eq_none_iff.2 hp, List.findIdx?_cons, hx]
          simp
          omega
        rw [hf]
        simp +contextual -implicitDefEqProofs (maxSteps := 2000000) (disch := omega) only [↓lenV, binV, ↓loadV, ↓indexAddrV, GVal.cells, GVal.ofConst, ↓resV, resG, ↓reduceIte, reduceEqDiff, reduceAdd, reduceSub, reduceLeDiff, reduceCtorEq, Tag.cap, GVal.solid, Nat.reduceBEq, reduceMul, reduceLT, vcA, ↓vcB, vcC, fbFy, e95, hst, htk, hsG_len, toNat0, Nat.sub_zero, d0, eS, true_imp_iff, vcD, v32]
        refine ⟨by omega, by omega, by omega, (cN _).mono ?_⟩
        rintro g O' ⟨rfl, rfl⟩
        simp +contextual -implicitDefEqProofs (maxSteps := 2000000) (disch := omega) only [↓lenV, binV, ↓loadV, ↓indexAddrV, GVal.cells, GVal.ofConst, ↓resV, resG, ↓reduceIte, reduceEqDiff, reduceAdd, reduceSub, reduceLeDiff, reduceCtorEq, Tag.cap, GVal.solid, Nat.reduceBEq, reduceMul, reduceLT, vcA, ↓vcB, vcC, fbFy, e95, hst, htk, vcD]
      · have hx : p x = false := by simpa using hx
        rw [hx] at cN
        have cN := cN.keep2 ha
        simp +contextual -implicitDefEqProofs (maxSteps := 2000000) (disch := omega) only [↓lenV, binV, ↓loadV, ↓indexAddrV, GVal.cells, GVal.ofConst, ↓resV, resG, ↓reduceIte, reduceEqDiff, reduceAdd, reduceSub, reduceLeDiff, reduceCtorEq, Tag.cap, GVal.solid, Nat.reduceBEq, reduceMul, reduceLT, vcA, ↓vcB, vcC, fbFy, e95, hst, htk, hsG_len, toNat0, Nat.sub_zero, d0, eS, true_imp_iff, vcD, v32]
        refine ⟨by omega, by omega, by omega, (cN _).mono ?_⟩
        rintro g O' ⟨rfl, rfl⟩
        simp +contextual -implicitDefEqProofs (maxSteps := 2000000) (disch := omega) only [↓lenV, binV, ↓loadV, ↓indexAddrV, GVal.cells, GVal.ofConst, ↓resV, resG, ↓reduceIte, reduceEqDiff, reduceAdd, reduceSub, reduceLeDiff, reduceCtorEq, Tag.cap, GVal.solid, Nat.reduceBEq, reduceMul, reduceLT, vcA, ↓vcB, vcC, fbFy, e95, hst, htk, vcD]
        exact Into.at ⟨k + 1, by omega, by rw [ht]; intro y hy; rcases List.mem_append.1 hy with q | q; exact hp y q; rw [List.mem_singleton.1 q]; exact hx⟩ (by show l.length - (k + 1) < l.length - k; omega) ⟨[], by simp⟩ (by simp [WL, leG_self, leG_any, leG_int])
    · have d0 : ((k : Int) < (l.length : Int)) = False := eq_false (by omega)
      have hf : l.findIdx? p = none := by
        rw [List.findIdx?_eq_none_iff]
        rw [List.take_of_length_le (by omega)] at hp
        exact hp
      rw [hf]
      simp +contextual -implicitDefEqProofs (maxSteps := 2000000) (disch := omega) only [↓lenV, binV, ↓loadV, ↓indexAddrV, GVal.cells, GVal.ofConst, ↓resV, resG, ↓reduceIte, reduceEqDiff, reduceAdd, reduceSub, reduceLeDiff, reduceCtorEq, Tag.cap, GVal.solid, Nat.reduceBEq, reduceMul, reduceLT, vcA, ↓vcB, vcC, fbFy, e95, hst, htk, hsG_len, d0, vcD]
theorem drop32y (h : Hs) : List.drop 32 (bytesG h.1) = [] := List.drop_of_length_le (by rw [len32]; omega)
theorem gDeleteF {F : FuncId} {caps : List GVal} {a b : GObj} (p : Hs → Bool) (hN : ∀ h : Hs, GCalls Tryz.prog F (.agg (bytesG h.1) :: caps) [a, b] (fun g O' => g = .bool (p h) ∧ O' = [a, b])) (ha : a.isClock = false)
    (l : List Hs) (v : Nat) (hl : l.length ≤ 1000000) :
    GCalls Tryz.prog 76 [.own 2 v 0 l.length, .func (.func F) [] caps] [a, b, .row v 32 (hsG l)] (fun g O' => g = .own 2 v 0 (l.filter fun h => !p h).length ∧ O' = [a, b, .row v 32 (hsG (l.filter fun h => !p h))]) := by
  have hcl : ∀ Y, clockOf (a :: Y) = none := fun Y => by cases a <;> first | rfl | cases ha
  have hst : ∀ (r : List GObj) (K : Nat → Prop), stamp (a :: r) K = ∀ st, K st := fun r K => by unfold stamp; rw [hcl]
  have htk : ∀ r : List GObj, tickO (a :: r) = a :: r := fun r => tickO_none (hcl r)
  refine GCalls.dropTo ?_
  have cI := gIndexF p hN ha l v hl
  cases hf : l.findIdx? p with
  | none =>
    rw [hf] at cI
    have hall : l.filter (fun h => !p h) = l := List.filter_eq_self.2 fun x hx => by rw [List.findIdx?_eq_none_iff.1 hf x hx]; rfl
    rw [hall]
    refine h76.calls mixS (by simp) ?_
    simp only [gstart, s76, List.cons_append, List.nil_append, List.length_cons, List.length_nil, reduceAdd, reduceSub, List.replicate_succ, List.replicate_zero]
    simp +contextual -implicitDefEqProofs (maxSteps := 2000000) (disch := omega) only [↓op_clear, ↓lenV, binV, ↓unV, optV, ↓loadV, ↓storeV, ↓indexAddrV, ↓allocV, ↓sliceV, bound, cutTag, hiTag, GVal.cells, GVal.ofConst, ↓resV, resG, ↓reduceIte, reduceEqDiff, reduceAdd, reduceSub, reduceLeDiff, reduceCtorEq, ↓clearV, aggV, Tag.cap, GVal.solid, Nat.reduceBEq, reduceMul, reduceLT, vcA, ↓vcB, vcC, fbFy, e76, hst, htk, vcD]
    refine cI.mono ?_
    rintro g O' ⟨rfl, rfl⟩
    simp +contextual -implicitDefEqProofs (maxSteps := 2000000) (disch := omega) only [↓op_clear, ↓lenV, binV, ↓unV, optV, ↓loadV, ↓storeV, ↓indexAddrV, ↓allocV, ↓sliceV, bound, cutTag, hiTag, GVal.cells, GVal.ofConst, ↓resV, resG, ↓reduceIte, reduceEqDiff, reduceAdd, reduceSub, reduceLeDiff, reduceCtorEq, ↓clearV, aggV, Tag.cap, GVal.solid, Nat.reduceBEq, reduceMul, reduceLT, vcA, ↓vcB, vcC, fbFy, e76, hst, htk, vcD]
    exact ⟨_, [a, b, .row v 32 (hsG l)], [], rfl, leA_refl _, rfl, rfl⟩
  | some i =>
    rw [hf] at cI
    have hi : i < l.length := (List.findIdx?_eq_some_iff_findIdx_eq.1 hf).1
    have n1 : ((i : Int) = -1) = False := eq_false (by omega)
    refine h76.calls mixS (by simp) ?_
    simp only [gstart, s76, List.cons_append, List.nil_append, List.length_cons, List.length_nil, reduceAdd, reduceSub, List.replicate_succ, List.replicate_zero]
    simp +contextual -implicitDefEqProofs (maxSteps := 2000000) (disch := omega) only [↓op_clear, ↓lenV, binV, ↓unV, optV, ↓loadV, ↓storeV, ↓indexAddrV, ↓allocV, ↓sliceV, bound, cutTag, hiTag, GVal.cells, GVal.ofConst, ↓resV, resG, ↓reduceIte, reduceEqDiff, reduceAdd, reduceSub, reduceLeDiff, reduceCtorEq, ↓clearV, aggV, Tag.cap, GVal.solid, Nat.reduceBEq, reduceMul, reduceLT, vcA, ↓vcB, vcC, fbFy, e76, hst, htk, vcD]
    refine cI.mono ?_
    rintro g O' ⟨rfl, rfl⟩
    simp +contextual -implicitDefEqProofs (maxSteps := 2000000) (disch := omega) only [↓op_clear, ↓lenV, binV, ↓unV, optV, ↓loadV, ↓storeV, ↓indexAddrV, ↓allocV, ↓sliceV, bound, cutTag, hiTag, GVal.cells, GVal.ofConst, ↓resV, resG, ↓reduceIte, reduceEqDiff, reduceAdd, reduceSub, reduceLeDiff, reduceCtorEq, ↓clearV, aggV, Tag.cap, GVal.solid, Nat.reduceBEq, reduceMul, reduceLT, vcA, ↓vcB, vcC, fbFy, e76, hst, htk, n1, vcD]
    have esp : l = l.take i ++ l[i] :: l.drop (i + 1) := by
      have := List.take_append_drop i l
      rw [List.drop_eq_getElem_cons hi] at this
      exact this.symm
    have hpi : p l[i] = true ∧ ∀ x ∈ l.take i, p x = false := by
      have := List.findIdx?_eq_some_iff_getElem.1 hf
      obtain ⟨_, h1, h2⟩ := this
      refine ⟨h1, fun x hx => ?_⟩
      obtain ⟨j, hj, rfl⟩ := List.getElem_of_mem hx
      rw [List.getElem_take]
      have := h2 j (by simp at hj; omega)
      simpa using this
    have hfl : l.take i ++ (l.drop (i + 1)).filter (fun h => !p h) = l.filter fun h => !p h := by
      conv => rhs; rw [esp]
      rw [List.filter_append, List.filter_cons, hpi.1]
      have : (l.take i).filter (fun h => !p h) = l.take i := List.filter_eq_self.2 fun x hx => by rw [hpi.2 x hx]; rfl
      rw [this]; rfl
    refine vcSLoop_by (ι := { q : (List Hs × List Hs) × (List Hs × Nat) // (q.1.2 ≠ [] ∧ q.1.1.length + q.1.2.length = q.2.2) ∧ q.2.2 + q.2.1.length = l.length ∧ q.1.1 ++ q.2.1.filter (fun h => !p h) = l.filter fun h => !p h }) (fun q => ⟨[.own 2 v 0 l.length, .func (.func F) [] caps, .any, .any, .any, .int .i64 (q.1.1.1.length : Nat), .int .i64 (q.1.2.2 : Nat)] ++ List.replicate 35 .any, [a, b, .row v 32 (hsG (q.1.1.1 ++ q.1.1.2 ++ q.1.2.1))]⟩) (fun q => q.1.2.1.length) ?_ ?_
    · have : min i l.length = i := by omega
      refine Into.first ⟨((l.take i, [l[i]]), (l.drop (i + 1), i + 1)), ⟨by simp, by simp [this]⟩, by simp; omega, hfl⟩ ⟨[], ?_⟩ ?_
      · rw [List.append_nil]
        show _ = [a, b, GObj.row v 32 (hsG (l.take i ++ [l[i]] ++ l.drop (i + 1)))]
        rw [List.append_assoc, List.singleton_append, ← esp]
      · simp [WL, leG_self, leG_any, leG_int, this]
    · rintro ⟨⟨⟨A, Z⟩, ⟨R, J⟩⟩, ⟨hZ, hJ⟩, hlen, hfil⟩
      change Z ≠ [] at hZ
      change A.length + Z.length = J at hJ
      change J + R.length = l.length at hlen
      change A ++ R.filter (fun h => !p h) = l.filter fun h => !p h at hfil
      obtain ⟨z, Z', rfl⟩ := List.exists_cons_of_ne_nil hZ
      have hAJ : A.length < J := by rw [← hJ]; simp
      cases R with
      | nil =>
        have d0 : ((J : Int) < (l.length : Int)) = False := eq_false (by simp at hlen; omega)
        have hA : A = l.filter fun h => !p h := by simpa using hfil
        obtain ⟨W, hW⟩ : ∃ W, A ++ z :: Z' ++ [] = W := ⟨_, rfl⟩
        have hWl : W.length = l.length := by rw [← hW, ← hlen, ← hJ]; simp
        have hWt : (hsG W).take A.length = hsG A := by rw [← hW]; simp [hsG]
        have hAl : A.length ≤ l.length := by omega
        simp +contextual -implicitDefEqProofs (maxSteps := 2000000) (disch := omega) only [↓op_clear, ↓lenV, binV, ↓unV, optV, ↓loadV, ↓storeV, ↓indexAddrV, ↓allocV, ↓sliceV, bound, cutTag, hiTag, GVal.cells, GVal.ofConst, ↓resV, resG, ↓reduceIte, reduceEqDiff, reduceAdd, reduceSub, reduceLeDiff, reduceCtorEq, ↓clearV, aggV, Tag.cap, GVal.solid, Nat.reduceBEq, reduceMul, reduceLT, vcA, ↓vcB, vcC, fbFy, e76, hst, htk, hsG_len, toNat0, Nat.sub_zero, d0, hW, hWl, hWt, vcD]
        exact ⟨by omega, by omega, by omega, by omega, by omega, by omega, _, [a, b, .row v 32 (hsG A)], [], rfl, leA_refl _, by rw [← hA], by rw [← hA]⟩
      | cons x R' =>
        have d0 : ((J : Int) < (l.length : Int)) = True := eq_true (by simp at hlen; omega)
        obtain ⟨W, hW⟩ : ∃ W, A ++ z :: Z' ++ x :: R' = W := ⟨_, rfl⟩
        have hWl : W.length = l.length := by rw [← hW, ← hlen, ← hJ]; simp; omega
        have eS : (hsG W).getD J [] = bytesG x.1 := by
          rw [hsG_at _ _ (by simp at hlen; omega)]
          have : W.getD J h0 = x := by
            rw [← hW, ← hJ]
            simp [List.getD, List.getElem?_append_right]
          rw [this]
        have eT : (hsG W).set A.length (bytesG x.1) = hsG (A ++ [x] ++ (Z' ++ [x]) ++ R') := by
          rw [← hW]
          simp [hsG, List.set_append]
        have eZ : (hsG W).getD A.length [] = bytesG z.1 := by
          rw [hsG_at _ _ (by simp at hlen; omega)]
          have : W.getD A.length h0 = z := by
            rw [← hW]
            simp [List.getD, List.getElem?_append_right]
          rw [this]
        have hl2 : J < l.length := by simp at hlen; omega
        have cN := hN x
        by_cases hx : p x = true
        · rw [hx] at cN
          have cN := cN.keep2 ha
          simp +contextual -implicitDefEqProofs (maxSteps := 2000000) (disch := omega) only [↓op_clear, ↓lenV, binV, ↓unV, optV, ↓loadV, ↓storeV, ↓indexAddrV, ↓allocV, ↓sliceV, bound, cutTag, hiTag, GVal.cells, GVal.ofConst, ↓resV, resG, ↓reduceIte, reduceEqDiff, reduceAdd, reduceSub, reduceLeDiff, reduceCtorEq, ↓clearV, aggV, Tag.cap, GVal.solid, Nat.reduceBEq, reduceMul, reduceLT, vcA, ↓vcB, vcC, fbFy, e76, hst, htk, hsG_len, toNat0, Nat.sub_zero, d0, hW, hWl, eS, true_imp_iff, vcD, v32]
          refine ⟨by omega, hl2, hl2, fun u => (cN _).mono ?_⟩
          rintro g O' ⟨rfl, rfl⟩
          simp +contextual -implicitDefEqProofs (maxSteps := 2000000) (disch := omega) only [↓op_clear, ↓lenV, binV, ↓unV, optV, ↓loadV, ↓storeV, ↓indexAddrV, ↓allocV, ↓sliceV, bound, cutTag, hiTag, GVal.cells, GVal.ofConst, ↓resV, resG, ↓reduceIte, reduceEqDiff, reduceAdd, reduceSub, reduceLeDiff, reduceCtorEq, ↓clearV, aggV, Tag.cap, GVal.solid, Nat.reduceBEq, reduceMul, reduceLT, vcA, ↓vcB, vcC, fbFy, e76, hst, htk, vcD]
          refine Into.at ⟨((A, z :: Z' ++ [x]), (R', J + 1)), ⟨by simp, ?_⟩, ?_, ?_⟩ ?_ ⟨[.row u 32 [bytesG x.1]], ?_⟩ (by simp [WL, leG_self, leG_any, leG_int])
          · show A.length + (z :: Z' ++ [x]).length = J + 1
            rw [← hJ]; simp; omega
          · show J + 1 + R'.length = l.length
            simp at hlen; omega
          · show A ++ R'.filter (fun h => !p h) = _
            rw [← hfil, List.filter_cons, hx]; rfl
          · show R'.length < (x :: R').length
            simp
          · show _ = [a, b, GObj.row v 32 (hsG (A ++ (z :: Z' ++ [x]) ++ R'))] ++ [GObj.row u 32 [bytesG x.1]]
            rw [← hW]; simp
        · have hx : p x = false := by simpa using hx
          rw [hx] at cN
          have cN := cN.keep2 ha
          simp +contextual -implicitDefEqProofs (maxSteps := 2000000) (disch := omega) only [↓op_clear, ↓lenV, binV, ↓unV, optV, ↓loadV, ↓storeV, ↓indexAddrV, ↓allocV, ↓sliceV, bound, cutTag, hiTag, GVal.cells, GVal.ofConst, ↓resV, resG, ↓reduceIte, reduceEqDiff, reduceAdd, reduceSub, reduceLeDiff, reduceCtorEq, ↓clearV, aggV, Tag.cap, GVal.solid, Nat.reduceBEq, reduceMul, reduceLT, vcA, ↓vcB, vcC, fbFy, e76, hst, htk, hsG_len, toNat0, Nat.sub_zero, d0, hW, hWl, eS, eT, true_imp_iff, vcD, v32]
          refine ⟨by omega, hl2, hl2, fun u => (cN _).mono ?_⟩
          rintro g O' ⟨rfl, rfl⟩
          simp +contextual -implicitDefEqProofs (maxSteps := 2000000) (disch := omega) only [↓op_clear, ↓lenV, binV, ↓unV, optV, ↓loadV, ↓storeV, ↓indexAddrV, ↓allocV, ↓sliceV, bound, cutTag, hiTag, GVal.cells, GVal.ofConst, ↓resV, resG, ↓reduceIte, reduceEqDiff, reduceAdd, reduceSub, reduceLeDiff, reduceCtorEq, ↓clearV, aggV, Tag.cap, GVal.solid, Nat.reduceBEq, reduceMul, reduceLT, vcA, ↓vcB, vcC, fbFy, e76, hst, htk, hsG_len, toNat0, hW, hWl, eZ, eT, drop32y, List.append_nil, vcD, v32]
          refine ⟨by omega, by omega, by omega, by omega, ?_⟩
          refine Into.at ⟨((A ++ [x], Z' ++ [x]), (R', J + 1)), ⟨by simp, ?_⟩, ?_, ?_⟩ ?_ ⟨[.row u 32 [bytesG x.1]], ?_⟩ (by simp [WL, leG_self, leG_any, leG_int])
          · show (A ++ [x]).length + (Z' ++ [x]).length = J + 1
            rw [← hJ]; simp; omega
          · show J + 1 + R'.length = l.length
            simp at hlen; omega
          · show A ++ [x] ++ R'.filter (fun h => !p h) = _
            rw [← hfil, List.filter_cons, hx]; simp
          · show R'.length < (x :: R').length
            simp
          · rfl
end Gv.Tryz
/- Contracts: graph's there, Ancestors. -/
set_option linter.unusedVariables false
set_option linter.unusedSimpArgs false
set_option maxRecDepth 20000
set_option maxHeartbeats 4000000
namespace Gv.Tryz
open Go Gv Go.Proofs
open Nat (reduceEqDiff reduceAdd reduceSub reduceLeDiff reduceMul reduceLT)
def meltTo (n : Nat) (K : GVal → List GObj → Prop) (g : GVal) (O' : List GObj) : Prop := (∃ g', leA g g' ∧ K g' O') ∨ ∃ t sz xs O1, g = .own O1.length t 0 xs.length ∧ O' = O1 ++ [.row t sz xs] ∧ frzLL (Gv.frz [.row t sz xs] n) xs = some xs ∧ K (.slice xs .none) O1
theorem GCalls.meltOr {P : Program} {f : FuncId} {args : List GVal} {O : List GObj} {K : GVal → List GObj → Prop} (n : Nat)
    (h : GCalls P f args O (meltTo n K)) : GCalls P f args O K := by
  refine ⟨h.1, fun E w vs hs ha => (h.2 E w vs hs ha).mono ?_⟩
  rintro e w' ⟨v, E', O', g, h1, h2, h3, h4, (⟨g', hl, hk⟩ | ⟨t, sz, xs, O1, rfl, rfl, hf, hk⟩)⟩
  · exact ⟨v, E', O', g', h1, h2, h3, hl.sound h4, hk⟩
  · obtain ⟨q0, q1, q2⟩ := h2.melt
    have h5 : VR E' v (.own 0 t 0 xs.length) := by
      cases h4 with
      | own a len cap o st i l hl hcap ha => exact .own a _ cap 0 t 0 l hl hcap ha
    exact ⟨v, _, O1, _, h1, q1, h3.trans q2, frz_sound q0 (n + 1) v _ _ h5 (frz_own rfl rfl hf), hk⟩
theorem gIndexNil {F : FuncId} {caps : List GVal} (X : List GObj) : GCalls Tryz.prog 95 [.slice [] .nil, .func (.func F) [] caps] X (fun g O' => g = .int .i64 (-1) ∧ O' = X) := by
  refine h95.calls mixS (by simp) ?_
  simp only [gstart, s95, List.cons_append, List.nil_append, List.length_cons, List.length_nil, reduceAdd, reduceSub, List.replicate_succ, List.replicate_zero]
  simp +contextual -implicitDefEqProofs (maxSteps := 2000000) (disch := omega) only [↓lenV, binV, ↓loadV, ↓indexAddrV, GVal.cells, GVal.ofConst, ↓resV, resG, ↓reduceIte, reduceEqDiff, reduceAdd, reduceSub, reduceLeDiff, reduceCtorEq, Tag.cap, GVal.solid, Nat.reduceBEq, reduceMul, reduceLT, vcA, ↓vcB, vcC, fbFy, e95, vcD]
  refine vcSLoop_by (ι := Unit) (fun _ => ⟨[.any, .any, .any, .any, .int .i64 0, .any, .any, .int .i64 0, .int .i64 0] ++ List.replicate 10 .any, X⟩) (fun _ => 0) ?_ ?_
  · exact Into.first () ⟨[], by simp⟩ (by simp [WL, leG_self, leG_any])
  · rintro ⟨⟩
    simp +contextual -implicitDefEqProofs (maxSteps := 2000000) (disch := omega) only [↓lenV, binV, ↓loadV, ↓indexAddrV, GVal.cells, GVal.ofConst, ↓resV, resG, ↓reduceIte, reduceEqDiff, reduceAdd, reduceSub, reduceLeDiff, reduceCtorEq, Tag.cap, GVal.solid, Nat.reduceBEq, reduceMul, reduceLT, vcA, ↓vcB, vcC, fbFy, e95, vcD]
    exact fun h => absurd h (Int.lt_irrefl 0)
theorem gDeleteNil {F : FuncId} {caps : List GVal} (X : List GObj) : GCalls Tryz.prog 76 [.slice [] .nil, .func (.func F) [] caps] X (fun g O' => g = .slice [] .nil ∧ O' = X) := by
  have cI := gIndexNil (F := F) (caps := caps) X
  refine h76.calls mixS (by simp) ?_
  simp only [gstart, s76, List.cons_append, List.nil_append, List.length_cons, List.length_nil, reduceAdd, reduceSub, List.replicate_succ, List.replicate_zero]
  simp +contextual -implicitDefEqProofs (maxSteps := 2000000) (disch := omega) only [↓op_clear, ↓lenV, binV, ↓unV, optV, ↓loadV, ↓storeV, ↓indexAddrV, ↓allocV, ↓sliceV, bound, cutTag, hiTag, GVal.cells, GVal.ofConst, ↓resV, resG, ↓reduceIte, reduceEqDiff, reduceAdd, reduceSub, reduceLeDiff, reduceCtorEq, ↓clearV, aggV, Tag.cap, GVal.solid, Nat.reduceBEq, reduceMul, reduceLT, vcA, ↓vcB, vcC, fbFy, e76, vcD]
  refine cI.mono ?_
  rintro g O' ⟨rfl, rfl⟩
  simp +contextual -implicitDefEqProofs (maxSteps := 2000000) (disch := omega) only [↓op_clear, ↓lenV, binV, ↓unV, optV, ↓loadV, ↓storeV, ↓indexAddrV, ↓allocV, ↓sliceV, bound, cutTag, hiTag, GVal.cells, GVal.ofConst, ↓resV, resG, ↓reduceIte, reduceEqDiff, reduceAdd, reduceSub, reduceLeDiff, reduceCtorEq, ↓clearV, aggV, Tag.cap, GVal.solid, Nat.reduceBEq, reduceMul, reduceLT, vcA, ↓vcB, vcC, fbFy, e76, vcD]
theorem gThere (m : GM) (st s : Nat) (l : List Hs) (t : Tag) (ht : t = .nil → l = []) (hl : l.length ≤ 1000000) : GCalls Tryz.prog 47 [.ptr 0 st 0 0, .slice (hsG l) t] (gObj st s m) (fun g O' => g = .slice (hsG (l.filter fun h => (look m h).isSome)) .none ∧ O' = gObj st s m) := by
  have cD := fun v => gDeleteF (p := fun h => !(look m h).isSome) (fun h => gThere1 m h st s) rfl l v hl
  simp only [Bool.not_not] at cD
  have cC := GCalls.newUp (hClone l t (by omega) ht) (O := gObj st s m) rfl (by rintro g O' (⟨_, rfl, rfl⟩ | ⟨st, rfl, rfl⟩) <;> rfl)
  refine GCalls.meltOr 2 ?_
  refine h47.calls mixS (by simp) ?_
  simp only [gstart, s47, List.cons_append, List.nil_append, List.length_cons, List.length_nil, reduceAdd, reduceSub, List.replicate_succ, List.replicate_zero]
  simp +contextual -implicitDefEqProofs (maxSteps := 2000000) (disch := omega) only [optV, ↓boxV, ↓sliceV, bound, cutTag, hiTag, GVal.cells, GVal.ofConst, ↓resV, resG, ↓reduceIte, reduceEqDiff, reduceAdd, reduceSub, reduceLeDiff, reduceCtorEq, Tag.cap, GVal.solid, Nat.reduceBEq, reduceMul, reduceLT, vcA, ↓vcB, vcC, fbFy, e47, hsG_len, vcD]
  refine cC.mono ?_
  rintro g O' ⟨g0, O1, (⟨rfl, rfl, rfl⟩ | ⟨v, rfl, rfl⟩), rfl, rfl⟩
  · simp +contextual -implicitDefEqProofs (maxSteps := 2000000) (disch := omega) only [optV, ↓boxV, ↓sliceV, bound, cutTag, hiTag, GVal.cells, GVal.ofConst, ↓resV, resG, ↓reduceIte, reduceEqDiff, reduceAdd, reduceSub, reduceLeDiff, reduceCtorEq, Tag.cap, GVal.solid, Nat.reduceBEq, reduceMul, reduceLT, vcA, ↓vcB, vcC, fbFy, e47, vcD]
    refine (gDeleteNil _).mono ?_
    rintro g O' ⟨rfl, rfl⟩
    simp +contextual -implicitDefEqProofs (maxSteps := 2000000) (disch := omega) only [optV, ↓boxV, ↓sliceV, bound, cutTag, hiTag, GVal.cells, GVal.ofConst, ↓resV, resG, ↓reduceIte, reduceEqDiff, reduceAdd, reduceSub, reduceLeDiff, reduceCtorEq, Tag.cap, GVal.solid, Nat.reduceBEq, reduceMul, reduceLT, vcA, ↓vcB, vcC, fbFy, e47, vcD]
    exact .inl ⟨.slice (hsG (List.filter (fun h => (look m h).isSome) [])) .none, by rw [leA_slice]; rfl, rfl, rfl⟩
  · simp +contextual -implicitDefEqProofs (maxSteps := 2000000) (disch := omega) only [optV, ↓boxV, ↓sliceV, bound, cutTag, hiTag, GVal.cells, GVal.ofConst, ↓resV, resG, ↓reduceIte, reduceEqDiff, reduceAdd, reduceSub, reduceLeDiff, reduceCtorEq, Tag.cap, GVal.solid, Nat.reduceBEq, reduceMul, reduceLT, vcA, ↓vcB, vcC, fbFy, e47, vcD]
    refine (cD v).mono ?_
    rintro g O' ⟨rfl, rfl⟩
    simp +contextual -implicitDefEqProofs (maxSteps := 2000000) (disch := omega) only [optV, ↓boxV, ↓sliceV, bound, cutTag, hiTag, GVal.cells, GVal.ofConst, ↓resV, resG, ↓reduceIte, reduceEqDiff, reduceAdd, reduceSub, reduceLeDiff, reduceCtorEq, Tag.cap, GVal.solid, Nat.reduceBEq, reduceMul, reduceLT, vcA, ↓vcB, vcC, fbFy, e47, vcD]
    exact .inr ⟨v, 32, _, gObj st s m, by rw [hsG_len]; rfl, rfl, frz_hs _ 1 _, rfl, rfl⟩
end Gv.Tryz
/- Contracts: ids' New, Hash, without; slices.Grow, Concat of hashes. -/
set_option linter.unusedVariables false
set_option linter.unusedSimpArgs false
set_option maxRecDepth 20000
set_option maxHeartbeats 4000000
namespace Gv.Tryz
open Go Gv Go.Proofs
open Nat (reduceEqDiff reduceAdd reduceSub reduceLeDiff reduceMul reduceLT)
theorem iHashO (ti so : Nat) (n : Int) (M O : List Hs) (j : Nat) (hj : j ≤ 1000000) (hO : O.length ≤ 1000000) : GCalls Tryz.prog 23 [.ptr 0 ti 0 0, .int .i64 (1099511627776 + (j : Int))] (idO ti so n M O) (fun g O' => g = .tuple [.agg (bytesG (O.getD j h0).1), .bool (decide (j < O.length))] ∧ O' = idO ti so n M O) := by
  have d0 : ((1099511627776 : Int) ≤ 1099511627776 + (j : Int)) = True := eq_true (by omega)
  have eV : (1099511627776 + (j : Int) - 1099511627776) = j := by omega
  have d1 : ((j : Int) < 0) = False := eq_false (by omega)
  refine GCalls.dropTo ?_
  by_cases h : j < O.length
  · have d2 : ((O.length : Int) ≤ (j : Int)) = False := eq_false (by omega)
    have eS := hsG_at O j h
    rw [decide_eq_true h]
    generalize O.getD j h0 = x at *
    refine h23.calls mixS (by simp) ?_
    simp only [gstart, s23, List.cons_append, List.nil_append, List.length_cons, List.length_nil, reduceAdd, reduceSub, List.replicate_succ, List.replicate_zero]
    simp +contextual -implicitDefEqProofs (maxSteps := 2000000) (disch := omega) only [↓lenV, binV, ↓loadV, ↓storeV, ↓fieldAddrV, ↓indexAddrV, ↓allocV, ↓buildV, ↓nilV, fillG, place, GVal.cells, GVal.ofConst, ↓resV, resG, ↓reduceIte, reduceEqDiff, reduceAdd, reduceSub, reduceLeDiff, reduceCtorEq, Tag.cap, GVal.solid, Nat.reduceBEq, reduceMul, reduceLT, vcA, ↓vcB, vcC, fbFy, e23, d0, eV, d1, d2, hsG_len, eS, all_hsG, vcD, v32]
    exact fun sb => ⟨by omega, by omega, _, idO ti so n M O, [.row sb 32 [bytesG x.1]], rfl, leA_refl _, rfl, rfl⟩
  · have d2 : ((O.length : Int) ≤ (j : Int)) = True := eq_true (by omega)
    have ex : O.getD j h0 = h0 := by rw [List.getD_eq_getElem?_getD, List.getElem?_eq_none (by omega)]; rfl
    rw [decide_eq_false h, ex]
    refine h23.calls mixS (by simp) ?_
    simp only [gstart, s23, List.cons_append, List.nil_append, List.length_cons, List.length_nil, reduceAdd, reduceSub, List.replicate_succ, List.replicate_zero]
    simp +contextual -implicitDefEqProofs (maxSteps := 2000000) (disch := omega) only [↓lenV, binV, ↓loadV, ↓storeV, ↓fieldAddrV, ↓indexAddrV, ↓allocV, ↓buildV, ↓nilV, fillG, place, GVal.cells, GVal.ofConst, ↓resV, resG, ↓reduceIte, reduceEqDiff, reduceAdd, reduceSub, reduceLeDiff, reduceCtorEq, Tag.cap, GVal.solid, Nat.reduceBEq, reduceMul, reduceLT, vcA, ↓vcB, vcC, fbFy, e23, d0, eV, d1, d2, hsG_len, vcD]
    exact fun sb => ⟨_, idO ti so n M O, [_], rfl, leA_refl _, rfl, rfl⟩
theorem iHashM (ti so : Nat) (n : Int) (M O : List Hs) (j : Nat) (hj : j ≤ 1000000) (hM : M.length ≤ 1000000) : GCalls Tryz.prog 23 [.ptr 0 ti 0 0, .int .i64 (j : Int)] (idO ti so n M O) (fun g O' => g = .tuple [.agg (bytesG (M.getD j h0).1), .bool (decide (j < M.length))] ∧ O' = idO ti so n M O) := by
  have d0 : ((1099511627776 : Int) ≤ (j : Int)) = False := eq_false (by omega)
  have d1 : ((j : Int) < 0) = False := eq_false (by omega)
  refine GCalls.dropTo ?_
  by_cases h : j < M.length
  · have d2 : ((M.length : Int) ≤ (j : Int)) = False := eq_false (by omega)
    have eS := hsG_at M j h
    rw [decide_eq_true h]
    generalize M.getD j h0 = x at *
    refine h23.calls mixS (by simp) ?_
    simp only [gstart, s23, List.cons_append, List.nil_append, List.length_cons, List.length_nil, reduceAdd, reduceSub, List.replicate_succ, List.replicate_zero]
    simp +contextual -implicitDefEqProofs (maxSteps := 2000000) (disch := omega) only [↓lenV, binV, ↓loadV, ↓storeV, ↓fieldAddrV, ↓indexAddrV, ↓allocV, ↓buildV, ↓nilV, fillG, place, GVal.cells, GVal.ofConst, ↓resV, resG, ↓reduceIte, reduceEqDiff, reduceAdd, reduceSub, reduceLeDiff, reduceCtorEq, Tag.cap, GVal.solid, Nat.reduceBEq, reduceMul, reduceLT, vcA, ↓vcB, vcC, fbFy, e23, d0, d1, d2, hsG_len, eS, all_hsG, vcD, v32]
    exact fun sb => ⟨by omega, by omega, _, idO ti so n M O, [.row sb 32 [bytesG x.1]], rfl, leA_refl _, rfl, rfl⟩
  · have d2 : ((M.length : Int) ≤ (j : Int)) = True := eq_true (by omega)
    have ex : M.getD j h0 = h0 := by rw [List.getD_eq_getElem?_getD, List.getElem?_eq_none (by omega)]; rfl
    rw [decide_eq_false h, ex]
    refine h23.calls mixS (by simp) ?_
    simp only [gstart, s23, List.cons_append, List.nil_append, List.length_cons, List.length_nil, reduceAdd, reduceSub, List.replicate_succ, List.replicate_zero]
    simp +contextual -implicitDefEqProofs (maxSteps := 2000000) (disch := omega) only [↓lenV, binV, ↓loadV, ↓storeV, ↓fieldAddrV, ↓indexAddrV, ↓allocV, ↓buildV, ↓nilV, fillG, place, GVal.cells, GVal.ofConst, ↓resV, resG, ↓reduceIte, reduceEqDiff, reduceAdd, reduceSub, reduceLeDiff, reduceCtorEq, Tag.cap, GVal.solid, Nat.reduceBEq, reduceMul, reduceLT, vcA, ↓vcB, vcC, fbFy, e23, d0, d1, d2, hsG_len, vcD]
    exact fun sb => ⟨_, idO ti so n M O, [_], rfl, leA_refl _, rfl, rfl⟩
theorem h46w : FnS Tryz.prog 75 ⟨[22], []⟩ 27 [(.tmp 4)] s75 := .mk' Tryz.func75 (by kernel_rfl) (by kernel_rfl) (by kernel_rfl) (by kernel_rfl) (by kernel_rfl) (by kernel_rfl)
theorem iGrow (n : Nat) (hn : n ≤ 4398046511104) : GCalls Tryz.prog 75 [.slice [] .nil, .int .i64 n] [] (fun g O' => (n = 0 ∧ g = .slice [] .nil ∧ O' = []) ∨ ∃ st xs, g = .own 0 st 0 0 ∧ O' = [.row st 32 xs]) := by
  refine h46w.calls mixS (by simp) ?_
  simp only [gstart, s75, List.cons_append, List.nil_append, List.length_cons, List.length_nil, reduceAdd, reduceSub, List.replicate_succ, List.replicate_zero]
  skip
  have d0 : ((n : Int) < 0) = False := eq_false (by omega)
  simp +contextual -implicitDefEqProofs (maxSteps := 2000000) (disch := omega) only [↓lenV, binV, optV, ↓sliceV, ↓ifaceV, ↓appendV, ↓srcV, bound, cutTag, hiTag, GVal.cells, GVal.ofConst, ↓resV, resG, ↓reduceIte, reduceEqDiff, reduceAdd, reduceSub, reduceLeDiff, reduceCtorEq, ↓asrcV, ↓capV, Tag.cap, GVal.solid, Nat.reduceBEq, reduceMul, reduceLT, vcA, ↓vcB, vcC, fbFy, e75, d0, false_imp_iff, true_and, vcD]
  refine ⟨fun h => ⟨by omega, by omega, by omega, by omega, by omega, by omega, fun y hy => by rw [(List.mem_replicate.1 hy).2]; rfl, by simp; omega, by simp; omega, .inr trivial, fun st => ⟨by omega, by omega, by omega, .inr ⟨st, _, rfl, rfl⟩⟩⟩, fun h => .inl (by omega)⟩

theorem iConcat (a b : List Hs) (ta tb tt : Tag) (hl : a.length + b.length ≤ 4398046511104) : GPure Tryz.prog 40 [.slice [[.slice (hsG a) ta], [.slice (hsG b) tb]] tt] (.slice (hsG (a ++ b)) .none) := by
  refine h40.pureF mixS (by simp) ?_
  simp only [gstart, s40, List.cons_append, List.nil_append, List.length_cons, List.length_nil, reduceAdd, reduceSub, List.replicate_succ, List.replicate_zero]
  simp +contextual -implicitDefEqProofs (maxSteps := 2000000) (disch := omega) only [↓lenV, binV, optV, ↓loadV, ↓indexAddrV, ↓sliceV, ↓ifaceV, ↓appendV, ↓srcV, bound, cutTag, hiTag, GVal.cells, GVal.ofConst, ↓resV, resG, ↓reduceIte, reduceEqDiff, reduceAdd, reduceSub, reduceLeDiff, reduceCtorEq, ↓asrcV, Tag.cap, GVal.solid, Nat.reduceBEq, reduceMul, reduceLT, vcA, ↓vcB, vcC, fbFy, e40, vcD]
  refine vcSLoop_by (ι := { p : Nat × Nat // (p.1 = 0 ∧ p.2 = 0) ∨ (p.1 = 1 ∧ p.2 = a.length) ∨ (p.1 = 2 ∧ p.2 = a.length + b.length) }) (fun p => ⟨[.slice [[.slice (hsG a) ta], [.slice (hsG b) tb]] tt, .any, .any, .int .i64 (p.1.2 : Nat), .any, .any, .any, .any, .any, .slice [[.slice (hsG a) ta], [.slice (hsG b) tb]] tt, .int .i64 2, .int .i64 (p.1.1 : Nat)] ++ List.replicate 24 .any, []⟩) (fun p => 2 - p.1.1) ?_ ?_
  · exact Into.first ⟨(0, 0), .inl ⟨rfl, rfl⟩⟩ ⟨[], by simp⟩ (by simp [WL, leG_self, leG_any])
  · rintro ⟨⟨k, n⟩, hk⟩
    simp only [] at hk
    rcases hk with ⟨rfl, rfl⟩ | ⟨rfl, rfl⟩ | ⟨rfl, rfl⟩
    · have d1 : ((0 : Int) + a.length < 0) = False := eq_false (by omega)
      simp +contextual -implicitDefEqProofs (maxSteps := 2000000) (disch := omega) only [↓lenV, binV, optV, ↓loadV, ↓indexAddrV, ↓sliceV, ↓ifaceV, ↓appendV, ↓srcV, bound, cutTag, hiTag, GVal.cells, GVal.ofConst, ↓resV, resG, ↓reduceIte, reduceEqDiff, reduceAdd, reduceSub, reduceLeDiff, reduceCtorEq, ↓asrcV, Tag.cap, GVal.solid, Nat.reduceBEq, reduceMul, reduceLT, vcA, ↓vcB, vcC, fbFy, e40, hsG_len, Int.reduceLT, Int.reduceLE, Int.reduceToNat, true_imp_iff, false_imp_iff, d1, vcD]
      exact Into.at ⟨(1, a.length), .inr (.inl ⟨rfl, rfl⟩)⟩ (by show _ < _; simp) ⟨[], by simp⟩ (by simp [WL, leG_self, leG_any, leG_int])
    · have d1 : ((a.length : Int) + b.length < 0) = False := eq_false (by omega)
      simp +contextual -implicitDefEqProofs (maxSteps := 2000000) (disch := omega) only [↓lenV, binV, optV, ↓loadV, ↓indexAddrV, ↓sliceV, ↓ifaceV, ↓appendV, ↓srcV, bound, cutTag, hiTag, GVal.cells, GVal.ofConst, ↓resV, resG, ↓reduceIte, reduceEqDiff, reduceAdd, reduceSub, reduceLeDiff, reduceCtorEq, ↓asrcV, Tag.cap, GVal.solid, Nat.reduceBEq, reduceMul, reduceLT, vcA, ↓vcB, vcC, fbFy, e40, hsG_len, Int.reduceLT, Int.reduceLE, Int.reduceToNat, true_imp_iff, false_imp_iff, d1, vcD]
      exact Into.at ⟨(2, a.length + b.length), .inr (.inr ⟨rfl, rfl⟩)⟩ (by show _ < _; simp) ⟨[], by simp⟩ (by simp [WL, leG_self, leG_any, leG_int])
    · simp +contextual -implicitDefEqProofs (maxSteps := 2000000) (disch := omega) only [↓lenV, binV, optV, ↓loadV, ↓indexAddrV, ↓sliceV, ↓ifaceV, ↓appendV, ↓srcV, bound, cutTag, hiTag, GVal.cells, GVal.ofConst, ↓resV, resG, ↓reduceIte, reduceEqDiff, reduceAdd, reduceSub, reduceLeDiff, reduceCtorEq, ↓asrcV, Tag.cap, GVal.solid, Nat.reduceBEq, reduceMul, reduceLT, vcA, ↓vcB, vcC, fbFy, e40, hsG_len, Int.reduceLT, Int.reduceLE, Int.reduceToNat, true_imp_iff, false_imp_iff, vcD]
      have hg := iGrow (a.length + b.length) hl
      rw [Int.natCast_add] at hg
      refine hg.mono ?_
      clear hg
      rintro g O' hg
      simp +contextual -implicitDefEqProofs (maxSteps := 2000000) (disch := omega) only [↓lenV, binV, optV, ↓loadV, ↓indexAddrV, ↓sliceV, ↓ifaceV, ↓appendV, ↓srcV, bound, cutTag, hiTag, GVal.cells, GVal.ofConst, ↓resV, resG, ↓reduceIte, reduceEqDiff, reduceAdd, reduceSub, reduceLeDiff, reduceCtorEq, ↓asrcV, Tag.cap, GVal.solid, Nat.reduceBEq, reduceMul, reduceLT, vcA, ↓vcB, vcC, fbFy, e40, vcD]
      refine vcSLoop_by (ι := { p : Nat × List Hs × Nat × List (List GVal) // (p.1 = 0 ∧ p.2.1 = []) ∨ (p.1 = 1 ∧ p.2.1 = a ∧ p.2.2.2 = hsG a) ∨ (p.1 = 2 ∧ p.2.1 = a ++ b ∧ p.2.2.2 = hsG (a ++ b)) }) (fun p => ⟨[.any, .any, .any, .any, .any, .any, .own 0 p.1.2.2.1 0 p.1.2.1.length] ++ List.replicate 18 .any ++ [.slice [[.slice (hsG a) ta], [.slice (hsG b) tb]] tt, .int .i64 2, .int .i64 (p.1.1 : Nat)] ++ List.replicate 8 .any, [.row p.1.2.2.1 32 p.1.2.2.2]⟩) (fun p => 2 - p.1.1) ?_ ?_
      · rcases hg with ⟨_, rfl, rfl⟩ | ⟨st, xs, rfl, rfl⟩
        · refine Into.row 6 32 rfl rfl ?_
          simp +contextual -implicitDefEqProofs (maxSteps := 2000000) (disch := omega) only [↓lenV, binV, optV, ↓loadV, ↓indexAddrV, ↓sliceV, ↓ifaceV, ↓appendV, ↓srcV, bound, cutTag, hiTag, GVal.cells, GVal.ofConst, ↓resV, resG, ↓reduceIte, reduceEqDiff, reduceAdd, reduceSub, reduceLeDiff, reduceCtorEq, ↓asrcV, Tag.cap, GVal.solid, Nat.reduceBEq, reduceMul, reduceLT, vcA, ↓vcB, vcC, fbFy, e40, vcD]
          intro t0
          exact Into.first ⟨(0, [], t0, []), .inl ⟨rfl, rfl⟩⟩ ⟨[], by simp⟩ (by simp [WL, leG_self, leG_any])
        · exact Into.first ⟨(0, [], st, xs), .inl ⟨rfl, rfl⟩⟩ ⟨[], by simp⟩ (by simp [WL, leG_self, leG_any])
      · rintro ⟨⟨k, L, v, xs⟩, hk⟩
        simp only [] at hk
        rcases hk with ⟨rfl, rfl⟩ | ⟨rfl, rfl, rfl⟩ | ⟨rfl, rfl, rfl⟩
        · simp +contextual -implicitDefEqProofs (maxSteps := 2000000) (disch := omega) only [↓lenV, binV, optV, ↓loadV, ↓indexAddrV, ↓sliceV, ↓ifaceV, ↓appendV, ↓srcV, bound, cutTag, hiTag, GVal.cells, GVal.ofConst, ↓resV, resG, ↓reduceIte, reduceEqDiff, reduceAdd, reduceSub, reduceLeDiff, reduceCtorEq, ↓asrcV, Tag.cap, GVal.solid, Nat.reduceBEq, reduceMul, reduceLT, vcA, ↓vcB, vcC, fbFy, e40, hsG_len, Int.reduceLT, Int.reduceLE, Int.reduceToNat, true_imp_iff, false_imp_iff, all_hsG, vcD]
          exact ⟨by omega, by omega, by omega, fun st => Into.at ⟨(1, a, st, hsG a), .inr (.inl ⟨rfl, rfl, rfl⟩)⟩ (by show _ < _; simp) ⟨[], by simp⟩ (by simp [WL, leG_self, leG_any, leG_int])⟩
        · simp +contextual -implicitDefEqProofs (maxSteps := 2000000) (disch := omega) only [↓lenV, binV, optV, ↓loadV, ↓indexAddrV, ↓sliceV, ↓ifaceV, ↓appendV, ↓srcV, bound, cutTag, hiTag, GVal.cells, GVal.ofConst, ↓resV, resG, ↓reduceIte, reduceEqDiff, reduceAdd, reduceSub, reduceLeDiff, reduceCtorEq, ↓asrcV, Tag.cap, GVal.solid, Nat.reduceBEq, reduceMul, reduceLT, vcA, ↓vcB, vcC, fbFy, e40, hsG_len, Int.reduceLT, Int.reduceLE, Int.reduceToNat, true_imp_iff, false_imp_iff, all_hsG, vcD]
          exact ⟨by omega, by omega, by omega, fun st => Into.at ⟨(2, L ++ b, st, hsG (L ++ b)), .inr (.inr ⟨rfl, rfl, rfl⟩)⟩ (by show _ < _; simp) ⟨[], by rw [List.take_of_length_le (by rw [hsG_len]; exact Nat.le_refl _), hsG_app]; simp⟩ (by simp [WL, leG_self, leG_any, leG_int])⟩
        · simp +contextual -implicitDefEqProofs (maxSteps := 2000000) (disch := omega) only [↓lenV, binV, optV, ↓loadV, ↓indexAddrV, ↓sliceV, ↓ifaceV, ↓appendV, ↓srcV, bound, cutTag, hiTag, GVal.cells, GVal.ofConst, ↓resV, resG, ↓reduceIte, reduceEqDiff, reduceAdd, reduceSub, reduceLeDiff, reduceCtorEq, ↓asrcV, Tag.cap, GVal.solid, Nat.reduceBEq, reduceMul, reduceLT, vcA, ↓vcB, vcC, fbFy, e40, hsG_len, Int.reduceLT, Int.reduceLE, Int.reduceToNat, true_imp_iff, false_imp_iff, vcD]
          exact ⟨4, .slice (hsG (a ++ b)) .none, frz_own rfl (hsG_len _).symm (frz_hs _ 2 _), by rw [leA_slice]⟩

theorem iWoGone (a b : GObj) (S : List Hs) (h : Hs) (s sb : Nat) : GCalls Tryz.prog 77 [.agg (bytesG h.1), .ptr 1 sb 0 0] [.map s (kvG encB (setM S)), .row sb 1 [[.map 0 s]]] (fun g O' => g = .bool (decide (h ∈ S)) ∧ O' = [.map s (kvG encB (setM S)), .row sb 1 [[.map 0 s]]]) := by
  by_cases hx : h ∈ S
  · obtain ⟨i, hi, hv, _⟩ := look_idx encB (setM S) h true (by rw [look_set, if_pos hx])
    rw [decide_eq_true hx]
    refine h77.calls mixS (by simp) ?_
    simp only [gstart, s77, List.cons_append, List.nil_append, List.length_cons, List.length_nil, reduceAdd, reduceSub, List.replicate_succ, List.replicate_zero]
    simp +contextual -implicitDefEqProofs (maxSteps := 2000000) (disch := omega) only [↓loadV, ↓boxV, GVal.cells, GVal.ofConst, ↓resV, resG, ↓reduceIte, reduceEqDiff, reduceAdd, reduceSub, reduceLeDiff, reduceCtorEq, ↓lookupV, keyOk, keyCells, pairG, Tag.cap, GVal.solid, Nat.reduceBEq, reduceMul, reduceLT, vcA, ↓vcB, vcC, fbFy, e77, kfind_h, hi, hv, vcD, v32]
  · obtain ⟨hi, _⟩ := look_none encB (setM S) h (by rw [look_set, if_neg hx])
    rw [decide_eq_false hx]
    refine h77.calls mixS (by simp) ?_
    simp only [gstart, s77, List.cons_append, List.nil_append, List.length_cons, List.length_nil, reduceAdd, reduceSub, List.replicate_succ, List.replicate_zero]
    simp +contextual -implicitDefEqProofs (maxSteps := 2000000) (disch := omega) only [↓loadV, ↓boxV, GVal.cells, GVal.ofConst, ↓resV, resG, ↓reduceIte, reduceEqDiff, reduceAdd, reduceSub, reduceLeDiff, reduceCtorEq, ↓lookupV, keyOk, keyCells, pairG, Tag.cap, GVal.solid, Nat.reduceBEq, reduceMul, reduceLT, vcA, ↓vcB, vcC, fbFy, e77, kfind_h, hi, vcD, v32]
end Gv.Tryz
/- Contracts: ids' without; a walk with isMaster; a walk with Update's function. -/
set_option linter.unusedVariables false
set_option linter.unusedSimpArgs false
set_option maxRecDepth 20000
set_option maxHeartbeats 4000000
namespace Gv.Tryz
open Go Gv Go.Proofs
open Nat (reduceEqDiff reduceAdd reduceSub reduceLeDiff reduceMul reduceLT)
def setAdd (S : List Hs) (h : Hs) : List Hs := if h ∈ S then S else S ++ [h]
def setAll (l : List Hs) : List Hs := l.foldl setAdd []
theorem setAdd_mem (S : List Hs) (h x : Hs) : x ∈ setAdd S h ↔ x ∈ S ∨ x = h := by
  unfold setAdd
  split
  · rename_i hm
    exact ⟨.inl, fun q => q.elim id fun e => e ▸ hm⟩
  · simp
theorem setFold_mem : ∀ (l S : List Hs) (x : Hs), x ∈ l.foldl setAdd S ↔ x ∈ S ∨ x ∈ l
  | [], S, x => by simp
  | a :: r, S, x => by rw [List.foldl_cons, setFold_mem r, setAdd_mem]; simp [or_assoc]
theorem setAll_mem (l : List Hs) (x : Hs) : x ∈ setAll l ↔ x ∈ l := by rw [setAll, setFold_mem]; simp
theorem setAll_snoc (l : List Hs) (h : Hs) : setAll (l ++ [h]) = setAdd (setAll l) h := by simp [setAll]
theorem mset_in : ∀ {S : List Hs} {h : Hs}, h ∈ S → mset (setM S) h true = setM S
  | [], h, hm => by cases hm
  | a :: r, h, hm => by
    rw [show setM (a :: r) = (a, true) :: setM r from rfl, mset]
    by_cases e : h = a
    · rw [if_pos e, e]
    · rw [if_neg e, mset_in ((List.mem_cons.1 hm).resolve_left e)]
theorem mset_add (S : List Hs) (h : Hs) : mset (setM S) h true = setM (setAdd S h) := by
  unfold setAdd
  split
  · exact mset_in (by assumption)
  · exact mset_set S h (by assumption)
def woL (l gone : List Hs) : List Hs := l.filter fun h => !decide (h ∈ gone)
theorem iWithout (l gone : List Hs) (hl : l.length ≤ 1000000) (hg : gone.length ≤ 1000000) : GPure Tryz.prog 41 [.slice (hsG l) .none, .slice (hsG gone) .none] (.slice (hsG (woL l gone)) .none) := by
  refine GCalls.dropTo (GCalls.meltOr 2 ?_)
  have eW : woL l gone = l.filter fun h => !decide (h ∈ setAll gone) := List.filter_congr fun h _ => by rw [decide_eq_decide.2 (setAll_mem gone h)]
  rw [eW]
  refine h41.calls mixS (by simp) ?_
  simp only [gstart, s41, List.cons_append, List.nil_append, List.length_cons, List.length_nil, reduceAdd, reduceSub, List.replicate_succ, List.replicate_zero]
  simp +contextual -implicitDefEqProofs (maxSteps := 2000000) (disch := omega) only [↓lenV, binV, optV, ↓loadV, ↓storeV, ↓indexAddrV, ↓allocV, ↓sliceV, bound, cutTag, hiTag, GVal.cells, GVal.ofConst, ↓resV, resG, ↓reduceIte, reduceEqDiff, reduceAdd, reduceSub, reduceLeDiff, reduceCtorEq, ↓mapUpdateV, ↓makeMapV, keyOk, keyCells, Tag.cap, GVal.solid, Nat.reduceBEq, reduceMul, reduceLT, vcA, ↓vcB, vcC, fbFy, e41, vcD]
  intro s
  refine ⟨rfl, fun sb => ?_⟩
  have cD := fun v => gDeleteF (caps := [.ptr 1 sb 0 0]) (fun h => decide (h ∈ setAll gone)) (fun h => iWoGone .dead .dead (setAll gone) h s sb) rfl l v hl
  have cC := GCalls.newUp (hClone l .none (by omega) (by simp)) (O := [.map s (kvG encB (setM (setAll gone))), .row sb 1 [[.map 0 s]]]) rfl (by rintro g O' (⟨_, rfl, rfl⟩ | ⟨st, rfl, rfl⟩) <;> rfl)
  refine vcSLoop_by (ι := { k : Nat // k ≤ gone.length }) (fun k => ⟨[.slice (hsG l) .none, .slice (hsG gone) .none, .any, .any, .any, .ptr 1 sb 0 0, .any, .any, .any, .slice (hsG gone) .none, .int .i64 gone.length, .int .i64 (k.1 : Nat)] ++ List.replicate 10 .any, [.map s (kvG encB (setM (setAll (gone.take k.1)))), .row sb 1 [[.map 0 s]]]⟩) (fun k => gone.length - k.1) ?_ ?_
  · exact Into.first ⟨0, Nat.zero_le _⟩ ⟨[], by simp [kvG, setAll]⟩ (by simp [WL, leG_self, leG_any, hsG_len])
  · rintro ⟨k, hk⟩
    change k ≤ gone.length at hk
    by_cases h : k < gone.length
    · have d0 : ((k : Int) < (gone.length : Int)) = True := eq_true (by omega)
      have eS := hsG_at gone k h
      have eT : setAll (gone.take (k + 1)) = setAdd (setAll (gone.take k)) (gone.getD k h0) := by rw [takeH h, setAll_snoc]
      clear cD cC eW
      generalize gone.getD k h0 = x at *
      generalize setAll (gone.take k) = S at *
      have em := mset_add S x
      rw [← eT] at em
      by_cases hx : x ∈ S
      · obtain ⟨i, hi, hv, hw⟩ := look_idx encB (setM S) x true (by rw [look_set, if_pos hx])
        have hw := hw true
        rw [em] at hw
        simp +contextual -implicitDefEqProofs (maxSteps := 2000000) (disch := omega) only [↓lenV, binV, optV, ↓loadV, ↓storeV, ↓indexAddrV, ↓allocV, ↓sliceV, bound, cutTag, hiTag, GVal.cells, GVal.ofConst, ↓resV, resG, ↓reduceIte, reduceEqDiff, reduceAdd, reduceSub, reduceLeDiff, reduceCtorEq, ↓mapUpdateV, ↓makeMapV, keyOk, keyCells, Tag.cap, GVal.solid, Nat.reduceBEq, reduceMul, reduceLT, vcA, ↓vcB, vcC, fbFy, e41, d0, eS, hsG_len, all_hsG, kfind_h, hi, hv, hw, vcD, v32]
        refine ⟨by omega, fun sc => ?_⟩
        exact Into.at ⟨k + 1, h⟩ (by show _ < _; simp; omega) ⟨[.row sc 32 [bytesG x.1]], by simp⟩ (by simp [WL, leG_self, leG_any, leG_int])
      · obtain ⟨hi, hw⟩ := look_none encB (setM S) x (by rw [look_set, if_neg hx])
        have hw := hw true
        rw [em] at hw
        simp +contextual -implicitDefEqProofs (maxSteps := 2000000) (disch := omega) only [↓lenV, binV, optV, ↓loadV, ↓storeV, ↓indexAddrV, ↓allocV, ↓sliceV, bound, cutTag, hiTag, GVal.cells, GVal.ofConst, ↓resV, resG, ↓reduceIte, reduceEqDiff, reduceAdd, reduceSub, reduceLeDiff, reduceCtorEq, ↓mapUpdateV, ↓makeMapV, keyOk, keyCells, Tag.cap, GVal.solid, Nat.reduceBEq, reduceMul, reduceLT, vcA, ↓vcB, vcC, fbFy, e41, d0, eS, hsG_len, all_hsG, kfind_h, hi, hw, vcD, v32]
        refine ⟨by omega, fun sc => ?_⟩
        exact Into.at ⟨k + 1, h⟩ (by show _ < _; simp; omega) ⟨[.row sc 32 [bytesG x.1]], by simp⟩ (by simp [WL, leG_self, leG_any, leG_int])
    · have d0 : ((k : Int) < (gone.length : Int)) = False := eq_false (by omega)
      rw [List.take_of_length_le (show gone.length ≤ k by omega)]
      simp +contextual -implicitDefEqProofs (maxSteps := 2000000) (disch := omega) only [↓lenV, binV, optV, ↓loadV, ↓storeV, ↓indexAddrV, ↓allocV, ↓sliceV, bound, cutTag, hiTag, GVal.cells, GVal.ofConst, ↓resV, resG, ↓reduceIte, reduceEqDiff, reduceAdd, reduceSub, reduceLeDiff, reduceCtorEq, ↓mapUpdateV, ↓makeMapV, keyOk, keyCells, Tag.cap, GVal.solid, Nat.reduceBEq, reduceMul, reduceLT, vcA, ↓vcB, vcC, fbFy, e41, d0, vcD]
      refine cC.mono ?_
      rintro g O' ⟨g0, O1, (⟨rfl, rfl, rfl⟩ | ⟨v, rfl, rfl⟩), rfl, rfl⟩
      · simp +contextual -implicitDefEqProofs (maxSteps := 2000000) (disch := omega) only [↓lenV, binV, optV, ↓loadV, ↓storeV, ↓indexAddrV, ↓allocV, ↓sliceV, bound, cutTag, hiTag, GVal.cells, GVal.ofConst, ↓resV, resG, ↓reduceIte, reduceEqDiff, reduceAdd, reduceSub, reduceLeDiff, reduceCtorEq, ↓mapUpdateV, ↓makeMapV, keyOk, keyCells, Tag.cap, GVal.solid, Nat.reduceBEq, reduceMul, reduceLT, vcA, ↓vcB, vcC, fbFy, e41, vcD]
        refine (gDeleteNil _).mono ?_
        rintro g O' ⟨rfl, rfl⟩
        simp +contextual -implicitDefEqProofs (maxSteps := 2000000) (disch := omega) only [↓lenV, binV, optV, ↓loadV, ↓storeV, ↓indexAddrV, ↓allocV, ↓sliceV, bound, cutTag, hiTag, GVal.cells, GVal.ofConst, ↓resV, resG, ↓reduceIte, reduceEqDiff, reduceAdd, reduceSub, reduceLeDiff, reduceCtorEq, ↓mapUpdateV, ↓makeMapV, keyOk, keyCells, Tag.cap, GVal.solid, Nat.reduceBEq, reduceMul, reduceLT, vcA, ↓vcB, vcC, fbFy, e41, vcD]
        exact .inl ⟨.slice [] .nil, leA_refl _, .slice [] .none, [], _, rfl, by rw [leA_slice], rfl, rfl⟩
      · simp +contextual -implicitDefEqProofs (maxSteps := 2000000) (disch := omega) only [↓lenV, binV, optV, ↓loadV, ↓storeV, ↓indexAddrV, ↓allocV, ↓sliceV, bound, cutTag, hiTag, GVal.cells, GVal.ofConst, ↓resV, resG, ↓reduceIte, reduceEqDiff, reduceAdd, reduceSub, reduceLeDiff, reduceCtorEq, ↓mapUpdateV, ↓makeMapV, keyOk, keyCells, Tag.cap, GVal.solid, Nat.reduceBEq, reduceMul, reduceLT, vcA, ↓vcB, vcC, fbFy, e41, vcD]
        refine (cD v).mono ?_
        rintro g O' ⟨rfl, rfl⟩
        simp +contextual -implicitDefEqProofs (maxSteps := 2000000) (disch := omega) only [↓lenV, binV, optV, ↓loadV, ↓storeV, ↓indexAddrV, ↓allocV, ↓sliceV, bound, cutTag, hiTag, GVal.cells, GVal.ofConst, ↓resV, resG, ↓reduceIte, reduceEqDiff, reduceAdd, reduceSub, reduceLeDiff, reduceCtorEq, ↓mapUpdateV, ↓makeMapV, keyOk, keyCells, Tag.cap, GVal.solid, Nat.reduceBEq, reduceMul, reduceLT, vcA, ↓vcB, vcC, fbFy, e41, vcD]
        exact .inr ⟨v, 32, _, [.map s (kvG encB (setM (setAll gone))), .row sb 1 [[.map 0 s]]], by rw [hsG_len]; rfl, rfl, frz_hs _ 1 _, _, [], _, rfl, leA_refl _, rfl, rfl⟩
end Gv.Tryz
