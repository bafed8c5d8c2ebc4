/- maps.Keys of a set of hashes, and its iterator. -/
import Derived.Test.YtgkglnjmiobdmaaGreatDoorP9
import Derived.Shelf.SlIter.Collect
import Derived.Deep.RegionWith
import Derived.Test.YtgkglnjmiobdmaaGreatDoorProg
import Derived.KernelRfl
import Derived.Test.YtgkglnjmiobdmaaGreatDoorP8
set_option linter.unusedVariables false
set_option maxRecDepth 100000
namespace Gv.Tryz
open Go Gv Go.Proofs Go.RowKit
def encV (l : List UInt8) : Value := .agg (bytesV l).toArray
theorem bytesV_len (l : List UInt8) : (bytesV l).length = l.length := by simp [bytesV]
theorem bytesV_one (l : List UInt8) : ∀ v ∈ bytesV l, v.oneCell' = true := by
  intro v hv
  obtain ⟨c, _, rfl⟩ := List.mem_map.1 hv
  rfl
theorem bytesV_all (l : List UInt8) : (bytesV l).toArray.all (·.oneCell') = true := by
  rw [Array.all_eq_true_iff_forall_mem]
  intro v hv
  exact bytesV_one l v (by simpa using hv)
def zero32 : Array Value := #[.int .u8 0, .int .u8 0, .int .u8 0, .int .u8 0, .int .u8 0, .int .u8 0, .int .u8 0, .int .u8 0, .int .u8 0, .int .u8 0, .int .u8 0, .int .u8 0, .int .u8 0, .int .u8 0, .int .u8 0, .int .u8 0, .int .u8 0, .int .u8 0, .int .u8 0, .int .u8 0, .int .u8 0, .int .u8 0, .int .u8 0, .int .u8 0, .int .u8 0, .int .u8 0, .int .u8 0, .int .u8 0, .int .u8 0, .int .u8 0, .int .u8 0, .int .u8 0]
theorem alloc_h (w : World) : (Instr.alloc 40 true (.tuple #[])).run Tryz.prog w = .ok (.pointer (some ⟨w.heap.size, 0, none⟩)) (w.alloc (.cells zero32 40)) := by
  unfold Instr.alloc
  simp only [Sem.run_bind, Tryz.zeroValue40, Result.andThen_ok]
  rfl
theorem info_h : (Tryz.prog.info? 40).map (·.size) = some 32 := by kernel_rfl
theorem store_h {w : World} {b : Nat} {old : Array Value} {t : TypeId} {l : List UInt8} (hl : l.length = 32) (hb : w.heap[b]? = some (.cells old t (0, 0))) (ho : old.size = 32) :
    (Instr.storeAt 40 (.pointer (some ⟨b, 0, none⟩)) (encV l)).run Tryz.prog w = .ok () (w.setRow b (bytesV l).toArray) := by
  have hs : (bytesV l).toArray.size = 32 := by rw [List.size_toArray, bytesV_len, hl]
  unfold Instr.storeAt
  simp only [Instr.sureAddr, Sem.run_bind, Sem.run_pure, Result.andThen_ok]
  exact run_storeVar_row w b t _ old _ hb (by rw [info_h, hs]) (by rw [hs, ho]) (bytesV_all l)
theorem load_h {w : World} {b : Nat} {t : TypeId} {fz : Nat × Nat} {l : List UInt8} (hl : l.length = 32) (h : w.heap[b]? = some (.cells (bytesV l).toArray t fz)) : (Instr.loadAt 40 (.pointer (some ⟨b, 0, none⟩))).run Tryz.prog w = .ok (encV l) w := by
  have ht : tab Tryz.prog 40 = some (32, true) := by kernel_rfl
  obtain ⟨v, h1, h2⟩ := load_run (P := Tryz.prog) (w := w) (E := Env.all w) ht (by decide) (b := b) (off := 0) (cs := bytesG l) (fun j => .int .u8 (l.getD j 0).toNat) (by simp [bytesG, hl]) (fun j hj => by simp [World.cell?, h, bytesV, hl, hj, List.getD]) (fun j g hj _ => by
    simp only [bytesG, List.getElem?_map] at hj
    cases hq : l[j]? with
    | none => rw [hq] at hj; cases hj
    | some c => rw [hq] at hj; simp at hj; subst hj; simp [List.getD, hq]; exact .int _ _)
  rw [List.take_of_length_le (by simp [bytesG, hl])] at h2
  rw [h1]
  have := argsR_agg (E := Env.all w) (vs := #[v]) (l := l) ⟨rfl, fun i g hg => by
    match i with
    | 0 => simp at hg; subst hg; exact h2
    | i + 1 => simp at hg⟩
  have e : v = .agg (bytesV l).toArray := by simpa using this
  rw [e]; rfl
abbrev HL := { l : List UInt8 // l.length = 32 }
def encH (h : HL) : Value := encV h.1
set_option maxHeartbeats 4000000 in
theorem keys1 (F : Fence) (n : Nat) (h69 : F.fn 79) (hro : F.round = none) (hn : 1 ≤ n) (l Bm off b clock : Nat) (es : Array MapEntry) (hbo : BornOK es clock) (hks : ∀ e ∈ es.toList, ∃ h : HL, e.key = encH h) (J : List HL → World → Prop)
    (hY : ∀ pre x W, J pre W → pre.length < es.size → YieldAt F (n - 1) Tryz.prog l #[encH x] W fun e W' => e = .returned (.bool true) ∧ J (pre ++ [x]) W' ∧ KeepsWalks W W')
    (W : World) (hJ : AbidesFrom W.heap.size J)
    (hm : W.cell? ⟨Bm, off, none⟩ = some (.map (some b))) (hb : W.heap[b]? = some (.map es clock)) (h0 : J [] W) :
    CallsIn F n Tryz.prog 79 #[.func (.yield l) #[] #[], .pointer (some ⟨Bm, off, none⟩)] W fun e W' => (∃ v, e = .returned v) ∧ ∃ hs : List HL, (hs.map encH).Perm (es.toList.map MapEntry.key) ∧ J hs W' := by
  refine callsIn_of_wp Tryz.func79 rfl h69 ?_ hro
  simp only [Tryz.ntmps79, List.size_toArray, List.length_cons, List.length_nil, Nat.reduceAdd, Nat.reduceSub, Array.replicate_succ, Array.replicate_zero, List.push_toArray, List.append_toArray, List.nil_append, List.cons_append]
  gi_wp2_with (first
    | (gi_at_range; refine wpListIn_range_at _ rfl _ _ rfl _ _ Tryz.underlying88 b clock es rfl hb hbo ?_; intro w0 hrg0 hg0 hs0)
    | gi_in)
  go_frame
  gi_loopw [3] (fun _ wr => ∃ (seen : Array Nat) (xs : List MapEntry) (hs : List HL), WalkAt wr b W.heap.size es clock seen ∧ Came es seen xs ∧ hs.map encH = xs.map MapEntry.key ∧ J hs wr)
    (fun _ wr => wr.rangeLeft b W.heap.size)
  case atStart =>
    exact ⟨#[], [], [], hrg0, Came.nil es, rfl, hJ [] W w0 none h0 hg0 (fun r e => by cases e)⟩
  case round =>
    obtain ⟨seen, xs, hs, hrg, hC, hsx, hJs⟩ := hrel
    gi_wp2_with (first
      | (refine wpListIn_next_at _ rfl _ rfl b W.heap.size clock es hbo seen xs hC rfl hrg ?_ ?_)
      | gi_in)
    · -- NOTHING IS LEFT
      intro hp
      gi_wp2
      go_end0
      exact ⟨⟨_, rfl⟩, hs, by rw [hsx]; exact hp.map _, hJs⟩
    · -- AN ENTRY HAS COME: yield(k)
      intro e w2 hem hC2 hlt hrg2 hmu hg2 hs2 hen
      obtain ⟨x, ex⟩ := hks e (by simpa using hem)
      have hsx2 : (hs ++ [x]).map encH = (xs ++ [e]).map MapEntry.key := by rw [List.map_append, List.map_append, hsx]; simp [ex]
      have hlen : hs.length < es.size := by
        have := congrArg List.length hsx
        rw [List.length_map, List.length_map] at this
        omega
      rw [ex] at hen ⊢
      have hal := World.alloc_heap_new w2 (.cells zero32 40)
      have hst := store_h x.2 hal rfl
      obtain ⟨w3, hw3⟩ : ∃ w3, (w2.alloc (.cells zero32 40)).setRow w2.heap.size (bytesV x.1).toArray = w3 := ⟨_, rfl⟩
      rw [hw3] at hst
      have hx3 : w3.heap[w2.heap.size]? = some (.cells (bytesV x.1).toArray 40 (0, 0)) := by rw [← hw3]; exact setRow_heap _ _ _ _ _ _ hal
      have ho3 : ∀ k, k < w2.heap.size → w3.heap[k]? = w2.heap[k]? := fun k hk => by
        rw [← hw3, setRow_other _ _ _ _ (by omega)]
        exact Below.heap_alloc _ _ k hk
      have hs3 : w3.heap.size = w2.heap.size + 1 := by rw [← hw3]; simp
      have hk3 : KeepsWalks w2 w3 := ⟨by omega, fun k o hk ho => (ho3 k (Array.getElem?_eq_some_iff.1 hk).1).trans hk⟩
      have hg3 : w2.grownBy w3 none := ⟨by rw [← hw3]; rfl, by rw [← hw3]; rfl, by rw [← hw3]; rfl, by omega, fun k hk _ => ho3 k hk⟩
      have hlo := load_h x.2 hx3
      have hJ3 : J hs w3 := hJ hs w2 w3 none (hJ hs wr w2 (some W.heap.size) hJs hg2 (fun r e => by cases e; exact ⟨Nat.le_refl _, hrg.iter_walk⟩)) hg3 (fun r e => by cases e)
      have hrg3 := hrg2.of_walks hk3
      have hmu3 : w3.rangeLeft b W.heap.size < wr.rangeLeft b W.heap.size := by rw [hrg3.left_eq, ← hrg2.left_eq]; exact hmu
      obtain ⟨fn, tmps, assign, body, hy, hR⟩ := hY hs x w3 hJ3 hlen
      change (Instr.yield l #[encV x.1]).run Tryz.prog w3 = _ at hy
      clear hw3 hs2
      gi_wp2_with (first
        | (refine wpListIn_alloc rfl rfl (alloc_h _) ?_)
        | (refine wpListIn_store rfl rfl hst ?_)
        | (refine wpListIn_load rfl rfl hlo ?_)
        | gi_in)
      refine hR.mono ?_
      rintro e' W4 ⟨rfl, hJ4, hk4⟩
      gi_wp2
      have hrg4 := hrg3.of_walks hk4
      go_roundw
      case rel => exact ⟨_, xs ++ [e], hs ++ [x], hrg4, hC2, hsx2, hJ4⟩
      case measure => rw [hrg4.left_eq, ← hrg3.left_eq]; exact hmu3
end Gv.Tryz
/- slices.Collect of an iterator of hashes. -/
set_option linter.unusedVariables false
set_option maxRecDepth 100000
namespace Gv.Tryz
open Go Gv Go.Proofs Go.RowKit Go.Maps Go.Sort Go.Shelf
theorem keysGives (F : Fence) (n : Nat) (h69 : F.fn 79) (hro : F.round = none) (hn : 1 ≤ n) (Bm off b clock : Nat) (es : Array MapEntry) (hbo : BornOK es clock) (hks : ∀ e ∈ es.toList, ∃ h : HL, e.key = encH h) (w : World) (hBm : Bm < w.heap.size)
    (hm : w.cell? ⟨Bm, off, none⟩ = some (.map (some b))) (hb : w.heap[b]? = some (.map es clock)) :
    SeqGives F n Tryz.prog 79 #[.pointer (some ⟨Bm, off, none⟩)] encH (fun hs : List HL => (hs.map encH).Perm (es.toList.map MapEntry.key)) es.size w := fun l J W hW hJ hY h0 =>
  keys1 F n h69 hro hn l Bm off b clock es hbo hks J hY W hJ ((hW.cell (p := ⟨Bm, off, none⟩) hBm).trans hm) ((hW.block b (Array.getElem?_eq_some_iff.1 hb).1).trans hb) h0
theorem foldl_fill : ∀ (xs : List Value) (k : Nat) (cs : Array Value), k + xs.length = cs.size → ((xs.zipIdx k).foldl (fun cs p => cs.setIfInBounds p.2 p.1) cs).toList = cs.toList.take k ++ xs
  | [], k, cs, h => by simp at h ⊢; rw [List.take_of_length_le (by simp [h])]
  | x :: r, k, cs, h => by
    simp only [List.zipIdx_cons, List.foldl_cons]
    rw [foldl_fill r (k + 1) _ (by simp at h ⊢; omega)]
    have hk : k < cs.toList.length := by simp at h ⊢; omega
    rw [Array.toList_setIfInBounds, List.take_succ_eq_append_getElem (by simpa using hk), List.getElem_set_self]
    rw [List.take_set_of_le (Nat.le_refl k)]
    simp
theorem build_h (w : World) {l : List UInt8} (hl : l.length = 32) : (Instr.buildSlice 31 1 #[(0, encV l)]).run Tryz.prog w = .ok (.slice (some ⟨w.heap.size, 0, none⟩) 1 1) (w.alloc (.cells (bytesV l).toArray 40)) := by
  have hs : (bytesV l).toArray.size = 32 := by rw [List.size_toArray, bytesV_len, hl]
  have hf : ∀ a : Array Value, a.size = 32 → Instr.fill (fun i => some (i * 32, 32)) a [(0, encV l)] = some (bytesV l).toArray := by
    intro a ha
    have hc : (encV l).cells = (bytesV l).toArray := rfl
    simp only [Instr.fill, hc, hs, ha, ne_eq, not_true_eq_false, decide_false, Bool.false_or, Nat.zero_mul, gt_iff_lt, Nat.lt_irrefl, if_false, Bool.false_eq_true, Nat.zero_add]
    congr 1
    rw [← Array.foldl_toList, Array.toList_zipIdx]
    apply Array.ext'
    have := foldl_fill (bytesV l) 0 a (by rw [bytesV_len, hl, ha])
    rw [List.take_zero, List.nil_append] at this
    exact this
  unfold Instr.buildSlice
  simp only [Sem.run_bind, run_underlying Tryz.underlying31, Tryz.sizeOf40, Result.andThen_ok]
  rw [if_neg (by decide)]
  rw [if_neg (by decide)]
  simp only [Sem.run_bind, Tryz.zeroValue40, Result.andThen_ok, Sem.run_pure]
  rw [hf _ (by simp)]
  rfl
def apAssign : Code := (Code.region 2 #[{ dst := some 5, op := Op.alloc 40, type := 0, pos := "iter.go:51", after := #[], guard := none }, { dst := none, op := Op.store 40 (Operand.tmp 5) (Operand.tmp 7), type := 0, pos := "iter.go:51", after := #[{ on := 0, ground := Ground.data }, { on := 0, ground := Ground.phase }], guard := none }] false)
def apBody : Code := (Code.block 1 (Code.region 3 #[{ dst := some 8, op := Op.load 31 (Operand.tmp 2), type := 31, pos := "iter.go:52", after := #[], guard := none }, { dst := some 9, op := Op.load 40 (Operand.tmp 5), type := 40, pos := "iter.go:52", after := #[], guard := none }, { dst := some 10, op := Op.buildSlice 31 1 #[(0, Operand.tmp 9)], type := 31, pos := "iter.go:52", after := #[{ on := 1, ground := Ground.data }], guard := none }, { dst := some 11, op := Op.call { callee := Callee.builtin Builtin.append, args := #[Operand.tmp 8, Operand.tmp 10], argTypes := #[31, 31] }, type := 31, pos := "iter.go:52", after := #[{ on := 0, ground := Ground.data }, { on := 2, ground := Ground.data }], guard := none }, { dst := none, op := Op.store 31 (Operand.tmp 2) (Operand.tmp 11), type := 0, pos := "iter.go:52", after := #[{ on := 3, ground := Ground.data }, { on := 3, ground := Ground.chain }, { on := 0, ground := Ground.phase }, { on := 1, ground := Ground.phase }, { on := 2, ground := Ground.phase }, { on := 3, ground := Ground.phase }], guard := none }] false))
def apRec (fn : FuncId) (sv : Value) (Bs D : Nat) (st : LoopState) (pend : Option Code) : Loop :=
  { state := st, pending := pend, fn, tmps := #[.slice none 0 0, sv, .pointer (some ⟨Bs, 0, none⟩), undef, .slice none 0 0, undef, sv, undef, undef, undef, undef, undef, undef], params := #[7], assign := apAssign, body := apBody, defers := D }
def cellsH (hs : List HL) : List Value := hs.flatMap fun h => bytesV h.1
theorem cellsH_len (hs : List HL) : (cellsH hs).length = hs.length * 32 := by
  induction hs with
  | nil => rfl
  | cons h r ih => simp only [cellsH, List.flatMap_cons, List.length_append, List.length_cons] at ih ⊢; rw [ih, bytesV_len, h.2]; omega
theorem cellsH_snoc (hs : List HL) (h : HL) : cellsH (hs ++ [h]) = cellsH hs ++ bytesV h.1 := by simp [cellsH]
structure ApAt (w0 : World) (fn : FuncId) (sv : Value) (Bs l D : Nat) (ss : List HL) (W : World) : Prop where
  box : ∃ v, W.heap[Bs]? = some (.cells #[v] 31 (0, 0)) ∧ W.ownsRow w0.heap.size 40 32 v ss.length (cellsH ss) ∧ (v = .slice none 0 0 ↔ ss = [])
  L : W.heap[l]? = some (.loop (apRec fn sv Bs D .ready none))
  K : W.heap[D]? = some (.deferred (some []))
  below : Below w0.heap.size w0 W
theorem ap_abides (w0 : World) (fn : FuncId) (sv : Value) (Bs l D B : Nat) (hB : w0.heap.size ≤ B) : AbidesFrom B (ApAt w0 fn sv Bs l D) := fun s W W' row h hg hrow => by
  have hrow' : ∀ r, row = some r → ∃ o : Obj, W.heap[r]? = some o ∧ o.isWalk = true := fun r e => (hrow r e).2
  obtain ⟨v, hv, hr, hn⟩ := h.box
  exact ⟨⟨v, (grownBy_keeps hg hrow' hv rfl).trans hv, ownsRow_abides_a hr hg hrow', hn⟩, (grownBy_keeps hg hrow' h.L rfl).trans h.L, (grownBy_keeps hg hrow' h.K rfl).trans h.K,
    h.below.grown hg h.below.size (fun k e => Nat.le_trans hB (hrow k e).1)⟩
end Gv.Tryz
/- slices.AppendSeq and slices.Collect of an iterator of hashes: the walk. -/
set_option linter.unusedVariables false
set_option maxRecDepth 100000
namespace Gv.Tryz
open Go Gv Go.Proofs Go.RowKit Go.Maps Go.Sort Go.Shelf
theorem info_hash : ∃ i : TypeInfo, Tryz.prog.info? 40 = some i ∧ i.zero = some (.agg zero32) ∧ i.size = 32 ∧ i.bytes = 32 := by
  cases h : Tryz.prog.info? 40 with
  | none =>
    have : (Tryz.prog.info? 40).isSome = true := by kernel_rfl
    rw [h] at this; cases this
  | some i =>
    have h1 : (Tryz.prog.info? 40).bind (·.zero) = some (.agg zero32) := by kernel_rfl
    have h2 : (Tryz.prog.info? 40).map (·.size) = some 32 := by kernel_rfl
    have h3 : (Tryz.prog.info? 40).map (·.bytes) = some 32 := by kernel_rfl
    rw [h] at h1 h2 h3
    exact ⟨i, rfl, h1, by simpa using h2, by simpa using h3⟩
set_option maxHeartbeats 800000 in
theorem apYield (F : Fence) (m : Nat) (w0 : World) (fn : FuncId) (hfn : F.fn fn) (sv : Value) (Bs l D : Nat) (hBl : Bs ≠ l) (hDl : D ≠ l) (hDB : D ≠ Bs) (h0B : w0.heap.size ≤ Bs) (h0l : w0.heap.size ≤ l)
    (N : Nat) (hN : N ≤ maxLen) (hNb : N * 32 ≤ 140737488355328) (ss : List HL) (x : HL) (W : World) (h : ApAt w0 fn sv Bs l D ss W) (hlen : ss.length < N) :
    YieldAt F m Tryz.prog l #[encH x] W fun e W' => e = .returned (.bool true) ∧ ApAt w0 fn sv Bs l D (ss ++ [x]) W' ∧ KeepsWalks W W' := by
  have hne : (31 : TypeId) ≠ 40 := by decide
  obtain ⟨i0, hi, hz0, hz1, hz2⟩ := info_hash
  obtain ⟨v, hv, hrow, _⟩ := h.box
  refine ⟨fn, #[.slice none 0 0, sv, .pointer (some ⟨Bs, 0, none⟩), undef, .slice none 0 0, undef, sv, encH x, undef, undef, undef, undef, undef], apAssign, apBody, by simpa [apRec] using run_yield (P := Tryz.prog) (args := #[encH x]) h.L rfl, roundIn_of_wpIn hfn ?_⟩
  have hl : l < W.heap.size := (Array.getElem?_eq_some_iff.1 h.L).1
  have hal := World.alloc_heap_new W (.cells zero32 40)
  have hst := store_h x.2 hal rfl
  obtain ⟨W1, hW1⟩ : ∃ w3, (W.alloc (.cells zero32 40)).setRow W.heap.size (bytesV x.1).toArray = w3 := ⟨_, rfl⟩
  rw [hW1] at hst
  have hx1 : W1.heap[W.heap.size]? = some (.cells (bytesV x.1).toArray 40 (0, 0)) := by rw [← hW1]; exact setRow_heap _ _ _ _ _ _ hal
  have ho1 : ∀ k, k < W.heap.size → W1.heap[k]? = W.heap[k]? := fun k hk => by
    rw [← hW1, setRow_other _ _ _ _ (by omega)]
    exact Below.heap_alloc _ _ k hk
  have hs1 : W1.heap.size = W.heap.size + 1 := by rw [← hW1]; simp
  have hg1 : W.grownBy W1 none := ⟨by rw [← hW1]; rfl, by rw [← hW1]; rfl, by rw [← hW1]; rfl, by omega, fun k hk _ => ho1 k hk⟩
  have hk1 : KeepsWalks W W1 := ⟨by omega, fun k o hk ho => (ho1 k (Array.getElem?_eq_some_iff.1 hk).1).trans hk⟩
  clear hW1
  have old : ∀ {k : Nat} {o : Obj}, W.heap[k]? = some o → W1.heap[k]? = some o := fun hk => (ho1 _ (Array.getElem?_eq_some_iff.1 hk).1).trans hk
  have hv1 := old hv
  have hK1 := old h.K
  have hL1 := old h.L
  have hob : v.ownBlock = none ∨ v.ownBlock ≠ none := by cases v.ownBlock <;> simp
  have hrow1 : W1.ownsRow w0.heap.size 40 32 v ss.length (cellsH ss) := hrow.kept hg1 hob
  have hb1 : Below w0.heap.size w0 W1 := h.below.grown hg1 h.below.size (fun k e => by cases e)
  have hl1 : l < W1.heap.size := by omega
  have hbr := run_beginRound (P := Tryz.prog) hL1 rfl
  obtain ⟨W2, hW2⟩ : ∃ W2, W1.putObj l (.loop { apRec fn sv Bs D .ready none with state := .busy }) = W2 := ⟨_, rfl⟩
  rw [hW2] at hbr
  have hg2 : W1.grownBy W2 (some l) := by rw [← hW2]; exact grownBy_putObj_a _ _ _
  have hk2 : KeepsWalks W W2 := hk1.trans (by rw [← hW2]; exact KeepsWalks.putObj _ hL1 rfl)
  have hv2 : W2.heap[Bs]? = some (.cells #[v] 31 (0, 0)) := by rw [← hW2]; exact (World.putObj_heap_other hBl).trans hv1
  have hK2 : W2.heap[D]? = some (.deferred (some [])) := by rw [← hW2]; exact (World.putObj_heap_other hDl).trans hK1
  have hL2 : W2.heap[l]? = some (.loop { apRec fn sv Bs D .ready none with state := .busy }) := by rw [← hW2]; exact World.putObj_heap_same hl1
  have hx2 : W2.heap[W.heap.size]? = some (.cells (bytesV x.1).toArray 40 (0, 0)) := by rw [← hW2]; exact (World.putObj_heap_other (by omega)).trans hx1
  have hrow2 : W2.ownsRow w0.heap.size 40 32 v ss.length (cellsH ss) := hrow1.kept hg2 (ownsRow_ne_a hrow1 hL1 (fun cur e => by first | cases e | exact hne (Obj.cells.inj e).2.1))
  have hb2 : Below w0.heap.size w0 W2 := hb1.grown hg2 hb1.size (fun k e => by cases e; exact h0l)
  have hlo := load_h x.2 hx2
  clear hW2
  obtain ⟨hc2, hf2⟩ := cell_of_box_a hv2
  have hBlt : Bs < W2.heap.size := (Array.getElem?_eq_some_iff.1 hv2).1
  have hl2 : l < W2.heap.size := (Array.getElem?_eq_some_iff.1 hL2).1
  have hDlt : D < W2.heap.size := (Array.getElem?_eq_some_iff.1 hK2).1
  have ne_of : ∀ {j : Nat} {o : Obj}, W2.heap[j]? = some o → (∀ cur, o ≠ .cells cur 40 (0, 0)) → some j ≠ v.ownBlock := fun hj hno => by
    rcases ownsRow_ne_a hrow2 hj hno with e | e
    · rw [e]; simp
    · exact fun e' => e e'.symm
  have hbd := build_h W2 x.2
  have h32 : (bytesV x.1).length = 32 := by rw [bytesV_len, x.2]
  obtain ⟨V, hV⟩ : ∃ V, W2.alloc (.cells (bytesV x.1).toArray 40) = V := ⟨_, rfl⟩
  rw [hV] at hbd
  have hcl : ∀ (j : Nat) (u : Value), (bytesV x.1)[j]? = some u → V.cell? (Addr.add ⟨W2.heap.size, 0, none⟩ j) = some u := fun j u hj => by
    have ha : Addr.add ⟨W2.heap.size, 0, none⟩ j = ⟨W2.heap.size, j, none⟩ := by unfold Addr.add; split <;> simp_all
    have := World.alloc_heap_new W2 (.cells (bytesV x.1).toArray 40)
    rw [ha, ← hV]
    simp only [World.cell?, this]
    simpa using hj
  have hrowV : V.ownsRow w0.heap.size 40 32 v ss.length (cellsH ss) := by rw [← hV]; exact hrow2.alloc _
  have hsV : V.heap.size = W2.heap.size + 1 := by rw [← hV]; simp
  have oldV : ∀ {k : Nat} {o : Obj}, W2.heap[k]? = some o → V.heap[k]? = some o := fun hk => by rw [← hV]; exact (Below.heap_alloc _ _ _ (Array.getElem?_eq_some_iff.1 hk).1).trans hk
  have hbV : Below w0.heap.size w0 V := by rw [← hV]; exact hb2.alloc hb2.size _
  have hkV : KeepsWalks W V := hk2.trans (by rw [← hV]; exact KeepsWalks.alloc _ _)
  have h0V := hbV.size
  clear hV
  unfold apAssign
  gi_wp2_with (first
    | (refine wpListIn_alloc (t := 40) rfl rfl (alloc_h _) ?_)
    | (refine wpListIn_store (t := 40) (x := .tmp 5) (y := .tmp 7) (w' := W1) rfl rfl ?_ ?_; exact hst)
    | gi_round_op_a)
  unfold apBody
  gi_wp2_with (first
    | (refine wpListIn_load (t := 40) (x := .tmp 5) (v := encV x.1) rfl rfl ?_ ?_; exact hlo)
    | (refine wpListIn_buildSlice1 (t := 31) (x := .tmp 9) (v := .slice (some ⟨W2.heap.size, 0, none⟩) 1 1) (w' := V) rfl rfl ?_ ?_; exact hbd)
    | (gi_at_builtin; refine wpListIn_append_own V rfl (.tmp 8) (.tmp 10) 31 rfl w0.heap.size 40 i0 (.agg zero32) 32 32 Tryz.underlying31 hi hz0 hz1 hz2 rfl (by decide) v _ _ rfl hrowV ⟨W2.heap.size, 0, none⟩ 1 1 (bytesV x.1) rfl (by rw [h32]) hcl (bytesV_one x.1) (by omega) (by omega) h0V ?_; intro v' w3 hown' hg3 hnil3
       have hv3 : w3.heap[Bs]? = some (.cells #[v] 31 (0, 0)) := (hg3.block Bs (by omega) (ne_of hv2 (fun cur e => by first | cases e | exact hne (Obj.cells.inj e).2.1))).trans (oldV hv2)
       obtain ⟨hc3, hf3⟩ := cell_of_box_a hv3
       obtain ⟨g', cap', cur', rfl, hbase', hgb', hr1, hr2, hr3, hr4⟩ : ∃ g' cap' cur', v' = .slice (some ⟨g', 0, none⟩) (ss.length + 1) cap' ∧ w0.heap.size ≤ g' ∧ w3.heap[g']? = some (.cells cur' 40 (0, 0)) ∧ ss.length + 1 ≤ cap' ∧ cap' ≤ maxLen ∧ cur'.size = cap' * 32 ∧ cur'.toList.take ((ss.length + 1) * 32) = cellsH ss ++ bytesV x.1 := by
         rcases hown'.2 with ⟨_, h0⟩ | h'
         · exact absurd h0 (by omega)
         · exact h'
       go_frame)
    | gi_round_op_a)
  have hL3 : w3.heap[l]? = some (.loop { apRec fn sv Bs D .ready none with state := .busy }) := (hg3.block l (by omega) (ne_of hL2 (fun cur e => by first | cases e | exact hne (Obj.cells.inj e).2.1))).trans (oldV hL2)
  have hK3 : w3.heap[D]? = some (.deferred (some [])) := (hg3.block D (by omega) (ne_of hK2 (fun cur e => by first | cases e | exact hne (Obj.cells.inj e).2.1))).trans (oldV hK2)
  obtain ⟨w4, hw4⟩ : ∃ w4, w3.setCell ⟨Bs, 0, none⟩ (.slice (some ⟨g', 0, none⟩) (ss.length + 1) cap') = w4 := ⟨_, rfl⟩
  rw [hw4]
  have hg4 : w3.grownBy w4 (some Bs) := by rw [← hw4]; exact grownBy_setCell0_a _ _ _
  have hv4 : w4.heap[Bs]? = some (.cells #[.slice (some ⟨g', 0, none⟩) (ss.length + 1) cap'] 31 (0, 0)) := by rw [← hw4]; exact heap_setCell_box_a _ hv3
  have hL4 : w4.heap[l]? = some (.loop { apRec fn sv Bs D .ready none with state := .busy }) := (hg4.block l (Array.getElem?_eq_some_iff.1 hL3).1 (fun e => hBl (by cases e; rfl))).trans hL3
  have hK4 : w4.heap[D]? = some (.deferred (some [])) := (hg4.block D (Array.getElem?_eq_some_iff.1 hK3).1 (fun e => hDB (by cases e; rfl))).trans hK3
  have hrow4 := hown'.kept hg4 (ownsRow_ne_a hown' hv3 (fun cur e => by first | cases e | exact hne (Obj.cells.inj e).2.1))
  have hl4 : l < w4.heap.size := (Array.getElem?_eq_some_iff.1 hL4).1
  have hb3 : Below w0.heap.size w0 w3 := hbV.grown hg3 h0V (fun k e => (hrow2.lt k e).1)
  have hb4 : Below w0.heap.size w0 w4 := hb3.grown hg4 hb3.size (fun k e => by cases e; exact h0B)
  have hk4 : KeepsWalks W w4 := (hkV.trans (KeepsWalks.of_grownBy hg3 (ownsRow_not_walk_a hrowV))).trans (by rw [← hw4]; exact KeepsWalks.setCell _ _ _)
  clear hw4
  refine ⟨_, _, run_endRound none hL4, rfl, ⟨⟨_, (World.putObj_heap_other hBl).trans hv4, ?_, by simp⟩, World.putObj_heap_same hl4, (World.putObj_heap_other hDl).trans hK4, hb4.grown (grownBy_putObj_a _ _ _) hb4.size (fun k e => by cases e; exact h0l)⟩, hk4.trans (KeepsWalks.putObj _ hL4 rfl)⟩
  have := hrow4.kept (grownBy_putObj_a w4 l (.loop { { apRec fn sv Bs D .ready none with state := .busy } with state := if (none : Option Code).isNone then .ready else .done, pending := none })) (ownsRow_ne_a hrow4 hL4 (fun cur e => by first | cases e | exact hne (Obj.cells.inj e).2.1))
  rw [cellsH_snoc, List.length_append]
  exact this
set_option maxHeartbeats 2000000 in
theorem appendSeq (F : Fence) (n : Nat) (h11 : F.fn 62) (hro : F.round = none) (hn : 2 ≤ n) (g : Nat) (lb : Array Value) (hFg : F.fn g) (eg : ∀ args w, (callFunc g args).run Tryz.prog w = .ok (.enter g args) w)
    (S : List HL → Prop) (N : Nat) (hN : N ≤ maxLen) (hNb : N * 32 ≤ 140737488355328) (w : World) (hseq : SeqGives F (n - 1) Tryz.prog g lb encH S N w) :
    CallsIn F n Tryz.prog 62 #[.slice none 0 0, .func (.func g) #[] lb] w fun e w' => ∃ (v : Value) (ss : List HL), e = .returned v ∧ S ss ∧ w'.ownsRow w.heap.size 40 32 v ss.length (cellsH ss) ∧ (v = .slice none 0 0 ↔ ss = []) ∧ Below w.heap.size w w' := by
  have h1 : 1 ≤ n := by omega
  have hne : (31 : TypeId) ≠ 40 := by decide
  refine callsIn_of_wp_marks Tryz.func62 rfl h11 ?_ hro
  simp only [Tryz.ntmps62, List.size_toArray, List.length_cons, List.length_nil, Nat.reduceAdd, Nat.reduceSub, Array.replicate_succ, Array.replicate_zero, List.push_toArray, List.append_toArray, List.nil_append, List.cons_append]
  gi_wp2
  refine wpIn_rangeFunc ?_
  intro fn hfn
  rw [hro]
  obtain ⟨W0, hW0⟩ : ∃ W0, w.alloc (.cells #[.slice none 0 0] 31) = W0 := ⟨_, rfl⟩
  have hs0 : W0.heap.size = w.heap.size + 1 := by rw [← hW0]; simp
  have hv0 : W0.heap[w.heap.size]? = some (.cells #[.slice none 0 0] 31 (0, 0)) := by rw [← hW0]; exact World.alloc_heap_new w _
  have hb0 : Below w.heap.size w W0 := by rw [← hW0]; exact (Below.refl _ w).alloc (Nat.le_refl _) _
  rw [hW0]
  obtain ⟨W1, hW1⟩ : ∃ W1, (W0.alloc (.deferred (some []))).alloc (.loop (apRec fn (.func (.func g) #[] lb) w.heap.size W0.heap.size .ready none)) = W1 := ⟨_, rfl⟩
  have hold : ∀ k, k < W0.heap.size → W1.heap[k]? = W0.heap[k]? := fun k hk => by
    rw [← hW1]; exact (Below.heap_alloc _ _ k (by simp; omega)).trans (Below.heap_alloc _ _ k hk)
  have hb1 : Below w.heap.size w W1 := by rw [← hW1]; exact (hb0.alloc hb0.size _).alloc (by have := hb0.size; simp; omega) _
  have hs1 : W1.heap.size = W0.heap.size + 2 := by rw [← hW1]; simp
  have hM : ApAt w fn (.func (.func g) #[] lb) w.heap.size (W0.heap.size + 1) W0.heap.size [] W1 :=
    ⟨⟨_, (hold w.heap.size (by omega)).trans hv0, ⟨rfl, .inl ⟨rfl, rfl⟩⟩, by simp⟩,
     by rw [← hW1]; have := World.alloc_heap_new (W0.alloc (.deferred (some []))) (.loop (apRec fn (.func (.func g) #[] lb) w.heap.size W0.heap.size .ready none)); rwa [World.size_alloc] at this,
     by rw [← hW1]; exact (Below.heap_alloc _ _ _ (by simp)).trans (World.alloc_heap_new W0 _), hb1⟩
  refine ⟨W0.heap.size + 1, [{ target := .collected W0.heap.size, args := #[] }], W1, { target := .fn (.func g) lb, args := #[.func (.yield (W0.heap.size + 1)) #[] #[]] }, W1, g,
    #[.func (.yield (W0.heap.size + 1)) #[] #[]] ++ lb, W1, ?_, ?_, ?_, ?_, fun _ => h1, ?_⟩
  · rw [← hW1]; exact run_enterLoop_outer _ _ _ _ _
  · simp [resolve, go_sem]
  · intro f' hf'; simp [Target.leads] at hf'; subst hf'; exact hFg
  · simp [invoke, go_sem, eg]
  · refine (hseq (W0.heap.size + 1) (ApAt w fn (.func (.func g) #[] lb) w.heap.size (W0.heap.size + 1) W0.heap.size) W1 hb1 (ap_abides _ _ _ _ _ _ _ hb1.size)
      (fun pre x W hJ hl => apYield F (n - 1 - 1) w fn hfn _ w.heap.size (W0.heap.size + 1) W0.heap.size (by omega) (by omega) (by omega) (Nat.le_refl _) (by omega) N hN hNb pre x W hJ hl) hM).mono ?_
    rintro e W2 ⟨⟨v0, rfl⟩, ss, hS, h2⟩
    obtain ⟨v, hv, hrow, hnil⟩ := h2.box
    have hend := run_endLoop (P := Tryz.prog) h2.L (by simp [apRec])
    obtain ⟨W3, hW3⟩ : ∃ W3, W2.putObj (W0.heap.size + 1) (.loop { apRec fn (.func (.func g) #[] lb) w.heap.size W0.heap.size .ready none with state := .exhausted }) = W3 := ⟨_, rfl⟩
    rw [hW3] at hend
    have hg3 : W2.grownBy W3 (some (W0.heap.size + 1)) := by rw [← hW3]; exact grownBy_putObj_a _ _ _
    have hv3 : W3.heap[w.heap.size]? = some (.cells #[v] 31 (0, 0)) := by rw [← hW3]; exact (World.putObj_heap_other (by omega)).trans hv
    have hK3 : W3.heap[W0.heap.size]? = some (.deferred (some [])) := by rw [← hW3]; exact (World.putObj_heap_other (by omega)).trans h2.K
    have hrow3 := hrow.kept hg3 (ownsRow_ne_a hrow h2.L (fun cur e => by first | cases e | exact hne (Obj.cells.inj e).2.1))
    have hb3 : Below w.heap.size w W3 := h2.below.grown hg3 h2.below.size (fun k e => by cases e; omega)
    obtain ⟨hc3, hf3⟩ := cell_of_box_a hv3
    clear hW3
    refine ⟨none, W3, hend, ?_⟩
    gi_wp2
    rw [← hs0]
    refine ⟨by simp, .inl ⟨_, _, rfl, run_takeDeferred hK3, ?_⟩⟩
    exact ⟨_, results_tmp rfl _ _ _, v, ss, rfl, hS, hrow3.kept (grownBy_putObj_a _ _ _) (ownsRow_ne_a hrow3 hK3 (fun cur e => by first | cases e | exact hne (Obj.cells.inj e).2.1)), hnil, hb3.grown (grownBy_putObj_a _ _ _) hb3.size (fun k e => by cases e; omega)⟩
set_option maxHeartbeats 1000000 in
theorem collect (F : Fence) (n : Nat) (h8 : F.fn 38) (h11 : F.fn 62) (hro : F.round = none) (hn : 3 ≤ n) (g : Nat) (lb : Array Value) (hFg : F.fn g) (eg : ∀ args w, (callFunc g args).run Tryz.prog w = .ok (.enter g args) w)
    (S : List HL → Prop) (N : Nat) (hN : N ≤ maxLen) (hNb : N * 32 ≤ 140737488355328) (w : World) (hseq : SeqGives F (n - 1 - 1) Tryz.prog g lb encH S N w) :
    CallsIn F n Tryz.prog 38 #[.func (.func g) #[] lb] w fun e w' => ∃ (v : Value) (ss : List HL), e = .returned v ∧ S ss ∧ w'.ownsRow w.heap.size 40 32 v ss.length (cellsH ss) ∧ (v = .slice none 0 0 ↔ ss = []) ∧ Below w.heap.size w w' := by
  have h1 : 1 ≤ n := by omega
  have e11 : ∀ args w, (callFunc 62 args).run Tryz.prog w = .ok (.enter 62 args) w := enters_of Tryz.func62 (by kernel_rfl) rfl
  refine callsIn_of_wp Tryz.func38 rfl h8 ?_ hro
  simp only [Tryz.ntmps38, List.size_toArray, List.length_cons, List.length_nil, Nat.reduceAdd, Nat.reduceSub, Array.replicate_succ, Array.replicate_zero, List.push_toArray, List.append_toArray, List.nil_append, List.cons_append]
  gi_wp2_with (gi_at_fn 62; refine (appendSeq F (n - 1) h11 hro (by omega) g lb hFg eg S N hN hNb _ hseq).mono ?_; rintro e w' ⟨v, ss, rfl, hS, hrow, hnil, hb⟩)
  go_ret
  exact ⟨v, ss, rfl, hS, hrow, hnil, hb⟩
end Gv.Tryz
/- slices.Collect(maps.Keys(set)): the set's hashes, in some order. -/
set_option linter.unusedVariables false
set_option linter.unusedSimpArgs false
set_option maxRecDepth 20000
set_option maxHeartbeats 4000000
namespace Gv.Tryz
open Go Gv Go.Proofs Go.RowKit
def hsB (l : List Hs) : List UInt8 := l.flatMap (·.1)
theorem cellsH_B (l : List Hs) : cellsH l = bytesV (hsB l) := by
  induction l with
  | nil => rfl
  | cons h r ih => simp only [cellsH, hsB, List.flatMap_cons, bytesV, List.map_append] at ih ⊢; rw [ih]
theorem hsG_B (l : List Hs) : (hsG l).flatten = bytesG (hsB l) := by
  induction l with
  | nil => rfl
  | cons h r ih => simp only [hsG, hsB, List.flatMap_cons, List.map_cons, List.flatten_cons, bytesG, List.map_append] at ih ⊢; rw [ih]
theorem vr_key {E : Env} {v : Value} {h : Hs} (hv : VR E v (.agg (bytesG h.1))) : v = encH h := by
  have := argsR_agg (E := E) (vs := #[v]) (l := h.1) ⟨rfl, fun i g hg => by
    match i with
    | 0 => simp at hg; subst hg; simpa using hv
    | i + 1 => simp at hg⟩
  have h2 : v = .agg (bytesV h.1).toArray := by simpa using this
  exact h2
theorem encH_inj {a b : Hs} (h : encH a = encH b) : a = b := by
  have h1 : (bytesV a.1).toArray = (bytesV b.1).toArray := by injection h
  have h2 : bytesV a.1 = bytesV b.1 := by simpa using h1
  refine Subtype.ext ?_
  have : ∀ (x y : List UInt8), bytesV x = bytesV y → x = y := by
    intro x
    induction x with
    | nil => intro y h; cases y with
      | nil => rfl
      | cons => cases h
    | cons c r ih =>
      intro y h
      cases y with
      | nil => cases h
      | cons d s =>
        simp only [bytesV, List.map_cons, List.cons.injEq, Value.int.injEq, true_and] at h
        rw [ih s h.2]
        have : c.toNat = d.toNat := by have := h.1; omega
        rw [UInt8.toNat_inj.1 this]
  exact this _ _ h2
theorem perm_of_map {α β : Type} {f : α → β} (hf : ∀ a b, f a = f b → a = b) {l m : List α} (h : (l.map f).Perm (m.map f)) : l.Perm m := by
  classical
  rw [List.perm_iff_count] at h ⊢
  intro a
  have := h (f a)
  have hc : ∀ x : List α, (x.map f).count (f a) = x.count a := by
    intro x
    induction x with
    | nil => rfl
    | cons b r ih =>
      rw [List.map_cons, List.count_cons, List.count_cons, ih]
      by_cases e : b = a
      · simp [e]
      · have : f b ≠ f a := fun q => e (hf _ _ q)
        simp [e, this]
  rwa [hc, hc] at this
theorem gCollect {α : Type} (enc : α → GVal) (m : List (Hs × α)) (hm : m.length ≤ 1000000000) {O : List GObj} {o st oc stc : Nat} (hO : O[o]? = some (.map st (kvG enc m))) (hOc : O[oc]? = some (.row stc 1 [[.map o st]])) :
    GCalls Tryz.prog 38 [.func (.func 79) [] [.ptr oc stc 0 0]] O (fun g O' => ∃ l : List Hs, l.Perm (m.map (·.1)) ∧ g = .slice (hsG l) .none ∧ O' = O) := by
  refine ⟨by kernel_rfl, fun E w vs hs ha => ?_⟩
  obtain ⟨hsz, hat⟩ := ha
  match vs, hsz with
  | ⟨[v]⟩, _ =>
    have hv := hat 0 _ rfl
    change VR E v _ at hv
    cases hv with
    | func fn fs cs gs ks hf hk hfs hcs =>
      obtain ⟨fs⟩ := fs
      obtain ⟨cs⟩ := cs
      match fs, hf with
      | [], _ =>
        match cs, hk with
        | [c], _ =>
          have hc := hcs 0 _ rfl
          change VR E c (.ptr oc stc 0 0) at hc
          cases hc with
          | ptr b off _ _ _ _ lc hlc hbc hoff =>
            have hre := hs.real _ _ hOc
            obtain ⟨lc2, hlc2, hsz2, _, hre⟩ := hre
            rw [hlc] at hlc2; cases hlc2
            rw [hbc] at hre
            obtain ⟨cur, el, hcw, hcs, hct, hrows, _⟩ := hre
            obtain ⟨q, h1, _, h2⟩ := hrows 0 (.map o st) rfl
            have hoff2 : off = lc.off := by rw [hoff]; omega
            have hcell : w.cell? ⟨b, off, none⟩ = some q := by
              simp only [World.cell?, hcw, hoff2]
              simpa using h1
            have hBm : b < w.heap.size := (Array.getElem?_eq_some_iff.1 hcw).1
            cases h2 with
            | map r o st l hl hb =>
              obtain ⟨b2, es, clock, e, hw, hes, hent, hloc, hsn2, hbo⟩ := map_block hs (VR.map r o st l hl hb) hO
              cases e
              have hln : es.size = m.length := by
                have : es.toList.length = (kvG enc m).length := hes
                rw [Array.length_toList] at this
                rw [this, kvG, List.length_map]
              have hkey : es.toList.map MapEntry.key = (m.map (·.1)).map encH := by
                refine List.ext_getElem? fun i => ?_
                rw [List.getElem?_map, List.getElem?_map, List.getElem?_map]
                cases hi : m[i]? with
                | none =>
                  have : es.toList[i]? = none := by
                    rw [List.getElem?_eq_none_iff] at hi ⊢
                    rw [Array.length_toList]; omega
                  rw [this]; rfl
                | some p =>
                  have hlt := (List.getElem?_eq_some_iff.1 hi).1
                  have hi2 : i < es.toList.length := by rw [Array.length_toList]; omega
                  have he : es.toList[i]? = some (es.toList[i]) := List.getElem?_eq_getElem hi2
                  have := (hent i _ (.agg (bytesG p.1.1), enc p.2) he (by simp [kvG, hi])).1
                  rw [he]
                  exact congrArg some (vr_key this)
              have hks : ∀ e ∈ es.toList, ∃ h : HL, e.key = encH h := by
                intro e he
                have : e.key ∈ es.toList.map MapEntry.key := List.mem_map_of_mem he
                rw [hkey] at this
                obtain ⟨h, _, eh⟩ := List.mem_map.1 this
                exact ⟨h, eh.symm⟩
              have hseq := keysGives Fence.wide 3 trivial rfl (by omega) b off r clock es hbo hks w hBm hcell hw
              have hc := collect Fence.wide 5 trivial trivial rfl (by omega) 79 #[.pointer (some ⟨b, off, none⟩)] trivial (enters_of Tryz.func79 (by kernel_rfl) rfl) _ es.size (by rw [hln]; exact Nat.le_trans hm (by decide)) (by omega) w hseq
              refine (callsIn_wide.1 hc).mono ?_
              rintro e' w' ⟨v, ss, rfl, hS, hrow, hnil, hbel⟩
              have hperm : ss.Perm (m.map (·.1)) := perm_of_map (fun _ _ => encH_inj) (by rw [← hkey]; exact hS)
              rcases hrow.2 with ⟨rfl, hz⟩ | ⟨g, cap, cur, rfl, hbase, hgb, r1, r2, r3, r4⟩
              · have hss : ss = [] := List.eq_nil_of_length_eq_zero hz
                subst hss
                obtain ⟨p1, p2⟩ := hs.belowO hbel
                exact ⟨_, E, O, .slice [] .none, rfl, p1, p2, .slice none 0 0 [] .none 32 (fun _ => undef) rfl (Nat.le_refl _) (by simp) (by simp) (by simp) trivial, [], hperm, rfl, rfl⟩
              · have hcur : ∀ j, j < ss.length * 32 → cur[j]? = (bytesV (hsB ss))[j]? := by
                  intro j hj
                  rw [← cellsH_B, ← r4, List.getElem?_take_of_lt hj, Array.getElem?_toList]
                have hbl : (bytesV (hsB ss)).length = ss.length * 32 := by rw [← cellsH_B, cellsH_len]
                obtain ⟨p1, p2⟩ := hs.belowSeal hbel (n := ss.length * 32) hbase hgb (fun j v hj hv => by
                  rw [hcur j hj] at hv
                  exact bytesV_one _ v (List.mem_of_getElem? hv))
                refine ⟨_, _, O, .slice (hsG ss) .none, rfl, p1, p2, .slice _ _ _ _ _ 32 (fun j => (bytesV (hsB ss)).getD j undef) (by rw [hsG_len]) r1 (fun x hx => by obtain ⟨h, _, rfl⟩ := List.mem_map.1 hx; exact len32 h) (fun _ => ⟨g, 0, rfl, fun j hj => ?_⟩) (fun j gv hj => ?_) trivial, ss, hperm, rfl, rfl⟩
                · show (if g = g then (if 0 + j < ss.length * 32 then cur[0 + j]? else none) else E.snap g (0 + j)) = _
                  rw [if_pos rfl, Nat.zero_add, if_pos hj, hcur j hj, List.getD_eq_getElem?_getD]
                  cases hq2 : (bytesV (hsB ss))[j]? with
                  | none => rw [List.getElem?_eq_none_iff] at hq2; omega
                  | some x => rfl
                · rw [hsG_B, bytesG, List.getElem?_map] at hj
                  rw [List.getD_eq_getElem?_getD, bytesV, List.getElem?_map]
                  cases hq2 : (hsB ss)[j]? with
                  | none => rw [hq2] at hj; cases hj
                  | some x =>
                    rw [hq2] at hj
                    cases hj
                    exact .int _ _
theorem gKeys {α : Type} (enc : α → GVal) (m : List (Hs × α)) {st : Nat} : GCalls Tryz.prog 64 [.map 0 st] [.map st (kvG enc m)] (fun g O' => ∃ stc, g = .func (.func 79) [] [.ptr 1 stc 0 0] ∧ O' = [.map st (kvG enc m), .row stc 1 [[.map 0 st]]]) := by
  refine h64.calls mixS (by simp) ?_
  simp only [gstart, s64, List.cons_append, List.nil_append, List.length_cons, List.length_nil, Nat.reduceAdd, Nat.reduceSub, List.replicate_succ, List.replicate_zero]
  simp +contextual -implicitDefEqProofs (maxSteps := 2000000) (disch := omega) only [↓boxV, GVal.cells, GVal.ofConst, ↓resV, resG, List.map, allSolid, GVal.solid, vcA, ↓vcB, vcC, e64]
  exact fun s => ⟨s, rfl, rfl⟩
end Gv.Tryz
/- Contracts: graph's joined, lacking. -/
set_option linter.unusedVariables false
set_option linter.unusedSimpArgs false
set_option maxRecDepth 20000
set_option maxHeartbeats 4000000
namespace Gv.Tryz
open Go Gv Go.Proofs
open Nat (reduceEqDiff reduceAdd reduceSub reduceLeDiff reduceMul reduceLT)
def joinE (m : GM) (c : Cm) : Except (Hs × Int) GM := match look m c.1 with
  | some l => if l = c.2 then .ok m else .error (c.1, 9)
  | none => .ok (mset m c.1 c.2)
def joinP : GM → List Cm → Except (Hs × Int) GM
  | m, [] => .ok m
  | m, c :: r => match joinE m c with
    | .ok m' => joinP m' r
    | .error e => .error e
theorem joinP_drop (m : GM) (l : List Cm) (k : Nat) (h : k < l.length) : joinP m (l.drop k) = match joinE m (l.getD k default) with
    | .ok m' => joinP m' (l.drop (k + 1))
    | .error e => .error e := by rw [dropC h, joinP]
def joinV (st : Nat) : Except (Hs × Int) GM → GVal
  | .ok _ => .tuple [.map 2 st, .lit .nilIface]
  | .error (h, n) => .tuple [.lit (.map none), whichG h n]
def joinO (st : Nat) : Except (Hs × Int) GM → List GObj
  | .ok m' => [.map st (kvG encL m')]
  | .error _ => []
theorem gJoined (m : GM) (cs : List Cm) (tc : Tag) (st s : Nat) (hc : cs.length ≤ 1000000) (hp : ∀ c ∈ cs, c.2.length ≤ 1000000) (hm : ∀ h l, look m h = some l → l.length ≤ 1000000) :
    GCalls Tryz.prog 55 [.ptr 0 st 0 0, .slice (csG cs) tc] (gObj st s m) (fun g O' => ∃ st', g = joinV st' (joinP m cs) ∧ O' = gObj st s m ++ joinO st' (joinP m cs)) := by
  refine GCalls.dropTo ?_
  refine h55.calls mixS (by simp) ?_
  simp only [gstart, s55, List.cons_append, List.nil_append, List.length_cons, List.length_nil, reduceAdd, reduceSub, List.replicate_succ, List.replicate_zero]
  simp +contextual -implicitDefEqProofs (maxSteps := 2000000) (disch := omega) only [↓loadV, ↓fieldAddrV, ↓nilV, grp, GVal.ofConst, List.map, List.headD, List.take, List.drop, reduceLeDiff, implies_true, vcA, ↓vcB, vcC, fbFw, e55]
  refine (cMapClone (O := gObj st s m) rfl rfl).mono ?_
  rintro g O' ⟨s2, rfl, rfl⟩
  simp +contextual -implicitDefEqProofs (maxSteps := 2000000) (disch := omega) only [↓lenV, GVal.ofConst, reduceAdd, vcA, ↓vcB, vcC, fbFw, csG_len]
  refine vcSLoop_by (ι := { p : Nat × GM // p.1 ≤ cs.length ∧ joinP m cs = joinP p.2 (cs.drop p.1) ∧ ∀ h l, look p.2 h = some l → l.length ≤ 1000000 }) (fun p => ⟨List.replicate 6 .any ++ [.map 2 s2] ++ List.replicate 9 .any ++ [.slice (csG cs) tc, .int .i64 cs.length, .int .i64 (p.1.1 : Nat)] ++ List.replicate 32 .any, [.row st 1 [[.map 1 s]], .map s (kvG encL m), .map s2 (kvG encL p.1.2)]⟩) (fun p => cs.length - p.1.1) ?_ ?_
  · exact Into.first ⟨(0, m), by show 0 ≤ _; omega, by simp, hm⟩ ⟨[], by simp⟩ (by simp [WL, leG_self, leG_any])
  · rintro ⟨⟨k, M⟩, hk, hf, hM⟩
    change k ≤ cs.length at hk
    change joinP m cs = joinP M (cs.drop k) at hf
    change ∀ h l, look M h = some l → l.length ≤ 1000000 at hM
    by_cases h : k < cs.length
    · have d0 : ((k : Int) < (cs.length : Int)) = True := eq_true (by omega)
      have eS := csG_at cs k h
      have hx := hp _ (memC h)
      rw [joinP_drop _ _ _ h] at hf
      generalize cs.getD k default = x at *
      obtain ⟨xh, xp⟩ := x
      change xp.length ≤ 1000000 at hx
      cases el : look M xh with
      | some l =>
        obtain ⟨i, hi, hv, _⟩ := look_idx encL M xh l el
        have hl := hM xh l el
        have cE := gEqual l xp .none .none (by omega)
        by_cases e : l = xp
        · have ej : joinE M (xh, xp) = .ok M := by unfold joinE; simp only [el]; rw [if_pos e]
          rw [ej] at hf
          rw [decide_eq_true e] at cE
          simp +contextual -implicitDefEqProofs (maxSteps := 2000000) (disch := omega) only [binV, ↓loadV, ↓storeV, ↓fieldAddrV, ↓indexAddrV, ↓allocV, GVal.cells, grp, List.map, List.headD, List.take, List.drop, reduceEqDiff, reduceAdd, reduceLeDiff, reduceCtorEq, implies_true, ↓lookupV, keyOk, keyCells, pairG, List.replicate, GVal.solid, splice, vcA, ↓vcB, vcC, fbFw, csG_len, comG, take32a, drop32a, take33a, len33, solid33, len32, kfind_h, hi, hv, d0, eS]
          refine ⟨by omega, fun u => ?_⟩
          refine cE.then ?_ (by rfl)
          simp +contextual -implicitDefEqProofs (maxSteps := 2000000) (disch := omega) only [binV, ↓unV, GVal.ofConst, vcA, ↓vcB, vcC]
          exact Into.at ⟨(k + 1, M), by show k + 1 ≤ _; omega, hf, hM⟩ (by show _ < _; simp; omega) ⟨_, rfl⟩ (by simp [WL, leG_self, leG_any])
        · have ej : joinE M (xh, xp) = .error (xh, 9) := by unfold joinE; simp only [el]; rw [if_neg e]
          rw [ej] at hf
          rw [decide_eq_false e] at cE
          simp +contextual -implicitDefEqProofs (maxSteps := 2000000) (disch := omega) only [binV, ↓loadV, ↓storeV, ↓fieldAddrV, ↓indexAddrV, ↓allocV, GVal.cells, grp, List.map, List.headD, List.take, List.drop, reduceEqDiff, reduceAdd, reduceLeDiff, reduceCtorEq, implies_true, ↓lookupV, keyOk, keyCells, pairG, List.replicate, GVal.solid, splice, vcA, ↓vcB, vcC, fbFw, csG_len, comG, take32a, drop32a, take33a, len33, solid33, len32, kfind_h, hi, hv, d0, eS]
          refine ⟨by omega, fun u => ?_⟩
          refine cE.then ?_ (by rfl)
          simp +contextual -implicitDefEqProofs (maxSteps := 2000000) (disch := omega) only [↓unV, ↓loadV, ↓fieldAddrV, ↓ifaceV, grp, GVal.ofConst, List.map, List.drop, reduceEqDiff, reduceLeDiff, reduceCtorEq, vcA, ↓vcB, vcC, fbFw, take32a, len33]
          refine (gOf xh 9).then ?_ (by rfl)
          simp +contextual -implicitDefEqProofs (maxSteps := 2000000) (disch := omega) only [GVal.ofConst, ↓resV, resG, vcA, ↓vcB]
          rw [hf]
          exact ⟨_, gObj st s m, _, rfl, leA_refl _, 0, rfl, rfl⟩
      | none =>
        obtain ⟨hi, hw⟩ := look_none encL M xh el
        have ej : joinE M (xh, xp) = .ok (mset M xh xp) := by unfold joinE; simp only [el]
        rw [ej] at hf
        have hw := hw xp
        have cC := gCloneP xp .none (by omega) (by simp)
        simp +contextual -implicitDefEqProofs (maxSteps := 2000000) (disch := omega) only [drawC, drawK, binV, ↓unV, ↓loadV, ↓storeV, ↓fieldAddrV, ↓indexAddrV, ↓allocV, GVal.cells, grp, GVal.ofConst, List.map, List.headD, List.take, List.drop, reduceEqDiff, reduceAdd, reduceLeDiff, reduceCtorEq, implies_true, ↓lookupV, keyOk, keyCells, pairG, List.replicate, GVal.solid, splice, vcA, ↓vcB, vcC, fbFw, csG_len, comG, take32a, drop32a, take33a, len33, solid33, len32, kfind_h, hi, d0, eS]
        refine ⟨by omega, fun u => ?_⟩
        refine cC.then ?_ (by rfl)
        simp +contextual -implicitDefEqProofs (maxSteps := 2000000) (disch := omega) only [drawC, drawK, binV, GVal.ofConst, reduceAdd, ↓mapUpdateV, keyOk, keyCells, vcA, ↓vcB, vcC, fbFw, kfind_h, hi, hw, len32]
        refine ⟨⟨[], rfl⟩, ?_⟩
        refine Into.at ⟨(k + 1, mset M xh xp), by show k + 1 ≤ _; omega, hf, fun h l e => ?_⟩ (by show _ < _; simp; omega) ⟨[.row u 33 [comG (xh, xp)]], rfl⟩ (by simp [WL, leG_self, leG_any])
        simp only [look_mset] at e
        split at e
        · cases e; exact hx
        · exact hM h l e
    · have d0 : ((k : Int) < (cs.length : Int)) = False := eq_false (by omega)
      rw [List.drop_of_length_le (by omega), joinP] at hf
      simp +contextual -implicitDefEqProofs (maxSteps := 2000000) (disch := omega) only [drawC, drawK, binV, ↓unV, ↓loadV, ↓storeV, ↓fieldAddrV, ↓indexAddrV, ↓allocV, GVal.cells, grp, GVal.ofConst, ↓resV, resG, List.map, List.headD, List.take, List.drop, ↓reduceIte, reduceEqDiff, reduceAdd, reduceLeDiff, reduceCtorEq, implies_true, ↓lookupV, keyOk, keyCells, pairG, List.replicate, GVal.solid, splice, vcA, ↓vcB, vcC, fbFw, csG_len, d0]
      rw [hf]
      exact ⟨_, _, [], (List.append_nil _).symm, leA_refl _, s2, rfl, rfl⟩
def nowhere (M : GM) (n : Int) (p : Hs) : Er := match look M p with
  | some _ => none
  | none => some (some p, n)
def lackP (M : GM) (cs : List Cm) (hs : List Hs) : Er := match cs.findSome? (fun c => c.2.findSome? (nowhere M 10)) with
  | some e => some e
  | none => hs.findSome? (nowhere M 11)
theorem findH {f : Hs → Er} {l : List Hs} {k : Nat} (h : k < l.length) : (l.drop k).findSome? f = match f (l.getD k h0) with
  | some e => some e
  | none => (l.drop (k + 1)).findSome? f := by
  rw [dropH h, List.findSome?_cons]
  cases f (l.getD k h0) <;> rfl
theorem findC {f : Cm → Er} {l : List Cm} {k : Nat} (h : k < l.length) : (l.drop k).findSome? f = match f (l.getD k default) with
  | some e => some e
  | none => (l.drop (k + 1)).findSome? f := by
  rw [dropC h, List.findSome?_cons]
  cases f (l.getD k default) <;> rfl
theorem gLacking (M : GM) (cs : List Cm) (hs : List Hs) (th : Tag) (gr : Int) (s : Nat) (hc : cs.length ≤ 1000000) (hh : hs.length ≤ 1000000) (hp : ∀ c ∈ cs, c.2.length ≤ 1000000) :
    GCalls Tryz.prog 56 [.map 0 s, .agg (reqG cs hs th gr)] [.map s (kvG encL M)] (fun g O' => ∃ x', O' = [x'] ∧ (g = errV (lackP M cs hs) ∧ x' = .map s (kvG encL M))) := by
  refine GCalls.dropTo ?_
  refine h56.calls mixS (by simp) ?_
  simp only [gstart, s56, List.cons_append, List.nil_append, List.length_cons, List.length_nil, reduceAdd, reduceSub, List.replicate_succ, List.replicate_zero]
  simp +contextual -implicitDefEqProofs (maxSteps := 2000000) (disch := omega) only [↓lenV, ↓loadV, ↓fieldAddrV, ↓boxV, GVal.cells, grp, GVal.ofConst, List.headD, List.take, List.drop, reduceAdd, reduceLeDiff, implies_true, allSolid, GVal.solid, vcA, ↓vcB, vcC, fbFw, e56, csG_len]
  refine vcSLoop_by (ι := { k : Nat // k ≤ cs.length ∧ cs.findSome? (fun c => c.2.findSome? (nowhere M 10)) = (cs.drop k).findSome? (fun c => c.2.findSome? (nowhere M 10)) }) (fun k => ⟨[.map 0 s, .any, .any, .ref (reqG cs hs th gr)] ++ List.replicate 12 .any ++ [.slice (csG cs) .none, .int .i64 cs.length, .int .i64 (k.1 : Nat)] ++ List.replicate 42 .any, [.map s (kvG encL M)]⟩) (fun k => cs.length - k.1) ?_ ?_
  · exact Into.first ⟨0, by omega, by simp⟩ ⟨[], by simp⟩ (by simp [WL, leG_self, leG_any])
  · rintro ⟨k, hk, hf⟩
    by_cases h : k < cs.length
    · have d0 : ((k : Int) < (cs.length : Int)) = True := eq_true (by omega)
      have eS := csG_at cs k h
      have hx := hp _ (memC h)
      rw [findC h] at hf
      generalize cs.getD k default = x at *
      obtain ⟨xh, xp⟩ := x
      change xp.length ≤ 1000000 at hx
      simp only at hf
      simp +contextual -implicitDefEqProofs (maxSteps := 2000000) (disch := omega) only [↓lenV, binV, ↓loadV, ↓storeV, ↓fieldAddrV, ↓indexAddrV, ↓allocV, GVal.cells, grp, GVal.ofConst, List.headD, List.take, List.drop, reduceEqDiff, reduceAdd, reduceLeDiff, reduceCtorEq, implies_true, List.replicate, GVal.solid, splice, vcA, ↓vcB, vcC, fbFw, csG_len, hsG_len, comG, drop32a, take33a, len33, solid33, d0, eS]
      refine ⟨by omega, fun u => ?_⟩
      refine vcSLoop_by (ι := { j : Nat // j ≤ xp.length ∧ xp.findSome? (nowhere M 10) = (xp.drop j).findSome? (nowhere M 10) }) (fun j => ⟨[.map 0 s, .any, .any, .ref (reqG cs hs th gr)] ++ List.replicate 12 .any ++ [.slice (csG cs) .none, .int .i64 cs.length, .int .i64 (k : Nat)] ++ List.replicate 4 .any ++ [.slice (hsG xp) .none, .int .i64 xp.length, .int .i64 (j.1 : Nat)] ++ List.replicate 35 .any, [.map s (kvG encL M)]⟩) (fun j => xp.length - j.1) ?_ ?_
      · exact Into.first ⟨0, by omega, by simp⟩ ⟨_, rfl⟩ (by simp [WL, leG_self, leG_any])
      · rintro ⟨j, hj, hf2⟩
        by_cases h2 : j < xp.length
        · have d1 : ((j : Int) < (xp.length : Int)) = True := eq_true (by omega)
          have eP := hsG_at xp j h2
          rw [findH h2] at hf2
          generalize xp.getD j h0 = p at *
          cases el : look M p with
          | some l =>
            obtain ⟨i, hi, hv, _⟩ := look_idx encL M p l el
            have en : nowhere M 10 p = none := by unfold nowhere; rw [el]
            rw [en] at hf2
            simp +contextual -implicitDefEqProofs (maxSteps := 2000000) (disch := omega) only [binV, ↓unV, ↓loadV, ↓storeV, ↓indexAddrV, ↓allocV, GVal.cells, grp, GVal.ofConst, List.take, List.drop, reduceEqDiff, reduceAdd, reduceLeDiff, reduceCtorEq, ↓lookupV, keyOk, keyCells, pairG, List.replicate, GVal.solid, splice, vcA, ↓vcB, vcC, fbFw, hsG_len, kfind_h, d1, eP, hi, hv, v32]
            refine ⟨by omega, fun u => ?_⟩
            exact Into.at ⟨j + 1, by omega, hf2⟩ (by show _ < _; simp; omega) ⟨_, rfl⟩ (by simp [WL, leG_self, leG_any])
          | none =>
            obtain ⟨hi, _⟩ := look_none encL M p el
            have en : nowhere M 10 p = some (some p, 10) := by unfold nowhere; rw [el]
            rw [en] at hf2
            rw [hf2] at hf
            simp +contextual -implicitDefEqProofs (maxSteps := 2000000) (disch := omega) only [binV, ↓unV, ↓loadV, ↓storeV, ↓indexAddrV, ↓allocV, ↓ifaceV, GVal.cells, grp, GVal.ofConst, List.map, List.take, List.drop, reduceEqDiff, reduceAdd, reduceLeDiff, reduceCtorEq, ↓lookupV, keyOk, keyCells, pairG, List.replicate, GVal.solid, splice, vcA, ↓vcB, vcC, fbFw, hsG_len, kfind_h, d1, eP, hi, v32]
            refine ⟨by omega, fun u => ?_⟩
            refine (gOf p 10).then ?_ (by rfl)
            simp +contextual -implicitDefEqProofs (maxSteps := 2000000) (disch := omega) only [↓resV, resG, vcA, ↓vcB]
            have e : lackP M cs hs = some (some p, 10) := by unfold lackP; rw [hf]
            rw [e]
            exact ⟨_, [.map s (kvG encL M)], _, rfl, leA_refl _, _, rfl, rfl, rfl⟩
        · have d1 : ((j : Int) < (xp.length : Int)) = False := eq_false (by omega)
          rw [List.drop_of_length_le (by omega)] at hf2
          rw [hf2] at hf
          simp +contextual -implicitDefEqProofs (maxSteps := 2000000) (disch := omega) only [binV, ↓unV, ↓loadV, ↓storeV, ↓indexAddrV, ↓allocV, ↓ifaceV, GVal.cells, grp, GVal.ofConst, List.map, List.take, List.drop, ↓reduceIte, reduceEqDiff, reduceAdd, reduceLeDiff, reduceCtorEq, ↓lookupV, keyOk, keyCells, pairG, List.replicate, GVal.solid, splice, vcA, ↓vcB, vcC, fbFw, hsG_len, d1]
          exact Into.at ⟨k + 1, by omega, hf⟩ (by show _ < _; simp; omega) ⟨[], by simp⟩ (by simp [WL, leG_self, leG_any])
    · have d0 : ((k : Int) < (cs.length : Int)) = False := eq_false (by omega)
      rw [List.drop_of_length_le (by omega)] at hf
      have eL : lackP M cs hs = hs.findSome? (nowhere M 11) := by unfold lackP; rw [hf]; rfl
      rw [eL]
      simp +contextual -implicitDefEqProofs (maxSteps := 2000000) (disch := omega) only [↓lenV, binV, ↓loadV, ↓storeV, ↓fieldAddrV, ↓indexAddrV, ↓allocV, GVal.cells, grp, GVal.ofConst, List.headD, List.take, List.drop, ↓reduceIte, reduceEqDiff, reduceAdd, reduceLeDiff, reduceCtorEq, implies_true, List.replicate, GVal.solid, splice, vcA, ↓vcB, vcC, fbFw, csG_len, hsG_len, d0]
      refine vcSLoop_by (ι := { k : Nat // k ≤ hs.length ∧ hs.findSome? (nowhere M 11) = (hs.drop k).findSome? (nowhere M 11) }) (fun k => ⟨[.map 0 s, .any, .any, .ref (reqG cs hs th gr)] ++ List.replicate 39 .any ++ [.slice (hsG hs) th, .int .i64 hs.length, .int .i64 (k.1 : Nat)] ++ List.replicate 15 .any, [.map s (kvG encL M)]⟩) (fun k => hs.length - k.1) ?_ ?_
      · exact Into.first ⟨0, by omega, by simp⟩ ⟨[], by simp⟩ (by simp [WL, leG_self, leG_any])
      · rintro ⟨j, hj, hf2⟩
        by_cases h2 : j < hs.length
        · have d1 : ((j : Int) < (hs.length : Int)) = True := eq_true (by omega)
          have eP := hsG_at hs j h2
          rw [findH h2] at hf2
          generalize hs.getD j h0 = p at *
          cases el : look M p with
          | some l =>
            obtain ⟨i, hi, hv, _⟩ := look_idx encL M p l el
            have en : nowhere M 11 p = none := by unfold nowhere; rw [el]
            rw [en] at hf2
            simp +contextual -implicitDefEqProofs (maxSteps := 2000000) (disch := omega) only [binV, ↓unV, ↓loadV, ↓storeV, ↓indexAddrV, ↓allocV, GVal.cells, grp, GVal.ofConst, List.take, List.drop, reduceEqDiff, reduceAdd, reduceLeDiff, reduceCtorEq, ↓lookupV, keyOk, keyCells, pairG, List.replicate, GVal.solid, splice, vcA, ↓vcB, vcC, fbFw, hsG_len, kfind_h, d1, eP, hi, hv, v32]
            refine ⟨by omega, fun u => ?_⟩
            exact Into.at ⟨j + 1, by omega, hf2⟩ (by show _ < _; simp; omega) ⟨_, rfl⟩ (by simp [WL, leG_self, leG_any])
          | none =>
            obtain ⟨hi, _⟩ := look_none encL M p el
            have en : nowhere M 11 p = some (some p, 11) := by unfold nowhere; rw [el]
            rw [en] at hf2
            simp +contextual -implicitDefEqProofs (maxSteps := 2000000) (disch := omega) only [binV, ↓unV, ↓loadV, ↓storeV, ↓indexAddrV, ↓allocV, ↓ifaceV, GVal.cells, grp, GVal.ofConst, List.map, List.take, List.drop, reduceEqDiff, reduceAdd, reduceLeDiff, reduceCtorEq, ↓lookupV, keyOk, keyCells, pairG, List.replicate, GVal.solid, splice, vcA, ↓vcB, vcC, fbFw, hsG_len, kfind_h, d1, eP, hi, v32]
            refine ⟨by omega, fun u => ?_⟩
            refine (gOf p 11).then ?_ (by rfl)
            simp +contextual -implicitDefEqProofs (maxSteps := 2000000) (disch := omega) only [↓resV, resG, vcA, ↓vcB]
            rw [hf2]
            exact ⟨_, [.map s (kvG encL M)], _, rfl, leA_refl _, _, rfl, rfl, rfl⟩
        · have d1 : ((j : Int) < (hs.length : Int)) = False := eq_false (by omega)
          rw [List.drop_of_length_le (by omega)] at hf2
          simp +contextual -implicitDefEqProofs (maxSteps := 2000000) (disch := omega) only [binV, ↓unV, ↓loadV, ↓storeV, ↓indexAddrV, ↓allocV, ↓ifaceV, GVal.cells, grp, GVal.ofConst, ↓resV, resG, List.map, List.take, List.drop, ↓reduceIte, reduceEqDiff, reduceAdd, reduceLeDiff, reduceCtorEq, ↓lookupV, keyOk, keyCells, pairG, List.replicate, GVal.solid, splice, vcA, ↓vcB, vcC, fbFw, hsG_len, d1]
          rw [hf2]
          exact ⟨_, [.map s (kvG encL M)], [], rfl, leA_refl _, _, rfl, rfl, rfl⟩
end Gv.Tryz
/- Contracts: graph's reached: all that next steps lead to. -/
set_option linter.unusedVariables false
set_option linter.unusedSimpArgs false
set_option maxRecDepth 20000
set_option maxHeartbeats 4000000
namespace Gv.Tryz
open Go Gv Go.Proofs
open Nat (reduceEqDiff reduceAdd reduceSub reduceLeDiff reduceMul reduceLT)
inductive Reach (nx : Hs → List Hs) (l : List Hs) : Hs → Prop
  | base (x : Hs) : x ∈ l → Reach nx l x
  | step (x y : Hs) : Reach nx l x → y ∈ nx x → Reach nx l y
structure RInv (nx : Hs → List Hs) (U l S todo : List Hs) : Prop where
  nodup : S.Nodup
  inU : ∀ x, x ∈ S ∨ x ∈ todo → x ∈ U
  start : ∀ x ∈ l, x ∈ S ∨ x ∈ todo
  step : ∀ x ∈ S, ∀ y ∈ nx x, y ∈ S ∨ y ∈ todo
  sound : ∀ x, x ∈ S ∨ x ∈ todo → Reach nx l x
theorem nodup_lenH : ∀ (l A : List Hs), l.Nodup → (∀ x ∈ l, x ∈ A) → l.length ≤ A.length
  | [], _, _, _ => by simp
  | x :: l, A, hn, h => by
    have hx := h x (by simp)
    obtain ⟨h1, h2⟩ := List.nodup_cons.1 hn
    have := nodup_lenH l (A.erase x) h2 fun y hy => (List.mem_erase_of_ne (fun e => h1 (by rw [← e]; exact hy))).2 (h y (by simp [hy]))
    rw [List.length_erase_of_mem hx] at this
    have := List.length_pos_of_mem hx
    simp only [List.length_cons]; omega
theorem RInv.len {nx : Hs → List Hs} {U l S todo : List Hs} (h : RInv nx U l S todo) : S.length ≤ U.length := nodup_lenH S U h.nodup fun x hx => h.inU x (.inl hx)
theorem RInv.skip {nx : Hs → List Hs} {U l S t : List Hs} {x : Hs} (h : RInv nx U l S (t ++ [x])) (hx : x ∈ S) : RInv nx U l S t := by
  have hm : ∀ y, y ∈ S ∨ y ∈ t ++ [x] → y ∈ S ∨ y ∈ t := fun y hy => by
    rcases hy with q | q
    · exact .inl q
    · rcases List.mem_append.1 q with q | q
      · exact .inr q
      · rw [List.mem_singleton.1 q]; exact .inl hx
  have hb : ∀ y, y ∈ S ∨ y ∈ t → y ∈ S ∨ y ∈ t ++ [x] := fun y hy => hy.imp id fun q => List.mem_append_left _ q
  exact ⟨h.nodup, fun y hy => h.inU y (hb y hy), fun y hy => hm y (h.start y hy), fun y hy z hz => hm z (h.step y hy z hz), fun y hy => h.sound y (hb y hy)⟩
theorem RInv.go {nx : Hs → List Hs} {U l S t : List Hs} {x : Hs} (h : RInv nx U l S (t ++ [x])) (hx : x ∉ S) (hU : ∀ y ∈ nx x, y ∈ U) : RInv nx U l (S ++ [x]) (t ++ nx x) := by
  have hxU : x ∈ U := h.inU x (.inr (by simp))
  have hxR : Reach nx l x := h.sound x (.inr (by simp))
  have hm : ∀ y, y ∈ S ∨ y ∈ t ++ [x] → y ∈ S ++ [x] ∨ y ∈ t ++ nx x := fun y hy => by
    rcases hy with q | q
    · exact .inl (List.mem_append_left _ q)
    · rcases List.mem_append.1 q with q | q
      · exact .inr (List.mem_append_left _ q)
      · exact .inl (List.mem_append_right _ q)
  have hb : ∀ y, y ∈ S ++ [x] ∨ y ∈ t ++ nx x → y ∈ S ∨ y ∈ t ∨ y = x ∨ y ∈ nx x := fun y hy => by
    simp only [List.mem_append, List.mem_singleton] at hy
    rcases hy with (q | q) | (q | q)
    · exact .inl q
    · exact .inr (.inr (.inl q))
    · exact .inr (.inl q)
    · exact .inr (.inr (.inr q))
  refine ⟨?_, fun y hy => ?_, fun y hy => hm y (h.start y hy), fun y hy z hz => ?_, fun y hy => ?_⟩
  · rw [List.nodup_append]
    exact ⟨h.nodup, by simp, fun a ha b hb => by rw [List.mem_singleton.1 hb]; exact fun e => hx (e ▸ ha)⟩
  · rcases hb y hy with q | q | q | q
    · exact h.inU y (.inl q)
    · exact h.inU y (.inr (List.mem_append_left _ q))
    · rw [q]; exact hxU
    · exact hU y q
  · rcases List.mem_append.1 hy with q | q
    · exact hm z (h.step y q z hz)
    · rw [List.mem_singleton.1 q] at hz
      exact .inr (List.mem_append_right _ hz)
  · rcases hb y hy with q | q | q | q
    · exact h.sound y (.inl q)
    · exact h.sound y (.inr (List.mem_append_left _ q))
    · rw [q]; exact hxR
    · exact .step x y hxR q
theorem RInv.fin {nx : Hs → List Hs} {U l S : List Hs} (h : RInv nx U l S []) (x : Hs) : x ∈ S ↔ Reach nx l x := by
  constructor
  · exact fun hx => h.sound x (.inl hx)
  · intro hr
    induction hr with
    | base x hx => exact (h.start x hx).resolve_right (by simp)
    | step x y _ hy ih => exact (h.step x ih y hy).resolve_right (by simp)
abbrev setM (S : List Hs) : List (Hs × Bool) := S.map fun h => (h, true)
theorem look_set (S : List Hs) (h : Hs) : look (setM S) h = if h ∈ S then some true else none := by
  induction S with
  | nil => rfl
  | cons a r ih =>
    rw [show setM (a :: r) = (a, true) :: setM r from rfl, look, ih]
    by_cases e : h = a
    · simp [e]
    · simp [e]
theorem mset_set (S : List Hs) (h : Hs) (hn : h ∉ S) : mset (setM S) h true = setM (S ++ [h]) := by
  induction S with
  | nil => rfl
  | cons a r ih =>
    rw [show setM (a :: r) = (a, true) :: setM r from rfl, mset, if_neg (fun e => hn (by simp [e])), ih fun q => hn (by simp [q])]
    rfl
def rMu (u k s t : Nat) : Nat := (u - s) * (k + 1) + t
theorem gReached {F : FuncId} {caps : List GVal} {a b : GObj} (nx : Hs → List Hs) (hN : ∀ h : Hs, GCalls Tryz.prog F (.agg (bytesG h.1) :: caps) [a, b] (fun g O' => g = .slice (hsG (nx h)) .none ∧ O' = [a, b])) (ha : a.isClock = false)
    (l : List Hs) (t : Tag) (ht : t = .nil → l = []) (U : List Hs) (hU : ∀ x ∈ l, x ∈ U) (hnU : ∀ x ∈ U, ∀ y ∈ nx x, y ∈ U) (K : Nat) (hK : ∀ x ∈ U, (nx x).length ≤ K) (hUl : U.length ≤ 100000) (hKl : K ≤ 100000) (hl : l.length ≤ 1000000) :
    GCalls Tryz.prog 43 [.slice (hsG l) t, .func (.func F) [] caps] [a, b] (fun g O' => ∃ st S, g = .map 2 st ∧ O' = [a, b, .map st (kvG encB (setM S))] ∧ S.Nodup ∧ (∀ x, x ∈ S ↔ Reach nx l x) ∧ S.length ≤ U.length) := by
  have hcl : ∀ Y, clockOf (a :: Y) = none := fun Y => by cases a <;> first | rfl | cases ha
  have hst : ∀ (r : List GObj) (K : Nat → Prop), stamp (a :: r) K = ∀ st, K st := fun r K => by unfold stamp; rw [hcl]
  have htk : ∀ r : List GObj, tickO (a :: r) = a :: r := fun r => tickO_none (hcl r)
  refine GCalls.dropTo ?_
  refine h43.calls mixS (by simp) ?_
  simp only [gstart, s43, List.cons_append, List.nil_append, List.length_cons, List.length_nil, reduceAdd, reduceSub, List.replicate_succ, List.replicate_zero]
  simp +contextual -implicitDefEqProofs (maxSteps := 2000000) (disch := omega) only [GVal.ofConst, List.map, reduceAdd, ↓makeMapV, vcA, ↓vcB, vcC, e43, hst, htk]
  intro sm
  refine (GCalls.newUp (hClone l t (by omega) ht) (hcl _) (by rintro g O' (⟨_, rfl, rfl⟩ | ⟨st, rfl, rfl⟩) <;> rfl)).mono ?_
  rintro g O' ⟨g0, O1, hO, rfl, rfl⟩
  have inv0 : RInv nx U l [] l := ⟨List.nodup_nil, fun x hx => hU x (by simpa using hx), fun x hx => .inr hx, fun x hx => by simp at hx, fun x hx => .base x (by simpa using hx)⟩
  have mu1 : ∀ u s n : Nat, rMu u K s n < rMu u K s (n + 1) := fun u s n => by unfold rMu; omega
  have mu2 : ∀ u s n m : Nat, s < u → m ≤ K → rMu u K (s + 1) (n + m) < rMu u K s (n + 1) := fun u s n m h1 h2 => by
    unfold rMu
    have : u - s = (u - (s + 1)) + 1 := by omega
    rw [this, Nat.add_mul]; omega
  simp +contextual -implicitDefEqProofs (maxSteps := 2000000) (disch := omega) only [reduceAdd, vcA, ↓vcB, vcC]
  refine vcSLoop_by (ι := { p : (List Hs × List Hs) × (List Hs × Nat) // RInv nx U l p.1.1 p.1.2 ∧ p.1.2.length ≤ l.length + K * p.1.1.length }) (fun p => ⟨[.any, .func (.func F) [] caps, .any, .any, .any, .map 2 sm, .own 3 p.1.2.2 0 p.1.1.2.length] ++ List.replicate 30 .any, [a, b, .map sm (kvG encB (setM p.1.1.1)), .row p.1.2.2 32 (hsG (p.1.1.2 ++ p.1.2.1))]⟩) (fun p => rMu U.length K p.1.1.1.length p.1.1.2.length) ?_ ?_
  · rcases hO with ⟨rfl, rfl, rfl⟩ | ⟨v0, rfl, rfl⟩
    · refine Into.row 6 32 rfl rfl ?_
      simp +contextual -implicitDefEqProofs (maxSteps := 2000000) (disch := omega) only [reduceAdd, List.replicate, vcA, vcC, hst, htk]
      intro v
      exact Into.first ⟨(([], []), ([], v)), inv0, by simp⟩ ⟨[], rfl⟩ (by simp [WL, leG_self, leG_any])
    · exact Into.first ⟨(([], l), ([], v0)), inv0, by simp⟩ ⟨[], by simp [kvG]⟩ (by simp [WL, leG_self, leG_any, GVal.up])
  · rintro ⟨⟨⟨S, todo⟩, ⟨Z, v⟩⟩, inv, hlen⟩
    change RInv nx U l S todo at inv
    change todo.length ≤ l.length + K * S.length at hlen
    have hSl := inv.len
    have hKS : K * S.length ≤ 100000 * 100000 := Nat.mul_le_mul hKl (by omega)
    rcases List.eq_nil_or_concat todo with rfl | ⟨tt, x, e⟩
    · simp +contextual -implicitDefEqProofs (maxSteps := 2000000) (disch := omega) only [↓lenV, binV, ↓unV, optV, ↓loadV, ↓storeV, ↓indexAddrV, ↓allocV, ↓sliceV, bound, GVal.cells, grp, GVal.ofConst, ↓resV, resG, List.map, List.take, List.drop, ↓reduceIte, reduceEqDiff, reduceAdd, reduceLeDiff, reduceCtorEq, ↓lookupV, ↓mapUpdateV, keyOk, keyCells, pairG, List.replicate, GVal.solid, splice, vcA, ↓vcB, vcC, fbFw, hst, htk, Int.lt_irrefl, false_imp_iff]
      exact ⟨_, [a, b, .map sm (kvG encB (setM S))], _, rfl, leA_refl _, sm, S, rfl, rfl, inv.nodup, inv.fin, inv.len⟩
    · rw [List.concat_eq_append] at e
      subst e
      have d0 : ((0 : Int) < (tt.length : Int) + 1) = True := eq_true (by omega)
      have d1 : ((tt.length : Int) + 1 - 1).toNat = tt.length := by omega
      have eS : (hsG (tt ++ [x] ++ Z)).getD tt.length [] = bytesG x.1 := by
        rw [hsG_at _ _ (by simp)]
        simp [List.getD]
      have hl2 : tt.length + 1 ≤ l.length + K * S.length := by rw [List.length_append, List.length_singleton] at hlen; exact hlen
      have hxU : x ∈ U := inv.inU x (.inr (by simp))
      by_cases hx : x ∈ S
      · obtain ⟨i, hi, hv, _⟩ := look_idx encB (setM S) x true (by rw [look_set, if_pos hx])
        simp +contextual -implicitDefEqProofs (maxSteps := 2000000) (disch := omega) only [↓lenV, binV, ↓unV, optV, ↓loadV, ↓storeV, ↓indexAddrV, ↓allocV, ↓sliceV, bound, GVal.cells, grp, GVal.ofConst, List.take, List.drop, reduceEqDiff, reduceAdd, reduceLeDiff, reduceCtorEq, ↓lookupV, keyOk, keyCells, pairG, List.replicate, GVal.solid, splice, vcA, ↓vcB, vcC, fbFw, hst, htk, toNat0, Nat.sub_zero, hsG_len, d0, d1, eS, List.length_append, kfind_h, hi, hv, v32]
        refine ⟨by omega, by omega, by omega, by omega, fun u => ⟨by omega, by omega, by omega, ?_⟩⟩
        exact Into.at ⟨((S, tt), ([x] ++ Z, v)), inv.skip hx, by show tt.length ≤ l.length + K * S.length; omega⟩ (mu1 _ _ _) ⟨[.row u 32 [bytesG x.1]], by simp⟩ (by simp [WL, leG_self, leG_any])
      · obtain ⟨hi, hw⟩ := look_none encB (setM S) x (by rw [look_set, if_neg hx])
        have hw := hw true
        rw [mset_set S x hx] at hw
        have cN := (hN x).keep2 ha
        simp +contextual -implicitDefEqProofs (maxSteps := 2000000) (disch := omega) only [↓lenV, binV, ↓unV, optV, ↓loadV, ↓storeV, ↓indexAddrV, ↓allocV, ↓sliceV, bound, GVal.cells, grp, GVal.ofConst, List.map, List.take, List.drop, reduceEqDiff, reduceAdd, reduceLeDiff, reduceCtorEq, ↓lookupV, ↓mapUpdateV, keyOk, keyCells, pairG, List.replicate, GVal.solid, splice, vcA, ↓vcB, vcC, fbFw, hst, htk, toNat0, Nat.sub_zero, hsG_len, d0, d1, eS, List.length_append, kfind_h, hi, hw, v32]
        have hkx := hK x hxU
        refine ⟨by omega, by omega, by omega, by omega, fun u => ⟨by omega, by omega, by omega, ?_⟩⟩
        refine (cN _).mono ?_
        rintro g O' ⟨rfl, rfl⟩
        simp +contextual -implicitDefEqProofs (maxSteps := 2000000) (disch := omega) only [↓appendV, ↓srcV, List.drop, ↓asrcV, vcA, ↓vcB, vcC, fbFw, hst, htk, hsG_len, all_hsG, List.length_append]
        refine ⟨by omega, by omega, by omega, fun v2 => ?_⟩
        refine Into.at ⟨((S ++ [x], tt ++ nx x), ([], v2)), inv.go hx (hnU x hxU), ?_⟩ ?_ ⟨[.row u 32 [bytesG x.1]], ?_⟩ (by simp [WL, leG_self, leG_any])
        · show (tt ++ nx x).length ≤ l.length + K * (S ++ [x]).length
          rw [List.length_append, List.length_append, List.length_singleton, Nat.mul_add, Nat.mul_one]; omega
        · show rMu _ K (S ++ [x]).length (tt ++ nx x).length < rMu _ K S.length (tt.length + 1)
          rw [List.length_append, List.length_append, List.length_singleton]
          refine mu2 _ _ _ _ ?_ hkx
          have := (inv.go hx (hnU x hxU)).len
          rw [List.length_append, List.length_singleton] at this
          omega
        · show _ = [a, b, GObj.map sm (kvG encB (setM (S ++ [x]))), GObj.row v2 32 (hsG ((tt ++ nx x) ++ []))] ++ [GObj.row u 32 [bytesG x.1]]
          simp [hsG_app]
          exact List.take_left' (hsG_len tt)
end Gv.Tryz
/- Contracts: graph's sorted, there's closure, IndexFunc. -/
set_option linter.unusedVariables false
set_option linter.unusedSimpArgs false
set_option maxRecDepth 20000
set_option maxHeartbeats 4000000
namespace Gv.Tryz
open Go Gv Go.Proofs
open Nat (reduceEqDiff reduceAdd reduceSub reduceLeDiff reduceMul reduceLT)
theorem sortR_perm {a b : List Hs} (h : a.Perm b) : sortR a = sortR b := ss_eq (sortR_ss a) (sortR_ss b) fun z => by rw [sortR_mem, sortR_mem]; exact h.mem_iff
theorem gThere1 (m : GM) (h : Hs) (st s : Nat) : GCalls Tryz.prog 66 [.agg (bytesG h.1), .ref [.ptr 0 st 0 0]] (gObj st s m) (fun g O' => g = .bool (!(look m h).isSome) ∧ O' = gObj st s m) := by
  have cH := gHas m h st s
  refine h66.calls mixS (by simp) ?_
  simp only [gstart, s66, List.cons_append, List.nil_append, List.length_cons, List.length_nil, reduceAdd, reduceSub, List.replicate_succ, List.replicate_zero]
  simp +contextual -implicitDefEqProofs (maxSteps := 2000000) (disch := omega) only [↓loadV, ↓boxV, GVal.cells, grp, GVal.ofConst, List.map, List.headD, List.take, reduceEqDiff, reduceLeDiff, reduceCtorEq, implies_true, vcA, ↓vcB, vcC, fbFw, e66, v32]
  refine cH.mono ?_
  rintro g O' ⟨rfl, rfl⟩
  simp +contextual -implicitDefEqProofs (maxSteps := 2000000) (disch := omega) only [↓unV, ↓resV, resG, vcA, ↓vcB, vcC]
theorem gIndexF {F : FuncId} {caps : List GVal} {a b : GObj} (p : Hs → Bool) (hN : ∀ h : Hs, GCalls Tryz.prog F (.agg (bytesG h.1) :: caps) [a, b] (fun g O' => g = .bool (p h) ∧ O' = [a, b])) (ha : a.isClock = false)
    (l : List Hs) (v : Nat) (hl : l.length ≤ 1000000) :
    GCalls Tryz.prog 68 [.own 2 v 0 l.length, .func (.func F) [] caps] [a, b, .row v 32 (hsG l)] (fun g O' => g = .int .i64 (match l.findIdx? p with | some i => (i : Int) | none => -1) ∧ O' = [a, b, .row v 32 (hsG l)]) := by
  have hcl : ∀ Y, clockOf (a :: Y) = none := fun Y => by cases a <;> first | rfl | cases ha
  have hst : ∀ (r : List GObj) (K : Nat → Prop), stamp (a :: r) K = ∀ st, K st := fun r K => by unfold stamp; rw [hcl]
  have htk : ∀ r : List GObj, tickO (a :: r) = a :: r := fun r => tickO_none (hcl r)
  refine h68.calls mixS (by simp) ?_
  simp only [gstart, s68, List.cons_append, List.nil_append, List.length_cons, List.length_nil, reduceAdd, reduceSub, List.replicate_succ, List.replicate_zero]
  simp +contextual -implicitDefEqProofs (maxSteps := 2000000) (disch := omega) only [↓lenV, GVal.ofConst, vcA, ↓vcB, vcC, fbFw, e68]
  refine vcSLoop_by (ι := { k : Nat // k ≤ l.length ∧ ∀ x ∈ l.take k, p x = false }) (fun k => ⟨[.own 2 v 0 l.length, .func (.func F) [] caps, .any, .any, .int .i64 0, .any, .own 2 v 0 l.length, .int .i64 l.length, .int .i64 (k.1 : Nat)] ++ List.replicate 10 .any, [a, b, .row v 32 (hsG l)]⟩) (fun k => l.length - k.1) ?_ ?_
  · exact Into.first ⟨0, by omega, by simp⟩ ⟨[], by simp⟩ (by simp [WL, leG_self])
  · rintro ⟨k, hk, hp⟩
    change k ≤ l.length at hk
    have hp : ∀ x ∈ l.take k, p x = false := hp
    by_cases h : k < l.length
    · have d0 : ((k : Int) < (l.length : Int)) = True := eq_true (by omega)
      have eS := hsG_at l k h
      have eg : l.getD k h0 = l[k] := by simp [List.getD, h]
      rw [eg] at eS
      have ht : l.take (k + 1) = l.take k ++ [l[k]] := List.take_succ_eq_append_getElem h
      generalize l[k] = x at eS ht
      have cN := hN x
      by_cases hx : p x = true
      · rw [hx] at cN
        have cN := cN.keep2 ha
        have hf : l.findIdx? p = some k := by
          have e : l = l.take k ++ x :: l.drop (k + 1) := by
            have := List.take_append_drop (k + 1) l
            rw [ht, List.append_assoc] at this
            exact this.symm
          rw [e, List.findIdx?_append, List.findIdx?_eq_none_iff.2 hp, List.findIdx?_cons, hx]
          simp
          omega
        rw [hf]
        simp +contextual -implicitDefEqProofs (maxSteps := 2000000) (disch := omega) only [binV, ↓loadV, ↓indexAddrV, grp, List.map, List.drop, reduceEqDiff, reduceLeDiff, reduceCtorEq, List.replicate, vcA, ↓vcB, vcC, fbFw, hsG_len, d0, eS, len32, take32]
        refine ⟨by omega, by omega, by omega, (cN _).mono ?_⟩
        rintro g O' ⟨rfl, rfl⟩
        simp +contextual -implicitDefEqProofs (maxSteps := 2000000) (disch := omega) only [↓resV, resG, vcA, ↓vcB, vcC]
      · have hx : p x = false := by simpa using hx
        rw [hx] at cN
        have cN := cN.keep2 ha
        simp +contextual -implicitDefEqProofs (maxSteps := 2000000) (disch := omega) only [binV, ↓loadV, ↓indexAddrV, grp, List.map, List.drop, reduceEqDiff, reduceLeDiff, reduceCtorEq, List.replicate, vcA, ↓vcB, vcC, fbFw, hsG_len, d0, eS, len32, take32]
        refine ⟨by omega, by omega, by omega, (cN _).mono ?_⟩
        rintro g O' ⟨rfl, rfl⟩
        simp +contextual -implicitDefEqProofs (maxSteps := 2000000) (disch := omega) only [binV, GVal.ofConst, vcA, ↓vcB, vcC]
        exact Into.at ⟨k + 1, by omega, by rw [ht]; intro y hy; rcases List.mem_append.1 hy with q | q; exact hp y q; rw [List.mem_singleton.1 q]; exact hx⟩ (by show l.length - (k + 1) < l.length - k; omega) ⟨[], by simp⟩ (by simp [WL, leG_self, leG_any])
    · have d0 : ((k : Int) < (l.length : Int)) = False := eq_false (by omega)
      have hf : l.findIdx? p = none := by
        rw [List.findIdx?_eq_none_iff]
        rw [List.take_of_length_le (by omega)] at hp
        exact hp
      rw [hf]
      simp +contextual -implicitDefEqProofs (maxSteps := 2000000) (disch := omega) only [binV, ↓loadV, ↓indexAddrV, grp, GVal.ofConst, ↓resV, resG, List.map, List.drop, ↓reduceIte, reduceEqDiff, reduceCtorEq, implies_true, List.replicate, vcA, ↓vcB, vcC, fbFw, hsG_len, d0]
theorem drop32y (h : Hs) : List.drop 32 (bytesG h.1) = [] := List.drop_of_length_le (by rw [len32]; omega)
theorem gDeleteF {F : FuncId} {caps : List GVal} {a b : GObj} (p : Hs → Bool) (hN : ∀ h : Hs, GCalls Tryz.prog F (.agg (bytesG h.1) :: caps) [a, b] (fun g O' => g = .bool (p h) ∧ O' = [a, b])) (ha : a.isClock = false)
    (l : List Hs) (v : Nat) (hl : l.length ≤ 1000000) :
    GCalls Tryz.prog 65 [.own 2 v 0 l.length, .func (.func F) [] caps] [a, b, .row v 32 (hsG l)] (fun g O' => g = .own 2 v 0 (l.filter fun h => !p h).length ∧ O' = [a, b, .row v 32 (hsG (l.filter fun h => !p h))]) := by
  have hcl : ∀ Y, clockOf (a :: Y) = none := fun Y => by cases a <;> first | rfl | cases ha
  have hst : ∀ (r : List GObj) (K : Nat → Prop), stamp (a :: r) K = ∀ st, K st := fun r K => by unfold stamp; rw [hcl]
  have htk : ∀ r : List GObj, tickO (a :: r) = a :: r := fun r => tickO_none (hcl r)
  refine GCalls.dropTo ?_
  have cI := gIndexF p hN ha l v hl
  cases hf : l.findIdx? p with
  | none =>
    rw [hf] at cI
    have hall : l.filter (fun h => !p h) = l := List.filter_eq_self.2 fun x hx => by rw [List.findIdx?_eq_none_iff.1 hf x hx]; rfl
    rw [hall]
    refine h65.calls mixS (by simp) ?_
    simp only [gstart, s65, List.cons_append, List.nil_append, List.length_cons, List.length_nil, reduceAdd, reduceSub, List.replicate_succ, List.replicate_zero]
    simp +contextual -implicitDefEqProofs (maxSteps := 2000000) (disch := omega) only [GVal.ofConst, List.map, vcA, ↓vcB, e65]
    refine cI.mono ?_
    rintro g O' ⟨rfl, rfl⟩
    simp +contextual -implicitDefEqProofs (maxSteps := 2000000) (disch := omega) only [binV, GVal.ofConst, ↓resV, resG, vcA, ↓vcB, vcC]
    exact ⟨_, [a, b, .row v 32 (hsG l)], [], rfl, leA_refl _, rfl, rfl⟩
  | some i =>
    rw [hf] at cI
    have hi : i < l.length := (List.findIdx?_eq_some_iff_findIdx_eq.1 hf).1
    have n1 : ((i : Int) = -1) = False := eq_false (by omega)
    refine h65.calls mixS (by simp) ?_
    simp only [gstart, s65, List.cons_append, List.nil_append, List.length_cons, List.length_nil, reduceAdd, reduceSub, List.replicate_succ, List.replicate_zero]
    simp +contextual -implicitDefEqProofs (maxSteps := 2000000) (disch := omega) only [GVal.ofConst, List.map, vcA, ↓vcB, e65]
    refine cI.mono ?_
    rintro g O' ⟨rfl, rfl⟩
    simp +contextual -implicitDefEqProofs (maxSteps := 2000000) (disch := omega) only [binV, GVal.ofConst, ↓resV, resG, ne_eq, vcA, ↓vcB, vcC, n1]
    have esp : l = l.take i ++ l[i] :: l.drop (i + 1) := by
      have := List.take_append_drop i l
      rw [List.drop_eq_getElem_cons hi] at this
      exact this.symm
    have hpi : p l[i] = true ∧ ∀ x ∈ l.take i, p x = false := by
      have := List.findIdx?_eq_some_iff_getElem.1 hf
      obtain ⟨_, h1, h2⟩ := this
      refine ⟨h1, fun x hx => ?_⟩
      obtain ⟨j, hj, rfl⟩ := List.getElem_of_mem hx
      rw [List.getElem_take]
      have := h2 j (by simp at hj; omega)
      simpa using this
    have hfl : l.take i ++ (l.drop (i + 1)).filter (fun h => !p h) = l.filter fun h => !p h := by
      conv => rhs; rw [esp]
      rw [List.filter_append, List.filter_cons, hpi.1]
      have : (l.take i).filter (fun h => !p h) = l.take i := List.filter_eq_self.2 fun x hx => by rw [hpi.2 x hx]; rfl
      rw [this]; rfl
    refine vcSLoop_by (ι := { q : (List Hs × List Hs) × (List Hs × Nat) // (q.1.2 ≠ [] ∧ q.1.1.length + q.1.2.length = q.2.2) ∧ q.2.2 + q.2.1.length = l.length ∧ q.1.1 ++ q.2.1.filter (fun h => !p h) = l.filter fun h => !p h }) (fun q => ⟨[.own 2 v 0 l.length, .func (.func F) [] caps, .any, .any, .any, .int .i64 (q.1.1.1.length : Nat), .int .i64 (q.1.2.2 : Nat)] ++ List.replicate 35 .any, [a, b, .row v 32 (hsG (q.1.1.1 ++ q.1.1.2 ++ q.1.2.1))]⟩) (fun q => q.1.2.1.length) ?_ ?_
    · have : min i l.length = i := by omega
      refine Into.first ⟨((l.take i, [l[i]]), (l.drop (i + 1), i + 1)), ⟨by simp, by simp [this]⟩, by simp; omega, hfl⟩ ⟨[], ?_⟩ ?_
      · rw [List.append_nil]
        show _ = [a, b, GObj.row v 32 (hsG (l.take i ++ [l[i]] ++ l.drop (i + 1)))]
        rw [List.append_assoc, List.singleton_append, ← esp]
      · simp [WL, leG_self, leG_any, this]
    · rintro ⟨⟨⟨A, Z⟩, ⟨R, J⟩⟩, ⟨hZ, hJ⟩, hlen, hfil⟩
      change Z ≠ [] at hZ
      change A.length + Z.length = J at hJ
      change J + R.length = l.length at hlen
      change A ++ R.filter (fun h => !p h) = l.filter fun h => !p h at hfil
      obtain ⟨z, Z', rfl⟩ := List.exists_cons_of_ne_nil hZ
      have hAJ : A.length < J := by rw [← hJ]; simp
      cases R with
      | nil =>
        have d0 : ((J : Int) < (l.length : Int)) = False := eq_false (by simp at hlen; omega)
        have hA : A = l.filter fun h => !p h := by simpa using hfil
        obtain ⟨W, hW⟩ : ∃ W, A ++ z :: Z' ++ [] = W := ⟨_, rfl⟩
        have hWl : W.length = l.length := by rw [← hW, ← hlen, ← hJ]; simp
        have hWt : (hsG W).take A.length = hsG A := by rw [← hW]; simp [hsG]
        have hAl : A.length ≤ l.length := by omega
        simp +contextual -implicitDefEqProofs (maxSteps := 2000000) (disch := omega) only [↓op_clear, ↓lenV, binV, optV, ↓loadV, ↓storeV, ↓indexAddrV, ↓allocV, ↓sliceV, bound, GVal.cells, grp, ↓resV, resG, List.map, List.take, List.drop, ↓reduceIte, reduceEqDiff, reduceAdd, reduceLeDiff, reduceCtorEq, ne_eq, ↓clearV, List.replicate, GVal.solid, splice, vcA, ↓vcB, vcC, fbFw, hst, htk, hsG_len, toNat0, Nat.sub_zero, d0, hW, hWl, hWt]
        exact ⟨by omega, by omega, by omega, by omega, by omega, by omega, _, [a, b, .row v 32 (hsG A)], [], rfl, leA_refl _, by rw [← hA], by rw [← hA]⟩
      | cons x R' =>
        have d0 : ((J : Int) < (l.length : Int)) = True := eq_true (by simp at hlen; omega)
        obtain ⟨W, hW⟩ : ∃ W, A ++ z :: Z' ++ x :: R' = W := ⟨_, rfl⟩
        have hWl : W.length = l.length := by rw [← hW, ← hlen, ← hJ]; simp; omega
        have eS : (hsG W).getD J [] = bytesG x.1 := by
          rw [hsG_at _ _ (by simp at hlen; omega)]
          have : W.getD J h0 = x := by
            rw [← hW, ← hJ]
            simp [List.getD]
          rw [this]
        have eT : (hsG W).set A.length (bytesG x.1) = hsG (A ++ [x] ++ (Z' ++ [x]) ++ R') := by
          rw [← hW]
          simp [hsG]
        have eZ : (hsG W).getD A.length [] = bytesG z.1 := by
          rw [hsG_at _ _ (by simp at hlen; omega)]
          have : W.getD A.length h0 = z := by
            rw [← hW]
            simp [List.getD]
          rw [this]
        have hl2 : J < l.length := by simp at hlen; omega
        have cN := hN x
        by_cases hx : p x = true
        · rw [hx] at cN
          have cN := cN.keep2 ha
          simp +contextual -implicitDefEqProofs (maxSteps := 2000000) (disch := omega) only [↓lenV, binV, ↓loadV, ↓storeV, ↓indexAddrV, ↓allocV, GVal.cells, grp, List.map, List.take, List.drop, reduceEqDiff, reduceAdd, reduceLeDiff, reduceCtorEq, ne_eq, List.replicate, GVal.solid, splice, vcA, ↓vcB, vcC, fbFw, hst, htk, hsG_len, d0, hW, hWl, eS, v32]
          refine ⟨by omega, hl2, hl2, fun u => (cN _).mono ?_⟩
          rintro g O' ⟨rfl, rfl⟩
          simp +contextual -implicitDefEqProofs (maxSteps := 2000000) (disch := omega) only [binV, ↓unV, GVal.ofConst, vcA, ↓vcB, vcC]
          refine Into.at ⟨((A, z :: Z' ++ [x]), (R', J + 1)), ⟨by simp, ?_⟩, ?_, ?_⟩ ?_ ⟨[.row u 32 [bytesG x.1]], ?_⟩ (by simp [WL, leG_self, leG_any])
          · show A.length + (z :: Z' ++ [x]).length = J + 1
            rw [← hJ]; simp; omega
          · show J + 1 + R'.length = l.length
            simp at hlen; omega
          · show A ++ R'.filter (fun h => !p h) = _
            rw [← hfil, List.filter_cons, hx]; rfl
          · show R'.length < (x :: R').length
            simp
          · show _ = [a, b, GObj.row v 32 (hsG (A ++ (z :: Z' ++ [x]) ++ R'))] ++ [GObj.row u 32 [bytesG x.1]]
            rw [← hW]; simp
        · have hx : p x = false := by simpa using hx
          rw [hx] at cN
          have cN := cN.keep2 ha
          simp +contextual -implicitDefEqProofs (maxSteps := 2000000) (disch := omega) only [↓lenV, binV, ↓loadV, ↓storeV, ↓indexAddrV, ↓allocV, GVal.cells, grp, List.map, List.take, List.drop, reduceEqDiff, reduceAdd, reduceLeDiff, reduceCtorEq, ne_eq, List.replicate, GVal.solid, splice, vcA, ↓vcB, vcC, fbFw, hst, htk, hsG_len, d0, hW, hWl, eS, v32]
          refine ⟨by omega, hl2, hl2, fun u => (cN _).mono ?_⟩
          rintro g O' ⟨rfl, rfl⟩
          simp +contextual -implicitDefEqProofs (maxSteps := 2000000) (disch := omega) only [binV, ↓unV, ↓loadV, ↓storeV, ↓indexAddrV, GVal.cells, grp, GVal.ofConst, List.take, List.drop, reduceEqDiff, reduceLeDiff, reduceCtorEq, splice, vcA, ↓vcB, vcC, fbFw, hsG_len, hWl, eZ, eT, drop32y, v32]
          refine ⟨by omega, by omega, by omega, by omega, ?_⟩
          refine Into.at ⟨((A ++ [x], Z' ++ [x]), (R', J + 1)), ⟨by simp, ?_⟩, ?_, ?_⟩ ?_ ⟨[.row u 32 [bytesG x.1]], ?_⟩ (by simp [WL, leG_self, leG_any])
          · show (A ++ [x]).length + (Z' ++ [x]).length = J + 1
            rw [← hJ]; simp; omega
          · show J + 1 + R'.length = l.length
            simp at hlen; omega
          · show A ++ [x] ++ R'.filter (fun h => !p h) = _
            rw [← hfil, List.filter_cons, hx]; simp
          · show R'.length < (x :: R').length
            simp
          · rfl
end Gv.Tryz
