import Derived.Test.YtnenmmdpclglhaaGreatDoorP6
import Derived.Test.YtnenmmdpclglhaaGreatDoorP8
import Derived.Lib.BytesEntry
import Derived.Laws.Externs
import Derived.WalkKit
import Derived.Test.YtnenmmdpclglhaaGreatDoorProg
import Derived.Test.YtnenmmdpclglhaaGreatDoorP7
import Derived.Deep.RegionWith
import Derived.Shelf.SlMaps.Clone
import Derived.KernelRfl

/- Contracts: digits, prefixes, whether a string begins so. -/
set_option linter.unusedVariables false
set_option linter.unusedSimpArgs false
set_option maxRecDepth 20000
set_option maxHeartbeats 4000000
namespace Gv.Tryz
open Go Gv Go.Proofs
end Gv.Tryz
/- Contract: hex.Parse. -/
set_option linter.unusedVariables false
set_option linter.unusedSimpArgs false
set_option maxRecDepth 20000
set_option maxHeartbeats 4000000
namespace Gv.Tryz
open Go Gv Go.Proofs
end Gv.Tryz
/- bytes.Compare, at this program. -/
set_option linter.unusedVariables false
set_option maxRecDepth 100000
namespace Gv.Tryz
open Go Gv Go.Proofs
def lies (w : World) (a : Option Addr) (l : List UInt8) : Prop := l ≠ [] → ∃ p, a = some p ∧ ∀ (j : Nat) x, l[j]? = some x → w.cell? (p.add j) = some (.int .u8 x.toNat)
theorem run_bytesOf {P : Program} {w : World} {a : Option Addr} {l : List UInt8} (c : Nat) (h : lies w a l) : (Extern.Bytes.bytesOf (.slice a l.length c)).run P w = .ok ⟨l.toArray⟩ w := by
  cases a with
  | none =>
    cases l with
    | nil => rfl
    | cons x r => obtain ⟨p, hp, _⟩ := h (by simp); cases hp
  | some p =>
    cases l with
    | nil => rfl
    | cons x r =>
      obtain ⟨q, hq, hc⟩ := h (by simp)
      cases hq
      have := Lib.run_loadBytesX (P := P) w ((x :: r).map fun c => (c.toNat : Int)) p .empty (fun j y hy => by
        rw [List.getElem?_map] at hy
        cases hq : (x :: r)[j]? with
        | none => rw [hq] at hy; cases hy
        | some z => rw [hq] at hy; simp at hy; subst hy; exact hc j z hq)
      have e : Lib.bytesOf ((x :: r).map fun c => (c.toNat : Int)) = x :: r := by simp [Lib.bytesOf, List.map_map, Function.comp_def]
      rw [e, List.length_map] at this
      simpa [Extern.Bytes.bytesOf] using this
def cmpL (a b : List UInt8) : Int := Extern.BytealgCompare.cmp ⟨a.toArray⟩ ⟨b.toArray⟩
theorem run_compare {P : Program} {w : World} {a b : Option Addr} {x y : List UInt8} (c d : Nat) (h : lies w a x) (k : lies w b y) :
    (Extern.BytealgCompare.compare #[.slice a x.length c, .slice b y.length d]).run P w = .ok (.int .i64 (cmpL x y)) w := by
  change Sem.run P (do
    let p ← Extern.Bytes.bytesOf (.slice a x.length c)
    let q ← Extern.Bytes.bytesOf (.slice b y.length d)
    pure (goInt (Extern.BytealgCompare.cmp p q))) w = _
  simp only [Sem.run_bind, run_bytesOf c h, run_bytesOf d k, Result.andThen_ok]
  rfl
set_option maxHeartbeats 2000000 in
theorem calls21 (w : World) (a b : Option Addr) (x y : List UInt8) (c d : Nat) (h : lies w a x) (k : lies w b y) :
    Calls Tryz.prog 106 #[.slice a x.length c, .slice b y.length d] w fun e w' => e = .returned (.int .i64 (cmpL x y)) ∧ w' = w := by
  go_enter Tryz.func106, Tryz.ntmps106
  go_wp2
  rw [run_callFunc_extern Tryz.func120 (by kernel_rfl) (by kernel_rfl) (by kernel_rfl) (e := Extern.BytealgCompare.compare) (by kernel_rfl), run_compare c d h k]
  simp only [Result.andThen]
  rw [Oper.upon_value]
  go_wp2
  go_ret
  exact ⟨rfl, rfl⟩
end Gv.Tryz
/- bytes.Compare as a contract; the sort's closure. -/
set_option linter.unusedVariables false
set_option maxRecDepth 100000
namespace Gv.Tryz
open Go Gv Go.Proofs Go.Shelf Go.RowKit Go.Lib Go.Sort
theorem lies_heap {w : World} {b : Nat} {X : Array Value} {t : TypeId} {fz : Nat × Nat} {x : List UInt8} (h : w.heap[b]? = some (.cells X t fz)) (hc : ∀ (j : Nat) z, x[j]? = some z → X[j]? = some (.int .u8 z.toNat)) : lies w (some ⟨b, 0, none⟩) x := fun _ =>
  ⟨_, rfl, fun j z hj => by
    have h1 := hc j z hj
    by_cases h0 : j = 0
    · subst h0; simpa [World.cell?, h, Addr.add] using h1
    · simpa [World.cell?, h, Addr.add, h0] using h1⟩
abbrev Hs := { l : List UInt8 // l.length = 32 }
set_option maxHeartbeats 2000000 in
theorem sortClosure (x y : Hs) (W : World) : Calls Tryz.prog 105 #[.agg (bytesV x.1).toArray, .agg (bytesV y.1).toArray] W fun e w' => e = .returned (.int .i64 (cmpL x.1 y.1)) ∧ ∃ q os', w' = grow (W.drewN q) os' := by
  have hx : (bytesV x.1).toArray.size = 32 := by simp [bytesV, x.2]
  have hy : (bytesV y.1).toArray.size = 32 := by simp [bytesV, y.2]
  have cx : ∀ (j : Nat) z, x.1[j]? = some z → (bytesV x.1).toArray[j]? = some (.int .u8 z.toNat) := fun j z h => by simp [bytesV, h]
  have cy : ∀ (j : Nat) z, y.1[j]? = some z → (bytesV y.1).toArray[j]? = some (.int .u8 z.toNat) := fun j z h => by simp [bytesV, h]
  have lx : x.1.length = 32 := x.2
  have ly : y.1.length = 32 := y.2
  have hcmp : ∀ w a b, lies w a x.1 → lies w b y.1 → Calls Tryz.prog 106 #[.slice a 32 32, .slice b 32 32] w fun e w' => e = .returned (.int .i64 (cmpL x.1 y.1)) ∧ w' = w := fun w a b h1 h2 => by
    have := calls21 w a b x.1 y.1 32 32 h1 h2
    rwa [lx, ly] at this
  generalize cmpL x.1 y.1 = r at *
  generalize (bytesV x.1).toArray = X at *
  generalize (bytesV y.1).toArray = Y at *
  have hA : ((W.alloc (Obj.cells X 44)).alloc (Obj.cells Y 44)).drew.heap[W.heap.size]? = some (.cells X 44) := by
    show ((W.alloc (Obj.cells X 44)).alloc (Obj.cells Y 44)).heap[W.heap.size]? = _
    rw [Gv.alloc_old _ _ _ (by simp), Gv.alloc_new]
  have hB : ((W.alloc (Obj.cells X 44)).alloc (Obj.cells Y 44)).drew.heap[W.heap.size + 1]? = some (.cells Y 44) := by
    have e : W.heap.size + 1 = (W.alloc (Obj.cells X 44)).heap.size := by simp
    rw [e]
    exact Gv.alloc_new _ _
  have hc := hcmp _ _ _ (lies_heap hA cx) (lies_heap hB cy)
  go_enter Tryz.func105, Tryz.ntmps105
  go_wp2
  go_region_with (go_at_call 106; refine hc.mono ?_; rintro e w' ⟨rfl, rfl⟩)
  go_wp2
  go_ret
  exact ⟨rfl, 1, _, by rw [alloc_eq_grow, alloc_eq_grow, grow_grow]; rfl⟩
end Gv.Tryz
/- slices.SortFunc of hashes by their bytes, as a contract. -/
set_option linter.unusedVariables false
set_option maxRecDepth 100000
namespace Go.Proofs
open Go.Shelf
def Tryz.sortSp_ren : Go.Shelf.Ren := ⟨fun | 6 => 104 | 15 => 115 | 14 => 119 | 28 => 129 | 29 => 130 | 20 => 131 | 21 => 132 | 22 => 133 | 23 => 134 | 24 => 135 | 25 => 136 | 26 => 137 | 27 => 138 | 46 => 144 | 47 => 140 | 48 => 141 | 49 => 145 | 50 => 146 | 57 => 148 | n => n, fun | 22 => 33 | 24 => 44 | 25 => 173 | 3 => 3 | 39 => 193 | 0 => 0 | 53 => 205 | 55 => 207 | 4 => 4 | 46 => 199 | 45 => 198 | 50 => 49 | 5 => 5 | 9 => 9 | 66 => 213 | 70 => 217 | 76 => 221 | 77 => 222 | n => n, fun | n => n⟩
theorem Tryz.sortSp : Go.Proofs.SlLaysF0.n6 Tryz.prog Tryz.sortSp_ren := {
  mixed := by kernel_rfl
  f6 := ⟨Tryz.f104.name, by decide, Tryz.func104.trans (congrArg some (by kernel_rfl))⟩
  f14 := ⟨Tryz.f119.name, by decide, Tryz.func119.trans (congrArg some (by kernel_rfl))⟩
  f15 := Tryz.func115.trans (congrArg some (by kernel_rfl))
  f20 := ⟨Tryz.f131.name, by decide, Tryz.func131.trans (congrArg some (by kernel_rfl))⟩
  f21 := ⟨Tryz.f132.name, by decide, Tryz.func132.trans (congrArg some (by kernel_rfl))⟩
  f22 := ⟨Tryz.f133.name, by decide, Tryz.func133.trans (congrArg some (by kernel_rfl))⟩
  f23 := ⟨Tryz.f134.name, by decide, Tryz.func134.trans (congrArg some (by kernel_rfl))⟩
  f24 := ⟨Tryz.f135.name, by decide, Tryz.func135.trans (congrArg some (by kernel_rfl))⟩
  f25 := ⟨Tryz.f136.name, by decide, Tryz.func136.trans (congrArg some (by kernel_rfl))⟩
  f26 := ⟨Tryz.f137.name, by decide, Tryz.func137.trans (congrArg some (by kernel_rfl))⟩
  f27 := ⟨Tryz.f138.name, by decide, Tryz.func138.trans (congrArg some (by kernel_rfl))⟩
  f28 := Tryz.func129.trans (congrArg some (by kernel_rfl))
  f29 := Tryz.func130.trans (congrArg some (by kernel_rfl))
  f46 := ⟨Tryz.f144.name, by decide, Tryz.func144.trans (congrArg some (by kernel_rfl))⟩
  f47 := Tryz.func140.trans (congrArg some (by kernel_rfl))
  f48 := Tryz.func141.trans (congrArg some (by kernel_rfl))
  f49 := ⟨Tryz.f145.name, by decide, Tryz.func145.trans (congrArg some (by kernel_rfl))⟩
  f50 := ⟨Tryz.f146.name, by decide, Tryz.func146.trans (congrArg some (by kernel_rfl))⟩
  f57 := ⟨Tryz.f148.name, by decide, Tryz.func148.trans (congrArg some (by kernel_rfl))⟩
  t0 := Tryz.underlying0
  a0 := Tryz.isAgg0
  z0 := Tryz.sizeOf0
  v0 := Tryz.zeroValue0
  t3 := Tryz.underlying3
  a3 := Tryz.isAgg3
  z3 := Tryz.sizeOf3
  v3 := Tryz.zeroValue3
  t4 := Tryz.underlying4
  a4 := Tryz.isAgg4
  z4 := Tryz.sizeOf4
  v4 := Tryz.zeroValue4
  t5 := Tryz.underlying5
  a5 := Tryz.isAgg5
  z5 := Tryz.sizeOf5
  v5 := Tryz.zeroValue5
  t9 := Tryz.underlying9
  a9 := Tryz.isAgg9
  z9 := Tryz.sizeOf9
  v9 := Tryz.zeroValue9
  t22 := Tryz.underlying33
  a22 := Tryz.isAgg33
  z22 := Tryz.sizeOf33
  v22 := Tryz.zeroValue33
  t25 := Tryz.underlying173
  a25 := Tryz.isAgg173
  z25 := Tryz.sizeOf173
  v25 := Tryz.zeroValue173
  t39 := Tryz.underlying193
  a39 := Tryz.isAgg193
  z39 := Tryz.sizeOf193
  v39 := Tryz.zeroValue193
  t45 := Tryz.underlying198
  a45 := Tryz.isAgg198
  z45 := Tryz.sizeOf198
  v45 := Tryz.zeroValue198
  t46 := Tryz.underlying199
  a46 := Tryz.isAgg199
  z46 := Tryz.sizeOf199
  v46 := Tryz.zeroValue199
  t50 := Tryz.underlying49
  a50 := Tryz.isAgg49
  z50 := Tryz.sizeOf49
  v50 := Tryz.zeroValue49
  t53 := Tryz.underlying205
  a53 := Tryz.isAgg205
  z53 := Tryz.sizeOf205
  v53 := Tryz.zeroValue205
  t55 := Tryz.underlying207
  a55 := Tryz.isAgg207
  z55 := Tryz.sizeOf207
  v55 := Tryz.zeroValue207
  t66 := Tryz.underlying213
  a66 := Tryz.isAgg213
  z66 := Tryz.sizeOf213
  v66 := Tryz.zeroValue213
  t70 := Tryz.underlying217
  a70 := Tryz.isAgg217
  z70 := Tryz.sizeOf217
  v70 := Tryz.zeroValue217
  t76 := Tryz.underlying221
  a76 := Tryz.isAgg221
  z76 := Tryz.sizeOf221
  v76 := Tryz.zeroValue221
  t77 := Tryz.underlying222
  a77 := Tryz.isAgg222
  z77 := Tryz.sizeOf222
  v77 := Tryz.zeroValue222 }
end Go.Proofs
namespace Gv.Tryz
open Go Gv Go.Proofs Go.Shelf Go.RowKit Go.Lib Go.Sort
instance : Inhabited Hs := ⟨⟨List.replicate 32 0, by simp⟩⟩
def ltB : List UInt8 → List UInt8 → Bool
  | [], _ => false
  | _, [] => false
  | x :: a, y :: b => if x = y then ltB a b else decide (x < y)
theorem ba_get (x : UInt8) (a : List UInt8) (i : Nat) : (⟨(x :: a).toArray⟩ : ByteArray)[i + 1]! = (⟨a.toArray⟩ : ByteArray)[i]! := by
  by_cases h : i < a.length
  · rw [getElem!_pos _ _ (by show i + 1 < (x :: a).toArray.size; simp; exact h), getElem!_pos _ _ (by show i < a.toArray.size; simpa using h)]
    exact List.getElem_cons_succ x a i (by simp; exact h)
  · rw [getElem!_neg _ _ (by show ¬ i + 1 < (x :: a).toArray.size; simp; omega), getElem!_neg _ _ (by show ¬ i < a.toArray.size; simpa using h)]
theorem ba_zero (x : UInt8) (a : List UInt8) : (⟨(x :: a).toArray⟩ : ByteArray)[0]! = x := by
  rw [getElem!_pos _ _ (by show 0 < (x :: a).toArray.size; simp)]; rfl
theorem cmpL_cons (x y : UInt8) (a b : List UInt8) : cmpL (x :: a) (y :: b) = if x = y then cmpL a b else if x < y then -1 else 1 := by
  unfold cmpL Extern.BytealgCompare.cmp
  have hs : ∀ l : List UInt8, (⟨l.toArray⟩ : ByteArray).size = l.length := fun l => by simp [ByteArray.size]
  simp only [hs, List.length_cons]
  have e : min (a.length + 1) (b.length + 1) = min a.length b.length + 1 := by omega
  rw [e, List.range_succ_eq_map, List.find?_cons, ba_zero, ba_zero]
  by_cases h : x = y
  · subst h
    simp only [bne_self_eq_false, if_true]
    rw [List.find?_map]
    have e2 : ((fun i => (⟨(x :: a).toArray⟩ : ByteArray)[i]! != (⟨(x :: b).toArray⟩ : ByteArray)[i]!) ∘ Nat.succ) = fun i => (⟨a.toArray⟩ : ByteArray)[i]! != (⟨b.toArray⟩ : ByteArray)[i]! := by
      funext i
      simp only [Function.comp, Nat.succ_eq_add_one, ba_get]
    rw [e2]
    cases hq : (List.range (min a.length b.length)).find? fun i => (⟨a.toArray⟩ : ByteArray)[i]! != (⟨b.toArray⟩ : ByteArray)[i]! with
    | none => simp
    | some i => simp only [Option.map_some, Nat.succ_eq_add_one, ba_get]
  · have : (x != y) = true := by simpa using h
    rw [this, if_neg h]
    simp only [ba_zero]
theorem cmpL_ltB : ∀ (a b : List UInt8), a.length = b.length → (decide (cmpL a b < 0) = ltB a b)
  | [], [], _ => by decide
  | x :: a, [], h => by simp at h
  | [], y :: b, h => by simp at h
  | x :: a, y :: b, h => by
    rw [cmpL_cons]
    unfold ltB
    by_cases e : x = y
    · rw [if_pos e, if_pos e]; exact cmpL_ltB a b (by simpa using h)
    · rw [if_neg e, if_neg e]
      by_cases e2 : x < y
      · rw [if_pos e2, decide_eq_true e2]; rfl
      · rw [if_neg e2, decide_eq_false e2]; rfl
theorem ltB_irrefl : ∀ a, ltB a a = false
  | [] => rfl
  | x :: a => by simp [ltB, ltB_irrefl a]
theorem ltB_trans : ∀ {a b c : List UInt8}, a.length = b.length → b.length = c.length → ltB a b = true → ltB b c = true → ltB a c = true
  | [], b, c, _, _, h, _ => by simp [ltB] at h
  | x :: a, [], c, _, _, h, _ => by simp [ltB] at h
  | x :: a, y :: b, [], _, _, _, h => by simp [ltB] at h
  | x :: a, y :: b, z :: c, l1, l2, h1, h2 => by
    simp at l1 l2
    unfold ltB at *
    by_cases e1 : x = y
    · subst e1
      rw [if_pos rfl] at h1
      by_cases e2 : x = z
      · subst e2
        rw [if_pos rfl] at h2 ⊢
        exact ltB_trans l1 l2 h1 h2
      · rw [if_neg e2] at h2 ⊢; exact h2
    · rw [if_neg e1] at h1
      by_cases e2 : y = z
      · subst e2
        rw [if_neg e1]; exact h1
      · rw [if_neg e2] at h2
        have h3 : x < y := of_decide_eq_true h1
        have h4 : y < z := of_decide_eq_true h2
        have h5 : x < z := UInt8.lt_trans h3 h4
        rw [if_neg (UInt8.ne_of_lt h5)]; exact decide_eq_true h5
theorem ltB_total : ∀ {a b : List UInt8}, a.length = b.length → ltB a b = false → ltB b a = false → a = b
  | [], [], _, _, _ => rfl
  | x :: a, [], l, _, _ => by simp at l
  | [], y :: b, l, _, _ => by simp at l
  | x :: a, y :: b, l, h1, h2 => by
    simp at l
    unfold ltB at h1 h2
    by_cases e : x = y
    · subst e
      rw [if_pos rfl] at h1 h2
      rw [ltB_total l h1 h2]
    · rw [if_neg e] at h1
      rw [if_neg (fun h => e h.symm)] at h2
      have h3 := of_decide_eq_false h1
      have h4 := of_decide_eq_false h2
      exact absurd (UInt8.le_antisymm (UInt8.not_lt.1 h4) (UInt8.not_lt.1 h3)) e
def cfH (x y : Hs) : Int := cmpL x.1 y.1
theorem ltH (x y : Hs) : ltOf cfH x y = ltB x.1 y.1 := by
  have := cmpL_ltB x.1 y.1 (by rw [x.2, y.2])
  unfold ltOf cfH; exact this
theorem swoH : SWO (ltOf cfH) where
  irrefl x := by rw [ltH]; exact ltB_irrefl _
  trans x y z h1 h2 := by rw [ltH] at *; exact ltB_trans (by rw [x.2, y.2]) (by rw [y.2, z.2]) h1 h2
  ntrans x y z h1 h2 := by
    rw [ltH] at *
    cases hxz : ltB x.1 z.1 with
    | false => rfl
    | true =>
      cases hyx : ltB y.1 x.1 with
      | false =>
        have e := ltB_total (by rw [x.2, y.2]) h1 hyx
        rw [e] at hxz
        exact (hxz.symm.trans h2)
      | true => exact (ltB_trans (by rw [y.2, x.2]) (by rw [x.2, z.2]) hyx hxz).symm.trans h2
def hsG (l : List Hs) : List (List GVal) := l.map fun x => bytesG x.1
theorem sSort (xs : List Hs) (hsz : xs.length < 4611686018427387904) {O : List GObj} {o st : Nat} (hO : O[o]? = some (.row st 32 (hsG xs))) (hc : clockOf O = none) :
    GCalls Tryz.prog 104 [.own o st 0 xs.length, .func (.func 105) [] []] O (fun r O' => r = .tuple [] ∧ ∃ ys : List Hs, ys.Perm xs ∧ ys.Pairwise (fun a b => ltB b.1 a.1 = false) ∧ O' = O.set o (.row st 32 (hsG ys))) := by
  have h := gcalls_sort (α := Hs) Tryz.sortSp 32 Tryz.isAgg44 Tryz.sizeOf44 (fun x => bytesV x.1) (fun x => bytesG x.1) (fun x => by simp [bytesV, x.2])
    (fun x v hv => by simp only [bytesV, List.mem_map] at hv; obtain ⟨c, _, rfl⟩ := hv; rfl) (fun x => by simp [bytesG, x.2])
    (fun E x j g v hg hv => by
      simp only [bytesG, List.getElem?_map] at hg
      simp only [bytesV, List.getElem?_map]
      cases hq : x.1[j]? with
      | none => rw [hq] at hg; cases hg
      | some c => rw [hq] at hg; simp at hg; subst hg; cases hv; rfl)
    (fun E x j g hg => by
      simp only [bytesG, List.getElem?_map] at hg
      simp only [bytesV, List.getElem?_map]
      cases hq : x.1[j]? with
      | none => rw [hq] at hg; cases hg
      | some c => rw [hq] at hg; simp at hg; subst hg; exact ⟨_, rfl, .int _ _⟩)
    cfH swoH 105 (enters_of Tryz.func105 (by kernel_rfl) rfl) (fun x y W => sortClosure x y W) (by kernel_rfl) xs hsz hO hc
  refine h.mono ?_
  rintro g O' ⟨rfl, ys, h1, h2, rfl⟩
  refine ⟨rfl, ys, h1, h2.imp fun {a b} hab => ?_, rfl⟩
  have := ltH b a
  unfold ltOf at this
  rw [← this]; exact decide_eq_false hab
end Gv.Tryz
set_option linter.unusedVariables false
namespace Gv.Tryz
end Gv.Tryz
/- Contracts: Less, Begins, known, Pick. -/
set_option linter.unusedVariables false
set_option linter.unusedSimpArgs false
set_option maxRecDepth 20000
set_option maxHeartbeats 4000000
namespace Gv.Tryz
open Go Gv Go.Proofs
theorem sol_bytes : ∀ l : List UInt8, allSolid (bytesG l) = True
  | [] => eq_true trivial
  | c :: r => by have := sol_bytes r; simp only [bytesG, List.map_cons, allSolid, GVal.solid, true_and]; exact this
end Gv.Tryz
/- Digits of bytes: the plain theory. -/
set_option linter.unusedVariables false
set_option maxRecDepth 100000
namespace Gv.Tryz
open Go Gv Go.Proofs
theorem cells_eq : ∀ (a b : List UInt8) (n : Nat), a.length = n → b.length = n → cellsEq (List.replicate n Sk.int) (bytesG a) (bytesG b) = some (decide (a = b))
  | [], [], n, h, _ => by subst h; rfl
  | x :: a, [], n, h1, h2 => by simp at h1 h2; omega
  | [], y :: b, n, h1, h2 => by simp at h1 h2; omega
  | x :: a, y :: b, 0, h1, h2 => by simp at h1
  | x :: a, y :: b, n + 1, h1, h2 => by
    have ih := cells_eq a b n (by simpa using h1) (by simpa using h2)
    simp only [bytesG] at ih
    simp only [List.replicate_succ, bytesG, List.map_cons, cellsEq, ceq, if_true, ih]
    congr 1
    have e : (x.toNat : Int) = y.toNat ↔ x = y := ⟨fun h => UInt8.toNat_inj.1 (by omega), fun h => by rw [h]⟩
    rw [Bool.eq_iff_iff]
    simp [e]
end Gv.Tryz
/- HexBack: the walk. -/
set_option linter.unusedVariables false
set_option linter.unusedSimpArgs false
set_option maxRecDepth 20000
set_option maxHeartbeats 4000000
namespace Gv.Tryz
open Go Gv Go.Proofs
theorem cells32 (a b : List UInt8) (ha : a.length = 32) (hb : b.length = 32) : cellsEq [Sk.int, Sk.int, Sk.int, Sk.int, Sk.int, Sk.int, Sk.int, Sk.int, Sk.int, Sk.int, Sk.int, Sk.int, Sk.int, Sk.int, Sk.int, Sk.int, Sk.int, Sk.int, Sk.int, Sk.int, Sk.int, Sk.int, Sk.int, Sk.int, Sk.int, Sk.int, Sk.int, Sk.int, Sk.int, Sk.int, Sk.int, Sk.int] (bytesG a) (bytesG b) = some (decide (a = b)) := cells_eq a b 32 ha hb
end Gv.Tryz
/- Contracts: reference Less, SameHashes, Hash. -/
set_option linter.unusedVariables false
set_option linter.unusedSimpArgs false
set_option maxRecDepth 20000
set_option maxHeartbeats 4000000
namespace Gv.Tryz
open Go Gv Go.Proofs
def h0 : Hs := ⟨List.replicate 32 0, by simp⟩
theorem hsG_len (l : List Hs) : (hsG l).length = l.length := by simp [hsG]
theorem hsG_at (l : List Hs) (i : Nat) (h : i < l.length) : (hsG l).getD i [] = bytesG (l.getD i h0).1 := by simp [hsG, List.getD, h]
theorem all_hsG (l : List Hs) : (∀ x ∈ hsG l, x.length = 32) = True := eq_true fun x hx => by obtain ⟨s, _, rfl⟩ := List.mem_map.1 hx; rw [bytesG_len, s.2]
theorem hsG_app (a b : List Hs) : hsG (a ++ b) = hsG a ++ hsG b := by simp [hsG]
theorem cellsEq_hs (a b : Hs) : cellsEq [Sk.int, Sk.int, Sk.int, Sk.int, Sk.int, Sk.int, Sk.int, Sk.int, Sk.int, Sk.int, Sk.int, Sk.int, Sk.int, Sk.int, Sk.int, Sk.int, Sk.int, Sk.int, Sk.int, Sk.int, Sk.int, Sk.int, Sk.int, Sk.int, Sk.int, Sk.int, Sk.int, Sk.int, Sk.int, Sk.int, Sk.int, Sk.int] (bytesG a.1) (bytesG b.1) = some (decide (a = b)) := by
  refine (cells32 a.1 b.1 a.2 b.2).trans ?_
  exact congrArg some (decide_eq_decide.2 ⟨Subtype.ext, fun h => by rw [h]⟩)
theorem take32 (a : Hs) : List.take 32 (bytesG a.1) = bytesG a.1 := List.take_of_length_le (by rw [bytesG_len, a.2]; omega)
theorem len32 (a : Hs) : (bytesG a.1).length = 32 := by rw [bytesG_len, a.2]
theorem takeH {l : List Hs} {k : Nat} (h : k < l.length) : l.take (k + 1) = l.take k ++ [l.getD k h0] := by
  rw [List.take_add_one]; simp [List.getD, h]
theorem dropH {l : List Hs} {k : Nat} (h : k < l.length) : l.drop k = l.getD k h0 :: l.drop (k + 1) := by
  rw [List.drop_eq_getElem_cons h]; simp [List.getD, h]
end Gv.Tryz
/- Contracts: reference Put, Sort. -/
set_option linter.unusedVariables false
set_option linter.unusedSimpArgs false
set_option maxRecDepth 20000
set_option maxHeartbeats 4000000
namespace Gv.Tryz
open Go Gv Go.Proofs
def idxH : List Hs → Hs → Nat
  | [], _ => 0
  | x :: r, h => if ltB x.1 h.1 = true then idxH r h + 1 else 0
def putH (l : List Hs) (h : Hs) : List Hs :=
  if idxH l h < l.length ∧ l.getD (idxH l h) h0 = h then l else l.take (idxH l h) ++ [h] ++ l.drop (idxH l h)
theorem take_hs (l : List Hs) (n : Nat) : (hsG l).take n = hsG (l.take n) := by simp [hsG, List.map_take]
theorem toNat0 : Int.toNat 0 = 0 := rfl
theorem idxH_cons (x : Hs) (r : List Hs) (h : Hs) : idxH (x :: r) h = if ltB x.1 h.1 = true then idxH r h + 1 else 0 := rfl
def sortR (l : List Hs) : List Hs := l.foldl putH []
end Gv.Tryz
/- Hashes in order, each once: the plain theory. -/
set_option linter.unusedVariables false
namespace Gv.Tryz
open Go Gv Go.Proofs
abbrev LT (a b : Hs) : Prop := ltB a.1 b.1 = true
abbrev SS (l : List Hs) : Prop := l.Pairwise LT
theorem LT.trans {a b c : Hs} (h : LT a b) (k : LT b c) : LT a c := ltB_trans (by rw [a.2, b.2]) (by rw [b.2, c.2]) h k
theorem LT.irrefl (a : Hs) : ¬ LT a a := by unfold LT; rw [ltB_irrefl]; simp
theorem LT.total {a b : Hs} (h : ltB a.1 b.1 = false) (n : a ≠ b) : LT b a := by
  cases e : ltB b.1 a.1 with
  | true => exact e
  | false => exact absurd (Subtype.ext (ltB_total (by rw [a.2, b.2]) h e)) n
theorem putH_nil (h : Hs) : putH [] h = [h] := by simp [putH]
theorem putH_cons (x : Hs) (r : List Hs) (h : Hs) : putH (x :: r) h = if LT x h then x :: putH r h else if x = h then x :: r else h :: x :: r := by
  unfold putH
  rw [idxH_cons]
  by_cases c : LT x h
  · rw [if_pos c, if_pos c]
    simp only [List.length_cons, List.getD_cons_succ, Nat.add_lt_add_iff_right, List.take_succ_cons, List.drop_succ_cons, List.cons_append]
    split <;> rfl
  · rw [if_neg c, if_neg c]
    simp
theorem putH_mem : ∀ (l : List Hs) (h z : Hs), z ∈ putH l h ↔ z ∈ l ∨ z = h
  | [], h, z => by rw [putH_nil]; simp
  | x :: r, h, z => by
    rw [putH_cons]
    have := putH_mem r h z
    split
    · simp only [List.mem_cons, this, or_assoc]
    · split
      · rename_i e; subst e; simp only [List.mem_cons]
        constructor
        · exact .inl
        · rintro (h | h)
          · exact h
          · exact .inl h
      · simp only [List.mem_cons]
        constructor
        · rintro (h | h)
          · exact .inr h
          · exact .inl h
        · rintro (h | h)
          · exact .inr h
          · exact .inl h
theorem putH_ss : ∀ {l : List Hs} (h : Hs), SS l → SS (putH l h)
  | [], h, _ => by rw [putH_nil]; simp [SS]
  | x :: r, h, hs => by
    rw [putH_cons]
    obtain ⟨h1, h2⟩ := List.pairwise_cons.1 hs
    split
    · rename_i c
      refine List.pairwise_cons.2 ⟨fun z hz => ?_, putH_ss h h2⟩
      rcases (putH_mem r h z).1 hz with h3 | rfl
      · exact h1 z h3
      · exact c
    · rename_i c
      split
      · exact hs
      · rename_i n
        have c' : ltB x.1 h.1 = false := by cases e : ltB x.1 h.1 with | true => exact absurd e c | false => rfl
        have hx := LT.total c' n
        refine List.pairwise_cons.2 ⟨fun z hz => ?_, hs⟩
        rcases List.mem_cons.1 hz with rfl | h3
        · exact hx
        · exact hx.trans (h1 z h3)
theorem foldl_put : ∀ (l acc : List Hs), SS acc → SS (l.foldl putH acc) ∧ ∀ z, z ∈ l.foldl putH acc ↔ z ∈ l ∨ z ∈ acc
  | [], acc, h => ⟨h, by simp⟩
  | x :: r, acc, h => by
    obtain ⟨h1, h2⟩ := foldl_put r (putH acc x) (putH_ss x h)
    refine ⟨h1, fun z => ?_⟩
    rw [List.foldl_cons, h2, putH_mem, List.mem_cons]
    constructor
    · rintro (h | h | h)
      · exact .inl (.inr h)
      · exact .inr h
      · exact .inl (.inl h)
    · rintro ((h | h) | h)
      · exact .inr (.inr h)
      · exact .inl h
      · exact .inr (.inl h)
theorem sortR_ss (l : List Hs) : SS (sortR l) := (foldl_put l [] List.Pairwise.nil).1
theorem sortR_mem (l : List Hs) (z : Hs) : z ∈ sortR l ↔ z ∈ l := by
  have := (foldl_put l [] List.Pairwise.nil).2 z
  simpa [sortR] using this
theorem ss_eq : ∀ {a b : List Hs}, SS a → SS b → (∀ z, z ∈ a ↔ z ∈ b) → a = b
  | [], b, _, _, h => by
    cases b with
    | nil => rfl
    | cons y s => exact absurd ((h y).2 (by simp)) (by simp)
  | x :: r, [], _, _, h => absurd ((h x).1 (by simp)) (by simp)
  | x :: r, y :: s, ha, hb, h => by
    obtain ⟨a1, a2⟩ := List.pairwise_cons.1 ha
    obtain ⟨b1, b2⟩ := List.pairwise_cons.1 hb
    have e : x = y := by
      rcases List.mem_cons.1 ((h x).1 (by simp)) with e | hx
      · exact e
      · rcases List.mem_cons.1 ((h y).2 (by simp)) with e | hy
        · exact e.symm
        · exact absurd ((b1 x hx).trans (a1 y hy)) (LT.irrefl y)
    subst e
    refine congrArg (x :: ·) (ss_eq a2 b2 fun z => ⟨fun hz => ?_, fun hz => ?_⟩)
    · rcases List.mem_cons.1 ((h z).1 (List.mem_cons_of_mem _ hz)) with rfl | h3
      · exact absurd (a1 z hz) (LT.irrefl z)
      · exact h3
    · rcases List.mem_cons.1 ((h z).2 (List.mem_cons_of_mem _ hz)) with rfl | h3
      · exact absurd (b1 z hz) (LT.irrefl z)
      · exact h3
def ddT : Hs → List Hs → List Hs
  | _, [] => []
  | x, y :: r => if y = x then ddT y r else y :: ddT y r
theorem ddT_cons (x y : Hs) (r : List Hs) : ddT x (y :: r) = if y = x then ddT y r else y :: ddT y r := rfl
def dd : List Hs → List Hs
  | [] => []
  | x :: r => x :: ddT x r
abbrev WS (l : List Hs) : Prop := l.Pairwise (fun a b => ltB b.1 a.1 = false)
theorem ddT_ss : ∀ (x : Hs) (r : List Hs), WS (x :: r) → SS (x :: ddT x r) ∧ ∀ z, z ∈ x :: ddT x r ↔ z ∈ x :: r
  | x, [], _ => ⟨by simp [ddT, SS], by simp [ddT]⟩
  | x, y :: r, h => by
    obtain ⟨h1, h2⟩ := List.pairwise_cons.1 h
    obtain ⟨i1, i2⟩ := ddT_ss y r h2
    rw [ddT_cons]
    split
    · rename_i e; subst e
      refine ⟨i1, fun z => ?_⟩
      rw [i2]; simp
    · rename_i n
      have hxy : LT x y := LT.total (h1 y (by simp)) n
      refine ⟨List.pairwise_cons.2 ⟨fun z hz => ?_, i1⟩, fun z => ?_⟩
      · rcases List.mem_cons.1 hz with rfl | h3
        · exact hxy
        · exact hxy.trans ((List.pairwise_cons.1 i1).1 z h3)
      · rw [List.mem_cons, i2, List.mem_cons (a := z) (b := x)]
theorem dd_sortR {ys l : List Hs} (hp : ys.Perm l) (hw : WS ys) : dd ys = sortR l := by
  refine ss_eq ?_ (sortR_ss l) fun z => ?_
  · cases ys with
    | nil => exact List.Pairwise.nil
    | cons x r => exact (ddT_ss x r hw).1
  · rw [sortR_mem, ← hp.mem_iff]
    cases ys with
    | nil => rfl
    | cons x r => exact (ddT_ss x r hw).2 z
end Gv.Tryz
/- Contracts: Clone, Compact, hex.Sort. -/
set_option linter.unusedVariables false
set_option linter.unusedSimpArgs false
set_option maxRecDepth 20000
set_option maxHeartbeats 4000000
namespace Gv.Tryz
open Go Gv Go.Proofs
open Nat (reduceEqDiff reduceAdd reduceSub reduceLeDiff reduceMul reduceLT)
theorem hClone (l : List Hs) (t : Tag) (hl : l.length ≤ 4398046511104) (ht : t = .nil → l = []) : GCalls Tryz.prog 43 [.slice (hsG l) t] [] (fun g O' => (l = [] ∧ g = .slice [] .nil ∧ O' = []) ∨ ∃ st, g = .own 0 st 0 l.length ∧ O' = [.row st 32 (hsG l)]) := by
  refine h43.calls mixS (by simp) ?_
  simp only [gstart, s43, List.cons_append, List.nil_append, List.length_cons, List.length_nil, reduceAdd, reduceSub, List.replicate_succ, List.replicate_zero]
  simp +contextual -implicitDefEqProofs (maxSteps := 2000000) (disch := omega) only [binV, optV, ↓buildSliceV, ↓sliceV, ↓appendV, ↓srcV, bound, cutTag, hiTag, fillE, GVal.cells, GVal.ofConst, ↓resV, resG, ↓reduceIte, reduceEqDiff, reduceAdd, reduceSub, reduceLeDiff, reduceCtorEq, ↓asrcV, aggV, Tag.cap, GVal.solid, Nat.reduceBEq, reduceMul, reduceLT, vcA, ↓vcB, vcC, fbFy, e43, hsG_len, all_hsG, vcD]
  refine ⟨fun h => .inl (ht h), fun _ => ⟨fun h => ?_, fun h => ⟨by omega, by omega, by simp, fun st => .inr ⟨st, rfl, rfl⟩⟩⟩⟩
  have h0 : l = [] := by
    cases l with
    | nil => rfl
    | cons a r => simp [hsG] at h
  exact ⟨.inl h0, .inr trivial, fun st => .inr ⟨st, by rw [h0]; rfl, rfl⟩⟩
theorem hSortNil {st : Nat} : GCalls Tryz.prog 104 [.own 0 st 0 0, .func (.func 105) [] []] [.row st 32 []] (fun r O' => r = .tuple [] ∧ O' = [.row st 32 []]) := by
  refine (sSort [] (by simp) (O := [.row st 32 []]) (o := 0) rfl rfl).mono ?_
  rintro g O' ⟨rfl, ys, h1, h2, rfl⟩
  rw [h1.eq_nil]; exact ⟨rfl, rfl⟩
theorem GCalls.nilArg {P : Program} {f : FuncId} {rest : List GVal} {sz : Nat} {K : GVal → List GObj → Prop} (h : ∀ t, GCalls P f (.own 0 t 0 0 :: rest) [.row t sz []] K) : GCalls P f (.slice [] .nil :: rest) [] K := by
  refine ⟨(h 0).1, fun E w vs hs ha => ?_⟩
  obtain ⟨t, hk, ht, hnx, hs, hkeep⟩ := hs.stamp (K := fun t => GCalls P f (.own 0 t 0 0 :: rest) [.row t sz []] K) (show Gv.stamp [] _ from h)
  obtain ⟨h1, h2⟩ := hs.objNil (.row t sz []) (l := ⟨none, 0, sz, 0⟩) ht hnx rfl ⟨_, Env.addLoc_self _ _ _, rfl, by simp, rfl⟩ (by simp [GObj.blk, Env.addLoc_self])
  have ha' : ArgsR (E.addLoc t ⟨none, 0, sz, 0⟩) vs (.own 0 t 0 0 :: rest) := by
    refine ⟨by rw [ha.1]; simp, fun k g hg => ?_⟩
    cases k with
    | zero =>
      simp at hg; subst hg
      have := ha.2 0 _ rfl
      revert this
      generalize vs.getD 0 undef = tv
      intro this
      cases this with
      | slice a len cap xs tag sz c hlen hcap hsz ha hc htag =>
        obtain ⟨_, h1⟩ := htag
        have h0 : len = 0 := by simpa using hlen
        subst h0
        exact .own a 0 cap _ t 0 _ (Env.addLoc_self _ _ _) (Nat.zero_le _) (.inl h1)
    | succ k => exact (ha.2 (k + 1) g (by simpa using hg)).mono h2.ext
  refine (hk.2 _ w vs h1 ha').mono ?_
  rintro e w' ⟨v, E', O', g, q1, q2, q3, q4, q5⟩
  exact ⟨v, E', O', g, q1, q2, (hkeep.trans h2).trans q3, q4, q5⟩
theorem getD_set_ne {l : List Hs} {i j : Nat} {a : Hs} (h : i ≠ j) : (l.set i a).getD j h0 = l.getD j h0 := by
  simp [List.getD, List.getElem?_set, h]
theorem getD_set_eq {l : List Hs} {i : Nat} {a : Hs} (h : i < l.length) : (l.set i a).getD i h0 = a := by
  simp [List.getD, List.getElem?_set, h]
theorem hsG_set (l : List Hs) (i : Nat) (s : Hs) : (hsG l).set i (bytesG s.1) = hsG (l.set i s) := by simp [hsG, List.map_set]
theorem dd_len1 {ys : List Hs} (h : ys.length < 2) : dd ys = ys := by
  match ys, h with
  | [], _ => rfl
  | [x], _ => rfl
theorem hCompact (ys : List Hs) (hl : ys.length ≤ 4398046511104) (st : Nat) :
    GCalls Tryz.prog 107 [.own 0 st 0 ys.length] [.row st 32 (hsG ys)] (fun g O' => g = .own 0 st 0 (dd ys).length ∧ O' = [.row st 32 (hsG (dd ys))]) := by
  refine h107.calls mixS (by simp) ?_
  simp only [gstart, s107, List.cons_append, List.nil_append, List.length_cons, List.length_nil, reduceAdd, reduceSub, List.replicate_succ, List.replicate_zero]
  simp +contextual -implicitDefEqProofs (maxSteps := 2000000) (disch := omega) only [drawC, drawK, keepT, ↓op_clear, ↓lenV, binV, optV, ↓loadV, ↓storeV, ↓indexAddrV, ↓sliceV, bound, cutTag, hiTag, GVal.cells, GVal.ofConst, ↓resV, resG, ↓reduceIte, reduceEqDiff, reduceAdd, reduceSub, reduceLeDiff, reduceCtorEq, ↓clearV, aggV, Tag.cap, GVal.solid, Nat.reduceBEq, reduceMul, reduceLT, vcA, ↓vcB, vcC, fbFy, e107, hsG_len, all_hsG, vcD]
  refine ⟨fun h => by rw [dd_len1 (by omega)]; exact ⟨rfl, rfl⟩, fun hn => ?_⟩
  refine vcSLoop_by (ι := { k : Nat // 1 ≤ k ∧ k ≤ ys.length ∧ dd ys = ys.take k ++ ddT (ys.getD (k - 1) h0) (ys.drop k) }) (fun k => ⟨[.own 0 st 0 ys.length, .any, .any, .int .i64 (k.1 : Nat)] ++ List.replicate 57 .any, [.row st 32 (hsG ys)]⟩) (fun k => ys.length - k.1) ?_ ?_
  · refine Into.first ⟨1, by omega, by omega, ?_⟩ ⟨[], by simp⟩ (by simp [WL, leG_self, leG_any, leG_int])
    match ys, hn with
    | x :: r, _ => rfl
  · rintro ⟨k, hk1, hk, he⟩
    by_cases h' : k < ys.length
    · have d0 : ((k : Int) < (ys.length : Int)) = True := eq_true (by omega)
      have ea := hsG_at ys k h'
      have eb := hsG_at ys (k - 1) (by omega)
      rw [dropH h', ddT_cons] at he
      obtain ⟨x, ex⟩ : ∃ x, ys.getD k h0 = x := ⟨_, rfl⟩
      obtain ⟨y, ey⟩ : ∃ y, ys.getD (k - 1) h0 = y := ⟨_, rfl⟩
      rw [ex] at ea he
      rw [ey] at eb he
      have tn : ((k : Int) - 1).toNat = k - 1 := by omega
      simp +contextual -implicitDefEqProofs (maxSteps := 2000000) (disch := omega) only [drawC, drawK, keepT, ↓op_clear, ↓lenV, binV, optV, ↓loadV, ↓storeV, ↓indexAddrV, ↓sliceV, bound, cutTag, hiTag, GVal.cells, GVal.ofConst, ↓resV, resG, ↓reduceIte, reduceEqDiff, reduceAdd, reduceSub, reduceLeDiff, reduceCtorEq, ↓clearV, aggV, Tag.cap, GVal.solid, Nat.reduceBEq, reduceMul, reduceLT, vcA, ↓vcB, vcC, fbFy, e107, hsG_len, d0, ea, eb, tn, all_hsG, take32, len32, cellsEq_hs x y, Nat.zero_add, vcD]
      refine ⟨by omega, by omega, by omega, by omega, by omega, by omega, by omega, fun c => ⟨by omega, by omega, by omega, ?_⟩, fun c => ?_⟩
      · rw [if_pos c] at he
        refine vcSLoop_by (ι := { p : Nat × Nat × List Hs // 1 ≤ p.2.1 ∧ k + p.2.1 ≤ ys.length ∧ p.1 + 1 ≤ k + p.2.1 ∧ p.2.2.length = ys.length ∧ (∀ i, k + p.2.1 ≤ i + 1 → p.2.2.getD i h0 = ys.getD i h0) ∧ dd ys = p.2.2.take p.1 ++ ddT (ys.getD (k + p.2.1 - 1) h0) (ys.drop (k + p.2.1)) }) (fun p => ⟨[.own 0 st 0 ys.length, .any, .any, .int .i64 (p.1.1 : Nat), .own 0 st k (ys.length - k), .int .i64 (p.1.2.1 : Nat)] ++ List.replicate 55 .any, [.row st 32 (hsG p.1.2.2)]⟩) (fun p => ys.length - p.1.2.1) ?_ ?_
        · refine Into.first ⟨(k, 1, ys), by show 1 ≤ 1; omega, by show k + 1 ≤ _; omega, by show k + 1 ≤ k + 1; omega, rfl, fun _ _ => rfl, ?_⟩ ⟨[], by simp⟩ (by simp [WL, leG_self, leG_any, leG_int])
          show dd ys = ys.take k ++ ddT (ys.getD (k + 1 - 1) h0) (ys.drop (k + 1))
          rw [he, Nat.add_sub_cancel, ex, c]
        · rintro ⟨⟨w, q, zs⟩, hq1, hq, hw, hz, hu, hd⟩
          simp only [] at hq1 hq hw hz hu hd
          by_cases h2 : q < ys.length - k
          · have d1 : ((q : Int) < ((ys.length - k : Nat) : Int)) = True := eq_true (by omega)
            have ea := hsG_at zs (k + q) (by omega)
            have eb := hsG_at zs (k + (q - 1)) (by omega)
            rw [dropH (by omega), ddT_cons, ← hu (k + q) (by omega)] at hd
            obtain ⟨x2, ex2⟩ : ∃ x, zs.getD (k + q) h0 = x := ⟨_, rfl⟩
            have ey2 : zs.getD (k + (q - 1)) h0 = ys.getD (k + q - 1) h0 := by rw [hu _ (by omega)]; congr 1; omega
            obtain ⟨y2, ey3⟩ : ∃ x, ys.getD (k + q - 1) h0 = x := ⟨_, rfl⟩
            rw [ex2] at ea hd
            rw [ey2, ey3] at eb
            rw [ey3] at hd
            have tn : ((q : Int) - 1).toNat = q - 1 := by omega
            have ew : List.drop 32 ((hsG zs).getD w []) = [] := by rw [hsG_at zs w (by omega)]; exact List.drop_of_length_le (by rw [len32]; omega)
            simp +contextual -implicitDefEqProofs (maxSteps := 2000000) (disch := omega) only [drawC, drawK, keepT, ↓op_clear, ↓lenV, binV, optV, ↓loadV, ↓storeV, ↓indexAddrV, ↓sliceV, bound, cutTag, hiTag, GVal.cells, GVal.ofConst, ↓resV, resG, ↓reduceIte, reduceEqDiff, reduceAdd, reduceSub, reduceLeDiff, reduceCtorEq, ↓clearV, aggV, Tag.cap, GVal.solid, Nat.reduceBEq, reduceMul, reduceLT, vcA, ↓vcB, vcC, fbFy, e107, hsG_len, hz, d1, ea, eb, tn, all_hsG, take32, len32, cellsEq_hs x2 y2, Nat.zero_add, ew, List.append_nil, hsG_set, vcD]
            refine ⟨by omega, by omega, by omega, by omega, by omega, by omega, by omega, fun c2 => ?_, fun c2 => ?_⟩
            · rw [if_pos c2] at hd
              refine Into.at ⟨(w, q + 1, zs), by show 1 ≤ q + 1; omega, by show k + (q + 1) ≤ _; omega, by show w + 1 ≤ k + (q + 1); omega, hz, fun i hi => hu i (by have : k + (q + 1) ≤ i + 1 := hi; omega), ?_⟩ (by show _ < _; simp; omega) ⟨[], by simp⟩ (by simp [WL, leG_self, leG_any, leG_int])
              show dd ys = zs.take w ++ ddT (ys.getD (k + (q + 1) - 1) h0) (ys.drop (k + (q + 1)))
              have e1 : k + (q + 1) - 1 = k + q := by omega
              have e2 : k + (q + 1) = k + q + 1 := by omega
              rw [hd, e1, e2, ← hu (k + q) (by omega), ex2]
            · rw [if_neg c2] at hd
              refine ⟨by omega, by omega, by omega, by omega, by omega, by omega, by rw [sol_bytes]; trivial, by omega, by rw [hsG_at zs w (by omega), len32]; omega, ?_⟩
              refine Into.at ⟨(w + 1, q + 1, zs.set w x2), by show 1 ≤ q + 1; omega, by show k + (q + 1) ≤ _; omega, by show w + 1 + 1 ≤ k + (q + 1); omega, by show (zs.set w x2).length = _; rw [List.length_set, hz], fun i hi => ?_, ?_⟩ (by show _ < _; simp; omega) ⟨[], by simp⟩ (by simp [WL, leG_self, leG_any, leG_int])
              · have hi' : k + (q + 1) ≤ i + 1 := hi
                show (zs.set w x2).getD i h0 = _
                rw [getD_set_ne (by omega), hu i (by omega)]
              · show dd ys = (zs.set w x2).take (w + 1) ++ ddT (ys.getD (k + (q + 1) - 1) h0) (ys.drop (k + (q + 1)))
                have e1 : k + (q + 1) - 1 = k + q := by omega
                have e2 : k + (q + 1) = k + q + 1 := by omega
                rw [hd, e1, e2, ← hu (k + q) (by omega), ex2, takeH (by rw [List.length_set]; omega), List.take_set_of_le (by omega), getD_set_eq (by omega), List.append_assoc]; rfl
          · have d1 : ((q : Int) < ((ys.length - k : Nat) : Int)) = False := eq_false (by omega)
            simp +contextual -implicitDefEqProofs (maxSteps := 2000000) (disch := omega) only [drawC, drawK, keepT, ↓op_clear, ↓lenV, binV, optV, ↓loadV, ↓storeV, ↓indexAddrV, ↓sliceV, bound, cutTag, hiTag, GVal.cells, GVal.ofConst, ↓resV, resG, ↓reduceIte, reduceEqDiff, reduceAdd, reduceSub, reduceLeDiff, reduceCtorEq, ↓clearV, aggV, Tag.cap, GVal.solid, Nat.reduceBEq, reduceMul, reduceLT, vcA, ↓vcB, vcC, fbFy, e107, hsG_len, hz, d1, false_imp_iff, true_and, take_hs, vcD]
            rw [List.drop_of_length_le (by omega)] at hd
            have e : dd ys = zs.take w := by rw [hd]; simp [ddT]
            refine ⟨by omega, by omega, by omega, by omega, by omega, by omega, ?_, by rw [e]⟩
            have e2 : (dd ys).length = w := by rw [e, List.length_take]; omega
            rw [e2]; rfl
      · rw [if_neg c] at he
        refine Into.at ⟨k + 1, by omega, by omega, ?_⟩ (by show _ < _; simp; omega) ⟨[], by simp⟩ (by simp [WL, leG_self, leG_any, leG_int])
        rw [takeH h', he, Nat.add_sub_cancel, ex, List.append_assoc]; rfl
    · have d0 : ((k : Int) < (ys.length : Int)) = False := eq_false (by omega)
      rw [List.drop_of_length_le (by omega), List.take_of_length_le (by omega)] at he
      simp +contextual -implicitDefEqProofs (maxSteps := 2000000) (disch := omega) only [drawC, drawK, keepT, ↓op_clear, ↓lenV, binV, optV, ↓loadV, ↓storeV, ↓indexAddrV, ↓sliceV, bound, cutTag, hiTag, GVal.cells, GVal.ofConst, ↓resV, resG, ↓reduceIte, reduceEqDiff, reduceAdd, reduceSub, reduceLeDiff, reduceCtorEq, ↓clearV, aggV, Tag.cap, GVal.solid, Nat.reduceBEq, reduceMul, reduceLT, vcA, ↓vcB, vcC, fbFy, e107, hsG_len, d0, false_imp_iff, true_and, vcD]
      have e : dd ys = ys := by rw [he]; simp [ddT]
      rw [e]; exact ⟨rfl, rfl⟩
theorem hCompactNil : GPure Tryz.prog 107 [.slice [] .nil] (.slice [] .none) := by
  refine h107.pure mixS (by simp) ?_
  simp only [gstart, s107, List.cons_append, List.nil_append, List.length_cons, List.length_nil, reduceAdd, reduceSub, List.replicate_succ, List.replicate_zero]
  simp +contextual -implicitDefEqProofs (maxSteps := 2000000) (disch := omega) only [drawC, drawK, keepT, ↓op_clear, ↓lenV, binV, optV, ↓loadV, ↓storeV, ↓indexAddrV, ↓sliceV, bound, cutTag, hiTag, GVal.cells, GVal.ofConst, ↓resV, resG, ↓reduceIte, reduceEqDiff, reduceAdd, reduceSub, reduceLeDiff, reduceCtorEq, ↓clearV, aggV, Tag.cap, GVal.solid, Nat.reduceBEq, reduceMul, reduceLT, vcA, ↓vcB, vcC, fbFy, e107, vcD]
  exact fun h => absurd h (by omega)
theorem cSort (l : List Hs) (t : Tag) (hl : l.length ≤ 4398046511104) (ht : t = .nil → l = []) : GCalls Tryz.prog 78 [.slice (hsG l) t] [] (fun g O' => (l = [] ∧ g = .slice [] .none) ∨ ∃ st ys, List.Perm ys l ∧ ys.Pairwise (fun a b => ltB b.1 a.1 = false) ∧ g = .own 0 st 0 (dd ys).length ∧ O' = [.row st 32 (hsG (dd ys))]) := by
  refine h78.calls mixS (by simp) ?_
  simp only [gstart, s78, List.cons_append, List.nil_append, List.length_cons, List.length_nil, reduceAdd, reduceSub, List.replicate_succ, List.replicate_zero]
  simp +contextual -implicitDefEqProofs (maxSteps := 2000000) (disch := omega) only [optV, ↓sliceV, bound, cutTag, hiTag, GVal.cells, GVal.ofConst, ↓resV, resG, ↓reduceIte, reduceEqDiff, reduceAdd, reduceSub, reduceLeDiff, reduceCtorEq, Tag.cap, GVal.solid, Nat.reduceBEq, reduceMul, reduceLT, vcA, ↓vcB, vcC, fbFy, e78, vcD]
  refine (hClone l t hl ht).mono ?_
  rintro g O' (⟨rfl, rfl, rfl⟩ | ⟨st, rfl, rfl⟩)
  · simp +contextual -implicitDefEqProofs (maxSteps := 2000000) (disch := omega) only [optV, ↓sliceV, bound, cutTag, hiTag, GVal.cells, GVal.ofConst, ↓resV, resG, ↓reduceIte, reduceEqDiff, reduceAdd, reduceSub, reduceLeDiff, reduceCtorEq, Tag.cap, GVal.solid, Nat.reduceBEq, reduceMul, reduceLT, vcA, ↓vcB, vcC, fbFy, e78, vcD]
    refine GCalls.nilArg (sz := 32) fun st => hSortNil.mono ?_
    rintro g O' ⟨rfl, rfl⟩
    simp +contextual -implicitDefEqProofs (maxSteps := 2000000) (disch := omega) only [optV, ↓sliceV, bound, cutTag, hiTag, GVal.cells, GVal.ofConst, ↓resV, resG, ↓reduceIte, reduceEqDiff, reduceAdd, reduceSub, reduceLeDiff, reduceCtorEq, Tag.cap, GVal.solid, Nat.reduceBEq, reduceMul, reduceLT, vcA, ↓vcB, vcC, fbFy, e78, vcD]
    refine hCompactNil.then ?_ (by rfl)
    simp +contextual -implicitDefEqProofs (maxSteps := 2000000) (disch := omega) only [optV, ↓sliceV, bound, cutTag, hiTag, GVal.cells, GVal.ofConst, ↓resV, resG, ↓reduceIte, reduceEqDiff, reduceAdd, reduceSub, reduceLeDiff, reduceCtorEq, Tag.cap, GVal.solid, Nat.reduceBEq, reduceMul, reduceLT, vcA, ↓vcB, vcC, fbFy, e78, vcD]
    exact .inl trivial
  · simp +contextual -implicitDefEqProofs (maxSteps := 2000000) (disch := omega) only [optV, ↓sliceV, bound, cutTag, hiTag, GVal.cells, GVal.ofConst, ↓resV, resG, ↓reduceIte, reduceEqDiff, reduceAdd, reduceSub, reduceLeDiff, reduceCtorEq, Tag.cap, GVal.solid, Nat.reduceBEq, reduceMul, reduceLT, vcA, ↓vcB, vcC, fbFy, e78, vcD]
    refine (sSort l (by omega) rfl rfl).mono ?_
    rintro _ _ ⟨rfl, ys, hp, hw, rfl⟩
    have hpl := hp.length_eq
    simp +contextual -implicitDefEqProofs (maxSteps := 2000000) (disch := omega) only [optV, ↓sliceV, bound, cutTag, hiTag, GVal.cells, GVal.ofConst, ↓resV, resG, ↓reduceIte, reduceEqDiff, reduceAdd, reduceSub, reduceLeDiff, reduceCtorEq, Tag.cap, GVal.solid, Nat.reduceBEq, reduceMul, reduceLT, vcA, ↓vcB, vcC, fbFy, e78, vcD]
    rw [← hpl]
    refine (hCompact ys (by omega) st).mono ?_
    rintro g O' ⟨rfl, rfl⟩
    simp +contextual -implicitDefEqProofs (maxSteps := 2000000) (disch := omega) only [optV, ↓sliceV, bound, cutTag, hiTag, GVal.cells, GVal.ofConst, ↓resV, resG, ↓reduceIte, reduceEqDiff, reduceAdd, reduceSub, reduceLeDiff, reduceCtorEq, Tag.cap, GVal.solid, Nat.reduceBEq, reduceMul, reduceLT, vcA, ↓vcB, vcC, fbFy, e78, vcD]
    exact .inr ⟨st, ys, hp, hw, rfl, rfl⟩
theorem frzL_same {f : GVal → Option GVal} : ∀ {xs : List GVal}, (∀ x ∈ xs, f x = some x) → frzL f xs = some xs
  | [], _ => rfl
  | x :: xs, h => by rw [frzL, h x (by simp), frzL_same fun y hy => h y (by simp [hy])]
theorem frz_hs (O : List GObj) (n : Nat) (l : List Hs) : frzLL (Gv.frz O (n + 1)) (hsG l) = some (hsG l) :=
  frzLL_same fun x hx => by
    obtain ⟨s, _, rfl⟩ := List.mem_map.1 hx
    exact frzL_same fun y hy => by
      obtain ⟨c, _, rfl⟩ := List.mem_map.1 hy
      simp only [Gv.frz]
theorem hSort (l : List Hs) (t : Tag) (hl : l.length ≤ 4398046511104) (ht : t = .nil → l = []) : GPure Tryz.prog 78 [.slice (hsG l) t] (.slice (hsG (sortR l)) .none) :=
  GCalls.toPure ((cSort l t hl ht).mono fun g O' h => by
    rcases h with ⟨rfl, rfl⟩ | ⟨st, ys, hp, hw, rfl, rfl⟩
    · exact ⟨4, .slice [] .none, by rw [Gv.frz]; rfl, by rw [leA_slice]; rfl⟩
    · rw [dd_sortR hp hw]
      exact ⟨4, .slice (hsG (sortR l)) .none, frz_own rfl (hsG_len _).symm (frz_hs _ 2 _), by rw [leA_slice]⟩)
end Gv.Tryz
/- Maps by hashes: found, written. -/
set_option linter.unusedVariables false
set_option linter.unusedSimpArgs false
set_option maxRecDepth 20000
set_option maxHeartbeats 4000000
namespace Gv.Tryz
open Go Gv Go.Proofs
abbrev hkT : KT := .mk [.int, .int, .int, .int, .int, .int, .int, .int, .int, .int, .int, .int, .int, .int, .int, .int, .int, .int, .int, .int, .int, .int, .int, .int, .int, .int, .int, .int, .int, .int, .int, .int] true
section
variable {α : Type}
def kvG (enc : α → GVal) (m : List (Hs × α)) : List (GVal × GVal) := m.map fun p => (.agg (bytesG p.1.1), enc p.2)
def idxM : List (Hs × α) → Hs → Option Nat
  | [], _ => none
  | p :: r, h => if h = p.1 then some 0 else (idxM r h).map (· + 1)
def look : List (Hs × α) → Hs → Option α
  | [], _ => none
  | p :: r, h => if h = p.1 then some p.2 else look r h
def mset : List (Hs × α) → Hs → α → List (Hs × α)
  | [], h, v => [(h, v)]
  | p :: r, h, v => if h = p.1 then (h, v) :: r else p :: mset r h v
theorem keyEq_h (a b : Hs) : keyEq hkT (.agg (bytesG a.1)) (.agg (bytesG b.1)) = some (decide (a = b)) := cellsEq_hs a b
theorem kfind_h (enc : α → GVal) (h : Hs) : ∀ m : List (Hs × α), kfind hkT (.agg (bytesG h.1)) (kvG enc m) = some (idxM m h)
  | [] => rfl
  | p :: r => by
    rw [show kvG enc (p :: r) = (.agg (bytesG p.1.1), enc p.2) :: kvG enc r from rfl, kfind, keyEq_h, kfind_h enc h r, idxM]
    by_cases e : h = p.1
    · simp [e]
    · simp only [decide_eq_false e, if_neg e]
      cases idxM r h <;> rfl
theorem look_idx (enc : α → GVal) : ∀ (m : List (Hs × α)) (h : Hs) (v : α), look m h = some v → ∃ i, idxM m h = some i ∧ (kvG enc m)[i]? = some (.agg (bytesG h.1), enc v) ∧ ∀ w, (kvG enc m).set i (.agg (bytesG h.1), enc w) = kvG enc (mset m h w)
  | [], h, v, e => by cases e
  | p :: r, h, v, e => by
    rw [look] at e
    by_cases hp : h = p.1
    · rw [if_pos hp] at e
      cases e
      refine ⟨0, by rw [idxM, if_pos hp], by simp [kvG, hp], fun w => by simp [kvG, mset, hp]⟩
    · rw [if_neg hp] at e
      obtain ⟨i, h1, h2, h3⟩ := look_idx enc r h v e
      refine ⟨i + 1, by rw [idxM, if_neg hp, h1]; rfl, by simpa [kvG] using h2, fun w => ?_⟩
      have := h3 w
      simp only [kvG, List.map_cons, List.set_cons_succ, mset, if_neg hp] at this ⊢
      rw [this]
theorem look_none (enc : α → GVal) : ∀ (m : List (Hs × α)) (h : Hs), look m h = none → idxM m h = none ∧ ∀ w, kvG enc m ++ [(.agg (bytesG h.1), enc w)] = kvG enc (mset m h w)
  | [], h, e => ⟨rfl, fun w => rfl⟩
  | p :: r, h, e => by
    rw [look] at e
    by_cases hp : h = p.1
    · rw [if_pos hp] at e; cases e
    · rw [if_neg hp] at e
      obtain ⟨h1, h2⟩ := look_none enc r h e
      refine ⟨by rw [idxM, if_neg hp, h1]; rfl, fun w => ?_⟩
      have := h2 w
      simp only [kvG, List.map_cons, List.cons_append, mset, if_neg hp] at this ⊢
      rw [this]
theorem look_mset (m : List (Hs × α)) (h x : Hs) (v : α) : look (mset m h v) x = if x = h then some v else look m x := by
  induction m with
  | nil => simp [mset, look]
  | cons p r ih =>
    rw [mset]
    by_cases hp : h = p.1
    · rw [if_pos hp, look, look]
      by_cases hx : x = h
      · simp [hx]
      · simp [hx, ← hp]
    · rw [if_neg hp, look, ih, look]
      by_cases hx : x = p.1
      · rw [if_pos hx, if_pos hx, if_neg (by rw [hx]; exact fun e => hp e.symm)]
      · rw [if_neg hx, if_neg hx]
theorem mset_len (m : List (Hs × α)) (h : Hs) (v : α) : (mset m h v).length = if (look m h).isSome then m.length else m.length + 1 := by
  induction m with
  | nil => simp [mset, look]
  | cons p r ih =>
    rw [mset, look]
    by_cases hp : h = p.1
    · simp [hp]
    · rw [if_neg hp, if_neg hp, List.length_cons, ih]
      split <;> simp
end
theorem solidH (h : Hs) : allSolid (bytesG h.1) = True := by
  refine eq_true ?_
  rw [← allSolid_eq]
  intro c hc
  obtain ⟨b, _, rfl⟩ := List.mem_map.1 hc
  rfl
theorem take32a (h : Hs) (X : List GVal) : List.take 32 (bytesG h.1 ++ X) = bytesG h.1 := by rw [List.take_append_of_le_length (by rw [len32]; omega), take32]
theorem drop32a (h : Hs) (X : List GVal) : List.drop 32 (bytesG h.1 ++ X) = X := by rw [List.drop_append_of_le_length (by rw [len32]; omega), List.drop_of_length_le (by rw [len32]; omega)]; rfl
theorem drop33a (h : Hs) (x : GVal) : List.drop 33 (bytesG h.1 ++ [x]) = [] := List.drop_of_length_le (by rw [List.length_append, len32]; simp)
theorem take33a (h : Hs) (x : GVal) : List.take 33 (bytesG h.1 ++ [x]) = bytesG h.1 ++ [x] := List.take_of_length_le (by rw [List.length_append, len32]; simp)
theorem len33 (h : Hs) (x : GVal) : (bytesG h.1 ++ [x]).length = 33 := by rw [List.length_append, len32]; rfl
theorem solid33 (h : Hs) (x : GVal) : allSolid (bytesG h.1 ++ [x]) = (x.solid = true) := by
  rw [← allSolid_eq]
  have := solidH h
  rw [← allSolid_eq] at this
  have := this.mpr trivial
  apply propext
  constructor
  · exact fun q => q x (by simp)
  · intro q c hc
    rcases List.mem_append.1 hc with hc | hc
    · exact this c hc
    · rw [List.mem_singleton.1 hc]; exact q
theorem WL_rfl : ∀ l : List GVal, WL l l
  | [] => trivial
  | x :: r => ⟨by rw [leG_self]; trivial, WL_rfl r⟩
theorem leA_refl (a : GVal) : leA a a := by
  cases a <;> simp [leA, leG_self, WL_rfl]
abbrev encL (l : List Hs) : GVal := .slice (hsG l) .none
abbrev encB (b : Bool) : GVal := .bool b
abbrev encI (n : Int) : GVal := .int .i64 n
abbrev GM := List (Hs × List Hs)
abbrev gObj (st s : Nat) (m : GM) : List GObj := [.row st 1 [[.map 1 s]], .map s (kvG encL m)]
theorem gHas1 (m : GM) (h : Hs) (st s i : Nat) (l : List Hs) (hi : idxM m h = some i) (hv : (kvG encL m)[i]? = some (.agg (bytesG h.1), encL l)) : GCalls Tryz.prog 82 [.ptr 0 st 0 0, .agg (bytesG h.1)] (gObj st s m) (fun g O' => g = .bool true ∧ O' = gObj st s m) := by
  refine h82.calls mixS (by simp) ?_
  simp only [gstart, s82, List.cons_append, List.nil_append, List.length_cons, List.length_nil, Nat.reduceAdd, Nat.reduceSub, List.replicate_succ, List.replicate_zero]
  simp +contextual -implicitDefEqProofs (maxSteps := 2000000) (disch := omega) only [drawC, drawK, keepT, ↓loadV, ↓fieldAddrV, ↓boxV, ↓nilV, GVal.cells, GVal.ofConst, ↓resV, resG, ↓reduceIte, Nat.reduceEqDiff, Nat.reduceAdd, Nat.reduceSub, Nat.reduceLeDiff, reduceCtorEq, ↓lookupV, keyOk, keyCells, pairG, Tag.cap, GVal.solid, Nat.reduceBEq, Nat.reduceMul, Nat.reduceLT, vcA, ↓vcB, vcC, fbFy, e82, kfind_h, hi, hv, len32, take32, solidH, vcD]
theorem gHas0 (m : GM) (h : Hs) (st s : Nat) (hi : idxM m h = none) : GCalls Tryz.prog 82 [.ptr 0 st 0 0, .agg (bytesG h.1)] (gObj st s m) (fun g O' => g = .bool false ∧ O' = gObj st s m) := by
  refine h82.calls mixS (by simp) ?_
  simp only [gstart, s82, List.cons_append, List.nil_append, List.length_cons, List.length_nil, Nat.reduceAdd, Nat.reduceSub, List.replicate_succ, List.replicate_zero]
  simp +contextual -implicitDefEqProofs (maxSteps := 2000000) (disch := omega) only [drawC, drawK, keepT, ↓loadV, ↓fieldAddrV, ↓boxV, ↓nilV, GVal.cells, GVal.ofConst, ↓resV, resG, ↓reduceIte, Nat.reduceEqDiff, Nat.reduceAdd, Nat.reduceSub, Nat.reduceLeDiff, reduceCtorEq, ↓lookupV, keyOk, keyCells, pairG, Tag.cap, GVal.solid, Nat.reduceBEq, Nat.reduceMul, Nat.reduceLT, vcA, ↓vcB, vcC, fbFy, e82, kfind_h, hi, len32, take32, solidH, vcD]
theorem gHas (m : GM) (h : Hs) (st s : Nat) : GCalls Tryz.prog 82 [.ptr 0 st 0 0, .agg (bytesG h.1)] (gObj st s m) (fun g O' => g = .bool (look m h).isSome ∧ O' = gObj st s m) := by
  cases e : look m h with
  | some l =>
    obtain ⟨i, hi, hv, _⟩ := look_idx encL m h l e
    revert hi hv
    intro hi hv
    exact gHas1 m h st s i l hi hv
  | none => exact gHas0 m h st s (look_none encL m h e).1
set_option linter.defProp false
def v33 := ai @take33a <| ai @take32a <| ai @solid33 <| ai @drop33a <| ai @drop32a <| @len33
def v32 := ai @take32 <| ai @solidH <| @len32
end Gv.Tryz
/- maps.Clone of lists of hashes by hashes. -/
set_option linter.unusedVariables false
set_option maxRecDepth 100000
namespace Go.Proofs
open Go.Shelf
def Tryz.mcl_ren : Go.Shelf.Ren := ⟨fun | 5 => 57 | 7 => 96 | n => n, fun | 4 => 4 | 20 => 20 | 23 => 88 | 25 => 44 | 3 => 33 | n => n, fun | n => n⟩
theorem Tryz.mcl : Go.Proofs.SlLaysW.n5 Tryz.prog Tryz.mcl_ren := {
  mixed := by kernel_rfl
  f5 := ⟨Tryz.f57.name, by decide, Tryz.func57.trans (congrArg some (by kernel_rfl))⟩
  f7 := Tryz.func96.trans (congrArg some (by kernel_rfl))
  t4 := Tryz.underlying4
  a4 := Tryz.isAgg4
  z4 := Tryz.sizeOf4
  v4 := Tryz.zeroValue4
  t20 := Tryz.underlying20
  a20 := Tryz.isAgg20
  z20 := Tryz.sizeOf20
  v20 := Tryz.zeroValue20
  t23 := Tryz.underlying88
  a23 := Tryz.isAgg88
  z23 := Tryz.sizeOf88
  v23 := Tryz.zeroValue88 }
end Go.Proofs
namespace Gv.Tryz
open Go Gv Go.Proofs
theorem cMapClone {O : List GObj} {o st : Nat} {kv : List (GVal × GVal)} (hO : O[o]? = some (.map st kv)) (hc : clockOf O = none) :
    GCalls Tryz.prog 57 [.map o st] O (fun g O' => ∃ st', g = .map O.length st' ∧ O' = O ++ [.map st' kv]) :=
  gcalls_clone (by kernel_rfl) (fun b es clock w hb => AnyW.maps_Clone Tryz.mcl b es clock w hb) hO hc
end Gv.Tryz
/- Contracts: small functions of graph. -/
set_option linter.unusedVariables false
set_option linter.unusedSimpArgs false
set_option maxRecDepth 20000
set_option maxHeartbeats 4000000
namespace Gv.Tryz
open Go Gv Go.Proofs
open Nat (reduceEqDiff reduceAdd reduceSub reduceLeDiff reduceMul reduceLT)
theorem gCloneP (l : List Hs) (t : Tag) (hl : l.length ≤ 4398046511104) (ht : t = .nil → l = []) : GPure Tryz.prog 43 [.slice (hsG l) t] (.slice (hsG l) .none) := by
  refine GCalls.toPure ((hClone l t hl ht).mono ?_)
  rintro g O' (⟨rfl, rfl, rfl⟩ | ⟨st, rfl, rfl⟩)
  · exact ⟨2, .slice [] .nil, rfl, by rw [leA_slice]; rfl⟩
  · exact ⟨3, .slice (hsG l) .none, frz_own rfl (hsG_len _).symm (frz_hs _ 1 _), by rw [leA_slice]⟩
abbrev errG (n : Int) : GVal := .iface 52 (.int .i64 n)
abbrev whichG (h : Hs) (n : Int) : GVal := .iface 113 (.ref (bytesG h.1 ++ [errG n]))
theorem gOf (h : Hs) (n : Int) : GPure Tryz.prog 49 [.agg (bytesG h.1), errG n] (whichG h n) := by
  refine h49.pure mixS (by simp) ?_
  simp only [gstart, s49, List.cons_append, List.nil_append, List.length_cons, List.length_nil, reduceAdd, reduceSub, List.replicate_succ, List.replicate_zero]
  simp +contextual -implicitDefEqProofs (maxSteps := 2000000) (disch := omega) only [binV, ↓loadV, ↓boxV, ↓buildV, ↓ifaceV, fillG, place, GVal.cells, GVal.ofConst, ↓resV, resG, ↓reduceIte, reduceEqDiff, reduceAdd, reduceSub, reduceLeDiff, reduceCtorEq, aggV, Tag.cap, GVal.solid, Nat.reduceBEq, reduceMul, reduceLT, vcA, ↓vcB, vcC, fbFy, e49, vcD, v32]
  refine ⟨by kernel_rfl, rfl, ?_⟩
  simp only [len33, take32a, drop33a, solid33, List.append_nil, Nat.le_refl, if_true]
  exact ⟨rfl, by simp [leA, leG_self]⟩
theorem gEqual1 (a b : List Hs) (ta tb : Tag) (ha : a.length ≤ 4398046511104) (hl : a.length = b.length) : GPure Tryz.prog 101 [.slice (hsG a) ta, .slice (hsG b) tb] (.bool (decide (a = b))) := by
  have dl : ((a.length : Int) = (b.length : Int)) = True := eq_true (by omega)
  refine h101.pure mixS (by simp) ?_
  simp only [gstart, s101, List.cons_append, List.nil_append, List.length_cons, List.length_nil, reduceAdd, reduceSub, List.replicate_succ, List.replicate_zero]
  simp +contextual -implicitDefEqProofs (maxSteps := 2000000) (disch := omega) only [drawC, drawK, keepT, ↓lenV, binV, ↓loadV, ↓indexAddrV, GVal.cells, GVal.ofConst, ↓resV, resG, ↓reduceIte, reduceEqDiff, reduceAdd, reduceSub, reduceLeDiff, reduceCtorEq, aggV, Tag.cap, GVal.solid, Nat.reduceBEq, reduceMul, reduceLT, vcA, ↓vcB, vcC, fbFy, e101, hsG_len, dl, vcD, vnT]
  refine vcSLoop_by (ι := { k : Nat // k ≤ a.length ∧ a.take k = b.take k }) (fun k => ⟨[.slice (hsG a) ta, .slice (hsG b) tb, .any, .any, .any, .any, .any, .any, .any, .any, .any, .slice (hsG a) ta, .int .i64 a.length, .int .i64 (k.1 : Nat)] ++ List.replicate 12 .any, []⟩) (fun k => a.length - k.1) ?_ ?_
  · exact Into.first ⟨0, by omega, by simp⟩ ⟨[], by simp⟩ (by simp [WL, leG_self, leG_any, leG_int])
  · rintro ⟨k, hk, he⟩
    by_cases h' : k < a.length
    · have d0 : ((k : Int) < (a.length : Int)) = True := eq_true (by omega)
      have ea := hsG_at a k h'
      have eb := hsG_at b k (by omega)
      obtain ⟨x, ex⟩ : ∃ x, a.getD k h0 = x := ⟨_, rfl⟩
      obtain ⟨y, ey⟩ : ∃ y, b.getD k h0 = y := ⟨_, rfl⟩
      rw [ex] at ea
      rw [ey] at eb
      simp +contextual -implicitDefEqProofs (maxSteps := 2000000) (disch := omega) only [drawC, drawK, keepT, ↓lenV, binV, ↓loadV, ↓indexAddrV, GVal.cells, GVal.ofConst, ↓resV, resG, ↓reduceIte, reduceEqDiff, reduceAdd, reduceSub, reduceLeDiff, reduceCtorEq, aggV, Tag.cap, GVal.solid, Nat.reduceBEq, reduceMul, reduceLT, vcA, ↓vcB, vcC, fbFy, e101, hsG_len, d0, ea, eb, all_hsG, take32, len32, cellsEq_hs x y, vcD]
      refine ⟨by omega, by omega, by omega, fun c => ?_, fun c => ?_⟩
      · exact Into.at ⟨k + 1, by omega, by rw [takeH h', takeH (by omega), he, ex, ey, c]⟩ (by show _ < _; simp; omega) ⟨[], by simp⟩ (by simp [WL, leG_self, leG_any, leG_int])
      · rw [decide_eq_false fun e => c (by rw [← ex, ← ey, e])]
    · have d0 : ((k : Int) < (a.length : Int)) = False := eq_false (by omega)
      rw [List.take_of_length_le (by omega), List.take_of_length_le (by omega)] at he
      simp +contextual -implicitDefEqProofs (maxSteps := 2000000) (disch := omega) only [drawC, drawK, keepT, ↓lenV, binV, ↓loadV, ↓indexAddrV, GVal.cells, GVal.ofConst, ↓resV, resG, ↓reduceIte, reduceEqDiff, reduceAdd, reduceSub, reduceLeDiff, reduceCtorEq, aggV, Tag.cap, GVal.solid, Nat.reduceBEq, reduceMul, reduceLT, vcA, ↓vcB, vcC, fbFy, e101, hsG_len, d0, false_imp_iff, true_and, vcD]
      rw [decide_eq_true he]
theorem gEqual0 (a b : List Hs) (ta tb : Tag) (hl : a.length ≠ b.length) : GPure Tryz.prog 101 [.slice (hsG a) ta, .slice (hsG b) tb] (.bool false) := by
  have dl : ((a.length : Int) = (b.length : Int)) = False := eq_false (by omega)
  refine h101.pure mixS (by simp) ?_
  simp only [gstart, s101, List.cons_append, List.nil_append, List.length_cons, List.length_nil, reduceAdd, reduceSub, List.replicate_succ, List.replicate_zero]
  simp +contextual -implicitDefEqProofs (maxSteps := 2000000) (disch := omega) only [drawC, drawK, keepT, ↓lenV, binV, ↓loadV, ↓indexAddrV, GVal.cells, GVal.ofConst, ↓resV, resG, ↓reduceIte, reduceEqDiff, reduceAdd, reduceSub, reduceLeDiff, reduceCtorEq, aggV, Tag.cap, GVal.solid, Nat.reduceBEq, reduceMul, reduceLT, vcA, ↓vcB, vcC, fbFy, e101, hsG_len, dl, vcD, vnT]
theorem gEqual (a b : List Hs) (ta tb : Tag) (ha : a.length ≤ 4398046511104) : GPure Tryz.prog 101 [.slice (hsG a) ta, .slice (hsG b) tb] (.bool (decide (a = b))) := by
  by_cases hl : a.length = b.length
  · exact gEqual1 a b ta tb ha hl
  · rw [decide_eq_false (fun e => hl (by rw [e]))]
    exact gEqual0 a b ta tb hl
def twiceB (l : List Hs) : Bool := decide ((sortR l).length < l.length)
theorem gTwice (l : List Hs) (t : Tag) (hl : l.length ≤ 4398046511104) (ht : t = .nil → l = []) : GPure Tryz.prog 100 [.slice (hsG l) t] (.bool (twiceB l)) := by
  refine h100.pure mixS (by simp) ?_
  simp only [gstart, s100, List.cons_append, List.nil_append, List.length_cons, List.length_nil, reduceAdd, reduceSub, List.replicate_succ, List.replicate_zero]
  simp +contextual -implicitDefEqProofs (maxSteps := 2000000) (disch := omega) only [↓lenV, binV, GVal.cells, GVal.ofConst, ↓resV, resG, ↓reduceIte, reduceEqDiff, reduceAdd, reduceSub, reduceLeDiff, reduceCtorEq, Tag.cap, GVal.solid, Nat.reduceBEq, reduceMul, reduceLT, vcA, ↓vcB, vcC, fbFy, e100, vcD]
  refine (hSort l t hl ht).then ?_ (by rfl)
  simp +contextual -implicitDefEqProofs (maxSteps := 2000000) (disch := omega) only [↓lenV, binV, GVal.cells, GVal.ofConst, ↓resV, resG, ↓reduceIte, reduceEqDiff, reduceAdd, reduceSub, reduceLeDiff, reduceCtorEq, Tag.cap, GVal.solid, Nat.reduceBEq, reduceMul, reduceLT, vcA, ↓vcB, vcC, fbFy, e100, hsG_len, vcD]
  unfold twiceB
  by_cases h : (sortR l).length < l.length
  · rw [decide_eq_true h]; simp [h]
  · rw [decide_eq_false h]; simp [h]
def parsM (m : GM) (h : Hs) : List Hs := (look m h).getD []
theorem gPar1 (m : GM) (h : Hs) (st s i : Nat) (l : List Hs) (hl : l.length ≤ 4398046511104) (hi : idxM m h = some i) (hv : (kvG encL m)[i]? = some (.agg (bytesG h.1), encL l)) : GCalls Tryz.prog 103 [.ptr 0 st 0 0, .agg (bytesG h.1)] (gObj st s m) (fun g O' => g = .tuple [.slice (hsG l) .none, .bool true] ∧ O' = gObj st s m) := by
  refine h103.calls mixS (by simp) ?_
  simp only [gstart, s103, List.cons_append, List.nil_append, List.length_cons, List.length_nil, reduceAdd, reduceSub, List.replicate_succ, List.replicate_zero]
  simp +contextual -implicitDefEqProofs (maxSteps := 2000000) (disch := omega) only [drawC, drawK, keepT, optV, ↓loadV, ↓fieldAddrV, ↓boxV, ↓sliceV, ↓nilV, bound, cutTag, hiTag, GVal.cells, GVal.ofConst, ↓resV, resG, ↓reduceIte, reduceEqDiff, reduceAdd, reduceSub, reduceLeDiff, reduceCtorEq, ↓lookupV, keyOk, keyCells, pairG, Tag.cap, GVal.solid, Nat.reduceBEq, reduceMul, reduceLT, vcA, ↓vcB, vcC, fbFy, e103, kfind_h, hi, hv, vcD, v32]
  refine (gCloneP l .none hl (by simp)).then ?_ (by rfl)
  simp +contextual -implicitDefEqProofs (maxSteps := 2000000) (disch := omega) only [drawC, drawK, keepT, optV, ↓loadV, ↓fieldAddrV, ↓boxV, ↓sliceV, ↓nilV, bound, cutTag, hiTag, GVal.cells, GVal.ofConst, ↓resV, resG, ↓reduceIte, reduceEqDiff, reduceAdd, reduceSub, reduceLeDiff, reduceCtorEq, ↓lookupV, keyOk, keyCells, pairG, Tag.cap, GVal.solid, Nat.reduceBEq, reduceMul, reduceLT, vcA, ↓vcB, vcC, fbFy, e103, vcD]
theorem gPar0 (m : GM) (h : Hs) (st s : Nat) (hi : idxM m h = none) : GCalls Tryz.prog 103 [.ptr 0 st 0 0, .agg (bytesG h.1)] (gObj st s m) (fun g O' => g = .tuple [.slice (hsG []) .none, .bool false] ∧ O' = gObj st s m) := by
  refine h103.calls mixS (by simp) ?_
  simp only [gstart, s103, List.cons_append, List.nil_append, List.length_cons, List.length_nil, reduceAdd, reduceSub, List.replicate_succ, List.replicate_zero]
  simp +contextual -implicitDefEqProofs (maxSteps := 2000000) (disch := omega) only [drawC, drawK, keepT, optV, ↓loadV, ↓fieldAddrV, ↓boxV, ↓sliceV, ↓nilV, bound, cutTag, hiTag, GVal.cells, GVal.ofConst, ↓resV, resG, ↓reduceIte, reduceEqDiff, reduceAdd, reduceSub, reduceLeDiff, reduceCtorEq, ↓lookupV, keyOk, keyCells, pairG, Tag.cap, GVal.solid, Nat.reduceBEq, reduceMul, reduceLT, vcA, ↓vcB, vcC, fbFy, e103, kfind_h, hi, vcD, v32]
  refine (gCloneP [] .nil (by simp) (by simp)).then ?_ (by rfl)
  simp +contextual -implicitDefEqProofs (maxSteps := 2000000) (disch := omega) only [drawC, drawK, keepT, optV, ↓loadV, ↓fieldAddrV, ↓boxV, ↓sliceV, ↓nilV, bound, cutTag, hiTag, GVal.cells, GVal.ofConst, ↓resV, resG, ↓reduceIte, reduceEqDiff, reduceAdd, reduceSub, reduceLeDiff, reduceCtorEq, ↓lookupV, keyOk, keyCells, pairG, Tag.cap, GVal.solid, Nat.reduceBEq, reduceMul, reduceLT, vcA, ↓vcB, vcC, fbFy, e103, vcD]
theorem gParents (m : GM) (h : Hs) (st s : Nat) (hl : (parsM m h).length ≤ 4398046511104) : GCalls Tryz.prog 103 [.ptr 0 st 0 0, .agg (bytesG h.1)] (gObj st s m) (fun g O' => g = .tuple [.slice (hsG (parsM m h)) .none, .bool (look m h).isSome] ∧ O' = gObj st s m) := by
  cases e : look m h with
  | some l =>
    obtain ⟨i, hi, hv, _⟩ := look_idx encL m h l e
    have := gPar1 m h st s i l (by simpa [parsM, e] using hl) hi hv
    simpa [parsM, e] using this
  | none =>
    have := gPar0 m h st s (look_none encL m h e).1
    simpa [parsM, e] using this
end Gv.Tryz
/- Contracts: graph's sizes: what a request may not be, whatever the graph. -/
set_option linter.unusedVariables false
set_option linter.unusedSimpArgs false
set_option maxRecDepth 20000
set_option maxHeartbeats 4000000
namespace Gv.Tryz
open Go Gv Go.Proofs
open Nat (reduceEqDiff reduceAdd reduceSub reduceLeDiff reduceMul reduceLT)
abbrev Cm := Hs × List Hs
def comG (c : Cm) : List GVal := bytesG c.1.1 ++ [.slice (hsG c.2) .none]
def csG (l : List Cm) : List (List GVal) := l.map comG
instance : Inhabited Cm := ⟨(h0, [])⟩
theorem csG_len (l : List Cm) : (csG l).length = l.length := by simp [csG]
theorem csG_at (l : List Cm) (i : Nat) (h : i < l.length) : (csG l).getD i [] = comG (l.getD i default) := by simp [csG, List.getD, h]
theorem comG_len (c : Cm) : (comG c).length = 33 := len33 _ _
theorem all_csG (l : List Cm) : (∀ x ∈ csG l, x.length = 33) = True := eq_true fun x hx => by obtain ⟨s, _, rfl⟩ := List.mem_map.1 hx; exact comG_len s
theorem csG_app (a b : List Cm) : csG (a ++ b) = csG a ++ csG b := by simp [csG]
theorem csG_one (c : Cm) : csG [c] = [comG c] := rfl
theorem dropC {l : List Cm} {k : Nat} (h : k < l.length) : l.drop k = l.getD k default :: l.drop (k + 1) := by
  rw [List.drop_eq_getElem_cons h]; simp [List.getD, h]
theorem memC {l : List Cm} {k : Nat} (h : k < l.length) : l.getD k default ∈ l := by
  rw [List.getD_eq_getElem?_getD, List.getElem?_eq_getElem h]; exact List.getElem_mem h
abbrev Er := Option (Option Hs × Int)
def errV : Er → GVal
  | none => .lit .nilIface
  | some (none, n) => errG n
  | some (some h, n) => whichG h n
abbrev reqG (cs : List Cm) (hs : List Hs) (th : Tag) (gr : Int) : List GVal := [.slice (csG cs) .none, .slice (hsG hs) th, .int .i64 gr]
def sizeE (c : Cm) : Er := if 4 < c.2.length then some (some c.1, 8) else if twiceB c.2 = true then some (some c.1, 1) else none
def badReq (gr : Int) (nc nh : Nat) : Prop := (gr ≠ 1 ∧ gr ≠ 2) ∨ 200 < nc ∨ 200 < nh
instance (gr : Int) (nc nh : Nat) : Decidable (badReq gr nc nh) := by unfold badReq; infer_instance
def sizesP (gr : Int) (nh : Nat) (cs : List Cm) : Er := if badReq gr cs.length nh then some (none, 1) else cs.findSome? sizeE
theorem gSizes1 (cs : List Cm) (hs : List Hs) (th : Tag) (gr : Int) (hc : cs.length ≤ 1000000) (hh : hs.length ≤ 1000000) (hp : ∀ c ∈ cs, c.2.length ≤ 1000000) (d1 : (gr = 1) = True) : GPure Tryz.prog 69 [.agg (reqG cs hs th gr)] (errV (sizesP gr hs.length cs)) := by
  have fin : badReq gr cs.length hs.length → errV (sizesP gr hs.length cs) = errG 1 := fun h => by rw [sizesP, if_pos h]; rfl
  have stop : badReq gr cs.length hs.length → GPure Tryz.prog 69 [.agg (reqG cs hs th gr)] (errG 1) → GPure Tryz.prog 69 [.agg (reqG cs hs th gr)] (errV (sizesP gr hs.length cs)) := fun h k => by rw [fin h]; exact k
  have hgr : gr = 1 ∨ gr = 2 := by simp only [eq_iff_iff, iff_true, iff_false] at *; omega
  by_cases h2 : 200 < cs.length
  · refine stop (.inr (.inl h2)) ?_
    have d2 : ((200 : Int) < (cs.length : Int)) = True := eq_true (by omega)
    clear h2 stop fin hgr
    refine h69.pure mixS (by simp) ?_
    simp only [gstart, s69, List.cons_append, List.nil_append, List.length_cons, List.length_nil, reduceAdd, reduceSub, List.replicate_succ, List.replicate_zero]
    simp +contextual -implicitDefEqProofs (maxSteps := 2000000) (disch := omega) only [↓lenV, binV, ↓loadV, ↓storeV, ↓fieldAddrV, ↓indexAddrV, ↓allocV, ↓boxV, ↓ifaceV, GVal.cells, GVal.ofConst, ↓resV, resG, ↓reduceIte, reduceEqDiff, reduceAdd, reduceSub, reduceLeDiff, reduceCtorEq, aggV, Tag.cap, GVal.solid, Nat.reduceBEq, reduceMul, reduceLT, vcA, ↓vcB, vcC, fbFy, e69, csG_len, hsG_len, d1, d2, vcD, vnT]
    exact leA_refl _
  · have d2 : ((200 : Int) < (cs.length : Int)) = False := eq_false (by omega)
    by_cases h3 : 200 < hs.length
    · refine stop (.inr (.inr h3)) ?_
      have d3 : ((200 : Int) < (hs.length : Int)) = True := eq_true (by omega)
      clear h2 h3 stop fin hgr
      refine h69.pure mixS (by simp) ?_
      simp only [gstart, s69, List.cons_append, List.nil_append, List.length_cons, List.length_nil, reduceAdd, reduceSub, List.replicate_succ, List.replicate_zero]
      simp +contextual -implicitDefEqProofs (maxSteps := 2000000) (disch := omega) only [↓lenV, binV, ↓loadV, ↓storeV, ↓fieldAddrV, ↓indexAddrV, ↓allocV, ↓boxV, ↓ifaceV, GVal.cells, GVal.ofConst, ↓resV, resG, ↓reduceIte, reduceEqDiff, reduceAdd, reduceSub, reduceLeDiff, reduceCtorEq, aggV, Tag.cap, GVal.solid, Nat.reduceBEq, reduceMul, reduceLT, vcA, ↓vcB, vcC, fbFy, e69, csG_len, hsG_len, d1, d2, d3, vcD, vnT]
      exact leA_refl _
    · have d3 : ((200 : Int) < (hs.length : Int)) = False := eq_false (by omega)
      have he : errV (sizesP gr hs.length cs) = errV (cs.findSome? sizeE) := by
        rw [sizesP, if_neg]
        rintro (q | q | q)
        · omega
        · exact h2 q
        · exact h3 q
      rw [he]
      clear h2 h3 stop fin he hgr
      refine h69.pure mixS (by simp) ?_
      simp only [gstart, s69, List.cons_append, List.nil_append, List.length_cons, List.length_nil, reduceAdd, reduceSub, List.replicate_succ, List.replicate_zero]
      simp +contextual -implicitDefEqProofs (maxSteps := 2000000) (disch := omega) only [↓lenV, binV, ↓loadV, ↓storeV, ↓fieldAddrV, ↓indexAddrV, ↓allocV, ↓boxV, ↓ifaceV, GVal.cells, GVal.ofConst, ↓resV, resG, ↓reduceIte, reduceEqDiff, reduceAdd, reduceSub, reduceLeDiff, reduceCtorEq, aggV, Tag.cap, GVal.solid, Nat.reduceBEq, reduceMul, reduceLT, vcA, ↓vcB, vcC, fbFy, e69, csG_len, hsG_len, d1, d2, d3, vcD, vnT]
      refine vcSLoop_by (ι := { k : Nat // k ≤ cs.length ∧ cs.findSome? sizeE = (cs.drop k).findSome? sizeE }) (fun k => ⟨[.any, .ref (reqG cs hs th gr)] ++ List.replicate 25 .any ++ [.slice (csG cs) .none, .int .i64 cs.length, .int .i64 (k.1 : Nat)] ++ List.replicate 21 .any, []⟩) (fun k => cs.length - k.1) ?_ ?_
      · exact Into.first ⟨0, by omega, by simp⟩ ⟨[], by simp⟩ (by simp [WL, leG_self, leG_any, leG_int])
      · rintro ⟨k, hk, hf⟩
        by_cases h : k < cs.length
        · have d0 : ((k : Int) < (cs.length : Int)) = True := eq_true (by omega)
          have eS := csG_at cs k h
          have hx := hp _ (memC h)
          rw [dropC h, List.findSome?_cons] at hf
          generalize cs.getD k default = x at *
          obtain ⟨xh, xp⟩ := x
          by_cases c4 : 4 < xp.length
          · have d4 : ((4 : Int) < (xp.length : Int)) = True := eq_true (by omega)
            have e1 : sizeE (xh, xp) = some (some xh, 8) := by rw [sizeE, if_pos c4]
            rw [e1] at hf
            simp +contextual -implicitDefEqProofs (maxSteps := 2000000) (disch := omega) only [↓lenV, binV, ↓loadV, ↓storeV, ↓fieldAddrV, ↓indexAddrV, ↓allocV, ↓boxV, ↓ifaceV, GVal.cells, GVal.ofConst, ↓resV, resG, ↓reduceIte, reduceEqDiff, reduceAdd, reduceSub, reduceLeDiff, reduceCtorEq, aggV, Tag.cap, GVal.solid, Nat.reduceBEq, reduceMul, reduceLT, vcA, ↓vcB, vcC, fbFy, e69, csG_len, hsG_len, comG, d0, eS, d4, vcD, v33, v32]
            refine ⟨by omega, fun u => ?_⟩
            refine (gOf xh 8).then ?_ (by rfl)
            simp +contextual -implicitDefEqProofs (maxSteps := 2000000) (disch := omega) only [↓lenV, binV, ↓loadV, ↓storeV, ↓fieldAddrV, ↓indexAddrV, ↓allocV, ↓boxV, ↓ifaceV, GVal.cells, GVal.ofConst, ↓resV, resG, ↓reduceIte, reduceEqDiff, reduceAdd, reduceSub, reduceLeDiff, reduceCtorEq, aggV, Tag.cap, GVal.solid, Nat.reduceBEq, reduceMul, reduceLT, vcA, ↓vcB, vcC, fbFy, e69, csG_len, hsG_len, comG, vcD, v33, v32]
            rw [hf]
            exact leA_refl _
          · have d4 : ((4 : Int) < (xp.length : Int)) = False := eq_false (by omega)
            have cT := gTwice xp .none (by omega) (by simp)
            cases et : twiceB xp with
            | true =>
              have e1 : sizeE (xh, xp) = some (some xh, 1) := by rw [sizeE, if_neg c4, if_pos et]
              rw [e1] at hf
              rw [et] at cT
              simp +contextual -implicitDefEqProofs (maxSteps := 2000000) (disch := omega) only [↓lenV, binV, ↓loadV, ↓storeV, ↓fieldAddrV, ↓indexAddrV, ↓allocV, ↓boxV, ↓ifaceV, GVal.cells, GVal.ofConst, ↓resV, resG, ↓reduceIte, reduceEqDiff, reduceAdd, reduceSub, reduceLeDiff, reduceCtorEq, aggV, Tag.cap, GVal.solid, Nat.reduceBEq, reduceMul, reduceLT, vcA, ↓vcB, vcC, fbFy, e69, csG_len, hsG_len, comG, d0, eS, d4, vcD, v33, v32]
              refine ⟨by omega, fun u => ?_⟩
              refine cT.then ?_ (by rfl)
              simp +contextual -implicitDefEqProofs (maxSteps := 2000000) (disch := omega) only [↓lenV, binV, ↓loadV, ↓storeV, ↓fieldAddrV, ↓indexAddrV, ↓allocV, ↓boxV, ↓ifaceV, GVal.cells, GVal.ofConst, ↓resV, resG, ↓reduceIte, reduceEqDiff, reduceAdd, reduceSub, reduceLeDiff, reduceCtorEq, aggV, Tag.cap, GVal.solid, Nat.reduceBEq, reduceMul, reduceLT, vcA, ↓vcB, vcC, fbFy, e69, csG_len, hsG_len, comG, vcD, v33, v32]
              refine (gOf xh 1).then ?_ (by rfl)
              simp +contextual -implicitDefEqProofs (maxSteps := 2000000) (disch := omega) only [↓lenV, binV, ↓loadV, ↓storeV, ↓fieldAddrV, ↓indexAddrV, ↓allocV, ↓boxV, ↓ifaceV, GVal.cells, GVal.ofConst, ↓resV, resG, ↓reduceIte, reduceEqDiff, reduceAdd, reduceSub, reduceLeDiff, reduceCtorEq, aggV, Tag.cap, GVal.solid, Nat.reduceBEq, reduceMul, reduceLT, vcA, ↓vcB, vcC, fbFy, e69, csG_len, hsG_len, comG, vcD, v33, v32]
              rw [hf]
              exact leA_refl _
            | false =>
              have e1 : sizeE (xh, xp) = none := by rw [sizeE, if_neg c4, if_neg (by rw [et]; simp)]
              rw [e1] at hf
              rw [et] at cT
              simp +contextual -implicitDefEqProofs (maxSteps := 2000000) (disch := omega) only [↓lenV, binV, ↓loadV, ↓storeV, ↓fieldAddrV, ↓indexAddrV, ↓allocV, ↓boxV, ↓ifaceV, GVal.cells, GVal.ofConst, ↓resV, resG, ↓reduceIte, reduceEqDiff, reduceAdd, reduceSub, reduceLeDiff, reduceCtorEq, aggV, Tag.cap, GVal.solid, Nat.reduceBEq, reduceMul, reduceLT, vcA, ↓vcB, vcC, fbFy, e69, csG_len, hsG_len, comG, d0, eS, d4, vcD, v33, v32]
              refine ⟨by omega, fun u => ?_⟩
              refine cT.then ?_ (by rfl)
              simp +contextual -implicitDefEqProofs (maxSteps := 2000000) (disch := omega) only [↓lenV, binV, ↓loadV, ↓storeV, ↓fieldAddrV, ↓indexAddrV, ↓allocV, ↓boxV, ↓ifaceV, GVal.cells, GVal.ofConst, ↓resV, resG, ↓reduceIte, reduceEqDiff, reduceAdd, reduceSub, reduceLeDiff, reduceCtorEq, aggV, Tag.cap, GVal.solid, Nat.reduceBEq, reduceMul, reduceLT, vcA, ↓vcB, vcC, fbFy, e69, csG_len, hsG_len, comG, vcD, v33, v32]
              exact Into.at ⟨k + 1, by omega, hf⟩ (by show _ < _; simp; omega) ⟨_, rfl⟩ (by simp [WL, leG_self, leG_any, leG_int])
        · have d0 : ((k : Int) < (cs.length : Int)) = False := eq_false (by omega)
          rw [List.drop_of_length_le (by omega)] at hf
          simp +contextual -implicitDefEqProofs (maxSteps := 2000000) (disch := omega) only [↓lenV, binV, ↓loadV, ↓storeV, ↓fieldAddrV, ↓indexAddrV, ↓allocV, ↓boxV, ↓ifaceV, GVal.cells, GVal.ofConst, ↓resV, resG, ↓reduceIte, reduceEqDiff, reduceAdd, reduceSub, reduceLeDiff, reduceCtorEq, aggV, Tag.cap, GVal.solid, Nat.reduceBEq, reduceMul, reduceLT, vcA, ↓vcB, vcC, fbFy, e69, csG_len, hsG_len, comG, d0, vcD, v33, v32]
          rw [hf]
          exact leA_refl _
theorem gSizes2 (cs : List Cm) (hs : List Hs) (th : Tag) (gr : Int) (hc : cs.length ≤ 1000000) (hh : hs.length ≤ 1000000) (hp : ∀ c ∈ cs, c.2.length ≤ 1000000) (d1 : (gr = 1) = False) (dd : (gr = 2) = True) : GPure Tryz.prog 69 [.agg (reqG cs hs th gr)] (errV (sizesP gr hs.length cs)) := by
  have fin : badReq gr cs.length hs.length → errV (sizesP gr hs.length cs) = errG 1 := fun h => by rw [sizesP, if_pos h]; rfl
  have stop : badReq gr cs.length hs.length → GPure Tryz.prog 69 [.agg (reqG cs hs th gr)] (errG 1) → GPure Tryz.prog 69 [.agg (reqG cs hs th gr)] (errV (sizesP gr hs.length cs)) := fun h k => by rw [fin h]; exact k
  have hgr : gr = 1 ∨ gr = 2 := by simp only [eq_iff_iff, iff_true, iff_false] at *; omega
  by_cases h2 : 200 < cs.length
  · refine stop (.inr (.inl h2)) ?_
    have d2 : ((200 : Int) < (cs.length : Int)) = True := eq_true (by omega)
    clear h2 stop fin hgr
    refine h69.pure mixS (by simp) ?_
    simp only [gstart, s69, List.cons_append, List.nil_append, List.length_cons, List.length_nil, reduceAdd, reduceSub, List.replicate_succ, List.replicate_zero]
    simp +contextual -implicitDefEqProofs (maxSteps := 2000000) (disch := omega) only [↓lenV, binV, ↓loadV, ↓storeV, ↓fieldAddrV, ↓indexAddrV, ↓allocV, ↓boxV, ↓ifaceV, GVal.cells, GVal.ofConst, ↓resV, resG, ↓reduceIte, reduceEqDiff, reduceAdd, reduceSub, reduceLeDiff, reduceCtorEq, aggV, Tag.cap, GVal.solid, Nat.reduceBEq, reduceMul, reduceLT, vcA, ↓vcB, vcC, fbFy, e69, csG_len, hsG_len, d1, dd, d2, vcD, vnT]
    exact leA_refl _
  · have d2 : ((200 : Int) < (cs.length : Int)) = False := eq_false (by omega)
    by_cases h3 : 200 < hs.length
    · refine stop (.inr (.inr h3)) ?_
      have d3 : ((200 : Int) < (hs.length : Int)) = True := eq_true (by omega)
      clear h2 h3 stop fin hgr
      refine h69.pure mixS (by simp) ?_
      simp only [gstart, s69, List.cons_append, List.nil_append, List.length_cons, List.length_nil, reduceAdd, reduceSub, List.replicate_succ, List.replicate_zero]
      simp +contextual -implicitDefEqProofs (maxSteps := 2000000) (disch := omega) only [↓lenV, binV, ↓loadV, ↓storeV, ↓fieldAddrV, ↓indexAddrV, ↓allocV, ↓boxV, ↓ifaceV, GVal.cells, GVal.ofConst, ↓resV, resG, ↓reduceIte, reduceEqDiff, reduceAdd, reduceSub, reduceLeDiff, reduceCtorEq, aggV, Tag.cap, GVal.solid, Nat.reduceBEq, reduceMul, reduceLT, vcA, ↓vcB, vcC, fbFy, e69, csG_len, hsG_len, d1, dd, d2, d3, vcD, vnT]
      exact leA_refl _
    · have d3 : ((200 : Int) < (hs.length : Int)) = False := eq_false (by omega)
      have he : errV (sizesP gr hs.length cs) = errV (cs.findSome? sizeE) := by
        rw [sizesP, if_neg]
        rintro (q | q | q)
        · omega
        · exact h2 q
        · exact h3 q
      rw [he]
      clear h2 h3 stop fin he hgr
      refine h69.pure mixS (by simp) ?_
      simp only [gstart, s69, List.cons_append, List.nil_append, List.length_cons, List.length_nil, reduceAdd, reduceSub, List.replicate_succ, List.replicate_zero]
      simp +contextual -implicitDefEqProofs (maxSteps := 2000000) (disch := omega) only [↓lenV, binV, ↓loadV, ↓storeV, ↓fieldAddrV, ↓indexAddrV, ↓allocV, ↓boxV, ↓ifaceV, GVal.cells, GVal.ofConst, ↓resV, resG, ↓reduceIte, reduceEqDiff, reduceAdd, reduceSub, reduceLeDiff, reduceCtorEq, aggV, Tag.cap, GVal.solid, Nat.reduceBEq, reduceMul, reduceLT, vcA, ↓vcB, vcC, fbFy, e69, csG_len, hsG_len, d1, dd, d2, d3, vcD, vnT]
      refine vcSLoop_by (ι := { k : Nat // k ≤ cs.length ∧ cs.findSome? sizeE = (cs.drop k).findSome? sizeE }) (fun k => ⟨[.any, .ref (reqG cs hs th gr)] ++ List.replicate 25 .any ++ [.slice (csG cs) .none, .int .i64 cs.length, .int .i64 (k.1 : Nat)] ++ List.replicate 21 .any, []⟩) (fun k => cs.length - k.1) ?_ ?_
      · exact Into.first ⟨0, by omega, by simp⟩ ⟨[], by simp⟩ (by simp [WL, leG_self, leG_any, leG_int])
      · rintro ⟨k, hk, hf⟩
        by_cases h : k < cs.length
        · have d0 : ((k : Int) < (cs.length : Int)) = True := eq_true (by omega)
          have eS := csG_at cs k h
          have hx := hp _ (memC h)
          rw [dropC h, List.findSome?_cons] at hf
          generalize cs.getD k default = x at *
          obtain ⟨xh, xp⟩ := x
          by_cases c4 : 4 < xp.length
          · have d4 : ((4 : Int) < (xp.length : Int)) = True := eq_true (by omega)
            have e1 : sizeE (xh, xp) = some (some xh, 8) := by rw [sizeE, if_pos c4]
            rw [e1] at hf
            simp +contextual -implicitDefEqProofs (maxSteps := 2000000) (disch := omega) only [↓lenV, binV, ↓loadV, ↓storeV, ↓fieldAddrV, ↓indexAddrV, ↓allocV, ↓boxV, ↓ifaceV, GVal.cells, GVal.ofConst, ↓resV, resG, ↓reduceIte, reduceEqDiff, reduceAdd, reduceSub, reduceLeDiff, reduceCtorEq, aggV, Tag.cap, GVal.solid, Nat.reduceBEq, reduceMul, reduceLT, vcA, ↓vcB, vcC, fbFy, e69, csG_len, hsG_len, comG, d0, eS, d4, vcD, v33, v32]
            refine ⟨by omega, fun u => ?_⟩
            refine (gOf xh 8).then ?_ (by rfl)
            simp +contextual -implicitDefEqProofs (maxSteps := 2000000) (disch := omega) only [↓lenV, binV, ↓loadV, ↓storeV, ↓fieldAddrV, ↓indexAddrV, ↓allocV, ↓boxV, ↓ifaceV, GVal.cells, GVal.ofConst, ↓resV, resG, ↓reduceIte, reduceEqDiff, reduceAdd, reduceSub, reduceLeDiff, reduceCtorEq, aggV, Tag.cap, GVal.solid, Nat.reduceBEq, reduceMul, reduceLT, vcA, ↓vcB, vcC, fbFy, e69, csG_len, hsG_len, comG, vcD, v33, v32]
            rw [hf]
            exact leA_refl _
          · have d4 : ((4 : Int) < (xp.length : Int)) = False := eq_false (by omega)
            have cT := gTwice xp .none (by omega) (by simp)
            cases et : twiceB xp with
            | true =>
              have e1 : sizeE (xh, xp) = some (some xh, 1) := by rw [sizeE, if_neg c4, if_pos et]
              rw [e1] at hf
              rw [et] at cT
              simp +contextual -implicitDefEqProofs (maxSteps := 2000000) (disch := omega) only [↓lenV, binV, ↓loadV, ↓storeV, ↓fieldAddrV, ↓indexAddrV, ↓allocV, ↓boxV, ↓ifaceV, GVal.cells, GVal.ofConst, ↓resV, resG, ↓reduceIte, reduceEqDiff, reduceAdd, reduceSub, reduceLeDiff, reduceCtorEq, aggV, Tag.cap, GVal.solid, Nat.reduceBEq, reduceMul, reduceLT, vcA, ↓vcB, vcC, fbFy, e69, csG_len, hsG_len, comG, d0, eS, d4, vcD, v33, v32]
              refine ⟨by omega, fun u => ?_⟩
              refine cT.then ?_ (by rfl)
              simp +contextual -implicitDefEqProofs (maxSteps := 2000000) (disch := omega) only [↓lenV, binV, ↓loadV, ↓storeV, ↓fieldAddrV, ↓indexAddrV, ↓allocV, ↓boxV, ↓ifaceV, GVal.cells, GVal.ofConst, ↓resV, resG, ↓reduceIte, reduceEqDiff, reduceAdd, reduceSub, reduceLeDiff, reduceCtorEq, aggV, Tag.cap, GVal.solid, Nat.reduceBEq, reduceMul, reduceLT, vcA, ↓vcB, vcC, fbFy, e69, csG_len, hsG_len, comG, vcD, v33, v32]
              refine (gOf xh 1).then ?_ (by rfl)
              simp +contextual -implicitDefEqProofs (maxSteps := 2000000) (disch := omega) only [↓lenV, binV, ↓loadV, ↓storeV, ↓fieldAddrV, ↓indexAddrV, ↓allocV, ↓boxV, ↓ifaceV, GVal.cells, GVal.ofConst, ↓resV, resG, ↓reduceIte, reduceEqDiff, reduceAdd, reduceSub, reduceLeDiff, reduceCtorEq, aggV, Tag.cap, GVal.solid, Nat.reduceBEq, reduceMul, reduceLT, vcA, ↓vcB, vcC, fbFy, e69, csG_len, hsG_len, comG, vcD, v33, v32]
              rw [hf]
              exact leA_refl _
            | false =>
              have e1 : sizeE (xh, xp) = none := by rw [sizeE, if_neg c4, if_neg (by rw [et]; simp)]
              rw [e1] at hf
              rw [et] at cT
              simp +contextual -implicitDefEqProofs (maxSteps := 2000000) (disch := omega) only [↓lenV, binV, ↓loadV, ↓storeV, ↓fieldAddrV, ↓indexAddrV, ↓allocV, ↓boxV, ↓ifaceV, GVal.cells, GVal.ofConst, ↓resV, resG, ↓reduceIte, reduceEqDiff, reduceAdd, reduceSub, reduceLeDiff, reduceCtorEq, aggV, Tag.cap, GVal.solid, Nat.reduceBEq, reduceMul, reduceLT, vcA, ↓vcB, vcC, fbFy, e69, csG_len, hsG_len, comG, d0, eS, d4, vcD, v33, v32]
              refine ⟨by omega, fun u => ?_⟩
              refine cT.then ?_ (by rfl)
              simp +contextual -implicitDefEqProofs (maxSteps := 2000000) (disch := omega) only [↓lenV, binV, ↓loadV, ↓storeV, ↓fieldAddrV, ↓indexAddrV, ↓allocV, ↓boxV, ↓ifaceV, GVal.cells, GVal.ofConst, ↓resV, resG, ↓reduceIte, reduceEqDiff, reduceAdd, reduceSub, reduceLeDiff, reduceCtorEq, aggV, Tag.cap, GVal.solid, Nat.reduceBEq, reduceMul, reduceLT, vcA, ↓vcB, vcC, fbFy, e69, csG_len, hsG_len, comG, vcD, v33, v32]
              exact Into.at ⟨k + 1, by omega, hf⟩ (by show _ < _; simp; omega) ⟨_, rfl⟩ (by simp [WL, leG_self, leG_any, leG_int])
        · have d0 : ((k : Int) < (cs.length : Int)) = False := eq_false (by omega)
          rw [List.drop_of_length_le (by omega)] at hf
          simp +contextual -implicitDefEqProofs (maxSteps := 2000000) (disch := omega) only [↓lenV, binV, ↓loadV, ↓storeV, ↓fieldAddrV, ↓indexAddrV, ↓allocV, ↓boxV, ↓ifaceV, GVal.cells, GVal.ofConst, ↓resV, resG, ↓reduceIte, reduceEqDiff, reduceAdd, reduceSub, reduceLeDiff, reduceCtorEq, aggV, Tag.cap, GVal.solid, Nat.reduceBEq, reduceMul, reduceLT, vcA, ↓vcB, vcC, fbFy, e69, csG_len, hsG_len, comG, d0, vcD, v33, v32]
          rw [hf]
          exact leA_refl _
theorem gSizes (cs : List Cm) (hs : List Hs) (th : Tag) (gr : Int) (hc : cs.length ≤ 1000000) (hh : hs.length ≤ 1000000) (hp : ∀ c ∈ cs, c.2.length ≤ 1000000) : GPure Tryz.prog 69 [.agg (reqG cs hs th gr)] (errV (sizesP gr hs.length cs)) := by
  by_cases h1 : gr = 1
  · exact gSizes1 cs hs th gr hc hh hp (eq_true h1)
  · by_cases h2 : gr = 2
    · exact gSizes2 cs hs th gr hc hh hp (eq_false h1) (eq_true h2)
    · have fin : errV (sizesP gr hs.length cs) = errG 1 := by rw [sizesP, if_pos (.inl ⟨h1, h2⟩)]; rfl
      rw [fin]
      have d1 : (gr = 1) = False := eq_false h1
      have dd : (gr = 2) = False := eq_false h2
      refine h69.pure mixS (by simp) ?_
      simp only [gstart, s69, List.cons_append, List.nil_append, List.length_cons, List.length_nil, reduceAdd, reduceSub, List.replicate_succ, List.replicate_zero]
      simp +contextual -implicitDefEqProofs (maxSteps := 2000000) (disch := omega) only [↓lenV, binV, ↓loadV, ↓storeV, ↓fieldAddrV, ↓indexAddrV, ↓allocV, ↓boxV, ↓ifaceV, GVal.cells, GVal.ofConst, ↓resV, resG, ↓reduceIte, reduceEqDiff, reduceAdd, reduceSub, reduceLeDiff, reduceCtorEq, aggV, Tag.cap, GVal.solid, Nat.reduceBEq, reduceMul, reduceLT, vcA, ↓vcB, vcC, fbFy, e69, csG_len, hsG_len, d1, dd, vcD, vnT]
      exact leA_refl _
end Gv.Tryz
/- Contracts: graph's joined, lacking. -/
set_option linter.unusedVariables false
set_option linter.unusedSimpArgs false
set_option maxRecDepth 20000
set_option maxHeartbeats 4000000
namespace Gv.Tryz
open Go Gv Go.Proofs
open Nat (reduceEqDiff reduceAdd reduceSub reduceLeDiff reduceMul reduceLT)
def joinE (m : GM) (c : Cm) : Except (Hs × Int) GM := match look m c.1 with
  | some l => if l = c.2 then .ok m else .error (c.1, 9)
  | none => .ok (mset m c.1 c.2)
def joinP : GM → List Cm → Except (Hs × Int) GM
  | m, [] => .ok m
  | m, c :: r => match joinE m c with
    | .ok m' => joinP m' r
    | .error e => .error e
theorem joinP_drop (m : GM) (l : List Cm) (k : Nat) (h : k < l.length) : joinP m (l.drop k) = match joinE m (l.getD k default) with
    | .ok m' => joinP m' (l.drop (k + 1))
    | .error e => .error e := by rw [dropC h, joinP]
def joinV (st : Nat) : Except (Hs × Int) GM → GVal
  | .ok _ => .tuple [.map 2 st, .lit .nilIface]
  | .error (h, n) => .tuple [.lit (.map none), whichG h n]
def joinO (st : Nat) : Except (Hs × Int) GM → List GObj
  | .ok m' => [.map st (kvG encL m')]
  | .error _ => []
theorem gJoined (m : GM) (cs : List Cm) (tc : Tag) (st s : Nat) (hc : cs.length ≤ 1000000) (hp : ∀ c ∈ cs, c.2.length ≤ 1000000) (hm : ∀ h l, look m h = some l → l.length ≤ 1000000) :
    GCalls Tryz.prog 70 [.ptr 0 st 0 0, .slice (csG cs) tc] (gObj st s m) (fun g O' => ∃ st', g = joinV st' (joinP m cs) ∧ O' = gObj st s m ++ joinO st' (joinP m cs)) := by
  refine GCalls.dropTo ?_
  refine h70.calls mixS (by simp) ?_
  simp only [gstart, s70, List.cons_append, List.nil_append, List.length_cons, List.length_nil, reduceAdd, reduceSub, List.replicate_succ, List.replicate_zero]
  simp +contextual -implicitDefEqProofs (maxSteps := 2000000) (disch := omega) only [drawC, drawK, keepT, ↓lenV, binV, ↓unV, ↓loadV, ↓storeV, ↓fieldAddrV, ↓indexAddrV, ↓allocV, ↓nilV, ↓ifaceV, GVal.cells, GVal.ofConst, ↓resV, resG, ↓reduceIte, reduceEqDiff, reduceAdd, reduceSub, reduceLeDiff, reduceCtorEq, ↓lookupV, ↓mapUpdateV, keyOk, keyCells, pairG, Tag.cap, GVal.solid, Nat.reduceBEq, reduceMul, reduceLT, vcA, ↓vcB, vcC, fbFy, e70, vcD]
  refine (cMapClone (O := gObj st s m) rfl rfl).mono ?_
  rintro g O' ⟨s2, rfl, rfl⟩
  simp +contextual -implicitDefEqProofs (maxSteps := 2000000) (disch := omega) only [drawC, drawK, keepT, ↓lenV, binV, ↓unV, ↓loadV, ↓storeV, ↓fieldAddrV, ↓indexAddrV, ↓allocV, ↓nilV, ↓ifaceV, GVal.cells, GVal.ofConst, ↓resV, resG, ↓reduceIte, reduceEqDiff, reduceAdd, reduceSub, reduceLeDiff, reduceCtorEq, ↓lookupV, ↓mapUpdateV, keyOk, keyCells, pairG, Tag.cap, GVal.solid, Nat.reduceBEq, reduceMul, reduceLT, vcA, ↓vcB, vcC, fbFy, e70, csG_len, vcD]
  refine vcSLoop_by (ι := { p : Nat × GM // p.1 ≤ cs.length ∧ joinP m cs = joinP p.2 (cs.drop p.1) ∧ ∀ h l, look p.2 h = some l → l.length ≤ 1000000 }) (fun p => ⟨List.replicate 6 .any ++ [.map 2 s2] ++ List.replicate 9 .any ++ [.slice (csG cs) tc, .int .i64 cs.length, .int .i64 (p.1.1 : Nat)] ++ List.replicate 32 .any, [.row st 1 [[.map 1 s]], .map s (kvG encL m), .map s2 (kvG encL p.1.2)]⟩) (fun p => cs.length - p.1.1) ?_ ?_
  · exact Into.first ⟨(0, m), by show 0 ≤ _; omega, by simp, hm⟩ ⟨[], by simp⟩ (by simp [WL, leG_self, leG_any, leG_int])
  · rintro ⟨⟨k, M⟩, hk, hf, hM⟩
    change k ≤ cs.length at hk
    change joinP m cs = joinP M (cs.drop k) at hf
    change ∀ h l, look M h = some l → l.length ≤ 1000000 at hM
    by_cases h : k < cs.length
    · have d0 : ((k : Int) < (cs.length : Int)) = True := eq_true (by omega)
      have eS := csG_at cs k h
      have hx := hp _ (memC h)
      rw [joinP_drop _ _ _ h] at hf
      generalize cs.getD k default = x at *
      obtain ⟨xh, xp⟩ := x
      change xp.length ≤ 1000000 at hx
      cases el : look M xh with
      | some l =>
        obtain ⟨i, hi, hv, _⟩ := look_idx encL M xh l el
        have hl := hM xh l el
        have cE := gEqual l xp .none .none (by omega)
        by_cases e : l = xp
        · have ej : joinE M (xh, xp) = .ok M := by unfold joinE; simp only [el]; rw [if_pos e]
          rw [ej] at hf
          rw [decide_eq_true e] at cE
          simp +contextual -implicitDefEqProofs (maxSteps := 2000000) (disch := omega) only [drawC, drawK, keepT, ↓lenV, binV, ↓unV, ↓loadV, ↓storeV, ↓fieldAddrV, ↓indexAddrV, ↓allocV, ↓nilV, ↓ifaceV, GVal.cells, GVal.ofConst, ↓resV, resG, ↓reduceIte, reduceEqDiff, reduceAdd, reduceSub, reduceLeDiff, reduceCtorEq, ↓lookupV, ↓mapUpdateV, keyOk, keyCells, pairG, Tag.cap, GVal.solid, Nat.reduceBEq, reduceMul, reduceLT, vcA, ↓vcB, vcC, fbFy, e70, csG_len, hsG_len, comG, kfind_h, hi, hv, d0, eS, vcD, v33, v32]
          refine ⟨by omega, fun u => ?_⟩
          refine cE.then ?_ (by rfl)
          simp +contextual -implicitDefEqProofs (maxSteps := 2000000) (disch := omega) only [drawC, drawK, keepT, ↓lenV, binV, ↓unV, ↓loadV, ↓storeV, ↓fieldAddrV, ↓indexAddrV, ↓allocV, ↓nilV, ↓ifaceV, GVal.cells, GVal.ofConst, ↓resV, resG, ↓reduceIte, reduceEqDiff, reduceAdd, reduceSub, reduceLeDiff, reduceCtorEq, ↓lookupV, ↓mapUpdateV, keyOk, keyCells, pairG, Tag.cap, GVal.solid, Nat.reduceBEq, reduceMul, reduceLT, vcA, ↓vcB, vcC, fbFy, e70, vcD]
          exact Into.at ⟨(k + 1, M), by show k + 1 ≤ _; omega, hf, hM⟩ (by show _ < _; simp; omega) ⟨_, rfl⟩ (by simp [WL, leG_self, leG_any, leG_int])
        · have ej : joinE M (xh, xp) = .error (xh, 9) := by unfold joinE; simp only [el]; rw [if_neg e]
          rw [ej] at hf
          rw [decide_eq_false e] at cE
          simp +contextual -implicitDefEqProofs (maxSteps := 2000000) (disch := omega) only [drawC, drawK, keepT, ↓lenV, binV, ↓unV, ↓loadV, ↓storeV, ↓fieldAddrV, ↓indexAddrV, ↓allocV, ↓nilV, ↓ifaceV, GVal.cells, GVal.ofConst, ↓resV, resG, ↓reduceIte, reduceEqDiff, reduceAdd, reduceSub, reduceLeDiff, reduceCtorEq, ↓lookupV, ↓mapUpdateV, keyOk, keyCells, pairG, Tag.cap, GVal.solid, Nat.reduceBEq, reduceMul, reduceLT, vcA, ↓vcB, vcC, fbFy, e70, csG_len, hsG_len, comG, kfind_h, hi, hv, d0, eS, vcD, v33, v32]
          refine ⟨by omega, fun u => ?_⟩
          refine cE.then ?_ (by rfl)
          simp +contextual -implicitDefEqProofs (maxSteps := 2000000) (disch := omega) only [drawC, drawK, keepT, ↓lenV, binV, ↓unV, ↓loadV, ↓storeV, ↓fieldAddrV, ↓indexAddrV, ↓allocV, ↓nilV, ↓ifaceV, GVal.cells, GVal.ofConst, ↓resV, resG, ↓reduceIte, reduceEqDiff, reduceAdd, reduceSub, reduceLeDiff, reduceCtorEq, ↓lookupV, ↓mapUpdateV, keyOk, keyCells, pairG, Tag.cap, GVal.solid, Nat.reduceBEq, reduceMul, reduceLT, vcA, ↓vcB, vcC, fbFy, e70, csG_len, hsG_len, comG, vcD, v33, v32]
          refine (gOf xh 9).then ?_ (by rfl)
          simp +contextual -implicitDefEqProofs (maxSteps := 2000000) (disch := omega) only [drawC, drawK, keepT, ↓lenV, binV, ↓unV, ↓loadV, ↓storeV, ↓fieldAddrV, ↓indexAddrV, ↓allocV, ↓nilV, ↓ifaceV, GVal.cells, GVal.ofConst, ↓resV, resG, ↓reduceIte, reduceEqDiff, reduceAdd, reduceSub, reduceLeDiff, reduceCtorEq, ↓lookupV, ↓mapUpdateV, keyOk, keyCells, pairG, Tag.cap, GVal.solid, Nat.reduceBEq, reduceMul, reduceLT, vcA, ↓vcB, vcC, fbFy, e70, vcD]
          rw [hf]
          exact ⟨_, gObj st s m, _, rfl, leA_refl _, 0, rfl, rfl⟩
      | none =>
        obtain ⟨hi, hw⟩ := look_none encL M xh el
        have ej : joinE M (xh, xp) = .ok (mset M xh xp) := by unfold joinE; simp only [el]
        rw [ej] at hf
        have hw := hw xp
        have cC := gCloneP xp .none (by omega) (by simp)
        simp +contextual -implicitDefEqProofs (maxSteps := 2000000) (disch := omega) only [drawC, drawK, keepT, ↓lenV, binV, ↓unV, ↓loadV, ↓storeV, ↓fieldAddrV, ↓indexAddrV, ↓allocV, ↓nilV, ↓ifaceV, GVal.cells, GVal.ofConst, ↓resV, resG, ↓reduceIte, reduceEqDiff, reduceAdd, reduceSub, reduceLeDiff, reduceCtorEq, ↓lookupV, ↓mapUpdateV, keyOk, keyCells, pairG, Tag.cap, GVal.solid, Nat.reduceBEq, reduceMul, reduceLT, vcA, ↓vcB, vcC, fbFy, e70, csG_len, hsG_len, comG, kfind_h, hi, d0, eS, vcD, v33, v32]
        refine ⟨by omega, fun u => ?_⟩
        refine cC.then ?_ (by rfl)
        simp +contextual -implicitDefEqProofs (maxSteps := 2000000) (disch := omega) only [drawC, drawK, keepT, ↓lenV, binV, ↓unV, ↓loadV, ↓storeV, ↓fieldAddrV, ↓indexAddrV, ↓allocV, ↓nilV, ↓ifaceV, GVal.cells, GVal.ofConst, ↓resV, resG, ↓reduceIte, reduceEqDiff, reduceAdd, reduceSub, reduceLeDiff, reduceCtorEq, ↓lookupV, ↓mapUpdateV, keyOk, keyCells, pairG, Tag.cap, GVal.solid, Nat.reduceBEq, reduceMul, reduceLT, vcA, ↓vcB, vcC, fbFy, e70, kfind_h, hi, hw, solidH, len32, vcD]
        refine ⟨⟨[], rfl⟩, ?_⟩
        refine Into.at ⟨(k + 1, mset M xh xp), by show k + 1 ≤ _; omega, hf, fun h l e => ?_⟩ (by show _ < _; simp; omega) ⟨[.row u 33 [comG (xh, xp)]], rfl⟩ (by simp [WL, leG_self, leG_any, leG_int])
        simp only [look_mset] at e
        split at e
        · cases e; exact hx
        · exact hM h l e
    · have d0 : ((k : Int) < (cs.length : Int)) = False := eq_false (by omega)
      rw [List.drop_of_length_le (by omega), joinP] at hf
      simp +contextual -implicitDefEqProofs (maxSteps := 2000000) (disch := omega) only [drawC, drawK, keepT, ↓lenV, binV, ↓unV, ↓loadV, ↓storeV, ↓fieldAddrV, ↓indexAddrV, ↓allocV, ↓nilV, ↓ifaceV, GVal.cells, GVal.ofConst, ↓resV, resG, ↓reduceIte, reduceEqDiff, reduceAdd, reduceSub, reduceLeDiff, reduceCtorEq, ↓lookupV, ↓mapUpdateV, keyOk, keyCells, pairG, Tag.cap, GVal.solid, Nat.reduceBEq, reduceMul, reduceLT, vcA, ↓vcB, vcC, fbFy, e70, csG_len, d0, vcD]
      rw [hf]
      exact ⟨_, _, [], (List.append_nil _).symm, leA_refl _, s2, rfl, rfl⟩
def nowhere (M : GM) (n : Int) (p : Hs) : Er := match look M p with
  | some _ => none
  | none => some (some p, n)
def lackP (M : GM) (cs : List Cm) (hs : List Hs) : Er := match cs.findSome? (fun c => c.2.findSome? (nowhere M 10)) with
  | some e => some e
  | none => hs.findSome? (nowhere M 11)
theorem findH {f : Hs → Er} {l : List Hs} {k : Nat} (h : k < l.length) : (l.drop k).findSome? f = match f (l.getD k h0) with
  | some e => some e
  | none => (l.drop (k + 1)).findSome? f := by
  rw [dropH h, List.findSome?_cons]
  cases f (l.getD k h0) <;> rfl
theorem findC {f : Cm → Er} {l : List Cm} {k : Nat} (h : k < l.length) : (l.drop k).findSome? f = match f (l.getD k default) with
  | some e => some e
  | none => (l.drop (k + 1)).findSome? f := by
  rw [dropC h, List.findSome?_cons]
  cases f (l.getD k default) <;> rfl
theorem gLacking (M : GM) (cs : List Cm) (hs : List Hs) (th : Tag) (gr : Int) (s : Nat) (hc : cs.length ≤ 1000000) (hh : hs.length ≤ 1000000) (hp : ∀ c ∈ cs, c.2.length ≤ 1000000) :
    GCalls Tryz.prog 71 [.map 0 s, .agg (reqG cs hs th gr)] [.map s (kvG encL M)] (fun g O' => ∃ x', O' = [x'] ∧ (g = errV (lackP M cs hs) ∧ x' = .map s (kvG encL M))) := by
  refine GCalls.dropTo ?_
  refine h71.calls mixS (by simp) ?_
  simp only [gstart, s71, List.cons_append, List.nil_append, List.length_cons, List.length_nil, reduceAdd, reduceSub, List.replicate_succ, List.replicate_zero]
  simp +contextual -implicitDefEqProofs (maxSteps := 2000000) (disch := omega) only [↓lenV, binV, ↓unV, ↓loadV, ↓storeV, ↓fieldAddrV, ↓indexAddrV, ↓allocV, ↓boxV, ↓ifaceV, GVal.cells, GVal.ofConst, ↓resV, resG, ↓reduceIte, reduceEqDiff, reduceAdd, reduceSub, reduceLeDiff, reduceCtorEq, ↓lookupV, keyOk, keyCells, pairG, Tag.cap, GVal.solid, Nat.reduceBEq, reduceMul, reduceLT, vcA, ↓vcB, vcC, fbFy, e71, csG_len, vcD]
  refine vcSLoop_by (ι := { k : Nat // k ≤ cs.length ∧ cs.findSome? (fun c => c.2.findSome? (nowhere M 10)) = (cs.drop k).findSome? (fun c => c.2.findSome? (nowhere M 10)) }) (fun k => ⟨[.map 0 s, .any, .any, .ref (reqG cs hs th gr)] ++ List.replicate 12 .any ++ [.slice (csG cs) .none, .int .i64 cs.length, .int .i64 (k.1 : Nat)] ++ List.replicate 42 .any, [.map s (kvG encL M)]⟩) (fun k => cs.length - k.1) ?_ ?_
  · exact Into.first ⟨0, by omega, by simp⟩ ⟨[], by simp⟩ (by simp [WL, leG_self, leG_any, leG_int])
  · rintro ⟨k, hk, hf⟩
    by_cases h : k < cs.length
    · have d0 : ((k : Int) < (cs.length : Int)) = True := eq_true (by omega)
      have eS := csG_at cs k h
      have hx := hp _ (memC h)
      rw [findC h] at hf
      generalize cs.getD k default = x at *
      obtain ⟨xh, xp⟩ := x
      change xp.length ≤ 1000000 at hx
      simp only at hf
      simp +contextual -implicitDefEqProofs (maxSteps := 2000000) (disch := omega) only [↓lenV, binV, ↓unV, ↓loadV, ↓storeV, ↓fieldAddrV, ↓indexAddrV, ↓allocV, ↓boxV, ↓ifaceV, GVal.cells, GVal.ofConst, ↓resV, resG, ↓reduceIte, reduceEqDiff, reduceAdd, reduceSub, reduceLeDiff, reduceCtorEq, ↓lookupV, keyOk, keyCells, pairG, Tag.cap, GVal.solid, Nat.reduceBEq, reduceMul, reduceLT, vcA, ↓vcB, vcC, fbFy, e71, csG_len, hsG_len, comG, kfind_h, d0, eS, vcD, v33, v32]
      refine ⟨by omega, fun u => ?_⟩
      refine vcSLoop_by (ι := { j : Nat // j ≤ xp.length ∧ xp.findSome? (nowhere M 10) = (xp.drop j).findSome? (nowhere M 10) }) (fun j => ⟨[.map 0 s, .any, .any, .ref (reqG cs hs th gr)] ++ List.replicate 12 .any ++ [.slice (csG cs) .none, .int .i64 cs.length, .int .i64 (k : Nat)] ++ List.replicate 4 .any ++ [.slice (hsG xp) .none, .int .i64 xp.length, .int .i64 (j.1 : Nat)] ++ List.replicate 35 .any, [.map s (kvG encL M)]⟩) (fun j => xp.length - j.1) ?_ ?_
      · exact Into.first ⟨0, by omega, by simp⟩ ⟨_, rfl⟩ (by simp [WL, leG_self, leG_any, leG_int])
      · rintro ⟨j, hj, hf2⟩
        by_cases h2 : j < xp.length
        · have d1 : ((j : Int) < (xp.length : Int)) = True := eq_true (by omega)
          have eP := hsG_at xp j h2
          rw [findH h2] at hf2
          generalize xp.getD j h0 = p at *
          cases el : look M p with
          | some l =>
            obtain ⟨i, hi, hv, _⟩ := look_idx encL M p l el
            have en : nowhere M 10 p = none := by unfold nowhere; rw [el]
            rw [en] at hf2
            simp +contextual -implicitDefEqProofs (maxSteps := 2000000) (disch := omega) only [↓lenV, binV, ↓unV, ↓loadV, ↓storeV, ↓fieldAddrV, ↓indexAddrV, ↓allocV, ↓boxV, ↓ifaceV, GVal.cells, GVal.ofConst, ↓resV, resG, ↓reduceIte, reduceEqDiff, reduceAdd, reduceSub, reduceLeDiff, reduceCtorEq, ↓lookupV, keyOk, keyCells, pairG, Tag.cap, GVal.solid, Nat.reduceBEq, reduceMul, reduceLT, vcA, ↓vcB, vcC, fbFy, e71, csG_len, hsG_len, comG, kfind_h, d1, eP, hi, hv, vcD, v33, v32]
            refine ⟨by omega, fun u => ?_⟩
            exact Into.at ⟨j + 1, by omega, hf2⟩ (by show _ < _; simp; omega) ⟨_, rfl⟩ (by simp [WL, leG_self, leG_any, leG_int])
          | none =>
            obtain ⟨hi, _⟩ := look_none encL M p el
            have en : nowhere M 10 p = some (some p, 10) := by unfold nowhere; rw [el]
            rw [en] at hf2
            rw [hf2] at hf
            simp +contextual -implicitDefEqProofs (maxSteps := 2000000) (disch := omega) only [↓lenV, binV, ↓unV, ↓loadV, ↓storeV, ↓fieldAddrV, ↓indexAddrV, ↓allocV, ↓boxV, ↓ifaceV, GVal.cells, GVal.ofConst, ↓resV, resG, ↓reduceIte, reduceEqDiff, reduceAdd, reduceSub, reduceLeDiff, reduceCtorEq, ↓lookupV, keyOk, keyCells, pairG, Tag.cap, GVal.solid, Nat.reduceBEq, reduceMul, reduceLT, vcA, ↓vcB, vcC, fbFy, e71, csG_len, hsG_len, comG, kfind_h, d1, eP, hi, vcD, v33, v32]
            refine ⟨by omega, fun u => ?_⟩
            refine (gOf p 10).then ?_ (by rfl)
            simp +contextual -implicitDefEqProofs (maxSteps := 2000000) (disch := omega) only [↓lenV, binV, ↓unV, ↓loadV, ↓storeV, ↓fieldAddrV, ↓indexAddrV, ↓allocV, ↓boxV, ↓ifaceV, GVal.cells, GVal.ofConst, ↓resV, resG, ↓reduceIte, reduceEqDiff, reduceAdd, reduceSub, reduceLeDiff, reduceCtorEq, ↓lookupV, keyOk, keyCells, pairG, Tag.cap, GVal.solid, Nat.reduceBEq, reduceMul, reduceLT, vcA, ↓vcB, vcC, fbFy, e71, vcD]
            have e : lackP M cs hs = some (some p, 10) := by unfold lackP; rw [hf]
            rw [e]
            exact ⟨_, [.map s (kvG encL M)], _, rfl, leA_refl _, _, rfl, rfl, rfl⟩
        · have d1 : ((j : Int) < (xp.length : Int)) = False := eq_false (by omega)
          rw [List.drop_of_length_le (by omega)] at hf2
          rw [hf2] at hf
          simp +contextual -implicitDefEqProofs (maxSteps := 2000000) (disch := omega) only [↓lenV, binV, ↓unV, ↓loadV, ↓storeV, ↓fieldAddrV, ↓indexAddrV, ↓allocV, ↓boxV, ↓ifaceV, GVal.cells, GVal.ofConst, ↓resV, resG, ↓reduceIte, reduceEqDiff, reduceAdd, reduceSub, reduceLeDiff, reduceCtorEq, ↓lookupV, keyOk, keyCells, pairG, Tag.cap, GVal.solid, Nat.reduceBEq, reduceMul, reduceLT, vcA, ↓vcB, vcC, fbFy, e71, csG_len, hsG_len, comG, kfind_h, d1, vcD, v33, v32]
          exact Into.at ⟨k + 1, by omega, hf⟩ (by show _ < _; simp; omega) ⟨[], by simp⟩ (by simp [WL, leG_self, leG_any, leG_int])
    · have d0 : ((k : Int) < (cs.length : Int)) = False := eq_false (by omega)
      rw [List.drop_of_length_le (by omega)] at hf
      have eL : lackP M cs hs = hs.findSome? (nowhere M 11) := by unfold lackP; rw [hf]; rfl
      rw [eL]
      simp +contextual -implicitDefEqProofs (maxSteps := 2000000) (disch := omega) only [↓lenV, binV, ↓unV, ↓loadV, ↓storeV, ↓fieldAddrV, ↓indexAddrV, ↓allocV, ↓boxV, ↓ifaceV, GVal.cells, GVal.ofConst, ↓resV, resG, ↓reduceIte, reduceEqDiff, reduceAdd, reduceSub, reduceLeDiff, reduceCtorEq, ↓lookupV, keyOk, keyCells, pairG, Tag.cap, GVal.solid, Nat.reduceBEq, reduceMul, reduceLT, vcA, ↓vcB, vcC, fbFy, e71, csG_len, hsG_len, comG, kfind_h, d0, vcD, v33, v32]
      refine vcSLoop_by (ι := { k : Nat // k ≤ hs.length ∧ hs.findSome? (nowhere M 11) = (hs.drop k).findSome? (nowhere M 11) }) (fun k => ⟨[.map 0 s, .any, .any, .ref (reqG cs hs th gr)] ++ List.replicate 39 .any ++ [.slice (hsG hs) th, .int .i64 hs.length, .int .i64 (k.1 : Nat)] ++ List.replicate 15 .any, [.map s (kvG encL M)]⟩) (fun k => hs.length - k.1) ?_ ?_
      · exact Into.first ⟨0, by omega, by simp⟩ ⟨[], by simp⟩ (by simp [WL, leG_self, leG_any, leG_int])
      · rintro ⟨j, hj, hf2⟩
        by_cases h2 : j < hs.length
        · have d1 : ((j : Int) < (hs.length : Int)) = True := eq_true (by omega)
          have eP := hsG_at hs j h2
          rw [findH h2] at hf2
          generalize hs.getD j h0 = p at *
          cases el : look M p with
          | some l =>
            obtain ⟨i, hi, hv, _⟩ := look_idx encL M p l el
            have en : nowhere M 11 p = none := by unfold nowhere; rw [el]
            rw [en] at hf2
            simp +contextual -implicitDefEqProofs (maxSteps := 2000000) (disch := omega) only [↓lenV, binV, ↓unV, ↓loadV, ↓storeV, ↓fieldAddrV, ↓indexAddrV, ↓allocV, ↓boxV, ↓ifaceV, GVal.cells, GVal.ofConst, ↓resV, resG, ↓reduceIte, reduceEqDiff, reduceAdd, reduceSub, reduceLeDiff, reduceCtorEq, ↓lookupV, keyOk, keyCells, pairG, Tag.cap, GVal.solid, Nat.reduceBEq, reduceMul, reduceLT, vcA, ↓vcB, vcC, fbFy, e71, csG_len, hsG_len, comG, kfind_h, d1, eP, hi, hv, vcD, v33, v32]
            refine ⟨by omega, fun u => ?_⟩
            exact Into.at ⟨j + 1, by omega, hf2⟩ (by show _ < _; simp; omega) ⟨_, rfl⟩ (by simp [WL, leG_self, leG_any, leG_int])
          | none =>
            obtain ⟨hi, _⟩ := look_none encL M p el
            have en : nowhere M 11 p = some (some p, 11) := by unfold nowhere; rw [el]
            rw [en] at hf2
            simp +contextual -implicitDefEqProofs (maxSteps := 2000000) (disch := omega) only [↓lenV, binV, ↓unV, ↓loadV, ↓storeV, ↓fieldAddrV, ↓indexAddrV, ↓allocV, ↓boxV, ↓ifaceV, GVal.cells, GVal.ofConst, ↓resV, resG, ↓reduceIte, reduceEqDiff, reduceAdd, reduceSub, reduceLeDiff, reduceCtorEq, ↓lookupV, keyOk, keyCells, pairG, Tag.cap, GVal.solid, Nat.reduceBEq, reduceMul, reduceLT, vcA, ↓vcB, vcC, fbFy, e71, csG_len, hsG_len, comG, kfind_h, d1, eP, hi, vcD, v33, v32]
            refine ⟨by omega, fun u => ?_⟩
            refine (gOf p 11).then ?_ (by rfl)
            simp +contextual -implicitDefEqProofs (maxSteps := 2000000) (disch := omega) only [↓lenV, binV, ↓unV, ↓loadV, ↓storeV, ↓fieldAddrV, ↓indexAddrV, ↓allocV, ↓boxV, ↓ifaceV, GVal.cells, GVal.ofConst, ↓resV, resG, ↓reduceIte, reduceEqDiff, reduceAdd, reduceSub, reduceLeDiff, reduceCtorEq, ↓lookupV, keyOk, keyCells, pairG, Tag.cap, GVal.solid, Nat.reduceBEq, reduceMul, reduceLT, vcA, ↓vcB, vcC, fbFy, e71, vcD]
            rw [hf2]
            exact ⟨_, [.map s (kvG encL M)], _, rfl, leA_refl _, _, rfl, rfl, rfl⟩
        · have d1 : ((j : Int) < (hs.length : Int)) = False := eq_false (by omega)
          rw [List.drop_of_length_le (by omega)] at hf2
          simp +contextual -implicitDefEqProofs (maxSteps := 2000000) (disch := omega) only [↓lenV, binV, ↓unV, ↓loadV, ↓storeV, ↓fieldAddrV, ↓indexAddrV, ↓allocV, ↓boxV, ↓ifaceV, GVal.cells, GVal.ofConst, ↓resV, resG, ↓reduceIte, reduceEqDiff, reduceAdd, reduceSub, reduceLeDiff, reduceCtorEq, ↓lookupV, keyOk, keyCells, pairG, Tag.cap, GVal.solid, Nat.reduceBEq, reduceMul, reduceLT, vcA, ↓vcB, vcC, fbFy, e71, csG_len, hsG_len, comG, kfind_h, d1, vcD, v33, v32]
          rw [hf2]
          exact ⟨_, [.map s (kvG encL M)], [], rfl, leA_refl _, _, rfl, rfl, rfl⟩
end Gv.Tryz
