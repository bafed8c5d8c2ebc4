/- bytes.Compare as a contract; the sort's closure. -/
import Derived.Test.YtppbonmfhgikhaaP8
import Derived.Deep.RegionWith
import Derived.Shelf.Strings.BuilderF
import Derived.Shelf.Strings.BuilderK
import Derived.Test.YtppbonmfhgikhaaProg
import Derived.KernelRfl
import Derived.OpenShut
import Derived.Test.YtppbonmfhgikhaaP7
import Derived.ChangeArms
import Derived.Carry
import Derived.WalkKit
import Derived.BigCall
set_option linter.unusedVariables false
set_option maxRecDepth 100000
namespace Gv.Try
open Go Gv Go.Proofs Go.Shelf Go.RowKit Go.Lib Go.Sort
theorem flat_btsG (s : List UInt8) : (btsG s).flatten = bytesG s := flat_bytes s
theorem lies_of {E : Env} {O : List GObj} {w : World} (h : HSim E O w) {v : Value} {x : List UInt8} {t : Tag} (hv : VR E v (.slice (btsG x) t)) : ∃ a c, v = .slice a x.length c ∧ lies w a x := by
  cases hv with
  | slice a len cap _ _ sz c hlen hcap hsz ha hc ht =>
    rw [btsG_len] at hlen
    subst hlen
    refine ⟨a, cap, rfl, fun hx => ?_⟩
    have hx' : btsG x ≠ [] := by cases x <;> simp_all [btsG]
    obtain ⟨b, off, rfl, hs⟩ := ha hx'
    refine ⟨_, rfl, fun j y hj => ?_⟩
    have hjl : j < x.length := (List.getElem?_eq_some_iff.1 hj).1
    have hsz1 : sz = 1 := by
      cases x with
      | nil => exact absurd rfl hx
      | cons z r => have := hsz [.int .u8 z.toNat] (by simp [btsG]); simpa using this.symm
    have h1 := h.sealed _ _ _ (hs j (by rw [hsz1]; omega))
    have h2 := hc j (.int .u8 y.toNat) (by rw [flat_btsG]; simp [bytesG, hj])
    generalize hw : c j = u at *
    cases h2
    by_cases h0 : j = 0
    · subst h0; simpa [Addr.add] using h1
    · simpa [Addr.add, h0] using h1
theorem hCompare (x y : List UInt8) (t u : Tag) : GPure Try.prog 21 [.slice (btsG x) t, .slice (btsG y) u] (.int .i64 (cmpL x y)) :=
  ⟨by kernel_rfl, fun E w vs hs ha => by
    obtain ⟨h1, h2⟩ := ha
    obtain ⟨a, c, e1, l1⟩ := lies_of hs (h2 0 _ rfl)
    obtain ⟨b, d, e2, l2⟩ := lies_of hs (h2 1 _ rfl)
    have e : vs = #[.slice a x.length c, .slice b y.length d] := by
      rw [← e1, ← e2]
      apply Array.ext (by simpa using h1)
      intro i hi hi2
      have h1' : vs.size = 2 := by simpa using h1
      match i with
      | 0 => simp [Array.getD, h1']
      | 1 => simp [Array.getD, h1']
      | i + 2 => omega
    rw [e]
    exact (calls21 w a b x y c d l1 l2).mono fun e w' ⟨h3, h4⟩ => ⟨_, E, [], _, h3, h4 ▸ hs, h4 ▸ .refl _ _ _, .int _ _, rfl, rfl⟩⟩
theorem lies_heap {w : World} {b : Nat} {X : Array Value} {t : TypeId} {fz : Nat × Nat} {x : List UInt8} (h : w.heap[b]? = some (.cells X t fz)) (hc : ∀ (j : Nat) z, x[j]? = some z → X[j]? = some (.int .u8 z.toNat)) : lies w (some ⟨b, 0, none⟩) x := fun _ =>
  ⟨_, rfl, fun j z hj => by
    have h1 := hc j z hj
    by_cases h0 : j = 0
    · subst h0; simpa [World.cell?, h, Addr.add] using h1
    · simpa [World.cell?, h, Addr.add, h0] using h1⟩
abbrev Hs := { l : List UInt8 // l.length = 32 }
set_option maxHeartbeats 2000000 in
theorem sortClosure (x y : Hs) (W : World) : Calls Try.prog 24 #[.agg (bytesV x.1).toArray, .agg (bytesV y.1).toArray] W fun e w' => e = .returned (.int .i64 (cmpL x.1 y.1)) ∧ ∃ q os', w' = grow (W.drewN q) os' := by
  have hx : (bytesV x.1).toArray.size = 32 := by simp [bytesV, x.2]
  have hy : (bytesV y.1).toArray.size = 32 := by simp [bytesV, y.2]
  have cx : ∀ (j : Nat) z, x.1[j]? = some z → (bytesV x.1).toArray[j]? = some (.int .u8 z.toNat) := fun j z h => by simp [bytesV, h]
  have cy : ∀ (j : Nat) z, y.1[j]? = some z → (bytesV y.1).toArray[j]? = some (.int .u8 z.toNat) := fun j z h => by simp [bytesV, h]
  have lx : x.1.length = 32 := x.2
  have ly : y.1.length = 32 := y.2
  have hcmp : ∀ w a b, lies w a x.1 → lies w b y.1 → Calls Try.prog 21 #[.slice a 32 32, .slice b 32 32] w fun e w' => e = .returned (.int .i64 (cmpL x.1 y.1)) ∧ w' = w := fun w a b h1 h2 => by
    have := calls21 w a b x.1 y.1 32 32 h1 h2
    rwa [lx, ly] at this
  generalize cmpL x.1 y.1 = r at *
  generalize (bytesV x.1).toArray = X at *
  generalize (bytesV y.1).toArray = Y at *
  have hA : ((W.alloc (Obj.cells X 23)).alloc (Obj.cells Y 23)).drew.heap[W.heap.size]? = some (.cells X 23) := by
    show ((W.alloc (Obj.cells X 23)).alloc (Obj.cells Y 23)).heap[W.heap.size]? = _
    rw [Gv.alloc_old _ _ _ (by simp), Gv.alloc_new]
  have hB : ((W.alloc (Obj.cells X 23)).alloc (Obj.cells Y 23)).drew.heap[W.heap.size + 1]? = some (.cells Y 23) := by
    have e : W.heap.size + 1 = (W.alloc (Obj.cells X 23)).heap.size := by simp
    rw [e]
    exact Gv.alloc_new _ _
  have hc := hcmp _ _ _ (lies_heap hA cx) (lies_heap hB cy)
  go_enter Try.func24, Try.ntmps24
  go_wp2
  go_region_with (go_at_call 21; refine hc.mono ?_; rintro e w' ⟨rfl, rfl⟩)
  go_wp2
  go_ret
  exact ⟨rfl, 1, _, by rw [alloc_eq_grow, alloc_eq_grow, grow_grow]; rfl⟩
end Gv.Try
/- slices.SortFunc of hashes by their bytes, as a contract. -/
set_option linter.unusedVariables false
set_option maxRecDepth 100000
namespace Go.Proofs
open Go.Shelf
def Try.sortSp_ren : Go.Shelf.Ren := ⟨fun | 6 => 23 | 15 => 31 | 14 => 30 | 28 => 42 | 29 => 43 | 20 => 34 | 21 => 35 | 22 => 36 | 23 => 37 | 24 => 38 | 25 => 39 | 26 => 40 | 27 => 41 | 46 => 44 | 47 => 45 | 48 => 46 | 49 => 47 | 50 => 48 | 57 => 49 | n => n, fun | 22 => 36 | 24 => 23 | 25 => 55 | 3 => 3 | 39 => 47 | 0 => 0 | 53 => 71 | 55 => 73 | 4 => 4 | 46 => 64 | 45 => 63 | 50 => 68 | 5 => 5 | 9 => 9 | 66 => 74 | 70 => 78 | 76 => 80 | 77 => 81 | n => n, fun | n => n⟩
theorem Try.sortSp : Go.Proofs.SlLaysF0.n6 Try.prog Try.sortSp_ren := {
  mixed := by kernel_rfl
  f6 := ⟨Try.f23.name, by decide, Try.func23.trans (congrArg some (by kernel_rfl))⟩
  f14 := ⟨Try.f30.name, by decide, Try.func30.trans (congrArg some (by kernel_rfl))⟩
  f15 := Try.func31.trans (congrArg some (by kernel_rfl))
  f20 := ⟨Try.f34.name, by decide, Try.func34.trans (congrArg some (by kernel_rfl))⟩
  f21 := ⟨Try.f35.name, by decide, Try.func35.trans (congrArg some (by kernel_rfl))⟩
  f22 := ⟨Try.f36.name, by decide, Try.func36.trans (congrArg some (by kernel_rfl))⟩
  f23 := ⟨Try.f37.name, by decide, Try.func37.trans (congrArg some (by kernel_rfl))⟩
  f24 := ⟨Try.f38.name, by decide, Try.func38.trans (congrArg some (by kernel_rfl))⟩
  f25 := ⟨Try.f39.name, by decide, Try.func39.trans (congrArg some (by kernel_rfl))⟩
  f26 := ⟨Try.f40.name, by decide, Try.func40.trans (congrArg some (by kernel_rfl))⟩
  f27 := ⟨Try.f41.name, by decide, Try.func41.trans (congrArg some (by kernel_rfl))⟩
  f28 := Try.func42.trans (congrArg some (by kernel_rfl))
  f29 := Try.func43.trans (congrArg some (by kernel_rfl))
  f46 := ⟨Try.f44.name, by decide, Try.func44.trans (congrArg some (by kernel_rfl))⟩
  f47 := Try.func45.trans (congrArg some (by kernel_rfl))
  f48 := Try.func46.trans (congrArg some (by kernel_rfl))
  f49 := ⟨Try.f47.name, by decide, Try.func47.trans (congrArg some (by kernel_rfl))⟩
  f50 := ⟨Try.f48.name, by decide, Try.func48.trans (congrArg some (by kernel_rfl))⟩
  f57 := ⟨Try.f49.name, by decide, Try.func49.trans (congrArg some (by kernel_rfl))⟩
  t0 := Try.underlying0
  a0 := Try.isAgg0
  z0 := Try.sizeOf0
  v0 := Try.zeroValue0
  t3 := Try.underlying3
  a3 := Try.isAgg3
  z3 := Try.sizeOf3
  v3 := Try.zeroValue3
  t4 := Try.underlying4
  a4 := Try.isAgg4
  z4 := Try.sizeOf4
  v4 := Try.zeroValue4
  t5 := Try.underlying5
  a5 := Try.isAgg5
  z5 := Try.sizeOf5
  v5 := Try.zeroValue5
  t9 := Try.underlying9
  a9 := Try.isAgg9
  z9 := Try.sizeOf9
  v9 := Try.zeroValue9
  t22 := Try.underlying36
  a22 := Try.isAgg36
  z22 := Try.sizeOf36
  v22 := Try.zeroValue36
  t25 := Try.underlying55
  a25 := Try.isAgg55
  z25 := Try.sizeOf55
  v25 := Try.zeroValue55
  t39 := Try.underlying47
  a39 := Try.isAgg47
  z39 := Try.sizeOf47
  v39 := Try.zeroValue47
  t45 := Try.underlying63
  a45 := Try.isAgg63
  z45 := Try.sizeOf63
  v45 := Try.zeroValue63
  t46 := Try.underlying64
  a46 := Try.isAgg64
  z46 := Try.sizeOf64
  v46 := Try.zeroValue64
  t50 := Try.underlying68
  a50 := Try.isAgg68
  z50 := Try.sizeOf68
  v50 := Try.zeroValue68
  t53 := Try.underlying71
  a53 := Try.isAgg71
  z53 := Try.sizeOf71
  v53 := Try.zeroValue71
  t55 := Try.underlying73
  a55 := Try.isAgg73
  z55 := Try.sizeOf73
  v55 := Try.zeroValue73
  t66 := Try.underlying74
  a66 := Try.isAgg74
  z66 := Try.sizeOf74
  v66 := Try.zeroValue74
  t70 := Try.underlying78
  a70 := Try.isAgg78
  z70 := Try.sizeOf78
  v70 := Try.zeroValue78
  t76 := Try.underlying80
  a76 := Try.isAgg80
  z76 := Try.sizeOf80
  v76 := Try.zeroValue80
  t77 := Try.underlying81
  a77 := Try.isAgg81
  z77 := Try.sizeOf81
  v77 := Try.zeroValue81 }
end Go.Proofs
namespace Gv.Try
open Go Gv Go.Proofs Go.Shelf Go.RowKit Go.Lib Go.Sort
instance : Inhabited Hs := ⟨⟨List.replicate 32 0, by simp⟩⟩
/-- which comes first, byte by byte -/
def ltB : List UInt8 → List UInt8 → Bool
  | [], _ => false
  | _, [] => false
  | x :: a, y :: b => if x = y then ltB a b else decide (x < y)
theorem ba_get (x : UInt8) (a : List UInt8) (i : Nat) : (⟨(x :: a).toArray⟩ : ByteArray)[i + 1]! = (⟨a.toArray⟩ : ByteArray)[i]! := by
  by_cases h : i < a.length
  · rw [getElem!_pos _ _ (by show i + 1 < (x :: a).toArray.size; simp; exact h), getElem!_pos _ _ (by show i < a.toArray.size; simpa using h)]
    exact List.getElem_cons_succ x a i (by simp; exact h)
  · rw [getElem!_neg _ _ (by show ¬ i + 1 < (x :: a).toArray.size; simp; omega), getElem!_neg _ _ (by show ¬ i < a.toArray.size; simpa using h)]
theorem ba_zero (x : UInt8) (a : List UInt8) : (⟨(x :: a).toArray⟩ : ByteArray)[0]! = x := by
  rw [getElem!_pos _ _ (by show 0 < (x :: a).toArray.size; simp)]; rfl
theorem cmpL_cons (x y : UInt8) (a b : List UInt8) : cmpL (x :: a) (y :: b) = if x = y then cmpL a b else if x < y then -1 else 1 := by
  unfold cmpL Extern.BytealgCompare.cmp
  have hs : ∀ l : List UInt8, (⟨l.toArray⟩ : ByteArray).size = l.length := fun l => by simp [ByteArray.size]
  simp only [hs, List.length_cons]
  have e : min (a.length + 1) (b.length + 1) = min a.length b.length + 1 := by omega
  rw [e, List.range_succ_eq_map, List.find?_cons, ba_zero, ba_zero]
  by_cases h : x = y
  · subst h
    simp only [bne_self_eq_false, if_true]
    rw [List.find?_map]
    have e2 : ((fun i => (⟨(x :: a).toArray⟩ : ByteArray)[i]! != (⟨(x :: b).toArray⟩ : ByteArray)[i]!) ∘ Nat.succ) = fun i => (⟨a.toArray⟩ : ByteArray)[i]! != (⟨b.toArray⟩ : ByteArray)[i]! := by
      funext i
      simp only [Function.comp, Nat.succ_eq_add_one, ba_get]
    rw [e2]
    cases hq : (List.range (min a.length b.length)).find? fun i => (⟨a.toArray⟩ : ByteArray)[i]! != (⟨b.toArray⟩ : ByteArray)[i]! with
    | none => simp
    | some i => simp only [Option.map_some, Nat.succ_eq_add_one, ba_get]
  · have : (x != y) = true := by simpa using h
    rw [this, if_neg h]
    simp only [ba_zero]
theorem cmpL_ltB : ∀ (a b : List UInt8), a.length = b.length → (decide (cmpL a b < 0) = ltB a b)
  | [], [], _ => by decide
  | x :: a, [], h => by simp at h
  | [], y :: b, h => by simp at h
  | x :: a, y :: b, h => by
    rw [cmpL_cons]
    unfold ltB
    by_cases e : x = y
    · rw [if_pos e, if_pos e]; exact cmpL_ltB a b (by simpa using h)
    · rw [if_neg e, if_neg e]
      by_cases e2 : x < y
      · rw [if_pos e2, decide_eq_true e2]; rfl
      · rw [if_neg e2, decide_eq_false e2]; rfl
theorem ltB_irrefl : ∀ a, ltB a a = false
  | [] => rfl
  | x :: a => by simp [ltB, ltB_irrefl a]
theorem ltB_trans : ∀ {a b c : List UInt8}, a.length = b.length → b.length = c.length → ltB a b = true → ltB b c = true → ltB a c = true
  | [], b, c, _, _, h, _ => by simp [ltB] at h
  | x :: a, [], c, _, _, h, _ => by simp [ltB] at h
  | x :: a, y :: b, [], _, _, _, h => by simp [ltB] at h
  | x :: a, y :: b, z :: c, l1, l2, h1, h2 => by
    simp at l1 l2
    unfold ltB at *
    by_cases e1 : x = y
    · subst e1
      rw [if_pos rfl] at h1
      by_cases e2 : x = z
      · subst e2
        rw [if_pos rfl] at h2 ⊢
        exact ltB_trans l1 l2 h1 h2
      · rw [if_neg e2] at h2 ⊢; exact h2
    · rw [if_neg e1] at h1
      by_cases e2 : y = z
      · subst e2
        rw [if_neg e1]; exact h1
      · rw [if_neg e2] at h2
        have h3 : x < y := of_decide_eq_true h1
        have h4 : y < z := of_decide_eq_true h2
        have h5 : x < z := UInt8.lt_trans h3 h4
        rw [if_neg (UInt8.ne_of_lt h5)]; exact decide_eq_true h5
theorem ltB_total : ∀ {a b : List UInt8}, a.length = b.length → ltB a b = false → ltB b a = false → a = b
  | [], [], _, _, _ => rfl
  | x :: a, [], l, _, _ => by simp at l
  | [], y :: b, l, _, _ => by simp at l
  | x :: a, y :: b, l, h1, h2 => by
    simp at l
    unfold ltB at h1 h2
    by_cases e : x = y
    · subst e
      rw [if_pos rfl] at h1 h2
      rw [ltB_total l h1 h2]
    · rw [if_neg e] at h1
      rw [if_neg (fun h => e h.symm)] at h2
      have h3 := of_decide_eq_false h1
      have h4 := of_decide_eq_false h2
      exact absurd (UInt8.le_antisymm (UInt8.not_lt.1 h4) (UInt8.not_lt.1 h3)) e
def cfH (x y : Hs) : Int := cmpL x.1 y.1
theorem ltH (x y : Hs) : ltOf cfH x y = ltB x.1 y.1 := by
  have := cmpL_ltB x.1 y.1 (by rw [x.2, y.2])
  unfold ltOf cfH; exact this
theorem swoH : SWO (ltOf cfH) where
  irrefl x := by rw [ltH]; exact ltB_irrefl _
  trans x y z h1 h2 := by rw [ltH] at *; exact ltB_trans (by rw [x.2, y.2]) (by rw [y.2, z.2]) h1 h2
  ntrans x y z h1 h2 := by
    rw [ltH] at *
    cases hxz : ltB x.1 z.1 with
    | false => rfl
    | true =>
      cases hyx : ltB y.1 x.1 with
      | false =>
        have e := ltB_total (by rw [x.2, y.2]) h1 hyx
        rw [e] at hxz
        exact (hxz.symm.trans h2)
      | true => exact (ltB_trans (by rw [y.2, x.2]) (by rw [x.2, z.2]) hyx hxz).symm.trans h2
def hsG (l : List Hs) : List (List GVal) := l.map fun x => bytesG x.1
theorem sSort (xs : List Hs) (hsz : xs.length < 4611686018427387904) {O : List GObj} {o st : Nat} (hO : O[o]? = some (.row st 32 (hsG xs))) (hc : clockOf O = none) :
    GCalls Try.prog 23 [.own o st 0 xs.length, .func (.func 24) [] []] O (fun r O' => r = .tuple [] ∧ ∃ ys : List Hs, ys.Perm xs ∧ ys.Pairwise (fun a b => ltB b.1 a.1 = false) ∧ O' = O.set o (.row st 32 (hsG ys))) := by
  have h := gcalls_sort (α := Hs) Try.sortSp 32 Try.isAgg23 Try.sizeOf23 (fun x => bytesV x.1) (fun x => bytesG x.1) (fun x => by simp [bytesV, x.2])
    (fun x v hv => by simp only [bytesV, List.mem_map] at hv; obtain ⟨c, _, rfl⟩ := hv; rfl) (fun x => by simp [bytesG, x.2])
    (fun E x j g v hg hv => by
      simp only [bytesG, List.getElem?_map] at hg
      simp only [bytesV, List.getElem?_map]
      cases hq : x.1[j]? with
      | none => rw [hq] at hg; cases hg
      | some c => rw [hq] at hg; simp at hg; subst hg; cases hv; rfl)
    (fun E x j g hg => by
      simp only [bytesG, List.getElem?_map] at hg
      simp only [bytesV, List.getElem?_map]
      cases hq : x.1[j]? with
      | none => rw [hq] at hg; cases hg
      | some c => rw [hq] at hg; simp at hg; subst hg; exact ⟨_, rfl, .int _ _⟩)
    cfH swoH 24 (enters_of Try.func24 (by kernel_rfl) rfl) (fun x y W => sortClosure x y W) (by kernel_rfl) xs hsz hO hc
  refine h.mono ?_
  rintro g O' ⟨rfl, ys, h1, h2, rfl⟩
  refine ⟨rfl, ys, h1, h2.imp fun {a b} hab => ?_, rfl⟩
  have := ltH b a
  unfold ltOf at this
  rw [← this]; exact decide_eq_false hab
end Gv.Try
/- strings.Builder, at this program. -/
set_option linter.unusedVariables false
set_option maxRecDepth 100000
namespace Go.Proofs
open Go.Shelf
def Try.lays167_ren : Go.Shelf.Ren := ⟨fun | 167 => 17 | 240 => 27 | 276 => 33 | n => n, fun | 0 => 0 | 4 => 4 | 5 => 5 | 9 => 9 | 20 => 20 | 37 => 43 | 70 => 42 | 72 => 45 | 75 => 26 | 80 => 48 | 164 => 60 | n => n, fun | n => n⟩
theorem Try.lays167 : Go.Proofs.Lays.n167 Try.prog Try.lays167_ren := {
  mixed := by kernel_rfl
  f167 := Try.func17.trans (congrArg some (by kernel_rfl))
  f240 := Try.func27.trans (congrArg some (by kernel_rfl))
  f276 := Try.func33.trans (congrArg some (by kernel_rfl))
  t0 := Try.underlying0
  a0 := Try.isAgg0
  z0 := Try.sizeOf0
  v0 := Try.zeroValue0
  t4 := Try.underlying4
  a4 := Try.isAgg4
  z4 := Try.sizeOf4
  v4 := Try.zeroValue4
  t5 := Try.underlying5
  a5 := Try.isAgg5
  z5 := Try.sizeOf5
  v5 := Try.zeroValue5
  t9 := Try.underlying9
  a9 := Try.isAgg9
  z9 := Try.sizeOf9
  v9 := Try.zeroValue9
  t20 := Try.underlying20
  a20 := Try.isAgg20
  z20 := Try.sizeOf20
  v20 := Try.zeroValue20
  t37 := Try.underlying43
  a37 := Try.isAgg43
  z37 := Try.sizeOf43
  v37 := Try.zeroValue43
  t70 := Try.underlying42
  a70 := Try.isAgg42
  z70 := Try.sizeOf42
  v70 := Try.zeroValue42
  t72 := Try.underlying45
  a72 := Try.isAgg45
  z72 := Try.sizeOf45
  v72 := Try.zeroValue45
  t75 := Try.underlying26
  a75 := Try.isAgg26
  z75 := Try.sizeOf26
  v75 := Try.zeroValue26
  t164 := Try.underlying60
  a164 := Try.isAgg60
  z164 := Try.sizeOf60
  v164 := Try.zeroValue60 }
theorem Try.Builder_Extra_167 : Builder.Extra Try.prog Try.lays167_ren := {
  sizeBuilder := by kernel_rfl
  liesBuilder := by kernel_rfl
  t5 := Try.underlying5
  a5 := Try.isAgg5
  z5 := Try.sizeOf5
  v5 := Try.zeroValue5
  infoByte := by kernel_rfl
  cellsByte := by kernel_rfl
  sizeByte := by kernel_rfl
  neB5 := by decide }
open Go.RowKit in
theorem Try.Builder_WriteByte_k (B b : Nat) (bs : List Value) (c : Int) (w : World) (h : Lib.IsBuilderF 45 5 B b bs w) (hlen : bs.length + 1 ≤ 140737488355328) (hBw : B ≤ w.heap.size) :
    Calls Try.prog 17 #[.pointer (some ⟨b, 0, none⟩), .int .u8 c] w fun e w' => e = .returned .nilIface ∧ (Lib.BuilderAtF 45 5 B b (.pointer (some ⟨b, 0, none⟩)) (bs ++ [.int .u8 c]) w' ∧ Below B w w' ∧ Lib.OthersKept 5 (some b) w w') := Any.Builder_WriteByte_k Try.lays167 Try.Builder_Extra_167 B b bs c w h hlen hBw
def Try.lays169_ren : Go.Shelf.Ren := ⟨fun | 169 => 18 | n => n, fun | 70 => 42 | 9 => 9 | 0 => 0 | 72 => 45 | 37 => 43 | 127 => 57 | 3 => 3 | 5 => 5 | n => n, fun | n => n⟩
theorem Try.lays169 : Go.Proofs.Lays.n169 Try.prog Try.lays169_ren := {
  mixed := by kernel_rfl
  f169 := Try.func18.trans (congrArg some (by kernel_rfl))
  t0 := Try.underlying0
  a0 := Try.isAgg0
  z0 := Try.sizeOf0
  v0 := Try.zeroValue0
  t3 := Try.underlying3
  a3 := Try.isAgg3
  z3 := Try.sizeOf3
  v3 := Try.zeroValue3
  t9 := Try.underlying9
  a9 := Try.isAgg9
  z9 := Try.sizeOf9
  v9 := Try.zeroValue9
  t37 := Try.underlying43
  a37 := Try.isAgg43
  z37 := Try.sizeOf43
  v37 := Try.zeroValue43
  t70 := Try.underlying42
  a70 := Try.isAgg42
  z70 := Try.sizeOf42
  v70 := Try.zeroValue42
  t72 := Try.underlying45
  a72 := Try.isAgg45
  z72 := Try.sizeOf45
  v72 := Try.zeroValue45
  t127 := Try.underlying57
  a127 := Try.isAgg57
  z127 := Try.sizeOf57
  v127 := Try.zeroValue57 }
theorem Try.Builder_Extra_169 : Builder.Extra Try.prog Try.lays169_ren := {
  sizeBuilder := by kernel_rfl
  liesBuilder := by kernel_rfl
  t5 := Try.underlying5
  a5 := Try.isAgg5
  z5 := Try.sizeOf5
  v5 := Try.zeroValue5
  infoByte := by kernel_rfl
  cellsByte := by kernel_rfl
  sizeByte := by kernel_rfl
  neB5 := by decide }
open Go.RowKit in
theorem Try.Builder_String_any_k (B b : Nat) (l : List UInt8) (w : World) (h : Lib.IsBuilderF 45 5 B b (Lib.byteCells l) w) (hBw : B ≤ w.heap.size) :
    Calls Try.prog 18 #[.pointer (some ⟨b, 0, none⟩)] w fun e w' => e = .returned (.string ⟨l.toArray⟩) ∧ (Lib.IsBuilderF 45 5 B b (Lib.byteCells l) w' ∧ Below B w w' ∧ Lib.OthersKept 5 (some b) w w') := Any.Builder_String_any_k Try.lays169 Try.Builder_Extra_169 B b l w h hBw
end Go.Proofs
/- From a reading of plain data (numbers, bools, strings, slices, structs) to what it is without memory. -/
set_option linter.unusedVariables false
namespace Gv
open Go Go.RowKit Go.WideShapes Go.ChangeShapes

/-- all cells that are there are known -/
def Env.all (w : World) : Env := ⟨fun b o => match w.cell? ⟨b, o, none⟩ with
  | some v => if v.oneCell' = true then some v else none
  | none => none, fun _ => none⟩
theorem Env.all_at {w : World} {b o : Nat} {v : Value} (h : w.cell? ⟨b, o, none⟩ = some v) (hv : v.oneCell' = true) : (Env.all w).snap b o = some v := by
  simp [Env.all, h, hv]
theorem HSim.all (w : World) : HSim (Env.all w) [] w := by
  have key : ∀ b o v, (Env.all w).snap b o = some v → w.cell? ⟨b, o, none⟩ = some v ∧ v.oneCell' = true := by
    intro b o v h
    simp only [Env.all] at h
    split at h
    · rename_i x hx
      split at h
      · rename_i hv
        simp only [Option.some.injEq] at h
        subst h
        exact ⟨hx, hv⟩
      · cases h
    · cases h
  exact ⟨⟨0, (fun c hc => by cases hc), fun _ _ => rfl⟩, fun b o v h => (key b o v h).1, fun b o v h => (key b o v h).2, fun i x hx => by simp at hx, fun i j oi oj b _ hi => by simp at hi⟩

/-- a type's shape -/
inductive Sh where
  | int (k : IntKind)
  | bool
  | str
  | slice (e : Sh)
  | agg (l : List Sh)
mutual
def Sh.size : Sh → Nat
  | .agg l => Sh.sizes l
  | _ => 1
def Sh.sizes : List Sh → Nat
  | [] => 0
  | s :: r => s.size + Sh.sizes r
end
mutual
def shB (P : Program) : Sh → TypeId → Bool
  | .int k, t => match P.underlying t with
    | some (.int k') => k = k'
    | _ => false
  | .bool, t => match P.underlying t with
    | some .bool => true
    | _ => false
  | .str, t => match P.underlying t with
    | some .string => true
    | _ => false
  | .slice e, t => match P.underlying t with
    | some (.slice et) => shB P e et && P.cellsOf et == e.size && decide (0 < e.size)
    | _ => false
  | .agg l, t => match P.underlying t with
    | some (.struct fs) => shBs P l fs.toList 0 && P.cellsOf t == Sh.sizes l
    | some (.array n e) => l.length == n && (shAs P l e && P.cellsOf t == Sh.sizes l)
    | _ => false
def shAs (P : Program) : List Sh → TypeId → Bool
  | [], _ => true
  | s :: r, t => P.cellsOf t == s.size && (shB P s t && shAs P r t)
def shBs (P : Program) : List Sh → List Field → Nat → Bool
  | [], [], _ => true
  | s :: r, f :: fs, o => f.offset == o && P.cellsOf f.type == s.size && shB P s f.type && shBs P r fs (o + s.size)
  | _, _, _ => false
end
mutual
/-- what a reading's cells are -/
def Den : Sh → List GVal → Prop
  | .int k, gs => ∃ n, gs = [.int k n] ∧ (Lit.int k n).wf = true
  | .bool, gs => ∃ b, gs = [.bool b]
  | .str, gs => ∃ s, gs = [.str s] ∧ s.length ≤ maxLen
  | .slice e, gs => ∃ xs, gs = [.slice xs .none] ∧ xs.length ≤ maxLen ∧ ∀ x ∈ xs, Den e x
  | .agg l, gs => ∃ ps, gs = ps.flatten ∧ Dens l ps
def Dens : List Sh → List (List GVal) → Prop
  | [], ps => ps = []
  | s :: r, ps => ∃ p q, ps = p :: q ∧ Den s p ∧ Dens r q
end

/-- cells that read as such -/
def CellsOK (w : World) (cs : List Value) (gs : List GVal) : Prop :=
  cs.length = gs.length ∧ (∀ c ∈ cs, c.oneCell' = true) ∧ ∀ (j : Nat) c g, cs[j]? = some c → gs[j]? = some g → VR (Env.all w) c g
theorem CellsOK.one {w : World} {v : Value} {g : GVal} (hv : v.oneCell' = true) (h : VR (Env.all w) v g) : CellsOK w [v] [g] :=
  ⟨rfl, by simpa using hv, fun j c g' h1 h2 => by
    cases j with
    | zero => simp at h1 h2; subst h1; subst h2; exact h
    | succ j => simp at h1⟩
theorem CellsOK.append {w : World} {a b : List Value} {x y : List GVal} (h : CellsOK w a x) (k : CellsOK w b y) : CellsOK w (a ++ b) (x ++ y) := by
  refine ⟨by simp [h.1, k.1], fun c hc => ?_, fun j c g h1 h2 => ?_⟩
  · rcases List.mem_append.1 hc with hc | hc
    · exact h.2.1 c hc
    · exact k.2.1 c hc
  · by_cases hj : j < a.length
    · rw [List.getElem?_append_left hj] at h1
      rw [List.getElem?_append_left (by rw [← h.1]; exact hj)] at h2
      exact h.2.2 j c g h1 h2
    · rw [List.getElem?_append_right (by omega)] at h1
      rw [List.getElem?_append_right (by rw [← h.1]; omega), ← h.1] at h2
      exact k.2.2 _ c g h1 h2

section
variable {H : Type} {enc : TypeId × Value → H} {P : Program} {w : World} {spare : Nat → Bool} {held : Bool}

theorem cells_at {base : Nat} {a : Addr} {n : Nat} {cs : List Value} (h : w.cells? base a n = some cs) : cs.length = n ∧ ∀ j, j < n → w.cell? (a.add j) = cs[j]? := by
  unfold World.cells? at h
  split at h
  · have hl := mapM_some_length h
    refine ⟨by simpa using hl, fun j hj => ?_⟩
    exact mapM_some_get h j j (by simp [hj])
  · cases h

theorem flat_len {α : Type} {sz : Nat} : ∀ {xs : List (List α)}, (∀ x ∈ xs, x.length = sz) → xs.flatten.length = xs.length * sz
  | [], _ => by simp
  | x :: xs, h => by
    rw [List.flatten_cons, List.length_append, h x (by simp), flat_len fun y hy => h y (by simp [hy])]
    simp [Nat.succ_mul, Nat.add_comm]

mutual
theorem rd : ∀ (S : Sh) (n : Nat) (t : TypeId) (cs : List Value) (x : DataW H × List MemPlace), shB P S t = true → DataW.trod enc P w 0 spare held n t cs = some x → ∃ gs, CellsOK w cs gs ∧ Den S gs ∧ cs.length = S.size
  | .int k, n, t, cs, x, hs, h => by
    unfold shB at hs
    split at hs
    · rename_i k' hu
      have hs : k = k' := by simpa using hs
      subst hs
      obtain ⟨m, rfl, _, hwf⟩ := DataW.trod_int hu h
      exact ⟨[.int k m], .one rfl (.int _ _), ⟨m, rfl, hwf⟩, rfl⟩
    · cases hs
  | .bool, n, t, cs, x, hs, h => by
    unfold shB at hs
    split at hs
    · rename_i hu
      obtain ⟨b, rfl, _⟩ := DataW.trod_bool hu h
      exact ⟨[.bool b], .one rfl (.bool _), ⟨b, rfl⟩, rfl⟩
    · cases hs
  | .str, n, t, cs, x, hs, h => by
    unfold shB at hs
    split at hs
    · rename_i hu
      cases n with
      | zero => simp [DataW.trod] at h
      | succ n =>
        unfold DataW.trod at h
        rw [hu] at h
        match cs, h with
        | [.string b], h =>
          simp only at h
          split at h
          · rename_i hl
            refine ⟨[.str b.data.toList], .one rfl ?_, ⟨_, rfl, ?_⟩, rfl⟩
            · exact VR.str (E := Env.all w) b.data.toList
            · simpa using hl
          · cases h
    · cases hs
  | .slice e, n, t, cs, x, hs, h => by
    unfold shB at hs
    split at hs
    · rename_i et hu
      simp only [Bool.and_eq_true, beq_iff_eq] at hs
      obtain ⟨⟨hs, hsz⟩, hpos⟩ := hs
      have hpos : 0 < e.size := by simpa using hpos
      rcases DataW.trod_slice hu h with ⟨rfl, _⟩ | ⟨a, len, cap, elems, rest, m, rfl, rfl, _, _, hlc, hcm, hel, helem, _, _⟩
      · exact ⟨[.slice [] .none], .one rfl (.slice none 0 0 [] .none 0 (fun _ => .bool true) rfl (Nat.le_refl _) (by simp) (fun hx => absurd rfl hx) (by simp) trivial), ⟨[], rfl, by simp, by simp⟩, rfl⟩
      · have each : ∀ i : Nat, ∃ cs gs, i < len → (w.cells? 0 (a.add (i * P.cellsOf et)) (P.cellsOf et)) = some cs ∧ CellsOK w cs gs ∧ Den e gs ∧ cs.length = e.size := by
          intro i
          by_cases hi : i < len
          · have := helem i hi
            rw [← hel] at hi
            rw [List.getElem?_eq_getElem hi, Option.bind_eq_some_iff] at this
            obtain ⟨cs, h1, h2⟩ := this
            obtain ⟨gs, h3, h4, h5⟩ := rd e m et cs _ hs h2
            exact ⟨cs, gs, fun _ => ⟨h1, h3, h4, h5⟩⟩
          · exact ⟨[], [], fun h => absurd h hi⟩
        obtain ⟨C, hC⟩ := Classical.axiomOfChoice each
        obtain ⟨G, hCG⟩ := Classical.axiomOfChoice hC
        refine ⟨[.slice ((List.range len).map G) .none], .one rfl ?_, ⟨_, rfl, by simp; omega, fun x hx => ?_⟩, rfl⟩
        · have hG : ∀ i, i < len → (G i).length = e.size := fun i hi => by rw [← (hCG i hi).2.1.1]; exact (hCG i hi).2.2.2
          have cell : ∀ i, i < len → ∀ j, j < e.size → w.cell? ((a.add (i * e.size)).add j) = (C i)[j]? := fun i hi j hj => by
            have := cells_at (hCG i hi).1
            rw [hsz] at this
            exact this.2 j hj
          have dm : ∀ k, k < len * e.size → k / e.size < len ∧ k % e.size < e.size ∧ k / e.size * e.size + k % e.size = k := fun k hk =>
            ⟨(Nat.div_lt_iff_lt_mul hpos).2 hk, Nat.mod_lt _ hpos, by rw [Nat.mul_comm]; exact Nat.div_add_mod k e.size⟩
          have hszs : ∀ x ∈ (List.range len).map G, x.length = e.size := fun x hx => by
            obtain ⟨i, hi, rfl⟩ := List.mem_map.1 hx
            exact hG i (by simpa using hi)
          refine .slice (some a) len cap _ .none e.size (fun k => ((C (k / e.size))[k % e.size]?).getD (.bool true)) (by simp) hlc hszs (fun hx => ?_) (fun k g hk => ?_) trivial
          · have hlen : 0 < len := by
              rcases Nat.eq_zero_or_pos len with h0 | h0
              · subst h0; simp at hx
              · exact h0
            have in_ : ∀ i, i < len → ∀ j, j < e.size → ∃ v, (C i)[j]? = some v ∧ v.oneCell' = true := fun i hi j hj => by
              have hl : j < (C i).length := by rw [(hCG i hi).2.2.2]; exact hj
              exact ⟨_, List.getElem?_eq_getElem hl, (hCG i hi).2.1.2.1 _ (List.getElem_mem hl)⟩
            obtain ⟨b, off, spot⟩ := a
            have hspot : spot = none := by
              obtain ⟨v, hv, _⟩ := in_ 0 hlen 0 hpos
              have := cell 0 hlen 0 hpos
              rw [hv] at this
              simpa [Addr.add] using World.cell?_spot this
            subst hspot
            refine ⟨b, off, rfl, fun k hk => ?_⟩
            obtain ⟨d1, d2, d3⟩ := dm k hk
            obtain ⟨v, hv, hv2⟩ := in_ _ d1 _ d2
            have := cell _ d1 _ d2
            rw [hv] at this
            rw [hv]
            refine Env.all_at ?_ hv2
            rw [add_at, add_at, Nat.add_assoc, d3] at this
            exact this
          · have hk' : k < len * e.size := by
              have := (List.getElem?_eq_some_iff.1 hk).1
              rw [flat_len hszs] at this
              simpa using this
            obtain ⟨d1, d2, d3⟩ := dm k hk'
            have hx : ((List.range len).map G)[k / e.size]? = some (G (k / e.size)) := by simp [d1]
            have e1 := flatten_at _ hszs (k / e.size) (k % e.size) _ hx d2
            rw [d3, hk] at e1
            have hl : k % e.size < (C (k / e.size)).length := by rw [(hCG _ d1).2.2.2]; exact d2
            rw [List.getElem?_eq_getElem hl]
            exact (hCG _ d1).2.1.2.2 _ _ _ (List.getElem?_eq_getElem hl) e1.symm
        · obtain ⟨i, hi, rfl⟩ := List.mem_map.1 hx
          exact (hCG i (by simpa using hi)).2.2.1
    · cases hs
  | .agg l, n, t, cs, x, hs, h => by
    unfold shB at hs
    split at hs
    · rename_i fs hu
      simp only [Bool.and_eq_true, beq_iff_eq] at hs
      obtain ⟨hs, hsz⟩ := hs
      obtain ⟨xs, m, rfl, rfl, hcl, hxl, hf⟩ := DataW.trod_struct hu h
      obtain ⟨ps, h1, h2⟩ := rds l m fs.toList cs 0 hs (by simpa [hsz] using hcl) (fun f hf' => by
        obtain ⟨i, hi⟩ := List.getElem?_of_mem hf'
        have := hf i f (by simpa using hi)
        have hlt : i < xs.length := by rw [hxl]; simpa using (List.getElem?_eq_some_iff.1 hi).1
        rw [List.getElem?_eq_getElem hlt] at this
        exact ⟨_, this⟩)
      exact ⟨ps.flatten, by simpa using h1, ⟨ps, rfl, h2⟩, by rw [hcl, hsz]; rfl⟩
    · rename_i k et hu
      simp only [Bool.and_eq_true, beq_iff_eq] at hs
      obtain ⟨hlk, hs, hsz⟩ := hs
      obtain ⟨xs, m, rfl, rfl, hcl, hxl, hf⟩ := DataW.trod_array hu h
      obtain ⟨ps, h1, h2⟩ := rda l m et cs hs (by simpa [hsz] using hcl) (fun i hi => by
        have := hf i (by omega)
        rw [List.getElem?_eq_getElem (by omega)] at this
        exact ⟨_, this⟩)
      exact ⟨ps.flatten, h1, ⟨ps, rfl, h2⟩, by rw [hcl, hsz]; rfl⟩
    · cases hs
theorem rda : ∀ (l : List Sh) (n : Nat) (et : TypeId) (cs : List Value), shAs P l et = true → cs.length = Sh.sizes l →
    (∀ i, i < l.length → ∃ x, DataW.trod enc P w 0 spare held n et ((cs.drop (i * P.cellsOf et)).take (P.cellsOf et)) = some x) → ∃ ps, CellsOK w cs ps.flatten ∧ Dens l ps
  | [], n, et, cs, hs, hl, h => by
    have : cs = [] := List.length_eq_zero_iff.1 hl
    subst this
    exact ⟨[], ⟨rfl, by simp, fun j c g h1 => by simp at h1⟩, rfl⟩
  | s :: r, n, et, cs, hs, hl, h => by
    unfold shAs at hs
    simp only [Bool.and_eq_true, beq_iff_eq] at hs
    obtain ⟨h1, h2, h3⟩ := hs
    obtain ⟨x, hx⟩ := h 0 (by simp)
    rw [Nat.zero_mul, List.drop_zero] at hx
    obtain ⟨gs, q1, q2, q3⟩ := rd s n et _ _ h2 hx
    simp only [Sh.sizes] at hl
    obtain ⟨ps, k1, k2⟩ := rda r n et (cs.drop (P.cellsOf et)) h3 (by rw [List.length_drop, hl, h1]; omega) (fun i hi => by
      obtain ⟨y, hy⟩ := h (i + 1) (by simpa using hi)
      rw [List.drop_drop]
      have e : P.cellsOf et + i * P.cellsOf et = (i + 1) * P.cellsOf et := by rw [Nat.succ_mul, Nat.add_comm]
      rw [e]; exact ⟨y, hy⟩)
    refine ⟨gs :: ps, ?_, ⟨gs, ps, rfl, q2, k2⟩⟩
    rw [List.flatten_cons]
    have := q1.append k1
    rwa [List.take_append_drop] at this
theorem rds : ∀ (l : List Sh) (n : Nat) (fs : List Field) (cs : List Value) (o : Nat), shBs P l fs o = true → cs.length = o + Sh.sizes l →
    (∀ f ∈ fs, ∃ x, DataW.trod enc P w 0 spare held n f.type ((cs.drop f.offset).take (P.cellsOf f.type)) = some x) → ∃ ps, CellsOK w (cs.drop o) ps.flatten ∧ Dens l ps
  | [], n, fs, cs, o, hs, hl, h => by
    refine ⟨[], ?_, rfl⟩
    rw [List.drop_eq_nil_of_le (by rw [hl]; simp [Sh.sizes])]
    exact ⟨rfl, by simp, fun j c g h1 => by simp at h1⟩
  | s :: r, n, fs, cs, o, hs, hl, h => by
    match fs, hs, h with
    | f :: fs, hs, h =>
      unfold shBs at hs
      simp only [Bool.and_eq_true, beq_iff_eq] at hs
      obtain ⟨⟨⟨h1, h2⟩, h3⟩, h4⟩ := hs
      obtain ⟨x, hx⟩ := h f (by simp)
      obtain ⟨gs, q1, q2, q3⟩ := rd s n f.type _ _ h3 hx
      simp only [Sh.sizes] at hl
      obtain ⟨ps, k1, k2⟩ := rds r n fs cs (o + s.size) h4 (by rw [hl]; omega) (fun f' hf' => h f' (by simp [hf']))
      refine ⟨gs :: ps, ?_, ⟨gs, ps, rfl, q2, k2⟩⟩
      rw [List.flatten_cons]
      have e : cs.drop o = (cs.drop f.offset).take (P.cellsOf f.type) ++ cs.drop (o + s.size) := by
        rw [h1, h2, ← List.drop_drop]; exact (List.take_append_drop _ _).symm
      rw [e]
      exact q1.append k1
    | [], hs, h => simp [shBs] at hs
end

def Sh.val : Sh → List GVal → GVal
  | .agg _, gs => .agg gs
  | _, gs => gs.headD .any

/-- an argument, from its reading -/
theorem arg_read {S : Sh} {t : TypeId} {r : Reach} {base : Nat} {v : Value} {d : DataW H} {ps : List MemPlace} (hs : shB P S t = true) (hval : Value.okWide P w r base t v) (h : DataW.Trod enc P w 0 spare held t v d ps) :
    ∃ gs, Den S gs ∧ VR (Env.all w) v (S.val gs) := by
  obtain ⟨n, h⟩ := h
  obtain ⟨gs, h1, h2, h3⟩ := rd S n t _ _ hs h
  refine ⟨gs, h2, ?_⟩
  have single : ∀ x : Value, v = x → x.cells.toList = [x] → (∃ g, gs = [g]) → S.val gs = gs.headD .any → VR (Env.all w) v (S.val gs) := by
    intro x hx hc ⟨g, hg⟩ hv
    subst hx; subst hg
    rw [hv]
    rw [hc] at h1
    exact h1.2.2 0 _ _ rfl rfl
  cases S with
  | int k =>
    unfold shB at hs
    split at hs
    · rename_i k' hu
      obtain ⟨n, rfl⟩ := okWide_int hu hval
      obtain ⟨m, e, _⟩ := h2
      exact single _ rfl rfl ⟨_, e⟩ rfl
    · cases hs
  | bool =>
    unfold shB at hs
    split at hs
    · rename_i hu
      obtain ⟨n, rfl⟩ := okWide_bool hu hval
      obtain ⟨m, e⟩ := h2
      exact single _ rfl rfl ⟨_, e⟩ rfl
    · cases hs
  | str =>
    unfold shB at hs
    split at hs
    · rename_i hu
      obtain ⟨n, rfl⟩ := okWide_string hu hval
      obtain ⟨m, e, _⟩ := h2
      exact single _ rfl rfl ⟨_, e⟩ rfl
    · cases hs
  | slice e =>
    unfold shB at hs
    split at hs
    · rename_i et hu
      obtain ⟨a, len, cap, rfl⟩ := okWide_slice hu hval
      obtain ⟨m, e, _⟩ := h2
      exact single _ rfl rfl ⟨_, e⟩ rfl
    · cases hs
  | agg l =>
    unfold shB at hs
    split at hs
    · rename_i fs hu
      obtain ⟨cs, rfl, _⟩ := okWide_struct hu hval
      refine .agg cs gs (by have := h1.1; simpa [Value.cells] using this) (fun j g hj => ?_)
      have hl : j < cs.size := by
        have := (List.getElem?_eq_some_iff.1 hj).1
        rw [← h1.1] at this; simpa [Value.cells] using this
      have := h1.2.2 j cs[j] g (by simp [Value.cells, hl]) hj
      simpa [Array.getD, hl] using this
    · rename_i n e hu
      obtain ⟨cs, rfl⟩ : ∃ cs : Array Value, v = .agg cs := by
        simp only [Value.okWide, hu] at hval
        obtain ⟨cs, h1, _⟩ := hval
        exact ⟨cs, h1⟩
      refine .agg cs gs (by have := h1.1; simpa [Value.cells] using this) (fun j g hj => ?_)
      have hl : j < cs.size := by
        have := (List.getElem?_eq_some_iff.1 hj).1
        rw [← h1.1] at this; simpa [Value.cells] using this
      have := h1.2.2 j cs[j] g (by simp [Value.cells, hl]) hj
      simpa [Array.getD, hl] using this
    · cases hs

/-- the call of a law whose arguments are read -/
theorem GPure.lawAt {P : Program} {f : FuncId} {args : Array Value} {gs : List GVal} {w : World} (h : GPure P f gs (.bool true)) (ha : ArgsR (Env.all w) args gs) :
    Calls P f args w fun e w' => e = .returned (.bool true) ∧ Old w w' := by
  refine (h.2 (Env.all w) w args (HSim.all w) ha).mono ?_
  rintro e w' ⟨v, E', O', g, rfl, h1, h2, h3, rfl, rfl⟩
  cases h3
  exact ⟨rfl, h2.old⟩
theorem ArgsR.nil {E : Env} : ArgsR E #[] [] := ⟨rfl, fun i g h => by simp at h⟩
theorem ArgsR.one {E : Env} {v : Value} {g : GVal} (h : VR E v g) : ArgsR E #[v] [g] := ⟨rfl, fun i g' hg => by
  cases i with
  | zero => simp at hg; subst hg; exact h
  | succ i => simp at hg⟩

/-- what was read reads so behind the call -/
theorem Old.trod {W W' : World} {t : TypeId} {v : Value} {d : DataW H} {ps : List MemPlace} (hl : laidOutB P = true) (hr : P.readableRec t = true) (hrow : t < P.types.size) (hb : Old W W') {sp : Nat → Bool}
    (h : DataW.Trod enc P W 0 (fun _ => true) true t v d ps) (hlt : ∀ x ∈ ps, x.block < W.heap.size) (hs : ∀ x ∈ ps, sp x.block = true) : DataW.Trod enc P W' 0 sp true t v d ps :=
  WideElems.Trod_stays hl hr hrow h (fun x hx => by
    have hp := hlt x hx
    cases x with
    | cell b o => exact World.cell?_of_block (w := W) (hb.block b hp)
    | map b => exact hb.block b hp) hs
end
end Gv
/- Loads of a whole array, one step. -/
set_option linter.unusedVariables false
set_option maxRecDepth 100000
namespace Gv.Try
open Go Gv Go.Proofs Go.RowKit
theorem agg_of_bytes {E : Env} {v : Value} {l : List UInt8} (h : VR E v (.agg (bytesG l))) : v = .agg (bytesV l).toArray := by
  have := argsR_agg (E := E) (vs := #[v]) (l := l) ⟨rfl, fun i g hg => by
    match i with
    | 0 => simp at hg; subst hg; simpa using h
    | i + 1 => simp at hg⟩
  simpa using this
theorem load32 {w : World} {b : Nat} {t : TypeId} {fz : Nat × Nat} {l : List UInt8} (hl : l.length = 32) (h : w.heap[b]? = some (.cells (bytesV l).toArray t fz)) : (Instr.loadAt 23 (.pointer (some ⟨b, 0, none⟩))).run Try.prog w = .ok (.agg (bytesV l).toArray) w := by
  have hr : VR (Env.all w) (.pointer (some ⟨b, 0, none⟩)) (.ref (bytesG l)) := by
    refine .ref b 0 _ (fun j => .int .u8 (l.getD j 0).toNat) (fun j hj => ?_) (fun j g hj => ?_)
    · have hj' : j < l.length := by simpa [bytesG] using hj
      refine Env.all_at ?_ rfl
      simp [World.cell?, h, bytesV, hj', List.getD]
    · simp only [bytesG, List.getElem?_map] at hj
      cases hq : l[j]? with
      | none => rw [hq] at hj; cases hj
      | some c => rw [hq] at hj; simp at hj; subst hj; simp [List.getD, hq]; exact .int _ _
  have ht : tab Try.prog 23 = some (32, true) := by kernel_rfl
  obtain ⟨v, g', h1, h2, h3⟩ := load_val (P := Try.prog) (t := 23) (K := fun g => g = .agg (bytesG l)) (HSim.all w) hr (by
    unfold loadV
    rw [ht]
    refine ⟨by decide, ?_⟩
    simp only []
    refine ⟨by simp [bytesG, hl], ?_⟩
    rw [List.take_of_length_le (by simp [bytesG, hl])]; rfl)
  subst h3
  rw [h1, agg_of_bytes h2]
theorem wpList_load {P : Program} {ops : Array Oper} {rest : List Oper} {o : Oper} {a : Act} {w : World} {Q : Exit → Act → World → Prop} {t : TypeId} {x : Operand} {v : Value} (hgd : o.guard = none) (ho : o.op = .load t x)
    (hr : (Instr.loadAt t (a.eval x)).run P w = .ok v w) (h : wpList P ops Q rest (a.put o.dst v) w) : wpList P ops Q (o :: rest) a w := by
  refine wpList_plain hgd fun K hK => ?_
  unfold Oper.wp execOp
  simp only [ho, Sem.run_bind, Sem.run_pure, Result.andThen_ok, hr]
  exact hK _ _ h
theorem wpList_index {P : Program} {ops : Array Oper} {rest : List Oper} {o : Oper} {a : Act} {w : World} {Q : Exit → Act → World → Prop} {t : TypeId} {x i : Operand} {v : Value} (hgd : o.guard = none) (ho : o.op = .index t x i)
    (hr : (Instr.index t (a.eval x) (a.eval i)).run P w = .ok v w) (h : wpList P ops Q rest (a.put o.dst v) w) : wpList P ops Q (o :: rest) a w := by
  refine wpList_plain hgd fun K hK => ?_
  unfold Oper.wp execOp
  simp only [ho, Sem.run_bind, Sem.run_pure, Result.andThen_ok, hr]
  exact hK _ _ h
theorem index32 {w : World} {l : List UInt8} (hl : l.length = 32) (k : Nat) (hk : k < 32) : (Instr.index 23 (.agg (bytesV l).toArray) (.int .i64 k)).run Try.prog w = .ok (.int .u8 (l.getD k 0).toNat) w := by
  have hr : VR (Env.all w) (.agg (bytesV l).toArray) (.agg (bytesG l)) := .agg _ _ (by simp [bytesV, bytesG]) fun j g hj => by
    simp only [bytesG, List.getElem?_map] at hj
    cases hq : l[j]? with
    | none => rw [hq] at hj; cases hj
    | some c => rw [hq] at hj; simp at hj; subst hj; simp [bytesV, hq]; exact .int _ _
  have ha : arr Try.prog 23 = some (32, 1, false) := by kernel_rfl
  obtain ⟨e, hu, ht⟩ := arr_spec ha
  have g1 : ((bytesG l).drop (k * 1)).take 1 = [.int .u8 (l.getD k 0).toNat] := by
    rw [Nat.mul_one, List.drop_eq_getElem_cons (by rw [bytesG_len]; omega)]
    simp [bytesG, List.getD, hl, hk]
  obtain ⟨v, hrun, hv⟩ := part_run (P := Try.prog) (w := w) (E := Env.all w) ht (fun _ => rfl) hr (off := k * 1) (by rw [bytesG_len]; omega)
  rw [g1] at hv
  have hv2 : v = .int .u8 (l.getD k 0).toNat := by
    generalize hq : grp false [GVal.int .u8 (l.getD k 0).toNat] = q at hv
    have : q = .int .u8 (l.getD k 0).toNat := by rw [← hq]; rfl
    subst this
    cases hv; rfl
  rw [hv2] at hrun
  simp [Instr.index, run_underlying hu, asIntOf, (tab_spec ht w).1, hk] 
  rw [Nat.mul_one] at hrun
  simpa [List.getD, hl, hk] using hrun
def hexd (n : Nat) : UInt8 := ([48, 49, 50, 51, 52, 53, 54, 55, 56, 57, 97, 98, 99, 100, 101, 102] : List UInt8).getD n 0
theorem indexHex {w : World} (n : Nat) (hn : n < 16) : (Instr.index 9 (.string { data := #[48, 49, 50, 51, 52, 53, 54, 55, 56, 57, 97, 98, 99, 100, 101, 102] }) (.int .u8 n)).run Try.prog w = .ok (.int .u8 (hexd n).toNat) w := by
  match n, hn with
  | 0, _ | 1, _ | 2, _ | 3, _ | 4, _ | 5, _ | 6, _ | 7, _ | 8, _ | 9, _ | 10, _ | 11, _ | 12, _ | 13, _ | 14, _ | 15, _ => rfl
  | n + 16, h => omega
end Gv.Try
/- hex.Text: the walk. -/
set_option linter.unusedVariables false
set_option maxRecDepth 1000000
namespace Gv.Try
open Go Gv Go.Proofs Go.RowKit
def textL (l : List UInt8) : List UInt8 := l.flatMap fun c => [hexd (c.toNat / 16), hexd (c.toNat % 16)]
set_option maxHeartbeats 4000000 in
theorem textWalk (l : List UInt8) (hl : l.length = 32) (w : World) :
    Calls Try.prog 6 #[.agg (bytesV l).toArray] w fun e w' => e = .returned (.string ⟨(textL l).toArray⟩) ∧ Below w.heap.size w w' := by
  have h16 : (4 : Int).toNat = 4 := rfl
  have hX : ∃ X, X = (bytesV l).toArray := ⟨_, rfl⟩
  obtain ⟨X, eX⟩ := hX
  have hx : X.size = 32 := by rw [eX]; simp [bytesV, hl]
  have hld : (Instr.loadAt 23 (.pointer (some ⟨w.heap.size, 0, none⟩))).run Try.prog ((w.alloc (Obj.cells X 23)).alloc (Obj.cells #[Value.pointer none, Value.slice none 0 0] 45)) = .ok (.agg X) ((w.alloc (Obj.cells X 23)).alloc (Obj.cells #[Value.pointer none, Value.slice none 0 0] 45)) := by
    rw [eX]
    exact load32 hl (t := 23) (fz := (0, 0)) (by rw [Gv.alloc_old _ _ _ (by simp), Gv.alloc_new])
  have hix : ∀ (W : World) (k : Nat), k < 32 → (Instr.index 23 (.agg X) (.int .i64 k)).run Try.prog W = .ok (.int .u8 (l.getD k 0).toNat) W := fun W k h => by rw [eX]; exact index32 hl k h
  rw [← eX]
  clear eX
  go_enter Try.func6, Try.ntmps6
  go_wp2_with (refine wpList_load rfl rfl hld ?_)
  go_loopw [7] (fun i wr => ∃ (k : Nat) (acc : List UInt8), k ≤ 32 ∧ i = .int .i64 k ∧ Lib.IsBuilderF 45 5 w.heap.size (w.heap.size + 1) (Lib.byteCells acc) wr ∧ Below w.heap.size w wr ∧ Hid (acc = textL (l.take k)) ∧ acc.length = 2 * k) (fun i wr => 32 - (RowKit.intOf i).toNat)
  case atStart =>
    refine ⟨0, [], by omega, rfl, ?_, ?_, rfl, rfl⟩
    · refine Or.inl ⟨by omega, .slice none 0 0, ?_, ⟨rfl, Or.inl ⟨rfl, rfl⟩⟩, by simp [Value.ownBlock]⟩
      have e : w.heap.size + 1 = (w.alloc (Obj.cells X 23)).heap.size := by simp
      rw [e]
      exact Gv.alloc_new _ _
    · exact ((Below.refl _ w).alloc (Nat.le_refl _) _).alloc (by simp) _
  case round =>
    obtain ⟨k, acc, hk, rfl, hI, hbw, hacc, hal⟩ := hrel
    by_cases h : k < 32
    · obtain ⟨c, ec⟩ : ∃ c, l.getD k 0 = c := ⟨_, rfl⟩
      have hi1 := fun W => hix W k h
      rw [ec] at hi1
      have hc := c.toNat_lt
      have hs1 : ∀ W : World, (Instr.index 9 (.string { data := #[48, 49, 50, 51, 52, 53, 54, 55, 56, 57, 97, 98, 99, 100, 101, 102] }) (.int .u8 ((c.toNat : Int) / 16))).run Try.prog W = .ok (.int .u8 (hexd (c.toNat / 16)).toNat) W := fun W => by
        have := indexHex (w := W) (c.toNat / 16) (by omega)
        rw [Int.natCast_ediv] at this
        exact this
      have hI1 : Lib.IsBuilderF 45 5 w.heap.size (w.heap.size + 1) (Lib.byteCells acc) wr := hI
      go_wp2_with (first | (refine wpList_index rfl rfl (hi1 _) ?_) | (refine wpList_index rfl rfl (hs1 _) ?_) | (go_at_call 17; refine (Try.Builder_WriteByte_k w.heap.size (w.heap.size + 1) (Lib.byteCells acc) _ wr hI1 (by rw [Lib.byteCells_length]; omega) hbw.size).mono ?_))
      rintro e W1 ⟨rfl, h1, b1, k1⟩
      have hI2 : Lib.IsBuilderF 45 5 w.heap.size (w.heap.size + 1) (Lib.byteCells (acc ++ [hexd (c.toNat / 16)])) W1 := by rw [Lib.byteCells_append]; exact Or.inr h1
      have hbw2 := hbw.trans b1
      have hs2 : ∀ W : World, (Instr.index 9 (.string { data := #[48, 49, 50, 51, 52, 53, 54, 55, 56, 57, 97, 98, 99, 100, 101, 102] }) (.int .u8 ((c.toNat : Int) % 16))).run Try.prog W = .ok (.int .u8 (hexd (c.toNat % 16)).toNat) W := fun W => by
        have := indexHex (w := W) (c.toNat % 16) (by omega)
        rw [Int.natCast_emod] at this
        exact this
      go_wp2_with (first | (refine wpList_index rfl rfl (hs2 _) ?_) | (go_at_call 17; refine (Try.Builder_WriteByte_k w.heap.size (w.heap.size + 1) (Lib.byteCells (acc ++ [hexd (c.toNat / 16)])) _ W1 hI2 (by rw [Lib.byteCells_length]; simp; omega) hbw2.size).mono ?_))
      rintro e W2 ⟨rfl, h2, b2, k2⟩
      go_wp2
      go_roundw
      case rel =>
        refine ⟨k + 1, acc ++ [hexd (c.toNat / 16)] ++ [hexd (c.toNat % 16)], by omega, by go_num, ?_, hbw2.trans b2, ?_, by simp; omega⟩
        · rw [Lib.byteCells_append]; exact Or.inr h2
        · show acc ++ [hexd (c.toNat / 16)] ++ [hexd (c.toNat % 16)] = textL (l.take (k + 1))
          have h3 : acc = textL (l.take k) := hacc
          have h4 : l.take (k + 1) = l.take k ++ [c] := by rw [List.take_add_one, ← ec]; simp [List.getD, hl, h]
          rw [h4, textL, List.flatMap_append, ← textL, ← h3]; simp
      case measure => simp [RowKit.intOf]; omega
    · obtain rfl : k = 32 := by omega
      go_wp2_with (go_at_call 18; refine (Try.Builder_String_any_k w.heap.size (w.heap.size + 1) acc wr hI hbw.size).mono ?_)
      rintro e W1 ⟨rfl, _, b1, _⟩
      go_wp2
      go_ret
      have h3 : acc = textL (l.take 32) := hacc
      rw [List.take_of_length_le (by omega)] at h3
      rw [h3]
      exact ⟨rfl, hbw.trans b1⟩
theorem hText (l : List UInt8) (hl : l.length = 32) : GPure Try.prog 6 [.agg (bytesG l)] (.str (textL l)) :=
  GPure.ofBelow (by kernel_rfl) fun E w vs hs ha => by
    rw [argsR_agg ha]
    exact (textWalk l hl w).mono fun e w' ⟨h1, h2⟩ => ⟨_, h1, h2, .str _⟩
end Gv.Try
/- Contracts: Less, Begins, known, Pick. -/
set_option linter.unusedVariables false
set_option linter.unusedSimpArgs false
set_option maxRecDepth 20000
set_option maxHeartbeats 4000000
namespace Gv.Try
open Go Gv Go.Proofs
theorem btsG_map (a : List UInt8) (h : a.length = 32) : List.map (fun c => [c]) (List.take 32 (bytesG a)) = btsG a := by
  rw [List.take_of_length_le (by rw [bytesG_len]; omega)]
  simp [bytesG, btsG]
theorem sol_bytes : ∀ l : List UInt8, allSolid (bytesG l) = True
  | [] => eq_true trivial
  | c :: r => by have := sol_bytes r; simp only [bytesG, List.map_cons, allSolid, GVal.solid, true_and]; exact this
theorem take_bts (a : List UInt8) (h : a.length = 32) : List.drop (Int.toNat 0) (List.take (Int.toNat 32) (btsG a)) = btsG a := by
  have e : Int.toNat 32 = 32 := rfl
  rw [e, Int.toNat_zero, List.drop_zero, List.take_of_length_le (by rw [btsG_len]; omega)]
theorem hLess (a b : List UInt8) (ha : a.length = 32) (hb : b.length = 32) : GPure Try.prog 12 [.agg (bytesG a), .agg (bytesG b)] (.bool (ltB a b)) := by
  refine h12.pure mixS (by simp) ?_
  simp only [gstart, s12, List.cons_append, List.nil_append, List.length_cons, List.length_nil, Nat.reduceAdd, Nat.reduceSub, List.replicate_succ, List.replicate_zero]
  have la := bytesG_len a
  have lb := bytesG_len b
  simp +contextual -implicitDefEqProofs (maxSteps := 2000000) (disch := omega) only [drawC, binV, optV, ↓boxV, ↓sliceV, bound, cutTag, hiTag, GVal.cells, grp, GVal.ofConst, ↓resV, resG, List.map, List.headD, List.take, List.drop, ↓reduceIte, Nat.reduceEqDiff, Nat.reduceAdd, Nat.reduceSub, Nat.reduceLeDiff, reduceCtorEq, implies_true, ne_eq, Tag.cap, List.replicate, allSolid, GVal.solid, Nat.reduceBEq, Nat.reduceMul, Nat.reduceLT, List.length_map, List.length_range, splice, vcA, ↓vcB, vcC, aggT23, arr23, els43, elt43, notInt23, notInt3, notInt43, notInt5, tab23, tab3, tab43, tab5, und23, und3, und4, und43, und5, zer23, e12, btsG_map a ha, btsG_map b hb, btsG_len, sol_bytes, take_bts a ha, take_bts b hb]
  refine ⟨by omega, by omega, by omega, by omega, by omega, by omega, by omega, by omega, ?_⟩
  refine (hCompare a b _ _).then ?_ (by rfl)
  simp +contextual -implicitDefEqProofs (maxSteps := 2000000) (disch := omega) only [drawC, binV, optV, ↓boxV, ↓sliceV, bound, cutTag, hiTag, GVal.cells, grp, GVal.ofConst, ↓resV, resG, List.map, List.headD, List.take, List.drop, ↓reduceIte, Nat.reduceEqDiff, Nat.reduceAdd, Nat.reduceSub, Nat.reduceLeDiff, reduceCtorEq, implies_true, ne_eq, Tag.cap, List.replicate, allSolid, GVal.solid, Nat.reduceBEq, Nat.reduceMul, Nat.reduceLT, List.length_map, List.length_range, splice, vcA, ↓vcB, vcC, aggT23, arr23, els43, elt43, notInt23, notInt3, notInt43, notInt5, tab23, tab3, tab43, tab5, und23, und3, und4, und43, und5, zer23, e12]
  rw [← cmpL_ltB a b (by omega)]
theorem tmod_pick (n m : Int) (hm : 0 < m) : (n.tmod m < 0 → n.tmod m + m = n % m) ∧ (0 ≤ n.tmod m → n.tmod m = n % m) := by
  have h := Int.tmod_eq_emod (a := n) (b := m)
  have h1 := Int.emod_nonneg n (by omega : m ≠ 0)
  have h2 := Int.emod_lt_of_pos n hm
  split at h <;> rename_i h3
  · simp at h; omega
  · have : m ∣ n ↔ n % m = 0 := Int.dvd_iff_emod_eq_zero
    have : n % m ≠ 0 := fun e => h3 (.inr (this.2 e))
    omega
theorem sPick (n m : Int) (hm : 0 < m) (hm2 : m ≤ 1000000000) : GPure Try.prog 11 [.int .i64 n, .int .i64 m] (.int .i64 (n % m)) := by
  refine h11.pure mixS (by simp) ?_
  simp only [gstart, s11, List.cons_append, List.nil_append, List.length_cons, List.length_nil, Nat.reduceAdd, Nat.reduceSub, List.replicate_succ, List.replicate_zero]
  simp +contextual -implicitDefEqProofs (maxSteps := 2000000) (disch := omega) only [binV, GVal.cells, grp, GVal.ofConst, ↓resV, resG, List.map, List.headD, List.take, List.drop, ↓reduceIte, Nat.reduceEqDiff, Nat.reduceAdd, Nat.reduceSub, Nat.reduceLeDiff, reduceCtorEq, implies_true, ne_eq, Tag.cap, List.replicate, allSolid, GVal.solid, Nat.reduceBEq, Nat.reduceMul, Nat.reduceLT, List.length_map, List.length_range, splice, vcA, ↓vcB, vcC, notInt3, notInt5, notInt9, tab3, tab5, und3, und4, und5, und9, e11]
  obtain ⟨h1, h2⟩ := tmod_pick n m hm
  have h3 := Int.emod_nonneg n (by omega : m ≠ 0)
  have h4 := Int.emod_lt_of_pos n hm
  exact ⟨by omega, fun h => by rw [h1 h, norm_i64 (by omega)], h2⟩
theorem textL_len (l : List UInt8) : (textL l).length = 2 * l.length := by
  induction l with
  | nil => rfl
  | cons c r ih => rw [textL, List.flatMap_cons, ← textL, List.length_append, ih]; simp; omega
theorem hBegins (a p : List UInt8) (ha : a.length = 32) (hp : p.length ≤ 9223372036854775807) : GPure Try.prog 10 [.agg (bytesG a), .str p] (.bool (decide ((textL a).take p.length = p))) := by
  refine h10.pure mixS (by simp) ?_
  simp only [gstart, s10, List.cons_append, List.nil_append, List.length_cons, List.length_nil, Nat.reduceAdd, Nat.reduceSub, List.replicate_succ, List.replicate_zero]
  have la := bytesG_len a
  have ta : List.take 32 (bytesG a) = bytesG a := List.take_of_length_le (by omega)
  simp +contextual -implicitDefEqProofs (maxSteps := 2000000) (disch := omega) only [↓loadV, ↓boxV, GVal.cells, grp, GVal.ofConst, ↓resV, resG, List.map, List.headD, List.take, List.drop, ↓reduceIte, Nat.reduceEqDiff, Nat.reduceAdd, Nat.reduceSub, Nat.reduceLeDiff, reduceCtorEq, implies_true, ne_eq, Tag.cap, List.replicate, allSolid, GVal.solid, Nat.reduceBEq, Nat.reduceMul, Nat.reduceLT, List.length_map, List.length_range, splice, vcA, ↓vcB, vcC, aggT23, arr23, notInt23, notInt5, notInt9, tab23, tab5, und23, und4, und5, und9, zer23, e10, ta, sol_bytes]
  refine ⟨by omega, ?_⟩
  refine (hText a ha).then ?_ (by rfl)
  simp +contextual -implicitDefEqProofs (maxSteps := 2000000) (disch := omega) only [↓loadV, ↓boxV, GVal.cells, grp, GVal.ofConst, ↓resV, resG, List.map, List.headD, List.take, List.drop, ↓reduceIte, Nat.reduceEqDiff, Nat.reduceAdd, Nat.reduceSub, Nat.reduceLeDiff, reduceCtorEq, implies_true, ne_eq, Tag.cap, List.replicate, allSolid, GVal.solid, Nat.reduceBEq, Nat.reduceMul, Nat.reduceLT, List.length_map, List.length_range, splice, vcA, ↓vcB, vcC, aggT23, arr23, notInt23, notInt5, notInt9, tab23, tab5, und23, und4, und5, und9, zer23, e10]
  refine (hHasPrefix (textL a) p (by rw [textL_len]; omega) hp).then ?_ (by rfl)
  simp +contextual -implicitDefEqProofs (maxSteps := 2000000) (disch := omega) only [↓loadV, ↓boxV, GVal.cells, grp, GVal.ofConst, ↓resV, resG, List.map, List.headD, List.take, List.drop, ↓reduceIte, Nat.reduceEqDiff, Nat.reduceAdd, Nat.reduceSub, Nat.reduceLeDiff, reduceCtorEq, implies_true, ne_eq, Tag.cap, List.replicate, allSolid, GVal.solid, Nat.reduceBEq, Nat.reduceMul, Nat.reduceLT, List.length_map, List.length_range, splice, vcA, ↓vcB, vcC, aggT23, arr23, notInt23, notInt5, notInt9, tab23, tab5, und23, und4, und5, und9, zer23, e10]
theorem hKnown : GPure Try.prog 8 [] (.bool true) := by
  refine h8.pure mixS (by simp) ?_
  simp only [gstart, s8, List.cons_append, List.nil_append, List.length_cons, List.length_nil, Nat.reduceAdd, Nat.reduceSub, List.replicate_succ, List.replicate_zero]
  simp +contextual -implicitDefEqProofs (maxSteps := 2000000) (disch := omega) only [binV, ↓unV, GVal.cells, grp, GVal.ofConst, ↓resV, resG, List.map, List.headD, List.take, List.drop, ↓reduceIte, Nat.reduceEqDiff, Nat.reduceAdd, Nat.reduceSub, Nat.reduceLeDiff, reduceCtorEq, implies_true, ne_eq, aggV, Tag.cap, List.replicate, allSolid, GVal.solid, Nat.reduceBEq, Nat.reduceMul, Nat.reduceLT, List.length_map, List.length_range, splice, vcA, ↓vcB, vcC, notInt3, notInt5, notInt9, tab3, tab5, und3, und4, und5, und9, e8]
  refine (hIsPrefix [100, 101, 97, 100] (by simp)).then ?_ (by rfl)
  have e1 : isPre [100, 101, 97, 100] = true := by decide
  rw [e1]
  simp +contextual -implicitDefEqProofs (maxSteps := 2000000) (disch := omega) only [binV, ↓unV, GVal.cells, grp, GVal.ofConst, ↓resV, resG, List.map, List.headD, List.take, List.drop, ↓reduceIte, Nat.reduceEqDiff, Nat.reduceAdd, Nat.reduceSub, Nat.reduceLeDiff, reduceCtorEq, implies_true, ne_eq, aggV, Tag.cap, List.replicate, allSolid, GVal.solid, Nat.reduceBEq, Nat.reduceMul, Nat.reduceLT, List.length_map, List.length_range, splice, vcA, ↓vcB, vcC, notInt3, notInt5, notInt9, tab3, tab5, und3, und4, und5, und9, e8]
  refine (hIsPrefix [68, 101, 97, 100] (by simp)).then ?_ (by rfl)
  have e2 : isPre [68, 101, 97, 100] = false := by decide
  rw [e2]
  simp +contextual -implicitDefEqProofs (maxSteps := 2000000) (disch := omega) only [binV, ↓unV, GVal.cells, grp, GVal.ofConst, ↓resV, resG, List.map, List.headD, List.take, List.drop, ↓reduceIte, Nat.reduceEqDiff, Nat.reduceAdd, Nat.reduceSub, Nat.reduceLeDiff, reduceCtorEq, implies_true, ne_eq, aggV, Tag.cap, List.replicate, allSolid, GVal.solid, Nat.reduceBEq, Nat.reduceMul, Nat.reduceLT, List.length_map, List.length_range, splice, vcA, ↓vcB, vcC, notInt3, notInt5, notInt9, tab3, tab5, und3, und4, und5, und9, e8]
  refine (hIsPrefix [] (by simp)).then ?_ (by rfl)
  have e3 : isPre [] = false := by decide
  rw [e3]
  simp +contextual -implicitDefEqProofs (maxSteps := 2000000) (disch := omega) only [binV, ↓unV, GVal.cells, grp, GVal.ofConst, ↓resV, resG, List.map, List.headD, List.take, List.drop, ↓reduceIte, Nat.reduceEqDiff, Nat.reduceAdd, Nat.reduceSub, Nat.reduceLeDiff, reduceCtorEq, implies_true, ne_eq, aggV, Tag.cap, List.replicate, allSolid, GVal.solid, Nat.reduceBEq, Nat.reduceMul, Nat.reduceLT, List.length_map, List.length_range, splice, vcA, ↓vcB, vcC, notInt3, notInt5, notInt9, tab3, tab5, und3, und4, und5, und9, e8]
  refine (hDigit 97 (by omega)).then ?_ (by rfl)
  have e4 : dig 97 = 10 := by decide
  rw [e4]
  simp +contextual -implicitDefEqProofs (maxSteps := 2000000) (disch := omega) only [binV, ↓unV, GVal.cells, grp, GVal.ofConst, ↓resV, resG, List.map, List.headD, List.take, List.drop, ↓reduceIte, Nat.reduceEqDiff, Nat.reduceAdd, Nat.reduceSub, Nat.reduceLeDiff, reduceCtorEq, implies_true, ne_eq, aggV, Tag.cap, List.replicate, allSolid, GVal.solid, Nat.reduceBEq, Nat.reduceMul, Nat.reduceLT, List.length_map, List.length_range, splice, vcA, ↓vcB, vcC, notInt3, notInt5, notInt9, tab3, tab5, und3, und4, und5, und9, e8]
end Gv.Try
/- Digits of bytes: the plain theory. -/
set_option linter.unusedVariables false
set_option maxRecDepth 100000
namespace Gv.Try
open Go Gv Go.Proofs
theorem dig_hexd : ∀ n, n < 16 → dig (hexd n).toNat = n := by decide
theorem hexd_inj : ∀ n, n < 16 → ∀ m, m < 16 → hexd n = hexd m → n = m := by decide
theorem hexd_lt : ∀ n, n < 16 → ∀ m, m < 16 → (hexd n < hexd m ↔ n < m) := by decide
theorem or_nib : ∀ q, q < 16 → ∀ r, r < 16 → norm .u8 (bits .or .i64 (norm .i64 ((q : Nat) * 2 ^ 4)) (r : Nat)) = ((16 * q + r : Nat) : Int) := by decide
theorem textL_cons (c : UInt8) (r : List UInt8) : textL (c :: r) = hexd (c.toNat / 16) :: hexd (c.toNat % 16) :: textL r := rfl
theorem textL_hi : ∀ (l : List UInt8) (i : Nat), i < l.length → (textL l).getD (2 * i) 0 = hexd ((l.getD i 0).toNat / 16)
  | [], i, h => by simp at h
  | c :: r, 0, _ => rfl
  | c :: r, i + 1, h => by
    have e : 2 * (i + 1) = 2 * i + 2 := by omega
    rw [textL_cons, e, List.getD_cons_succ, List.getD_cons_succ, List.getD_cons_succ, textL_hi r i (by simpa using h)]
theorem textL_lo : ∀ (l : List UInt8) (i : Nat), i < l.length → (textL l).getD (2 * i + 1) 0 = hexd ((l.getD i 0).toNat % 16)
  | [], i, h => by simp at h
  | c :: r, 0, _ => rfl
  | c :: r, i + 1, h => by
    have e : 2 * (i + 1) + 1 = 2 * i + 1 + 2 := by omega
    rw [textL_cons, e, List.getD_cons_succ, List.getD_cons_succ, List.getD_cons_succ, textL_lo r i (by simpa using h)]
theorem nib (c : UInt8) : c.toNat / 16 < 16 ∧ c.toNat % 16 < 16 := by have := c.toNat_lt; omega
theorem digits_text : ∀ l, digits (textL l) = true
  | [] => rfl
  | c :: r => by
    have h1 := dig_hexd _ (nib c).1
    have h2 := dig_hexd _ (nib c).2
    have h3 := digits_text r
    simp only [digits, textL_cons, List.all_cons, Bool.and_eq_true, decide_eq_true_eq] at *
    exact ⟨by rw [h1]; omega, by rw [h2]; omega, h3⟩
theorem isPre_text {l : List UInt8} (h : l.length = 32) : isPre (textL l) = true := by
  have hl := textL_len l
  rw [isPre, digits_text, decide_eq_true (p := textL l ≠ []) (fun e => by rw [e] at hl; simp at hl; omega), decide_eq_true (by omega)]; rfl
theorem parse_text {l : List UInt8} (h : l.length = 32) : ((List.range 32).map fun i => GVal.int .u8 (norm .u8 (pairB (textL l) i))) = bytesG l := by
  apply List.ext_getElem (by simp [bytesG, h])
  intro i h1 h2
  have hi : i < 32 := by simpa using h1
  rw [List.getElem_map, List.getElem_range]
  have n1 := (nib (l.getD i 0)).1
  have n2 := (nib (l.getD i 0)).2
  rw [pairB, textL_hi l i (by omega), textL_lo l i (by omega), dig_hexd _ n1, dig_hexd _ n2, or_nib _ n1 _ n2, Nat.div_add_mod]
  simp [bytesG, List.getD, h, hi]
theorem textL_inj : ∀ {a b : List UInt8}, textL a = textL b → a = b
  | [], [], _ => rfl
  | x :: a, [], h => by simp [textL] at h
  | [], y :: b, h => by simp [textL] at h
  | x :: a, y :: b, h => by
    rw [textL_cons, textL_cons] at h
    injection h with h1 h
    injection h with h2 h3
    have e1 := hexd_inj _ (nib x).1 _ (nib y).1 h1
    have e2 := hexd_inj _ (nib x).2 _ (nib y).2 h2
    have e3 : x = y := UInt8.toNat_inj.1 (by omega)
    rw [e3, textL_inj h3]
theorem less_text : ∀ {a b : List UInt8}, a.length = b.length → Op.bytesLess (textL a) (textL b) = ltB a b
  | [], [], _ => rfl
  | x :: a, [], h => by simp at h
  | [], y :: b, h => by simp at h
  | x :: a, y :: b, h => by
    have ih := less_text (a := a) (b := b) (by simpa using h)
    rw [textL_cons, textL_cons]
    simp only [Op.bytesLess, ih, ltB]
    have q1 := hexd_lt _ (nib x).1 _ (nib y).1
    have q2 := hexd_lt _ (nib x).2 _ (nib y).2
    by_cases e : x = y
    · subst e
      have z1 : ¬ hexd (x.toNat / 16) < hexd (x.toNat / 16) := UInt8.lt_irrefl _
      have z2 : ¬ hexd (x.toNat % 16) < hexd (x.toNat % 16) := UInt8.lt_irrefl _
      simp [z1, z2]
    · rw [if_neg e]
      have ne : x.toNat ≠ y.toNat := fun h => e (UInt8.toNat_inj.1 h)
      by_cases c1 : x.toNat / 16 = y.toNat / 16
      · have z1 : ¬ hexd (x.toNat / 16) < hexd (y.toNat / 16) := by rw [q1]; omega
        have z2 : ¬ hexd (x.toNat % 16) = hexd (y.toNat % 16) := fun h => by
          have := hexd_inj _ (nib x).2 _ (nib y).2 h; omega
        have z3 : (x < y) ↔ x.toNat % 16 < y.toNat % 16 := by rw [UInt8.lt_iff_toNat_lt]; omega
        rw [decide_eq_false z1, c1]
        simp [z2, q2, z3]
      · have z2 : ¬ hexd (x.toNat / 16) = hexd (y.toNat / 16) := fun h => c1 (hexd_inj _ (nib x).1 _ (nib y).1 h)
        have z3 : (x < y) ↔ x.toNat / 16 < y.toNat / 16 := by rw [UInt8.lt_iff_toNat_lt]; omega
        simp [z2, q1, z3]
theorem cells_eq : ∀ (a b : List UInt8) (n : Nat), a.length = n → b.length = n → cellsEq (List.replicate n Sk.int) (bytesG a) (bytesG b) = some (decide (a = b))
  | [], [], n, h, _ => by subst h; rfl
  | x :: a, [], n, h1, h2 => by simp at h1 h2; omega
  | [], y :: b, n, h1, h2 => by simp at h1 h2; omega
  | x :: a, y :: b, 0, h1, h2 => by simp at h1
  | x :: a, y :: b, n + 1, h1, h2 => by
    have ih := cells_eq a b n (by simpa using h1) (by simpa using h2)
    simp only [bytesG] at ih
    simp only [List.replicate_succ, bytesG, List.map_cons, cellsEq, ceq, if_true, ih]
    congr 1
    have e : (x.toNat : Int) = y.toNat ↔ x = y := ⟨fun h => UInt8.toNat_inj.1 (by omega), fun h => by rw [h]⟩
    rw [Bool.eq_iff_iff]
    simp [e]
end Gv.Try
/- HexBack: the walk. -/
set_option linter.unusedVariables false
set_option linter.unusedSimpArgs false
set_option maxRecDepth 20000
set_option maxHeartbeats 4000000
namespace Gv.Try
open Go Gv Go.Proofs
theorem cells32 (a b : List UInt8) (ha : a.length = 32) (hb : b.length = 32) : cellsEq [Sk.int, Sk.int, Sk.int, Sk.int, Sk.int, Sk.int, Sk.int, Sk.int, Sk.int, Sk.int, Sk.int, Sk.int, Sk.int, Sk.int, Sk.int, Sk.int, Sk.int, Sk.int, Sk.int, Sk.int, Sk.int, Sk.int, Sk.int, Sk.int, Sk.int, Sk.int, Sk.int, Sk.int, Sk.int, Sk.int, Sk.int, Sk.int] (bytesG a) (bytesG b) = some (decide (a = b)) := cells_eq a b 32 ha hb
theorem drop32 (a : List UInt8) (ha : a.length = 32) : List.drop (bytesG a).length ([.int .u8 0, .int .u8 0, .int .u8 0, .int .u8 0, .int .u8 0, .int .u8 0, .int .u8 0, .int .u8 0, .int .u8 0, .int .u8 0, .int .u8 0, .int .u8 0, .int .u8 0, .int .u8 0, .int .u8 0, .int .u8 0, .int .u8 0, .int .u8 0, .int .u8 0, .int .u8 0, .int .u8 0, .int .u8 0, .int .u8 0, .int .u8 0, .int .u8 0, .int .u8 0, .int .u8 0, .int .u8 0, .int .u8 0, .int .u8 0, .int .u8 0, .int .u8 0] : List GVal) = [] := List.drop_of_length_le (by rw [bytesG_len, ha]; decide)
theorem begins_self {l : List UInt8} {k : Nat} : decide ((l).take (List.drop (Int.toNat 0) (List.take k l)).length = List.drop (Int.toNat 0) (List.take k l)) = true := by
  rw [Int.toNat_zero, List.drop_zero, List.length_take]
  simp [List.take_eq_take_min]
theorem begins_other {a b : List UInt8} (ha : a.length = 32) (hb : b.length = 32) : decide ((textL b).take (textL a).length = textL a) = decide (a = b) := by
  rw [List.take_of_length_le (by rw [textL_len, textL_len]; omega)]
  by_cases h : a = b
  · simp [h]
  · have : textL b ≠ textL a := fun e => h (textL_inj e).symm
    simp [h, this]
theorem spec3 (a b : List UInt8) (cut : Int) (ha : a.length = 32) (hb : b.length = 32) (hc : -9223372036854775808 ≤ cut ∧ cut ≤ 9223372036854775807) : GPure Try.prog 3 [.agg (bytesG a), .agg (bytesG b), .int .i64 cut] (.bool true) := by
  have b1 := Int.emod_nonneg cut (by decide : (65 : Int) ≠ 0)
  have b2 := Int.emod_lt_of_pos cut (by decide : (0 : Int) < 65)
  have la := bytesG_len a
  have lb := bytesG_len b
  have ta : List.take 32 (bytesG a) = bytesG a := List.take_of_length_le (by omega)
  have tb : List.take 32 (bytesG b) = bytesG b := List.take_of_length_le (by omega)
  have tl := textL_len a
  have pp := hParse (textL a) (by omega) (isPre_text ha)
  rw [parse_text ha] at pp
  have pi := hIsPrefix (textL a) (by omega)
  rw [isPre_text ha] at pi
  refine h3.pure mixS (by simp) ?_
  simp only [gstart, s3, List.cons_append, List.nil_append, List.length_cons, List.length_nil, Nat.reduceAdd, Nat.reduceSub, List.replicate_succ, List.replicate_zero]
  simp +contextual -implicitDefEqProofs (maxSteps := 2000000) (disch := omega) only [drawC, ↓lenV, binV, ↓unV, optV, ↓loadV, ↓storeV, ↓allocV, ↓boxV, ↓sliceV, bound, cutTag, hiTag, GVal.cells, grp, GVal.ofConst, ↓resV, resG, List.map, List.headD, List.take, List.drop, ↓reduceIte, Nat.reduceEqDiff, Nat.reduceAdd, Nat.reduceSub, Nat.reduceLeDiff, reduceCtorEq, implies_true, ne_eq, aggV, Tag.cap, List.replicate, allSolid, GVal.solid, Nat.reduceBEq, Nat.reduceMul, Nat.reduceLT, List.length_map, List.length_range, splice, vcA, ↓vcB, vcC, aggT23, arr23, arr53, els35, els36, els43, elt35, elt36, elt43, fld45_0, fld45_1, notInt23, notInt3, notInt35, notInt36, notInt42, notInt43, notInt45, notInt47, notInt5, notInt55, notInt57, notInt60, notInt9, plc53, tab23, tab3, tab42, tab43, tab5, und23, und3, und35, und36, und4, und42, und43, und47, und49, und5, und53, und55, und57, und60, und9, zer23, zer45, zer53, e3, ta, tb, sol_bytes]
  refine ⟨by omega, ?_⟩
  refine (hText a ha).then ?_ (by rfl)
  simp +contextual -implicitDefEqProofs (maxSteps := 2000000) (disch := omega) only [drawC, ↓lenV, binV, ↓unV, optV, ↓loadV, ↓storeV, ↓allocV, ↓boxV, ↓sliceV, bound, cutTag, hiTag, GVal.cells, grp, GVal.ofConst, ↓resV, resG, List.map, List.headD, List.take, List.drop, ↓reduceIte, Nat.reduceEqDiff, Nat.reduceAdd, Nat.reduceSub, Nat.reduceLeDiff, reduceCtorEq, implies_true, ne_eq, aggV, Tag.cap, List.replicate, allSolid, GVal.solid, Nat.reduceBEq, Nat.reduceMul, Nat.reduceLT, List.length_map, List.length_range, splice, vcA, ↓vcB, vcC, aggT23, arr23, arr53, els35, els36, els43, elt35, elt36, elt43, fld45_0, fld45_1, notInt23, notInt3, notInt35, notInt36, notInt42, notInt43, notInt45, notInt47, notInt5, notInt55, notInt57, notInt60, notInt9, plc53, tab23, tab3, tab42, tab43, tab5, und23, und3, und35, und36, und4, und42, und43, und47, und49, und5, und53, und55, und57, und60, und9, zer23, zer45, zer53, e3, ta, tb, sol_bytes]
  refine pp.then ?_ (by rfl)
  simp +contextual -implicitDefEqProofs (maxSteps := 2000000) (disch := omega) only [drawC, ↓lenV, binV, ↓unV, optV, ↓loadV, ↓storeV, ↓allocV, ↓boxV, ↓sliceV, bound, cutTag, hiTag, GVal.cells, grp, GVal.ofConst, ↓resV, resG, List.map, List.headD, List.take, List.drop, ↓reduceIte, Nat.reduceEqDiff, Nat.reduceAdd, Nat.reduceSub, Nat.reduceLeDiff, reduceCtorEq, implies_true, ne_eq, aggV, Tag.cap, List.replicate, allSolid, GVal.solid, Nat.reduceBEq, Nat.reduceMul, Nat.reduceLT, List.length_map, List.length_range, splice, vcA, ↓vcB, vcC, aggT23, arr23, arr53, els35, els36, els43, elt35, elt36, elt43, fld45_0, fld45_1, notInt23, notInt3, notInt35, notInt36, notInt42, notInt43, notInt45, notInt47, notInt5, notInt55, notInt57, notInt60, notInt9, plc53, tab23, tab3, tab42, tab43, tab5, und23, und3, und35, und36, und4, und42, und43, und47, und49, und5, und53, und55, und57, und60, und9, zer23, zer45, zer53, e3, ta, tb, sol_bytes, drop32 a ha, List.append_nil, la, ha]
  intro st
  refine hKnown.then ?_ (by rfl)
  simp +contextual -implicitDefEqProofs (maxSteps := 2000000) (disch := omega) only [drawC, ↓lenV, binV, ↓unV, optV, ↓loadV, ↓storeV, ↓allocV, ↓boxV, ↓sliceV, bound, cutTag, hiTag, GVal.cells, grp, GVal.ofConst, ↓resV, resG, List.map, List.headD, List.take, List.drop, ↓reduceIte, Nat.reduceEqDiff, Nat.reduceAdd, Nat.reduceSub, Nat.reduceLeDiff, reduceCtorEq, implies_true, ne_eq, aggV, Tag.cap, List.replicate, allSolid, GVal.solid, Nat.reduceBEq, Nat.reduceMul, Nat.reduceLT, List.length_map, List.length_range, splice, vcA, ↓vcB, vcC, aggT23, arr23, arr53, els35, els36, els43, elt35, elt36, elt43, fld45_0, fld45_1, notInt23, notInt3, notInt35, notInt36, notInt42, notInt43, notInt45, notInt47, notInt5, notInt55, notInt57, notInt60, notInt9, plc53, tab23, tab3, tab42, tab43, tab5, und23, und3, und35, und36, und4, und42, und43, und47, und49, und5, und53, und55, und57, und60, und9, zer23, zer45, zer53, e3, ta, tb, sol_bytes, drop32 a ha, List.append_nil, cells32 a a ha ha, la, lb, ha, hb]
  refine ⟨by rfl, fun h => (h (by omega)).elim, fun _ => ?_⟩
  refine pi.then ?_ (by rfl)
  simp +contextual -implicitDefEqProofs (maxSteps := 2000000) (disch := omega) only [drawC, ↓lenV, binV, ↓unV, optV, ↓loadV, ↓storeV, ↓allocV, ↓boxV, ↓sliceV, bound, cutTag, hiTag, GVal.cells, grp, GVal.ofConst, ↓resV, resG, List.map, List.headD, List.take, List.drop, ↓reduceIte, Nat.reduceEqDiff, Nat.reduceAdd, Nat.reduceSub, Nat.reduceLeDiff, reduceCtorEq, implies_true, ne_eq, aggV, Tag.cap, List.replicate, allSolid, GVal.solid, Nat.reduceBEq, Nat.reduceMul, Nat.reduceLT, List.length_map, List.length_range, splice, vcA, ↓vcB, vcC, aggT23, arr23, arr53, els35, els36, els43, elt35, elt36, elt43, fld45_0, fld45_1, notInt23, notInt3, notInt35, notInt36, notInt42, notInt43, notInt45, notInt47, notInt5, notInt55, notInt57, notInt60, notInt9, plc53, tab23, tab3, tab42, tab43, tab5, und23, und3, und35, und36, und4, und42, und43, und47, und49, und5, und53, und55, und57, und60, und9, zer23, zer45, zer53, e3, ta, tb, sol_bytes, drop32 a ha, List.append_nil, cells32 a a ha ha, la, lb, ha, hb]
  refine (sPick cut 65 (by omega) (by omega)).then ?_ (by rfl)
  simp +contextual -implicitDefEqProofs (maxSteps := 2000000) (disch := omega) only [drawC, ↓lenV, binV, ↓unV, optV, ↓loadV, ↓storeV, ↓allocV, ↓boxV, ↓sliceV, bound, cutTag, hiTag, GVal.cells, grp, GVal.ofConst, ↓resV, resG, List.map, List.headD, List.take, List.drop, ↓reduceIte, Nat.reduceEqDiff, Nat.reduceAdd, Nat.reduceSub, Nat.reduceLeDiff, reduceCtorEq, implies_true, ne_eq, aggV, Tag.cap, List.replicate, allSolid, GVal.solid, Nat.reduceBEq, Nat.reduceMul, Nat.reduceLT, List.length_map, List.length_range, splice, vcA, ↓vcB, vcC, aggT23, arr23, arr53, els35, els36, els43, elt35, elt36, elt43, fld45_0, fld45_1, notInt23, notInt3, notInt35, notInt36, notInt42, notInt43, notInt45, notInt47, notInt5, notInt55, notInt57, notInt60, notInt9, plc53, tab23, tab3, tab42, tab43, tab5, und23, und3, und35, und36, und4, und42, und43, und47, und49, und5, und53, und55, und57, und60, und9, zer23, zer45, zer53, e3, ta, tb, sol_bytes, drop32 a ha, List.append_nil, cells32 a a ha ha, la, lb, ha, hb]
  refine ⟨⟨[], by simp⟩, by omega, by omega, by omega, ?_⟩
  have hk : (List.drop (Int.toNat 0) (List.take (cut % 65).toNat (textL a))).length ≤ 9223372036854775807 := by
    rw [List.length_drop, List.length_take]; omega
  refine (hBegins a _ ha hk).then ?_ (by rfl)
  rw [begins_self]
  have cab := cells32 a b ha hb
  simp +contextual -implicitDefEqProofs (maxSteps := 2000000) (disch := omega) only [drawC, ↓lenV, binV, ↓unV, optV, ↓loadV, ↓storeV, ↓allocV, ↓boxV, ↓sliceV, bound, cutTag, hiTag, GVal.cells, grp, GVal.ofConst, ↓resV, resG, List.map, List.headD, List.take, List.drop, ↓reduceIte, Nat.reduceEqDiff, Nat.reduceAdd, Nat.reduceSub, Nat.reduceLeDiff, reduceCtorEq, implies_true, ne_eq, aggV, Tag.cap, List.replicate, allSolid, GVal.solid, Nat.reduceBEq, Nat.reduceMul, Nat.reduceLT, List.length_map, List.length_range, splice, vcA, ↓vcB, vcC, aggT23, arr23, arr53, els35, els36, els43, elt35, elt36, elt43, fld45_0, fld45_1, notInt23, notInt3, notInt35, notInt36, notInt42, notInt43, notInt45, notInt47, notInt5, notInt55, notInt57, notInt60, notInt9, plc53, tab23, tab3, tab42, tab43, tab5, und23, und3, und35, und36, und4, und42, und43, und47, und49, und5, und53, und55, und57, und60, und9, zer23, zer45, zer53, e3, ta, tb, sol_bytes, drop32 a ha, List.append_nil, cells32 a b ha hb, la, lb, ha, hb]
  refine (hBegins b (textL a) hb (by omega)).then ?_ (by rfl)
  rw [begins_other ha hb]
  have ee : decide (decide (a = b) = decide (a = b)) = true := by simp
  simp +contextual -implicitDefEqProofs (maxSteps := 2000000) (disch := omega) only [drawC, ↓lenV, binV, ↓unV, optV, ↓loadV, ↓storeV, ↓allocV, ↓boxV, ↓sliceV, bound, cutTag, hiTag, GVal.cells, grp, GVal.ofConst, ↓resV, resG, List.map, List.headD, List.take, List.drop, ↓reduceIte, Nat.reduceEqDiff, Nat.reduceAdd, Nat.reduceSub, Nat.reduceLeDiff, reduceCtorEq, implies_true, ne_eq, aggV, Tag.cap, List.replicate, allSolid, GVal.solid, Nat.reduceBEq, Nat.reduceMul, Nat.reduceLT, List.length_map, List.length_range, splice, vcA, ↓vcB, vcC, aggT23, arr23, arr53, els35, els36, els43, elt35, elt36, elt43, fld45_0, fld45_1, notInt23, notInt3, notInt35, notInt36, notInt42, notInt43, notInt45, notInt47, notInt5, notInt55, notInt57, notInt60, notInt9, plc53, tab23, tab3, tab42, tab43, tab5, und23, und3, und35, und36, und4, und42, und43, und47, und49, und5, und53, und55, und57, und60, und9, zer23, zer45, zer53, e3, ta, tb, sol_bytes, drop32 a ha, List.append_nil, cells32 a b ha hb, la, lb, ha, hb, ee]
  refine ⟨⟨[], by simp⟩, ?_⟩
  refine (hText b hb).then ?_ (by rfl)
  simp +contextual -implicitDefEqProofs (maxSteps := 2000000) (disch := omega) only [drawC, ↓lenV, binV, ↓unV, optV, ↓loadV, ↓storeV, ↓allocV, ↓boxV, ↓sliceV, bound, cutTag, hiTag, GVal.cells, grp, GVal.ofConst, ↓resV, resG, List.map, List.headD, List.take, List.drop, ↓reduceIte, Nat.reduceEqDiff, Nat.reduceAdd, Nat.reduceSub, Nat.reduceLeDiff, reduceCtorEq, implies_true, ne_eq, aggV, Tag.cap, List.replicate, allSolid, GVal.solid, Nat.reduceBEq, Nat.reduceMul, Nat.reduceLT, List.length_map, List.length_range, splice, vcA, ↓vcB, vcC, aggT23, arr23, arr53, els35, els36, els43, elt35, elt36, elt43, fld45_0, fld45_1, notInt23, notInt3, notInt35, notInt36, notInt42, notInt43, notInt45, notInt47, notInt5, notInt55, notInt57, notInt60, notInt9, plc53, tab23, tab3, tab42, tab43, tab5, und23, und3, und35, und36, und4, und42, und43, und47, und49, und5, und53, und55, und57, und60, und9, zer23, zer45, zer53, e3, ta, tb, sol_bytes, drop32 a ha, List.append_nil, cells32 a b ha hb, la, lb, ha, hb]
  refine ⟨⟨[], by simp⟩, ?_⟩
  refine (hLess b a hb ha).then ?_ (by rfl)
  have el := less_text (a := b) (b := a) (by omega)
  simp +contextual -implicitDefEqProofs (maxSteps := 2000000) (disch := omega) only [drawC, ↓lenV, binV, ↓unV, optV, ↓loadV, ↓storeV, ↓allocV, ↓boxV, ↓sliceV, bound, cutTag, hiTag, GVal.cells, grp, GVal.ofConst, ↓resV, resG, List.map, List.headD, List.take, List.drop, ↓reduceIte, Nat.reduceEqDiff, Nat.reduceAdd, Nat.reduceSub, Nat.reduceLeDiff, reduceCtorEq, implies_true, ne_eq, aggV, Tag.cap, List.replicate, allSolid, GVal.solid, Nat.reduceBEq, Nat.reduceMul, Nat.reduceLT, List.length_map, List.length_range, splice, vcA, ↓vcB, vcC, aggT23, arr23, arr53, els35, els36, els43, elt35, elt36, elt43, fld45_0, fld45_1, notInt23, notInt3, notInt35, notInt36, notInt42, notInt43, notInt45, notInt47, notInt5, notInt55, notInt57, notInt60, notInt9, plc53, tab23, tab3, tab42, tab43, tab5, und23, und3, und35, und36, und4, und42, und43, und47, und49, und5, und53, und55, und57, und60, und9, zer23, zer45, zer53, e3, ta, tb, sol_bytes, drop32 a ha, List.append_nil, el]
end Gv.Try
/- Contracts: reference Less, SameHashes, Hash. -/
set_option linter.unusedVariables false
set_option linter.unusedSimpArgs false
set_option maxRecDepth 20000
set_option maxHeartbeats 4000000
namespace Gv.Try
open Go Gv Go.Proofs
def h0 : Hs := ⟨List.replicate 32 0, by simp⟩
theorem hsG_len (l : List Hs) : (hsG l).length = l.length := by simp [hsG]
theorem hsG_at (l : List Hs) (i : Nat) (h : i < l.length) : (hsG l).getD i [] = bytesG (l.getD i h0).1 := by simp [hsG, List.getD, h]
theorem all_hsG (l : List Hs) : (∀ x ∈ hsG l, x.length = 32) = True := eq_true fun x hx => by obtain ⟨s, _, rfl⟩ := List.mem_map.1 hx; rw [bytesG_len, s.2]
theorem hsG_app (a b : List Hs) : hsG (a ++ b) = hsG a ++ hsG b := by simp [hsG]
theorem bytesG_at (l : List UInt8) (i : Nat) (h : i < l.length) : (bytesG l).getD i .any = .int .u8 (l.getD i 0).toNat := by simp [bytesG, List.getD, h]
theorem take_bytes (l : List UInt8) (n : Nat) : (bytesG l).take n = bytesG (l.take n) := by simp [bytesG, List.map_take]
theorem drop_bytes (l : List UInt8) (n : Nat) : (bytesG l).drop n = bytesG (l.drop n) := by simp [bytesG, List.map_drop]
theorem ltB_drop : ∀ (a b : List UInt8) (k : Nat), a.length = b.length → k < a.length → ltB (a.drop k) (b.drop k) = if (a.getD k 0) = (b.getD k 0) then ltB (a.drop (k + 1)) (b.drop (k + 1)) else decide (a.getD k 0 < b.getD k 0) := by
  intro a b k h hk
  have ea : a.drop k = a.getD k 0 :: a.drop (k + 1) := by rw [List.drop_eq_getElem_cons hk]; simp [List.getD, hk]
  have eb : b.drop k = b.getD k 0 :: b.drop (k + 1) := by rw [List.drop_eq_getElem_cons (by omega)]; simp [List.getD, (by omega : k < b.length)]
  rw [ea, eb]
  simp only [ltB]
theorem drop_cons0 {l : List UInt8} {k : Nat} (h : k < l.length) : l.drop k = l.getD k 0 :: l.drop (k + 1) := by
  rw [List.drop_eq_getElem_cons h]; simp [List.getD, h]
theorem hLessR (a b : List UInt8) (ha : a.length = 32) (hb : b.length = 32) : GPure Try.prog 32 [.agg (bytesG a), .agg (bytesG b)] (.bool (ltB a b)) := by
  refine h32.pure mixS (by simp) ?_
  simp only [gstart, s32, List.cons_append, List.nil_append, List.length_cons, List.length_nil, Nat.reduceAdd, Nat.reduceSub, List.replicate_succ, List.replicate_zero]
  have la := bytesG_len a
  have lb := bytesG_len b
  have ta : List.take 32 (bytesG a) = bytesG a := List.take_of_length_le (by omega)
  have tb : List.take 32 (bytesG b) = bytesG b := List.take_of_length_le (by omega)
  simp +contextual -implicitDefEqProofs (maxSteps := 2000000) (disch := omega) only [drawC, binV, ↓loadV, ↓indexAddrV, ↓boxV, GVal.cells, grp, GVal.ofConst, ↓resV, resG, List.map, List.headD, List.take, List.drop, ↓reduceIte, Nat.reduceEqDiff, Nat.reduceAdd, Nat.reduceSub, Nat.reduceLeDiff, reduceCtorEq, implies_true, ne_eq, aggV, Tag.cap, List.replicate, allSolid, GVal.solid, Nat.reduceBEq, Nat.reduceMul, Nat.reduceLT, List.length_map, List.length_range, splice, vcA, ↓vcB, vcC, aggT23, arr23, notInt23, notInt3, notInt5, notInt9, tab23, tab3, tab5, und23, und3, und4, und5, und9, zer23, e32, ta, tb, sol_bytes]
  refine vcSLoop_by (ι := { k : Nat // k ≤ 32 ∧ ltB (a.drop k) (b.drop k) = ltB a b }) (fun k => ⟨[.any, .any, .ref (bytesG a), .ref (bytesG b), .any, .int .i64 (k.1 : Nat)] ++ List.replicate 18 .any, []⟩) (fun k => 32 - k.1) ?_ ?_
  · exact Into.first ⟨0, by omega, by simp⟩ ⟨[], by simp⟩ (by simp [WL, leG_self, leG_any, leG_int])
  · rintro ⟨k, hk, he⟩
    by_cases h : k < 32
    · have d0 : ((k : Int) < 32) = True := eq_true (by omega)
      rw [ltB_drop a b k (by omega) (by omega)] at he
      obtain ⟨ra, ea⟩ : ∃ ra, List.drop (k * 1) (bytesG a) = .int .u8 (a.getD k 0).toNat :: ra :=
        ⟨bytesG (a.drop (k + 1)), by rw [Nat.mul_one, drop_bytes, drop_cons0 (by omega)]; rfl⟩
      obtain ⟨rb, eb⟩ : ∃ rb, List.drop (k * 1) (bytesG b) = .int .u8 (b.getD k 0).toNat :: rb :=
        ⟨bytesG (b.drop (k + 1)), by rw [Nat.mul_one, drop_bytes, drop_cons0 (by omega)]; rfl⟩
      obtain ⟨x, ex⟩ : ∃ x, a.getD k 0 = x := ⟨_, rfl⟩
      obtain ⟨y, ey⟩ : ∃ y, b.getD k 0 = y := ⟨_, rfl⟩
      rw [ex, ey] at he
      rw [ex] at ea
      rw [ey] at eb
      have ta1 : List.take 1 (List.drop (k * 1) (bytesG a)) = [.int .u8 x.toNat] := by rw [ea]; rfl
      have tb1 : List.take 1 (List.drop (k * 1) (bytesG b)) = [.int .u8 y.toNat] := by rw [eb]; rfl
      have la1 : (1 ≤ (List.drop (k * 1) (bytesG a)).length) = True := by rw [ea]; simp
      have lb1 : (1 ≤ (List.drop (k * 1) (bytesG b)).length) = True := by rw [eb]; simp
      have hx := x.toNat_lt
      have hy := y.toNat_lt
      simp +contextual -implicitDefEqProofs (maxSteps := 2000000) (disch := omega) only [drawC, binV, ↓loadV, ↓indexAddrV, ↓boxV, GVal.cells, grp, GVal.ofConst, ↓resV, resG, List.map, List.headD, List.take, List.drop, ↓reduceIte, Nat.reduceEqDiff, Nat.reduceAdd, Nat.reduceSub, Nat.reduceLeDiff, reduceCtorEq, implies_true, ne_eq, aggV, Tag.cap, List.replicate, allSolid, GVal.solid, Nat.reduceBEq, Nat.reduceMul, Nat.reduceLT, List.length_map, List.length_range, splice, vcA, ↓vcB, vcC, aggT23, arr23, notInt23, notInt3, notInt5, notInt9, tab23, tab3, tab5, und23, und3, und4, und5, und9, zer23, e32, d0, ta1, tb1, la1, lb1]
      refine ⟨by omega, by omega, by omega, by omega, fun c => ⟨by omega, by omega, by omega, by omega, ?_⟩, fun c => ?_⟩
      · rw [if_neg (fun e => c (by rw [e]))] at he
        rw [← he]
        exact decide_eq_decide.2 (by rw [UInt8.lt_iff_toNat_lt]; omega)
      · rw [if_pos (UInt8.toNat_inj.1 (by omega))] at he
        exact Into.at ⟨k + 1, by omega, he⟩ (by show _ < _; simp; omega) ⟨[], by simp⟩ (by simp [WL, leG_self, leG_any, leG_int])
    · have d0 : ((k : Int) < 32) = False := eq_false (by omega)
      rw [List.drop_of_length_le (by omega), List.drop_of_length_le (by omega)] at he
      simp +contextual -implicitDefEqProofs (maxSteps := 2000000) (disch := omega) only [drawC, binV, ↓loadV, ↓indexAddrV, ↓boxV, GVal.cells, grp, GVal.ofConst, ↓resV, resG, List.map, List.headD, List.take, List.drop, ↓reduceIte, Nat.reduceEqDiff, Nat.reduceAdd, Nat.reduceSub, Nat.reduceLeDiff, reduceCtorEq, implies_true, ne_eq, aggV, Tag.cap, List.replicate, allSolid, GVal.solid, Nat.reduceBEq, Nat.reduceMul, Nat.reduceLT, List.length_map, List.length_range, splice, vcA, ↓vcB, vcC, aggT23, arr23, notInt23, notInt3, notInt5, notInt9, tab23, tab3, tab5, und23, und3, und4, und5, und9, zer23, e32, d0, false_imp_iff, true_and]
      rw [← he]; rfl
theorem cellsEq_hs (a b : Hs) : cellsEq [Sk.int, Sk.int, Sk.int, Sk.int, Sk.int, Sk.int, Sk.int, Sk.int, Sk.int, Sk.int, Sk.int, Sk.int, Sk.int, Sk.int, Sk.int, Sk.int, Sk.int, Sk.int, Sk.int, Sk.int, Sk.int, Sk.int, Sk.int, Sk.int, Sk.int, Sk.int, Sk.int, Sk.int, Sk.int, Sk.int, Sk.int, Sk.int] (bytesG a.1) (bytesG b.1) = some (decide (a = b)) := by
  refine (cells32 a.1 b.1 a.2 b.2).trans ?_
  exact congrArg some (decide_eq_decide.2 ⟨Subtype.ext, fun h => by rw [h]⟩)
theorem take32 (a : Hs) : List.take 32 (bytesG a.1) = bytesG a.1 := List.take_of_length_le (by rw [bytesG_len, a.2]; omega)
theorem len32 (a : Hs) : (bytesG a.1).length = 32 := by rw [bytesG_len, a.2]
theorem takeH {l : List Hs} {k : Nat} (h : k < l.length) : l.take (k + 1) = l.take k ++ [l.getD k h0] := by
  rw [List.take_add_one]; simp [List.getD, h]
theorem dropH {l : List Hs} {k : Nat} (h : k < l.length) : l.drop k = l.getD k h0 :: l.drop (k + 1) := by
  rw [List.drop_eq_getElem_cons h]; simp [List.getD, h]
theorem hSame (a b : List Hs) (ta tb : Tag) (hl : a.length ≤ 4398046511104) : GPure Try.prog 14 [.slice (hsG a) ta, .slice (hsG b) tb] (.bool (decide (a = b))) := by
  refine h14.pure mixS (by simp) ?_
  simp only [gstart, s14, List.cons_append, List.nil_append, List.length_cons, List.length_nil, Nat.reduceAdd, Nat.reduceSub, List.replicate_succ, List.replicate_zero]
  simp +contextual -implicitDefEqProofs (maxSteps := 2000000) (disch := omega) only [drawC, ↓lenV, binV, ↓loadV, ↓indexAddrV, GVal.cells, grp, GVal.ofConst, ↓resV, resG, List.map, List.headD, List.take, List.drop, ↓reduceIte, Nat.reduceEqDiff, Nat.reduceAdd, Nat.reduceSub, Nat.reduceLeDiff, reduceCtorEq, implies_true, ne_eq, aggV, Tag.cap, List.replicate, allSolid, GVal.solid, Nat.reduceBEq, Nat.reduceMul, Nat.reduceLT, List.length_map, List.length_range, splice, vcA, ↓vcB, vcC, aggT23, arr23, els36, elt36, notInt23, notInt3, notInt36, notInt5, notInt9, tab23, tab3, tab5, und23, und3, und36, und4, und5, und9, zer23, e14, hsG_len]
  refine ⟨fun h => ?_, fun h => ?_⟩
  · rw [decide_eq_false (fun e => h (by rw [e]))]
  refine vcSLoop_by (ι := { k : Nat // k ≤ a.length ∧ a.take k = b.take k }) (fun k => ⟨[.slice (hsG a) ta, .slice (hsG b) tb, .any, .any, .any, .int .i64 (k.1 : Nat)] ++ List.replicate 20 .any, []⟩) (fun k => a.length - k.1) ?_ ?_
  · exact Into.first ⟨0, by omega, by simp⟩ ⟨[], by simp⟩ (by simp [WL, leG_self, leG_any, leG_int])
  · rintro ⟨k, hk, he⟩
    by_cases h' : k < a.length
    · have d0 : ((k : Int) < (a.length : Int)) = True := eq_true (by omega)
      have ea := hsG_at a k h'
      have eb := hsG_at b k (by omega)
      obtain ⟨x, ex⟩ : ∃ x, a.getD k h0 = x := ⟨_, rfl⟩
      obtain ⟨y, ey⟩ : ∃ y, b.getD k h0 = y := ⟨_, rfl⟩
      rw [ex] at ea
      rw [ey] at eb
      simp +contextual -implicitDefEqProofs (maxSteps := 2000000) (disch := omega) only [drawC, ↓lenV, binV, ↓loadV, ↓indexAddrV, GVal.cells, grp, GVal.ofConst, ↓resV, resG, List.map, List.headD, List.take, List.drop, ↓reduceIte, Nat.reduceEqDiff, Nat.reduceAdd, Nat.reduceSub, Nat.reduceLeDiff, reduceCtorEq, implies_true, ne_eq, aggV, Tag.cap, List.replicate, allSolid, GVal.solid, Nat.reduceBEq, Nat.reduceMul, Nat.reduceLT, List.length_map, List.length_range, splice, vcA, ↓vcB, vcC, aggT23, arr23, els36, elt36, notInt23, notInt3, notInt36, notInt5, notInt9, tab23, tab3, tab5, und23, und3, und36, und4, und5, und9, zer23, e14, hsG_len, d0, ea, eb, all_hsG, take32, len32, cellsEq_hs x y]
      refine ⟨by omega, by omega, by omega, fun c => ?_, fun c => ?_⟩
      · exact Into.at ⟨k + 1, by omega, by rw [takeH h', takeH (by omega), he, ex, ey, c]⟩ (by show _ < _; simp; omega) ⟨[], by simp⟩ (by simp [WL, leG_self, leG_any, leG_int])
      · rw [decide_eq_false fun e => c (by rw [← ex, ← ey, e])]
    · have d0 : ((k : Int) < (a.length : Int)) = False := eq_false (by omega)
      rw [List.take_of_length_le (by omega), List.take_of_length_le (by omega)] at he
      simp +contextual -implicitDefEqProofs (maxSteps := 2000000) (disch := omega) only [drawC, ↓lenV, binV, ↓loadV, ↓indexAddrV, GVal.cells, grp, GVal.ofConst, ↓resV, resG, List.map, List.headD, List.take, List.drop, ↓reduceIte, Nat.reduceEqDiff, Nat.reduceAdd, Nat.reduceSub, Nat.reduceLeDiff, reduceCtorEq, implies_true, ne_eq, aggV, Tag.cap, List.replicate, allSolid, GVal.solid, Nat.reduceBEq, Nat.reduceMul, Nat.reduceLT, List.length_map, List.length_range, splice, vcA, ↓vcB, vcC, aggT23, arr23, els36, elt36, notInt23, notInt3, notInt36, notInt5, notInt9, tab23, tab3, tab5, und23, und3, und36, und4, und5, und9, zer23, e14, hsG_len, d0, false_imp_iff, true_and]
      rw [decide_eq_true he]
theorem norm_u8c (x : Int) : ∃ c : UInt8, norm .u8 x = (c.toNat : Int) := by
  have h : norm .u8 x = x % 256 := rfl
  refine ⟨UInt8.ofNat (x % 256).toNat, ?_⟩
  rw [h, UInt8.toNat_ofNat']
  omega
theorem six (m : Int) (h : 0 ≤ m) : ∃ c : UInt8, List.take 1 (List.drop ((m.tmod 6).toNat * 1) ([.int .u8 171, .int .u8 171, .int .u8 160, .int .u8 18, .int .u8 254, .int .u8 171] : List GVal)) = [.int .u8 c.toNat] := by
  have h1 := Int.tmod_nonneg 6 h
  have h2 := Int.tmod_lt_of_pos m (by decide : (0 : Int) < 6)
  have : (m.tmod 6).toNat < 6 := by omega
  generalize (m.tmod 6).toNat = k at *
  match k, this with
  | 0, _ => exact ⟨171, rfl⟩
  | 1, _ => exact ⟨171, rfl⟩
  | 2, _ => exact ⟨160, rfl⟩
  | 3, _ => exact ⟨18, rfl⟩
  | 4, _ => exact ⟨254, rfl⟩
  | 5, _ => exact ⟨171, rfl⟩
theorem hHash (n : Int) : ∃ f : Hs, GPure Try.prog 13 [.int .i64 n] (.agg (bytesG f.1)) := by
  have b1 := Int.emod_nonneg n (by decide : (60 : Int) ≠ 0)
  have b2 := Int.emod_lt_of_pos n (by decide : (0 : Int) < 60)
  obtain ⟨m, em⟩ : ∃ m, n % 60 = m := ⟨_, rfl⟩
  rw [em] at b1 b2
  obtain ⟨c, hc⟩ := six m b1
  obtain ⟨p, hp⟩ := norm_u8c (norm .i64 (norm .i64 (m.tdiv 6) * 16))
  obtain ⟨q, hq⟩ := norm_u8c (m * 7)
  obtain ⟨r, hr⟩ := norm_u8c m
  refine ⟨⟨c :: p :: q :: (List.replicate 28 0 ++ [r]), by simp⟩, ?_⟩
  have fin : bytesG (c :: p :: q :: (List.replicate 28 0 ++ [r])) = [.int .u8 c.toNat, .int .u8 p.toNat, .int .u8 q.toNat, .int .u8 0, .int .u8 0, .int .u8 0, .int .u8 0, .int .u8 0, .int .u8 0, .int .u8 0, .int .u8 0, .int .u8 0, .int .u8 0, .int .u8 0, .int .u8 0, .int .u8 0, .int .u8 0, .int .u8 0, .int .u8 0, .int .u8 0, .int .u8 0, .int .u8 0, .int .u8 0, .int .u8 0, .int .u8 0, .int .u8 0, .int .u8 0, .int .u8 0, .int .u8 0, .int .u8 0, .int .u8 0, .int .u8 r.toNat] := rfl
  rw [fin]
  refine h13.pure mixS (by simp) ?_
  simp only [gstart, s13, List.cons_append, List.nil_append, List.length_cons, List.length_nil, Nat.reduceAdd, Nat.reduceSub, List.replicate_succ, List.replicate_zero]
  simp +contextual -implicitDefEqProofs (maxSteps := 2000000) (disch := omega) only [binV, ↓convV, ↓loadV, ↓storeV, ↓indexAddrV, ↓indexV, ↓allocV, ↓buildV, fillG, place, GVal.cells, grp, GVal.ofConst, ↓resV, resG, List.map, List.headD, List.take, List.drop, ↓reduceIte, Nat.reduceEqDiff, Nat.reduceAdd, Nat.reduceSub, Nat.reduceLeDiff, reduceCtorEq, implies_true, ne_eq, Tag.cap, List.replicate, allSolid, GVal.solid, Nat.reduceBEq, Nat.reduceMul, Nat.reduceLT, List.length_map, List.length_range, splice, vcA, ↓vcB, vcC, aggT23, arr23, arr53, notInt23, notInt3, notInt5, notInt60, notInt9, plc53, tab23, tab3, tab5, und23, und3, und4, und5, und53, und60, und9, zer23, zer53, e13]
  intro st
  refine (sPick n 60 (by omega) (by omega)).then ?_ (by rfl)
  have d6 := Int.tmod_nonneg 6 b1
  have d7 := Int.tmod_lt_of_pos m (by decide : (0 : Int) < 6)
  have t0 : Int.toNat 0 = 0 := rfl
  have t1 : Int.toNat 1 = 1 := rfl
  have t2 : Int.toNat 2 = 2 := rfl
  have t3 : Int.toNat 31 = 31 := rfl
  simp +contextual -implicitDefEqProofs (maxSteps := 2000000) (disch := omega) only [binV, ↓convV, ↓loadV, ↓storeV, ↓indexAddrV, ↓indexV, ↓allocV, ↓buildV, fillG, place, GVal.cells, grp, GVal.ofConst, ↓resV, resG, List.map, List.headD, List.take, List.drop, ↓reduceIte, Nat.reduceEqDiff, Nat.reduceAdd, Nat.reduceSub, Nat.reduceLeDiff, reduceCtorEq, implies_true, ne_eq, Tag.cap, List.replicate, allSolid, GVal.solid, Nat.reduceBEq, Nat.reduceMul, Nat.reduceLT, List.length_map, List.length_range, splice, vcA, ↓vcB, vcC, aggT23, arr23, arr53, notInt23, notInt3, notInt5, notInt60, notInt9, plc53, tab23, tab3, tab5, und23, und3, und4, und5, und53, und60, und9, zer23, zer53, e13, em, hc, hp, hq, hr, t0, t1, t2, t3, Nat.zero_mul, List.cons_append, List.nil_append, List.length_cons, List.length_nil]
  exact fun st => ⟨by omega, d6, d7, by omega, by omega, by omega, by omega, by omega, by omega, by omega, by omega, by omega, by omega⟩
end Gv.Try
/- Contracts: reference Put, Sort. -/
set_option linter.unusedVariables false
set_option linter.unusedSimpArgs false
set_option maxRecDepth 20000
set_option maxHeartbeats 4000000
namespace Gv.Try
open Go Gv Go.Proofs
def idxH : List Hs → Hs → Nat
  | [], _ => 0
  | x :: r, h => if ltB x.1 h.1 = true then idxH r h + 1 else 0
def putH (l : List Hs) (h : Hs) : List Hs :=
  if idxH l h < l.length ∧ l.getD (idxH l h) h0 = h then l else l.take (idxH l h) ++ [h] ++ l.drop (idxH l h)
theorem idxH_le : ∀ (l : List Hs) (h : Hs), idxH l h ≤ l.length
  | [], _ => Nat.le_refl _
  | x :: r, h => by
    unfold idxH; split
    · have := idxH_le r h; simp; omega
    · simp
theorem take_hs (l : List Hs) (n : Nat) : (hsG l).take n = hsG (l.take n) := by simp [hsG, List.map_take]
theorem drop_hs (l : List Hs) (n : Nat) : (hsG l).drop n = hsG (l.drop n) := by simp [hsG, List.map_drop]
theorem takeAll (l : List Hs) : List.take l.length (hsG l) = hsG l := List.take_of_length_le (by rw [hsG_len]; exact Nat.le_refl _)
theorem toNat0 : Int.toNat 0 = 0 := rfl
theorem if32 {α : Type} (a : Hs) (x y : α) : (if (bytesG a.1).length = 32 then x else y) = x := if_pos (len32 a)
theorem one32 (a : Hs) : (∀ y ∈ [bytesG a.1], y.length = 32) = True := eq_true (by simp [len32])
theorem idxH_cons (x : Hs) (r : List Hs) (h : Hs) : idxH (x :: r) h = if ltB x.1 h.1 = true then idxH r h + 1 else 0 := rfl
theorem put_fin {l : List Hs} {h : Hs} {k : Nat} (e : k = idxH l h) (n : ¬ (idxH l h < l.length ∧ l.getD (idxH l h) h0 = h)) :
    hsG (List.take k l) ++ [bytesG h.1] ++ hsG (List.drop k (List.take l.length l)) = hsG (putH l h) := by
  unfold putH
  rw [if_neg n, List.take_length, e, hsG_app, hsG_app]; rfl
theorem putH_len (l : List Hs) (h : Hs) : (putH l h).length ≤ l.length + 1 := by
  unfold putH; split
  · omega
  · simp; omega
theorem hPut (l : List Hs) (h : Hs) (hl : l.length < 4398046511104) : GPure Try.prog 26 [.slice (hsG l) .none, .agg (bytesG h.1)] (.slice (hsG (putH l h)) .none) := by
  refine h26.pure mixS (by simp) ?_
  simp only [gstart, s26, List.cons_append, List.nil_append, List.length_cons, List.length_nil, Nat.reduceAdd, Nat.reduceSub, List.replicate_succ, List.replicate_zero]
  simp +contextual -implicitDefEqProofs (maxSteps := 2000000) (disch := omega) only [drawC, ↓lenV, binV, optV, ↓loadV, ↓indexAddrV, ↓boxV, ↓buildSliceV, ↓sliceV, ↓appendV, ↓srcV, bound, cutTag, hiTag, fillE, GVal.cells, grp, GVal.ofConst, ↓resV, resG, List.map, List.headD, List.take, List.drop, ↓reduceIte, Nat.reduceEqDiff, Nat.reduceAdd, Nat.reduceSub, Nat.reduceLeDiff, reduceCtorEq, implies_true, ne_eq, ↓asrcV, aggV, Tag.cap, List.replicate, allSolid, GVal.solid, Nat.reduceBEq, Nat.reduceMul, Nat.reduceLT, List.length_map, List.length_range, splice, vcA, ↓vcB, vcC, aggT23, arr23, els35, els36, els43, elt35, elt36, elt43, fld45_0, fld45_1, notInt23, notInt3, notInt35, notInt36, notInt42, notInt43, notInt45, notInt47, notInt5, notInt9, tab23, tab3, tab42, tab43, tab5, und23, und3, und35, und36, und4, und42, und43, und47, und5, und9, zer23, zer45, e26, hsG_len, take32, len32, sol_bytes, all_hsG]
  refine vcSLoop_by (ι := { k : Nat // k ≤ l.length ∧ idxH (l.drop k) h + k = idxH l h }) (fun k => ⟨[.slice (hsG l) .none, .any, .any, .ref (bytesG h.1), .any, .int .i64 (k.1 : Nat)] ++ List.replicate 42 .any, []⟩) (fun k => l.length - k.1) ?_ ?_
  · exact Into.first ⟨0, by omega, by simp⟩ ⟨[], by simp⟩ (by simp [WL, leG_self, leG_any, leG_int])
  · rintro ⟨k, hk, he⟩
    by_cases h' : k < l.length
    · have d0 : ((k : Int) < (l.length : Int)) = True := eq_true (by omega)
      have ea := hsG_at l k h'
      rw [dropH h'] at he
      rw [idxH_cons] at he
      obtain ⟨x, ex⟩ : ∃ x, l.getD k h0 = x := ⟨_, rfl⟩
      rw [ex] at ea he
      simp +contextual -implicitDefEqProofs (maxSteps := 2000000) (disch := omega) only [drawC, ↓lenV, binV, optV, ↓loadV, ↓indexAddrV, ↓boxV, ↓buildSliceV, ↓sliceV, ↓appendV, ↓srcV, bound, cutTag, hiTag, fillE, GVal.cells, grp, GVal.ofConst, ↓resV, resG, List.map, List.headD, List.take, List.drop, ↓reduceIte, Nat.reduceEqDiff, Nat.reduceAdd, Nat.reduceSub, Nat.reduceLeDiff, reduceCtorEq, implies_true, ne_eq, ↓asrcV, aggV, Tag.cap, List.replicate, allSolid, GVal.solid, Nat.reduceBEq, Nat.reduceMul, Nat.reduceLT, List.length_map, List.length_range, splice, vcA, ↓vcB, vcC, aggT23, arr23, els35, els36, els43, elt35, elt36, elt43, fld45_0, fld45_1, notInt23, notInt3, notInt35, notInt36, notInt42, notInt43, notInt45, notInt47, notInt5, notInt9, tab23, tab3, tab42, tab43, tab5, und23, und3, und35, und36, und4, und42, und43, und47, und5, und9, zer23, zer45, e26, hsG_len, d0, ea, all_hsG, take32, len32, sol_bytes, take_hs, drop_hs, takeAll, toNat0, List.drop_zero, if32, one32]
      refine ⟨by omega, ?_⟩
      refine (hLessR x.1 h.1 x.2 h.2).then ?_ (by rfl)
      cases el : ltB x.1 h.1 with
      | true =>
        rw [el, if_pos rfl] at he
        simp +contextual -implicitDefEqProofs (maxSteps := 2000000) (disch := omega) only [drawC, ↓lenV, binV, optV, ↓loadV, ↓indexAddrV, ↓boxV, ↓buildSliceV, ↓sliceV, ↓appendV, ↓srcV, bound, cutTag, hiTag, fillE, GVal.cells, grp, GVal.ofConst, ↓resV, resG, List.map, List.headD, List.take, List.drop, ↓reduceIte, Nat.reduceEqDiff, Nat.reduceAdd, Nat.reduceSub, Nat.reduceLeDiff, reduceCtorEq, implies_true, ne_eq, ↓asrcV, aggV, Tag.cap, List.replicate, allSolid, GVal.solid, Nat.reduceBEq, Nat.reduceMul, Nat.reduceLT, List.length_map, List.length_range, splice, vcA, ↓vcB, vcC, aggT23, arr23, els35, els36, els43, elt35, elt36, elt43, fld45_0, fld45_1, notInt23, notInt3, notInt35, notInt36, notInt42, notInt43, notInt45, notInt47, notInt5, notInt9, tab23, tab3, tab42, tab43, tab5, und23, und3, und35, und36, und4, und42, und43, und47, und5, und9, zer23, zer45, e26, hsG_len, d0, ea, all_hsG, take32, len32, sol_bytes, take_hs, drop_hs, takeAll, toNat0, List.drop_zero, if32, one32]
        exact Into.at ⟨k + 1, by omega, by omega⟩ (by show _ < _; simp; omega) ⟨[], by simp⟩ (by simp [WL, leG_self, leG_any, leG_int])
      | false =>
        rw [el, if_neg (by simp), Nat.zero_add] at he
        have tl : (List.take k l).length = k := by rw [List.length_take]; omega
        have tl2 : (hsG (List.take k l) ++ [bytesG h.1]).length = k + 1 := by rw [List.length_append, hsG_len, tl]; rfl
        have tl3 : (List.drop k (List.take l.length l)).length = l.length - k := by rw [List.take_length, List.length_drop]
        have := idxH_le l h
        have ce := cellsEq_hs x h
        simp +contextual -implicitDefEqProofs (maxSteps := 2000000) (disch := omega) only [drawC, ↓lenV, binV, optV, ↓loadV, ↓indexAddrV, ↓boxV, ↓buildSliceV, ↓sliceV, ↓appendV, ↓srcV, bound, cutTag, hiTag, fillE, GVal.cells, grp, GVal.ofConst, ↓resV, resG, List.map, List.headD, List.take, List.drop, ↓reduceIte, Nat.reduceEqDiff, Nat.reduceAdd, Nat.reduceSub, Nat.reduceLeDiff, reduceCtorEq, implies_true, ne_eq, ↓asrcV, aggV, Tag.cap, List.replicate, allSolid, GVal.solid, Nat.reduceBEq, Nat.reduceMul, Nat.reduceLT, List.length_map, List.length_range, splice, vcA, ↓vcB, vcC, aggT23, arr23, els35, els36, els43, elt35, elt36, elt43, fld45_0, fld45_1, notInt23, notInt3, notInt35, notInt36, notInt42, notInt43, notInt45, notInt47, notInt5, notInt9, tab23, tab3, tab42, tab43, tab5, und23, und3, und35, und36, und4, und42, und43, und47, und5, und9, zer23, zer45, e26, hsG_len, d0, ea, all_hsG, take32, len32, sol_bytes, take_hs, drop_hs, takeAll, toNat0, List.drop_zero, if32, one32, ce]
        refine ⟨by omega, fun c => ?_, fun c => ?_⟩
        · unfold putH; rw [if_pos ⟨by omega, by rw [← he, ex, c]⟩]
        · refine ⟨by omega, by omega, by omega, by rw [tl]; omega, by rw [tl]; omega, fun _ => ⟨by rw [tl]; omega, by rw [tl]; omega, fun _ => ⟨by omega, by omega, by omega, by rw [tl2, tl3]; omega, by rw [tl2, tl3]; omega, fun _ => ?_⟩⟩⟩
          exact put_fin he (fun ⟨_, e⟩ => c (by rw [← ex, he, e]))
    · have d0 : ((k : Int) < (l.length : Int)) = False := eq_false (by omega)
      have tl : (List.take k l).length = k := by rw [List.length_take]; omega
      have tl2 : (hsG (List.take k l) ++ [bytesG h.1]).length = k + 1 := by rw [List.length_append, hsG_len, tl]; rfl
      have tl3 : (List.drop k (List.take l.length l)).length = l.length - k := by rw [List.take_length, List.length_drop]
      have := idxH_le l h
      rw [List.drop_of_length_le (by omega)] at he
      simp +contextual -implicitDefEqProofs (maxSteps := 2000000) (disch := omega) only [drawC, ↓lenV, binV, optV, ↓loadV, ↓indexAddrV, ↓boxV, ↓buildSliceV, ↓sliceV, ↓appendV, ↓srcV, bound, cutTag, hiTag, fillE, GVal.cells, grp, GVal.ofConst, ↓resV, resG, List.map, List.headD, List.take, List.drop, ↓reduceIte, Nat.reduceEqDiff, Nat.reduceAdd, Nat.reduceSub, Nat.reduceLeDiff, reduceCtorEq, implies_true, ne_eq, ↓asrcV, aggV, Tag.cap, List.replicate, allSolid, GVal.solid, Nat.reduceBEq, Nat.reduceMul, Nat.reduceLT, List.length_map, List.length_range, splice, vcA, ↓vcB, vcC, aggT23, arr23, els35, els36, els43, elt35, elt36, elt43, fld45_0, fld45_1, notInt23, notInt3, notInt35, notInt36, notInt42, notInt43, notInt45, notInt47, notInt5, notInt9, tab23, tab3, tab42, tab43, tab5, und23, und3, und35, und36, und4, und42, und43, und47, und5, und9, zer23, zer45, e26, hsG_len, d0, false_imp_iff, true_and, all_hsG, take32, len32, sol_bytes, take_hs, drop_hs, takeAll, toNat0, List.drop_zero, if32, one32]
      refine ⟨by omega, by omega, by omega, by rw [tl]; omega, by rw [tl]; omega, fun _ => ⟨by rw [tl]; omega, by rw [tl]; omega, fun _ => ⟨by omega, by omega, by omega, by rw [tl2, tl3]; omega, by rw [tl2, tl3]; omega, fun _ => ?_⟩⟩⟩
      have hz : idxH [] h = 0 := rfl
      exact put_fin (by omega) (by omega)
def sortR (l : List Hs) : List Hs := l.foldl putH []
theorem hSortR (l : List Hs) (t : Tag) (hl : l.length ≤ 4398046511104) : GPure Try.prog 16 [.slice (hsG l) t] (.slice (hsG (sortR l)) .none) := by
  refine h16.pure mixS (by simp) ?_
  simp only [gstart, s16, List.cons_append, List.nil_append, List.length_cons, List.length_nil, Nat.reduceAdd, Nat.reduceSub, List.replicate_succ, List.replicate_zero]
  simp +contextual -implicitDefEqProofs (maxSteps := 2000000) (disch := omega) only [↓lenV, binV, optV, ↓loadV, ↓indexAddrV, ↓sliceV, bound, cutTag, hiTag, GVal.cells, grp, GVal.ofConst, ↓resV, resG, List.map, List.headD, List.take, List.drop, ↓reduceIte, Nat.reduceEqDiff, Nat.reduceAdd, Nat.reduceSub, Nat.reduceLeDiff, reduceCtorEq, implies_true, ne_eq, Tag.cap, List.replicate, allSolid, GVal.solid, Nat.reduceBEq, Nat.reduceMul, Nat.reduceLT, List.length_map, List.length_range, splice, vcA, ↓vcB, vcC, aggT23, arr23, els36, elt36, notInt23, notInt3, notInt36, notInt5, notInt9, tab23, tab3, tab5, und23, und3, und36, und4, und5, und9, zer23, e16, hsG_len]
  refine vcSLoop_by (ι := { p : Nat × List Hs // p.1 ≤ l.length ∧ p.2 = (l.take p.1).foldl putH [] ∧ p.2.length ≤ p.1 }) (fun p => ⟨[.slice (hsG l) t, .any, .any, .slice (hsG p.1.2) .none, .int .i64 (p.1.1 : Nat)] ++ List.replicate 13 .any, []⟩) (fun p => l.length - p.1.1) ?_ ?_
  · exact Into.first ⟨(0, []), by omega, rfl, by simp⟩ ⟨[], by simp⟩ (by simp [WL, leG_self, leG_any, leG_int, leG_none, hsG])
  · rintro ⟨⟨k, acc⟩, hk, he, hal⟩
    simp only [] at hk he hal
    by_cases h' : k < l.length
    · have d0 : ((k : Int) < (l.length : Int)) = True := eq_true (by omega)
      have ea := hsG_at l k h'
      obtain ⟨x, ex⟩ : ∃ x, l.getD k h0 = x := ⟨_, rfl⟩
      rw [ex] at ea
      simp +contextual -implicitDefEqProofs (maxSteps := 2000000) (disch := omega) only [↓lenV, binV, optV, ↓loadV, ↓indexAddrV, ↓sliceV, bound, cutTag, hiTag, GVal.cells, grp, GVal.ofConst, ↓resV, resG, List.map, List.headD, List.take, List.drop, ↓reduceIte, Nat.reduceEqDiff, Nat.reduceAdd, Nat.reduceSub, Nat.reduceLeDiff, reduceCtorEq, implies_true, ne_eq, Tag.cap, List.replicate, allSolid, GVal.solid, Nat.reduceBEq, Nat.reduceMul, Nat.reduceLT, List.length_map, List.length_range, splice, vcA, ↓vcB, vcC, aggT23, arr23, els36, elt36, notInt23, notInt3, notInt36, notInt5, notInt9, tab23, tab3, tab5, und23, und3, und36, und4, und5, und9, zer23, e16, hsG_len, d0, ea, all_hsG, take32, len32]
      refine ⟨by omega, ?_⟩
      refine (hPut acc x (by omega)).then ?_ (by rfl)
      simp +contextual -implicitDefEqProofs (maxSteps := 2000000) (disch := omega) only [↓lenV, binV, optV, ↓loadV, ↓indexAddrV, ↓sliceV, bound, cutTag, hiTag, GVal.cells, grp, GVal.ofConst, ↓resV, resG, List.map, List.headD, List.take, List.drop, ↓reduceIte, Nat.reduceEqDiff, Nat.reduceAdd, Nat.reduceSub, Nat.reduceLeDiff, reduceCtorEq, implies_true, ne_eq, Tag.cap, List.replicate, allSolid, GVal.solid, Nat.reduceBEq, Nat.reduceMul, Nat.reduceLT, List.length_map, List.length_range, splice, vcA, ↓vcB, vcC, aggT23, arr23, els36, elt36, notInt23, notInt3, notInt36, notInt5, notInt9, tab23, tab3, tab5, und23, und3, und36, und4, und5, und9, zer23, e16, hsG_len, d0, ea, all_hsG, take32, len32]
      have := putH_len acc x
      exact Into.at ⟨(k + 1, putH acc x), by show k + 1 ≤ _; omega, by show putH acc x = _; rw [takeH h', List.foldl_append, ← he, ex]; rfl, by show (putH acc x).length ≤ k + 1; omega⟩ (by show _ < _; simp; omega) ⟨[], by simp⟩ (by simp [WL, leG_self, leG_any, leG_int])
    · have d0 : ((k : Int) < (l.length : Int)) = False := eq_false (by omega)
      rw [List.take_of_length_le (by omega)] at he
      simp +contextual -implicitDefEqProofs (maxSteps := 2000000) (disch := omega) only [↓lenV, binV, optV, ↓loadV, ↓indexAddrV, ↓sliceV, bound, cutTag, hiTag, GVal.cells, grp, GVal.ofConst, ↓resV, resG, List.map, List.headD, List.take, List.drop, ↓reduceIte, Nat.reduceEqDiff, Nat.reduceAdd, Nat.reduceSub, Nat.reduceLeDiff, reduceCtorEq, implies_true, ne_eq, Tag.cap, List.replicate, allSolid, GVal.solid, Nat.reduceBEq, Nat.reduceMul, Nat.reduceLT, List.length_map, List.length_range, splice, vcA, ↓vcB, vcC, aggT23, arr23, els36, elt36, notInt23, notInt3, notInt36, notInt5, notInt9, tab23, tab3, tab5, und23, und3, und36, und4, und5, und9, zer23, e16, hsG_len, d0, false_imp_iff, true_and]
      rw [he]; rfl
end Gv.Try
