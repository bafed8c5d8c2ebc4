/- slices.SortFunc of spans by their low ends, as a contract. -/
import Derived.Test.YtnenmmdpclglhaaGreatDoorP7
import Derived.Test.YtnenmmdpclglhaaGreatDoorP6
import Derived.Shelf.SlicesG.Cmp
import Derived.Test.YtnenmmdpclglhaaGreatDoorProg
import Derived.KernelRfl
import Derived.Test.YtnenmmdpclglhaaGreatDoorP5
import Derived.Below
set_option linter.unusedVariables false
set_option maxRecDepth 100000
namespace Go.Proofs
open Go.Shelf
def Tryz.sortSpS_ren : Go.Shelf.Ren := ⟨fun | 6 => 88 | 15 => 115 | 14 => 114 | 28 => 129 | 29 => 130 | 20 => 121 | 21 => 122 | 22 => 123 | 23 => 124 | 24 => 125 | 25 => 126 | 26 => 127 | 27 => 128 | 46 => 139 | 47 => 140 | 48 => 141 | 49 => 142 | 50 => 143 | 57 => 147 | n => n, fun | 22 => 62 | 24 => 65 | 25 => 154 | 3 => 3 | 39 => 193 | 0 => 0 | 53 => 205 | 55 => 207 | 4 => 4 | 46 => 199 | 45 => 198 | 50 => 49 | 5 => 5 | 9 => 9 | 66 => 213 | 70 => 217 | 76 => 221 | 77 => 222 | n => n, fun | n => n⟩
theorem Tryz.sortSpS : Go.Proofs.SlLaysF0.n6 Tryz.prog Tryz.sortSpS_ren := {
  mixed := by kernel_rfl
  f6 := ⟨Tryz.f88.name, by decide, Tryz.func88.trans (congrArg some (by kernel_rfl))⟩
  f14 := ⟨Tryz.f114.name, by decide, Tryz.func114.trans (congrArg some (by kernel_rfl))⟩
  f15 := Tryz.func115.trans (congrArg some (by kernel_rfl))
  f20 := ⟨Tryz.f121.name, by decide, Tryz.func121.trans (congrArg some (by kernel_rfl))⟩
  f21 := ⟨Tryz.f122.name, by decide, Tryz.func122.trans (congrArg some (by kernel_rfl))⟩
  f22 := ⟨Tryz.f123.name, by decide, Tryz.func123.trans (congrArg some (by kernel_rfl))⟩
  f23 := ⟨Tryz.f124.name, by decide, Tryz.func124.trans (congrArg some (by kernel_rfl))⟩
  f24 := ⟨Tryz.f125.name, by decide, Tryz.func125.trans (congrArg some (by kernel_rfl))⟩
  f25 := ⟨Tryz.f126.name, by decide, Tryz.func126.trans (congrArg some (by kernel_rfl))⟩
  f26 := ⟨Tryz.f127.name, by decide, Tryz.func127.trans (congrArg some (by kernel_rfl))⟩
  f27 := ⟨Tryz.f128.name, by decide, Tryz.func128.trans (congrArg some (by kernel_rfl))⟩
  f28 := Tryz.func129.trans (congrArg some (by kernel_rfl))
  f29 := Tryz.func130.trans (congrArg some (by kernel_rfl))
  f46 := ⟨Tryz.f139.name, by decide, Tryz.func139.trans (congrArg some (by kernel_rfl))⟩
  f47 := Tryz.func140.trans (congrArg some (by kernel_rfl))
  f48 := Tryz.func141.trans (congrArg some (by kernel_rfl))
  f49 := ⟨Tryz.f142.name, by decide, Tryz.func142.trans (congrArg some (by kernel_rfl))⟩
  f50 := ⟨Tryz.f143.name, by decide, Tryz.func143.trans (congrArg some (by kernel_rfl))⟩
  f57 := ⟨Tryz.f147.name, by decide, Tryz.func147.trans (congrArg some (by kernel_rfl))⟩
  t0 := Tryz.underlying0
  a0 := Tryz.isAgg0
  z0 := Tryz.sizeOf0
  v0 := Tryz.zeroValue0
  t3 := Tryz.underlying3
  a3 := Tryz.isAgg3
  z3 := Tryz.sizeOf3
  v3 := Tryz.zeroValue3
  t4 := Tryz.underlying4
  a4 := Tryz.isAgg4
  z4 := Tryz.sizeOf4
  v4 := Tryz.zeroValue4
  t5 := Tryz.underlying5
  a5 := Tryz.isAgg5
  z5 := Tryz.sizeOf5
  v5 := Tryz.zeroValue5
  t9 := Tryz.underlying9
  a9 := Tryz.isAgg9
  z9 := Tryz.sizeOf9
  v9 := Tryz.zeroValue9
  t22 := Tryz.underlying62
  a22 := Tryz.isAgg62
  z22 := Tryz.sizeOf62
  v22 := Tryz.zeroValue62
  t25 := Tryz.underlying154
  a25 := Tryz.isAgg154
  z25 := Tryz.sizeOf154
  v25 := Tryz.zeroValue154
  t39 := Tryz.underlying193
  a39 := Tryz.isAgg193
  z39 := Tryz.sizeOf193
  v39 := Tryz.zeroValue193
  t45 := Tryz.underlying198
  a45 := Tryz.isAgg198
  z45 := Tryz.sizeOf198
  v45 := Tryz.zeroValue198
  t46 := Tryz.underlying199
  a46 := Tryz.isAgg199
  z46 := Tryz.sizeOf199
  v46 := Tryz.zeroValue199
  t50 := Tryz.underlying49
  a50 := Tryz.isAgg49
  z50 := Tryz.sizeOf49
  v50 := Tryz.zeroValue49
  t53 := Tryz.underlying205
  a53 := Tryz.isAgg205
  z53 := Tryz.sizeOf205
  v53 := Tryz.zeroValue205
  t55 := Tryz.underlying207
  a55 := Tryz.isAgg207
  z55 := Tryz.sizeOf207
  v55 := Tryz.zeroValue207
  t66 := Tryz.underlying213
  a66 := Tryz.isAgg213
  z66 := Tryz.sizeOf213
  v66 := Tryz.zeroValue213
  t70 := Tryz.underlying217
  a70 := Tryz.isAgg217
  z70 := Tryz.sizeOf217
  v70 := Tryz.zeroValue217
  t76 := Tryz.underlying221
  a76 := Tryz.isAgg221
  z76 := Tryz.sizeOf221
  v76 := Tryz.zeroValue221
  t77 := Tryz.underlying222
  a77 := Tryz.isAgg222
  z77 := Tryz.sizeOf222
  v77 := Tryz.zeroValue222 }
def Tryz.cmpInt_ren : Go.Shelf.Ren := ⟨fun | 5 => 90 | 7 => 116 | n => n, fun | 22 => 3 | 3 => 3 | 4 => 4 | n => n, fun | n => n⟩
theorem Tryz.cmpInt : Go.Proofs.SlLaysC2.n5 Tryz.prog Tryz.cmpInt_ren := {
  mixed := by kernel_rfl
  f5 := ⟨Tryz.f90.name, by decide, Tryz.func90.trans (congrArg some (by kernel_rfl))⟩
  f7 := ⟨Tryz.f116.name, by decide, Tryz.func116.trans (congrArg some (by kernel_rfl))⟩
  t3 := Tryz.underlying3
  a3 := Tryz.isAgg3
  z3 := Tryz.sizeOf3
  v3 := Tryz.zeroValue3
  t4 := Tryz.underlying4
  a4 := Tryz.isAgg4
  z4 := Tryz.sizeOf4
  v4 := Tryz.zeroValue4
  t22 := Tryz.underlying3
  a22 := Tryz.isAgg3
  z22 := Tryz.sizeOf3
  v22 := Tryz.zeroValue3 }
end Go.Proofs
namespace Gv.Tryz
open Go Gv Go.Proofs Go.Shelf Go.RowKit Go.Lib Go.Sort
set_option maxHeartbeats 2000000 in
theorem sortClosureS (x y : Sp.S) (W : World) : Calls Tryz.prog 89 #[.agg #[.int .i64 x.1, .int .i64 x.2], .agg #[.int .i64 y.1, .int .i64 y.2]] W fun e w' => e = .returned (.int .i64 (Lib.compareInt x.1 y.1)) ∧ ∃ q os', w' = grow (W.drewN q) os' := by
  have hcon := fun W' => AnyG.cmp_Compare_int Tryz.cmpInt x.1 y.1 W'
  change ∀ W', Calls Tryz.prog 90 _ _ _ at hcon
  generalize Lib.compareInt x.1 y.1 = r at hcon ⊢
  go_enter Tryz.func89, Tryz.ntmps89
  go_wp2_with (go_at_call 90; refine (hcon _).mono ?_; rintro e w' ⟨rfl, rfl⟩)
  go_ret
  exact ⟨rfl, 0, _, by rw [alloc_eq_grow, alloc_eq_grow, grow_grow]; rfl⟩

theorem ltLo (x y : Sp.S) : ltOf (fun x y : Sp.S => Lib.compareInt x.1 y.1) x y = decide (x.1 < y.1) := by
  unfold ltOf Lib.compareInt
  by_cases h1 : x.1 < y.1
  · simp [h1]
  · by_cases h2 : y.1 < x.1 <;> simp [h1, h2]
theorem swoLo : SWO (ltOf fun x y : Sp.S => Lib.compareInt x.1 y.1) where
  irrefl x := by rw [ltLo]; simp
  trans x y z h1 h2 := by rw [ltLo] at *; simp at *; omega
  ntrans x y z h1 h2 := by rw [ltLo] at *; simp at *; omega
def encSp (s : Sp.S) : List Value := [.int .i64 s.1, .int .i64 s.2]

theorem sSortS (xs : List Sp.S) (hsz : xs.length < 4611686018427387904) {O : List GObj} {o st : Nat} (hO : O[o]? = some (.row st 2 (spl xs))) (hc : clockOf O = none) :
    GCalls Tryz.prog 88 [.own o st 0 xs.length, .func (.func 89) [] []] O (fun r O' => r = .tuple [] ∧ ∃ ys : List Sp.S, ys.Perm xs ∧ ys.Pairwise (fun a b => a.1 ≤ b.1) ∧ O' = O.set o (.row st 2 (spl ys))) := by
  have h := gcalls_sort (α := Sp.S) Tryz.sortSpS 2 Tryz.isAgg65 Tryz.sizeOf65 encSp spG (fun _ => rfl)
    (fun x v hv => by simp [encSp] at hv; rcases hv with rfl | rfl <;> rfl) (fun _ => rfl)
    (fun E x j g v hg hv => by
      match j, hg with
      | 0, hg => simp [spG] at hg; subst hg; cases hv; rfl
      | 1, hg => simp [spG] at hg; subst hg; cases hv; rfl
      | j + 2, hg => simp [spG] at hg)
    (fun E x j g hg => by
      match j, hg with
      | 0, hg => simp [spG] at hg; subst hg; exact ⟨_, rfl, .int _ _⟩
      | 1, hg => simp [spG] at hg; subst hg; exact ⟨_, rfl, .int _ _⟩
      | j + 2, hg => simp [spG] at hg)
    (fun x y => Lib.compareInt x.1 y.1) swoLo 89 (enters_of Tryz.func89 (by kernel_rfl) rfl) (fun x y W => sortClosureS x y W) (by kernel_rfl) xs hsz hO hc
  refine h.mono ?_
  rintro g O' ⟨rfl, ys, h1, h2, rfl⟩
  refine ⟨rfl, ys, h1, h2.imp fun {a b} hab => ?_, rfl⟩
  have := ltLo b a
  unfold ltOf at this
  have h3 : decide (b.1 < a.1) = false := by rw [← this]; exact decide_eq_false hab
  have := of_decide_eq_false h3
  omega
end Gv.Tryz
/- Contract: spans.Make. -/
set_option linter.unusedVariables false
set_option linter.unusedSimpArgs false
set_option maxRecDepth 20000
set_option maxHeartbeats 4000000
namespace Gv.Tryz
open Go Gv Go.Proofs
open Nat (reduceEqDiff reduceAdd reduceSub reduceLeDiff reduceMul reduceLT)

def clampL : List Sp.S → List Sp.S
  | [] => []
  | s :: r => (if max s.1 0 ≤ s.2 then [(max s.1 0, s.2)] else []) ++ clampL r
theorem clampL_app : ∀ (a b : List Sp.S), clampL (a ++ b) = clampL a ++ clampL b
  | [], b => rfl
  | s :: r, b => by simp [clampL, clampL_app r b]
theorem clampL_step (l : List Sp.S) (k : Nat) (h : k < l.length) : clampL (l.take (k + 1)) = clampL (l.take k) ++ (if max (l.getD k (0, 0)).1 0 ≤ (l.getD k (0, 0)).2 then [(max (l.getD k (0, 0)).1 0, (l.getD k (0, 0)).2)] else []) := by
  rw [take_getD h, clampL_app]; simp [clampL]
theorem clampL_len (l : List Sp.S) : (clampL l).length ≤ l.length := by
  induction l with
  | nil => simp [clampL]
  | cons s r ih => unfold clampL; split <;> simp <;> omega
theorem clampL_take (l : List Sp.S) (k : Nat) : (clampL (l.take k)).length ≤ l.length := by
  have := clampL_len (l.take k); simp at this; omega
theorem clampL_has (n : Int) (l : List Sp.S) : Sp.has (clampL l) n ↔ Sp.has l n := by
  induction l with
  | nil => rfl
  | cons s r ih =>
    unfold clampL
    rw [Sp.has_app, ih, Sp.has_cons]
    refine or_congr ?_ Iff.rfl
    split
    · simp only [Sp.has_cons, Sp.has_nil, or_false]; omega
    · rw [Sp.has_nil]; exact ⟨False.elim, fun h => by omega⟩
theorem clampL_mem (l : List Sp.S) : ∀ s ∈ clampL l, 0 ≤ s.1 ∧ s.1 ≤ s.2 := by
  induction l with
  | nil => simp [clampL]
  | cons x r ih =>
    intro s hs
    unfold clampL at hs
    rcases List.mem_append.1 hs with h | h
    · split at h
      · simp at h; subst h; rename_i h'; exact ⟨by show 0 ≤ max _ _; omega, h'⟩
      · simp at h
    · exact ih s h
theorem clampL_ok {l : List Sp.S} (h : Sp.Ok l) : Sp.Ok (clampL l) := by
  induction l with
  | nil => exact h
  | cons x r ih =>
    intro s hs
    unfold clampL at hs
    rcases List.mem_append.1 hs with h' | h'
    · split at h'
      · simp at h'; subst h'
        have := h x (by simp)
        exact ⟨⟨by show _ ≤ max _ _; omega, by show max _ _ ≤ _; omega⟩, this.2⟩
      · simp at h'
    · exact ih (fun z hz => h z (by simp [hz])) s h'
def MOk (zs out : List Sp.S) : Prop := Sp.Rt 0 out ∧ (∀ n, Sp.has out n ↔ Sp.has zs n) ∧ (∀ x ∈ out, ∃ z ∈ zs, x.1 = z.1) ∧ out.length ≤ zs.length ∧ Sp.Ok out
theorem MOk.more {zs out : List Sp.S} (h : MOk zs out) (s : Sp.S) (hs : 0 ≤ s.1 ∧ s.1 ≤ s.2 ∧ s.2 ≤ 9223372036854775807) (hge : ∀ z ∈ zs, z.1 ≤ s.1) (hq : ∀ x, out.getLast? = some x → x.2 + 1 < s.1) : MOk (zs ++ [s]) (out ++ [s]) := by
  obtain ⟨h1, h2, h3, h4, h5⟩ := h
  refine ⟨(Sp.Rt_snoc s out 0).2 ⟨h1, hs.1, hs.2.1, fun y hy => ?_⟩, fun n => by rw [Sp.has_app, Sp.has_app, h2], fun x hx => ?_, by simp; omega, h5.app (fun x hx => by simp at hx; subst hx; omega)⟩
  · rcases List.eq_nil_or_concat out with e | ⟨A, x, e⟩
    · subst e; simp at hy
    · rw [List.concat_eq_append] at e; subst e
      have := hq x (by simp)
      rcases List.mem_append.1 hy with h | h
      · have q := ((Sp.Rt_snoc x A 0).1 h1).2.2.2 y h
        have := ((Sp.Rt_snoc x A 0).1 h1).2.2.1
        omega
      · simp at h; subst h; omega
  · rcases List.mem_append.1 hx with h | h
    · obtain ⟨z, hz, e⟩ := h3 x h; exact ⟨z, by simp [hz], e⟩
    · exact ⟨s, by simp, by simp at h; rw [h]⟩
theorem MOk.grow {zs A : List Sp.S} {x : Sp.S} (h : MOk zs (A ++ [x])) (s : Sp.S) (hs : 0 ≤ s.1 ∧ s.1 ≤ s.2 ∧ s.2 ≤ 9223372036854775807) (hge : ∀ z ∈ zs, z.1 ≤ s.1) (hq : s.1 ≤ x.2 + 1) : MOk (zs ++ [s]) (A ++ [(x.1, max x.2 s.2)]) := by
  obtain ⟨h1, h2, h3, h4, h5⟩ := h
  obtain ⟨r1, r2, r3, r4⟩ := (Sp.Rt_snoc x A 0).1 h1
  obtain ⟨z, hz, ez⟩ := h3 x (by simp)
  have hz' := hge z hz
  refine ⟨(Sp.Rt_snoc _ A 0).2 ⟨r1, r2, by show x.1 ≤ max _ _; omega, r4⟩, fun n => ?_, fun y hy => ?_, by simp at *; omega, fun y hy => ?_⟩
  · have := h2 n
    rw [Sp.has_app, Sp.has_cons, Sp.has_nil] at this
    rw [Sp.has_app, Sp.has_app, Sp.has_cons, Sp.has_cons, Sp.has_nil, ← this]
    simp only [or_false, or_assoc]
    refine or_congr Iff.rfl ?_
    omega
  · rcases List.mem_append.1 hy with h | h
    · obtain ⟨z, hz, e⟩ := h3 y (by simp [h]); exact ⟨z, by simp [hz], e⟩
    · simp at h; subst h; exact ⟨z, by simp [hz], ez⟩
  · rcases List.mem_append.1 hy with h | h
    · exact h5 y (by simp [h])
    · simp at h; subst h
      have := h5 x (by simp)
      exact ⟨this.1, by show _ ≤ max _ _; omega, by show max _ _ ≤ _; omega⟩

theorem cMake (l : List Sp.S) (t : Tag) (hl : l.length ≤ 4398046511104) (ho : Sp.Ok l) :
    GCalls Tryz.prog 52 [.slice (spl l) t] [] (fun g O' => ∃ st0 st1 ys, g = .own 1 st1 0 (Sp.nf l).length ∧ O' = [.row st0 2 (spl ys), .row st1 2 (spl (Sp.nf l))]) := by
  refine h52.calls mixS (by simp) ?_
  simp only [gstart, s52, List.cons_append, List.nil_append, List.length_cons, List.length_nil, reduceAdd, reduceSub, List.replicate_succ, List.replicate_zero]
  simp +contextual -implicitDefEqProofs (maxSteps := 2000000) (disch := omega) only [drawC, drawK, keepT, ↓lenV, binV, ↓unV, optV, ↓loadV, ↓storeV, ↓fieldAddrV, ↓indexAddrV, ↓allocV, ↓buildSliceV, ↓sliceV, ↓appendV, ↓srcV, ↓minV, bound, cutTag, hiTag, fillE, GVal.cells, GVal.ofConst, ↓resV, resG, ↓reduceIte, reduceEqDiff, reduceAdd, reduceSub, reduceLeDiff, reduceCtorEq, ↓asrcV, Tag.cap, GVal.solid, Nat.reduceBEq, reduceMul, reduceLT, vcA, ↓vcB, vcC, fbFy, e52, spl_length, vcD]
  refine vcSLoop_by (ι := { p : Nat × Nat // p.1 ≤ l.length }) (fun p => ⟨[.slice (spl l) t, .any, .any, .own 0 p.1.2 0 (clampL (l.take p.1.1)).length, .slice [] .nil, .any, .any, .any, .any, .any, .slice (spl l) t, .int .i64 l.length, .int .i64 (p.1.1 : Nat)] ++ List.replicate 59 .any, [.row p.1.2 2 (spl (clampL (l.take p.1.1)))]⟩) (fun p => l.length - p.1.1) ?_ ?_
  · refine Into.row 3 2 rfl rfl ?_
    simp +contextual -implicitDefEqProofs (maxSteps := 2000000) (disch := omega) only [drawC, drawK, keepT, ↓lenV, binV, ↓unV, optV, ↓loadV, ↓storeV, ↓fieldAddrV, ↓indexAddrV, ↓allocV, ↓buildSliceV, ↓sliceV, ↓appendV, ↓srcV, ↓minV, bound, cutTag, hiTag, fillE, GVal.cells, GVal.ofConst, ↓resV, resG, ↓reduceIte, reduceEqDiff, reduceAdd, reduceSub, reduceLeDiff, reduceCtorEq, ↓asrcV, Tag.cap, GVal.solid, Nat.reduceBEq, reduceMul, reduceLT, vcA, ↓vcB, vcC, fbFy, e52, vcD]
    intro t0
    exact Into.first ⟨(0, t0), by omega⟩ ⟨[], by simp [clampL, spl]⟩ (by simp [WL, leG_self, leG_any, clampL])
  · rintro ⟨⟨k, v⟩, hk⟩
    change k ≤ l.length at hk
    have hs := ho.at k
    have hcl := clampL_take l k
    have hk' : k = l.length → l.take k = l := fun e => by rw [e, List.take_length]
    by_cases h : k < l.length
    · have d0 : ((k : Int) < (l.length : Int)) = True := eq_true (by omega)
      have eS := spl_at l k h
      have eN := clampL_step l k h
      generalize l.getD k (0, 0) = s at *
      generalize clampL (l.take k) = A at *
      simp +contextual -implicitDefEqProofs (maxSteps := 2000000) (disch := omega) only [drawC, drawK, keepT, ↓lenV, binV, ↓unV, optV, ↓loadV, ↓storeV, ↓fieldAddrV, ↓indexAddrV, ↓allocV, ↓buildSliceV, ↓sliceV, ↓appendV, ↓srcV, ↓minV, bound, cutTag, hiTag, fillE, GVal.cells, GVal.ofConst, ↓resV, resG, ↓reduceIte, reduceEqDiff, reduceAdd, reduceSub, reduceLeDiff, reduceCtorEq, ↓asrcV, Tag.cap, GVal.solid, Nat.reduceBEq, reduceMul, reduceLT, vcA, ↓vcB, vcC, fbFy, e52, spl_length, d0, eS, spG, all_spl, vcD]
      refine ⟨by omega, fun st => ⟨fun h1 => ⟨by omega, by omega, by omega, fun st_1 => ?_⟩, fun h1 => ?_⟩⟩
      · rw [if_pos h1] at eN
        have eO : List.take A.length (spl A) ++ [[.int .i64 (max s.1 0), .int .i64 s.2]] = spl (clampL (l.take (k + 1))) := by
          rw [List.take_of_length_le (by rw [spl_length]; exact Nat.le_refl _), eN, spl_append, spl_one]; rfl
        have eL : A.length + 1 = (clampL (l.take (k + 1))).length := by rw [eN]; simp
        refine Into.at ⟨(k + 1, st_1), by show k + 1 ≤ _; omega⟩ (by show _ < _; simp; omega) ⟨[.row st 2 [[.int .i64 (max s.1 0), .int .i64 s.2]]], by rw [eO]; rfl⟩ ?_
        simp [WL, leG_self, leG_any, eL]
      · rw [if_neg (by omega), List.append_nil] at eN
        refine Into.at ⟨(k + 1, v), by show k + 1 ≤ _; omega⟩ (by show _ < _; simp; omega) ⟨[.row st 2 [[.int .i64 (max s.1 0), .int .i64 s.2]]], by rw [eN]; rfl⟩ ?_
        simp [WL, leG_self, leG_any, eN]
    · have e : k = l.length := by omega
      rw [hk' e] at *
      clear hk'
      subst e
      have hm := clampL_mem l
      have hh := fun n => clampL_has n l
      have hok := clampL_ok ho
      have hxl := clampL_len l
      generalize clampL l = xs at *
      have d0 : ((l.length : Int) < (l.length : Int)) = False := eq_false (by omega)
      simp +contextual -implicitDefEqProofs (maxSteps := 2000000) (disch := omega) only [drawC, drawK, keepT, ↓lenV, binV, ↓unV, optV, ↓loadV, ↓storeV, ↓fieldAddrV, ↓indexAddrV, ↓allocV, ↓buildSliceV, ↓sliceV, ↓appendV, ↓srcV, ↓minV, bound, cutTag, hiTag, fillE, GVal.cells, GVal.ofConst, ↓resV, resG, ↓reduceIte, reduceEqDiff, reduceAdd, reduceSub, reduceLeDiff, reduceCtorEq, ↓asrcV, Tag.cap, GVal.solid, Nat.reduceBEq, reduceMul, reduceLT, vcA, ↓vcB, vcC, fbFy, e52, spl_length, d0, vcD]
      refine (sSortS xs (by omega) rfl rfl).mono ?_
      rintro _ _ ⟨rfl, ys, hp, hw, rfl⟩
      have hyl : ys.length = xs.length := hp.length_eq
      have hym : ∀ s ∈ ys, (0 ≤ s.1 ∧ s.1 ≤ s.2) ∧ s.2 ≤ 9223372036854775807 := fun s hs => ⟨hm s (hp.mem_iff.1 hs), (hok s (hp.mem_iff.1 hs)).2.2⟩
      have hyh : ∀ n, Sp.has ys n ↔ Sp.has l n := fun n => by rw [Sp.has_perm hp, hh]
      rw [← hyl]
      simp +contextual -implicitDefEqProofs (maxSteps := 2000000) (disch := omega) only [drawC, drawK, keepT, ↓lenV, binV, ↓unV, optV, ↓loadV, ↓storeV, ↓fieldAddrV, ↓indexAddrV, ↓allocV, ↓buildSliceV, ↓sliceV, ↓appendV, ↓srcV, ↓minV, bound, cutTag, hiTag, fillE, GVal.cells, GVal.ofConst, ↓resV, resG, ↓reduceIte, reduceEqDiff, reduceAdd, reduceSub, reduceLeDiff, reduceCtorEq, ↓asrcV, Tag.cap, GVal.solid, Nat.reduceBEq, reduceMul, reduceLT, vcA, ↓vcB, vcC, fbFy, e52, spl_length, vcD]
      refine vcSLoop_by (ι := { p : Nat × List Sp.S × Nat // p.1 ≤ ys.length ∧ MOk (ys.take p.1) p.2.1 }) (fun p => ⟨[.any, .any, .any, .any, .own 1 p.1.2.2 0 p.1.2.1.length] ++ List.replicate 27 .any ++ [.own 0 v 0 ys.length, .int .i64 ys.length, .int .i64 (p.1.1 : Nat)] ++ List.replicate 37 .any, [.row v 2 (spl ys), .row p.1.2.2 2 (spl p.1.2.1)]⟩) (fun p => ys.length - p.1.1) ?_ ?_
      · refine Into.row 4 2 rfl rfl ?_
        simp +contextual -implicitDefEqProofs (maxSteps := 2000000) (disch := omega) only [drawC, drawK, keepT, ↓lenV, binV, ↓unV, optV, ↓loadV, ↓storeV, ↓fieldAddrV, ↓indexAddrV, ↓allocV, ↓buildSliceV, ↓sliceV, ↓appendV, ↓srcV, ↓minV, bound, cutTag, hiTag, fillE, GVal.cells, GVal.ofConst, ↓resV, resG, ↓reduceIte, reduceEqDiff, reduceAdd, reduceSub, reduceLeDiff, reduceCtorEq, ↓asrcV, Tag.cap, GVal.solid, Nat.reduceBEq, reduceMul, reduceLT, vcA, ↓vcB, vcC, fbFy, e52, vcD]
        intro t1
        exact Into.first ⟨(0, [], t1), by omega, by simp [MOk, Sp.Rt, Sp.has, Sp.Ok]⟩ ⟨[], by simp [spl]⟩ (by simp [WL, leG_self, leG_any])
      · rintro ⟨⟨k, out, w⟩, hk, hM⟩
        change k ≤ ys.length at hk
        change MOk (ys.take k) out at hM
        by_cases h : k < ys.length
        · have d0 : ((k : Int) < (ys.length : Int)) = True := eq_true (by omega)
          have eS := spl_at ys k h
          have hs : (0 ≤ (ys.getD k (0, 0)).1 ∧ (ys.getD k (0, 0)).1 ≤ (ys.getD k (0, 0)).2) ∧ (ys.getD k (0, 0)).2 ≤ 9223372036854775807 := by
            rw [List.getD_eq_getElem?_getD, List.getElem?_eq_getElem h]; exact hym _ (List.getElem_mem h)
          have hge : ∀ z ∈ ys.take k, z.1 ≤ (ys.getD k (0, 0)).1 := fun z hz => by
            obtain ⟨i, hi, e⟩ := List.getElem_of_mem hz
            rw [List.length_take] at hi
            rw [List.getElem_take] at e
            have := (List.pairwise_iff_getElem.1 hw) i k (by omega) h (by omega)
            rw [List.getD_eq_getElem?_getD, List.getElem?_eq_getElem h, ← e]; exact this
          have eN := take_getD h
          generalize ys.getD k (0, 0) = s at *
          have hol : out.length ≤ ys.length := by have := hM.2.2.2.1; rw [List.length_take] at this; omega
          rcases List.eq_nil_or_concat out with e | ⟨A, x, e⟩
          · subst e
            have d3 : ((0 : Int) < 0) = False := eq_false (by omega)
            simp +contextual -implicitDefEqProofs (maxSteps := 2000000) (disch := omega) only [drawC, drawK, keepT, ↓lenV, binV, ↓unV, optV, ↓loadV, ↓storeV, ↓fieldAddrV, ↓indexAddrV, ↓allocV, ↓buildSliceV, ↓sliceV, ↓appendV, ↓srcV, ↓minV, bound, cutTag, hiTag, fillE, GVal.cells, GVal.ofConst, ↓resV, resG, ↓reduceIte, reduceEqDiff, reduceAdd, reduceSub, reduceLeDiff, reduceCtorEq, ↓asrcV, Tag.cap, GVal.solid, Nat.reduceBEq, reduceMul, reduceLT, vcA, ↓vcB, vcC, fbFy, e52, spl_length, d0, d3, eS, spG, all_spl, vcD]
            refine ⟨by omega, h, h, fun st st_1 => ?_⟩
            refine Into.at ⟨(k + 1, [s], st_1), by show k + 1 ≤ _; omega, by show MOk _ _; rw [eN]; exact hM.more s ⟨hs.1.1, hs.1.2, hs.2⟩ hge (by simp)⟩ (by show _ < _; simp; omega) ⟨[.row st 2 [[.int .i64 s.1, .int .i64 s.2]]], by rfl⟩ ?_
            simp [WL, leG_self, leG_any]
          · rw [List.concat_eq_append] at e; subst e
            have hx := hM.2.2.2.2 x (by simp)
            have eX : (spl (A ++ [x])).getD A.length [] = spG x := by rw [spl_append, spl_one, ← spl_length A, getD_last]
            have eL : (A ++ [x]).length = A.length + 1 := by simp
            rw [eL] at hol ⊢
            have d1 : ((0 : Int) < ((A.length : Int) + 1)) = True := eq_true (by omega)
            have d2 : ((A.length : Int) + 1 - 1).toNat = A.length := by omega
            simp +contextual -implicitDefEqProofs (maxSteps := 2000000) (disch := omega) only [drawC, drawK, keepT, ↓lenV, binV, ↓unV, optV, ↓loadV, ↓storeV, ↓fieldAddrV, ↓indexAddrV, ↓allocV, ↓buildSliceV, ↓sliceV, ↓appendV, ↓srcV, ↓minV, bound, cutTag, hiTag, fillE, GVal.cells, GVal.ofConst, ↓resV, resG, ↓reduceIte, reduceEqDiff, reduceAdd, reduceSub, reduceLeDiff, reduceCtorEq, ↓asrcV, Tag.cap, GVal.solid, Nat.reduceBEq, reduceMul, reduceLT, vcA, ↓vcB, vcC, fbFy, e52, spl_length, d0, d1, d2, eS, eX, eL, spG, all_spl, vcD]
            refine ⟨by omega, h, h, fun st => ⟨by omega, by omega, ?_⟩⟩
            refine (sBeyond s x (by omega) (by omega)).then ?_
            simp +contextual -implicitDefEqProofs (maxSteps := 2000000) (disch := omega) only [drawC, drawK, keepT, ↓lenV, binV, ↓unV, optV, ↓loadV, ↓storeV, ↓fieldAddrV, ↓indexAddrV, ↓allocV, ↓buildSliceV, ↓sliceV, ↓appendV, ↓srcV, ↓minV, bound, cutTag, hiTag, fillE, GVal.cells, GVal.ofConst, ↓resV, resG, ↓reduceIte, reduceEqDiff, reduceAdd, reduceSub, reduceLeDiff, reduceCtorEq, ↓asrcV, Tag.cap, GVal.solid, Nat.reduceBEq, reduceMul, reduceLT, vcA, ↓vcB, vcC, fbFy, e52, spl_length, d0, d1, d2, eS, eX, eL, spG, all_spl, vcD]
            refine ⟨fun h5 => ⟨by omega, by omega, by omega, fun st_1 => ?_⟩, fun h5 => ⟨by omega, by omega, by omega, by omega, ?_⟩⟩
            · refine Into.at ⟨(k + 1, A ++ [x] ++ [s], st_1), by show k + 1 ≤ _; omega, by show MOk _ _; rw [eN]; exact hM.more s ⟨hs.1.1, hs.1.2, hs.2⟩ hge (fun z hz => by simp at hz; subst hz; exact h5)⟩ (by show _ < _; simp; omega) ⟨[.row st 2 [[.int .i64 s.1, .int .i64 s.2]]], ?_⟩ ?_
              · rw [List.take_of_length_le (by rw [spl_length, eL]; exact Nat.le_refl _), spl_append _ [s], spl_one]; rfl
              · simp [WL, leG_self, leG_any]
            · refine Into.at ⟨(k + 1, A ++ [(x.1, max x.2 s.2)], w), by show k + 1 ≤ _; omega, by show MOk _ _; rw [eN]; exact hM.grow s ⟨hs.1.1, hs.1.2, hs.2⟩ hge h5⟩ (by show _ < _; simp; omega) ⟨[.row st 2 [[.int .i64 s.1, .int .i64 s.2]]], ?_⟩ ?_
              · have := spl_setLast A x (x.1, max x.2 s.2)
                simp only [spG] at this
                rw [this]; rfl
              · simp [WL, leG_self, leG_any]
        · have d0 : ((k : Int) < (ys.length : Int)) = False := eq_false (by omega)
          have hk' : k = ys.length := by omega
          rw [hk', List.take_length] at hM
          simp +contextual -implicitDefEqProofs (maxSteps := 2000000) (disch := omega) only [drawC, drawK, keepT, ↓lenV, binV, ↓unV, optV, ↓loadV, ↓storeV, ↓fieldAddrV, ↓indexAddrV, ↓allocV, ↓buildSliceV, ↓sliceV, ↓appendV, ↓srcV, ↓minV, bound, cutTag, hiTag, fillE, GVal.cells, GVal.ofConst, ↓resV, resG, ↓reduceIte, reduceEqDiff, reduceAdd, reduceSub, reduceLeDiff, reduceCtorEq, ↓asrcV, Tag.cap, GVal.solid, Nat.reduceBEq, reduceMul, reduceLT, vcA, ↓vcB, vcC, fbFy, e52, spl_length, d0, vcD]
          have eR : Sp.nf l = out := Sp.nf_eq hM.1 fun n => by rw [hM.2.1, hyh]
          rw [eR]
          exact ⟨v, w, ys, rfl, rfl⟩

theorem sMake (l : List Sp.S) (t : Tag) (hl : l.length ≤ 4398046511104) (ho : Sp.Ok l) : GPure Tryz.prog 52 [.slice (spl l) t] (.slice (spl (Sp.nf l)) .none) :=
  GCalls.toPure ((cMake l t hl ho).mono fun g O' ⟨st0, st1, ys, e1, e2⟩ => ⟨4, .slice (spl (Sp.nf l)) .none, by
    rw [e1, e2]; exact frz_own rfl (spl_length _).symm (frz_spl _ 2 _), by rw [leA_slice]⟩)
end Gv.Tryz
/- Contracts: Grow and Concat of spans, spans.Union. -/
set_option linter.unusedVariables false
set_option linter.unusedSimpArgs false
set_option maxRecDepth 20000
set_option maxHeartbeats 4000000
namespace Gv.Tryz
open Go Gv Go.Proofs
open Nat (reduceEqDiff reduceAdd reduceSub reduceLeDiff reduceMul reduceLT)
theorem sGrow (n : Nat) (hn : n ≤ 4398046511104) : GCalls Tryz.prog 113 [.slice [] .nil, .int .i64 n] [] (fun g O' => (n = 0 ∧ g = .slice [] .nil ∧ O' = []) ∨ ∃ st xs, g = .own 0 st 0 0 ∧ O' = [.row st 2 xs]) := by
  refine h113.calls mixS (by simp) ?_
  simp only [gstart, s113, List.cons_append, List.nil_append, List.length_cons, List.length_nil, reduceAdd, reduceSub, List.replicate_succ, List.replicate_zero]
  have d0 : ((n : Int) < 0) = False := eq_false (by omega)
  simp +contextual -implicitDefEqProofs (maxSteps := 2000000) (disch := omega) only [↓lenV, binV, optV, ↓sliceV, ↓ifaceV, ↓appendV, ↓srcV, bound, cutTag, hiTag, GVal.cells, GVal.ofConst, ↓resV, resG, ↓reduceIte, reduceEqDiff, reduceAdd, reduceSub, reduceLeDiff, reduceCtorEq, ↓asrcV, ↓capV, Tag.cap, GVal.solid, Nat.reduceBEq, reduceMul, reduceLT, vcA, ↓vcB, vcC, fbFy, e113, d0, false_imp_iff, true_and, vcD]
  refine ⟨fun h => ⟨by omega, by omega, by omega, by omega, by omega, by omega, fun y hy => by rw [(List.mem_replicate.1 hy).2]; rfl, by simp; omega, by simp; omega, .inr trivial, fun st => ⟨by omega, by omega, by omega, .inr ⟨st, _, rfl, rfl⟩⟩⟩, fun h => .inl (by omega)⟩

theorem sConcat (a b : List Sp.S) (ta tb tt : Tag) (hl : a.length + b.length ≤ 4398046511104) : GPure Tryz.prog 87 [.slice [[.slice (spl a) ta], [.slice (spl b) tb]] tt] (.slice (spl (a ++ b)) .none) := by
  refine h87.pureF mixS (by simp) ?_
  simp only [gstart, s87, List.cons_append, List.nil_append, List.length_cons, List.length_nil, reduceAdd, reduceSub, List.replicate_succ, List.replicate_zero]
  simp +contextual -implicitDefEqProofs (maxSteps := 2000000) (disch := omega) only [↓lenV, binV, optV, ↓loadV, ↓indexAddrV, ↓sliceV, ↓ifaceV, ↓appendV, ↓srcV, bound, cutTag, hiTag, GVal.cells, GVal.ofConst, ↓resV, resG, ↓reduceIte, reduceEqDiff, reduceAdd, reduceSub, reduceLeDiff, reduceCtorEq, ↓asrcV, Tag.cap, GVal.solid, Nat.reduceBEq, reduceMul, reduceLT, vcA, ↓vcB, vcC, fbFy, e87, vcD]
  refine vcSLoop_by (ι := { p : Nat × Nat // (p.1 = 0 ∧ p.2 = 0) ∨ (p.1 = 1 ∧ p.2 = a.length) ∨ (p.1 = 2 ∧ p.2 = a.length + b.length) }) (fun p => ⟨[.slice [[.slice (spl a) ta], [.slice (spl b) tb]] tt, .any, .any, .int .i64 (p.1.2 : Nat), .any, .any, .any, .any, .any, .slice [[.slice (spl a) ta], [.slice (spl b) tb]] tt, .int .i64 2, .int .i64 (p.1.1 : Nat)] ++ List.replicate 24 .any, []⟩) (fun p => 2 - p.1.1) ?_ ?_
  · exact Into.first ⟨(0, 0), .inl ⟨rfl, rfl⟩⟩ ⟨[], by simp⟩ (by simp [WL, leG_self, leG_any])
  · rintro ⟨⟨k, n⟩, hk⟩
    simp only [] at hk
    rcases hk with ⟨rfl, rfl⟩ | ⟨rfl, rfl⟩ | ⟨rfl, rfl⟩
    · have d1 : ((0 : Int) + a.length < 0) = False := eq_false (by omega)
      simp +contextual -implicitDefEqProofs (maxSteps := 2000000) (disch := omega) only [↓lenV, binV, optV, ↓loadV, ↓indexAddrV, ↓sliceV, ↓ifaceV, ↓appendV, ↓srcV, bound, cutTag, hiTag, GVal.cells, GVal.ofConst, ↓resV, resG, ↓reduceIte, reduceEqDiff, reduceAdd, reduceSub, reduceLeDiff, reduceCtorEq, ↓asrcV, Tag.cap, GVal.solid, Nat.reduceBEq, reduceMul, reduceLT, vcA, ↓vcB, vcC, fbFy, e87, spl_length, Int.reduceLT, Int.reduceLE, Int.reduceToNat, true_imp_iff, false_imp_iff, d1, vcD]
      exact Into.at ⟨(1, a.length), .inr (.inl ⟨rfl, rfl⟩)⟩ (by show _ < _; simp) ⟨[], by simp⟩ (by simp [WL, leG_self, leG_any, leG_int])
    · have d1 : ((a.length : Int) + b.length < 0) = False := eq_false (by omega)
      simp +contextual -implicitDefEqProofs (maxSteps := 2000000) (disch := omega) only [↓lenV, binV, optV, ↓loadV, ↓indexAddrV, ↓sliceV, ↓ifaceV, ↓appendV, ↓srcV, bound, cutTag, hiTag, GVal.cells, GVal.ofConst, ↓resV, resG, ↓reduceIte, reduceEqDiff, reduceAdd, reduceSub, reduceLeDiff, reduceCtorEq, ↓asrcV, Tag.cap, GVal.solid, Nat.reduceBEq, reduceMul, reduceLT, vcA, ↓vcB, vcC, fbFy, e87, spl_length, Int.reduceLT, Int.reduceLE, Int.reduceToNat, true_imp_iff, false_imp_iff, d1, vcD]
      exact Into.at ⟨(2, a.length + b.length), .inr (.inr ⟨rfl, rfl⟩)⟩ (by show _ < _; simp) ⟨[], by simp⟩ (by simp [WL, leG_self, leG_any, leG_int])
    · simp +contextual -implicitDefEqProofs (maxSteps := 2000000) (disch := omega) only [↓lenV, binV, optV, ↓loadV, ↓indexAddrV, ↓sliceV, ↓ifaceV, ↓appendV, ↓srcV, bound, cutTag, hiTag, GVal.cells, GVal.ofConst, ↓resV, resG, ↓reduceIte, reduceEqDiff, reduceAdd, reduceSub, reduceLeDiff, reduceCtorEq, ↓asrcV, Tag.cap, GVal.solid, Nat.reduceBEq, reduceMul, reduceLT, vcA, ↓vcB, vcC, fbFy, e87, spl_length, Int.reduceLT, Int.reduceLE, Int.reduceToNat, true_imp_iff, false_imp_iff, vcD]
      have hg := sGrow (a.length + b.length) hl
      rw [Int.natCast_add] at hg
      refine hg.mono ?_
      clear hg
      rintro g O' hg
      simp +contextual -implicitDefEqProofs (maxSteps := 2000000) (disch := omega) only [↓lenV, binV, optV, ↓loadV, ↓indexAddrV, ↓sliceV, ↓ifaceV, ↓appendV, ↓srcV, bound, cutTag, hiTag, GVal.cells, GVal.ofConst, ↓resV, resG, ↓reduceIte, reduceEqDiff, reduceAdd, reduceSub, reduceLeDiff, reduceCtorEq, ↓asrcV, Tag.cap, GVal.solid, Nat.reduceBEq, reduceMul, reduceLT, vcA, ↓vcB, vcC, fbFy, e87, vcD]
      refine vcSLoop_by (ι := { p : Nat × List Sp.S × Nat × List (List GVal) // (p.1 = 0 ∧ p.2.1 = []) ∨ (p.1 = 1 ∧ p.2.1 = a ∧ p.2.2.2 = spl a) ∨ (p.1 = 2 ∧ p.2.1 = a ++ b ∧ p.2.2.2 = spl (a ++ b)) }) (fun p => ⟨[.any, .any, .any, .any, .any, .any, .own 0 p.1.2.2.1 0 p.1.2.1.length] ++ List.replicate 18 .any ++ [.slice [[.slice (spl a) ta], [.slice (spl b) tb]] tt, .int .i64 2, .int .i64 (p.1.1 : Nat)] ++ List.replicate 8 .any, [.row p.1.2.2.1 2 p.1.2.2.2]⟩) (fun p => 2 - p.1.1) ?_ ?_
      · rcases hg with ⟨_, rfl, rfl⟩ | ⟨st, xs, rfl, rfl⟩
        · refine Into.row 6 2 rfl rfl ?_
          simp +contextual -implicitDefEqProofs (maxSteps := 2000000) (disch := omega) only [↓lenV, binV, optV, ↓loadV, ↓indexAddrV, ↓sliceV, ↓ifaceV, ↓appendV, ↓srcV, bound, cutTag, hiTag, GVal.cells, GVal.ofConst, ↓resV, resG, ↓reduceIte, reduceEqDiff, reduceAdd, reduceSub, reduceLeDiff, reduceCtorEq, ↓asrcV, Tag.cap, GVal.solid, Nat.reduceBEq, reduceMul, reduceLT, vcA, ↓vcB, vcC, fbFy, e87, vcD]
          intro t0
          exact Into.first ⟨(0, [], t0, []), .inl ⟨rfl, rfl⟩⟩ ⟨[], by simp⟩ (by simp [WL, leG_self, leG_any])
        · exact Into.first ⟨(0, [], st, xs), .inl ⟨rfl, rfl⟩⟩ ⟨[], by simp⟩ (by simp [WL, leG_self, leG_any])
      · rintro ⟨⟨k, L, v, xs⟩, hk⟩
        simp only [] at hk
        rcases hk with ⟨rfl, rfl⟩ | ⟨rfl, rfl, rfl⟩ | ⟨rfl, rfl, rfl⟩
        · simp +contextual -implicitDefEqProofs (maxSteps := 2000000) (disch := omega) only [↓lenV, binV, optV, ↓loadV, ↓indexAddrV, ↓sliceV, ↓ifaceV, ↓appendV, ↓srcV, bound, cutTag, hiTag, GVal.cells, GVal.ofConst, ↓resV, resG, ↓reduceIte, reduceEqDiff, reduceAdd, reduceSub, reduceLeDiff, reduceCtorEq, ↓asrcV, Tag.cap, GVal.solid, Nat.reduceBEq, reduceMul, reduceLT, vcA, ↓vcB, vcC, fbFy, e87, spl_length, Int.reduceLT, Int.reduceLE, Int.reduceToNat, true_imp_iff, false_imp_iff, all_spl, vcD]
          exact ⟨by omega, by omega, by omega, fun st => Into.at ⟨(1, a, st, spl a), .inr (.inl ⟨rfl, rfl, rfl⟩)⟩ (by show _ < _; simp) ⟨[], by simp⟩ (by simp [WL, leG_self, leG_any, leG_int])⟩
        · simp +contextual -implicitDefEqProofs (maxSteps := 2000000) (disch := omega) only [↓lenV, binV, optV, ↓loadV, ↓indexAddrV, ↓sliceV, ↓ifaceV, ↓appendV, ↓srcV, bound, cutTag, hiTag, GVal.cells, GVal.ofConst, ↓resV, resG, ↓reduceIte, reduceEqDiff, reduceAdd, reduceSub, reduceLeDiff, reduceCtorEq, ↓asrcV, Tag.cap, GVal.solid, Nat.reduceBEq, reduceMul, reduceLT, vcA, ↓vcB, vcC, fbFy, e87, spl_length, Int.reduceLT, Int.reduceLE, Int.reduceToNat, true_imp_iff, false_imp_iff, all_spl, vcD]
          exact ⟨by omega, by omega, by omega, fun st => Into.at ⟨(2, L ++ b, st, spl (L ++ b)), .inr (.inr ⟨rfl, rfl, rfl⟩)⟩ (by show _ < _; simp) ⟨[], by rw [List.take_of_length_le (by rw [spl_length]; exact Nat.le_refl _), spl_append]; simp⟩ (by simp [WL, leG_self, leG_any, leG_int])⟩
        · simp +contextual -implicitDefEqProofs (maxSteps := 2000000) (disch := omega) only [↓lenV, binV, optV, ↓loadV, ↓indexAddrV, ↓sliceV, ↓ifaceV, ↓appendV, ↓srcV, bound, cutTag, hiTag, GVal.cells, GVal.ofConst, ↓resV, resG, ↓reduceIte, reduceEqDiff, reduceAdd, reduceSub, reduceLeDiff, reduceCtorEq, ↓asrcV, Tag.cap, GVal.solid, Nat.reduceBEq, reduceMul, reduceLT, vcA, ↓vcB, vcC, fbFy, e87, spl_length, Int.reduceLT, Int.reduceLE, Int.reduceToNat, true_imp_iff, false_imp_iff, vcD]
          exact ⟨4, .slice (spl (a ++ b)) .none, frz_own rfl (spl_length _).symm (frz_spl _ 2 _), by rw [leA_slice]⟩

theorem sUnion (a b : List Sp.S) (ta tb : Tag) (hl : a.length + b.length ≤ 4398046511104) (ha : Sp.Ok a) (hb : Sp.Ok b) : GPure Tryz.prog 51 [.slice (spl a) ta, .slice (spl b) tb] (.slice (spl (Sp.uni a b)) .none) := by
  refine h51.pure mixS (by simp) ?_
  simp only [gstart, s51, List.cons_append, List.nil_append, List.length_cons, List.length_nil, reduceAdd, reduceSub, List.replicate_succ, List.replicate_zero]
  simp +contextual -implicitDefEqProofs (maxSteps := 2000000) (disch := omega) only [optV, ↓buildSliceV, ↓sliceV, bound, cutTag, hiTag, fillE, GVal.cells, GVal.ofConst, ↓resV, resG, ↓reduceIte, reduceEqDiff, reduceAdd, reduceSub, reduceLeDiff, reduceCtorEq, Tag.cap, GVal.solid, Nat.reduceBEq, reduceMul, reduceLT, vcA, ↓vcB, vcC, fbFy, e51, vcD]
  refine (sConcat a b ta tb _ hl).then ?_ (by rfl)
  simp +contextual -implicitDefEqProofs (maxSteps := 2000000) (disch := omega) only [optV, ↓buildSliceV, ↓sliceV, bound, cutTag, hiTag, fillE, GVal.cells, GVal.ofConst, ↓resV, resG, ↓reduceIte, reduceEqDiff, reduceAdd, reduceSub, reduceLeDiff, reduceCtorEq, Tag.cap, GVal.solid, Nat.reduceBEq, reduceMul, reduceLT, vcA, ↓vcB, vcC, fbFy, e51, vcD]
  refine (sMake (a ++ b) .none (by simp; omega) (ha.app hb)).then ?_ (by rfl)
  simp +contextual -implicitDefEqProofs (maxSteps := 2000000) (disch := omega) only [optV, ↓buildSliceV, ↓sliceV, bound, cutTag, hiTag, fillE, GVal.cells, GVal.ofConst, ↓resV, resG, ↓reduceIte, reduceEqDiff, reduceAdd, reduceSub, reduceLeDiff, reduceCtorEq, Tag.cap, GVal.solid, Nat.reduceBEq, reduceMul, reduceLT, vcA, ↓vcB, vcC, fbFy, e51, vcD]
  rfl

end Gv.Tryz
/- A call that is handed rows of the caller's to read: for the call they are plain lists; behind it they are rows again. What it makes lies behind them. -/
set_option linter.unusedVariables false
namespace Gv
open Go
def plainG : GVal → Bool
  | .any => true
  | .bool _ => true
  | .ubool => true
  | .int _ _ => true
  | .str _ => true
  | .lit _ => true
  | .own _ _ _ _ => true
  | .slice [] .none => true
  | _ => false
theorem VR.plain {E F : Env} {v : Value} {g : GVal} (hl : ∀ s l, E.loc s = some l → F.loc s = some l) (h : VR E v g) (hg : plainG g = true) : VR F v g := by
  cases h with
  | any v => exact .any v
  | bool b => exact .bool b
  | ubool b => exact .ubool b
  | int k n => exact .int k n
  | str s => exact .str s
  | lit v => exact .lit v
  | own a len cap o st i l h1 hcap ha => exact .own a len cap o st i l (hl _ _ h1) hcap ha
  | slice a len cap xs tag sz c hlen hcap hsz ha hc ht =>
    cases xs with
    | cons x r => cases hg
    | nil => cases tag with
      | none => exact .slice a len cap [] .none sz c hlen hcap hsz (fun h => absurd rfl h) (fun j g hj => by simp at hj) trivial
      | _ => cases hg
  | _ => cases hg
def GObj.flat : GObj → Bool
  | .row _ _ xs => xs.all fun r => r.all plainG
  | .dead => true
  | _ => false
def GVal.shift (k : Nat) : GVal → GVal
  | .own o st i len => .own (o + k) st i len
  | g => g
theorem VR.shift {E : Env} {v : Value} {g : GVal} (k : Nat) (h : VR E v g) : VR E v (g.shift k) := by
  cases h with
  | own a len cap o st i l h1 hcap ha => exact .own a len cap _ st i l h1 hcap ha
  | any v => exact .any v
  | bool b => exact .bool b
  | ubool b => exact .ubool b
  | int k n => exact .int k n
  | str s => exact .str s
  | lit v => exact .lit v
  | slice a len cap xs tag sz c hlen hcap hsz ha hc ht => exact .slice a len cap xs tag sz c hlen hcap hsz ha hc ht
  | agg vs cs hs hc => exact .agg vs cs hs hc
  | tuple vs cs hs hc => exact .tuple vs cs hs hc
  | ref b off cs c ha hc => exact .ref b off cs c ha hc
  | ptr b off o st i j l hl hb ho => exact .ptr b off o st i j l hl hb ho
  | map r o st l hl hb => exact .map r o st l hl hb
  | func fn fs cs gs ks hf hk hfs hcs => exact .func fn fs cs gs ks hf hk hfs hcs
  | iface t v g h => exact .iface t v g h
  | cond c v g h => exact .cond c v g h
open Classical in
theorem GCalls.borrow {P : Program} {f : FuncId} {args args' : List GVal} {O : List GObj} {K : GVal → List GObj → Prop} (n : Nat) (h : GCalls P f args' [] K) (ha' : frzL (Gv.frz O n) args = some args') (hc : clockOf O = none)
    (hK : ∀ g O', K g O' → plainG g = true ∧ ∀ x ∈ O', x.flat = true) : GCalls P f args O (fun g O'' => ∃ g0 O', K g0 O' ∧ g = g0.shift O.length ∧ O'' = O ++ O') := by
  refine ⟨h.1, fun E w vs hs ha => ?_⟩
  obtain ⟨f1, f2⟩ := hs.frz
  have hb : ArgsR (E.frz O w) vs args' := ⟨by rw [ha.1, frzL_len ha'], fun i g hg => by
    obtain ⟨x, q1, q2⟩ := frzL_at ha' i g hg
    exact frz_sound hs n _ x g (ha.2 i x q1) q2⟩
  refine (h.2 _ w vs f1 hb).mono ?_
  rintro e w' ⟨v, E', O', g, rfl, h1, h2, h3, h5⟩
  obtain ⟨hg, hfl⟩ := hK g O' h5
  have hno : ∀ b, ¬ InO (E.frz O w) [] b := fun b ⟨i, x, hx, _⟩ => by simp at hx
  have hold : ∀ b, b < w.heap.size → w'.heap[b]? = w.heap[b]? := fun b hb => h2.heap b hb (hno b)
  have hle : E.le E' := f2.ext.trans h2.ext
  let F : Env := { loc := E'.loc, snap := fun b o => match E.snap b o with
    | some v => some v
    | none => if b < w.heap.size then none else E'.snap b o }
  have hF : E.le F := ⟨fun b o v h => by show (match E.snap b o with | some v => some v | none => _) = _; rw [h], hle.loc⟩
  have hFs : ∀ b o v, F.snap b o = some v → E'.snap b o = some v := by
    intro b o v hv
    change (match E.snap b o with | some v => some v | none => if b < w.heap.size then none else E'.snap b o) = some v at hv
    cases hs : E.snap b o with
    | some u => rw [hs] at hv; cases hv; exact hle.snap _ _ _ hs
    | none =>
      rw [hs] at hv
      simp only at hv
      split at hv
      · cases hv
      · exact hv
  have hFo : ∀ b o v, b < w.heap.size → F.snap b o = some v → E.snap b o = some v := by
    intro b o v hb hv
    change (match E.snap b o with | some v => some v | none => if b < w.heap.size then none else E'.snap b o) = some v at hv
    cases hs : E.snap b o with
    | some u => rw [hs] at hv; exact hv
    | none => rw [hs] at hv; simp only [if_pos hb] at hv; cases hv
  have hFn : ∀ b o, E'.snap b o = none → F.snap b o = none := fun b o hn => by
    cases hq : F.snap b o with
    | none => rfl
    | some v => rw [hFs b o v hq] at hn; cases hn
  have hbk : ∀ x : GObj, x.blk F = x.blk E' := fun x => by cases x <;> rfl
  have hbO : ∀ (i : Nat) x, O[i]? = some x → x.blk F = x.blk E := fun i x hx => GObj.blk_mono hF (hs.real i x hx)
  have hnew : ∀ (i : Nat) x b, O'[i]? = some x → x.blk F = some b → w.heap.size ≤ b := fun i x b hx hb => by
    rcases h2.objs b ⟨i, x, hx, by rw [← hbk]; exact hb⟩ with q | q
    · exact absurd q (hno b)
    · exact q
  have hcl : clockOf (O ++ O') = none := by
    cases O with
    | nil =>
      rw [List.nil_append]
      cases O' with
      | nil => rfl
      | cons x r =>
        have := hfl x (by simp)
        cases x <;> first | rfl | cases this
    | cons x r => cases x <;> first | rfl | cases hc
  have hreal : ∀ (i : Nat) x, (O ++ O')[i]? = some x → Realized F w' x := by
    intro i x hx
    by_cases hi : i < O.length
    · rw [List.getElem?_append_left hi] at hx
      exact (hs.real i x hx).keep hF (fun b hb => hold b ((hs.real i x hx).blk_lt hb)) (fun b o v hb hv => hFo b o v ((hs.real i x hx).blk_lt hb) hv)
    · rw [List.getElem?_append_right (by omega)] at hx
      have hr := h1.real _ x hx
      have hf := hfl x (List.mem_of_getElem? hx)
      cases x with
      | dead => trivial
      | row st sz xs =>
        obtain ⟨l, hl, hls, hsx, hrr⟩ := hr
        refine ⟨l, hl, hls, hsx, ?_⟩
        cases hb : l.block with
        | none => simp only [hb] at hrr; exact hrr
        | some b =>
          simp only [hb] at hrr
          obtain ⟨cur, el, q1, q2, q3, q4, q5⟩ := hrr
          refine ⟨cur, el, q1, q2, q3, fun k c hk => ?_, fun o => hFn _ _ (q5 o)⟩
          obtain ⟨x, z1, z2, z3⟩ := q4 k c hk
          refine ⟨x, z1, z2, z3.plain (E := E') (F := F) (fun s l h => show F.loc s = some l from h) ?_⟩
          have hcm := List.mem_of_getElem? hk
          obtain ⟨r, hr1, hr2⟩ := List.mem_flatten.1 hcm
          simp only [GObj.flat, List.all_eq_true] at hf
          exact hf r hr1 c hr2
      | _ => cases hf
  refine ⟨v, F, O ++ O', g.shift O.length, rfl, ⟨?_, fun b o v hv => h1.sealed b o v (hFs b o v hv), fun b o v hv => h1.one b o v (hFs b o v hv), hreal, ?_, hs.globLe hF⟩, ⟨hF, ?_, ?_, h2.size, fun b hb _ => hold b hb, ?_, ?_, trivial⟩, (h3.plain (E := E') (F := F) (fun s l h => show F.loc s = some l from h) hg).shift _, g, O', h5, rfl, rfl⟩
  · obtain ⟨m, _, q⟩ := h1.fin
    exact ⟨m, fun c e => by rw [hcl] at e; (cases e), q⟩
  · intro i j oi oj b hij hi hj hbi hbj
    by_cases ii : i < O.length
    · rw [List.getElem?_append_left ii] at hi
      rw [hbO i oi hi] at hbi
      by_cases jj : j < O.length
      · rw [List.getElem?_append_left jj] at hj
        rw [hbO j oj hj] at hbj
        exact hs.sep i j oi oj b hij hi hj hbi hbj
      · rw [List.getElem?_append_right (by omega)] at hj
        have h6 := hnew _ oj b hj hbj
        have h7 := (hs.real i oi hi).blk_lt hbi
        omega
    · rw [List.getElem?_append_right (by omega)] at hi
      by_cases jj : j < O.length
      · rw [List.getElem?_append_left jj] at hj
        rw [hbO j oj hj] at hbj
        have h6 := hnew _ oi b hi hbi
        have h7 := (hs.real j oj hj).blk_lt hbj
        omega
      · rw [List.getElem?_append_right (by omega)] at hj
        rw [hbk] at hbi hbj
        exact h1.sep _ _ oi oj b (by omega) hi hj hbi hbj
  · rw [h2.os, f2.os]
  · rw [h2.out, f2.out]
  · intro b o v hv
    by_cases hb : b < w.heap.size
    · exact .inl (hFo b o v hb hv)
    · exact .inr (.inl (by omega))
  · intro b ⟨i, x, hx, hbx⟩
    by_cases hi : i < O.length
    · rw [List.getElem?_append_left hi] at hx
      exact .inl ⟨i, x, hx, by rw [← hbO i x hx]; exact hbx⟩
    · rw [List.getElem?_append_right (by omega)] at hx
      exact .inr (hnew _ x b hx hbx)
end Gv
/- A row at the end of the objects becomes a plain list, in the middle of a walk. -/
set_option linter.unusedVariables false
namespace Gv
open Go
theorem HSim.melt {E : Env} {O : List GObj} {t sz : Nat} {xs : List (List GVal)} {w : World} (h : HSim E (O ++ [.row t sz xs]) w) :
    HSim E [.row t sz xs] w ∧ HSim (E.frz [.row t sz xs] w) O w ∧ Keep E (O ++ [.row t sz xs]) w (E.frz [.row t sz xs] w) O w := by
  have hlast : (O ++ [GObj.row t sz xs])[O.length]? = some (.row t sz xs) := by simp
  have at0 : ∀ (i : Nat) x, [GObj.row t sz xs][i]? = some x → i = 0 ∧ x = .row t sz xs := fun i x hx => by
    cases i with
    | zero => simp at hx; exact ⟨rfl, hx.symm⟩
    | succ i => simp at hx
  have hX : HSim E [.row t sz xs] w := ⟨by obtain ⟨n, _, q⟩ := h.fin; exact ⟨n, (fun c hc => by cases hc), q⟩, h.sealed, h.one, fun i x hx => by
    obtain ⟨rfl, rfl⟩ := at0 i x hx
    exact h.real _ _ hlast, fun i j oi oj b hij hi hj => absurd ((at0 i oi hi).1.trans (at0 j oj hj).1.symm) hij, h.glob⟩
  obtain ⟨f1, f2⟩ := hX.frz
  obtain ⟨d1, d2⟩ := h.drop
  have hbk : ∀ x : GObj, x.blk (E.frz [.row t sz xs] w) = x.blk E := fun x => by cases x <;> rfl
  have hO : ∀ (i : Nat) x, O[i]? = some x → (O ++ [GObj.row t sz xs])[i]? = some x ∧ i < O.length := fun i x hx => by
    have := (List.getElem?_eq_some_iff.1 hx).1
    rw [List.getElem?_append_left this]; exact ⟨hx, this⟩
  have hsn : ∀ (i : Nat) x, O[i]? = some x → ∀ b o v, x.blk E = some b → (E.frz [.row t sz xs] w).snap b o = some v → E.snap b o = some v := by
    intro i x hx b o v hb hv
    rcases f2.snap b o v hv with q | q | ⟨j, y, hy, hyb⟩
    · exact q
    · have := (d1.real i x hx).blk_lt hb; omega
    · obtain ⟨rfl, rfl⟩ := at0 j y hy
      obtain ⟨q, lt⟩ := hO i x hx
      exact absurd hyb (h.sep i O.length x _ b (by omega) q hlast hb)
  refine ⟨hX, ⟨d1.fin, f1.sealed, f1.one, fun i x hx => (d1.real i x hx).keep f2.ext (fun _ _ => rfl) (fun b o v hb hv => hsn i x hx b o v hb hv), fun i j oi oj b hij hi hj hbi hbj => ?_, f1.glob⟩,
    ⟨f2.ext, rfl, rfl, Nat.le_refl _, fun _ _ _ => rfl, fun b o v hv => ?_, fun b ⟨i, x, hx, hb⟩ => .inl ⟨i, x, (hO i x hx).1, by rw [← hbk]; exact hb⟩, trivial⟩⟩
  · rw [hbk] at hbi hbj
    exact d1.sep i j oi oj b hij hi hj hbi hbj
  · rcases f2.snap b o v hv with q | q | ⟨j, y, hy, hyb⟩
    · exact .inl q
    · exact .inr (.inl q)
    · obtain ⟨rfl, rfl⟩ := at0 j y hy
      exact .inr (.inr ⟨O.length, _, hlast, hyb⟩)
theorem Into.melt {st : GSt} {N : GSt → Prop} {O : List GObj} (i n : Nat) {t sz len : Nat} {xs xs' : List (List GVal)} (ho : st.o = O ++ [.row t sz xs]) (hx : sget st.s i = .own O.length t 0 len) (hl : len = xs.length)
    (hf : frzLL (Gv.frz [.row t sz xs] n) xs = some xs') (h : Into ⟨st.s.set i (.slice xs' .none), O⟩ N) : Into st N := by
  intro E a w hs ha
  rw [ho] at hs
  obtain ⟨h0, h1, h2⟩ := hs.melt
  have ha' : SlotsR (E.frz [.row t sz xs] w) a (st.s.set i (.slice xs' .none)) := by
    refine ⟨by simp [ha.size], ha.defers, fun k g hg => ?_⟩
    rw [List.getElem?_set] at hg
    by_cases hk : i = k
    · subst hk
      rw [if_pos rfl] at hg
      split at hg
      · rename_i hlt
        simp only [Option.some.injEq] at hg
        subst hg
        have := ha.at_ i _ (getD_of (d := GVal.any) hlt)
        have hx' : st.s.getD i .any = .own O.length t 0 len := hx
        rw [hx'] at this
        have q : VR E (a.tmps.getD i undef) (.own 0 t 0 len) := by
          revert this
          generalize a.tmps.getD i undef = tv
          intro this
          cases this with
          | own a len cap o st i l q1 q2 q3 => exact .own a _ cap _ _ _ l q1 q2 q3
        subst hl
        exact frz_sound h0 (n + 1) _ _ _ q (by simp [Gv.frz, hf])
      · cases hg
    · rw [if_neg hk] at hg
      exact (ha.at_ k g hg).mono h2.ext
  obtain ⟨st', E', q1, q2, q3, q4⟩ := h _ a w h1 ha'
  exact ⟨st', E', q1, q2, by rw [ho]; exact h2.trans q3, q4⟩
theorem GCalls.newBy (u : GVal → GVal) (hu : ∀ E v g, VR E v g → VR E v (u g)) {P : Program} {f : FuncId} {args : List GVal} {K : GVal → List GObj → Prop} (h : GCalls P f args [] K) {O : List GObj} (hc : clockOf O = none) (hK : ∀ g O', K g O' → clockOf O' = none) :
    GCalls P f args O (fun g O'' => ∃ g0 O', K g0 O' ∧ g = u g0 ∧ O'' = O ++ O') := by
  refine ⟨h.1, fun E w vs hs ha => (h.2 E w vs hs.nil ha).mono ?_⟩
  rintro e w' ⟨v, E', O', g, rfl, h1, h2, h3, h5⟩
  have hno : ∀ b, ¬ InO E [] b := fun b ⟨i, x, hx, _⟩ => by simp at hx
  have hold : ∀ b, b < w.heap.size → w'.heap[b]? = w.heap[b]? := fun b hb => h2.heap b hb (hno b)
  have hsn : ∀ b o v, b < w.heap.size → E'.snap b o = some v → E.snap b o = some v := fun b o v hb hv => by
    rcases h2.snap b o v hv with q | q | q
    · exact q
    · omega
    · exact absurd q (hno b)
  have hb : ∀ (i : Nat) x, O[i]? = some x → x.blk E' = x.blk E := fun i x hx => GObj.blk_mono h2.ext (hs.real i x hx)
  have hnew : ∀ (i : Nat) x b, O'[i]? = some x → x.blk E' = some b → w.heap.size ≤ b := fun i x b hx hb => by
    rcases h2.objs b ⟨i, x, hx, hb⟩ with q | q
    · exact absurd q (hno b)
    · exact q
  have hcl : clockOf (O ++ O') = none := by
    cases O with
    | nil => rw [List.nil_append]; exact hK g O' h5
    | cons x r => cases x <;> first | rfl | cases hc
  have hreal : ∀ (i : Nat) x, (O ++ O')[i]? = some x → Realized E' w' x := by
    intro i x hx
    by_cases hi : i < O.length
    · rw [List.getElem?_append_left hi] at hx
      exact (hs.real i x hx).keep h2.ext (fun b hb => hold b ((hs.real i x hx).blk_lt hb)) (fun b o v hb hv => hsn b o v ((hs.real i x hx).blk_lt hb) hv)
    · rw [List.getElem?_append_right (by omega)] at hx
      exact h1.real _ x hx
  refine ⟨v, E', O ++ O', u g, rfl, ⟨?_, h1.sealed, h1.one, hreal, ?_, h1.glob⟩, ⟨h2.ext, h2.os, h2.out, h2.size, fun b hb _ => hold b hb, ?_, ?_, trivial⟩, hu _ _ _ h3, g, O', h5, rfl, rfl⟩
  · obtain ⟨m, _, q⟩ := h1.fin
    exact ⟨m, fun c e => by rw [hcl] at e; (cases e), q⟩
  · intro i j oi oj b hij hi hj hbi hbj
    by_cases ii : i < O.length
    · rw [List.getElem?_append_left ii] at hi
      rw [hb i oi hi] at hbi
      by_cases jj : j < O.length
      · rw [List.getElem?_append_left jj] at hj
        rw [hb j oj hj] at hbj
        exact hs.sep i j oi oj b hij hi hj hbi hbj
      · rw [List.getElem?_append_right (by omega)] at hj
        have h6 := hnew _ oj b hj hbj
        have h7 := (hs.real i oi hi).blk_lt hbi
        omega
    · rw [List.getElem?_append_right (by omega)] at hi
      by_cases jj : j < O.length
      · rw [List.getElem?_append_left jj] at hj
        rw [hb j oj hj] at hbj
        have h6 := hnew _ oi b hi hbi
        have h7 := (hs.real j oj hj).blk_lt hbj
        omega
      · rw [List.getElem?_append_right (by omega)] at hj
        exact h1.sep _ _ oi oj b (by omega) hi hj hbi hbj
  · intro b o v hv
    rcases h2.snap b o v hv with q | q | q
    · exact .inl q
    · exact .inr (.inl q)
    · exact absurd q (hno b)
  · intro b ⟨i, x, hx, hbx⟩
    by_cases hi : i < O.length
    · rw [List.getElem?_append_left hi] at hx
      rw [hb i x hx] at hbx
      exact .inl ⟨i, x, hx, hbx⟩
    · rw [List.getElem?_append_right (by omega)] at hx
      exact .inr (hnew _ x b hx hbx)
def GVal.up (k : Nat) : GVal → GVal
  | .own o st i len => .own (o + k) st i len
  | .ptr o st i j => .ptr (o + k) st i j
  | .map o st => .map (o + k) st
  | g => g
theorem VR.up (k : Nat) (E : Env) (v : Value) (g : GVal) (h : VR E v g) : VR E v (g.up k) := by
  cases g with
  | ptr o st a b => cases h; exact .ptr _ _ _ _ _ _ _ (by assumption) (by assumption) (by assumption)
  | own o st a b => cases h; exact .own _ _ _ _ _ _ _ (by assumption) (by assumption) (by assumption)
  | map o st => cases h; exact .map _ _ _ _ (by assumption) (by assumption)
  | _ => exact h
theorem GCalls.new {P : Program} {f : FuncId} {args : List GVal} {K : GVal → List GObj → Prop} (h : GCalls P f args [] K) {O : List GObj} (hc : clockOf O = none) (hK : ∀ g O', K g O' → clockOf O' = none) :
    GCalls P f args O (fun g O'' => ∃ g0 O', K g0 O' ∧ g = g0.shift O.length ∧ O'' = O ++ O') := GCalls.newBy (GVal.shift O.length) (fun _ _ _ h => h.shift _) h hc hK
theorem GCalls.newUp {P : Program} {f : FuncId} {args : List GVal} {K : GVal → List GObj → Prop} (h : GCalls P f args [] K) {O : List GObj} (hc : clockOf O = none) (hK : ∀ g O', K g O' → clockOf O' = none) :
    GCalls P f args O (fun g O'' => ∃ g0 O', K g0 O' ∧ g = g0.up O.length ∧ O'' = O ++ O') := GCalls.newBy (GVal.up O.length) (VR.up O.length) h hc hK
end Gv
/- A call that is handed one object of the caller's: wherever it lies among the caller's objects, the others stay as they are. -/
set_option linter.unusedVariables false
namespace Gv
open Go
def GVal.place (i : Nat) : GVal → GVal
  | .ptr _ st a b => .ptr i st a b
  | .own _ st a b => .own i st a b
  | .map _ st => .map i st
  | g => g
theorem VR.place {E : Env} {v : Value} {g : GVal} (i : Nat) (h : VR E v (g.place i)) : VR E v g := by
  cases g with
  | ptr o st a b => cases h; exact .ptr _ _ _ _ _ _ _ (by assumption) (by assumption) (by assumption)
  | own o st a b => cases h; exact .own _ _ _ _ _ _ _ (by assumption) (by assumption) (by assumption)
  | map o st => cases h; exact .map _ _ _ _ (by assumption) (by assumption)
  | _ => exact h
theorem HSim.only {E : Env} {O : List GObj} {w : World} (h : HSim E O w) {i : Nat} {x : GObj} (hx : O[i]? = some x) (hc : x.isClock = false) : HSim E [x] w := by
  refine ⟨?_, h.sealed, h.one, fun k y hy => ?_, fun a b oa ob bb hab ha hb => ?_, h.glob⟩
  · obtain ⟨n, _, h2⟩ := h.fin
    refine ⟨n, fun c hc' => ?_, h2⟩
    cases x <;> simp [clockOf, GObj.isClock] at hc' hc
  · match k with
    | 0 => simp at hy; subst hy; exact h.real i x hx
    | k + 1 => simp at hy
  · match a, b with
    | 0, 0 => exact absurd rfl hab
    | a + 1, _ => simp at ha
    | 0, b + 1 => simp at hb
theorem GCalls.ownFrame {P : Program} {f : FuncId} {args : List GVal} {x : GObj} {R : GVal → GObj → Prop} (h : GCalls P f args [x] (fun g O' => ∃ x', O' = [x'] ∧ R g x')) {O : List GObj} (i : Nat) (hO : O[i]? = some x) (hc : clockOf O = none) (hcl : ∀ g x', R g x' → x'.isClock = false) (hx : x.isClock = false) :
    GCalls P f (args.map (GVal.place i)) O (fun g O' => ∃ x', O' = O.set i x' ∧ R g x') := by
  have hlt : i < O.length := (List.getElem?_eq_some_iff.1 hO).1
  refine ⟨h.1, fun E w vs hs ha => ?_⟩
  have ha' : ArgsR E vs args := ⟨by simpa using ha.1, fun k g hg => VR.place i (ha.2 k _ (by simp [hg]))⟩
  refine (h.2 E w vs (hs.only hO hx) ha').mono ?_
  rintro e w' ⟨v, E', O', g, rfl, h1, h2, h3, x', rfl, hR⟩
  have inX : ∀ b, InO E [x] b ↔ x.blk E = some b := fun b => ⟨fun ⟨k, y, hy, hb⟩ => by
    match k with
    | 0 => simp at hy; subst hy; exact hb
    | k + 1 => simp at hy, fun hb => ⟨0, x, rfl, hb⟩⟩
  have inX' : ∀ b, x'.blk E' = some b → x.blk E = some b ∨ w.heap.size ≤ b := fun b hb => by
    rcases h2.objs b ⟨0, x', rfl, hb⟩ with q | q
    · exact .inl ((inX b).1 q)
    · exact .inr q
  have get : ∀ (k : Nat) y, (O.set i x')[k]? = some y → (k = i ∧ y = x') ∨ (k ≠ i ∧ O[k]? = some y) := by
    intro k y hy
    rw [List.getElem?_set] at hy
    by_cases e : i = k
    · rw [if_pos e, if_pos hlt] at hy
      simp only [Option.some.injEq] at hy; exact .inl ⟨e.symm, hy.symm⟩
    · rw [if_neg e] at hy; exact .inr ⟨fun q => e q.symm, hy⟩
  have far : ∀ (k : Nat) y b, k ≠ i → O[k]? = some y → y.blk E = some b → ¬ InO E [x] b := fun k y b hk hy hb hin => hs.sep k i y x b hk hy hO hb ((inX b).1 hin)
  have hold : ∀ (k : Nat) y, k ≠ i → O[k]? = some y → Realized E' w' y ∧ y.blk E' = y.blk E := fun k y hk hy =>
    ⟨(hs.real k y hy).keep h2.ext (fun b hb => h2.heap b ((hs.real k y hy).blk_lt hb) (far k y b hk hy hb)) (fun b o v hb hv => by
      rcases h2.snap b o v hv with q | q | q
      · exact q
      · exact absurd ((hs.real k y hy).blk_lt hb) (by omega)
      · exact absurd q (far k y b hk hy hb)), GObj.blk_mono h2.ext (hs.real k y hy)⟩
  have hclk : clockOf (O.set i x') = none := by
    have := clockOf_set (obj' := x') hO hx (hcl _ _ hR)
    rw [this, hc]
  have hx'r : Realized E' w' x' := h1.real 0 x' rfl
  refine ⟨v, E', O.set i x', g, rfl, ⟨?_, h1.sealed, h1.one, fun k y hy => ?_, fun a b oa ob bb hab ha1 hb1 q1 q2 => ?_, h1.glob⟩, ⟨h2.ext, h2.os, h2.out, h2.size, fun b hb hn => h2.heap b hb fun hin => hn ⟨i, x, hO, (inX b).1 hin⟩, fun b o v hv => ?_, fun b hb => ?_, trivial⟩, h3, x', rfl, hR⟩
  · obtain ⟨n, _, q⟩ := h1.fin
    exact ⟨n, fun c hc' => (by rw [hclk] at hc'; cases hc'), q⟩
  · rcases get k y hy with ⟨rfl, rfl⟩ | ⟨hk, hy⟩
    · exact hx'r
    · exact (hold k y hk hy).1
  · rcases get a oa ha1 with ⟨rfl, rfl⟩ | ⟨hka, hya⟩ <;> rcases get b ob hb1 with ⟨rfl, rfl⟩ | ⟨hkb, hyb⟩
    · exact hab rfl
    · rw [(hold b ob hkb hyb).2] at q2
      rcases inX' bb q1 with e | e
      · exact hs.sep b a ob x bb hkb hyb hO q2 e
      · exact absurd ((hs.real b ob hyb).blk_lt q2) (by omega)
    · rw [(hold a oa hka hya).2] at q1
      rcases inX' bb q2 with e | e
      · exact hs.sep a b oa x bb hka hya hO q1 e
      · exact absurd ((hs.real a oa hya).blk_lt q1) (by omega)
    · rw [(hold a oa hka hya).2] at q1
      rw [(hold b ob hkb hyb).2] at q2
      exact hs.sep a b oa ob bb hab hya hyb q1 q2
  · rcases h2.snap b o v hv with q | q | q
    · exact .inl q
    · exact .inr (.inl q)
    · exact .inr (.inr ⟨i, x, hO, (inX b).1 q⟩)
  · obtain ⟨k, y, hy, hb⟩ := hb
    rcases get k y hy with ⟨rfl, rfl⟩ | ⟨hk, hy⟩
    · rcases inX' b hb with e | e
      · exact .inl ⟨_, x, hO, e⟩
      · exact .inr e
    · exact .inl ⟨k, y, hy, by rw [← (hold k y hk hy).2]; exact hb⟩
def dropTo (K : GVal → List GObj → Prop) (g : GVal) (O' : List GObj) : Prop := ∃ g' O1 X, O' = O1 ++ X ∧ leA g g' ∧ K g' O1
theorem GCalls.dropTo {P : Program} {f : FuncId} {args : List GVal} {O : List GObj} {K : GVal → List GObj → Prop} (h : GCalls P f args O (dropTo K)) : GCalls P f args O K :=
  (h.mono fun g O' ⟨g', O1, X, e, hl, hk⟩ => by
    subst e
    exact fun E v w hs hv => by
      obtain ⟨h1, h2⟩ := hs.drop
      exact ⟨g', O1, E, hk, h1, h2, hl.sound hv⟩ : GCalls P f args O (fun g O' => GInto g O' K)).into
end Gv
/- A call that is handed some of the caller's objects, wherever they lie: the others stay as they are; what it leaves behind may be forgotten. -/
set_option linter.unusedVariables false
namespace Gv
open Go
structure OLe (x y : GObj) : Prop where
  real : ∀ E w, Realized E w x → Realized E w y
  blk : ∀ E, y.blk E = x.blk E
  clk : y.isClock = x.isClock
theorem OLe.refl (x : GObj) : OLe x x := ⟨fun _ _ h => h, fun _ => rfl, rfl⟩
theorem OLe.row {st sz : Nat} {xs ys : List (List GVal)} (h : GLess xs ys) : OLe (.row st sz xs) (.row st sz ys) := by
  obtain ⟨h1, h2, h3⟩ := h.flat
  refine ⟨fun E w hr => ?_, fun E => rfl, rfl⟩
  obtain ⟨l, hl, hz, hx, hb⟩ := hr
  refine ⟨l, hl, hz, h3 sz hx, ?_⟩
  cases hbl : l.block with
  | none => simp only [hbl] at hb; subst hb; exact List.length_eq_zero_iff.1 (by rw [← h2]; rfl)
  | some b =>
    simp only [hbl] at hb ⊢
    obtain ⟨cur, el, a1, a2, a3, a4, a5⟩ := hb
    refine ⟨cur, el, a1, a2, by rw [← h2]; exact a3, fun j g hj => ?_, a5⟩
    obtain ⟨g0, hg0, hle⟩ := h1.at_ j g hj
    obtain ⟨v, q1, q2, q3⟩ := a4 j g0 hg0
    exact ⟨v, q1, q2, hle _ _ q3⟩
theorem GLe.place (i : Nat) (g : GVal) : GLe g (g.place i) := fun E v h => by
  cases g with
  | ptr o st a b => cases h; exact .ptr _ _ _ _ _ _ _ (by assumption) (by assumption) (by assumption)
  | own o st a b => cases h; exact .own _ _ _ _ _ _ _ (by assumption) (by assumption) (by assumption)
  | map o st => cases h; exact .map _ _ _ _ (by assumption) (by assumption)
  | _ => exact h
theorem GLe.ptr (o o' st i j : Nat) : GLe (.ptr o st i j) (.ptr o' st i j) := GLe.place o' (.ptr o st i j)
theorem GLe.map (o o' st : Nat) : GLe (.map o st) (.map o' st) := GLe.place o' (.map o st)
theorem GLe.own (o o' st i j : Nat) : GLe (.own o st i j) (.own o' st i j) := GLe.place o' (.own o st i j)
def Comes (O : List GObj) (pl : List Nat) (O' : List GObj) : List (Bool × Nat) → List GObj → Prop
  | [], [] => True
  | (true, j) :: s, z :: r => (j ∉ pl ∧ ∃ y, O[j]? = some y ∧ OLe y z) ∧ Comes O pl O' s r
  | (false, j) :: s, z :: r => (∃ y, O'[j]? = some y ∧ OLe y z) ∧ Comes O pl O' s r
  | _, _ => False
theorem Comes.at_ {O O' : List GObj} {pl : List Nat} : ∀ {s : List (Bool × Nat)} {r : List GObj}, Comes O pl O' s r → ∀ (k : Nat) z, r[k]? = some z →
    (∃ j, s[k]? = some (true, j) ∧ j ∉ pl ∧ ∃ y, O[j]? = some y ∧ OLe y z) ∨ (∃ j, s[k]? = some (false, j) ∧ ∃ y, O'[j]? = some y ∧ OLe y z)
  | [], [], _, k, z, hz => by simp at hz
  | (true, j) :: s, z :: r, h, 0, y, hy => by simp at hy; subst hy; exact .inl ⟨j, rfl, h.1⟩
  | (false, j) :: s, z :: r, h, 0, y, hy => by simp at hy; subst hy; exact .inr ⟨j, rfl, h.1⟩
  | (true, j) :: s, z :: r, h, k + 1, y, hy => by
    have := Comes.at_ h.2 k y (by simpa using hy)
    simpa using this
  | (false, j) :: s, z :: r, h, k + 1, y, hy => by
    have := Comes.at_ h.2 k y (by simpa using hy)
    simpa using this
  | [], _ :: _, h, _, _, _ => h.elim
  | (true, _) :: _, [], h, _, _, _ => h.elim
  | (false, _) :: _, [], h, _, _, _ => h.elim
def Fits (O : List GObj) : List Nat → List GObj → Prop
  | [], [] => True
  | j :: pl, x :: r => (∃ y, O[j]? = some y ∧ OLe y x) ∧ Fits O pl r
  | _, _ => False
theorem Fits.at_ {O : List GObj} : ∀ {pl : List Nat} {X : List GObj}, Fits O pl X → ∀ (i : Nat) x, X[i]? = some x → ∃ j y, pl[i]? = some j ∧ O[j]? = some y ∧ OLe y x
  | [], [], _, i, x, h => by simp at h
  | j :: pl, x :: r, h, 0, y, hy => by simp at hy; subst hy; obtain ⟨y, h1, h2⟩ := h.1; exact ⟨j, y, rfl, h1, h2⟩
  | j :: pl, x :: r, h, i + 1, y, hy => by simpa using Fits.at_ h.2 i y (by simpa using hy)
  | [], _ :: _, h, _, _, _ => h.elim
  | _ :: _, [], h, _, _, _ => h.elim
theorem GCalls.frame {P : Program} {f : FuncId} {args args' : List GVal} {X O : List GObj} {K K' : GVal → List GObj → Prop} (h : GCalls P f args X K) (pl : List Nat) (hX : Fits O pl X) (hnd : pl.Nodup) (ha : GLes args' args) (hcX : clockOf X = none) (hc : clockOf O = none)
    (hK : ∀ g O', K g O' → ∃ g' O'' s, K' g' O'' ∧ GLe g g' ∧ Comes O pl O' s O'' ∧ s.Nodup ∧ clockOf O'' = none) : GCalls P f args' O K' := by
  refine ⟨h.1, fun E w vs hs hv => ?_⟩
  have hsX : HSim E X w := by
    refine ⟨by obtain ⟨n, _, q⟩ := hs.fin; exact ⟨n, fun c e => (by rw [hcX] at e; cases e), q⟩, hs.sealed, hs.one, fun i x hx => ?_, fun i j oi oj b hij hi hj hbi hbj => ?_, hs.glob⟩
    · obtain ⟨j, y, h1, h2, h3⟩ := hX.at_ i x hx
      exact h3.real _ _ (hs.real j y h2)
    · obtain ⟨i', yi, p1, p2, p3⟩ := hX.at_ i oi hi
      obtain ⟨j', yj, q1, q2, q3⟩ := hX.at_ j oj hj
      have hne : i' ≠ j' := fun e => by
        subst e
        have hil := (List.getElem?_eq_some_iff.1 p1)
        have hjl := (List.getElem?_eq_some_iff.1 q1)
        obtain ⟨a1, a2⟩ := hil
        obtain ⟨b1, b2⟩ := hjl
        exact hij ((List.getElem_inj hnd).1 (a2.trans b2.symm))
      rw [p3.blk] at hbi
      rw [q3.blk] at hbj
      exact hs.sep i' j' yi yj b hne p2 q2 hbi hbj
  have hv' : ArgsR E vs args := ⟨by rw [hv.1, ha.len], fun k g hg => by
    obtain ⟨x, hx, hle⟩ := ha.at_ k g hg
    exact hle _ _ (hv.2 k x hx)⟩
  refine (h.2 E w vs hsX hv').mono ?_
  rintro e w' ⟨v, E', O', g, rfl, h1, h2, h3, hk⟩
  obtain ⟨g', O'', s, hK', hg, hcm, hsn, hcl⟩ := hK g O' hk
  have inX : ∀ b, InO E X b → InO E O b := fun b ⟨i, x, hx, hb⟩ => by
    obtain ⟨j, y, _, hy, hle⟩ := hX.at_ i x hx
    exact ⟨j, y, hy, by rw [← hle.blk]; exact hb⟩
  have far : ∀ (j : Nat) y b, j ∉ pl → O[j]? = some y → y.blk E = some b → ¬ InO E X b := fun j y b hj hy hb ⟨i, x, hx, hxb⟩ => by
    obtain ⟨j', y', p1, p2, p3⟩ := hX.at_ i x hx
    have hne : j ≠ j' := fun e => hj (by rw [e]; exact List.mem_of_getElem? p1)
    rw [p3.blk] at hxb
    exact hs.sep j j' y y' b hne hy p2 hb hxb
  have hold : ∀ (j : Nat) y, j ∉ pl → O[j]? = some y → Realized E' w' y ∧ y.blk E' = y.blk E := fun j y hj hy =>
    ⟨(hs.real j y hy).keep h2.ext (fun b hb => h2.heap b ((hs.real j y hy).blk_lt hb) (far j y b hj hy hb)) (fun b o v hb hv => by
      rcases h2.snap b o v hv with q | q | q
      · exact q
      · exact absurd ((hs.real j y hy).blk_lt hb) (by omega)
      · exact absurd q (far j y b hj hy hb)), GObj.blk_mono h2.ext (hs.real j y hy)⟩
  have hnew : ∀ (j : Nat) y b, O'[j]? = some y → y.blk E' = some b → InO E X b ∨ w.heap.size ≤ b := fun j y b hy hb => h2.objs b ⟨j, y, hy, hb⟩
  refine ⟨v, E', O'', g', rfl, ⟨?_, h1.sealed, h1.one, fun k z hz => ?_, fun a b oa ob bb hab ha1 hb1 q1 q2 => ?_, h1.glob⟩, ⟨h2.ext, h2.os, h2.out, h2.size, fun b hb hn => h2.heap b hb fun hin => hn (inX b hin), fun b o v hv => ?_, fun b hb => ?_, trivial⟩, hg _ _ h3, hK'⟩
  · obtain ⟨n, _, q⟩ := h1.fin
    exact ⟨n, fun c hc' => (by rw [hcl] at hc'; cases hc'), q⟩
  · rcases hcm.at_ k z hz with ⟨j, _, hj, y, hy, hle⟩ | ⟨j, _, y, hy, hle⟩
    · exact hle.real _ _ (hold j y hj hy).1
    · exact hle.real _ _ (h1.real j y hy)
  · have uniq : ∀ (x : Bool × Nat), s[a]? = some x → s[b]? = some x → False := fun x ea eb => by
      obtain ⟨a1, a2⟩ := List.getElem?_eq_some_iff.1 ea
      obtain ⟨b1, b2⟩ := List.getElem?_eq_some_iff.1 eb
      exact hab ((List.getElem_inj hsn).1 (a2.trans b2.symm))
    rcases hcm.at_ a oa ha1 with ⟨ja, sa, ka, ya, hya, la⟩ | ⟨ja, sa, ya, hya, la⟩ <;> rcases hcm.at_ b ob hb1 with ⟨jb, sb, kb, yb, hyb, lb⟩ | ⟨jb, sb, yb, hyb, lb⟩
    · rw [la.blk, (hold ja ya ka hya).2] at q1
      rw [lb.blk, (hold jb yb kb hyb).2] at q2
      exact hs.sep ja jb ya yb bb (fun e => uniq (true, ja) sa (by rw [e]; exact sb)) hya hyb q1 q2
    · rw [la.blk, (hold ja ya ka hya).2] at q1
      rw [lb.blk] at q2
      rcases hnew jb yb bb hyb q2 with e | e
      · exact far ja ya bb ka hya q1 e
      · exact absurd ((hs.real ja ya hya).blk_lt q1) (by omega)
    · rw [la.blk] at q1
      rw [lb.blk, (hold jb yb kb hyb).2] at q2
      rcases hnew ja ya bb hya q1 with e | e
      · exact far jb yb bb kb hyb q2 e
      · exact absurd ((hs.real jb yb hyb).blk_lt q2) (by omega)
    · rw [la.blk] at q1
      rw [lb.blk] at q2
      exact h1.sep ja jb ya yb bb (fun e => uniq (false, ja) sa (by rw [e]; exact sb)) hya hyb q1 q2
  · rcases h2.snap b o v hv with q | q | q
    · exact .inl q
    · exact .inr (.inl q)
    · exact .inr (.inr (inX b q))
  · obtain ⟨k, z, hz, hb⟩ := hb
    rcases hcm.at_ k z hz with ⟨j, _, hj, y, hy, hle⟩ | ⟨j, _, y, hy, hle⟩
    · rw [hle.blk, (hold j y hj hy).2] at hb
      exact .inl ⟨j, y, hy, hb⟩
    · rw [hle.blk] at hb
      rcases hnew j y b hy hb with e | e
      · exact .inl (inX b e)
      · exact .inr e
def GObj.place (j : Nat) : GObj → GObj
  | .row st sz xs => .row st sz (xs.map fun c => c.map (GVal.place j))
  | o => o
theorem GLes.place (j : Nat) : ∀ c : List GVal, GLes c (c.map (GVal.place j))
  | [] => trivial
  | x :: r => ⟨GLe.place j x, GLes.place j r⟩
theorem GLess.place (j : Nat) : ∀ xs : List (List GVal), GLess xs (xs.map fun c => c.map (GVal.place j))
  | [] => trivial
  | x :: r => ⟨GLes.place j x, GLess.place j r⟩
theorem OLe.place (j : Nat) (x : GObj) : OLe x (x.place j) := by
  cases x with
  | row st sz xs => exact OLe.row (GLess.place j xs)
  | _ => exact .refl _
theorem Comes.of {O O' : List GObj} {pl : List Nat} : ∀ {s : List (Bool × Nat)} {r : List GObj}, s.length = r.length → (∀ (k : Nat) z x, r[k]? = some z → s[k]? = some x → match x with
    | (true, j) => j ∉ pl ∧ ∃ y, O[j]? = some y ∧ OLe y z
    | (false, j) => ∃ y, O'[j]? = some y ∧ OLe y z) → Comes O pl O' s r
  | [], [], _, _ => trivial
  | (true, j) :: s, z :: r, hl, h => ⟨h 0 z (true, j) rfl rfl, Comes.of (by simpa using hl) fun k z x hz hx => h (k + 1) z x (by simpa using hz) (by simpa using hx)⟩
  | (false, j) :: s, z :: r, hl, h => ⟨h 0 z (false, j) rfl rfl, Comes.of (by simpa using hl) fun k z x hz hx => h (k + 1) z x (by simpa using hz) (by simpa using hx)⟩
  | [], _ :: _, hl, _ => by simp at hl
  | _ :: _, [], hl, _ => by simp at hl
theorem GCalls.on2 {P : Program} {f : FuncId} {args args' : List GVal} {x y : GObj} {R : GVal → GObj → GObj → Prop} (h : GCalls P f args [x, y] (fun g O' => ∃ x' y', O' = [x', y'] ∧ R g x' y')) {O : List GObj} (i j : Nat) (hij : i ≠ j) {xi : GObj} (hi : O[i]? = some xi) (hj : O[j]? = some y)
    (ex : OLe xi x) (ha : GLes args' args) (hcx : x.isClock = false) (hcy : y.isClock = false) (hR : ∀ g x' y', R g x' y' → x'.isClock = false ∧ y'.isClock = false) (hc : clockOf O = none) :
    GCalls P f args' O (fun g O'' => ∃ x' y', R g x' y' ∧ O'' = (O.set i (x'.place j)).set j y') := by
  have hli := (List.getElem?_eq_some_iff.1 hi).1
  have hlj := (List.getElem?_eq_some_iff.1 hj).1
  refine GCalls.frame h [i, j] ⟨⟨xi, hi, ex⟩, ⟨y, hj, .refl _⟩, trivial⟩ (by simp [hij]) ha (by cases x <;> first | rfl | cases hcx) hc ?_
  rintro g O' ⟨x', y', rfl, hr⟩
  obtain ⟨c1, c2⟩ := hR g x' y' hr
  have cp : (x'.place j).isClock = false := by rw [(OLe.place j x').clk, c1]
  have hxc : xi.isClock = false := by rw [← ex.clk, hcx]
  refine ⟨g, (O.set i (x'.place j)).set j y', (List.range O.length).map (fun k => if k = i then (false, 0) else if k = j then (false, 1) else (true, k)), ⟨x', y', hr, rfl⟩, GLe.refl g, Comes.of (by simp) fun k z s hz hs => ?_, ?_, ?_⟩
  · have hk : k < O.length := by have := (List.getElem?_eq_some_iff.1 hz).1; simpa using this
    simp only [List.getElem?_map, List.getElem?_range hk, Option.map_some, Option.some.injEq] at hs
    subst hs
    rw [List.getElem?_set, List.getElem?_set] at hz
    by_cases e : k = i
    · subst e
      rw [if_neg (fun q => hij q.symm), if_pos rfl, if_pos hli] at hz
      cases hz
      simp only [if_pos]
      exact ⟨x', rfl, OLe.place j x'⟩
    · by_cases e2 : k = j
      · subst e2
        rw [if_pos rfl, if_pos (by simpa using hlj)] at hz
        cases hz
        simp only [if_neg e, if_pos]
        exact ⟨y', rfl, .refl _⟩
      · rw [if_neg (fun q => e2 q.symm), if_neg (fun q => e q.symm)] at hz
        simp only [if_neg e, if_neg e2]
        exact ⟨by simp [e, e2], z, hz, .refl _⟩
  · rw [List.nodup_iff_pairwise_ne, List.pairwise_map]
    refine List.Pairwise.imp_of_mem ?_ (List.pairwise_lt_range (n := O.length))
    intro a b _ _ hab
    split <;> rename_i e1 <;> split <;> rename_i e2 <;> (try split) <;> (try split) <;> simp_all <;> omega
  · have h1 := clockOf_set (obj' := x'.place j) hi hxc cp
    have h2 : (O.set i (x'.place j))[j]? = some y := by rw [List.getElem?_set, if_neg hij]; exact hj
    rw [clockOf_set (obj' := y') h2 hcy c2, h1, hc]
theorem GCalls.keep2 {P : Program} {f : FuncId} {args : List GVal} {a b : GObj} {r : GVal} (h : GCalls P f args [a, b] (fun g O' => g = r ∧ O' = [a, b])) (ha : a.isClock = false) (X : List GObj) : GCalls P f args (a :: b :: X) (fun g O' => g = r ∧ O' = a :: b :: X) := by
  have hcl : ∀ Y, clockOf (a :: Y) = none := fun Y => by cases a <;> first | rfl | cases ha
  refine GCalls.frame h [0, 1] ⟨⟨a, rfl, .refl _⟩, ⟨b, rfl, .refl _⟩, trivial⟩ (by simp) (GLes.refl _) (hcl _) (hcl _) ?_
  rintro g O' ⟨rfl, rfl⟩
  refine ⟨g, a :: b :: X, (false, 0) :: (false, 1) :: (List.range X.length).map (fun k => (true, k + 2)), ⟨rfl, rfl⟩, GLe.refl g, ⟨⟨a, rfl, .refl _⟩, ⟨b, rfl, .refl _⟩, Comes.of (by simp) fun k z s hz hs => ?_⟩, ?_, hcl _⟩
  · have hk : k < X.length := (List.getElem?_eq_some_iff.1 hz).1
    simp only [List.getElem?_map, List.getElem?_range hk, Option.map_some, Option.some.injEq] at hs
    subst hs
    exact ⟨by simp, z, by simpa using hz, .refl _⟩
  · simp only [List.nodup_cons, List.mem_cons, List.mem_map, Prod.mk.injEq, reduceCtorEq, false_and, and_false, exists_false, or_false, not_false_eq_true, Nat.zero_ne_one, true_and]
    rw [List.nodup_iff_pairwise_ne, List.pairwise_map]
    refine List.Pairwise.imp ?_ (List.pairwise_lt_range (n := X.length))
    intro a b hab
    simp; omega
theorem GLe.func (fn : Fn) {gs gs' ks ks' : List GVal} (h : GLes gs gs') (k : GLes ks ks') : GLe (.func fn gs ks) (.func fn gs' ks') := fun E v hv => by
  cases hv with
  | func _ fs cs _ _ hf hk hfs hcs =>
    refine .func fn fs cs gs' ks' (by rw [hf, h.len]) (by rw [hk, k.len]) (fun j g hg => ?_) (fun j g hg => ?_)
    · obtain ⟨x, hx, hle⟩ := h.at_ j g hg
      exact hle _ _ (hfs j x hx)
    · obtain ⟨x, hx, hle⟩ := k.at_ j g hg
      exact hle _ _ (hcs j x hx)
theorem GLe.ref {cs cs' : List GVal} (h : GLes cs cs') : GLe (.ref cs) (.ref cs') := fun E v hv => by
  cases hv with
  | ref b off _ c ha hc =>
    refine .ref b off cs' c (fun j hj => ha j (by rw [h.len]; exact hj)) (fun j g hg => ?_)
    obtain ⟨x, hx, hle⟩ := h.at_ j g hg
    exact hle _ _ (hc j x hx)
theorem GCalls.on2new {P : Program} {f : FuncId} {args args' : List GVal} {x y : GObj} {R : Nat → List (GVal × GVal) → Prop} (h : GCalls P f args [x, y] (fun g O' => ∃ st kv, g = .map 2 st ∧ O' = [x, y, .map st kv] ∧ R st kv)) {O : List GObj} (i j : Nat) (hij : i ≠ j) (hi : O[i]? = some x) (hj : O[j]? = some y)
    (ha : GLes args' args) (hcx : x.isClock = false) (hc : clockOf O = none) : GCalls P f args' O (fun g O'' => ∃ st kv, g = .map O.length st ∧ O'' = O ++ [.map st kv] ∧ R st kv) := by
  refine GCalls.frame h [i, j] ⟨⟨x, hi, .refl _⟩, ⟨y, hj, .refl _⟩, trivial⟩ (by simp [hij]) ha (by cases x <;> first | rfl | cases hcx) hc ?_
  rintro g O' ⟨st, kv, rfl, rfl, hr⟩
  refine ⟨.map O.length st, O ++ [.map st kv], (List.range (O.length + 1)).map (fun k => if k = i then (false, 0) else if k = j then (false, 1) else if k = O.length then (false, 2) else (true, k)), ⟨st, kv, rfl, rfl, hr⟩, GLe.map _ _ _, Comes.of (by simp) fun k z s hz hs => ?_, ?_, by rw [clockOf_app rfl, hc]⟩
  · have hli := (List.getElem?_eq_some_iff.1 hi).1
    have hlj := (List.getElem?_eq_some_iff.1 hj).1
    have hk : k < O.length + 1 := by have := (List.getElem?_eq_some_iff.1 hz).1; simpa using this
    simp only [List.getElem?_map, List.getElem?_range hk, Option.map_some, Option.some.injEq] at hs
    subst hs
    by_cases e : k = i
    · subst e
      rw [List.getElem?_append_left hli, hi] at hz
      cases hz
      simp only [if_pos]
      exact ⟨x, rfl, .refl _⟩
    · by_cases e2 : k = j
      · subst e2
        rw [List.getElem?_append_left hlj, hj] at hz
        cases hz
        simp only [if_neg e, if_pos]
        exact ⟨y, rfl, .refl _⟩
      · by_cases e3 : k = O.length
        · subst e3
          simp at hz
          subst hz
          simp only [if_neg e, if_neg e2, if_pos]
          exact ⟨_, rfl, .refl _⟩
        · rw [List.getElem?_append_left (by omega)] at hz
          simp only [if_neg e, if_neg e2, if_neg e3]
          exact ⟨by simp [e, e2], z, hz, .refl _⟩
  · have hli := (List.getElem?_eq_some_iff.1 hi).1
    have hlj := (List.getElem?_eq_some_iff.1 hj).1
    rw [List.nodup_iff_pairwise_ne, List.pairwise_map]
    refine List.Pairwise.imp_of_mem ?_ (List.pairwise_lt_range (n := O.length + 1))
    intro a b _ _ hab
    by_cases a1 : a = i <;> by_cases b1 : b = i <;> by_cases a2 : a = j <;> by_cases b2 : b = j <;> by_cases a3 : a = O.length <;> by_cases b3 : b = O.length <;> simp_all <;> omega
theorem GCalls.keep1 {P : Program} {f : FuncId} {args args' : List GVal} {x : GObj} {r : GVal} (h : GCalls P f args [x] (fun g O' => ∃ x', O' = [x'] ∧ (g = r ∧ x' = x))) {O : List GObj} (i : Nat) (hO : O[i]? = some x) (ha : args.map (GVal.place i) = args') (hx : x.isClock = false) (hc : clockOf O = none) :
    GCalls P f args' O (fun g O' => g = r ∧ O' = O) := by
  subst ha
  refine (GCalls.ownFrame h i hO hc (fun g x' q => by rw [q.2]; exact hx) hx).mono ?_
  rintro g O' ⟨x', rfl, rfl, rfl⟩
  refine ⟨rfl, ?_⟩
  apply List.ext_getElem (by simp)
  intro j h1 h2
  rw [List.getElem_set]
  split
  · rename_i e; subst e
    rw [List.getElem?_eq_getElem h2] at hO
    exact (Option.some.inj hO).symm
  · rfl
end Gv
/- maps.Clone as a contract over ghost values: a new map with the same entries. -/
set_option linter.unusedVariables false
namespace Gv
open Go
theorem tickO_none {O : List GObj} (h : clockOf O = none) : tickO O = O := by
  cases O with
  | nil => rfl
  | cons x r => cases x <;> first | rfl | cases h
theorem gcalls_clone {P : Program} {f : FuncId} (hen : enterable P f = true) (hcall : ∀ (b : Nat) (es : Array MapEntry) (clock : Nat) (w : World), w.heap[b]? = some (.map es clock) → Calls P f #[.map (some b)] w fun e w' => e = .returned (.map (some w.heap.size)) ∧ w' = w.alloc (.map es clock))
    {O : List GObj} {o st : Nat} {kv : List (GVal × GVal)} (hO : O[o]? = some (.map st kv)) (hc : clockOf O = none) :
    GCalls P f [.map o st] O (fun g O' => ∃ st', g = .map O.length st' ∧ O' = O ++ [.map st' kv]) := by
  refine ⟨hen, fun E w vs hs ha => ?_⟩
  obtain ⟨hsz, hat⟩ := ha
  match vs, hsz with
  | ⟨[v]⟩, _ =>
    have hv := hat 0 _ rfl
    change VR E v (.map o st) at hv
    cases hv with
    | map r o st l hl hb =>
      obtain ⟨b, es, clock, e, hw, hes, hent, hloc, hsn, hbo⟩ := map_block hs (VR.map r o st l hl hb) hO
      cases e
      refine (hcall r es clock w hw).mono ?_
      rintro e w' ⟨rfl, rfl⟩
      have hk : stamp O (fun _ => True) := by unfold stamp; rw [hc]; exact fun _ => trivial
      obtain ⟨t, _, ht, hnx, hs2, hkeep⟩ := hs.stamp hk
      rw [tickO_none hc] at hnx hs2 hkeep
      have hle := Env.addLoc_le ⟨some w.heap.size, 0, 0, 0⟩ ht
      obtain ⟨h1, h2⟩ := hs2.objNew (.map es clock) (.map t kv) (l := ⟨some w.heap.size, 0, 0, 0⟩) ht hnx rfl trivial rfl
        ⟨_, w.heap.size, es, clock, Env.addLoc_self _ _ _, rfl, alloc_new _ _, by simpa using hes, fun i e p he hp => by
          have := hent i e p (by simpa using he) hp
          exact ⟨this.1.mono hle, this.2.mono hle⟩, hbo, fun o => hs2.snap_new (Nat.le_refl _)⟩
        (by simp [GObj.blk, Env.addLoc_self])
      exact ⟨_, _, _, .map O.length t, rfl, h1, hkeep.trans h2, VR.map _ _ t _ (Env.addLoc_self _ _ _) rfl, t, rfl, rfl⟩
end Gv
/- A contract from a walk of the kit's: all that was stands below. -/
set_option linter.unusedVariables false
namespace Gv
open Go
theorem HSim.below {E : Env} {w w' : World} (h : HSim E [] w) (hb : RowKit.Below w.heap.size w w') : HSim E [] w' ∧ Keep E [] w E [] w' :=
  h.gen (.refl E) h.fin hb.os ⟨hb.output, trivial⟩ hb.size (fun b => w.heap.size ≤ b) (fun b hb' => .inr hb') (fun k hk _ => hb.block k hk)
    (fun k o v hv => .inl hv) (fun k o v hk hv => absurd (h.lt hv) (by omega)) (fun i obj hi => by simp at hi) (fun i j oi oj b hij hi => by simp at hi)
theorem GPure.ofBelow {P : Program} {f : FuncId} {args : List GVal} {r : GVal} (he : enterable P f = true)
    (h : ∀ (E : Env) (w : World) (vs : Array Value), HSim E [] w → ArgsR E vs args → Calls P f vs w fun e w' => ∃ v, e = .returned v ∧ RowKit.Below w.heap.size w w' ∧ VR E v r) : GPure P f args r :=
  ⟨he, fun E w vs hs ha => (h E w vs hs ha).mono fun e w' ⟨v, h1, h2, h3⟩ => ⟨v, E, [], r, h1, (hs.below h2).1, (hs.below h2).2, h3, rfl, rfl⟩⟩
def bytesG (l : List UInt8) : List GVal := l.map fun c => .int .u8 c.toNat
def bytesV (l : List UInt8) : List Value := l.map fun c => .int .u8 c.toNat
theorem bytesG_len (l : List UInt8) : (bytesG l).length = l.length := by simp [bytesG]
theorem argsR_agg {E : Env} {vs : Array Value} {l : List UInt8} (h : ArgsR E vs [.agg (bytesG l)]) : vs = #[.agg (bytesV l).toArray] := by
  obtain ⟨h1, h2⟩ := h
  have h3 := h2 0 _ rfl
  have e : vs = #[vs.getD 0 undef] := by
    apply Array.ext (by simpa using h1)
    intro i hi hi2
    simp at hi2; subst hi2
    simp [Array.getD, hi]
  rw [e]
  generalize vs.getD 0 undef = v at *
  cases h3 with
  | agg ws cs hs hc =>
    have : ws = (bytesV l).toArray := by
      apply Array.ext (by rw [hs]; simp [bytesG, bytesV])
      intro i hi hi2
      have hi3 : i < l.length := by simpa [bytesV] using hi2
      have := hc i (.int .u8 (l[i]).toNat) (by simp [bytesG, hi3])
      rw [Array.getD_eq_getD_getElem?, Array.getElem?_eq_getElem hi] at this
      simp at this
      generalize hw : ws[i] = x at this
      cases this
      simp [bytesV]
    rw [this]
end Gv

