/- slices.SortFunc of spans by their low ends, as a contract. -/
import Derived.Test.YtnenmmdpclglhaaGreatDoorP8
import Derived.Test.YtnenmmdpclglhaaGreatDoorP11
import Derived.Shelf.SlicesG.Cmp
import Derived.Test.YtnenmmdpclglhaaGreatDoorProg
import Derived.KernelRfl
import Derived.Test.YtnenmmdpclglhaaGreatDoorP6
import Derived.Test.YtnenmmdpclglhaaGreatDoorP9
import Derived.Test.YtnenmmdpclglhaaGreatDoorP5
set_option linter.defProp false
set_option linter.unusedSimpArgs false
set_option linter.unusedVariables false
set_option maxHeartbeats 4000000
set_option maxRecDepth 100000
namespace Go.Proofs
open Go.Shelf
def Tryz.sortSpS_ren : Go.Shelf.Ren := ⟨fun | 6 => 88 | 15 => 115 | 14 => 114 | 28 => 129 | 29 => 130 | 20 => 121 | 21 => 122 | 22 => 123 | 23 => 124 | 24 => 125 | 25 => 126 | 26 => 127 | 27 => 128 | 46 => 139 | 47 => 140 | 48 => 141 | 49 => 142 | 50 => 143 | 57 => 147 | n => n, fun | 22 => 62 | 24 => 65 | 25 => 154 | 3 => 3 | 39 => 193 | 0 => 0 | 53 => 205 | 55 => 207 | 4 => 4 | 46 => 199 | 45 => 198 | 50 => 49 | 5 => 5 | 9 => 9 | 66 => 213 | 70 => 217 | 76 => 221 | 77 => 222 | n => n, fun | n => n⟩
theorem Tryz.sortSpS : Go.Proofs.SlLaysF0.n6 Tryz.prog Tryz.sortSpS_ren := {
 mixed := by kernel_rfl
 f6 := ⟨Tryz.f88.name, by decide, Tryz.func88.trans (congrArg some (by kernel_rfl))⟩
 f14 := ⟨Tryz.f114.name, by decide, Tryz.func114.trans (congrArg some (by kernel_rfl))⟩
 f15 := Tryz.func115.trans (congrArg some (by kernel_rfl))
 f20 := ⟨Tryz.f121.name, by decide, Tryz.func121.trans (congrArg some (by kernel_rfl))⟩
 f21 := ⟨Tryz.f122.name, by decide, Tryz.func122.trans (congrArg some (by kernel_rfl))⟩
 f22 := ⟨Tryz.f123.name, by decide, Tryz.func123.trans (congrArg some (by kernel_rfl))⟩
 f23 := ⟨Tryz.f124.name, by decide, Tryz.func124.trans (congrArg some (by kernel_rfl))⟩
 f24 := ⟨Tryz.f125.name, by decide, Tryz.func125.trans (congrArg some (by kernel_rfl))⟩
 f25 := ⟨Tryz.f126.name, by decide, Tryz.func126.trans (congrArg some (by kernel_rfl))⟩
 f26 := ⟨Tryz.f127.name, by decide, Tryz.func127.trans (congrArg some (by kernel_rfl))⟩
 f27 := ⟨Tryz.f128.name, by decide, Tryz.func128.trans (congrArg some (by kernel_rfl))⟩
 f28 := Tryz.func129.trans (congrArg some (by kernel_rfl))
 f29 := Tryz.func130.trans (congrArg some (by kernel_rfl))
 f46 := ⟨Tryz.f139.name, by decide, Tryz.func139.trans (congrArg some (by kernel_rfl))⟩
 f47 := Tryz.func140.trans (congrArg some (by kernel_rfl))
 f48 := Tryz.func141.trans (congrArg some (by kernel_rfl))
 f49 := ⟨Tryz.f142.name, by decide, Tryz.func142.trans (congrArg some (by kernel_rfl))⟩
 f50 := ⟨Tryz.f143.name, by decide, Tryz.func143.trans (congrArg some (by kernel_rfl))⟩
 f57 := ⟨Tryz.f147.name, by decide, Tryz.func147.trans (congrArg some (by kernel_rfl))⟩
 t0 := Tryz.underlying0
 a0 := Tryz.isAgg0
 z0 := Tryz.sizeOf0
 v0 := Tryz.zeroValue0
 t3 := Tryz.underlying3
 a3 := Tryz.isAgg3
 z3 := Tryz.sizeOf3
 v3 := Tryz.zeroValue3
 t4 := Tryz.underlying4
 a4 := Tryz.isAgg4
 z4 := Tryz.sizeOf4
 v4 := Tryz.zeroValue4
 t5 := Tryz.underlying5
 a5 := Tryz.isAgg5
 z5 := Tryz.sizeOf5
 v5 := Tryz.zeroValue5
 t9 := Tryz.underlying9
 a9 := Tryz.isAgg9
 z9 := Tryz.sizeOf9
 v9 := Tryz.zeroValue9
 t22 := Tryz.underlying62
 a22 := Tryz.isAgg62
 z22 := Tryz.sizeOf62
 v22 := Tryz.zeroValue62
 t25 := Tryz.underlying154
 a25 := Tryz.isAgg154
 z25 := Tryz.sizeOf154
 v25 := Tryz.zeroValue154
 t39 := Tryz.underlying193
 a39 := Tryz.isAgg193
 z39 := Tryz.sizeOf193
 v39 := Tryz.zeroValue193
 t45 := Tryz.underlying198
 a45 := Tryz.isAgg198
 z45 := Tryz.sizeOf198
 v45 := Tryz.zeroValue198
 t46 := Tryz.underlying199
 a46 := Tryz.isAgg199
 z46 := Tryz.sizeOf199
 v46 := Tryz.zeroValue199
 t50 := Tryz.underlying49
 a50 := Tryz.isAgg49
 z50 := Tryz.sizeOf49
 v50 := Tryz.zeroValue49
 t53 := Tryz.underlying205
 a53 := Tryz.isAgg205
 z53 := Tryz.sizeOf205
 v53 := Tryz.zeroValue205
 t55 := Tryz.underlying207
 a55 := Tryz.isAgg207
 z55 := Tryz.sizeOf207
 v55 := Tryz.zeroValue207
 t66 := Tryz.underlying213
 a66 := Tryz.isAgg213
 z66 := Tryz.sizeOf213
 v66 := Tryz.zeroValue213
 t70 := Tryz.underlying217
 a70 := Tryz.isAgg217
 z70 := Tryz.sizeOf217
 v70 := Tryz.zeroValue217
 t76 := Tryz.underlying221
 a76 := Tryz.isAgg221
 z76 := Tryz.sizeOf221
 v76 := Tryz.zeroValue221
 t77 := Tryz.underlying222
 a77 := Tryz.isAgg222
 z77 := Tryz.sizeOf222
 v77 := Tryz.zeroValue222 }
def Tryz.cmpInt_ren : Go.Shelf.Ren := ⟨fun | 5 => 90 | 7 => 116 | n => n, fun | 22 => 3 | 3 => 3 | 4 => 4 | n => n, fun | n => n⟩
theorem Tryz.cmpInt : Go.Proofs.SlLaysC2.n5 Tryz.prog Tryz.cmpInt_ren := {
 mixed := by kernel_rfl
 f5 := ⟨Tryz.f90.name, by decide, Tryz.func90.trans (congrArg some (by kernel_rfl))⟩
 f7 := ⟨Tryz.f116.name, by decide, Tryz.func116.trans (congrArg some (by kernel_rfl))⟩
 t3 := Tryz.underlying3
 a3 := Tryz.isAgg3
 z3 := Tryz.sizeOf3
 v3 := Tryz.zeroValue3
 t4 := Tryz.underlying4
 a4 := Tryz.isAgg4
 z4 := Tryz.sizeOf4
 v4 := Tryz.zeroValue4
 t22 := Tryz.underlying3
 a22 := Tryz.isAgg3
 z22 := Tryz.sizeOf3
 v22 := Tryz.zeroValue3 }
end Go.Proofs
namespace Gv.Tryz
open Go Gv Go.Proofs Go.Shelf Go.RowKit Go.Lib Go.Sort
theorem QgK (x y : Sp.S) (W : World) : Calls Tryz.prog 89 #[.agg #[.int .i64 x.1, .int .i64 x.2], .agg #[.int .i64 y.1, .int .i64 y.2]] W fun e w' => e = .returned (.int .i64 (Lib.compareInt x.1 y.1)) ∧ ∃ q os', w' = grow (W.drewN q) os' := by
 have hcon := fun W' => AnyG.cmp_Compare_int Tryz.cmpInt x.1 y.1 W'
 change ∀ W', Calls Tryz.prog 90 _ _ _ at hcon
 generalize Lib.compareInt x.1 y.1 = r at hcon ⊢
 go_enter Tryz.func89, Tryz.ntmps89
 go_wp2_with (go_at_call 90; refine (hcon _).mono ?_; rintro e w' ⟨rfl, rfl⟩)
 go_ret
 exact ⟨rfl, 0, _, by rw [alloc_eq_grow, alloc_eq_grow, grow_grow]; rfl⟩
theorem ltLo (x y : Sp.S) : ltOf (fun x y : Sp.S => Lib.compareInt x.1 y.1) x y = decide (x.1 < y.1) := by
 unfold ltOf Lib.compareInt
 by_cases h1 : x.1 < y.1
 · simp [h1]
 · by_cases h2 : y.1 < x.1 <;> simp [h1, h2]
theorem swoLo : SWO (ltOf fun x y : Sp.S => Lib.compareInt x.1 y.1) where
 irrefl x := by rw [ltLo]; simp
 trans x y z h1 h2 := by rw [ltLo] at *; simp at *; omega
 ntrans x y z h1 h2 := by rw [ltLo] at *; simp at *; omega
def Qp7 (s : Sp.S) : List Value := [.int .i64 s.1, .int .i64 s.2]
theorem Qp8 (xs : List Sp.S) (hsz : xs.length < 4611686018427387904) {O : List GObj} {o st : Nat} (hO : O[o]? = some (.row st 2 (spl xs))) (hc : Qad O = none) :
 GCalls Tryz.prog 88 [.own o st 0 xs.length, .func (.func 89) [] []] O (fun r O' => r = .tuple [] ∧ ∃ ys : List Sp.S, ys.Perm xs ∧ ys.Pairwise (fun a b => a.1 ≤ b.1) ∧ O' = O.set o (.row st 2 (spl ys))) := by
 have h := Qer (α := Sp.S) Tryz.sortSpS 2 Tryz.isAgg65 Tryz.sizeOf65 Qp7 spG (fun _ => rfl)
  (fun x v hv => by simp [Qp7] at hv; rcases hv with rfl | rfl <;> rfl) (fun _ => rfl)
  (fun E x j g v hg hv => by
   match j, hg with
   | 0, hg => simp [spG] at hg; subst hg; cases hv; rfl
   | 1, hg => simp [spG] at hg; subst hg; cases hv; rfl
   | j + 2, hg => simp [spG] at hg)
  (fun E x j g hg => by
   match j, hg with
   | 0, hg => simp [spG] at hg; subst hg; exact ⟨_, rfl, .int _ _⟩
   | 1, hg => simp [spG] at hg; subst hg; exact ⟨_, rfl, .int _ _⟩
   | j + 2, hg => simp [spG] at hg)
  (fun x y => Lib.compareInt x.1 y.1) swoLo 89 (enters_of Tryz.func89 (by kernel_rfl) rfl) (fun x y W => QgK x y W) (by kernel_rfl) xs hsz hO hc
 refine h.mono ?_
 rintro g O' ⟨rfl, ys, h1, h2, rfl⟩
 refine ⟨rfl, ys, h1, h2.imp fun {a b} hab => ?_, rfl⟩
 have := ltLo b a
 unfold ltOf at this
 have h3 : decide (b.1 < a.1) = false := by rw [← this]; exact decide_eq_false hab
 have := of_decide_eq_false h3
 omega
open Go Gv Go.Proofs
open Nat (reduceEqDiff reduceAdd reduceSub reduceLeDiff reduceMul reduceLT)
def QaR : List Sp.S → List Sp.S
 | [] => []
 | s :: r => (if max s.1 0 ≤ s.2 then [(max s.1 0, s.2)] else []) ++ QaR r
theorem QfJ : ∀ (a b : List Sp.S), QaR (a ++ b) = QaR a ++ QaR b
 | [], b => rfl
 | s :: r, b => by simp [QaR, QfJ r b]
theorem Qio (l : List Sp.S) (k : Nat) (h : k < l.length) : QaR (l.take (k + 1)) = QaR (l.take k) ++ (if max (l.getD k (0, 0)).1 0 ≤ (l.getD k (0, 0)).2 then [(max (l.getD k (0, 0)).1 0, (l.getD k (0, 0)).2)] else []) := by
 rw [QgG h, QfJ]; simp [QaR]
theorem QfK (l : List Sp.S) : (QaR l).length ≤ l.length := by
 induction l with
 | nil => simp [QaR]
 | cons s r ih => unfold QaR; split <;> simp <;> omega
theorem Qip (l : List Sp.S) (k : Nat) : (QaR (l.take k)).length ≤ l.length := by
 have := QfK (l.take k); simp at this; omega
theorem QjJ (n : Int) (l : List Sp.S) : Sp.has (QaR l) n ↔ Sp.has l n := by
 induction l with
 | nil => rfl
 | cons s r ih =>
  unfold QaR;rw [Sp.has_app, ih, Sp.has_cons];refine or_congr ?_ Iff.rfl;split
  · simp only [Sp.has_cons, Sp.has_nil, or_false]; omega
  · rw [Sp.has_nil]; exact ⟨False.elim, fun h => by omega⟩
theorem QjK (l : List Sp.S) : ∀ s ∈ QaR l, 0 ≤ s.1 ∧ s.1 ≤ s.2 := by
 induction l with
 | nil => simp [QaR]
 | cons x r ih =>
  intro s hs;unfold QaR at hs;rcases List.mem_append.1 hs with h | h
  · split at h
    · simp at h; subst h; rename_i h'; exact ⟨by show 0 ≤ max _ _; omega, h'⟩
    · simp at h
  · exact ih s h
theorem Qlx {l : List Sp.S} (h : Sp.Ok l) : Sp.Ok (QaR l) := by
 induction l with
 | nil => exact h
 | cons x r ih =>
  intro s hs;unfold QaR at hs;rcases List.mem_append.1 hs with h' | h'
  · split at h'
    · simp at h'; subst h';have := h x (by simp);exact ⟨⟨by show _ ≤ max _ _; omega, by show max _ _ ≤ _; omega⟩, this.2⟩
    · simp at h'
  · exact ih (fun z hz => h z (by simp [hz])) s h'
def MOk (zs out : List Sp.S) : Prop := Sp.Rt 0 out ∧ (∀ n, Sp.has out n ↔ Sp.has zs n) ∧ (∀ x ∈ out, ∃ z ∈ zs, x.1 = z.1) ∧ out.length ≤ zs.length ∧ Sp.Ok out
theorem MOk.more {zs out : List Sp.S} (h : MOk zs out) (s : Sp.S) (hs : 0 ≤ s.1 ∧ s.1 ≤ s.2 ∧ s.2 ≤ 9223372036854775807) (hge : ∀ z ∈ zs, z.1 ≤ s.1) (hq : ∀ x, out.getLast? = some x → x.2 + 1 < s.1) : MOk (zs ++ [s]) (out ++ [s]) := by
 obtain ⟨h1, h2, h3, h4, h5⟩ := h
 refine ⟨(Sp.Rt_snoc s out 0).2 ⟨h1, hs.1, hs.2.1, fun y hy => ?_⟩, fun n => by rw [Sp.has_app, Sp.has_app, h2], fun x hx => ?_, by simp; omega, h5.app (fun x hx => by simp at hx; subst hx; omega)⟩
 · rcases List.eq_nil_or_concat out with e | ⟨A, x, e⟩
   · subst e; simp at hy
   · rw [List.concat_eq_append] at e; subst e;have := hq x (by simp);rcases List.mem_append.1 hy with h | h
     · have q := ((Sp.Rt_snoc x A 0).1 h1).2.2.2 y h;have := ((Sp.Rt_snoc x A 0).1 h1).2.2.1;omega
     · simp at h; subst h; omega
 · rcases List.mem_append.1 hx with h | h
   · obtain ⟨z, hz, e⟩ := h3 x h; exact ⟨z, by simp [hz], e⟩
   · exact ⟨s, by simp, by simp at h; rw [h]⟩
theorem MOk.grow {zs A : List Sp.S} {x : Sp.S} (h : MOk zs (A ++ [x])) (s : Sp.S) (hs : 0 ≤ s.1 ∧ s.1 ≤ s.2 ∧ s.2 ≤ 9223372036854775807) (hge : ∀ z ∈ zs, z.1 ≤ s.1) (hq : s.1 ≤ x.2 + 1) : MOk (zs ++ [s]) (A ++ [(x.1, max x.2 s.2)]) := by
 obtain ⟨h1, h2, h3, h4, h5⟩ := h
 obtain ⟨r1, r2, r3, r4⟩ := (Sp.Rt_snoc x A 0).1 h1
 obtain ⟨z, hz, ez⟩ := h3 x (by simp)
 have hz' := hge z hz
 refine ⟨(Sp.Rt_snoc _ A 0).2 ⟨r1, r2, by show x.1 ≤ max _ _; omega, r4⟩, fun n => ?_, fun y hy => ?_, by simp at *; omega, fun y hy => ?_⟩
 · have := h2 n;rw [Sp.has_app, Sp.has_cons, Sp.has_nil] at this;rw [Sp.has_app, Sp.has_app, Sp.has_cons, Sp.has_cons, Sp.has_nil, ← this];simp only [or_false, or_assoc];refine or_congr Iff.rfl ?_;omega
 · rcases List.mem_append.1 hy with h | h
   · obtain ⟨z, hz, e⟩ := h3 y (by simp [h]); exact ⟨z, by simp [hz], e⟩
   · simp at h; subst h; exact ⟨z, by simp [hz], ez⟩
 · rcases List.mem_append.1 hy with h | h
   · exact h5 y (by simp [h])
   · simp at h; subst h;have := h5 x (by simp);exact ⟨this.1, by show _ ≤ max _ _; omega, by show max _ _ ≤ _; omega⟩
def zb38 := ai @Qai <| ai @spG.eq_1 <| @Qc9
theorem cMake (l : List Sp.S) (t : Tag) (hl : l.length ≤ 4398046511104) (ho : Sp.Ok l) :
 GCalls Tryz.prog 52 [.slice (spl l) t] [] (fun g O' => ∃ st0 st1 ys, g = .own 1 st1 0 (Sp.nf l).length ∧ O' = [.row st0 2 (spl ys), .row st1 2 (spl (Sp.nf l))]) := by
 refine h52.ca ?_
 refine vq1 @Qai ?_
 refine Qab (ι := { p : Nat × Nat // p.1 ≤ l.length }) (fun p => ⟨[.slice (spl l) t, .any, .any, .own 0 p.1.2 0 (QaR (l.take p.1.1)).length, .slice [] .nil, .any, .any, .any, .any, .any, .slice (spl l) t, .int .i64 l.length, .int .i64 (p.1.1 : Nat)] ++ List.replicate 59 .any, [.row p.1.2 2 (spl (QaR (l.take p.1.1)))]⟩) (fun p => l.length - p.1.1) ?_ ?_
 · refine Into.row 3 2 rfl rfl ?_;refine vq0 ?_;intro t0;exact Into.first ⟨(0, t0), by omega⟩ ⟨[], by simp [QaR, spl]⟩ (by simp [WL, leG_self, leG_any, QaR])
 · rintro ⟨⟨k, v⟩, hk⟩
   change k ≤ l.length at hk
   have hs := ho.at k;have hcl := Qip l k;have hk' : k = l.length → l.take k = l := fun e => by rw [e, List.take_length]
   by_cases h : k < l.length
   · have d0 : ((k : Int) < (l.length : Int)) = True := eq_true (by omega);have eS := Qfk l k h;have eN := Qio l k h;generalize l.getD k (0, 0) = s at *;generalize QaR (l.take k) = A at *;refine vq3 d0 eS zb38 ?_;refine ⟨by omega, fun st => ⟨fun h1 => ⟨by omega, by omega, by omega, fun st_1 => ?_⟩, fun h1 => ?_⟩⟩
     · rw [if_pos h1] at eN;have eO : List.take A.length (spl A) ++ [[.int .i64 (max s.1 0), .int .i64 s.2]] = spl (QaR (l.take (k + 1))) := by
        rw [List.take_of_length_le (by rw [Qai]; exact Nat.le_refl _), eN, QaQ, QhH]; rfl
       have eL : A.length + 1 = (QaR (l.take (k + 1))).length := by rw [eN]; simp
       refine Into.at ⟨(k + 1, st_1), by show k + 1 ≤ _; omega⟩ (by show _ < _; simp; omega) ⟨[.row st 2 [[.int .i64 (max s.1 0), .int .i64 s.2]]], by rw [eO]; rfl⟩ ?_;simp [WL, leG_self, leG_any, eL]
     · rw [if_neg (by omega), List.append_nil] at eN;refine Into.at ⟨(k + 1, v), by show k + 1 ≤ _; omega⟩ (by show _ < _; simp; omega) ⟨[.row st 2 [[.int .i64 (max s.1 0), .int .i64 s.2]]], by rw [eN]; rfl⟩ ?_;simp [WL, leG_self, leG_any, eN]
   · have e : k = l.length := by omega
     rw [hk' e] at *;clear hk';subst e;have hm := QjK l;have hh := fun n => QjJ n l
     have hok := Qlx ho;have hxl := QfK l;generalize QaR l = xs at *;have d0 : ((l.length : Int) < (l.length : Int)) = False := eq_false (by omega);refine vq2 @Qai d0 ?_;refine (Qp8 xs (by omega) rfl rfl).mono ?_;rintro _ _ ⟨rfl, ys, hp, hw, rfl⟩;have hyl : ys.length = xs.length := hp.length_eq;have hym : ∀ s ∈ ys, (0 ≤ s.1 ∧ s.1 ≤ s.2) ∧ s.2 ≤ 9223372036854775807 := fun s hs => ⟨hm s (hp.mem_iff.1 hs), (hok s (hp.mem_iff.1 hs)).2.2⟩
     have hyh : ∀ n, Sp.has ys n ↔ Sp.has l n := fun n => by rw [Sp.has_perm hp, hh]
     rw [← hyl];refine vq1 @Qai ?_;refine Qab (ι := { p : Nat × List Sp.S × Nat // p.1 ≤ ys.length ∧ MOk (ys.take p.1) p.2.1 }) (fun p => ⟨[.any, .any, .any, .any, .own 1 p.1.2.2 0 p.1.2.1.length] ++ List.replicate 27 .any ++ [.own 0 v 0 ys.length, .int .i64 ys.length, .int .i64 (p.1.1 : Nat)] ++ List.replicate 37 .any, [.row v 2 (spl ys), .row p.1.2.2 2 (spl p.1.2.1)]⟩) (fun p => ys.length - p.1.1) ?_ ?_
     · refine Into.row 4 2 rfl rfl ?_;refine vq0 ?_;intro t1;exact Into.first ⟨(0, [], t1), by omega, by simp [MOk, Sp.Rt, Sp.has, Sp.Ok]⟩ ⟨[], by simp [spl]⟩ (by simp [WL, leG_self, leG_any])
     · rintro ⟨⟨k, out, w⟩, hk, hM⟩
       change k ≤ ys.length at hk
       change MOk (ys.take k) out at hM
       by_cases h : k < ys.length
       · have d0 : ((k : Int) < (ys.length : Int)) = True := eq_true (by omega);have eS := Qfk ys k h;have hs : (0 ≤ (ys.getD k (0, 0)).1 ∧ (ys.getD k (0, 0)).1 ≤ (ys.getD k (0, 0)).2) ∧ (ys.getD k (0, 0)).2 ≤ 9223372036854775807 := by
          rw [List.getD_eq_getElem?_getD, List.getElem?_eq_getElem h]; exact hym _ (List.getElem_mem h)
         have hge : ∀ z ∈ ys.take k, z.1 ≤ (ys.getD k (0, 0)).1 := fun z hz => by
          obtain ⟨i, hi, e⟩ := List.getElem_of_mem hz;rw [List.length_take] at hi;rw [List.getElem_take] at e;have := (List.pairwise_iff_getElem.1 hw) i k (by omega) h (by omega);rw [List.getD_eq_getElem?_getD, List.getElem?_eq_getElem h, ← e]; exact this
         have eN := QgG h;generalize ys.getD k (0, 0) = s at *;have hol : out.length ≤ ys.length := by have := hM.2.2.2.1; rw [List.length_take] at this; omega
         rcases List.eq_nil_or_concat out with e | ⟨A, x, e⟩
         · subst e;have d3 : ((0 : Int) < 0) = False := eq_false (by omega);refine vq4 d0 d3 eS zb38 ?_;refine ⟨by omega, h, h, fun st st_1 => ?_⟩;refine Into.at ⟨(k + 1, [s], st_1), by show k + 1 ≤ _; omega, by show MOk _ _; rw [eN]; exact hM.more s ⟨hs.1.1, hs.1.2, hs.2⟩ hge (by simp)⟩ (by show _ < _; simp; omega) ⟨[.row st 2 [[.int .i64 s.1, .int .i64 s.2]]], by rfl⟩ ?_;simp [WL, leG_self, leG_any]
         · rw [List.concat_eq_append] at e; subst e;have hx := hM.2.2.2.2 x (by simp);have eX : (spl (A ++ [x])).getD A.length [] = spG x := by rw [QaQ, QhH, ← Qai A, Qj7]
           have eL : (A ++ [x]).length = A.length + 1 := by simp
           rw [eL] at hol ⊢;have d1 : ((0 : Int) < ((A.length : Int) + 1)) = True := eq_true (by omega);have d2 : ((A.length : Int) + 1 - 1).toNat = A.length := by omega
           refine vq7 d0 d1 d2 eS eX eL zb38 ?_;refine ⟨by omega, h, h, fun st => ⟨by omega, by omega, ?_⟩⟩;refine (Qpz s x (by omega) (by omega)).then ?_
           refine vq7 d0 d1 d2 eS eX eL zb38 ?_;refine ⟨fun h5 => ⟨by omega, by omega, by omega, fun st_1 => ?_⟩, fun h5 => ⟨by omega, by omega, by omega, by omega, ?_⟩⟩
           · refine Into.at ⟨(k + 1, A ++ [x] ++ [s], st_1), by show k + 1 ≤ _; omega, by show MOk _ _; rw [eN]; exact hM.more s ⟨hs.1.1, hs.1.2, hs.2⟩ hge (fun z hz => by simp at hz; subst hz; exact h5)⟩ (by show _ < _; simp; omega) ⟨[.row st 2 [[.int .i64 s.1, .int .i64 s.2]]], ?_⟩ ?_
             · rw [List.take_of_length_le (by rw [Qai, eL]; exact Nat.le_refl _), QaQ _ [s], QhH]; rfl
             · simp [WL, leG_self, leG_any]
           · refine Into.at ⟨(k + 1, A ++ [(x.1, max x.2 s.2)], w), by show k + 1 ≤ _; omega, by show MOk _ _; rw [eN]; exact hM.grow s ⟨hs.1.1, hs.1.2, hs.2⟩ hge h5⟩ (by show _ < _; simp; omega) ⟨[.row st 2 [[.int .i64 s.1, .int .i64 s.2]]], ?_⟩ ?_
             · have := QhI A x (x.1, max x.2 s.2);simp only [spG] at this;rw [this]; rfl
             · simp [WL, leG_self, leG_any]
       · have d0 : ((k : Int) < (ys.length : Int)) = False := eq_false (by omega);have hk' : k = ys.length := by omega
         rw [hk', List.take_length] at hM;refine vq2 @Qai d0 ?_;have eR : Sp.nf l = out := Sp.nf_eq hM.1 fun n => by rw [hM.2.1, hyh]
         rw [eR];exact ⟨v, w, ys, rfl, rfl⟩
theorem Qux (l : List Sp.S) (t : Tag) (hl : l.length ≤ 4398046511104) (ho : Sp.Ok l) : GPure Tryz.prog 52 [.slice (spl l) t] (.slice (spl (Sp.nf l)) .none) :=
 GCalls.toPure ((cMake l t hl ho).mono fun g O' ⟨st0, st1, ys, e1, e2⟩ => ⟨4, .slice (spl (Sp.nf l)) .none, by
  rw [e1, e2]; exact QdA rfl (Qai _).symm (Qj6 _ 2 _), by rw [Qax]⟩)
theorem sGrow (n : Nat) (hn : n ≤ 4398046511104) : GCalls Tryz.prog 113 [.slice [] .nil, .int .i64 n] [] (fun g O' => (n = 0 ∧ g = .slice [] .nil ∧ O' = []) ∨ ∃ st xs, g = .own 0 st 0 0 ∧ O' = [.row st 2 xs]) := by
 refine h113.ca ?_
 have d0 : ((n : Int) < 0) = False := eq_false (by omega)
 refine vq3 d0 @false_imp_iff @true_and ?_
 refine ⟨fun h => ⟨by omega, by omega, by omega, by omega, by omega, by omega, fun y hy => by rw [(List.mem_replicate.1 hy).2]; rfl, by simp; omega, by simp; omega, .inr trivial, fun st => ⟨by omega, by omega, by omega, .inr ⟨st, _, rfl, rfl⟩⟩⟩, fun h => .inl (by omega)⟩
theorem QoG (a b : List Sp.S) (ta tb tt : Tag) (hl : a.length + b.length ≤ 4398046511104) : GPure Tryz.prog 87 [.slice [[.slice (spl a) ta], [.slice (spl b) tb]] tt] (.slice (spl (a ++ b)) .none) := by
 refine h87.pf ?_
 refine vq0 ?_
 refine Qab (ι := { p : Nat × Nat // (p.1 = 0 ∧ p.2 = 0) ∨ (p.1 = 1 ∧ p.2 = a.length) ∨ (p.1 = 2 ∧ p.2 = a.length + b.length) }) (fun p => ⟨[.slice [[.slice (spl a) ta], [.slice (spl b) tb]] tt, .any, .any, .int .i64 (p.1.2 : Nat), .any, .any, .any, .any, .any, .slice [[.slice (spl a) ta], [.slice (spl b) tb]] tt, .int .i64 2, .int .i64 (p.1.1 : Nat)] ++ List.replicate 24 .any, []⟩) (fun p => 2 - p.1.1) ?_ ?_
 · exact Into.first ⟨(0, 0), .inl ⟨rfl, rfl⟩⟩ ⟨[], by simp⟩ (by simp [WL, leG_self, leG_any])
 · rintro ⟨⟨k, n⟩, hk⟩;simp only [] at hk;rcases hk with ⟨rfl, rfl⟩ | ⟨rfl, rfl⟩ | ⟨rfl, rfl⟩
   · have d1 : ((0 : Int) + a.length < 0) = False := eq_false (by omega);simp +contextual -implicitDefEqProofs (maxSteps := 2000000) (disch := omega) only [↓lenV, binV, optV, ↓QaH, ↓Qac, ↓Qao, ↓QaO, ↓Qal, ↓srcV, QaG, Qaq, Qbe, GVal.cells, GVal.ofConst, ↓resV, resG, ↓reduceIte, reduceEqDiff, reduceAdd, reduceSub, reduceLeDiff, reduceCtorEq, ↓QaY, Tag.cap, GVal.solid, Nat.reduceBEq, reduceMul, reduceLT, vcA, ↓vcB, vcC, fbFy, Qai, Int.reduceLT, Int.reduceLE, Int.reduceToNat, true_imp_iff, false_imp_iff, d1, vcD]
     exact Into.at ⟨(1, a.length), .inr (.inl ⟨rfl, rfl⟩)⟩ (by show _ < _; simp) ⟨[], by simp⟩ (by simp [WL, leG_self, leG_any, Qaa])
   · have d1 : ((a.length : Int) + b.length < 0) = False := eq_false (by omega);simp +contextual -implicitDefEqProofs (maxSteps := 2000000) (disch := omega) only [↓lenV, binV, optV, ↓QaH, ↓Qac, ↓Qao, ↓QaO, ↓Qal, ↓srcV, QaG, Qaq, Qbe, GVal.cells, GVal.ofConst, ↓resV, resG, ↓reduceIte, reduceEqDiff, reduceAdd, reduceSub, reduceLeDiff, reduceCtorEq, ↓QaY, Tag.cap, GVal.solid, Nat.reduceBEq, reduceMul, reduceLT, vcA, ↓vcB, vcC, fbFy, Qai, Int.reduceLT, Int.reduceLE, Int.reduceToNat, true_imp_iff, false_imp_iff, d1, vcD]
     exact Into.at ⟨(2, a.length + b.length), .inr (.inr ⟨rfl, rfl⟩)⟩ (by show _ < _; simp) ⟨[], by simp⟩ (by simp [WL, leG_self, leG_any, Qaa])
   · simp +contextual -implicitDefEqProofs (maxSteps := 2000000) (disch := omega) only [↓lenV, binV, optV, ↓QaH, ↓Qac, ↓Qao, ↓QaO, ↓Qal, ↓srcV, QaG, Qaq, Qbe, GVal.cells, GVal.ofConst, ↓resV, resG, ↓reduceIte, reduceEqDiff, reduceAdd, reduceSub, reduceLeDiff, reduceCtorEq, ↓QaY, Tag.cap, GVal.solid, Nat.reduceBEq, reduceMul, reduceLT, vcA, ↓vcB, vcC, fbFy, Qai, Int.reduceLT, Int.reduceLE, Int.reduceToNat, true_imp_iff, false_imp_iff, vcD]
     have hg := sGrow (a.length + b.length) hl;rw [Int.natCast_add] at hg;refine hg.mono ?_;clear hg;rintro g O' hg;refine vq0 ?_;refine Qab (ι := { p : Nat × List Sp.S × Nat × List (List GVal) // (p.1 = 0 ∧ p.2.1 = []) ∨ (p.1 = 1 ∧ p.2.1 = a ∧ p.2.2.2 = spl a) ∨ (p.1 = 2 ∧ p.2.1 = a ++ b ∧ p.2.2.2 = spl (a ++ b)) }) (fun p => ⟨[.any, .any, .any, .any, .any, .any, .own 0 p.1.2.2.1 0 p.1.2.1.length] ++ List.replicate 18 .any ++ [.slice [[.slice (spl a) ta], [.slice (spl b) tb]] tt, .int .i64 2, .int .i64 (p.1.1 : Nat)] ++ List.replicate 8 .any, [.row p.1.2.2.1 2 p.1.2.2.2]⟩) (fun p => 2 - p.1.1) ?_ ?_
     · rcases hg with ⟨_, rfl, rfl⟩ | ⟨st, xs, rfl, rfl⟩
       · refine Into.row 6 2 rfl rfl ?_;refine vq0 ?_;intro t0;exact Into.first ⟨(0, [], t0, []), .inl ⟨rfl, rfl⟩⟩ ⟨[], by simp⟩ (by simp [WL, leG_self, leG_any])
       · exact Into.first ⟨(0, [], st, xs), .inl ⟨rfl, rfl⟩⟩ ⟨[], by simp⟩ (by simp [WL, leG_self, leG_any])
     · rintro ⟨⟨k, L, v, xs⟩, hk⟩;simp only [] at hk;rcases hk with ⟨rfl, rfl⟩ | ⟨rfl, rfl, rfl⟩ | ⟨rfl, rfl, rfl⟩
       · simp +contextual -implicitDefEqProofs (maxSteps := 2000000) (disch := omega) only [↓lenV, binV, optV, ↓QaH, ↓Qac, ↓Qao, ↓QaO, ↓Qal, ↓srcV, QaG, Qaq, Qbe, GVal.cells, GVal.ofConst, ↓resV, resG, ↓reduceIte, reduceEqDiff, reduceAdd, reduceSub, reduceLeDiff, reduceCtorEq, ↓QaY, Tag.cap, GVal.solid, Nat.reduceBEq, reduceMul, reduceLT, vcA, ↓vcB, vcC, fbFy, Qai, Int.reduceLT, Int.reduceLE, Int.reduceToNat, true_imp_iff, false_imp_iff, Qc9, vcD]
         exact ⟨by omega, by omega, by omega, fun st => Into.at ⟨(1, a, st, spl a), .inr (.inl ⟨rfl, rfl, rfl⟩)⟩ (by show _ < _; simp) ⟨[], by simp⟩ (by simp [WL, leG_self, leG_any, Qaa])⟩
       · simp +contextual -implicitDefEqProofs (maxSteps := 2000000) (disch := omega) only [↓lenV, binV, optV, ↓QaH, ↓Qac, ↓Qao, ↓QaO, ↓Qal, ↓srcV, QaG, Qaq, Qbe, GVal.cells, GVal.ofConst, ↓resV, resG, ↓reduceIte, reduceEqDiff, reduceAdd, reduceSub, reduceLeDiff, reduceCtorEq, ↓QaY, Tag.cap, GVal.solid, Nat.reduceBEq, reduceMul, reduceLT, vcA, ↓vcB, vcC, fbFy, Qai, Int.reduceLT, Int.reduceLE, Int.reduceToNat, true_imp_iff, false_imp_iff, Qc9, vcD]
         exact ⟨by omega, by omega, by omega, fun st => Into.at ⟨(2, L ++ b, st, spl (L ++ b)), .inr (.inr ⟨rfl, rfl, rfl⟩)⟩ (by show _ < _; simp) ⟨[], by rw [List.take_of_length_le (by rw [Qai]; exact Nat.le_refl _), QaQ]; simp⟩ (by simp [WL, leG_self, leG_any, Qaa])⟩
       · simp +contextual -implicitDefEqProofs (maxSteps := 2000000) (disch := omega) only [↓lenV, binV, optV, ↓QaH, ↓Qac, ↓Qao, ↓QaO, ↓Qal, ↓srcV, QaG, Qaq, Qbe, GVal.cells, GVal.ofConst, ↓resV, resG, ↓reduceIte, reduceEqDiff, reduceAdd, reduceSub, reduceLeDiff, reduceCtorEq, ↓QaY, Tag.cap, GVal.solid, Nat.reduceBEq, reduceMul, reduceLT, vcA, ↓vcB, vcC, fbFy, Qai, Int.reduceLT, Int.reduceLE, Int.reduceToNat, true_imp_iff, false_imp_iff, vcD]
         exact ⟨4, .slice (spl (a ++ b)) .none, QdA rfl (Qai _).symm (Qj6 _ 2 _), by rw [Qax]⟩
theorem Quw (a b : List Sp.S) (ta tb : Tag) (hl : a.length + b.length ≤ 4398046511104) (ha : Sp.Ok a) (hb : Sp.Ok b) : GPure Tryz.prog 51 [.slice (spl a) ta, .slice (spl b) tb] (.slice (spl (Sp.uni a b)) .none) := by
 refine h51.pa ?_
 refine vq0 ?_
 refine (QoG a b ta tb _ hl).then ?_ (by rfl)
 refine vq0 ?_
 refine (Qux (a ++ b) .none (by simp; omega) (ha.app hb)).then ?_ (by rfl)
 refine vq0 ?_
 rfl
end Gv.Tryz
namespace Gv.Sp
open Gv
theorem ins_cons (x s : S) (r : List S) : ins (x :: r) s = if x.2 + 1 < s.1 then x :: ins r s else if s.2 + 1 < x.1 then s :: x :: r else ins r (min s.1 x.1, max s.2 x.2) := rfl
def cut : List S → S → List S
 | [], _ => []
 | s :: r, y => (if s.2 < y.1 ∨ y.2 < s.1 then [s] else (if s.1 < y.1 then [(s.1, y.1 - 1)] else []) ++ (if y.2 < s.2 then [(y.2 + 1, s.2)] else [])) ++ cut r y
end Gv.Sp
namespace Gv.Tryz
open Go Gv Go.Proofs
open Nat (reduceEqDiff reduceAdd reduceSub reduceLeDiff reduceMul reduceLT)
def zb31 := ai @Qai <| ai @spG.eq_1 <| ai @Qc9 <| ai @false_imp_iff <| ai @true_and <| ai @true_imp_iff <| @and_true
def zb32 := ai @Qai <| ai @spG.eq_1 <| ai @Qc9 <| ai @false_imp_iff <| ai @true_and <| ai @true_imp_iff <| ai @and_true <| @List.length_append.{0}
def zb33 := ai @Qai <| ai @Qc9 <| ai @false_imp_iff <| @true_and
theorem sJoin (l : List Sp.S) (t : Tag) (s : Sp.S) (hl : l.length ≤ 4398046511104) (ho : Sp.Ok l) (hr : Sp.Rt 0 l) (hs : 0 ≤ s.1 ∧ s.1 ≤ s.2 ∧ s.2 ≤ 9223372036854775807) : GPure Tryz.prog 118 [.slice (spl l) t, .agg (spG s)] (.slice (spl (Sp.ins l s)) .none) := by
 refine h118.pa ?_
 unfold spG
 refine vq1 @Qai ?_
 intro st
 refine Qab (ι := { p : Nat × Sp.S × Bool × List Sp.S × Nat // p.1 ≤ l.length ∧ p.2.2.2.1 ++ (if p.2.2.1 = true then l.drop p.1 else Sp.ins (l.drop p.1) p.2.1) = Sp.ins l s ∧ (0 ≤ p.2.1.1 ∧ p.2.1.1 ≤ p.2.1.2 ∧ p.2.1.2 ≤ 9223372036854775807) ∧ (p.2.2.1 = true → Sp.Rt (p.2.1.2 + 2) (l.drop p.1)) ∧ Sp.Rt 0 (l.drop p.1) ∧ p.2.2.2.1.length ≤ p.1 + p.2.2.1.toNat }) (fun p => ⟨[.slice (spl l) t, .any, .any, .ptr 0 st 0 0, .any, .slice (spl p.1.2.2.2.1) (.tok 1 p.1.2.2.2.2), .bool p.1.2.2.1, .int .i64 (p.1.1 : Nat)] ++ List.replicate 69 .any, [.row st 2 [[.int .i64 p.1.2.1.1, .int .i64 p.1.2.1.2]], .tok p.1.2.2.2.2 2]⟩) (fun p => l.length - p.1.1) ?_ ?_
 · refine Into.tok 5 2 [] rfl rfl ?_;refine vq0 ?_;intro t0;exact Into.first ⟨(0, s, false, [], t0), by omega, by simp, hs, by simp, hr, by simp⟩ ⟨[], by simp⟩ (by simp [WL, leG_self, leG_any, QcN])
 · rintro ⟨⟨k, s', done, out, v⟩, hk, he, hs', hd, hrt, hol⟩;simp only [] at hk he hs' hd hrt hol;by_cases h : k < l.length
   · have d0 : ((k : Int) < (l.length : Int)) = True := eq_true (by omega);have eS := Qfk l k h;have hx := ho.at k;rw [QgF h] at he hd hrt;generalize l.getD k (0, 0) = x at *;obtain ⟨r1, r2, r3⟩ := hrt;cases done with
     | true =>
      have hd' := (hd rfl).1;have hd2 := (hd rfl).2.2;have dA : (x.2 < s'.1 - 1) = False := eq_false (by omega);have dA2 : (x.2 < s'.1) = False := eq_false (by omega);have dB : (s'.2 < x.1 - 1) = True := eq_true (by omega);rw [if_pos rfl] at he;refine vq6 d0 eS dA dA2 dB zb31 ?_;refine ⟨by omega, fun st_1 => ⟨by simp at hol; omega, by simp at hol; omega, fun st_2 => ?_⟩⟩;refine Into.at ⟨(k + 1, s', true, out ++ [x], st_2), by show k + 1 ≤ _; omega, by rw [if_pos rfl, ← he]; simp, hs', fun _ => hd2.weak (by show s'.2 + 2 ≤ _; omega), r3.weak (by omega), by simp at *; omega⟩ (by show _ < _; simp; omega) ⟨[.row st_1 2 [[.int .i64 x.1, .int .i64 x.2]]], by simp⟩ ?_;simp [WL, leG_self, leG_any, QaQ, QcX, QcN, spG]
     | false =>
      rw [if_neg (by simp)] at he;rw [Sp.ins_cons] at he;by_cases cA : x.2 < s'.1 - 1
      · have dA : (x.2 < s'.1 - 1) = True := eq_true (by omega);rw [if_pos (by omega)] at he;refine vq4 d0 eS dA zb31 ?_;refine ⟨by omega, fun st_1 => ⟨by simp at hol; omega, by simp at hol; omega, fun st_2 => ?_⟩⟩;refine Into.at ⟨(k + 1, s', false, out ++ [x], st_2), by show k + 1 ≤ _; omega, by rw [if_neg (by simp), ← he]; simp, hs', by simp, r3.weak (by omega), by simp at *; omega⟩ (by show _ < _; simp; omega) ⟨[.row st_1 2 [[.int .i64 x.1, .int .i64 x.2]]], by simp⟩ ?_;simp [WL, leG_self, leG_any, QaQ, QcX, QcN, spG]
      · have dA : (x.2 < s'.1 - 1) = False := eq_false (by omega);rw [if_neg (by omega)] at he;have dd : (x.2 < s'.1) = False ∨ ((x.2 < s'.1) = True ∧ (s'.1 = 0) = False) := by
         by_cases c : x.2 < s'.1
         · exact .inr ⟨eq_true c, eq_false (by omega)⟩
         · exact .inl (eq_false c)
        by_cases cB : s'.2 < x.1 - 1
        · have dB : (s'.2 < x.1 - 1) = True := eq_true (by omega);rw [if_pos (by omega)] at he;rcases dd with dA2 | ⟨dA2, dZ⟩
          · refine vq6 d0 eS dA dA2 dB zb32 ?_;refine ⟨by omega, fun st_1 => ⟨by simp at hol; omega, by simp at hol; omega, fun st_2 => ⟨by simp at hol; omega, by simp at hol; omega, fun st_3 => ?_⟩⟩⟩;refine Into.at ⟨(k + 1, s', true, out ++ [s'] ++ [x], st_3), by show k + 1 ≤ _; omega, by rw [if_pos rfl, ← he]; simp, hs', fun _ => r3.weak (by show s'.2 + 2 ≤ _; omega), r3.weak (by omega), by simp at *; omega⟩ (by show _ < _; simp; omega) ⟨[.row st_1 2 [[.int .i64 x.1, .int .i64 x.2]]], by simp⟩ ?_;simp [WL, leG_self, leG_any, QaQ, QcX, QcN, spG]
          · refine vq7 d0 eS dA dA2 dZ dB zb32 ?_;refine ⟨by omega, fun st_1 => ⟨by simp at hol; omega, by simp at hol; omega, fun st_2 => ⟨by simp at hol; omega, by simp at hol; omega, fun st_3 => ?_⟩⟩⟩;refine Into.at ⟨(k + 1, s', true, out ++ [s'] ++ [x], st_3), by show k + 1 ≤ _; omega, by rw [if_pos rfl, ← he]; simp, hs', fun _ => r3.weak (by show s'.2 + 2 ≤ _; omega), r3.weak (by omega), by simp at *; omega⟩ (by show _ < _; simp; omega) ⟨[.row st_1 2 [[.int .i64 x.1, .int .i64 x.2]]], by simp⟩ ?_;simp [WL, leG_self, leG_any, QaQ, QcX, QcN, spG]
        · have dB : (s'.2 < x.1 - 1) = False := eq_false (by omega);rw [if_neg (by omega)] at he;rcases dd with dA2 | ⟨dA2, dZ⟩
          · refine vq6 d0 eS dA dA2 dB zb31 ?_;refine ⟨by omega, fun st_1 => ?_⟩;refine Into.at ⟨(k + 1, (min s'.1 x.1, max s'.2 x.2), false, out, v), by show k + 1 ≤ _; omega, by rw [if_neg (by simp), ← he], by show 0 ≤ min _ _ ∧ min _ _ ≤ max _ _ ∧ max _ _ ≤ _; omega, by simp, r3.weak (by omega), by simp at *; omega⟩ (by show _ < _; simp; omega) ⟨[.row st_1 2 [[.int .i64 x.1, .int .i64 x.2]]], by simp⟩ ?_;simp [WL, leG_self, leG_any, QaQ, QcX, QcN, spG]
          · refine vq7 d0 eS dA dA2 dZ dB zb31 ?_;refine ⟨by omega, fun st_1 => ?_⟩;refine Into.at ⟨(k + 1, (min s'.1 x.1, max s'.2 x.2), false, out, v), by show k + 1 ≤ _; omega, by rw [if_neg (by simp), ← he], by show 0 ≤ min _ _ ∧ min _ _ ≤ max _ _ ∧ max _ _ ≤ _; omega, by simp, r3.weak (by omega), by simp at *; omega⟩ (by show _ < _; simp; omega) ⟨[.row st_1 2 [[.int .i64 x.1, .int .i64 x.2]]], by simp⟩ ?_;simp [WL, leG_self, leG_any, QaQ, QcX, QcN, spG]
   · have d0 : ((k : Int) < (l.length : Int)) = False := eq_false (by omega);rw [List.drop_of_length_le (by omega)] at he;cases done with
     | true =>
      refine vq2 d0 zb33 ?_;rw [if_pos rfl, List.append_nil] at he;rw [he]
     | false =>
      refine vq2 d0 zb33 ?_;rw [if_neg (by simp)] at he;exact ⟨by simp at hol; omega, by simp at hol; omega, fun _ => by rw [← he, QaQ]; rfl⟩
theorem Qnt (l : List Sp.S) (t : Tag) (hl : l.length ≤ 4398046511104) (ho : Sp.Ok l) : GPure Tryz.prog 99 [.slice (spl l) t] (.slice (spl (Sp.nf l)) .none) := by
 refine h99.pa ?_
 refine vq1 @Qai ?_
 refine Qab (ι := { p : Nat × List Sp.S // p.1 ≤ l.length ∧ Sp.nfA p.2 (l.drop p.1) = Sp.nf l ∧ Sp.Rt 0 p.2 ∧ Sp.Ok p.2 ∧ p.2.length ≤ p.1 }) (fun p => ⟨[.slice (spl l) t, .any, .any, .slice (spl p.1.2) .none, .int .i64 (p.1.1 : Nat)] ++ List.replicate 28 .any, []⟩) (fun p => l.length - p.1.1) ?_ ?_
 · exact Into.first ⟨(0, []), by omega, by simp [Sp.nf], trivial, Sp.Ok.nil, by simp⟩ ⟨[], by simp⟩ (by simp [WL, leG_self, leG_any, Qaa, leG_none, QcN])
 · rintro ⟨⟨k, acc⟩, hk, he, hr, hok, hal⟩;simp only [] at hk he hr hok hal;by_cases h : k < l.length
   · have d0 : ((k : Int) < (l.length : Int)) = True := eq_true (by omega);have eS := Qfk l k h;have hx := ho.at k;rw [QgF h] at he;generalize l.getD k (0, 0) = x at *;have hpl : (Sp.put acc x).length ≤ acc.length + 1 := by
      unfold Sp.put; split
      · exact Sp.ins_len _ _
      · omega
     have hpr := Sp.put_rt x hr;have hpo : Sp.Ok (Sp.put acc x) := Sp.ok_of hpr (by omega) fun n hn => by
      rcases (Sp.put_has x hr n).1 hn with h' | h'
      · exact hok.has h'
      · omega
     change Sp.nfA (Sp.put acc x) (l.drop (k + 1)) = _ at he
     by_cases c : max 0 x.1 ≤ x.2
     · have d1 : (x.2 < max 0 x.1) = False := eq_false (by omega);have ep : Sp.put acc x = Sp.ins acc (max 0 x.1, x.2) := by unfold Sp.put; rw [if_pos (by omega), Int.max_comm]
       refine vq4 d0 d1 eS zb31 ?_;refine ⟨by omega, by omega, fun st => ⟨⟨_, rfl⟩, ?_⟩⟩;refine (sJoin acc .none (max 0 x.1, x.2) (by omega) hok hr ⟨by show 0 ≤ max _ _; omega, c, hx.2.2⟩).then ?_ (by rfl)
       rw [← ep];refine vq5 @Qai d0 eS @spG.eq_1 @Qc9 ?_;exact Into.at ⟨(k + 1, Sp.put acc x), by show k + 1 ≤ _; omega, he, hpr, hpo, by show (Sp.put acc x).length ≤ k + 1; omega⟩ (by show _ < _; simp; omega) ⟨[.row st 2 [[.int .i64 (max 0 x.1), .int .i64 x.2]]], by simp⟩ (by simp [WL, leG_self, leG_any, Qaa])
     · have d1 : (x.2 < max 0 x.1) = True := eq_true (by omega);have ep : Sp.put acc x = acc := by unfold Sp.put; rw [if_neg (by omega)]
       rw [ep] at he;refine vq4 d0 d1 eS zb31 ?_;refine ⟨by omega, by omega, fun st => ⟨⟨_, rfl⟩, ?_⟩⟩;exact Into.at ⟨(k + 1, acc), by show k + 1 ≤ _; omega, he, hr, hok, by show acc.length ≤ k + 1; omega⟩ (by show _ < _; simp; omega) ⟨[.row st 2 [[.int .i64 (max 0 x.1), .int .i64 x.2]]], by simp⟩ (by simp [WL, leG_self, leG_any, Qaa])
   · have d0 : ((k : Int) < (l.length : Int)) = False := eq_false (by omega);rw [List.drop_of_length_le (by omega)] at he;refine vq2 d0 zb33 ?_
     rw [← he]; rfl
abbrev nObj (nt : Nat) (n : Int) (M O : List Hs) : List GObj := [.row nt 3 [[.int .i64 n, .slice (hsG M) .none, .slice (hsG O) .none]]]
theorem at_q {l : List Hs} {i : Nat} (h : i < l.length) : l[i]? = some (l.getD i h0) := by
 rw [List.getD_eq_getElem?_getD, List.getElem?_eq_getElem h]; rfl
theorem rID (nt : Nat) (n : Int) (M O : List Hs) (hn : (M ++ O).Nodup) (hM : M.length ≤ 1000000) (hO : O.length ≤ 1000000) (h : Hs) : GCalls Tryz.prog 67 [.ptr 0 nt 0 0, .agg (bytesG h.1)] (nObj nt n M O) (fun g O' => g = idV (ofM M O) h ∧ O' = nObj nt n M O) := by
 refine h67.ca ?_
 refine vq2 @hsG_len @v32 ?_
 refine Qab (ι := { k : Nat // k ≤ M.length ∧ h ∉ M.take k }) (fun k => ⟨[.ptr 0 nt 0 0, .any, .any, .ref (bytesG h.1), .any, .any, .int .i64 (k.1 : Nat)] ++ List.replicate 40 .any, nObj nt n M O⟩) (fun k => M.length - k.1) ?_ ?_
 · exact Into.first ⟨0, Nat.zero_le _, by simp⟩ ⟨[], by simp⟩ (by simp [WL, leG_self, leG_any])
 · rintro ⟨k, hk, hno⟩
   change k ≤ M.length at hk
   by_cases hc : k < M.length
   · have d0 : ((k : Int) < (M.length : Int)) = True := eq_true (by omega);have eS := hsG_at M k hc;have ea := at_q hc;have ht := takeH hc;have hi := @id_m M O hn k;generalize M.getD k h0 = x at *;have ce := QaA x h;by_cases e : x = h
     · subst e;rw [decide_eq_true rfl] at ce;have ev : idV (ofM M O) x = .tuple [.int .i64 (k : Int), .bool true] := by unfold idV; rw [hi ea]; rfl
       refine vq5 d0 eS @hsG_len ce @v32 ?_;exact ⟨by omega, ev.symm⟩
     · rw [decide_eq_false e] at ce;refine vq5 d0 eS @hsG_len ce @v32 ?_;refine ⟨by omega, ?_⟩;exact Into.at ⟨k + 1, hc, by rw [ht, List.mem_append, List.mem_singleton]; exact fun q => q.elim hno fun q => e q.symm⟩ (by show M.length - (k + 1) < M.length - k; omega) ⟨[], by simp⟩ (by simp [WL, leG_self, leG_any, Qaa])
   · have d0 : ((k : Int) < (M.length : Int)) = False := eq_false (by omega);rw [List.take_of_length_le (by omega)] at hno;refine vq2 d0 @hsG_len ?_;refine Qab (ι := { k : Nat // k ≤ O.length ∧ h ∉ O.take k }) (fun k => ⟨[.ptr 0 nt 0 0, .any, .any, .ref (bytesG h.1), .any, .any, .any, .int .i64 (k.1 : Nat)] ++ List.replicate 39 .any, nObj nt n M O⟩) (fun k => O.length - k.1) ?_ ?_
     · exact Into.first ⟨0, Nat.zero_le _, by simp⟩ ⟨[], by simp⟩ (by simp [WL, leG_self, leG_any])
     · rintro ⟨j, hj, hno2⟩
       change j ≤ O.length at hj
       by_cases hc : j < O.length
       · have d0 : ((j : Int) < (O.length : Int)) = True := eq_true (by omega);have eS := hsG_at O j hc;have ea := at_q hc;have ht := takeH hc;have hi := @id_o M O hn j;generalize O.getD j h0 = x at *;have ce := QaA x h;by_cases e : x = h
         · subst e;rw [decide_eq_true rfl] at ce;have ev : idV (ofM M O) x = .tuple [.int .i64 (1099511627776 + (j : Int)), .bool true] := by unfold idV; rw [hi ea]; rfl
           have en : norm .i64 (1099511627776 + (j : Int)) = 1099511627776 + (j : Int) := QaZ (by omega);refine vq6 d0 eS @hsG_len ce en @v32 ?_;exact ⟨by omega, ev.symm⟩
         · rw [decide_eq_false e] at ce;refine vq5 d0 eS @hsG_len ce @v32 ?_;refine ⟨by omega, ?_⟩;exact Into.at ⟨j + 1, hc, by rw [ht, List.mem_append, List.mem_singleton]; exact fun q => q.elim hno2 fun q => e q.symm⟩ (by show O.length - (j + 1) < O.length - j; omega) ⟨[], by simp⟩ (by simp [WL, leG_self, leG_any, Qaa])
       · have d0 : ((j : Int) < (O.length : Int)) = False := eq_false (by omega);rw [List.take_of_length_le (by omega)] at hno2;have ev : idV (ofM M O) h = .tuple [.int .i64 0, .bool false] := by unfold idV; rw [Qpd (by rw [List.mem_append]; exact fun q => q.elim hno hno2)]; rfl
         refine vq2 d0 @hsG_len ?_;exact ev.symm
theorem QuX (nt : Nat) (n : Int) (M O : List Hs) (j : Nat) (hj : j ≤ 1000000) (hM : M.length ≤ 1000000) (hO : O.length ≤ 1000000) : GCalls Tryz.prog 68 [.ptr 0 nt 0 0, .int .i64 (j : Int)] (nObj nt n M O) (fun g O' => g = .tuple [.agg (bytesG (M.getD j h0).1), .bool (decide (j < M.length))] ∧ O' = nObj nt n M O) := by
 have d0 : (0 ≤ (j : Int)) = True := eq_true (by omega)
 have d1 : (1099511627776 ≤ (j : Int)) = False := eq_false (by omega)
 refine GCalls.dropTo ?_
 by_cases h : j < M.length
 · have d2 : ((j : Int) < (M.length : Int)) = True := eq_true (by omega);have eS := hsG_at M j h;rw [decide_eq_true h];generalize M.getD j h0 = x at *;refine h68.ca ?_;refine vq7 d0 d1 d2 @hsG_len eS @all_hsG @v32 ?_;exact fun sb => ⟨_, nObj nt n M O, [.row sb 32 [bytesG x.1]], rfl, leA_refl _, rfl, rfl⟩
 · have d2 : ((j : Int) < (M.length : Int)) = False := eq_false (by omega);have e0 : M.getD j h0 = h0 := by rw [List.getD_eq_getElem?_getD, List.getElem?_eq_none (by omega)]; rfl
   rw [decide_eq_false h, e0];refine h68.ca ?_;refine vq4 d0 d1 d2 @hsG_len ?_;exact fun sb => ⟨_, nObj nt n M O, [_], rfl, leA_refl _, rfl, rfl⟩
theorem QuY (nt : Nat) (n : Int) (M O : List Hs) (j : Nat) (hj : j ≤ 1000000) (hM : M.length ≤ 1000000) (hO : O.length ≤ 1000000) : GCalls Tryz.prog 68 [.ptr 0 nt 0 0, .int .i64 (1099511627776 + (j : Int))] (nObj nt n M O) (fun g O' => g = .tuple [.agg (bytesG (O.getD j h0).1), .bool (decide (j < O.length))] ∧ O' = nObj nt n M O) := by
 have d0 : (0 ≤ 1099511627776 + (j : Int)) = True := eq_true (by omega)
 have d1 : ((1099511627776 : Int) ≤ 1099511627776 + (j : Int)) = True := eq_true (by omega)
 have d3 : (1099511627776 + (j : Int) < (M.length : Int)) = False := eq_false (by omega)
 have eV : (1099511627776 + (j : Int) - 1099511627776) = j := by omega
 have en : norm .i64 (1099511627776 + (O.length : Int)) = 1099511627776 + (O.length : Int) := QaZ (by omega)
 refine GCalls.dropTo ?_
 by_cases h : j < O.length
 · have d2 : (1099511627776 + (j : Int) < 1099511627776 + (O.length : Int)) = True := eq_true (by omega);have eS := hsG_at O j h;rw [decide_eq_true h];generalize O.getD j h0 = x at *;refine h68.ca ?_;refine vq10 d0 d1 d2 d3 eV en @hsG_len eS @all_hsG @v32 ?_
   trace_state
   exact fun sb => ⟨by omega, by omega, _, nObj nt n M O, [.row sb 32 [bytesG x.1]], rfl, leA_refl _, rfl, rfl⟩
 · have d2 : (1099511627776 + (j : Int) < 1099511627776 + (O.length : Int)) = False := eq_false (by omega);have e0 : O.getD j h0 = h0 := by rw [List.getD_eq_getElem?_getD, List.getElem?_eq_none (by omega)]; rfl
   rw [decide_eq_false h, e0];refine h68.ca ?_;refine vq7 d0 d1 d2 d3 eV en @hsG_len ?_;exact fun sb => ⟨_, nObj nt n M O, [_], rfl, leA_refl _, rfl, rfl⟩
theorem ok1U (a b : Int) (h1 : -9223372036854775808 ≤ a ∧ a ≤ 9223372036854775807) (h2 : -9223372036854775808 ≤ b ∧ b ≤ 9223372036854775807) : Sp.Ok [(a, b)] := by
 intro s hs
 rw [List.mem_singleton] at hs
 subst hs
 exact ⟨h1, h2⟩
theorem QmG (nt : Nat) (n : Int) (M O : List Hs) (hM : M.length ≤ 1000000) : GCalls Tryz.prog 66 [.ptr 0 nt 0 0] (nObj nt n M O) (fun g O' => g = .slice (Gv.spl (Sp.nf [(0, (M.length : Int) - 1)])) .none ∧ O' = nObj nt n M O) := by
 have c := Qnt [(0, (M.length : Int) - 1)] .full (by simp) (ok1U _ _ (by omega) (by omega))
 refine h66.ca ?_
 refine vq1 @hsG_len ?_
 refine c.then ?_ (by rfl)
 exact vd0
theorem rAllS (nt : Nat) (n : Int) (M O : List Hs) (hM : M.length ≤ 1000000) (hO : O.length ≤ 1000000) : GCalls Tryz.prog 65 [.ptr 0 nt 0 0] (nObj nt n M O) (fun g O' => g = .slice (Gv.spl (Sp.nf [(0, (M.length : Int) - 1), (1099511627776, 1099511627776 + (O.length : Int) - 1)])) .none ∧ O' = nObj nt n M O) := by
 have c := Qnt [(0, (M.length : Int) - 1), (1099511627776, 1099511627776 + (O.length : Int) - 1)] .full (by simp) (by
  have a := ok1U 0 ((M.length : Int) - 1) (by omega) (by omega);have b := ok1U 1099511627776 (1099511627776 + (O.length : Int) - 1) (by omega) (by omega);exact a.app b)
 have en : norm .i64 (1099511627776 + (O.length : Int)) = 1099511627776 + (O.length : Int) := QaZ (by omega)
 have em : norm .i64 (1099511627776 + (O.length : Int) - 1) = 1099511627776 + (O.length : Int) - 1 := QaZ (by omega)
 refine h65.ca ?_
 refine vq3 @hsG_len en em ?_
 trace_state
 refine c.then ?_ (by rfl)
 exact vd0
noncomputable def Qc4 (L : GM) (h : Hs) : Bool := by classical exact if Reach (parsM L) (parsM L h) h then true else false
theorem Qfo {L : GM} {h : Hs} (e : Reach (parsM L) (parsM L h) h) : Qc4 L h = true := by unfold Qc4; exact if_pos e
theorem Qeo {L : GM} {h : Hs} (e : ¬ Reach (parsM L) (parsM L h) h) : Qc4 L h = false := by unfold Qc4; exact if_neg e
theorem hIn (l : List Hs) (t : Tag) (h : Hs) (hl : l.length ≤ 4398046511104) : GPure Tryz.prog 21 [.slice (hsG l) t, .agg (bytesG h.1)] (.bool (decide (h ∈ l))) := by
 refine h21.pa ?_
 refine vq1 @v32 ?_
 refine Qab (ι := { k : Nat // k ≤ l.length ∧ h ∉ l.take k }) (fun k => ⟨[.slice (hsG l) t, .any, .any, .ref (bytesG h.1), .any, .int .i64 (k.1 : Nat)] ++ List.replicate 12 .any, []⟩) (fun k => l.length - k.1) ?_ ?_
 · exact Into.first ⟨0, by omega, by simp⟩ ⟨[], by simp⟩ (by simp [WL, leG_self, leG_any, Qaa])
 · rintro ⟨k, hk, he⟩;by_cases h' : k < l.length
   · have d0 : ((k : Int) < (l.length : Int)) = True := eq_true (by omega);have ea := hsG_at l k h';obtain ⟨x, ex⟩ : ∃ x, l.getD k h0 = x := ⟨_, rfl⟩
     rw [ex] at ea;have ht := takeH h';rw [ex] at ht;have ce := QaA x h;by_cases e : x = h
     · rw [decide_eq_true e] at ce;have em : h ∈ l := List.mem_of_mem_take (i := k + 1) (by rw [ht, e]; simp);rw [decide_eq_true em];refine vq5 d0 ea @hsG_len ce @v32 ?_;omega
     · rw [decide_eq_false e] at ce;refine vq5 d0 ea @hsG_len ce @v32 ?_;refine ⟨by omega, ?_⟩;refine Into.at ⟨k + 1, by omega, ?_⟩ (by show l.length - (k + 1) < l.length - k; omega) ⟨[], by simp⟩ (by simp [WL, leG_self, leG_any, Qaa]);rw [ht];intro q;rcases List.mem_append.1 q with q | q
       · exact he q
       · exact e (List.mem_singleton.1 q).symm
   · have d0 : ((k : Int) < (l.length : Int)) = False := eq_false (by omega);rw [List.take_of_length_le (by omega)] at he;rw [decide_eq_false he];exact vd2 d0 @hsG_len
theorem GCalls.keep1' {P : Program} {f : FuncId} {args args' : List GVal} {x : GObj} {r : GVal} (h : GCalls P f args [x] (fun g O' => g = r ∧ O' = [x])) {O : List GObj} (i : Nat) (hO : O[i]? = some x) (ha : args.map (GVal.place i) = args') (hx : x.isClock = false) (hc : Qad O = none) :
 GCalls P f args' O (fun g O' => g = r ∧ O' = O) := GCalls.keep1 (h.mono (by rintro g O' ⟨rfl, rfl⟩; exact ⟨x, rfl, rfl, rfl⟩)) i hO ha hx hc
def zb19 := ai @Qbr <| ai @Nat.sub_zero <| ai @hsG_len <| ai @all_hsG <| ai @Qep <| ai @List.length_append.{0} <| ai @List.length_singleton.{0} <| ai @List.length_cons.{0} <| ai @List.length_nil.{0} <| ai @true_imp_iff <| @v32
def zb20 := ai @Qbr <| ai @Nat.sub_zero <| ai @hsG_len <| ai @all_hsG <| ai @Qep <| ai @if32 <| ai @Qfd <| ai @List.length_append.{0} <| ai @List.length_singleton.{0} <| ai @List.length_cons.{0} <| ai @List.length_nil.{0} <| @v32
theorem QpT (L : GM) (hL : SSC L) (hm : GMOK L) (h : Hs) (rt : Nat) : GCalls Tryz.prog 61 [.ptr 0 rt 0 0, .agg (bytesG h.1)] (rObj rt L) (fun g O' => g = .bool (Qc4 L h) ∧ O' = rObj rt L) := by
 have hll := hm.len
 have hhl := hm.hashes
 have cP := fun x => QfS L hL (by omega) x rt
 have hp0 := hm.pars h
 refine GCalls.dropTo ?_
 refine h61.ca ?_
 refine vq1 @v32 ?_
 refine (cP h).mono ?_
 rintro g O' ⟨rfl, rfl⟩
 refine vq2 @hsG_len @all_hsG ?_
 refine ⟨by omega, by omega, fun s1 => ?_⟩
 have mu1 : ∀ u s n : Nat, rMu u 4 s n < rMu u 4 s (n + 1) := fun u s n => by unfold rMu; omega
 have mu2 : ∀ u s n m : Nat, s < u → m ≤ 4 → rMu u 4 (s + 1) (n + m) < rMu u 4 s (n + 1) := fun u s n m h1 h2 => by
  unfold rMu; omega
 obtain ⟨U, hU⟩ : ∃ U, parsM L h ++ hashesM L = U := ⟨_, rfl⟩
 have hUl : U.length ≤ 50004 := by rw [← hU, List.length_append]; omega
 have hU1 : ∀ x ∈ parsM L h, x ∈ U := fun x hx => by rw [← hU]; exact List.mem_append_left _ hx
 have hU2 : ∀ x y, y ∈ parsM L x → y ∈ U := fun x y hy => by rw [← hU]; exact List.mem_append_right _ (QjU hy)
 refine Qab (ι := { p : (List Hs × List Hs) × Nat // (RInv (parsM L) U (parsM L h) p.1.1 p.1.2 ∧ h ∉ p.1.1) ∧ p.1.2.length ≤ 4 + 4 * p.1.1.length }) (fun p => ⟨[.ptr 0 rt 0 0, .any, .any, .ref (bytesG h.1), .any, .slice (hsG p.1.1.1) (.tok 1 p.1.2), .slice (hsG p.1.1.2) .none] ++ List.replicate 37 .any, rObj rt L ++ [.tok p.1.2 32]⟩) (fun p => rMu U.length 4 p.1.1.1.length p.1.1.2.length) ?_ ?_
 · refine Into.slot 6 _ (.slice (hsG (parsM L h)) .none) rfl (fun E v q => GLe.none E v q) ?_;refine Into.drop (O := rObj rt L) (X := [.tok s1 32]) rfl ?_;refine Into.tok 5 32 [] rfl rfl ?_;refine vq0 ?_;intro ss;exact Into.first ⟨(([], parsM L h), ss), ⟨⟨List.nodup_nil, fun x hx => hU1 x (by simpa using hx), fun x hx => .inr hx, fun x hx => by simp at hx, fun x hx => .base x (by simpa using hx)⟩, by simp⟩, by show (parsM L h).length ≤ 4 + 4 * 0; omega⟩ ⟨[], by simp⟩ (by simp [WL, leG_self, leG_any, hsG])
 · rintro ⟨⟨⟨S, todo⟩, v⟩, ⟨inv, hnS⟩, hlen⟩
   change RInv (parsM L) U (parsM L h) S todo at inv
   have hnS : h ∉ S := hnS
   change todo.length ≤ 4 + 4 * S.length at hlen
   have hSl := inv.len;rcases List.eq_nil_or_concat todo with rfl | ⟨tt, x, e⟩
   · have hn : ¬ Reach (parsM L) (parsM L h) h := fun q => hnS ((inv.fin h).2 q)
     rw [Qeo hn];refine vq6 @hsG_len @Int.lt_irrefl @false_imp_iff @true_and @List.length_nil.{0} @Int.natCast_zero ?_;exact ⟨_, rObj rt L, [.tok v 32], rfl, leA_refl _, rfl, rfl⟩
   · rw [List.concat_eq_append] at e;subst e;have d0 : ((0 : Int) < (tt.length : Int) + 1) = True := eq_true (by omega);have htl : tt.length + 1 ≤ 4 + 4 * S.length := by rw [List.length_append, List.length_singleton] at hlen; exact hlen
     have d1 : norm .i64 ((tt.length : Int) + 1 - 1) = (tt.length : Int) := by rw [QaZ (by omega)]; omega
     have d2 : ((tt.length : Int)).toNat = tt.length := by omega
     have eS : (hsG (tt ++ [x])).getD tt.length [] = bytesG x.1 := by
      rw [hsG_at _ _ (by simp)];simp [List.getD]
     have eT : List.take tt.length (tt ++ [x]) = tt := List.take_left;have ce := QaA x h;by_cases ex : x = h
     · rw [decide_eq_true ex] at ce;have hy : Reach (parsM L) (parsM L h) h := by
        have := inv.sound x (.inr (by simp));rw [ex] at this; exact this
       rw [Qfo hy];refine vq7 d0 d1 d2 eS eT ce zb19 ?_;exact ⟨by omega, by omega, fun st => ⟨by omega, by omega, by omega, _, rObj rt L, [.tok v 32, .row st 32 [bytesG x.1]], rfl, leA_refl _, rfl, rfl⟩⟩
     · rw [decide_eq_false ex] at ce;have cI := hIn S (.tok 1 v) x (by omega);by_cases hx : x ∈ S
       · rw [decide_eq_true hx] at cI;refine vq7 d0 d1 d2 eS eT ce zb19 ?_;refine ⟨by omega, by omega, fun st => ⟨by omega, by omega, by omega, ?_⟩⟩;refine cI.then ?_ (by rfl)
         refine vq1 (ai @Qbr <| ai @Nat.sub_zero <| ai @hsG_len <| ai d0 <| ai d1 <| ai d2 <| ai eS <| ai eT <| ai @all_hsG <| ai @Qep <| ai ce <| @v32) ?_;exact Into.at ⟨((S, tt), v), ⟨inv.skip hx, hnS⟩, by show tt.length ≤ 4 + 4 * S.length; omega⟩ (mu1 _ _ _) ⟨[.row st 32 [bytesG x.1]], by simp⟩ (by simp [WL, leG_self, leG_any])
       · rw [decide_eq_false hx] at cI;have hkx := hm.pars x;have hgo := inv.go hx (fun y hy => hU2 x y hy);have hgl := hgo.len;rw [List.length_append, List.length_singleton] at hgl;refine vq7 d0 d1 d2 eS eT ce zb19 ?_;refine ⟨by omega, by omega, fun st => ⟨by omega, by omega, by omega, ?_⟩⟩;refine cI.then ?_ (by rfl)
         refine vq1 zb20 ?_;refine ⟨by omega, by omega, fun s2 => ⟨by omega, by omega, fun s3 => ⟨⟨[_], rfl⟩, ?_⟩⟩⟩;refine (GCalls.keep1' (cP x) (O := [.row rt 1 [[.slice (csG L) .none]], .tok s2 32, .row st 32 [bytesG x.1], .tok s3 32]) 0 rfl rfl rfl rfl).mono ?_;rintro g O' ⟨rfl, rfl⟩;refine vq1 zb20 ?_;refine ⟨by omega, by omega, fun s4 => ?_⟩;refine Into.at ⟨((S ++ [x], tt ++ parsM L x), s2), ⟨hgo, fun q => ?_⟩, ?_⟩ ?_ ⟨[.row st 32 [bytesG x.1], .tok s4 32], by simp⟩ (by simp [WL, leG_self, leG_any, leG_none, hsG_app, hsG])
         · rcases List.mem_append.1 q with q | q
           · exact hnS q
           · exact ex (List.mem_singleton.1 q).symm
         · show (tt ++ parsM L x).length ≤ 4 + 4 * (S ++ [x]).length;rw [List.length_append, List.length_append, List.length_singleton]; omega
         · show rMu _ 4 (S ++ [x]).length (tt ++ parsM L x).length < rMu _ 4 S.length (tt.length + 1);rw [List.length_append, List.length_append, List.length_singleton];exact mu2 _ _ _ _ (by omega) hkx
noncomputable def Qfe (n : Int) : Hs := Classical.choose (QpV n)
theorem QdR (n : Int) : GPure Tryz.prog 13 [.int .i64 n] (.agg (bytesG (Qfe n).1)) := Classical.choose_spec (QpV n)
noncomputable def QfT (l : List Int) (k : Nat) : List Hs := (List.range k).map fun j => Qfe (l.getD j 0)
theorem QjY (l : List Int) (k : Nat) : (QfT l k).length = k := by simp [QfT]
theorem Qi6 (l : List Int) (k : Nat) : hsG (QfT l (k + 1)) = hsG (QfT l k) ++ [bytesG (Qfe (l.getD k 0)).1] := by
 simp [QfT, List.range_succ, hsG]
theorem QaD (l : List Int) (x : Int) : ints l ++ [[.int .i64 x]] = ints (l ++ [x]) := by simp [ints]
theorem Qbu (l : List Int) : (ints l).length = l.length := by simp [ints]
theorem QbT (l : List Int) : (∀ x ∈ ints l, x.length = 1) = True := eq_true fun x hx => by obtain ⟨s, _, rfl⟩ := List.mem_map.1 hx; rfl
theorem Qgd (O : List GObj) (n : Nat) (l : List Int) : frzLL (Gv.frz O (n + 1)) (ints l) = some (ints l) :=
 Qcp fun x hx => by
  obtain ⟨s, _, rfl⟩ := List.mem_map.1 hx;exact QeJ fun y hy => by rw [List.mem_singleton.1 hy]; simp only [Gv.frz]
theorem Qdb (l : List Int) (i : Nat) (h : i < l.length) : (ints l).getD i [] = [.int .i64 (l.getD i 0)] := by simp [ints, List.getD, h]
theorem nrm {x : Int} (h : -9223372036854775808 ≤ x) (k : x ≤ 9223372036854775807) : norm .i64 x = x := QaZ ⟨h, k⟩
def ahP (n : Int) (j : Nat) : Int := if n.tmod 7 = 2 then n.tdiv 2 else n - 1 - j * (2 + n.tmod 5)
def Qbv (n : Int) (l : List Int) (j : Nat) : List Int := if 0 ≤ ahP n j ∧ ahP n j < n ∧ (l = [] ∨ l.getD 0 0 ≠ ahP n j) then l ++ [ahP n j] else l
def ahL (n : Int) (k : Nat) : List Int := (List.range k).foldl (Qbv n) []
theorem QaN (n : Int) (k : Nat) : ahL n (k + 1) = Qbv n (ahL n k) k := by simp [ahL, List.range_succ]
theorem Qge (n : Int) : ∀ k : Nat, (ahL n k).length ≤ k
 | 0 => by simp [ahL]
 | k + 1 => by
  rw [QaN];have := Qge n k;unfold Qbv;split
  · rw [List.length_append, List.length_singleton]; omega
  · omega
def ahK (n : Int) : Nat := if n = 0 ∨ n.tmod 11 = 5 then 0 else if n.tmod 4 = 3 then 2 else 1
def Qc6 (n : Int) : List Int := ahL n (ahK n)
theorem QdI (n : Int) : (Qc6 n).length ≤ 2 := by
 have := Qge n (ahK n)
 unfold Qc6
 have : ahK n ≤ 2 := by unfold ahK; split <;> (try split) <;> omega
 omega
theorem QkM (n : Int) (h0 : 0 ≤ n) (h1 : n < 60) : GPure Tryz.prog 36 [.int .i64 n] (.slice (ints (Qc6 n)) .none) := by
  have m5 := Int.tmod_nonneg 5 h0;have m5' := Int.tmod_lt_of_pos n (by decide : (0 : Int) < 5);have q2 : 0 ≤ n.tdiv 2 := Int.tdiv_nonneg h0 (by decide);have q2' : n.tdiv 2 ≤ n := Int.tdiv_le_self 2 h0;have hP : ∀ j : Nat, ahP n j = if n.tmod 7 = 2 then n.tdiv 2 else n - 1 - j * (2 + n.tmod 5) := fun j => rfl
  refine GCalls.toPure ?_;by_cases e0 : n = 0
  · have d0 : (n = 0) = True := eq_true e0;have ek : ahK n = 0 := by unfold ahK; rw [if_pos (.inl e0)]
    refine h36.ca ?_;refine vq2 d0 @vnT ?_;refine Qab (ι := Unit) (fun p => ⟨[.int .i64 n, .any, .any, .slice [] .nil, .int .i64 0, .int .i64 0] ++ List.replicate 55 .any, []⟩) (fun p => 0) ?_ ?_
    · exact Into.first () ⟨[], by simp⟩ (by simp [WL, leG_self, leG_any])
    · rintro ⟨⟩;refine vq3 @Int.lt_irrefl @false_imp_iff @true_and ?_;exact ⟨2, .slice [] .nil, by rw [Gv.frz]; rfl, by rw [Qax]; unfold Qc6; rw [ek]; rfl⟩
  · have d0 : (n = 0) = False := eq_false e0;by_cases e1 : n.tmod 11 = 5
    · have d1 : (n.tmod 11 = 5) = True := eq_true e1;have ek : ahK n = 0 := by unfold ahK; rw [if_pos (.inr e1)]
      refine h36.ca ?_;refine vq3 d0 d1 @vnT ?_;refine ⟨by decide, ?_⟩;refine Qab (ι := Unit) (fun p => ⟨[.int .i64 n, .any, .any, .slice [] .nil, .int .i64 0, .int .i64 0] ++ List.replicate 55 .any, []⟩) (fun p => 0) ?_ ?_
      · exact Into.first () ⟨[], by simp⟩ (by simp [WL, leG_self, leG_any])
      · rintro ⟨⟩;refine vq3 @Int.lt_irrefl @false_imp_iff @true_and ?_;exact ⟨2, .slice [] .nil, by rw [Gv.frz]; rfl, by rw [Qax]; unfold Qc6; rw [ek]; rfl⟩
    · have d1 : (n.tmod 11 = 5) = False := eq_false e1;by_cases e2 : n.tmod 4 = 3
      · have d2 : (n.tmod 4 = 3) = True := eq_true e2;have ek : ahK n = 2 := by unfold ahK; rw [if_neg (by simp [e0, e1]), if_pos e2]
        refine h36.ca ?_;refine vq4 d0 d1 d2 @vnT ?_;refine ⟨by decide, by decide, ?_⟩;refine Qab (ι := { p : Nat × Nat // p.1 ≤ 2 }) (fun p => ⟨[.int .i64 n, .any, .any, .slice (ints (ahL n p.1.1)) (.tok 0 p.1.2), .int .i64 2, .int .i64 (p.1.1 : Nat)] ++ List.replicate 55 .any, [.tok p.1.2 1]⟩) (fun p => 2 - p.1.1) ?_ ?_
        · refine Into.tok 3 1 [] rfl rfl ?_;refine vq0 ?_;intro t0;exact Into.first ⟨(0, t0), by show 0 ≤ 2; omega⟩ ⟨[], by simp⟩ (by simp [WL, leG_self, leG_any, ahL, ints])
        · rintro ⟨⟨j, v⟩, hj⟩
          change j ≤ 2 at hj
          have hll := Qge n j;by_cases h : j < 2
          · have dj : ((j : Int) < 2) = True := eq_true (by omega);have j01 : (j : Int) = 0 ∨ (j : Int) = 1 := by omega
            have mj : (j : Int) * (2 + n.tmod 5) ≤ 12 ∧ 0 ≤ (j : Int) * (2 + n.tmod 5) := by rcases j01 with e | e <;> rw [e] <;> omega
            have nm1 : norm .i64 ((j : Int) * (2 + n.tmod 5)) = (j : Int) * (2 + n.tmod 5) := nrm (by omega) (by omega);have nm2 : norm .i64 (n - 1 - (j : Int) * (2 + n.tmod 5)) = n - 1 - (j : Int) * (2 + n.tmod 5) := nrm (by omega) (by omega);refine vq3 dj nm1 nm2 ?_;exact ⟨by decide, by decide, fun e7 => ⟨by decide, fun c1 => ⟨fun c2 => ⟨fun c3 => ⟨by omega, by omega, fun st => by
                        have hE : ahL n (j + 1) = ahL n j ++ [n.tdiv 2] := by rw [QaN]; unfold Qbv; rw [hP, if_pos e7]; exact if_pos ⟨c1, c2, .inl (List.length_eq_zero_iff.1 (by omega))⟩
                        exact Into.at ⟨(j + 1, st), by show j + 1 ≤ 2; omega⟩ (by show 2 - (j + 1) < 2 - j; omega) ⟨[], by simp⟩ (by simp [WL, leG_self, leG_any, Qaa, hE, QaD])⟩, fun c3 => ⟨by omega, by omega, fun c4 => ⟨by omega, by omega, fun st => by
                        have hE : ahL n (j + 1) = ahL n j ++ [n.tdiv 2] := by rw [QaN]; unfold Qbv; rw [hP, if_pos e7]; exact if_pos ⟨c1, c2, .inr c4⟩
                        exact Into.at ⟨(j + 1, st), by show j + 1 ≤ 2; omega⟩ (by show 2 - (j + 1) < 2 - j; omega) ⟨[], by simp⟩ (by simp [WL, leG_self, leG_any, Qaa, hE, QaD])⟩, fun c4 => by
                        have hE : ahL n (j + 1) = ahL n j := by rw [QaN]; unfold Qbv; rw [hP, if_pos e7]; exact if_neg (by rintro ⟨_, _, q | q⟩; exact c3 (by rw [q]; rfl); exact q c4)
                        exact Into.at ⟨(j + 1, v), by show j + 1 ≤ 2; omega⟩ (by show 2 - (j + 1) < 2 - j; omega) ⟨[], by simp⟩ (by simp [WL, leG_self, leG_any, Qaa, hE, QaD])⟩⟩, fun c2 => by
                        have hE : ahL n (j + 1) = ahL n j := by rw [QaN]; unfold Qbv; rw [hP, if_pos e7]; exact if_neg (fun q => by omega)
                        exact Into.at ⟨(j + 1, v), by show j + 1 ≤ 2; omega⟩ (by show 2 - (j + 1) < 2 - j; omega) ⟨[], by simp⟩ (by simp [WL, leG_self, leG_any, Qaa, hE, QaD])⟩, fun c1 => by
                        have hE : ahL n (j + 1) = ahL n j := by rw [QaN]; unfold Qbv; rw [hP, if_pos e7]; exact if_neg (fun q => by omega)
                        exact Into.at ⟨(j + 1, v), by show j + 1 ≤ 2; omega⟩ (by show 2 - (j + 1) < 2 - j; omega) ⟨[], by simp⟩ (by simp [WL, leG_self, leG_any, Qaa, hE, QaD])⟩, fun e7 => ⟨fun c1 => ⟨fun c2 => ⟨fun c3 => ⟨by omega, by omega, fun st => by
                        have hE : ahL n (j + 1) = ahL n j ++ [(n - 1 - (j : Int) * (2 + n.tmod 5))] := by rw [QaN]; unfold Qbv; rw [hP, if_neg e7]; exact if_pos ⟨c1, c2, .inl (List.length_eq_zero_iff.1 (by omega))⟩
                        exact Into.at ⟨(j + 1, st), by show j + 1 ≤ 2; omega⟩ (by show 2 - (j + 1) < 2 - j; omega) ⟨[], by simp⟩ (by simp [WL, leG_self, leG_any, Qaa, hE, QaD])⟩, fun c3 => ⟨by omega, by omega, fun c4 => ⟨by omega, by omega, fun st => by
                        have hE : ahL n (j + 1) = ahL n j ++ [(n - 1 - (j : Int) * (2 + n.tmod 5))] := by rw [QaN]; unfold Qbv; rw [hP, if_neg e7]; exact if_pos ⟨c1, c2, .inr c4⟩
                        exact Into.at ⟨(j + 1, st), by show j + 1 ≤ 2; omega⟩ (by show 2 - (j + 1) < 2 - j; omega) ⟨[], by simp⟩ (by simp [WL, leG_self, leG_any, Qaa, hE, QaD])⟩, fun c4 => by
                        have hE : ahL n (j + 1) = ahL n j := by rw [QaN]; unfold Qbv; rw [hP, if_neg e7]; exact if_neg (by rintro ⟨_, _, q | q⟩; exact c3 (by rw [q]; rfl); exact q c4)
                        exact Into.at ⟨(j + 1, v), by show j + 1 ≤ 2; omega⟩ (by show 2 - (j + 1) < 2 - j; omega) ⟨[], by simp⟩ (by simp [WL, leG_self, leG_any, Qaa, hE, QaD])⟩⟩, fun c2 => by
                        have hE : ahL n (j + 1) = ahL n j := by rw [QaN]; unfold Qbv; rw [hP, if_neg e7]; exact if_neg (fun q => by omega)
                        exact Into.at ⟨(j + 1, v), by show j + 1 ≤ 2; omega⟩ (by show 2 - (j + 1) < 2 - j; omega) ⟨[], by simp⟩ (by simp [WL, leG_self, leG_any, Qaa, hE, QaD])⟩, fun c1 => by
                        have hE : ahL n (j + 1) = ahL n j := by rw [QaN]; unfold Qbv; rw [hP, if_neg e7]; exact if_neg (fun q => by omega)
                        exact Into.at ⟨(j + 1, v), by show j + 1 ≤ 2; omega⟩ (by show 2 - (j + 1) < 2 - j; omega) ⟨[], by simp⟩ (by simp [WL, leG_self, leG_any, Qaa, hE, QaD])⟩⟩
          · have dj : ((j : Int) < 2) = False := eq_false (by omega);have e : ahL n j = ahL n 2 := by rw [show j = 2 by omega]
            refine vq2 dj e ?_;exact ⟨2, .slice (ints (ahL n 2)) (Tag.frz (.tok 0 v)), by rw [Gv.frz, Qgd], by rw [Qax]; unfold Qc6; rw [ek]⟩
      · have d2 : (n.tmod 4 = 3) = False := eq_false e2;have ek : ahK n = 1 := by unfold ahK; rw [if_neg (by simp [e0, e1]), if_neg e2]
        refine h36.ca ?_;refine vq4 d0 d1 d2 @vnT ?_;refine ⟨by decide, by decide, ?_⟩;refine Qab (ι := { p : Nat × Nat // p.1 ≤ 1 }) (fun p => ⟨[.int .i64 n, .any, .any, .slice (ints (ahL n p.1.1)) (.tok 0 p.1.2), .int .i64 1, .int .i64 (p.1.1 : Nat)] ++ List.replicate 55 .any, [.tok p.1.2 1]⟩) (fun p => 1 - p.1.1) ?_ ?_
        · refine Into.tok 3 1 [] rfl rfl ?_;refine vq0 ?_;intro t0;exact Into.first ⟨(0, t0), by show 0 ≤ 1; omega⟩ ⟨[], by simp⟩ (by simp [WL, leG_self, leG_any, ahL, ints])
        · rintro ⟨⟨j, v⟩, hj⟩
          change j ≤ 1 at hj
          have hll := Qge n j;by_cases h : j < 1
          · have dj : ((j : Int) < 1) = True := eq_true (by omega);have j01 : (j : Int) = 0 ∨ (j : Int) = 1 := by omega
            have mj : (j : Int) * (2 + n.tmod 5) ≤ 12 ∧ 0 ≤ (j : Int) * (2 + n.tmod 5) := by rcases j01 with e | e <;> rw [e] <;> omega
            have nm1 : norm .i64 ((j : Int) * (2 + n.tmod 5)) = (j : Int) * (2 + n.tmod 5) := nrm (by omega) (by omega);have nm2 : norm .i64 (n - 1 - (j : Int) * (2 + n.tmod 5)) = n - 1 - (j : Int) * (2 + n.tmod 5) := nrm (by omega) (by omega);refine vq3 dj nm1 nm2 ?_;exact ⟨by decide, by decide, fun e7 => ⟨by decide, fun c1 => ⟨fun c2 => ⟨fun c3 => ⟨by omega, by omega, fun st => by
                        have hE : ahL n (j + 1) = ahL n j ++ [n.tdiv 2] := by rw [QaN]; unfold Qbv; rw [hP, if_pos e7]; exact if_pos ⟨c1, c2, .inl (List.length_eq_zero_iff.1 (by omega))⟩
                        exact Into.at ⟨(j + 1, st), by show j + 1 ≤ 1; omega⟩ (by show 1 - (j + 1) < 1 - j; omega) ⟨[], by simp⟩ (by simp [WL, leG_self, leG_any, Qaa, hE, QaD])⟩, fun c3 => (c3 (by omega)).elim⟩, fun c2 => by
                        have hE : ahL n (j + 1) = ahL n j := by rw [QaN]; unfold Qbv; rw [hP, if_pos e7]; exact if_neg (fun q => by omega)
                        exact Into.at ⟨(j + 1, v), by show j + 1 ≤ 1; omega⟩ (by show 1 - (j + 1) < 1 - j; omega) ⟨[], by simp⟩ (by simp [WL, leG_self, leG_any, Qaa, hE, QaD])⟩, fun c1 => by
                        have hE : ahL n (j + 1) = ahL n j := by rw [QaN]; unfold Qbv; rw [hP, if_pos e7]; exact if_neg (fun q => by omega)
                        exact Into.at ⟨(j + 1, v), by show j + 1 ≤ 1; omega⟩ (by show 1 - (j + 1) < 1 - j; omega) ⟨[], by simp⟩ (by simp [WL, leG_self, leG_any, Qaa, hE, QaD])⟩, fun e7 => ⟨fun c1 => ⟨fun c2 => ⟨fun c3 => ⟨by omega, by omega, fun st => by
                        have hE : ahL n (j + 1) = ahL n j ++ [(n - 1 - (j : Int) * (2 + n.tmod 5))] := by rw [QaN]; unfold Qbv; rw [hP, if_neg e7]; exact if_pos ⟨c1, c2, .inl (List.length_eq_zero_iff.1 (by omega))⟩
                        exact Into.at ⟨(j + 1, st), by show j + 1 ≤ 1; omega⟩ (by show 1 - (j + 1) < 1 - j; omega) ⟨[], by simp⟩ (by simp [WL, leG_self, leG_any, Qaa, hE, QaD])⟩, fun c3 => (c3 (by omega)).elim⟩, fun c2 => by
                        have hE : ahL n (j + 1) = ahL n j := by rw [QaN]; unfold Qbv; rw [hP, if_neg e7]; exact if_neg (fun q => by omega)
                        exact Into.at ⟨(j + 1, v), by show j + 1 ≤ 1; omega⟩ (by show 1 - (j + 1) < 1 - j; omega) ⟨[], by simp⟩ (by simp [WL, leG_self, leG_any, Qaa, hE, QaD])⟩, fun c1 => by
                        have hE : ahL n (j + 1) = ahL n j := by rw [QaN]; unfold Qbv; rw [hP, if_neg e7]; exact if_neg (fun q => by omega)
                        exact Into.at ⟨(j + 1, v), by show j + 1 ≤ 1; omega⟩ (by show 1 - (j + 1) < 1 - j; omega) ⟨[], by simp⟩ (by simp [WL, leG_self, leG_any, Qaa, hE, QaD])⟩⟩
          · have dj : ((j : Int) < 1) = False := eq_false (by omega);have e : ahL n j = ahL n 1 := by rw [show j = 1 by omega]
            refine vq2 dj e ?_;exact ⟨2, .slice (ints (ahL n 1)) (Tag.frz (.tok 0 v)), by rw [Gv.frz, Qgd], by rw [Qax]; unfold Qc6; rw [ek]⟩
end Gv.Tryz
namespace Gv
open Go
theorem Into.rowLe {st : GSt} {N : GSt → Prop} (i : Nat) {t sz : Nat} (xs ys : List (List GVal)) (hO : st.o[i]? = some (.row t sz xs)) (hw : QaS xs ys) (h : Into ⟨st.s, st.o.set i (.row t sz ys)⟩ N) : Into st N := by
 intro E a w hs' ha
 obtain ⟨h1, h2, h3⟩ := hw.flat
 obtain ⟨l, _, _, hz, _⟩ := hs'.real i _ hO
 obtain ⟨q1, q2⟩ := hs'.cells hO (ys := ys) h2.symm (fun y hy => h3 sz hz y hy) (fun j g' hj => by
  obtain ⟨g, hg, hl⟩ := h1.at_ j g' hj;exact ⟨g, hg, fun v hv => hl _ _ hv⟩)
 obtain ⟨st', E', r1, r2, r3, r4⟩ := h E a w q1 ha
 exact ⟨st', E', r1, r2, q2.trans r3, r4⟩
end Gv
