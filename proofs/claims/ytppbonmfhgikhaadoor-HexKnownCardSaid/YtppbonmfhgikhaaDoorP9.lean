/- slices.SortFunc over rows of structs, as a contract over ghost values. -/
import Derived.Test.YtppbonmfhgikhaaDoorP7
import Derived.Shelf.SlSortCmp.WholeK
import Derived.Test.YtppbonmfhgikhaaDoorP8
import Derived.Deep.RegionWith
import Derived.Shelf.Strings.BuilderF
import Derived.Shelf.Strings.BuilderK
import Derived.Test.YtppbonmfhgikhaaDoorProg
import Derived.KernelRfl
import Derived.OpenShut
import Derived.ChangeArms
import Derived.Carry
import Derived.WalkKit
import Derived.BigCall
set_option linter.unusedVariables false
namespace Gv
open Go Go.Proofs Go.Shelf Go.RowKit Go.Lib Go.Sort

section
variable {P : Program} {ρ : Ren}
set_option maxHeartbeats 2000000 in
theorem insertion_none (L : SlLaysF0.n20 P ρ) (p : Option Addr) (cap : Nat) (fv : Value) (w : World) :
    Calls P (ρ.f 20) #[.slice p 0 cap, .int .i64 0, .int .i64 0, fv] w fun e w' => e = .returned (.tuple #[]) ∧ w' = w := by
  have mixed := L.mixed; have t0 := L.t0; have a0 := L.a0; have z0 := L.z0; have v0 := L.v0; have t3 := L.t3; have a3 := L.a3; have z3 := L.z3; have v3 := L.v3; have t4 := L.t4; have a4 := L.a4; have z4 := L.z4; have v4 := L.v4; have t22 := L.t22; have a22 := L.a22; have z22 := L.z22; have v22 := L.v22; have t25 := L.t25; have a25 := L.a25; have z25 := L.z25; have v25 := L.v25
  obtain ⟨_, _, FG⟩ := L.f20
  go_enter FG, SlBodyF.n20_ntmps ρ
  go_wp2
  refine wp_loop_rounds 1 ?_
  rw [rounds_succ]
  go_wp2
  go_end0
  exact ⟨rfl, rfl⟩

set_option maxHeartbeats 2000000 in
theorem pdq_none (L : SlLaysF0.n14 P ρ) (p : Option Addr) (cap : Nat) (lim : Int) (fv : Value) (w : World) :
    Calls P (ρ.f 14) #[.slice p 0 cap, .int .i64 0, .int .i64 0, .int .i64 lim, fv] w fun e w' => e = .returned (.tuple #[]) ∧ w' = w := by
  have mixed := L.mixed; have t0 := L.t0; have a0 := L.a0; have z0 := L.z0; have v0 := L.v0; have t3 := L.t3; have a3 := L.a3; have z3 := L.z3; have v3 := L.v3; have t4 := L.t4; have a4 := L.a4; have z4 := L.z4; have v4 := L.v4; have t5 := L.t5; have a5 := L.a5; have z5 := L.z5; have v5 := L.v5; have t9 := L.t9; have a9 := L.a9; have z9 := L.z9; have v9 := L.v9; have t22 := L.t22; have a22 := L.a22; have z22 := L.z22; have v22 := L.v22; have t25 := L.t25; have a25 := L.a25; have z25 := L.z25; have v25 := L.v25; have t39 := L.t39; have a39 := L.a39; have z39 := L.z39; have v39 := L.v39; have t45 := L.t45; have a45 := L.a45; have z45 := L.z45; have v45 := L.v45; have t46 := L.t46; have a46 := L.a46; have z46 := L.z46; have v46 := L.v46; have t50 := L.t50; have a50 := L.a50; have z50 := L.z50; have v50 := L.v50; have t53 := L.t53; have a53 := L.a53; have z53 := L.z53; have v53 := L.v53; have t55 := L.t55; have a55 := L.a55; have z55 := L.z55; have v55 := L.v55; have t66 := L.t66; have a66 := L.a66; have z66 := L.z66; have v66 := L.v66; have t70 := L.t70; have a70 := L.a70; have z70 := L.z70; have v70 := L.v70; have t76 := L.t76; have a76 := L.a76; have z76 := L.z76; have v76 := L.v76; have t77 := L.t77; have a77 := L.a77; have z77 := L.z77; have v77 := L.v77
  have e20 : ∀ args w, (callFunc (ρ.f 20) args).run P w = .ok (.enter (ρ.f 20) args) w := L.f20.enters rfl
  have hi := fun W => insertion_none (P := P) (ρ := ρ) { L with } p cap fv W
  obtain ⟨_, _, FG⟩ := L.f14
  go_enter FG, SlBodyF.n14_ntmps ρ
  go_wp2
  refine wp_loop_rounds 1 ?_
  rw [rounds_succ]
  go_wp2_with (go_at_fn (ρ.f 20); refine (hi _).mono ?_; rintro e w' ⟨rfl, rfl⟩)
  (try simp only [Exit.inBlock, Exit.then]); refine bodyPost_ret (results_none rfl _ _ _) rfl ?_
  exact ⟨rfl, rfl⟩

set_option maxHeartbeats 2000000 in
theorem sort_none (L : SlLaysF0.n6 P ρ) (p : Option Addr) (cap : Nat) (fv : Value) (w : World) :
    Calls P (ρ.f 6) #[.slice p 0 cap, fv] w fun e w' => e = .returned (.tuple #[]) ∧ w' = w := by
  have mixed := L.mixed; have t0 := L.t0; have a0 := L.a0; have z0 := L.z0; have v0 := L.v0; have t3 := L.t3; have a3 := L.a3; have z3 := L.z3; have v3 := L.v3; have t4 := L.t4; have a4 := L.a4; have z4 := L.z4; have v4 := L.v4; have t5 := L.t5; have a5 := L.a5; have z5 := L.z5; have v5 := L.v5; have t9 := L.t9; have a9 := L.a9; have z9 := L.z9; have v9 := L.v9; have t22 := L.t22; have a22 := L.a22; have z22 := L.z22; have v22 := L.v22; have t25 := L.t25; have a25 := L.a25; have z25 := L.z25; have v25 := L.v25; have t39 := L.t39; have a39 := L.a39; have z39 := L.z39; have v39 := L.v39; have t45 := L.t45; have a45 := L.a45; have z45 := L.z45; have v45 := L.v45; have t46 := L.t46; have a46 := L.a46; have z46 := L.z46; have v46 := L.v46; have t50 := L.t50; have a50 := L.a50; have z50 := L.z50; have v50 := L.v50; have t53 := L.t53; have a53 := L.a53; have z53 := L.z53; have v53 := L.v53; have t55 := L.t55; have a55 := L.a55; have z55 := L.z55; have v55 := L.v55; have t66 := L.t66; have a66 := L.a66; have z66 := L.z66; have v66 := L.v66; have t70 := L.t70; have a70 := L.a70; have z70 := L.z70; have v70 := L.v70; have t76 := L.t76; have a76 := L.a76; have z76 := L.z76; have v76 := L.v76; have t77 := L.t77; have a77 := L.a77; have z77 := L.z77; have v77 := L.v77
  have e14 : ∀ args w, (callFunc (ρ.f 14) args).run P w = .ok (.enter (ρ.f 14) args) w := L.f14.enters rfl
  have e15 : ∀ args w, (callFunc (ρ.f 15) args).run P w = .ok (.enter (ρ.f 15) args) w := enters_of L.f15 (by kernel_rfl) rfl
  have hp := fun lim W => pdq_none (P := P) (ρ := ρ) { L with } p cap lim fv W
  have hl : ∀ W, Calls P (ρ.f 15) #[.int .u64 0] W fun e w' => e = .returned (.int .i64 (Lib.bitLen 0 : Nat)) ∧ w' = W := fun W => by
    have h := Any.bits_Len (SlLaysF0.n15.bits (P := P) (ρ := ρ) { L with }) 0 W (by omega) (by omega)
    exact h
  obtain ⟨_, _, FG⟩ := L.f6
  go_enter FG, SlBodyF.n6_ntmps ρ
  go_wp2_with (first | (go_at_fn (ρ.f 15); refine (hl _).mono ?_; rintro e w' ⟨rfl, rfl⟩) | (go_at_fn (ρ.f 14); refine (hp _ _).mono ?_; rintro e w' ⟨rfl, rfl⟩))
  go_end0
  exact ⟨rfl, rfl⟩
end

theorem flatMap_at {α : Type} (G : α → List GVal) (k : Nat) (hG : ∀ x, (G x).length = k) : ∀ (xs : List α) (t : Nat), (xs.map G).flatten[t]? = (xs[t / k]?).bind fun x => (G x)[t % k]?
  | [], t => by simp
  | x :: r, t => by
    rw [List.map_cons, List.flatten_cons]
    by_cases h : t < k
    · rw [List.getElem?_append_left (by rw [hG]; exact h), Nat.div_eq_of_lt h, Nat.mod_eq_of_lt h]
      rfl
    · rw [List.getElem?_append_right (by rw [hG]; omega), hG, flatMap_at G k hG r]
      by_cases hk : k = 0
      · subst hk
        have : ∀ y, G y = [] := fun y => List.eq_nil_of_length_eq_zero (hG y)
        simp [this]
      · have e : t = (t - k) + k := by omega
        have e1 : t / k = (t - k) / k + 1 := by
          conv => lhs; rw [e]
          rw [Nat.add_div_right _ (by omega)]
        have e2 : t % k = (t - k) % k := by
          conv => lhs; rw [e]
          rw [Nat.add_mod_right]
        rw [e1, e2, List.getElem?_cons_succ]

section
variable {α : Type} [Inhabited α]
theorem sortWorld_at (enc : α → List Value) (k : Nat) (w : World) (blk off m : Nat) (dk : Array α) (os : Array Obj) {cur : Array Value} {el : TypeId} {fr : Nat × Nat} (hc : w.heap[blk]? = some (.cells cur el fr)) :
    (sortWorldK enc k w blk off m dk os).os = w.os ∧ (sortWorldK enc k w blk off m dk os).output = w.output ∧ w.heap.size ≤ (sortWorldK enc k w blk off m dk os).heap.size ∧
    (∀ b, b < w.heap.size → b ≠ blk → (sortWorldK enc k w blk off m dk os).heap[b]? = w.heap[b]?) ∧
    (sortWorldK enc k w blk off m dk os).heap[blk]? = some (.cells (putCells id off (flatK enc k dk) cur) el fr) := by
  have e : (sortWorldK enc k w blk off m dk os).heap = (w.heap.modify blk (onCells (putCells id off (flatK enc k dk)))) ++ os := rfl
  have hlt := (Array.getElem?_eq_some_iff.1 hc).1
  refine ⟨rfl, rfl, by rw [e]; simp, fun b hb hn => ?_, ?_⟩
  · rw [e, Array.getElem?_append, if_pos (by simpa using hb), Array.getElem?_modify, if_neg (fun h => hn h.symm)]
  · rw [e, Array.getElem?_append, if_pos (by simpa using hlt), Array.getElem?_modify, if_pos rfl, hc]; rfl

theorem putCells_at (off : Nat) (d : Array Value) (c : Array Value) (j : Nat) (hj : j < d.size) (hc : off + j < c.size) : (putCells id off d c)[off + j]? = some d[j]! := by
  simp only [putCells, Array.getElem?_mapIdx, Array.getElem?_eq_getElem hc, Option.map_some]
  rw [if_pos ⟨by omega, by omega⟩, show off + j - off = j by omega]; rfl
theorem putCells_size (off : Nat) (d : Array Value) (c : Array Value) : (putCells id off d c).size = c.size := by simp [putCells]
theorem getBang_of {β : Type} [Inhabited β] {l : List β} {i : Nat} {x : β} (h : l[i]? = some x) : l[i]! = x := by simp [h]
end

theorem set_same {β : Type} {l : List β} {i : Nat} {x : β} (h : l[i]? = some x) : l.set i x = l := by
  apply List.ext_getElem?
  intro j
  rw [List.getElem?_set]
  by_cases e : i = j
  · subst e; rw [if_pos rfl, h, if_pos (List.getElem?_eq_some_iff.1 h).1]
  · rw [if_neg e]

theorem gcalls_sort {P : Program} {ρ : Ren} {α : Type} [Inhabited α] (L : SlLaysF0.n6 P ρ) (k : Nat) (aE : ∀ w, (isAgg (ρ.t 24)).run P w = .ok true w) (zE : ∀ w, (Go.sizeOf (ρ.t 24)).run P w = .ok k w)
    (enc : α → List Value) (G : α → List GVal) (hk : ∀ x, (enc x).length = k) (h1 : ∀ x, ∀ v ∈ enc x, v.oneCell' = true) (hG : ∀ x, (G x).length = k)
    (hdet : ∀ E x (j : Nat) g v, (G x)[j]? = some g → VR E v g → (enc x)[j]? = some v) (hback : ∀ E x (j : Nat) g, (G x)[j]? = some g → ∃ v, (enc x)[j]? = some v ∧ VR E v g)
    (cf : α → α → Int) (hO : SWO (ltOf cf)) (c : FuncId) (eg : ∀ args w, (callFunc c args).run P w = .ok (.enter c args) w)
    (hcmp : ∀ x y W, Calls P c #[.agg (enc x).toArray, .agg (enc y).toArray] W fun e w' => e = .returned (.int .i64 (cf x y)) ∧ ∃ q os', w' = grow (W.drewN q) os')
    (hen : enterable P (ρ.f 6) = true) (xs : List α) (hsz : xs.length < 4611686018427387904) {O : List GObj} {o st : Nat} (hOo : O[o]? = some (.row st k (xs.map G))) (hc : clockOf O = none) :
    GCalls P (ρ.f 6) [.own o st 0 xs.length, .func (.func c) [] []] O (fun r O' => r = .tuple [] ∧ ∃ ys : List α, ys.Perm xs ∧ ys.Pairwise (fun a b => ¬ cf b a < 0) ∧ O' = O.set o (.row st k (ys.map G))) := by
  refine ⟨hen, fun E w vs hs ha => ?_⟩
  obtain ⟨hvs, hva⟩ := ha
  have h2 : vs.size = 2 := hvs
  have hv0 := hva 0 _ rfl
  have hv1 := hva 1 _ rfl
  obtain ⟨v0, v1, rfl⟩ : ∃ a b, vs = #[a, b] := by
    refine ⟨vs[0], vs[1], Array.ext (by simp [h2]) fun i a b => ?_⟩
    have : i = 0 ∨ i = 1 := by omega
    rcases this with rfl | rfl <;> rfl
  have e0 : (#[v0, v1] : Array Value).getD 0 undef = v0 := rfl
  have e1 : (#[v0, v1] : Array Value).getD 1 undef = v1 := rfl
  rw [e0] at hv0; rw [e1] at hv1
  clear hva hvs h2 e0 e1
  cases hv1 with
  | func _ fs cs _ _ hf hkk hfs hcs =>
    have ef : fs = #[] := Array.eq_empty_of_size_eq_zero hf
    have ec : cs = #[] := Array.eq_empty_of_size_eq_zero hkk
    subst ef; subst ec
    have hreal := hs.real _ _ hOo
    cases hv0 with
    | own a _ cap _ _ _ l hl hcap hadr =>
      obtain ⟨l', hl', hsz', hrow, hm⟩ := hreal
      rw [hl] at hl'; cases hl'
      by_cases hx : xs = []
      · subst hx
        refine (sort_none L a cap _ w).mono ?_
        rintro e w' ⟨rfl, rfl⟩
        exact ⟨_, E, O, .tuple [], rfl, hs, .refl _ _ _, .tuple _ _ rfl (fun j g h => by simp at h), rfl, [], .refl _, .nil, (set_same hOo).symm⟩
      · have hpos : 0 < xs.length := List.length_pos_iff.2 hx
        rcases hadr with h0 | ⟨b, hb, rfl, htot⟩
        · omega
        rw [hb] at hm
        obtain ⟨cur, el, hw, hcs', hle, hrows, hsn⟩ := hm
        have hmul : (0 : Nat) * l.size = 0 := Nat.zero_mul _
        rw [hmul, Nat.add_zero]
        have hle' : l.off + xs.length * k ≤ cur.size := by rw [hcs']; simpa using hle
        have hlt := (Array.getElem?_eq_some_iff.1 hw).1
        have hcell : ∀ t, t < xs.length * k → ∃ v, cur[l.off + t]? = some v ∧ (flatK enc k xs.toArray)[t]! = v := fun t ht => by
          have hk0 : 0 < k := Nat.pos_of_ne_zero fun e => by subst e; simp at ht
          have hd : t / k < xs.length := Nat.div_lt_of_lt_mul (by rw [Nat.mul_comm]; exact ht)
          have hmd : t % k < k := Nat.mod_lt _ hk0
          have hx? : xs[t / k]? = some xs[t / k] := List.getElem?_eq_getElem hd
          have hg : (G xs[t / k])[t % k]? = some ((G xs[t / k])[t % k]'(by rw [hG]; exact hmd)) := List.getElem?_eq_getElem _
          obtain ⟨v, q1, _, q3⟩ := hrows t _ (by rw [flatMap_at G k hG, hx?]; exact hg)
          refine ⟨v, q1, ?_⟩
          rw [get_flatK _ _ _ _ (by simpa using ht)]
          have := hdet E _ _ _ _ hg q3
          have e1 : xs.toArray[t / k]! = xs[t / k] := by
            rw [getElem!_pos _ _ (by simpa using hd)]; rfl
          rw [e1]; exact getBang_of this
        have hH : HoldsK enc k w b l.off xs.toArray := fun t ht => by
          have ht' : t < xs.length * k := by simpa using ht
          obtain ⟨v, q1, q2⟩ := hcell t ht'
          refine ⟨?_, ?_⟩
          · show w.cell? _ = some (flatK enc k xs.toArray)[t]!
            rw [q2]; simp [World.cell?, hw, q1]
          · simp [World.frozen?, hw]
        have hcmp' : CmpLays P c #[] enc k cf b l.off xs.toArray.size w := fun m os dk _ x y => hcmp x y _
        refine (AnyQ.slices_SortFunc L k aE zE enc hk h1 cf hO c #[] b l.off cap xs.toArray w eg hcmp' hH hlt (by simpa using hsz)).mono ?_
        rintro e w' ⟨rfl, d', n, os, ⟨p1, p2, p3⟩, hsort, rfl⟩
        have hlen : d'.size = xs.length := by simpa using p1
        have hperm : d'.toList.Perm xs := by
          have q1 : d'.extract 0 xs.toArray.size = d' := by rw [← p1]; simp
          have q2 : xs.toArray.extract 0 xs.toArray.size = xs.toArray := by simp
          rw [q1, q2] at p3; exact p3
        have hpw : d'.toList.Pairwise (fun a b => ¬ cf b a < 0) := by
          rw [List.pairwise_iff_getElem]
          intro i j hi hj hij
          have := hsort i j (Nat.zero_le _) hij (by simp at hj; rw [← p1]; exact hj)
          rw [getElem!_pos d' j (by simpa using hj), getElem!_pos d' i (by simpa using hi)] at this
          simpa [ltOf] using this
        obtain ⟨s1, s2, s3, s4, s5⟩ := sortWorld_at enc k w b l.off n d' os hw
        have hup := hs.upd (E' := E) (w' := sortWorldK enc k w b l.off n d' os) (obj' := .row st k (d'.toList.map G)) (b := b) (t := b) hOo (.inl (by simp [GObj.blk, hl, hb])) (.inl rfl) (.refl E) hs.fin ⟨rfl, rfl⟩ s1 ⟨s2, trivial⟩ s3 s4 (fun _ _ _ _ hv => hv)
          (fun o v hv => by rw [hsn o] at hv; cases hv)
          (by
            refine ⟨l, hl, hsz', fun y hy => ?_, ?_⟩
            · obtain ⟨z, _, rfl⟩ := List.mem_map.1 hy; exact hG z
            rw [hb]
            refine ⟨_, el, s5, by rw [putCells_size]; exact hcs', by simp [hlen]; rw [← hcs']; exact hle', fun j g hj => ?_, hsn⟩
            rw [flatMap_at G k hG] at hj
            cases hq : d'.toList[j / k]? with
            | none => rw [hq] at hj; cases hj
            | some x =>
              rw [hq] at hj
              have hj' : (G x)[j % k]? = some g := hj
              obtain ⟨v, q1, q2⟩ := hback E x _ g hj'
              have hi : j / k < d'.size := by simpa using (List.getElem?_eq_some_iff.1 hq).1
              have hk0 : 0 < k := Nat.pos_of_ne_zero fun e => by
                have := (List.getElem?_eq_some_iff.1 hj').1; rw [hG, e] at this; omega
              have hjk : j < d'.size * k := (Nat.div_lt_iff_lt_mul hk0).1 hi
              have e3 : d'[j / k]! = x := by
                rw [getElem!_pos d' (j / k) hi]
                have := (List.getElem?_eq_some_iff.1 hq).2
                simpa using this
              refine ⟨v, ?_, h1 x v (List.mem_of_getElem? q1), q2⟩
              rw [putCells_at l.off _ _ j (by simpa using hjk) (by rw [hlen] at hjk; omega), get_flatK _ _ _ _ hjk, e3, getBang_of q1])
          (fun kk hkk => by simp [GObj.blk, hl, hb] at hkk; exact hkk.symm)
        exact ⟨_, E, _, .tuple [], rfl, hup.1, hup.2, .tuple _ _ rfl (fun j g h => by simp at h), rfl, d'.toList, hperm, hpw, rfl⟩
end Gv
/- bytes.Compare as a contract; the sort's closure. -/
set_option linter.unusedVariables false
set_option maxRecDepth 100000
namespace Gv.Tryd
open Go Gv Go.Proofs Go.Shelf Go.RowKit Go.Lib Go.Sort
theorem flat_btsG (s : List UInt8) : (btsG s).flatten = bytesG s := flat_bytes s
theorem lies_of {E : Env} {O : List GObj} {w : World} (h : HSim E O w) {v : Value} {x : List UInt8} {t : Tag} (hv : VR E v (.slice (btsG x) t)) : ∃ a c, v = .slice a x.length c ∧ lies w a x := by
  cases hv with
  | slice a len cap _ _ sz c hlen hcap hsz ha hc ht =>
    rw [btsG_len] at hlen
    subst hlen
    refine ⟨a, cap, rfl, fun hx => ?_⟩
    have hx' : btsG x ≠ [] := by cases x <;> simp_all [btsG]
    obtain ⟨b, off, rfl, hs⟩ := ha hx'
    refine ⟨_, rfl, fun j y hj => ?_⟩
    have hjl : j < x.length := (List.getElem?_eq_some_iff.1 hj).1
    have hsz1 : sz = 1 := by
      cases x with
      | nil => exact absurd rfl hx
      | cons z r => have := hsz [.int .u8 z.toNat] (by simp [btsG]); simpa using this.symm
    have h1 := h.sealed _ _ _ (hs j (by rw [hsz1]; omega))
    have h2 := hc j (.int .u8 y.toNat) (by rw [flat_btsG]; simp [bytesG, hj])
    generalize hw : c j = u at *
    cases h2
    by_cases h0 : j = 0
    · subst h0; simpa [Addr.add] using h1
    · simpa [Addr.add, h0] using h1
theorem hCompare (x y : List UInt8) (t u : Tag) : GPure Tryd.prog 27 [.slice (btsG x) t, .slice (btsG y) u] (.int .i64 (cmpL x y)) :=
  ⟨by kernel_rfl, fun E w vs hs ha => by
    obtain ⟨h1, h2⟩ := ha
    obtain ⟨a, c, e1, l1⟩ := lies_of hs (h2 0 _ rfl)
    obtain ⟨b, d, e2, l2⟩ := lies_of hs (h2 1 _ rfl)
    have e : vs = #[.slice a x.length c, .slice b y.length d] := by
      rw [← e1, ← e2]
      apply Array.ext (by simpa using h1)
      intro i hi hi2
      have h1' : vs.size = 2 := by simpa using h1
      match i with
      | 0 => simp [Array.getD, h1']
      | 1 => simp [Array.getD, h1']
      | i + 2 => omega
    rw [e]
    exact (calls21 w a b x y c d l1 l2).mono fun e w' ⟨h3, h4⟩ => ⟨_, E, [], _, h3, h4 ▸ hs, h4 ▸ .refl _ _ _, .int _ _, rfl, rfl⟩⟩
theorem lies_heap {w : World} {b : Nat} {X : Array Value} {t : TypeId} {fz : Nat × Nat} {x : List UInt8} (h : w.heap[b]? = some (.cells X t fz)) (hc : ∀ (j : Nat) z, x[j]? = some z → X[j]? = some (.int .u8 z.toNat)) : lies w (some ⟨b, 0, none⟩) x := fun _ =>
  ⟨_, rfl, fun j z hj => by
    have h1 := hc j z hj
    by_cases h0 : j = 0
    · subst h0; simpa [World.cell?, h, Addr.add] using h1
    · simpa [World.cell?, h, Addr.add, h0] using h1⟩
abbrev Hs := { l : List UInt8 // l.length = 32 }
set_option maxHeartbeats 2000000 in
theorem sortClosure (x y : Hs) (W : World) : Calls Tryd.prog 30 #[.agg (bytesV x.1).toArray, .agg (bytesV y.1).toArray] W fun e w' => e = .returned (.int .i64 (cmpL x.1 y.1)) ∧ ∃ q os', w' = grow (W.drewN q) os' := by
  have hx : (bytesV x.1).toArray.size = 32 := by simp [bytesV, x.2]
  have hy : (bytesV y.1).toArray.size = 32 := by simp [bytesV, y.2]
  have cx : ∀ (j : Nat) z, x.1[j]? = some z → (bytesV x.1).toArray[j]? = some (.int .u8 z.toNat) := fun j z h => by simp [bytesV, h]
  have cy : ∀ (j : Nat) z, y.1[j]? = some z → (bytesV y.1).toArray[j]? = some (.int .u8 z.toNat) := fun j z h => by simp [bytesV, h]
  have lx : x.1.length = 32 := x.2
  have ly : y.1.length = 32 := y.2
  have hcmp : ∀ w a b, lies w a x.1 → lies w b y.1 → Calls Tryd.prog 27 #[.slice a 32 32, .slice b 32 32] w fun e w' => e = .returned (.int .i64 (cmpL x.1 y.1)) ∧ w' = w := fun w a b h1 h2 => by
    have := calls21 w a b x.1 y.1 32 32 h1 h2
    rwa [lx, ly] at this
  generalize cmpL x.1 y.1 = r at *
  generalize (bytesV x.1).toArray = X at *
  generalize (bytesV y.1).toArray = Y at *
  have hA : ((W.alloc (Obj.cells X 24)).alloc (Obj.cells Y 24)).drew.heap[W.heap.size]? = some (.cells X 24) := by
    show ((W.alloc (Obj.cells X 24)).alloc (Obj.cells Y 24)).heap[W.heap.size]? = _
    rw [Gv.alloc_old _ _ _ (by simp), Gv.alloc_new]
  have hB : ((W.alloc (Obj.cells X 24)).alloc (Obj.cells Y 24)).drew.heap[W.heap.size + 1]? = some (.cells Y 24) := by
    have e : W.heap.size + 1 = (W.alloc (Obj.cells X 24)).heap.size := by simp
    rw [e]
    exact Gv.alloc_new _ _
  have hc := hcmp _ _ _ (lies_heap hA cx) (lies_heap hB cy)
  go_enter Tryd.func30, Tryd.ntmps30
  go_wp2
  go_region_with (go_at_call 27; refine hc.mono ?_; rintro e w' ⟨rfl, rfl⟩)
  go_wp2
  go_ret
  exact ⟨rfl, 1, _, by rw [alloc_eq_grow, alloc_eq_grow, grow_grow]; rfl⟩
end Gv.Tryd
/- slices.SortFunc of hashes by their bytes, as a contract. -/
set_option linter.unusedVariables false
set_option maxRecDepth 100000
namespace Go.Proofs
open Go.Shelf
def Tryd.sortSp_ren : Go.Shelf.Ren := ⟨fun | 6 => 29 | 15 => 40 | 14 => 39 | 28 => 53 | 29 => 54 | 20 => 45 | 21 => 46 | 22 => 47 | 23 => 48 | 24 => 49 | 25 => 50 | 26 => 51 | 27 => 52 | 46 => 55 | 47 => 56 | 48 => 57 | 49 => 58 | 50 => 59 | 57 => 60 | n => n, fun | 22 => 43 | 24 => 24 | 25 => 57 | 3 => 3 | 39 => 46 | 0 => 0 | 53 => 97 | 55 => 99 | 4 => 4 | 46 => 90 | 45 => 89 | 50 => 94 | 5 => 5 | 9 => 9 | 66 => 100 | 70 => 104 | 76 => 106 | 77 => 107 | n => n, fun | n => n⟩
theorem Tryd.sortSp : Go.Proofs.SlLaysF0.n6 Tryd.prog Tryd.sortSp_ren := {
  mixed := by kernel_rfl
  f6 := ⟨Tryd.f29.name, by decide, Tryd.func29.trans (congrArg some (by kernel_rfl))⟩
  f14 := ⟨Tryd.f39.name, by decide, Tryd.func39.trans (congrArg some (by kernel_rfl))⟩
  f15 := Tryd.func40.trans (congrArg some (by kernel_rfl))
  f20 := ⟨Tryd.f45.name, by decide, Tryd.func45.trans (congrArg some (by kernel_rfl))⟩
  f21 := ⟨Tryd.f46.name, by decide, Tryd.func46.trans (congrArg some (by kernel_rfl))⟩
  f22 := ⟨Tryd.f47.name, by decide, Tryd.func47.trans (congrArg some (by kernel_rfl))⟩
  f23 := ⟨Tryd.f48.name, by decide, Tryd.func48.trans (congrArg some (by kernel_rfl))⟩
  f24 := ⟨Tryd.f49.name, by decide, Tryd.func49.trans (congrArg some (by kernel_rfl))⟩
  f25 := ⟨Tryd.f50.name, by decide, Tryd.func50.trans (congrArg some (by kernel_rfl))⟩
  f26 := ⟨Tryd.f51.name, by decide, Tryd.func51.trans (congrArg some (by kernel_rfl))⟩
  f27 := ⟨Tryd.f52.name, by decide, Tryd.func52.trans (congrArg some (by kernel_rfl))⟩
  f28 := Tryd.func53.trans (congrArg some (by kernel_rfl))
  f29 := Tryd.func54.trans (congrArg some (by kernel_rfl))
  f46 := ⟨Tryd.f55.name, by decide, Tryd.func55.trans (congrArg some (by kernel_rfl))⟩
  f47 := Tryd.func56.trans (congrArg some (by kernel_rfl))
  f48 := Tryd.func57.trans (congrArg some (by kernel_rfl))
  f49 := ⟨Tryd.f58.name, by decide, Tryd.func58.trans (congrArg some (by kernel_rfl))⟩
  f50 := ⟨Tryd.f59.name, by decide, Tryd.func59.trans (congrArg some (by kernel_rfl))⟩
  f57 := ⟨Tryd.f60.name, by decide, Tryd.func60.trans (congrArg some (by kernel_rfl))⟩
  t0 := Tryd.underlying0
  a0 := Tryd.isAgg0
  z0 := Tryd.sizeOf0
  v0 := Tryd.zeroValue0
  t3 := Tryd.underlying3
  a3 := Tryd.isAgg3
  z3 := Tryd.sizeOf3
  v3 := Tryd.zeroValue3
  t4 := Tryd.underlying4
  a4 := Tryd.isAgg4
  z4 := Tryd.sizeOf4
  v4 := Tryd.zeroValue4
  t5 := Tryd.underlying5
  a5 := Tryd.isAgg5
  z5 := Tryd.sizeOf5
  v5 := Tryd.zeroValue5
  t9 := Tryd.underlying9
  a9 := Tryd.isAgg9
  z9 := Tryd.sizeOf9
  v9 := Tryd.zeroValue9
  t22 := Tryd.underlying43
  a22 := Tryd.isAgg43
  z22 := Tryd.sizeOf43
  v22 := Tryd.zeroValue43
  t25 := Tryd.underlying57
  a25 := Tryd.isAgg57
  z25 := Tryd.sizeOf57
  v25 := Tryd.zeroValue57
  t39 := Tryd.underlying46
  a39 := Tryd.isAgg46
  z39 := Tryd.sizeOf46
  v39 := Tryd.zeroValue46
  t45 := Tryd.underlying89
  a45 := Tryd.isAgg89
  z45 := Tryd.sizeOf89
  v45 := Tryd.zeroValue89
  t46 := Tryd.underlying90
  a46 := Tryd.isAgg90
  z46 := Tryd.sizeOf90
  v46 := Tryd.zeroValue90
  t50 := Tryd.underlying94
  a50 := Tryd.isAgg94
  z50 := Tryd.sizeOf94
  v50 := Tryd.zeroValue94
  t53 := Tryd.underlying97
  a53 := Tryd.isAgg97
  z53 := Tryd.sizeOf97
  v53 := Tryd.zeroValue97
  t55 := Tryd.underlying99
  a55 := Tryd.isAgg99
  z55 := Tryd.sizeOf99
  v55 := Tryd.zeroValue99
  t66 := Tryd.underlying100
  a66 := Tryd.isAgg100
  z66 := Tryd.sizeOf100
  v66 := Tryd.zeroValue100
  t70 := Tryd.underlying104
  a70 := Tryd.isAgg104
  z70 := Tryd.sizeOf104
  v70 := Tryd.zeroValue104
  t76 := Tryd.underlying106
  a76 := Tryd.isAgg106
  z76 := Tryd.sizeOf106
  v76 := Tryd.zeroValue106
  t77 := Tryd.underlying107
  a77 := Tryd.isAgg107
  z77 := Tryd.sizeOf107
  v77 := Tryd.zeroValue107 }
end Go.Proofs
namespace Gv.Tryd
open Go Gv Go.Proofs Go.Shelf Go.RowKit Go.Lib Go.Sort
instance : Inhabited Hs := ⟨⟨List.replicate 32 0, by simp⟩⟩
/-- which comes first, byte by byte -/
def ltB : List UInt8 → List UInt8 → Bool
  | [], _ => false
  | _, [] => false
  | x :: a, y :: b => if x = y then ltB a b else decide (x < y)
theorem ba_get (x : UInt8) (a : List UInt8) (i : Nat) : (⟨(x :: a).toArray⟩ : ByteArray)[i + 1]! = (⟨a.toArray⟩ : ByteArray)[i]! := by
  by_cases h : i < a.length
  · rw [getElem!_pos _ _ (by show i + 1 < (x :: a).toArray.size; simp; exact h), getElem!_pos _ _ (by show i < a.toArray.size; simpa using h)]
    exact List.getElem_cons_succ x a i (by simp; exact h)
  · rw [getElem!_neg _ _ (by show ¬ i + 1 < (x :: a).toArray.size; simp; omega), getElem!_neg _ _ (by show ¬ i < a.toArray.size; simpa using h)]
theorem ba_zero (x : UInt8) (a : List UInt8) : (⟨(x :: a).toArray⟩ : ByteArray)[0]! = x := by
  rw [getElem!_pos _ _ (by show 0 < (x :: a).toArray.size; simp)]; rfl
theorem cmpL_cons (x y : UInt8) (a b : List UInt8) : cmpL (x :: a) (y :: b) = if x = y then cmpL a b else if x < y then -1 else 1 := by
  unfold cmpL Extern.BytealgCompare.cmp
  have hs : ∀ l : List UInt8, (⟨l.toArray⟩ : ByteArray).size = l.length := fun l => by simp [ByteArray.size]
  simp only [hs, List.length_cons]
  have e : min (a.length + 1) (b.length + 1) = min a.length b.length + 1 := by omega
  rw [e, List.range_succ_eq_map, List.find?_cons, ba_zero, ba_zero]
  by_cases h : x = y
  · subst h
    simp only [bne_self_eq_false, if_true]
    rw [List.find?_map]
    have e2 : ((fun i => (⟨(x :: a).toArray⟩ : ByteArray)[i]! != (⟨(x :: b).toArray⟩ : ByteArray)[i]!) ∘ Nat.succ) = fun i => (⟨a.toArray⟩ : ByteArray)[i]! != (⟨b.toArray⟩ : ByteArray)[i]! := by
      funext i
      simp only [Function.comp, Nat.succ_eq_add_one, ba_get]
    rw [e2]
    cases hq : (List.range (min a.length b.length)).find? fun i => (⟨a.toArray⟩ : ByteArray)[i]! != (⟨b.toArray⟩ : ByteArray)[i]! with
    | none => simp
    | some i => simp only [Option.map_some, Nat.succ_eq_add_one, ba_get]
  · have : (x != y) = true := by simpa using h
    rw [this, if_neg h]
    simp only [ba_zero]
theorem cmpL_ltB : ∀ (a b : List UInt8), a.length = b.length → (decide (cmpL a b < 0) = ltB a b)
  | [], [], _ => by decide
  | x :: a, [], h => by simp at h
  | [], y :: b, h => by simp at h
  | x :: a, y :: b, h => by
    rw [cmpL_cons]
    unfold ltB
    by_cases e : x = y
    · rw [if_pos e, if_pos e]; exact cmpL_ltB a b (by simpa using h)
    · rw [if_neg e, if_neg e]
      by_cases e2 : x < y
      · rw [if_pos e2, decide_eq_true e2]; rfl
      · rw [if_neg e2, decide_eq_false e2]; rfl
theorem ltB_irrefl : ∀ a, ltB a a = false
  | [] => rfl
  | x :: a => by simp [ltB, ltB_irrefl a]
theorem ltB_trans : ∀ {a b c : List UInt8}, a.length = b.length → b.length = c.length → ltB a b = true → ltB b c = true → ltB a c = true
  | [], b, c, _, _, h, _ => by simp [ltB] at h
  | x :: a, [], c, _, _, h, _ => by simp [ltB] at h
  | x :: a, y :: b, [], _, _, _, h => by simp [ltB] at h
  | x :: a, y :: b, z :: c, l1, l2, h1, h2 => by
    simp at l1 l2
    unfold ltB at *
    by_cases e1 : x = y
    · subst e1
      rw [if_pos rfl] at h1
      by_cases e2 : x = z
      · subst e2
        rw [if_pos rfl] at h2 ⊢
        exact ltB_trans l1 l2 h1 h2
      · rw [if_neg e2] at h2 ⊢; exact h2
    · rw [if_neg e1] at h1
      by_cases e2 : y = z
      · subst e2
        rw [if_neg e1]; exact h1
      · rw [if_neg e2] at h2
        have h3 : x < y := of_decide_eq_true h1
        have h4 : y < z := of_decide_eq_true h2
        have h5 : x < z := UInt8.lt_trans h3 h4
        rw [if_neg (UInt8.ne_of_lt h5)]; exact decide_eq_true h5
theorem ltB_total : ∀ {a b : List UInt8}, a.length = b.length → ltB a b = false → ltB b a = false → a = b
  | [], [], _, _, _ => rfl
  | x :: a, [], l, _, _ => by simp at l
  | [], y :: b, l, _, _ => by simp at l
  | x :: a, y :: b, l, h1, h2 => by
    simp at l
    unfold ltB at h1 h2
    by_cases e : x = y
    · subst e
      rw [if_pos rfl] at h1 h2
      rw [ltB_total l h1 h2]
    · rw [if_neg e] at h1
      rw [if_neg (fun h => e h.symm)] at h2
      have h3 := of_decide_eq_false h1
      have h4 := of_decide_eq_false h2
      exact absurd (UInt8.le_antisymm (UInt8.not_lt.1 h4) (UInt8.not_lt.1 h3)) e
def cfH (x y : Hs) : Int := cmpL x.1 y.1
theorem ltH (x y : Hs) : ltOf cfH x y = ltB x.1 y.1 := by
  have := cmpL_ltB x.1 y.1 (by rw [x.2, y.2])
  unfold ltOf cfH; exact this
theorem swoH : SWO (ltOf cfH) where
  irrefl x := by rw [ltH]; exact ltB_irrefl _
  trans x y z h1 h2 := by rw [ltH] at *; exact ltB_trans (by rw [x.2, y.2]) (by rw [y.2, z.2]) h1 h2
  ntrans x y z h1 h2 := by
    rw [ltH] at *
    cases hxz : ltB x.1 z.1 with
    | false => rfl
    | true =>
      cases hyx : ltB y.1 x.1 with
      | false =>
        have e := ltB_total (by rw [x.2, y.2]) h1 hyx
        rw [e] at hxz
        exact (hxz.symm.trans h2)
      | true => exact (ltB_trans (by rw [y.2, x.2]) (by rw [x.2, z.2]) hyx hxz).symm.trans h2
def hsG (l : List Hs) : List (List GVal) := l.map fun x => bytesG x.1
theorem sSort (xs : List Hs) (hsz : xs.length < 4611686018427387904) {O : List GObj} {o st : Nat} (hO : O[o]? = some (.row st 32 (hsG xs))) (hc : clockOf O = none) :
    GCalls Tryd.prog 29 [.own o st 0 xs.length, .func (.func 30) [] []] O (fun r O' => r = .tuple [] ∧ ∃ ys : List Hs, ys.Perm xs ∧ ys.Pairwise (fun a b => ltB b.1 a.1 = false) ∧ O' = O.set o (.row st 32 (hsG ys))) := by
  have h := gcalls_sort (α := Hs) Tryd.sortSp 32 Tryd.isAgg24 Tryd.sizeOf24 (fun x => bytesV x.1) (fun x => bytesG x.1) (fun x => by simp [bytesV, x.2])
    (fun x v hv => by simp only [bytesV, List.mem_map] at hv; obtain ⟨c, _, rfl⟩ := hv; rfl) (fun x => by simp [bytesG, x.2])
    (fun E x j g v hg hv => by
      simp only [bytesG, List.getElem?_map] at hg
      simp only [bytesV, List.getElem?_map]
      cases hq : x.1[j]? with
      | none => rw [hq] at hg; cases hg
      | some c => rw [hq] at hg; simp at hg; subst hg; cases hv; rfl)
    (fun E x j g hg => by
      simp only [bytesG, List.getElem?_map] at hg
      simp only [bytesV, List.getElem?_map]
      cases hq : x.1[j]? with
      | none => rw [hq] at hg; cases hg
      | some c => rw [hq] at hg; simp at hg; subst hg; exact ⟨_, rfl, .int _ _⟩)
    cfH swoH 30 (enters_of Tryd.func30 (by kernel_rfl) rfl) (fun x y W => sortClosure x y W) (by kernel_rfl) xs hsz hO hc
  refine h.mono ?_
  rintro g O' ⟨rfl, ys, h1, h2, rfl⟩
  refine ⟨rfl, ys, h1, h2.imp fun {a b} hab => ?_, rfl⟩
  have := ltH b a
  unfold ltOf at this
  rw [← this]; exact decide_eq_false hab
end Gv.Tryd
/- strings.Builder, at this program. -/
set_option linter.unusedVariables false
set_option maxRecDepth 100000
namespace Go.Proofs
open Go.Shelf
def Tryd.lays167_ren : Go.Shelf.Ren := ⟨fun | 167 => 24 | 240 => 36 | 276 => 44 | n => n, fun | 0 => 0 | 4 => 4 | 5 => 5 | 9 => 9 | 20 => 20 | 37 => 27 | 70 => 49 | 72 => 51 | 75 => 29 | 80 => 53 | 164 => 58 | n => n, fun | n => n⟩
theorem Tryd.lays167 : Go.Proofs.Lays.n167 Tryd.prog Tryd.lays167_ren := {
  mixed := by kernel_rfl
  f167 := Tryd.func24.trans (congrArg some (by kernel_rfl))
  f240 := Tryd.func36.trans (congrArg some (by kernel_rfl))
  f276 := Tryd.func44.trans (congrArg some (by kernel_rfl))
  t0 := Tryd.underlying0
  a0 := Tryd.isAgg0
  z0 := Tryd.sizeOf0
  v0 := Tryd.zeroValue0
  t4 := Tryd.underlying4
  a4 := Tryd.isAgg4
  z4 := Tryd.sizeOf4
  v4 := Tryd.zeroValue4
  t5 := Tryd.underlying5
  a5 := Tryd.isAgg5
  z5 := Tryd.sizeOf5
  v5 := Tryd.zeroValue5
  t9 := Tryd.underlying9
  a9 := Tryd.isAgg9
  z9 := Tryd.sizeOf9
  v9 := Tryd.zeroValue9
  t20 := Tryd.underlying20
  a20 := Tryd.isAgg20
  z20 := Tryd.sizeOf20
  v20 := Tryd.zeroValue20
  t37 := Tryd.underlying27
  a37 := Tryd.isAgg27
  z37 := Tryd.sizeOf27
  v37 := Tryd.zeroValue27
  t70 := Tryd.underlying49
  a70 := Tryd.isAgg49
  z70 := Tryd.sizeOf49
  v70 := Tryd.zeroValue49
  t72 := Tryd.underlying51
  a72 := Tryd.isAgg51
  z72 := Tryd.sizeOf51
  v72 := Tryd.zeroValue51
  t75 := Tryd.underlying29
  a75 := Tryd.isAgg29
  z75 := Tryd.sizeOf29
  v75 := Tryd.zeroValue29
  t164 := Tryd.underlying58
  a164 := Tryd.isAgg58
  z164 := Tryd.sizeOf58
  v164 := Tryd.zeroValue58 }
theorem Tryd.Builder_Extra_167 : Builder.Extra Tryd.prog Tryd.lays167_ren := {
  sizeBuilder := by kernel_rfl
  liesBuilder := by kernel_rfl
  t5 := Tryd.underlying5
  a5 := Tryd.isAgg5
  z5 := Tryd.sizeOf5
  v5 := Tryd.zeroValue5
  infoByte := by kernel_rfl
  cellsByte := by kernel_rfl
  sizeByte := by kernel_rfl
  neB5 := by decide }
open Go.RowKit in
theorem Tryd.Builder_WriteByte_k (B b : Nat) (bs : List Value) (c : Int) (w : World) (h : Lib.IsBuilderF 51 5 B b bs w) (hlen : bs.length + 1 ≤ 140737488355328) (hBw : B ≤ w.heap.size) :
    Calls Tryd.prog 24 #[.pointer (some ⟨b, 0, none⟩), .int .u8 c] w fun e w' => e = .returned .nilIface ∧ (Lib.BuilderAtF 51 5 B b (.pointer (some ⟨b, 0, none⟩)) (bs ++ [.int .u8 c]) w' ∧ Below B w w' ∧ Lib.OthersKept 5 (some b) w w') := Any.Builder_WriteByte_k Tryd.lays167 Tryd.Builder_Extra_167 B b bs c w h hlen hBw
def Tryd.lays169_ren : Go.Shelf.Ren := ⟨fun | 169 => 25 | n => n, fun | 70 => 49 | 9 => 9 | 0 => 0 | 72 => 51 | 37 => 27 | 127 => 70 | 3 => 3 | 5 => 5 | n => n, fun | n => n⟩
theorem Tryd.lays169 : Go.Proofs.Lays.n169 Tryd.prog Tryd.lays169_ren := {
  mixed := by kernel_rfl
  f169 := Tryd.func25.trans (congrArg some (by kernel_rfl))
  t0 := Tryd.underlying0
  a0 := Tryd.isAgg0
  z0 := Tryd.sizeOf0
  v0 := Tryd.zeroValue0
  t3 := Tryd.underlying3
  a3 := Tryd.isAgg3
  z3 := Tryd.sizeOf3
  v3 := Tryd.zeroValue3
  t9 := Tryd.underlying9
  a9 := Tryd.isAgg9
  z9 := Tryd.sizeOf9
  v9 := Tryd.zeroValue9
  t37 := Tryd.underlying27
  a37 := Tryd.isAgg27
  z37 := Tryd.sizeOf27
  v37 := Tryd.zeroValue27
  t70 := Tryd.underlying49
  a70 := Tryd.isAgg49
  z70 := Tryd.sizeOf49
  v70 := Tryd.zeroValue49
  t72 := Tryd.underlying51
  a72 := Tryd.isAgg51
  z72 := Tryd.sizeOf51
  v72 := Tryd.zeroValue51
  t127 := Tryd.underlying70
  a127 := Tryd.isAgg70
  z127 := Tryd.sizeOf70
  v127 := Tryd.zeroValue70 }
theorem Tryd.Builder_Extra_169 : Builder.Extra Tryd.prog Tryd.lays169_ren := {
  sizeBuilder := by kernel_rfl
  liesBuilder := by kernel_rfl
  t5 := Tryd.underlying5
  a5 := Tryd.isAgg5
  z5 := Tryd.sizeOf5
  v5 := Tryd.zeroValue5
  infoByte := by kernel_rfl
  cellsByte := by kernel_rfl
  sizeByte := by kernel_rfl
  neB5 := by decide }
open Go.RowKit in
theorem Tryd.Builder_String_any_k (B b : Nat) (l : List UInt8) (w : World) (h : Lib.IsBuilderF 51 5 B b (Lib.byteCells l) w) (hBw : B ≤ w.heap.size) :
    Calls Tryd.prog 25 #[.pointer (some ⟨b, 0, none⟩)] w fun e w' => e = .returned (.string ⟨l.toArray⟩) ∧ (Lib.IsBuilderF 51 5 B b (Lib.byteCells l) w' ∧ Below B w w' ∧ Lib.OthersKept 5 (some b) w w') := Any.Builder_String_any_k Tryd.lays169 Tryd.Builder_Extra_169 B b l w h hBw
end Go.Proofs
/- From a reading of plain data (numbers, bools, strings, slices, structs) to what it is without memory. -/
set_option linter.unusedVariables false
namespace Gv
open Go Go.RowKit Go.WideShapes Go.ChangeShapes

/-- all cells that are there are known -/
def Env.all (w : World) : Env := ⟨fun b o => match w.cell? ⟨b, o, none⟩ with
  | some v => if v.oneCell' = true then some v else none
  | none => none, fun _ => none⟩
theorem Env.all_at {w : World} {b o : Nat} {v : Value} (h : w.cell? ⟨b, o, none⟩ = some v) (hv : v.oneCell' = true) : (Env.all w).snap b o = some v := by
  simp [Env.all, h, hv]
/-- the listed variables hold what they are said to hold -/
def GlobsIn (w : World) : Prop := ∀ p ∈ globs, w.cell? ⟨p.1, p.2.1, none⟩ = some p.2.2 ∧ p.2.2.oneCell' = true
theorem globsIn_none {w : World} (h : globs = []) : GlobsIn w := fun p hp => by rw [h] at hp; cases hp
theorem HSim.all (w : World) (hg : GlobsIn w) : HSim (Env.all w) [] w := by
  have key : ∀ b o v, (Env.all w).snap b o = some v → w.cell? ⟨b, o, none⟩ = some v ∧ v.oneCell' = true := by
    intro b o v h
    simp only [Env.all] at h
    split at h
    · rename_i x hx
      split at h
      · rename_i hv
        simp only [Option.some.injEq] at h
        subst h
        exact ⟨hx, hv⟩
      · cases h
    · cases h
  exact ⟨⟨0, (fun c hc => by cases hc), fun _ _ => rfl⟩, fun b o v h => (key b o v h).1, fun b o v h => (key b o v h).2, fun i x hx => by simp at hx, fun i j oi oj b _ hi => by simp at hi, fun p hp => Env.all_at (hg p hp).1 (hg p hp).2⟩

/-- a type's shape -/
inductive Sh where
  | int (k : IntKind)
  | bool
  | str
  | slice (e : Sh)
  | agg (l : List Sh)
mutual
def Sh.size : Sh → Nat
  | .agg l => Sh.sizes l
  | _ => 1
def Sh.sizes : List Sh → Nat
  | [] => 0
  | s :: r => s.size + Sh.sizes r
end
mutual
def shB (P : Program) : Sh → TypeId → Bool
  | .int k, t => match P.underlying t with
    | some (.int k') => k = k'
    | _ => false
  | .bool, t => match P.underlying t with
    | some .bool => true
    | _ => false
  | .str, t => match P.underlying t with
    | some .string => true
    | _ => false
  | .slice e, t => match P.underlying t with
    | some (.slice et) => shB P e et && P.cellsOf et == e.size && decide (0 < e.size)
    | _ => false
  | .agg l, t => match P.underlying t with
    | some (.struct fs) => shBs P l fs.toList 0 && P.cellsOf t == Sh.sizes l
    | some (.array n e) => l.length == n && (shAs P l e && P.cellsOf t == Sh.sizes l)
    | _ => false
def shAs (P : Program) : List Sh → TypeId → Bool
  | [], _ => true
  | s :: r, t => P.cellsOf t == s.size && (shB P s t && shAs P r t)
def shBs (P : Program) : List Sh → List Field → Nat → Bool
  | [], [], _ => true
  | s :: r, f :: fs, o => f.offset == o && P.cellsOf f.type == s.size && shB P s f.type && shBs P r fs (o + s.size)
  | _, _, _ => false
end
mutual
/-- what a reading's cells are -/
def Den : Sh → List GVal → Prop
  | .int k, gs => ∃ n, gs = [.int k n] ∧ (Lit.int k n).wf = true
  | .bool, gs => ∃ b, gs = [.bool b]
  | .str, gs => ∃ s, gs = [.str s] ∧ s.length ≤ maxLen
  | .slice e, gs => ∃ xs, gs = [.slice xs .none] ∧ xs.length ≤ maxLen ∧ ∀ x ∈ xs, Den e x
  | .agg l, gs => ∃ ps, gs = ps.flatten ∧ Dens l ps
def Dens : List Sh → List (List GVal) → Prop
  | [], ps => ps = []
  | s :: r, ps => ∃ p q, ps = p :: q ∧ Den s p ∧ Dens r q
end

/-- cells that read as such -/
def CellsOK (w : World) (cs : List Value) (gs : List GVal) : Prop :=
  cs.length = gs.length ∧ (∀ c ∈ cs, c.oneCell' = true) ∧ ∀ (j : Nat) c g, cs[j]? = some c → gs[j]? = some g → VR (Env.all w) c g
theorem CellsOK.one {w : World} {v : Value} {g : GVal} (hv : v.oneCell' = true) (h : VR (Env.all w) v g) : CellsOK w [v] [g] :=
  ⟨rfl, by simpa using hv, fun j c g' h1 h2 => by
    cases j with
    | zero => simp at h1 h2; subst h1; subst h2; exact h
    | succ j => simp at h1⟩
theorem CellsOK.append {w : World} {a b : List Value} {x y : List GVal} (h : CellsOK w a x) (k : CellsOK w b y) : CellsOK w (a ++ b) (x ++ y) := by
  refine ⟨by simp [h.1, k.1], fun c hc => ?_, fun j c g h1 h2 => ?_⟩
  · rcases List.mem_append.1 hc with hc | hc
    · exact h.2.1 c hc
    · exact k.2.1 c hc
  · by_cases hj : j < a.length
    · rw [List.getElem?_append_left hj] at h1
      rw [List.getElem?_append_left (by rw [← h.1]; exact hj)] at h2
      exact h.2.2 j c g h1 h2
    · rw [List.getElem?_append_right (by omega)] at h1
      rw [List.getElem?_append_right (by rw [← h.1]; omega), ← h.1] at h2
      exact k.2.2 _ c g h1 h2

section
variable {H : Type} {enc : TypeId × Value → H} {P : Program} {w : World} {spare : Nat → Bool} {held : Bool}

theorem cells_at {base : Nat} {a : Addr} {n : Nat} {cs : List Value} (h : w.cells? base a n = some cs) : cs.length = n ∧ ∀ j, j < n → w.cell? (a.add j) = cs[j]? := by
  unfold World.cells? at h
  split at h
  · have hl := mapM_some_length h
    refine ⟨by simpa using hl, fun j hj => ?_⟩
    exact mapM_some_get h j j (by simp [hj])
  · cases h

theorem flat_len {α : Type} {sz : Nat} : ∀ {xs : List (List α)}, (∀ x ∈ xs, x.length = sz) → xs.flatten.length = xs.length * sz
  | [], _ => by simp
  | x :: xs, h => by
    rw [List.flatten_cons, List.length_append, h x (by simp), flat_len fun y hy => h y (by simp [hy])]
    simp [Nat.succ_mul, Nat.add_comm]

mutual
theorem rd : ∀ (S : Sh) (n : Nat) (t : TypeId) (cs : List Value) (x : DataW H × List MemPlace), shB P S t = true → DataW.trod enc P w 0 spare held n t cs = some x → ∃ gs, CellsOK w cs gs ∧ Den S gs ∧ cs.length = S.size
  | .int k, n, t, cs, x, hs, h => by
    unfold shB at hs
    split at hs
    · rename_i k' hu
      have hs : k = k' := by simpa using hs
      subst hs
      obtain ⟨m, rfl, _, hwf⟩ := DataW.trod_int hu h
      exact ⟨[.int k m], .one rfl (.int _ _), ⟨m, rfl, hwf⟩, rfl⟩
    · cases hs
  | .bool, n, t, cs, x, hs, h => by
    unfold shB at hs
    split at hs
    · rename_i hu
      obtain ⟨b, rfl, _⟩ := DataW.trod_bool hu h
      exact ⟨[.bool b], .one rfl (.bool _), ⟨b, rfl⟩, rfl⟩
    · cases hs
  | .str, n, t, cs, x, hs, h => by
    unfold shB at hs
    split at hs
    · rename_i hu
      cases n with
      | zero => simp [DataW.trod] at h
      | succ n =>
        unfold DataW.trod at h
        rw [hu] at h
        match cs, h with
        | [.string b], h =>
          simp only at h
          split at h
          · rename_i hl
            refine ⟨[.str b.data.toList], .one rfl ?_, ⟨_, rfl, ?_⟩, rfl⟩
            · exact VR.str (E := Env.all w) b.data.toList
            · simpa using hl
          · cases h
    · cases hs
  | .slice e, n, t, cs, x, hs, h => by
    unfold shB at hs
    split at hs
    · rename_i et hu
      simp only [Bool.and_eq_true, beq_iff_eq] at hs
      obtain ⟨⟨hs, hsz⟩, hpos⟩ := hs
      have hpos : 0 < e.size := by simpa using hpos
      rcases DataW.trod_slice hu h with ⟨rfl, _⟩ | ⟨a, len, cap, elems, rest, m, rfl, rfl, _, _, hlc, hcm, hel, helem, _, _⟩
      · exact ⟨[.slice [] .none], .one rfl (.slice none 0 0 [] .none 0 (fun _ => .bool true) rfl (Nat.le_refl _) (by simp) (fun hx => absurd rfl hx) (by simp) trivial), ⟨[], rfl, by simp, by simp⟩, rfl⟩
      · have each : ∀ i : Nat, ∃ cs gs, i < len → (w.cells? 0 (a.add (i * P.cellsOf et)) (P.cellsOf et)) = some cs ∧ CellsOK w cs gs ∧ Den e gs ∧ cs.length = e.size := by
          intro i
          by_cases hi : i < len
          · have := helem i hi
            rw [← hel] at hi
            rw [List.getElem?_eq_getElem hi, Option.bind_eq_some_iff] at this
            obtain ⟨cs, h1, h2⟩ := this
            obtain ⟨gs, h3, h4, h5⟩ := rd e m et cs _ hs h2
            exact ⟨cs, gs, fun _ => ⟨h1, h3, h4, h5⟩⟩
          · exact ⟨[], [], fun h => absurd h hi⟩
        obtain ⟨C, hC⟩ := Classical.axiomOfChoice each
        obtain ⟨G, hCG⟩ := Classical.axiomOfChoice hC
        refine ⟨[.slice ((List.range len).map G) .none], .one rfl ?_, ⟨_, rfl, by simp; omega, fun x hx => ?_⟩, rfl⟩
        · have hG : ∀ i, i < len → (G i).length = e.size := fun i hi => by rw [← (hCG i hi).2.1.1]; exact (hCG i hi).2.2.2
          have cell : ∀ i, i < len → ∀ j, j < e.size → w.cell? ((a.add (i * e.size)).add j) = (C i)[j]? := fun i hi j hj => by
            have := cells_at (hCG i hi).1
            rw [hsz] at this
            exact this.2 j hj
          have dm : ∀ k, k < len * e.size → k / e.size < len ∧ k % e.size < e.size ∧ k / e.size * e.size + k % e.size = k := fun k hk =>
            ⟨(Nat.div_lt_iff_lt_mul hpos).2 hk, Nat.mod_lt _ hpos, by rw [Nat.mul_comm]; exact Nat.div_add_mod k e.size⟩
          have hszs : ∀ x ∈ (List.range len).map G, x.length = e.size := fun x hx => by
            obtain ⟨i, hi, rfl⟩ := List.mem_map.1 hx
            exact hG i (by simpa using hi)
          refine .slice (some a) len cap _ .none e.size (fun k => ((C (k / e.size))[k % e.size]?).getD (.bool true)) (by simp) hlc hszs (fun hx => ?_) (fun k g hk => ?_) trivial
          · have hlen : 0 < len := by
              rcases Nat.eq_zero_or_pos len with h0 | h0
              · subst h0; simp at hx
              · exact h0
            have in_ : ∀ i, i < len → ∀ j, j < e.size → ∃ v, (C i)[j]? = some v ∧ v.oneCell' = true := fun i hi j hj => by
              have hl : j < (C i).length := by rw [(hCG i hi).2.2.2]; exact hj
              exact ⟨_, List.getElem?_eq_getElem hl, (hCG i hi).2.1.2.1 _ (List.getElem_mem hl)⟩
            obtain ⟨b, off, spot⟩ := a
            have hspot : spot = none := by
              obtain ⟨v, hv, _⟩ := in_ 0 hlen 0 hpos
              have := cell 0 hlen 0 hpos
              rw [hv] at this
              simpa [Addr.add] using World.cell?_spot this
            subst hspot
            refine ⟨b, off, rfl, fun k hk => ?_⟩
            obtain ⟨d1, d2, d3⟩ := dm k hk
            obtain ⟨v, hv, hv2⟩ := in_ _ d1 _ d2
            have := cell _ d1 _ d2
            rw [hv] at this
            rw [hv]
            refine Env.all_at ?_ hv2
            rw [add_at, add_at, Nat.add_assoc, d3] at this
            exact this
          · have hk' : k < len * e.size := by
              have := (List.getElem?_eq_some_iff.1 hk).1
              rw [flat_len hszs] at this
              simpa using this
            obtain ⟨d1, d2, d3⟩ := dm k hk'
            have hx : ((List.range len).map G)[k / e.size]? = some (G (k / e.size)) := by simp [d1]
            have e1 := flatten_at _ hszs (k / e.size) (k % e.size) _ hx d2
            rw [d3, hk] at e1
            have hl : k % e.size < (C (k / e.size)).length := by rw [(hCG _ d1).2.2.2]; exact d2
            rw [List.getElem?_eq_getElem hl]
            exact (hCG _ d1).2.1.2.2 _ _ _ (List.getElem?_eq_getElem hl) e1.symm
        · obtain ⟨i, hi, rfl⟩ := List.mem_map.1 hx
          exact (hCG i (by simpa using hi)).2.2.1
    · cases hs
  | .agg l, n, t, cs, x, hs, h => by
    unfold shB at hs
    split at hs
    · rename_i fs hu
      simp only [Bool.and_eq_true, beq_iff_eq] at hs
      obtain ⟨hs, hsz⟩ := hs
      obtain ⟨xs, m, rfl, rfl, hcl, hxl, hf⟩ := DataW.trod_struct hu h
      obtain ⟨ps, h1, h2⟩ := rds l m fs.toList cs 0 hs (by simpa [hsz] using hcl) (fun f hf' => by
        obtain ⟨i, hi⟩ := List.getElem?_of_mem hf'
        have := hf i f (by simpa using hi)
        have hlt : i < xs.length := by rw [hxl]; simpa using (List.getElem?_eq_some_iff.1 hi).1
        rw [List.getElem?_eq_getElem hlt] at this
        exact ⟨_, this⟩)
      exact ⟨ps.flatten, by simpa using h1, ⟨ps, rfl, h2⟩, by rw [hcl, hsz]; rfl⟩
    · rename_i k et hu
      simp only [Bool.and_eq_true, beq_iff_eq] at hs
      obtain ⟨hlk, hs, hsz⟩ := hs
      obtain ⟨xs, m, rfl, rfl, hcl, hxl, hf⟩ := DataW.trod_array hu h
      obtain ⟨ps, h1, h2⟩ := rda l m et cs hs (by simpa [hsz] using hcl) (fun i hi => by
        have := hf i (by omega)
        rw [List.getElem?_eq_getElem (by omega)] at this
        exact ⟨_, this⟩)
      exact ⟨ps.flatten, h1, ⟨ps, rfl, h2⟩, by rw [hcl, hsz]; rfl⟩
    · cases hs
theorem rda : ∀ (l : List Sh) (n : Nat) (et : TypeId) (cs : List Value), shAs P l et = true → cs.length = Sh.sizes l →
    (∀ i, i < l.length → ∃ x, DataW.trod enc P w 0 spare held n et ((cs.drop (i * P.cellsOf et)).take (P.cellsOf et)) = some x) → ∃ ps, CellsOK w cs ps.flatten ∧ Dens l ps
  | [], n, et, cs, hs, hl, h => by
    have : cs = [] := List.length_eq_zero_iff.1 hl
    subst this
    exact ⟨[], ⟨rfl, by simp, fun j c g h1 => by simp at h1⟩, rfl⟩
  | s :: r, n, et, cs, hs, hl, h => by
    unfold shAs at hs
    simp only [Bool.and_eq_true, beq_iff_eq] at hs
    obtain ⟨h1, h2, h3⟩ := hs
    obtain ⟨x, hx⟩ := h 0 (by simp)
    rw [Nat.zero_mul, List.drop_zero] at hx
    obtain ⟨gs, q1, q2, q3⟩ := rd s n et _ _ h2 hx
    simp only [Sh.sizes] at hl
    obtain ⟨ps, k1, k2⟩ := rda r n et (cs.drop (P.cellsOf et)) h3 (by rw [List.length_drop, hl, h1]; omega) (fun i hi => by
      obtain ⟨y, hy⟩ := h (i + 1) (by simpa using hi)
      rw [List.drop_drop]
      have e : P.cellsOf et + i * P.cellsOf et = (i + 1) * P.cellsOf et := by rw [Nat.succ_mul, Nat.add_comm]
      rw [e]; exact ⟨y, hy⟩)
    refine ⟨gs :: ps, ?_, ⟨gs, ps, rfl, q2, k2⟩⟩
    rw [List.flatten_cons]
    have := q1.append k1
    rwa [List.take_append_drop] at this
theorem rds : ∀ (l : List Sh) (n : Nat) (fs : List Field) (cs : List Value) (o : Nat), shBs P l fs o = true → cs.length = o + Sh.sizes l →
    (∀ f ∈ fs, ∃ x, DataW.trod enc P w 0 spare held n f.type ((cs.drop f.offset).take (P.cellsOf f.type)) = some x) → ∃ ps, CellsOK w (cs.drop o) ps.flatten ∧ Dens l ps
  | [], n, fs, cs, o, hs, hl, h => by
    refine ⟨[], ?_, rfl⟩
    rw [List.drop_eq_nil_of_le (by rw [hl]; simp [Sh.sizes])]
    exact ⟨rfl, by simp, fun j c g h1 => by simp at h1⟩
  | s :: r, n, fs, cs, o, hs, hl, h => by
    match fs, hs, h with
    | f :: fs, hs, h =>
      unfold shBs at hs
      simp only [Bool.and_eq_true, beq_iff_eq] at hs
      obtain ⟨⟨⟨h1, h2⟩, h3⟩, h4⟩ := hs
      obtain ⟨x, hx⟩ := h f (by simp)
      obtain ⟨gs, q1, q2, q3⟩ := rd s n f.type _ _ h3 hx
      simp only [Sh.sizes] at hl
      obtain ⟨ps, k1, k2⟩ := rds r n fs cs (o + s.size) h4 (by rw [hl]; omega) (fun f' hf' => h f' (by simp [hf']))
      refine ⟨gs :: ps, ?_, ⟨gs, ps, rfl, q2, k2⟩⟩
      rw [List.flatten_cons]
      have e : cs.drop o = (cs.drop f.offset).take (P.cellsOf f.type) ++ cs.drop (o + s.size) := by
        rw [h1, h2, ← List.drop_drop]; exact (List.take_append_drop _ _).symm
      rw [e]
      exact q1.append k1
    | [], hs, h => simp [shBs] at hs
end

def Sh.val : Sh → List GVal → GVal
  | .agg _, gs => .agg gs
  | _, gs => gs.headD .any

/-- an argument, from its reading -/
theorem arg_read {S : Sh} {t : TypeId} {r : Reach} {base : Nat} {v : Value} {d : DataW H} {ps : List MemPlace} (hs : shB P S t = true) (hval : Value.okWide P w r base t v) (h : DataW.Trod enc P w 0 spare held t v d ps) :
    ∃ gs, Den S gs ∧ VR (Env.all w) v (S.val gs) := by
  obtain ⟨n, h⟩ := h
  obtain ⟨gs, h1, h2, h3⟩ := rd S n t _ _ hs h
  refine ⟨gs, h2, ?_⟩
  have single : ∀ x : Value, v = x → x.cells.toList = [x] → (∃ g, gs = [g]) → S.val gs = gs.headD .any → VR (Env.all w) v (S.val gs) := by
    intro x hx hc ⟨g, hg⟩ hv
    subst hx; subst hg
    rw [hv]
    rw [hc] at h1
    exact h1.2.2 0 _ _ rfl rfl
  cases S with
  | int k =>
    unfold shB at hs
    split at hs
    · rename_i k' hu
      obtain ⟨n, rfl⟩ := okWide_int hu hval
      obtain ⟨m, e, _⟩ := h2
      exact single _ rfl rfl ⟨_, e⟩ rfl
    · cases hs
  | bool =>
    unfold shB at hs
    split at hs
    · rename_i hu
      obtain ⟨n, rfl⟩ := okWide_bool hu hval
      obtain ⟨m, e⟩ := h2
      exact single _ rfl rfl ⟨_, e⟩ rfl
    · cases hs
  | str =>
    unfold shB at hs
    split at hs
    · rename_i hu
      obtain ⟨n, rfl⟩ := okWide_string hu hval
      obtain ⟨m, e, _⟩ := h2
      exact single _ rfl rfl ⟨_, e⟩ rfl
    · cases hs
  | slice e =>
    unfold shB at hs
    split at hs
    · rename_i et hu
      obtain ⟨a, len, cap, rfl⟩ := okWide_slice hu hval
      obtain ⟨m, e, _⟩ := h2
      exact single _ rfl rfl ⟨_, e⟩ rfl
    · cases hs
  | agg l =>
    unfold shB at hs
    split at hs
    · rename_i fs hu
      obtain ⟨cs, rfl, _⟩ := okWide_struct hu hval
      refine .agg cs gs (by have := h1.1; simpa [Value.cells] using this) (fun j g hj => ?_)
      have hl : j < cs.size := by
        have := (List.getElem?_eq_some_iff.1 hj).1
        rw [← h1.1] at this; simpa [Value.cells] using this
      have := h1.2.2 j cs[j] g (by simp [Value.cells, hl]) hj
      simpa [Array.getD, hl] using this
    · rename_i n e hu
      obtain ⟨cs, rfl⟩ : ∃ cs : Array Value, v = .agg cs := by
        simp only [Value.okWide, hu] at hval
        obtain ⟨cs, h1, _⟩ := hval
        exact ⟨cs, h1⟩
      refine .agg cs gs (by have := h1.1; simpa [Value.cells] using this) (fun j g hj => ?_)
      have hl : j < cs.size := by
        have := (List.getElem?_eq_some_iff.1 hj).1
        rw [← h1.1] at this; simpa [Value.cells] using this
      have := h1.2.2 j cs[j] g (by simp [Value.cells, hl]) hj
      simpa [Array.getD, hl] using this
    · cases hs

/-- the call of a law whose arguments are read -/
theorem GPure.lawAt {P : Program} {f : FuncId} {args : Array Value} {gs : List GVal} {w : World} (h : GPure P f gs (.bool true)) (ha : ArgsR (Env.all w) args gs) (hg : GlobsIn w := by exact Gv.globsIn_none rfl) :
    Calls P f args w fun e w' => e = .returned (.bool true) ∧ Old w w' := by
  refine (h.2 (Env.all w) w args (HSim.all w hg) ha).mono ?_
  rintro e w' ⟨v, E', O', g, rfl, h1, h2, h3, rfl, rfl⟩
  cases h3
  exact ⟨rfl, h2.old⟩
theorem ArgsR.nil {E : Env} : ArgsR E #[] [] := ⟨rfl, fun i g h => by simp at h⟩
theorem ArgsR.one {E : Env} {v : Value} {g : GVal} (h : VR E v g) : ArgsR E #[v] [g] := ⟨rfl, fun i g' hg => by
  cases i with
  | zero => simp at hg; subst hg; exact h
  | succ i => simp at hg⟩

/-- what was read reads so behind the call -/
theorem Old.trod {W W' : World} {t : TypeId} {v : Value} {d : DataW H} {ps : List MemPlace} (hl : laidOutB P = true) (hr : P.readableRec t = true) (hrow : t < P.types.size) (hb : Old W W') {sp : Nat → Bool}
    (h : DataW.Trod enc P W 0 (fun _ => true) true t v d ps) (hlt : ∀ x ∈ ps, x.block < W.heap.size) (hs : ∀ x ∈ ps, sp x.block = true) : DataW.Trod enc P W' 0 sp true t v d ps :=
  WideElems.Trod_stays hl hr hrow h (fun x hx => by
    have hp := hlt x hx
    cases x with
    | cell b o => exact World.cell?_of_block (w := W) (hb.block b hp)
    | map b => exact hb.block b hp) hs
end
end Gv
/- Loads of a whole array, one step. -/
set_option linter.unusedVariables false
set_option maxRecDepth 100000
namespace Gv.Tryd
open Go Gv Go.Proofs Go.RowKit
theorem agg_of_bytes {E : Env} {v : Value} {l : List UInt8} (h : VR E v (.agg (bytesG l))) : v = .agg (bytesV l).toArray := by
  have := argsR_agg (E := E) (vs := #[v]) (l := l) ⟨rfl, fun i g hg => by
    match i with
    | 0 => simp at hg; subst hg; simpa using h
    | i + 1 => simp at hg⟩
  simpa using this
theorem load32 {w : World} {b : Nat} {t : TypeId} {fz : Nat × Nat} {l : List UInt8} (hl : l.length = 32) (h : w.heap[b]? = some (.cells (bytesV l).toArray t fz)) : (Instr.loadAt 24 (.pointer (some ⟨b, 0, none⟩))).run Tryd.prog w = .ok (.agg (bytesV l).toArray) w := by
  have ht : tab Tryd.prog 24 = some (32, true) := by kernel_rfl
  obtain ⟨v, h1, h2⟩ := load_run (P := Tryd.prog) (w := w) (E := Env.all w) ht (by decide) (b := b) (off := 0) (cs := bytesG l) (fun j => .int .u8 (l.getD j 0).toNat) (by simp [bytesG, hl]) (fun j hj => by simp [World.cell?, h, bytesV, hl, hj, List.getD]) (fun j g hj _ => by
    simp only [bytesG, List.getElem?_map] at hj
    cases hq : l[j]? with
    | none => rw [hq] at hj; cases hj
    | some c => rw [hq] at hj; simp at hj; subst hj; simp [List.getD, hq]; exact .int _ _)
  rw [List.take_of_length_le (by simp [bytesG, hl])] at h2
  rw [h1, agg_of_bytes h2]
theorem wpList_load {P : Program} {ops : Array Oper} {rest : List Oper} {o : Oper} {a : Act} {w : World} {Q : Exit → Act → World → Prop} {t : TypeId} {x : Operand} {v : Value} (hgd : o.guard = none) (ho : o.op = .load t x)
    (hr : (Instr.loadAt t (a.eval x)).run P w = .ok v w) (h : wpList P ops Q rest (a.put o.dst v) w) : wpList P ops Q (o :: rest) a w := by
  refine wpList_plain hgd fun K hK => ?_
  unfold Oper.wp execOp
  simp only [ho, Sem.run_bind, Sem.run_pure, Result.andThen_ok, hr]
  exact hK _ _ h
theorem wpList_index {P : Program} {ops : Array Oper} {rest : List Oper} {o : Oper} {a : Act} {w : World} {Q : Exit → Act → World → Prop} {t : TypeId} {x i : Operand} {v : Value} (hgd : o.guard = none) (ho : o.op = .index t x i)
    (hr : (Instr.index t (a.eval x) (a.eval i)).run P w = .ok v w) (h : wpList P ops Q rest (a.put o.dst v) w) : wpList P ops Q (o :: rest) a w := by
  refine wpList_plain hgd fun K hK => ?_
  unfold Oper.wp execOp
  simp only [ho, Sem.run_bind, Sem.run_pure, Result.andThen_ok, hr]
  exact hK _ _ h
theorem index32 {w : World} {l : List UInt8} (hl : l.length = 32) (k : Nat) (hk : k < 32) : (Instr.index 24 (.agg (bytesV l).toArray) (.int .i64 k)).run Tryd.prog w = .ok (.int .u8 (l.getD k 0).toNat) w := by
  have hr : VR (Env.all w) (.agg (bytesV l).toArray) (.agg (bytesG l)) := .agg _ _ (by simp [bytesV, bytesG]) fun j g hj => by
    simp only [bytesG, List.getElem?_map] at hj
    cases hq : l[j]? with
    | none => rw [hq] at hj; cases hj
    | some c => rw [hq] at hj; simp at hj; subst hj; simp [bytesV, hq]; exact .int _ _
  have ha : arr Tryd.prog 24 = some (32, 1, false) := by kernel_rfl
  obtain ⟨e, hu, ht⟩ := arr_spec ha
  have g1 : ((bytesG l).drop (k * 1)).take 1 = [.int .u8 (l.getD k 0).toNat] := by
    rw [Nat.mul_one, List.drop_eq_getElem_cons (by rw [bytesG_len]; omega)]
    simp [bytesG, List.getD, hl, hk]
  obtain ⟨v, hrun, hv⟩ := part_run (P := Tryd.prog) (w := w) (E := Env.all w) ht (fun _ => rfl) hr (off := k * 1) (by rw [bytesG_len]; omega)
  rw [g1] at hv
  have hv2 : v = .int .u8 (l.getD k 0).toNat := by
    generalize hq : grp false [GVal.int .u8 (l.getD k 0).toNat] = q at hv
    have : q = .int .u8 (l.getD k 0).toNat := by rw [← hq]; rfl
    subst this
    cases hv; rfl
  rw [hv2] at hrun
  simp [Instr.index, run_underlying hu, asIntOf, (tab_spec ht w).1, hk] 
  rw [Nat.mul_one] at hrun
  simpa [List.getD, hl, hk] using hrun
def hexd (n : Nat) : UInt8 := ([48, 49, 50, 51, 52, 53, 54, 55, 56, 57, 97, 98, 99, 100, 101, 102] : List UInt8).getD n 0
theorem indexHex {w : World} (n : Nat) (hn : n < 16) : (Instr.index 9 (.string { data := #[48, 49, 50, 51, 52, 53, 54, 55, 56, 57, 97, 98, 99, 100, 101, 102] }) (.int .u8 n)).run Tryd.prog w = .ok (.int .u8 (hexd n).toNat) w := by
  match n, hn with
  | 0, _ | 1, _ | 2, _ | 3, _ | 4, _ | 5, _ | 6, _ | 7, _ | 8, _ | 9, _ | 10, _ | 11, _ | 12, _ | 13, _ | 14, _ | 15, _ => rfl
  | n + 16, h => omega
end Gv.Tryd
/- hex.Text: the walk. -/
set_option linter.unusedVariables false
set_option maxRecDepth 1000000
namespace Gv.Tryd
open Go Gv Go.Proofs Go.RowKit
def textL (l : List UInt8) : List UInt8 := l.flatMap fun c => [hexd (c.toNat / 16), hexd (c.toNat % 16)]
set_option maxHeartbeats 4000000 in
theorem textWalk (l : List UInt8) (hl : l.length = 32) (w : World) :
    Calls Tryd.prog 17 #[.agg (bytesV l).toArray] w fun e w' => e = .returned (.string ⟨(textL l).toArray⟩) ∧ Below w.heap.size w w' := by
  have h16 : (4 : Int).toNat = 4 := rfl
  have hX : ∃ X, X = (bytesV l).toArray := ⟨_, rfl⟩
  obtain ⟨X, eX⟩ := hX
  have hx : X.size = 32 := by rw [eX]; simp [bytesV, hl]
  have hld : (Instr.loadAt 24 (.pointer (some ⟨w.heap.size, 0, none⟩))).run Tryd.prog ((w.alloc (Obj.cells X 24)).alloc (Obj.cells #[Value.pointer none, Value.slice none 0 0] 51)) = .ok (.agg X) ((w.alloc (Obj.cells X 24)).alloc (Obj.cells #[Value.pointer none, Value.slice none 0 0] 51)) := by
    rw [eX]
    exact load32 hl (t := 24) (fz := (0, 0)) (by rw [Gv.alloc_old _ _ _ (by simp), Gv.alloc_new])
  have hix : ∀ (W : World) (k : Nat), k < 32 → (Instr.index 24 (.agg X) (.int .i64 k)).run Tryd.prog W = .ok (.int .u8 (l.getD k 0).toNat) W := fun W k h => by rw [eX]; exact index32 hl k h
  rw [← eX]
  clear eX
  go_enter Tryd.func17, Tryd.ntmps17
  go_wp2_with (refine wpList_load rfl rfl hld ?_)
  go_loopw [7] (fun i wr => ∃ (k : Nat) (acc : List UInt8), k ≤ 32 ∧ i = .int .i64 k ∧ Lib.IsBuilderF 51 5 w.heap.size (w.heap.size + 1) (Lib.byteCells acc) wr ∧ Below w.heap.size w wr ∧ Hid (acc = textL (l.take k)) ∧ acc.length = 2 * k) (fun i wr => 32 - (RowKit.intOf i).toNat)
  case atStart =>
    refine ⟨0, [], by omega, rfl, ?_, ?_, rfl, rfl⟩
    · refine Or.inl ⟨by omega, .slice none 0 0, ?_, ⟨rfl, Or.inl ⟨rfl, rfl⟩⟩, by simp [Value.ownBlock]⟩
      have e : w.heap.size + 1 = (w.alloc (Obj.cells X 24)).heap.size := by simp
      rw [e]
      exact Gv.alloc_new _ _
    · exact ((Below.refl _ w).alloc (Nat.le_refl _) _).alloc (by simp) _
  case round =>
    obtain ⟨k, acc, hk, rfl, hI, hbw, hacc, hal⟩ := hrel
    by_cases h : k < 32
    · obtain ⟨c, ec⟩ : ∃ c, l.getD k 0 = c := ⟨_, rfl⟩
      have hi1 := fun W => hix W k h
      rw [ec] at hi1
      have hc := c.toNat_lt
      have hs1 : ∀ W : World, (Instr.index 9 (.string { data := #[48, 49, 50, 51, 52, 53, 54, 55, 56, 57, 97, 98, 99, 100, 101, 102] }) (.int .u8 ((c.toNat : Int) / 16))).run Tryd.prog W = .ok (.int .u8 (hexd (c.toNat / 16)).toNat) W := fun W => by
        have := indexHex (w := W) (c.toNat / 16) (by omega)
        rw [Int.natCast_ediv] at this
        exact this
      have hI1 : Lib.IsBuilderF 51 5 w.heap.size (w.heap.size + 1) (Lib.byteCells acc) wr := hI
      go_wp2_with (first | (refine wpList_index rfl rfl (hi1 _) ?_) | (refine wpList_index rfl rfl (hs1 _) ?_) | (go_at_call 24; refine (Tryd.Builder_WriteByte_k w.heap.size (w.heap.size + 1) (Lib.byteCells acc) _ wr hI1 (by rw [Lib.byteCells_length]; omega) hbw.size).mono ?_))
      rintro e W1 ⟨rfl, h1, b1, k1⟩
      have hI2 : Lib.IsBuilderF 51 5 w.heap.size (w.heap.size + 1) (Lib.byteCells (acc ++ [hexd (c.toNat / 16)])) W1 := by rw [Lib.byteCells_append]; exact Or.inr h1
      have hbw2 := hbw.trans b1
      have hs2 : ∀ W : World, (Instr.index 9 (.string { data := #[48, 49, 50, 51, 52, 53, 54, 55, 56, 57, 97, 98, 99, 100, 101, 102] }) (.int .u8 ((c.toNat : Int) % 16))).run Tryd.prog W = .ok (.int .u8 (hexd (c.toNat % 16)).toNat) W := fun W => by
        have := indexHex (w := W) (c.toNat % 16) (by omega)
        rw [Int.natCast_emod] at this
        exact this
      go_wp2_with (first | (refine wpList_index rfl rfl (hs2 _) ?_) | (go_at_call 24; refine (Tryd.Builder_WriteByte_k w.heap.size (w.heap.size + 1) (Lib.byteCells (acc ++ [hexd (c.toNat / 16)])) _ W1 hI2 (by rw [Lib.byteCells_length]; simp; omega) hbw2.size).mono ?_))
      rintro e W2 ⟨rfl, h2, b2, k2⟩
      go_wp2
      go_roundw
      case rel =>
        refine ⟨k + 1, acc ++ [hexd (c.toNat / 16)] ++ [hexd (c.toNat % 16)], by omega, by go_num, ?_, hbw2.trans b2, ?_, by simp; omega⟩
        · rw [Lib.byteCells_append]; exact Or.inr h2
        · show acc ++ [hexd (c.toNat / 16)] ++ [hexd (c.toNat % 16)] = textL (l.take (k + 1))
          have h3 : acc = textL (l.take k) := hacc
          have h4 : l.take (k + 1) = l.take k ++ [c] := by rw [List.take_add_one, ← ec]; simp [List.getD, hl, h]
          rw [h4, textL, List.flatMap_append, ← textL, ← h3]; simp
      case measure => simp [RowKit.intOf]; omega
    · obtain rfl : k = 32 := by omega
      go_wp2_with (go_at_call 25; refine (Tryd.Builder_String_any_k w.heap.size (w.heap.size + 1) acc wr hI hbw.size).mono ?_)
      rintro e W1 ⟨rfl, _, b1, _⟩
      go_wp2
      go_ret
      have h3 : acc = textL (l.take 32) := hacc
      rw [List.take_of_length_le (by omega)] at h3
      rw [h3]
      exact ⟨rfl, hbw.trans b1⟩
theorem hText (l : List UInt8) (hl : l.length = 32) : GPure Tryd.prog 17 [.agg (bytesG l)] (.str (textL l)) :=
  GPure.ofBelow (by kernel_rfl) fun E w vs hs ha => by
    rw [argsR_agg ha]
    exact (textWalk l hl w).mono fun e w' ⟨h1, h2⟩ => ⟨_, h1, h2, .str _⟩
end Gv.Tryd
/- Contracts: Less, Begins, known, Pick. -/
set_option linter.unusedVariables false
set_option linter.unusedSimpArgs false
set_option maxRecDepth 20000
set_option maxHeartbeats 4000000
namespace Gv.Tryd
open Go Gv Go.Proofs
theorem btsG_map (a : List UInt8) (h : a.length = 32) : List.map (fun c => [c]) (List.take 32 (bytesG a)) = btsG a := by
  rw [List.take_of_length_le (by rw [bytesG_len]; omega)]
  simp [bytesG, btsG]
theorem sol_bytes : ∀ l : List UInt8, allSolid (bytesG l) = True
  | [] => eq_true trivial
  | c :: r => by have := sol_bytes r; simp only [bytesG, List.map_cons, allSolid, GVal.solid, true_and]; exact this
theorem take_bts (a : List UInt8) (h : a.length = 32) : List.drop (Int.toNat 0) (List.take (Int.toNat 32) (btsG a)) = btsG a := by
  have e : Int.toNat 32 = 32 := rfl
  rw [e, Int.toNat_zero, List.drop_zero, List.take_of_length_le (by rw [btsG_len]; omega)]
theorem hLess (a b : List UInt8) (ha : a.length = 32) (hb : b.length = 32) : GPure Tryd.prog 20 [.agg (bytesG a), .agg (bytesG b)] (.bool (ltB a b)) := by
  refine h20.pure mixS (by simp) ?_
  simp only [gstart, s20, List.cons_append, List.nil_append, List.length_cons, List.length_nil, Nat.reduceAdd, Nat.reduceSub, List.replicate_succ, List.replicate_zero]
  have la := bytesG_len a
  have lb := bytesG_len b
  simp +contextual -implicitDefEqProofs (maxSteps := 2000000) (disch := omega) only [drawC, binV, optV, ↓boxV, ↓sliceV, bound, cutTag, hiTag, GVal.cells, grp, GVal.ofConst, ↓resV, resG, List.map, List.headD, List.take, List.drop, ↓reduceIte, Nat.reduceEqDiff, Nat.reduceAdd, Nat.reduceSub, Nat.reduceLeDiff, reduceCtorEq, implies_true, ne_eq, Tag.cap, List.replicate, allSolid, GVal.solid, Nat.reduceBEq, Nat.reduceMul, Nat.reduceLT, List.length_map, List.length_range, splice, vcA, ↓vcB, vcC, fbHxD, e20, btsG_map a ha, btsG_map b hb, btsG_len, sol_bytes, take_bts a ha, take_bts b hb]
  refine ⟨by omega, by omega, by omega, by omega, by omega, by omega, by omega, by omega, ?_⟩
  refine (hCompare a b _ _).then ?_ (by rfl)
  simp +contextual -implicitDefEqProofs (maxSteps := 2000000) (disch := omega) only [drawC, binV, optV, ↓boxV, ↓sliceV, bound, cutTag, hiTag, GVal.cells, grp, GVal.ofConst, ↓resV, resG, List.map, List.headD, List.take, List.drop, ↓reduceIte, Nat.reduceEqDiff, Nat.reduceAdd, Nat.reduceSub, Nat.reduceLeDiff, reduceCtorEq, implies_true, ne_eq, Tag.cap, List.replicate, allSolid, GVal.solid, Nat.reduceBEq, Nat.reduceMul, Nat.reduceLT, List.length_map, List.length_range, splice, vcA, ↓vcB, vcC, fbHxD, e20]
  rw [← cmpL_ltB a b (by omega)]
theorem tmod_pick (n m : Int) (hm : 0 < m) : (n.tmod m < 0 → n.tmod m + m = n % m) ∧ (0 ≤ n.tmod m → n.tmod m = n % m) := by
  have h := Int.tmod_eq_emod (a := n) (b := m)
  have h1 := Int.emod_nonneg n (by omega : m ≠ 0)
  have h2 := Int.emod_lt_of_pos n hm
  split at h <;> rename_i h3
  · simp at h; omega
  · have : m ∣ n ↔ n % m = 0 := Int.dvd_iff_emod_eq_zero
    have : n % m ≠ 0 := fun e => h3 (.inr (this.2 e))
    omega
theorem sPick (n m : Int) (hm : 0 < m) (hm2 : m ≤ 1000000000) : GPure Tryd.prog 8 [.int .i64 n, .int .i64 m] (.int .i64 (n % m)) := by
  refine h8.pure mixS (by simp) ?_
  simp only [gstart, s8, List.cons_append, List.nil_append, List.length_cons, List.length_nil, Nat.reduceAdd, Nat.reduceSub, List.replicate_succ, List.replicate_zero]
  simp +contextual -implicitDefEqProofs (maxSteps := 2000000) (disch := omega) only [binV, GVal.cells, grp, GVal.ofConst, ↓resV, resG, List.map, List.headD, List.take, List.drop, ↓reduceIte, Nat.reduceEqDiff, Nat.reduceAdd, Nat.reduceSub, Nat.reduceLeDiff, reduceCtorEq, implies_true, ne_eq, Tag.cap, List.replicate, allSolid, GVal.solid, Nat.reduceBEq, Nat.reduceMul, Nat.reduceLT, List.length_map, List.length_range, splice, vcA, ↓vcB, vcC, fbHxD, e8]
  obtain ⟨h1, h2⟩ := tmod_pick n m hm
  have h3 := Int.emod_nonneg n (by omega : m ≠ 0)
  have h4 := Int.emod_lt_of_pos n hm
  exact ⟨by omega, fun h => by rw [h1 h, norm_i64 (by omega)], h2⟩
theorem textL_len (l : List UInt8) : (textL l).length = 2 * l.length := by
  induction l with
  | nil => rfl
  | cons c r ih => rw [textL, List.flatMap_cons, ← textL, List.length_append, ih]; simp; omega
theorem hBegins (a p : List UInt8) (ha : a.length = 32) (hp : p.length ≤ 9223372036854775807) : GPure Tryd.prog 18 [.agg (bytesG a), .str p] (.bool (decide ((textL a).take p.length = p))) := by
  refine h18.pure mixS (by simp) ?_
  simp only [gstart, s18, List.cons_append, List.nil_append, List.length_cons, List.length_nil, Nat.reduceAdd, Nat.reduceSub, List.replicate_succ, List.replicate_zero]
  have la := bytesG_len a
  have ta : List.take 32 (bytesG a) = bytesG a := List.take_of_length_le (by omega)
  simp +contextual -implicitDefEqProofs (maxSteps := 2000000) (disch := omega) only [↓loadV, ↓boxV, GVal.cells, grp, GVal.ofConst, ↓resV, resG, List.map, List.headD, List.take, List.drop, ↓reduceIte, Nat.reduceEqDiff, Nat.reduceAdd, Nat.reduceSub, Nat.reduceLeDiff, reduceCtorEq, implies_true, ne_eq, Tag.cap, List.replicate, allSolid, GVal.solid, Nat.reduceBEq, Nat.reduceMul, Nat.reduceLT, List.length_map, List.length_range, splice, vcA, ↓vcB, vcC, fbHxD, e18, ta, sol_bytes]
  refine ⟨by omega, ?_⟩
  refine (hText a ha).then ?_ (by rfl)
  simp +contextual -implicitDefEqProofs (maxSteps := 2000000) (disch := omega) only [↓loadV, ↓boxV, GVal.cells, grp, GVal.ofConst, ↓resV, resG, List.map, List.headD, List.take, List.drop, ↓reduceIte, Nat.reduceEqDiff, Nat.reduceAdd, Nat.reduceSub, Nat.reduceLeDiff, reduceCtorEq, implies_true, ne_eq, Tag.cap, List.replicate, allSolid, GVal.solid, Nat.reduceBEq, Nat.reduceMul, Nat.reduceLT, List.length_map, List.length_range, splice, vcA, ↓vcB, vcC, fbHxD, e18]
  refine (hHasPrefix (textL a) p (by rw [textL_len]; omega) hp).then ?_ (by rfl)
  simp +contextual -implicitDefEqProofs (maxSteps := 2000000) (disch := omega) only [↓loadV, ↓boxV, GVal.cells, grp, GVal.ofConst, ↓resV, resG, List.map, List.headD, List.take, List.drop, ↓reduceIte, Nat.reduceEqDiff, Nat.reduceAdd, Nat.reduceSub, Nat.reduceLeDiff, reduceCtorEq, implies_true, ne_eq, Tag.cap, List.replicate, allSolid, GVal.solid, Nat.reduceBEq, Nat.reduceMul, Nat.reduceLT, List.length_map, List.length_range, splice, vcA, ↓vcB, vcC, fbHxD, e18]
theorem hKnown : GPure Tryd.prog 11 [] (.bool true) := by
  refine h11.pure mixS (by simp) ?_
  simp only [gstart, s11, List.cons_append, List.nil_append, List.length_cons, List.length_nil, Nat.reduceAdd, Nat.reduceSub, List.replicate_succ, List.replicate_zero]
  simp +contextual -implicitDefEqProofs (maxSteps := 2000000) (disch := omega) only [binV, ↓unV, GVal.cells, grp, GVal.ofConst, ↓resV, resG, List.map, List.headD, List.take, List.drop, ↓reduceIte, Nat.reduceEqDiff, Nat.reduceAdd, Nat.reduceSub, Nat.reduceLeDiff, reduceCtorEq, implies_true, ne_eq, aggV, Tag.cap, List.replicate, allSolid, GVal.solid, Nat.reduceBEq, Nat.reduceMul, Nat.reduceLT, List.length_map, List.length_range, splice, vcA, ↓vcB, vcC, fbHxD, e11]
  refine (hIsPrefix [100, 101, 97, 100] (by simp)).then ?_ (by rfl)
  have e1 : isPre [100, 101, 97, 100] = true := by decide
  rw [e1]
  simp +contextual -implicitDefEqProofs (maxSteps := 2000000) (disch := omega) only [binV, ↓unV, GVal.cells, grp, GVal.ofConst, ↓resV, resG, List.map, List.headD, List.take, List.drop, ↓reduceIte, Nat.reduceEqDiff, Nat.reduceAdd, Nat.reduceSub, Nat.reduceLeDiff, reduceCtorEq, implies_true, ne_eq, aggV, Tag.cap, List.replicate, allSolid, GVal.solid, Nat.reduceBEq, Nat.reduceMul, Nat.reduceLT, List.length_map, List.length_range, splice, vcA, ↓vcB, vcC, fbHxD, e11]
  refine (hIsPrefix [68, 101, 97, 100] (by simp)).then ?_ (by rfl)
  have e2 : isPre [68, 101, 97, 100] = false := by decide
  rw [e2]
  simp +contextual -implicitDefEqProofs (maxSteps := 2000000) (disch := omega) only [binV, ↓unV, GVal.cells, grp, GVal.ofConst, ↓resV, resG, List.map, List.headD, List.take, List.drop, ↓reduceIte, Nat.reduceEqDiff, Nat.reduceAdd, Nat.reduceSub, Nat.reduceLeDiff, reduceCtorEq, implies_true, ne_eq, aggV, Tag.cap, List.replicate, allSolid, GVal.solid, Nat.reduceBEq, Nat.reduceMul, Nat.reduceLT, List.length_map, List.length_range, splice, vcA, ↓vcB, vcC, fbHxD, e11]
  refine (hIsPrefix [] (by simp)).then ?_ (by rfl)
  have e3 : isPre [] = false := by decide
  rw [e3]
  simp +contextual -implicitDefEqProofs (maxSteps := 2000000) (disch := omega) only [binV, ↓unV, GVal.cells, grp, GVal.ofConst, ↓resV, resG, List.map, List.headD, List.take, List.drop, ↓reduceIte, Nat.reduceEqDiff, Nat.reduceAdd, Nat.reduceSub, Nat.reduceLeDiff, reduceCtorEq, implies_true, ne_eq, aggV, Tag.cap, List.replicate, allSolid, GVal.solid, Nat.reduceBEq, Nat.reduceMul, Nat.reduceLT, List.length_map, List.length_range, splice, vcA, ↓vcB, vcC, fbHxD, e11]
  refine (hDigit 97 (by omega)).then ?_ (by rfl)
  have e4 : dig 97 = 10 := by decide
  rw [e4]
  simp +contextual -implicitDefEqProofs (maxSteps := 2000000) (disch := omega) only [binV, ↓unV, GVal.cells, grp, GVal.ofConst, ↓resV, resG, List.map, List.headD, List.take, List.drop, ↓reduceIte, Nat.reduceEqDiff, Nat.reduceAdd, Nat.reduceSub, Nat.reduceLeDiff, reduceCtorEq, implies_true, ne_eq, aggV, Tag.cap, List.replicate, allSolid, GVal.solid, Nat.reduceBEq, Nat.reduceMul, Nat.reduceLT, List.length_map, List.length_range, splice, vcA, ↓vcB, vcC, fbHxD, e11]
end Gv.Tryd
/- Digits of bytes: the plain theory. -/
set_option linter.unusedVariables false
set_option maxRecDepth 100000
namespace Gv.Tryd
open Go Gv Go.Proofs
theorem dig_hexd : ∀ n, n < 16 → dig (hexd n).toNat = n := by decide
theorem hexd_inj : ∀ n, n < 16 → ∀ m, m < 16 → hexd n = hexd m → n = m := by decide
theorem hexd_lt : ∀ n, n < 16 → ∀ m, m < 16 → (hexd n < hexd m ↔ n < m) := by decide
theorem or_nib : ∀ q, q < 16 → ∀ r, r < 16 → norm .u8 (bits .or .i64 (norm .i64 ((q : Nat) * 2 ^ 4)) (r : Nat)) = ((16 * q + r : Nat) : Int) := by decide
theorem textL_cons (c : UInt8) (r : List UInt8) : textL (c :: r) = hexd (c.toNat / 16) :: hexd (c.toNat % 16) :: textL r := rfl
theorem textL_hi : ∀ (l : List UInt8) (i : Nat), i < l.length → (textL l).getD (2 * i) 0 = hexd ((l.getD i 0).toNat / 16)
  | [], i, h => by simp at h
  | c :: r, 0, _ => rfl
  | c :: r, i + 1, h => by
    have e : 2 * (i + 1) = 2 * i + 2 := by omega
    rw [textL_cons, e, List.getD_cons_succ, List.getD_cons_succ, List.getD_cons_succ, textL_hi r i (by simpa using h)]
theorem textL_lo : ∀ (l : List UInt8) (i : Nat), i < l.length → (textL l).getD (2 * i + 1) 0 = hexd ((l.getD i 0).toNat % 16)
  | [], i, h => by simp at h
  | c :: r, 0, _ => rfl
  | c :: r, i + 1, h => by
    have e : 2 * (i + 1) + 1 = 2 * i + 1 + 2 := by omega
    rw [textL_cons, e, List.getD_cons_succ, List.getD_cons_succ, List.getD_cons_succ, textL_lo r i (by simpa using h)]
theorem nib (c : UInt8) : c.toNat / 16 < 16 ∧ c.toNat % 16 < 16 := by have := c.toNat_lt; omega
theorem digits_text : ∀ l, digits (textL l) = true
  | [] => rfl
  | c :: r => by
    have h1 := dig_hexd _ (nib c).1
    have h2 := dig_hexd _ (nib c).2
    have h3 := digits_text r
    simp only [digits, textL_cons, List.all_cons, Bool.and_eq_true, decide_eq_true_eq] at *
    exact ⟨by rw [h1]; omega, by rw [h2]; omega, h3⟩
theorem isPre_text {l : List UInt8} (h : l.length = 32) : isPre (textL l) = true := by
  have hl := textL_len l
  rw [isPre, digits_text, decide_eq_true (p := textL l ≠ []) (fun e => by rw [e] at hl; simp at hl; omega), decide_eq_true (by omega)]; rfl
theorem parse_text {l : List UInt8} (h : l.length = 32) : ((List.range 32).map fun i => GVal.int .u8 (norm .u8 (pairB (textL l) i))) = bytesG l := by
  apply List.ext_getElem (by simp [bytesG, h])
  intro i h1 h2
  have hi : i < 32 := by simpa using h1
  rw [List.getElem_map, List.getElem_range]
  have n1 := (nib (l.getD i 0)).1
  have n2 := (nib (l.getD i 0)).2
  rw [pairB, textL_hi l i (by omega), textL_lo l i (by omega), dig_hexd _ n1, dig_hexd _ n2, or_nib _ n1 _ n2, Nat.div_add_mod]
  simp [bytesG, List.getD, h, hi]
theorem textL_inj : ∀ {a b : List UInt8}, textL a = textL b → a = b
  | [], [], _ => rfl
  | x :: a, [], h => by simp [textL] at h
  | [], y :: b, h => by simp [textL] at h
  | x :: a, y :: b, h => by
    rw [textL_cons, textL_cons] at h
    injection h with h1 h
    injection h with h2 h3
    have e1 := hexd_inj _ (nib x).1 _ (nib y).1 h1
    have e2 := hexd_inj _ (nib x).2 _ (nib y).2 h2
    have e3 : x = y := UInt8.toNat_inj.1 (by omega)
    rw [e3, textL_inj h3]
theorem less_text : ∀ {a b : List UInt8}, a.length = b.length → Op.bytesLess (textL a) (textL b) = ltB a b
  | [], [], _ => rfl
  | x :: a, [], h => by simp at h
  | [], y :: b, h => by simp at h
  | x :: a, y :: b, h => by
    have ih := less_text (a := a) (b := b) (by simpa using h)
    rw [textL_cons, textL_cons]
    simp only [Op.bytesLess, ih, ltB]
    have q1 := hexd_lt _ (nib x).1 _ (nib y).1
    have q2 := hexd_lt _ (nib x).2 _ (nib y).2
    by_cases e : x = y
    · subst e
      have z1 : ¬ hexd (x.toNat / 16) < hexd (x.toNat / 16) := UInt8.lt_irrefl _
      have z2 : ¬ hexd (x.toNat % 16) < hexd (x.toNat % 16) := UInt8.lt_irrefl _
      simp [z1, z2]
    · rw [if_neg e]
      have ne : x.toNat ≠ y.toNat := fun h => e (UInt8.toNat_inj.1 h)
      by_cases c1 : x.toNat / 16 = y.toNat / 16
      · have z1 : ¬ hexd (x.toNat / 16) < hexd (y.toNat / 16) := by rw [q1]; omega
        have z2 : ¬ hexd (x.toNat % 16) = hexd (y.toNat % 16) := fun h => by
          have := hexd_inj _ (nib x).2 _ (nib y).2 h; omega
        have z3 : (x < y) ↔ x.toNat % 16 < y.toNat % 16 := by rw [UInt8.lt_iff_toNat_lt]; omega
        rw [decide_eq_false z1, c1]
        simp [z2, q2, z3]
      · have z2 : ¬ hexd (x.toNat / 16) = hexd (y.toNat / 16) := fun h => c1 (hexd_inj _ (nib x).1 _ (nib y).1 h)
        have z3 : (x < y) ↔ x.toNat / 16 < y.toNat / 16 := by rw [UInt8.lt_iff_toNat_lt]; omega
        simp [z2, q1, z3]
theorem cells_eq : ∀ (a b : List UInt8) (n : Nat), a.length = n → b.length = n → cellsEq (List.replicate n Sk.int) (bytesG a) (bytesG b) = some (decide (a = b))
  | [], [], n, h, _ => by subst h; rfl
  | x :: a, [], n, h1, h2 => by simp at h1 h2; omega
  | [], y :: b, n, h1, h2 => by simp at h1 h2; omega
  | x :: a, y :: b, 0, h1, h2 => by simp at h1
  | x :: a, y :: b, n + 1, h1, h2 => by
    have ih := cells_eq a b n (by simpa using h1) (by simpa using h2)
    simp only [bytesG] at ih
    simp only [List.replicate_succ, bytesG, List.map_cons, cellsEq, ceq, if_true, ih]
    congr 1
    have e : (x.toNat : Int) = y.toNat ↔ x = y := ⟨fun h => UInt8.toNat_inj.1 (by omega), fun h => by rw [h]⟩
    rw [Bool.eq_iff_iff]
    simp [e]
end Gv.Tryd
/- Contracts: the reference's Digit, IsPrefix; Parse of a bad text. -/
set_option linter.unusedVariables false
set_option linter.unusedSimpArgs false
set_option maxRecDepth 20000
set_option maxHeartbeats 4000000
namespace Gv.Tryd
open Go Gv Go.Proofs
theorem hDigitR (c : Int) (hc : 0 ≤ c ∧ c ≤ 255) : GPure Tryd.prog 13 [.int .u8 c] (.int .i64 (dig c)) := by
  refine h13.pure mixS (by simp) ?_
  simp only [gstart, s13, List.cons_append, List.nil_append, List.length_cons, List.length_nil, Nat.reduceAdd, Nat.reduceSub, List.replicate_succ, List.replicate_zero]
  by_cases h1 : 48 ≤ c ∧ c ≤ 57
  · have d1 : (48 ≤ c) = True := eq_true h1.1
    have d2 : (c ≤ 57) = True := eq_true h1.2
    have e : dig c = c - 48 := by unfold dig; rw [if_pos h1]
    simp +contextual -implicitDefEqProofs (maxSteps := 2000000) (disch := omega) only [binV, ↓convV, GVal.cells, grp, GVal.ofConst, ↓resV, resG, List.map, List.headD, List.take, List.drop, ↓reduceIte, Nat.reduceEqDiff, Nat.reduceAdd, Nat.reduceSub, Nat.reduceLeDiff, reduceCtorEq, implies_true, ne_eq, Tag.cap, List.replicate, allSolid, GVal.solid, Nat.reduceBEq, Nat.reduceMul, Nat.reduceLT, List.length_map, List.length_range, splice, vcA, ↓vcB, vcC, fbHxD, e13, d1, d2, norm_u8]
    rw [e]
  · by_cases h2 : 97 ≤ c ∧ c ≤ 102
    · have d1 : (97 ≤ c) = True := eq_true h2.1
      have d2 : (c ≤ 102) = True := eq_true h2.2
      have d3 : (48 ≤ c) = True := eq_true (by omega)
      have d4 : (c ≤ 57) = False := eq_false (by omega)
      have e : dig c = c - 97 + 10 := by unfold dig; rw [if_neg h1, if_pos h2]
      simp +contextual -implicitDefEqProofs (maxSteps := 2000000) (disch := omega) only [binV, ↓convV, GVal.cells, grp, GVal.ofConst, ↓resV, resG, List.map, List.headD, List.take, List.drop, ↓reduceIte, Nat.reduceEqDiff, Nat.reduceAdd, Nat.reduceSub, Nat.reduceLeDiff, reduceCtorEq, implies_true, ne_eq, Tag.cap, List.replicate, allSolid, GVal.solid, Nat.reduceBEq, Nat.reduceMul, Nat.reduceLT, List.length_map, List.length_range, splice, vcA, ↓vcB, vcC, fbHxD, e13, d1, d2, d3, d4, norm_u8]
      rw [e]
    · have e : dig c = -1 := by unfold dig; rw [if_neg h1, if_neg h2]
      simp +contextual -implicitDefEqProofs (maxSteps := 2000000) (disch := omega) only [binV, ↓convV, GVal.cells, grp, GVal.ofConst, ↓resV, resG, List.map, List.headD, List.take, List.drop, ↓reduceIte, Nat.reduceEqDiff, Nat.reduceAdd, Nat.reduceSub, Nat.reduceLeDiff, reduceCtorEq, implies_true, ne_eq, Tag.cap, List.replicate, allSolid, GVal.solid, Nat.reduceBEq, Nat.reduceMul, Nat.reduceLT, List.length_map, List.length_range, splice, vcA, ↓vcB, vcC, fbHxD, e13, norm_u8]
      rw [e]
      exact ⟨fun h => ⟨fun h' => by omega, fun h' => ⟨fun h3 => ⟨fun h4 => by omega, fun _ => rfl⟩, fun _ => rfl⟩⟩, fun h => ⟨fun h3 => ⟨fun h4 => by omega, fun _ => rfl⟩, fun _ => rfl⟩⟩
theorem hIsPrefixR (s : List UInt8) (hs : s.length ≤ 9223372036854775807) : GPure Tryd.prog 16 [.str s] (.bool (isPre s)) := by
  refine h16.pure mixS (by simp) ?_
  simp only [gstart, s16, List.cons_append, List.nil_append, List.length_cons, List.length_nil, Nat.reduceAdd, Nat.reduceSub, List.replicate_succ, List.replicate_zero]
  simp +contextual -implicitDefEqProofs (maxSteps := 2000000) (disch := omega) only [↓lenV, binV, ↓indexV, GVal.cells, grp, GVal.ofConst, ↓resV, resG, List.map, List.headD, List.take, List.drop, ↓reduceIte, Nat.reduceEqDiff, Nat.reduceAdd, Nat.reduceSub, Nat.reduceLeDiff, reduceCtorEq, implies_true, ne_eq, Tag.cap, List.replicate, allSolid, GVal.solid, Nat.reduceBEq, Nat.reduceMul, Nat.reduceLT, List.length_map, List.length_range, splice, vcA, ↓vcB, vcC, fbHxD, e16]
  refine vcSLoop_by (ι := { k : Nat // k ≤ s.length ∧ digits (s.drop k) = digits s }) (fun k => ⟨[.str s, .any, .any, .int .i64 (k.1 : Nat)] ++ List.replicate 19 .any, []⟩) (fun k => s.length - k.1) ?_ ?_
  · exact Into.first ⟨0, by omega, by simp⟩ ⟨[], by simp⟩ (by simp [WL, leG_self, leG_any, leG_int])
  · rintro ⟨k, hk, he⟩
    by_cases h : k < s.length
    · have d0 : ((k : Int) < (s.length : Int)) = True := eq_true (by omega)
      rw [drop_getD8 h] at he
      obtain ⟨c, ec⟩ : ∃ c, s.getD k 0 = c := ⟨_, rfl⟩
      rw [ec] at he
      simp +contextual -implicitDefEqProofs (maxSteps := 2000000) (disch := omega) only [↓lenV, binV, ↓indexV, GVal.cells, grp, GVal.ofConst, ↓resV, resG, List.map, List.headD, List.take, List.drop, ↓reduceIte, Nat.reduceEqDiff, Nat.reduceAdd, Nat.reduceSub, Nat.reduceLeDiff, reduceCtorEq, implies_true, ne_eq, Tag.cap, List.replicate, allSolid, GVal.solid, Nat.reduceBEq, Nat.reduceMul, Nat.reduceLT, List.length_map, List.length_range, splice, vcA, ↓vcB, vcC, fbHxD, e16, d0, ec]
      refine ⟨by omega, ?_⟩
      refine (hDigitR c.toNat (byte_le c)).then ?_ (by rfl)
      have he2 : (decide (0 ≤ dig c.toNat) && digits (s.drop (k + 1))) = digits s := he
      simp +contextual -implicitDefEqProofs (maxSteps := 2000000) (disch := omega) only [↓lenV, binV, ↓indexV, GVal.cells, grp, GVal.ofConst, ↓resV, resG, List.map, List.headD, List.take, List.drop, ↓reduceIte, Nat.reduceEqDiff, Nat.reduceAdd, Nat.reduceSub, Nat.reduceLeDiff, reduceCtorEq, implies_true, ne_eq, Tag.cap, List.replicate, allSolid, GVal.solid, Nat.reduceBEq, Nat.reduceMul, Nat.reduceLT, List.length_map, List.length_range, splice, vcA, ↓vcB, vcC, fbHxD, e16, d0, ec]
      refine ⟨fun h1 => ?_, fun h1 => ?_⟩
      · rw [isPre, ← he2, decide_eq_false (p := 0 ≤ dig ↑c.toNat) (by omega)]; rfl
      · rw [decide_eq_true h1, Bool.true_and] at he2
        exact Into.at ⟨k + 1, by omega, he2⟩ (by show _ < _; simp; omega) ⟨[], by simp⟩ (by simp [WL, leG_self, leG_any, leG_int])
    · have d0 : ((k : Int) < (s.length : Int)) = False := eq_false (by omega)
      rw [List.drop_of_length_le (by omega)] at he
      have he2 : digits s = true := he.symm
      simp +contextual -implicitDefEqProofs (maxSteps := 2000000) (disch := omega) only [↓lenV, binV, ↓indexV, GVal.cells, grp, GVal.ofConst, ↓resV, resG, List.map, List.headD, List.take, List.drop, ↓reduceIte, Nat.reduceEqDiff, Nat.reduceAdd, Nat.reduceSub, Nat.reduceLeDiff, reduceCtorEq, implies_true, ne_eq, Tag.cap, List.replicate, allSolid, GVal.solid, Nat.reduceBEq, Nat.reduceMul, Nat.reduceLT, List.length_map, List.length_range, splice, vcA, ↓vcB, vcC, fbHxD, e16, d0, false_imp_iff, true_and]
      rw [isPre, he2, Bool.true_and]
      refine ⟨fun h1 => ?_, fun h1 => ?_⟩
      · have hne : s ≠ [] := by rintro rfl; simp at h1
        rw [decide_eq_true hne, Bool.true_and]
        exact decide_eq_decide.2 (by omega)
      · have h0 : s = [] := List.length_eq_zero_iff.1 (by omega)
        rw [decide_eq_false (fun hh => hh h0)]; rfl
theorem hParseBad (s : List UInt8) (hs : s.length ≤ 9223372036854775807) (hp : s.length = 64 → isPre s = false) : GPure Tryd.prog 9 [.str s] (.tuple [.agg (List.replicate 32 (.int .u8 0)), .iface 32 (.int .i64 2)]) := by
  refine h9.pure mixS (by simp) ?_
  simp only [gstart, s9, List.cons_append, List.nil_append, List.length_cons, List.length_nil, Nat.reduceAdd, Nat.reduceSub, List.replicate_succ, List.replicate_zero]
  by_cases h : s.length = 64
  · have d0 : ((s.length : Int) = 64) = True := eq_true (by omega)
    simp +contextual -implicitDefEqProofs (maxSteps := 2000000) (disch := omega) only [drawC, ↓lenV, binV, ↓unV, ↓convV, ↓loadV, ↓storeV, ↓indexAddrV, ↓indexV, ↓allocV, ↓ifaceV, GVal.cells, grp, GVal.ofConst, ↓resV, resG, List.map, List.headD, List.take, List.drop, ↓reduceIte, Nat.reduceEqDiff, Nat.reduceAdd, Nat.reduceSub, Nat.reduceLeDiff, reduceCtorEq, implies_true, ne_eq, aggV, Tag.cap, List.replicate, allSolid, GVal.solid, Nat.reduceBEq, Nat.reduceMul, Nat.reduceLT, List.length_map, List.length_range, splice, vcA, ↓vcB, vcC, fbHxD, e9, d0]
    intro st st1
    refine ⟨fun hh => (hh trivial).elim, ?_⟩
    refine (hIsPrefix s hs).then ?_ (by rfl)
    rw [hp h]
    simp +contextual -implicitDefEqProofs (maxSteps := 2000000) (disch := omega) only [drawC, ↓lenV, binV, ↓unV, ↓convV, ↓loadV, ↓storeV, ↓indexAddrV, ↓indexV, ↓allocV, ↓ifaceV, GVal.cells, grp, GVal.ofConst, ↓resV, resG, List.map, List.headD, List.take, List.drop, ↓reduceIte, Nat.reduceEqDiff, Nat.reduceAdd, Nat.reduceSub, Nat.reduceLeDiff, reduceCtorEq, implies_true, ne_eq, aggV, Tag.cap, List.replicate, allSolid, GVal.solid, Nat.reduceBEq, Nat.reduceMul, Nat.reduceLT, List.length_map, List.length_range, splice, vcA, ↓vcB, vcC, fbHxD, e9, d0]
  · have d0 : ((s.length : Int) = 64) = False := eq_false (by omega)
    simp +contextual -implicitDefEqProofs (maxSteps := 2000000) (disch := omega) only [drawC, ↓lenV, binV, ↓unV, ↓convV, ↓loadV, ↓storeV, ↓indexAddrV, ↓indexV, ↓allocV, ↓ifaceV, GVal.cells, grp, GVal.ofConst, ↓resV, resG, List.map, List.headD, List.take, List.drop, ↓reduceIte, Nat.reduceEqDiff, Nat.reduceAdd, Nat.reduceSub, Nat.reduceLeDiff, reduceCtorEq, implies_true, ne_eq, aggV, Tag.cap, List.replicate, allSolid, GVal.solid, Nat.reduceBEq, Nat.reduceMul, Nat.reduceLT, List.length_map, List.length_range, splice, vcA, ↓vcB, vcC, fbHxD, e9, d0]
end Gv.Tryd
