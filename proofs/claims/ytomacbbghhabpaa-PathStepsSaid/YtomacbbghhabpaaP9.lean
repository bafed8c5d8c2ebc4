/- slices.SortFunc over rows of structs, as a contract over ghost values. -/
import Derived.Test.YtomacbbghhabpaaP5
import Derived.Shelf.SlSortCmp.WholeK
import Derived.Test.YtomacbbghhabpaaP8
import Derived.Deep.RegionWith
import Derived.Test.YtomacbbghhabpaaP6
import Derived.Shelf.SlMaps.Clone
import Derived.KernelRfl
set_option linter.defProp false
set_option linter.unusedSimpArgs false
set_option linter.unusedVariables false
set_option maxHeartbeats 4000000
set_option maxRecDepth 100000
namespace Gv
open Go Go.Proofs Go.Shelf Go.RowKit Go.Lib Go.Sort
section
variable {P : Program} {ρ : Ren}
theorem insertion_none (L : SlLaysF0.n20 P ρ) (p : Option Addr) (cap : Nat) (fv : Value) (w : World) :
 Calls P (ρ.f 20) #[.slice p 0 cap, .int .i64 0, .int .i64 0, fv] w fun e w' => e = .returned (.tuple #[]) ∧ w' = w := by
 have mixed := L.mixed; have t0 := L.t0; have a0 := L.a0; have z0 := L.z0; have v0 := L.v0; have t3 := L.t3; have a3 := L.a3; have z3 := L.z3; have v3 := L.v3; have t4 := L.t4; have a4 := L.a4; have z4 := L.z4; have v4 := L.v4; have t22 := L.t22; have a22 := L.a22; have z22 := L.z22; have v22 := L.v22; have t25 := L.t25; have a25 := L.a25; have z25 := L.z25; have v25 := L.v25
 obtain ⟨_, _, FG⟩ := L.f20
 go_enter FG, SlBodyF.n20_ntmps ρ
 go_wp2
 refine wp_loop_rounds 1 ?_
 rw [rounds_succ]
 go_wp2
 go_end0
 exact ⟨rfl, rfl⟩
theorem pdq_none (L : SlLaysF0.n14 P ρ) (p : Option Addr) (cap : Nat) (lim : Int) (fv : Value) (w : World) :
 Calls P (ρ.f 14) #[.slice p 0 cap, .int .i64 0, .int .i64 0, .int .i64 lim, fv] w fun e w' => e = .returned (.tuple #[]) ∧ w' = w := by
 have mixed := L.mixed; have t0 := L.t0; have a0 := L.a0; have z0 := L.z0; have v0 := L.v0; have t3 := L.t3; have a3 := L.a3; have z3 := L.z3; have v3 := L.v3; have t4 := L.t4; have a4 := L.a4; have z4 := L.z4; have v4 := L.v4; have t5 := L.t5; have a5 := L.a5; have z5 := L.z5; have v5 := L.v5; have t9 := L.t9; have a9 := L.a9; have z9 := L.z9; have v9 := L.v9; have t22 := L.t22; have a22 := L.a22; have z22 := L.z22; have v22 := L.v22; have t25 := L.t25; have a25 := L.a25; have z25 := L.z25; have v25 := L.v25; have t39 := L.t39; have a39 := L.a39; have z39 := L.z39; have v39 := L.v39; have t45 := L.t45; have a45 := L.a45; have z45 := L.z45; have v45 := L.v45; have t46 := L.t46; have a46 := L.a46; have z46 := L.z46; have v46 := L.v46; have t50 := L.t50; have a50 := L.a50; have z50 := L.z50; have v50 := L.v50; have t53 := L.t53; have a53 := L.a53; have z53 := L.z53; have v53 := L.v53; have t55 := L.t55; have a55 := L.a55; have z55 := L.z55; have v55 := L.v55; have t66 := L.t66; have a66 := L.a66; have z66 := L.z66; have v66 := L.v66; have t70 := L.t70; have a70 := L.a70; have z70 := L.z70; have v70 := L.v70; have t76 := L.t76; have a76 := L.a76; have z76 := L.z76; have v76 := L.v76; have t77 := L.t77; have a77 := L.a77; have z77 := L.z77; have v77 := L.v77
 have e20 : ∀ args w, (callFunc (ρ.f 20) args).run P w = .ok (.enter (ρ.f 20) args) w := L.f20.enters rfl
 have hi := fun W => insertion_none (P := P) (ρ := ρ) { L with } p cap fv W
 obtain ⟨_, _, FG⟩ := L.f14
 go_enter FG, SlBodyF.n14_ntmps ρ
 go_wp2
 refine wp_loop_rounds 1 ?_
 rw [rounds_succ]
 go_wp2_with (go_at_fn (ρ.f 20); refine (hi _).mono ?_; rintro e w' ⟨rfl, rfl⟩)
 (try simp only [Exit.inBlock, Exit.then]); refine bodyPost_ret (results_none rfl _ _ _) rfl ?_
 exact ⟨rfl, rfl⟩
theorem sort_none (L : SlLaysF0.n6 P ρ) (p : Option Addr) (cap : Nat) (fv : Value) (w : World) :
 Calls P (ρ.f 6) #[.slice p 0 cap, fv] w fun e w' => e = .returned (.tuple #[]) ∧ w' = w := by
 have mixed := L.mixed; have t0 := L.t0; have a0 := L.a0; have z0 := L.z0; have v0 := L.v0; have t3 := L.t3; have a3 := L.a3; have z3 := L.z3; have v3 := L.v3; have t4 := L.t4; have a4 := L.a4; have z4 := L.z4; have v4 := L.v4; have t5 := L.t5; have a5 := L.a5; have z5 := L.z5; have v5 := L.v5; have t9 := L.t9; have a9 := L.a9; have z9 := L.z9; have v9 := L.v9; have t22 := L.t22; have a22 := L.a22; have z22 := L.z22; have v22 := L.v22; have t25 := L.t25; have a25 := L.a25; have z25 := L.z25; have v25 := L.v25; have t39 := L.t39; have a39 := L.a39; have z39 := L.z39; have v39 := L.v39; have t45 := L.t45; have a45 := L.a45; have z45 := L.z45; have v45 := L.v45; have t46 := L.t46; have a46 := L.a46; have z46 := L.z46; have v46 := L.v46; have t50 := L.t50; have a50 := L.a50; have z50 := L.z50; have v50 := L.v50; have t53 := L.t53; have a53 := L.a53; have z53 := L.z53; have v53 := L.v53; have t55 := L.t55; have a55 := L.a55; have z55 := L.z55; have v55 := L.v55; have t66 := L.t66; have a66 := L.a66; have z66 := L.z66; have v66 := L.v66; have t70 := L.t70; have a70 := L.a70; have z70 := L.z70; have v70 := L.v70; have t76 := L.t76; have a76 := L.a76; have z76 := L.z76; have v76 := L.v76; have t77 := L.t77; have a77 := L.a77; have z77 := L.z77; have v77 := L.v77
 have e14 : ∀ args w, (callFunc (ρ.f 14) args).run P w = .ok (.enter (ρ.f 14) args) w := L.f14.enters rfl
 have e15 : ∀ args w, (callFunc (ρ.f 15) args).run P w = .ok (.enter (ρ.f 15) args) w := enters_of L.f15 (by kernel_rfl) rfl
 have hp := fun lim W => pdq_none (P := P) (ρ := ρ) { L with } p cap lim fv W
 have hl : ∀ W, Calls P (ρ.f 15) #[.int .u64 0] W fun e w' => e = .returned (.int .i64 (Lib.bitLen 0 : Nat)) ∧ w' = W := fun W => by
  have h := Any.bits_Len (SlLaysF0.n15.bits (P := P) (ρ := ρ) { L with }) 0 W (by omega) (by omega);exact h
 obtain ⟨_, _, FG⟩ := L.f6
 go_enter FG, SlBodyF.n6_ntmps ρ
 go_wp2_with (first | (go_at_fn (ρ.f 15); refine (hl _).mono ?_; rintro e w' ⟨rfl, rfl⟩) | (go_at_fn (ρ.f 14); refine (hp _ _).mono ?_; rintro e w' ⟨rfl, rfl⟩))
 go_end0
 exact ⟨rfl, rfl⟩
end
theorem flatMap_at {α : Type} (G : α → List GVal) (k : Nat) (hG : ∀ x, (G x).length = k) : ∀ (xs : List α) (t : Nat), (xs.map G).flatten[t]? = (xs[t / k]?).bind fun x => (G x)[t % k]?
 | [], t => by simp
 | x :: r, t => by
  rw [List.map_cons, List.flatten_cons];by_cases h : t < k
  · rw [List.getElem?_append_left (by rw [hG]; exact h), Nat.div_eq_of_lt h, Nat.mod_eq_of_lt h];rfl
  · rw [List.getElem?_append_right (by rw [hG]; omega), hG, flatMap_at G k hG r];by_cases hk : k = 0
    · subst hk;have : ∀ y, G y = [] := fun y => List.eq_nil_of_length_eq_zero (hG y)
      simp [this]
    · have e : t = (t - k) + k := by omega
      have e1 : t / k = (t - k) / k + 1 := by
       conv => lhs; rw [e]
       rw [Nat.add_div_right _ (by omega)]
      have e2 : t % k = (t - k) % k := by
       conv => lhs; rw [e]
       rw [Nat.add_mod_right]
      rw [e1, e2, List.getElem?_cons_succ]
section
variable {α : Type} [Inhabited α]
theorem sortWorld_at (enc : α → List Value) (k : Nat) (w : World) (blk off m : Nat) (dk : Array α) (os : Array Obj) {cur : Array Value} {el : TypeId} {fr : Nat × Nat} (hc : w.heap[blk]? = some (.cells cur el fr)) :
 (sortWorldK enc k w blk off m dk os).os = w.os ∧ (sortWorldK enc k w blk off m dk os).output = w.output ∧ w.heap.size ≤ (sortWorldK enc k w blk off m dk os).heap.size ∧
 (∀ b, b < w.heap.size → b ≠ blk → (sortWorldK enc k w blk off m dk os).heap[b]? = w.heap[b]?) ∧
 (sortWorldK enc k w blk off m dk os).heap[blk]? = some (.cells (putCells id off (flatK enc k dk) cur) el fr) := by
 have e : (sortWorldK enc k w blk off m dk os).heap = (w.heap.modify blk (onCells (putCells id off (flatK enc k dk)))) ++ os := rfl
 have hlt := (Array.getElem?_eq_some_iff.1 hc).1
 refine ⟨rfl, rfl, by rw [e]; simp, fun b hb hn => ?_, ?_⟩
 · rw [e, Array.getElem?_append, if_pos (by simpa using hb), Array.getElem?_modify, if_neg (fun h => hn h.symm)]
 · rw [e, Array.getElem?_append, if_pos (by simpa using hlt), Array.getElem?_modify, if_pos rfl, hc]; rfl
theorem putCells_at (off : Nat) (d : Array Value) (c : Array Value) (j : Nat) (hj : j < d.size) (hc : off + j < c.size) : (putCells id off d c)[off + j]? = some d[j]! := by
 simp only [putCells, Array.getElem?_mapIdx, Array.getElem?_eq_getElem hc, Option.map_some]
 rw [if_pos ⟨by omega, by omega⟩, show off + j - off = j by omega]; rfl
theorem putCells_size (off : Nat) (d : Array Value) (c : Array Value) : (putCells id off d c).size = c.size := by simp [putCells]
theorem getBang_of {β : Type} [Inhabited β] {l : List β} {i : Nat} {x : β} (h : l[i]? = some x) : l[i]! = x := by simp [h]
end
theorem set_same {β : Type} {l : List β} {i : Nat} {x : β} (h : l[i]? = some x) : l.set i x = l := by
 apply List.ext_getElem?
 intro j
 rw [List.getElem?_set]
 by_cases e : i = j
 · subst e; rw [if_pos rfl, h, if_pos (List.getElem?_eq_some_iff.1 h).1]
 · rw [if_neg e]
theorem gcalls_sort {P : Program} {ρ : Ren} {α : Type} [Inhabited α] (L : SlLaysF0.n6 P ρ) (k : Nat) (aE : ∀ w, (isAgg (ρ.t 24)).run P w = .ok true w) (zE : ∀ w, (Go.sizeOf (ρ.t 24)).run P w = .ok k w)
 (enc : α → List Value) (G : α → List GVal) (hk : ∀ x, (enc x).length = k) (h1 : ∀ x, ∀ v ∈ enc x, v.oneCell' = true) (hG : ∀ x, (G x).length = k)
 (hdet : ∀ E x (j : Nat) g v, (G x)[j]? = some g → VR E v g → (enc x)[j]? = some v) (hback : ∀ E x (j : Nat) g, (G x)[j]? = some g → ∃ v, (enc x)[j]? = some v ∧ VR E v g)
 (cf : α → α → Int) (hO : SWO (ltOf cf)) (c : FuncId) (eg : ∀ args w, (callFunc c args).run P w = .ok (.enter c args) w)
 (hcmp : ∀ x y W, Calls P c #[.agg (enc x).toArray, .agg (enc y).toArray] W fun e w' => e = .returned (.int .i64 (cf x y)) ∧ ∃ q os', w' = grow (W.drewN q) os')
 (hen : enterable P (ρ.f 6) = true) (xs : List α) (hsz : xs.length < 4611686018427387904) {O : List GObj} {o st : Nat} (hOo : O[o]? = some (.row st k (xs.map G))) (hc : clockOf O = none) :
 GCalls P (ρ.f 6) [.own o st 0 xs.length, .func (.func c) [] []] O (fun r O' => r = .tuple [] ∧ ∃ ys : List α, ys.Perm xs ∧ ys.Pairwise (fun a b => ¬ cf b a < 0) ∧ O' = O.set o (.row st k (ys.map G))) := by
 refine ⟨hen, fun E w vs hs ha => ?_⟩
 obtain ⟨hvs, hva⟩ := ha
 have h2 : vs.size = 2 := hvs
 have hv0 := hva 0 _ rfl
 have hv1 := hva 1 _ rfl
 obtain ⟨v0, v1, rfl⟩ : ∃ a b, vs = #[a, b] := by
  refine ⟨vs[0], vs[1], Array.ext (by simp [h2]) fun i a b => ?_⟩;have : i = 0 ∨ i = 1 := by omega
  rcases this with rfl | rfl <;> rfl
 have e0 : (#[v0, v1] : Array Value).getD 0 undef = v0 := rfl
 have e1 : (#[v0, v1] : Array Value).getD 1 undef = v1 := rfl
 rw [e0] at hv0; rw [e1] at hv1
 clear hva hvs h2 e0 e1
 cases hv1 with
 | func _ fs cs _ _ hf hkk hfs hcs =>
  have ef : fs = #[] := Array.eq_empty_of_size_eq_zero hf;have ec : cs = #[] := Array.eq_empty_of_size_eq_zero hkk;subst ef; subst ec;have hreal := hs.real _ _ hOo;cases hv0 with
  | own a _ cap _ _ _ l hl hcap hadr =>
   obtain ⟨l', hl', hsz', hrow, hm⟩ := hreal;rw [hl] at hl'; cases hl';by_cases hx : xs = []
   · subst hx;refine (sort_none L a cap _ w).mono ?_;rintro e w' ⟨rfl, rfl⟩;exact ⟨_, E, O, .tuple [], rfl, hs, .refl _ _ _, .tuple _ _ rfl (fun j g h => by simp at h), rfl, [], .refl _, .nil, (set_same hOo).symm⟩
   · have hpos : 0 < xs.length := List.length_pos_iff.2 hx;rcases hadr with h0 | ⟨b, hb, rfl, htot⟩
     · omega
     rw [hb] at hm;obtain ⟨cur, el, hw, hcs', hle, hrows, hsn⟩ := hm;have hmul : (0 : Nat) * l.size = 0 := Nat.zero_mul _;rw [hmul, Nat.add_zero];have hle' : l.off + xs.length * k ≤ cur.size := by rw [hcs']; simpa using hle
     have hlt := (Array.getElem?_eq_some_iff.1 hw).1;have hcell : ∀ t, t < xs.length * k → ∃ v, cur[l.off + t]? = some v ∧ (flatK enc k xs.toArray)[t]! = v := fun t ht => by
      have hk0 : 0 < k := Nat.pos_of_ne_zero fun e => by subst e; simp at ht
      have hd : t / k < xs.length := Nat.div_lt_of_lt_mul (by rw [Nat.mul_comm]; exact ht);have hmd : t % k < k := Nat.mod_lt _ hk0;have hx? : xs[t / k]? = some xs[t / k] := List.getElem?_eq_getElem hd;have hg : (G xs[t / k])[t % k]? = some ((G xs[t / k])[t % k]'(by rw [hG]; exact hmd)) := List.getElem?_eq_getElem _;obtain ⟨v, q1, _, q3⟩ := hrows t _ (by rw [flatMap_at G k hG, hx?]; exact hg);refine ⟨v, q1, ?_⟩;rw [get_flatK _ _ _ _ (by simpa using ht)];have := hdet E _ _ _ _ hg q3;have e1 : xs.toArray[t / k]! = xs[t / k] := by
       rw [getElem!_pos _ _ (by simpa using hd)]; rfl
      rw [e1]; exact getBang_of this
     have hH : HoldsK enc k w b l.off xs.toArray := fun t ht => by
      have ht' : t < xs.length * k := by simpa using ht
      obtain ⟨v, q1, q2⟩ := hcell t ht';refine ⟨?_, ?_⟩
      · show w.cell? _ = some (flatK enc k xs.toArray)[t]!;rw [q2]; simp [World.cell?, hw, q1]
      · simp [World.frozen?, hw]
     have hcmp' : CmpLays P c #[] enc k cf b l.off xs.toArray.size w := fun m os dk _ x y => hcmp x y _
     refine (AnyQ.slices_SortFunc L k aE zE enc hk h1 cf hO c #[] b l.off cap xs.toArray w eg hcmp' hH hlt (by simpa using hsz)).mono ?_;rintro e w' ⟨rfl, d', n, os, ⟨p1, p2, p3⟩, hsort, rfl⟩;have hlen : d'.size = xs.length := by simpa using p1
     have hperm : d'.toList.Perm xs := by
      have q1 : d'.extract 0 xs.toArray.size = d' := by rw [← p1]; simp
      have q2 : xs.toArray.extract 0 xs.toArray.size = xs.toArray := by simp
      rw [q1, q2] at p3; exact p3
     have hpw : d'.toList.Pairwise (fun a b => ¬ cf b a < 0) := by
      rw [List.pairwise_iff_getElem];intro i j hi hj hij;have := hsort i j (Nat.zero_le _) hij (by simp at hj; rw [← p1]; exact hj);rw [getElem!_pos d' j (by simpa using hj), getElem!_pos d' i (by simpa using hi)] at this
      simpa [ltOf] using this
     obtain ⟨s1, s2, s3, s4, s5⟩ := sortWorld_at enc k w b l.off n d' os hw;have hup := hs.upd (E' := E) (w' := sortWorldK enc k w b l.off n d' os) (obj' := .row st k (d'.toList.map G)) (b := b) (t := b) hOo (.inl (by simp [GObj.blk, hl, hb])) (.inl rfl) (.refl E) hs.fin ⟨rfl, rfl⟩ s1 ⟨s2, trivial⟩ s3 s4 (fun _ _ _ _ hv => hv)
      (fun o v hv => by rw [hsn o] at hv; cases hv)
      (by
       refine ⟨l, hl, hsz', fun y hy => ?_, ?_⟩
       · obtain ⟨z, _, rfl⟩ := List.mem_map.1 hy; exact hG z
       rw [hb];refine ⟨_, el, s5, by rw [putCells_size]; exact hcs', by simp [hlen]; rw [← hcs']; exact hle', fun j g hj => ?_, hsn⟩;rw [flatMap_at G k hG] at hj;cases hq : d'.toList[j / k]? with
       | none => rw [hq] at hj; cases hj
       | some x =>
        rw [hq] at hj;have hj' : (G x)[j % k]? = some g := hj;obtain ⟨v, q1, q2⟩ := hback E x _ g hj';have hi : j / k < d'.size := by simpa using (List.getElem?_eq_some_iff.1 hq).1
        have hk0 : 0 < k := Nat.pos_of_ne_zero fun e => by
         have := (List.getElem?_eq_some_iff.1 hj').1; rw [hG, e] at this; omega
        have hjk : j < d'.size * k := (Nat.div_lt_iff_lt_mul hk0).1 hi;have e3 : d'[j / k]! = x := by
         rw [getElem!_pos d' (j / k) hi];have := (List.getElem?_eq_some_iff.1 hq).2
         simpa using this
        refine ⟨v, ?_, h1 x v (List.mem_of_getElem? q1), q2⟩;rw [putCells_at l.off _ _ j (by simpa using hjk) (by rw [hlen] at hjk; omega), get_flatK _ _ _ _ hjk, e3, getBang_of q1])
      (fun kk hkk => by simp [GObj.blk, hl, hb] at hkk; exact hkk.symm)
     exact ⟨_, E, _, .tuple [], rfl, hup.1, hup.2, .tuple _ _ rfl (fun j g h => by simp at h), rfl, d'.toList, hperm, hpw, rfl⟩
end Gv
namespace Gv.Try
open Go Gv Go.Proofs Go.Shelf Go.RowKit Go.Lib Go.Sort
theorem lies_heap {w : World} {b : Nat} {X : Array Value} {t : TypeId} {fz : Nat × Nat} {x : List UInt8} (h : w.heap[b]? = some (.cells X t fz)) (hc : ∀ (j : Nat) z, x[j]? = some z → X[j]? = some (.int .u8 z.toNat)) : lies w (some ⟨b, 0, none⟩) x := fun _ =>
 ⟨_, rfl, fun j z hj => by
  have h1 := hc j z hj;by_cases h0 : j = 0
  · subst h0; simpa [World.cell?, h, Addr.add] using h1
  · simpa [World.cell?, h, Addr.add, h0] using h1⟩
abbrev Hs := { l : List UInt8 // l.length = 32 }
theorem sortClosure (x y : Hs) (W : World) : Calls Try.prog 73 #[.agg (bytesV x.1).toArray, .agg (bytesV y.1).toArray] W fun e w' => e = .returned (.int .i64 (cmpL x.1 y.1)) ∧ ∃ q os', w' = grow (W.drewN q) os' := by
 have hx : (bytesV x.1).toArray.size = 32 := by simp [bytesV, x.2]
 have hy : (bytesV y.1).toArray.size = 32 := by simp [bytesV, y.2]
 have cx : ∀ (j : Nat) z, x.1[j]? = some z → (bytesV x.1).toArray[j]? = some (.int .u8 z.toNat) := fun j z h => by simp [bytesV, h]
 have cy : ∀ (j : Nat) z, y.1[j]? = some z → (bytesV y.1).toArray[j]? = some (.int .u8 z.toNat) := fun j z h => by simp [bytesV, h]
 have lx : x.1.length = 32 := x.2
 have ly : y.1.length = 32 := y.2
 have hcmp : ∀ w a b, lies w a x.1 → lies w b y.1 → Calls Try.prog 74 #[.slice a 32 32, .slice b 32 32] w fun e w' => e = .returned (.int .i64 (cmpL x.1 y.1)) ∧ w' = w := fun w a b h1 h2 => by
  have := calls21 w a b x.1 y.1 32 32 h1 h2
  rwa [lx, ly] at this
 generalize cmpL x.1 y.1 = r at *
 generalize (bytesV x.1).toArray = X at *
 generalize (bytesV y.1).toArray = Y at *
 have hA : ((W.alloc (Obj.cells X 46)).alloc (Obj.cells Y 46)).drew.heap[W.heap.size]? = some (.cells X 46) := by
  show ((W.alloc (Obj.cells X 46)).alloc (Obj.cells Y 46)).heap[W.heap.size]? = _;rw [Gv.alloc_old _ _ _ (by simp), Gv.alloc_new]
 have hB : ((W.alloc (Obj.cells X 46)).alloc (Obj.cells Y 46)).drew.heap[W.heap.size + 1]? = some (.cells Y 46) := by
  have e : W.heap.size + 1 = (W.alloc (Obj.cells X 46)).heap.size := by simp
  rw [e];exact Gv.alloc_new _ _
 have hc := hcmp _ _ _ (lies_heap hA cx) (lies_heap hB cy)
 go_enter Try.func73, Try.ntmps73
 go_wp2
 go_region_with (go_at_call 74; refine hc.mono ?_; rintro e w' ⟨rfl, rfl⟩)
 go_wp2
 go_ret
 exact ⟨rfl, 1, _, by rw [alloc_eq_grow, alloc_eq_grow, grow_grow]; rfl⟩
end Gv.Try
namespace Go.Proofs
open Go.Shelf
def Try.sortSp_ren : Go.Shelf.Ren := ⟨fun | 6 => 72 | 15 => 77 | 14 => 76 | 28 => 87 | 29 => 88 | 20 => 79 | 21 => 80 | 22 => 81 | 23 => 82 | 24 => 83 | 25 => 84 | 26 => 85 | 27 => 86 | 46 => 89 | 47 => 90 | 48 => 91 | 49 => 92 | 50 => 93 | 57 => 94 | n => n, fun | 22 => 27 | 24 => 46 | 25 => 154 | 3 => 3 | 39 => 133 | 0 => 0 | 53 => 165 | 55 => 167 | 4 => 4 | 46 => 159 | 45 => 158 | 50 => 80 | 5 => 5 | 9 => 9 | 66 => 168 | 70 => 172 | 76 => 174 | 77 => 175 | n => n, fun | n => n⟩
theorem Try.sortSp : Go.Proofs.SlLaysF0.n6 Try.prog Try.sortSp_ren := {
 mixed := by kernel_rfl
 f6 := ⟨Try.f72.name, by decide, Try.func72.trans (congrArg some (by kernel_rfl))⟩
 f14 := ⟨Try.f76.name, by decide, Try.func76.trans (congrArg some (by kernel_rfl))⟩
 f15 := Try.func77.trans (congrArg some (by kernel_rfl))
 f20 := ⟨Try.f79.name, by decide, Try.func79.trans (congrArg some (by kernel_rfl))⟩
 f21 := ⟨Try.f80.name, by decide, Try.func80.trans (congrArg some (by kernel_rfl))⟩
 f22 := ⟨Try.f81.name, by decide, Try.func81.trans (congrArg some (by kernel_rfl))⟩
 f23 := ⟨Try.f82.name, by decide, Try.func82.trans (congrArg some (by kernel_rfl))⟩
 f24 := ⟨Try.f83.name, by decide, Try.func83.trans (congrArg some (by kernel_rfl))⟩
 f25 := ⟨Try.f84.name, by decide, Try.func84.trans (congrArg some (by kernel_rfl))⟩
 f26 := ⟨Try.f85.name, by decide, Try.func85.trans (congrArg some (by kernel_rfl))⟩
 f27 := ⟨Try.f86.name, by decide, Try.func86.trans (congrArg some (by kernel_rfl))⟩
 f28 := Try.func87.trans (congrArg some (by kernel_rfl))
 f29 := Try.func88.trans (congrArg some (by kernel_rfl))
 f46 := ⟨Try.f89.name, by decide, Try.func89.trans (congrArg some (by kernel_rfl))⟩
 f47 := Try.func90.trans (congrArg some (by kernel_rfl))
 f48 := Try.func91.trans (congrArg some (by kernel_rfl))
 f49 := ⟨Try.f92.name, by decide, Try.func92.trans (congrArg some (by kernel_rfl))⟩
 f50 := ⟨Try.f93.name, by decide, Try.func93.trans (congrArg some (by kernel_rfl))⟩
 f57 := ⟨Try.f94.name, by decide, Try.func94.trans (congrArg some (by kernel_rfl))⟩
 t0 := Try.underlying0
 a0 := Try.isAgg0
 z0 := Try.sizeOf0
 v0 := Try.zeroValue0
 t3 := Try.underlying3
 a3 := Try.isAgg3
 z3 := Try.sizeOf3
 v3 := Try.zeroValue3
 t4 := Try.underlying4
 a4 := Try.isAgg4
 z4 := Try.sizeOf4
 v4 := Try.zeroValue4
 t5 := Try.underlying5
 a5 := Try.isAgg5
 z5 := Try.sizeOf5
 v5 := Try.zeroValue5
 t9 := Try.underlying9
 a9 := Try.isAgg9
 z9 := Try.sizeOf9
 v9 := Try.zeroValue9
 t22 := Try.underlying27
 a22 := Try.isAgg27
 z22 := Try.sizeOf27
 v22 := Try.zeroValue27
 t25 := Try.underlying154
 a25 := Try.isAgg154
 z25 := Try.sizeOf154
 v25 := Try.zeroValue154
 t39 := Try.underlying133
 a39 := Try.isAgg133
 z39 := Try.sizeOf133
 v39 := Try.zeroValue133
 t45 := Try.underlying158
 a45 := Try.isAgg158
 z45 := Try.sizeOf158
 v45 := Try.zeroValue158
 t46 := Try.underlying159
 a46 := Try.isAgg159
 z46 := Try.sizeOf159
 v46 := Try.zeroValue159
 t50 := Try.underlying80
 a50 := Try.isAgg80
 z50 := Try.sizeOf80
 v50 := Try.zeroValue80
 t53 := Try.underlying165
 a53 := Try.isAgg165
 z53 := Try.sizeOf165
 v53 := Try.zeroValue165
 t55 := Try.underlying167
 a55 := Try.isAgg167
 z55 := Try.sizeOf167
 v55 := Try.zeroValue167
 t66 := Try.underlying168
 a66 := Try.isAgg168
 z66 := Try.sizeOf168
 v66 := Try.zeroValue168
 t70 := Try.underlying172
 a70 := Try.isAgg172
 z70 := Try.sizeOf172
 v70 := Try.zeroValue172
 t76 := Try.underlying174
 a76 := Try.isAgg174
 z76 := Try.sizeOf174
 v76 := Try.zeroValue174
 t77 := Try.underlying175
 a77 := Try.isAgg175
 z77 := Try.sizeOf175
 v77 := Try.zeroValue175 }
end Go.Proofs
namespace Gv.Try
open Go Gv Go.Proofs Go.Shelf Go.RowKit Go.Lib Go.Sort
instance : Inhabited Hs := ⟨⟨List.replicate 32 0, by simp⟩⟩
def ltB : List UInt8 → List UInt8 → Bool
 | [], _ => false
 | _, [] => false
 | x :: a, y :: b => if x = y then ltB a b else decide (x < y)
theorem ba_get (x : UInt8) (a : List UInt8) (i : Nat) : (⟨(x :: a).toArray⟩ : ByteArray)[i + 1]! = (⟨a.toArray⟩ : ByteArray)[i]! := by
 by_cases h : i < a.length
 · rw [getElem!_pos _ _ (by show i + 1 < (x :: a).toArray.size; simp; exact h), getElem!_pos _ _ (by show i < a.toArray.size; simpa using h)];exact List.getElem_cons_succ x a i (by simp; exact h)
 · rw [getElem!_neg _ _ (by show ¬ i + 1 < (x :: a).toArray.size; simp; omega), getElem!_neg _ _ (by show ¬ i < a.toArray.size; simpa using h)]
theorem ba_zero (x : UInt8) (a : List UInt8) : (⟨(x :: a).toArray⟩ : ByteArray)[0]! = x := by
 rw [getElem!_pos _ _ (by show 0 < (x :: a).toArray.size; simp)]; rfl
theorem cmpL_cons (x y : UInt8) (a b : List UInt8) : cmpL (x :: a) (y :: b) = if x = y then cmpL a b else if x < y then -1 else 1 := by
 unfold cmpL Extern.BytealgCompare.cmp
 have hs : ∀ l : List UInt8, (⟨l.toArray⟩ : ByteArray).size = l.length := fun l => by simp [ByteArray.size]
 simp only [hs, List.length_cons]
 have e : min (a.length + 1) (b.length + 1) = min a.length b.length + 1 := by omega
 rw [e, List.range_succ_eq_map, List.find?_cons, ba_zero, ba_zero]
 by_cases h : x = y
 · subst h;simp only [bne_self_eq_false, if_true];rw [List.find?_map];have e2 : ((fun i => (⟨(x :: a).toArray⟩ : ByteArray)[i]! != (⟨(x :: b).toArray⟩ : ByteArray)[i]!) ∘ Nat.succ) = fun i => (⟨a.toArray⟩ : ByteArray)[i]! != (⟨b.toArray⟩ : ByteArray)[i]! := by
    funext i
    simp only [Function.comp, Nat.succ_eq_add_one, ba_get]
   rw [e2];cases hq : (List.range (min a.length b.length)).find? fun i => (⟨a.toArray⟩ : ByteArray)[i]! != (⟨b.toArray⟩ : ByteArray)[i]! with
   | none => simp
   | some i => simp only [Option.map_some, Nat.succ_eq_add_one, ba_get]
 · have : (x != y) = true := by simpa using h
   rw [this, if_neg h];simp only [ba_zero]
theorem cmpL_ltB : ∀ (a b : List UInt8), a.length = b.length → (decide (cmpL a b < 0) = ltB a b)
 | [], [], _ => by decide
 | x :: a, [], h => by simp at h
 | [], y :: b, h => by simp at h
 | x :: a, y :: b, h => by
  rw [cmpL_cons];unfold ltB;by_cases e : x = y
  · rw [if_pos e, if_pos e]; exact cmpL_ltB a b (by simpa using h)
  · rw [if_neg e, if_neg e];by_cases e2 : x < y
    · rw [if_pos e2, decide_eq_true e2]; rfl
    · rw [if_neg e2, decide_eq_false e2]; rfl
theorem ltB_irrefl : ∀ a, ltB a a = false
 | [] => rfl
 | x :: a => by simp [ltB, ltB_irrefl a]
theorem ltB_trans : ∀ {a b c : List UInt8}, a.length = b.length → b.length = c.length → ltB a b = true → ltB b c = true → ltB a c = true
 | [], b, c, _, _, h, _ => by simp [ltB] at h
 | x :: a, [], c, _, _, h, _ => by simp [ltB] at h
 | x :: a, y :: b, [], _, _, _, h => by simp [ltB] at h
 | x :: a, y :: b, z :: c, l1, l2, h1, h2 => by
  simp at l1 l2;unfold ltB at *;by_cases e1 : x = y
  · subst e1;rw [if_pos rfl] at h1;by_cases e2 : x = z
    · subst e2;rw [if_pos rfl] at h2 ⊢;exact ltB_trans l1 l2 h1 h2
    · rw [if_neg e2] at h2 ⊢; exact h2
  · rw [if_neg e1] at h1;by_cases e2 : y = z
    · subst e2;rw [if_neg e1]; exact h1
    · rw [if_neg e2] at h2;have h3 : x < y := of_decide_eq_true h1;have h4 : y < z := of_decide_eq_true h2;have h5 : x < z := UInt8.lt_trans h3 h4;rw [if_neg (UInt8.ne_of_lt h5)]; exact decide_eq_true h5
theorem ltB_total : ∀ {a b : List UInt8}, a.length = b.length → ltB a b = false → ltB b a = false → a = b
 | [], [], _, _, _ => rfl
 | x :: a, [], l, _, _ => by simp at l
 | [], y :: b, l, _, _ => by simp at l
 | x :: a, y :: b, l, h1, h2 => by
  simp at l;unfold ltB at h1 h2;by_cases e : x = y
  · subst e;rw [if_pos rfl] at h1 h2;rw [ltB_total l h1 h2]
  · rw [if_neg e] at h1;rw [if_neg (fun h => e h.symm)] at h2;have h3 := of_decide_eq_false h1;have h4 := of_decide_eq_false h2;exact absurd (UInt8.le_antisymm (UInt8.not_lt.1 h4) (UInt8.not_lt.1 h3)) e
def cfH (x y : Hs) : Int := cmpL x.1 y.1
theorem ltH (x y : Hs) : ltOf cfH x y = ltB x.1 y.1 := by
 have := cmpL_ltB x.1 y.1 (by rw [x.2, y.2])
 unfold ltOf cfH; exact this
theorem swoH : SWO (ltOf cfH) where
 irrefl x := by rw [ltH]; exact ltB_irrefl _
 trans x y z h1 h2 := by rw [ltH] at *; exact ltB_trans (by rw [x.2, y.2]) (by rw [y.2, z.2]) h1 h2
 ntrans x y z h1 h2 := by
  rw [ltH] at *;cases hxz : ltB x.1 z.1 with
  | false => rfl
  | true =>
   cases hyx : ltB y.1 x.1 with
   | false =>
    have e := ltB_total (by rw [x.2, y.2]) h1 hyx;rw [e] at hxz;exact (hxz.symm.trans h2)
   | true => exact (ltB_trans (by rw [y.2, x.2]) (by rw [x.2, z.2]) hyx hxz).symm.trans h2
def hsG (l : List Hs) : List (List GVal) := l.map fun x => bytesG x.1
theorem sSort (xs : List Hs) (hsz : xs.length < 4611686018427387904) {O : List GObj} {o st : Nat} (hO : O[o]? = some (.row st 32 (hsG xs))) (hc : clockOf O = none) :
 GCalls Try.prog 72 [.own o st 0 xs.length, .func (.func 73) [] []] O (fun r O' => r = .tuple [] ∧ ∃ ys : List Hs, ys.Perm xs ∧ ys.Pairwise (fun a b => ltB b.1 a.1 = false) ∧ O' = O.set o (.row st 32 (hsG ys))) := by
 have h := gcalls_sort (α := Hs) Try.sortSp 32 Try.isAgg46 Try.sizeOf46 (fun x => bytesV x.1) (fun x => bytesG x.1) (fun x => by simp [bytesV, x.2])
  (fun x v hv => by simp only [bytesV, List.mem_map] at hv; obtain ⟨c, _, rfl⟩ := hv; rfl) (fun x => by simp [bytesG, x.2])
  (fun E x j g v hg hv => by
   simp only [bytesG, List.getElem?_map] at hg;simp only [bytesV, List.getElem?_map];cases hq : x.1[j]? with
   | none => rw [hq] at hg; cases hg
   | some c => rw [hq] at hg; simp at hg; subst hg; cases hv; rfl)
  (fun E x j g hg => by
   simp only [bytesG, List.getElem?_map] at hg;simp only [bytesV, List.getElem?_map];cases hq : x.1[j]? with
   | none => rw [hq] at hg; cases hg
   | some c => rw [hq] at hg; simp at hg; subst hg; exact ⟨_, rfl, .int _ _⟩)
  cfH swoH 73 (enters_of Try.func73 (by kernel_rfl) rfl) (fun x y W => sortClosure x y W) (by kernel_rfl) xs hsz hO hc
 refine h.mono ?_
 rintro g O' ⟨rfl, ys, h1, h2, rfl⟩
 refine ⟨rfl, ys, h1, h2.imp fun {a b} hab => ?_, rfl⟩
 have := ltH b a
 unfold ltOf at this
 rw [← this]; exact decide_eq_false hab
open Go Gv Go.Proofs
theorem sol_bytes : ∀ l : List UInt8, allSolid (bytesG l) = True
 | [] => eq_true trivial
 | c :: r => by have := sol_bytes r; simp only [bytesG, List.map_cons, allSolid, GVal.solid, true_and]; exact this
theorem sPick (n m : Int) (hm : 0 < m) (hm2 : m ≤ 1000000000) : GPure Try.prog 24 [.int .i64 n, .int .i64 m] (.int .i64 (n % m)) := by
 refine h24.pa ?_
 refine vq0 ?_
 obtain ⟨h1, h2⟩ := tmod_pick n m hm
 have h3 := Int.emod_nonneg n (by omega : m ≠ 0)
 have h4 := Int.emod_lt_of_pos n hm
 exact ⟨by omega, fun h => by rw [h1 h, norm_i64 (by omega)], h2⟩
theorem cells_eq : ∀ (a b : List UInt8) (n : Nat), a.length = n → b.length = n → cellsEq (List.replicate n Sk.int) (bytesG a) (bytesG b) = some (decide (a = b))
 | [], [], n, h, _ => by subst h; rfl
 | x :: a, [], n, h1, h2 => by simp at h1 h2; omega
 | [], y :: b, n, h1, h2 => by simp at h1 h2; omega
 | x :: a, y :: b, 0, h1, h2 => by simp at h1
 | x :: a, y :: b, n + 1, h1, h2 => by
  have ih := cells_eq a b n (by simpa using h1) (by simpa using h2);simp only [bytesG] at ih;simp only [List.replicate_succ, bytesG, List.map_cons, cellsEq, ceq, if_true, ih]
  congr 1
  have e : (x.toNat : Int) = y.toNat ↔ x = y := ⟨fun h => UInt8.toNat_inj.1 (by omega), fun h => by rw [h]⟩
  rw [Bool.eq_iff_iff];simp [e]
theorem cells32 (a b : List UInt8) (ha : a.length = 32) (hb : b.length = 32) : cellsEq [Sk.int, Sk.int, Sk.int, Sk.int, Sk.int, Sk.int, Sk.int, Sk.int, Sk.int, Sk.int, Sk.int, Sk.int, Sk.int, Sk.int, Sk.int, Sk.int, Sk.int, Sk.int, Sk.int, Sk.int, Sk.int, Sk.int, Sk.int, Sk.int, Sk.int, Sk.int, Sk.int, Sk.int, Sk.int, Sk.int, Sk.int, Sk.int] (bytesG a) (bytesG b) = some (decide (a = b)) := cells_eq a b 32 ha hb
open Nat (reduceEqDiff reduceAdd reduceSub reduceLeDiff reduceMul reduceLT)
def h0 : Hs := ⟨List.replicate 32 0, by simp⟩
theorem hsG_len (l : List Hs) : (hsG l).length = l.length := by simp [hsG]
theorem hsG_at (l : List Hs) (i : Nat) (h : i < l.length) : (hsG l).getD i [] = bytesG (l.getD i h0).1 := by simp [hsG, List.getD, h]
theorem all_hsG (l : List Hs) : (∀ x ∈ hsG l, x.length = 32) = True := eq_true fun x hx => by obtain ⟨s, _, rfl⟩ := List.mem_map.1 hx; rw [bytesG_len, s.2]
theorem hsG_app (a b : List Hs) : hsG (a ++ b) = hsG a ++ hsG b := by simp [hsG]
theorem drop_bytes (l : List UInt8) (n : Nat) : (bytesG l).drop n = bytesG (l.drop n) := by simp [bytesG, List.map_drop]
theorem ltB_drop : ∀ (a b : List UInt8) (k : Nat), a.length = b.length → k < a.length → ltB (a.drop k) (b.drop k) = if (a.getD k 0) = (b.getD k 0) then ltB (a.drop (k + 1)) (b.drop (k + 1)) else decide (a.getD k 0 < b.getD k 0) := by
 intro a b k h hk
 have ea : a.drop k = a.getD k 0 :: a.drop (k + 1) := by rw [List.drop_eq_getElem_cons hk]; simp [List.getD, hk]
 have eb : b.drop k = b.getD k 0 :: b.drop (k + 1) := by rw [List.drop_eq_getElem_cons (by omega)]; simp [List.getD, (by omega : k < b.length)]
 rw [ea, eb]
 simp only [ltB]
theorem drop_cons0 {l : List UInt8} {k : Nat} (h : k < l.length) : l.drop k = l.getD k 0 :: l.drop (k + 1) := by
 rw [List.drop_eq_getElem_cons h]; simp [List.getD, h]
theorem hLessR (a b : List UInt8) (ha : a.length = 32) (hb : b.length = 32) : GPure Try.prog 60 [.agg (bytesG a), .agg (bytesG b)] (.bool (ltB a b)) := by
 refine h60.pa ?_
 have la := bytesG_len a
 have lb := bytesG_len b
 have ta : List.take 32 (bytesG a) = bytesG a := List.take_of_length_le (by omega)
 have tb : List.take 32 (bytesG b) = bytesG b := List.take_of_length_le (by omega)
 refine vq3 ta tb @sol_bytes ?_
 refine vcSLoop_by (ι := { k : Nat // k ≤ 32 ∧ ltB (a.drop k) (b.drop k) = ltB a b }) (fun k => ⟨[.any, .any, .ref (bytesG a), .ref (bytesG b), .any, .int .i64 (k.1 : Nat)] ++ List.replicate 18 .any, []⟩) (fun k => 32 - k.1) ?_ ?_
 · exact Into.first ⟨0, by omega, by simp⟩ ⟨[], by simp⟩ (by simp [WL, leG_self, leG_any, leG_int])
 · rintro ⟨k, hk, he⟩;by_cases h : k < 32
   · have d0 : ((k : Int) < 32) = True := eq_true (by omega);rw [ltB_drop a b k (by omega) (by omega)] at he;obtain ⟨ra, ea⟩ : ∃ ra, List.drop (k * 1) (bytesG a) = .int .u8 (a.getD k 0).toNat :: ra :=
      ⟨bytesG (a.drop (k + 1)), by rw [Nat.mul_one, drop_bytes, drop_cons0 (by omega)]; rfl⟩
     obtain ⟨rb, eb⟩ : ∃ rb, List.drop (k * 1) (bytesG b) = .int .u8 (b.getD k 0).toNat :: rb :=
      ⟨bytesG (b.drop (k + 1)), by rw [Nat.mul_one, drop_bytes, drop_cons0 (by omega)]; rfl⟩
     obtain ⟨x, ex⟩ : ∃ x, a.getD k 0 = x := ⟨_, rfl⟩
     obtain ⟨y, ey⟩ : ∃ y, b.getD k 0 = y := ⟨_, rfl⟩
     rw [ex, ey] at he;rw [ex] at ea;rw [ey] at eb;have ta1 : List.take 1 (List.drop (k * 1) (bytesG a)) = [.int .u8 x.toNat] := by rw [ea]; rfl
     have tb1 : List.take 1 (List.drop (k * 1) (bytesG b)) = [.int .u8 y.toNat] := by rw [eb]; rfl
     have la1 : (1 ≤ (List.drop (k * 1) (bytesG a)).length) = True := by rw [ea]; simp
     have lb1 : (1 ≤ (List.drop (k * 1) (bytesG b)).length) = True := by rw [eb]; simp
     have hx := x.toNat_lt;have hy := y.toNat_lt;refine vq5 d0 ta1 tb1 la1 lb1 ?_;refine ⟨by omega, by omega, by omega, by omega, fun c => ⟨by omega, by omega, by omega, by omega, ?_⟩, fun c => ?_⟩
     · rw [if_neg (fun e => c (by rw [e]))] at he
       rw [← he];exact decide_eq_decide.2 (by rw [UInt8.lt_iff_toNat_lt]; omega)
     · rw [if_pos (UInt8.toNat_inj.1 (by omega))] at he;exact Into.at ⟨k + 1, by omega, he⟩ (by show _ < _; simp; omega) ⟨[], by simp⟩ (by simp [WL, leG_self, leG_any, leG_int])
   · have d0 : ((k : Int) < 32) = False := eq_false (by omega);rw [List.drop_of_length_le (by omega), List.drop_of_length_le (by omega)] at he;refine vq3 d0 @false_imp_iff @true_and ?_
     rw [← he]; rfl
theorem cellsEq_hs (a b : Hs) : cellsEq [Sk.int, Sk.int, Sk.int, Sk.int, Sk.int, Sk.int, Sk.int, Sk.int, Sk.int, Sk.int, Sk.int, Sk.int, Sk.int, Sk.int, Sk.int, Sk.int, Sk.int, Sk.int, Sk.int, Sk.int, Sk.int, Sk.int, Sk.int, Sk.int, Sk.int, Sk.int, Sk.int, Sk.int, Sk.int, Sk.int, Sk.int, Sk.int] (bytesG a.1) (bytesG b.1) = some (decide (a = b)) := by
 refine (cells32 a.1 b.1 a.2 b.2).trans ?_
 exact congrArg some (decide_eq_decide.2 ⟨Subtype.ext, fun h => by rw [h]⟩)
theorem take32 (a : Hs) : List.take 32 (bytesG a.1) = bytesG a.1 := List.take_of_length_le (by rw [bytesG_len, a.2]; omega)
theorem len32 (a : Hs) : (bytesG a.1).length = 32 := by rw [bytesG_len, a.2]
theorem takeH {l : List Hs} {k : Nat} (h : k < l.length) : l.take (k + 1) = l.take k ++ [l.getD k h0] := by
 rw [List.take_add_one]; simp [List.getD, h]
theorem dropH {l : List Hs} {k : Nat} (h : k < l.length) : l.drop k = l.getD k h0 :: l.drop (k + 1) := by
 rw [List.drop_eq_getElem_cons h]; simp [List.getD, h]
theorem hSame (a b : List Hs) (ta tb : Tag) (hl : a.length ≤ 4398046511104) : GPure Try.prog 44 [.slice (hsG a) ta, .slice (hsG b) tb] (.bool (decide (a = b))) := by
 refine h44.pa ?_
 refine vq1 @hsG_len ?_
 refine ⟨fun h => ?_, fun h => ?_⟩
 · rw [decide_eq_false (fun e => h (by rw [e]))]
 refine vcSLoop_by (ι := { k : Nat // k ≤ a.length ∧ a.take k = b.take k }) (fun k => ⟨[.slice (hsG a) ta, .slice (hsG b) tb, .any, .any, .any, .int .i64 (k.1 : Nat)] ++ List.replicate 20 .any, []⟩) (fun k => a.length - k.1) ?_ ?_
 · exact Into.first ⟨0, by omega, by simp⟩ ⟨[], by simp⟩ (by simp [WL, leG_self, leG_any, leG_int])
 · rintro ⟨k, hk, he⟩;by_cases h' : k < a.length
   · have d0 : ((k : Int) < (a.length : Int)) = True := eq_true (by omega);have ea := hsG_at a k h';have eb := hsG_at b k (by omega);obtain ⟨x, ex⟩ : ∃ x, a.getD k h0 = x := ⟨_, rfl⟩
     obtain ⟨y, ey⟩ : ∃ y, b.getD k h0 = y := ⟨_, rfl⟩
     rw [ex] at ea;rw [ey] at eb;refine vq8 @hsG_len d0 ea eb @all_hsG @take32 @len32 (cellsEq_hs x y) ?_;refine ⟨by omega, by omega, by omega, fun c => ?_, fun c => ?_⟩
     · exact Into.at ⟨k + 1, by omega, by rw [takeH h', takeH (by omega), he, ex, ey, c]⟩ (by show _ < _; simp; omega) ⟨[], by simp⟩ (by simp [WL, leG_self, leG_any, leG_int])
     · rw [decide_eq_false fun e => c (by rw [← ex, ← ey, e])]
   · have d0 : ((k : Int) < (a.length : Int)) = False := eq_false (by omega);rw [List.take_of_length_le (by omega), List.take_of_length_le (by omega)] at he;refine vq4 @hsG_len d0 @false_imp_iff @true_and ?_;rw [decide_eq_true he]
theorem norm_u8c (x : Int) : ∃ c : UInt8, norm .u8 x = (c.toNat : Int) := by
 have h : norm .u8 x = x % 256 := rfl
 refine ⟨UInt8.ofNat (x % 256).toNat, ?_⟩
 rw [h, UInt8.toNat_ofNat']
 omega
theorem six (m : Int) (h : 0 ≤ m) : ∃ c : UInt8, List.take 1 (List.drop ((m.tmod 6).toNat * 1) ([.int .u8 171, .int .u8 171, .int .u8 160, .int .u8 18, .int .u8 254, .int .u8 171] : List GVal)) = [.int .u8 c.toNat] := by
 have h1 := Int.tmod_nonneg 6 h
 have h2 := Int.tmod_lt_of_pos m (by decide : (0 : Int) < 6)
 have : (m.tmod 6).toNat < 6 := by omega
 generalize (m.tmod 6).toNat = k at *
 match k, this with
 | 0, _ => exact ⟨171, rfl⟩
 | 1, _ => exact ⟨171, rfl⟩
 | 2, _ => exact ⟨160, rfl⟩
 | 3, _ => exact ⟨18, rfl⟩
 | 4, _ => exact ⟨254, rfl⟩
 | 5, _ => exact ⟨171, rfl⟩
theorem hHash (n : Int) : ∃ f : Hs, GPure Try.prog 25 [.int .i64 n] (.agg (bytesG f.1)) := by
 have b1 := Int.emod_nonneg n (by decide : (60 : Int) ≠ 0)
 have b2 := Int.emod_lt_of_pos n (by decide : (0 : Int) < 60)
 obtain ⟨m, em⟩ : ∃ m, n % 60 = m := ⟨_, rfl⟩
 rw [em] at b1 b2
 obtain ⟨c, hc⟩ := six m b1
 obtain ⟨p, hp⟩ := norm_u8c (norm .i64 (norm .i64 (m.tdiv 6) * 16))
 obtain ⟨q, hq⟩ := norm_u8c (m * 7)
 obtain ⟨r, hr⟩ := norm_u8c m
 refine ⟨⟨c :: p :: q :: (List.replicate 28 0 ++ [r]), by simp⟩, ?_⟩
 have fin : bytesG (c :: p :: q :: (List.replicate 28 0 ++ [r])) = [.int .u8 c.toNat, .int .u8 p.toNat, .int .u8 q.toNat, .int .u8 0, .int .u8 0, .int .u8 0, .int .u8 0, .int .u8 0, .int .u8 0, .int .u8 0, .int .u8 0, .int .u8 0, .int .u8 0, .int .u8 0, .int .u8 0, .int .u8 0, .int .u8 0, .int .u8 0, .int .u8 0, .int .u8 0, .int .u8 0, .int .u8 0, .int .u8 0, .int .u8 0, .int .u8 0, .int .u8 0, .int .u8 0, .int .u8 0, .int .u8 0, .int .u8 0, .int .u8 0, .int .u8 r.toNat] := rfl
 rw [fin]
 refine h25.pa ?_
 refine vq0 ?_
 intro st
 refine (sPick n 60 (by omega) (by omega)).then ?_ (by rfl)
 have d6 := Int.tmod_nonneg 6 b1
 have d7 := Int.tmod_lt_of_pos m (by decide : (0 : Int) < 6)
 have t0 : Int.toNat 0 = 0 := rfl
 have t1 : Int.toNat 1 = 1 := rfl
 have t2 : Int.toNat 2 = 2 := rfl
 have t3 : Int.toNat 31 = 31 := rfl
 refine vq1 (ai em <| ai hc <| ai hp <| ai hq <| ai hr <| ai t0 <| ai t1 <| ai t2 <| ai t3 <| ai @Nat.zero_mul <| ai @List.cons_append.{0} <| ai @List.nil_append.{0} <| ai @List.length_cons.{0} <| @List.length_nil.{0}) ?_
 exact fun st => ⟨by omega, d6, d7, by omega, by omega, by omega, by omega, by omega, by omega, by omega, by omega, by omega, by omega⟩
def idxH : List Hs → Hs → Nat
 | [], _ => 0
 | x :: r, h => if ltB x.1 h.1 = true then idxH r h + 1 else 0
def putH (l : List Hs) (h : Hs) : List Hs :=
 if idxH l h < l.length ∧ l.getD (idxH l h) h0 = h then l else l.take (idxH l h) ++ [h] ++ l.drop (idxH l h)
theorem take_hs (l : List Hs) (n : Nat) : (hsG l).take n = hsG (l.take n) := by simp [hsG, List.map_take]
theorem toNat0 : Int.toNat 0 = 0 := rfl
theorem if32 {α : Type} (a : Hs) (x y : α) : (if (bytesG a.1).length = 32 then x else y) = x := if_pos (len32 a)
theorem one32 (a : Hs) : (∀ y ∈ [bytesG a.1], y.length = 32) = True := eq_true (by simp [len32])
theorem idxH_cons (x : Hs) (r : List Hs) (h : Hs) : idxH (x :: r) h = if ltB x.1 h.1 = true then idxH r h + 1 else 0 := rfl
def sortR (l : List Hs) : List Hs := l.foldl putH []
abbrev LT (a b : Hs) : Prop := ltB a.1 b.1 = true
abbrev SS (l : List Hs) : Prop := l.Pairwise LT
theorem LT.trans {a b c : Hs} (h : LT a b) (k : LT b c) : LT a c := ltB_trans (by rw [a.2, b.2]) (by rw [b.2, c.2]) h k
theorem LT.irrefl (a : Hs) : ¬ LT a a := by unfold LT; rw [ltB_irrefl]; simp
theorem LT.total {a b : Hs} (h : ltB a.1 b.1 = false) (n : a ≠ b) : LT b a := by
 cases e : ltB b.1 a.1 with
 | true => exact e
 | false => exact absurd (Subtype.ext (ltB_total (by rw [a.2, b.2]) h e)) n
theorem putH_nil (h : Hs) : putH [] h = [h] := by simp [putH]
theorem putH_cons (x : Hs) (r : List Hs) (h : Hs) : putH (x :: r) h = if LT x h then x :: putH r h else if x = h then x :: r else h :: x :: r := by
 unfold putH
 rw [idxH_cons]
 by_cases c : LT x h
 · rw [if_pos c, if_pos c];simp only [List.length_cons, List.getD_cons_succ, Nat.add_lt_add_iff_right, List.take_succ_cons, List.drop_succ_cons, List.cons_append];split <;> rfl
 · rw [if_neg c, if_neg c];simp
theorem putH_mem : ∀ (l : List Hs) (h z : Hs), z ∈ putH l h ↔ z ∈ l ∨ z = h
 | [], h, z => by rw [putH_nil]; simp
 | x :: r, h, z => by
  rw [putH_cons];have := putH_mem r h z;split
  · simp only [List.mem_cons, this, or_assoc]
  · split
    · rename_i e; subst e; simp only [List.mem_cons];constructor
      · exact .inl
      · rintro (h | h)
        · exact h
        · exact .inl h
    · simp only [List.mem_cons];constructor
      · rintro (h | h)
        · exact .inr h
        · exact .inl h
      · rintro (h | h)
        · exact .inr h
        · exact .inl h
theorem putH_ss : ∀ {l : List Hs} (h : Hs), SS l → SS (putH l h)
 | [], h, _ => by rw [putH_nil]; simp [SS]
 | x :: r, h, hs => by
  rw [putH_cons];obtain ⟨h1, h2⟩ := List.pairwise_cons.1 hs;split
  · rename_i c;refine List.pairwise_cons.2 ⟨fun z hz => ?_, putH_ss h h2⟩;rcases (putH_mem r h z).1 hz with h3 | rfl
    · exact h1 z h3
    · exact c
  · rename_i c;split
    · exact hs
    · rename_i n;have c' : ltB x.1 h.1 = false := by cases e : ltB x.1 h.1 with | true => exact absurd e c | false => rfl
      have hx := LT.total c' n;refine List.pairwise_cons.2 ⟨fun z hz => ?_, hs⟩;rcases List.mem_cons.1 hz with rfl | h3
      · exact hx
      · exact hx.trans (h1 z h3)
theorem foldl_put : ∀ (l acc : List Hs), SS acc → SS (l.foldl putH acc) ∧ ∀ z, z ∈ l.foldl putH acc ↔ z ∈ l ∨ z ∈ acc
 | [], acc, h => ⟨h, by simp⟩
 | x :: r, acc, h => by
  obtain ⟨h1, h2⟩ := foldl_put r (putH acc x) (putH_ss x h);refine ⟨h1, fun z => ?_⟩;rw [List.foldl_cons, h2, putH_mem, List.mem_cons];constructor
  · rintro (h | h | h)
    · exact .inl (.inr h)
    · exact .inr h
    · exact .inl (.inl h)
  · rintro ((h | h) | h)
    · exact .inr (.inr h)
    · exact .inl h
    · exact .inr (.inl h)
theorem sortR_ss (l : List Hs) : SS (sortR l) := (foldl_put l [] List.Pairwise.nil).1
theorem sortR_mem (l : List Hs) (z : Hs) : z ∈ sortR l ↔ z ∈ l := by
 have := (foldl_put l [] List.Pairwise.nil).2 z
 simpa [sortR] using this
theorem ss_eq : ∀ {a b : List Hs}, SS a → SS b → (∀ z, z ∈ a ↔ z ∈ b) → a = b
 | [], b, _, _, h => by
  cases b with
  | nil => rfl
  | cons y s => exact absurd ((h y).2 (by simp)) (by simp)
 | x :: r, [], _, _, h => absurd ((h x).1 (by simp)) (by simp)
 | x :: r, y :: s, ha, hb, h => by
  obtain ⟨a1, a2⟩ := List.pairwise_cons.1 ha;obtain ⟨b1, b2⟩ := List.pairwise_cons.1 hb;have e : x = y := by
   rcases List.mem_cons.1 ((h x).1 (by simp)) with e | hx
   · exact e
   · rcases List.mem_cons.1 ((h y).2 (by simp)) with e | hy
     · exact e.symm
     · exact absurd ((b1 x hx).trans (a1 y hy)) (LT.irrefl y)
  subst e;refine congrArg (x :: ·) (ss_eq a2 b2 fun z => ⟨fun hz => ?_, fun hz => ?_⟩)
  · rcases List.mem_cons.1 ((h z).1 (List.mem_cons_of_mem _ hz)) with rfl | h3
    · exact absurd (a1 z hz) (LT.irrefl z)
    · exact h3
  · rcases List.mem_cons.1 ((h z).2 (List.mem_cons_of_mem _ hz)) with rfl | h3
    · exact absurd (b1 z hz) (LT.irrefl z)
    · exact h3
def ddT : Hs → List Hs → List Hs
 | _, [] => []
 | x, y :: r => if y = x then ddT y r else y :: ddT y r
theorem ddT_cons (x y : Hs) (r : List Hs) : ddT x (y :: r) = if y = x then ddT y r else y :: ddT y r := rfl
def dd : List Hs → List Hs
 | [] => []
 | x :: r => x :: ddT x r
abbrev WS (l : List Hs) : Prop := l.Pairwise (fun a b => ltB b.1 a.1 = false)
theorem ddT_ss : ∀ (x : Hs) (r : List Hs), WS (x :: r) → SS (x :: ddT x r) ∧ ∀ z, z ∈ x :: ddT x r ↔ z ∈ x :: r
 | x, [], _ => ⟨by simp [ddT, SS], by simp [ddT]⟩
 | x, y :: r, h => by
  obtain ⟨h1, h2⟩ := List.pairwise_cons.1 h;obtain ⟨i1, i2⟩ := ddT_ss y r h2;rw [ddT_cons];split
  · rename_i e; subst e;refine ⟨i1, fun z => ?_⟩;rw [i2]; simp
  · rename_i n;have hxy : LT x y := LT.total (h1 y (by simp)) n;refine ⟨List.pairwise_cons.2 ⟨fun z hz => ?_, i1⟩, fun z => ?_⟩
    · rcases List.mem_cons.1 hz with rfl | h3
      · exact hxy
      · exact hxy.trans ((List.pairwise_cons.1 i1).1 z h3)
    · rw [List.mem_cons, i2, List.mem_cons (a := z) (b := x)]
theorem dd_sortR {ys l : List Hs} (hp : ys.Perm l) (hw : WS ys) : dd ys = sortR l := by
 refine ss_eq ?_ (sortR_ss l) fun z => ?_
 · cases ys with
   | nil => exact List.Pairwise.nil
   | cons x r => exact (ddT_ss x r hw).1
 · rw [sortR_mem, ← hp.mem_iff];cases ys with
   | nil => rfl
   | cons x r => exact (ddT_ss x r hw).2 z
theorem hClone (l : List Hs) (t : Tag) (hl : l.length ≤ 4398046511104) (ht : t = .nil → l = []) : GCalls Try.prog 36 [.slice (hsG l) t] [] (fun g O' => (l = [] ∧ g = .slice [] .nil ∧ O' = []) ∨ ∃ st, g = .own 0 st 0 l.length ∧ O' = [.row st 32 (hsG l)]) := by
 refine h36.ca ?_
 refine vq2 @hsG_len @all_hsG ?_
 refine ⟨fun h => .inl (ht h), fun _ => ⟨fun h => ?_, fun h => ⟨by omega, by omega, by simp, fun st => .inr ⟨st, rfl, rfl⟩⟩⟩⟩
 have h0 : l = [] := by
  cases l with
  | nil => rfl
  | cons a r => simp [hsG] at h
 exact ⟨.inl h0, .inr trivial, fun st => .inr ⟨st, by rw [h0]; rfl, rfl⟩⟩
theorem hSortNil {st : Nat} : GCalls Try.prog 72 [.own 0 st 0 0, .func (.func 73) [] []] [.row st 32 []] (fun r O' => r = .tuple [] ∧ O' = [.row st 32 []]) := by
 refine (sSort [] (by simp) (O := [.row st 32 []]) (o := 0) rfl rfl).mono ?_
 rintro g O' ⟨rfl, ys, h1, h2, rfl⟩
 rw [h1.eq_nil]; exact ⟨rfl, rfl⟩
theorem GCalls.nilArg {P : Program} {f : FuncId} {rest : List GVal} {sz : Nat} {K : GVal → List GObj → Prop} (h : ∀ t, GCalls P f (.own 0 t 0 0 :: rest) [.row t sz []] K) : GCalls P f (.slice [] .nil :: rest) [] K := by
 refine ⟨(h 0).1, fun E w vs hs ha => ?_⟩
 obtain ⟨t, hk, ht, hnx, hs, hkeep⟩ := hs.stamp (K := fun t => GCalls P f (.own 0 t 0 0 :: rest) [.row t sz []] K) (show Gv.stamp [] _ from h)
 obtain ⟨h1, h2⟩ := hs.objNil (.row t sz []) (l := ⟨none, 0, sz, 0⟩) ht hnx rfl ⟨_, Env.addLoc_self _ _ _, rfl, by simp, rfl⟩ (by simp [GObj.blk, Env.addLoc_self])
 have ha' : ArgsR (E.addLoc t ⟨none, 0, sz, 0⟩) vs (.own 0 t 0 0 :: rest) := by
  refine ⟨by rw [ha.1]; simp, fun k g hg => ?_⟩;cases k with
  | zero =>
   simp at hg; subst hg;have := ha.2 0 _ rfl
   revert this
   generalize vs.getD 0 undef = tv;intro this;cases this with
   | slice a len cap xs tag sz c hlen hcap hsz ha hc htag =>
    obtain ⟨_, h1⟩ := htag;have h0 : len = 0 := by simpa using hlen
    subst h0;exact .own a 0 cap _ t 0 _ (Env.addLoc_self _ _ _) (Nat.zero_le _) (.inl h1)
  | succ k => exact (ha.2 (k + 1) g (by simpa using hg)).mono h2.ext
 refine (hk.2 _ w vs h1 ha').mono ?_
 rintro e w' ⟨v, E', O', g, q1, q2, q3, q4, q5⟩
 exact ⟨v, E', O', g, q1, q2, (hkeep.trans h2).trans q3, q4, q5⟩
theorem getD_set_ne {l : List Hs} {i j : Nat} {a : Hs} (h : i ≠ j) : (l.set i a).getD j h0 = l.getD j h0 := by
 simp [List.getD, List.getElem?_set, h]
theorem getD_set_eq {l : List Hs} {i : Nat} {a : Hs} (h : i < l.length) : (l.set i a).getD i h0 = a := by
 simp [List.getD, List.getElem?_set, h]
theorem hsG_set (l : List Hs) (i : Nat) (s : Hs) : (hsG l).set i (bytesG s.1) = hsG (l.set i s) := by simp [hsG, List.map_set]
theorem dd_len1 {ys : List Hs} (h : ys.length < 2) : dd ys = ys := by
 match ys, h with
 | [], _ => rfl
 | [x], _ => rfl
theorem hCompact (ys : List Hs) (hl : ys.length ≤ 4398046511104) (st : Nat) :
 GCalls Try.prog 75 [.own 0 st 0 ys.length] [.row st 32 (hsG ys)] (fun g O' => g = .own 0 st 0 (dd ys).length ∧ O' = [.row st 32 (hsG (dd ys))]) := by
 refine h75.ca ?_
 refine vq2 @hsG_len @all_hsG ?_
 refine ⟨fun h => by rw [dd_len1 (by omega)]; exact ⟨rfl, rfl⟩, fun hn => ?_⟩
 refine vcSLoop_by (ι := { k : Nat // 1 ≤ k ∧ k ≤ ys.length ∧ dd ys = ys.take k ++ ddT (ys.getD (k - 1) h0) (ys.drop k) }) (fun k => ⟨[.own 0 st 0 ys.length, .any, .any, .int .i64 (k.1 : Nat)] ++ List.replicate 57 .any, [.row st 32 (hsG ys)]⟩) (fun k => ys.length - k.1) ?_ ?_
 · refine Into.first ⟨1, by omega, by omega, ?_⟩ ⟨[], by simp⟩ (by simp [WL, leG_self, leG_any, leG_int])
   match ys, hn with
   | x :: r, _ => rfl
 · rintro ⟨k, hk1, hk, he⟩;by_cases h' : k < ys.length
   · have d0 : ((k : Int) < (ys.length : Int)) = True := eq_true (by omega);have ea := hsG_at ys k h';have eb := hsG_at ys (k - 1) (by omega);rw [dropH h', ddT_cons] at he;obtain ⟨x, ex⟩ : ∃ x, ys.getD k h0 = x := ⟨_, rfl⟩
     obtain ⟨y, ey⟩ : ∃ y, ys.getD (k - 1) h0 = y := ⟨_, rfl⟩
     rw [ex] at ea he;rw [ey] at eb he;have tn : ((k : Int) - 1).toNat = k - 1 := by omega
     refine vq10 @hsG_len d0 ea eb tn @all_hsG @take32 @len32 (cellsEq_hs x y) @Nat.zero_add ?_;refine ⟨by omega, by omega, by omega, by omega, by omega, by omega, by omega, fun c => ⟨by omega, by omega, by omega, ?_⟩, fun c => ?_⟩
     · rw [if_pos c] at he;refine vcSLoop_by (ι := { p : Nat × Nat × List Hs // 1 ≤ p.2.1 ∧ k + p.2.1 ≤ ys.length ∧ p.1 + 1 ≤ k + p.2.1 ∧ p.2.2.length = ys.length ∧ (∀ i, k + p.2.1 ≤ i + 1 → p.2.2.getD i h0 = ys.getD i h0) ∧ dd ys = p.2.2.take p.1 ++ ddT (ys.getD (k + p.2.1 - 1) h0) (ys.drop (k + p.2.1)) }) (fun p => ⟨[.own 0 st 0 ys.length, .any, .any, .int .i64 (p.1.1 : Nat), .own 0 st k (ys.length - k), .int .i64 (p.1.2.1 : Nat)] ++ List.replicate 55 .any, [.row st 32 (hsG p.1.2.2)]⟩) (fun p => ys.length - p.1.2.1) ?_ ?_
       · refine Into.first ⟨(k, 1, ys), by show 1 ≤ 1; omega, by show k + 1 ≤ _; omega, by show k + 1 ≤ k + 1; omega, rfl, fun _ _ => rfl, ?_⟩ ⟨[], by simp⟩ (by simp [WL, leG_self, leG_any, leG_int])
         show dd ys = ys.take k ++ ddT (ys.getD (k + 1 - 1) h0) (ys.drop (k + 1));rw [he, Nat.add_sub_cancel, ex, c]
       · rintro ⟨⟨w, q, zs⟩, hq1, hq, hw, hz, hu, hd⟩;simp only [] at hq1 hq hw hz hu hd;by_cases h2 : q < ys.length - k
         · have d1 : ((q : Int) < ((ys.length - k : Nat) : Int)) = True := eq_true (by omega);have ea := hsG_at zs (k + q) (by omega);have eb := hsG_at zs (k + (q - 1)) (by omega);rw [dropH (by omega), ddT_cons, ← hu (k + q) (by omega)] at hd;obtain ⟨x2, ex2⟩ : ∃ x, zs.getD (k + q) h0 = x := ⟨_, rfl⟩
           have ey2 : zs.getD (k + (q - 1)) h0 = ys.getD (k + q - 1) h0 := by rw [hu _ (by omega)]; congr 1; omega
           obtain ⟨y2, ey3⟩ : ∃ x, ys.getD (k + q - 1) h0 = x := ⟨_, rfl⟩
           rw [ex2] at ea hd;rw [ey2, ey3] at eb;rw [ey3] at hd;have tn : ((q : Int) - 1).toNat = q - 1 := by omega
           have ew : List.drop 32 ((hsG zs).getD w []) = [] := by rw [hsG_at zs w (by omega)]; exact List.drop_of_length_le (by rw [len32]; omega)
           refine vq1 (ai @hsG_len <| ai hz <| ai d1 <| ai ea <| ai eb <| ai tn <| ai @all_hsG <| ai @take32 <| ai @len32 <| ai (cellsEq_hs x2 y2) <| ai @Nat.zero_add <| ai ew <| ai @List.append_nil.{0} <| @hsG_set) ?_;refine ⟨by omega, by omega, by omega, by omega, by omega, by omega, by omega, fun c2 => ?_, fun c2 => ?_⟩
           · rw [if_pos c2] at hd;refine Into.at ⟨(w, q + 1, zs), by show 1 ≤ q + 1; omega, by show k + (q + 1) ≤ _; omega, by show w + 1 ≤ k + (q + 1); omega, hz, fun i hi => hu i (by have : k + (q + 1) ≤ i + 1 := hi; omega), ?_⟩ (by show _ < _; simp; omega) ⟨[], by simp⟩ (by simp [WL, leG_self, leG_any, leG_int]);show dd ys = zs.take w ++ ddT (ys.getD (k + (q + 1) - 1) h0) (ys.drop (k + (q + 1)));have e1 : k + (q + 1) - 1 = k + q := by omega
             have e2 : k + (q + 1) = k + q + 1 := by omega
             rw [hd, e1, e2, ← hu (k + q) (by omega), ex2]
           · rw [if_neg c2] at hd;refine ⟨by omega, by omega, by omega, by omega, by omega, by omega, by rw [sol_bytes]; trivial, by omega, by rw [hsG_at zs w (by omega), len32]; omega, ?_⟩;refine Into.at ⟨(w + 1, q + 1, zs.set w x2), by show 1 ≤ q + 1; omega, by show k + (q + 1) ≤ _; omega, by show w + 1 + 1 ≤ k + (q + 1); omega, by show (zs.set w x2).length = _; rw [List.length_set, hz], fun i hi => ?_, ?_⟩ (by show _ < _; simp; omega) ⟨[], by simp⟩ (by simp [WL, leG_self, leG_any, leG_int])
             · have hi' : k + (q + 1) ≤ i + 1 := hi;show (zs.set w x2).getD i h0 = _;rw [getD_set_ne (by omega), hu i (by omega)]
             · show dd ys = (zs.set w x2).take (w + 1) ++ ddT (ys.getD (k + (q + 1) - 1) h0) (ys.drop (k + (q + 1)));have e1 : k + (q + 1) - 1 = k + q := by omega
               have e2 : k + (q + 1) = k + q + 1 := by omega
               rw [hd, e1, e2, ← hu (k + q) (by omega), ex2, takeH (by rw [List.length_set]; omega), List.take_set_of_le (by omega), getD_set_eq (by omega), List.append_assoc]; rfl
         · have d1 : ((q : Int) < ((ys.length - k : Nat) : Int)) = False := eq_false (by omega);refine vq6 @hsG_len hz d1 @false_imp_iff @true_and @take_hs ?_;rw [List.drop_of_length_le (by omega)] at hd;have e : dd ys = zs.take w := by rw [hd]; simp [ddT]
           refine ⟨by omega, by omega, by omega, by omega, by omega, by omega, ?_, by rw [e]⟩;have e2 : (dd ys).length = w := by rw [e, List.length_take]; omega
           rw [e2]; rfl
     · rw [if_neg c] at he;refine Into.at ⟨k + 1, by omega, by omega, ?_⟩ (by show _ < _; simp; omega) ⟨[], by simp⟩ (by simp [WL, leG_self, leG_any, leG_int]);rw [takeH h', he, Nat.add_sub_cancel, ex, List.append_assoc]; rfl
   · have d0 : ((k : Int) < (ys.length : Int)) = False := eq_false (by omega);rw [List.drop_of_length_le (by omega), List.take_of_length_le (by omega)] at he;refine vq4 @hsG_len d0 @false_imp_iff @true_and ?_;have e : dd ys = ys := by rw [he]; simp [ddT]
     rw [e]; exact ⟨rfl, rfl⟩
theorem hCompactNil : GPure Try.prog 75 [.slice [] .nil] (.slice [] .none) := by
 refine h75.pa ?_
 refine vq0 ?_
 exact fun h => absurd h (by omega)
theorem cSort (l : List Hs) (t : Tag) (hl : l.length ≤ 4398046511104) (ht : t = .nil → l = []) : GCalls Try.prog 70 [.slice (hsG l) t] [] (fun g O' => (l = [] ∧ g = .slice [] .none) ∨ ∃ st ys, List.Perm ys l ∧ ys.Pairwise (fun a b => ltB b.1 a.1 = false) ∧ g = .own 0 st 0 (dd ys).length ∧ O' = [.row st 32 (hsG (dd ys))]) := by
 refine h70.ca ?_
 refine vq0 ?_
 refine (hClone l t hl ht).mono ?_
 rintro g O' (⟨rfl, rfl, rfl⟩ | ⟨st, rfl, rfl⟩)
 · refine vq0 ?_;refine GCalls.nilArg (sz := 32) fun st => hSortNil.mono ?_;rintro g O' ⟨rfl, rfl⟩;refine vq0 ?_;refine hCompactNil.then ?_ (by rfl)
   refine vq0 ?_;exact .inl trivial
 · refine vq0 ?_;refine (sSort l (by omega) rfl rfl).mono ?_;rintro _ _ ⟨rfl, ys, hp, hw, rfl⟩;have hpl := hp.length_eq;refine vq0 ?_
   rw [← hpl];refine (hCompact ys (by omega) st).mono ?_;rintro g O' ⟨rfl, rfl⟩;refine vq0 ?_;exact .inr ⟨st, ys, hp, hw, rfl, rfl⟩
theorem frzL_same {f : GVal → Option GVal} : ∀ {xs : List GVal}, (∀ x ∈ xs, f x = some x) → frzL f xs = some xs
 | [], _ => rfl
 | x :: xs, h => by rw [frzL, h x (by simp), frzL_same fun y hy => h y (by simp [hy])]
theorem frz_hs (O : List GObj) (n : Nat) (l : List Hs) : frzLL (Gv.frz O (n + 1)) (hsG l) = some (hsG l) :=
 frzLL_same fun x hx => by
  obtain ⟨s, _, rfl⟩ := List.mem_map.1 hx;exact frzL_same fun y hy => by
   obtain ⟨c, _, rfl⟩ := List.mem_map.1 hy;simp only [Gv.frz]
theorem hSort (l : List Hs) (t : Tag) (hl : l.length ≤ 4398046511104) (ht : t = .nil → l = []) : GPure Try.prog 70 [.slice (hsG l) t] (.slice (hsG (sortR l)) .none) :=
 GCalls.toPure ((cSort l t hl ht).mono fun g O' h => by
  rcases h with ⟨rfl, rfl⟩ | ⟨st, ys, hp, hw, rfl, rfl⟩
  · exact ⟨4, .slice [] .none, by rw [Gv.frz]; rfl, by rw [leA_slice]; rfl⟩
  · rw [dd_sortR hp hw];exact ⟨4, .slice (hsG (sortR l)) .none, frz_own rfl (hsG_len _).symm (frz_hs _ 2 _), by rw [leA_slice]⟩)
abbrev hkT : KT := .mk [.int, .int, .int, .int, .int, .int, .int, .int, .int, .int, .int, .int, .int, .int, .int, .int, .int, .int, .int, .int, .int, .int, .int, .int, .int, .int, .int, .int, .int, .int, .int, .int] true
section
variable {α : Type}
def kvG (enc : α → GVal) (m : List (Hs × α)) : List (GVal × GVal) := m.map fun p => (.agg (bytesG p.1.1), enc p.2)
def idxM : List (Hs × α) → Hs → Option Nat
 | [], _ => none
 | p :: r, h => if h = p.1 then some 0 else (idxM r h).map (· + 1)
def look : List (Hs × α) → Hs → Option α
 | [], _ => none
 | p :: r, h => if h = p.1 then some p.2 else look r h
def mset : List (Hs × α) → Hs → α → List (Hs × α)
 | [], h, v => [(h, v)]
 | p :: r, h, v => if h = p.1 then (h, v) :: r else p :: mset r h v
theorem keyEq_h (a b : Hs) : keyEq hkT (.agg (bytesG a.1)) (.agg (bytesG b.1)) = some (decide (a = b)) := cellsEq_hs a b
theorem kfind_h (enc : α → GVal) (h : Hs) : ∀ m : List (Hs × α), kfind hkT (.agg (bytesG h.1)) (kvG enc m) = some (idxM m h)
 | [] => rfl
 | p :: r => by
  rw [show kvG enc (p :: r) = (.agg (bytesG p.1.1), enc p.2) :: kvG enc r from rfl, kfind, keyEq_h, kfind_h enc h r, idxM];by_cases e : h = p.1
  · simp [e]
  · simp only [decide_eq_false e, if_neg e];cases idxM r h <;> rfl
theorem look_idx (enc : α → GVal) : ∀ (m : List (Hs × α)) (h : Hs) (v : α), look m h = some v → ∃ i, idxM m h = some i ∧ (kvG enc m)[i]? = some (.agg (bytesG h.1), enc v) ∧ ∀ w, (kvG enc m).set i (.agg (bytesG h.1), enc w) = kvG enc (mset m h w)
 | [], h, v, e => by cases e
 | p :: r, h, v, e => by
  rw [look] at e;by_cases hp : h = p.1
  · rw [if_pos hp] at e;cases e;refine ⟨0, by rw [idxM, if_pos hp], by simp [kvG, hp], fun w => by simp [kvG, mset, hp]⟩
  · rw [if_neg hp] at e;obtain ⟨i, h1, h2, h3⟩ := look_idx enc r h v e;refine ⟨i + 1, by rw [idxM, if_neg hp, h1]; rfl, by simpa [kvG] using h2, fun w => ?_⟩;have := h3 w;simp only [kvG, List.map_cons, List.set_cons_succ, mset, if_neg hp] at this ⊢;rw [this]
theorem look_none (enc : α → GVal) : ∀ (m : List (Hs × α)) (h : Hs), look m h = none → idxM m h = none ∧ ∀ w, kvG enc m ++ [(.agg (bytesG h.1), enc w)] = kvG enc (mset m h w)
 | [], h, e => ⟨rfl, fun w => rfl⟩
 | p :: r, h, e => by
  rw [look] at e;by_cases hp : h = p.1
  · rw [if_pos hp] at e; cases e
  · rw [if_neg hp] at e;obtain ⟨h1, h2⟩ := look_none enc r h e;refine ⟨by rw [idxM, if_neg hp, h1]; rfl, fun w => ?_⟩;have := h2 w;simp only [kvG, List.map_cons, List.cons_append, mset, if_neg hp] at this ⊢;rw [this]
theorem look_mset (m : List (Hs × α)) (h x : Hs) (v : α) : look (mset m h v) x = if x = h then some v else look m x := by
 induction m with
 | nil => simp [mset, look]
 | cons p r ih =>
  rw [mset];by_cases hp : h = p.1
  · rw [if_pos hp, look, look];by_cases hx : x = h
    · simp [hx]
    · simp [hx, ← hp]
  · rw [if_neg hp, look, ih, look];by_cases hx : x = p.1
    · rw [if_pos hx, if_pos hx, if_neg (by rw [hx]; exact fun e => hp e.symm)]
    · rw [if_neg hx, if_neg hx]
theorem mset_len (m : List (Hs × α)) (h : Hs) (v : α) : (mset m h v).length = if (look m h).isSome then m.length else m.length + 1 := by
 induction m with
 | nil => simp [mset, look]
 | cons p r ih =>
  rw [mset, look];by_cases hp : h = p.1
  · simp [hp]
  · rw [if_neg hp, if_neg hp, List.length_cons, ih];split <;> simp
end
theorem solidH (h : Hs) : allSolid (bytesG h.1) = True := by
 refine eq_true ?_
 rw [← allSolid_eq]
 intro c hc
 obtain ⟨b, _, rfl⟩ := List.mem_map.1 hc
 rfl
theorem take32a (h : Hs) (X : List GVal) : List.take 32 (bytesG h.1 ++ X) = bytesG h.1 := by rw [List.take_append_of_le_length (by rw [len32]; omega), take32]
theorem drop32a (h : Hs) (X : List GVal) : List.drop 32 (bytesG h.1 ++ X) = X := by rw [List.drop_append_of_le_length (by rw [len32]; omega), List.drop_of_length_le (by rw [len32]; omega)]; rfl
theorem drop33a (h : Hs) (x : GVal) : List.drop 33 (bytesG h.1 ++ [x]) = [] := List.drop_of_length_le (by rw [List.length_append, len32]; simp)
theorem take33a (h : Hs) (x : GVal) : List.take 33 (bytesG h.1 ++ [x]) = bytesG h.1 ++ [x] := List.take_of_length_le (by rw [List.length_append, len32]; simp)
theorem len33 (h : Hs) (x : GVal) : (bytesG h.1 ++ [x]).length = 33 := by rw [List.length_append, len32]; rfl
theorem solid33 (h : Hs) (x : GVal) : allSolid (bytesG h.1 ++ [x]) = (x.solid = true) := by
 rw [← allSolid_eq]
 have := solidH h
 rw [← allSolid_eq] at this
 have := this.mpr trivial
 apply propext
 constructor
 · exact fun q => q x (by simp)
 · intro q c hc;rcases List.mem_append.1 hc with hc | hc
   · exact this c hc
   · rw [List.mem_singleton.1 hc]; exact q
theorem WL_rfl : ∀ l : List GVal, WL l l
 | [] => trivial
 | x :: r => ⟨by rw [leG_self]; trivial, WL_rfl r⟩
theorem leA_refl (a : GVal) : leA a a := by
 cases a <;> simp [leA, leG_self, WL_rfl]
abbrev encL (l : List Hs) : GVal := .slice (hsG l) .none
abbrev encB (b : Bool) : GVal := .bool b
abbrev encI (n : Int) : GVal := .int .i64 n
abbrev GM := List (Hs × List Hs)
abbrev gObj (st s : Nat) (m : GM) : List GObj := [.row st 1 [[.map 1 s]], .map s (kvG encL m)]
def v33 := ai @take33a <| ai @take32a <| ai @solid33 <| ai @drop33a <| ai @drop32a <| @len33
def v32 := ai @take32 <| ai @solidH <| @len32
end Gv.Try
namespace Gv.Try
open Go Gv Go.Proofs Go.RowKit
end Gv.Try
namespace Go.Proofs
open Go.Shelf
def Try.mcl_ren : Go.Shelf.Ren := ⟨fun | 5 => 64 | 7 => 71 | n => n, fun | 4 => 4 | 20 => 20 | 23 => 84 | 25 => 46 | 3 => 27 | n => n, fun | n => n⟩
theorem Try.mcl : Go.Proofs.SlLaysW.n5 Try.prog Try.mcl_ren := {
 mixed := by kernel_rfl
 f5 := ⟨Try.f64.name, by decide, Try.func64.trans (congrArg some (by kernel_rfl))⟩
 f7 := Try.func71.trans (congrArg some (by kernel_rfl))
 t4 := Try.underlying4
 a4 := Try.isAgg4
 z4 := Try.sizeOf4
 v4 := Try.zeroValue4
 t20 := Try.underlying20
 a20 := Try.isAgg20
 z20 := Try.sizeOf20
 v20 := Try.zeroValue20
 t23 := Try.underlying84
 a23 := Try.isAgg84
 z23 := Try.sizeOf84
 v23 := Try.zeroValue84 }
end Go.Proofs
namespace Gv.Try
open Go Gv Go.Proofs
theorem cMapClone {O : List GObj} {o st : Nat} {kv : List (GVal × GVal)} (hO : O[o]? = some (.map st kv)) (hc : clockOf O = none) :
 GCalls Try.prog 64 [.map o st] O (fun g O' => ∃ st', g = .map O.length st' ∧ O' = O ++ [.map st' kv]) :=
 gcalls_clone (by kernel_rfl) (fun b es clock w hb => AnyW.maps_Clone Try.mcl b es clock w hb) hO hc
open Nat (reduceEqDiff reduceAdd reduceSub reduceLeDiff reduceMul reduceLT)
theorem gCloneP (l : List Hs) (t : Tag) (hl : l.length ≤ 4398046511104) (ht : t = .nil → l = []) : GPure Try.prog 36 [.slice (hsG l) t] (.slice (hsG l) .none) := by
 refine GCalls.toPure ((hClone l t hl ht).mono ?_)
 rintro g O' (⟨rfl, rfl, rfl⟩ | ⟨st, rfl, rfl⟩)
 · exact ⟨2, .slice [] .nil, rfl, by rw [leA_slice]; rfl⟩
 · exact ⟨3, .slice (hsG l) .none, frz_own rfl (hsG_len _).symm (frz_hs _ 1 _), by rw [leA_slice]⟩
abbrev errG (n : Int) : GVal := .iface 65 (.int .i64 n)
abbrev whichG (h : Hs) (n : Int) : GVal := .iface 147 (.ref (bytesG h.1 ++ [errG n]))
theorem gOf (h : Hs) (n : Int) : GPure Try.prog 62 [.agg (bytesG h.1), errG n] (whichG h n) := by
 refine h62.pa ?_
 refine vq1 @v32 ?_
 refine ⟨by kernel_rfl, rfl, ?_⟩
 simp only [len33, take32a, drop33a, solid33, List.append_nil, Nat.le_refl, if_true]
 exact ⟨rfl, by simp [leA, leG_self]⟩
theorem gEqual1 (a b : List Hs) (ta tb : Tag) (ha : a.length ≤ 4398046511104) (hl : a.length = b.length) : GPure Try.prog 65 [.slice (hsG a) ta, .slice (hsG b) tb] (.bool (decide (a = b))) := by
 have dl : ((a.length : Int) = (b.length : Int)) = True := eq_true (by omega)
 refine h65.pa ?_
 refine vq3 @hsG_len dl @vnT ?_
 refine vcSLoop_by (ι := { k : Nat // k ≤ a.length ∧ a.take k = b.take k }) (fun k => ⟨[.slice (hsG a) ta, .slice (hsG b) tb, .any, .any, .any, .any, .any, .any, .any, .any, .any, .slice (hsG a) ta, .int .i64 a.length, .int .i64 (k.1 : Nat)] ++ List.replicate 12 .any, []⟩) (fun k => a.length - k.1) ?_ ?_
 · exact Into.first ⟨0, by omega, by simp⟩ ⟨[], by simp⟩ (by simp [WL, leG_self, leG_any, leG_int])
 · rintro ⟨k, hk, he⟩;by_cases h' : k < a.length
   · have d0 : ((k : Int) < (a.length : Int)) = True := eq_true (by omega);have ea := hsG_at a k h';have eb := hsG_at b k (by omega);obtain ⟨x, ex⟩ : ∃ x, a.getD k h0 = x := ⟨_, rfl⟩
     obtain ⟨y, ey⟩ : ∃ y, b.getD k h0 = y := ⟨_, rfl⟩
     rw [ex] at ea;rw [ey] at eb;refine vq8 @hsG_len d0 ea eb @all_hsG @take32 @len32 (cellsEq_hs x y) ?_;refine ⟨by omega, by omega, by omega, fun c => ?_, fun c => ?_⟩
     · exact Into.at ⟨k + 1, by omega, by rw [takeH h', takeH (by omega), he, ex, ey, c]⟩ (by show _ < _; simp; omega) ⟨[], by simp⟩ (by simp [WL, leG_self, leG_any, leG_int])
     · rw [decide_eq_false fun e => c (by rw [← ex, ← ey, e])]
   · have d0 : ((k : Int) < (a.length : Int)) = False := eq_false (by omega);rw [List.take_of_length_le (by omega), List.take_of_length_le (by omega)] at he;refine vq4 @hsG_len d0 @false_imp_iff @true_and ?_;rw [decide_eq_true he]
theorem gEqual0 (a b : List Hs) (ta tb : Tag) (hl : a.length ≠ b.length) : GPure Try.prog 65 [.slice (hsG a) ta, .slice (hsG b) tb] (.bool false) := by
 have dl : ((a.length : Int) = (b.length : Int)) = False := eq_false (by omega)
 refine h65.pa ?_
 exact vd3 @hsG_len dl @vnT
theorem gEqual (a b : List Hs) (ta tb : Tag) (ha : a.length ≤ 4398046511104) : GPure Try.prog 65 [.slice (hsG a) ta, .slice (hsG b) tb] (.bool (decide (a = b))) := by
 by_cases hl : a.length = b.length
 · exact gEqual1 a b ta tb ha hl
 · rw [decide_eq_false (fun e => hl (by rw [e]))];exact gEqual0 a b ta tb hl
def twiceB (l : List Hs) : Bool := decide ((sortR l).length < l.length)
theorem gTwice (l : List Hs) (t : Tag) (hl : l.length ≤ 4398046511104) (ht : t = .nil → l = []) : GPure Try.prog 63 [.slice (hsG l) t] (.bool (twiceB l)) := by
 refine h63.pa ?_
 refine vq0 ?_
 refine (hSort l t hl ht).then ?_ (by rfl)
 refine vq1 @hsG_len ?_
 unfold twiceB
 by_cases h : (sortR l).length < l.length
 · rw [decide_eq_true h]; simp [h]
 · rw [decide_eq_false h]; simp [h]
def parsM (m : GM) (h : Hs) : List Hs := (look m h).getD []
theorem gPar1 (m : GM) (h : Hs) (st s i : Nat) (l : List Hs) (hl : l.length ≤ 4398046511104) (hi : idxM m h = some i) (hv : (kvG encL m)[i]? = some (.agg (bytesG h.1), encL l)) : GCalls Try.prog 68 [.ptr 0 st 0 0, .agg (bytesG h.1)] (gObj st s m) (fun g O' => g = .tuple [.slice (hsG l) .none, .bool true] ∧ O' = gObj st s m) := by
 refine h68.ca ?_
 refine vq4 @kfind_h hi hv @v32 ?_
 refine (gCloneP l .none hl (by simp)).then ?_ (by rfl)
 exact vd0
theorem gPar0 (m : GM) (h : Hs) (st s : Nat) (hi : idxM m h = none) : GCalls Try.prog 68 [.ptr 0 st 0 0, .agg (bytesG h.1)] (gObj st s m) (fun g O' => g = .tuple [.slice (hsG []) .none, .bool false] ∧ O' = gObj st s m) := by
 refine h68.ca ?_
 refine vq3 @kfind_h hi @v32 ?_
 refine (gCloneP [] .nil (by simp) (by simp)).then ?_ (by rfl)
 exact vd0
theorem gParents (m : GM) (h : Hs) (st s : Nat) (hl : (parsM m h).length ≤ 4398046511104) : GCalls Try.prog 68 [.ptr 0 st 0 0, .agg (bytesG h.1)] (gObj st s m) (fun g O' => g = .tuple [.slice (hsG (parsM m h)) .none, .bool (look m h).isSome] ∧ O' = gObj st s m) := by
 cases e : look m h with
 | some l =>
  obtain ⟨i, hi, hv, _⟩ := look_idx encL m h l e;have := gPar1 m h st s i l (by simpa [parsM, e] using hl) hi hv
  simpa [parsM, e] using this
 | none =>
  have := gPar0 m h st s (look_none encL m h e).1
  simpa [parsM, e] using this
abbrev Cm := Hs × List Hs
def comG (c : Cm) : List GVal := bytesG c.1.1 ++ [.slice (hsG c.2) .none]
def csG (l : List Cm) : List (List GVal) := l.map comG
instance : Inhabited Cm := ⟨(h0, [])⟩
theorem csG_len (l : List Cm) : (csG l).length = l.length := by simp [csG]
theorem csG_at (l : List Cm) (i : Nat) (h : i < l.length) : (csG l).getD i [] = comG (l.getD i default) := by simp [csG, List.getD, h]
theorem comG_len (c : Cm) : (comG c).length = 33 := len33 _ _
theorem all_csG (l : List Cm) : (∀ x ∈ csG l, x.length = 33) = True := eq_true fun x hx => by obtain ⟨s, _, rfl⟩ := List.mem_map.1 hx; exact comG_len s
theorem csG_app (a b : List Cm) : csG (a ++ b) = csG a ++ csG b := by simp [csG]
theorem csG_one (c : Cm) : csG [c] = [comG c] := rfl
theorem dropC {l : List Cm} {k : Nat} (h : k < l.length) : l.drop k = l.getD k default :: l.drop (k + 1) := by
 rw [List.drop_eq_getElem_cons h]; simp [List.getD, h]
theorem takeC {l : List Cm} {k : Nat} (h : k < l.length) : l.take (k + 1) = l.take k ++ [l.getD k default] := by
 rw [List.take_add_one]; simp [List.getD, h]
theorem memC {l : List Cm} {k : Nat} (h : k < l.length) : l.getD k default ∈ l := by
 rw [List.getD_eq_getElem?_getD, List.getElem?_eq_getElem h]; exact List.getElem_mem h
abbrev Er := Option (Option Hs × Int)
def errV : Er → GVal
 | none => .lit .nilIface
 | some (none, n) => errG n
 | some (some h, n) => whichG h n
abbrev reqG (cs : List Cm) (hs : List Hs) (th : Tag) (gr : Int) : List GVal := [.slice (csG cs) .none, .slice (hsG hs) th, .int .i64 gr]
def sizeE (c : Cm) : Er := if 4 < c.2.length then some (some c.1, 8) else if twiceB c.2 = true then some (some c.1, 1) else none
def badReq (gr : Int) (nc nh : Nat) : Prop := (gr ≠ 1 ∧ gr ≠ 2) ∨ 200 < nc ∨ 200 < nh
instance (gr : Int) (nc nh : Nat) : Decidable (badReq gr nc nh) := by unfold badReq; infer_instance
def sizesP (gr : Int) (nh : Nat) (cs : List Cm) : Er := if badReq gr cs.length nh then some (none, 1) else cs.findSome? sizeE
def zbBCg1 := ai @csG_len <| ai @hsG_len <| ai @comG.eq_1 <| ai @v33 <| @v32
theorem gSizes1 (cs : List Cm) (hs : List Hs) (th : Tag) (gr : Int) (hc : cs.length ≤ 1000000) (hh : hs.length ≤ 1000000) (hp : ∀ c ∈ cs, c.2.length ≤ 1000000) (d1 : (gr = 1) = True) : GPure Try.prog 49 [.agg (reqG cs hs th gr)] (errV (sizesP gr hs.length cs)) := by
 have fin : badReq gr cs.length hs.length → errV (sizesP gr hs.length cs) = errG 1 := fun h => by rw [sizesP, if_pos h]; rfl
 have stop : badReq gr cs.length hs.length → GPure Try.prog 49 [.agg (reqG cs hs th gr)] (errG 1) → GPure Try.prog 49 [.agg (reqG cs hs th gr)] (errV (sizesP gr hs.length cs)) := fun h k => by rw [fin h]; exact k
 have hgr : gr = 1 ∨ gr = 2 := by simp only [eq_iff_iff, iff_true, iff_false] at *; omega
 by_cases h2 : 200 < cs.length
 · refine stop (.inr (.inl h2)) ?_;have d2 : ((200 : Int) < (cs.length : Int)) = True := eq_true (by omega);clear h2 stop fin hgr;refine h49.pa ?_;refine vq5 @csG_len @hsG_len d1 d2 @vnT ?_;exact leA_refl _
 · have d2 : ((200 : Int) < (cs.length : Int)) = False := eq_false (by omega);by_cases h3 : 200 < hs.length
   · refine stop (.inr (.inr h3)) ?_;have d3 : ((200 : Int) < (hs.length : Int)) = True := eq_true (by omega);clear h2 h3 stop fin hgr;refine h49.pa ?_;refine vq6 @csG_len @hsG_len d1 d2 d3 @vnT ?_;exact leA_refl _
   · have d3 : ((200 : Int) < (hs.length : Int)) = False := eq_false (by omega);have he : errV (sizesP gr hs.length cs) = errV (cs.findSome? sizeE) := by
      rw [sizesP, if_neg];rintro (q | q | q)
      · omega
      · exact h2 q
      · exact h3 q
     rw [he];clear h2 h3 stop fin he hgr;refine h49.pa ?_;refine vq6 @csG_len @hsG_len d1 d2 d3 @vnT ?_;refine vcSLoop_by (ι := { k : Nat // k ≤ cs.length ∧ cs.findSome? sizeE = (cs.drop k).findSome? sizeE }) (fun k => ⟨[.any, .ref (reqG cs hs th gr)] ++ List.replicate 25 .any ++ [.slice (csG cs) .none, .int .i64 cs.length, .int .i64 (k.1 : Nat)] ++ List.replicate 21 .any, []⟩) (fun k => cs.length - k.1) ?_ ?_
     · exact Into.first ⟨0, by omega, by simp⟩ ⟨[], by simp⟩ (by simp [WL, leG_self, leG_any, leG_int])
     · rintro ⟨k, hk, hf⟩;by_cases h : k < cs.length
       · have d0 : ((k : Int) < (cs.length : Int)) = True := eq_true (by omega);have eS := csG_at cs k h;have hx := hp _ (memC h);rw [dropC h, List.findSome?_cons] at hf;generalize cs.getD k default = x at *;obtain ⟨xh, xp⟩ := x;by_cases c4 : 4 < xp.length
         · have d4 : ((4 : Int) < (xp.length : Int)) = True := eq_true (by omega);have e1 : sizeE (xh, xp) = some (some xh, 8) := by rw [sizeE, if_pos c4]
           rw [e1] at hf;refine vq4 d0 eS d4 zbBCg1 ?_;refine ⟨by omega, fun u => ?_⟩;refine (gOf xh 8).then ?_ (by rfl)
           refine vq1 zbBCg1 ?_;rw [hf];exact leA_refl _
         · have d4 : ((4 : Int) < (xp.length : Int)) = False := eq_false (by omega);have cT := gTwice xp .none (by omega) (by simp);cases et : twiceB xp with
           | true =>
            have e1 : sizeE (xh, xp) = some (some xh, 1) := by rw [sizeE, if_neg c4, if_pos et]
            rw [e1] at hf;rw [et] at cT;refine vq4 d0 eS d4 zbBCg1 ?_;refine ⟨by omega, fun u => ?_⟩;refine cT.then ?_ (by rfl)
            refine vq1 zbBCg1 ?_;refine (gOf xh 1).then ?_ (by rfl)
            refine vq1 zbBCg1 ?_;rw [hf];exact leA_refl _
           | false =>
            have e1 : sizeE (xh, xp) = none := by rw [sizeE, if_neg c4, if_neg (by rw [et]; simp)]
            rw [e1] at hf;rw [et] at cT;refine vq4 d0 eS d4 zbBCg1 ?_;refine ⟨by omega, fun u => ?_⟩;refine cT.then ?_ (by rfl)
            refine vq1 zbBCg1 ?_;exact Into.at ⟨k + 1, by omega, hf⟩ (by show _ < _; simp; omega) ⟨_, rfl⟩ (by simp [WL, leG_self, leG_any, leG_int])
       · have d0 : ((k : Int) < (cs.length : Int)) = False := eq_false (by omega);rw [List.drop_of_length_le (by omega)] at hf;refine vq2 d0 zbBCg1 ?_;rw [hf];exact leA_refl _
theorem gSizes2 (cs : List Cm) (hs : List Hs) (th : Tag) (gr : Int) (hc : cs.length ≤ 1000000) (hh : hs.length ≤ 1000000) (hp : ∀ c ∈ cs, c.2.length ≤ 1000000) (d1 : (gr = 1) = False) (dd : (gr = 2) = True) : GPure Try.prog 49 [.agg (reqG cs hs th gr)] (errV (sizesP gr hs.length cs)) := by
 have fin : badReq gr cs.length hs.length → errV (sizesP gr hs.length cs) = errG 1 := fun h => by rw [sizesP, if_pos h]; rfl
 have stop : badReq gr cs.length hs.length → GPure Try.prog 49 [.agg (reqG cs hs th gr)] (errG 1) → GPure Try.prog 49 [.agg (reqG cs hs th gr)] (errV (sizesP gr hs.length cs)) := fun h k => by rw [fin h]; exact k
 have hgr : gr = 1 ∨ gr = 2 := by simp only [eq_iff_iff, iff_true, iff_false] at *; omega
 by_cases h2 : 200 < cs.length
 · refine stop (.inr (.inl h2)) ?_;have d2 : ((200 : Int) < (cs.length : Int)) = True := eq_true (by omega);clear h2 stop fin hgr;refine h49.pa ?_;refine vq6 @csG_len @hsG_len d1 dd d2 @vnT ?_;exact leA_refl _
 · have d2 : ((200 : Int) < (cs.length : Int)) = False := eq_false (by omega);by_cases h3 : 200 < hs.length
   · refine stop (.inr (.inr h3)) ?_;have d3 : ((200 : Int) < (hs.length : Int)) = True := eq_true (by omega);clear h2 h3 stop fin hgr;refine h49.pa ?_;refine vq7 @csG_len @hsG_len d1 dd d2 d3 @vnT ?_;exact leA_refl _
   · have d3 : ((200 : Int) < (hs.length : Int)) = False := eq_false (by omega);have he : errV (sizesP gr hs.length cs) = errV (cs.findSome? sizeE) := by
      rw [sizesP, if_neg];rintro (q | q | q)
      · omega
      · exact h2 q
      · exact h3 q
     rw [he];clear h2 h3 stop fin he hgr;refine h49.pa ?_;refine vq7 @csG_len @hsG_len d1 dd d2 d3 @vnT ?_;refine vcSLoop_by (ι := { k : Nat // k ≤ cs.length ∧ cs.findSome? sizeE = (cs.drop k).findSome? sizeE }) (fun k => ⟨[.any, .ref (reqG cs hs th gr)] ++ List.replicate 25 .any ++ [.slice (csG cs) .none, .int .i64 cs.length, .int .i64 (k.1 : Nat)] ++ List.replicate 21 .any, []⟩) (fun k => cs.length - k.1) ?_ ?_
     · exact Into.first ⟨0, by omega, by simp⟩ ⟨[], by simp⟩ (by simp [WL, leG_self, leG_any, leG_int])
     · rintro ⟨k, hk, hf⟩;by_cases h : k < cs.length
       · have d0 : ((k : Int) < (cs.length : Int)) = True := eq_true (by omega);have eS := csG_at cs k h;have hx := hp _ (memC h);rw [dropC h, List.findSome?_cons] at hf;generalize cs.getD k default = x at *;obtain ⟨xh, xp⟩ := x;by_cases c4 : 4 < xp.length
         · have d4 : ((4 : Int) < (xp.length : Int)) = True := eq_true (by omega);have e1 : sizeE (xh, xp) = some (some xh, 8) := by rw [sizeE, if_pos c4]
           rw [e1] at hf;refine vq4 d0 eS d4 zbBCg1 ?_;refine ⟨by omega, fun u => ?_⟩;refine (gOf xh 8).then ?_ (by rfl)
           refine vq1 zbBCg1 ?_;rw [hf];exact leA_refl _
         · have d4 : ((4 : Int) < (xp.length : Int)) = False := eq_false (by omega);have cT := gTwice xp .none (by omega) (by simp);cases et : twiceB xp with
           | true =>
            have e1 : sizeE (xh, xp) = some (some xh, 1) := by rw [sizeE, if_neg c4, if_pos et]
            rw [e1] at hf;rw [et] at cT;refine vq4 d0 eS d4 zbBCg1 ?_;refine ⟨by omega, fun u => ?_⟩;refine cT.then ?_ (by rfl)
            refine vq1 zbBCg1 ?_;refine (gOf xh 1).then ?_ (by rfl)
            refine vq1 zbBCg1 ?_;rw [hf];exact leA_refl _
           | false =>
            have e1 : sizeE (xh, xp) = none := by rw [sizeE, if_neg c4, if_neg (by rw [et]; simp)]
            rw [e1] at hf;rw [et] at cT;refine vq4 d0 eS d4 zbBCg1 ?_;refine ⟨by omega, fun u => ?_⟩;refine cT.then ?_ (by rfl)
            refine vq1 zbBCg1 ?_;exact Into.at ⟨k + 1, by omega, hf⟩ (by show _ < _; simp; omega) ⟨_, rfl⟩ (by simp [WL, leG_self, leG_any, leG_int])
       · have d0 : ((k : Int) < (cs.length : Int)) = False := eq_false (by omega);rw [List.drop_of_length_le (by omega)] at hf;refine vq2 d0 zbBCg1 ?_;rw [hf];exact leA_refl _
theorem gSizes (cs : List Cm) (hs : List Hs) (th : Tag) (gr : Int) (hc : cs.length ≤ 1000000) (hh : hs.length ≤ 1000000) (hp : ∀ c ∈ cs, c.2.length ≤ 1000000) : GPure Try.prog 49 [.agg (reqG cs hs th gr)] (errV (sizesP gr hs.length cs)) := by
 by_cases h1 : gr = 1
 · exact gSizes1 cs hs th gr hc hh hp (eq_true h1)
 · by_cases h2 : gr = 2
   · exact gSizes2 cs hs th gr hc hh hp (eq_false h1) (eq_true h2)
   · have fin : errV (sizesP gr hs.length cs) = errG 1 := by rw [sizesP, if_pos (.inl ⟨h1, h2⟩)]; rfl
     rw [fin];have d1 : (gr = 1) = False := eq_false h1;have dd : (gr = 2) = False := eq_false h2;refine h49.pa ?_;refine vq5 @csG_len @hsG_len d1 dd @vnT ?_;exact leA_refl _
def joinE (m : GM) (c : Cm) : Except (Hs × Int) GM := match look m c.1 with
 | some l => if l = c.2 then .ok m else .error (c.1, 9)
 | none => .ok (mset m c.1 c.2)
def joinP : GM → List Cm → Except (Hs × Int) GM
 | m, [] => .ok m
 | m, c :: r => match joinE m c with
  | .ok m' => joinP m' r
  | .error e => .error e
theorem joinP_drop (m : GM) (l : List Cm) (k : Nat) (h : k < l.length) : joinP m (l.drop k) = match joinE m (l.getD k default) with
 | .ok m' => joinP m' (l.drop (k + 1))
 | .error e => .error e := by rw [dropC h, joinP]
def joinV (st : Nat) : Except (Hs × Int) GM → GVal
 | .ok _ => .tuple [.map 2 st, .lit .nilIface]
 | .error (h, n) => .tuple [.lit (.map none), whichG h n]
def joinO (st : Nat) : Except (Hs × Int) GM → List GObj
 | .ok m' => [.map st (kvG encL m')]
 | .error _ => []
def zbBDg2 := ai @csG_len <| ai @hsG_len <| ai @comG.eq_1 <| ai @kfind_h <| ai @v33 <| @v32
theorem gJoined (m : GM) (cs : List Cm) (tc : Tag) (st s : Nat) (hc : cs.length ≤ 1000000) (hp : ∀ c ∈ cs, c.2.length ≤ 1000000) (hm : ∀ h l, look m h = some l → l.length ≤ 1000000) :
 GCalls Try.prog 50 [.ptr 0 st 0 0, .slice (csG cs) tc] (gObj st s m) (fun g O' => ∃ st', g = joinV st' (joinP m cs) ∧ O' = gObj st s m ++ joinO st' (joinP m cs)) := by
 refine GCalls.dropTo ?_
 refine h50.ca ?_
 refine vq0 ?_
 refine (cMapClone (O := gObj st s m) rfl rfl).mono ?_
 rintro g O' ⟨s2, rfl, rfl⟩
 refine vq1 @csG_len ?_
 refine vcSLoop_by (ι := { p : Nat × GM // p.1 ≤ cs.length ∧ joinP m cs = joinP p.2 (cs.drop p.1) ∧ ∀ h l, look p.2 h = some l → l.length ≤ 1000000 }) (fun p => ⟨List.replicate 6 .any ++ [.map 2 s2] ++ List.replicate 9 .any ++ [.slice (csG cs) tc, .int .i64 cs.length, .int .i64 (p.1.1 : Nat)] ++ List.replicate 32 .any, [.row st 1 [[.map 1 s]], .map s (kvG encL m), .map s2 (kvG encL p.1.2)]⟩) (fun p => cs.length - p.1.1) ?_ ?_
 · exact Into.first ⟨(0, m), by show 0 ≤ _; omega, by simp, hm⟩ ⟨[], by simp⟩ (by simp [WL, leG_self, leG_any, leG_int])
 · rintro ⟨⟨k, M⟩, hk, hf, hM⟩
   change k ≤ cs.length at hk
   change joinP m cs = joinP M (cs.drop k) at hf
   change ∀ h l, look M h = some l → l.length ≤ 1000000 at hM
   by_cases h : k < cs.length
   · have d0 : ((k : Int) < (cs.length : Int)) = True := eq_true (by omega);have eS := csG_at cs k h;have hx := hp _ (memC h);rw [joinP_drop _ _ _ h] at hf;generalize cs.getD k default = x at *;obtain ⟨xh, xp⟩ := x
     change xp.length ≤ 1000000 at hx
     cases el : look M xh with
     | some l =>
      obtain ⟨i, hi, hv, _⟩ := look_idx encL M xh l el;have hl := hM xh l el;have cE := gEqual l xp .none .none (by omega);by_cases e : l = xp
      · have ej : joinE M (xh, xp) = .ok M := by unfold joinE; simp only [el]; rw [if_pos e]
        rw [ej] at hf;rw [decide_eq_true e] at cE;refine vq5 hi hv d0 eS zbBDg2 ?_;refine ⟨by omega, fun u => ?_⟩;refine cE.then ?_ (by rfl)
        refine vq0 ?_;exact Into.at ⟨(k + 1, M), by show k + 1 ≤ _; omega, hf, hM⟩ (by show _ < _; simp; omega) ⟨_, rfl⟩ (by simp [WL, leG_self, leG_any, leG_int])
      · have ej : joinE M (xh, xp) = .error (xh, 9) := by unfold joinE; simp only [el]; rw [if_neg e]
        rw [ej] at hf;rw [decide_eq_false e] at cE;refine vq5 hi hv d0 eS zbBDg2 ?_;refine ⟨by omega, fun u => ?_⟩;refine cE.then ?_ (by rfl)
        refine vq5 @csG_len @hsG_len @comG.eq_1 @v33 @v32 ?_;refine (gOf xh 9).then ?_ (by rfl)
        refine vq0 ?_;rw [hf];exact ⟨_, gObj st s m, _, rfl, leA_refl _, 0, rfl, rfl⟩
     | none =>
      obtain ⟨hi, hw⟩ := look_none encL M xh el;have ej : joinE M (xh, xp) = .ok (mset M xh xp) := by unfold joinE; simp only [el]
      rw [ej] at hf;have hw := hw xp;have cC := gCloneP xp .none (by omega) (by simp);refine vq4 hi d0 eS zbBDg2 ?_;refine ⟨by omega, fun u => ?_⟩;refine cC.then ?_ (by rfl)
      refine vq5 @kfind_h hi hw @solidH @len32 ?_;refine ⟨⟨[], rfl⟩, ?_⟩;refine Into.at ⟨(k + 1, mset M xh xp), by show k + 1 ≤ _; omega, hf, fun h l e => ?_⟩ (by show _ < _; simp; omega) ⟨[.row u 33 [comG (xh, xp)]], rfl⟩ (by simp [WL, leG_self, leG_any, leG_int]);simp only [look_mset] at e;split at e
      · cases e; exact hx
      · exact hM h l e
   · have d0 : ((k : Int) < (cs.length : Int)) = False := eq_false (by omega);rw [List.drop_of_length_le (by omega), joinP] at hf;refine vq2 @csG_len d0 ?_;rw [hf];exact ⟨_, _, [], (List.append_nil _).symm, leA_refl _, s2, rfl, rfl⟩
def nowhere (M : GM) (n : Int) (p : Hs) : Er := match look M p with
 | some _ => none
 | none => some (some p, n)
def lackP (M : GM) (cs : List Cm) (hs : List Hs) : Er := match cs.findSome? (fun c => c.2.findSome? (nowhere M 10)) with
 | some e => some e
 | none => hs.findSome? (nowhere M 11)
theorem findH {f : Hs → Er} {l : List Hs} {k : Nat} (h : k < l.length) : (l.drop k).findSome? f = match f (l.getD k h0) with
 | some e => some e
 | none => (l.drop (k + 1)).findSome? f := by
 rw [dropH h, List.findSome?_cons]
 cases f (l.getD k h0) <;> rfl
theorem findC {f : Cm → Er} {l : List Cm} {k : Nat} (h : k < l.length) : (l.drop k).findSome? f = match f (l.getD k default) with
 | some e => some e
 | none => (l.drop (k + 1)).findSome? f := by
 rw [dropC h, List.findSome?_cons]
 cases f (l.getD k default) <;> rfl
theorem gLacking (M : GM) (cs : List Cm) (hs : List Hs) (th : Tag) (gr : Int) (s : Nat) (hc : cs.length ≤ 1000000) (hh : hs.length ≤ 1000000) (hp : ∀ c ∈ cs, c.2.length ≤ 1000000) :
 GCalls Try.prog 51 [.map 0 s, .agg (reqG cs hs th gr)] [.map s (kvG encL M)] (fun g O' => ∃ x', O' = [x'] ∧ (g = errV (lackP M cs hs) ∧ x' = .map s (kvG encL M))) := by
 refine GCalls.dropTo ?_
 refine h51.ca ?_
 refine vq1 @csG_len ?_
 refine vcSLoop_by (ι := { k : Nat // k ≤ cs.length ∧ cs.findSome? (fun c => c.2.findSome? (nowhere M 10)) = (cs.drop k).findSome? (fun c => c.2.findSome? (nowhere M 10)) }) (fun k => ⟨[.map 0 s, .any, .any, .ref (reqG cs hs th gr)] ++ List.replicate 12 .any ++ [.slice (csG cs) .none, .int .i64 cs.length, .int .i64 (k.1 : Nat)] ++ List.replicate 42 .any, [.map s (kvG encL M)]⟩) (fun k => cs.length - k.1) ?_ ?_
 · exact Into.first ⟨0, by omega, by simp⟩ ⟨[], by simp⟩ (by simp [WL, leG_self, leG_any, leG_int])
 · rintro ⟨k, hk, hf⟩;by_cases h : k < cs.length
   · have d0 : ((k : Int) < (cs.length : Int)) = True := eq_true (by omega);have eS := csG_at cs k h;have hx := hp _ (memC h);rw [findC h] at hf;generalize cs.getD k default = x at *;obtain ⟨xh, xp⟩ := x
     change xp.length ≤ 1000000 at hx
     simp only at hf
     refine vq3 d0 eS zbBDg2 ?_;refine ⟨by omega, fun u => ?_⟩;refine vcSLoop_by (ι := { j : Nat // j ≤ xp.length ∧ xp.findSome? (nowhere M 10) = (xp.drop j).findSome? (nowhere M 10) }) (fun j => ⟨[.map 0 s, .any, .any, .ref (reqG cs hs th gr)] ++ List.replicate 12 .any ++ [.slice (csG cs) .none, .int .i64 cs.length, .int .i64 (k : Nat)] ++ List.replicate 4 .any ++ [.slice (hsG xp) .none, .int .i64 xp.length, .int .i64 (j.1 : Nat)] ++ List.replicate 35 .any, [.map s (kvG encL M)]⟩) (fun j => xp.length - j.1) ?_ ?_
     · exact Into.first ⟨0, by omega, by simp⟩ ⟨_, rfl⟩ (by simp [WL, leG_self, leG_any, leG_int])
     · rintro ⟨j, hj, hf2⟩;by_cases h2 : j < xp.length
       · have d1 : ((j : Int) < (xp.length : Int)) = True := eq_true (by omega);have eP := hsG_at xp j h2;rw [findH h2] at hf2;generalize xp.getD j h0 = p at *;cases el : look M p with
         | some l =>
          obtain ⟨i, hi, hv, _⟩ := look_idx encL M p l el;have en : nowhere M 10 p = none := by unfold nowhere; rw [el]
          rw [en] at hf2;refine vq5 d1 eP hi hv zbBDg2 ?_;refine ⟨by omega, fun u => ?_⟩;exact Into.at ⟨j + 1, by omega, hf2⟩ (by show _ < _; simp; omega) ⟨_, rfl⟩ (by simp [WL, leG_self, leG_any, leG_int])
         | none =>
          obtain ⟨hi, _⟩ := look_none encL M p el;have en : nowhere M 10 p = some (some p, 10) := by unfold nowhere; rw [el]
          rw [en] at hf2;rw [hf2] at hf;refine vq4 d1 eP hi zbBDg2 ?_;refine ⟨by omega, fun u => ?_⟩;refine (gOf p 10).then ?_ (by rfl)
          refine vq0 ?_;have e : lackP M cs hs = some (some p, 10) := by unfold lackP; rw [hf]
          rw [e];exact ⟨_, [.map s (kvG encL M)], _, rfl, leA_refl _, _, rfl, rfl, rfl⟩
       · have d1 : ((j : Int) < (xp.length : Int)) = False := eq_false (by omega);rw [List.drop_of_length_le (by omega)] at hf2;rw [hf2] at hf;refine vq2 d1 zbBDg2 ?_;exact Into.at ⟨k + 1, by omega, hf⟩ (by show _ < _; simp; omega) ⟨[], by simp⟩ (by simp [WL, leG_self, leG_any, leG_int])
   · have d0 : ((k : Int) < (cs.length : Int)) = False := eq_false (by omega);rw [List.drop_of_length_le (by omega)] at hf;have eL : lackP M cs hs = hs.findSome? (nowhere M 11) := by unfold lackP; rw [hf]; rfl
     rw [eL];refine vq2 d0 zbBDg2 ?_;refine vcSLoop_by (ι := { k : Nat // k ≤ hs.length ∧ hs.findSome? (nowhere M 11) = (hs.drop k).findSome? (nowhere M 11) }) (fun k => ⟨[.map 0 s, .any, .any, .ref (reqG cs hs th gr)] ++ List.replicate 39 .any ++ [.slice (hsG hs) th, .int .i64 hs.length, .int .i64 (k.1 : Nat)] ++ List.replicate 15 .any, [.map s (kvG encL M)]⟩) (fun k => hs.length - k.1) ?_ ?_
     · exact Into.first ⟨0, by omega, by simp⟩ ⟨[], by simp⟩ (by simp [WL, leG_self, leG_any, leG_int])
     · rintro ⟨j, hj, hf2⟩;by_cases h2 : j < hs.length
       · have d1 : ((j : Int) < (hs.length : Int)) = True := eq_true (by omega);have eP := hsG_at hs j h2;rw [findH h2] at hf2;generalize hs.getD j h0 = p at *;cases el : look M p with
         | some l =>
          obtain ⟨i, hi, hv, _⟩ := look_idx encL M p l el;have en : nowhere M 11 p = none := by unfold nowhere; rw [el]
          rw [en] at hf2;refine vq5 d1 eP hi hv zbBDg2 ?_;refine ⟨by omega, fun u => ?_⟩;exact Into.at ⟨j + 1, by omega, hf2⟩ (by show _ < _; simp; omega) ⟨_, rfl⟩ (by simp [WL, leG_self, leG_any, leG_int])
         | none =>
          obtain ⟨hi, _⟩ := look_none encL M p el;have en : nowhere M 11 p = some (some p, 11) := by unfold nowhere; rw [el]
          rw [en] at hf2;refine vq4 d1 eP hi zbBDg2 ?_;refine ⟨by omega, fun u => ?_⟩;refine (gOf p 11).then ?_ (by rfl)
          refine vq0 ?_;rw [hf2];exact ⟨_, [.map s (kvG encL M)], _, rfl, leA_refl _, _, rfl, rfl, rfl⟩
       · have d1 : ((j : Int) < (hs.length : Int)) = False := eq_false (by omega);rw [List.drop_of_length_le (by omega)] at hf2;refine vq2 d1 zbBDg2 ?_;rw [hf2];exact ⟨_, [.map s (kvG encL M)], [], rfl, leA_refl _, _, rfl, rfl, rfl⟩
inductive Reach (nx : Hs → List Hs) (l : List Hs) : Hs → Prop
 | base (x : Hs) : x ∈ l → Reach nx l x
 | step (x y : Hs) : Reach nx l x → y ∈ nx x → Reach nx l y
structure RInv (nx : Hs → List Hs) (U l S todo : List Hs) : Prop where
 nodup : S.Nodup
 inU : ∀ x, x ∈ S ∨ x ∈ todo → x ∈ U
 start : ∀ x ∈ l, x ∈ S ∨ x ∈ todo
 step : ∀ x ∈ S, ∀ y ∈ nx x, y ∈ S ∨ y ∈ todo
 sound : ∀ x, x ∈ S ∨ x ∈ todo → Reach nx l x
theorem nodup_lenH : ∀ (l A : List Hs), l.Nodup → (∀ x ∈ l, x ∈ A) → l.length ≤ A.length
 | [], _, _, _ => by simp
 | x :: l, A, hn, h => by
  have hx := h x (by simp);obtain ⟨h1, h2⟩ := List.nodup_cons.1 hn;have := nodup_lenH l (A.erase x) h2 fun y hy => (List.mem_erase_of_ne (fun e => h1 (by rw [← e]; exact hy))).2 (h y (by simp [hy]))
  rw [List.length_erase_of_mem hx] at this;have := List.length_pos_of_mem hx;simp only [List.length_cons]; omega
theorem RInv.len {nx : Hs → List Hs} {U l S todo : List Hs} (h : RInv nx U l S todo) : S.length ≤ U.length := nodup_lenH S U h.nodup fun x hx => h.inU x (.inl hx)
theorem RInv.skip {nx : Hs → List Hs} {U l S t : List Hs} {x : Hs} (h : RInv nx U l S (t ++ [x])) (hx : x ∈ S) : RInv nx U l S t := by
 have hm : ∀ y, y ∈ S ∨ y ∈ t ++ [x] → y ∈ S ∨ y ∈ t := fun y hy => by
  rcases hy with q | q
  · exact .inl q
  · rcases List.mem_append.1 q with q | q
    · exact .inr q
    · rw [List.mem_singleton.1 q]; exact .inl hx
 have hb : ∀ y, y ∈ S ∨ y ∈ t → y ∈ S ∨ y ∈ t ++ [x] := fun y hy => hy.imp id fun q => List.mem_append_left _ q
 exact ⟨h.nodup, fun y hy => h.inU y (hb y hy), fun y hy => hm y (h.start y hy), fun y hy z hz => hm z (h.step y hy z hz), fun y hy => h.sound y (hb y hy)⟩
theorem RInv.go {nx : Hs → List Hs} {U l S t : List Hs} {x : Hs} (h : RInv nx U l S (t ++ [x])) (hx : x ∉ S) (hU : ∀ y ∈ nx x, y ∈ U) : RInv nx U l (S ++ [x]) (t ++ nx x) := by
 have hxU : x ∈ U := h.inU x (.inr (by simp))
 have hxR : Reach nx l x := h.sound x (.inr (by simp))
 have hm : ∀ y, y ∈ S ∨ y ∈ t ++ [x] → y ∈ S ++ [x] ∨ y ∈ t ++ nx x := fun y hy => by
  rcases hy with q | q
  · exact .inl (List.mem_append_left _ q)
  · rcases List.mem_append.1 q with q | q
    · exact .inr (List.mem_append_left _ q)
    · exact .inl (List.mem_append_right _ q)
 have hb : ∀ y, y ∈ S ++ [x] ∨ y ∈ t ++ nx x → y ∈ S ∨ y ∈ t ∨ y = x ∨ y ∈ nx x := fun y hy => by
  simp only [List.mem_append, List.mem_singleton] at hy;rcases hy with (q | q) | (q | q)
  · exact .inl q
  · exact .inr (.inr (.inl q))
  · exact .inr (.inl q)
  · exact .inr (.inr (.inr q))
 refine ⟨?_, fun y hy => ?_, fun y hy => hm y (h.start y hy), fun y hy z hz => ?_, fun y hy => ?_⟩
 · rw [List.nodup_append];exact ⟨h.nodup, by simp, fun a ha b hb => by rw [List.mem_singleton.1 hb]; exact fun e => hx (e ▸ ha)⟩
 · rcases hb y hy with q | q | q | q
   · exact h.inU y (.inl q)
   · exact h.inU y (.inr (List.mem_append_left _ q))
   · rw [q]; exact hxU
   · exact hU y q
 · rcases List.mem_append.1 hy with q | q
   · exact hm z (h.step y q z hz)
   · rw [List.mem_singleton.1 q] at hz;exact .inr (List.mem_append_right _ hz)
 · rcases hb y hy with q | q | q | q
   · exact h.sound y (.inl q)
   · exact h.sound y (.inr (List.mem_append_left _ q))
   · rw [q]; exact hxR
   · exact .step x y hxR q
theorem RInv.fin {nx : Hs → List Hs} {U l S : List Hs} (h : RInv nx U l S []) (x : Hs) : x ∈ S ↔ Reach nx l x := by
 constructor
 · exact fun hx => h.sound x (.inl hx)
 · intro hr;induction hr with
   | base x hx => exact (h.start x hx).resolve_right (by simp)
   | step x y _ hy ih => exact (h.step x ih y hy).resolve_right (by simp)
abbrev setM (S : List Hs) : List (Hs × Bool) := S.map fun h => (h, true)
theorem look_set (S : List Hs) (h : Hs) : look (setM S) h = if h ∈ S then some true else none := by
 induction S with
 | nil => rfl
 | cons a r ih =>
  rw [show setM (a :: r) = (a, true) :: setM r from rfl, look, ih];by_cases e : h = a
  · simp [e]
  · simp [e]
theorem mset_set (S : List Hs) (h : Hs) (hn : h ∉ S) : mset (setM S) h true = setM (S ++ [h]) := by
 induction S with
 | nil => rfl
 | cons a r ih =>
  rw [show setM (a :: r) = (a, true) :: setM r from rfl, mset, if_neg (fun e => hn (by simp [e])), ih fun q => hn (by simp [q])];rfl
def rMu (u k s t : Nat) : Nat := (u - s) * (k + 1) + t
def zbBEg3 := ai @toNat0 <| ai @Nat.sub_zero <| ai @hsG_len <| ai @List.length_append.{0} <| ai @List.length_singleton.{0} <| ai @List.length_cons.{0} <| ai @List.length_nil.{0} <| ai @true_imp_iff <| ai @kfind_h <| @v32
theorem gReached {F : FuncId} {caps : List GVal} {a b : GObj} (nx : Hs → List Hs) (hN : ∀ h : Hs, GCalls Try.prog F (.agg (bytesG h.1) :: caps) [a, b] (fun g O' => g = .slice (hsG (nx h)) .none ∧ O' = [a, b])) (ha : a.isClock = false)
 (l : List Hs) (t : Tag) (ht : t = .nil → l = []) (U : List Hs) (hU : ∀ x ∈ l, x ∈ U) (hnU : ∀ x ∈ U, ∀ y ∈ nx x, y ∈ U) (K : Nat) (hK : ∀ x ∈ U, (nx x).length ≤ K) (hUl : U.length ≤ 100000) (hKl : K ≤ 100000) (hl : l.length ≤ 1000000) :
 GCalls Try.prog 66 [.slice (hsG l) t, .func (.func F) [] caps] [a, b] (fun g O' => ∃ st S, g = .map 2 st ∧ O' = [a, b, .map st (kvG encB (setM S))] ∧ S.Nodup ∧ (∀ x, x ∈ S ↔ Reach nx l x) ∧ S.length ≤ U.length) := by
 have hcl : ∀ Y, clockOf (a :: Y) = none := fun Y => by cases a <;> first | rfl | cases ha
 have hst : ∀ (r : List GObj) (K : Nat → Prop), stamp (a :: r) K = ∀ st, K st := fun r K => by unfold stamp; rw [hcl]
 have htk : ∀ r : List GObj, tickO (a :: r) = a :: r := fun r => tickO_none (hcl r)
 refine GCalls.dropTo ?_
 refine h66.ca ?_
 refine vq2 hst htk ?_
 intro sm
 refine (GCalls.newUp (hClone l t (by omega) ht) (hcl _) (by rintro g O' (⟨_, rfl, rfl⟩ | ⟨st, rfl, rfl⟩) <;> rfl)).mono ?_
 rintro g O' ⟨g0, O1, hO, rfl, rfl⟩
 have inv0 : RInv nx U l [] l := ⟨List.nodup_nil, fun x hx => hU x (by simpa using hx), fun x hx => .inr hx, fun x hx => by simp at hx, fun x hx => .base x (by simpa using hx)⟩
 have mu1 : ∀ u s n : Nat, rMu u K s n < rMu u K s (n + 1) := fun u s n => by unfold rMu; omega
 have mu2 : ∀ u s n m : Nat, s < u → m ≤ K → rMu u K (s + 1) (n + m) < rMu u K s (n + 1) := fun u s n m h1 h2 => by
  unfold rMu;have : u - s = (u - (s + 1)) + 1 := by omega
  rw [this, Nat.add_mul]; omega
 refine vq2 hst htk ?_
 refine vcSLoop_by (ι := { p : (List Hs × List Hs) × (List Hs × Nat) // RInv nx U l p.1.1 p.1.2 ∧ p.1.2.length ≤ l.length + K * p.1.1.length }) (fun p => ⟨[.any, .func (.func F) [] caps, .any, .any, .any, .map 2 sm, .own 3 p.1.2.2 0 p.1.1.2.length] ++ List.replicate 30 .any, [a, b, .map sm (kvG encB (setM p.1.1.1)), .row p.1.2.2 32 (hsG (p.1.1.2 ++ p.1.2.1))]⟩) (fun p => rMu U.length K p.1.1.1.length p.1.1.2.length) ?_ ?_
 · rcases hO with ⟨rfl, rfl, rfl⟩ | ⟨v0, rfl, rfl⟩
   · refine Into.row 6 32 rfl rfl ?_;refine vq2 hst htk ?_;intro v;exact Into.first ⟨(([], []), ([], v)), inv0, by simp⟩ ⟨[], rfl⟩ (by simp [WL, leG_self, leG_any])
   · exact Into.first ⟨(([], l), ([], v0)), inv0, by simp⟩ ⟨[], by simp [kvG]⟩ (by simp [WL, leG_self, leG_any, GVal.up])
 · rintro ⟨⟨⟨S, todo⟩, ⟨Z, v⟩⟩, inv, hlen⟩
   change RInv nx U l S todo at inv
   change todo.length ≤ l.length + K * S.length at hlen
   have hSl := inv.len;have hKS : K * S.length ≤ 100000 * 100000 := Nat.mul_le_mul hKl (by omega);rcases List.eq_nil_or_concat todo with rfl | ⟨tt, x, e⟩
   · refine vq7 hst htk @Int.lt_irrefl @false_imp_iff @true_and @List.length_nil.{0} @Int.natCast_zero ?_;exact ⟨_, [a, b, .map sm (kvG encB (setM S))], _, rfl, leA_refl _, sm, S, rfl, rfl, inv.nodup, inv.fin, inv.len⟩
   · rw [List.concat_eq_append] at e;subst e;have d0 : ((0 : Int) < (tt.length : Int) + 1) = True := eq_true (by omega);have d1 : ((tt.length : Int) + 1 - 1).toNat = tt.length := by omega
     have eS : (hsG (tt ++ [x] ++ Z)).getD tt.length [] = bytesG x.1 := by
      rw [hsG_at _ _ (by simp)];simp [List.getD]
     have hl2 : tt.length + 1 ≤ l.length + K * S.length := by rw [List.length_append, List.length_singleton] at hlen; exact hlen
     have hxU : x ∈ U := inv.inU x (.inr (by simp));by_cases hx : x ∈ S
     · obtain ⟨i, hi, hv, _⟩ := look_idx encB (setM S) x true (by rw [look_set, if_pos hx]);refine vq8 hst htk d0 d1 eS hi hv zbBEg3 ?_;refine ⟨by omega, by omega, by omega, by omega, fun u => ⟨by omega, by omega, by omega, ?_⟩⟩;exact Into.at ⟨((S, tt), ([x] ++ Z, v)), inv.skip hx, by show tt.length ≤ l.length + K * S.length; omega⟩ (mu1 _ _ _) ⟨[.row u 32 [bytesG x.1]], by simp⟩ (by simp [WL, leG_self, leG_any])
     · obtain ⟨hi, hw⟩ := look_none encB (setM S) x (by rw [look_set, if_neg hx]);have hw := hw true;rw [mset_set S x hx] at hw;have cN := (hN x).keep2 ha;refine vq8 hst htk d0 d1 eS hi hw zbBEg3 ?_;have hkx := hK x hxU;refine ⟨by omega, by omega, by omega, by omega, fun u => ⟨by omega, by omega, by omega, ?_⟩⟩;refine (cN _).mono ?_;rintro g O' ⟨rfl, rfl⟩;refine vq1 (ai hst <| ai htk <| ai @toNat0 <| ai @Nat.sub_zero <| ai @hsG_len <| ai @all_hsG <| ai @List.length_append.{0} <| ai @List.length_singleton.{0} <| ai @List.length_cons.{0} <| ai @List.length_nil.{0} <| @true_imp_iff) ?_;refine ⟨by omega, by omega, by omega, fun v2 => ?_⟩;refine Into.at ⟨((S ++ [x], tt ++ nx x), ([], v2)), inv.go hx (hnU x hxU), ?_⟩ ?_ ⟨[.row u 32 [bytesG x.1]], ?_⟩ (by simp [WL, leG_self, leG_any])
       · show (tt ++ nx x).length ≤ l.length + K * (S ++ [x]).length;rw [List.length_append, List.length_append, List.length_singleton, Nat.mul_add, Nat.mul_one]; omega
       · show rMu _ K (S ++ [x]).length (tt ++ nx x).length < rMu _ K S.length (tt.length + 1);rw [List.length_append, List.length_append, List.length_singleton];refine mu2 _ _ _ _ ?_ hkx;have := (inv.go hx (hnU x hxU)).len;rw [List.length_append, List.length_singleton] at this;omega
       · show _ = [a, b, GObj.map sm (kvG encB (setM (S ++ [x]))), GObj.row v2 32 (hsG ((tt ++ nx x) ++ []))] ++ [GObj.row u 32 [bytesG x.1]];simp [hsG_app];exact List.take_left' (hsG_len tt)
end Gv.Try
