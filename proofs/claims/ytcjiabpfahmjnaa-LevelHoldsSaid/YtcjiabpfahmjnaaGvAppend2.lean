/- append -/
import Derived.Test.YtcjiabpfahmjnaaGvAppend
import Derived.Test.YtcjiabpfahmjnaaGvSlice
import Derived.IntWalk
set_option linter.unusedVariables false
namespace Gv
open Go

section
variable {P : Program} {E : Env} {O : List GObj} {w : World} {K : GVal → List GObj → Prop}

def notInt (P : Program) (t : TypeId) : Bool :=
  match P.underlying t with
  | some (.slice _) => true
  | some .string => true
  | _ => false

def srcV (x : GVal) (O : List GObj) (K : List (List GVal) → Prop) : Prop :=
  match x with
  | .slice ys _ => K ys
  | .own o st off len => match O[o]? with
    | some (.row st' _ xs) => st = st' ∧ off + len ≤ xs.length ∧ K ((xs.drop off).take len)
    | _ => False
  | .str b => K (b.map fun c => [GVal.int .u8 c.toNat])
  | _ => False

structure SrcOK (P : Program) (E : Env) (w : World) (rx : Value) (sz : Nat) (ys : List (List GVal)) (news : List Value) : Prop where
  len : ∀ w' : World, (Builtin.lenOf rx).run P w' = .ok ys.length w'
  cells : ∀ w' : World, w'.heap = w.heap → (Builtin.firstCells sz ys.length rx).run P w' = .ok news.toArray w'
  size : news.length = ys.length * sz
  at_ : ∀ (j : Nat) g, ys.flatten[j]? = some g → ∃ v, news[j]? = some v ∧ v.oneCell' = true ∧ VR E v g

theorem rowNews {b o n : Nat} {cur : Array Value} {el : TypeId} (hw : w.heap[b]? = some (.cells cur el (0, 0))) (hfit : o + n ≤ cur.size) {w' : World} (hh : w'.heap = w.heap) :
    (loadCells ⟨b, o, none⟩ n).run P w' = .ok ((cur.toList.drop o).take n).toArray w' := by
  have e : n = ((cur.toList.drop o).take n).length := by simp; omega
  rw [show loadCells ⟨b, o, none⟩ n = loadCells ⟨b, o, none⟩ ((cur.toList.drop o).take n).length from by rw [← e]]
  refine run_loadCells_list w' _ _ (fun j v hj => ?_)
  rw [List.getElem?_take] at hj
  split at hj
  · rw [List.getElem?_drop] at hj
    simp only [add_at, World.cell?, hh, hw, Option.isSome_none, Bool.false_eq_true, if_false]
    simpa using hj
  · cases hj

theorem flat_single {α β : Type} (l : List α) (f : α → β) : (l.map fun c => [f c]).flatten = l.map f := by
  induction l with
  | nil => rfl
  | cons x r ih => simp [ih]

theorem src_sound {rx : Value} {x : GVal} {sz : Nat} {KS : List (List GVal) → Prop} (h : HSim E O w) (hx : VR E rx x) (hk : srcV x O (fun ys => (∀ y ∈ ys, y.length = sz) ∧ KS ys))
    (hstr : ∀ b, x = .str b → True) : ∃ ys news, KS ys ∧ (∀ y ∈ ys, y.length = sz) ∧ SrcOK P E w rx sz ys news := by
  unfold srcV at hk
  cases hx with
  | slice a len cap xs tag sz' c hlen hcap hsz ha hc htag =>
    simp only at hk
    obtain ⟨h1, hk⟩ := hk
    by_cases hne : xs = []
    · subst hne
      refine ⟨[], [], hk, h1, ⟨fun w' => by simp [Builtin.lenOf, hlen], fun w' _ => ?_, by simp, by simp⟩⟩
      cases a with
      | none => simp [Builtin.firstCells]
      | some a => simp [Builtin.firstCells, loadCells, loadCellsFrom]
    · obtain ⟨b, off, rfl, hs⟩ := ha hne
      have hpos : 0 < xs.length := List.length_pos_iff.2 hne
      have hszz : sz' = sz := by
        have hm : xs.getD 0 [] ∈ xs := mem_getD hpos
        rw [← h1 _ hm, ← hsz _ hm]
      subst hszz
      have hfl := flatten_len xs hsz
      have hnews : ∀ j, j < xs.length * sz' → ((List.range (xs.length * sz')).map c)[j]? = some (c j) := by intro j hj; simp [hj]
      refine ⟨xs, (List.range (xs.length * sz')).map c, hk, h1, ⟨fun w' => by simp [Builtin.lenOf, hlen], fun w' hh => ?_, by simp, fun j g hj => ?_⟩⟩
      · simp only [Builtin.firstCells]
        rw [run_loadCells w' _ _ c (fun j hj => by
          rw [add_at]
          have := h.sealed _ _ _ (hs j (by rw [hlen]; exact hj))
          simpa [World.cell?, hh] using this)]
      · have hjl : j < xs.length * sz' := by rw [← hfl]; exact (List.getElem?_eq_some_iff.1 hj).1
        exact ⟨c j, hnews j hjl, h.one _ _ _ (hs j (by rw [hlen]; exact hjl)), hc j g hj⟩
  | own a len cap o st i l hl hcap ha =>
    simp only at hk
    split at hk
    · rename_i st' sz' xs hO
      obtain ⟨rfl, hle, h1, hk⟩ := hk
      obtain ⟨l', hl', hls, hsz, hreal⟩ := h.real _ _ hO
      rw [hl] at hl'; cases hl'
      have hyl : ((xs.drop i).take len).length = len := by simp; omega
      by_cases hz : len = 0
      · subst hz
        refine ⟨_, [], hk, h1, ⟨fun w' => by simp [Builtin.lenOf], fun w' _ => ?_, by simp, by simp⟩⟩
        cases a with
        | none => simp [Builtin.firstCells]
        | some a => simp [Builtin.firstCells, loadCells, loadCellsFrom]
      · rcases ha with hc0 | ⟨b, hb, rfl, hfit⟩
        · omega
        · simp only [hb] at hreal
          obtain ⟨cur, el, hw, hcur, htot, hrows, hsnap⟩ := hreal
          have hszz : sz' = sz := by
            have hm : ((xs.drop i).take len).getD 0 [] ∈ (xs.drop i).take len := mem_getD (by omega)
            rw [← h1 _ hm, hsz _ (List.mem_of_mem_drop (List.mem_of_mem_take hm))]
          subst hszz
          have e1 : l.off + i * l.size + len * sz' ≤ cur.size := by
            have : len * l.size ≤ cap * l.size := Nat.mul_le_mul_right _ hcap
            rw [hls] at this hfit
            rw [hcur, hls]; omega
          have hfl : ((xs.drop i).take len).flatten = (xs.flatten.drop (i * sz')).take (len * sz') := by
            rw [flatten_take (sz := sz') _ _ (fun x hx => hsz x (List.mem_of_mem_drop hx)) (by simp; omega), flatten_drop _ _ hsz (by omega)]
          refine ⟨_, ((cur.toList.drop (l.off + i * l.size)).take (len * sz')), hk, h1, ⟨fun w' => by simp [Builtin.lenOf]; omega, fun w' hh => ?_, by rw [List.length_take, hyl, List.length_drop, Array.length_toList]; omega, fun j g hj => ?_⟩⟩
          · simp only [Builtin.firstCells, hyl]
            exact rowNews hw e1 hh
          · rw [hfl, List.getElem?_take] at hj
            split at hj
            · rename_i hjl
              rw [List.getElem?_drop] at hj
              obtain ⟨v, hv, ho, hr⟩ := hrows _ g hj
              refine ⟨v, ?_, ho, hr⟩
              rw [List.getElem?_take, if_pos hjl, List.getElem?_drop]
              have e : l.off + i * l.size + j = l.off + (i * sz' + j) := by rw [hls]; omega
              rw [e]; simpa using hv
            · cases hj
    · exact hk.elim
  | str s =>
    simp only at hk
    obtain ⟨h1, hk⟩ := hk
    have hss : (⟨s.toArray⟩ : ByteArray).size = s.length := by show s.toArray.size = _; simp
    have hfl := flat_single s fun c => GVal.int .u8 c.toNat
    by_cases hz : s = []
    · subst hz
      refine ⟨[], [], hk, by simp, ⟨fun w' => by simp [Builtin.lenOf]; rfl, fun w' _ => ?_, by simp, by simp⟩⟩
      simp [Builtin.firstCells]
    · have hsz1 : sz = 1 := by
        have hm : (s.map fun c => [GVal.int .u8 c.toNat]).getD 0 [] ∈ s.map fun c => [GVal.int .u8 c.toNat] := mem_getD (by simp; exact List.length_pos_iff.2 hz)
        rw [← h1 _ hm]
        obtain ⟨c, _, e⟩ := List.mem_map.1 hm
        rw [← e]; rfl
      subst hsz1
      refine ⟨_, s.map fun c => Value.int .u8 c.toNat, hk, h1, ⟨fun w' => by simp [Builtin.lenOf, hss], fun w' _ => ?_, by simp, fun j g hj => ?_⟩⟩
      · simp only [Builtin.firstCells, List.length_map]
        have : ((⟨s.toArray⟩ : ByteArray).extract 0 s.length).data = s.toArray := by
          simp [ByteArray.data_extract]
        rw [this]
        simp
      · rw [hfl, List.getElem?_map] at hj
        cases hc : s[j]? with
        | none => simp [hc] at hj
        | some c =>
          simp [hc] at hj
          subst hj
          exact ⟨.int .u8 c.toNat, by simp [hc], rfl, .int _ _⟩
  | _ => exact hk.elim

theorem notInt_spec {t : TypeId} (h : notInt P t = true) : (∃ e, P.underlying t = some (.slice e)) ∨ P.underlying t = some .string := by
  unfold notInt at h
  split at h
  · rename_i e hd; exact .inl ⟨e, hd⟩
  · rename_i hd; exact .inr hd
  · cases h

/-- append where there is room -/
theorem run_fits {sT xT ty e : TypeId} {i : TypeInfo} {rx : Value} {sz : Nat} {ys : List (List GVal)} {news : List Value} (hu : P.underlying sT = some (.slice e)) (hi : P.info? e = some i) (hsz : i.size = sz)
    (hx : notInt P xT = true) (hs : SrcOK P E w rx sz ys news) {base : Option Addr} {sLen sCap : Nat} (hfit : sLen + ys.length ≤ sCap) {w' : World}
    (hst : match base with | some a => (storeCells (a.add (sLen * sz)) news).run P w = .ok () w' | none => w' = w) :
    (Builtin.append_ #[sT, xT] ty #[.slice base sLen sCap, rx]).run P w = .ok (.slice base (sLen + ys.length) sCap) w' := by
  rcases notInt_spec hx with ⟨e', hd⟩ | hd
  all_goals
    have hc := hs.cells w rfl
    cases base with
    | none => subst hst; simp [Builtin.append_, run_underlying hu, run_underlying hd, Go.sizeOf, typeInfo, hi, hsz, hs.len, hfit, hc]
    | some a =>
      simp only at hst
      simp [Builtin.append_, run_underlying hu, run_underlying hd, Go.sizeOf, typeInfo, hi, hsz, hs.len, hfit, hc, hst]

/-- append where it must grow -/
theorem run_grows {sT xT ty e : TypeId} {i : TypeInfo} {z : Value} {rx : Value} {sz : Nat} {ys : List (List GVal)} {news olds : List Value} (hu : P.underlying sT = some (.slice e)) (hi : P.info? e = some i) (hsz : i.size = sz)
    (hz : i.zero = some z) (hzs : z.cells.size = sz) (hx : notInt P xT = true) (hs : SrcOK P E w rx sz ys news) {base : Option Addr} {sLen sCap : Nat} (hgt : sCap < sLen + ys.length)
    (hold : ∀ w' : World, w'.heap = w.heap → (Builtin.firstCells sz sLen (.slice base sLen sCap)).run P w' = .ok olds.toArray w')
    (hroom : (sLen + ys.length) * i.bytes ≤ 140737488355328) (hmax : sLen + ys.length ≤ 4611686018427387904) :
    ∃ cap rest, sLen + ys.length ≤ cap ∧ rest.size = (cap - (sLen + ys.length)) * sz ∧
      (Builtin.append_ #[sT, xT] ty #[.slice base sLen sCap, rx]).run P w = .ok (.slice (some ⟨w.heap.size, 0, none⟩) (sLen + ys.length) cap) (w.drew.alloc (.cells (olds.toArray ++ news.toArray ++ rest) e)) := by
  refine ⟨grownCap w (sLen + ys.length) sCap e, Builtin.zeroCells z.cells (grownCap w (sLen + ys.length) sCap e - (sLen + ys.length)), ?_, ?_, ?_⟩
  · simp only [grownCap, Question.cut]; omega
  · simp [Builtin.zeroCells, hzs]
  · have h48 : ¬ (281474976710656 < Builtin.nextslicecap (sLen + ys.length) sCap * i.bytes) := by have := growslice_fits hgt hroom; omega
    have hn : ¬ (sLen + ys.length ≤ sCap) := by omega
    have h63' : ¬ ((9223372036854775807 : Int) < (sLen : Int) + (ys.length : Int)) := by omega
    have hc1 := hs.cells w.drew rfl
    have hc2 := hold w.drew rfl
    rcases notInt_spec hx with ⟨e', hd⟩ | hd <;> simp [Builtin.append_, run_underlying hu, run_underlying hd, Go.sizeOf, typeInfo, hi, hsz, hs.len, hn, h63', h48, Question.forced, hc1, hc2, zeroValue, hz, newRow, grownCap]
    all_goals (rw [← Array.append_assoc]; simp)

/-- what is appended, whatever it comes from -/
structure AppOK (P : Program) (E : Env) (w : World) (sT xT ty : TypeId) (e : TypeId) (by_ : Nat) (z rx : Value) (sz : Nat) (ys : List (List GVal)) (news : List Value) : Prop where
  size : news.length = ys.length * sz
  at_ : ∀ (j : Nat) g, ys.flatten[j]? = some g → ∃ v, news[j]? = some v ∧ v.oneCell' = true ∧ VR E v g
  fits : ∀ {base : Option Addr} {sLen sCap : Nat} {w' : World}, sLen + ys.length ≤ sCap → (match base with | some a => (storeCells (a.add (sLen * sz)) news).run P w = .ok () w' | none => w' = w) →
    (Builtin.append_ #[sT, xT] ty #[.slice base sLen sCap, rx]).run P w = .ok (.slice base (sLen + ys.length) sCap) w'
  grows : ∀ {base : Option Addr} {sLen sCap : Nat} {olds : List Value}, sCap < sLen + ys.length → (∀ w' : World, w'.heap = w.heap → (Builtin.firstCells sz sLen (.slice base sLen sCap)).run P w' = .ok olds.toArray w') →
    (sLen + ys.length) * by_ ≤ 140737488355328 → sLen + ys.length ≤ 4611686018427387904 →
    ∃ cap rest, sLen + ys.length ≤ cap ∧ rest.size = (cap - (sLen + ys.length)) * sz ∧
      (Builtin.append_ #[sT, xT] ty #[.slice base sLen sCap, rx]).run P w = .ok (.slice (some ⟨w.heap.size, 0, none⟩) (sLen + ys.length) cap) (w.drew.alloc (.cells (olds.toArray ++ news.toArray ++ rest) e))

theorem SrcOK.app {sT xT ty e : TypeId} {i : TypeInfo} {z rx : Value} {sz : Nat} {ys : List (List GVal)} {news : List Value} (hs : SrcOK P E w rx sz ys news) (hu : P.underlying sT = some (.slice e)) (hi : P.info? e = some i) (hsz : i.size = sz)
    (hz : i.zero = some z) (hzs : z.cells.size = sz) (hx : notInt P xT = true) : AppOK P E w sT xT ty e i.bytes z rx sz ys news :=
  ⟨hs.size, hs.at_, fun h1 h2 => run_fits hu hi hsz hx hs h1 h2, fun h1 h2 h3 h4 => run_grows hu hi hsz hz hzs hx hs h1 h2 h3 h4⟩

/-- zeros are appended -/
theorem zeros_app {sT xT ty e : TypeId} {i : TypeInfo} {z : Value} {sz : Nat} {q : IntKind} {n : Int} {cs : List GVal} (hu : P.underlying sT = some (.slice e)) (hi : P.info? e = some i) (hsz : i.size = sz)
    (hz : i.zero = some z) (hzs : z.cells.size = sz) (hcs : cs = z.cells.toList.map .ofConst) (hso : ∀ c ∈ cs, c.solid = true) (hx : P.underlying xT = some (.int q)) (h0 : 0 ≤ n) (hn : n ≤ 4611686018427387904) (hby : n * i.bytes ≤ 281474976710656) :
    AppOK P E w sT xT ty e i.bytes z (.int .i64 n) sz (List.replicate n.toNat cs) (List.replicate n.toNat z.cells.toList).flatten := by
  have hlen : (List.replicate n.toNat cs).length = n.toNat := by simp
  have hnews : (List.replicate n.toNat z.cells.toList).flatten.length = n.toNat * sz := by simp [hzs]
  have hwrap : IntKind.i64.wrap n = n := IntWalk.i64_in n (by omega)
  have hneg : ¬ n < 0 := by omega
  have h48 : ¬ (281474976710656 < n * (i.bytes : Int)) := by omega
  have hzc : Builtin.zeroCells z.cells n.toNat = (List.replicate n.toNat z.cells.toList).flatten.toArray := by
    apply Array.ext'
    rw [Builtin.zeroCells, flat_replicate]
  have hnil : n.toNat * sz = 0 → (List.replicate n.toNat z.cells.toList).flatten = [] := fun h => List.length_eq_zero_iff.1 (by rw [hnews]; exact h)
  refine ⟨by rw [hnews, hlen], fun j g hj => ?_, fun {base sLen sCap w'} hfit hst => ?_, fun {base sLen sCap olds} hgt hold hroom hmax => ?_⟩
  · have e1 : (List.replicate n.toNat cs).flatten = (List.replicate n.toNat z.cells.toList).flatten.map .ofConst := by
      rw [hcs, List.map_flatten, List.map_replicate]
    have hmem : g ∈ cs := by
      have := List.mem_of_getElem? hj
      obtain ⟨l, hl, hg⟩ := List.mem_flatten.1 this
      rw [List.eq_of_mem_replicate hl] at hg; exact hg
    rw [e1, List.getElem?_map] at hj
    cases hv : (List.replicate n.toNat z.cells.toList).flatten[j]? with
    | none => rw [hv] at hj; cases hj
    | some v =>
      rw [hv] at hj
      simp only [Option.map_some, Option.some.injEq] at hj
      have hr := VR.ofConst E v
      rw [hj] at hr
      exact ⟨v, rfl, hr.one (hso g hmem), hr⟩
  · rw [hlen] at hfit ⊢
    by_cases hns : n.toNat * sz = 0
    · rw [hnil hns] at hst
      cases base with
      | none => subst hst; simp only [Builtin.append_]; simp [run_underlying hu, run_underlying hx, Go.sizeOf, typeInfo, hi, hsz, asInt, asIntOf, hwrap, hneg, h48, hfit, hns]
      | some a =>
        simp only at hst
        simp only [Builtin.append_]
        simp [run_underlying hu, run_underlying hx, Go.sizeOf, typeInfo, hi, hsz, asInt, asIntOf, hwrap, hneg, h48, hfit, hns, hst]
    · cases base with
      | none => subst hst; simp only [Builtin.append_]; simp [run_underlying hu, run_underlying hx, Go.sizeOf, typeInfo, hi, asInt, asIntOf, hwrap, hneg, h48, hfit, zeroValue, hz]
      | some a =>
        simp only at hst
        simp only [Builtin.append_]
        simp [run_underlying hu, run_underlying hx, Go.sizeOf, typeInfo, hi, hsz, asInt, asIntOf, hwrap, hneg, h48, hfit, hns, zeroValue, hz, hzc, hst]
  · rw [hlen] at hgt hroom hmax ⊢
    refine ⟨grownCap w (sLen + n.toNat) sCap e, Builtin.zeroCells z.cells (grownCap w (sLen + n.toNat) sCap e - (sLen + n.toNat)), ?_, ?_, ?_⟩
    · simp only [grownCap, Question.cut]; omega
    · simp [Builtin.zeroCells, hzs]
    · have h48' : ¬ (281474976710656 < Builtin.nextslicecap (sLen + n.toNat) sCap * i.bytes) := by have := growslice_fits hgt hroom; omega
      have hnf : ¬ (sLen + n.toNat ≤ sCap) := by omega
      have h63' : ¬ ((9223372036854775807 : Int) < (sLen : Int) + (n.toNat : Int)) := by omega
      have h63'' : ¬ ((9223372036854775807 : Int) < (sLen : Int) + max n 0) := by omega
      have hc2 := hold w.drew rfl
      by_cases hns : n.toNat * sz = 0
      · rw [hnil hns]
        simp only [Builtin.append_]
        simp [run_underlying hu, run_underlying hx, Go.sizeOf, typeInfo, hi, hsz, asInt, asIntOf, hwrap, hneg, h48, hnf, h63'', h48', Question.forced, hc2, zeroValue, hz, newRow, grownCap, hns]
      · simp only [Builtin.append_]
        simp [run_underlying hu, run_underlying hx, Go.sizeOf, typeInfo, hi, hsz, asInt, asIntOf, hwrap, hneg, h48, hnf, h63'', h48', Question.forced, hc2, zeroValue, hz, newRow, grownCap, hns, hzc]
        rw [← Array.append_assoc]; simp

/-- what is appended: a slice's elements, a string's bytes, a number of zeros -/
def asrcV (P : Program) (xT : TypeId) (by_ : Nat) (cs : List GVal) (x : GVal) (O : List GObj) (K : List (List GVal) → Prop) : Prop :=
  match notInt P xT with
  | true => srcV x O K
  | false => (match P.underlying xT with | some (.int _) => true | _ => false) = true ∧ (∀ c ∈ cs, c.solid = true) ∧ match x with
    | .int .i64 n => 0 ≤ n ∧ n ≤ 4611686018427387904 ∧ n * by_ ≤ 281474976710656 ∧ K (List.replicate n.toNat cs)
    | _ => False

theorem asrc_sound {sT xT ty e : TypeId} {i : TypeInfo} {z rx : Value} {x : GVal} {sz : Nat} {cs : List GVal} {KS : List (List GVal) → Prop} (h : HSim E O w) (hu : P.underlying sT = some (.slice e)) (hi : P.info? e = some i) (hsz : i.size = sz)
    (hz : i.zero = some z) (hzs : z.cells.size = sz) (hcs : cs = z.cells.toList.map .ofConst) (hx : VR E rx x) (hk : asrcV P xT i.bytes cs x O (fun ys => (∀ y ∈ ys, y.length = sz) ∧ KS ys)) :
    ∃ ys news, KS ys ∧ (∀ y ∈ ys, y.length = sz) ∧ ∀ w' : World, w'.heap = w.heap → AppOK P E w' sT xT ty e i.bytes z rx sz ys news := by
  unfold asrcV at hk
  split at hk
  · rename_i hni
    obtain ⟨ys, news, h1, h2, h3⟩ := src_sound (P := P) h hx hk (fun _ _ => trivial)
    exact ⟨ys, news, h1, h2, fun w' hw => SrcOK.app ⟨h3.len, fun w2 h => h3.cells w2 (h.trans hw), h3.size, h3.at_⟩ hu hi hsz hz hzs hni⟩
  · obtain ⟨hq, hso, hk⟩ := hk
    split at hq
    · rename_i q hxT
      split at hk
      · rename_i n
        obtain ⟨h0, hn, hb, h1, h2⟩ := hk
        have hrx : rx = .int .i64 n := by cases hx; rfl
        subst hrx
        exact ⟨_, _, h2, h1, fun w' _ => zeros_app hu hi hsz hz hzs hcs hso hxT h0 hn hb⟩
      · exact hk.elim
    · cases hq

end
end Gv
