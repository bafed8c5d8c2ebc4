/- Operations that make memory: what they come to over ghost values. -/
import Derived.Test.YtcjiabpfahmjnaaGvStep
import Derived.Laws.Append
set_option linter.unusedVariables false
namespace Gv
open Go

def GVal.ofConst : Value → GVal
  | .bool b => .bool b
  | .int k n => .int k n
  | .string s => .str s.data.toList
  | .slice none 0 0 => .slice [] .nil
  | v => .lit v

theorem VR.ofConst (E : Env) (v : Value) : VR E v (.ofConst v) := by
  unfold GVal.ofConst
  split
  · exact .bool _
  · exact .int _ _
  · rename_i s
    have : (Value.string s) = .string ⟨s.data.toList.toArray⟩ := by simp
    rw [this]; exact .str _
  · exact .slice none 0 0 [] .nil 0 (fun _ => .tuple #[]) rfl (Nat.le_refl _) (by simp) (by simp) (by simp) ⟨rfl, rfl⟩
  · exact .lit _

/-- is it one cell for certain? -/
def GVal.solid : GVal → Bool
  | .bool _ | .ubool | .int _ _ | .str _ | .slice _ _ | .own _ _ _ _ | .ref _ | .ptr _ _ _ _ | .map _ _ | .func _ _ _ | .iface _ _ => true
  | .lit v => v.oneCell'
  | _ => false

theorem VR.one {E : Env} {v : Value} {g : GVal} (h : VR E v g) (hs : g.solid = true) : v.oneCell' = true := by
  cases h <;> first | rfl | exact hs | cases hs

/-- all its cells are -/
def GVal.okCells (g : GVal) : Prop := ∀ c ∈ g.cells, c.solid = true

theorem VR.cells {E : Env} {v : Value} {g : GVal} (h : VR E v g) (hs : g.okCells) :
    v.cells.size = g.cells.length ∧ ∀ (j : Nat) c, g.cells[j]? = some c → ∃ x, v.cells[j]? = some x ∧ x.oneCell' = true ∧ VR E x c := by
  have single : g.solid = true → g.cells = [g] → v.cells = #[v] → v.cells.size = g.cells.length ∧ ∀ (j : Nat) c, g.cells[j]? = some c → ∃ x, v.cells[j]? = some x ∧ x.oneCell' = true ∧ VR E x c := by
    intro h1 h2 h3
    rw [h2, h3]
    refine ⟨rfl, fun j c hj => ?_⟩
    cases j with
    | zero => simp at hj; subst hj; exact ⟨v, rfl, h.one h1, h⟩
    | succ j => simp at hj
  cases h with
  | agg vs cs hsz hc =>
    refine ⟨hsz, fun j c hj => ?_⟩
    have hlt : j < vs.size := by rw [hsz]; exact (List.getElem?_eq_some_iff.1 hj).1
    have hv := hc j c hj
    have e : vs.getD j (.tuple #[]) = vs[j] := by simp [Array.getD, hlt]
    rw [e] at hv
    exact ⟨vs[j], by simp [Value.cells, hlt], hv.one (hs c (List.mem_of_getElem? hj)), hv⟩
  | any v => exact absurd (hs .any (by simp [GVal.cells])) (by simp [GVal.solid])
  | tuple vs cs a b => exact absurd (hs (.tuple cs) (by simp [GVal.cells])) (by simp [GVal.solid])
  | cond c v g a => exact absurd (hs (.cond c g) (by simp [GVal.cells])) (by simp [GVal.solid])
  | lit v =>
    have h1 := hs (.lit v) (by simp [GVal.cells])
    refine single h1 rfl ?_
    cases v <;> first | rfl | (simp [GVal.solid, Value.oneCell'] at h1; done)
  | _ => exact single rfl rfl rfl

section
variable {P : Program} {E : Env} {O : List GObj} {w : World} {K : GVal → List GObj → Prop}

def zer (P : Program) (t : TypeId) : Option (List GVal) :=
  match P.info? t with
  | some i => i.zero.map fun z => z.cells.toList.map .ofConst
  | none => none

theorem zer_spec {t : TypeId} {cs : List GVal} (h : zer P t = some cs) : ∃ i z, P.info? t = some i ∧ i.zero = some z ∧ cs = z.cells.toList.map .ofConst := by
  unfold zer at h
  split at h
  · rename_i i hi
    cases hz : i.zero with
    | none => simp [hz] at h
    | some z => simp [hz] at h; exact ⟨i, z, hi, hz, h.symm⟩
  · cases h

theorem zeros_at (E : Env) (z : Value) (j : Nat) (c : GVal) (h : (z.cells.toList.map GVal.ofConst)[j]? = some c) : ∃ x, z.cells[j]? = some x ∧ VR E x c ∧ c = .ofConst x := by
  rw [List.getElem?_map] at h
  cases hx : z.cells.toList[j]? with
  | none => simp [hx] at h
  | some x => simp [hx] at h; exact ⟨x, by simpa using hx, h ▸ VR.ofConst E x, h.symm⟩

/-- a new variable -/
theorem newVar_sound {t : TypeId} {v : Value} {cs : List GVal} (h : HSim E O w) (hs : v.cells.size = cs.length)
    (hc : ∀ (j : Nat) c, cs[j]? = some c → ∃ x, v.cells[j]? = some x ∧ x.oneCell' = true ∧ VR E x c)
    (hk : stamp O fun st => K (.ptr O.length st 0 0) (tickO O ++ [.row st cs.length [cs]])) :
    ∃ w' E' O' g, (newVar t v).run P w = .ok ⟨w.heap.size, 0, none⟩ w' ∧ HSim E' O' w' ∧ Keep E O w E' O' w' ∧ VR E' (.pointer (some ⟨w.heap.size, 0, none⟩)) g ∧ K g O' := by
  obtain ⟨st, hk, hst, hnx, h, hkeep⟩ := h.stamp hk
  rw [← tickO_len O] at hk
  have hle := Env.addLoc_le ⟨some w.heap.size, 0, cs.length, cs.length⟩ hst
  obtain ⟨h1, h2⟩ := h.objNew (.cells v.cells t) (.row st cs.length [cs]) (l := ⟨some w.heap.size, 0, cs.length, cs.length⟩) hst hnx rfl trivial rfl
    ⟨_, Env.addLoc_self _ _ _, rfl, by simp, v.cells, t, alloc_new _ _, hs, by simp, fun j g hj => (by
      simp only [List.flatten_cons, List.flatten_nil, List.append_nil] at hj
      obtain ⟨x, hx, ho, hr⟩ := hc j g hj
      exact ⟨x, by simpa using hx, ho, hr.mono hle⟩), fun o => h.snap_new (Nat.le_refl _)⟩
    (by simp [GObj.blk, Env.addLoc_self])
  exact ⟨_, _, _, _, rfl, h1, hkeep.trans h2, .ptr _ _ _ st 0 0 _ (Env.addLoc_self _ _ _) rfl (by simp), hk⟩

/-- a new variable that is never written -/
theorem newVar_sealed {t : TypeId} {v : Value} {cs : List GVal} (h : HSim E O w) (hs : v.cells.size = cs.length)
    (hc : ∀ (j : Nat) c, cs[j]? = some c → ∃ x, v.cells[j]? = some x ∧ x.oneCell' = true ∧ VR E x c) (hk : K (.ref cs) O) :
    ∃ w' E' O' g, (newVar t v).run P w = .ok ⟨w.heap.size, 0, none⟩ w' ∧ HSim E' O' w' ∧ Keep E O w E' O' w' ∧ VR E' (.pointer (some ⟨w.heap.size, 0, none⟩)) g ∧ K g O' := by
  obtain ⟨h1, h2⟩ := h.sealNew v.cells t (fun j x hx => by
    have hlt : j < cs.length := by rw [← hs]; exact (Array.getElem?_eq_some_iff.1 hx).1
    obtain ⟨x', hx', ho, _⟩ := hc j cs[j] (by simp [hlt])
    rw [hx] at hx'; cases hx'; exact ho)
  refine ⟨_, _, _, _, rfl, h1, h2, .ref _ _ _ (fun j => v.cells.getD j (.tuple #[])) (fun j hj => ?_) (fun j g hj => ?_), hk⟩
  · obtain ⟨x, hx, _⟩ := hc j cs[j] (by simp [hj])
    simp [Env.sealNew, Array.getD_eq_getD_getElem?, hx]
  · obtain ⟨x, hx, _, hr⟩ := hc j g hj
    have e : v.cells.getD j (.tuple #[]) = x := by simp [Array.getD_eq_getD_getElem?, hx]
    rw [e]; exact hr.mono h2.ext

def allocV (P : Program) (t : TypeId) (O : List GObj) (K : GVal → List GObj → Prop) : Prop :=
  match zer P t with
  | some cs => (∀ c ∈ cs, c.solid = true) ∧ stamp O fun st => K (.ptr O.length st 0 0) (tickO O ++ [.row st cs.length [cs]])
  | none => False

theorem alloc_sound {t : TypeId} {old : Value} (h : HSim E O w) (hk : allocV P t O K) : SOK P (Instr.alloc t true old) E O w K := by
  unfold allocV at hk
  cases hz : zer P t with
  | none => simp [hz] at hk
  | some cs =>
    simp only [hz] at hk
    obtain ⟨i, z, hi, hzz, rfl⟩ := zer_spec hz
    obtain ⟨w', E', O', g, hrun, h1, h2, h3, h4⟩ := newVar_sound (P := P) (t := t) (v := z) (K := K) h (by simp) (fun j c hj => by
      obtain ⟨x, hx, hr, he⟩ := zeros_at E z j c hj
      exact ⟨x, hx, hr.one (hk.1 c (List.mem_of_getElem? hj)), hr⟩) hk.2
    refine ⟨_, w', E', O', g, ?_, h1, h2, h3, h4⟩
    simp [Instr.alloc, zeroValue, typeInfo, hi, hzz, hrun]

def boxV (ro : Bool) (g : GVal) (O : List GObj) (K : GVal → List GObj → Prop) : Prop :=
  g.okCells ∧ match ro with
  | true => K (.ref g.cells) O
  | false => stamp O fun st => K (.ptr O.length st 0 0) (tickO O ++ [.row st g.cells.length [g.cells]])

theorem box_sound {t : TypeId} {v : Value} {g : GVal} {ro : Bool} (h : HSim E O w) (hr : VR E v g) (hk : boxV ro g O K) : SOK P (Instr.box t v) E O w K := by
  obtain ⟨hok, hk⟩ := hk
  obtain ⟨hs, hc⟩ := hr.cells hok
  cases ro with
  | true =>
    obtain ⟨w', E', O', g', hrun, h1, h2, h3, h4⟩ := newVar_sealed (P := P) (t := t) (v := v) (K := K) h hs hc hk
    exact ⟨_, w', E', O', g', by simp [Instr.box, hrun], h1, h2, h3, h4⟩
  | false =>
    obtain ⟨w', E', O', g', hrun, h1, h2, h3, h4⟩ := newVar_sound (P := P) (t := t) (v := v) (K := K) h hs hc hk
    exact ⟨_, w', E', O', g', by simp [Instr.box, hrun], h1, h2, h3, h4⟩

/-! literals -/
def splice (cs : List GVal) (off : Nat) (xs : List GVal) : List GVal := cs.take off ++ xs ++ cs.drop (off + xs.length)

theorem foldl_set (off : Nat) : ∀ (vs : List Value) (k : Nat) (cells : Array Value),
    ((vs.zipIdx k).foldl (fun cs (c, j) => cs.setIfInBounds (off + j) c) cells).size = cells.size ∧
    ∀ j, ((vs.zipIdx k).foldl (fun cs (c, j) => cs.setIfInBounds (off + j) c) cells)[j]? =
      if off + k ≤ j ∧ j < off + k + vs.length ∧ j < cells.size then vs[j - (off + k)]? else cells[j]?
  | [], k, cells => by simp; intro j h1 h2; omega
  | v :: r, k, cells => by
    obtain ⟨h1, h2⟩ := foldl_set off r (k + 1) (cells.setIfInBounds (off + k) v)
    simp only [List.zipIdx_cons, List.foldl_cons]
    refine ⟨by simpa using h1, fun j => ?_⟩
    rw [h2 j]
    simp only [Array.size_setIfInBounds, List.length_cons]
    by_cases hj : j = off + k
    · subst hj
      by_cases hlt : off + k < cells.size
      · rw [if_neg (by omega), if_pos ⟨by omega, by omega, hlt⟩]
        simp [hlt]
      · rw [if_neg (by omega), if_neg (by omega)]
        rw [Array.getElem?_setIfInBounds]
        rw [if_pos rfl, if_neg hlt, Array.getElem?_eq_none (by omega)]
    · have e : (cells.setIfInBounds (off + k) v)[j]? = cells[j]? := Array.getElem?_setIfInBounds_ne (by omega)
      rw [e]
      by_cases hin : off + (k + 1) ≤ j ∧ j < off + (k + 1) + r.length ∧ j < cells.size
      · rw [if_pos hin, if_pos ⟨by omega, by omega, hin.2.2⟩]
        have : j - (off + k) = (j - (off + (k + 1))) + 1 := by omega
        rw [this, List.getElem?_cons_succ]
      · rw [if_neg hin, if_neg (by omega)]

/-- cells that stand for ghost cells -/
def CellsR (E : Env) (a : Array Value) (cs : List GVal) : Prop := a.size = cs.length ∧ ∀ (j : Nat) c, cs[j]? = some c → ∃ x, a[j]? = some x ∧ x.oneCell' = true ∧ VR E x c

theorem CellsR.splice {a : Array Value} {cs xs : List GVal} {vs : Array Value} {off : Nat} (h : CellsR E a cs) (hv : CellsR E vs xs) (hl : off + xs.length ≤ cs.length) :
    CellsR E (vs.zipIdx.foldl (fun cs (c, j) => cs.setIfInBounds (off + j) c) a) (splice cs off xs) := by
  obtain ⟨h1, h2⟩ := foldl_set off vs.toList 0 a
  have e : (vs.zipIdx.foldl (fun cs (c, j) => cs.setIfInBounds (off + j) c) a) = ((vs.toList.zipIdx 0).foldl (fun cs (c, j) => cs.setIfInBounds (off + j) c) a) := by
    rw [← Array.foldl_toList, Array.toList_zipIdx]
  rw [e]
  refine ⟨by rw [h1, h.1]; simp only [Gv.splice, List.length_append, List.length_take, List.length_drop]; omega, fun j c hj => ?_⟩
  rw [h2 j]
  have hvs : vs.toList.length = xs.length := by simpa using hv.1
  have ha := h.1
  by_cases hin : off ≤ j ∧ j < off + xs.length
  · rw [if_pos ⟨by omega, by omega, by omega⟩]
    have hj' : xs[j - off]? = some c := by
      unfold Gv.splice at hj
      rw [List.append_assoc, List.getElem?_append_right (by simp; omega), List.getElem?_append_left (by simp; omega)] at hj
      have : j - (List.take off cs).length = j - off := by simp; omega
      rwa [this] at hj
    obtain ⟨x, hx, ho, hr⟩ := hv.2 _ c hj'
    exact ⟨x, by simpa using hx, ho, hr⟩
  · rw [if_neg (by omega)]
    have hj' : cs[j]? = some c := by
      unfold Gv.splice at hj
      by_cases hlt : j < off
      · rw [List.append_assoc, List.getElem?_append_left (by simp; omega), List.getElem?_take_of_lt hlt] at hj
        exact hj
      · rw [List.getElem?_append_right (by simp; omega), List.getElem?_drop] at hj
        have e2 : off + xs.length + (j - (List.take off cs ++ xs).length) = j := by simp; omega
        rwa [e2] at hj
    exact h.2 j c hj'

/-- lay parts into cells: place i: offset and size -/
def fillG (place : Nat → Option (Nat × Nat)) : List GVal → List (Nat × GVal) → Option (List GVal)
  | cs, [] => some cs
  | cs, (i, g) :: r => match place i with
    | some (off, n) => if g.cells.length = n ∧ off + n ≤ cs.length then fillG place (splice cs off g.cells) r else none
    | none => none

theorem fill_sound (place : Nat → Option (Nat × Nat)) : ∀ (gs : List (Nat × GVal)) (vs : List (Nat × Value)) (cs : List GVal) (a : Array Value) (out : List GVal),
    CellsR E a cs → gs.map (·.1) = vs.map (·.1) → (∀ p ∈ gs, p.2.okCells) → (∀ (i : Nat) g v, gs[i]? = some g → vs[i]? = some v → VR E v.2 g.2) → fillG place cs gs = some out →
    ∃ b, Instr.fill place a vs = some b ∧ CellsR E b out
  | [], vs, cs, a, out, h, hm, _, _, hf => by
    cases vs with
    | nil => simp [fillG] at hf; subst hf; exact ⟨a, rfl, h⟩
    | cons _ _ => simp at hm
  | (i, g) :: r, vs, cs, a, out, h, hm, hok, hr, hf => by
    cases vs with
    | nil => simp at hm
    | cons p vr =>
      obtain ⟨i', v⟩ := p
      simp only [List.map_cons, List.cons.injEq] at hm
      obtain ⟨rfl, hm⟩ := hm
      simp only [fillG] at hf
      cases hp : place i with
      | none => simp [hp] at hf
      | some q =>
        obtain ⟨off, n⟩ := q
        simp only [hp] at hf
        split at hf
        · rename_i hc
          have hv : VR E v g := hr 0 _ _ rfl rfl
          have hcr : CellsR E v.cells g.cells := hv.cells (hok (i, g) (by simp))
          have h' := h.splice hcr (off := off) (by omega)
          obtain ⟨b, hb, hb2⟩ := fill_sound place r vr _ _ out h' hm (fun p hp => hok p (by simp [hp])) (fun k g v hg hv => hr (k + 1) g v (by simpa using hg) (by simpa using hv)) hf
          refine ⟨b, ?_, hb2⟩
          simp only [Instr.fill, hp]
          have hs1 := hcr.1
          have ha := h.1
          rw [if_neg (by simp; omega)]
          exact hb
        · cases hf

/-- the offset and size of a struct's field -/
def plc (P : Program) (t : TypeId) : Option (List (Nat × Nat) ⊕ Nat) :=
  match P.underlying t with
  | some (.struct fs) => if (fs.toList.all fun f => (P.info? f.type).isSome) = true then some (.inl (fs.toList.map fun f => (f.offset, ((P.info? f.type).map (·.size)).getD 0))) else none
  | some (.array _ e) => (P.info? e).map fun x => .inr x.size
  | _ => none
def place : List (Nat × Nat) ⊕ Nat → Nat → Option (Nat × Nat)
  | .inl l, i => l[i]?
  | .inr n, i => some (i * n, n)

def buildV (P : Program) (t : TypeId) (gs : List (Nat × GVal)) (K : GVal → Prop) : Prop :=
  match zer P t, plc P t with
  | some cs, some pl => (∀ c ∈ cs, c.solid = true) ∧ (∀ p ∈ gs, p.2.okCells) ∧ match fillG (place pl) cs gs with
    | some out => K (.agg out)
    | none => False
  | _, _ => False

theorem mapM_fields : ∀ (l : List Field), (∀ f ∈ l, (P.info? f.type).isSome = true) →
    (l.mapM (fun (f : Field) => (do pure (f.offset, ← Go.sizeOf f.type) : Sem (Nat × Nat)))).run P w = .ok (l.map fun f => (f.offset, ((P.info? f.type).map (·.size)).getD 0)) w
  | [], _ => by simp
  | f :: r, h => by
    obtain ⟨i, hi⟩ := Option.isSome_iff_exists.1 (h f (by simp))
    have ih := mapM_fields r (fun g hg => h g (by simp [hg]))
    simp only [List.mapM_cons, Sem.run_bind, Go.sizeOf, typeInfo, run_program, Result.andThen_ok, hi, Sem.run_pure, List.map_cons, Option.map_some, Option.getD_some]
    have ih' := ih
    simp only [Go.sizeOf, typeInfo] at ih'
    rw [ih']
    simp

theorem build_sound {t : TypeId} {gs : List (Nat × GVal)} {vs : Array (Nat × Value)} (h : HSim E O w) (hm : gs.map (·.1) = vs.toList.map (·.1))
    (hr : ∀ (i : Nat) g v, gs[i]? = some g → vs.toList[i]? = some v → VR E v.2 g.2)
    (hk : buildV P t gs (fun g => K g O)) : SOK P (Instr.build t vs) E O w K := by
  unfold buildV at hk
  cases hz : zer P t with
  | none => simp [hz] at hk
  | some cs =>
    cases hp : plc P t with
    | none => simp [hz, hp] at hk
    | some pl =>
      simp only [hz, hp] at hk
      obtain ⟨hs, hok, hk⟩ := hk
      split at hk
      · rename_i out hf
        obtain ⟨i, z, hi, hzz, rfl⟩ := zer_spec hz
        have hcr : CellsR E z.cells (z.cells.toList.map .ofConst) := ⟨by simp, fun j c hj => by
          obtain ⟨x, hx, hr, he⟩ := zeros_at E z j c hj
          exact ⟨x, hx, hr.one (hs c (List.mem_of_getElem? hj)), hr⟩⟩
        obtain ⟨b, hb, hbr⟩ := fill_sound (place pl) gs vs.toList _ _ out hcr hm hok hr hf
        refine .same (v := .agg b) ?_ h (.agg _ _ hbr.1 (fun j g hj => ?_)) hk
        · unfold plc at hp
          split at hp
          · rename_i fs hu
            split at hp
            · rename_i hall
              cases hp
              have htot : ∀ f ∈ fs.toList, (P.info? f.type).isSome = true := List.all_eq_true.1 hall
              have hmm := mapM_fields (P := P) (w := w) fs.toList htot
              have hmm2 : (fs.mapM (fun (f : Field) => (do pure (f.offset, ← Go.sizeOf f.type) : Sem (Nat × Nat)))).run P w = .ok (fs.map fun f => (f.offset, ((P.info? f.type).map (·.size)).getD 0)) w := by
                rw [Array.mapM_eq_mapM_toList]
                simp only [Sem.run_map, hmm, Result.andThen_ok]
                congr 1
                apply Array.ext'
                simp
              have hpl : (fun i => (fs.map fun f => (f.offset, ((P.info? f.type).map (·.size)).getD 0))[i]?) = place (.inl (fs.toList.map fun f => (f.offset, ((P.info? f.type).map (·.size)).getD 0))) := by
                funext k
                simp [place]
              simp only [Instr.build, Sem.run_bind, zeroValue, typeInfo, run_program, Result.andThen_ok, hi, hzz, Sem.run_pure, run_underlying hu]
              simp only [Go.sizeOf, typeInfo] at hmm2
              simp only [Go.sizeOf, typeInfo, hmm2, Result.andThen_ok, hpl, hb, Sem.run_pure]
            · cases hp
          · rename_i n e hu
            cases he : P.info? e with
            | none => simp [he] at hp
            | some x =>
              simp only [he, Option.map_some, Option.some.injEq] at hp
              subst hp
              simp only [Instr.build, Sem.run_bind, zeroValue, typeInfo, run_program, Result.andThen_ok, hi, hzz, Sem.run_pure, run_underlying hu, Go.sizeOf, he]
              have e2 : (fun i => some (i * x.size, x.size)) = place (.inr x.size) := rfl
              simp only [e2, hb, Sem.run_pure]
          · cases hp
        · obtain ⟨x, hx, _, hv⟩ := hbr.2 j g hj
          have e : b.getD j (.tuple #[]) = x := by simp [Array.getD_eq_getD_getElem?, hx]
          rw [e]; exact hv
      · exact hk.elim

end
end Gv
