/- Operations that read: what they come to over ghost values. -/
import Derived.Test.YtcjiabpfahmjnaaGvBase
import Derived.Laws.Cells
import Derived.Laws.CopyRow
set_option linter.unusedVariables false
namespace Gv
open Go

/-- what an operation that yields a value comes to -/
def SOK (P : Program) (s : Sem Value) (E : Env) (O : List GObj) (w : World) (K : GVal → List GObj → Prop) : Prop :=
  ∃ v w' E' O' g, s.run P w = .ok v w' ∧ HSim E' O' w' ∧ Keep E O w E' O' w' ∧ VR E' v g ∧ K g O'

section
variable {P : Program} {E : Env} {O : List GObj} {w : World} {K : GVal → List GObj → Prop}

theorem SOK.same {s : Sem Value} {v : Value} {g : GVal} (hs : s.run P w = .ok v w) (h : HSim E O w) (hv : VR E v g) (hk : K g O) : SOK P s E O w K :=
  ⟨v, w, E, O, g, hs, h, .refl E O w, hv, hk⟩

/-! types -/
def tab (P : Program) (t : TypeId) : Option (Nat × Bool) :=
  match P.info? t, P.underlying t with
  | some i, some (.struct _) => some (i.size, true)
  | some i, some (.array _ _) => some (i.size, true)
  | some i, some _ => some (i.size, false)
  | _, _ => none

theorem tab_spec {t : TypeId} {n : Nat} {ag : Bool} (h : tab P t = some (n, ag)) (w : World) :
    (Go.sizeOf t).run P w = .ok n w ∧ (isAgg t).run P w = .ok ag w := by
  unfold tab at h
  cases hi : P.info? t with
  | none => simp [hi] at h
  | some i =>
    cases hu : P.underlying t with
    | none => simp [hi, hu] at h
    | some d =>
      have e : i.size = n := by cases d <;> simp [hi, hu] at h <;> exact h.1
      constructor
      · simp [Go.sizeOf, typeInfo, hi, e]
      · cases d <;> simp [hi, hu] at h <;> simp [isAgg, run_underlying hu, h.2]

/-- field f of a struct type: offset, size, is it an aggregate? -/
def fld (P : Program) (s : TypeId) (f : Nat) : Option (Nat × Nat × Bool) :=
  match P.underlying s with
  | some (.struct fs) => match fs[f]? with
    | some x => match tab P x.type with
      | some (n, ag) => if n = 0 then none else some (x.offset, n, ag)
      | none => none
    | none => none
  | _ => none

theorem fld_spec {s : TypeId} {f off n : Nat} {ag : Bool} (h : fld P s f = some (off, n, ag)) :
    ∃ fs x, P.underlying s = some (.struct fs) ∧ fs[f]? = some x ∧ x.offset = off ∧ tab P x.type = some (n, ag) ∧ n ≠ 0 := by
  unfold fld at h
  split at h
  · rename_i fs hu
    split at h
    · rename_i x hx
      split at h
      · rename_i n' ag' ht
        split at h
        · cases h
        · rename_i hn
          cases h
          exact ⟨fs, x, hu, hx, rfl, ht, hn⟩
      · cases h
    · cases h
  · cases h

/-- the elements of a slice type: their size, are they aggregates? -/
def els (P : Program) (t : TypeId) : Option (Nat × Bool) :=
  match P.underlying t with
  | some (.slice e) => tab P e
  | _ => none

theorem els_spec {t : TypeId} {n : Nat} {ag : Bool} (h : els P t = some (n, ag)) : ∃ e, P.underlying t = some (.slice e) ∧ tab P e = some (n, ag) := by
  unfold els at h
  split at h
  · rename_i e hu; exact ⟨e, hu, h⟩
  · cases h

/-- an array type: how long, its elements' size, are they aggregates? -/
def arr (P : Program) (t : TypeId) : Option (Nat × Nat × Bool) :=
  match P.underlying t with
  | some (.array len e) => match tab P e with
    | some (n, ag) => some (len, n, ag)
    | none => none
  | _ => none

theorem arr_spec {t : TypeId} {len n : Nat} {ag : Bool} (h : arr P t = some (len, n, ag)) : ∃ e, P.underlying t = some (.array len e) ∧ tab P e = some (n, ag) := by
  unfold arr at h
  split at h
  · rename_i l e hu
    split at h
    · rename_i n' ag' ht; cases h; exact ⟨e, hu, ht⟩
    · cases h
  · cases h

def grp (ag : Bool) (cs : List GVal) : GVal := match ag with
  | true => .agg cs
  | false => cs.headD .any

theorem add_at (b off n : Nat) : (⟨b, off, none⟩ : Addr).add n = ⟨b, off + n, none⟩ := by
  unfold Addr.add; split <;> simp_all

/-- a load of n cells that are there -/
theorem load_run {t : TypeId} {n : Nat} {ag : Bool} (ht : tab P t = some (n, ag)) (hn : ag = false → n = 1) {b off : Nat} {cs : List GVal} (c : Nat → Value)
    (hl : n ≤ cs.length) (hcell : ∀ j, j < n → w.cell? ⟨b, off + j, none⟩ = some (c j)) (hc : ∀ j g, cs[j]? = some g → j < n → VR E (c j) g) :
    ∃ v, (Instr.loadAt t (.pointer (some ⟨b, off, none⟩))).run P w = .ok v w ∧ VR E v (grp ag (cs.take n)) := by
  obtain ⟨h1, h2⟩ := tab_spec ht w
  cases ag with
  | true =>
    refine ⟨.agg ((List.range n).map c).toArray, ?_, .agg _ _ ?_ ?_⟩
    · simp only [Instr.loadAt, Instr.sureAddr, loadVar, Sem.run_bind, Sem.run_pure, Result.andThen_ok, h2, h1, if_true]
      rw [run_loadCells w _ n c (fun j hj => by rw [add_at]; exact hcell j hj)]
      simp
    · simp; omega
    · intro j g hj
      rw [List.getElem?_take] at hj
      split at hj
      · rename_i hjn
        have := hc j g hj hjn
        simpa [Array.getD, hjn] using this
      · cases hj
  | false =>
    have hn1 := hn rfl
    subst hn1
    refine ⟨c 0, ?_, ?_⟩
    · simp only [Instr.loadAt, Instr.sureAddr, loadVar, Sem.run_bind, Sem.run_pure, Result.andThen_ok, h2]
      have := hcell 0 (by omega)
      simp only [Nat.add_zero] at this
      simp [this]
    · cases cs with
      | nil => simp at hl
      | cons x r => exact hc 0 x rfl (by omega)

def loadV (P : Program) (t : TypeId) (g : GVal) (O : List GObj) (K : GVal → Prop) : Prop :=
  match tab P t with
  | some (n, ag) => (ag = false → n = 1) ∧ match g with
    | .ref cs => n ≤ cs.length ∧ K (grp ag (cs.take n))
    | .ptr o st i j => match O[o]? with
      | some (.row st' _ xs) => st = st' ∧ i < xs.length ∧ j + n ≤ (xs.getD i []).length ∧ K (grp ag (((xs.getD i []).drop j).take n))
      | _ => False
    | _ => False
  | none => False

theorem flatten_at {α : Type} {sz : Nat} : ∀ (xs : List (List α)), (∀ x ∈ xs, x.length = sz) → ∀ (i j : Nat) (x : List α), xs[i]? = some x → j < sz → xs.flatten[i * sz + j]? = x[j]?
  | [], _, i, j, x, h, _ => by simp at h
  | y :: r, hs, i, j, x, h, hj => by
    have hy : y.length = sz := hs y (by simp)
    cases i with
    | zero =>
      simp at h; subst h
      simp only [List.flatten_cons, Nat.zero_mul, Nat.zero_add]
      rw [List.getElem?_append_left (by omega)]
    | succ i =>
      simp only [List.getElem?_cons_succ] at h
      have e : (i + 1) * sz + j = y.length + (i * sz + j) := by rw [hy, Nat.succ_mul]; omega
      simp only [List.flatten_cons]
      rw [e, List.getElem?_append_right (by omega), Nat.add_sub_cancel_left]
      exact flatten_at r (fun x hx => hs x (by simp [hx])) i j x h hj

theorem flatten_len {α : Type} {sz : Nat} : ∀ (xs : List (List α)), (∀ x ∈ xs, x.length = sz) → xs.flatten.length = xs.length * sz
  | [], _ => by simp
  | y :: r, h => by
    have := flatten_len r (fun x hx => h x (by simp [hx]))
    simp only [List.flatten_cons, List.length_append, List.length_cons, this, h y (by simp), Nat.succ_mul]; omega

theorem getD_of {α : Type} {xs : List α} {i : Nat} {d : α} (h : i < xs.length) : xs[i]? = some (xs.getD i d) := by
  simp [List.getD, List.getElem?_eq_getElem h]

theorem mem_getD {α : Type} {xs : List α} {i : Nat} {d : α} (h : i < xs.length) : xs.getD i d ∈ xs :=
  List.mem_of_getElem? (getD_of h)

/-- the cells of an element of a row -/
theorem row_cell {l : GLoc} {cur : Array Value} {xs : List (List GVal)} {sz : Nat} (hr : RowsAt E l cur xs) (hsz : ∀ x ∈ xs, x.length = sz) {i j : Nat} (hi : i < xs.length)
    {g : GVal} (hj : (xs.getD i [])[j]? = some g) : ∃ v, cur[l.off + (i * sz + j)]? = some v ∧ v.oneCell' = true ∧ VR E v g := by
  have hx : (xs.getD i []).length = sz := hsz _ (mem_getD hi)
  have hjs : j < sz := by rw [← hx]; exact (List.getElem?_eq_some_iff.1 hj).1
  exact hr (i * sz + j) g (by rw [flatten_at xs hsz i j _ (getD_of hi) hjs]; exact hj)

theorem load_val {t : TypeId} {r : Value} {g : GVal} {K : GVal → Prop} (h : HSim E O w) (hr : VR E r g) (hk : loadV P t g O K) :
    ∃ v g', (Instr.loadAt t r).run P w = .ok v w ∧ VR E v g' ∧ K g' := by
  unfold loadV at hk
  cases ht : tab P t with
  | none => simp [ht] at hk
  | some p =>
    obtain ⟨n, ag⟩ := p
    simp only [ht] at hk
    obtain ⟨hn, hk⟩ := hk
    cases hr with
    | ref b off cs c ha hc =>
      simp only at hk
      obtain ⟨hl, hk⟩ := hk
      obtain ⟨v, hrun, hv⟩ := load_run (P := P) (w := w) (E := E) ht hn (b := b) (off := off) (cs := cs) c hl (fun j hj => h.sealed _ _ _ (ha j (by omega))) (fun j g hj _ => hc j g hj)
      exact ⟨_, _, hrun, hv, hk⟩
    | ptr b off o st i j l hl hb ho =>
      simp only at hk
      split at hk
      · rename_i st' sz xs hO
        obtain ⟨rfl, hi, hjn, hk⟩ := hk
        obtain ⟨l', hl', hls, hsz, hreal⟩ := h.real _ _ hO
        rw [hl] at hl'; cases hl'
        simp only [hb] at hreal
        obtain ⟨cur, el, hw, hcs, htot, hrows, hseal⟩ := hreal
        have hx : (xs.getD i []).length = sz := hsz _ (mem_getD hi)
        have key : ∀ k, k < n → ∃ v, cur[l.off + (i * sz + (j + k))]? = some v ∧ ∀ g, (xs.getD i [])[j + k]? = some g → VR E v g := by
          intro k hk
          have hlt : j + k < (xs.getD i []).length := by omega
          obtain ⟨v, hv, _, hr⟩ := row_cell hrows hsz hi (getD_of (d := GVal.any) hlt)
          refine ⟨v, hv, fun g hg => ?_⟩
          rw [getD_of (d := GVal.any) hlt] at hg; cases hg; exact hr
        have hcell : ∀ k, k < n → w.cell? ⟨b, off + k, none⟩ = some (cur.getD (l.off + (i * sz + (j + k))) undef) := by
          intro k hk
          obtain ⟨v, hv, _⟩ := key k hk
          have e : off + k = l.off + (i * sz + (j + k)) := by rw [ho, ← hls]; omega
          simp only [World.cell?, hw, Option.isSome_none, Bool.false_eq_true, if_false, e]
          simp [Array.getD_eq_getD_getElem?, hv]
        obtain ⟨v, hrun, hv⟩ := load_run (P := P) (w := w) (E := E) ht hn (b := b) (off := off) (cs := (xs.getD i []).drop j) (fun k => cur.getD (l.off + (i * sz + (j + k))) undef)
          (by simp only [List.length_drop]; omega) hcell (fun k g hg hkn => by
            rw [List.getElem?_drop] at hg
            obtain ⟨v, hv, hr⟩ := key k hkn
            have e : cur.getD (l.off + (i * sz + (j + k))) undef = v := by simp [Array.getD_eq_getD_getElem?, hv]
            rw [e]
            exact hr g hg)
        exact ⟨_, _, hrun, hv, hk⟩
      · exact hk.elim
    | _ => exact hk.elim

theorem load_sound {t : TypeId} {r : Value} {g : GVal} (h : HSim E O w) (hr : VR E r g) (hk : loadV P t g O (fun g => K g O)) :
    SOK P (Instr.loadAt t r) E O w K := by
  obtain ⟨v, g', h1, h2, h3⟩ := load_val h hr hk
  exact .same h1 h h2 h3

def fieldAddrV (P : Program) (s : TypeId) (g : GVal) (f : Nat) (K : GVal → Prop) : Prop :=
  match fld P s f with
  | some (off, _, _) => match g with
    | .ref cs => off ≤ cs.length ∧ K (.ref (cs.drop off))
    | .ptr o st i j => K (.ptr o st i (j + off))
    | _ => False
  | none => False

theorem VR.ref_drop {b off : Nat} {cs : List GVal} (h : VR E (.pointer (some ⟨b, off, none⟩)) (.ref cs)) (n : Nat) (hn : n ≤ cs.length) : VR E (.pointer (some ⟨b, off + n, none⟩)) (.ref (cs.drop n)) := by
  cases h with
  | ref b off cs c ha hc =>
    refine .ref _ _ _ (fun j => c (n + j)) (fun j hj => ?_) (fun j g hj => ?_)
    · simp only [List.length_drop] at hj
      rw [Nat.add_assoc]; exact ha (n + j) (by omega)
    · rw [List.getElem?_drop] at hj
      exact hc (n + j) g hj

theorem fieldAddr_sound {s : TypeId} {r : Value} {g : GVal} {f : Nat} (h : HSim E O w) (hr : VR E r g) (hk : fieldAddrV P s g f (fun g => K g O)) :
    SOK P (Instr.fieldAt s r f) E O w K := by
  unfold fieldAddrV at hk
  cases hf : fld P s f with
  | none => simp [hf] at hk
  | some p =>
    obtain ⟨off, n, ag⟩ := p
    simp only [hf] at hk
    obtain ⟨fs, x, hu, hx, rfl, ht, hn⟩ := fld_spec hf
    have hrun : ∀ b o, (Instr.fieldAt s (.pointer (some ⟨b, o, none⟩)) f).run P w = .ok (.pointer (some ⟨b, o + x.offset, none⟩)) w := by
      intro b o
      simp [Instr.fieldAt, run_underlying hu, hx, Instr.sureAddr, fieldPlace, (tab_spec ht w).1, hn, add_at]
    cases hr with
    | ref b o cs c ha hc =>
      simp only at hk
      exact .same (hrun b o) h (VR.ref_drop (.ref b o cs c ha hc) _ hk.1) hk.2
    | ptr b o oi st i j l hl hb ho =>
      simp only at hk
      exact .same (hrun b o) h (.ptr b _ oi st i _ l hl hb (by rw [ho]; omega)) hk
    | _ => exact hk.elim

def indexAddrV (P : Program) (t : TypeId) (g i : GVal) (O : List GObj) (K : GVal → Prop) : Prop :=
  match i with
  | .int _ n => match g with
    | .slice xs _ => match els P t with
      | some (sz, _) => 0 ≤ n ∧ n < xs.length ∧ (xs.getD n.toNat []).length = sz ∧ K (.ref (xs.getD n.toNat []))
      | none => False
    | .own o st off len => match els P t with
      | some (sz, _) => match O[o]? with
        | some (.row st' sz' xs) => st = st' ∧ sz = sz' ∧ 0 ≤ n ∧ n < len ∧ off + n.toNat < xs.length ∧ K (.ptr o st (off + n.toNat) 0)
        | _ => False
      | none => False
    | .ref cs => match arr P t with
      | some (len, sz, _) => 0 ≤ n ∧ n < len ∧ n.toNat * sz ≤ cs.length ∧ K (.ref (cs.drop (n.toNat * sz)))
      | none => False
    | .ptr o st i j => match arr P t with
      | some (len, sz, _) => 0 ≤ n ∧ n < len ∧ K (.ptr o st i (j + n.toNat * sz))
      | none => False
    | _ => False
  | _ => False

theorem indexAddr_sound {t : TypeId} {r ri : Value} {g i : GVal} (h : HSim E O w) (hr : VR E r g) (hi : VR E ri i) (hk : indexAddrV P t g i O (fun g => K g O)) :
    SOK P (Instr.indexAt t r ri) E O w K := by
  unfold indexAddrV at hk
  cases hi with
  | int k n =>
    simp only at hk
    cases hr with
    | slice a len cap xs tag sz c hlen hcap hsz ha hc htag =>
      simp only at hk
      cases he : els P t with
      | none => simp [he] at hk
      | some p =>
        obtain ⟨sz', ag⟩ := p
        simp only [he] at hk
        obtain ⟨e, hu, ht⟩ := els_spec he
        obtain ⟨h0, h1, h2, hk⟩ := hk
        have hlt : n.toNat < xs.length := by omega
        have hszz : sz = sz' := by rw [← h2]; exact (hsz _ (mem_getD hlt)).symm
        subst hszz
        obtain ⟨b, off, rfl, hs⟩ := ha (by intro e; simp [e] at hlt)
        have hrun : (Instr.indexAt t (.slice (some ⟨b, off, none⟩) len cap) (.int k n)).run P w = .ok (.pointer (some ⟨b, off + n.toNat * sz, none⟩)) w := by
          have hlt2 : n < (len : Int) := by omega
          simp [Instr.indexAt, run_underlying hu, asIntOf, h0, hlt2, (tab_spec ht w).1, add_at]
        refine .same hrun h (.ref b _ _ (fun j => c (n.toNat * sz + j)) (fun j hj => ?_) (fun j g hj => ?_)) hk
        · rw [Nat.add_assoc]
          refine hs _ ?_
          rw [h2] at hj
          have : (n.toNat + 1) * sz ≤ len * sz := Nat.mul_le_mul_right _ (by omega)
          rw [Nat.succ_mul] at this; omega
        · have hj2 : j < sz := by rw [← h2]; exact (List.getElem?_eq_some_iff.1 hj).1
          exact hc _ g (by rw [flatten_at xs hsz n.toNat j _ (getD_of hlt) hj2]; exact hj)
    | own a len cap o st i l hl hcap ha =>
      simp only at hk
      cases he : els P t with
      | none => simp [he] at hk
      | some p =>
        obtain ⟨sz', ag⟩ := p
        simp only [he] at hk
        obtain ⟨e, hu, ht⟩ := els_spec he
        split at hk
        · rename_i st' sz xs hO
          obtain ⟨rfl, rfl, h0, h1, h2, hk⟩ := hk
          obtain ⟨l', hl', hls, hsz, hreal⟩ := h.real _ _ hO
          rw [hl] at hl'; cases hl'
          rcases ha with hc0 | ⟨b, hb, rfl, _⟩
          · omega
          · have hrun : (Instr.indexAt t (.slice (some ⟨b, l.off + i * l.size, none⟩) len cap) (.int k n)).run P w = .ok (.pointer (some ⟨b, l.off + i * l.size + n.toNat * sz', none⟩)) w := by
              have hlt2 : n < (len : Int) := by omega
              simp [Instr.indexAt, run_underlying hu, asIntOf, h0, hlt2, (tab_spec ht w).1, add_at]
            refine .same hrun h (.ptr b _ o st _ 0 l hl hb ?_) hk
            rw [hls, Nat.add_mul]; omega
        · exact hk.elim
    | ref b off cs c ha hc =>
      simp only at hk
      cases he : arr P t with
      | none => simp [he] at hk
      | some p =>
        obtain ⟨len, sz, ag⟩ := p
        simp only [he] at hk
        obtain ⟨e, hu, ht⟩ := arr_spec he
        obtain ⟨h0, h1, h2, hk⟩ := hk
        have hrun : (Instr.indexAt t (.pointer (some ⟨b, off, none⟩)) (.int k n)).run P w = .ok (.pointer (some ⟨b, off + n.toNat * sz, none⟩)) w := by
          simp [Instr.indexAt, run_underlying hu, asIntOf, h0, h1, (tab_spec ht w).1, add_at, Instr.sureAddr]
        exact .same hrun h (VR.ref_drop (.ref b off cs c ha hc) _ h2) hk
    | ptr b off o st i j l hl hb ho =>
      simp only at hk
      cases he : arr P t with
      | none => simp [he] at hk
      | some p =>
        obtain ⟨len, sz, ag⟩ := p
        simp only [he] at hk
        obtain ⟨e, hu, ht⟩ := arr_spec he
        obtain ⟨h0, h1, hk⟩ := hk
        have hrun : (Instr.indexAt t (.pointer (some ⟨b, off, none⟩)) (.int k n)).run P w = .ok (.pointer (some ⟨b, off + n.toNat * sz, none⟩)) w := by
          simp [Instr.indexAt, run_underlying hu, asIntOf, h0, h1, (tab_spec ht w).1, add_at, Instr.sureAddr]
        exact .same hrun h (.ptr b _ o st i _ l hl hb (by rw [ho]; omega)) hk
    | _ => exact hk.elim
  | _ => exact hk.elim

/-- a part of an aggregate -/
theorem part_run {t : TypeId} {n : Nat} {ag : Bool} (ht : tab P t = some (n, ag)) (hn : ag = false → n = 1) {vs : Array Value} {cs : List GVal} (hr : VR E (.agg vs) (.agg cs)) {off : Nat}
    (hl : off + n ≤ cs.length) : ∃ v, (part t vs off).run P w = .ok v w ∧ VR E v (grp ag ((cs.drop off).take n)) := by
  cases hr with
  | agg vs cs hs hc =>
    obtain ⟨h1, h2⟩ := tab_spec ht w
    cases ag with
    | true =>
      refine ⟨.agg (vs.extract off (off + n)), by simp [part, h2, h1], .agg _ _ (by simp; omega) (fun j g hj => ?_)⟩
      rw [List.getElem?_take] at hj
      split at hj
      · rename_i hjn
        rw [List.getElem?_drop] at hj
        have := hc _ g hj
        have e : (vs.extract off (off + n)).getD j (.tuple #[]) = vs.getD (off + j) (.tuple #[]) := by
          simp only [Array.getD_eq_getD_getElem?, Array.getElem?_extract]
          rw [if_pos (by omega)]
        rw [e]; exact this
      · cases hj
    | false =>
      have hn1 := hn rfl
      subst hn1
      have hlt : off < vs.size := by omega
      refine ⟨vs[off], by simp [part, h2, hlt], ?_⟩
      have hlt2 : off < cs.length := by omega
      have := hc off cs[off] (by simp [hlt2])
      have e : grp false ((cs.drop off).take 1) = cs[off] := by
        simp only [grp]
        rw [List.take_one]
        simp [hlt2]
      rw [e]
      simpa [Array.getD, hlt] using this

def fieldV (P : Program) (s : TypeId) (g : GVal) (f : Nat) (K : GVal → Prop) : Prop :=
  match fld P s f with
  | some (off, n, ag) => match g with
    | .agg cs => (ag = false → n = 1) ∧ off + n ≤ cs.length ∧ K (grp ag ((cs.drop off).take n))
    | _ => False
  | none => False

theorem field_sound {s : TypeId} {r : Value} {g : GVal} {f : Nat} (h : HSim E O w) (hr : VR E r g) (hk : fieldV P s g f (fun g => K g O)) :
    SOK P (Instr.field s r f) E O w K := by
  unfold fieldV at hk
  cases hf : fld P s f with
  | none => simp [hf] at hk
  | some p =>
    obtain ⟨off, n, ag⟩ := p
    simp only [hf] at hk
    obtain ⟨fs, x, hu, hx, rfl, ht, hn⟩ := fld_spec hf
    cases hr with
    | agg vs cs hs hc =>
      simp only at hk
      obtain ⟨h1, h2, hk⟩ := hk
      obtain ⟨v, hrun, hv⟩ := part_run (P := P) (w := w) ht h1 (.agg vs cs hs hc) h2
      refine .same ?_ h hv hk
      simp [Instr.field, run_underlying hu, hx, asAgg, hrun]
    | _ => exact hk.elim

def indexV (P : Program) (t : TypeId) (g i : GVal) (K : GVal → Prop) : Prop :=
  match i with
  | .int _ n => match g with
    | .agg cs => match arr P t with
      | some (len, sz, ag) => (ag = false → sz = 1) ∧ 0 ≤ n ∧ n < len ∧ n.toNat * sz + sz ≤ cs.length ∧ K (grp ag ((cs.drop (n.toNat * sz)).take sz))
      | none => False
    | .str s => P.underlying t = some .string ∧ 0 ≤ n ∧ n < s.length ∧ K (.int .u8 (s.getD n.toNat 0).toNat)
    | _ => False
  | _ => False

theorem index_sound {t : TypeId} {r ri : Value} {g i : GVal} (h : HSim E O w) (hr : VR E r g) (hi : VR E ri i) (hk : indexV P t g i (fun g => K g O)) :
    SOK P (Instr.index t r ri) E O w K := by
  unfold indexV at hk
  cases hi with
  | int k n =>
    simp only at hk
    cases hr with
    | agg vs cs hs hc =>
      simp only at hk
      cases he : arr P t with
      | none => simp [he] at hk
      | some p =>
        obtain ⟨len, sz, ag⟩ := p
        simp only [he] at hk
        obtain ⟨e, hu, ht⟩ := arr_spec he
        obtain ⟨h1, h2, h3, h4, hk⟩ := hk
        obtain ⟨v, hrun, hv⟩ := part_run (P := P) (w := w) ht h1 (.agg vs cs hs hc) h4
        refine .same ?_ h hv hk
        simp [Instr.index, run_underlying hu, asIntOf, h2, h3, (tab_spec ht w).1, hrun]
    | str s =>
      simp only at hk
      obtain ⟨hu, h2, h3, hk⟩ := hk
      have hlt : n.toNat < s.length := by omega
      have e : (⟨s.toArray⟩ : ByteArray)[n.toNat]? = some (s.getD n.toNat 0) := by
        have hsz : n.toNat < (⟨s.toArray⟩ : ByteArray).size := by show n.toNat < s.toArray.size; simpa using hlt
        rw [getElem?_pos (⟨s.toArray⟩ : ByteArray) n.toNat hsz]
        simp [List.getD, hlt, ByteArray.getElem_eq_getElem_data]
      refine .same ?_ h (.int .u8 _) hk
      simp [Instr.index, run_underlying hu, asIntOf, h2, e]
    | _ => exact hk.elim
  | _ => exact hk.elim

def extractV (g : GVal) (i : Nat) (K : GVal → Prop) : Prop :=
  match g with
  | .tuple vs => match vs[i]? with
    | some v => K v
    | none => False
  | _ => False

theorem extract_sound {r : Value} {g : GVal} {i : Nat} (h : HSim E O w) (hr : VR E r g) (hk : extractV g i (fun g => K g O)) :
    SOK P (Instr.extract r i) E O w K := by
  unfold extractV at hk
  cases hr with
  | tuple vs cs hs hc =>
    simp only at hk
    split at hk
    · rename_i v hv
      have hlt : i < vs.size := by rw [hs]; exact (List.getElem?_eq_some_iff.1 hv).1
      have := hc i v hv
      refine .same (v := vs[i]) ?_ h ?_ hk
      · simp [Instr.extract, hlt]
      · simpa [Array.getD, hlt] using this
    · exact hk.elim
  | _ => exact hk.elim

end
end Gv
