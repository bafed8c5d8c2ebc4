/- Slices: literals, cuts, stores, append. -/
import Derived.Test.YtcjiabpfahmjnaaGvMake
set_option linter.unusedVariables false
namespace Gv
open Go

section
variable {P : Program} {E : Env} {O : List GObj} {w : World} {K : GVal → List GObj → Prop}

theorem splice_flatten {sz : Nat} : ∀ (xs : List (List GVal)) (i : Nat) (y : List GVal), (∀ x ∈ xs, x.length = sz) → i < xs.length → y.length = sz →
    splice xs.flatten (i * sz) y = (xs.set i y).flatten
  | [], i, y, _, hi, _ => by simp at hi
  | x :: r, 0, y, h, _, hy => by
    have hx : x.length = sz := h x (by simp)
    simp only [splice, List.flatten_cons, Nat.zero_mul, List.take_zero, List.nil_append, Nat.zero_add, List.set_cons_zero]
    rw [List.drop_append_of_le_length (by omega), List.drop_of_length_le (by omega)]; simp
  | x :: r, i + 1, y, h, hi, hy => by
    have hx : x.length = sz := h x (by simp)
    have ih := splice_flatten r i y (fun z hz => h z (by simp [hz])) (by simpa using hi) hy
    simp only [List.flatten_cons, List.set_cons_succ, ← ih, splice]
    have e : (i + 1) * sz = x.length + i * sz := by rw [hx, Nat.succ_mul]; omega
    rw [e, List.take_length_add_append]
    have e2 : x.length + i * sz + y.length = x.length + (i * sz + y.length) := by omega
    rw [e2, List.drop_length_add_append]
    simp [List.append_assoc]

theorem flat_replicate (n : Nat) (zs : Array Value) : ((Array.range (n * zs.size)).map (fun i => zs[i % zs.size]!)).toList = (List.replicate n zs.toList).flatten := by
  apply List.ext_getElem?
  intro j
  by_cases hj : j < n * zs.size
  · have hpos : 0 < zs.size := by
      rcases Nat.eq_zero_or_pos zs.size with h | h
      · rw [h] at hj; simp at hj
      · exact h
    have hm : j % zs.size < zs.size := Nat.mod_lt _ hpos
    have hd : j / zs.size < n := (Nat.div_lt_iff_lt_mul hpos).2 hj
    have e := flatten_at (sz := zs.size) (List.replicate n zs.toList) (fun x hx => by rw [List.eq_of_mem_replicate hx]; simp) (j / zs.size) (j % zs.size) zs.toList (by simp [hd]) hm
    rw [Nat.mul_comm, Nat.div_add_mod] at e
    rw [e]
    simp [hj, hm]
  · have l1 : ((Array.range (n * zs.size)).map (fun i => zs[i % zs.size]!)).toList.length = n * zs.size := by simp
    have l2 : (List.replicate n zs.toList).flatten.length = n * zs.size := by simp
    rw [List.getElem?_eq_none (by omega), List.getElem?_eq_none (by omega)]

/-! a slice literal -/
def fillE (sz : Nat) : List (List GVal) → List (Nat × GVal) → Option (List (List GVal))
  | xs, [] => some xs
  | xs, (i, g) :: r => if g.cells.length = sz ∧ i < xs.length then fillE sz (xs.set i g.cells) r else none

theorem fillE_fillG {sz : Nat} : ∀ (gs : List (Nat × GVal)) (xs out : List (List GVal)), (∀ x ∈ xs, x.length = sz) → fillE sz xs gs = some out →
    fillG (place (.inr sz)) xs.flatten gs = some out.flatten ∧ out.length = xs.length ∧ ∀ x ∈ out, x.length = sz
  | [], xs, out, h, hf => by simp [fillE] at hf; subst hf; exact ⟨rfl, rfl, h⟩
  | (i, g) :: r, xs, out, h, hf => by
    simp only [fillE] at hf
    split at hf
    · rename_i hc
      have h' : ∀ x ∈ xs.set i g.cells, x.length = sz := fun x hx => by
        rcases List.mem_or_eq_of_mem_set hx with h1 | h1
        · exact h x h1
        · rw [h1]; exact hc.1
      obtain ⟨e1, e2, e3⟩ := fillE_fillG r _ out h' hf
      refine ⟨?_, by rw [e2]; simp, e3⟩
      simp only [fillG, place]
      have hl : xs.flatten.length = xs.length * sz := flatten_len xs h
      have : i * sz + sz ≤ xs.length * sz := by rw [← Nat.succ_mul]; exact Nat.mul_le_mul_right _ hc.2
      rw [if_pos ⟨hc.1, by omega⟩, splice_flatten xs i _ h hc.2 hc.1]
      exact e1
    · cases hf

/-- element type's size, bytes, zero cells -/
def elt (P : Program) (t : TypeId) : Option (Nat × Nat × List GVal) :=
  match P.underlying t with
  | some (.slice e) => match P.info? e, zer P e with
    | some i, some cs => if cs.length = i.size then some (i.size, i.bytes, cs) else none
    | _, _ => none
  | _ => none

theorem elt_spec {t : TypeId} {sz by_ : Nat} {cs : List GVal} (h : elt P t = some (sz, by_, cs)) :
    ∃ e i z, P.underlying t = some (.slice e) ∧ P.info? e = some i ∧ i.size = sz ∧ i.bytes = by_ ∧ i.zero = some z ∧ cs = z.cells.toList.map .ofConst ∧ z.cells.size = sz := by
  unfold elt at h
  split at h
  · rename_i e hu
    split at h
    · rename_i i cs' hi hz
      split at h
      · rename_i hl
        cases h
        obtain ⟨i', z, hi', hzz, hcs⟩ := zer_spec hz
        rw [hi] at hi'; cases hi'
        refine ⟨e, i, z, hu, hi, rfl, rfl, hzz, hcs, ?_⟩
        rw [hcs] at hl; simpa using hl
      · cases h
    · cases h
  · cases h

def buildSliceV (P : Program) (t : TypeId) (len : Nat) (gs : List (Nat × GVal)) (K : GVal → Prop) : Prop :=
  match elt P t with
  | some (sz, _, cs) => len * sz ≤ 16777216 ∧ (∀ c ∈ cs, c.solid = true) ∧ (∀ p ∈ gs, p.2.okCells) ∧ match fillE sz (List.replicate len cs) gs with
    | some out => K (.slice out .full)
    | none => False
  | none => False

theorem buildSlice_sound {t : TypeId} {len : Nat} {gs : List (Nat × GVal)} {vs : Array (Nat × Value)} (h : HSim E O w) (hm : gs.map (·.1) = vs.toList.map (·.1))
    (hr : ∀ (i : Nat) g v, gs[i]? = some g → vs.toList[i]? = some v → VR E v.2 g.2)
    (hk : buildSliceV P t len gs (fun g => K g O)) : SOK P (Instr.buildSlice t len vs) E O w K := by
  unfold buildSliceV at hk
  cases he : elt P t with
  | none => simp [he] at hk
  | some q =>
    obtain ⟨sz, by_, cs⟩ := q
    simp only [he] at hk
    obtain ⟨hbig, hs, hok, hk⟩ := hk
    obtain ⟨e, i, z, hu, hi, hsz, _, hzz, rfl, hzs⟩ := elt_spec he
    split at hk
    · rename_i out hf
      have hrep : ∀ x ∈ List.replicate len (z.cells.toList.map GVal.ofConst), x.length = sz := fun x hx => by rw [List.eq_of_mem_replicate hx]; simp [hzs]
      obtain ⟨f1, f2, f3⟩ := fillE_fillG gs _ out hrep hf
      let a0 : Array Value := (Array.range (len * sz)).map (fun i => z.cells[i % z.cells.size]!)
      have ha0 : a0.toList = (List.replicate len z.cells.toList).flatten := by
        have := flat_replicate len z.cells
        rw [hzs] at this
        show ((Array.range (len * sz)).map (fun i => z.cells[i % z.cells.size]!)).toList = _
        rw [hzs]; exact this
      have hcr : CellsR E a0 (List.replicate len (z.cells.toList.map GVal.ofConst)).flatten := by
        have e1 : (List.replicate len (z.cells.toList.map GVal.ofConst)).flatten = a0.toList.map GVal.ofConst := by
          rw [ha0, List.map_flatten, List.map_replicate]
        rw [e1]
        refine ⟨by simp, fun j c hj => ?_⟩
        rw [List.getElem?_map] at hj
        cases hx : a0.toList[j]? with
        | none => simp [hx] at hj
        | some x =>
          simp [hx] at hj
          refine ⟨x, by simpa using hx, ?_, hj ▸ VR.ofConst E x⟩
          have hxm : x ∈ a0.toList := List.mem_of_getElem? hx
          rw [ha0] at hxm
          obtain ⟨l, hl, hxl⟩ := List.mem_flatten.1 hxm
          rw [List.eq_of_mem_replicate hl] at hxl
          exact (VR.ofConst E x).one (hs _ (List.mem_map.2 ⟨x, hxl, rfl⟩))
      obtain ⟨b, hb, hbr⟩ := fill_sound (place (.inr sz)) gs vs.toList _ _ _ hcr hm hok hr f1
      obtain ⟨g1, g2⟩ := h.sealNew b e (fun j x hx => by
        have hlt : j < out.flatten.length := by rw [← hbr.1]; exact (Array.getElem?_eq_some_iff.1 hx).1
        obtain ⟨x', hx', ho, _⟩ := hbr.2 j out.flatten[j] (by simp)
        rw [hx] at hx'; cases hx'; exact ho)
      have hlen : out.length = len := by rw [f2]; simp
      have hout := flatten_len out f3
      refine ⟨.slice (some ⟨w.heap.size, 0, none⟩) len len, _, _, _, _, ?_, g1, g2,
        .slice _ _ _ out .full sz (fun j => b.getD j (.tuple #[])) hlen.symm (Nat.le_refl _) f3 (fun _ => ⟨w.heap.size, 0, rfl, fun j hj => ?_⟩) (fun j g hj => ?_) rfl, hk⟩
      · have e2 : (fun i => some (i * sz, sz)) = place (.inr sz) := rfl
        have hbig' : ¬ (len * sz > 2 ^ 24) := by omega
        have hsize : (Go.sizeOf e).run P w = .ok sz w := by simp [Go.sizeOf, typeInfo, hi, hsz]
        unfold Instr.buildSlice
        simp only [Sem.run_bind, run_underlying hu, Result.andThen_ok, hsize, Sem.run_ite, if_neg hbig', Sem.run_pure]
        have hzv : (zeroValue e).run P w = .ok z w := by simp [zeroValue, typeInfo, hi, hzz]
        by_cases h0 : len * sz = 0
        · have hc0 : (Array.range (len * sz)).map (fun x => (#[] : Array Value)[x % (#[] : Array Value).size]!) = a0 := by
            show _ = (Array.range (len * sz)).map _
            rw [h0]; simp
          rw [if_pos h0, hc0, e2, hb]
          simp [newRow]
        · have hc1 : (Array.range (len * sz)).map (fun x => z.cells[x % z.cells.size]!) = a0 := rfl
          rw [if_neg h0, hzv, Result.andThen_ok, hc1, e2, hb]
          simp [newRow]
      · have hj' : j < out.flatten.length := by rw [hout, hlen]; exact hj
        obtain ⟨x, hx, _⟩ := hbr.2 j out.flatten[j] (by simp)
        simp [Env.sealNew, Array.getD_eq_getD_getElem?, hx]
      · obtain ⟨x, hx, _, hv⟩ := hbr.2 j g hj
        have e : b.getD j (.tuple #[]) = x := by simp [Array.getD_eq_getD_getElem?, hx]
        rw [e]; exact hv.mono g2.ext
    · exact hk.elim

/-! a store -/
def storeV (P : Program) (t : TypeId) (g v : GVal) (O : List GObj) (K : List GObj → Prop) : Prop :=
  match tab P t with
  | some (n, _) => v.okCells ∧ v.cells.length = n ∧ match g with
    | .ptr o st i j => match O[o]? with
      | some (.row st' sz xs) => st = st' ∧ i < xs.length ∧ j + n ≤ (xs.getD i []).length ∧ K (O.set o (.row st sz (xs.set i (splice (xs.getD i []) j v.cells))))
      | _ => False
    | _ => False
  | none => False

theorem splice_len {cs xs : List GVal} {j : Nat} (h : j + xs.length ≤ cs.length) : (splice cs j xs).length = cs.length := by
  simp only [splice, List.length_append, List.length_take, List.length_drop]; omega

theorem splice_at {cs xs : List GVal} {j k : Nat} (h : j + xs.length ≤ cs.length) :
    (splice cs j xs)[k]? = if j ≤ k ∧ k < j + xs.length then xs[k - j]? else cs[k]? := by
  unfold splice
  by_cases h1 : k < j
  · rw [if_neg (by omega), List.append_assoc, List.getElem?_append_left (by simp; omega), List.getElem?_take_of_lt h1]
  · by_cases h2 : k < j + xs.length
    · rw [if_pos ⟨by omega, h2⟩, List.append_assoc, List.getElem?_append_right (by simp; omega), List.getElem?_append_left (by simp; omega)]
      congr 1
      simp; omega
    · rw [if_neg (by omega), List.getElem?_append_right (by simp; omega), List.getElem?_drop]
      congr 1
      simp; omega

theorem flatten_set_at {sz : Nat} (xs : List (List GVal)) (hs : ∀ x ∈ xs, x.length = sz) {i : Nat} (hi : i < xs.length) (y : List GVal) (hy : y.length = sz) (k : Nat) :
    (xs.set i y).flatten[k]? = if i * sz ≤ k ∧ k < i * sz + sz then y[k - i * sz]? else xs.flatten[k]? := by
  rw [← splice_flatten xs i y hs hi hy]
  have hl := flatten_len xs hs
  have : i * sz + sz ≤ xs.length * sz := by rw [← Nat.succ_mul]; exact Nat.mul_le_mul_right _ hi
  rw [splice_at (by omega), hy]

theorem store_sound {t : TypeId} {r rv : Value} {g v : GVal} {KU : List GObj → Prop} (h : HSim E O w) (hr : VR E r g) (hv : VR E rv v) (hk : storeV P t g v O KU) :
    ∃ w' E' O', (Instr.storeAt t r rv).run P w = .ok () w' ∧ HSim E' O' w' ∧ Keep E O w E' O' w' ∧ KU O' := by
  unfold storeV at hk
  cases ht : tab P t with
  | none => simp [ht] at hk
  | some p =>
    obtain ⟨n, ag⟩ := p
    simp only [ht] at hk
    obtain ⟨hok, hn, hk⟩ := hk
    obtain ⟨hcs, hcell⟩ := hv.cells hok
    cases hr with
    | ptr b off o st i j l hl hb ho =>
      simp only at hk
      split at hk
      · rename_i st' sz xs hO
        obtain ⟨rfl, hi, hjn, hk⟩ := hk
        obtain ⟨l', hl', hls, hsz, hreal⟩ := h.real _ _ hO
        rw [hl] at hl'; cases hl'
        simp only [hb] at hreal
        obtain ⟨cur, el, hw, hcur, htot, hrows, hsnap⟩ := hreal
        have hx : (xs.getD i []).length = sz := hsz _ (mem_getD hi)
        have hfl := flatten_len xs hsz
        have hib : i * sz + sz ≤ xs.length * sz := by rw [← Nat.succ_mul]; exact Nat.mul_le_mul_right _ hi
        have hvl : rv.cells.toList.length = n := by simp [hcs, hn]
        have eoff : off = l.off + (i * sz + j) := by rw [ho, ← hls]; omega
        have hone : ∀ x ∈ rv.cells.toList, x.oneCell' = true := by
          intro x hx
          obtain ⟨k, hk, rfl⟩ := List.mem_iff_getElem.1 hx
          obtain ⟨y, hy, h1, _⟩ := hcell k v.cells[k] (by rw [List.getElem?_eq_getElem])
          have : rv.cells[k]? = some rv.cells.toList[k] := by simp
          rw [this] at hy; cases hy; exact h1
        have hst := run_storeCells_at P b off el rv.cells.toList 0 cur w hw (by rw [hvl]; omega) hone
        simp only [Nat.add_zero] at hst
        have hrun : (Instr.storeAt t (.pointer (some ⟨b, off, none⟩)) rv).run P w = .ok () (w.setRow b (cur.toList.take off ++ rv.cells.toList ++ cur.toList.drop (off + rv.cells.toList.length)).toArray) := by
          simp only [Instr.storeAt, Instr.sureAddr, storeVar, Sem.run_bind, Sem.run_pure, Result.andThen_ok, (tab_spec ht w).1]
          rw [if_neg (by simp [hcs, hn])]
          exact hst
        let cur' : Array Value := (cur.toList.take off ++ rv.cells.toList ++ cur.toList.drop (off + rv.cells.toList.length)).toArray
        have hat : ∀ k, cur'[k]? = if off ≤ k ∧ k < off + n then rv.cells[k - off]? else cur[k]? := by
          intro k
          have hoffn : off + n ≤ cur.toList.length := by simp; omega
          show (cur.toList.take off ++ rv.cells.toList ++ cur.toList.drop (off + rv.cells.toList.length)).toArray[k]? = _
          rw [List.getElem?_toArray]
          by_cases h1 : k < off
          · rw [if_neg (by omega), List.append_assoc, List.getElem?_append_left (by simp at hoffn ⊢; omega), List.getElem?_take_of_lt h1]; simp
          · by_cases h2 : k < off + n
            · rw [if_pos ⟨by omega, h2⟩, List.append_assoc, List.getElem?_append_right (by simp; omega), List.getElem?_append_left (by simp at hoffn hvl ⊢; omega)]
              have e : k - (List.take off cur.toList).length = k - off := by simp at hoffn ⊢; omega
              rw [e]; simp
            · rw [if_neg (by omega), List.getElem?_append_right (by simp at hoffn hvl ⊢; omega), List.getElem?_drop]
              have e : off + rv.cells.toList.length + (k - (List.take off cur.toList ++ rv.cells.toList).length) = k := by simp at hoffn hvl ⊢; omega
              rw [e]; simp
        have hcur' : cur'.size = cur.size := by
          show (cur.toList.take off ++ rv.cells.toList ++ cur.toList.drop (off + rv.cells.toList.length)).toArray.size = _
          have hoffn : off + n ≤ cur.toList.length := by simp; omega
          simp at hoffn hvl ⊢; omega
        have hw' := setRow_heap w b cur cur' el (0, 0) hw
        have hblk : (GObj.row st sz xs).blk E = some b := by simp [GObj.blk, hl, hb]
        have hsp : (splice (xs.getD i []) j v.cells).length = sz := by rw [splice_len (by omega), hx]
        obtain ⟨h1, h2⟩ := h.upd (E' := E) (w' := w.setRow b cur') (obj' := .row st sz (xs.set i (splice (xs.getD i []) j v.cells))) hO (.inl hblk) (.inl rfl) (.refl E) h.fin ⟨rfl, rfl⟩ rfl ⟨rfl, trivial⟩ (by simp)
          (fun k _ hk => setRow_other w b k cur' hk) (fun _ _ _ _ hs => hs) (fun o v hs => by rw [hsnap o] at hs; cases hs)
          ⟨l, hl, hls, fun x hx' => (by
            rcases List.mem_or_eq_of_mem_set hx' with h1 | h1
            · exact hsz x h1
            · rw [h1]; exact hsp), by
            simp only [hb]
            refine ⟨cur', el, hw', by rw [hcur', hcur], by simpa using htot, fun k c hc => ?_, hsnap⟩
            rw [flatten_set_at xs hsz hi _ hsp] at hc
            rw [hat]
            by_cases hin : i * sz ≤ k ∧ k < i * sz + sz
            · rw [if_pos hin, splice_at (by omega)] at hc
              by_cases hin2 : j ≤ k - i * sz ∧ k - i * sz < j + v.cells.length
              · rw [if_pos hin2] at hc
                obtain ⟨x, hxx, h1, hxr⟩ := hcell _ c hc
                rw [if_pos ⟨by omega, by omega⟩]
                have e : l.off + k - off = k - i * sz - j := by omega
                rw [e]
                exact ⟨x, hxx, h1, hxr⟩
              · rw [if_neg hin2] at hc
                rw [if_neg (by omega)]
                obtain ⟨x, hxx, hxr⟩ := row_cell hrows hsz hi hc
                have e : i * sz + (k - i * sz) = k := by omega
                rw [e] at hxx
                exact ⟨x, hxx, hxr⟩
            · rw [if_neg hin] at hc
              rw [if_neg (by omega)]
              exact hrows k c hc⟩
          (fun k hk => by simpa [GObj.blk, hl, hb] using hk.symm)
        exact ⟨_, _, _, hrun, h1, h2, hk⟩
      · exact hk.elim
    | _ => exact hk.elim

end
end Gv
