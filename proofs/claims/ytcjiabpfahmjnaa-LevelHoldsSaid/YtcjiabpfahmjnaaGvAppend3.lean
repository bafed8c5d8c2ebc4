/- append: what it comes to over ghost values -/
import Derived.Test.YtcjiabpfahmjnaaGvAppend2
set_option linter.unusedVariables false
namespace Gv
open Go

section
variable {P : Program} {E : Env} {O : List GObj} {w : World} {K : GVal → List GObj → Prop}

def appendV (P : Program) (ow : Bool) (sT xT : TypeId) (s x : GVal) (O : List GObj) (K : GVal → List GObj → Prop) : Prop :=
  match elt P sT with
  | some (sz, by_, cs) => asrcV P xT by_ cs x O (fun ys => (∀ y ∈ ys, y.length = sz) ∧ match s with
    | .slice xs tag => (∀ y ∈ xs, y.length = sz) ∧ (xs.length + ys.length) * by_ ≤ 140737488355328 ∧ xs.length + ys.length ≤ 4611686018427387904 ∧ match tag.cap with
      | .full => match ow with
        | false => stamp O fun st => K (.slice (xs ++ ys) (.tok O.length st)) (tickO O ++ [.tok st sz])
        | true => (ys ≠ [] ∨ xs = []) ∧ stamp O fun st => K (.own O.length st 0 (xs.length + ys.length)) (tickO O ++ [.row st sz (xs ++ ys)])
      | .tok o st => match O[o]? with
        | some (.tok st' sz') => st = st' ∧ sz = sz' ∧ stamp O fun st2 => K (.slice (xs ++ ys) (.tok o st2)) ((tickO O).set o (.tok st2 sz))
        | _ => False
      | _ => False
    | .own o st off len => match O[o]? with
      | some (.row st' sz' xs) => st = st' ∧ sz = sz' ∧ off + len ≤ xs.length ∧ (len + ys.length) * by_ ≤ 140737488355328 ∧ len + ys.length ≤ 4611686018427387904 ∧
          stamp O fun st2 => K (.own o st2 0 (len + ys.length)) ((tickO O).set o (.row st2 sz ((xs.drop off).take len ++ ys)))
      | _ => False
    | _ => False)
  | none => False

/-- an object without memory behind -/
theorem HSim.objNil (h : HSim E O w) (obj : GObj) {st : Nat} {l : GLoc} (hst : E.loc st = none) (hnx : Next' O st) (hnc : obj.isClock = false) (hr : Realized (E.addLoc st l) w obj) (hblk : obj.blk (E.addLoc st l) = none) :
    HSim (E.addLoc st l) (O ++ [obj]) w ∧ Keep E O w (E.addLoc st l) (O ++ [obj]) w := by
  have hle := Env.addLoc_le l hst
  have split : ∀ (i : Nat) x, (O ++ [obj])[i]? = some x → (i < O.length ∧ O[i]? = some x) ∨ x = obj := by
    intro i x hx
    by_cases hi : i < O.length
    · rw [List.getElem?_append_left hi] at hx; exact .inl ⟨hi, hx⟩
    · rw [List.getElem?_append_right (by omega)] at hx
      right
      cases hk : i - O.length with
      | zero => rw [hk] at hx; simpa using hx.symm
      | succ k => rw [hk] at hx; simp at hx
  refine h.gen hle ((Env.addLoc_fin h.fin hnx).app hnc) rfl ⟨rfl, trivial⟩ (Nat.le_refl _) (fun _ => False) (fun _ hf => hf.elim) (fun _ _ _ => rfl) (fun _ _ _ hv => .inl hv) (fun _ _ _ hf _ => hf.elim)
    (fun i x hx => ?_) (fun _ _ _ _ _ _ _ _ _ _ hf => hf.elim)
  rcases split i x hx with ⟨_, h1⟩ | rfl
  · exact .inl ⟨h1, fun _ _ hf => hf.elim⟩
  · exact .inr ⟨hr, fun b hb => by rw [hblk] at hb; cases hb⟩

/-- freeze m cells from a place on -/
def Env.sealMore (E : Env) (b off : Nat) (news : List Value) : Env := { E with snap := fun k o => if k = b ∧ off ≤ o ∧ o < off + news.length then news[o - off]? else E.snap k o }

theorem Env.addLoc_snap (E : Env) (st : Nat) (l : GLoc) : (E.addLoc st l).snap = E.snap := rfl

/-- cells of the used part of a slice's value, as they stand in memory -/
theorem sliceCells {a : Option Addr} {len cap sz : Nat} {xs : List (List GVal)} {tag : Tag} (h : HSim E O w) (hv : VR E (.slice a len cap) (.slice xs tag)) (hsz : ∀ x ∈ xs, x.length = sz) :
    ∃ olds : List Value, olds.length = len * sz ∧ (∀ w' : World, w'.heap = w.heap → (Builtin.firstCells sz len (.slice a len cap)).run P w' = .ok olds.toArray w') ∧
      (∀ (j : Nat) v, olds[j]? = some v → v.oneCell' = true) ∧ (∀ (j : Nat) g, xs.flatten[j]? = some g → ∃ v, olds[j]? = some v ∧ VR E v g) ∧
      (xs ≠ [] → ∀ b off, a = some ⟨b, off, none⟩ → ∀ (j : Nat) v, olds[j]? = some v → E.snap b (off + j) = some v) := by
  cases hv with
  | slice a len cap xs tag sz' c hlen hcap hsz' ha hc htag =>
    by_cases hne : xs = []
    · subst hne
      simp at hlen; subst hlen
      refine ⟨[], by simp, fun w' _ => ?_, by simp, by simp, fun h => absurd rfl h⟩
      cases a with
      | none => simp [Builtin.firstCells]
      | some a => simp [Builtin.firstCells, loadCells, loadCellsFrom]
    · obtain ⟨b, off, rfl, hs⟩ := ha hne
      have hpos : 0 < xs.length := List.length_pos_iff.2 hne
      have hszz : sz' = sz := by
        have hm : xs.getD 0 [] ∈ xs := mem_getD hpos
        rw [← hsz _ hm, ← hsz' _ hm]
      subst hszz
      have hfl := flatten_len xs hsz
      have hat : ∀ (j : Nat) v, ((List.range (len * sz')).map c)[j]? = some v → j < len * sz' ∧ v = c j := by
        intro j v hj
        have hlt : j < len * sz' := by simpa using (List.getElem?_eq_some_iff.1 hj).1
        simp [hlt] at hj; exact ⟨hlt, hj.symm⟩
      refine ⟨(List.range (len * sz')).map c, by simp, fun w' hh => ?_, fun j v hj => ?_, fun j g hj => ?_, fun _ b' off' e j v hj => ?_⟩
      · simp only [Builtin.firstCells]
        rw [run_loadCells w' _ _ c (fun j hj => by
          rw [add_at]
          have := h.sealed _ _ _ (hs j hj)
          simpa [World.cell?, hh] using this)]
      · obtain ⟨hlt, rfl⟩ := hat j v hj; exact h.one _ _ _ (hs j hlt)
      · have hjl : j < len * sz' := by rw [hlen, ← hfl]; exact (List.getElem?_eq_some_iff.1 hj).1
        exact ⟨c j, by simp [hjl], hc j g hj⟩
      · cases e
        obtain ⟨hlt, rfl⟩ := hat j v hj; exact hs j hlt

theorem flat_append_at {xs ys : List (List GVal)} {n sz : Nat} (hx : ∀ x ∈ xs, x.length = sz) (hn : xs.length * sz = n) (j : Nat) (g : GVal) (h : (xs ++ ys).flatten[j]? = some g) :
    (j < n ∧ xs.flatten[j]? = some g) ∨ (n ≤ j ∧ ys.flatten[j - n]? = some g) := by
  have hl := flatten_len xs hx
  rw [List.flatten_append] at h
  by_cases hj : j < n
  · rw [List.getElem?_append_left (by omega)] at h; exact .inl ⟨hj, h⟩
  · rw [List.getElem?_append_right (by omega)] at h
    exact .inr ⟨by omega, by rw [hl, hn] at h; exact h⟩

/-- a grown slice in a new block: its cells sealed, room behind -/
theorem grown_tok {xs ys : List (List GVal)} {sz len cap : Nat} {olds news : List Value} {rest : Array Value} {e : TypeId} {st : Nat} {O' : List GObj} (h : HSim E O w) (hst : E.loc st = none) (hnx : Next' O st)
    (hlen : len = xs.length) (hxs : ∀ x ∈ xs, x.length = sz) (hys : ∀ y ∈ ys, y.length = sz) (ho : olds.length = len * sz) (hn : news.length = ys.length * sz)
    (ho1 : ∀ (j : Nat) v, olds[j]? = some v → v.oneCell' = true) (hor : ∀ (j : Nat) g, xs.flatten[j]? = some g → ∃ v, olds[j]? = some v ∧ VR E v g)
    (hnr : ∀ (j : Nat) g, ys.flatten[j]? = some g → ∃ v, news[j]? = some v ∧ v.oneCell' = true ∧ VR E v g)
    (hcap : len + ys.length ≤ cap) (hrest : rest.size = (cap - (len + ys.length)) * sz) (o : Nat)
    (hO' : (O' = O ++ [.tok st sz] ∧ o = O.length) ∨ (O' = O.set o (.tok st sz) ∧ ∃ obj, O[o]? = some obj ∧ obj.isClock = false)) :
    ∃ E', HSim E' O' (w.drew.alloc (.cells (olds.toArray ++ news.toArray ++ rest) e)) ∧ Keep E O w E' O' (w.drew.alloc (.cells (olds.toArray ++ news.toArray ++ rest) e)) ∧
      VR E' (.slice (some ⟨w.heap.size, 0, none⟩) (len + ys.length) cap) (.slice (xs ++ ys) (.tok o st)) := by
  let cells : Array Value := olds.toArray ++ news.toArray ++ rest
  let n := (len + ys.length) * sz
  let l : GLoc := ⟨some w.heap.size, n, sz, cap * sz⟩
  let E1 : Env := (E.sealTo w.heap.size n cells).addLoc st l
  have hn' : n = olds.length + news.length := by show (len + ys.length) * sz = _; rw [ho, hn, Nat.add_mul]
  have hcs : cells.size = cap * sz := by
    show (olds.toArray ++ news.toArray ++ rest).size = _
    simp only [Array.size_append, List.size_toArray, hrest, ho, hn, ← Nat.add_mul]
    congr 1; omega
  have hcell : ∀ j, j < n → cells[j]? = (olds ++ news)[j]? := by
    intro j hj
    show (olds.toArray ++ news.toArray ++ rest)[j]? = _
    rw [Array.getElem?_append_left (by simp; omega)]
    simp
  have hone : ∀ (j : Nat) v, (olds ++ news)[j]? = some v → v.oneCell' = true := by
    intro j v hj
    by_cases hjo : j < olds.length
    · rw [List.getElem?_append_left hjo] at hj; exact ho1 j v hj
    · rw [List.getElem?_append_right (by omega)] at hj
      have hlt : j - olds.length < ys.flatten.length := by rw [flatten_len ys hys, ← hn]; exact (List.getElem?_eq_some_iff.1 hj).1
      obtain ⟨v', hv', h1, _⟩ := hnr (j - olds.length) ys.flatten[j - olds.length] (by simp)
      rw [hj] at hv'; cases hv'; exact h1
  have hle : E.le E1 := by
    refine ⟨fun b o v hv => ?_, fun s l' hs => ?_⟩
    · show (if b = w.heap.size then (if o < n then cells[o]? else none) else E.snap b o) = some v
      rw [if_neg (by have := h.lt hv; omega)]; exact hv
    · show (if s = st then some l else E.loc s) = some l'
      split
      · rename_i e; subst e; rw [hst] at hs; cases hs
      · exact hs
  have hfin : Fin' E1 O := Env.addLoc_fin (E := E.sealTo w.heap.size n cells) h.fin hnx
  have hl : E1.loc st = some l := Env.addLoc_self _ _ _
  have hnew : (w.drew.alloc (.cells cells e)).heap[w.heap.size]? = some (.cells cells e) := alloc_new w.drew _
  have hreal : Realized E1 (w.drew.alloc (.cells cells e)) (.tok st sz) :=
    ⟨l, hl, rfl, cells, e, hnew, hcs, fun o ho' => by
      show (if w.heap.size = w.heap.size then (if o < n then cells[o]? else none) else E.snap w.heap.size o) = none
      rw [if_pos rfl, if_neg (by have : n ≤ o := ho'; omega)]⟩
  have hblk : (GObj.tok st sz).blk E1 = some w.heap.size := by simp [GObj.blk, hl, l]
  have hheap : ∀ k, k < w.heap.size → k ≠ w.heap.size → (w.drew.alloc (.cells cells e)).heap[k]? = w.heap[k]? := fun k hk _ => alloc_old w.drew _ k hk
  have hsnap : ∀ k o v, k ≠ w.heap.size → E1.snap k o = some v → E.snap k o = some v := fun k o v hk hv => by
    have hv' : (if k = w.heap.size then (if o < n then cells[o]? else none) else E.snap k o) = some v := hv
    rwa [if_neg hk] at hv'
  have hcl : ∀ o v, E1.snap w.heap.size o = some v → (w.drew.alloc (.cells cells e)).cell? ⟨w.heap.size, o, none⟩ = some v ∧ v.oneCell' = true := fun o v hv => by
    have hv' : (if w.heap.size = w.heap.size then (if o < n then cells[o]? else none) else E.snap w.heap.size o) = some v := hv
    rw [if_pos rfl] at hv'
    split at hv'
    · rename_i hon
      refine ⟨by simp only [World.cell?, hnew]; simpa using hv', ?_⟩
      rw [hcell o hon] at hv'; exact hone o v hv'
    · cases hv'
  have hVR : VR E1 (.slice (some ⟨w.heap.size, 0, none⟩) (len + ys.length) cap) (.slice (xs ++ ys) (.tok o st)) := by
    refine .slice _ _ _ _ _ sz (fun j => cells.getD j (.tuple #[])) (by simp [hlen]) hcap (fun x hx => (List.mem_append.1 hx).elim (hxs x) (hys x)) (fun _ => ⟨w.heap.size, 0, rfl, fun j hj => ?_⟩) (fun j g hj => ?_) ?_
    · show (if w.heap.size = w.heap.size then (if 0 + j < n then cells[0 + j]? else none) else _) = _
      have hjc : j < cells.size := by
        have : n ≤ cap * sz := Nat.mul_le_mul_right _ hcap
        rw [hcs]; exact Nat.lt_of_lt_of_le hj this
      rw [if_pos rfl, Nat.zero_add, if_pos hj]
      simp [Array.getD, hjc]
    · have hex : ∃ v, (olds ++ news)[j]? = some v ∧ VR E v g ∧ j < n := by
        rcases flat_append_at hxs (by rw [← hlen, ← ho]) j g hj with ⟨h1, h2⟩ | ⟨h1, h2⟩
        · obtain ⟨v, hv, hr⟩ := hor j g h2
          exact ⟨v, by rw [List.getElem?_append_left h1]; exact hv, hr, by omega⟩
        · obtain ⟨v, hv, _, hr⟩ := hnr _ g h2
          have := (List.getElem?_eq_some_iff.1 hv).1
          exact ⟨v, by rw [List.getElem?_append_right h1]; exact hv, hr, by omega⟩
      obtain ⟨v, hv, hr, hjn⟩ := hex
      have e : cells.getD j (.tuple #[]) = v := by simp [Array.getD_eq_getD_getElem?, hcell j hjn, hv]
      rw [e]; exact hr.mono hle
    · refine ⟨l, hl, .inr ⟨w.heap.size, 0, rfl, rfl, ?_, ?_⟩⟩
      · show n = 0 + (len + ys.length) * sz; omega
      · show 0 + cap * sz ≤ cap * sz; omega
  have hgen : HSim E1 O' (w.drew.alloc (.cells cells e)) ∧ Keep E O w E1 O' (w.drew.alloc (.cells cells e)) := by
    rcases hO' with ⟨rfl, rfl⟩ | ⟨rfl, obj, hobj, hobjc⟩
    · have hd : ∀ (i : Nat) x, (O ++ [GObj.tok st sz])[i]? = some x → (i < O.length ∧ O[i]? = some x) ∨ (i = O.length ∧ x = .tok st sz) := by
        intro i x hx
        by_cases hi : i < O.length
        · rw [List.getElem?_append_left hi] at hx; exact .inl ⟨hi, hx⟩
        · rw [List.getElem?_append_right (by omega)] at hx
          right
          cases hk : i - O.length with
          | zero => rw [hk] at hx; exact ⟨by omega, by simpa using hx.symm⟩
          | succ k => rw [hk] at hx; simp at hx
      have hold : ∀ (i : Nat) x, O[i]? = some x → x.blk E1 ≠ some w.heap.size := fun i x hx hb => by
        rw [GObj.blk_mono hle (h.real i x hx)] at hb
        have := (h.real i x hx).blk_lt hb; omega
      refine h.gen hle (hfin.app rfl) rfl ⟨rfl, trivial⟩ (by show w.heap.size ≤ (w.heap.push _).size; simp) (fun k => k = w.heap.size) (fun b hb => .inr (by omega)) (fun k hk hk' => hheap k hk hk') (fun k o v hv => ?_) (fun k o v hk hv => by subst hk; exact hcl o v hv) (fun i x hx => ?_) (fun i j oi oj b hij hi hj hbi hbj hb => ?_)
      · by_cases e : k = w.heap.size
        · exact .inr e
        · exact .inl (hsnap k o v e hv)
      · rcases hd i x hx with ⟨_, h1⟩ | ⟨_, rfl⟩
        · exact .inl ⟨h1, fun b hb e => by have := (h.real i x h1).blk_lt hb; omega⟩
        · exact .inr ⟨hreal, fun b hb => by rw [hblk] at hb; exact (Option.some.inj hb).symm⟩
      · subst hb
        rcases hd i oi hi with ⟨_, h1⟩ | ⟨hi', rfl⟩
        · exact hold i oi h1 hbi
        · rcases hd j oj hj with ⟨_, h1⟩ | ⟨hj', rfl⟩
          · exact hold j oj h1 hbj
          · omega
    · exact h.upd (b := w.heap.size) (t := w.heap.size) hobj (.inr (Nat.le_refl _)) (.inl rfl) hle hfin ⟨hobjc, rfl⟩ rfl ⟨rfl, trivial⟩ (by show w.heap.size ≤ (w.heap.push _).size; simp) (fun k hk hk' => hheap k hk hk') hsnap hcl hreal
        (fun k hk => by rw [hblk] at hk; exact (Option.some.inj hk).symm)
  exact ⟨E1, hgen.1, hgen.2, hVR⟩

/-- a grown slice in a new block: its owner's -/
theorem grown_row {xs ys : List (List GVal)} {sz len cap : Nat} {olds news : List Value} {rest : Array Value} {e : TypeId} {st : Nat} {O' : List GObj} (h : HSim E O w) (hst : E.loc st = none) (hnx : Next' O st)
    (hlen : len = xs.length) (hxs : ∀ x ∈ xs, x.length = sz) (hys : ∀ y ∈ ys, y.length = sz) (ho : olds.length = len * sz) (hn : news.length = ys.length * sz)
    (hor : ∀ (j : Nat) g, xs.flatten[j]? = some g → ∃ v, olds[j]? = some v ∧ v.oneCell' = true ∧ VR E v g)
    (hnr : ∀ (j : Nat) g, ys.flatten[j]? = some g → ∃ v, news[j]? = some v ∧ v.oneCell' = true ∧ VR E v g)
    (hcap : len + ys.length ≤ cap) (hrest : rest.size = (cap - (len + ys.length)) * sz) (o : Nat)
    (hO' : (O' = O ++ [.row st sz (xs ++ ys)] ∧ o = O.length) ∨ (O' = O.set o (.row st sz (xs ++ ys)) ∧ ∃ obj, O[o]? = some obj ∧ obj.isClock = false)) :
    ∃ E', HSim E' O' (w.drew.alloc (.cells (olds.toArray ++ news.toArray ++ rest) e)) ∧ Keep E O w E' O' (w.drew.alloc (.cells (olds.toArray ++ news.toArray ++ rest) e)) ∧
      VR E' (.slice (some ⟨w.heap.size, 0, none⟩) (len + ys.length) cap) (.own o st 0 (len + ys.length)) := by
  let cells : Array Value := olds.toArray ++ news.toArray ++ rest
  let l : GLoc := ⟨some w.heap.size, 0, sz, cap * sz⟩
  let E1 : Env := E.addLoc st l
  have hcs : cells.size = cap * sz := by
    show (olds.toArray ++ news.toArray ++ rest).size = _
    simp only [Array.size_append, List.size_toArray, hrest, ho, hn, ← Nat.add_mul]
    congr 1; omega
  have hsum : olds.length + news.length = (len + ys.length) * sz := by rw [ho, hn, Nat.add_mul]
  have hcell : ∀ j, j < olds.length + news.length → cells[j]? = (olds ++ news)[j]? := by
    intro j hj
    show (olds.toArray ++ news.toArray ++ rest)[j]? = _
    rw [Array.getElem?_append_left (by simp; omega)]
    simp
  have hle : E.le E1 := Env.addLoc_le l hst
  have hl : E1.loc st = some l := Env.addLoc_self _ _ _
  have hnew : (w.drew.alloc (.cells cells e)).heap[w.heap.size]? = some (.cells cells e) := alloc_new w.drew _
  have hsz : ∀ x ∈ xs ++ ys, x.length = sz := fun x hx => (List.mem_append.1 hx).elim (hxs x) (hys x)
  have hreal : Realized E1 (w.drew.alloc (.cells cells e)) (.row st sz (xs ++ ys)) := by
    refine ⟨l, hl, rfl, hsz, cells, e, hnew, hcs, ?_, fun j g hj => ?_, fun o => h.snap_new (Nat.le_refl _)⟩
    · show 0 + (xs ++ ys).length * sz ≤ cap * sz
      rw [Nat.zero_add, List.length_append, ← hlen]
      exact Nat.mul_le_mul_right _ hcap
    · show ∃ v, cells[0 + j]? = some v ∧ _
      rw [Nat.zero_add]
      rcases flat_append_at hxs (by rw [← hlen, ← ho]) j g hj with ⟨h1, h2⟩ | ⟨h1, h2⟩
      · obtain ⟨v, hv, h3, hr⟩ := hor j g h2
        exact ⟨v, by rw [hcell j (by omega), List.getElem?_append_left h1]; exact hv, h3, hr.mono hle⟩
      · obtain ⟨v, hv, h3, hr⟩ := hnr _ g h2
        have := (List.getElem?_eq_some_iff.1 hv).1
        exact ⟨v, by rw [hcell j (by omega), List.getElem?_append_right h1]; exact hv, h3, hr.mono hle⟩
  have hblk : (GObj.row st sz (xs ++ ys)).blk E1 = some w.heap.size := by simp [GObj.blk, hl, l]
  have hVR : VR E1 (.slice (some ⟨w.heap.size, 0, none⟩) (len + ys.length) cap) (.own o st 0 (len + ys.length)) :=
    .own _ _ _ o st 0 l hl hcap (.inr ⟨w.heap.size, rfl, by simp [l], by show 0 + 0 * sz + cap * sz ≤ cap * sz; omega⟩)
  have hd : HSim E O w.drew := h.of_heap rfl
  have kd : Keep E O w E O w.drew := Keep.of_heap rfl rfl rfl
  rcases hO' with ⟨rfl, rfl⟩ | ⟨rfl, obj, hobj, hobjc⟩
  · obtain ⟨h1, h2⟩ := hd.objNew (.cells cells e) (.row st sz (xs ++ ys)) (l := l) hst hnx rfl trivial rfl hreal hblk
    exact ⟨E1, h1, kd.trans h2, hVR⟩
  · obtain ⟨h1, h2⟩ := h.upd (b := w.heap.size) (t := w.heap.size) (E' := E1) (w' := w.drew.alloc (.cells cells e)) (obj' := .row st sz (xs ++ ys)) hobj (.inr (Nat.le_refl _)) (.inl rfl) hle (Env.addLoc_fin h.fin hnx) ⟨hobjc, rfl⟩ rfl ⟨rfl, trivial⟩
      (by show w.heap.size ≤ (w.heap.push _).size; simp) (fun k hk hk' => alloc_old w.drew _ k hk) (fun _ _ _ _ hv => hv)
      (fun o v hv => by have := h.snap_new (b := w.heap.size) (o := o) (Nat.le_refl _); have hv' : E.snap w.heap.size o = some v := hv; rw [this] at hv'; cases hv') hreal
      (fun k hk => by rw [hblk] at hk; exact (Option.some.inj hk).symm)
    exact ⟨E1, h1, h2, hVR⟩

theorem append_sound {ow : Bool} {sT xT ty : TypeId} {rs rx : Value} {s x : GVal} (h : HSim E O w) (hs : VR E rs s) (hx : VR E rx x) (hk : appendV P ow sT xT s x O K) :
    SOK P (Builtin.append_ #[sT, xT] ty #[rs, rx]) E O w K := by
  unfold appendV at hk
  cases he : elt P sT with
  | none => simp [he] at hk
  | some q =>
    obtain ⟨sz, by_, zs⟩ := q
    simp only [he] at hk
    obtain ⟨e, i, z, hu, hi, hsz, hby, hzz, hzc, hzs⟩ := elt_spec he
    obtain ⟨ys, news, hk, hys, happ⟩ := asrc_sound (P := P) (sT := sT) (xT := xT) (ty := ty) h hu hi hsz hzz hzs hzc hx (by rw [hby]; exact hk)
    have hsrc := happ w rfl
    have hn1 : ∀ v ∈ news, v.oneCell' = true := by
      intro v hv
      obtain ⟨j, hj, rfl⟩ := List.mem_iff_getElem.1 hv
      have hlt : j < ys.flatten.length := by rw [flatten_len ys hys, ← hsrc.size]; exact hj
      obtain ⟨v', hv', h1, _⟩ := hsrc.at_ j ys.flatten[j] (by simp)
      have : news[j]? = some news[j] := by simp
      rw [this] at hv'; cases hv'; exact h1
    cases hs with
    | slice a len cap xs tag sz' c hlen hcap hsz' ha hc htag =>
      simp only at hk
      obtain ⟨hxs, hroom, hmax, hk⟩ := hk
      have htag := htag.cap hcap
      generalize tag.cap = tag at htag hk
      have hv : VR E (.slice a len cap) (.slice xs tag) := .slice a len cap xs tag sz' c hlen hcap hsz' ha hc htag
      obtain ⟨olds, ho1, ho2, ho3, ho4, ho5⟩ := sliceCells (P := P) h hv hxs
      cases tag with
      | none => exact hk.elim
      | nil => exact hk.elim
      | full =>
        have hcl : cap = len := htag
        cases ow with
        | true =>
          obtain ⟨hys0, hk⟩ := hk
          obtain ⟨st, hk, hst, hnx, h, hkeep⟩ := h.stamp hk
          rw [← tickO_len O] at hk
          by_cases hfit : len + ys.length ≤ cap
          · have hy0 : ys.length = 0 := by omega
            have hynil : ys = [] := List.length_eq_zero_iff.1 hy0
            have hxnil : xs = [] := hys0.resolve_left (fun hh => hh hynil)
            have hnn : news = [] := List.length_eq_zero_iff.1 (by rw [hsrc.size, hy0]; simp)
            have hrun := hsrc.fits (w' := w) (base := a) hfit (by cases a <;> simp [hnn, storeCells])
            subst hynil; subst hxnil
            simp only [List.length_nil, Nat.add_zero, List.append_nil] at hk hlen hrun
            obtain ⟨h1, h2⟩ := h.objNil (.row st sz []) (l := ⟨none, 0, sz, 0⟩) hst hnx rfl ⟨_, Env.addLoc_self _ _ _, rfl, by simp, rfl⟩ (by simp [GObj.blk, Env.addLoc_self])
            refine ⟨_, w, _, _, _, hrun, h1, hkeep.trans h2, ?_, hk⟩
            rw [hlen]
            exact .own _ _ _ _ st 0 _ (Env.addLoc_self _ _ _) (Nat.zero_le _) (.inl (by rw [hcl, hlen]))
          · obtain ⟨cap', rest, hc', hr', hrun⟩ := hsrc.grows (base := a) (sLen := len) (sCap := cap) (by omega) ho2 (by rw [hlen, hby]; exact hroom) (by omega)
            obtain ⟨E', g1, g2, g3⟩ := grown_row (e := e) h hst hnx hlen hxs hys ho1 hsrc.size (fun j g hj => by obtain ⟨v, hv, hr⟩ := ho4 j g hj; exact ⟨v, hv, ho3 j v hv, hr⟩) hsrc.at_ hc' hr' (tickO O).length (.inl ⟨rfl, rfl⟩)
            rw [← hlen] at hk
            exact ⟨_, _, E', _, _, hrun, g1, hkeep.trans g2, g3, hk⟩
        | false =>
        obtain ⟨st, hk, hst, hnx, h, hkeep⟩ := h.stamp hk
        rw [← tickO_len O] at hk
        by_cases hfit : len + ys.length ≤ cap
        · have hy0 : ys.length = 0 := by omega
          have hynil : ys = [] := List.length_eq_zero_iff.1 hy0
          have hnn : news = [] := List.length_eq_zero_iff.1 (by rw [hsrc.size, hy0]; simp)
          have hrun := hsrc.fits (w' := w) (base := a) hfit (by cases a <;> simp [hnn, storeCells])
          obtain ⟨h1, h2⟩ := h.objNil (.tok st sz) (l := ⟨none, 0, sz, 0⟩) hst hnx rfl ⟨_, Env.addLoc_self _ _ _, rfl, trivial⟩ (by simp [GObj.blk, Env.addLoc_self])
          refine ⟨_, w, _, _, _, hrun, h1, hkeep.trans h2, ?_, hk⟩
          subst hynil
          simp only [List.length_nil, Nat.add_zero, List.append_nil]
          exact .slice _ _ _ _ _ sz' c hlen hcap hsz' ha (fun j g hj => (hc j g hj).mono h2.ext) ⟨_, Env.addLoc_self _ _ _, .inl hcl⟩
        · obtain ⟨cap', rest, hc', hr', hrun⟩ := hsrc.grows (base := a) (sLen := len) (sCap := cap) (by omega) ho2 (by rw [hlen, hby]; exact hroom) (by omega)
          obtain ⟨E', g1, g2, g3⟩ := grown_tok (e := e) h hst hnx hlen hxs hys ho1 hsrc.size ho3 ho4 hsrc.at_ hc' hr' (tickO O).length (.inl ⟨rfl, rfl⟩)
          exact ⟨_, _, E', _, _, hrun, g1, hkeep.trans g2, g3, hk⟩
      | tok o st =>
        simp only at hk
        split at hk
        · rename_i st' sz2 hO
          obtain ⟨rfl, rfl, hk⟩ := hk
          obtain ⟨st2, hk, hst2, hnx, h, hkeep⟩ := h.stamp hk
          have hO := tickO_get hO rfl
          obtain ⟨l, hl, hls, hlreal⟩ := h.real _ _ hO
          by_cases hfit : len + ys.length ≤ cap
          · by_cases hy0 : ys.length = 0
            · have hynil : ys = [] := List.length_eq_zero_iff.1 hy0
              have hnn : news = [] := List.length_eq_zero_iff.1 (by rw [hsrc.size, hy0]; simp)
              have hrun := hsrc.fits (w' := w) (base := a) hfit (by cases a <;> simp [hnn, storeCells])
              have hle := Env.addLoc_le l hst2
              obtain ⟨h1, h2⟩ : HSim (E.addLoc st2 l) ((tickO O).set o (.tok st2 sz)) w ∧ Keep E (tickO O) w (E.addLoc st2 l) ((tickO O).set o (.tok st2 sz)) w := by
                cases hb : l.block with
                | none =>
                  exact h.upd (b := w.heap.size) (t := w.heap.size) hO (.inr (Nat.le_refl _)) (.inl rfl) hle (Env.addLoc_fin h.fin hnx) ⟨rfl, rfl⟩ rfl ⟨rfl, trivial⟩ (Nat.le_refl _) (fun _ _ _ => rfl) (fun _ _ _ _ hs => hs)
                    (fun o v hs => by have := h.snap_new (b := w.heap.size) (o := o) (Nat.le_refl _); rw [Env.addLoc_snap, this] at hs; cases hs)
                    ⟨l, Env.addLoc_self _ _ _, hls, by simp only [hb]⟩ (fun k hk => by simp [GObj.blk, Env.addLoc_self, hb] at hk)
                | some b =>
                  simp only [hb] at hlreal
                  have hblk : (GObj.tok st sz).blk E = some b := by simp [GObj.blk, hl, hb]
                  exact h.upd (b := b) (t := b) hO (.inl hblk) (.inl rfl) hle (Env.addLoc_fin h.fin hnx) ⟨rfl, rfl⟩ rfl ⟨rfl, trivial⟩ (Nat.le_refl _) (fun _ _ _ => rfl) (fun _ _ _ _ hs => hs)
                    (fun o v hs => ⟨h.sealed b o v hs, h.one b o v hs⟩) ⟨l, Env.addLoc_self _ _ _, hls, by simp only [hb]; exact hlreal⟩ (fun k hk => by simpa [GObj.blk, Env.addLoc_self, hb] using hk.symm)
              refine ⟨_, w, _, _, _, hrun, h1, hkeep.trans h2, ?_, hk⟩
              subst hynil
              simp only [List.length_nil, Nat.add_zero, List.append_nil]
              obtain ⟨l', hl', htok⟩ := htag
              rw [hl] at hl'; cases hl'
              exact .slice _ _ _ _ _ sz' c hlen hcap hsz' (fun hx => by obtain ⟨b, off, e1, e2⟩ := ha hx; exact ⟨b, off, e1, fun j hj => hle.snap _ _ _ (e2 j hj)⟩) (fun j g hj => (hc j g hj).mono hle) ⟨l, Env.addLoc_self _ _ _, htok⟩
            · obtain ⟨l', hl', htok⟩ := htag
              rw [hl] at hl'; cases hl'
              rcases htok with hcl | ⟨b, off, rfl, hb, hoff, htot⟩
              · omega
              · simp only [hb] at hlreal
                obtain ⟨cur, el, hw, hcur, hsnap⟩ := hlreal
                have hnl : news.length = ys.length * l.size := by rw [hls]; exact hsrc.size
                have hfitc : l.off + news.length ≤ cur.size := by
                  have h1 : (len + ys.length) * l.size ≤ cap * l.size := Nat.mul_le_mul_right _ hfit
                  rw [Nat.add_mul] at h1
                  rw [hcur, hnl]; omega
                have hst := run_storeCells_at P b l.off el news 0 cur w hw (by simpa using hfitc) hn1
                simp only [Nat.add_zero] at hst
                let cur' : Array Value := (cur.toList.take l.off ++ news ++ cur.toList.drop (l.off + news.length)).toArray
                have hrun := hsrc.fits (w' := w.setRow b cur') (base := some ⟨b, off, none⟩) hfit (by
                  simp only [add_at]
                  have e : off + len * sz = l.off := by rw [hoff, hls]
                  rw [e]; exact hst)
                have hw' := setRow_heap w b cur cur' el (0, 0) hw
                have hcur' : cur'.size = cur.size := by
                  show (cur.toList.take l.off ++ news ++ cur.toList.drop (l.off + news.length)).toArray.size = _
                  simp; omega
                have hat : ∀ k, cur'[k]? = if l.off ≤ k ∧ k < l.off + news.length then news[k - l.off]? else cur[k]? := by
                  intro k
                  show (cur.toList.take l.off ++ news ++ cur.toList.drop (l.off + news.length)).toArray[k]? = _
                  rw [List.getElem?_toArray]
                  by_cases h1 : k < l.off
                  · rw [if_neg (by omega), List.append_assoc, List.getElem?_append_left (by simp; omega), List.getElem?_take_of_lt h1]; simp
                  · by_cases h2 : k < l.off + news.length
                    · rw [if_pos ⟨by omega, h2⟩, List.append_assoc, List.getElem?_append_right (by simp; omega), List.getElem?_append_left (by simp; omega)]
                      have e : k - (List.take l.off cur.toList).length = k - l.off := by simp; omega
                      rw [e]
                    · rw [if_neg (by omega), List.getElem?_append_right (by simp; omega), List.getElem?_drop]
                      have e : l.off + news.length + (k - (List.take l.off cur.toList ++ news).length) = k := by simp; omega
                      rw [e]; simp
                let l2 : GLoc := { l with off := l.off + news.length }
                let E1 : Env := (E.sealMore b l.off news).addLoc st2 l2
                have hle : E.le E1 := by
                  refine ⟨fun k o v hv0 => ?_, fun s l' hs => ?_⟩
                  · show (if k = b ∧ l.off ≤ o ∧ o < l.off + news.length then news[o - l.off]? else E.snap k o) = some v
                    rw [if_neg (fun hh => by rw [hh.1, hsnap o hh.2.1] at hv0; cases hv0)]
                    exact hv0
                  · show (if s = st2 then some l2 else E.loc s) = some l'
                    split
                    · rename_i e; subst e; rw [hst2] at hs; cases hs
                    · exact hs
                have hl2 : E1.loc st2 = some l2 := Env.addLoc_self _ _ _
                have hblk : (GObj.tok st sz).blk E = some b := by simp [GObj.blk, hl, hb]
                have hsn1 : ∀ o, l.off ≤ o → o < l.off + news.length → E1.snap b o = news[o - l.off]? := fun o h1 h2 => by
                  show (if b = b ∧ l.off ≤ o ∧ o < l.off + news.length then news[o - l.off]? else E.snap b o) = _
                  rw [if_pos ⟨rfl, h1, h2⟩]
                have hsn2 : ∀ o, ¬ (l.off ≤ o ∧ o < l.off + news.length) → E1.snap b o = E.snap b o := fun o h1 => by
                  show (if b = b ∧ l.off ≤ o ∧ o < l.off + news.length then news[o - l.off]? else E.snap b o) = _
                  rw [if_neg (fun hh => h1 hh.2)]
                obtain ⟨h1, h2⟩ : HSim E1 ((tickO O).set o (.tok st2 sz)) (w.setRow b cur') ∧ Keep E (tickO O) w E1 ((tickO O).set o (.tok st2 sz)) (w.setRow b cur') := by
                  refine h.upd (b := b) (t := b) hO (.inl hblk) (.inl rfl) hle (Env.addLoc_fin (E := E.sealMore b l.off news) h.fin hnx) ⟨rfl, rfl⟩ rfl ⟨rfl, trivial⟩ (by simp) (fun k _ hk => setRow_other w b k cur' hk) (fun k o v hk hv => ?_) (fun o v hv => ?_)
                    ⟨l2, hl2, hls, by
                      show match l.block with | none => True | some b => _
                      simp only [hb]
                      exact ⟨cur', el, hw', by rw [hcur', hcur], fun o ho => by rw [hsn2 o (by have : l.off + news.length ≤ o := ho; omega)]; exact hsnap o (by have : l.off + news.length ≤ o := ho; omega)⟩⟩
                    (fun k hk => by
                      have : (GObj.tok st2 sz).blk E1 = some b := by simp [GObj.blk, hl2, l2, hb]
                      rw [this] at hk; exact (Option.some.inj hk).symm)
                  · have hv' : (if k = b ∧ l.off ≤ o ∧ o < l.off + news.length then news[o - l.off]? else E.snap k o) = some v := hv
                    rwa [if_neg (fun hh => hk hh.1)] at hv'
                  · have hcell : (w.setRow b cur').cell? ⟨b, o, none⟩ = cur'[o]? := by simp [World.cell?, hw']
                    rw [hcell, hat]
                    by_cases hin : l.off ≤ o ∧ o < l.off + news.length
                    · rw [hsn1 o hin.1 hin.2] at hv
                      rw [if_pos hin]
                      exact ⟨hv, hn1 v (List.mem_of_getElem? hv)⟩
                    · rw [hsn2 o hin] at hv
                      rw [if_neg hin]
                      have := h.sealed b o v hv
                      simp only [World.cell?, hw] at this
                      exact ⟨by simpa using this, h.one b o v hv⟩
                refine ⟨_, _, E1, _, _, hrun, h1, hkeep.trans h2, ?_, hk⟩
                have hold : ∀ (j : Nat) v, olds[j]? = some v → E.snap b (off + j) = some v := by
                  intro j v hj
                  have hne : xs ≠ [] := by
                    intro e
                    have : olds.length = 0 := by rw [ho1, hlen, e]; simp
                    have := List.length_eq_zero_iff.1 this
                    rw [this] at hj; simp at hj
                  exact ho5 hne b off rfl j v hj
                have holdl : off + olds.length = l.off := by rw [ho1, hoff, hls]
                refine .slice _ _ _ _ _ sz (fun j => (olds ++ news).getD j (.tuple #[])) (by simp [hlen]) hfit (fun x hx => (List.mem_append.1 hx).elim (hxs x) (hys x)) (fun _ => ⟨b, off, rfl, fun j hj => ?_⟩) (fun j g hj => ?_) ?_
                · have hjt : j < (olds ++ news).length := by rw [List.length_append, ho1, hsrc.size, ← Nat.add_mul]; exact hj
                  have hget : (olds ++ news)[j]? = some ((olds ++ news).getD j (.tuple #[])) := getD_of hjt
                  by_cases hjo : j < olds.length
                  · rw [hsn2 _ (by omega)]
                    exact hold j _ (by rw [← hget, List.getElem?_append_left hjo])
                  · rw [List.length_append] at hjt
                    rw [hsn1 _ (by omega) (by omega), ← hget, List.getElem?_append_right (by omega)]
                    congr 1; omega
                · have hex : ∃ v, (olds ++ news)[j]? = some v ∧ VR E v g := by
                    rcases flat_append_at hxs (by rw [← hlen, ← ho1]) j g hj with ⟨h1, h2⟩ | ⟨h1, h2⟩
                    · obtain ⟨v, hv, hr⟩ := ho4 j g h2
                      exact ⟨v, by rw [List.getElem?_append_left h1]; exact hv, hr⟩
                    · obtain ⟨v, hv, _, hr⟩ := hsrc.at_ _ g h2
                      exact ⟨v, by rw [List.getElem?_append_right h1]; exact hv, hr⟩
                  obtain ⟨v, hv, hr⟩ := hex
                  have e : (olds ++ news).getD j (.tuple #[]) = v := by simp [List.getD, hv]
                  rw [e]; exact hr.mono hle
                · refine ⟨l2, hl2, .inr ⟨b, off, rfl, hb, ?_, ?_⟩⟩
                  · show l.off + news.length = off + (len + ys.length) * l.size
                    rw [hoff, hnl, Nat.add_mul]; omega
                  · exact htot
          · obtain ⟨cap', rest, hc', hr', hrun⟩ := hsrc.grows (base := a) (sLen := len) (sCap := cap) (by omega) ho2 (by rw [hlen, hby]; exact hroom) (by omega)
            obtain ⟨E', g1, g2, g3⟩ := grown_tok (e := e) h hst2 hnx hlen hxs hys ho1 hsrc.size ho3 ho4 hsrc.at_ hc' hr' o (.inr ⟨rfl, _, hO, rfl⟩)
            exact ⟨_, _, E', _, _, hrun, g1, hkeep.trans g2, g3, hk⟩
        · exact hk.elim
    | own a len cap o st i' l hl hcap ha =>
      simp only at hk
      split at hk
      · rename_i st' sz2 xs hO
        obtain ⟨rfl, rfl, hofl, hroom, hmax, hk⟩ := hk
        have hv : VR E (.slice a len cap) (.own o st i' len) := .own a len cap o st i' l hl hcap ha
        obtain ⟨l0, hl0, hls, hszx, _⟩ := h.real _ _ hO
        rw [hl] at hl0; cases hl0
        obtain ⟨zs, olds, hzs', hzsz, hsrcS⟩ := src_sound (P := P) (sz := sz) (KS := fun zs => zs = (xs.drop i').take len) h hv
          (by simp only [srcV, hO]; exact ⟨trivial, hofl, fun y hy => hszx y (List.mem_of_mem_drop (List.mem_of_mem_take hy)), by simp⟩) (fun _ _ => trivial)
        have hzl : zs.length = len := by rw [hzs']; simp; omega
        obtain ⟨st2, hk, hst2, hnx, h, hkeep⟩ := h.stamp hk
        have hO := tickO_get hO rfl
        obtain ⟨l0, hl0, _, _, hreal⟩ := h.real _ _ hO
        rw [hl] at hl0; cases hl0
        rw [← hzs'] at hk
        by_cases hfit : len + ys.length ≤ cap
        · rcases ha with hc0 | ⟨b, hb, rfl, htot⟩
          · have hl0 : len = 0 := by omega
            have hy0 : ys.length = 0 := by omega
            have hynil : ys = [] := List.length_eq_zero_iff.1 hy0
            have hznil : zs = [] := List.length_eq_zero_iff.1 (by omega)
            have hnn : news = [] := List.length_eq_zero_iff.1 (by rw [hsrc.size, hy0]; simp)
            have hrun := hsrc.fits (w' := w) (base := a) hfit (by cases a <;> simp [hnn, storeCells])
            subst hynil; subst hznil; subst hl0
            simp only [List.length_nil, Nat.add_zero, List.append_nil] at hk hrun
            have hle := Env.addLoc_le l hst2
            obtain ⟨h1, h2⟩ : HSim (E.addLoc st2 l) ((tickO O).set o (.row st2 sz [])) w ∧ Keep E (tickO O) w (E.addLoc st2 l) ((tickO O).set o (.row st2 sz [])) w := by
              cases hb : l.block with
              | none =>
                exact h.upd (b := w.heap.size) (t := w.heap.size) hO (.inr (Nat.le_refl _)) (.inl rfl) hle (Env.addLoc_fin h.fin hnx) ⟨rfl, rfl⟩ rfl ⟨rfl, trivial⟩ (Nat.le_refl _) (fun _ _ _ => rfl) (fun _ _ _ _ hs => hs)
                  (fun o v hs => by have := h.snap_new (b := w.heap.size) (o := o) (Nat.le_refl _); rw [Env.addLoc_snap, this] at hs; cases hs)
                  ⟨l, Env.addLoc_self _ _ _, hls, by simp, by simp only [hb]⟩ (fun k hk => by simp [GObj.blk, Env.addLoc_self, hb] at hk)
              | some b =>
                simp only [hb] at hreal
                obtain ⟨cur, el, q1, q2, q3, q4, q5⟩ := hreal
                have hblk : (GObj.row st sz xs).blk E = some b := by simp [GObj.blk, hl, hb]
                exact h.upd (b := b) (t := b) hO (.inl hblk) (.inl rfl) hle (Env.addLoc_fin h.fin hnx) ⟨rfl, rfl⟩ rfl ⟨rfl, trivial⟩ (Nat.le_refl _) (fun _ _ _ => rfl) (fun _ _ _ _ hs => hs)
                  (fun o v hs => ⟨h.sealed b o v hs, h.one b o v hs⟩) ⟨l, Env.addLoc_self _ _ _, hls, by simp, by simp only [hb]; exact ⟨cur, el, q1, q2, by simp; omega, fun j g hj => by simp at hj, q5⟩⟩
                  (fun k hk => by simpa [GObj.blk, Env.addLoc_self, hb] using hk.symm)
            exact ⟨_, w, _, _, _, hrun, h1, hkeep.trans h2, .own _ _ _ _ st2 0 _ (Env.addLoc_self _ _ _) (Nat.zero_le _) (.inl hc0), hk⟩
          · simp only [hb] at hreal
            obtain ⟨cur, el, hw, hcur, htotr, hrows, hsnap⟩ := hreal
            rw [hls] at htot
            have hnl : news.length = ys.length * sz := hsrc.size
            have hcapsz : (len + ys.length) * sz ≤ cap * sz := Nat.mul_le_mul_right _ hfit
            rw [Nat.add_mul] at hcapsz
            have hpos : l.off + i' * sz + len * sz + news.length ≤ cur.size := by rw [hcur, hnl]; omega
            have hst := run_storeCells_at P b (l.off + i' * sz + len * sz) el news 0 cur w hw (by simpa using hpos) hn1
            simp only [Nat.add_zero] at hst
            let p := l.off + i' * sz + len * sz
            let cur' : Array Value := (cur.toList.take p ++ news ++ cur.toList.drop (p + news.length)).toArray
            have hrun := hsrc.fits (w' := w.setRow b cur') (base := some ⟨b, l.off + i' * l.size, none⟩) hfit (by
              simp only [add_at]
              have e : l.off + i' * l.size + len * sz = l.off + i' * sz + len * sz := by rw [hls]
              rw [e]; exact hst)
            have hw' := setRow_heap w b cur cur' el (0, 0) hw
            have hp : p + news.length ≤ cur.toList.length := by show l.off + i' * sz + len * sz + news.length ≤ _; simpa using hpos
            have hcur' : cur'.size = cur.size := by
              show (cur.toList.take p ++ news ++ cur.toList.drop (p + news.length)).toArray.size = _
              simp at hp ⊢; omega
            have hat : ∀ k, cur'[k]? = if p ≤ k ∧ k < p + news.length then news[k - p]? else cur[k]? := by
              intro k
              show (cur.toList.take p ++ news ++ cur.toList.drop (p + news.length)).toArray[k]? = _
              rw [List.getElem?_toArray]
              by_cases h1 : k < p
              · rw [if_neg (by omega), List.append_assoc, List.getElem?_append_left (by simp at hp ⊢; omega), List.getElem?_take_of_lt h1]; simp
              · by_cases h2 : k < p + news.length
                · rw [if_pos ⟨by omega, h2⟩, List.append_assoc, List.getElem?_append_right (by simp at hp ⊢; omega), List.getElem?_append_left (by simp at hp ⊢; omega)]
                  have e : k - (List.take p cur.toList).length = k - p := by simp at hp ⊢; omega
                  rw [e]
                · rw [if_neg (by omega), List.getElem?_append_right (by simp at hp ⊢; omega), List.getElem?_drop]
                  have e : p + news.length + (k - (List.take p cur.toList ++ news).length) = k := by simp at hp ⊢; omega
                  rw [e]; simp
            let l2 : GLoc := { l with off := l.off + i' * sz }
            have hle : E.le (E.addLoc st2 l2) := Env.addLoc_le l2 hst2
            have hblk : (GObj.row st sz xs).blk E = some b := by simp [GObj.blk, hl, hb]
            have hfl : zs.flatten = (xs.flatten.drop (i' * sz)).take (len * sz) := by
              rw [hzs', flatten_take (sz := sz) _ _ (fun x hx => hszx x (List.mem_of_mem_drop hx)) (by simp; omega), flatten_drop _ _ hszx (by omega)]
            have hreal2 : Realized (E.addLoc st2 l2) (w.setRow b cur') (.row st2 sz (zs ++ ys)) := by
              refine ⟨l2, Env.addLoc_self _ _ _, hls, fun x hx => (List.mem_append.1 hx).elim (hzsz x) (hys x), ?_⟩
              show match l.block with | none => _ | some b => _
              simp only [hb]
              refine ⟨cur', el, hw', by rw [hcur', hcur], ?_, fun j g hj => ?_, hsnap⟩
              · show l.off + i' * sz + (zs ++ ys).length * sz ≤ l.total
                rw [List.length_append, hzl, Nat.add_mul]; omega
              · show ∃ v, cur'[l.off + i' * sz + j]? = some v ∧ _
                rcases flat_append_at hzsz (by rw [hzl]) j g hj with ⟨h1, h2⟩ | ⟨h1, h2⟩
                · rw [hfl, List.getElem?_take, if_pos h1, List.getElem?_drop] at h2
                  obtain ⟨v, hv, h3, hr⟩ := hrows _ g h2
                  refine ⟨v, ?_, h3, hr.mono hle⟩
                  rw [hat, if_neg (by show ¬ (l.off + i' * sz + len * sz ≤ _ ∧ _); omega), Nat.add_assoc]
                  exact hv
                · obtain ⟨v, hv, h3, hr⟩ := hsrc.at_ _ g h2
                  have hlt := (List.getElem?_eq_some_iff.1 hv).1
                  refine ⟨v, ?_, h3, hr.mono hle⟩
                  rw [hat, if_pos ⟨by show l.off + i' * sz + len * sz ≤ _; omega, by show _ < l.off + i' * sz + len * sz + news.length; omega⟩]
                  have e : l.off + i' * sz + j - p = j - len * sz := by show l.off + i' * sz + j - (l.off + i' * sz + len * sz) = _; omega
                  rw [e]; exact hv
            obtain ⟨h1, h2⟩ := h.upd (b := b) (t := b) (E' := E.addLoc st2 l2) (w' := w.setRow b cur') (obj' := .row st2 sz (zs ++ ys)) hO (.inl hblk) (.inl rfl) hle (Env.addLoc_fin h.fin hnx) ⟨rfl, rfl⟩ rfl ⟨rfl, trivial⟩ (by simp)
              (fun k _ hk => setRow_other w b k cur' hk) (fun _ _ _ _ hs => hs) (fun o v hs => by have hs' : E.snap b o = some v := hs; rw [hsnap o] at hs'; cases hs') hreal2
              (fun k hk => by have : (GObj.row st2 sz (zs ++ ys)).blk (E.addLoc st2 l2) = some b := by simp [GObj.blk, Env.addLoc_self, l2, hb]
                              rw [this] at hk; exact (Option.some.inj hk).symm)
            refine ⟨_, _, _, _, _, hrun, h1, hkeep.trans h2, .own _ _ _ _ st2 0 l2 (Env.addLoc_self _ _ _) hfit (.inr ⟨b, hb, ?_, ?_⟩), hk⟩
            · show some (⟨b, l.off + i' * l.size, none⟩ : Addr) = some ⟨b, l.off + i' * sz + 0 * l.size, none⟩
              rw [hls]; simp
            · show l.off + i' * sz + 0 * l.size + cap * l.size ≤ l.total
              rw [hls]; omega
        · obtain ⟨cap', rest, hc', hr', hrun⟩ := hsrc.grows (base := a) (sLen := len) (sCap := cap) (by omega)
            (fun w' hh => by have := hsrcS.cells w' hh; rw [hzl] at this; exact this) (by rw [hby]; exact hroom) hmax
          obtain ⟨E', g1, g2, g3⟩ := grown_row (e := e) h hst2 hnx hzl.symm hzsz hys (by rw [hsrcS.size, hzl]) hsrc.size hsrcS.at_ hsrc.at_ hc' hr' o (.inr ⟨rfl, _, hO, rfl⟩)
          exact ⟨_, _, E', _, _, hrun, g1, hkeep.trans g2, g3, hk⟩
      · exact hk.elim
    | _ => exact hk.elim

end
end Gv
