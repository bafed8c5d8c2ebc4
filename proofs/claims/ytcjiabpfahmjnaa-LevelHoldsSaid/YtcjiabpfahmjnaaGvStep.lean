/- How a world with its objects moves on: one law for all operations that write or make memory. -/
import Derived.Test.YtcjiabpfahmjnaaGvRead
import Derived.Laws.Tables
set_option linter.unusedVariables false
namespace Gv
open Go

theorem alloc_new (w : World) (o : Obj) : (w.alloc o).heap[w.heap.size]? = some o := by show (w.heap.push o)[w.heap.size]? = _; simp
theorem alloc_old (w : World) (o : Obj) (k : Nat) (h : k < w.heap.size) : (w.alloc o).heap[k]? = w.heap[k]? := by
  show (w.heap.push o)[k]? = _; rw [Array.getElem?_push, if_neg (Nat.ne_of_lt h)]

theorem alloc_frz (w : World) (c : Array Value) (t : TypeId) (a : Addr) : (w.alloc (.cells c t)).frozen? a = w.frozen? a := by
  by_cases h : a.block = w.heap.size
  · have e1 : (w.alloc (.cells c t)).heap[a.block]? = some (.cells c t) := by rw [h]; exact alloc_new w _
    have e2 : w.heap[a.block]? = none := by rw [h]; simp
    simp [World.frozen?, e1, e2]
  · by_cases h2 : a.block < w.heap.size
    · have e := alloc_old w (.cells c t) a.block h2
      simp only [World.frozen?, e]
    · have e1 : (w.alloc (.cells c t)).heap[a.block]? = none := by show (w.heap.push _)[a.block]? = none; rw [Array.getElem?_push, if_neg h]; simp; omega
      have e2 : w.heap[a.block]? = none := by simp; omega
      simp [World.frozen?, e1, e2]
theorem setRow_frz {w : World} {b : Nat} {old : Array Value} {t : TypeId} {fr : Nat × Nat} (cs : Array Value) (hw : w.heap[b]? = some (.cells old t fr)) (a : Addr) : (w.setRow b cs).frozen? a = w.frozen? a := by
  by_cases h : a.block = b
  · have e1 := setRow_heap w b old cs t fr hw
    simp only [World.frozen?, h, e1, hw]
  · have e := setRow_other w b a.block cs h
    simp only [World.frozen?, e]

theorem HSim.gen {E E' : Env} {O O' : List GObj} {w w' : World} (h : HSim E O w) (hE : E.le E') (hfin : Fin' E' O')
    (hos : w'.os = w.os) (hout : w'.output = w.output ∧ True) (hsz : w.heap.size ≤ w'.heap.size) (T : Nat → Prop)
    (hT : ∀ b, T b → InO E O b ∨ w.heap.size ≤ b)
    (hheap : ∀ k, k < w.heap.size → ¬ T k → w'.heap[k]? = w.heap[k]?)
    (hsnap : ∀ k o v, E'.snap k o = some v → E.snap k o = some v ∨ T k)
    (hcell : ∀ k o v, T k → E'.snap k o = some v → w'.cell? ⟨k, o, none⟩ = some v ∧ v.oneCell' = true)
    (hobj : ∀ (i : Nat) obj, O'[i]? = some obj → (O[i]? = some obj ∧ ∀ b, obj.blk E = some b → ¬ T b) ∨ (Realized E' w' obj ∧ ∀ b, obj.blk E' = some b → T b))
    (hone : ∀ (i j : Nat) oi oj b, i ≠ j → O'[i]? = some oi → O'[j]? = some oj → oi.blk E' = some b → oj.blk E' = some b → ¬ T b) :
    HSim E' O' w' ∧ Keep E O w E' O' w' := by
  have hold : ∀ k o v, E.snap k o = some v → w'.cell? ⟨k, o, none⟩ = some v := by
    intro k o v hv
    by_cases hk : T k
    · exact (hcell k o v hk (hE.snap _ _ _ hv)).1
    · rw [World.cell?_of_block' (hheap k (h.lt hv) hk)]; exact h.sealed _ _ _ hv
  have hblkE : ∀ (i : Nat) obj, O[i]? = some obj → obj.blk E' = obj.blk E := fun i obj ho => GObj.blk_mono hE (h.real i obj ho)
  refine ⟨⟨hfin, fun b o v hv => ?_, fun b o v hv => ?_, fun i obj ho => ?_, fun i j oi oj b hij hi hj hbi hbj => ?_⟩, ⟨hE, hos, hout.1, hsz, fun b hb hn => hheap b hb (fun ht => (hT b ht).elim hn (fun h' => by omega)), fun b o v hv => ?_, fun b hb => ?_, hout.2⟩⟩
  · rcases hsnap b o v hv with h1 | h1
    · exact hold b o v h1
    · exact (hcell b o v h1 hv).1
  · rcases hsnap b o v hv with h1 | h1
    · exact h.one b o v h1
    · exact (hcell b o v h1 hv).2
  · rcases hobj i obj ho with ⟨h1, h2⟩ | ⟨h1, _⟩
    · refine (h.real i obj h1).keep hE (fun b hb => hheap b ((h.real i obj h1).blk_lt hb) (h2 b hb)) (fun b o v hb hv => ?_)
      rcases hsnap b o v hv with h3 | h3
      · exact h3
      · exact absurd h3 (h2 b hb)
    · exact h1
  · have hnT := hone i j oi oj b hij hi hj hbi hbj
    rcases hobj i oi hi with ⟨h1, h2⟩ | ⟨_, h2⟩
    · rcases hobj j oj hj with ⟨h3, h4⟩ | ⟨_, h4⟩
      · rw [hblkE i oi h1] at hbi
        rw [hblkE j oj h3] at hbj
        exact h.sep i j oi oj b hij h1 h3 hbi hbj
      · exact hnT (h4 b hbj)
    · exact hnT (h2 b hbi)
  · rcases hsnap b o v hv with h1 | h1
    · exact .inl h1
    · exact .inr ((hT b h1).elim .inr .inl)
  · obtain ⟨i, obj, ho, hb⟩ := hb
    rcases hobj i obj ho with ⟨h1, _⟩ | ⟨_, h2⟩
    · rw [hblkE i obj h1] at hb; exact .inl ⟨i, obj, h1, hb⟩
    · exact hT b (h2 b hb)
where
  World.cell?_of_block' {w w' : World} {k o : Nat} (h : w'.heap[k]? = w.heap[k]?) : w'.cell? ⟨k, o, none⟩ = w.cell? ⟨k, o, none⟩ := by simp [World.cell?, h]

theorem HSim.of_heap {E : Env} {O : List GObj} {w w' : World} (h : HSim E O w) (hh : w'.heap = w.heap) : HSim E O w' := by
  refine ⟨h.fin, fun b o v hv => ?_, h.one, fun i obj ho => (h.real i obj ho).keep (.refl E) (fun b _ => by rw [hh]) (fun _ _ _ _ x => x), h.sep⟩
  have := h.sealed b o v hv
  simpa [World.cell?, hh] using this

theorem Keep.of_heap {E : Env} {O : List GObj} {w w' : World} (hh : w'.heap = w.heap) (ho : w'.os = w.os) (hp : w'.output = w.output) : Keep E O w E O w' :=
  ⟨.refl E, ho, hp, by rw [hh]; exact Nat.le_refl _, fun b _ _ => by rw [hh], fun _ _ _ h => .inl h, fun _ h => .inl h, trivial⟩

/-- freeze all cells of a new block -/
def Env.sealNew (E : Env) (b : Nat) (cur : Array Value) : Env := { E with snap := fun k o => if k = b then cur[o]? else E.snap k o }
/-- freeze the first n cells of a block anew -/
def Env.sealTo (E : Env) (b n : Nat) (cur : Array Value) : Env := { E with snap := fun k o => if k = b then (if o < n then cur[o]? else none) else E.snap k o }
def Env.addLoc (E : Env) (st : Nat) (l : GLoc) : Env := { E with loc := fun s => if s = st then some l else E.loc s }

theorem Env.addLoc_self (E : Env) (st : Nat) (l : GLoc) : (E.addLoc st l).loc st = some l := by simp [Env.addLoc]
theorem Env.addLoc_le {E : Env} {st : Nat} (l : GLoc) (h : E.loc st = none) : E.le (E.addLoc st l) :=
  ⟨fun _ _ _ h => h, fun s l' hs => by
    simp only [Env.addLoc]; split
    · rename_i e; subst e; rw [h] at hs; cases hs
    · exact hs⟩
/-- the next stamp is at hand -/
def Next' (O : List GObj) (st : Nat) : Prop := ∀ c, clockOf O = some c → st < c
theorem Env.addLoc_fin {E : Env} {O : List GObj} {st : Nat} {l : GLoc} (h : Fin' E O) (hn : Next' O st) : Fin' (E.addLoc st l) O := by
  obtain ⟨n, h1, h2⟩ := h
  exact ⟨max n (st + 1), fun c hc => by have := h1 c hc; have := hn c hc; omega, fun s hs => by simp only [Env.addLoc]; rw [if_neg (by omega)]; exact h2 s (by omega)⟩
theorem Fin'.app {E : Env} {O : List GObj} {obj : GObj} (h : Fin' E O) (hc : obj.isClock = false) : Fin' E (O ++ [obj]) := h.of_loc rfl (clockOf_app hc)
theorem Fin'.set {E : Env} {O : List GObj} {o : Nat} {obj obj' : GObj} (h : Fin' E O) (hO : O[o]? = some obj) (h1 : obj.isClock = false) (h2 : obj'.isClock = false) : Fin' E (O.set o obj') := h.of_loc rfl (clockOf_set hO h1 h2)
theorem HSim.stamp {E : Env} {O : List GObj} {w : World} {K : Nat → Prop} (h : HSim E O w) (hk : Gv.stamp O K) :
    ∃ st, K st ∧ E.loc st = none ∧ Next' (tickO O) st ∧ HSim E (tickO O) w ∧ Keep E O w E (tickO O) w := by
  obtain ⟨n, h1, h2⟩ := h.fin
  have hblk : ∀ (i : Nat) x b, (tickO O)[i]? = some x → x.blk E = some b → O[i]? = some x := by
    intro i x b hx hb
    rcases tickO_get' hx with h3 | h3
    · exact h3
    · cases x <;> simp_all [GObj.isClock, GObj.blk]
  have hs : ∀ (i : Nat) x, (tickO O)[i]? = some x → Realized E w x := by
    intro i x hx
    rcases tickO_get' hx with h3 | h3
    · exact h.real i x h3
    · cases x <;> simp_all [GObj.isClock, Realized]
  have base : Fin' E (tickO O) → HSim E (tickO O) w ∧ Keep E O w E (tickO O) w := fun hf =>
    ⟨⟨hf, h.sealed, h.one, hs, fun i j oi oj b hij hi hj hbi hbj => h.sep i j oi oj b hij (hblk i oi b hi hbi) (hblk j oj b hj hbj) hbi hbj⟩,
     ⟨.refl E, rfl, rfl, Nat.le_refl _, fun _ _ _ => rfl, fun _ _ _ hv => .inl hv, fun b ⟨i, x, hx, hb⟩ => .inl ⟨i, x, hblk i x b hx hb, hb⟩, trivial⟩⟩
  unfold Gv.stamp at hk
  cases hc : clockOf O with
  | none =>
    rw [hc] at hk
    have ht : tickO O = O := by
      cases O with
      | nil => rfl
      | cons x r => cases x <;> simp_all [tickO, clockOf]
    refine ⟨n, hk n, h2 n (Nat.le_refl _), (fun c e => by rw [ht, hc] at e; cases e), base (by rw [ht]; exact h.fin)⟩
  | some c =>
    rw [hc] at hk
    have ht : clockOf (tickO O) = some (c + 1) := by
      cases O with
      | nil => simp [clockOf] at hc
      | cons x r => cases x <;> simp_all [tickO, clockOf]
    have hn := h1 c hc
    exact ⟨c, hk, h2 c hn, fun c' e => by rw [ht] at e; cases e; omega, base ⟨n, fun c' e => by rw [ht] at e; cases e; omega, h2⟩⟩
theorem HSim.snap_new {E : Env} {O : List GObj} {w : World} (h : HSim E O w) {b o : Nat} (hb : w.heap.size ≤ b) : E.snap b o = none := by
  cases hs : E.snap b o with
  | none => rfl
  | some v => have := h.lt hs; omega

theorem HSim.sealNew {E : Env} {O : List GObj} {w : World} (h : HSim E O w) (cur : Array Value) (el : TypeId) (h1 : ∀ (j : Nat) v, cur[j]? = some v → v.oneCell' = true) :
    HSim (E.sealNew w.heap.size cur) O (w.alloc (.cells cur el)) ∧ Keep E O w (E.sealNew w.heap.size cur) O (w.alloc (.cells cur el)) := by
  refine h.gen ⟨fun b o v hv => ?_, fun _ _ hs => hs⟩ h.fin rfl ⟨rfl, trivial⟩ (by simp) (fun b => b = w.heap.size) (fun b hb => .inr (by omega))
    (fun k hk _ => alloc_old w _ k hk) (fun k o v hv => ?_) (fun k o v hk hv => ?_) (fun i obj ho => .inl ⟨ho, fun b hb e => ?_⟩) (fun i j oi oj b hij hi hj hbi hbj e => ?_)
  · show (if b = w.heap.size then cur[o]? else E.snap b o) = some v
    rw [if_neg (by have := h.lt hv; omega)]; exact hv
  · by_cases e : k = w.heap.size
    · exact .inr e
    · left; simpa [Env.sealNew, e] using hv
  · subst hk
    have : cur[o]? = some v := by simpa [Env.sealNew] using hv
    exact ⟨by simp only [World.cell?, alloc_new]; simpa using this, h1 _ _ this⟩
  · have := (h.real i obj ho).blk_lt hb; omega
  · have e2 : oi.blk (E.sealNew w.heap.size cur) = oi.blk E := by cases oi <;> rfl
    rw [e2] at hbi
    have := (h.real i oi hi).blk_lt hbi; omega

/-- a new object in a new block -/
theorem HSim.objNew {E : Env} {O : List GObj} {w : World} (h : HSim E O w) (ob : Obj) (obj : GObj) {st : Nat} {l : GLoc} (hst : E.loc st = none) (hnx : Next' O st) (hnc : obj.isClock = false) (hfz : True) (hb : l.block = some w.heap.size)
    (hr : Realized (E.addLoc st l) (w.alloc ob) obj) (hblk : obj.blk (E.addLoc st l) = some w.heap.size) :
    HSim (E.addLoc st l) (O ++ [obj]) (w.alloc ob) ∧ Keep E O w (E.addLoc st l) (O ++ [obj]) (w.alloc ob) := by
  have hle := Env.addLoc_le l hst
  refine h.gen hle ((Env.addLoc_fin h.fin hnx).app hnc) rfl ⟨rfl, hfz⟩ (by simp) (fun b => b = w.heap.size) (fun b hb => .inr (by omega))
    (fun k hk _ => alloc_old w _ k hk) (fun k o v hv => .inl hv) (fun k o v hk hv => ?_) (fun i ob' ho => ?_) (fun i j oi oj b hij hi hj hbi hbj e => ?_)
  · subst hk
    have := h.snap_new (b := w.heap.size) (o := o) (Nat.le_refl _)
    have hv' : E.snap w.heap.size o = some v := hv
    rw [this] at hv'; cases hv'
  · by_cases hi : i < O.length
    · rw [List.getElem?_append_left hi] at ho
      exact .inl ⟨ho, fun b hb e => by have := (h.real i ob' ho).blk_lt hb; omega⟩
    · rw [List.getElem?_append_right (by omega)] at ho
      have : ob' = obj := by
        cases hk : i - O.length with
        | zero => rw [hk] at ho; simpa using ho.symm
        | succ k => rw [hk] at ho; simp at ho
      subst this
      exact .inr ⟨hr, fun b hb => by rw [hblk] at hb; exact (Option.some.inj hb).symm⟩
  · subst e
    have low : ∀ (i : Nat) oi, i < O.length → (O ++ [obj])[i]? = some oi → oi.blk (E.addLoc st l) ≠ some w.heap.size := by
      intro i oi hi hoi hb
      rw [List.getElem?_append_left hi] at hoi
      rw [GObj.blk_mono hle (h.real i oi hoi)] at hb
      have := (h.real i oi hoi).blk_lt hb; omega
    by_cases h1 : i < O.length
    · exact low i oi h1 hi hbi
    · by_cases h2 : j < O.length
      · exact low j oj h2 hj hbj
      · have hli : i < (O ++ [obj]).length := (List.getElem?_eq_some_iff.1 hi).1
        have hlj : j < (O ++ [obj]).length := (List.getElem?_eq_some_iff.1 hj).1
        simp at hli hlj
        omega

/-- an object is written: it stays in its block, or moves to a new one (`T` is that block) -/
theorem HSim.upd {E E' : Env} {O : List GObj} {w w' : World} {o : Nat} {obj obj' : GObj} {b t : Nat} (h : HSim E O w) (hO : O[o]? = some obj) (hb : obj.blk E = some b ∨ w.heap.size ≤ t)
    (ht : t = b ∨ w.heap.size ≤ t) (hE : E.le E') (hfin : Fin' E' O) (hnc : obj.isClock = false ∧ obj'.isClock = false)
    (hos : w'.os = w.os) (hout : w'.output = w.output ∧ True) (hsz : w.heap.size ≤ w'.heap.size)
    (hheap : ∀ k, k < w.heap.size → k ≠ t → w'.heap[k]? = w.heap[k]?)
    (hsnap : ∀ k o v, k ≠ t → E'.snap k o = some v → E.snap k o = some v)
    (hcell : ∀ o v, E'.snap t o = some v → w'.cell? ⟨t, o, none⟩ = some v ∧ v.oneCell' = true)
    (hreal : Realized E' w' obj') (hblk : ∀ k, obj'.blk E' = some k → k = t) :
    HSim E' (O.set o obj') w' ∧ Keep E O w E' (O.set o obj') w' := by
  have hlt : o < O.length := (List.getElem?_eq_some_iff.1 hO).1
  have hset : ∀ (i : Nat) x, (O.set o obj')[i]? = some x → (i = o ∧ x = obj') ∨ (i ≠ o ∧ O[i]? = some x) := by
    intro i x hx
    rw [List.getElem?_set] at hx
    split at hx
    · rename_i e; subst e
      simp at hx
      exact .inl ⟨rfl, hx.symm⟩
    · rename_i e; exact .inr ⟨fun e' => e e'.symm, hx⟩
  have hoth : ∀ (i : Nat) x, i ≠ o → O[i]? = some x → x.blk E ≠ some t := by
    intro i x hi hx hbx
    rcases ht with e | e
    · subst e
      rcases hb with hb | hb
      · exact h.sep i o x obj t hi hx hO hbx hb
      · have := (h.real i x hx).blk_lt hbx; omega
    · have := (h.real i x hx).blk_lt hbx; omega
  refine h.gen hE (hfin.set hO hnc.1 hnc.2) hos hout hsz (fun k => k = t) (fun k hk => ?_) hheap (fun k o v hv => ?_) (fun k o v hk hv => by subst hk; exact hcell o v hv) (fun i x hx => ?_) (fun i j oi oj k hij hi hj hbi hbj hk => ?_)
  · subst hk
    rcases hb with hb | hb
    · rcases ht with e | e
      · subst e; exact .inl ⟨o, obj, hO, hb⟩
      · exact .inr e
    · exact .inr hb
  · by_cases e : k = t
    · exact .inr e
    · exact .inl (hsnap k o v e hv)
  · rcases hset i x hx with ⟨_, rfl⟩ | ⟨hi, hx⟩
    · exact .inr ⟨hreal, hblk⟩
    · exact .inl ⟨hx, fun b hb e => hoth i x hi hx (e ▸ hb)⟩
  · subst hk
    rcases hset i oi hi with ⟨hi1, rfl⟩ | ⟨hi1, hi2⟩
    · rcases hset j oj hj with ⟨hj1, rfl⟩ | ⟨hj1, hj2⟩
      · omega
      · rw [GObj.blk_mono hE (h.real j oj hj2)] at hbj
        exact hoth j oj hj1 hj2 hbj
    · rw [GObj.blk_mono hE (h.real i oi hi2)] at hbi
      exact hoth i oi hi1 hi2 hbi

end Gv
