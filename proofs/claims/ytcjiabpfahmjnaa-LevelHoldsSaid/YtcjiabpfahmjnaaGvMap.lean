/- Maps: made, looked into, written, entries struck out. -/
import Derived.Test.YtcjiabpfahmjnaaGvEq
import Derived.Test.YtcjiabpfahmjnaaGvMake
set_option linter.unusedVariables false
namespace Gv
open Go

section
variable {P : Program} {E : Env} {O : List GObj} {w : World} {K : GVal → List GObj → Prop}

/-- a value of a flat type may be a key -/
def ChkOK (P : Program) (em : Bool) (d : Nat) (t : TypeId) (ss : List Sk) : Prop :=
  ∀ (E : Env) (w : World) (ag : Bool) (x : Value) (xs : List GVal), tab P t = some (ss.length, ag) → VR E x (grp ag xs) → xs.length = ss.length → (Instr.checkKey em d t x).run P w = .ok () w

theorem flat_chk {em : Bool} {m : Nat} : ∀ (d : Nat) (t : TypeId) (ss : List Sk), flat P d t = some ss → ChkOK P em (m + d) t ss
  | 0, t, ss, h => by cases h
  | d + 1, t, ss, h => by
    intro E w ag x xs ht hx hl
    have IH : ∀ t k, flat P d t = some k → ChkOK P em (m + d) t k := fun t k e => flat_chk d t k e
    rw [show m + (d + 1) = (m + d) + 1 from rfl, Instr.checkKey]
    have h0 := h
    unfold flat at h
    cases hu : P.underlying t with
    | none => simp [hu] at h
    | some td =>
      cases td <;> simp only [hu] at h <;> try (cases h; done)
      case bool => simp [run_underlying hu]
      case int q => simp [run_underlying hu]
      case string => simp [run_underlying hu]
      case array n e =>
        split at h
        · rename_i k k' ag' e1 e2
          split at h
          · rename_i hc
            obtain ⟨rfl, hc⟩ := hc
            simp only [Option.some.injEq] at h
            subst h
            have hi : ∃ i, P.info? e = some i := by
              cases hi : P.info? e with
              | none => simp [tab, hi] at e2
              | some i => exact ⟨i, rfl⟩
            obtain ⟨i, hi⟩ := hi
            have ha : ag = true := by
              unfold tab at ht
              cases hit : P.info? t with
              | none => simp [hit] at ht
              | some i => simp [hit, hu] at ht; exact ht.2
            subst ha
            simp only [grp] at hx
            have hn : (List.replicate n k).flatten.length = n * k.length := by simp
            rw [hn] at hl
            have hag := flat_one e1 e2
            cases hx with
            | agg vs cs hs hcs =>
              simp only [Sem.run_bind, run_underlying hu, Result.andThen_ok]
              simp only [Std.Legacy.Range.forIn_eq_forIn_range', Std.Legacy.Range.size, Nat.sub_zero, Nat.add_one_sub_one, Nat.div_one]
              have each : ∀ j ∈ List.range' 0 n, j * k.length + k.length ≤ xs.length := fun j hj => by
                simp only [List.mem_range'_1] at hj
                have : (j + 1) * k.length ≤ n * k.length := Nat.mul_le_mul_right _ (by omega)
                rw [Nat.add_mul, Nat.one_mul] at this; omega
              generalize List.range' 0 n = is at each
              induction is with
              | nil => simp
              | cons j is ih =>
                obtain ⟨a, p1, v1⟩ := part_run (P := P) (w := w) e2 hag (.agg vs xs hs hcs) (each j (by simp))
                have p2 := IH _ _ e1 E w _ a _ e2 v1 (by have := each j (by simp); simp; omega)
                simp only [List.forIn_cons, Sem.run_bind, run_sizeOf w hi, Result.andThen_ok, hc, p1, p2, Sem.run_pure]
                exact ih (fun y hy => each y (by simp [hy]))
          · cases h
        · cases h
      case struct fs =>
        split at h
        · rename_i hst
          have ha : ag = true := by
            unfold tab at ht
            cases hit : P.info? t with
            | none => simp [hit] at ht
            | some i => simp [hit, hu] at ht; exact ht.2
          subst ha
          simp only [grp] at hx
          cases hx with
          | agg vs cs hs hcs =>
            simp only [Sem.run_bind, run_underlying hu, Result.andThen_ok]
            rw [← Array.forIn_toList]
            have key : ∀ (fn : Field → PUnit → Sem (ForInStep PUnit)), (∀ f, fn f PUnit.unit = (do
                    if f.name ≠ "_" then do
                      let a ← part f.type vs f.offset
                      Instr.checkKey em (m + d) f.type a
                      pure (ForInStep.yield PUnit.unit)
                    else pure (ForInStep.yield PUnit.unit))) → ∀ (L : List Field) (off : Nat) (ss : List Sk), flatFs P (flat P d) off L = some ss → off + ss.length ≤ xs.length →
                (forIn L PUnit.unit fn : Sem PUnit).run P w = .ok PUnit.unit w := by
              intro fn hfn
              intro L
              induction L with
              | nil => intro off ss _ _; simp
              | cons f L ih =>
                intro off ss hf hle
                unfold flatFs at hf
                split at hf
                · rename_i k k' ag' e1 e2
                  split at hf
                  · rename_i hc
                    obtain ⟨rfl, ho, hn⟩ := hc
                    split at hf
                    · rename_i l hl'
                      cases hf
                      simp only [List.length_append] at hle
                      have hne : f.name ≠ "_" := by simpa using hn
                      obtain ⟨a, p1, v1⟩ := part_run (P := P) (w := w) e2 (flat_one e1 e2) (.agg vs xs hs hcs) (by omega : off + k.length ≤ xs.length)
                      have p2 := IH _ _ e1 E w _ a _ e2 v1 (by simp; omega)
                      subst ho
                      simp only [List.forIn_cons, Sem.run_bind, hfn, hne, ne_eq, not_false_eq_true, if_true, Result.andThen_ok, p1, p2, Sem.run_pure]
                      exact ih _ _ hl' (by omega)
                    · cases hf
                  · cases hf
                · cases hf
            rw [key _ (fun f => rfl) fs.toList 0 ss h (by omega)]
            rfl
        · cases h

/-! keys -/
/-- the cells of a key of a type: how many kinds; is it an aggregate? -/
structure KT where
  ss : List Sk
  ag : Bool
def keyT (P : Program) (t : TypeId) : Option (KT × TypeId) :=
  match P.underlying t with
  | some (.map k e) => match flat P 16 k, tab P k with
    | some ss, some (n, ag) => if ss.length = n ∧ (ag = false → ss.length = 1) then some (⟨ss, ag⟩, e) else none
    | _, _ => none
  | _ => none
/-- a key's cells -/
def keyCells (k : KT) (g : GVal) : Option (List GVal) :=
  match k.ag, g with
  | true, .agg cs => some cs
  | true, _ => none
  | false, g => some [g]
theorem keyCells_grp {k : KT} {g : GVal} {cs : List GVal} (h : keyCells k g = some cs) : grp k.ag cs = g := by
  unfold keyCells at h
  cases hk : k.ag <;> simp only [hk] at h
  · simp at h; subst h; rfl
  · cases g <;> simp at h <;> subst h <;> rfl
def keyEq (k : KT) (x y : GVal) : Option Bool :=
  match keyCells k x, keyCells k y with
  | some xs, some ys => cellsEq k.ss xs ys
  | _, _ => none
/-- the place of a key -/
def kfind (k : KT) (x : GVal) : List (GVal × GVal) → Option (Option Nat)
  | [] => some none
  | p :: r => match keyEq k x p.1 with
    | some true => some (some 0)
    | some false => match kfind k x r with
      | some (some i) => some (some (i + 1))
      | some none => some none
      | none => none
    | none => none

theorem keyEq_run {k : KT} {kt : TypeId} {n : Nat} {x y : Value} {g g' : GVal} {r : Bool} (hf : flat P 16 kt = some k.ss) (ht : tab P kt = some (k.ss.length, k.ag)) (hn : k.ag = false → k.ss.length = 1)
    (hx : VR E x g) (hy : VR E y g') (h : keyEq k g g' = some r) : (Op.equal kt x y).run P w = .ok r w := by
  unfold keyEq at h
  split at h
  · rename_i xs ys e1 e2
    rw [← keyCells_grp e1] at hx
    rw [← keyCells_grp e2] at hy
    exact flat_eq (m := 9984) 16 kt k.ss hf E w k.ag x y xs ys r ht hx hy hn h
  · cases h
theorem keyEq_rigid {k : KT} {x y : Value} {g g' : GVal} (hn : k.ag = false → k.ss.length = 1) (hx : VR E x g) (hy : VR E y g') (h : keyEq k g g' = some true) : x = y := by
  unfold keyEq at h
  split at h
  · rename_i xs ys e1 e2
    rw [← keyCells_grp e1] at hx
    rw [← keyCells_grp e2] at hy
    exact grp_rigid hx hy hn h
  · cases h

theorem sameNow_int {k k' : IntKind} {q : IntKind} {a b : Int} (h : k = k') : Instr.sameNow (.int q) (.int k a) (.int k' b) = some (a == b) := by simp [Instr.sameNow, h]

def shift (j : Nat) : Option Nat → Option Nat
  | some i => some (j + i)
  | none => none

/-- where a key is found among a map's entries -/
def At (es : List MapEntry) (j : Nat) (r : Option Nat) : Option (Nat × Value) :=
  match r with
  | some i => match es[i]? with
    | some e => some (j + i, e.val)
    | none => none
  | none => none

theorem findAsking_run {k : KT} {kt : TypeId} {x : Value} {g : GVal} (hf : flat P 16 kt = some k.ss) (ht : tab P kt = some (k.ss.length, k.ag)) (hn : k.ag = false → k.ss.length = 1) (hx : VR E x g) :
    ∀ (es : List MapEntry) (kv : List (GVal × GVal)) (j : Nat) (r : Option Nat), es.length = kv.length → (∀ (i : Nat) e p, es[i]? = some e → kv[i]? = some p → EntryOK E e p) → kfind k g kv = some r →
      (Instr.findAsking kt x es j).run P w = .ok (At es j r) w
  | [], [], j, r, _, _, h => by simp [kfind] at h; subst h; simp [Instr.findAsking, At]
  | e :: es, p :: kv, j, r, hl, hall, h => by
    have h0 := (hall 0 e p rfl rfl).1
    unfold kfind at h
    rw [Instr.findAsking]
    split at h
    · rename_i h1
      simp only [Option.some.injEq] at h; subst h
      simp only [Sem.run_bind, keyEq_run (n := 0) hf ht hn hx h0 h1, Result.andThen_ok, if_true, Sem.run_pure]
      simp [At]
    · rename_i h1
      have tail : ∀ r', kfind k g kv = some r' → (Instr.findAsking kt x es (j + 1)).run P w = .ok (At es (j + 1) r') w := fun r' hr' =>
        findAsking_run hf ht hn hx es kv (j + 1) r' (by simpa using hl) (fun i e' p' he hp => hall (i + 1) e' p' (by simpa using he) (by simpa using hp)) hr'
      simp only [Sem.run_bind, keyEq_run (n := 0) hf ht hn hx h0 h1, Result.andThen_ok, Bool.false_eq_true, if_false]
      split at h
      · rename_i i hi; simp only [Option.some.injEq] at h; subst h
        rw [tail _ hi]
        simp only [At, List.getElem?_cons_succ]
        cases es[i]? with
        | none => rfl
        | some e' => simp; omega
      · rename_i hi; simp only [Option.some.injEq] at h; subst h
        rw [tail _ hi]; rfl
      · cases h
    · cases h
  | [], _ :: _, j, r, hl, _, _ => by simp at hl
  | _ :: _, [], j, r, hl, _, _ => by simp at hl

/-- scalars decide at once -/
theorem findNow_run (w : World) {k : KT} {kt : TypeId} {td : TypeDesc} {x : Value} {g : GVal} (hu : P.underlying kt = some td) (hf : flat P 16 kt = some k.ss) (ht : tab P kt = some (k.ss.length, k.ag)) (hn : k.ag = false → k.ss.length = 1) (hx : VR E x g) :
    ∀ (es : List MapEntry) (kv : List (GVal × GVal)) (j : Nat) (r : Option Nat), es.length = kv.length → (∀ (i : Nat) e p, es[i]? = some e → kv[i]? = some p → EntryOK E e p) → kfind k g kv = some r →
      Instr.findNow td x es j = some (At es j r) ∨ Instr.findNow td x es j = none
  | [], [], j, r, _, _, h => by simp [kfind] at h; subst h; left; simp [Instr.findNow, At]
  | e :: es, p :: kv, j, r, hl, hall, h => by
    have h0 := (hall 0 e p rfl rfl).1
    unfold Instr.findNow
    cases hs : Instr.sameNow td x e.key with
    | none => right; rfl
    | some b =>
      have hsb : ∀ r', keyEq k g p.1 = some r' → b = r' := by
        intro r' hr'
        have := keyEq_run (P := P) (w := w) (n := 0) hf ht hn hx h0 hr'
        have h2 : (Op.equal kt x e.key).run P w = .ok b w := by
          generalize e.key = y at hs
          unfold Instr.sameNow at hs
          split at hs
          · split at hs
            · rename_i e; subst e; cases hs; exact run_equalIn_int w 9999 kt _ _ _ _ hu
            · cases hs
          · cases hs; rw [beq_toListBytes]; exact run_equalIn_string w 9999 kt _ _ hu
          · cases hs; exact run_equalIn_bool w 9999 kt _ _ hu
          · cases hs
        rw [h2] at this
        cases this; rfl
      unfold kfind at h
      split at h
      · rename_i h1
        have := hsb _ h1; subst this
        simp only [Option.some.injEq] at h; subst h
        left; simp [At]
      · rename_i h1
        have := hsb _ h1; subst this
        have tail : ∀ r', kfind k g kv = some r' → Instr.findNow td x es (j + 1) = some (At es (j + 1) r') ∨ Instr.findNow td x es (j + 1) = none := fun r' hr' =>
          findNow_run w hu hf ht hn hx es kv (j + 1) r' (by simpa using hl) (fun i e' p' he hp => hall (i + 1) e' p' (by simpa using he) (by simpa using hp)) hr'
        simp only
        split at h
        · rename_i i hi; simp only [Option.some.injEq] at h; subst h
          rcases tail _ hi with h3 | h3
          · left; rw [h3]
            simp only [At, List.getElem?_cons_succ]
            cases es[i]? with
            | none => rfl
            | some e' => simp; omega
          · right; exact h3
        · rename_i hi; simp only [Option.some.injEq] at h; subst h
          rcases tail _ hi with h3 | h3
          · left; rw [h3]; rfl
          · right; exact h3
        · cases h
      · cases h
  | [], _ :: _, j, r, hl, _, _ => by simp at hl
  | _ :: _, [], j, r, hl, _, _ => by simp at hl

theorem findKey_run {k : KT} {kt : TypeId} {x : Value} {g : GVal} {es : List MapEntry} {kv : List (GVal × GVal)} {r : Option Nat} (hf : flat P 16 kt = some k.ss) (ht : tab P kt = some (k.ss.length, k.ag)) (hn : k.ag = false → k.ss.length = 1) (hx : VR E x g)
    (hl : es.length = kv.length) (hall : ∀ (i : Nat) e p, es[i]? = some e → kv[i]? = some p → EntryOK E e p) (h : kfind k g kv = some r) : (Instr.findKey kt x es).run P w = .ok (At es 0 r) w := by
  unfold Instr.findKey
  cases hu : P.underlying kt with
  | none => simp [tab, hu] at ht
  | some td =>
    simp only [Sem.run_bind, run_underlying hu, Result.andThen_ok]
    rcases findNow_run (P := P) w hu hf ht hn hx es kv 0 r hl hall h with h1 | h1
    · rw [h1]; simp
    · rw [h1]; exact findAsking_run hf ht hn hx es kv 0 r hl hall h

theorem keyT_spec {t : TypeId} {k : KT} {e : TypeId} (h : keyT P t = some (k, e)) :
    ∃ kt, P.underlying t = some (.map kt e) ∧ flat P 16 kt = some k.ss ∧ tab P kt = some (k.ss.length, k.ag) ∧ (k.ag = false → k.ss.length = 1) := by
  unfold keyT at h
  split at h
  · rename_i kt e' hu
    split at h
    · rename_i ss n ag h1 h2
      split at h
      · rename_i hc; cases h; exact ⟨kt, hu, h1, by rw [h2, hc.1], hc.2⟩
      · cases h
    · cases h
  · cases h

theorem checkKey_run {k : KT} {kt : TypeId} {em : Bool} {x : Value} {g : GVal} {cs : List GVal} (hf : flat P 16 kt = some k.ss) (ht : tab P kt = some (k.ss.length, k.ag)) (hx : VR E x g)
    (hc : keyCells k g = some cs) (hl : cs.length = k.ss.length) : (Instr.checkKey em 10000 kt x).run P w = .ok () w := by
  rw [← keyCells_grp hc] at hx
  exact flat_chk (m := 9984) 16 kt k.ss hf E w k.ag x cs ht hx hl

/-! operations -/
def makeMapV (O : List GObj) (K : GVal → List GObj → Prop) : Prop := stamp O fun st => K (.map O.length st) (tickO O ++ [.map st []])

def keyOk (k : KT) (g : GVal) : Prop := match keyCells k g with
  | some cs => cs.length = k.ss.length
  | none => False

/-- a zero value -/
def zeroG (P : Program) (t : TypeId) : Option GVal :=
  match P.info? t with
  | some i => match i.zero with
    | some (.agg vs) => some (.agg (vs.toList.map .ofConst))
    | some z => some (.ofConst z)
    | none => none
  | none => none

def pairG (ok b : Bool) (g : GVal) : GVal := match ok with
  | true => .tuple [g, .bool b]
  | false => g

def lookupV (P : Program) (t : TypeId) (m x : GVal) (ok : Bool) (O : List GObj) (K : GVal → Prop) : Prop :=
  match keyT P t with
  | some (k, e) => keyOk k x ∧ match zeroG P e with
    | some z => match m with
      | .map o st => match O[o]? with
        | some (.map st' kv) => st = st' ∧ match kfind k x kv with
          | some (some i) => match kv[i]? with
            | some p => K (pairG ok true p.2)
            | none => False
          | some none => K (pairG ok false z)
          | none => False
        | _ => False
      | .lit (.map none) => K (pairG ok false z)
      | _ => False
    | none => False
  | none => False

def mapUpdateV (P : Program) (t : TypeId) (m x v : GVal) (O : List GObj) (K : List GObj → Prop) : Prop :=
  match keyT P t with
  | some (k, _) => keyOk k x ∧ match m with
    | .map o st => match O[o]? with
      | some (.map st' kv) => st = st' ∧ match kfind k x kv with
        | some (some i) => K (O.set o (.map st (kv.set i (x, v))))
        | some none => K (O.set o (.map st (kv ++ [(x, v)])))
        | none => False
      | _ => False
    | _ => False
  | none => False

def deleteV (P : Program) (t : TypeId) (m x : GVal) (O : List GObj) (K : List GObj → Prop) : Prop :=
  match keyT P t with
  | some (k, _) => keyOk k x ∧ match m with
    | .map o st => match O[o]? with
      | some (.map st' kv) => st = st' ∧ match kfind k x kv with
        | some (some i) => K (O.set o (.map st (kv.eraseIdx i)))
        | some none => K O
        | none => False
      | _ => False
    | _ => False
  | none => False

theorem makeMap_sound {t : TypeId} (h : HSim E O w) (hk : makeMapV O K) : SOK P (Instr.makeMap t none) E O w K := by
  unfold makeMapV at hk
  obtain ⟨st, hk, hst, hnx, h, hkeep⟩ := h.stamp hk
  rw [← tickO_len O] at hk
  obtain ⟨h1, h2⟩ := h.objNew (.map #[] 0) (.map st []) (l := ⟨some w.heap.size, 0, 0, 0⟩) hst hnx rfl trivial rfl
    ⟨_, w.heap.size, #[], 0, Env.addLoc_self _ _ _, rfl, alloc_new _ _, rfl, fun i e p he => by simp at he, fun o => h.snap_new (Nat.le_refl _)⟩
    (by simp [GObj.blk, Env.addLoc_self])
  refine ⟨.map (some w.heap.size), _, _, _, _, ?_, h1, hkeep.trans h2, .map _ _ st _ (Env.addLoc_self _ _ _) rfl, hk⟩
  simp [Instr.makeMap]

/-- a map's block is what its object says -/
theorem map_block {m : Option Nat} {o st : Nat} {kv : List (GVal × GVal)} (h : HSim E O w) (hm : VR E (.map m) (.map o st)) (hO : O[o]? = some (.map st kv)) :
    ∃ b es clock, m = some b ∧ w.heap[b]? = some (.map es clock) ∧ es.toList.length = kv.length ∧ (∀ (i : Nat) e p, es.toList[i]? = some e → kv[i]? = some p → EntryOK E e p) ∧ (∃ l, E.loc st = some l ∧ l.block = some b) ∧ ∀ o, E.snap b o = none := by
  cases hm with
  | map r o st l hl hb =>
    obtain ⟨l', b, es, clock, hl', hb', hw, hs, he, hn⟩ := h.real _ _ hO
    rw [hl] at hl'; cases hl'
    rw [hb] at hb'; cases hb'
    exact ⟨r, es, clock, rfl, hw, by simpa using hs, fun i e p h1 h2 => he i e p (by simpa using h1) h2, ⟨l, hl, hb⟩, hn⟩

theorem zeroG_run {t : TypeId} {z : GVal} (h : zeroG P t = some z) (w : World) (E : Env) : ∃ v, (zeroValue t).run P w = .ok v w ∧ VR E v z := by
  unfold zeroG at h
  split at h
  · rename_i i hi
    have run : ∀ v, i.zero = some v → (zeroValue t).run P w = .ok v w := fun v hz => by simp [zeroValue, typeInfo, hi, hz]
    split at h
    · rename_i vs hz
      cases h
      refine ⟨_, run _ hz, .agg _ _ (by simp) (fun j g hj => ?_)⟩
      rw [List.getElem?_map] at hj
      cases hv : vs.toList[j]? with
      | none => rw [hv] at hj; cases hj
      | some x =>
        rw [hv] at hj
        simp only [Option.map_some, Option.some.injEq] at hj
        subst hj
        have hv' : vs[j]? = some x := by simpa using hv
        have e : vs.getD j (.tuple #[]) = x := by simp [Array.getD_eq_getD_getElem?, hv']
        rw [e]; exact VR.ofConst E x
    · rename_i z hne hz
      cases h
      exact ⟨_, run _ hz, VR.ofConst E z⟩
    · cases h
  · cases h

theorem getMap {r : Nat} {es : Array MapEntry} {clock : Nat} (hb : w.heap[r]? = some (.map es clock)) : (getObj r).run P w = .ok (.map es clock) w := by simp [getObj, Sem.run, hb]
theorem setMap {r : Nat} {es : Array MapEntry} {clock : Nat} (o : Obj) (hb : w.heap[r]? = some (.map es clock)) : (setObj r o).run P w = .ok () { w with heap := w.heap.setIfInBounds r o } := by
  simp [setObj, Sem.run, hb]

theorem lookup_sound {t : TypeId} {rm rx : Value} {m x : GVal} {ok : Bool} (h : HSim E O w) (hm : VR E rm m) (hx : VR E rx x) (hk : lookupV P t m x ok O (fun g => K g O)) :
    SOK P (Instr.lookup t rm rx ok) E O w K := by
  unfold lookupV at hk
  split at hk
  · rename_i k e hkt
    obtain ⟨kt, hu, hf, ht, hn⟩ := keyT_spec hkt
    obtain ⟨hko, hk⟩ := hk
    have hchk : ∀ em, (Instr.checkKey em 10000 kt rx).run P w = .ok () w := fun em => by
      unfold keyOk at hko
      split at hko
      · rename_i cs hcs; exact checkKey_run hf ht hx hcs hko
      · exact hko.elim
    split at hk
    · rename_i z hz
      obtain ⟨zv, hzr, hzv⟩ := zeroG_run hz w E
      have out : ∀ (v : Value) (b : Bool) (g : GVal), VR E v g → VR E (if ok = true then .tuple #[v, .bool b] else v) (pairG ok b g) := by
        intro v b g hv
        cases ok with
        | false => exact hv
        | true =>
          refine .tuple _ _ rfl (fun j g' hj => ?_)
          match j with
          | 0 => simp at hj; subst hj; exact hv
          | 1 => simp at hj; subst hj; exact .bool b
          | j + 2 => simp at hj
      split at hk
      · rename_i o st
        split at hk
        · rename_i st' kv hO
          obtain ⟨rfl, hk⟩ := hk
          have hm' : ∃ r, rm = .map r := by cases hm; exact ⟨_, rfl⟩
          obtain ⟨r, rfl⟩ := hm'
          obtain ⟨b, es, clock, rfl, hw, hl, he, _, _⟩ := map_block h hm hO
          have base : ∀ r, kfind k x kv = some r → (Instr.lookup t (.map (some b)) rx ok).run P w = (match At es.toList 0 r with
              | some (_, v) => .ok (if ok = true then .tuple #[v, .bool true] else v) w
              | none => .ok (if ok = true then .tuple #[zv, .bool false] else zv) w) := fun r hr => by
            have hfk := findKey_run (P := P) (w := w) hf ht hn hx hl he hr
            unfold Instr.lookup
            simp only [Sem.run_bind, run_underlying hu, Result.andThen_ok, getMap hw, Sem.run_pure, hchk, hfk]
            cases At es.toList 0 r with
            | none => simp only [Sem.run_bind, hzr, Result.andThen_ok, Sem.run_pure]
            | some p => simp only [Sem.run_bind, Sem.run_pure, Result.andThen_ok]
          split at hk
          · rename_i i hi
            split at hk
            · rename_i p hp
              have hlt : i < es.toList.length := by rw [hl]; exact (List.getElem?_eq_some_iff.1 hp).1
              have hei : es.toList[i]? = some (es.toList[i]) := List.getElem?_eq_getElem hlt
              refine .same ?_ h (out es.toList[i].val true p.2 (he i _ p hei hp).2) hk
              rw [base _ hi]; simp only [At, hei]
            · exact hk.elim
          · rename_i hi
            refine .same ?_ h (out zv false z hzv) hk
            rw [base _ hi]; simp only [At]
          · exact hk.elim
        · exact hk.elim
      · have hm' : rm = .map none := by cases hm; rfl
        subst hm'
        refine .same ?_ h (out zv false z hzv) hk
        unfold Instr.lookup
        simp only [Sem.run_bind, run_underlying hu, Result.andThen_ok, Sem.run_pure, hchk]
        have hfk := findKey_run (P := P) (w := w) (es := []) (kv := []) (r := none) hf ht hn hx rfl (by simp) rfl
        have e0 : (#[] : Array MapEntry).toList = [] := rfl
        simp only [hfk, At, Sem.run_bind, hzr, Result.andThen_ok, Sem.run_pure]
      · exact hk.elim
    · exact hk.elim
  · exact hk.elim

/-- a map is written in its block -/
theorem HSim.updMap {o st b : Nat} {kv kv' : List (GVal × GVal)} {es es' : Array MapEntry} {clock clock' : Nat} {l : GLoc} (h : HSim E O w) (hO : O[o]? = some (.map st kv)) (hl : E.loc st = some l) (hb : l.block = some b)
    (hw : w.heap[b]? = some (.map es clock)) (hs : es'.size = kv'.length) (he : ∀ (i : Nat) e p, es'[i]? = some e → kv'[i]? = some p → EntryOK E e p) :
    HSim E (O.set o (.map st kv')) { w with heap := w.heap.setIfInBounds b (.map es' clock') } ∧ Keep E O w E (O.set o (.map st kv')) { w with heap := w.heap.setIfInBounds b (.map es' clock') } := by
  have hblk : (GObj.map st kv).blk E = some b := by simp [GObj.blk, hl, hb]
  have hn : ∀ o, E.snap b o = none := by
    obtain ⟨l', b', es, clock, hl', hb', _, _, _, hn⟩ := h.real _ _ hO
    rw [hl] at hl'; cases hl'
    rw [hb] at hb'; cases hb'
    exact hn
  have hlt := (Array.getElem?_eq_some_iff.1 hw).1
  refine h.upd (b := b) (t := b) hO (.inl hblk) (.inl rfl) (.refl E) h.fin ⟨rfl, rfl⟩ rfl ⟨rfl, trivial⟩ (by simp) (fun k _ hk => ?_) (fun _ _ _ _ hv => hv) (fun o v hv => ?_) ?_ (fun k hk => ?_)
  · rw [Array.getElem?_setIfInBounds, if_neg (fun e => hk e.symm)]
  · rw [hn o] at hv; cases hv
  · refine ⟨l, b, es', clock', hl, hb, ?_, hs, he, hn⟩
    rw [Array.getElem?_setIfInBounds, if_pos rfl, if_pos hlt]
  · simp [GObj.blk, hl, hb] at hk; exact hk.symm

theorem sameBits_scalar {s : Sk} {x y : Value} {g g' : GVal} {n : Nat} (hx : VR E x g) (hy : VR E y g') (h : ceq s g g' = some true) : Instr.sameBits (n + 1) x y = true := by
  unfold ceq at h
  split at h
  · cases hx; cases hy
    split at h
    · rename_i e; subst e; simp at h; subst h; simp [Instr.sameBits]
    · cases h
  · cases hx; cases hy; simp at h; subst h; simp [Instr.sameBits]
  · cases hx; cases hy; simp at h; subst h
    simp only [Instr.sameBits]
    rw [beq_bytes]; simp
  · cases h
theorem sameBits_key {k : KT} {x y : Value} {g g' : GVal} (hn : k.ag = false → k.ss.length = 1) (hx : VR E x g) (hy : VR E y g') (h : keyEq k g g' = some true) : Instr.sameBits 10000 x y = true := by
  unfold keyEq at h
  split at h
  · rename_i xs ys e1 e2
    rw [← keyCells_grp e1] at hx
    rw [← keyCells_grp e2] at hy
    obtain ⟨hl1, hl2⟩ := cellsEq_len h
    cases ha : k.ag with
    | false =>
      rw [ha] at hx hy
      have := hn ha
      match xs, ys, (by omega : xs.length = 1), (by omega : ys.length = 1) with
      | [a], [b], _, _ => obtain ⟨s, hs⟩ := cellsEq_at h 0 a b rfl rfl; exact sameBits_scalar (n := 9999) hx hy hs
    | true =>
      rw [ha] at hx hy
      cases hx with
      | agg vs cs hs hc =>
        cases hy with
        | agg us cs' hs' hc' =>
          simp only [Instr.sameBits, Bool.and_eq_true, beq_iff_eq, List.all_eq_true]
          refine ⟨by omega, fun p hp => ?_⟩
          obtain ⟨i, hi, hpi⟩ := List.mem_iff_getElem.1 hp
          have hi1 : i < vs.size := by simp at hi; omega
          have hi2 : i < us.size := by simp at hi; omega
          rw [List.getElem_zip] at hpi
          subst hpi
          have e1' := hc i xs[i] (by simp [← hs, hi1])
          have e2' := hc' i ys[i] (by simp [← hs', hi2])
          obtain ⟨s, hss⟩ := cellsEq_at h i _ _ (List.getElem?_eq_getElem (by omega)) (List.getElem?_eq_getElem (by omega))
          have := sameBits_scalar (n := 9998) e1' e2' hss
          simpa [Array.getD, hi1, hi2] using this
  · cases h

theorem kfind_eq {k : KT} {x : GVal} : ∀ {kv : List (GVal × GVal)} {i : Nat}, kfind k x kv = some (some i) → ∃ p, kv[i]? = some p ∧ keyEq k x p.1 = some true
  | [], i, h => by simp [kfind] at h
  | p :: r, i, h => by
    unfold kfind at h
    split at h
    · rename_i h1; cases h; exact ⟨p, rfl, h1⟩
    · split at h
      · rename_i j hj; cases h; obtain ⟨q, h1, h2⟩ := kfind_eq hj; exact ⟨q, by simpa using h1, h2⟩
      · cases h
      · cases h
    · cases h

theorem mapUpdate_sound {t : TypeId} {rm rx rv : Value} {m x v : GVal} {KU : List GObj → Prop} (h : HSim E O w) (hm : VR E rm m) (hx : VR E rx x) (hv : VR E rv v) (hk : mapUpdateV P t m x v O KU) :
    ∃ w' E' O', (Instr.mapUpdate t rm rx rv).run P w = .ok () w' ∧ HSim E' O' w' ∧ Keep E O w E' O' w' ∧ KU O' := by
  unfold mapUpdateV at hk
  split at hk
  · rename_i k e hkt
    obtain ⟨kt, hu, hf, ht, hn⟩ := keyT_spec hkt
    obtain ⟨hko, hk⟩ := hk
    have hchk : ∀ em, (Instr.checkKey em 10000 kt rx).run P w = .ok () w := fun em => by
      unfold keyOk at hko
      split at hko
      · rename_i cs hcs; exact checkKey_run hf ht hx hcs hko
      · exact hko.elim
    split at hk
    · rename_i o st
      split at hk
      · rename_i st' kv hO
        obtain ⟨rfl, hk⟩ := hk
        have hm' : ∃ r, rm = .map r := by cases hm; exact ⟨_, rfl⟩
        obtain ⟨r, rfl⟩ := hm'
        obtain ⟨b, es, clock, rfl, hw, hl, he, ⟨l, hll, hlb⟩, _⟩ := map_block h hm hO
        split at hk
        · rename_i i hi
          have hfk := findKey_run (P := P) (w := w) hf ht hn hx hl he hi
          obtain ⟨p, hp, hpe⟩ := kfind_eq hi
          have hlt : i < es.toList.length := by rw [hl]; exact (List.getElem?_eq_some_iff.1 hp).1
          have hei : es.toList[i]? = some (es.toList[i]) := List.getElem?_eq_getElem hlt
          have hkey : (Instr.keyThatStays (es.toList[i]).key rx).run P w = .ok rx w := by
            have h1 : keyEq k x p.1 = some true := hpe
            have h2 := (he i _ p hei hp).1
            have h3 := keyEq_rigid hn hx h2 h1
            have h4 : Instr.sameBits 10000 (es.toList[i]).key rx = true := by
              have := sameBits_key hn hx h2 h1
              rw [← h3] at this ⊢; exact this
            unfold Instr.keyThatStays
            rw [if_pos h4]; simp
          have hei' : es[i]? = some (es.toList[i]) := by simp
          obtain ⟨q1, q2⟩ := h.updMap (o := o) (kv' := kv.set i (x, v)) (es' := es.modify i fun e => { e with key := rx, val := rv }) (clock' := clock) hO hll hlb hw (by simpa using hl) (fun j e' p' he' hp' => by
            rw [Array.getElem?_modify] at he'
            rw [List.getElem?_set] at hp'
            by_cases hij : i = j
            · subst hij
              rw [if_pos rfl, hei'] at he'
              simp only [Option.map_some, Option.some.injEq] at he'
              rw [if_pos rfl, if_pos (by rw [← hl]; exact hlt)] at hp'
              simp only [Option.some.injEq] at hp'
              subst he'; subst hp'
              exact ⟨hx, hv⟩
            · rw [if_neg hij] at he' hp'
              exact he j e' p' (by simpa using he') hp')
          refine ⟨_, E, _, ?_, q1, q2, hk⟩
          unfold Instr.mapUpdate
          simp only [Sem.run_bind, run_underlying hu, Result.andThen_ok, getMap hw, hchk, hfk, At, hei, Nat.zero_add, hei', Option.map_some, Option.getD_some, hkey]
          rw [setMap _ hw]
        · rename_i hi
          have hfk := findKey_run (P := P) (w := w) hf ht hn hx hl he hi
          obtain ⟨q1, q2⟩ := h.updMap (o := o) (kv' := kv ++ [(x, v)]) (es' := es.push { key := rx, val := rv, born := clock }) (clock' := clock + 1) hO hll hlb hw (by simp; simpa using hl) (fun j e' p' he' hp' => by
            have hl' : es.size = kv.length := by simpa using hl
            rw [Array.getElem?_push] at he'
            by_cases hj : j = es.size
            · rw [if_pos hj] at he'
              simp only [Option.some.injEq] at he'
              rw [List.getElem?_append_right (by omega)] at hp'
              rw [show j - kv.length = 0 by omega] at hp'
              simp at hp'
              subst he'; subst hp'
              exact ⟨hx, hv⟩
            · rw [if_neg hj] at he'
              have hjlt := (Array.getElem?_eq_some_iff.1 he').1
              rw [List.getElem?_append_left (by omega)] at hp'
              exact he j e' p' (by simpa using he') hp')
          refine ⟨_, E, _, ?_, q1, q2, hk⟩
          unfold Instr.mapUpdate
          simp only [Sem.run_bind, run_underlying hu, Result.andThen_ok, getMap hw, hchk, hfk, At]
          rw [setMap _ hw]
        · exact hk.elim
      · exact hk.elim
    · exact hk.elim
  · exact hk.elim

theorem delete_sound {t ty : TypeId} {rm rx : Value} {m x : GVal} {KU : List GObj → Prop} (u : TypeId) (h : HSim E O w) (hm : VR E rm m) (hx : VR E rx x) (hk : deleteV P t m x O KU) :
    ∃ w' E' O', (Builtin.delete_ #[t, u] ty #[rm, rx]).run P w = .ok (.tuple #[]) w' ∧ HSim E' O' w' ∧ Keep E O w E' O' w' ∧ KU O' := by
  unfold deleteV at hk
  split at hk
  · rename_i k e hkt
    obtain ⟨kt, hu, hf, ht, hn⟩ := keyT_spec hkt
    obtain ⟨hko, hk⟩ := hk
    have hchk : ∀ em, (Instr.checkKey em 10000 kt rx).run P w = .ok () w := fun em => by
      unfold keyOk at hko
      split at hko
      · rename_i cs hcs; exact checkKey_run hf ht hx hcs hko
      · exact hko.elim
    split at hk
    · rename_i o st
      split at hk
      · rename_i st' kv hO
        obtain ⟨rfl, hk⟩ := hk
        have hm' : ∃ r, rm = .map r := by cases hm; exact ⟨_, rfl⟩
        obtain ⟨r, rfl⟩ := hm'
        obtain ⟨b, es, clock, rfl, hw, hl, he, ⟨l, hll, hlb⟩, _⟩ := map_block h hm hO
        have hl' : es.size = kv.length := by simpa using hl
        split at hk
        · rename_i i hi
          have hfk := findKey_run (P := P) (w := w) hf ht hn hx hl he hi
          obtain ⟨p, hp, _⟩ := kfind_eq hi
          have hlt : i < es.toList.length := by rw [hl]; exact (List.getElem?_eq_some_iff.1 hp).1
          have hei : es.toList[i]? = some (es.toList[i]) := List.getElem?_eq_getElem hlt
          have hlt' : i < es.size := by simpa using hlt
          have hes : (es.eraseIdxIfInBounds i).toList = es.toList.eraseIdx i := by simp [Array.eraseIdxIfInBounds, hlt']
          obtain ⟨q1, q2⟩ := h.updMap (o := o) (kv' := kv.eraseIdx i) (es' := es.eraseIdxIfInBounds i) (clock' := clock) hO hll hlb hw
            (by rw [← Array.length_toList, hes]; rw [List.length_eraseIdx, List.length_eraseIdx, hl]) (fun j e' p' he' hp' => by
            have he2 : (es.toList.eraseIdx i)[j]? = some e' := by rw [← hes, Array.getElem?_toList]; exact he'
            rw [List.getElem?_eraseIdx] at he2 hp'
            by_cases hj : j < i
            · rw [if_pos hj] at he2 hp'; exact he j e' p' he2 hp'
            · rw [if_neg hj] at he2 hp'; exact he (j + 1) e' p' he2 hp')
          refine ⟨_, E, _, ?_, q1, q2, hk⟩
          unfold Builtin.delete_
          simp only [List.size_toArray, List.length_cons, List.length_nil, getElem?_pos, Nat.reduceAdd, Nat.zero_lt_succ, List.getElem_toArray, List.getElem_cons_zero, Nat.reduceLT, List.getElem_cons_succ,
            Sem.run_bind, run_underlying hu, Result.andThen_ok, getMap hw, hchk, hfk, At, hei, Nat.zero_add]
          rw [setMap _ hw]
          rfl
        · rename_i hi
          have hfk := findKey_run (P := P) (w := w) hf ht hn hx hl he hi
          have hlt := (Array.getElem?_eq_some_iff.1 hw).1
          have hsame : ({ w with heap := w.heap.setIfInBounds b (.map es clock) } : World) = w := by
            have e : w.heap.setIfInBounds b (.map es clock) = w.heap := by
              apply Array.ext (by simp)
              intro j h1 h2
              rw [Array.getElem_setIfInBounds]
              split
              · rename_i e; subst e; exact (Array.getElem?_eq_some_iff.1 hw).2.symm
              · rfl
            rw [e]
          refine ⟨w, E, O, ?_, h, .refl _ _ _, hk⟩
          unfold Builtin.delete_
          simp only [List.size_toArray, List.length_cons, List.length_nil, getElem?_pos, Nat.reduceAdd, Nat.zero_lt_succ, List.getElem_toArray, List.getElem_cons_zero, Nat.reduceLT, List.getElem_cons_succ,
            Sem.run_bind, run_underlying hu, Result.andThen_ok, getMap hw, hchk, hfk, At]
          rw [setMap _ hw, hsame]
          rfl
        · exact hk.elim
      · exact hk.elim
    · exact hk.elim
  · exact hk.elim
end
end Gv
