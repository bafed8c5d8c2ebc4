/- Maps: made, looked into, written, entries struck out. -/
import Derived.Test.YtbfokpenlkdekaaP2
import Derived.Test.YtbfokpenlkdekaaP1
set_option linter.unusedVariables false
namespace Gv
open Go

section
variable {P : Program} {E : Env} {O : List GObj} {w : World} {K : GVal → List GObj → Prop}

/-- a value of a flat type may be a key -/
def ChkOK (P : Program) (em : Bool) (d : Nat) (t : TypeId) (ss : List Sk) : Prop :=
  ∀ (E : Env) (w : World) (ag : Bool) (x : Value) (xs : List GVal), tab P t = some (ss.length, ag) → VR E x (grp ag xs) → xs.length = ss.length → (Instr.checkKey em d t x).run P w = .ok () w

theorem flat_chk {em : Bool} {m : Nat} : ∀ (d : Nat) (t : TypeId) (ss : List Sk), flat P d t = some ss → ChkOK P em (m + d) t ss
  | 0, t, ss, h => by cases h
  | d + 1, t, ss, h => by
    intro E w ag x xs ht hx hl
    have IH : ∀ t k, flat P d t = some k → ChkOK P em (m + d) t k := fun t k e => flat_chk d t k e
    rw [show m + (d + 1) = (m + d) + 1 from rfl, Instr.checkKey]
    have h0 := h
    unfold flat at h
    cases hu : P.underlying t with
    | none => simp [hu] at h
    | some td =>
      cases td <;> simp only [hu] at h <;> try (cases h; done)
      case bool => simp [run_underlying hu]
      case int q => simp [run_underlying hu]
      case string => simp [run_underlying hu]
      case array n e =>
        split at h
        · rename_i k k' ag' e1 e2
          split at h
          · rename_i hc
            obtain ⟨rfl, hc⟩ := hc
            simp only [Option.some.injEq] at h
            subst h
            have hi : ∃ i, P.info? e = some i := by
              cases hi : P.info? e with
              | none => simp [tab, hi] at e2
              | some i => exact ⟨i, rfl⟩
            obtain ⟨i, hi⟩ := hi
            have ha : ag = true := by
              unfold tab at ht
              cases hit : P.info? t with
              | none => simp [hit] at ht
              | some i => simp [hit, hu] at ht; exact ht.2
            subst ha
            simp only [grp] at hx
            have hn : (List.replicate n k).flatten.length = n * k.length := by simp
            rw [hn] at hl
            have hag := flat_one e1 e2
            cases hx with
            | agg vs cs hs hcs =>
              simp only [Sem.run_bind, run_underlying hu, Result.andThen_ok]
              simp only [Std.Legacy.Range.forIn_eq_forIn_range', Std.Legacy.Range.size, Nat.sub_zero, Nat.add_one_sub_one, Nat.div_one]
              have each : ∀ j ∈ List.range' 0 n, j * k.length + k.length ≤ xs.length := fun j hj => by
                simp only [List.mem_range'_1] at hj
                have : (j + 1) * k.length ≤ n * k.length := Nat.mul_le_mul_right _ (by omega)
                rw [Nat.add_mul, Nat.one_mul] at this; omega
              generalize List.range' 0 n = is at each
              induction is with
              | nil => simp
              | cons j is ih =>
                obtain ⟨a, p1, v1⟩ := part_run (P := P) (w := w) e2 hag (.agg vs xs hs hcs) (each j (by simp))
                have p2 := IH _ _ e1 E w _ a _ e2 v1 (by have := each j (by simp); simp; omega)
                simp only [List.forIn_cons, Sem.run_bind, run_sizeOf w hi, Result.andThen_ok, hc, p1, p2, Sem.run_pure]
                exact ih (fun y hy => each y (by simp [hy]))
          · cases h
        · cases h
      case struct fs =>
        split at h
        · rename_i hst
          have ha : ag = true := by
            unfold tab at ht
            cases hit : P.info? t with
            | none => simp [hit] at ht
            | some i => simp [hit, hu] at ht; exact ht.2
          subst ha
          simp only [grp] at hx
          cases hx with
          | agg vs cs hs hcs =>
            simp only [Sem.run_bind, run_underlying hu, Result.andThen_ok]
            rw [← Array.forIn_toList]
            have key : ∀ (fn : Field → PUnit → Sem (ForInStep PUnit)), (∀ f, fn f PUnit.unit = (do
                    if f.name ≠ "_" then do
                      let a ← part f.type vs f.offset
                      Instr.checkKey em (m + d) f.type a
                      pure (ForInStep.yield PUnit.unit)
                    else pure (ForInStep.yield PUnit.unit))) → ∀ (L : List Field) (off : Nat) (ss : List Sk), flatFs P (flat P d) off L = some ss → off + ss.length ≤ xs.length →
                (forIn L PUnit.unit fn : Sem PUnit).run P w = .ok PUnit.unit w := by
              intro fn hfn
              intro L
              induction L with
              | nil => intro off ss _ _; simp
              | cons f L ih =>
                intro off ss hf hle
                unfold flatFs at hf
                split at hf
                · rename_i k k' ag' e1 e2
                  split at hf
                  · rename_i hc
                    obtain ⟨rfl, ho, hn⟩ := hc
                    split at hf
                    · rename_i l hl'
                      cases hf
                      simp only [List.length_append] at hle
                      have hne : f.name ≠ "_" := by simpa using hn
                      obtain ⟨a, p1, v1⟩ := part_run (P := P) (w := w) e2 (flat_one e1 e2) (.agg vs xs hs hcs) (by omega : off + k.length ≤ xs.length)
                      have p2 := IH _ _ e1 E w _ a _ e2 v1 (by simp; omega)
                      subst ho
                      simp only [List.forIn_cons, Sem.run_bind, hfn, hne, ne_eq, not_false_eq_true, if_true, Result.andThen_ok, p1, p2, Sem.run_pure]
                      exact ih _ _ hl' (by omega)
                    · cases hf
                  · cases hf
                · cases hf
            rw [key _ (fun f => rfl) fs.toList 0 ss h (by omega)]
            rfl
        · cases h

/-! keys -/
/-- the cells of a key of a type: how many kinds; is it an aggregate? -/
structure KT where
  ss : List Sk
  ag : Bool
def keyT (P : Program) (t : TypeId) : Option (KT × TypeId) :=
  match P.underlying t with
  | some (.map k e) => match flat P 16 k, tab P k with
    | some ss, some (n, ag) => if ss.length = n ∧ (ag = false → ss.length = 1) then some (⟨ss, ag⟩, e) else none
    | _, _ => none
  | _ => none
/-- a key's cells -/
def keyCells (k : KT) (g : GVal) : Option (List GVal) :=
  match k.ag, g with
  | true, .agg cs => some cs
  | true, _ => none
  | false, g => some [g]
theorem keyCells_grp {k : KT} {g : GVal} {cs : List GVal} (h : keyCells k g = some cs) : grp k.ag cs = g := by
  unfold keyCells at h
  cases hk : k.ag <;> simp only [hk] at h
  · simp at h; subst h; rfl
  · cases g <;> simp at h <;> subst h <;> rfl
def keyEq (k : KT) (x y : GVal) : Option Bool :=
  match keyCells k x, keyCells k y with
  | some xs, some ys => cellsEq k.ss xs ys
  | _, _ => none
/-- the place of a key -/
def kfind (k : KT) (x : GVal) : List (GVal × GVal) → Option (Option Nat)
  | [] => some none
  | p :: r => match keyEq k x p.1 with
    | some true => some (some 0)
    | some false => match kfind k x r with
      | some (some i) => some (some (i + 1))
      | some none => some none
      | none => none
    | none => none

theorem keyEq_run {k : KT} {kt : TypeId} {n : Nat} {x y : Value} {g g' : GVal} {r : Bool} (hf : flat P 16 kt = some k.ss) (ht : tab P kt = some (k.ss.length, k.ag)) (hn : k.ag = false → k.ss.length = 1)
    (hx : VR E x g) (hy : VR E y g') (h : keyEq k g g' = some r) : (Op.equal kt x y).run P w = .ok r w := by
  unfold keyEq at h
  split at h
  · rename_i xs ys e1 e2
    rw [← keyCells_grp e1] at hx
    rw [← keyCells_grp e2] at hy
    exact flat_eq (m := 9984) 16 kt k.ss hf E w k.ag x y xs ys r ht hx hy hn h
  · cases h
theorem keyEq_rigid {k : KT} {x y : Value} {g g' : GVal} (hn : k.ag = false → k.ss.length = 1) (hx : VR E x g) (hy : VR E y g') (h : keyEq k g g' = some true) : x = y := by
  unfold keyEq at h
  split at h
  · rename_i xs ys e1 e2
    rw [← keyCells_grp e1] at hx
    rw [← keyCells_grp e2] at hy
    exact grp_rigid hx hy hn h
  · cases h

theorem sameNow_int {k k' : IntKind} {q : IntKind} {a b : Int} (h : k = k') : Instr.sameNow (.int q) (.int k a) (.int k' b) = some (a == b) := by simp [Instr.sameNow, h]

def shift (j : Nat) : Option Nat → Option Nat
  | some i => some (j + i)
  | none => none

/-- where a key is found among a map's entries -/
def At (es : List MapEntry) (j : Nat) (r : Option Nat) : Option (Nat × Value) :=
  match r with
  | some i => match es[i]? with
    | some e => some (j + i, e.val)
    | none => none
  | none => none

theorem findAsking_run {k : KT} {kt : TypeId} {x : Value} {g : GVal} (hf : flat P 16 kt = some k.ss) (ht : tab P kt = some (k.ss.length, k.ag)) (hn : k.ag = false → k.ss.length = 1) (hx : VR E x g) :
    ∀ (es : List MapEntry) (kv : List (GVal × GVal)) (j : Nat) (r : Option Nat), es.length = kv.length → (∀ (i : Nat) e p, es[i]? = some e → kv[i]? = some p → EntryOK E e p) → kfind k g kv = some r →
      (Instr.findAsking kt x es j).run P w = .ok (At es j r) w
  | [], [], j, r, _, _, h => by simp [kfind] at h; subst h; simp [Instr.findAsking, At]
  | e :: es, p :: kv, j, r, hl, hall, h => by
    have h0 := (hall 0 e p rfl rfl).1
    unfold kfind at h
    rw [Instr.findAsking]
    split at h
    · rename_i h1
      simp only [Option.some.injEq] at h; subst h
      simp only [Sem.run_bind, keyEq_run (n := 0) hf ht hn hx h0 h1, Result.andThen_ok, if_true, Sem.run_pure]
      simp [At]
    · rename_i h1
      have tail : ∀ r', kfind k g kv = some r' → (Instr.findAsking kt x es (j + 1)).run P w = .ok (At es (j + 1) r') w := fun r' hr' =>
        findAsking_run hf ht hn hx es kv (j + 1) r' (by simpa using hl) (fun i e' p' he hp => hall (i + 1) e' p' (by simpa using he) (by simpa using hp)) hr'
      simp only [Sem.run_bind, keyEq_run (n := 0) hf ht hn hx h0 h1, Result.andThen_ok, Bool.false_eq_true, if_false]
      split at h
      · rename_i i hi; simp only [Option.some.injEq] at h; subst h
        rw [tail _ hi]
        simp only [At, List.getElem?_cons_succ]
        cases es[i]? with
        | none => rfl
        | some e' => simp; omega
      · rename_i hi; simp only [Option.some.injEq] at h; subst h
        rw [tail _ hi]; rfl
      · cases h
    · cases h
  | [], _ :: _, j, r, hl, _, _ => by simp at hl
  | _ :: _, [], j, r, hl, _, _ => by simp at hl

/-- scalars decide at once -/
theorem findNow_run (w : World) {k : KT} {kt : TypeId} {td : TypeDesc} {x : Value} {g : GVal} (hu : P.underlying kt = some td) (hf : flat P 16 kt = some k.ss) (ht : tab P kt = some (k.ss.length, k.ag)) (hn : k.ag = false → k.ss.length = 1) (hx : VR E x g) :
    ∀ (es : List MapEntry) (kv : List (GVal × GVal)) (j : Nat) (r : Option Nat), es.length = kv.length → (∀ (i : Nat) e p, es[i]? = some e → kv[i]? = some p → EntryOK E e p) → kfind k g kv = some r →
      Instr.findNow td x es j = some (At es j r) ∨ Instr.findNow td x es j = none
  | [], [], j, r, _, _, h => by simp [kfind] at h; subst h; left; simp [Instr.findNow, At]
  | e :: es, p :: kv, j, r, hl, hall, h => by
    have h0 := (hall 0 e p rfl rfl).1
    unfold Instr.findNow
    cases hs : Instr.sameNow td x e.key with
    | none => right; rfl
    | some b =>
      have hsb : ∀ r', keyEq k g p.1 = some r' → b = r' := by
        intro r' hr'
        have := keyEq_run (P := P) (w := w) (n := 0) hf ht hn hx h0 hr'
        have h2 : (Op.equal kt x e.key).run P w = .ok b w := by
          generalize e.key = y at hs
          unfold Instr.sameNow at hs
          split at hs
          · split at hs
            · rename_i e; subst e; cases hs; exact run_equalIn_int w 9999 kt _ _ _ _ hu
            · cases hs
          · cases hs; rw [beq_toListBytes]; exact run_equalIn_string w 9999 kt _ _ hu
          · cases hs; exact run_equalIn_bool w 9999 kt _ _ hu
          · cases hs
        rw [h2] at this
        cases this; rfl
      unfold kfind at h
      split at h
      · rename_i h1
        have := hsb _ h1; subst this
        simp only [Option.some.injEq] at h; subst h
        left; simp [At]
      · rename_i h1
        have := hsb _ h1; subst this
        have tail : ∀ r', kfind k g kv = some r' → Instr.findNow td x es (j + 1) = some (At es (j + 1) r') ∨ Instr.findNow td x es (j + 1) = none := fun r' hr' =>
          findNow_run w hu hf ht hn hx es kv (j + 1) r' (by simpa using hl) (fun i e' p' he hp => hall (i + 1) e' p' (by simpa using he) (by simpa using hp)) hr'
        simp only
        split at h
        · rename_i i hi; simp only [Option.some.injEq] at h; subst h
          rcases tail _ hi with h3 | h3
          · left; rw [h3]
            simp only [At, List.getElem?_cons_succ]
            cases es[i]? with
            | none => rfl
            | some e' => simp; omega
          · right; exact h3
        · rename_i hi; simp only [Option.some.injEq] at h; subst h
          rcases tail _ hi with h3 | h3
          · left; rw [h3]; rfl
          · right; exact h3
        · cases h
      · cases h
  | [], _ :: _, j, r, hl, _, _ => by simp at hl
  | _ :: _, [], j, r, hl, _, _ => by simp at hl

theorem findKey_run {k : KT} {kt : TypeId} {x : Value} {g : GVal} {es : List MapEntry} {kv : List (GVal × GVal)} {r : Option Nat} (hf : flat P 16 kt = some k.ss) (ht : tab P kt = some (k.ss.length, k.ag)) (hn : k.ag = false → k.ss.length = 1) (hx : VR E x g)
    (hl : es.length = kv.length) (hall : ∀ (i : Nat) e p, es[i]? = some e → kv[i]? = some p → EntryOK E e p) (h : kfind k g kv = some r) : (Instr.findKey kt x es).run P w = .ok (At es 0 r) w := by
  unfold Instr.findKey
  cases hu : P.underlying kt with
  | none => simp [tab, hu] at ht
  | some td =>
    simp only [Sem.run_bind, run_underlying hu, Result.andThen_ok]
    rcases findNow_run (P := P) w hu hf ht hn hx es kv 0 r hl hall h with h1 | h1
    · rw [h1]; simp
    · rw [h1]; exact findAsking_run hf ht hn hx es kv 0 r hl hall h

theorem keyT_spec {t : TypeId} {k : KT} {e : TypeId} (h : keyT P t = some (k, e)) :
    ∃ kt, P.underlying t = some (.map kt e) ∧ flat P 16 kt = some k.ss ∧ tab P kt = some (k.ss.length, k.ag) ∧ (k.ag = false → k.ss.length = 1) := by
  unfold keyT at h
  split at h
  · rename_i kt e' hu
    split at h
    · rename_i ss n ag h1 h2
      split at h
      · rename_i hc; cases h; exact ⟨kt, hu, h1, by rw [h2, hc.1], hc.2⟩
      · cases h
    · cases h
  · cases h

theorem checkKey_run {k : KT} {kt : TypeId} {em : Bool} {x : Value} {g : GVal} {cs : List GVal} (hf : flat P 16 kt = some k.ss) (ht : tab P kt = some (k.ss.length, k.ag)) (hx : VR E x g)
    (hc : keyCells k g = some cs) (hl : cs.length = k.ss.length) : (Instr.checkKey em 10000 kt x).run P w = .ok () w := by
  rw [← keyCells_grp hc] at hx
  exact flat_chk (m := 9984) 16 kt k.ss hf E w k.ag x cs ht hx hl

/-! operations -/
def makeMapV (O : List GObj) (K : GVal → List GObj → Prop) : Prop := stamp O fun st => K (.map O.length st) (tickO O ++ [.map st []])

def keyOk (k : KT) (g : GVal) : Prop := match keyCells k g with
  | some cs => cs.length = k.ss.length
  | none => False

/-- a zero value -/
def zeroG (P : Program) (t : TypeId) : Option GVal :=
  match P.info? t with
  | some i => match i.zero with
    | some (.agg vs) => some (.agg (vs.toList.map .ofConst))
    | some z => some (.ofConst z)
    | none => none
  | none => none

def pairG (ok b : Bool) (g : GVal) : GVal := match ok with
  | true => .tuple [g, .bool b]
  | false => g

def lookupV (P : Program) (t : TypeId) (m x : GVal) (ok : Bool) (O : List GObj) (K : GVal → Prop) : Prop :=
  match keyT P t with
  | some (k, e) => keyOk k x ∧ match zeroG P e with
    | some z => match m with
      | .map o st => match O[o]? with
        | some (.map st' kv) => st = st' ∧ match kfind k x kv with
          | some (some i) => match kv[i]? with
            | some p => K (pairG ok true p.2)
            | none => False
          | some none => K (pairG ok false z)
          | none => False
        | _ => False
      | .lit (.map none) => K (pairG ok false z)
      | _ => False
    | none => False
  | none => False

def mapUpdateV (P : Program) (t : TypeId) (m x v : GVal) (O : List GObj) (K : List GObj → Prop) : Prop :=
  match keyT P t with
  | some (k, _) => keyOk k x ∧ match m with
    | .map o st => match O[o]? with
      | some (.map st' kv) => st = st' ∧ match kfind k x kv with
        | some (some i) => K (O.set o (.map st (kv.set i (x, v))))
        | some none => K (O.set o (.map st (kv ++ [(x, v)])))
        | none => False
      | _ => False
    | _ => False
  | none => False

def deleteV (P : Program) (t : TypeId) (m x : GVal) (O : List GObj) (K : List GObj → Prop) : Prop :=
  match keyT P t with
  | some (k, _) => keyOk k x ∧ match m with
    | .map o st => match O[o]? with
      | some (.map st' kv) => st = st' ∧ match kfind k x kv with
        | some (some i) => K (O.set o (.map st (kv.eraseIdx i)))
        | some none => K O
        | none => False
      | _ => False
    | _ => False
  | none => False

theorem makeMap_sound {t : TypeId} (h : HSim E O w) (hk : makeMapV O K) : SOK P (Instr.makeMap t none) E O w K := by
  unfold makeMapV at hk
  obtain ⟨st, hk, hst, hnx, h, hkeep⟩ := h.stamp hk
  rw [← tickO_len O] at hk
  obtain ⟨h1, h2⟩ := h.objNew (.map #[] 0) (.map st []) (l := ⟨some w.heap.size, 0, 0, 0⟩) hst hnx rfl trivial rfl
    ⟨_, w.heap.size, #[], 0, Env.addLoc_self _ _ _, rfl, alloc_new _ _, rfl, fun i e p he => by simp at he, fun o => h.snap_new (Nat.le_refl _)⟩
    (by simp [GObj.blk, Env.addLoc_self])
  refine ⟨.map (some w.heap.size), _, _, _, _, ?_, h1, hkeep.trans h2, .map _ _ st _ (Env.addLoc_self _ _ _) rfl, hk⟩
  simp [Instr.makeMap]

/-- a map's block is what its object says -/
theorem map_block {m : Option Nat} {o st : Nat} {kv : List (GVal × GVal)} (h : HSim E O w) (hm : VR E (.map m) (.map o st)) (hO : O[o]? = some (.map st kv)) :
    ∃ b es clock, m = some b ∧ w.heap[b]? = some (.map es clock) ∧ es.toList.length = kv.length ∧ (∀ (i : Nat) e p, es.toList[i]? = some e → kv[i]? = some p → EntryOK E e p) ∧ (∃ l, E.loc st = some l ∧ l.block = some b) ∧ ∀ o, E.snap b o = none := by
  cases hm with
  | map r o st l hl hb =>
    obtain ⟨l', b, es, clock, hl', hb', hw, hs, he, hn⟩ := h.real _ _ hO
    rw [hl] at hl'; cases hl'
    rw [hb] at hb'; cases hb'
    exact ⟨r, es, clock, rfl, hw, by simpa using hs, fun i e p h1 h2 => he i e p (by simpa using h1) h2, ⟨l, hl, hb⟩, hn⟩

theorem zeroG_run {t : TypeId} {z : GVal} (h : zeroG P t = some z) (w : World) (E : Env) : ∃ v, (zeroValue t).run P w = .ok v w ∧ VR E v z := by
  unfold zeroG at h
  split at h
  · rename_i i hi
    have run : ∀ v, i.zero = some v → (zeroValue t).run P w = .ok v w := fun v hz => by simp [zeroValue, typeInfo, hi, hz]
    split at h
    · rename_i vs hz
      cases h
      refine ⟨_, run _ hz, .agg _ _ (by simp) (fun j g hj => ?_)⟩
      rw [List.getElem?_map] at hj
      cases hv : vs.toList[j]? with
      | none => rw [hv] at hj; cases hj
      | some x =>
        rw [hv] at hj
        simp only [Option.map_some, Option.some.injEq] at hj
        subst hj
        have hv' : vs[j]? = some x := by simpa using hv
        have e : vs.getD j (.tuple #[]) = x := by simp [Array.getD_eq_getD_getElem?, hv']
        rw [e]; exact VR.ofConst E x
    · rename_i z hne hz
      cases h
      exact ⟨_, run _ hz, VR.ofConst E z⟩
    · cases h
  · cases h

theorem getMap {r : Nat} {es : Array MapEntry} {clock : Nat} (hb : w.heap[r]? = some (.map es clock)) : (getObj r).run P w = .ok (.map es clock) w := by simp [getObj, Sem.run, hb]
theorem setMap {r : Nat} {es : Array MapEntry} {clock : Nat} (o : Obj) (hb : w.heap[r]? = some (.map es clock)) : (setObj r o).run P w = .ok () { w with heap := w.heap.setIfInBounds r o } := by
  simp [setObj, Sem.run, hb]

theorem lookup_sound {t : TypeId} {rm rx : Value} {m x : GVal} {ok : Bool} (h : HSim E O w) (hm : VR E rm m) (hx : VR E rx x) (hk : lookupV P t m x ok O (fun g => K g O)) :
    SOK P (Instr.lookup t rm rx ok) E O w K := by
  unfold lookupV at hk
  split at hk
  · rename_i k e hkt
    obtain ⟨kt, hu, hf, ht, hn⟩ := keyT_spec hkt
    obtain ⟨hko, hk⟩ := hk
    have hchk : ∀ em, (Instr.checkKey em 10000 kt rx).run P w = .ok () w := fun em => by
      unfold keyOk at hko
      split at hko
      · rename_i cs hcs; exact checkKey_run hf ht hx hcs hko
      · exact hko.elim
    split at hk
    · rename_i z hz
      obtain ⟨zv, hzr, hzv⟩ := zeroG_run hz w E
      have out : ∀ (v : Value) (b : Bool) (g : GVal), VR E v g → VR E (if ok = true then .tuple #[v, .bool b] else v) (pairG ok b g) := by
        intro v b g hv
        cases ok with
        | false => exact hv
        | true =>
          refine .tuple _ _ rfl (fun j g' hj => ?_)
          match j with
          | 0 => simp at hj; subst hj; exact hv
          | 1 => simp at hj; subst hj; exact .bool b
          | j + 2 => simp at hj
      split at hk
      · rename_i o st
        split at hk
        · rename_i st' kv hO
          obtain ⟨rfl, hk⟩ := hk
          have hm' : ∃ r, rm = .map r := by cases hm; exact ⟨_, rfl⟩
          obtain ⟨r, rfl⟩ := hm'
          obtain ⟨b, es, clock, rfl, hw, hl, he, _, _⟩ := map_block h hm hO
          have base : ∀ r, kfind k x kv = some r → (Instr.lookup t (.map (some b)) rx ok).run P w = (match At es.toList 0 r with
              | some (_, v) => .ok (if ok = true then .tuple #[v, .bool true] else v) w
              | none => .ok (if ok = true then .tuple #[zv, .bool false] else zv) w) := fun r hr => by
            have hfk := findKey_run (P := P) (w := w) hf ht hn hx hl he hr
            unfold Instr.lookup
            simp only [Sem.run_bind, run_underlying hu, Result.andThen_ok, getMap hw, Sem.run_pure, hchk, hfk]
            cases At es.toList 0 r with
            | none => simp only [Sem.run_bind, hzr, Result.andThen_ok, Sem.run_pure]
            | some p => simp only [Sem.run_bind, Sem.run_pure, Result.andThen_ok]
          split at hk
          · rename_i i hi
            split at hk
            · rename_i p hp
              have hlt : i < es.toList.length := by rw [hl]; exact (List.getElem?_eq_some_iff.1 hp).1
              have hei : es.toList[i]? = some (es.toList[i]) := List.getElem?_eq_getElem hlt
              refine .same ?_ h (out es.toList[i].val true p.2 (he i _ p hei hp).2) hk
              rw [base _ hi]; simp only [At, hei]
            · exact hk.elim
          · rename_i hi
            refine .same ?_ h (out zv false z hzv) hk
            rw [base _ hi]; simp only [At]
          · exact hk.elim
        · exact hk.elim
      · have hm' : rm = .map none := by cases hm; rfl
        subst hm'
        refine .same ?_ h (out zv false z hzv) hk
        unfold Instr.lookup
        simp only [Sem.run_bind, run_underlying hu, Result.andThen_ok, Sem.run_pure, hchk]
        have hfk := findKey_run (P := P) (w := w) (es := []) (kv := []) (r := none) hf ht hn hx rfl (by simp) rfl
        have e0 : (#[] : Array MapEntry).toList = [] := rfl
        simp only [hfk, At, Sem.run_bind, hzr, Result.andThen_ok, Sem.run_pure]
      · exact hk.elim
    · exact hk.elim
  · exact hk.elim

/-- a map is written in its block -/
theorem HSim.updMap {o st b : Nat} {kv kv' : List (GVal × GVal)} {es es' : Array MapEntry} {clock clock' : Nat} {l : GLoc} (h : HSim E O w) (hO : O[o]? = some (.map st kv)) (hl : E.loc st = some l) (hb : l.block = some b)
    (hw : w.heap[b]? = some (.map es clock)) (hs : es'.size = kv'.length) (he : ∀ (i : Nat) e p, es'[i]? = some e → kv'[i]? = some p → EntryOK E e p) :
    HSim E (O.set o (.map st kv')) { w with heap := w.heap.setIfInBounds b (.map es' clock') } ∧ Keep E O w E (O.set o (.map st kv')) { w with heap := w.heap.setIfInBounds b (.map es' clock') } := by
  have hblk : (GObj.map st kv).blk E = some b := by simp [GObj.blk, hl, hb]
  have hn : ∀ o, E.snap b o = none := by
    obtain ⟨l', b', es, clock, hl', hb', _, _, _, hn⟩ := h.real _ _ hO
    rw [hl] at hl'; cases hl'
    rw [hb] at hb'; cases hb'
    exact hn
  have hlt := (Array.getElem?_eq_some_iff.1 hw).1
  refine h.upd (b := b) (t := b) hO (.inl hblk) (.inl rfl) (.refl E) h.fin ⟨rfl, rfl⟩ rfl ⟨rfl, trivial⟩ (by simp) (fun k _ hk => ?_) (fun _ _ _ _ hv => hv) (fun o v hv => ?_) ?_ (fun k hk => ?_)
  · rw [Array.getElem?_setIfInBounds, if_neg (fun e => hk e.symm)]
  · rw [hn o] at hv; cases hv
  · refine ⟨l, b, es', clock', hl, hb, ?_, hs, he, hn⟩
    rw [Array.getElem?_setIfInBounds, if_pos rfl, if_pos hlt]
  · simp [GObj.blk, hl, hb] at hk; exact hk.symm

theorem sameBits_scalar {s : Sk} {x y : Value} {g g' : GVal} {n : Nat} (hx : VR E x g) (hy : VR E y g') (h : ceq s g g' = some true) : Instr.sameBits (n + 1) x y = true := by
  unfold ceq at h
  split at h
  · cases hx; cases hy
    split at h
    · rename_i e; subst e; simp at h; subst h; simp [Instr.sameBits]
    · cases h
  · cases hx; cases hy; simp at h; subst h; simp [Instr.sameBits]
  · cases hx; cases hy; simp at h; subst h
    simp only [Instr.sameBits]
    rw [beq_bytes]; simp
  · cases h
theorem sameBits_key {k : KT} {x y : Value} {g g' : GVal} (hn : k.ag = false → k.ss.length = 1) (hx : VR E x g) (hy : VR E y g') (h : keyEq k g g' = some true) : Instr.sameBits 10000 x y = true := by
  unfold keyEq at h
  split at h
  · rename_i xs ys e1 e2
    rw [← keyCells_grp e1] at hx
    rw [← keyCells_grp e2] at hy
    obtain ⟨hl1, hl2⟩ := cellsEq_len h
    cases ha : k.ag with
    | false =>
      rw [ha] at hx hy
      have := hn ha
      match xs, ys, (by omega : xs.length = 1), (by omega : ys.length = 1) with
      | [a], [b], _, _ => obtain ⟨s, hs⟩ := cellsEq_at h 0 a b rfl rfl; exact sameBits_scalar (n := 9999) hx hy hs
    | true =>
      rw [ha] at hx hy
      cases hx with
      | agg vs cs hs hc =>
        cases hy with
        | agg us cs' hs' hc' =>
          simp only [Instr.sameBits, Bool.and_eq_true, beq_iff_eq, List.all_eq_true]
          refine ⟨by omega, fun p hp => ?_⟩
          obtain ⟨i, hi, hpi⟩ := List.mem_iff_getElem.1 hp
          have hi1 : i < vs.size := by simp at hi; omega
          have hi2 : i < us.size := by simp at hi; omega
          rw [List.getElem_zip] at hpi
          subst hpi
          have e1' := hc i xs[i] (by simp [← hs, hi1])
          have e2' := hc' i ys[i] (by simp [← hs', hi2])
          obtain ⟨s, hss⟩ := cellsEq_at h i _ _ (List.getElem?_eq_getElem (by omega)) (List.getElem?_eq_getElem (by omega))
          have := sameBits_scalar (n := 9998) e1' e2' hss
          simpa [Array.getD, hi1, hi2] using this
  · cases h

theorem kfind_eq {k : KT} {x : GVal} : ∀ {kv : List (GVal × GVal)} {i : Nat}, kfind k x kv = some (some i) → ∃ p, kv[i]? = some p ∧ keyEq k x p.1 = some true
  | [], i, h => by simp [kfind] at h
  | p :: r, i, h => by
    unfold kfind at h
    split at h
    · rename_i h1; cases h; exact ⟨p, rfl, h1⟩
    · split at h
      · rename_i j hj; cases h; obtain ⟨q, h1, h2⟩ := kfind_eq hj; exact ⟨q, by simpa using h1, h2⟩
      · cases h
      · cases h
    · cases h

theorem mapUpdate_sound {t : TypeId} {rm rx rv : Value} {m x v : GVal} {KU : List GObj → Prop} (h : HSim E O w) (hm : VR E rm m) (hx : VR E rx x) (hv : VR E rv v) (hk : mapUpdateV P t m x v O KU) :
    ∃ w' E' O', (Instr.mapUpdate t rm rx rv).run P w = .ok () w' ∧ HSim E' O' w' ∧ Keep E O w E' O' w' ∧ KU O' := by
  unfold mapUpdateV at hk
  split at hk
  · rename_i k e hkt
    obtain ⟨kt, hu, hf, ht, hn⟩ := keyT_spec hkt
    obtain ⟨hko, hk⟩ := hk
    have hchk : ∀ em, (Instr.checkKey em 10000 kt rx).run P w = .ok () w := fun em => by
      unfold keyOk at hko
      split at hko
      · rename_i cs hcs; exact checkKey_run hf ht hx hcs hko
      · exact hko.elim
    split at hk
    · rename_i o st
      split at hk
      · rename_i st' kv hO
        obtain ⟨rfl, hk⟩ := hk
        have hm' : ∃ r, rm = .map r := by cases hm; exact ⟨_, rfl⟩
        obtain ⟨r, rfl⟩ := hm'
        obtain ⟨b, es, clock, rfl, hw, hl, he, ⟨l, hll, hlb⟩, _⟩ := map_block h hm hO
        split at hk
        · rename_i i hi
          have hfk := findKey_run (P := P) (w := w) hf ht hn hx hl he hi
          obtain ⟨p, hp, hpe⟩ := kfind_eq hi
          have hlt : i < es.toList.length := by rw [hl]; exact (List.getElem?_eq_some_iff.1 hp).1
          have hei : es.toList[i]? = some (es.toList[i]) := List.getElem?_eq_getElem hlt
          have hkey : (Instr.keyThatStays (es.toList[i]).key rx).run P w = .ok rx w := by
            have h1 : keyEq k x p.1 = some true := hpe
            have h2 := (he i _ p hei hp).1
            have h3 := keyEq_rigid hn hx h2 h1
            have h4 : Instr.sameBits 10000 (es.toList[i]).key rx = true := by
              have := sameBits_key hn hx h2 h1
              rw [← h3] at this ⊢; exact this
            unfold Instr.keyThatStays
            rw [if_pos h4]; simp
          have hei' : es[i]? = some (es.toList[i]) := by simp
          obtain ⟨q1, q2⟩ := h.updMap (o := o) (kv' := kv.set i (x, v)) (es' := es.modify i fun e => { e with key := rx, val := rv }) (clock' := clock) hO hll hlb hw (by simpa using hl) (fun j e' p' he' hp' => by
            rw [Array.getElem?_modify] at he'
            rw [List.getElem?_set] at hp'
            by_cases hij : i = j
            · subst hij
              rw [if_pos rfl, hei'] at he'
              simp only [Option.map_some, Option.some.injEq] at he'
              rw [if_pos rfl, if_pos (by rw [← hl]; exact hlt)] at hp'
              simp only [Option.some.injEq] at hp'
              subst he'; subst hp'
              exact ⟨hx, hv⟩
            · rw [if_neg hij] at he' hp'
              exact he j e' p' (by simpa using he') hp')
          refine ⟨_, E, _, ?_, q1, q2, hk⟩
          unfold Instr.mapUpdate
          simp only [Sem.run_bind, run_underlying hu, Result.andThen_ok, getMap hw, hchk, hfk, At, hei, Nat.zero_add, hei', Option.map_some, Option.getD_some, hkey]
          rw [setMap _ hw]
        · rename_i hi
          have hfk := findKey_run (P := P) (w := w) hf ht hn hx hl he hi
          obtain ⟨q1, q2⟩ := h.updMap (o := o) (kv' := kv ++ [(x, v)]) (es' := es.push { key := rx, val := rv, born := clock }) (clock' := clock + 1) hO hll hlb hw (by simp; simpa using hl) (fun j e' p' he' hp' => by
            have hl' : es.size = kv.length := by simpa using hl
            rw [Array.getElem?_push] at he'
            by_cases hj : j = es.size
            · rw [if_pos hj] at he'
              simp only [Option.some.injEq] at he'
              rw [List.getElem?_append_right (by omega)] at hp'
              rw [show j - kv.length = 0 by omega] at hp'
              simp at hp'
              subst he'; subst hp'
              exact ⟨hx, hv⟩
            · rw [if_neg hj] at he'
              have hjlt := (Array.getElem?_eq_some_iff.1 he').1
              rw [List.getElem?_append_left (by omega)] at hp'
              exact he j e' p' (by simpa using he') hp')
          refine ⟨_, E, _, ?_, q1, q2, hk⟩
          unfold Instr.mapUpdate
          simp only [Sem.run_bind, run_underlying hu, Result.andThen_ok, getMap hw, hchk, hfk, At]
          rw [setMap _ hw]
        · exact hk.elim
      · exact hk.elim
    · exact hk.elim
  · exact hk.elim

theorem delete_sound {t ty : TypeId} {rm rx : Value} {m x : GVal} {KU : List GObj → Prop} (u : TypeId) (h : HSim E O w) (hm : VR E rm m) (hx : VR E rx x) (hk : deleteV P t m x O KU) :
    ∃ w' E' O', (Builtin.delete_ #[t, u] ty #[rm, rx]).run P w = .ok (.tuple #[]) w' ∧ HSim E' O' w' ∧ Keep E O w E' O' w' ∧ KU O' := by
  unfold deleteV at hk
  split at hk
  · rename_i k e hkt
    obtain ⟨kt, hu, hf, ht, hn⟩ := keyT_spec hkt
    obtain ⟨hko, hk⟩ := hk
    have hchk : ∀ em, (Instr.checkKey em 10000 kt rx).run P w = .ok () w := fun em => by
      unfold keyOk at hko
      split at hko
      · rename_i cs hcs; exact checkKey_run hf ht hx hcs hko
      · exact hko.elim
    split at hk
    · rename_i o st
      split at hk
      · rename_i st' kv hO
        obtain ⟨rfl, hk⟩ := hk
        have hm' : ∃ r, rm = .map r := by cases hm; exact ⟨_, rfl⟩
        obtain ⟨r, rfl⟩ := hm'
        obtain ⟨b, es, clock, rfl, hw, hl, he, ⟨l, hll, hlb⟩, _⟩ := map_block h hm hO
        have hl' : es.size = kv.length := by simpa using hl
        split at hk
        · rename_i i hi
          have hfk := findKey_run (P := P) (w := w) hf ht hn hx hl he hi
          obtain ⟨p, hp, _⟩ := kfind_eq hi
          have hlt : i < es.toList.length := by rw [hl]; exact (List.getElem?_eq_some_iff.1 hp).1
          have hei : es.toList[i]? = some (es.toList[i]) := List.getElem?_eq_getElem hlt
          have hlt' : i < es.size := by simpa using hlt
          have hes : (es.eraseIdxIfInBounds i).toList = es.toList.eraseIdx i := by simp [Array.eraseIdxIfInBounds, hlt']
          obtain ⟨q1, q2⟩ := h.updMap (o := o) (kv' := kv.eraseIdx i) (es' := es.eraseIdxIfInBounds i) (clock' := clock) hO hll hlb hw
            (by rw [← Array.length_toList, hes]; rw [List.length_eraseIdx, List.length_eraseIdx, hl]) (fun j e' p' he' hp' => by
            have he2 : (es.toList.eraseIdx i)[j]? = some e' := by rw [← hes, Array.getElem?_toList]; exact he'
            rw [List.getElem?_eraseIdx] at he2 hp'
            by_cases hj : j < i
            · rw [if_pos hj] at he2 hp'; exact he j e' p' he2 hp'
            · rw [if_neg hj] at he2 hp'; exact he (j + 1) e' p' he2 hp')
          refine ⟨_, E, _, ?_, q1, q2, hk⟩
          unfold Builtin.delete_
          simp only [List.size_toArray, List.length_cons, List.length_nil, getElem?_pos, Nat.reduceAdd, Nat.zero_lt_succ, List.getElem_toArray, List.getElem_cons_zero, Nat.reduceLT, List.getElem_cons_succ,
            Sem.run_bind, run_underlying hu, Result.andThen_ok, getMap hw, hchk, hfk, At, hei, Nat.zero_add]
          rw [setMap _ hw]
          rfl
        · rename_i hi
          have hfk := findKey_run (P := P) (w := w) hf ht hn hx hl he hi
          have hlt := (Array.getElem?_eq_some_iff.1 hw).1
          have hsame : ({ w with heap := w.heap.setIfInBounds b (.map es clock) } : World) = w := by
            have e : w.heap.setIfInBounds b (.map es clock) = w.heap := by
              apply Array.ext (by simp)
              intro j h1 h2
              rw [Array.getElem_setIfInBounds]
              split
              · rename_i e; subst e; exact (Array.getElem?_eq_some_iff.1 hw).2.symm
              · rfl
            rw [e]
          refine ⟨w, E, O, ?_, h, .refl _ _ _, hk⟩
          unfold Builtin.delete_
          simp only [List.size_toArray, List.length_cons, List.length_nil, getElem?_pos, Nat.reduceAdd, Nat.zero_lt_succ, List.getElem_toArray, List.getElem_cons_zero, Nat.reduceLT, List.getElem_cons_succ,
            Sem.run_bind, run_underlying hu, Result.andThen_ok, getMap hw, hchk, hfk, At]
          rw [setMap _ hw, hsame]
          rfl
        · exact hk.elim
      · exact hk.elim
    · exact hk.elim
  · exact hk.elim
end
end Gv
/- One operation of a region: what it comes to, and that it does. -/
set_option linter.unusedVariables false
namespace Gv
open Go

structure GSt where
  s : List GVal
  o : List GObj

def sget (s : List GVal) (t : Nat) : GVal := s.getD t .any
theorem sget_zero (x : GVal) (r : List GVal) : sget (x :: r) 0 = x := rfl
theorem sget_succ (x : GVal) (r : List GVal) (n : Nat) : sget (x :: r) (n + 1) = sget r n := by simp [sget]

def GSt.ev (st : GSt) : Operand → GVal
  | .tmp t => sget st.s t
  | .const v => .ofConst v
  | .global g => .lit (.pointer (some ⟨g, 0, none⟩))
  | .func f => .func (.func f) [] []

def GSt.put (st : GSt) (d : Option Nat) (g : GVal) (O' : List GObj) : GSt :=
  match d with
  | some d => ⟨st.s.set d g, O'⟩
  | none => ⟨st.s, O'⟩

structure SlotsR (E : Env) (a : Act) (s : List GVal) : Prop where
  size : a.tmps.size = s.length
  defers : a.defers = []
  at_ : ∀ (i : Nat) g, s[i]? = some g → VR E (a.tmps.getD i undef) g

theorem SlotsR.mono {E E' : Env} (h : E.le E') {a : Act} {s : List GVal} (k : SlotsR E a s) : SlotsR E' a s := ⟨k.size, k.defers, fun i g hg => (k.at_ i g hg).mono h⟩

theorem SlotsR.ev {E : Env} {a : Act} {st : GSt} (h : SlotsR E a st.s) (x : Operand) : VR E (a.eval x) (st.ev x) := by
  cases x with
  | tmp t =>
    show VR E (a.tmps.getD t undef) (st.s.getD t .any)
    by_cases ht : t < st.s.length
    · exact h.at_ t _ (getD_of ht)
    · have : st.s.getD t .any = .any := by simp [List.getD, List.getElem?_eq_none (Nat.le_of_not_lt ht)]
      rw [this]; exact .any _
  | const v => exact VR.ofConst E v
  | global g => exact .lit _
  | func f => exact .func _ _ _ _ _ rfl rfl (by simp) (by simp)

theorem SlotsR.put {E E' : Env} {a : Act} {st : GSt} (h : SlotsR E a st.s) (hE : E.le E') {d : Option Nat} {v : Value} {g : GVal} (hv : VR E' v g) (O' : List GObj) : SlotsR E' (a.put d v) (st.put d g O').s := by
  cases d with
  | none => exact h.mono hE
  | some d =>
    refine ⟨by simp [Act.put, GSt.put, h.size], h.defers, fun i g' hg => ?_⟩
    simp only [GSt.put, List.getElem?_set] at hg
    simp only [Act.put, Array.getD_eq_getD_getElem?, Array.getElem?_setIfInBounds]
    by_cases hd : d = i
    · subst hd
      rw [if_pos rfl] at hg
      split at hg
      · rename_i hlt
        simp only [Option.some.injEq] at hg
        subst hg
        have : d < a.tmps.size := by rw [h.size]; exact hlt
        simpa [this] using hv
      · cases hg
    · rw [if_neg hd] at hg ⊢
      have := h.at_ i g' hg
      simpa [Array.getD_eq_getD_getElem?] using this.mono hE

theorem GSt.put_o (st : GSt) (d : Option Nat) (g : GVal) (O' : List GObj) : (st.put d g O').o = O' := by cases d <;> rfl

/-- may a call go in? -/
def enterable (P : Program) (f : FuncId) : Bool :=
  match P.funcs[f]? with
  | some fn => fn.body.isSome && fn.name != "runtime.NumGoroutine"
  | none => false

theorem enterable_run {P : Program} {f : FuncId} (h : enterable P f = true) (args : Array Value) (w : World) : (callFunc f args).run P w = .ok (.enter f args) w := by
  unfold enterable at h
  cases hf : P.funcs[f]? with
  | none => simp [hf] at h
  | some fn =>
    simp only [hf, Bool.and_eq_true, bne_iff_ne] at h
    cases hb : fn.body with
    | none => simp [hb] at h
    | some c => simp [callFunc, hf, h.2, hb]

def ArgsR (E : Env) (vs : Array Value) (gs : List GVal) : Prop := vs.size = gs.length ∧ ∀ (i : Nat) g, gs[i]? = some g → VR E (vs.getD i undef) g

/-- A CALL'S CONTRACT OVER GHOST VALUES -/
def GCalls (P : Program) (f : FuncId) (args : List GVal) (O : List GObj) (K : GVal → List GObj → Prop) : Prop :=
  enterable P f = true ∧ ∀ E w vs, HSim E O w → ArgsR E vs args →
    Calls P f vs w fun e w' => ∃ v E' O' g, e = .returned v ∧ HSim E' O' w' ∧ Keep E O w E' O' w' ∧ VR E' v g ∧ K g O'

theorem GCalls.mono {P : Program} {f : FuncId} {args : List GVal} {O : List GObj} {K K' : GVal → List GObj → Prop} (h : GCalls P f args O K) (hk : ∀ g O', K g O' → K' g O') : GCalls P f args O K' :=
  ⟨h.1, fun E w vs hs ha => (h.2 E w vs hs ha).mono fun e w' ⟨v, E', O', g, h1, h2, h3, h4, h5⟩ => ⟨v, E', O', g, h1, h2, h3, h4, hk _ _ h5⟩⟩

def nilV (g : GVal) (K : GVal → Prop) : Prop :=
  match g with
  | .ptr _ _ _ _ => K g
  | .ref _ => K g
  | .func (.func _) _ _ => K g
  | .iface _ _ => K g
  | _ => False

def callV (P : Program) (ow : Bool) (st : GSt) (c : Call) (K : GVal → List GObj → Prop) : Prop :=
  match c.callee with
  | .builtin b => match b, c.argTypes.toList, c.args.toList with
    | .len, [t], [x] => lenV P t (st.ev x) st.o (fun g => K g st.o)
    | .append, [t, u], [x, y] => appendV P ow t u (st.ev x) (st.ev y) st.o K
    | .min, _, [x, y] => minV false [st.ev x, st.ev y] (fun g => K g st.o)
    | .max, _, [x, y] => minV true [st.ev x, st.ev y] (fun g => K g st.o)
    | .delete, [t, u], [x, y] => deleteV P t (st.ev x) (st.ev y) st.o (fun O' => K (.tuple []) O')
    | .cap, [t], [x] => capV P t (st.ev x) (fun g => K g st.o)
    | _, _, _ => False
  | .value f => match st.ev f with
    | .func (.func n) first caps => GCalls P n (first ++ c.args.toList.map st.ev ++ caps) st.o K
    | _ => False
  | _ => False

/-- two ways, told by a bool -/
theorem gcase {b want : Bool} {p q : Prop} : (if b = want then (b = want → p) else (b = (!want) → q)) ↔ ((b = want → p) ∧ (b = (!want) → q)) := by
  cases b <;> cases want <;> simp
/-- one of two ways -/
def gif (b : Bool) (p q : Prop) : Prop := match b with
  | true => p
  | false => q
theorem gif_iff {b : Bool} {p q : Prop} : gif b p q ↔ ((b = true → p) ∧ (b = false → q)) := by cases b <;> simp [gif]
theorem gcase1 {b : Bool} {p q : Prop} : (if b = true then (b = true → p) else (b = false → q)) ↔ ((b = true → p) ∧ (b = false → q)) := gcase (want := true)

def optV (st : GSt) : Option Operand → Option GVal
  | none => none
  | some x => some (st.ev x)

def opv (P : Program) (R : List Nat) (st : GSt) (o : Oper) (K : GVal → List GObj → Prop) : Prop :=
  match o.op with
  | .move x => K (st.ev x) st.o
  | .assign x => K (st.ev x) st.o
  | .pick c a b => match st.ev c with
    | .bool t => gif t (K (st.ev a) st.o) (K (st.ev b) st.o)
    | _ => False
  | .binOp op t x y _ => binV P op t (st.ev x) (st.ev y) (fun g => K g st.o)
  | .unOp op _ x => unV op (st.ev x) (fun g => K g st.o)
  | .convert s d x => convV P s d (st.ev x) (fun g => K g st.o)
  | .load t x => loadV P t (st.ev x) st.o (fun g => K g st.o)
  | .store t x y => storeV P t (st.ev x) (st.ev y) st.o (fun O' => K .any O')
  | .fieldAddr s x f => fieldAddrV P s (st.ev x) f (fun g => K g st.o)
  | .field s x f => fieldV P s (st.ev x) f (fun g => K g st.o)
  | .indexAddr t x i => indexAddrV P t (st.ev x) (st.ev i) st.o (fun g => K g st.o)
  | .index t x i => indexV P t (st.ev x) (st.ev i) (fun g => K g st.o)
  | .extract x i => extractV (st.ev x) i (fun g => K g st.o)
  | .alloc t => allocV P t st.o K
  | .lookup t x y ok => lookupV P t (st.ev x) (st.ev y) ok st.o (fun g => K g st.o)
  | .mapUpdate t x y z => mapUpdateV P t (st.ev x) (st.ev y) (st.ev z) st.o (fun O' => K .any O')
  | .insert t x y z => mapUpdateV P t (st.ev x) (st.ev y) (st.ev z) st.o (fun O' => K .any O')
  | .makeMap t r => match r with
    | none => makeMapV st.o K
    | some _ => False
  | .box _ x => boxV (match o.dst with | some d => R.contains d | none => false) (st.ev x) st.o K
  | .build t ps => buildV P t (ps.toList.map fun p => (p.1, st.ev p.2)) (fun g => K g st.o)
  | .buildSlice t n ps => buildSliceV P t n (ps.toList.map fun p => (p.1, st.ev p.2)) (fun g => K g st.o)
  | .slice t x lo hi mx => sliceV P t (st.ev x) (optV st lo) (optV st hi) (optV st mx) st.o (fun g => K g st.o)
  | .nilCheck x => nilV (st.ev x) (fun g => K g st.o)
  | .makeInterface t x => ifaceV P t (st.ev x) (fun g => K g st.o)
  | .makeFunc fn fs cs => K (.func fn (fs.toList.map st.ev) (cs.toList.map st.ev)) st.o
  | .call c => callV P (match o.dst with | some d => R.contains d | none => false) st c K
  | _ => False

section
variable {P : Program} {E : Env} {w : World} {K : GVal → List GObj → Prop} {st : GSt} {a : Act} {o : Oper} {next : Act → World → Prop} {Q : Exit → Act → World → Prop}

def Nexts (o : Oper) (a : Act) (w : World) (E : Env) (st : GSt) (K : GVal → List GObj → Prop) (next : Act → World → Prop) : Prop :=
  ∀ v w' E' O' g, HSim E' O' w' → Keep E st.o w E' O' w' → VR E' v g → K g O' → next (a.put o.dst v) w'

theorem wp_of_SOK {s : Sem Value} (hs : SOK P s E st.o w K) (he : execOp a.eval o = (do pure (.value (← s)) : Sem Next)) (hn : Nexts o a w E st K next) : o.wp P a w next Q := by
  obtain ⟨v, w', E', O', g, hrun, h1, h2, h3, h4⟩ := hs
  unfold Oper.wp
  rw [he]
  simp only [Sem.run_bind, hrun, Result.andThen_ok, Sem.run_pure, Oper.upon_value]
  exact hn v w' E' O' g h1 h2 h3 h4

theorem parts_R (ha : SlotsR E a st.s) (ps : Array (Nat × Operand)) :
    (ps.toList.map fun p => (p.1, st.ev p.2)).map (·.1) = (ps.map fun (i, x) => (i, a.eval x)).toList.map (·.1) ∧
    ∀ (i : Nat) g v, (ps.toList.map fun p => (p.1, st.ev p.2))[i]? = some g → (ps.map fun (i, x) => (i, a.eval x)).toList[i]? = some v → VR E v.2 g.2 := by
  constructor
  · simp
  · intro i g v hg hv
    rw [List.getElem?_map] at hg
    rw [Array.toList_map, List.getElem?_map] at hv
    cases hp : ps.toList[i]? with
    | none => simp [hp] at hg
    | some p =>
      simp [hp] at hg hv
      subst hg; subst hv
      exact ha.ev _

theorem opt_R (ha : SlotsR E a st.s) (x : Option Operand) : OptR E (x.map a.eval) (optV st x) := by
  cases x with
  | none => trivial
  | some x => exact ha.ev x

theorem args_R (ha : SlotsR E a st.s) (xs : Array Operand) : ArgsR E (xs.map a.eval) (xs.toList.map st.ev) := by
  refine ⟨by simp, fun i g hg => ?_⟩
  rw [List.getElem?_map] at hg
  cases hp : xs.toList[i]? with
  | none => simp [hp] at hg
  | some p =>
    simp [hp] at hg
    subst hg
    have : xs[i]? = some p := by simpa using hp
    have e : (xs.map a.eval).getD i undef = a.eval p := by simp [Array.getD_eq_getD_getElem?, this]
    rw [e]; exact ha.ev p

theorem ArgsR.append {vs us : Array Value} {gs hs : List GVal} (h : ArgsR E vs gs) (k : ArgsR E us hs) : ArgsR E (vs ++ us) (gs ++ hs) := by
  refine ⟨by simp [h.1, k.1], fun i g hg => ?_⟩
  by_cases hi : i < gs.length
  · rw [List.getElem?_append_left hi] at hg
    have e : (vs ++ us).getD i undef = vs.getD i undef := by
      simp only [Array.getD_eq_getD_getElem?]; rw [Array.getElem?_append_left (by rw [h.1]; exact hi)]
    rw [e]; exact h.2 i g hg
  · rw [List.getElem?_append_right (by omega)] at hg
    have e : (vs ++ us).getD i undef = us.getD (i - gs.length) undef := by
      simp only [Array.getD_eq_getD_getElem?]; rw [Array.getElem?_append_right (by rw [h.1]; omega), h.1]
    rw [e]; exact k.2 _ g hg

theorem toList_one {α : Type} {a : Array α} {x : α} (h : a.toList = [x]) : a = #[x] := by apply Array.ext'; simpa using h
theorem toList_two {α : Type} {a : Array α} {x y : α} (h : a.toList = [x, y]) : a = #[x, y] := by apply Array.ext'; simpa using h

theorem call_sound {c : Call} {ow : Bool} {ty : TypeId} (h : HSim E st.o w) (ha : SlotsR E a st.s) (hk : callV P ow st c K) (ho : o.op = .call c) (hn : Nexts o a w E st K next) : o.wp P a w next Q := by
  have hex : execOp a.eval o = (do let d ← resolve a.eval c o.type; invoke d.target d.args : Sem Next) := by unfold execOp; rw [ho]
  unfold callV at hk
  obtain ⟨callee, args, argTypes⟩ := c
  cases callee with
  | builtin b =>
    simp only at hk
    have hbi : ∀ (s : Sem Value), builtin b argTypes o.type (args.map fun | .const _ => true | _ => false) (args.map a.eval) = (do pure (.value (← s)) : Sem Next) → SOK P s E st.o w K → o.wp P a w next Q := by
      intro s hs hok
      refine wp_of_SOK hok ?_ hn
      rw [hex]
      simp only [resolve, invoke]
      exact hs
    split at hk
    · rename_i t x h1 h2
      rw [toList_one h1, toList_one h2] at hbi
      exact hbi (Builtin.len_ #[t] o.type #[a.eval x]) (by simp [builtin]) (len_sound h (ha.ev x) hk)
    · rename_i t u x y h1 h2
      rw [toList_two h1, toList_two h2] at hbi
      exact hbi (Builtin.append_ #[t, u] o.type #[a.eval x, a.eval y]) (by simp [builtin]) (append_sound h (ha.ev x) (ha.ev y) hk)
    · rename_i x y h2
      rw [toList_two h2] at hbi
      exact hbi (Builtin.min_ argTypes o.type #[a.eval x, a.eval y]) (by simp [builtin]) (min_sound (mx := false) h (ha.ev x) (ha.ev y) hk)
    · rename_i x y h2
      rw [toList_two h2] at hbi
      exact hbi (Builtin.max_ argTypes o.type #[a.eval x, a.eval y]) (by simp [builtin]) (min_sound (mx := true) h (ha.ev x) (ha.ev y) hk)
    · rename_i t u x y h1 h2
      rw [toList_two h1, toList_two h2] at hbi
      obtain ⟨w', E', O', g1, g2, g3, g4⟩ := delete_sound (ty := o.type) u h (ha.ev x) (ha.ev y) hk
      exact hbi (Builtin.delete_ #[t, u] o.type #[a.eval x, a.eval y]) (by simp [builtin]) ⟨_, w', E', O', _, g1, g2, g3, .tuple #[] [] rfl (by simp), g4⟩
    · rename_i t x h1 h2
      rw [toList_one h1, toList_one h2] at hbi
      exact hbi (Builtin.cap_ #[t] o.type #[a.eval x]) (by simp [builtin]) (cap_sound h (ha.ev x) hk)
    · exact hk.elim
  | value f =>
    simp only at hk
    have hf := ha.ev f
    split at hk
    · rename_i n first caps hfe
      rw [hfe] at hf
      generalize hfv : a.eval f = fv at hf
      cases hf with
      | func fn fs cs gs ks hfs hks hfs2 hks2 =>
        unfold Oper.wp
        rw [hex]
        have hrun : (do let d ← resolve a.eval ⟨.value f, args, argTypes⟩ o.type; invoke d.target d.args : Sem Next).run P w = .ok (.enter n (fs ++ args.map a.eval ++ cs)) w := by
          simp only [resolve, hfv, Deferred.ofValue, Sem.run_bind, Sem.run_pure, Result.andThen_ok, invoke]
          exact enterable_run hk.1 _ w
        rw [hrun, Oper.upon_enter]
        have hargs : ArgsR E (fs ++ args.map a.eval ++ cs) (first ++ args.toList.map st.ev ++ caps) :=
          (ArgsR.append (ArgsR.append ⟨hfs, fun i g hg => hfs2 i g hg⟩ (args_R ha args)) ⟨hks, fun i g hg => hks2 i g hg⟩)
        refine (hk.2 E w _ h hargs).mono fun e w' he => ?_
        obtain ⟨v, E', O', g, rfl, h1, h2, h3, h4⟩ := he
        exact hn v w' E' O' g h1 h2 h3 h4
    · exact hk.elim
  | invoke r m => exact hk.elim

theorem op_sound {R : List Nat} (h : HSim E st.o w) (ha : SlotsR E a st.s) (hk : opv P R st o K) (hn : Nexts o a w E st K next) : o.wp P a w next Q := by
  obtain ⟨dst, op, ty, pos, after, guard⟩ := o
  unfold opv at hk
  have val : ∀ (v : Value) (g : GVal), execOp a.eval ⟨dst, op, ty, pos, after, guard⟩ = pure (.value v) → VR E v g → K g st.o → Oper.wp P ⟨dst, op, ty, pos, after, guard⟩ a w next Q := by
    intro v g he hv hkk
    unfold Oper.wp
    rw [he]
    simp only [Sem.run_pure, Oper.upon_value]
    exact hn v w E st.o g h (.refl _ _ _) hv hkk
  cases op with
  | move x => exact val _ _ rfl (ha.ev x) hk
  | assign x => exact val _ _ rfl (ha.ev x) hk
  | pick c x y =>
    simp only at hk
    have hc := ha.ev c
    split at hk
    · rename_i t hce
      rw [hce] at hc
      rw [gif_iff] at hk
      generalize hcv : a.eval c = cv at hc
      cases hc
      unfold Oper.wp
      cases t with
      | true =>
        simp only [execOp, hcv, asBool, Sem.run_bind, Sem.run_pure, Result.andThen_ok, Oper.upon_value, if_true]
        exact hn _ w E st.o _ h (.refl _ _ _) (ha.ev x) (hk.1 rfl)
      | false =>
        simp only [execOp, hcv, asBool, Sem.run_bind, Sem.run_pure, Result.andThen_ok, Oper.upon_value]
        exact hn _ w E st.o _ h (.refl _ _ _) (ha.ev y) (hk.2 rfl)
    · exact hk.elim
  | binOp op t x y u => exact wp_of_SOK (bin_sound (ox := x) (oy := y) h (ha.ev x) (ha.ev y) hk) rfl hn
  | unOp op t x => exact wp_of_SOK (un_sound h (ha.ev x) hk) rfl hn
  | convert s d x => exact wp_of_SOK (conv_sound h (ha.ev x) hk) rfl hn
  | load t x => exact wp_of_SOK (load_sound h (ha.ev x) hk) rfl hn
  | store t x y =>
    obtain ⟨w', E', O', hrun, h1, h2, h3⟩ := store_sound (KU := fun O' => K .any O') h (ha.ev x) (ha.ev y) hk
    unfold Oper.wp
    simp only [execOp, Sem.run_bind, hrun, Result.andThen_ok, Sem.run_pure, Oper.upon_skip]
    exact hn undef w' E' O' .any h1 h2 (.any _) h3
  | fieldAddr s x f => exact wp_of_SOK (fieldAddr_sound h (ha.ev x) hk) rfl hn
  | field s x f => exact wp_of_SOK (field_sound h (ha.ev x) hk) rfl hn
  | indexAddr t x i => exact wp_of_SOK (indexAddr_sound h (ha.ev x) (ha.ev i) hk) rfl hn
  | index t x i => exact wp_of_SOK (index_sound h (ha.ev x) (ha.ev i) hk) rfl hn
  | extract x i => exact wp_of_SOK (extract_sound h (ha.ev x) hk) rfl hn
  | alloc t => exact wp_of_SOK (alloc_sound h hk) rfl hn
  | lookup t x y ok => exact wp_of_SOK (lookup_sound h (ha.ev x) (ha.ev y) hk) rfl hn
  | mapUpdate t x y z =>
    obtain ⟨w', E', O', hrun, h1, h2, h3⟩ := mapUpdate_sound (KU := fun O' => K .any O') h (ha.ev x) (ha.ev y) (ha.ev z) hk
    unfold Oper.wp
    simp only [execOp, Sem.run_bind, hrun, Result.andThen_ok, Sem.run_pure, Oper.upon_skip]
    exact hn undef w' E' O' .any h1 h2 (.any _) h3
  | insert t x y z =>
    obtain ⟨w', E', O', hrun, h1, h2, h3⟩ := mapUpdate_sound (KU := fun O' => K .any O') h (ha.ev x) (ha.ev y) (ha.ev z) hk
    unfold Oper.wp
    simp only [execOp, Sem.run_bind, hrun, Result.andThen_ok, Sem.run_pure, Oper.upon_skip]
    exact hn undef w' E' O' .any h1 h2 (.any _) h3
  | makeMap t r =>
    cases r with
    | none => exact wp_of_SOK (makeMap_sound (t := t) h hk) rfl hn
    | some r => exact hk.elim
  | box t x => exact wp_of_SOK (box_sound h (ha.ev x) hk) rfl hn
  | build t ps => exact wp_of_SOK (build_sound h (parts_R ha ps).1 (parts_R ha ps).2 hk) rfl hn
  | buildSlice t n ps => exact wp_of_SOK (buildSlice_sound h (parts_R ha ps).1 (parts_R ha ps).2 hk) rfl hn
  | slice t x lo hi mx => exact wp_of_SOK (slice_sound h (ha.ev x) (opt_R ha lo) (opt_R ha hi) (opt_R ha mx) hk) rfl hn
  | nilCheck x =>
    have hx := ha.ev x
    simp only at hk
    unfold nilV at hk
    split at hk
    · rename_i o' st' i j hxe
      rw [hxe] at hx hk
      generalize hxv : a.eval x = xv at hx
      cases hx with
      | ptr b off o st i j l hl hb ho => exact val _ _ (by simp only [execOp, hxv]) (.ptr b off _ _ _ _ l hl hb ho) hk
    · rename_i cs hxe
      rw [hxe] at hx hk
      generalize hxv : a.eval x = xv at hx
      cases hx with
      | ref b off cs c h1 h2 => exact val _ _ (by simp only [execOp, hxv]) (.ref b off cs c h1 h2) hk
    · rename_i f fs cs hxe
      rw [hxe] at hx hk
      generalize hxv : a.eval x = xv at hx
      cases hx with
      | func fn fs cs gs ks a1 a2 a3 a4 => exact val (.func (.func f) fs cs) _ (by simp only [execOp, hxv]) (.func _ fs cs _ _ a1 a2 a3 a4) hk
    · rename_i t v hxe
      rw [hxe] at hx hk
      generalize hxv : a.eval x = xv at hx
      cases hx with
      | iface t v g hv => exact val (.iface _ _) _ (by simp only [execOp, hxv]) (.iface _ _ _ hv) hk
    · exact hk.elim
  | makeInterface t x => exact wp_of_SOK (iface_sound h (ha.ev x) hk) rfl hn
  | makeFunc fn fs cs =>
    have h1 := args_R ha fs
    have h2 := args_R ha cs
    exact val (.func fn (fs.map a.eval) (cs.map a.eval)) _ rfl (.func fn _ _ _ _ h1.1 h2.1 (fun j g hg => h1.2 j g hg) (fun j g hg => h2.2 j g hg)) hk
  | call c => exact call_sound (ty := ty) h ha hk rfl hn
  | _ => exact hk.elim

end
end Gv
set_option linter.unusedVariables false
namespace Gv
open Go
def slotOf (all : List Oper) (j : Nat) : Option Nat :=
  match all[j]? with
  | some o => o.dst
  | none => none

/-! a region that draws its order -/
def deps (o : Oper) : List Nat := o.after.toList.filterMap fun e => if Region.binds .any e then some e.on else none
def maskOf (acc : List Nat) (o : Oper) : Nat := (deps o).foldl (fun s j => s ||| 2 ^ j ||| acc.getD j 0) 0
def masks : List Oper → List Nat → List Nat
  | [], acc => acc
  | o :: r, acc => masks r (acc ++ [maskOf acc o])
def comparable (ms : List Nat) (i j : Nat) : Bool := i == j || (ms.getD i 0).testBit j || (ms.getD j 0).testBit i
def looks (all : List Oper) (o : Oper) : List Nat :=
  (o.op.operands.toList.filterMap fun | .tmp t => some t | _ => none) ++ (match o.guard with | some (j, _) => (slotOf all j).toList | none => [])
def apartB (all : List Oper) (x y : Oper) : Bool :=
  (match x.dst with | some d => !(looks all y).contains d && y.dst != some d | none => true) && (match y.dst with | some d => !(looks all x).contains d | none => true)
def quietB (R : List Nat) (o : Oper) : Bool :=
  match o.op with
  | .move _ | .assign _ | .pick _ _ _ | .binOp _ _ _ _ _ | .unOp _ _ _ | .convert _ _ _ | .load _ _ | .fieldAddr _ _ _ | .field _ _ _ | .indexAddr _ _ _ | .index _ _ _ | .extract _ _ | .build _ _
  | .buildSlice _ _ _ | .slice _ _ _ _ _ | .lookup _ _ _ _ | .nilCheck _ | .makeInterface _ _ | .makeFunc _ _ _ => true
  | .box _ _ => match o.dst with | some d => R.contains d | none => false
  | .call c => match c.callee with
    | .builtin .len | .builtin .min | .builtin .max | .builtin .cap => true
    | _ => false
  | _ => false
/-- an operation that does not look at objects -/
def regB (R : List Nat) (o : Oper) : Bool :=
  match o.op with
  | .move _ | .assign _ | .pick _ _ _ | .binOp _ _ _ _ _ | .unOp _ _ _ | .convert _ _ _ | .fieldAddr _ _ _ | .field _ _ _ | .index _ _ _ | .extract _ _ | .build _ _
  | .buildSlice _ _ _ | .nilCheck _ | .makeInterface _ _ | .makeFunc _ _ _ => true
  | _ => false
def readyB (all : List Oper) (L : List Nat) (j : Nat) : Bool := match all[j]? with
  | some o => !L.contains j && (deps o).all L.contains
  | none => false
def apartAll (R : List Nat) (all : List Oper) (ms : List Nat) (i : Nat) : Bool := (List.range all.length).all fun j => comparable ms i j || (match all[j]? with | some o => regB R o | none => true)
def orderOk (R : List Nat) (all : List Oper) (ms : List Nat) : List (Nat × Nat) → List Nat → Bool
  | [], L => (List.range all.length).all L.contains
  | (i, k) :: r, L => readyB all L i && (match all[i]? with
      | some o => if k = 0 then quietB R o else ((List.range all.length).all (fun j => j == i || !readyB all L j) && (k == 2 || apartAll R all ms i))
      | none => false) && orderOk R all ms r (i :: L)
def drawOk (R : List Nat) (all : List Oper) (order : List (Nat × Nat)) : Bool :=
  let ms := masks all []
  let n := all.length
  (List.range n).all (fun i => match all[i]? with
    | some o => (deps o).all (fun j => decide (j < i)) && (match o.guard with | some (j, _) => (ms.getD i 0).testBit j | none => true) &&
        (List.range n).all (fun j => comparable ms i j || (match all[j]? with | some o' => apartB all o o' | none => true))
    | none => true) && orderOk R all ms order [] && order.length == all.length
section
variable {P : Program} {O O' : List GObj} {K K' : GVal → Prop} {J J' : GVal → List GObj → Prop}

def ExtO (O O' : List GObj) : Prop := ∀ (k : Nat) x, O[k]? = some x → x.isClock = false → O'[k]? = some x

theorem ExtO.refl (O : List GObj) : ExtO O O := fun _ _ h _ => h
theorem loadV_q {t g} (h : loadV P t g O K) : ∃ v, K v ∧ ∀ O', ExtO O O' → ∀ K' : GVal → Prop, K' v → loadV P t g O' K' := by
  unfold loadV at h
  split at h
  · rename_i n ag ht
    obtain ⟨h1, h⟩ := h
    split at h
    · exact ⟨_, h.2, fun O' _ K' hk => by unfold loadV; rw [ht]; exact ⟨h1, h.1, hk⟩⟩
    · split at h
      · rename_i hO
        exact ⟨_, h.2.2.2, fun O' hx K' hk => by unfold loadV; rw [ht]; refine ⟨h1, ?_⟩; simp only [hx _ _ hO rfl]; exact ⟨h.1, h.2.1, h.2.2.1, hk⟩⟩
      · exact h.elim
    · exact h.elim
  · exact h.elim
theorem loadV_mono {t g} (hk : ∀ g, K g → K' g) (h : loadV P t g O K) : loadV P t g O K' := let ⟨v, hv, hq⟩ := loadV_q h; hq O (.refl O) K' (hk v hv)
theorem storeV_mono {t g v} {L L' : List GObj → Prop} (hk : ∀ g, L g → L' g) (h : storeV P t g v O L) : storeV P t g v O L' := by
  unfold storeV at h ⊢
  split at h
  · obtain ⟨h1, h2, h⟩ := h
    refine ⟨h1, h2, ?_⟩
    split at h
    · split at h
      · exact ⟨h.1, h.2.1, h.2.2.1, hk _ h.2.2.2⟩
      · exact h.elim
    · exact h.elim
  · exact h.elim
theorem indexAddrV_q {t g i} (h : indexAddrV P t g i O K) : ∃ v, K v ∧ ∀ O', ExtO O O' → ∀ K' : GVal → Prop, K' v → indexAddrV P t g i O' K' := by
  unfold indexAddrV at h
  split at h
  · split at h
    · split at h
      · rename_i he
        exact ⟨_, h.2.2.2, fun O' _ K' hk => by unfold indexAddrV; simp only [he]; exact ⟨h.1, h.2.1, h.2.2.1, hk⟩⟩
      · exact h.elim
    · split at h
      · rename_i he
        split at h
        · rename_i hO
          exact ⟨_, h.2.2.2.2.2, fun O' hx K' hk => by unfold indexAddrV; simp only [he, hx _ _ hO rfl]; exact ⟨h.1, h.2.1, h.2.2.1, h.2.2.2.1, h.2.2.2.2.1, hk⟩⟩
        · exact h.elim
      · exact h.elim
    · split at h
      · rename_i he
        exact ⟨_, h.2.2.2, fun O' _ K' hk => by unfold indexAddrV; simp only [he]; exact ⟨h.1, h.2.1, h.2.2.1, hk⟩⟩
      · exact h.elim
    · split at h
      · rename_i he
        exact ⟨_, h.2.2, fun O' _ K' hk => by unfold indexAddrV; simp only [he]; exact ⟨h.1, h.2.1, hk⟩⟩
      · exact h.elim
    · exact h.elim
  · exact h.elim
theorem indexAddrV_mono {t g i} (hk : ∀ g, K g → K' g) (h : indexAddrV P t g i O K) : indexAddrV P t g i O K' := let ⟨v, hv, hq⟩ := indexAddrV_q h; hq O (.refl O) K' (hk v hv)
theorem indexV_q {t g i} (h : indexV P t g i K) : ∃ v, K v ∧ ∀ K' : GVal → Prop, K' v → indexV P t g i K' := by
  unfold indexV at h
  split at h
  · split at h
    · split at h
      · rename_i he
        exact ⟨_, h.2.2.2.2, fun K' hk => by unfold indexV; simp only [he]; exact ⟨h.1, h.2.1, h.2.2.1, h.2.2.2.1, hk⟩⟩
      · exact h.elim
    · exact ⟨_, h.2.2.2, fun K' hk => ⟨h.1, h.2.1, h.2.2.1, hk⟩⟩
    · exact h.elim
  · exact h.elim
theorem indexV_mono {t g i} (hk : ∀ g, K g → K' g) (h : indexV P t g i K) : indexV P t g i K' := let ⟨v, hv, hq⟩ := indexV_q h; hq K' (hk v hv)
theorem sliceV_q {t g lo hi mx} (h : sliceV P t g lo hi mx O K) : ∃ v, K v ∧ ∀ O', ExtO O O' → ∀ K' : GVal → Prop, K' v → sliceV P t g lo hi mx O' K' := by
  have hct : ∀ sz tag (hi : Option GVal) tag', cutTag O sz tag hi = some tag' → ∀ O', ExtO O O' → cutTag O' sz tag hi = some tag' := by
    intro sz tag hi tag' hc O' hx
    unfold cutTag at hc ⊢
    split at hc
    · exact hc
    · split at hc
      · split at hc
        · rename_i hO; simp only [hx _ _ hO rfl]; exact hc
        · cases hc
        · rename_i x h1 h2 hO
          have hx' := hx _ _ hO (by cases x <;> simp_all [GObj.isClock])
          simp only [hx']
          cases x <;> simp_all
        · cases hc
      · exact hc
  unfold sliceV at h
  split at h
  · split at h
    · rename_i h1 h2 h3
      split at h
      · obtain ⟨a1, a2, a3, a4, h⟩ := h
        split at h
        · rename_i tag' hc
          exact ⟨_, h, fun O' hx K' hk => by unfold sliceV; simp only [h1, h2, h3]; exact ⟨a1, a2, a3, a4, by simp only [hct _ _ _ _ hc O' hx]; exact hk⟩⟩
        · exact h.elim
      · exact ⟨_, h.2.2.2.2, fun O' hx K' hk => by unfold sliceV; simp only [h1, h2, h3]; exact ⟨h.1, h.2.1, h.2.2.1, h.2.2.2.1, hk⟩⟩
      · exact h.elim
    · exact h.elim
  · split at h
    · rename_i h1 h2 h3
      split at h
      · rename_i hO
        exact ⟨_, h.2.2.2.2.2, fun O' hx K' hk => by unfold sliceV; simp only [h1, h2, h3, hx _ _ hO rfl]; exact ⟨h.1, h.2.1, h.2.2.1, h.2.2.2.1, h.2.2.2.2.1, hk⟩⟩
      · exact h.elim
    · exact h.elim
  · split at h
    · rename_i h1 h2
      exact ⟨_, h.2.2.2.2, fun O' hx K' hk => by unfold sliceV; simp only [h1, h2]; exact ⟨h.1, h.2.1, h.2.2.1, h.2.2.2.1, hk⟩⟩
    · exact h.elim
  · split at h
    · rename_i h1 h2
      split at h
      · rename_i h3
        exact ⟨_, h.2.2.2.2, fun O' hx K' hk => by unfold sliceV; simp only [h1, h2, h3]; exact ⟨h.1, h.2.1, h.2.2.1, h.2.2.2.1, hk⟩⟩
      · exact h.elim
    · exact h.elim
  · exact h.elim
theorem sliceV_mono {t g lo hi mx} (hk : ∀ g, K g → K' g) (h : sliceV P t g lo hi mx O K) : sliceV P t g lo hi mx O K' := let ⟨v, hv, hq⟩ := sliceV_q h; hq O (.refl O) K' (hk v hv)
theorem aggV_q {t xs ys} {L : Bool → Prop} (h : aggV P t xs ys L) : ∃ r, L r ∧ ∀ L' : Bool → Prop, L' r → aggV P t xs ys L' := by
  unfold aggV at *
  split at h
  · split at h
    · exact ⟨_, h, fun L' hl => by simpa using hl⟩
    · exact h.elim
  · exact h.elim
theorem binV_q {op t x y} (h : binV P op t x y K) : ∃ v, K v ∧ ∀ K' : GVal → Prop, K' v → binV P op t x y K' := by
  unfold binV at h ⊢
  split at h
  · split at h <;> first | exact h.elim | exact ⟨_, h.2.2, fun K' hk => ⟨h.1, h.2.1, hk⟩⟩ | exact ⟨_, h.2, fun K' hk => ⟨h.1, hk⟩⟩
  · split at h <;> first | exact h.elim | exact ⟨_, h.2, fun K' hk => ⟨h.1, hk⟩⟩
  · split at h <;> first | exact h.elim | exact ⟨_, h.2, fun K' hk => ⟨h.1, hk⟩⟩ | exact ⟨_, h, fun K' hk => hk⟩
  · rename_i xs tag
    have key : ∀ c d : GVal, ((tag = .nil → K c) ∧ (tag ≠ .nil → (xs = [] → K .ubool) ∧ (xs ≠ [] → K d))) → ∃ v, K v ∧ ∀ K' : GVal → Prop, K' v → ((tag = .nil → K' c) ∧ (tag ≠ .nil → (xs = [] → K' .ubool) ∧ (xs ≠ [] → K' d))) := by
      intro c d hk
      by_cases ht : tag = .nil
      · exact ⟨c, hk.1 ht, fun K' h => ⟨fun _ => h, fun e => absurd ht e⟩⟩
      · by_cases hx : xs = []
        · exact ⟨.ubool, (hk.2 ht).1 hx, fun K' h => ⟨fun e => absurd e ht, fun _ => ⟨fun _ => h, fun e => absurd hx e⟩⟩⟩
        · exact ⟨d, (hk.2 ht).2 hx, fun K' h => ⟨fun e => absurd e ht, fun _ => ⟨fun e => absurd e hx, fun _ => h⟩⟩⟩
    split at h <;> first | exact h.elim | (obtain ⟨v, h1, h2⟩ := key _ _ h.2; exact ⟨v, h1, fun K' hk => ⟨h.1, h2 K' hk⟩⟩)
  · rename_i len
    have key : ∀ d : GVal, ((len = 0 → K .ubool) ∧ (len ≠ 0 → K d)) → ∃ v, K v ∧ ∀ K' : GVal → Prop, K' v → ((len = 0 → K' .ubool) ∧ (len ≠ 0 → K' d)) := by
      intro d hk
      by_cases hx : len = 0
      · exact ⟨.ubool, hk.1 hx, fun K' h => ⟨fun _ => h, fun e => absurd hx e⟩⟩
      · exact ⟨d, hk.2 hx, fun K' h => ⟨fun e => absurd e hx, fun _ => h⟩⟩
    split at h <;> first | exact h.elim | (obtain ⟨v, h1, h2⟩ := key _ h.2; exact ⟨v, h1, fun K' hk => ⟨h.1, h2 K' hk⟩⟩)
  · split at h <;> first | exact h.elim | (obtain ⟨r, h1, h2⟩ := aggV_q h; exact ⟨_, h1, fun K' hk => h2 _ hk⟩)
  · split at h <;> first | exact h.elim | exact ⟨_, h.2, fun K' hk => ⟨h.1, hk⟩⟩
  · split at h <;> first | exact h.elim | exact ⟨_, h.2, fun K' hk => ⟨h.1, hk⟩⟩
  · split at h <;> first | exact h.elim | exact ⟨_, h.2, fun K' hk => ⟨h.1, hk⟩⟩
  · split at h <;> first | exact h.elim | exact ⟨_, h.2, fun K' hk => ⟨h.1, hk⟩⟩
  · split at h <;> first | exact h.elim | exact ⟨_, h.2, fun K' hk => ⟨h.1, hk⟩⟩
  · exact h.elim
theorem binV_mono {op t x y} (hk : ∀ g, K g → K' g) (h : binV P op t x y K) : binV P op t x y K' := let ⟨v, hv, hq⟩ := binV_q h; hq K' (hk v hv)
theorem srcV_mono {x} {L L' : List (List GVal) → Prop} (hk : ∀ g, L g → L' g) (h : srcV x O L) : srcV x O L' := by
  unfold srcV at h ⊢
  split at h
  · exact hk _ h
  · split at h
    · exact ⟨h.1, h.2.1, hk _ h.2.2⟩
    · exact h.elim
  · exact hk _ h
  · exact h.elim
theorem asrcV_mono {xT b cs x} {L L' : List (List GVal) → Prop} (hk : ∀ g, L g → L' g) (h : asrcV P xT b cs x O L) : asrcV P xT b cs x O L' := by
  unfold asrcV at h ⊢
  split at h
  · exact srcV_mono hk h
  · refine ⟨h.1, h.2.1, ?_⟩
    have h2 := h.2.2
    split at h2
    · exact ⟨h2.1, h2.2.1, h2.2.2.1, hk _ h2.2.2.2⟩
    · exact h2.elim
theorem appendV_mono {ow sT xT s x} (hk : ∀ g O, J g O → J' g O) (h : appendV P ow sT xT s x O J) : appendV P ow sT xT s x O J' := by
  unfold appendV at h ⊢
  split at h
  · refine asrcV_mono (fun ys hy => ?_) h
    refine ⟨hy.1, ?_⟩
    have hy2 := hy.2
    split at hy2
    · refine ⟨hy2.1, hy2.2.1, hy2.2.2.1, ?_⟩
      have hy3 := hy2.2.2.2
      split at hy3
      · cases ow with
        | false => exact stamp_mono (fun st => hk _ _) hy3
        | true => exact ⟨hy3.1, stamp_mono (fun st => hk _ _) hy3.2⟩
      · split at hy3
        · exact ⟨hy3.1, hy3.2.1, stamp_mono (fun st2 => hk _ _) hy3.2.2⟩
        · exact hy3.elim
      · exact hy3.elim
    · split at hy2
      · exact ⟨hy2.1, hy2.2.1, hy2.2.2.1, hy2.2.2.2.1, hy2.2.2.2.2.1, stamp_mono (fun st2 => hk _ _) hy2.2.2.2.2.2⟩
      · exact hy2.elim
    · exact hy2.elim
  · exact h.elim
theorem fieldAddrV_mono {s g f} (hk : ∀ g, K g → K' g) (h : fieldAddrV P s g f K) : fieldAddrV P s g f K' := by unfold fieldAddrV at *; grind
theorem fieldAddrV_q {s g f} (h : fieldAddrV P s g f K) : ∃ v, K v ∧ ∀ K' : GVal → Prop, K' v → fieldAddrV P s g f K' := by unfold fieldAddrV at *; grind
theorem fieldV_mono {s g f} (hk : ∀ g, K g → K' g) (h : fieldV P s g f K) : fieldV P s g f K' := by unfold fieldV at *; grind
theorem fieldV_q {s g f} (h : fieldV P s g f K) : ∃ v, K v ∧ ∀ K' : GVal → Prop, K' v → fieldV P s g f K' := by unfold fieldV at *; grind
theorem extractV_mono {g i} (hk : ∀ g, K g → K' g) (h : extractV g i K) : extractV g i K' := by unfold extractV at *; grind
theorem extractV_q {g i} (h : extractV g i K) : ∃ v, K v ∧ ∀ K' : GVal → Prop, K' v → extractV g i K' := by unfold extractV at *; grind
theorem allocV_mono {t} (hk : ∀ g O, J g O → J' g O) (h : allocV P t O J) : allocV P t O J' := by
  unfold allocV at *
  split at h
  · exact ⟨h.1, stamp_mono (fun st => hk _ _) h.2⟩
  · exact h.elim
theorem boxV_mono {ro g} (hk : ∀ g O, J g O → J' g O) (h : boxV ro g O J) : boxV ro g O J' := by
  unfold boxV at *
  refine ⟨h.1, ?_⟩
  cases ro with
  | true => exact hk _ _ h.2
  | false => exact stamp_mono (fun st => hk _ _) h.2
theorem buildV_mono {t gs} (hk : ∀ g, K g → K' g) (h : buildV P t gs K) : buildV P t gs K' := by unfold buildV at *; grind
theorem buildV_q {t gs} (h : buildV P t gs K) : ∃ v, K v ∧ ∀ K' : GVal → Prop, K' v → buildV P t gs K' := by unfold buildV at *; grind
theorem buildSliceV_mono {t n gs} (hk : ∀ g, K g → K' g) (h : buildSliceV P t n gs K) : buildSliceV P t n gs K' := by unfold buildSliceV at *; grind
theorem buildSliceV_q {t n gs} (h : buildSliceV P t n gs K) : ∃ v, K v ∧ ∀ K' : GVal → Prop, K' v → buildSliceV P t n gs K' := by unfold buildSliceV at *; grind
theorem nilV_mono {g} (hk : ∀ g, K g → K' g) (h : nilV g K) : nilV g K' := by unfold nilV at *; grind
theorem nilV_q {g} (h : nilV g K) : ∃ v, K v ∧ ∀ K' : GVal → Prop, K' v → nilV g K' := by unfold nilV at *; grind
theorem ifaceV_mono {t g} (hk : ∀ g, K g → K' g) (h : ifaceV P t g K) : ifaceV P t g K' := ⟨h.1, hk _ h.2⟩
theorem ifaceV_q {t g} (h : ifaceV P t g K) : ∃ v, K v ∧ ∀ K' : GVal → Prop, K' v → ifaceV P t g K' := ⟨_, h.2, fun K' hk => ⟨h.1, hk⟩⟩
theorem unV_mono {op g} (hk : ∀ g, K g → K' g) (h : unV op g K) : unV op g K' := by unfold unV at *; grind
theorem unV_q {op g} (h : unV op g K) : ∃ v, K v ∧ ∀ K' : GVal → Prop, K' v → unV op g K' := by unfold unV at *; grind
theorem convV_mono {s d g} (hk : ∀ g, K g → K' g) (h : convV P s d g K) : convV P s d g K' := by unfold convV at *; grind
theorem convV_q {s d g} (h : convV P s d g K) : ∃ v, K v ∧ ∀ K' : GVal → Prop, K' v → convV P s d g K' := by unfold convV at *; grind
theorem lenV_mono {t g} (hk : ∀ g, K g → K' g) (h : lenV P t g O K) : lenV P t g O K' := by unfold lenV at *; grind
theorem lenV_q {t g} (h : lenV P t g O K) : ∃ v, K v ∧ ∀ O', ExtO O O' → ∀ K' : GVal → Prop, K' v → lenV P t g O' K' := by unfold lenV ExtO at *; grind [GObj.isClock]
theorem minV_mono {mx xs} (hk : ∀ g, K g → K' g) (h : minV mx xs K) : minV mx xs K' := by unfold minV at *; grind
theorem minV_q {mx xs} (h : minV mx xs K) : ∃ v, K v ∧ ∀ K' : GVal → Prop, K' v → minV mx xs K' := by unfold minV at *; grind

theorem lookupV_q {t m x ok} (h : lookupV P t m x ok O K) : ∃ v, K v ∧ ∀ O', ExtO O O' → ∀ K' : GVal → Prop, K' v → lookupV P t m x ok O' K' := by
  unfold lookupV ExtO at *
  split at h
  · rename_i k e hk
    obtain ⟨h1, h⟩ := h
    split at h
    · rename_i z hz
      split at h
      · split at h
        · rename_i o st _ st' kv hO
          obtain ⟨rfl, h⟩ := h
          split at h
          · rename_i i hi
            split at h
            · rename_i p hp
              exact ⟨_, h, fun O' hx K' hk' => by rw [hx _ _ hO rfl]; simp only [hi, hp, true_and]; exact ⟨h1, hk'⟩⟩
            · exact h.elim
          · rename_i hi
            exact ⟨_, h, fun O' hx K' hk' => by rw [hx _ _ hO rfl]; simp only [hi, true_and]; exact ⟨h1, hk'⟩⟩
          · exact h.elim
        · exact h.elim
      · exact ⟨_, h, fun O' hx K' hk' => ⟨h1, hk'⟩⟩
      · exact h.elim
    · exact h.elim
  · exact h.elim
theorem lookupV_mono {t m x ok} (hk : ∀ g, K g → K' g) (h : lookupV P t m x ok O K) : lookupV P t m x ok O K' := let ⟨v, hv, hq⟩ := lookupV_q h; hq O (.refl O) K' (hk v hv)
theorem mapUpdateV_mono {t m x v} {L L' : List GObj → Prop} (hk : ∀ g, L g → L' g) (h : mapUpdateV P t m x v O L) : mapUpdateV P t m x v O L' := by
  unfold mapUpdateV at *
  split at h
  · obtain ⟨h1, h⟩ := h
    refine ⟨h1, ?_⟩
    split at h
    · split at h
      · obtain ⟨e, h⟩ := h
        refine ⟨e, ?_⟩
        split at h
        · exact hk _ h
        · exact hk _ h
        · exact h.elim
      · exact h.elim
    · exact h.elim
  · exact h.elim
theorem deleteV_mono {t m x} {L L' : List GObj → Prop} (hk : ∀ g, L g → L' g) (h : deleteV P t m x O L) : deleteV P t m x O L' := by
  unfold deleteV at *
  split at h
  · obtain ⟨h1, h⟩ := h
    refine ⟨h1, ?_⟩
    split at h
    · split at h
      · obtain ⟨e, h⟩ := h
        refine ⟨e, ?_⟩
        split at h
        · exact hk _ h
        · exact hk _ h
        · exact h.elim
      · exact h.elim
    · exact h.elim
  · exact h.elim
theorem makeMapV_mono (hk : ∀ g O, J g O → J' g O) (h : makeMapV O J) : makeMapV O J' := by unfold makeMapV at *; exact stamp_mono (fun n => hk _ _) h

theorem capV_q {t x} (h : capV P t x K) : ∃ v, K v ∧ ∀ K' : GVal → Prop, K' v → capV P t x K' := by
  unfold capV at *
  obtain ⟨h1, h⟩ := h
  split at h
  · exact ⟨_, h, fun K' hk => ⟨h1, hk⟩⟩
  · exact ⟨_, h, fun K' hk => ⟨h1, hk⟩⟩
  · exact h.elim
theorem capV_mono {t x} (hk : ∀ g, K g → K' g) (h : capV P t x K) : capV P t x K' := let ⟨v, hv, hq⟩ := capV_q h; hq K' (hk v hv)

theorem callV_mono {ow : Bool} {st : GSt} {c : Call} (hk : ∀ g O, J g O → J' g O) (h : callV P ow st c J) : callV P ow st c J' := by
  unfold callV at h ⊢
  split at h
  · split at h
    · exact lenV_mono (fun g => hk g _) h
    · exact appendV_mono hk h
    · exact minV_mono (fun g => hk g _) h
    · exact minV_mono (fun g => hk g _) h
    · exact deleteV_mono (fun O => hk _ O) h
    · exact capV_mono (fun g => hk g _) h
    · exact h.elim
  · split at h
    · exact h.mono hk
    · exact h.elim
  · exact h.elim

theorem opv_mono {R : List Nat} {st : GSt} {o : Oper} (hk : ∀ g O, J g O → J' g O) (h : opv P R st o J) : opv P R st o J' := by
  unfold opv at h ⊢
  split at h
  · exact hk _ _ h
  · exact hk _ _ h
  · split at h
    · exact gif_iff.2 ⟨fun e => hk _ _ ((gif_iff.1 h).1 e), fun e => hk _ _ ((gif_iff.1 h).2 e)⟩
    · exact h.elim
  · exact binV_mono (fun g => hk g _) h
  · exact unV_mono (fun g => hk g _) h
  · exact convV_mono (fun g => hk g _) h
  · exact loadV_mono (fun g => hk g _) h
  · exact storeV_mono (fun O => hk _ O) h
  · exact fieldAddrV_mono (fun g => hk g _) h
  · exact fieldV_mono (fun g => hk g _) h
  · exact indexAddrV_mono (fun g => hk g _) h
  · exact indexV_mono (fun g => hk g _) h
  · exact extractV_mono (fun g => hk g _) h
  · exact allocV_mono hk h
  · exact lookupV_mono (fun g => hk g _) h
  · exact mapUpdateV_mono (fun O => hk _ O) h
  · exact mapUpdateV_mono (fun O => hk _ O) h
  · split at h
    · exact makeMapV_mono hk h
    · exact h.elim
  · exact boxV_mono hk h
  · exact buildV_mono (fun g => hk g _) h
  · exact buildSliceV_mono (fun g => hk g _) h
  · exact sliceV_mono (fun g => hk g _) h
  · exact nilV_mono (fun g => hk g _) h
  · exact ifaceV_mono (fun g => hk g _) h
  · exact hk _ _ h
  · exact callV_mono hk h
  · exact h.elim

/-- the same operands, the same objects -/
def SameFor (o : Oper) (st st' : GSt) : Prop := ∀ x ∈ o.op.operands.toList, st'.ev x = st.ev x

theorem map_ev {st st' : GSt} {xs : Array Operand} (h : ∀ x ∈ xs.toList, st'.ev x = st.ev x) : xs.toList.map st'.ev = xs.toList.map st.ev := List.map_congr_left h
theorem map_ev2 {st st' : GSt} {ps : Array (Nat × Operand)} (h : ∀ x ∈ (ps.toList.map (·.2)), st'.ev x = st.ev x) : (ps.toList.map fun p => (p.1, st'.ev p.2)) = ps.toList.map fun p => (p.1, st.ev p.2) :=
  List.map_congr_left fun p hp => by rw [h p.2 (List.mem_map.2 ⟨p, hp, rfl⟩)]

theorem callV_congr {ow : Bool} {st st' : GSt} {c : Call} (h : ∀ x ∈ c.operands.toList, st'.ev x = st.ev x) (ho : st'.o = st.o) : callV P ow st' c J = callV P ow st c J := by
  obtain ⟨callee, args, ts⟩ := c
  unfold callV
  cases callee with
  | builtin b =>
    have hx : ∀ x ∈ args.toList, st'.ev x = st.ev x := fun x hx => h x (by simpa [Call.operands] using hx)
    simp only
    split
    · rename_i h2; rw [hx _ (by rw [h2]; simp), ho]
    · rename_i h2; rw [hx _ (by rw [h2]; simp), hx _ (by rw [h2]; simp), ho]
    · rename_i h2; rw [hx _ (by rw [h2]; simp), hx _ (by rw [h2]; simp), ho]
    · rename_i h2; rw [hx _ (by rw [h2]; simp), hx _ (by rw [h2]; simp), ho]
    · rename_i h2; rw [hx _ (by rw [h2]; simp), hx _ (by rw [h2]; simp), ho]
    · rename_i h2; rw [hx _ (by rw [h2]; simp), ho]
    · rfl
  | value f =>
    have hf : st'.ev f = st.ev f := h f (by simp [Call.operands])
    have hx : args.toList.map st'.ev = args.toList.map st.ev := map_ev fun x hx => h x (by simp [Call.operands] at hx ⊢; exact .inr hx)
    simp only [hf, hx, ho]
  | invoke r m => rfl

theorem optV_congr {st st' : GSt} {x : Option Operand} (h : ∀ y ∈ x.toArray.toList, st'.ev y = st.ev y) : optV st' x = optV st x := by
  cases x with
  | none => rfl
  | some x => simp only [optV]; rw [h x (by simp)]

theorem opv_congr {R : List Nat} {st st' : GSt} {o : Oper} (h : SameFor o st st') (ho : st'.o = st.o) : opv P R st' o J = opv P R st o J := by
  obtain ⟨dst, op, ty, pos, after, guard⟩ := o
  unfold SameFor at h
  cases op <;> simp only [opv] <;> simp only [Op.operands] at h <;> (try rfl)
  case move x => rw [h x (by simp), ho]
  case assign x => rw [h x (by simp), ho]
  case pick c a b => rw [h c (by simp), h a (by simp), h b (by simp), ho]
  case binOp op t x y u => rw [h x (by simp), h y (by simp), ho]
  case unOp op t x => rw [h x (by simp), ho]
  case convert s d x => rw [h x (by simp), ho]
  case load t x => rw [h x (by simp), ho]
  case store t x y => rw [h x (by simp), h y (by simp), ho]
  case fieldAddr s x f => rw [h x (by simp), ho]
  case field s x f => rw [h x (by simp), ho]
  case indexAddr t x i => rw [h x (by simp), h i (by simp), ho]
  case index t x i => rw [h x (by simp), h i (by simp), ho]
  case extract x i => rw [h x (by simp), ho]
  case alloc t => rw [ho]
  case lookup t x y ok => rw [h x (by simp), h y (by simp), ho]
  case mapUpdate t x y z => rw [h x (by simp), h y (by simp), h z (by simp), ho]
  case insert t x y z => rw [h x (by simp), h y (by simp), h z (by simp), ho]
  case makeMap t r => rw [ho]
  case box t x => rw [h x (by simp), ho]
  case build t ps => rw [map_ev2 (by simpa using h), ho]
  case buildSlice t n ps => rw [map_ev2 (by simpa using h), ho]
  case slice t x lo hi mx =>
    simp only [Array.toList_append, List.mem_append] at h
    rw [h x (by simp), optV_congr (x := lo) (fun y hy => h y (.inl (.inl (.inr hy)))), optV_congr (x := hi) (fun y hy => h y (.inl (.inr hy))), optV_congr (x := mx) (fun y hy => h y (.inr hy)), ho]
  case nilCheck x => rw [h x (by simp), ho]
  case makeInterface t x => rw [h x (by simp), ho]
  case makeFunc fn fs cs =>
    simp only [Array.toList_append, List.mem_append] at h
    rw [map_ev (fun x hx => h x (.inl hx)), map_ev (fun x hx => h x (.inr hx)), ho]
  case call c => exact callV_congr h ho


/-- an operation that only reads gives one value, and gives it wherever its operands and the objects are as they were -/
theorem opv_quiet {R : List Nat} {st : GSt} {o : Oper} (hq : quietB R o = true) (h : opv P R st o J) :
    ∃ v, J v st.o ∧ ∀ st', SameFor o st st' → (regB R o = false → ExtO st.o st'.o) → ∀ J' : GVal → List GObj → Prop, J' v st'.o → opv P R st' o J' := by
  have key : ∃ v, J v st.o ∧ ∀ O', (regB R o = false → ExtO st.o O') → ∀ J' : GVal → List GObj → Prop, J' v O' → opv P R ⟨st.s, O'⟩ o J' := by
    obtain ⟨dst, op, ty, pos, after, guard⟩ := o
    have hev : ∀ O' x, (⟨st.s, O'⟩ : GSt).ev x = st.ev x := fun O' x => by cases x <;> rfl
    have hm : ∀ O', (⟨st.s, O'⟩ : GSt).ev = st.ev := fun O' => funext (hev O')
    have hop : ∀ O' x, optV ⟨st.s, O'⟩ x = optV st x := fun O' x => by cases x <;> simp [optV, hev]
    cases op <;> simp only [quietB] at hq <;> (try (cases hq; done)) <;> unfold opv at h ⊢ <;> simp only [hev, hm, hop] at h ⊢
    case move x => exact ⟨_, h, fun O' _ J' hj => hj⟩
    case assign x => exact ⟨_, h, fun O' _ J' hj => hj⟩
    case pick c a b =>
      split at h
      · rename_i t ht
        cases t with
        | true => exact ⟨_, h, fun O' _ J' hj => hj⟩
        | false => exact ⟨_, h, fun O' _ J' hj => hj⟩
      · exact h.elim
    case binOp op t x y u => obtain ⟨v, h1, h2⟩ := binV_q h; exact ⟨v, h1, fun O' _ J' hj => h2 _ hj⟩
    case unOp op t x => obtain ⟨v, h1, h2⟩ := unV_q h; exact ⟨v, h1, fun O' _ J' hj => h2 _ hj⟩
    case convert s d x => obtain ⟨v, h1, h2⟩ := convV_q h; exact ⟨v, h1, fun O' _ J' hj => h2 _ hj⟩
    case load t x => obtain ⟨v, h1, h2⟩ := loadV_q h; exact ⟨v, h1, fun O' hx J' hj => h2 O' (hx rfl) _ hj⟩
    case lookup t x y ok => obtain ⟨v, h1, h2⟩ := lookupV_q h; exact ⟨v, h1, fun O' hx J' hj => h2 O' (hx rfl) _ hj⟩
    case fieldAddr s x f => obtain ⟨v, h1, h2⟩ := fieldAddrV_q h; exact ⟨v, h1, fun O' _ J' hj => h2 _ hj⟩
    case field s x f => obtain ⟨v, h1, h2⟩ := fieldV_q h; exact ⟨v, h1, fun O' _ J' hj => h2 _ hj⟩
    case indexAddr t x i => obtain ⟨v, h1, h2⟩ := indexAddrV_q h; exact ⟨v, h1, fun O' hx J' hj => h2 O' (hx rfl) _ hj⟩
    case index t x i => obtain ⟨v, h1, h2⟩ := indexV_q h; exact ⟨v, h1, fun O' _ J' hj => h2 _ hj⟩
    case extract x i => obtain ⟨v, h1, h2⟩ := extractV_q h; exact ⟨v, h1, fun O' _ J' hj => h2 _ hj⟩
    case box t x =>
      cases dst with
      | none => cases hq
      | some d =>
        simp only at hq
        simp only [hq] at h ⊢
        exact ⟨_, h.2, fun O' _ J' hj => ⟨h.1, hj⟩⟩
    case build t ps => obtain ⟨v, h1, h2⟩ := buildV_q h; exact ⟨v, h1, fun O' _ J' hj => h2 _ hj⟩
    case buildSlice t n ps => obtain ⟨v, h1, h2⟩ := buildSliceV_q h; exact ⟨v, h1, fun O' _ J' hj => h2 _ hj⟩
    case slice t x lo hi mx => obtain ⟨v, h1, h2⟩ := sliceV_q h; exact ⟨v, h1, fun O' hx J' hj => h2 O' (hx rfl) _ hj⟩
    case nilCheck x => obtain ⟨v, h1, h2⟩ := nilV_q h; exact ⟨v, h1, fun O' _ J' hj => h2 _ hj⟩
    case makeInterface t x => obtain ⟨v, h1, h2⟩ := ifaceV_q h; exact ⟨v, h1, fun O' _ J' hj => h2 _ hj⟩
    case makeFunc fn fs cs => exact ⟨_, h, fun O' _ J' hj => hj⟩
    case call c =>
      obtain ⟨callee, args, ts⟩ := c
      cases callee with
      | value f => cases hq
      | invoke r m => cases hq
      | builtin b =>
        unfold callV at h ⊢
        simp only [hev] at h ⊢
        cases b <;> simp only at hq <;> (try (cases hq; done))
        all_goals (split at h)
        all_goals first
          | exact h.elim
          | (exfalso; simp_all; done)
          | (obtain ⟨v, h1, h2⟩ := lenV_q h; exact ⟨v, h1, fun O' hx J' hj => h2 O' (hx rfl) _ hj⟩)
          | (obtain ⟨v, h1, h2⟩ := minV_q h; exact ⟨v, h1, fun O' hx J' hj => h2 _ hj⟩)
          | (obtain ⟨v, h1, h2⟩ := capV_q h; exact ⟨v, h1, fun O' hx J' hj => h2 _ hj⟩)
  obtain ⟨v, h1, h2⟩ := key
  refine ⟨v, h1, fun st' hs hx J' hj => ?_⟩
  have := h2 st'.o hx J' hj
  have hev : ∀ O' x, (⟨st.s, O'⟩ : GSt).ev x = st.ev x := fun O' x => by cases x <;> rfl
  rw [opv_congr (st := ⟨st.s, st'.o⟩) (st' := st') (fun x hx => by rw [hev]; exact hs x hx) rfl]
  exact this

end
end Gv
