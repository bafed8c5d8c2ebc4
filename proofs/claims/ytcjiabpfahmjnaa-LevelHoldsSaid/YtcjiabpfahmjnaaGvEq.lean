/- Values made of integers, strings and bools alone: when two of them are the same; that each may be a key. -/
import Derived.Test.YtcjiabpfahmjnaaGvRead
import Derived.ChangeKeysEq
import Derived.Laws.StructEq
set_option linter.unusedVariables false
namespace Gv
open Go

/-- what a cell is -/
inductive Sk where
  | int
  | str
  | bool
  deriving DecidableEq

/-- are two cells of a kind the same? -/
def ceq (s : Sk) (x y : GVal) : Option Bool :=
  match s, x, y with
  | .int, .int k a, .int k' b => if k = k' then some (a == b) else none
  | .bool, .bool a, .bool b => some (a == b)
  | .str, .str a, .str b => some (a == b)
  | _, _, _ => none
def cellsEq : List Sk → List GVal → List GVal → Option Bool
  | [], [], [] => some true
  | s :: ss, x :: xs, y :: ys => match ceq s x y, cellsEq ss xs ys with
    | some a, some b => some (a && b)
    | _, _ => none
  | _, _, _ => none

def flatFs (P : Program) (fl : TypeId → Option (List Sk)) : Nat → List Field → Option (List Sk)
  | off, [] => some []
  | off, f :: r => match fl f.type, tab P f.type with
    | some k, some (k', _) => if k.length = k' ∧ f.offset = off ∧ (f.name != "_") = true then (match flatFs P fl (off + k.length) r with
      | some l => some (k ++ l)
      | none => none) else none
    | _, _ => none
/-- the cells of a type of integers, strings and bools -/
def flat (P : Program) : Nat → TypeId → Option (List Sk)
  | 0, _ => none
  | d + 1, t => match P.underlying t with
    | some .bool => some [.bool]
    | some (.int _) => some [.int]
    | some .string => some [.str]
    | some (.array n e) => match flat P d e, tab P e with
      | some k, some (k', _) => if k.length = k' ∧ P.cellsOf e = k.length then some (List.replicate n k).flatten else none
      | _, _ => none
    | some (.struct fs) => if P.stoodInHeld t = false then flatFs P (flat P d) 0 fs.toList else none
    | _ => none

theorem cellsEq_len : ∀ {ss : List Sk} {xs ys : List GVal} {r : Bool}, cellsEq ss xs ys = some r → xs.length = ss.length ∧ ys.length = ss.length
  | [], [], [], _, _ => ⟨rfl, rfl⟩
  | s :: ss, x :: xs, y :: ys, r, h => by
    unfold cellsEq at h
    split at h
    · rename_i a b h1 h2; simp [cellsEq_len h2]
    · cases h
  | [], _ :: _, _, _, h => by cases h
  | [], [], _ :: _, _, h => by cases h
  | _ :: _, [], _, _, h => by cases h
  | _ :: _, _ :: _, [], _, h => by cases h

/-- the cells in two parts -/
theorem cellsEq_cut : ∀ (s1 : List Sk) {s2 : List Sk} {xs ys : List GVal} {r : Bool}, cellsEq (s1 ++ s2) xs ys = some r →
    ∃ a b, cellsEq s1 (xs.take s1.length) (ys.take s1.length) = some a ∧ cellsEq s2 (xs.drop s1.length) (ys.drop s1.length) = some b ∧ r = (a && b)
  | [], s2, xs, ys, r, h => ⟨true, r, by simp [cellsEq], by simpa using h, by simp⟩
  | s :: s1, s2, x :: xs, y :: ys, r, h => by
    rw [List.cons_append] at h
    unfold cellsEq at h
    split at h
    · rename_i a b h1 h2
      obtain ⟨a', b', q1, q2, q3⟩ := cellsEq_cut s1 h2
      simp only [Option.some.injEq] at h
      exact ⟨a && a', b', by simp [cellsEq, h1, q1], by simpa using q2, by rw [← h, q3, Bool.and_assoc]⟩
    · cases h
  | _ :: _, _, [], _, _, h => by cases h
  | _ :: _, _, _ :: _, [], _, h => by cases h

section
variable {P : Program} {E : Env} {w : World}

theorem beq_bytes (a b : List UInt8) : ((⟨a.toArray⟩ : ByteArray) == ⟨b.toArray⟩) = (a == b) := by
  rw [beq_toListBytes, ByteArray.toList_mk, ByteArray.toList_mk]

/-- the same cells are the same values -/
theorem ceq_rigid {s : Sk} {x y : Value} {g g' : GVal} (hx : VR E x g) (hy : VR E y g') (h : ceq s g g' = some true) : x = y := by
  unfold ceq at h
  split at h
  · cases hx; cases hy
    split at h
    · rename_i e; subst e; simp at h; subst h; rfl
    · cases h
  · cases hx; cases hy; simp at h; subst h; rfl
  · cases hx; cases hy; simp at h; subst h; rfl
  · cases h

theorem cellsEq_at : ∀ {ss : List Sk} {xs ys : List GVal}, cellsEq ss xs ys = some true → ∀ (j : Nat) a b, xs[j]? = some a → ys[j]? = some b → ∃ s, ceq s a b = some true
  | [], [], [], h, j, a, b, ha, _ => by simp at ha
  | s :: ss, x :: xs, y :: ys, h, j, a, b, ha, hb => by
    unfold cellsEq at h
    split at h
    · rename_i p q h1 h2
      simp only [Option.some.injEq, Bool.and_eq_true] at h
      obtain ⟨rfl, rfl⟩ := h
      cases j with
      | zero => simp at ha hb; subst ha; subst hb; exact ⟨_, h1⟩
      | succ j => exact cellsEq_at h2 j a b (by simpa using ha) (by simpa using hb)
    · cases h
  | [], _ :: _, _, h, _, _, _, _, _ => by cases h
  | [], [], _ :: _, h, _, _, _, _, _ => by cases h
  | _ :: _, [], _, h, _, _, _, _, _ => by cases h
  | _ :: _, _ :: _, [], h, _, _, _, _, _ => by cases h

theorem grp_rigid {x y : Value} {ag : Bool} {ss : List Sk} {xs ys : List GVal} (hx : VR E x (grp ag xs)) (hy : VR E y (grp ag ys)) (hn : ag = false → ss.length = 1) (h : cellsEq ss xs ys = some true) : x = y := by
  obtain ⟨hl1, hl2⟩ := cellsEq_len h
  cases ag with
  | false =>
    have := hn rfl
    match xs, ys, (by omega : xs.length = 1), (by omega : ys.length = 1) with
    | [a], [b], _, _ => obtain ⟨s, hs⟩ := cellsEq_at h 0 a b rfl rfl; exact ceq_rigid hx hy hs
  | true =>
    cases hx with
    | agg vs cs hs hc =>
      cases hy with
      | agg us cs' hs' hc' =>
        congr 1
        apply Array.ext (by omega)
        intro i h1 h2
        have e1 := hc i xs[i] (by simp [← hs, h1])
        have e2 := hc' i ys[i] (by simp [← hs', h2])
        obtain ⟨s, hss⟩ := cellsEq_at h i _ _ (List.getElem?_eq_getElem (by omega)) (List.getElem?_eq_getElem (by omega))
        have := ceq_rigid e1 e2 hss
        simpa [Array.getD, h1, h2] using this

/-- what equalIn comes to at such a type -/
def EqOK (P : Program) (d : Nat) (t : TypeId) (ss : List Sk) : Prop :=
  ∀ (E : Env) (w : World) (ag : Bool) (x y : Value) (xs ys : List GVal) (r : Bool), tab P t = some (ss.length, ag) → VR E x (grp ag xs) → VR E y (grp ag ys) → (ag = false → ss.length = 1) → cellsEq ss xs ys = some r →
    (Op.equalIn d t x y).run P w = .ok r w

theorem eqItems_ok {d : Nat} {e : TypeId} {ss : List Sk} {ag : Bool} (hc : P.cellsOf e = ss.length) (ht : tab P e = some (ss.length, ag)) (hag : ag = false → ss.length = 1) (IH : EqOK P d e ss) (E : Env) (w : World) {vs us : Array Value} :
    ∀ (m i : Nat) (xs ys : List GVal) (r : Bool), VR E (.agg vs) (.agg xs) → VR E (.agg us) (.agg ys) → cellsEq (List.replicate m ss).flatten (xs.drop (i * ss.length)) (ys.drop (i * ss.length)) = some r →
    xs.length = (i + m) * ss.length → ys.length = (i + m) * ss.length → (Op.eqItems d e (P.cellsOf e) vs us (List.range' i m)).run P w = .ok r w
  | 0, i, xs, ys, r, hx, hy, h, hl, hl2 => by
    obtain ⟨h1, h2⟩ := cellsEq_len h
    simp at h1 h2
    have e1 : xs.drop (i * ss.length) = [] := by rw [List.drop_eq_nil_iff]; omega
    have e2 : ys.drop (i * ss.length) = [] := by rw [List.drop_eq_nil_iff]; omega
    rw [e1, e2] at h
    simp [cellsEq] at h
    subst h
    simp [Op.eqItems]
  | m + 1, i, xs, ys, r, hx, hy, h, hl, hl2 => by
    rw [List.replicate_succ, List.flatten_cons] at h
    obtain ⟨a, b, h1, h2, rfl⟩ := cellsEq_cut ss h
    have hlt : i * ss.length + ss.length ≤ xs.length := by rw [hl, Nat.add_mul, Nat.add_mul]; omega
    have hlt2 : i * ss.length + ss.length ≤ ys.length := by rw [hl2, Nat.add_mul, Nat.add_mul]; omega
    obtain ⟨v, r1, v1⟩ := part_run (P := P) (w := w) ht hag hx hlt
    obtain ⟨u, r2, u1⟩ := part_run (P := P) (w := w) ht hag hy hlt2
    have r3 := IH E w ag v u _ _ a ht v1 u1 hag h1
    rw [List.drop_drop, List.drop_drop] at h2
    have := eqItems_ok hc ht hag IH E w m (i + 1) xs ys b hx hy (by rw [Nat.add_mul, Nat.one_mul]; exact h2) (by rw [hl]; congr 1; omega) (by rw [hl2]; congr 1; omega)
    rw [List.range'_succ]
    simp only [Op.eqItems, Sem.run_bind, hc, r1, r2, r3, Result.andThen_ok]
    rw [hc] at this
    cases a
    · simp
    · simpa using this

theorem eqFields_ok {d : Nat} {fl : TypeId → Option (List Sk)} (IH : ∀ t k, fl t = some k → EqOK P d t k) (hone : ∀ t k ag, fl t = some k → tab P t = some (k.length, ag) → ag = false → k.length = 1) (E : Env) (w : World) {vs us : Array Value} :
    ∀ (fs : List Field) (off : Nat) (ss : List Sk) (xs ys : List GVal) (r : Bool), VR E (.agg vs) (.agg xs) → VR E (.agg us) (.agg ys) → flatFs P fl off fs = some ss → cellsEq ss (xs.drop off) (ys.drop off) = some r → off ≤ xs.length → off ≤ ys.length →
    (Op.eqFields d vs us fs).run P w = .ok r w
  | [], off, ss, xs, ys, r, hx, hy, hf, h, ho1, ho2 => by
    simp only [flatFs, Option.some.injEq] at hf
    subst hf
    obtain ⟨h1, h2⟩ := cellsEq_len h
    have e1 : xs.drop off = [] := List.length_eq_zero_iff.1 h1
    have e2 : ys.drop off = [] := List.length_eq_zero_iff.1 h2
    rw [e1, e2] at h
    simp [cellsEq] at h
    subst h
    simp [Op.eqFields]
  | f :: fs, off, ss, xs, ys, r, hx, hy, hf, h, ho1, ho2 => by
    unfold flatFs at hf
    split at hf
    · rename_i k k' ag e1 e2
      split at hf
      · rename_i hc
        obtain ⟨rfl, ho, hn⟩ := hc
        split at hf
        · rename_i l hl
          cases hf
          obtain ⟨h1, h2⟩ := cellsEq_len h
          simp only [List.length_drop, List.length_append] at h1 h2
          obtain ⟨a, b, h1, h2, rfl⟩ := cellsEq_cut k h
          have hag := hone _ _ ag e1 e2
          obtain ⟨v, r1, v1⟩ := part_run (P := P) (w := w) e2 hag hx (by omega : off + k.length ≤ xs.length)
          obtain ⟨u, r2, u1⟩ := part_run (P := P) (w := w) e2 hag hy (by omega : off + k.length ≤ ys.length)
          have r3 := IH _ _ e1 E w ag v u _ _ a e2 v1 u1 hag h1
          rw [List.drop_drop, List.drop_drop] at h2
          have := eqFields_ok IH hone E w fs (off + k.length) l xs ys b hx hy hl h2 (by omega) (by omega)
          subst ho
          have hne : f.name ≠ "_" := by simpa using hn
          simp only [Op.eqFields, hne, ne_eq, not_false_eq_true, if_true, Sem.run_bind, r1, r2, r3, Result.andThen_ok]
          cases a
          · simp
          · simpa using this
        · cases hf
      · cases hf
    · cases hf

theorem flat_one {d : Nat} {t : TypeId} {k : List Sk} {ag : Bool} (h : flat P d t = some k) (ht : tab P t = some (k.length, ag)) (ha : ag = false) : k.length = 1 := by
  subst ha
  cases d with
  | zero => cases h
  | succ d =>
    unfold flat at h
    unfold tab at ht
    cases hu : P.underlying t with
    | none => simp [hu] at h
    | some td =>
      cases hi : P.info? t with
      | none => simp [hu, hi] at ht
      | some i => cases td <;> simp_all <;> (subst h; rfl)

theorem flat_eq {m : Nat} : ∀ (d : Nat) (t : TypeId) (ss : List Sk), flat P d t = some ss → EqOK P (m + d) t ss
  | 0, t, ss, h => by cases h
  | d + 1, t, ss, h => by
    intro E w ag x y xs ys r ht hx hy hag hr
    have IH : ∀ t k, flat P d t = some k → EqOK P (m + d) t k := fun t k e => flat_eq d t k e
    obtain ⟨hl1, hl2⟩ := cellsEq_len hr
    show (Op.equalIn ((m + d) + 1) t x y).run P w = _
    have sc : ∀ s td, P.underlying t = some td → (∀ i, P.info? t = some i → tab P t = some (i.size, false)) → ss = [s] → ∃ a b, VR E x a ∧ VR E y b ∧ ceq s a b = some r := by
      intro s td hu hb he
      subst he
      have hf : ag = false := by
        cases hi : P.info? t with
        | none => simp [tab, hi] at ht
        | some i => rw [hb i hi] at ht; simp at ht; exact ht.2
      subst hf
      match xs, ys, hl1, hl2 with
      | [a], [b], _, _ =>
        refine ⟨a, b, hx, hy, ?_⟩
        simp only [cellsEq] at hr
        cases hc : ceq s a b with
        | none => simp [hc] at hr
        | some z => simp [hc] at hr; rw [hr]
    unfold flat at h
    cases hu : P.underlying t with
    | none => simp [hu] at h
    | some td =>
      cases td <;> simp only [hu] at h <;> try (cases h; done)
      case bool =>
        obtain ⟨a, b, ha, hb, hc⟩ := sc .bool _ hu (fun i hi => by simp [tab, hi, hu]) (by simpa using h.symm)
        cases a <;> cases b <;> simp only [ceq] at hc <;> try (cases hc; done)
        cases ha; cases hb; simp at hc; subst hc
        simp [Op.equalIn, run_underlying hu]
      case int q =>
        obtain ⟨a, b, ha, hb, hc⟩ := sc .int _ hu (fun i hi => by simp [tab, hi, hu]) (by simpa using h.symm)
        cases a <;> cases b <;> simp only [ceq] at hc <;> try (cases hc; done)
        cases ha; cases hb
        split at hc
        · rename_i e; subst e; simp at hc; subst hc
          simp [Op.equalIn, run_underlying hu]
        · cases hc
      case string =>
        obtain ⟨a, b, ha, hb, hc⟩ := sc .str _ hu (fun i hi => by simp [tab, hi, hu]) (by simpa using h.symm)
        cases a <;> cases b <;> simp only [ceq] at hc <;> try (cases hc; done)
        cases ha; cases hb; simp at hc; subst hc
        simp [Op.equalIn, run_underlying hu, beq_bytes]
      case array n e =>
        split at h
        · rename_i k k' ag' e1 e2
          split at h
          · rename_i hc
            obtain ⟨rfl, hc⟩ := hc
            simp only [Option.some.injEq] at h
            subst h
            have hi : ∃ i, P.info? e = some i := by
              cases hi : P.info? e with
              | none => simp [tab, hi] at e2
              | some i => exact ⟨i, rfl⟩
            obtain ⟨i, hi⟩ := hi
            have ha : ag = true := by
              unfold tab at ht
              cases hit : P.info? t with
              | none => simp [hit] at ht
              | some i => simp [hit, hu] at ht; exact ht.2
            subst ha
            simp only [grp] at hx hy
            have hn : (List.replicate n k).flatten.length = n * k.length := by simp
            rw [hn] at hl1 hl2
            cases hx with
            | agg vs cs hs hcs =>
              cases hy with
              | agg us cs' hs' hcs' =>
                rw [run_equalIn_array w (m + d) vs us hu hi, List.range_eq_range']
                exact eqItems_ok hc e2 (flat_one e1 e2) (IH _ _ e1) E w n 0 xs ys r (.agg vs _ hs hcs) (.agg us _ hs' hcs') (by simpa using hr) (by simpa using hl1) (by simpa using hl2)
          · cases h
        · cases h
      case struct fs =>
        split at h
        · rename_i hst
          have hfo : P.underlying t = some (.struct (P.fieldsOf t)) := by rw [hu]; simp [Program.fieldsOf, hu]
          have hfs : P.fieldsOf t = fs := by simp [Program.fieldsOf, hu]
          have ha : ag = true := by
            unfold tab at ht
            cases hit : P.info? t with
            | none => simp [hit] at ht
            | some i => simp [hit, hu] at ht; exact ht.2
          subst ha
          simp only [grp] at hx hy
          cases hx with
          | agg vs cs hs hcs =>
            cases hy with
            | agg us cs' hs' hcs' =>
              rw [run_equalIn_struct w (m + d) t vs us hfo hst, hfs]
              exact eqFields_ok IH (fun t k ag e1 e2 e3 => flat_one e1 e2 e3) E w fs.toList 0 ss xs ys r (.agg vs _ hs hcs) (.agg us _ hs' hcs') h (by simpa using hr) (by omega) (by omega)
        · cases h
end
end Gv
