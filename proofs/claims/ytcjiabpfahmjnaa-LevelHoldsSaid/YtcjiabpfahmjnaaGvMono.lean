import Derived.Test.YtcjiabpfahmjnaaGvOps
set_option linter.unusedVariables false
namespace Gv
open Go
def slotOf (all : List Oper) (j : Nat) : Option Nat :=
  match all[j]? with
  | some o => o.dst
  | none => none

/-! a region that draws its order -/
def deps (o : Oper) : List Nat := o.after.toList.filterMap fun e => if Region.binds .any e then some e.on else none
def maskOf (acc : List Nat) (o : Oper) : Nat := (deps o).foldl (fun s j => s ||| 2 ^ j ||| acc.getD j 0) 0
def masks : List Oper → List Nat → List Nat
  | [], acc => acc
  | o :: r, acc => masks r (acc ++ [maskOf acc o])
def comparable (ms : List Nat) (i j : Nat) : Bool := i == j || (ms.getD i 0).testBit j || (ms.getD j 0).testBit i
def looks (all : List Oper) (o : Oper) : List Nat :=
  (o.op.operands.toList.filterMap fun | .tmp t => some t | _ => none) ++ (match o.guard with | some (j, _) => (slotOf all j).toList | none => [])
def apartB (all : List Oper) (x y : Oper) : Bool :=
  (match x.dst with | some d => !(looks all y).contains d && y.dst != some d | none => true) && (match y.dst with | some d => !(looks all x).contains d | none => true)
def quietB (R : List Nat) (o : Oper) : Bool :=
  match o.op with
  | .move _ | .assign _ | .pick _ _ _ | .binOp _ _ _ _ _ | .unOp _ _ _ | .convert _ _ _ | .load _ _ | .fieldAddr _ _ _ | .field _ _ _ | .indexAddr _ _ _ | .index _ _ _ | .extract _ _ | .build _ _
  | .buildSlice _ _ _ | .slice _ _ _ _ _ | .lookup _ _ _ _ | .nilCheck _ | .makeInterface _ _ | .makeFunc _ _ _ => true
  | .box _ _ => match o.dst with | some d => R.contains d | none => false
  | .call c => match c.callee with
    | .builtin .len | .builtin .min | .builtin .max | .builtin .cap => true
    | _ => false
  | _ => false
/-- an operation that does not look at objects -/
def regB (R : List Nat) (o : Oper) : Bool :=
  match o.op with
  | .move _ | .assign _ | .pick _ _ _ | .binOp _ _ _ _ _ | .unOp _ _ _ | .convert _ _ _ | .fieldAddr _ _ _ | .field _ _ _ | .index _ _ _ | .extract _ _ | .build _ _
  | .buildSlice _ _ _ | .nilCheck _ | .makeInterface _ _ | .makeFunc _ _ _ => true
  | _ => false
def readyB (all : List Oper) (L : List Nat) (j : Nat) : Bool := match all[j]? with
  | some o => !L.contains j && (deps o).all L.contains
  | none => false
def apartAll (R : List Nat) (all : List Oper) (ms : List Nat) (i : Nat) : Bool := (List.range all.length).all fun j => comparable ms i j || (match all[j]? with | some o => regB R o | none => true)
def orderOk (R : List Nat) (all : List Oper) (ms : List Nat) : List (Nat × Nat) → List Nat → Bool
  | [], L => (List.range all.length).all L.contains
  | (i, k) :: r, L => readyB all L i && (match all[i]? with
      | some o => if k = 0 then quietB R o else ((List.range all.length).all (fun j => j == i || !readyB all L j) && (k == 2 || apartAll R all ms i))
      | none => false) && orderOk R all ms r (i :: L)
def drawOk (R : List Nat) (all : List Oper) (order : List (Nat × Nat)) : Bool :=
  let ms := masks all []
  let n := all.length
  (List.range n).all (fun i => match all[i]? with
    | some o => (deps o).all (fun j => decide (j < i)) && (match o.guard with | some (j, _) => (ms.getD i 0).testBit j | none => true) &&
        (List.range n).all (fun j => comparable ms i j || (match all[j]? with | some o' => apartB all o o' | none => true))
    | none => true) && orderOk R all ms order [] && order.length == all.length
section
variable {P : Program} {O O' : List GObj} {K K' : GVal → Prop} {J J' : GVal → List GObj → Prop}

def ExtO (O O' : List GObj) : Prop := ∀ (k : Nat) x, O[k]? = some x → x.isClock = false → O'[k]? = some x

theorem ExtO.refl (O : List GObj) : ExtO O O := fun _ _ h _ => h
theorem loadV_q {t g} (h : loadV P t g O K) : ∃ v, K v ∧ ∀ O', ExtO O O' → ∀ K' : GVal → Prop, K' v → loadV P t g O' K' := by
  unfold loadV at h
  split at h
  · rename_i n ag ht
    obtain ⟨h1, h⟩ := h
    split at h
    · exact ⟨_, h.2, fun O' _ K' hk => by unfold loadV; rw [ht]; exact ⟨h1, h.1, hk⟩⟩
    · split at h
      · rename_i hO
        exact ⟨_, h.2.2.2, fun O' hx K' hk => by unfold loadV; rw [ht]; refine ⟨h1, ?_⟩; simp only [hx _ _ hO rfl]; exact ⟨h.1, h.2.1, h.2.2.1, hk⟩⟩
      · exact h.elim
    · exact h.elim
  · exact h.elim
theorem loadV_mono {t g} (hk : ∀ g, K g → K' g) (h : loadV P t g O K) : loadV P t g O K' := let ⟨v, hv, hq⟩ := loadV_q h; hq O (.refl O) K' (hk v hv)
theorem storeV_mono {t g v} {L L' : List GObj → Prop} (hk : ∀ g, L g → L' g) (h : storeV P t g v O L) : storeV P t g v O L' := by
  unfold storeV at h ⊢
  split at h
  · obtain ⟨h1, h2, h⟩ := h
    refine ⟨h1, h2, ?_⟩
    split at h
    · split at h
      · exact ⟨h.1, h.2.1, h.2.2.1, hk _ h.2.2.2⟩
      · exact h.elim
    · exact h.elim
  · exact h.elim
theorem indexAddrV_q {t g i} (h : indexAddrV P t g i O K) : ∃ v, K v ∧ ∀ O', ExtO O O' → ∀ K' : GVal → Prop, K' v → indexAddrV P t g i O' K' := by
  unfold indexAddrV at h
  split at h
  · split at h
    · split at h
      · rename_i he
        exact ⟨_, h.2.2.2, fun O' _ K' hk => by unfold indexAddrV; simp only [he]; exact ⟨h.1, h.2.1, h.2.2.1, hk⟩⟩
      · exact h.elim
    · split at h
      · rename_i he
        split at h
        · rename_i hO
          exact ⟨_, h.2.2.2.2.2, fun O' hx K' hk => by unfold indexAddrV; simp only [he, hx _ _ hO rfl]; exact ⟨h.1, h.2.1, h.2.2.1, h.2.2.2.1, h.2.2.2.2.1, hk⟩⟩
        · exact h.elim
      · exact h.elim
    · split at h
      · rename_i he
        exact ⟨_, h.2.2.2, fun O' _ K' hk => by unfold indexAddrV; simp only [he]; exact ⟨h.1, h.2.1, h.2.2.1, hk⟩⟩
      · exact h.elim
    · split at h
      · rename_i he
        exact ⟨_, h.2.2, fun O' _ K' hk => by unfold indexAddrV; simp only [he]; exact ⟨h.1, h.2.1, hk⟩⟩
      · exact h.elim
    · exact h.elim
  · exact h.elim
theorem indexAddrV_mono {t g i} (hk : ∀ g, K g → K' g) (h : indexAddrV P t g i O K) : indexAddrV P t g i O K' := let ⟨v, hv, hq⟩ := indexAddrV_q h; hq O (.refl O) K' (hk v hv)
theorem indexV_q {t g i} (h : indexV P t g i K) : ∃ v, K v ∧ ∀ K' : GVal → Prop, K' v → indexV P t g i K' := by
  unfold indexV at h
  split at h
  · split at h
    · split at h
      · rename_i he
        exact ⟨_, h.2.2.2.2, fun K' hk => by unfold indexV; simp only [he]; exact ⟨h.1, h.2.1, h.2.2.1, h.2.2.2.1, hk⟩⟩
      · exact h.elim
    · exact ⟨_, h.2.2.2, fun K' hk => ⟨h.1, h.2.1, h.2.2.1, hk⟩⟩
    · exact h.elim
  · exact h.elim
theorem indexV_mono {t g i} (hk : ∀ g, K g → K' g) (h : indexV P t g i K) : indexV P t g i K' := let ⟨v, hv, hq⟩ := indexV_q h; hq K' (hk v hv)
theorem sliceV_q {t g lo hi mx} (h : sliceV P t g lo hi mx O K) : ∃ v, K v ∧ ∀ O', ExtO O O' → ∀ K' : GVal → Prop, K' v → sliceV P t g lo hi mx O' K' := by
  have hct : ∀ sz tag (hi : Option GVal) tag', cutTag O sz tag hi = some tag' → ∀ O', ExtO O O' → cutTag O' sz tag hi = some tag' := by
    intro sz tag hi tag' hc O' hx
    unfold cutTag at hc ⊢
    split at hc
    · exact hc
    · split at hc
      · split at hc
        · rename_i hO; simp only [hx _ _ hO rfl]; exact hc
        · cases hc
        · rename_i x h1 h2 hO
          have hx' := hx _ _ hO (by cases x <;> simp_all [GObj.isClock])
          simp only [hx']
          cases x <;> simp_all
        · cases hc
      · exact hc
  unfold sliceV at h
  split at h
  · split at h
    · rename_i h1 h2 h3
      split at h
      · obtain ⟨a1, a2, a3, a4, h⟩ := h
        split at h
        · rename_i tag' hc
          exact ⟨_, h, fun O' hx K' hk => by unfold sliceV; simp only [h1, h2, h3]; exact ⟨a1, a2, a3, a4, by simp only [hct _ _ _ _ hc O' hx]; exact hk⟩⟩
        · exact h.elim
      · exact ⟨_, h.2.2.2.2, fun O' hx K' hk => by unfold sliceV; simp only [h1, h2, h3]; exact ⟨h.1, h.2.1, h.2.2.1, h.2.2.2.1, hk⟩⟩
      · exact h.elim
    · exact h.elim
  · split at h
    · rename_i h1 h2 h3
      split at h
      · rename_i hO
        exact ⟨_, h.2.2.2.2.2, fun O' hx K' hk => by unfold sliceV; simp only [h1, h2, h3, hx _ _ hO rfl]; exact ⟨h.1, h.2.1, h.2.2.1, h.2.2.2.1, h.2.2.2.2.1, hk⟩⟩
      · exact h.elim
    · exact h.elim
  · split at h
    · rename_i h1 h2
      exact ⟨_, h.2.2.2.2, fun O' hx K' hk => by unfold sliceV; simp only [h1, h2]; exact ⟨h.1, h.2.1, h.2.2.1, h.2.2.2.1, hk⟩⟩
    · exact h.elim
  · split at h
    · rename_i h1 h2
      split at h
      · rename_i h3
        exact ⟨_, h.2.2.2.2, fun O' hx K' hk => by unfold sliceV; simp only [h1, h2, h3]; exact ⟨h.1, h.2.1, h.2.2.1, h.2.2.2.1, hk⟩⟩
      · exact h.elim
    · exact h.elim
  · exact h.elim
theorem sliceV_mono {t g lo hi mx} (hk : ∀ g, K g → K' g) (h : sliceV P t g lo hi mx O K) : sliceV P t g lo hi mx O K' := let ⟨v, hv, hq⟩ := sliceV_q h; hq O (.refl O) K' (hk v hv)
theorem aggV_q {t xs ys} {L : Bool → Prop} (h : aggV P t xs ys L) : ∃ r, L r ∧ ∀ L' : Bool → Prop, L' r → aggV P t xs ys L' := by
  unfold aggV at *
  split at h
  · split at h
    · exact ⟨_, h, fun L' hl => by simpa using hl⟩
    · exact h.elim
  · exact h.elim
theorem binV_q {op t x y} (h : binV P op t x y K) : ∃ v, K v ∧ ∀ K' : GVal → Prop, K' v → binV P op t x y K' := by
  unfold binV at h ⊢
  split at h
  · split at h <;> first | exact h.elim | exact ⟨_, h.2.2, fun K' hk => ⟨h.1, h.2.1, hk⟩⟩ | exact ⟨_, h.2, fun K' hk => ⟨h.1, hk⟩⟩
  · split at h <;> first | exact h.elim | exact ⟨_, h.2, fun K' hk => ⟨h.1, hk⟩⟩
  · split at h <;> first | exact h.elim | exact ⟨_, h.2, fun K' hk => ⟨h.1, hk⟩⟩ | exact ⟨_, h, fun K' hk => hk⟩
  · rename_i xs tag
    have key : ∀ c d : GVal, ((tag = .nil → K c) ∧ (tag ≠ .nil → (xs = [] → K .ubool) ∧ (xs ≠ [] → K d))) → ∃ v, K v ∧ ∀ K' : GVal → Prop, K' v → ((tag = .nil → K' c) ∧ (tag ≠ .nil → (xs = [] → K' .ubool) ∧ (xs ≠ [] → K' d))) := by
      intro c d hk
      by_cases ht : tag = .nil
      · exact ⟨c, hk.1 ht, fun K' h => ⟨fun _ => h, fun e => absurd ht e⟩⟩
      · by_cases hx : xs = []
        · exact ⟨.ubool, (hk.2 ht).1 hx, fun K' h => ⟨fun e => absurd e ht, fun _ => ⟨fun _ => h, fun e => absurd hx e⟩⟩⟩
        · exact ⟨d, (hk.2 ht).2 hx, fun K' h => ⟨fun e => absurd e ht, fun _ => ⟨fun e => absurd e hx, fun _ => h⟩⟩⟩
    split at h <;> first | exact h.elim | (obtain ⟨v, h1, h2⟩ := key _ _ h.2; exact ⟨v, h1, fun K' hk => ⟨h.1, h2 K' hk⟩⟩)
  · rename_i len
    have key : ∀ d : GVal, ((len = 0 → K .ubool) ∧ (len ≠ 0 → K d)) → ∃ v, K v ∧ ∀ K' : GVal → Prop, K' v → ((len = 0 → K' .ubool) ∧ (len ≠ 0 → K' d)) := by
      intro d hk
      by_cases hx : len = 0
      · exact ⟨.ubool, hk.1 hx, fun K' h => ⟨fun _ => h, fun e => absurd hx e⟩⟩
      · exact ⟨d, hk.2 hx, fun K' h => ⟨fun e => absurd e hx, fun _ => h⟩⟩
    split at h <;> first | exact h.elim | (obtain ⟨v, h1, h2⟩ := key _ h.2; exact ⟨v, h1, fun K' hk => ⟨h.1, h2 K' hk⟩⟩)
  · split at h <;> first | exact h.elim | (obtain ⟨r, h1, h2⟩ := aggV_q h; exact ⟨_, h1, fun K' hk => h2 _ hk⟩)
  · split at h <;> first | exact h.elim | exact ⟨_, h.2, fun K' hk => ⟨h.1, hk⟩⟩
  · split at h <;> first | exact h.elim | exact ⟨_, h.2, fun K' hk => ⟨h.1, hk⟩⟩
  · split at h <;> first | exact h.elim | exact ⟨_, h.2, fun K' hk => ⟨h.1, hk⟩⟩
  · split at h <;> first | exact h.elim | exact ⟨_, h.2, fun K' hk => ⟨h.1, hk⟩⟩
  · split at h <;> first | exact h.elim | exact ⟨_, h.2, fun K' hk => ⟨h.1, hk⟩⟩
  · exact h.elim
theorem binV_mono {op t x y} (hk : ∀ g, K g → K' g) (h : binV P op t x y K) : binV P op t x y K' := let ⟨v, hv, hq⟩ := binV_q h; hq K' (hk v hv)
theorem srcV_mono {x} {L L' : List (List GVal) → Prop} (hk : ∀ g, L g → L' g) (h : srcV x O L) : srcV x O L' := by
  unfold srcV at h ⊢
  split at h
  · exact hk _ h
  · split at h
    · exact ⟨h.1, h.2.1, hk _ h.2.2⟩
    · exact h.elim
  · exact hk _ h
  · exact h.elim
theorem asrcV_mono {xT b cs x} {L L' : List (List GVal) → Prop} (hk : ∀ g, L g → L' g) (h : asrcV P xT b cs x O L) : asrcV P xT b cs x O L' := by
  unfold asrcV at h ⊢
  split at h
  · exact srcV_mono hk h
  · refine ⟨h.1, h.2.1, ?_⟩
    have h2 := h.2.2
    split at h2
    · exact ⟨h2.1, h2.2.1, h2.2.2.1, hk _ h2.2.2.2⟩
    · exact h2.elim
theorem appendV_mono {ow sT xT s x} (hk : ∀ g O, J g O → J' g O) (h : appendV P ow sT xT s x O J) : appendV P ow sT xT s x O J' := by
  unfold appendV at h ⊢
  split at h
  · refine asrcV_mono (fun ys hy => ?_) h
    refine ⟨hy.1, ?_⟩
    have hy2 := hy.2
    split at hy2
    · refine ⟨hy2.1, hy2.2.1, hy2.2.2.1, ?_⟩
      have hy3 := hy2.2.2.2
      split at hy3
      · cases ow with
        | false => exact stamp_mono (fun st => hk _ _) hy3
        | true => exact ⟨hy3.1, stamp_mono (fun st => hk _ _) hy3.2⟩
      · split at hy3
        · exact ⟨hy3.1, hy3.2.1, stamp_mono (fun st2 => hk _ _) hy3.2.2⟩
        · exact hy3.elim
      · exact hy3.elim
    · split at hy2
      · exact ⟨hy2.1, hy2.2.1, hy2.2.2.1, hy2.2.2.2.1, hy2.2.2.2.2.1, stamp_mono (fun st2 => hk _ _) hy2.2.2.2.2.2⟩
      · exact hy2.elim
    · exact hy2.elim
  · exact h.elim
theorem fieldAddrV_mono {s g f} (hk : ∀ g, K g → K' g) (h : fieldAddrV P s g f K) : fieldAddrV P s g f K' := by unfold fieldAddrV at *; grind
theorem fieldAddrV_q {s g f} (h : fieldAddrV P s g f K) : ∃ v, K v ∧ ∀ K' : GVal → Prop, K' v → fieldAddrV P s g f K' := by unfold fieldAddrV at *; grind
theorem fieldV_mono {s g f} (hk : ∀ g, K g → K' g) (h : fieldV P s g f K) : fieldV P s g f K' := by unfold fieldV at *; grind
theorem fieldV_q {s g f} (h : fieldV P s g f K) : ∃ v, K v ∧ ∀ K' : GVal → Prop, K' v → fieldV P s g f K' := by unfold fieldV at *; grind
theorem extractV_mono {g i} (hk : ∀ g, K g → K' g) (h : extractV g i K) : extractV g i K' := by unfold extractV at *; grind
theorem extractV_q {g i} (h : extractV g i K) : ∃ v, K v ∧ ∀ K' : GVal → Prop, K' v → extractV g i K' := by unfold extractV at *; grind
theorem allocV_mono {t} (hk : ∀ g O, J g O → J' g O) (h : allocV P t O J) : allocV P t O J' := by
  unfold allocV at *
  split at h
  · exact ⟨h.1, stamp_mono (fun st => hk _ _) h.2⟩
  · exact h.elim
theorem boxV_mono {ro g} (hk : ∀ g O, J g O → J' g O) (h : boxV ro g O J) : boxV ro g O J' := by
  unfold boxV at *
  refine ⟨h.1, ?_⟩
  cases ro with
  | true => exact hk _ _ h.2
  | false => exact stamp_mono (fun st => hk _ _) h.2
theorem buildV_mono {t gs} (hk : ∀ g, K g → K' g) (h : buildV P t gs K) : buildV P t gs K' := by unfold buildV at *; grind
theorem buildV_q {t gs} (h : buildV P t gs K) : ∃ v, K v ∧ ∀ K' : GVal → Prop, K' v → buildV P t gs K' := by unfold buildV at *; grind
theorem buildSliceV_mono {t n gs} (hk : ∀ g, K g → K' g) (h : buildSliceV P t n gs K) : buildSliceV P t n gs K' := by unfold buildSliceV at *; grind
theorem buildSliceV_q {t n gs} (h : buildSliceV P t n gs K) : ∃ v, K v ∧ ∀ K' : GVal → Prop, K' v → buildSliceV P t n gs K' := by unfold buildSliceV at *; grind
theorem nilV_mono {g} (hk : ∀ g, K g → K' g) (h : nilV g K) : nilV g K' := by unfold nilV at *; grind
theorem nilV_q {g} (h : nilV g K) : ∃ v, K v ∧ ∀ K' : GVal → Prop, K' v → nilV g K' := by unfold nilV at *; grind
theorem ifaceV_mono {t g} (hk : ∀ g, K g → K' g) (h : ifaceV P t g K) : ifaceV P t g K' := ⟨h.1, hk _ h.2⟩
theorem ifaceV_q {t g} (h : ifaceV P t g K) : ∃ v, K v ∧ ∀ K' : GVal → Prop, K' v → ifaceV P t g K' := ⟨_, h.2, fun K' hk => ⟨h.1, hk⟩⟩
theorem unV_mono {op g} (hk : ∀ g, K g → K' g) (h : unV op g K) : unV op g K' := by unfold unV at *; grind
theorem unV_q {op g} (h : unV op g K) : ∃ v, K v ∧ ∀ K' : GVal → Prop, K' v → unV op g K' := by unfold unV at *; grind
theorem convV_mono {s d g} (hk : ∀ g, K g → K' g) (h : convV P s d g K) : convV P s d g K' := by unfold convV at *; grind
theorem convV_q {s d g} (h : convV P s d g K) : ∃ v, K v ∧ ∀ K' : GVal → Prop, K' v → convV P s d g K' := by unfold convV at *; grind
theorem lenV_mono {t g} (hk : ∀ g, K g → K' g) (h : lenV P t g O K) : lenV P t g O K' := by unfold lenV at *; grind
theorem lenV_q {t g} (h : lenV P t g O K) : ∃ v, K v ∧ ∀ O', ExtO O O' → ∀ K' : GVal → Prop, K' v → lenV P t g O' K' := by unfold lenV ExtO at *; grind [GObj.isClock]
theorem minV_mono {mx xs} (hk : ∀ g, K g → K' g) (h : minV mx xs K) : minV mx xs K' := by unfold minV at *; grind
theorem minV_q {mx xs} (h : minV mx xs K) : ∃ v, K v ∧ ∀ K' : GVal → Prop, K' v → minV mx xs K' := by unfold minV at *; grind

theorem lookupV_q {t m x ok} (h : lookupV P t m x ok O K) : ∃ v, K v ∧ ∀ O', ExtO O O' → ∀ K' : GVal → Prop, K' v → lookupV P t m x ok O' K' := by
  unfold lookupV ExtO at *
  split at h
  · rename_i k e hk
    obtain ⟨h1, h⟩ := h
    split at h
    · rename_i z hz
      split at h
      · split at h
        · rename_i o st _ st' kv hO
          obtain ⟨rfl, h⟩ := h
          split at h
          · rename_i i hi
            split at h
            · rename_i p hp
              exact ⟨_, h, fun O' hx K' hk' => by rw [hx _ _ hO rfl]; simp only [hi, hp, true_and]; exact ⟨h1, hk'⟩⟩
            · exact h.elim
          · rename_i hi
            exact ⟨_, h, fun O' hx K' hk' => by rw [hx _ _ hO rfl]; simp only [hi, true_and]; exact ⟨h1, hk'⟩⟩
          · exact h.elim
        · exact h.elim
      · exact ⟨_, h, fun O' hx K' hk' => ⟨h1, hk'⟩⟩
      · exact h.elim
    · exact h.elim
  · exact h.elim
theorem lookupV_mono {t m x ok} (hk : ∀ g, K g → K' g) (h : lookupV P t m x ok O K) : lookupV P t m x ok O K' := let ⟨v, hv, hq⟩ := lookupV_q h; hq O (.refl O) K' (hk v hv)
theorem mapUpdateV_mono {t m x v} {L L' : List GObj → Prop} (hk : ∀ g, L g → L' g) (h : mapUpdateV P t m x v O L) : mapUpdateV P t m x v O L' := by
  unfold mapUpdateV at *
  split at h
  · obtain ⟨h1, h⟩ := h
    refine ⟨h1, ?_⟩
    split at h
    · split at h
      · obtain ⟨e, h⟩ := h
        refine ⟨e, ?_⟩
        split at h
        · exact hk _ h
        · exact hk _ h
        · exact h.elim
      · exact h.elim
    · exact h.elim
  · exact h.elim
theorem deleteV_mono {t m x} {L L' : List GObj → Prop} (hk : ∀ g, L g → L' g) (h : deleteV P t m x O L) : deleteV P t m x O L' := by
  unfold deleteV at *
  split at h
  · obtain ⟨h1, h⟩ := h
    refine ⟨h1, ?_⟩
    split at h
    · split at h
      · obtain ⟨e, h⟩ := h
        refine ⟨e, ?_⟩
        split at h
        · exact hk _ h
        · exact hk _ h
        · exact h.elim
      · exact h.elim
    · exact h.elim
  · exact h.elim
theorem makeMapV_mono (hk : ∀ g O, J g O → J' g O) (h : makeMapV O J) : makeMapV O J' := by unfold makeMapV at *; exact stamp_mono (fun n => hk _ _) h

theorem capV_q {t x} (h : capV P t x K) : ∃ v, K v ∧ ∀ K' : GVal → Prop, K' v → capV P t x K' := by
  unfold capV at *
  obtain ⟨h1, h⟩ := h
  split at h
  · exact ⟨_, h, fun K' hk => ⟨h1, hk⟩⟩
  · exact ⟨_, h, fun K' hk => ⟨h1, hk⟩⟩
  · exact h.elim
theorem capV_mono {t x} (hk : ∀ g, K g → K' g) (h : capV P t x K) : capV P t x K' := let ⟨v, hv, hq⟩ := capV_q h; hq K' (hk v hv)

theorem callV_mono {ow : Bool} {st : GSt} {c : Call} (hk : ∀ g O, J g O → J' g O) (h : callV P ow st c J) : callV P ow st c J' := by
  unfold callV at h ⊢
  split at h
  · split at h
    · exact lenV_mono (fun g => hk g _) h
    · exact appendV_mono hk h
    · exact minV_mono (fun g => hk g _) h
    · exact minV_mono (fun g => hk g _) h
    · exact deleteV_mono (fun O => hk _ O) h
    · exact capV_mono (fun g => hk g _) h
    · exact h.elim
  · split at h
    · exact h.mono hk
    · exact h.elim
  · exact h.elim

theorem opv_mono {R : List Nat} {st : GSt} {o : Oper} (hk : ∀ g O, J g O → J' g O) (h : opv P R st o J) : opv P R st o J' := by
  unfold opv at h ⊢
  split at h
  · exact hk _ _ h
  · exact hk _ _ h
  · split at h
    · exact gif_iff.2 ⟨fun e => hk _ _ ((gif_iff.1 h).1 e), fun e => hk _ _ ((gif_iff.1 h).2 e)⟩
    · exact h.elim
  · exact binV_mono (fun g => hk g _) h
  · exact unV_mono (fun g => hk g _) h
  · exact convV_mono (fun g => hk g _) h
  · exact loadV_mono (fun g => hk g _) h
  · exact storeV_mono (fun O => hk _ O) h
  · exact fieldAddrV_mono (fun g => hk g _) h
  · exact fieldV_mono (fun g => hk g _) h
  · exact indexAddrV_mono (fun g => hk g _) h
  · exact indexV_mono (fun g => hk g _) h
  · exact extractV_mono (fun g => hk g _) h
  · exact allocV_mono hk h
  · exact lookupV_mono (fun g => hk g _) h
  · exact mapUpdateV_mono (fun O => hk _ O) h
  · exact mapUpdateV_mono (fun O => hk _ O) h
  · split at h
    · exact makeMapV_mono hk h
    · exact h.elim
  · exact boxV_mono hk h
  · exact buildV_mono (fun g => hk g _) h
  · exact buildSliceV_mono (fun g => hk g _) h
  · exact sliceV_mono (fun g => hk g _) h
  · exact nilV_mono (fun g => hk g _) h
  · exact ifaceV_mono (fun g => hk g _) h
  · exact hk _ _ h
  · exact callV_mono hk h
  · exact h.elim

/-- the same operands, the same objects -/
def SameFor (o : Oper) (st st' : GSt) : Prop := ∀ x ∈ o.op.operands.toList, st'.ev x = st.ev x

theorem map_ev {st st' : GSt} {xs : Array Operand} (h : ∀ x ∈ xs.toList, st'.ev x = st.ev x) : xs.toList.map st'.ev = xs.toList.map st.ev := List.map_congr_left h
theorem map_ev2 {st st' : GSt} {ps : Array (Nat × Operand)} (h : ∀ x ∈ (ps.toList.map (·.2)), st'.ev x = st.ev x) : (ps.toList.map fun p => (p.1, st'.ev p.2)) = ps.toList.map fun p => (p.1, st.ev p.2) :=
  List.map_congr_left fun p hp => by rw [h p.2 (List.mem_map.2 ⟨p, hp, rfl⟩)]

theorem callV_congr {ow : Bool} {st st' : GSt} {c : Call} (h : ∀ x ∈ c.operands.toList, st'.ev x = st.ev x) (ho : st'.o = st.o) : callV P ow st' c J = callV P ow st c J := by
  obtain ⟨callee, args, ts⟩ := c
  unfold callV
  cases callee with
  | builtin b =>
    have hx : ∀ x ∈ args.toList, st'.ev x = st.ev x := fun x hx => h x (by simpa [Call.operands] using hx)
    simp only
    split
    · rename_i h2; rw [hx _ (by rw [h2]; simp), ho]
    · rename_i h2; rw [hx _ (by rw [h2]; simp), hx _ (by rw [h2]; simp), ho]
    · rename_i h2; rw [hx _ (by rw [h2]; simp), hx _ (by rw [h2]; simp), ho]
    · rename_i h2; rw [hx _ (by rw [h2]; simp), hx _ (by rw [h2]; simp), ho]
    · rename_i h2; rw [hx _ (by rw [h2]; simp), hx _ (by rw [h2]; simp), ho]
    · rename_i h2; rw [hx _ (by rw [h2]; simp), ho]
    · rfl
  | value f =>
    have hf : st'.ev f = st.ev f := h f (by simp [Call.operands])
    have hx : args.toList.map st'.ev = args.toList.map st.ev := map_ev fun x hx => h x (by simp [Call.operands] at hx ⊢; exact .inr hx)
    simp only [hf, hx, ho]
  | invoke r m => rfl

theorem optV_congr {st st' : GSt} {x : Option Operand} (h : ∀ y ∈ x.toArray.toList, st'.ev y = st.ev y) : optV st' x = optV st x := by
  cases x with
  | none => rfl
  | some x => simp only [optV]; rw [h x (by simp)]

theorem opv_congr {R : List Nat} {st st' : GSt} {o : Oper} (h : SameFor o st st') (ho : st'.o = st.o) : opv P R st' o J = opv P R st o J := by
  obtain ⟨dst, op, ty, pos, after, guard⟩ := o
  unfold SameFor at h
  cases op <;> simp only [opv] <;> simp only [Op.operands] at h <;> (try rfl)
  case move x => rw [h x (by simp), ho]
  case assign x => rw [h x (by simp), ho]
  case pick c a b => rw [h c (by simp), h a (by simp), h b (by simp), ho]
  case binOp op t x y u => rw [h x (by simp), h y (by simp), ho]
  case unOp op t x => rw [h x (by simp), ho]
  case convert s d x => rw [h x (by simp), ho]
  case load t x => rw [h x (by simp), ho]
  case store t x y => rw [h x (by simp), h y (by simp), ho]
  case fieldAddr s x f => rw [h x (by simp), ho]
  case field s x f => rw [h x (by simp), ho]
  case indexAddr t x i => rw [h x (by simp), h i (by simp), ho]
  case index t x i => rw [h x (by simp), h i (by simp), ho]
  case extract x i => rw [h x (by simp), ho]
  case alloc t => rw [ho]
  case lookup t x y ok => rw [h x (by simp), h y (by simp), ho]
  case mapUpdate t x y z => rw [h x (by simp), h y (by simp), h z (by simp), ho]
  case insert t x y z => rw [h x (by simp), h y (by simp), h z (by simp), ho]
  case makeMap t r => rw [ho]
  case box t x => rw [h x (by simp), ho]
  case build t ps => rw [map_ev2 (by simpa using h), ho]
  case buildSlice t n ps => rw [map_ev2 (by simpa using h), ho]
  case slice t x lo hi mx =>
    simp only [Array.toList_append, List.mem_append] at h
    rw [h x (by simp), optV_congr (x := lo) (fun y hy => h y (.inl (.inl (.inr hy)))), optV_congr (x := hi) (fun y hy => h y (.inl (.inr hy))), optV_congr (x := mx) (fun y hy => h y (.inr hy)), ho]
  case nilCheck x => rw [h x (by simp), ho]
  case makeInterface t x => rw [h x (by simp), ho]
  case makeFunc fn fs cs =>
    simp only [Array.toList_append, List.mem_append] at h
    rw [map_ev (fun x hx => h x (.inl hx)), map_ev (fun x hx => h x (.inr hx)), ho]
  case call c => exact callV_congr h ho


/-- an operation that only reads gives one value, and gives it wherever its operands and the objects are as they were -/
theorem opv_quiet {R : List Nat} {st : GSt} {o : Oper} (hq : quietB R o = true) (h : opv P R st o J) :
    ∃ v, J v st.o ∧ ∀ st', SameFor o st st' → (regB R o = false → ExtO st.o st'.o) → ∀ J' : GVal → List GObj → Prop, J' v st'.o → opv P R st' o J' := by
  have key : ∃ v, J v st.o ∧ ∀ O', (regB R o = false → ExtO st.o O') → ∀ J' : GVal → List GObj → Prop, J' v O' → opv P R ⟨st.s, O'⟩ o J' := by
    obtain ⟨dst, op, ty, pos, after, guard⟩ := o
    have hev : ∀ O' x, (⟨st.s, O'⟩ : GSt).ev x = st.ev x := fun O' x => by cases x <;> rfl
    have hm : ∀ O', (⟨st.s, O'⟩ : GSt).ev = st.ev := fun O' => funext (hev O')
    have hop : ∀ O' x, optV ⟨st.s, O'⟩ x = optV st x := fun O' x => by cases x <;> simp [optV, hev]
    cases op <;> simp only [quietB] at hq <;> (try (cases hq; done)) <;> unfold opv at h ⊢ <;> simp only [hev, hm, hop] at h ⊢
    case move x => exact ⟨_, h, fun O' _ J' hj => hj⟩
    case assign x => exact ⟨_, h, fun O' _ J' hj => hj⟩
    case pick c a b =>
      split at h
      · rename_i t ht
        cases t with
        | true => exact ⟨_, h, fun O' _ J' hj => hj⟩
        | false => exact ⟨_, h, fun O' _ J' hj => hj⟩
      · exact h.elim
    case binOp op t x y u => obtain ⟨v, h1, h2⟩ := binV_q h; exact ⟨v, h1, fun O' _ J' hj => h2 _ hj⟩
    case unOp op t x => obtain ⟨v, h1, h2⟩ := unV_q h; exact ⟨v, h1, fun O' _ J' hj => h2 _ hj⟩
    case convert s d x => obtain ⟨v, h1, h2⟩ := convV_q h; exact ⟨v, h1, fun O' _ J' hj => h2 _ hj⟩
    case load t x => obtain ⟨v, h1, h2⟩ := loadV_q h; exact ⟨v, h1, fun O' hx J' hj => h2 O' (hx rfl) _ hj⟩
    case lookup t x y ok => obtain ⟨v, h1, h2⟩ := lookupV_q h; exact ⟨v, h1, fun O' hx J' hj => h2 O' (hx rfl) _ hj⟩
    case fieldAddr s x f => obtain ⟨v, h1, h2⟩ := fieldAddrV_q h; exact ⟨v, h1, fun O' _ J' hj => h2 _ hj⟩
    case field s x f => obtain ⟨v, h1, h2⟩ := fieldV_q h; exact ⟨v, h1, fun O' _ J' hj => h2 _ hj⟩
    case indexAddr t x i => obtain ⟨v, h1, h2⟩ := indexAddrV_q h; exact ⟨v, h1, fun O' hx J' hj => h2 O' (hx rfl) _ hj⟩
    case index t x i => obtain ⟨v, h1, h2⟩ := indexV_q h; exact ⟨v, h1, fun O' _ J' hj => h2 _ hj⟩
    case extract x i => obtain ⟨v, h1, h2⟩ := extractV_q h; exact ⟨v, h1, fun O' _ J' hj => h2 _ hj⟩
    case box t x =>
      cases dst with
      | none => cases hq
      | some d =>
        simp only at hq
        simp only [hq] at h ⊢
        exact ⟨_, h.2, fun O' _ J' hj => ⟨h.1, hj⟩⟩
    case build t ps => obtain ⟨v, h1, h2⟩ := buildV_q h; exact ⟨v, h1, fun O' _ J' hj => h2 _ hj⟩
    case buildSlice t n ps => obtain ⟨v, h1, h2⟩ := buildSliceV_q h; exact ⟨v, h1, fun O' _ J' hj => h2 _ hj⟩
    case slice t x lo hi mx => obtain ⟨v, h1, h2⟩ := sliceV_q h; exact ⟨v, h1, fun O' hx J' hj => h2 O' (hx rfl) _ hj⟩
    case nilCheck x => obtain ⟨v, h1, h2⟩ := nilV_q h; exact ⟨v, h1, fun O' _ J' hj => h2 _ hj⟩
    case makeInterface t x => obtain ⟨v, h1, h2⟩ := ifaceV_q h; exact ⟨v, h1, fun O' _ J' hj => h2 _ hj⟩
    case makeFunc fn fs cs => exact ⟨_, h, fun O' _ J' hj => hj⟩
    case call c =>
      obtain ⟨callee, args, ts⟩ := c
      cases callee with
      | value f => cases hq
      | invoke r m => cases hq
      | builtin b =>
        unfold callV at h ⊢
        simp only [hev] at h ⊢
        cases b <;> simp only at hq <;> (try (cases hq; done))
        all_goals (split at h)
        all_goals first
          | exact h.elim
          | (exfalso; simp_all; done)
          | (obtain ⟨v, h1, h2⟩ := lenV_q h; exact ⟨v, h1, fun O' hx J' hj => h2 O' (hx rfl) _ hj⟩)
          | (obtain ⟨v, h1, h2⟩ := minV_q h; exact ⟨v, h1, fun O' hx J' hj => h2 _ hj⟩)
          | (obtain ⟨v, h1, h2⟩ := capV_q h; exact ⟨v, h1, fun O' hx J' hj => h2 _ hj⟩)
  obtain ⟨v, h1, h2⟩ := key
  refine ⟨v, h1, fun st' hs hx J' hj => ?_⟩
  have := h2 st'.o hx J' hj
  have hev : ∀ O' x, (⟨st.s, O'⟩ : GSt).ev x = st.ev x := fun O' x => by cases x <;> rfl
  rw [opv_congr (st := ⟨st.s, st'.o⟩) (st' := st') (fun x hx => by rw [hev]; exact hs x hx) rfl]
  exact this

end
end Gv
