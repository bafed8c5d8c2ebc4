import Derived.Test.YtomacbbghhabpaaP3
import Derived.Tactics
import Derived.Deep.LoopGhost
set_option linter.defProp false
set_option linter.unusedVariables false
namespace Gv
open Go
def slotOf (all : List Oper) (j : Nat) : Option Nat :=
 match all[j]? with
 | some o => o.dst
 | none => none
def deps (o : Oper) : List Nat := o.after.toList.filterMap fun e => if Region.binds .any e then some e.on else none
def maskOf (acc : List Nat) (o : Oper) : Nat := (deps o).foldl (fun s j => s ||| 2 ^ j ||| acc.getD j 0) 0
def masks : List Oper → List Nat → List Nat
 | [], acc => acc
 | o :: r, acc => masks r (acc ++ [maskOf acc o])
def comparable (ms : List Nat) (i j : Nat) : Bool := i == j || (ms.getD i 0).testBit j || (ms.getD j 0).testBit i
def looks (all : List Oper) (o : Oper) : List Nat :=
 (o.op.operands.toList.filterMap fun | .tmp t => some t | _ => none) ++ (match o.guard with | some (j, _) => (slotOf all j).toList | none => [])
def apartB (all : List Oper) (x y : Oper) : Bool :=
 (match x.dst with | some d => !(looks all y).contains d && y.dst != some d | none => true) && (match y.dst with | some d => !(looks all x).contains d | none => true)
def quietB (R : List Nat) (o : Oper) : Bool :=
 match o.op with
 | .move _ | .assign _ | .pick _ _ _ | .binOp _ _ _ _ _ | .unOp _ _ _ | .convert _ _ _ | .load _ _ | .fieldAddr _ _ _ | .field _ _ _ | .indexAddr _ _ _ | .index _ _ _ | .extract _ _ | .build _ _
 | .buildSlice _ _ _ | .slice _ _ _ _ _ | .lookup _ _ _ _ | .nilCheck _ | .makeInterface _ _ | .makeFunc _ _ _ => true
 | .box _ _ => match o.dst with | some d => R.contains d | none => false
 | .call c => match c.callee with
  | .builtin .len | .builtin .min | .builtin .max | .builtin .cap => true
  | _ => false
 | _ => false
def regB (R : List Nat) (o : Oper) : Bool :=
 match o.op with
 | .move _ | .assign _ | .pick _ _ _ | .binOp _ _ _ _ _ | .unOp _ _ _ | .convert _ _ _ | .fieldAddr _ _ _ | .field _ _ _ | .index _ _ _ | .extract _ _ | .build _ _
 | .buildSlice _ _ _ | .nilCheck _ | .makeInterface _ _ | .makeFunc _ _ _ => true
 | _ => false
def readyB (all : List Oper) (L : List Nat) (j : Nat) : Bool := match all[j]? with
 | some o => !L.contains j && (deps o).all L.contains
 | none => false
def apartAll (R : List Nat) (all : List Oper) (ms : List Nat) (i : Nat) : Bool := (List.range all.length).all fun j => comparable ms i j || (match all[j]? with | some o => regB R o | none => true)
def apartT (R : List Nat) (all : List Oper) (ms : List Nat) (i t : Nat) : Bool := (List.range all.length).all fun j => comparable ms i j || (match all[j]? with
 | some o => regB R o || o.op.operands.toList.all (fun | .tmp u => u == t | .const _ => true | _ => false)
 | none => true)
def stableB (R : List Nat) (all : List Oper) (ms : List Nat) : Bool := (List.range all.length).all fun k => match all[k]? with
 | some o => regB R o || (List.range all.length).all fun i => match all[i]? with
  | some oi => (match oi.dst with
   | some d => o.op.operands.toList.all (fun | .tmp u => u != d || (k != i && (ms.getD k 0).testBit i) | _ => true)
   | none => true)
  | none => true
 | none => true
def orderOk (R : List Nat) (all : List Oper) (ms : List Nat) : List (Nat × Nat) → List Nat → Bool
 | [], L => (List.range all.length).all L.contains
 | (i, k) :: r, L => readyB all L i && (match all[i]? with
  | some o => if k = 0 then quietB R o else ((List.range all.length).all (fun j => j == i || !readyB all L j) && (k == 2 || (match k with | t + 3 => apartT R all ms i t | _ => apartAll R all ms i)))
  | none => false) && orderOk R all ms r (i :: L)
def drawOk (R : List Nat) (all : List Oper) (order : List (Nat × Nat)) : Bool :=
 let ms := masks all []
 let n := all.length
 (List.range n).all (fun i => match all[i]? with
  | some o => (deps o).all (fun j => decide (j < i)) && (match o.guard with | some (j, _) => (ms.getD i 0).testBit j | none => true) &&
   (List.range n).all (fun j => comparable ms i j || (match all[j]? with | some o' => apartB all o o' | none => true))
  | none => true) && orderOk R all ms order [] && order.length == all.length && stableB R all ms
section
variable {P : Program} {O O' : List GObj} {K K' : GVal → Prop} {J J' : GVal → List GObj → Prop}
def ExtO (O O' : List GObj) : Prop := ∀ (k : Nat) x, O[k]? = some x → x.isClock = false → O'[k]? = some x
def names : GVal → List Nat
 | .ptr o _ _ _ => [o]
 | .own o _ _ _ => [o]
 | .map o _ => [o]
 | .slice _ (.tok o _) => [o]
 | _ => []
def ExtG (g : GVal) (O O' : List GObj) : Prop := ∀ k ∈ names g, ∀ x, O[k]? = some x → x.isClock = false → O'[k]? = some x
theorem ExtG.refl (g : GVal) (O : List GObj) : ExtG g O O := fun _ _ _ h _ => h
theorem ExtO.g {O O' : List GObj} (h : ExtO O O') (g : GVal) : ExtG g O O' := fun k _ => h k
theorem ExtO.refl (O : List GObj) : ExtO O O := fun _ _ h _ => h
theorem loadV_q {t g} (h : loadV P t g O K) : ∃ v, K v ∧ ∀ O', ExtG g O O' → ∀ K' : GVal → Prop, K' v → loadV P t g O' K' := by
 unfold loadV at h
 split at h
 · rename_i n ag ht;obtain ⟨h1, h⟩ := h;split at h
   · exact ⟨_, h.2, fun O' _ K' hk => by unfold loadV; rw [ht]; exact ⟨h1, h.1, hk⟩⟩
   · split at h
     · rename_i hO;exact ⟨_, h.2.2.2, fun O' hx K' hk => by unfold loadV; rw [ht]; refine ⟨h1, ?_⟩; simp only [hx _ (.head _) _ hO rfl]; exact ⟨h.1, h.2.1, h.2.2.1, hk⟩⟩
     · exact h.elim
   · exact h.elim
 · exact h.elim
theorem loadV_mono {t g} (hk : ∀ g, K g → K' g) (h : loadV P t g O K) : loadV P t g O K' := let ⟨v, hv, hq⟩ := loadV_q h; hq O (.refl _ O) K' (hk v hv)
theorem storeV_mono {t g v} {L L' : List GObj → Prop} (hk : ∀ g, L g → L' g) (h : storeV P t g v O L) : storeV P t g v O L' := by
 unfold storeV at h ⊢
 split at h
 · obtain ⟨h1, h2, h⟩ := h;refine ⟨h1, h2, ?_⟩;split at h
   · split at h
     · exact ⟨h.1, h.2.1, h.2.2.1, hk _ h.2.2.2⟩
     · exact h.elim
   · exact h.elim
 · exact h.elim
theorem indexAddrV_q {t g i} (h : indexAddrV P t g i O K) : ∃ v, K v ∧ ∀ O', ExtG g O O' → ∀ K' : GVal → Prop, K' v → indexAddrV P t g i O' K' := by
 unfold indexAddrV at h
 split at h
 · split at h
   · split at h
     · rename_i he;exact ⟨_, h.2.2.2, fun O' _ K' hk => by unfold indexAddrV; simp only [he]; exact ⟨h.1, h.2.1, h.2.2.1, hk⟩⟩
     · exact h.elim
   · split at h
     · rename_i he;split at h
       · rename_i hO;exact ⟨_, h.2.2.2.2.2, fun O' hx K' hk => by unfold indexAddrV; simp only [he, hx _ (.head _) _ hO rfl]; exact ⟨h.1, h.2.1, h.2.2.1, h.2.2.2.1, h.2.2.2.2.1, hk⟩⟩
       · exact h.elim
     · exact h.elim
   · split at h
     · rename_i he;exact ⟨_, h.2.2.2, fun O' _ K' hk => by unfold indexAddrV; simp only [he]; exact ⟨h.1, h.2.1, h.2.2.1, hk⟩⟩
     · exact h.elim
   · split at h
     · rename_i he;exact ⟨_, h.2.2, fun O' _ K' hk => by unfold indexAddrV; simp only [he]; exact ⟨h.1, h.2.1, hk⟩⟩
     · exact h.elim
   · exact h.elim
 · exact h.elim
theorem indexAddrV_mono {t g i} (hk : ∀ g, K g → K' g) (h : indexAddrV P t g i O K) : indexAddrV P t g i O K' := let ⟨v, hv, hq⟩ := indexAddrV_q h; hq O (.refl _ O) K' (hk v hv)
theorem indexV_q {t g i} (h : indexV P t g i K) : ∃ v, K v ∧ ∀ K' : GVal → Prop, K' v → indexV P t g i K' := by
 unfold indexV at h
 split at h
 · split at h
   · split at h
     · rename_i he;exact ⟨_, h.2.2.2.2, fun K' hk => by unfold indexV; simp only [he]; exact ⟨h.1, h.2.1, h.2.2.1, h.2.2.2.1, hk⟩⟩
     · exact h.elim
   · exact ⟨_, h.2.2.2, fun K' hk => ⟨h.1, h.2.1, h.2.2.1, hk⟩⟩
   · exact h.elim
 · exact h.elim
theorem indexV_mono {t g i} (hk : ∀ g, K g → K' g) (h : indexV P t g i K) : indexV P t g i K' := let ⟨v, hv, hq⟩ := indexV_q h; hq K' (hk v hv)
theorem sliceV_q {t g lo hi mx} (h : sliceV P t g lo hi mx O K) : ∃ v, K v ∧ ∀ O', ExtG g O O' → ∀ K' : GVal → Prop, K' v → sliceV P t g lo hi mx O' K' := by
 have hct : ∀ sz xs0 tag (hi : Option GVal) tag', cutTag O sz tag hi = some tag' → ∀ O', ExtG (.slice xs0 tag) O O' → cutTag O' sz tag hi = some tag' := by
  intro sz xs0 tag hi tag' hc O' hx;unfold cutTag at hc ⊢;split at hc
  · exact hc
  · split at hc
    · split at hc
      · rename_i hO; simp only [hx _ (.head _) _ hO rfl]; exact hc
      · cases hc
      · rename_i x h1 h2 hO;have hx' := hx _ (.head _) _ hO (by cases x <;> simp_all [GObj.isClock]);simp only [hx'];cases x <;> simp_all
      · cases hc
    · exact hc
 unfold sliceV at h
 split at h
 · split at h
   · rename_i h1 h2 h3;split at h
     · obtain ⟨a1, a2, a3, a4, h⟩ := h;split at h
       · rename_i tag' hc;exact ⟨_, h, fun O' hx K' hk => by unfold sliceV; simp only [h1, h2, h3]; exact ⟨a1, a2, a3, a4, by simp only [hct _ _ _ _ _ hc O' hx]; exact hk⟩⟩
       · exact h.elim
     · exact ⟨_, h.2.2.2.2, fun O' hx K' hk => by unfold sliceV; simp only [h1, h2, h3]; exact ⟨h.1, h.2.1, h.2.2.1, h.2.2.2.1, hk⟩⟩
     · exact h.elim
   · exact h.elim
 · split at h
   · rename_i h1 h2 h3;split at h
     · rename_i hO;exact ⟨_, h.2.2.2.2.2, fun O' hx K' hk => by unfold sliceV; simp only [h1, h2, h3, hx _ (.head _) _ hO rfl]; exact ⟨h.1, h.2.1, h.2.2.1, h.2.2.2.1, h.2.2.2.2.1, hk⟩⟩
     · exact h.elim
   · exact h.elim
 · split at h
   · rename_i h1 h2;exact ⟨_, h.2.2.2.2, fun O' hx K' hk => by unfold sliceV; simp only [h1, h2]; exact ⟨h.1, h.2.1, h.2.2.1, h.2.2.2.1, hk⟩⟩
   · exact h.elim
 · split at h
   · rename_i h1 h2;split at h
     · rename_i h3;exact ⟨_, h.2.2.2.2, fun O' hx K' hk => by unfold sliceV; simp only [h1, h2, h3]; exact ⟨h.1, h.2.1, h.2.2.1, h.2.2.2.1, hk⟩⟩
     · exact h.elim
   · exact h.elim
 · exact h.elim
theorem sliceV_mono {t g lo hi mx} (hk : ∀ g, K g → K' g) (h : sliceV P t g lo hi mx O K) : sliceV P t g lo hi mx O K' := let ⟨v, hv, hq⟩ := sliceV_q h; hq O (.refl _ O) K' (hk v hv)
theorem aggV_q {t xs ys} {L : Bool → Prop} (h : aggV P t xs ys L) : ∃ r, L r ∧ ∀ L' : Bool → Prop, L' r → aggV P t xs ys L' := by
 unfold aggV at *
 split at h
 · split at h
   · exact ⟨_, h, fun L' hl => by simpa using hl⟩
   · exact h.elim
 · exact h.elim
theorem binV_q {op t x y} (h : binV P op t x y K) : ∃ v, K v ∧ ∀ K' : GVal → Prop, K' v → binV P op t x y K' := by
 unfold binV at h ⊢
 split at h
 · split at h <;> first | exact h.elim | exact ⟨_, h.2.2, fun K' hk => ⟨h.1, h.2.1, hk⟩⟩ | exact ⟨_, h.2, fun K' hk => ⟨h.1, hk⟩⟩
 · split at h <;> first | exact h.elim | exact ⟨_, h.2, fun K' hk => ⟨h.1, hk⟩⟩
 · split at h <;> first | exact h.elim | exact ⟨_, h.2, fun K' hk => ⟨h.1, hk⟩⟩ | exact ⟨_, h, fun K' hk => hk⟩
 · rename_i xs tag;have key : ∀ c d : GVal, ((tag = .nil → K c) ∧ (tag ≠ .nil → (xs = [] → K .ubool) ∧ (xs ≠ [] → K d))) → ∃ v, K v ∧ ∀ K' : GVal → Prop, K' v → ((tag = .nil → K' c) ∧ (tag ≠ .nil → (xs = [] → K' .ubool) ∧ (xs ≠ [] → K' d))) := by
    intro c d hk;by_cases ht : tag = .nil
    · exact ⟨c, hk.1 ht, fun K' h => ⟨fun _ => h, fun e => absurd ht e⟩⟩
    · by_cases hx : xs = []
      · exact ⟨.ubool, (hk.2 ht).1 hx, fun K' h => ⟨fun e => absurd e ht, fun _ => ⟨fun _ => h, fun e => absurd hx e⟩⟩⟩
      · exact ⟨d, (hk.2 ht).2 hx, fun K' h => ⟨fun e => absurd e ht, fun _ => ⟨fun e => absurd e hx, fun _ => h⟩⟩⟩
   split at h <;> first | exact h.elim | (obtain ⟨v, h1, h2⟩ := key _ _ h.2; exact ⟨v, h1, fun K' hk => ⟨h.1, h2 K' hk⟩⟩)
 · rename_i len;have key : ∀ d : GVal, ((len = 0 → K .ubool) ∧ (len ≠ 0 → K d)) → ∃ v, K v ∧ ∀ K' : GVal → Prop, K' v → ((len = 0 → K' .ubool) ∧ (len ≠ 0 → K' d)) := by
    intro d hk;by_cases hx : len = 0
    · exact ⟨.ubool, hk.1 hx, fun K' h => ⟨fun _ => h, fun e => absurd hx e⟩⟩
    · exact ⟨d, hk.2 hx, fun K' h => ⟨fun e => absurd e hx, fun _ => h⟩⟩
   split at h <;> first | exact h.elim | (obtain ⟨v, h1, h2⟩ := key _ h.2; exact ⟨v, h1, fun K' hk => ⟨h.1, h2 K' hk⟩⟩)
 · split at h <;> first | exact h.elim | (obtain ⟨r, h1, h2⟩ := aggV_q h; exact ⟨_, h1, fun K' hk => h2 _ hk⟩)
 · split at h <;> first | exact h.elim | exact ⟨_, h.2, fun K' hk => ⟨h.1, hk⟩⟩
 · split at h <;> first | exact h.elim | exact ⟨_, h.2, fun K' hk => ⟨h.1, hk⟩⟩
 · split at h <;> first | exact h.elim | exact ⟨_, h.2, fun K' hk => ⟨h.1, hk⟩⟩
 · split at h <;> first | exact h.elim | exact ⟨_, h.2, fun K' hk => ⟨h.1, hk⟩⟩
 · split at h <;> first | exact h.elim | exact ⟨_, h.2, fun K' hk => ⟨h.1, hk⟩⟩
 · split at h <;> first | exact h.elim | exact ⟨_, h.2, fun K' hk => ⟨h.1, hk⟩⟩
 · exact h.elim
theorem binN_q {op t oy x y} (h : binN P op t oy x y K) : ∃ v, K v ∧ ∀ K' : GVal → Prop, K' v → binN P op t oy x y K' := by
 unfold binN at h ⊢
 cases hb : bothNil oy x with
 | true =>
  rw [hb] at h;obtain ⟨h1, h2⟩ := h;cases op with
  | eql => exact ⟨_, h2, fun K' hk => ⟨h1, hk⟩⟩
  | neq => exact ⟨_, h2, fun K' hk => ⟨h1, hk⟩⟩
  | _ => exact h2.elim
 | false =>
  rw [hb] at h;exact binV_q h
theorem binN_mono {op t oy x y} (hk : ∀ g, K g → K' g) (h : binN P op t oy x y K) : binN P op t oy x y K' := let ⟨v, hv, hq⟩ := binN_q h; hq K' (hk v hv)
theorem srcV_mono {x} {L L' : List (List GVal) → Prop} (hk : ∀ g, L g → L' g) (h : srcV x O L) : srcV x O L' := by
 unfold srcV at h ⊢
 split at h
 · exact hk _ h
 · split at h
   · exact ⟨h.1, h.2.1, hk _ h.2.2⟩
   · exact h.elim
 · exact hk _ h
 · exact h.elim
theorem asrcV_mono {xT b cs x} {L L' : List (List GVal) → Prop} (hk : ∀ g, L g → L' g) (h : asrcV P xT b cs x O L) : asrcV P xT b cs x O L' := by
 unfold asrcV at h ⊢
 split at h
 · exact srcV_mono hk h
 · refine ⟨h.1, h.2.1, ?_⟩;have h2 := h.2.2;split at h2
   · exact ⟨h2.1, h2.2.1, h2.2.2.1, hk _ h2.2.2.2⟩
   · exact h2.elim
theorem appendV_mono {ow sT xT s x} (hk : ∀ g O, J g O → J' g O) (h : appendV P ow sT xT s x O J) : appendV P ow sT xT s x O J' := by
 unfold appendV at h ⊢
 split at h
 · refine asrcV_mono (fun ys hy => ?_) h;refine ⟨hy.1, ?_⟩;have hy2 := hy.2;split at hy2
   · refine ⟨hy2.1, hy2.2.1, hy2.2.2.1, ?_⟩;have hy3 := hy2.2.2.2;split at hy3
     · cases ow with
       | false => exact stamp_mono (fun st => hk _ _) hy3
       | true => exact ⟨hy3.1, stamp_mono (fun st => hk _ _) hy3.2⟩
     · split at hy3
       · exact ⟨hy3.1, hy3.2.1, stamp_mono (fun st2 => hk _ _) hy3.2.2⟩
       · exact hy3.elim
     · exact hy3.elim
   · split at hy2
     · exact ⟨hy2.1, hy2.2.1, hy2.2.2.1, hy2.2.2.2.1, hy2.2.2.2.2.1, stamp_mono (fun st2 => hk _ _) hy2.2.2.2.2.2⟩
     · exact hy2.elim
   · exact hy2.elim
 · exact h.elim
theorem fieldAddrV_mono {s g f} (hk : ∀ g, K g → K' g) (h : fieldAddrV P s g f K) : fieldAddrV P s g f K' := by unfold fieldAddrV at *; grind
theorem fieldAddrV_q {s g f} (h : fieldAddrV P s g f K) : ∃ v, K v ∧ ∀ K' : GVal → Prop, K' v → fieldAddrV P s g f K' := by unfold fieldAddrV at *; grind
theorem fieldV_mono {s g f} (hk : ∀ g, K g → K' g) (h : fieldV P s g f K) : fieldV P s g f K' := by unfold fieldV at *; grind
theorem fieldV_q {s g f} (h : fieldV P s g f K) : ∃ v, K v ∧ ∀ K' : GVal → Prop, K' v → fieldV P s g f K' := by unfold fieldV at *; grind
theorem extractV_mono {g i} (hk : ∀ g, K g → K' g) (h : extractV g i K) : extractV g i K' := by unfold extractV at *; grind
theorem extractV_q {g i} (h : extractV g i K) : ∃ v, K v ∧ ∀ K' : GVal → Prop, K' v → extractV g i K' := by unfold extractV at *; grind
theorem allocV_mono {t} (hk : ∀ g O, J g O → J' g O) (h : allocV P t O J) : allocV P t O J' := by
 unfold allocV at *
 split at h
 · exact ⟨h.1, stamp_mono (fun st => hk _ _) h.2⟩
 · exact h.elim
theorem makeSliceV_mono {t l c} (hk : ∀ g O, J g O → J' g O) (h : makeSliceV P t l c O J) : makeSliceV P t l c O J' := by
 unfold makeSliceV at *
 split at h
 · split at h
   · obtain ⟨h1, h2, h3, h4, h5, h6⟩ := h;exact ⟨h1, h2, h3, h4, h5, stamp_mono (fun st => hk _ _) h6⟩
   · exact h.elim
 · exact h.elim
theorem boxV_mono {ro g} (hk : ∀ g O, J g O → J' g O) (h : boxV ro g O J) : boxV ro g O J' := by
 unfold boxV at *
 refine ⟨h.1, ?_⟩
 cases ro with
 | true => exact hk _ _ h.2
 | false => exact stamp_mono (fun st => hk _ _) h.2
theorem buildV_mono {t gs} (hk : ∀ g, K g → K' g) (h : buildV P t gs K) : buildV P t gs K' := by unfold buildV at *; grind
theorem buildV_q {t gs} (h : buildV P t gs K) : ∃ v, K v ∧ ∀ K' : GVal → Prop, K' v → buildV P t gs K' := by unfold buildV at *; grind
theorem buildSliceV_mono {t n gs} (hk : ∀ g, K g → K' g) (h : buildSliceV P t n gs K) : buildSliceV P t n gs K' := by unfold buildSliceV at *; grind
theorem buildSliceV_q {t n gs} (h : buildSliceV P t n gs K) : ∃ v, K v ∧ ∀ K' : GVal → Prop, K' v → buildSliceV P t n gs K' := by unfold buildSliceV at *; grind
theorem nilV_mono {g} (hk : ∀ g, K g → K' g) (h : nilV g K) : nilV g K' := by unfold nilV at *; grind
theorem nilV_q {g} (h : nilV g K) : ∃ v, K v ∧ ∀ K' : GVal → Prop, K' v → nilV g K' := by unfold nilV at *; grind
theorem ifaceV_mono {t g} (hk : ∀ g, K g → K' g) (h : ifaceV P t g K) : ifaceV P t g K' := ⟨h.1, hk _ h.2⟩
theorem ifaceV_q {t g} (h : ifaceV P t g K) : ∃ v, K v ∧ ∀ K' : GVal → Prop, K' v → ifaceV P t g K' := ⟨_, h.2, fun K' hk => ⟨h.1, hk⟩⟩
theorem unV_mono {op g} (hk : ∀ g, K g → K' g) (h : unV op g K) : unV op g K' := by unfold unV at *; grind
theorem unV_q {op g} (h : unV op g K) : ∃ v, K v ∧ ∀ K' : GVal → Prop, K' v → unV op g K' := by unfold unV at *; grind
theorem convV_mono {s d g} (hk : ∀ g, K g → K' g) (h : convV P s d g K) : convV P s d g K' := by cases g <;> (unfold convV at *; grind)
theorem convV_q {s d g} (h : convV P s d g K) : ∃ v, K v ∧ ∀ K' : GVal → Prop, K' v → convV P s d g K' := by cases g <;> (unfold convV at *; grind)
theorem lenV_mono {t g} (hk : ∀ g, K g → K' g) (h : lenV P t g O K) : lenV P t g O K' := by unfold lenV at *; grind
theorem lenV_q {t g} (h : lenV P t g O K) : ∃ v, K v ∧ ∀ O', ExtG g O O' → ∀ K' : GVal → Prop, K' v → lenV P t g O' K' := by unfold lenV ExtG at *; grind [GObj.isClock, names]
theorem minV_mono {mx xs} (hk : ∀ g, K g → K' g) (h : minV mx xs K) : minV mx xs K' := by unfold minV at *; grind
theorem minV_q {mx xs} (h : minV mx xs K) : ∃ v, K v ∧ ∀ K' : GVal → Prop, K' v → minV mx xs K' := by unfold minV at *; grind
theorem lookupV_q {t m x ok} (h : lookupV P t m x ok O K) : ∃ v, K v ∧ ∀ O', ExtG m O O' → ∀ K' : GVal → Prop, K' v → lookupV P t m x ok O' K' := by
 unfold lookupV at *
 split at h
 · rename_i k e hk;obtain ⟨h1, h⟩ := h;split at h
   · rename_i z hz;split at h
     · split at h
       · rename_i o st _ st' kv hO;obtain ⟨rfl, h⟩ := h;split at h
         · rename_i i hi;split at h
           · rename_i p hp;exact ⟨_, h, fun O' hx K' hk' => by rw [hx _ (.head _) _ hO rfl]; simp only [hi, hp, true_and]; exact ⟨h1, hk'⟩⟩
           · exact h.elim
         · rename_i hi;exact ⟨_, h, fun O' hx K' hk' => by rw [hx _ (.head _) _ hO rfl]; simp only [hi, true_and]; exact ⟨h1, hk'⟩⟩
         · exact h.elim
       · exact h.elim
     · exact ⟨_, h, fun O' hx K' hk' => ⟨h1, hk'⟩⟩
     · exact h.elim
   · exact h.elim
 · exact h.elim
theorem lookupV_mono {t m x ok} (hk : ∀ g, K g → K' g) (h : lookupV P t m x ok O K) : lookupV P t m x ok O K' := let ⟨v, hv, hq⟩ := lookupV_q h; hq O (.refl _ O) K' (hk v hv)
theorem mapUpdateV_mono {t m x v} {L L' : List GObj → Prop} (hk : ∀ g, L g → L' g) (h : mapUpdateV P t m x v O L) : mapUpdateV P t m x v O L' := by
 unfold mapUpdateV at *
 split at h
 · obtain ⟨h1, h⟩ := h;refine ⟨h1, ?_⟩;split at h
   · split at h
     · obtain ⟨e, h⟩ := h;refine ⟨e, ?_⟩;split at h
       · exact hk _ h
       · exact hk _ h
       · exact h.elim
     · exact h.elim
   · exact h.elim
 · exact h.elim
theorem deleteV_mono {t m x} {L L' : List GObj → Prop} (hk : ∀ g, L g → L' g) (h : deleteV P t m x O L) : deleteV P t m x O L' := by
 unfold deleteV at *
 split at h
 · obtain ⟨h1, h⟩ := h;refine ⟨h1, ?_⟩;split at h
   · split at h
     · obtain ⟨e, h⟩ := h;refine ⟨e, ?_⟩;split at h
       · exact hk _ h
       · exact hk _ h
       · exact h.elim
     · exact h.elim
   · exact h.elim
 · exact h.elim
theorem makeMapV_mono (hk : ∀ g O, J g O → J' g O) (h : makeMapV O J) : makeMapV O J' := by unfold makeMapV at *; exact stamp_mono (fun n => hk _ _) h
theorem capV_q {t x} (h : capV P t x K) : ∃ v, K v ∧ ∀ K' : GVal → Prop, K' v → capV P t x K' := by
 unfold capV at *
 obtain ⟨h1, h⟩ := h
 split at h
 · exact ⟨_, h, fun K' hk => ⟨h1, hk⟩⟩
 · exact ⟨_, h, fun K' hk => ⟨h1, hk⟩⟩
 · exact h.elim
theorem capV_mono {t x} (hk : ∀ g, K g → K' g) (h : capV P t x K) : capV P t x K' := let ⟨v, hv, hq⟩ := capV_q h; hq K' (hk v hv)
theorem clearV_mono {t x} {L L' : List GObj → Prop} (hk : ∀ g, L g → L' g) (h : clearV P t x O L) : clearV P t x O L' := by
 unfold clearV at *
 split at h
 · obtain ⟨h1, h⟩ := h;refine ⟨h1, ?_⟩;split at h
   · split at h
     · obtain ⟨e1, e2, h⟩ := h;exact ⟨e1, e2, hk _ h⟩
     · exact h.elim
   · exact h.elim
 · exact h.elim
theorem callV_mono {ow : Bool} {st : GSt} {c : Call} (hk : ∀ g O, J g O → J' g O) (h : callV P ow st c J) : callV P ow st c J' := by
 unfold callV at h ⊢
 split at h
 · split at h
   · exact lenV_mono (fun g => hk g _) h
   · exact appendV_mono hk h
   · exact minV_mono (fun g => hk g _) h
   · exact minV_mono (fun g => hk g _) h
   · exact deleteV_mono (fun O => hk _ O) h
   · exact capV_mono (fun g => hk g _) h
   · exact clearV_mono (fun O => hk _ O) h
   · exact h.elim
 · split at h
   · exact h.mono hk
   · exact h.elim
 · exact h.elim
theorem opv_mono {R : List Nat} {st : GSt} {o : Oper} (hk : ∀ g O, J g O → J' g O) (h : opv P R st o J) : opv P R st o J' := by
 unfold opv at h ⊢
 split at h
 · exact hk _ _ h
 · exact hk _ _ h
 · split at h
   · exact gif_iff.2 ⟨fun e => hk _ _ ((gif_iff.1 h).1 e), fun e => hk _ _ ((gif_iff.1 h).2 e)⟩
   · exact h.elim
 · exact binN_mono (fun g => hk g _) h
 · exact unV_mono (fun g => hk g _) h
 · exact convV_mono (fun g => hk g _) h
 · exact loadV_mono (fun g => hk g _) h
 · exact storeV_mono (fun O => hk _ O) h
 · exact fieldAddrV_mono (fun g => hk g _) h
 · exact fieldV_mono (fun g => hk g _) h
 · exact indexAddrV_mono (fun g => hk g _) h
 · exact indexV_mono (fun g => hk g _) h
 · exact extractV_mono (fun g => hk g _) h
 · exact allocV_mono hk h
 · exact makeSliceV_mono hk h
 · exact lookupV_mono (fun g => hk g _) h
 · exact mapUpdateV_mono (fun O => hk _ O) h
 · exact mapUpdateV_mono (fun O => hk _ O) h
 · split at h
   · exact makeMapV_mono hk h
   · exact h.elim
 · exact boxV_mono hk h
 · exact buildV_mono (fun g => hk g _) h
 · exact buildSliceV_mono (fun g => hk g _) h
 · exact sliceV_mono (fun g => hk g _) h
 · exact nilV_mono (fun g => hk g _) h
 · exact ifaceV_mono (fun g => hk g _) h
 · exact hk _ _ h
 · exact callV_mono hk h
 · exact h.elim
def SameFor (o : Oper) (st st' : GSt) : Prop := ∀ x ∈ o.op.operands.toList, st'.ev x = st.ev x
theorem map_ev {st st' : GSt} {xs : Array Operand} (h : ∀ x ∈ xs.toList, st'.ev x = st.ev x) : xs.toList.map st'.ev = xs.toList.map st.ev := List.map_congr_left h
theorem map_ev2 {st st' : GSt} {ps : Array (Nat × Operand)} (h : ∀ x ∈ (ps.toList.map (·.2)), st'.ev x = st.ev x) : (ps.toList.map fun p => (p.1, st'.ev p.2)) = ps.toList.map fun p => (p.1, st.ev p.2) :=
 List.map_congr_left fun p hp => by rw [h p.2 (List.mem_map.2 ⟨p, hp, rfl⟩)]
theorem callV_congr {ow : Bool} {st st' : GSt} {c : Call} (h : ∀ x ∈ c.operands.toList, st'.ev x = st.ev x) (ho : st'.o = st.o) : callV P ow st' c J = callV P ow st c J := by
 obtain ⟨callee, args, ts⟩ := c
 unfold callV
 cases callee with
 | builtin b =>
  have hx : ∀ x ∈ args.toList, st'.ev x = st.ev x := fun x hx => h x (by simpa [Call.operands] using hx)
  simp only
  split
  · rename_i h2; rw [hx _ (by rw [h2]; simp), ho]
  · rename_i h2; rw [hx _ (by rw [h2]; simp), hx _ (by rw [h2]; simp), ho]
  · rename_i h2; rw [hx _ (by rw [h2]; simp), hx _ (by rw [h2]; simp), ho]
  · rename_i h2; rw [hx _ (by rw [h2]; simp), hx _ (by rw [h2]; simp), ho]
  · rename_i h2; rw [hx _ (by rw [h2]; simp), hx _ (by rw [h2]; simp), ho]
  · rename_i h2; rw [hx _ (by rw [h2]; simp), ho]
  · rename_i h2; rw [hx _ (by rw [h2]; simp), ho]
  · rfl
 | value f =>
  have hf : st'.ev f = st.ev f := h f (by simp [Call.operands]);have hx : args.toList.map st'.ev = args.toList.map st.ev := map_ev fun x hx => h x (by simp [Call.operands] at hx ⊢; exact .inr hx)
  simp only [hf, hx, ho]
 | invoke r m => rfl
theorem optV_congr {st st' : GSt} {x : Option Operand} (h : ∀ y ∈ x.toArray.toList, st'.ev y = st.ev y) : optV st' x = optV st x := by
 cases x with
 | none => rfl
 | some x => simp only [optV]; rw [h x (by simp)]
theorem opv_congr {R : List Nat} {st st' : GSt} {o : Oper} (h : SameFor o st st') (ho : st'.o = st.o) : opv P R st' o J = opv P R st o J := by
 obtain ⟨dst, op, ty, pos, after, guard⟩ := o
 unfold SameFor at h
 cases op <;> simp only [opv] <;> simp only [Op.operands] at h <;> (try rfl)
 case move x => rw [h x (by simp), ho]
 case assign x => rw [h x (by simp), ho]
 case pick c a b => rw [h c (by simp), h a (by simp), h b (by simp), ho]
 case binOp op t x y u => rw [h x (by simp), h y (by simp), ho]
 case unOp op t x => rw [h x (by simp), ho]
 case convert s d x => rw [h x (by simp), ho]
 case load t x => rw [h x (by simp), ho]
 case store t x y => rw [h x (by simp), h y (by simp), ho]
 case fieldAddr s x f => rw [h x (by simp), ho]
 case field s x f => rw [h x (by simp), ho]
 case indexAddr t x i => rw [h x (by simp), h i (by simp), ho]
 case index t x i => rw [h x (by simp), h i (by simp), ho]
 case extract x i => rw [h x (by simp), ho]
 case alloc t => rw [ho]
 case lookup t x y ok => rw [h x (by simp), h y (by simp), ho]
 case mapUpdate t x y z => rw [h x (by simp), h y (by simp), h z (by simp), ho]
 case insert t x y z => rw [h x (by simp), h y (by simp), h z (by simp), ho]
 case makeMap t r => rw [ho]
 case makeSlice t x y => rw [h x (by simp), h y (by simp), ho]
 case box t x => rw [h x (by simp), ho]
 case build t ps => rw [map_ev2 (by simpa using h), ho]
 case buildSlice t n ps => rw [map_ev2 (by simpa using h), ho]
 case slice t x lo hi mx =>
  simp only [Array.toList_append, List.mem_append] at h;rw [h x (by simp), optV_congr (x := lo) (fun y hy => h y (.inl (.inl (.inr hy)))), optV_congr (x := hi) (fun y hy => h y (.inl (.inr hy))), optV_congr (x := mx) (fun y hy => h y (.inr hy)), ho]
 case nilCheck x => rw [h x (by simp), ho]
 case makeInterface t x => rw [h x (by simp), ho]
 case makeFunc fn fs cs =>
  simp only [Array.toList_append, List.mem_append] at h;rw [map_ev (fun x hx => h x (.inl hx)), map_ev (fun x hx => h x (.inr hx)), ho]
 case call c => exact callV_congr h ho
theorem opv_quiet {R : List Nat} {st : GSt} {o : Oper} (hq : quietB R o = true) (h : opv P R st o J) :
 ∃ v, J v st.o ∧ ∀ st', SameFor o st st' → (regB R o = false → ∀ x ∈ o.op.operands.toList, ExtG (st.ev x) st.o st'.o) → ∀ J' : GVal → List GObj → Prop, J' v st'.o → opv P R st' o J' := by
 have key : ∃ v, J v st.o ∧ ∀ O', (regB R o = false → ∀ x ∈ o.op.operands.toList, ExtG (st.ev x) st.o O') → ∀ J' : GVal → List GObj → Prop, J' v O' → opv P R ⟨st.s, O'⟩ o J' := by
  obtain ⟨dst, op, ty, pos, after, guard⟩ := o;have hev : ∀ O' x, (⟨st.s, O'⟩ : GSt).ev x = st.ev x := fun O' x => by cases x <;> rfl
  have hm : ∀ O', (⟨st.s, O'⟩ : GSt).ev = st.ev := fun O' => funext (hev O')
  have hop : ∀ O' x, optV ⟨st.s, O'⟩ x = optV st x := fun O' x => by cases x <;> simp [optV, hev]
  cases op <;> simp only [quietB] at hq <;> (try (cases hq; done)) <;> unfold opv at h ⊢ <;> simp only [hev, hm, hop] at h ⊢
  case move x => exact ⟨_, h, fun O' _ J' hj => hj⟩
  case assign x => exact ⟨_, h, fun O' _ J' hj => hj⟩
  case pick c a b =>
   split at h
   · rename_i t ht;cases t with
     | true => exact ⟨_, h, fun O' _ J' hj => hj⟩
     | false => exact ⟨_, h, fun O' _ J' hj => hj⟩
   · exact h.elim
  case binOp op t x y u => obtain ⟨v, h1, h2⟩ := binN_q h; exact ⟨v, h1, fun O' _ J' hj => h2 _ hj⟩
  case unOp op t x => obtain ⟨v, h1, h2⟩ := unV_q h; exact ⟨v, h1, fun O' _ J' hj => h2 _ hj⟩
  case convert s d x => obtain ⟨v, h1, h2⟩ := convV_q h; exact ⟨v, h1, fun O' _ J' hj => h2 _ hj⟩
  case load t x => obtain ⟨v, h1, h2⟩ := loadV_q h; exact ⟨v, h1, fun O' hx J' hj => h2 O' (hx rfl x (by simp [Op.operands])) _ hj⟩
  case lookup t x y ok => obtain ⟨v, h1, h2⟩ := lookupV_q h; exact ⟨v, h1, fun O' hx J' hj => h2 O' (hx rfl x (by simp [Op.operands])) _ hj⟩
  case fieldAddr s x f => obtain ⟨v, h1, h2⟩ := fieldAddrV_q h; exact ⟨v, h1, fun O' _ J' hj => h2 _ hj⟩
  case field s x f => obtain ⟨v, h1, h2⟩ := fieldV_q h; exact ⟨v, h1, fun O' _ J' hj => h2 _ hj⟩
  case indexAddr t x i => obtain ⟨v, h1, h2⟩ := indexAddrV_q h; exact ⟨v, h1, fun O' hx J' hj => h2 O' (hx rfl x (by simp [Op.operands])) _ hj⟩
  case index t x i => obtain ⟨v, h1, h2⟩ := indexV_q h; exact ⟨v, h1, fun O' _ J' hj => h2 _ hj⟩
  case extract x i => obtain ⟨v, h1, h2⟩ := extractV_q h; exact ⟨v, h1, fun O' _ J' hj => h2 _ hj⟩
  case box t x =>
   cases dst with
   | none => cases hq
   | some d =>
    simp only at hq
    simp only [hq] at h ⊢;exact ⟨_, h.2, fun O' _ J' hj => ⟨h.1, hj⟩⟩
  case build t ps => obtain ⟨v, h1, h2⟩ := buildV_q h; exact ⟨v, h1, fun O' _ J' hj => h2 _ hj⟩
  case buildSlice t n ps => obtain ⟨v, h1, h2⟩ := buildSliceV_q h; exact ⟨v, h1, fun O' _ J' hj => h2 _ hj⟩
  case slice t x lo hi mx => obtain ⟨v, h1, h2⟩ := sliceV_q h; exact ⟨v, h1, fun O' hx J' hj => h2 O' (hx rfl x (by simp [Op.operands])) _ hj⟩
  case nilCheck x => obtain ⟨v, h1, h2⟩ := nilV_q h; exact ⟨v, h1, fun O' _ J' hj => h2 _ hj⟩
  case makeInterface t x => obtain ⟨v, h1, h2⟩ := ifaceV_q h; exact ⟨v, h1, fun O' _ J' hj => h2 _ hj⟩
  case makeFunc fn fs cs => exact ⟨_, h, fun O' _ J' hj => hj⟩
  case call c =>
   obtain ⟨callee, args, ts⟩ := c;cases callee with
   | value f => cases hq
   | invoke r m => cases hq
   | builtin b =>
    unfold callV at h ⊢;simp only [hev] at h ⊢;cases b <;> simp only at hq <;> (try (cases hq; done))
    all_goals (split at h)
    all_goals first
     | exact h.elim
     | (exfalso; simp_all; done)
     | (rename_i hxs; obtain ⟨v, h1, h2⟩ := lenV_q h; exact ⟨v, h1, fun O' hx J' hj => h2 O' (hx rfl _ (by simp [Op.operands, Call.operands, hxs])) _ hj⟩)
     | (obtain ⟨v, h1, h2⟩ := minV_q h; exact ⟨v, h1, fun O' hx J' hj => h2 _ hj⟩)
     | (obtain ⟨v, h1, h2⟩ := capV_q h; exact ⟨v, h1, fun O' hx J' hj => h2 _ hj⟩)
 obtain ⟨v, h1, h2⟩ := key
 refine ⟨v, h1, fun st' hs hx J' hj => ?_⟩
 have := h2 st'.o hx J' hj
 have hev : ∀ O' x, (⟨st.s, O'⟩ : GSt).ev x = st.ev x := fun O' x => by cases x <;> rfl
 rw [opv_congr (st := ⟨st.s, st'.o⟩) (st' := st') (fun x hx => by rw [hev]; exact hs x hx) rfl]
 exact this
end
end Gv
namespace Gv
open Go
def GSt.setS (st : GSt) (d : Nat) (g : GVal) : GSt := ⟨st.s.set d g, st.o⟩
def bare : List GObj → List GObj
 | .clock _ :: r => .clock 0 :: r
 | l => l
theorem bare_get {O : List GObj} {k : Nat} {x : GObj} (h : O[k]? = some x) (hc : x.isClock = false) : (bare O)[k]? = some x := by
 cases O with
 | nil => simp at h
 | cons y r =>
  cases k with
  | zero => simp at h; subst h; cases y <;> simp_all [bare, GObj.isClock]
  | succ k => cases y <;> simpa [bare] using h
theorem bare_get' {O : List GObj} {k : Nat} {x : GObj} (h : (bare O)[k]? = some x) (hc : x.isClock = false) : O[k]? = some x := by
 cases O with
 | nil => simp [bare] at h
 | cons y r =>
  cases k with
  | zero => cases y <;> simp_all [bare] <;> subst h <;> simp [GObj.isClock] at hc
  | succ k => cases y <;> simpa [bare] using h
def keepT (g : GVal) (O O' : List GObj) : Prop := match g with
 | .ptr o _ _ _ => O'[o]? = O[o]?
 | .own o _ _ _ => O'[o]? = O[o]?
 | .map o _ => O'[o]? = O[o]?
 | .slice _ (.tok o _) => O'[o]? = O[o]?
 | _ => True
theorem keepT.g {g : GVal} {O O' : List GObj} (h : keepT g O O') : ExtG g O O' := by
 intro k hk x hx _
 unfold names at hk
 unfold keepT at h
 split at hk <;> simp at hk <;> subst hk <;> simp only at h <;> rw [h] <;> exact hx
def drawK (k : Nat) (s : List GVal) (O O' : List GObj) : Prop := match k with
 | 0 => True
 | 1 => True
 | 2 => ∃ new, bare O' = bare O ++ new
 | t + 3 => keepT (sget s t) O O'
def drawC (k : Nat) (s : List GVal) (O O' : List GObj) (N : Prop) : Prop := drawK k s O O' ∧ N
def ordv (P : Program) (R : List Nat) (all : List Oper) : List (Nat × Nat) → (GSt → Prop) → GSt → Prop
 | [], K, st => K st
 | (i, k) :: r, K, st => match all[i]? with
  | none => False
  | some o => match o.guard with
   | none => opv P R st o (fun g O' => drawC k st.s st.o O' (ordv P R all r K (st.put o.dst g O')))
   | some (j, want) => match slotOf all j with
    | some d => match sget st.s d with
     | .bool b => if b = want then (b = want → opv P R (st.setS d (.bool want)) o (fun g O' => drawC k st.s st.o O' (ordv P R all r K ((st.setS d (.bool want)).put o.dst g O')))) else
      (b = (!want) → ordv P R all r K ((st.setS d (.bool (!want))).put o.dst (.lit (.tuple #[])) st.o))
     | .lit (.tuple _) => ordv P R all r K (st.put o.dst (.lit (.tuple #[])) st.o)
     | _ => False
    | none => False
theorem GSt.setS_self {st : GSt} {d : Nat} {g : GVal} (hd : d < st.s.length) (h : st.s.getD d .any = g) : st.setS d g = st := by
 have : st.s[d] = g := by simpa [List.getD, hd] using h
 cases st with
 | mk s o =>
  simp only [GSt.setS]
  congr 1
  simp only at this
  rw [← this, List.set_getElem_self]
section
variable {P : Program} {R : List Nat}
theorem yielded_eq {E : Env} {a : Act} {st : GSt} {all : List Oper} {j d : Nat} {b : Bool} (ha : SlotsR E a st.s) (hd : slotOf all j = some d) (hb : st.s.getD d .any = .bool b) :
 yielded all.toArray a.tmps j = some b ∧ d < st.s.length := by
 have hlt : d < st.s.length := by
  rcases Nat.lt_or_ge d st.s.length with h | h
  · exact h
  · simp [List.getD, List.getElem?_eq_none h] at hb
 have hv := ha.at_ d _ (getD_of (d := GVal.any) hlt)
 rw [hb] at hv
 have hlt2 : d < a.tmps.size := by rw [ha.size]; exact hlt
 generalize hx : a.tmps.getD d undef = x at hv
 cases hv
 have hx2 : a.tmps[d]? = some (.bool b) := by
  have : a.tmps.getD d undef = a.tmps[d] := by simp [Array.getD, hlt2]
  rw [this] at hx;simp [hlt2, hx]
 refine ⟨?_, hlt⟩
 unfold slotOf at hd
 unfold yielded
 cases ho : all[j]? with
 | none => simp [ho] at hd
 | some o =>
  simp only [ho] at hd;simp [ho, hd, hx2]
theorem yielded_none {E : Env} {a : Act} {st : GSt} {all : List Oper} {j d : Nat} {v : Array Value} (ha : SlotsR E a st.s) (hd : slotOf all j = some d) (hb : st.s.getD d .any = .lit (.tuple v)) :
 yielded all.toArray a.tmps j = none := by
 have hlt : d < st.s.length := by
  rcases Nat.lt_or_ge d st.s.length with h | h
  · exact h
  · simp [List.getD, List.getElem?_eq_none h] at hb
 have hv := ha.at_ d _ (getD_of (d := GVal.any) hlt)
 rw [hb] at hv
 have hlt2 : d < a.tmps.size := by rw [ha.size]; exact hlt
 generalize hx : a.tmps.getD d undef = x at hv
 cases hv
 have hx2 : a.tmps[d]? = some (.tuple v) := by
  have : a.tmps.getD d undef = a.tmps[d] := by simp [Array.getD, hlt2]
  rw [this] at hx;simp [hlt2, hx]
 unfold slotOf at hd
 unfold yielded
 cases ho : all[j]? with
 | none => simp [ho] at hd
 | some o =>
  simp only [ho] at hd;simp [ho, hd, hx2]
def readyF (all : List Oper) (L : Nat → Bool) (j : Nat) : Bool := match all[j]? with
 | some o => !L j && (deps o).all L
 | none => false
def addL (L : Nat → Bool) (i : Nat) : Nat → Bool := fun k => k == i || L k
def Cond (R : List Nat) (all : List Oper) (L : Nat → Bool) (i : Nat) (st : GSt) (O' : List GObj) : Prop :=
 ∀ k ok, all[k]? = some ok → k ≠ i → comparable (masks all []) i k = false → regB R ok = false → (L k = true ∨ readyF all L k = true) →
  ∀ x ∈ ok.op.operands.toList, ExtG (st.ev x) st.o O'
theorem Cond.refl (R : List Nat) (all : List Oper) (L : Nat → Bool) (i : Nat) (st : GSt) : Cond R all L i st st.o := fun _ _ _ _ _ _ _ _ _ => .refl _ _
def stepG (P : Program) (R : List Nat) (all : List Oper) (L : Nat → Bool) (i : Nat) (st : GSt) (N : GSt → Prop) : Prop :=
 match all[i]? with
 | none => False
 | some o => match o.guard with
  | none => opv P R st o (fun g O' => Cond R all L i st O' ∧ N (st.put o.dst g O'))
  | some (j, want) => match slotOf all j with
   | some d => match sget st.s d with
    | .bool b => (b = want → opv P R st o (fun g O' => Cond R all L i st O' ∧ N (st.put o.dst g O'))) ∧
     (b = !want → N (st.put o.dst (.lit (.tuple #[])) st.o))
    | .lit (.tuple _) => N (st.put o.dst (.lit (.tuple #[])) st.o)
    | _ => False
   | none => False
theorem stepG_mono {all : List Oper} {L : Nat → Bool} {i : Nat} {st : GSt} {N N' : GSt → Prop} (hn : ∀ s, N s → N' s) (h : stepG P R all L i st N) : stepG P R all L i st N' := by
 unfold stepG at h ⊢
 split at h
 · exact h.elim
 · split at h
   · exact opv_mono (fun g O hg => ⟨hg.1, hn _ hg.2⟩) h
   · split at h
     · split at h
       · exact ⟨fun e => opv_mono (fun g O hg => ⟨hg.1, hn _ hg.2⟩) (h.1 e), fun e => hn _ (h.2 e)⟩
       · exact hn _ h
       · exact h.elim
     · exact h.elim
def GA (P : Program) (R : List Nat) (all : List Oper) (K : GSt → Prop) : Nat → (Nat → Bool) → GSt → Prop
 | 0, L, st => (∀ j, readyF all L j = false) ∧ K st
 | f + 1, L, st => (∃ j, readyF all L j = true) ∧ ∀ i, readyF all L i = true → stepG P R all L i st (GA P R all K f (addL L i))
theorem readyF_add {all : List Oper} {L : Nat → Bool} {i j : Nat} (h : readyF all L j = true) (hij : j ≠ i) : readyF all (addL L i) j = true := by
 unfold readyF at h ⊢
 split at h
 · rename_i o ho;simp only [Bool.and_eq_true, Bool.not_eq_true', List.all_eq_true] at h ⊢;refine ⟨by simp [addL, hij, h.1], fun x hx => ?_⟩;simp [addL, h.2 x hx]
 · cases h
theorem addL_comm (L : Nat → Bool) (i j : Nat) : addL (addL L i) j = addL (addL L j) i := by
 funext k; simp only [addL]
 cases (k == i) <;> cases (k == j) <;> simp
structure Closed (all : List Oper) (L : Nat → Bool) : Prop where
 closed : ∀ (i : Nat) o, all[i]? = some o → L i = true → ∀ j ∈ deps o, L j = true
theorem Closed.add {all : List Oper} {L : Nat → Bool} {i : Nat} (h : Closed all L) (hr : readyF all L i = true) : Closed all (addL L i) := by
 refine ⟨fun k o hk hL j hj => ?_⟩
 unfold readyF at hr
 by_cases hki : k = i
 · subst hki;rw [hk] at hr;simp only [Bool.and_eq_true, List.all_eq_true] at hr;simp [addL, hr.2 j hj]
 · have : L k = true := by simpa [addL, hki] using hL
   simp [addL, h.closed k o hk this j hj]
theorem maskOf_bit (acc : List Nat) (l : List Nat) (s k : Nat) : (l.foldl (fun s j => s ||| 2 ^ j ||| acc.getD j 0) s).testBit k = true → s.testBit k = true ∨ ∃ j ∈ l, k = j ∨ (acc.getD j 0).testBit k = true := by
 induction l generalizing s with
 | nil => intro h; exact .inl h
 | cons x r ih =>
  intro h;rcases ih _ h with h1 | ⟨j, hj, h1⟩
  · simp only [Nat.testBit_or, Bool.or_eq_true, Nat.testBit_two_pow, decide_eq_true_eq] at h1;rcases h1 with (h1 | h1) | h1
    · exact .inl h1
    · exact .inr ⟨x, by simp, .inl h1.symm⟩
    · exact .inr ⟨x, by simp, .inr h1⟩
  · exact .inr ⟨j, by simp [hj], h1⟩
theorem masks_spec {all : List Oper} {L : Nat → Bool} (hc : Closed all L) : ∀ (l : List Oper) (acc : List Nat), (∀ k, all[acc.length + k]? = l[k]?) →
 (∀ i, i < acc.length → L i = true → ∀ k, (acc.getD i 0).testBit k = true → L k = true) →
 (∀ i o, all[i]? = some o → ∀ j ∈ deps o, j < i) →
 ∀ i, i < (masks l acc).length → L i = true → ∀ k, ((masks l acc).getD i 0).testBit k = true → L k = true
 | [], acc, _, h, _ => h
 | o :: r, acc, hl, h, hlt => by
  have ho : all[acc.length]? = some o := by have := hl 0; simpa using this
  have hlt' : ∀ j ∈ deps o, j < acc.length := hlt acc.length o ho;refine masks_spec hc r (acc ++ [maskOf acc o]) (fun k => by have := hl (k + 1); simp only [List.length_append, List.length_cons, List.length_nil]; rw [show acc.length + (0 + 1) + k = acc.length + (k + 1) by omega]; simpa using this) (fun i hi hL k hk => ?_) hlt;by_cases hi' : i < acc.length
  · have e : (acc ++ [maskOf acc o]).getD i 0 = acc.getD i 0 := by simp [List.getD, List.getElem?_append_left hi']
    rw [e] at hk;exact h i hi' hL k hk
  · have hie : i = acc.length := by simp at hi; omega
    subst hie;have e : (acc ++ [maskOf acc o]).getD acc.length 0 = maskOf acc o := by simp [List.getD]
    rw [e] at hk;unfold maskOf at hk;rcases maskOf_bit acc (deps o) 0 k hk with h1 | ⟨j, hj, h1⟩
    · simp at h1
    · have hLj := hc.closed acc.length o ho hL j hj;rcases h1 with rfl | h1
      · exact hLj
      · exact h j (hlt' j hj) hLj k h1
theorem masks_len : ∀ (l : List Oper) (acc : List Nat), (masks l acc).length = acc.length + l.length
 | [], acc => by simp [masks]
 | o :: r, acc => by rw [masks, masks_len r]; simp; omega
structure Sound (R : List Nat) (all : List Oper) : Prop where
 lt : ∀ i o, all[i]? = some o → ∀ j ∈ deps o, j < i
 grd : ∀ i o j want, all[i]? = some o → o.guard = some (j, want) → ((masks all []).getD i 0).testBit j = true
 stab : ∀ k i ok oi d, all[k]? = some ok → all[i]? = some oi → regB R ok = false → oi.dst = some d → Operand.tmp d ∈ ok.op.operands.toList → k ≠ i ∧ ((masks all []).getD k 0).testBit i = true
 apart : ∀ i j o o', all[i]? = some o → all[j]? = some o' → comparable (masks all []) i j = true ∨ apartB all o o' = true
theorem ready_free {all : List Oper} {L : Nat → Bool} {i j : Nat} (hlt : ∀ i o, all[i]? = some o → ∀ j ∈ deps o, j < i) (hc : Closed all L) (hi : readyF all L i = true) (hj : L j = false) (hij : j ≠ i) :
 ((masks all []).getD i 0).testBit j = false := by
 cases hb : ((masks all []).getD i 0).testBit j with
 | false => rfl
 | true =>
  have hil : i < all.length := by
   unfold readyF at hi;split at hi
   · rename_i o ho; exact (List.getElem?_eq_some_iff.1 ho).1
   · cases hi
  have := masks_spec (hc.add hi) all [] (by simp) (by simp) hlt i (by rw [masks_len]; simpa using hil) (by simp [addL]) j hb;simp [addL, hij, hj] at this
theorem readyF_un {all : List Oper} {L : Nat → Bool} {i : Nat} (h : readyF all L i = true) : L i = false := by
 unfold readyF at h
 split at h
 · simp only [Bool.and_eq_true, Bool.not_eq_true'] at h; exact h.1
 · cases h
theorem ready_incomparable {all : List Oper} {L : Nat → Bool} {i j : Nat} (hlt : ∀ i o, all[i]? = some o → ∀ j ∈ deps o, j < i) (hc : Closed all L) (hi : readyF all L i = true) (hj : readyF all L j = true) (hij : j ≠ i) :
 comparable (masks all []) i j = false := by
 simp only [comparable, Bool.or_eq_false_iff]
 exact ⟨⟨by simpa using fun e => hij e.symm, ready_free hlt hc hi (readyF_un hj) hij⟩, ready_free hlt hc hj (readyF_un hi) (Ne.symm hij)⟩
def StS (R : List Nat) (all : List Oper) (o : Oper) (st st' : GSt) : Prop := (∀ d ∈ looks all o, sget st'.s d = sget st.s d) ∧ (regB R o = false → ∀ x ∈ o.op.operands.toList, ExtG (st.ev x) st.o st'.o)
theorem StS.same {all : List Oper} {o : Oper} {st st' : GSt} (h : StS R all o st st') : SameFor o st st' := by
 intro x hx
 cases x with
 | tmp t => exact h.1 t (by simp only [looks, List.mem_append, List.mem_filterMap]; exact .inl ⟨.tmp t, hx, rfl⟩)
 | _ => rfl
def Yields (P : Program) (R : List Nat) (all : List Oper) (i : Nat) (d : Option Nat) (o : Oper) (st : GSt) (v : GVal) : Prop :=
 ∀ (L' : Nat → Bool) st', StS R all o st st' → ∀ N : GSt → Prop, N (st'.put d v st'.o) → stepG P R all L' i st' N
theorem quiet_step {all : List Oper} {L : Nat → Bool} {i : Nat} {o : Oper} {st : GSt} {N : GSt → Prop} (ho : all[i]? = some o) (hq : quietB R o = true) (h : stepG P R all L i st N) :
 ∃ v, N (st.put o.dst v st.o) ∧ Yields P R all i o.dst o st v := by
 unfold stepG at h
 simp only [ho] at h
 cases hg : o.guard with
 | none =>
  simp only [hg] at h;obtain ⟨v, h1, h2⟩ := opv_quiet hq h;refine ⟨v, h1.2, fun L' st' hs N' hn => ?_⟩;unfold stepG;simp only [ho, hg];exact h2 st' hs.same hs.2 _ ⟨.refl _ _ _ _ _, hn⟩
 | some p =>
  obtain ⟨j, want⟩ := p;simp only [hg] at h;cases hd : slotOf all j with
  | none => simp [hd] at h
  | some d =>
   simp only [hd] at h;have hlook : d ∈ looks all o := by simp [looks, hg, hd]
   split at h
   · rename_i b hb;by_cases hw : b = want
     · obtain ⟨v, h1, h2⟩ := opv_quiet hq (h.1 hw);refine ⟨v, h1.2, fun L' st' hs N' hn => ?_⟩;unfold stepG;simp only [ho, hg, hd, hs.1 d hlook, hb];exact ⟨fun _ => h2 st' hs.same hs.2 _ ⟨.refl _ _ _ _ _, hn⟩, fun e => by subst hw; cases b <;> cases e⟩
     · have hw2 : b = !want := by cases b <;> cases want <;> simp_all
       refine ⟨.lit (.tuple #[]), h.2 hw2, fun L' st' hs N' hn => ?_⟩;unfold stepG;simp only [ho, hg, hd, hs.1 d hlook, hb];exact ⟨fun e => absurd e hw, fun _ => hn⟩
   · rename_i v hb;refine ⟨.lit (.tuple #[]), h, fun L' st' hs N' hn => ?_⟩;unfold stepG;simp only [ho, hg, hd, hs.1 d hlook, hb];exact hn
   · exact h.elim
theorem sget_set_ne {s : List GVal} {d t : Nat} {g : GVal} (h : d ≠ t) : sget (s.set d g) t = sget s t := by
 simp [sget, List.getD, List.getElem?_set_ne h]
theorem put_comm {st : GSt} {d0 dj : Option Nat} {v g : GVal} {O' : List GObj} (h : ∀ d, d0 = some d → dj ≠ some d) : ((st.put d0 v st.o).put dj g O') = ((st.put dj g O').put d0 v O') := by
 cases d0 with
 | none => cases dj <;> rfl
 | some d =>
  cases dj with
  | none => rfl
  | some e =>
   have hne : d ≠ e := fun he => h d rfl (he ▸ rfl)
   simp only [GSt.put];rw [List.set_comm _ _ hne]
theorem comparable_comm (ms : List Nat) (i j : Nat) : comparable ms i j = comparable ms j i := by
 rw [Bool.eq_iff_iff]
 simp only [comparable, Bool.or_eq_true, beq_iff_eq]
 constructor
 · rintro ((h | h) | h)
   · exact .inl (.inl h.symm)
   · exact .inr h
   · exact .inl (.inr h)
 · rintro ((h | h) | h)
   · exact .inl (.inl h.symm)
   · exact .inr h
   · exact .inl (.inr h)
theorem ev_put_ne {st : GSt} {d0 : Option Nat} {v : GVal} {x : Operand} (h : ∀ d, d0 = some d → x ≠ .tmp d) : (st.put d0 v st.o).ev x = st.ev x := by
 cases d0 with
 | none => cases x <;> rfl
 | some d =>
  cases x with
  | tmp t => exact sget_set_ne (fun e => h d rfl (by rw [e]))
  | _ => rfl
theorem Sound.ev {all : List Oper} (hS : Sound R all) {L : Nat → Bool} (hc : Closed all L) {i k : Nat} {o ok : Oper} (ho : all[i]? = some o) (hok : all[k]? = some ok) (hi : readyF all L i = true) (hreg : regB R ok = false) (hk : k = i ∨ L k = true ∨ readyF all L k = true)
 {st : GSt} {v : GVal} {x : Operand} (hx : x ∈ ok.op.operands.toList) : (st.put o.dst v st.o).ev x = st.ev x := by
 refine ev_put_ne fun d hd e => ?_
 subst e
 obtain ⟨hne, hb⟩ := hS.stab k i ok o d hok ho hreg hd hx
 rcases hk with hk | hk | hk
 · exact hne hk
 · have hkl : k < (masks all []).length := by rw [masks_len]; simpa using (List.getElem?_eq_some_iff.1 hok).1
   have := masks_spec hc all [] (by simp) (by simp) hS.lt k hkl hk i hb;rw [readyF_un hi] at this; cases this
 · have := ready_free hS.lt hc hk (readyF_un hi) (Ne.symm hne);rw [hb] at this; cases this
theorem congr_step {all : List Oper} (hS : Sound R all) {L : Nat → Bool} {i j : Nat} {o oj : Oper} {st : GSt} {v : GVal} {N : GSt → Prop} (hoi : all[i]? = some o) (ho : all[j]? = some oj) (hc : Closed all L) (hi : readyF all L i = true) (hj : readyF all L j = true) (hij : j ≠ i)
 (h1 : ∀ d, o.dst = some d → d ∉ looks all oj) (h2 : ∀ d, o.dst = some d → oj.dst ≠ some d) (h : stepG P R all (addL L i) j (st.put o.dst v st.o) N) :
 stepG P R all L j st (fun st' => (∃ g O', st' = st.put oj.dst g O' ∧ (regB R o = false → ∀ x ∈ o.op.operands.toList, ExtG (st.ev x) st.o O')) ∧ N (st'.put o.dst v st'.o)) := by
 have hs : ∀ d ∈ looks all oj, sget (st.put o.dst v st.o).s d = sget st.s d := by
  intro d hd;cases hd0 : o.dst with
  | none => rfl
  | some e => exact sget_set_ne (fun he => h1 e hd0 (he ▸ hd))
 have hsame : SameFor oj st (st.put o.dst v st.o) := StS.same (R := R) ⟨hs, fun _ x _ => by rw [GSt.put_o]; exact .refl _ _⟩
 have hex : ∀ N' : GVal → List GObj → Prop, opv P R (st.put o.dst v st.o) oj N' → opv P R st oj N' := fun N' hh => by
  rw [opv_congr hsame (GSt.put_o _ _ _ _)] at hh; exact hh
 have hinc := ready_incomparable hS.lt hc hi hj hij
 have hcond : ∀ O', Cond R all (addL L i) j (st.put o.dst v st.o) O' → Cond R all L j st O' ∧ (regB R o = false → ∀ x ∈ o.op.operands.toList, ExtG (st.ev x) st.o O') := by
  intro O' hh;refine ⟨fun k ok hk hkj hcm hreg hdr x hx => ?_, fun hreg x hx => ?_⟩
  · have := hh k ok hk hkj hcm hreg (by
     by_cases hki : k = i
     · exact .inl (by simp [addL, hki])
     · rcases hdr with q | q
       · exact .inl (by simp [addL, q])
       · exact .inr (readyF_add q hki)) x hx
    rwa [hS.ev hc hoi hk hi hreg (.inr hdr) hx, GSt.put_o] at this
  · have := hh i o hoi (Ne.symm hij) (by rw [comparable_comm]; exact hinc) hreg (.inl (by simp [addL])) x hx
    rwa [hS.ev hc hoi hoi hi hreg (.inl rfl) hx, GSt.put_o] at this
 have hrefl : regB R o = false → ∀ x ∈ o.op.operands.toList, ExtG (st.ev x) st.o st.o := fun _ _ _ => .refl _ _
 unfold stepG at h ⊢
 simp only [ho] at h ⊢
 have fin : ∀ g O', (Cond R all (addL L i) j (st.put o.dst v st.o) O' ∧ N ((st.put o.dst v st.o).put oj.dst g O')) →
  Cond R all L j st O' ∧ ((∃ g' O2, st.put oj.dst g O' = st.put oj.dst g' O2 ∧ (regB R o = false → ∀ x ∈ o.op.operands.toList, ExtG (st.ev x) st.o O2)) ∧ N ((st.put oj.dst g O').put o.dst v (st.put oj.dst g O').o)) := by
  intro g O' ⟨q1, q2⟩;obtain ⟨c1, c2⟩ := hcond O' q1;refine ⟨c1, ⟨g, O', rfl, c2⟩, ?_⟩;rw [GSt.put_o, ← put_comm h2]; exact q2
 split at h
 · exact opv_mono fin (hex _ h)
 · rename_i k want hg;split at h
   · rename_i d hd;have hlook : d ∈ looks all oj := by simp [looks, hg, hd]
     rw [hs d hlook] at h;split at h
     · refine ⟨fun e => opv_mono fin (hex _ (h.1 e)), fun e => ?_⟩;have := h.2 e;rw [GSt.put_o] at this;refine ⟨⟨.lit (.tuple #[]), st.o, rfl, hrefl⟩, ?_⟩;rw [GSt.put_o, ← put_comm h2]; exact this
     · rw [GSt.put_o] at h;refine ⟨⟨.lit (.tuple #[]), st.o, rfl, hrefl⟩, ?_⟩;rw [GSt.put_o, ← put_comm h2]; exact h
     · exact h.elim
   · exact h.elim
theorem apartB_spec {all : List Oper} {x y : Oper} (h : apartB all x y = true) : (∀ d, x.dst = some d → d ∉ looks all y) ∧ (∀ d, x.dst = some d → y.dst ≠ some d) ∧ (∀ d, y.dst = some d → d ∉ looks all x) := by
 refine ⟨fun d hd => ?_, fun d hd => ?_, fun d hd => ?_⟩ <;> simp [apartB, hd] at h
 · exact h.1.1
 · exact h.1.2
 · exact h.2
theorem qfirst {all : List Oper} {K : GSt → Prop} (hS : Sound R all) {i : Nat} {o : Oper} (ho : all[i]? = some o) (hq : quietB R o = true) : ∀ (f : Nat) (L : Nat → Bool) (st : GSt), Closed all L → readyF all L i = true →
 stepG P R all L i st (GA P R all K f (addL L i)) → GA P R all K (f + 1) L st := by
 intro f
 induction f with
 | zero =>
  intro L st hc hr h;refine ⟨⟨i, hr⟩, fun j hj => ?_⟩;by_cases hji : j = i
  · subst hji; exact h
  · obtain ⟨v, hN, _⟩ := quiet_step ho hq h;have := hN.1 j;rw [readyF_add hj hji] at this; cases this
 | succ f ih =>
  intro L st hc hr h;refine ⟨⟨i, hr⟩, fun j hj => ?_⟩;by_cases hji : j = i
  · subst hji; exact h
  · obtain ⟨v, hN, hY⟩ := quiet_step ho hq h;have hinc := ready_incomparable hS.lt hc hr hj hji;cases hoj : all[j]? with
    | none => unfold readyF at hj; simp [hoj] at hj
    | some oj =>
     have hap := (hS.apart i j o oj ho hoj).resolve_left (by rw [hinc]; simp);obtain ⟨a1, a2, a3⟩ := apartB_spec hap;have hs := congr_step hS ho hoj hc hr hj hji a1 a2 (hN.2 j (readyF_add hj hji));refine stepG_mono (fun st' hst' => ?_) hs;obtain ⟨⟨g, O', rfl, hext⟩, hg⟩ := hst';refine ih (addL L j) _ (hc.add hj) (readyF_add hr (Ne.symm hji)) ?_;refine hY _ _ ⟨fun d hd => ?_, fun hreg x hx => by rw [GSt.put_o]; exact hext hreg x hx⟩ _ ?_
     · cases hdj : oj.dst with
       | none => rfl
       | some e => exact sget_set_ne (fun he => a3 e hdj (he ▸ hd))
     · rw [addL_comm]; exact hg
theorem names_const (st : GSt) (v : Value) : names (st.ev (.const v)) = [] := by
 show names (GVal.ofConst v) = []
 unfold GVal.ofConst
 split <;> rfl
theorem order_sound {all : List Oper} {K : GSt → Prop} (hS : Sound R all) : ∀ (order : List (Nat × Nat)) (L : List Nat) (st : GSt), Closed all (fun k => L.contains k) → orderOk R all (masks all []) order L = true → ordv P R all order K st →
 GA P R all K order.length (fun k => L.contains k) st
 | [], L, st, hc, hok, hk => by
  refine ⟨fun j => ?_, hk⟩;unfold readyF;split
  · rename_i o ho;have hjl : j < all.length := (List.getElem?_eq_some_iff.1 ho).1;have := List.all_eq_true.1 hok j (List.mem_range.2 hjl);simp only [this, Bool.not_true, Bool.false_and]
  · rfl
 | (i, k) :: r, L, st, hc, hok, hk => by
  simp only [orderOk, Bool.and_eq_true] at hok;obtain ⟨⟨hr, hkind⟩, hrest⟩ := hok;have hrF : readyF all (fun k => L.contains k) i = true := hr;have hadd : addL (fun k => L.contains k) i = fun k => (i :: L).contains k := by
   funext x; simp only [addL, List.contains_cons]
  cases ho : all[i]? with
  | none => simp [ho] at hkind
  | some o =>
   simp only [ho] at hkind;have hc' : Closed all (fun k => (i :: L).contains k) := by rw [← hadd]; exact hc.add hrF
   have ih : ∀ st', ordv P R all r K st' → GA P R all K r.length (addL (fun k => L.contains k) i) st' := fun st' h => by
    rw [hadd]; exact order_sound hS r (i :: L) st' hc' hrest h
   have hcond : ∀ (J : GVal → List GObj → Prop), opv P R st o (fun g O' => drawC k st.s st.o O' (J g O')) →
    opv P R st o (fun g O' => Cond R all (fun k => L.contains k) i st O' ∧ J g O') := by
    intro J h;by_cases h0 : k = 0
    · subst h0;simp only [if_true] at hkind;obtain ⟨v, h1, h2⟩ := opv_quiet hkind h;exact h2 st (fun x _ => rfl) (fun _ _ _ => .refl _ _) _ ⟨.refl _ _ _ _ _, h1.2⟩
    · rw [if_neg h0] at hkind;simp only [Bool.and_eq_true, Bool.or_eq_true, beq_iff_eq] at hkind;refine opv_mono (fun g O' hg => ⟨fun m om hm hmi hcm hreg _ x hx => ?_, hg.2⟩) h;have hml : m < all.length := (List.getElem?_eq_some_iff.1 hm).1
      match k, hkind.2, hg.1 with
      | 0, _, _ => exact absurd rfl h0
      | 1, h2, _ =>
       have h2 : apartAll R all (masks all []) i = true := by simpa using h2
       have := List.all_eq_true.1 h2 m (List.mem_range.2 hml);simp [hcm, hm, hreg] at this
      | 2, _, hk2 =>
       obtain ⟨new, he⟩ := hk2;refine ExtO.g (fun m x hx hxc => ?_) _;have hx := bare_get hx hxc;refine bare_get' ?_ hxc;rw [he, List.getElem?_append_left (List.getElem?_eq_some_iff.1 hx).1]; exact hx
      | t + 3, h2, hk3 =>
       have h2 : apartT R all (masks all []) i t = true := by simpa using h2
       have := List.all_eq_true.1 h2 m (List.mem_range.2 hml);simp only [hcm, hm, hreg, Bool.false_or] at this;have := List.all_eq_true.1 this x hx;cases x with
       | tmp u =>
        have e : u = t := by simpa using this
        subst e;exact keepT.g hk3
       | const v => intro q hq; rw [names_const] at hq; cases hq
       | _ => simp at this
   have hstep : stepG P R all (fun k => L.contains k) i st (GA P R all K r.length (addL (fun k => L.contains k) i)) := by
    unfold ordv at hk;unfold stepG;simp only [ho] at hk ⊢;split at hk
    · exact opv_mono (fun g O' hg => ⟨hg.1, ih _ hg.2⟩) (hcond _ hk)
    · rename_i j want hg;split at hk
      · rename_i d hd;split at hk
        · rename_i b hb;have hlt : d < st.s.length := by
           rcases Nat.lt_or_ge d st.s.length with h | h
           · exact h
           · simp [sget, List.getD, List.getElem?_eq_none h] at hb
          rw [gcase] at hk;refine ⟨fun e => ?_, fun e => ?_⟩
          · have hk1 := hk.1 e;rw [GSt.setS_self hlt (by rw [← e]; exact hb)] at hk1;exact opv_mono (fun g O' hg => ⟨hg.1, ih _ hg.2⟩) (hcond _ hk1)
          · have hk2 := hk.2 e;rw [GSt.setS_self hlt (by rw [← e]; exact hb)] at hk2;exact ih _ hk2
        · exact ih _ hk
        · exact hk.elim
      · exact hk.elim
   by_cases h0 : k = 0
   · subst h0;simp only [if_true] at hkind;exact qfirst hS ho hkind r.length _ st hc hrF hstep
   · rw [if_neg h0] at hkind;simp only [Bool.and_eq_true] at hkind;refine ⟨⟨i, hrF⟩, fun j hj => ?_⟩;have hjl : j < all.length := by
      unfold readyF at hj;split at hj
      · rename_i o' ho'; exact (List.getElem?_eq_some_iff.1 ho').1
      · cases hj
     have := List.all_eq_true.1 hkind.1 j (List.mem_range.2 hjl);simp only [Bool.or_eq_true, beq_iff_eq, Bool.not_eq_true'] at this;rcases this with e | e
     · subst e; exact hstep
     · have hj' : readyB all L j = true := hj;rw [hj'] at e; cases e
theorem GA_sound {all : List Oper} {K : GSt → Prop} {QQ : Exit → Act → World → Prop} : ∀ (f : Nat) (L : Nat → Bool) (st : GSt) (listed : Array Bool) (E : Env) (a : Act) (w : World), HSim E st.o w → SlotsR E a st.s →
 (listed.size = all.length ∧ ∀ j, listed.getD j false = L j) → GA P R all K f L st →
 (∀ st' E' a' w', HSim E' st'.o w' → Keep E st.o w E' st'.o w' → SlotsR E' a' st'.s → K st' → QQ .normal a' w') → wpAny P .any all.toArray QQ f listed a w := by
 intro f
 have hready : ∀ (L : Nat → Bool) (listed : Array Bool), (listed.size = all.length ∧ ∀ j, listed.getD j false = L j) → ∀ j, j ∈ Region.ready .any all.toArray listed ↔ readyF all L j = true := by
  intro L listed hl j;rw [mem_ready];unfold readyF;constructor
  · rintro ⟨h1, oj, h2, h3⟩;have h2' : all[j]? = some oj := by simpa using h2
    have hj : j < listed.size := by rw [hl.1]; exact (List.getElem?_eq_some_iff.1 h2').1
    have h1' : L j = false := by rw [← hl.2 j]; simp [Array.getD, hj] at h1 ⊢; exact h1
    simp only [h2', h1', Bool.not_false, Bool.true_and, List.all_eq_true];intro x hx;simp only [deps, List.mem_filterMap] at hx;obtain ⟨e, he, hx⟩ := hx;split at hx
    · rename_i hb; cases hx
      rw [← hl.2]; exact h3 e (by simpa using he) hb
    · cases hx
  · intro h;split at h
    · rename_i oj h2;simp only [Bool.and_eq_true, Bool.not_eq_true', List.all_eq_true] at h;have hj : j < listed.size := by rw [hl.1]; exact (List.getElem?_eq_some_iff.1 h2).1
      refine ⟨?_, oj, by simpa using h2, fun e he hb => ?_⟩
      · have := hl.2 j; rw [h.1] at this; simp [Array.getD, hj] at this ⊢; exact this
      · rw [hl.2];refine h.2 _ ?_;simp only [deps, List.mem_filterMap];exact ⟨e, by simpa using he, by rw [if_pos hb]⟩
    · cases h
 induction f with
 | zero =>
  intro L st listed E a w h ha hl hg hq;refine ⟨?_, hq st E a w h (.refl _ _ _) ha hg.2⟩;rcases hr : Region.ready .any all.toArray listed with _ | ⟨x, r⟩
  · rfl
  · have := (hready L listed hl x).1 (by rw [hr]; simp);rw [hg.1 x] at this; cases this
 | succ f ih =>
  intro L st listed E a w h ha hl hg hq;obtain ⟨⟨j0, hj0⟩, hall⟩ := hg;refine ⟨fun hr => ?_, fun i hi => ?_⟩
  · have := (hready L listed hl j0).2 hj0;rw [hr] at this; cases this
  · have hrF := (hready L listed hl i).1 hi;have hs := hall i hrF;unfold stepG at hs;unfold wpOp;cases ho : all[i]? with
    | none => simp [ho] at hs
    | some o =>
     simp only [ho] at hs;have ho' : all.toArray[i]? = some o := by simpa using ho
     simp only [ho'];have hil : i < listed.size := by rw [hl.1]; exact (List.getElem?_eq_some_iff.1 ho).1
     have hl' : (listed.setIfInBounds i true).size = all.length ∧ ∀ j, (listed.setIfInBounds i true).getD j false = addL L i j := by
      refine ⟨by simp [hl.1], fun j => ?_⟩;by_cases hji : j = i
      · subst hji; simp [addL, Array.getD, hil]
      · rw [getD_set_ne false (Ne.symm hji), hl.2]; simp [addL, hji]
     have exec : opv P R st o (fun g O' => Cond R all L i st O' ∧ GA P R all K f (addL L i) (st.put o.dst g O')) →
      o.wp P a w (wpAny P .any all.toArray QQ f (listed.setIfInBounds i true)) QQ := by
      intro hk;refine op_sound h ha hk (fun v w' E' O' g h1 h2 h3 h4 => ?_);refine ih (addL L i) (st.put o.dst g O') _ E' _ w' (by rw [GSt.put_o]; exact h1) (ha.put h2.ext h3 O') hl' h4.2 (fun st' E2 a' w2 g1 g2 g3 g4 => hq st' E2 a' w2 g1 ?_ g3 g4);rw [GSt.put_o] at g2;exact h2.trans g2
     split at hs
     · rename_i hg;rw [if_pos (by simp [Region.wanted, hg])];exact .inl (exec hs)
     · rename_i j want hg;split at hs
       · rename_i d hd;split at hs
         · rename_i b hb;obtain ⟨hy, hlt⟩ := yielded_eq ha hd hb;by_cases hw : b = want
           · subst hw;rw [if_pos (by simp [Region.wanted, hg, hy])];exact .inl (exec (hs.1 rfl))
           · have hw2 : b = !want := by cases b <;> cases want <;> simp_all
             subst hw2;rw [if_neg (by simp only [Region.wanted, hg, hy]; cases want <;> simp)];have hk2 := hs.2 rfl;refine ih (addL L i) (st.put o.dst (.lit (.tuple #[])) st.o) _ E _ w (by rw [GSt.put_o]; exact h) (ha.put (.refl _) (.lit _) _) hl' hk2 (fun st' E2 a' w2 g1 g2 g3 g4 => hq st' E2 a' w2 g1 ?_ g3 g4);rw [GSt.put_o] at g2; exact g2
         · rename_i v hb;rw [if_neg (by simp [Region.wanted, hg, yielded_none ha hd hb])];refine ih (addL L i) (st.put o.dst (.lit (.tuple #[])) st.o) _ E _ w (by rw [GSt.put_o]; exact h) (ha.put (.refl _) (.lit _) _) hl' hs (fun st' E2 a' w2 g1 g2 g3 g4 => hq st' E2 a' w2 g1 ?_ g3 g4);rw [GSt.put_o] at g2; exact g2
         · exact hs.elim
       · exact hs.elim
theorem drawOk_sound {all : List Oper} {order : List (Nat × Nat)} (h : drawOk R all order = true) : Sound R all ∧ orderOk R all (masks all []) order [] = true ∧ order.length = all.length := by
 unfold drawOk at h
 simp only [Bool.and_eq_true, beq_iff_eq] at h
 obtain ⟨⟨⟨h1, h2⟩, h3⟩, h4⟩ := h
 have hi : ∀ i o, all[i]? = some o → _ := fun i o ho => by
  have := List.all_eq_true.1 h1 i (List.mem_range.2 (List.getElem?_eq_some_iff.1 ho).1);simp only [ho, Bool.and_eq_true] at this;exact this
 refine ⟨⟨fun i o ho j hj => ?_, fun i o j want ho hg => ?_, fun k i ok oi d hk hi' hreg hd hx => ?_, fun i j o o' ho ho' => ?_⟩, h2, h3⟩
 · have := List.all_eq_true.1 (hi i o ho).1.1 j hj
   simpa using this
 · have := (hi i o ho).1.2
   simpa [hg] using this
 · have q1 := List.all_eq_true.1 h4 k (List.mem_range.2 (List.getElem?_eq_some_iff.1 hk).1);simp only [hk, hreg, Bool.false_or] at q1;have q2 := List.all_eq_true.1 q1 i (List.mem_range.2 (List.getElem?_eq_some_iff.1 hi').1);simp only [hi', hd] at q2;have q3 := List.all_eq_true.1 q2 _ hx
   simpa using q3
 · have := List.all_eq_true.1 (hi i o ho).2 j (List.mem_range.2 (List.getElem?_eq_some_iff.1 ho').1)
   simpa [ho'] using this
theorem draw_sound {all : List Oper} {order : List (Nat × Nat)} {K : GSt → Prop} {QQ : Exit → Act → World → Prop} (hmix : P.follows .mixedOrders = true) (hok : drawOk R all order = true) (id : Nat) (st : GSt) (E : Env) (a : Act) (w : World) (h : HSim E st.o w) (ha : SlotsR E a st.s)
 (hk : ordv P R all order K st)
 (hq : ∀ st' E' a' w', HSim E' st'.o w' → Keep E st.o w E' st'.o w' → SlotsR E' a' st'.s → K st' → QQ .normal a' w') : (Code.region id all.toArray true).wp P QQ a w := by
 obtain ⟨hS, hord, hlen⟩ := drawOk_sound hok
 have hga := order_sound (P := P) (K := K) hS order [] st ⟨fun i o _ hL => by simp at hL⟩ hord hk
 refine wp_region_any hmix ?_
 have := GA_sound (QQ := QQ) order.length (fun k => ([] : List Nat).contains k) st (Array.replicate all.toArray.size false) E a { w with drawn := w.drawn + 1 } (h.of_heap rfl) ha ⟨by simp, fun j => by simp [Array.getD]⟩ hga
  (fun st' E' a' w' h1 h2 h3 h4 => hq st' E' a' w' h1 ((Keep.of_heap (E := E) (O := st.o) (w := w) (w' := { w with drawn := w.drawn + 1 }) rfl rfl rfl).trans h2) h3 h4)
 rw [hlen] at this
 simpa using this
end
end Gv
namespace Gv
open Go
inductive Ex where
 | normal
 | exit (n : Nat)
 | ret
def ExR : Exit → Ex → Prop
 | .normal, .normal => True
 | .exit n, .exit m => n = m
 | .ret, .ret => True
 | _, _ => False
def opsv (P : Program) (R : List Nat) (all : List Oper) : List Oper → (GSt → Prop) → GSt → Prop
 | [], K, st => K st
 | o :: r, K, st => match o.guard with
  | none => opv P R st o (fun g O' => opsv P R all r K (st.put o.dst g O'))
  | some (j, want) => match slotOf all j with
   | some d => match sget st.s d with
    | .bool b => if b = want then (b = want → opv P R (st.setS d (.bool want)) o (fun g O' => opsv P R all r K ((st.setS d (.bool want)).put o.dst g O'))) else
     (b = (!want) → opsv P R all r K ((st.setS d (.bool (!want))).put o.dst (.lit (.tuple #[])) st.o))
    | .lit (.tuple _) => opsv P R all r K (st.put o.dst (.lit (.tuple #[])) st.o)
    | _ => False
   | none => False
structure Cfg where
 ro : List Nat
 ord : List (Nat × List (Nat × Nat))
def ordFind : List (Nat × List (Nat × Nat)) → Nat → List (Nat × Nat)
 | [], _ => []
 | (j, l) :: r, id => if j = id then l else ordFind r id
def Cfg.of (C : Cfg) (id : Nat) : List (Nat × Nat) := ordFind C.ord id
def codeOk (C : Cfg) : Code → Bool
 | .region id ops true => drawOk C.ro ops.toList (C.of id)
 | .seq a b => codeOk C a && codeOk C b
 | .cond _ a b => codeOk C a && codeOk C b
 | .block _ a => codeOk C a
 | .loop a => codeOk C a
 | _ => true
def Into (st : GSt) (N : GSt → Prop) : Prop :=
 ∀ E a w, HSim E st.o w → SlotsR E a st.s → ∃ st' E', N st' ∧ HSim E' st'.o w ∧ Keep E st.o w E' st'.o w ∧ SlotsR E' a st'.s
def thenQ (N : GSt → Prop) (Q : Ex → GSt → Prop) : Ex → GSt → Prop
 | .normal, st => N st
 | e, st => Q e st
def blockQ (id : Nat) (Q : Ex → GSt → Prop) : Ex → GSt → Prop
 | .exit n, st => if n = id then Q .normal st else Q (.exit n) st
 | e, st => Q e st
def vc (P : Program) (C : Cfg) : Code → (Ex → GSt → Prop) → GSt → Prop
 | .skip, Q, st => Q .normal st
 | .region id ops draw, Q, st => match draw with
  | false => opsv P C.ro ops.toList ops.toList (Q .normal) st
  | true => ordv P C.ro ops.toList (C.of id) (Q .normal) st
 | .seq a b, Q, st => vc P C a (thenQ (vc P C b Q) Q) st
 | .cond c a b, Q, st => match st.ev c with
  | .bool t => if t = true then (t = true → vc P C a Q st) else (t = false → vc P C b Q st)
  | .ubool => vc P C a Q st ∧ vc P C b Q st
  | _ => False
 | .block id a, Q, st => vc P C a (blockQ id Q) st
 | .loop a, Q, st => ∃ (ι : Type) (I : ι → GSt) (μ : ι → Nat), Into st (fun s => ∃ i, s = I i) ∧ ∀ i, vc P C a (thenQ (fun st' => Into st' (fun s => ∃ j, s = I j ∧ μ j < μ i)) Q) (I i)
 | .exit n, Q, st => Q (.exit n) st
 | .ret, Q, st => Q .ret st
 | _, _, _ => False
section
variable (P : Program) (C : Cfg) (Q : Ex → GSt → Prop) (st : GSt)
theorem vc_ops (id : Nat) (ops : Array Oper) : vc P C (.region id ops false) Q st = opsv P C.ro ops.toList ops.toList (Q .normal) st := by rw [vc]
theorem vc_draw (id : Nat) (ops : Array Oper) : vc P C (.region id ops true) Q st = ordv P C.ro ops.toList (C.of id) (Q .normal) st := by rw [vc]
end
def Post (E : Env) (O : List GObj) (w : World) (Q : Ex → GSt → Prop) (e : Exit) (a' : Act) (w' : World) : Prop :=
 ∃ ex st' E', ExR e ex ∧ HSim E' st'.o w' ∧ Keep E O w E' st'.o w' ∧ SlotsR E' a' st'.s ∧ Q ex st'
section
variable {P : Program} {R : List Nat}
theorem opsv_sound {all : List Oper} {K : GSt → Prop} {QQ : Exit → Act → World → Prop} : ∀ (ops : List Oper) (st : GSt) (E : Env) (a : Act) (w : World), HSim E st.o w → SlotsR E a st.s → opsv P R all ops K st →
 (∀ st' E' a' w', HSim E' st'.o w' → Keep E st.o w E' st'.o w' → SlotsR E' a' st'.s → K st' → QQ .normal a' w') → wpList P all.toArray QQ ops a w
 | [], st, E, a, w, h, ha, hk, hq => hq st E a w h (.refl _ _ _) ha hk
 | o :: r, st, E, a, w, h, ha, hk, hq => by
  have exec : ∀ st1 : GSt, st1 = st → opv P R st1 o (fun g O' => opsv P R all r K (st1.put o.dst g O')) → o.wp P a w (wpList P all.toArray QQ r) QQ := by
   intro st1 e hk1;subst e;refine op_sound h ha hk1 (fun v w' E' O' g h1 h2 h3 h4 => ?_);refine opsv_sound r (st1.put o.dst g O') E' _ w' (by rw [GSt.put_o]; exact h1) (ha.put h2.ext h3 O') h4 (fun st' E2 a' w2 g1 g2 g3 g4 => hq st' E2 a' w2 g1 ?_ g3 g4);rw [GSt.put_o] at g2;exact h2.trans g2
  unfold opsv at hk;split at hk
  · rename_i hg;refine wpList_plain hg (fun K' hK' => ?_);exact Oper.wp_mono (fun a w h => hK' a w h) (exec st rfl hk)
  · rename_i j want hg;split at hk
    · rename_i d hd;split at hk
      · rename_i b hb;obtain ⟨hy, hlt⟩ := yielded_eq ha hd hb;rw [gcase] at hk;refine wpList_step (fun K' hK' => ?_);by_cases hw : b = want
        · subst hw;have hwant : Region.wanted o (yielded all.toArray a.tmps) = true := by simp [Region.wanted, hg, hy]
          rw [if_pos hwant];exact Oper.wp_mono (fun a w h => hK' a w h) (exec _ (GSt.setS_self hlt hb) (hk.1 rfl))
        · have hw2 : b = !want := by cases b <;> cases want <;> simp_all
          subst hw2;have hwant : ¬ Region.wanted o (yielded all.toArray a.tmps) = true := by
           simp only [Region.wanted, hg, hy];cases want <;> simp
          rw [if_neg hwant];have e : st.setS d (.bool !want) = st := GSt.setS_self hlt hb;have hk2 := hk.2 rfl;rw [e] at hk2;refine hK' _ _ (opsv_sound r (st.put o.dst (.lit (.tuple #[])) st.o) E _ w (by rw [GSt.put_o]; exact h) (ha.put (.refl _) (.lit _) _) hk2 (fun st' E2 a' w2 g1 g2 g3 g4 => hq st' E2 a' w2 g1 ?_ g3 g4));rw [GSt.put_o] at g2; exact g2
      · rename_i v hb;have hnot : ¬ Region.wanted o (yielded all.toArray a.tmps) = true := by simp [Region.wanted, hg, yielded_none ha hd hb]
        refine wpList_step (fun K' hK' => ?_);rw [if_neg hnot];refine hK' _ _ (opsv_sound r (st.put o.dst (.lit (.tuple #[])) st.o) E _ w (by rw [GSt.put_o]; exact h) (ha.put (.refl _) (.lit _) _) hk (fun st' E2 a' w2 g1 g2 g3 g4 => hq st' E2 a' w2 g1 ?_ g3 g4));rw [GSt.put_o] at g2; exact g2
      · exact hk.elim
    · exact hk.elim
theorem vc_sound {C : Cfg} (hmix : P.follows .mixedOrders = true) : ∀ (c : Code) (Q : Ex → GSt → Prop) (st : GSt) (E : Env) (a : Act) (w : World), codeOk C c = true → HSim E st.o w → SlotsR E a st.s → vc P C c Q st →
    c.wp P (Post E st.o w Q) a w
  | .skip, Q, st, E, a, w, hcok, h, ha, hk => wp_skip ⟨.normal, st, E, trivial, h, .refl _ _ _, ha, by rw [vc] at hk; exact hk⟩
  | .region id ops draw, Q, st, E, a, w, hcok, h, ha, hk => by
    have hq : ∀ st' E' a' w', HSim E' st'.o w' → Keep E st.o w E' st'.o w' → SlotsR E' a' st'.s → Q .normal st' → Post E st.o w Q .normal a' w' :=
      fun st' E' a' w' h1 h2 h3 h4 => ⟨.normal, st', E', trivial, h1, h2, h3, h4⟩
    have e : ops = ops.toList.toArray := by simp
    cases draw with
    | false =>
      rw [vc] at hk;refine wp_region_list ?_;have := opsv_sound (QQ := Post E st.o w Q) ops.toList st E a w h ha hk hq
      rwa [← e] at this
    | true =>
      rw [vc] at hk;have := draw_sound (QQ := Post E st.o w Q) hmix (by simpa [codeOk] using hcok) id st E a w h ha hk hq
      rwa [← e] at this
  | .seq x y, Q, st, E, a, w, hcok, h, ha, hk => by
    rw [vc] at hk;simp only [codeOk, Bool.and_eq_true] at hcok;refine wp_seq (wp_mono (vc_sound hmix x _ st E a w hcok.1 h ha hk) ?_);rintro e a' w' ⟨ex, st', E', hx, h1, h2, h3, h4⟩;cases e <;> cases ex <;> first
      | exact hx.elim
      | (refine wp_mono (vc_sound hmix y _ st' E' a' w' hcok.2 h1 h3 h4) ?_
         rintro e2 a2 w2 ⟨ex2, st2, E2, g0, g1, g2, g3, g4⟩;exact ⟨ex2, st2, E2, g0, g1, h2.trans g2, g3, g4⟩)
      | exact ⟨_, st', E', hx, h1, h2, h3, h4⟩
  | .cond c x y, Q, st, E, a, w, hcok, h, ha, hk => by
    rw [vc] at hk;simp only [codeOk, Bool.and_eq_true] at hcok;have hc := ha.ev c;split at hk
    · rename_i t hce;rw [hce] at hc;rw [gcase1] at hk;generalize hcv : a.eval c = cv at hc;cases hc;refine wp_cond_split hcv (fun e => ?_) (fun e => ?_)
      · exact vc_sound hmix x Q st E a w hcok.1 h ha (hk.1 e)
      · exact vc_sound hmix y Q st E a w hcok.2 h ha (hk.2 e)
    · rename_i hce;rw [hce] at hc;generalize hcv : a.eval c = cv at hc;cases hc;refine wp_cond_split hcv (fun e => ?_) (fun e => ?_)
      · exact vc_sound hmix x Q st E a w hcok.1 h ha hk.1
      · exact vc_sound hmix y Q st E a w hcok.2 h ha hk.2
    · exact hk.elim
  | .block id x, Q, st, E, a, w, hcok, h, ha, hk => by
    rw [vc] at hk;refine wp_block (wp_mono (vc_sound hmix x _ st E a w (by simpa [codeOk] using hcok) h ha hk) ?_);rintro e a' w' ⟨ex, st', E', hx, h1, h2, h3, h4⟩;cases e with
    | exit n =>
      cases ex with
      | exit m =>
        have hx' : n = m := hx;subst hx';simp only [Exit.inBlock];simp only [blockQ] at h4;split
        · rename_i e; rw [if_pos e] at h4; exact ⟨.normal, st', E', trivial, h1, h2, h3, h4⟩
        · rename_i e; rw [if_neg e] at h4; exact ⟨.exit n, st', E', rfl, h1, h2, h3, h4⟩
      | _ => exact hx.elim
    | _ => cases ex <;> first | exact hx.elim | exact ⟨_, st', E', hx, h1, h2, h3, h4⟩
  | .loop x, Q, st, E, a, w, hcok, h, ha, hk => by
    rw [vc] at hk;obtain ⟨ι, I, μ, hw0, hround⟩ := hk;obtain ⟨_, E0, ⟨i0, rfl⟩, h0, k0, s0⟩ := hw0 E a w h ha;refine wp_loop_ghost (fun n a' w' => ∃ i E', μ i = n ∧ HSim E' (I i).o w' ∧ Keep E st.o w E' (I i).o w' ∧ SlotsR E' a' (I i).s) (μ i0) ⟨i0, E0, rfl, h0, k0, s0⟩ ?_;rintro n a1 w1 ⟨i, E1, rfl, h1, k1, s1⟩;refine wp_mono (vc_sound hmix x _ (I i) E1 a1 w1 (by simpa [codeOk] using hcok) h1 s1 (hround i)) ?_;rintro e a' w' ⟨ex, st', E', hx, g1, g2, g3, g4⟩;cases e <;> cases ex <;> first
      | exact hx.elim
      | (obtain ⟨_, E2, ⟨j, rfl, hlt⟩, q1, q2, q3⟩ := g4 E' a' w' g1 g3
         exact ⟨μ j, hlt, j, E2, rfl, q1, (k1.trans g2).trans q2, q3⟩)
      | exact ⟨_, st', E', hx, g1, k1.trans g2, g3, g4⟩
  | .exit n, Q, st, E, a, w, hcok, h, ha, hk => wp_exit ⟨.exit n, st, E, rfl, h, .refl _ _ _, ha, by rw [vc] at hk; exact hk⟩
  | .ret, Q, st, E, a, w, hcok, h, ha, hk => wp_ret ⟨.ret, st, E, trivial, h, .refl _ _ _, ha, by rw [vc] at hk; exact hk⟩
  | .rangeFunc .., Q, st, E, a, w, hcok, h, ha, hk => by simp [vc] at hk
  | .goto .., Q, st, E, a, w, hcok, h, ha, hk => by simp [vc] at hk
  | .label .., Q, st, E, a, w, hcok, h, ha, hk => by simp [vc] at hk
  | .scope .., Q, st, E, a, w, hcok, h, ha, hk => by simp [vc] at hk
  | .refuse .., Q, st, E, a, w, hcok, h, ha, hk => by simp [vc] at hk
def resV (P : Program) (st : GSt) : List ResultVar → (List GVal → Prop) → Prop
 | [], K => K []
 | .tmp t :: r, K => resV P st r (fun gs => K (sget st.s t :: gs))
 | .cell a t :: r, K => loadV P t (sget st.s a) st.o (fun g => resV P st r (fun gs => K (g :: gs)))
def resG : List GVal → GVal
 | [g] => g
 | gs => .tuple gs
def resOne (a : Act) : ResultVar → Sem Value
 | .tmp t => pure (a.tmps.getD t undef)
 | .cell x t => do loadVar t (← asAddr (a.tmps.getD x undef))
theorem res_sound {E : Env} {a : Act} {w : World} {st : GSt} (h : HSim E st.o w) (ha : SlotsR E a st.s) : ∀ (rs : List ResultVar) (K : List GVal → Prop), resV P st rs K →
 ∃ vs gs, (rs.mapM (resOne a)).run P w = .ok vs w ∧ vs.length = gs.length ∧
  (∀ (i : Nat) g, gs[i]? = some g → ∃ v, vs[i]? = some v ∧ VR E v g) ∧ K gs
 | [], K, hk => ⟨[], [], by simp, rfl, by simp, hk⟩
 | .tmp t :: r, K, hk => by
  obtain ⟨vs, gs, h1, h2, h3, h4⟩ := res_sound h ha r _ hk;refine ⟨a.tmps.getD t undef :: vs, sget st.s t :: gs, ?_, by simp [h2], fun i g hg => ?_, h4⟩
  · simp only [List.mapM_cons, Sem.run_bind, resOne, Sem.run_pure, Result.andThen_ok, h1]
  · cases i with
    | zero => simp only [List.getElem?_cons_zero, Option.some.injEq] at hg; subst hg; exact ⟨_, rfl, ha.ev (.tmp t)⟩
    | succ i => simp only [List.getElem?_cons_succ] at hg; obtain ⟨v, hv, hr⟩ := h3 i g hg; exact ⟨v, hv, hr⟩
 | .cell x t :: r, K, hk => by
  obtain ⟨v, g, hrun, hv, hk2⟩ := load_val h (ha.ev (.tmp x)) hk;obtain ⟨vs, gs, h1, h2, h3, h4⟩ := res_sound h ha r _ hk2;have hrun2 : (do loadVar t (← asAddr (a.tmps.getD x undef)) : Sem Value).run P w = .ok v w := by
   have hrun' : (Instr.loadAt t (a.tmps.getD x undef)).run P w = .ok v w := hrun;generalize a.tmps.getD x undef = xv at hrun' ⊢;unfold Instr.loadAt at hrun';cases xv with
   | pointer p =>
    cases p with
    | some p => simpa [Instr.sureAddr, asAddr] using hrun'
    | none => simp [Instr.sureAddr] at hrun'
   | _ => simp [Instr.sureAddr] at hrun'
  refine ⟨v :: vs, g :: gs, ?_, by simp [h2], fun i g' hg => ?_, h4⟩
  · rw [List.mapM_cons, Sem.run_bind, resOne, hrun2];simp only [Sem.run_bind, Sem.run_pure, Result.andThen_ok, h1]
  · cases i with
    | zero => simp only [List.getElem?_cons_zero, Option.some.injEq] at hg; subst hg; exact ⟨v, rfl, hv⟩
    | succ i => simp only [List.getElem?_cons_succ] at hg; obtain ⟨v', hv', hr⟩ := h3 i g' hg; exact ⟨v', hv', hr⟩
def gstart (n : Nat) (args : List GVal) (O : List GObj) : GSt := ⟨args ++ List.replicate (n - args.length) .any, O⟩
def retQ (P : Program) (rs : List ResultVar) (K : GVal → List GObj → Prop) : Ex → GSt → Prop
 | .normal, st => resV P st rs (fun gs => K (resG gs) st.o)
 | .ret, st => resV P st rs (fun gs => K (resG gs) st.o)
 | .exit _, _ => False
theorem gcalls_of_wp {f : FuncId} {fn : Func} {c : Code} {n : Nat} {rs : Array ResultVar} {args : List GVal} {O : List GObj} {K : GVal → List GObj → Prop}
 (hf : P.funcs[f]? = some fn) (hb : fn.body = some c) (hn : fn.ntmps = n) (hr : fn.results = rs) (hen : enterable P f = true) (hargs : args.length ≤ n)
 (hwp : ∀ (E : Env) (a : Act) (w : World), HSim E O w → SlotsR E a (gstart n args O).s → c.wp P (Post E O w (retQ P rs.toList K)) a w) : GCalls P f args O K := by
 refine ⟨hen, fun E w vs h ha => calls_of_wp hf hb ?_⟩
 have hsl : SlotsR E { tmps := vs ++ Array.replicate (fn.ntmps - vs.size) undef, defers := [] } (gstart n args O).s := by
  refine ⟨?_, rfl, fun i g hg => ?_⟩
  · simp [gstart, hn, ha.1]
  · simp only [gstart] at hg;by_cases hi : i < args.length
    · rw [List.getElem?_append_left hi] at hg;have := ha.2 i g hg;have e : (vs ++ Array.replicate (fn.ntmps - vs.size) undef).getD i undef = vs.getD i undef := by
       simp only [Array.getD_eq_getD_getElem?]; rw [Array.getElem?_append_left (by rw [ha.1]; exact hi)]
      show VR E ((vs ++ Array.replicate (fn.ntmps - vs.size) undef).getD i undef) g;rw [e]; exact this
    · rw [List.getElem?_append_right (by omega)] at hg;have : g = .any := by
       have := List.mem_of_getElem? hg;exact List.eq_of_mem_replicate this
      subst this; exact .any _
 refine wp_mono (hwp E _ w h hsl) ?_
 rintro e a' w' ⟨ex, st', E', hx, h1, h2, h3, h4⟩
 have fin : resV P st' rs.toList (fun gs => K (resG gs) st'.o) → a'.defers = [] ∧ ∃ v, (results fn a'.tmps).run P w' = .ok v w' ∧
  ∃ v' E' O' g, Ending.returned v = .returned v' ∧ HSim E' O' w' ∧ Keep E O w E' O' w' ∧ VR E' v' g ∧ K g O' := by
  intro hk;obtain ⟨us, gs, q1, q2, q3, q4⟩ := res_sound (P := P) h1 h3 rs.toList _ hk;have hrun : (results fn a'.tmps).run P w' = .ok (if h : us.toArray.size = 1 then us.toArray[0] else .tuple us.toArray) w' := by
   have hc : ∀ f : ResultVar → Sem Value, (∀ x, f x = resOne a' x) → (List.mapM f rs.toList).run P w' = .ok us w' := fun f hf => by rw [show f = resOne a' from funext hf]; exact q1
   unfold results;rw [hr, Array.mapM_eq_mapM_toList];simp only [Sem.run_bind, Sem.run_map, Sem.run_pure];rw [hc _ (fun x => by cases x <;> rfl)];simp only [Result.andThen_ok]
  refine ⟨h3.defers, _, hrun, _, E', st'.o, resG gs, rfl, h1, h2, ?_, q4⟩;cases us with
  | nil =>
   cases gs with
   | nil => exact .tuple _ _ rfl (by simp)
   | cons _ _ => simp at q2
  | cons u us =>
   cases gs with
   | nil => simp at q2
   | cons g gs =>
    cases us with
    | nil =>
     cases gs with
     | cons _ _ => simp at q2
     | nil =>
      obtain ⟨v, hv, hrr⟩ := q3 0 g rfl;simp at hv; subst hv;exact hrr
    | cons u2 us =>
     cases gs with
     | nil => simp at q2
     | cons g2 gs =>
      simp only [List.size_toArray, List.length_cons];rw [dif_neg (by omega)];refine .tuple _ _ (by simpa using q2) (fun j g' hj => ?_);obtain ⟨v, hv, hrr⟩ := q3 j g' hj;have e : (u :: u2 :: us).toArray.getD j (.tuple #[]) = v := by simp only [Array.getD_eq_getD_getElem?, List.getElem?_toArray, hv, Option.getD_some]
      rw [e]; exact hrr
 cases e with
 | normal => cases ex <;> first | exact hx.elim | exact fin h4
 | ret => cases ex <;> first | exact hx.elim | exact fin h4
 | exit m => cases ex <;> first | exact hx.elim | exact h4.elim
 | _ => cases ex <;> exact hx.elim
theorem gcalls_of_vc (hmix : P.follows .mixedOrders = true) {f : FuncId} {fn : Func} {c : Code} {n : Nat} {rs : Array ResultVar} (C : Cfg) {args : List GVal} {O : List GObj} {K : GVal → List GObj → Prop}
 (hf : P.funcs[f]? = some fn) (hb : fn.body = some c) (hn : fn.ntmps = n) (hr : fn.results = rs) (hen : enterable P f = true) (hargs : args.length ≤ n) (hcok : codeOk C c = true)
 (hvc : vc P C c (retQ P rs.toList K) (gstart n args O)) : GCalls P f args O K :=
 gcalls_of_wp hf hb hn hr hen hargs fun E a w h ha => vc_sound hmix c _ (gstart n args O) E a w hcok h ha hvc
end
def gs0 := ai @gstart.eq_1 <| ai @List.cons_append.{0} <| ai @List.nil_append.{0} <| ai @List.length_cons.{0} <| ai @List.length_nil.{0} <| ai @List.replicate_succ.{0} <| @List.replicate_zero.{0}
end Gv
namespace Gv
open Go
def leG : GVal → GVal → Prop
 | _, .any => True
 | .slice xs _, .slice ys .none => xs = ys
 | x, y => x = y
theorem leG.sound {E : Env} {v : Value} {x y : GVal} (h : leG x y) (hv : VR E v x) : VR E v y := by
 unfold leG at h
 split at h
 · exact .any _
 · subst h;cases hv with
   | slice a len cap _ tag sz c hlen hcap hsz ha hc ht => exact .slice a len cap _ .none sz c hlen hcap hsz ha hc trivial
 · subst h; exact hv
theorem leG_self (x : GVal) : leG x x = True := by
 unfold leG
 split <;> simp_all
theorem leG_any (x : GVal) : leG x .any = True := by unfold leG; simp
theorem leG_none (xs ys : List (List GVal)) (t : Tag) : leG (.slice xs t) (.slice ys .none) = (xs = ys) := by
 unfold leG; split <;> simp_all
theorem leG_int (k k' : IntKind) (a b : Int) : leG (.int k a) (.int k' b) = (k = k' ∧ a = b) := by unfold leG; simp
theorem leG_bool (a b : Bool) : leG (.bool a) (.bool b) = (a = b) := by unfold leG; simp
theorem leG_tok (xs ys : List (List GVal)) (t : Tag) (o st : Nat) : leG (.slice xs t) (.slice ys (.tok o st)) = (xs = ys ∧ t = .tok o st) := by unfold leG; simp
def WL : List GVal → List GVal → Prop
 | [], [] => True
 | x :: xs, y :: ys => leG x y ∧ WL xs ys
 | _, _ => False
theorem WL.len : ∀ {xs ys : List GVal}, WL xs ys → xs.length = ys.length
 | [], [], _ => rfl
 | x :: xs, y :: ys, h => by simp [WL.len h.2]
 | [], _ :: _, h => h.elim
 | _ :: _, [], h => h.elim
theorem WL.at_ : ∀ {xs ys : List GVal}, WL xs ys → ∀ (i : Nat) y, ys[i]? = some y → ∃ x, xs[i]? = some x ∧ leG x y
 | [], [], _, i, y, h => by simp at h
 | x :: xs, z :: ys, h, 0, y, hy => by simp at hy; subst hy; exact ⟨x, rfl, h.1⟩
 | x :: xs, z :: ys, h, i + 1, y, hy => by simpa using WL.at_ h.2 i y (by simpa using hy)
 | [], _ :: _, h, _, _, _ => h.elim
 | _ :: _, [], h, _, _, _ => h.elim
theorem SlotsR.weak {E : Env} {a : Act} {s s' : List GVal} (h : SlotsR E a s) (hw : WL s s') : SlotsR E a s' := by
 refine ⟨by rw [h.size, hw.len], h.defers, fun i g hg => ?_⟩
 obtain ⟨x, hx, hl⟩ := hw.at_ i g hg
 exact hl.sound (h.at_ i x hx)
theorem HSim.drop {E : Env} {O X : List GObj} {w : World} (h : HSim E (O ++ X) w) : HSim E O w ∧ Keep E (O ++ X) w E O w := by
 have up : ∀ (i : Nat) x, O[i]? = some x → (O ++ X)[i]? = some x := fun i x hx => by
  rw [List.getElem?_append_left (List.getElem?_eq_some_iff.1 hx).1]; exact hx
 refine ⟨⟨by obtain ⟨n, h1, h2⟩ := h.fin; exact ⟨n, fun c hc => h1 c (by rw [clockOf_zero] at hc ⊢; exact up 0 _ hc), h2⟩, h.sealed, h.one, fun i x hx => h.real i x (up i x hx), fun i j oi oj b hij hi hj => h.sep i j oi oj b hij (up i oi hi) (up j oj hj), h.glob⟩, ?_⟩
 exact ⟨.refl E, rfl, rfl, Nat.le_refl _, fun _ _ _ => rfl, fun _ _ _ h => .inl h, fun b ⟨i, x, hx, hb⟩ => .inl ⟨i, x, up i x hx, hb⟩, trivial⟩
section
variable {st : GSt} {N : GSt → Prop}
theorem Into.here (h : N st) : Into st N := fun E a w hs ha => ⟨st, E, h, hs, .refl _ _ _, ha⟩
theorem Into.at {ι : Type} {I : ι → GSt} {p : ι → Prop} (j : ι) (hp : p j) (ho : ∃ X, st.o = (I j).o ++ X) (hw : WL st.s (I j).s) : Into st (fun s => ∃ j, s = I j ∧ p j) := by
 intro E a w hs ha
 obtain ⟨X, hX⟩ := ho
 rw [hX] at hs
 obtain ⟨h1, h2⟩ := hs.drop
 exact ⟨I j, E, ⟨j, rfl, hp⟩, h1, by rw [hX]; exact h2, ha.weak hw⟩
theorem Into.first {ι : Type} {I : ι → GSt} (j : ι) (ho : ∃ X, st.o = (I j).o ++ X) (hw : WL st.s (I j).s) : Into st (fun s => ∃ j, s = I j) := by
 intro E a w hs ha
 obtain ⟨st', E', ⟨j', h, _⟩, h1, h2, h3⟩ := Into.at (I := I) (p := fun _ => True) j trivial ho hw E a w hs ha
 exact ⟨st', E', ⟨j', h⟩, h1, h2, h3⟩
theorem Into.tok (i sz : Nat) (xs : List (List GVal)) {tg : Tag} (hx : sget st.s i = .slice xs tg) (htg : tg.cap = .full) (h : stamp st.o fun t => Into ⟨st.s.set i (.slice xs (.tok st.o.length t)), tickO st.o ++ [.tok t sz]⟩ N) : Into st N := by
 intro E a w hs ha
 obtain ⟨t, hk, ht, hnx, hs, hkeep⟩ := hs.stamp h
 rw [← tickO_len st.o] at hk
 obtain ⟨h1, h2⟩ := hs.objNil (.tok t sz) (l := ⟨none, 0, sz, 0⟩) ht hnx rfl ⟨_, Env.addLoc_self _ _ _, rfl, trivial⟩ (by simp [GObj.blk, Env.addLoc_self])
 have ha' : SlotsR (E.addLoc t ⟨none, 0, sz, 0⟩) a (st.s.set i (.slice xs (.tok (tickO st.o).length t))) := by
  refine ⟨by simp [ha.size], ha.defers, fun k g hg => ?_⟩;rw [List.getElem?_set] at hg;by_cases hk : i = k
  · subst hk;rw [if_pos rfl] at hg;split at hg
    · rename_i hlt;simp only [Option.some.injEq] at hg;subst hg;have := ha.at_ i _ (getD_of (d := GVal.any) hlt);have hx' : st.s.getD i .any = .slice xs tg := hx;rw [hx'] at this
      revert this
      generalize a.tmps.getD i undef = tv;intro this;cases this with
      | slice a len cap xs tag sz c hlen hcap hsz ha hc htag =>
       have htag := htag.cap hcap;rw [htg] at htag;exact .slice a len cap xs _ sz c hlen hcap hsz ha (fun j g hj => (hc j g hj).mono h2.ext) ⟨_, Env.addLoc_self _ _ _, .inl htag⟩
    · cases hg
  · rw [if_neg hk] at hg;exact (ha.at_ k g hg).mono h2.ext
 obtain ⟨st', E', q1, q2, q3, q4⟩ := hk _ a w h1 ha'
 exact ⟨st', E', q1, q2, (hkeep.trans h2).trans q3, q4⟩
end
def GInto (g : GVal) (O : List GObj) (N : GVal → List GObj → Prop) : Prop :=
 ∀ E v w, HSim E O w → VR E v g → ∃ g' O' E', N g' O' ∧ HSim E' O' w ∧ Keep E O w E' O' w ∧ VR E' v g'
theorem GCalls.into {P : Program} {f : FuncId} {args : List GVal} {O : List GObj} {N : GVal → List GObj → Prop} (h : GCalls P f args O (fun g O' => GInto g O' N)) : GCalls P f args O N :=
 ⟨h.1, fun E w vs hs ha => (h.2 E w vs hs ha).mono fun e w' ⟨v, E', O', g, h1, h2, h3, h4, h5⟩ => by
  obtain ⟨g', O2, E2, q1, q2, q3, q4⟩ := h5 E' v w' h2 h4;exact ⟨v, E2, O2, g', h1, q2, h3.trans q3, q4, q1⟩⟩
theorem GInto.here {g : GVal} {O : List GObj} {N : GVal → List GObj → Prop} (h : N g O) : GInto g O N := fun E v w hs hv => ⟨g, O, E, h, hs, .refl _ _ _, hv⟩
theorem GInto.weak {g g' : GVal} {O X : List GObj} {N : GVal → List GObj → Prop} (hg : leG g g') (h : GInto g' O N) : GInto g (O ++ X) N := fun E v w hs hv => by
 obtain ⟨h1, h2⟩ := hs.drop
 obtain ⟨g2, O2, E2, q1, q2, q3, q4⟩ := h E v w h1 (hg.sound hv)
 exact ⟨g2, O2, E2, q1, q2, h2.trans q3, q4⟩
def GPure (P : Program) (f : FuncId) (args : List GVal) (r : GVal) : Prop := GCalls P f args [] (fun g O' => g = r ∧ O' = [])
theorem HSim.nil {E : Env} {O : List GObj} {w : World} (h : HSim E O w) : HSim E [] w := ⟨by obtain ⟨n, _, h2⟩ := h.fin; exact ⟨n, (fun c hc => by cases hc), h2⟩, h.sealed, h.one, fun i x hx => by simp at hx, fun i j oi oj b _ hi => by simp at hi, h.glob⟩
theorem GPure.frame {P : Program} {f : FuncId} {args : List GVal} {r : GVal} (h : GPure P f args r) (O : List GObj) (hc : clockOf O = none) : GCalls P f args O (fun g O' => g = r ∧ O' = O) := by
 refine ⟨h.1, fun E w vs hs ha => (h.2 E w vs hs.nil ha).mono ?_⟩
 rintro e w' ⟨v, E', O', g, rfl, h1, h2, h3, rfl, rfl⟩
 have hno : ∀ b, ¬ InO E [] b := fun b ⟨i, x, hx, _⟩ => by simp at hx
 have hold : ∀ b, b < w.heap.size → w'.heap[b]? = w.heap[b]? := fun b hb => h2.heap b hb (hno b)
 have hsn : ∀ b o v, b < w.heap.size → E'.snap b o = some v → E.snap b o = some v := fun b o v hb hv => by
  rcases h2.snap b o v hv with q | q | q
  · exact q
  · omega
  · exact absurd q (hno b)
 have hreal : ∀ (i : Nat) x, O[i]? = some x → Realized E' w' x := fun i x hx =>
  (hs.real i x hx).keep h2.ext (fun b hb => hold b ((hs.real i x hx).blk_lt hb)) (fun b o v hb hv => hsn b o v ((hs.real i x hx).blk_lt hb) hv)
 have hb : ∀ (i : Nat) x, O[i]? = some x → x.blk E' = x.blk E := fun i x hx => GObj.blk_mono h2.ext (hs.real i x hx)
 refine ⟨v, E', O, g, rfl, ⟨by obtain ⟨n, _, q⟩ := h1.fin; exact ⟨n, (fun c e => by rw [hc] at e; cases e), q⟩, h1.sealed, h1.one, hreal, fun i j oi oj b hij hi hj hbi hbj => ?_, h1.glob⟩, ⟨h2.ext, h2.os, h2.out, h2.size, fun b hb _ => hold b hb, fun b o v hv => ?_, fun b ⟨i, x, hx, hbx⟩ => .inl ⟨i, x, hx, by rw [← hb i x hx]; exact hbx⟩, h2.frz⟩, h3, rfl, rfl⟩
 · rw [hb i oi hi] at hbi;rw [hb j oj hj] at hbj;exact hs.sep i j oi oj b hij hi hj hbi hbj
 · rcases h2.snap b o v hv with q | q | q
   · exact .inl q
   · exact .inr (.inl q)
   · exact absurd q (hno b)
theorem GPure.then {P : Program} {f : FuncId} {args : List GVal} {r : GVal} (h : GPure P f args r) {O : List GObj} {K : GVal → List GObj → Prop} (hk : K r O) (hc : clockOf O = none := by rfl) : GCalls P f args O K :=
 (h.frame O hc).mono fun g O' ⟨e1, e2⟩ => by subst e1; subst e2; exact hk
def ints (l : List Int) : List (List GVal) := l.map fun n => [.int .i64 n]
theorem ints_length (l : List Int) : (ints l).length = l.length := by simp [ints]
theorem ints_at (l : List Int) (i : Nat) (h : i < l.length) : (ints l).getD i [] = [.int .i64 (l.getD i 0)] := by
 simp [ints, List.getD, h]
theorem ints_append (a b : List Int) : ints (a ++ b) = ints a ++ ints b := by simp [ints]
theorem ints_nil : ints [] = [] := rfl
theorem ints_one (n : Int) : ints [n] = [[.int .i64 n]] := rfl
end Gv
