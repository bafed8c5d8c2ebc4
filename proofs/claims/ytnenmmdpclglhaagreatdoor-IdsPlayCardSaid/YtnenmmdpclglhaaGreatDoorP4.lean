import Derived.Test.YtnenmmdpclglhaaGreatDoorP3
import Derived.Tactics
import Derived.Deep.LoopGhost
import Derived.LoopN
set_option linter.defProp false
set_option linter.unusedVariables false
namespace Gv
open Go
def QcO (all : List Oper) (j : Nat) : Option Nat :=
 match all[j]? with
 | some o => o.dst
 | none => none
def deps (o : Oper) : List Nat := o.after.toList.filterMap fun e => if Region.binds .any e then some e.on else none
def Qfz (acc : List Nat) (o : Oper) : Nat := (deps o).foldl (fun s j => s ||| 2 ^ j ||| acc.getD j 0) 0
def Qcr : List Oper → List Nat → List Nat
 | [], acc => acc
 | o :: r, acc => Qcr r (acc ++ [Qfz acc o])
def QaW (ms : List Nat) (i j : Nat) : Bool := i == j || (ms.getD i 0).testBit j || (ms.getD j 0).testBit i
def Qd0 (all : List Oper) (o : Oper) : List Nat :=
 (o.op.operands.toList.filterMap fun | .tmp t => some t | _ => none) ++ (match o.guard with | some (j, _) => (QcO all j).toList | none => [])
def QiA (all : List Oper) (x y : Oper) : Bool :=
 (match x.dst with | some d => !(Qd0 all y).contains d && y.dst != some d | none => true) && (match y.dst with | some d => !(Qd0 all x).contains d | none => true)
def QgU (R : List Nat) (o : Oper) : Bool :=
 match o.op with
 | .move _ | .assign _ | .pick _ _ _ | .binOp _ _ _ _ _ | .unOp _ _ _ | .convert _ _ _ | .load _ _ | .fieldAddr _ _ _ | .field _ _ _ | .indexAddr _ _ _ | .index _ _ _ | .extract _ _ | .build _ _
 | .buildSlice _ _ _ | .slice _ _ _ _ _ | .lookup _ _ _ _ | .nilCheck _ | .makeInterface _ _ | .makeFunc _ _ _ => true
 | .box _ _ => match o.dst with | some d => R.contains d | none => false
 | .call c => match c.callee with
  | .builtin .len | .builtin .min | .builtin .max | .builtin .cap => true
  | _ => false
 | _ => false
def regB (R : List Nat) (o : Oper) : Bool :=
 match o.op with
 | .move _ | .assign _ | .pick _ _ _ | .binOp _ _ _ _ _ | .unOp _ _ _ | .convert _ _ _ | .fieldAddr _ _ _ | .field _ _ _ | .index _ _ _ | .extract _ _ | .build _ _
 | .buildSlice _ _ _ | .nilCheck _ | .makeInterface _ _ | .makeFunc _ _ _ => true
 | _ => false
def Qkq (all : List Oper) (L : List Nat) (j : Nat) : Bool := match all[j]? with
 | some o => !L.contains j && (deps o).all L.contains
 | none => false
def QiB (R : List Nat) (all : List Oper) (ms : List Nat) (i : Nat) : Bool := (List.range all.length).all fun j => QaW ms i j || (match all[j]? with | some o => regB R o | none => true)
def Qnl (R : List Nat) (all : List Oper) (ms : List Nat) (i t : Nat) : Bool := (List.range all.length).all fun j => QaW ms i j || (match all[j]? with
 | some o => regB R o || o.op.operands.toList.all (fun | .tmp u => u == t | .const _ => true | _ => false)
 | none => true)
def QoE (R : List Nat) (all : List Oper) (ms : List Nat) : Bool := (List.range all.length).all fun k => match all[k]? with
 | some o => regB R o || (List.range all.length).all fun i => match all[i]? with
  | some oi => (match oi.dst with
   | some d => o.op.operands.toList.all (fun | .tmp u => u != d || (k != i && (ms.getD k 0).testBit i) | _ => true)
   | none => true)
  | none => true
 | none => true
def QeB (R : List Nat) (all : List Oper) (ms : List Nat) : List (Nat × Nat) → List Nat → Bool
 | [], L => (List.range all.length).all L.contains
 | (i, k) :: r, L => Qkq all L i && (match all[i]? with
  | some o => if k = 0 then QgU R o else ((List.range all.length).all (fun j => j == i || !Qkq all L j) && (k == 2 || (match k with | t + 3 => Qnl R all ms i t | _ => QiB R all ms i)))
  | none => false) && QeB R all ms r (i :: L)
def QiC (R : List Nat) (all : List Oper) (order : List (Nat × Nat)) : Bool :=
 let ms := Qcr all []
 let n := all.length
 (List.range n).all (fun i => match all[i]? with
  | some o => (deps o).all (fun j => decide (j < i)) && (match o.guard with | some (j, _) => (ms.getD i 0).testBit j | none => true) &&
   (List.range n).all (fun j => QaW ms i j || (match all[j]? with | some o' => QiA all o o' | none => true))
  | none => true) && QeB R all ms order [] && order.length == all.length && QoE R all ms
section
variable {P : Program} {O O' : List GObj} {K K' : GVal → Prop} {J J' : GVal → List GObj → Prop}
def ExtO (O O' : List GObj) : Prop := ∀ (k : Nat) x, O[k]? = some x → x.isClock = false → O'[k]? = some x
def names : GVal → List Nat
 | .ptr o _ _ _ => [o]
 | .own o _ _ _ => [o]
 | .map o _ => [o]
 | .slice _ (.tok o _) => [o]
 | _ => []
def ExtG (g : GVal) (O O' : List GObj) : Prop := ∀ k ∈ names g, ∀ x, O[k]? = some x → x.isClock = false → O'[k]? = some x
theorem ExtG.refl (g : GVal) (O : List GObj) : ExtG g O O := fun _ _ _ h _ => h
theorem ExtO.g {O O' : List GObj} (h : ExtO O O') (g : GVal) : ExtG g O O' := fun k _ => h k
theorem ExtO.refl (O : List GObj) : ExtO O O := fun _ _ h _ => h
theorem Qkr {t g} (h : QaH P t g O K) : ∃ v, K v ∧ ∀ O', ExtG g O O' → ∀ K' : GVal → Prop, K' v → QaH P t g O' K' := by
 unfold QaH at h
 split at h
 · rename_i n ag ht;obtain ⟨h1, h⟩ := h;split at h
   · exact ⟨_, h.2, fun O' _ K' hk => by unfold QaH; rw [ht]; exact ⟨h1, h.1, hk⟩⟩
   · split at h
     · rename_i hO;exact ⟨_, h.2.2.2, fun O' hx K' hk => by unfold QaH; rw [ht]; refine ⟨h1, ?_⟩; simp only [hx _ (.head _) _ hO rfl]; exact ⟨h.1, h.2.1, h.2.2.1, hk⟩⟩
     · exact h.elim
   · exact h.elim
 · exact h.elim
theorem Qjk {t g} (hk : ∀ g, K g → K' g) (h : QaH P t g O K) : QaH P t g O K' := let ⟨v, hv, hq⟩ := Qkr h; hq O (.refl _ O) K' (hk v hv)
theorem QhP {t g v} {L L' : List GObj → Prop} (hk : ∀ g, L g → L' g) (h : QaM P t g v O L) : QaM P t g v O L' := by
 unfold QaM at h ⊢
 split at h
 · obtain ⟨h1, h2, h⟩ := h;refine ⟨h1, h2, ?_⟩;split at h
   · split at h
     · exact ⟨h.1, h.2.1, h.2.2.1, hk _ h.2.2.2⟩
     · exact h.elim
   · exact h.elim
 · exact h.elim
theorem QdT {t g i} (h : Qac P t g i O K) : ∃ v, K v ∧ ∀ O', ExtG g O O' → ∀ K' : GVal → Prop, K' v → Qac P t g i O' K' := by
 unfold Qac at h
 split at h
 · split at h
   · split at h
     · rename_i he;exact ⟨_, h.2.2.2, fun O' _ K' hk => by unfold Qac; simp only [he]; exact ⟨h.1, h.2.1, h.2.2.1, hk⟩⟩
     · exact h.elim
   · split at h
     · rename_i he;split at h
       · rename_i hO;exact ⟨_, h.2.2.2.2.2, fun O' hx K' hk => by unfold Qac; simp only [he, hx _ (.head _) _ hO rfl]; exact ⟨h.1, h.2.1, h.2.2.1, h.2.2.2.1, h.2.2.2.2.1, hk⟩⟩
       · exact h.elim
     · exact h.elim
   · split at h
     · rename_i he;exact ⟨_, h.2.2.2, fun O' _ K' hk => by unfold Qac; simp only [he]; exact ⟨h.1, h.2.1, h.2.2.1, hk⟩⟩
     · exact h.elim
   · split at h
     · rename_i he;exact ⟨_, h.2.2, fun O' _ K' hk => by unfold Qac; simp only [he]; exact ⟨h.1, h.2.1, hk⟩⟩
     · exact h.elim
   · exact h.elim
 · exact h.elim
theorem QeC {t g i} (hk : ∀ g, K g → K' g) (h : Qac P t g i O K) : Qac P t g i O K' := let ⟨v, hv, hq⟩ := QdT h; hq O (.refl _ O) K' (hk v hv)
theorem QiD {t g i} (h : QbP P t g i K) : ∃ v, K v ∧ ∀ K' : GVal → Prop, K' v → QbP P t g i K' := by
 unfold QbP at h
 split at h
 · split at h
   · split at h
     · rename_i he;exact ⟨_, h.2.2.2.2, fun K' hk => by unfold QbP; simp only [he]; exact ⟨h.1, h.2.1, h.2.2.1, h.2.2.2.1, hk⟩⟩
     · exact h.elim
   · exact ⟨_, h.2.2.2, fun K' hk => ⟨h.1, h.2.1, h.2.2.1, hk⟩⟩
   · exact h.elim
 · exact h.elim
theorem QhQ {t g i} (hk : ∀ g, K g → K' g) (h : QbP P t g i K) : QbP P t g i K' := let ⟨v, hv, hq⟩ := QiD h; hq K' (hk v hv)
theorem QiE {t g lo hi mx} (h : Qao P t g lo hi mx O K) : ∃ v, K v ∧ ∀ O', ExtG g O O' → ∀ K' : GVal → Prop, K' v → Qao P t g lo hi mx O' K' := by
 have hct : ∀ sz xs0 tag (hi : Option GVal) tag', Qaq O sz tag hi = some tag' → ∀ O', ExtG (.slice xs0 tag) O O' → Qaq O' sz tag hi = some tag' := by
  intro sz xs0 tag hi tag' hc O' hx;unfold Qaq at hc ⊢;split at hc
  · exact hc
  · split at hc
    · split at hc
      · rename_i hO; simp only [hx _ (.head _) _ hO rfl]; exact hc
      · cases hc
      · rename_i x h1 h2 hO;have hx' := hx _ (.head _) _ hO (by cases x <;> simp_all [GObj.isClock]);simp only [hx'];cases x <;> simp_all
      · cases hc
    · exact hc
 unfold Qao at h
 split at h
 · split at h
   · rename_i h1 h2 h3;split at h
     · obtain ⟨a1, a2, a3, a4, h⟩ := h;split at h
       · rename_i tag' hc;exact ⟨_, h, fun O' hx K' hk => by unfold Qao; simp only [h1, h2, h3]; exact ⟨a1, a2, a3, a4, by simp only [hct _ _ _ _ _ hc O' hx]; exact hk⟩⟩
       · exact h.elim
     · exact ⟨_, h.2.2.2.2, fun O' hx K' hk => by unfold Qao; simp only [h1, h2, h3]; exact ⟨h.1, h.2.1, h.2.2.1, h.2.2.2.1, hk⟩⟩
     · exact h.elim
   · exact h.elim
 · split at h
   · rename_i h1 h2 h3;split at h
     · rename_i hO;exact ⟨_, h.2.2.2.2.2, fun O' hx K' hk => by unfold Qao; simp only [h1, h2, h3, hx _ (.head _) _ hO rfl]; exact ⟨h.1, h.2.1, h.2.2.1, h.2.2.2.1, h.2.2.2.2.1, hk⟩⟩
     · exact h.elim
   · exact h.elim
 · split at h
   · rename_i h1 h2;exact ⟨_, h.2.2.2.2, fun O' hx K' hk => by unfold Qao; simp only [h1, h2]; exact ⟨h.1, h.2.1, h.2.2.1, h.2.2.2.1, hk⟩⟩
   · exact h.elim
 · split at h
   · rename_i h1 h2;split at h
     · rename_i h3;exact ⟨_, h.2.2.2.2, fun O' hx K' hk => by unfold Qao; simp only [h1, h2, h3]; exact ⟨h.1, h.2.1, h.2.2.1, h.2.2.2.1, hk⟩⟩
     · exact h.elim
   · exact h.elim
 · exact h.elim
theorem QhR {t g lo hi mx} (hk : ∀ g, K g → K' g) (h : Qao P t g lo hi mx O K) : Qao P t g lo hi mx O K' := let ⟨v, hv, hq⟩ := QiE h; hq O (.refl _ O) K' (hk v hv)
theorem Quq {t xs ys} {L : Bool → Prop} (h : aggV P t xs ys L) : ∃ r, L r ∧ ∀ L' : Bool → Prop, L' r → aggV P t xs ys L' := by
 unfold aggV at *
 split at h
 · split at h
   · exact ⟨_, h, fun L' hl => by simpa using hl⟩
   · exact h.elim
 · exact h.elim
theorem Qur {op t x y} (h : binV P op t x y K) : ∃ v, K v ∧ ∀ K' : GVal → Prop, K' v → binV P op t x y K' := by
 unfold binV at h ⊢
 split at h
 · split at h <;> first | exact h.elim | exact ⟨_, h.2.2, fun K' hk => ⟨h.1, h.2.1, hk⟩⟩ | exact ⟨_, h.2, fun K' hk => ⟨h.1, hk⟩⟩
 · split at h <;> first | exact h.elim | exact ⟨_, h.2, fun K' hk => ⟨h.1, hk⟩⟩
 · split at h <;> first | exact h.elim | exact ⟨_, h.2, fun K' hk => ⟨h.1, hk⟩⟩ | exact ⟨_, h, fun K' hk => hk⟩
 · rename_i xs tag;have key : ∀ c d : GVal, ((tag = .nil → K c) ∧ (tag ≠ .nil → (xs = [] → K .ubool) ∧ (xs ≠ [] → K d))) → ∃ v, K v ∧ ∀ K' : GVal → Prop, K' v → ((tag = .nil → K' c) ∧ (tag ≠ .nil → (xs = [] → K' .ubool) ∧ (xs ≠ [] → K' d))) := by
    intro c d hk;by_cases ht : tag = .nil
    · exact ⟨c, hk.1 ht, fun K' h => ⟨fun _ => h, fun e => absurd ht e⟩⟩
    · by_cases hx : xs = []
      · exact ⟨.ubool, (hk.2 ht).1 hx, fun K' h => ⟨fun e => absurd e ht, fun _ => ⟨fun _ => h, fun e => absurd hx e⟩⟩⟩
      · exact ⟨d, (hk.2 ht).2 hx, fun K' h => ⟨fun e => absurd e ht, fun _ => ⟨fun e => absurd e hx, fun _ => h⟩⟩⟩
   split at h <;> first | exact h.elim | (obtain ⟨v, h1, h2⟩ := key _ _ h.2; exact ⟨v, h1, fun K' hk => ⟨h.1, h2 K' hk⟩⟩)
 · rename_i len;have key : ∀ d : GVal, ((len = 0 → K .ubool) ∧ (len ≠ 0 → K d)) → ∃ v, K v ∧ ∀ K' : GVal → Prop, K' v → ((len = 0 → K' .ubool) ∧ (len ≠ 0 → K' d)) := by
    intro d hk;by_cases hx : len = 0
    · exact ⟨.ubool, hk.1 hx, fun K' h => ⟨fun _ => h, fun e => absurd hx e⟩⟩
    · exact ⟨d, hk.2 hx, fun K' h => ⟨fun e => absurd e hx, fun _ => h⟩⟩
   split at h <;> first | exact h.elim | (obtain ⟨v, h1, h2⟩ := key _ h.2; exact ⟨v, h1, fun K' hk => ⟨h.1, h2 K' hk⟩⟩)
 · split at h <;> first | exact h.elim | (obtain ⟨r, h1, h2⟩ := Quq h; exact ⟨_, h1, fun K' hk => h2 _ hk⟩)
 · split at h <;> first | exact h.elim | exact ⟨_, h.2, fun K' hk => ⟨h.1, hk⟩⟩
 · split at h <;> first | exact h.elim | exact ⟨_, h.2, fun K' hk => ⟨h.1, hk⟩⟩
 · split at h <;> first | exact h.elim | exact ⟨_, h.2, fun K' hk => ⟨h.1, hk⟩⟩
 · split at h <;> first | exact h.elim | exact ⟨_, h.2, fun K' hk => ⟨h.1, hk⟩⟩
 · split at h <;> first | exact h.elim | exact ⟨_, h.2, fun K' hk => ⟨h.1, hk⟩⟩
 · split at h <;> first | exact h.elim | exact ⟨_, h.2, fun K' hk => ⟨h.1, hk⟩⟩
 · exact h.elim
theorem Qnm {op t oy x y} (h : binN P op t oy x y K) : ∃ v, K v ∧ ∀ K' : GVal → Prop, K' v → binN P op t oy x y K' := by
 unfold binN at h ⊢
 cases hb : QfV oy x with
 | true =>
  rw [hb] at h;obtain ⟨h1, h2⟩ := h;cases op with
  | eql => exact ⟨_, h2, fun K' hk => ⟨h1, hk⟩⟩
  | neq => exact ⟨_, h2, fun K' hk => ⟨h1, hk⟩⟩
  | _ => exact h2.elim
 | false =>
  rw [hb] at h;exact Qur h
theorem Qks {op t oy x y} (hk : ∀ g, K g → K' g) (h : binN P op t oy x y K) : binN P op t oy x y K' := let ⟨v, hv, hq⟩ := Qnm h; hq K' (hk v hv)
theorem Qkt {x} {L L' : List (List GVal) → Prop} (hk : ∀ g, L g → L' g) (h : srcV x O L) : srcV x O L' := by
 unfold srcV at h ⊢
 split at h
 · exact hk _ h
 · split at h
   · exact ⟨h.1, h.2.1, hk _ h.2.2⟩
   · exact h.elim
 · exact hk _ h
 · exact h.elim
theorem Qjl {xT b cs x} {L L' : List (List GVal) → Prop} (hk : ∀ g, L g → L' g) (h : QaY P xT b cs x O L) : QaY P xT b cs x O L' := by
 unfold QaY at h ⊢
 split at h
 · exact Qkt hk h
 · refine ⟨h.1, h.2.1, ?_⟩;have h2 := h.2.2;split at h2
   · exact ⟨h2.1, h2.2.1, h2.2.2.1, hk _ h2.2.2.2⟩
   · exact h2.elim
theorem QgV {ow sT xT s x} (hk : ∀ g O, J g O → J' g O) (h : Qal P ow sT xT s x O J) : Qal P ow sT xT s x O J' := by
 unfold Qal at h ⊢
 split at h
 · refine Qjl (fun ys hy => ?_) h;refine ⟨hy.1, ?_⟩;have hy2 := hy.2;split at hy2
   · refine ⟨hy2.1, hy2.2.1, hy2.2.2.1, ?_⟩;have hy3 := hy2.2.2.2;split at hy3
     · cases ow with
       | false => exact Qbj (fun st => hk _ _) hy3
       | true => exact ⟨hy3.1, Qbj (fun st => hk _ _) hy3.2⟩
     · split at hy3
       · exact ⟨hy3.1, hy3.2.1, Qbj (fun st2 => hk _ _) hy3.2.2⟩
       · exact hy3.elim
     · exact hy3.elim
   · split at hy2
     · exact ⟨hy2.1, hy2.2.1, hy2.2.2.1, hy2.2.2.2.1, hy2.2.2.2.2.1, Qbj (fun st2 => hk _ _) hy2.2.2.2.2.2⟩
     · exact hy2.elim
   · exact hy2.elim
 · exact h.elim
theorem QeD {s g f} (hk : ∀ g, K g → K' g) (h : Qag P s g f K) : Qag P s g f K' := by unfold Qag at *; grind
theorem QgW {s g f} (h : Qag P s g f K) : ∃ v, K v ∧ ∀ K' : GVal → Prop, K' v → Qag P s g f K' := by unfold Qag at *; grind
theorem QhS {s g f} (hk : ∀ g, K g → K' g) (h : QbO P s g f K) : QbO P s g f K' := by unfold QbO at *; grind
theorem Qmc {s g f} (h : QbO P s g f K) : ∃ v, K v ∧ ∀ K' : GVal → Prop, K' v → QbO P s g f K' := by unfold QbO at *; grind
theorem Qf7 {g i} (hk : ∀ g, K g → K' g) (h : QaB g i K) : QaB g i K' := by unfold QaB at *; grind
theorem Qjm {g i} (h : QaB g i K) : ∃ v, K v ∧ ∀ K' : GVal → Prop, K' v → QaB g i K' := by unfold QaB at *; grind
theorem QhT {t} (hk : ∀ g O, J g O → J' g O) (h : QbQ P t O J) : QbQ P t O J' := by
 unfold QbQ at *
 split at h
 · exact ⟨h.1, Qbj (fun st => hk _ _) h.2⟩
 · exact h.elim
theorem QeE {t l c} (hk : ∀ g O, J g O → J' g O) (h : QaV P t l c O J) : QaV P t l c O J' := by
 unfold QaV at *
 split at h
 · split at h
   · obtain ⟨h1, h2, h3, h4, h5, h6⟩ := h;exact ⟨h1, h2, h3, h4, h5, Qbj (fun st => hk _ _) h6⟩
   · exact h.elim
 · exact h.elim
theorem Qku {ro g} (hk : ∀ g O, J g O → J' g O) (h : boxV ro g O J) : boxV ro g O J' := by
 unfold boxV at *
 refine ⟨h.1, ?_⟩
 cases ro with
 | true => exact hk _ _ h.2
 | false => exact Qbj (fun st => hk _ _) h.2
theorem QhU {t gs} (hk : ∀ g, K g → K' g) (h : Qbt P t gs K) : Qbt P t gs K' := by unfold Qbt at *; grind
theorem Qmd {t gs} (h : Qbt P t gs K) : ∃ v, K v ∧ ∀ K' : GVal → Prop, K' v → Qbt P t gs K' := by unfold Qbt at *; grind
theorem Qd1 {t n gs} (hk : ∀ g, K g → K' g) (h : Qaf P t n gs K) : Qaf P t n gs K' := by unfold Qaf at *; grind
theorem Qf8 {t n gs} (h : Qaf P t n gs K) : ∃ v, K v ∧ ∀ K' : GVal → Prop, K' v → Qaf P t n gs K' := by unfold Qaf at *; grind
theorem Qkv {g} (hk : ∀ g, K g → K' g) (h : nilV g K) : nilV g K' := by unfold nilV at *; grind
theorem Qus {g} (h : nilV g K) : ∃ v, K v ∧ ∀ K' : GVal → Prop, K' v → nilV g K' := by unfold nilV at *; grind
theorem QhV {t g} (hk : ∀ g, K g → K' g) (h : QaO P t g K) : QaO P t g K' := ⟨h.1, hk _ h.2⟩
theorem Qme {t g} (h : QaO P t g K) : ∃ v, K v ∧ ∀ K' : GVal → Prop, K' v → QaO P t g K' := ⟨_, h.2, fun K' hk => ⟨h.1, hk⟩⟩
theorem Qmf {op g} (hk : ∀ g, K g → K' g) (h : unV op g K) : unV op g K' := by unfold unV at *; grind
theorem unV_q {op g} (h : unV op g K) : ∃ v, K v ∧ ∀ K' : GVal → Prop, K' v → unV op g K' := by unfold unV at *; grind
theorem Qjn {s d g} (hk : ∀ g, K g → K' g) (h : Qc2 P s d g K) : Qc2 P s d g K' := by cases g <;> (unfold Qc2 at *; grind)
theorem QoF {s d g} (h : Qc2 P s d g K) : ∃ v, K v ∧ ∀ K' : GVal → Prop, K' v → Qc2 P s d g K' := by cases g <;> (unfold Qc2 at *; grind)
theorem Qkw {t g} (hk : ∀ g, K g → K' g) (h : lenV P t g O K) : lenV P t g O K' := by unfold lenV at *; grind
theorem Qut {t g} (h : lenV P t g O K) : ∃ v, K v ∧ ∀ O', ExtG g O O' → ∀ K' : GVal → Prop, K' v → lenV P t g O' K' := by unfold lenV ExtG at *; grind [GObj.isClock, names]
theorem QgX {mx xs} (hk : ∀ g, K g → K' g) (h : minV mx xs K) : minV mx xs K' := by unfold minV at *; grind
theorem Quu {mx xs} (h : minV mx xs K) : ∃ v, K v ∧ ∀ K' : GVal → Prop, K' v → minV mx xs K' := by unfold minV at *; grind
theorem QgY {t m x ok} (h : Qbd P t m x ok O K) : ∃ v, K v ∧ ∀ O', ExtG m O O' → ∀ K' : GVal → Prop, K' v → Qbd P t m x ok O' K' := by
 unfold Qbd at *
 split at h
 · rename_i k e hk;obtain ⟨h1, h⟩ := h;split at h
   · rename_i z hz;split at h
     · split at h
       · rename_i o st _ st' kv hO;obtain ⟨rfl, h⟩ := h;split at h
         · rename_i i hi;split at h
           · rename_i p hp;exact ⟨_, h, fun O' hx K' hk' => by rw [hx _ (.head _) _ hO rfl]; simp only [hi, hp, true_and]; exact ⟨h1, hk'⟩⟩
           · exact h.elim
         · rename_i hi;exact ⟨_, h, fun O' hx K' hk' => by rw [hx _ (.head _) _ hO rfl]; simp only [hi, true_and]; exact ⟨h1, hk'⟩⟩
         · exact h.elim
       · exact h.elim
     · exact ⟨_, h, fun O' hx K' hk' => ⟨h1, hk'⟩⟩
     · exact h.elim
   · exact h.elim
 · exact h.elim
theorem QgZ {t m x ok} (hk : ∀ g, K g → K' g) (h : Qbd P t m x ok O K) : Qbd P t m x ok O K' := let ⟨v, hv, hq⟩ := QgY h; hq O (.refl _ O) K' (hk v hv)
theorem QcP {t m x v} {L L' : List GObj → Prop} (hk : ∀ g, L g → L' g) (h : Qav P t m x v O L) : Qav P t m x v O L' := by
 unfold Qav at *
 split at h
 · obtain ⟨h1, h⟩ := h;refine ⟨h1, ?_⟩;split at h
   · split at h
     · obtain ⟨e, h⟩ := h;refine ⟨e, ?_⟩;split at h
       · exact hk _ h
       · exact hk _ h
       · exact h.elim
     · exact h.elim
   · exact h.elim
 · exact h.elim
theorem Qg0 {t m x} {L L' : List GObj → Prop} (hk : ∀ g, L g → L' g) (h : QbC P t m x O L) : QbC P t m x O L' := by
 unfold QbC at *
 split at h
 · obtain ⟨h1, h⟩ := h;refine ⟨h1, ?_⟩;split at h
   · split at h
     · obtain ⟨e, h⟩ := h;refine ⟨e, ?_⟩;split at h
       · exact hk _ h
       · exact hk _ h
       · exact h.elim
     · exact h.elim
   · exact h.elim
 · exact h.elim
theorem Qf9 (hk : ∀ g O, J g O → J' g O) (h : Qa4 O J) : Qa4 O J' := by unfold Qa4 at *; exact Qbj (fun n => hk _ _) h
theorem Qnn {t x} (h : capV P t x K) : ∃ v, K v ∧ ∀ K' : GVal → Prop, K' v → capV P t x K' := by
 unfold capV at *
 obtain ⟨h1, h⟩ := h
 split at h
 · exact ⟨_, h, fun K' hk => ⟨h1, hk⟩⟩
 · exact ⟨_, h, fun K' hk => ⟨h1, hk⟩⟩
 · exact h.elim
theorem Qkx {t x} (hk : ∀ g, K g → K' g) (h : capV P t x K) : capV P t x K' := let ⟨v, hv, hq⟩ := Qnn h; hq K' (hk v hv)
theorem QhW {t x} {L L' : List GObj → Prop} (hk : ∀ g, L g → L' g) (h : Qcj P t x O L) : Qcj P t x O L' := by
 unfold Qcj at *
 split at h
 · obtain ⟨h1, h⟩ := h;refine ⟨h1, ?_⟩;split at h
   · split at h
     · obtain ⟨e1, e2, h⟩ := h;exact ⟨e1, e2, hk _ h⟩
     · exact h.elim
   · exact h.elim
 · exact h.elim
theorem Qjo {ow : Bool} {st : GSt} {c : Call} (hk : ∀ g O, J g O → J' g O) (h : Qfg P ow st c J) : Qfg P ow st c J' := by
 unfold Qfg at h ⊢
 split at h
 · split at h
   · exact Qkw (fun g => hk g _) h
   · exact QgV hk h
   · exact QgX (fun g => hk g _) h
   · exact QgX (fun g => hk g _) h
   · exact Qg0 (fun O => hk _ O) h
   · exact Qkx (fun g => hk g _) h
   · exact QhW (fun O => hk _ O) h
   · exact h.elim
 · split at h
   · exact h.mono hk
   · exact h.elim
 · exact h.elim
theorem QaF {R : List Nat} {st : GSt} {o : Oper} (hk : ∀ g O, J g O → J' g O) (h : opv P R st o J) : opv P R st o J' := by
 unfold opv at h ⊢
 split at h
 · exact hk _ _ h
 · exact hk _ _ h
 · split at h
   · exact QaJ.2 ⟨fun e => hk _ _ ((QaJ.1 h).1 e), fun e => hk _ _ ((QaJ.1 h).2 e)⟩
   · exact h.elim
 · exact Qks (fun g => hk g _) h
 · exact Qmf (fun g => hk g _) h
 · exact Qjn (fun g => hk g _) h
 · exact Qjk (fun g => hk g _) h
 · exact QhP (fun O => hk _ O) h
 · exact QeD (fun g => hk g _) h
 · exact QhS (fun g => hk g _) h
 · exact QeC (fun g => hk g _) h
 · exact QhQ (fun g => hk g _) h
 · exact Qf7 (fun g => hk g _) h
 · exact QhT hk h
 · exact QeE hk h
 · exact QgZ (fun g => hk g _) h
 · exact QcP (fun O => hk _ O) h
 · exact QcP (fun O => hk _ O) h
 · split at h
   · exact Qf9 hk h
   · exact h.elim
 · exact Qku hk h
 · exact QhU (fun g => hk g _) h
 · exact Qd1 (fun g => hk g _) h
 · exact QhR (fun g => hk g _) h
 · exact Qkv (fun g => hk g _) h
 · exact QhV (fun g => hk g _) h
 · exact hk _ _ h
 · exact Qjo hk h
 · exact h.elim
def QeF (o : Oper) (st st' : GSt) : Prop := ∀ x ∈ o.op.operands.toList, st'.ev x = st.ev x
theorem Qky {st st' : GSt} {xs : Array Operand} (h : ∀ x ∈ xs.toList, st'.ev x = st.ev x) : xs.toList.map st'.ev = xs.toList.map st.ev := List.map_congr_left h
theorem Qkz {st st' : GSt} {ps : Array (Nat × Operand)} (h : ∀ x ∈ (ps.toList.map (·.2)), st'.ev x = st.ev x) : (ps.toList.map fun p => (p.1, st'.ev p.2)) = ps.toList.map fun p => (p.1, st.ev p.2) :=
 List.map_congr_left fun p hp => by rw [h p.2 (List.mem_map.2 ⟨p, hp, rfl⟩)]
theorem QhX {ow : Bool} {st st' : GSt} {c : Call} (h : ∀ x ∈ c.operands.toList, st'.ev x = st.ev x) (ho : st'.o = st.o) : Qfg P ow st' c J = Qfg P ow st c J := by
 obtain ⟨callee, args, ts⟩ := c
 unfold Qfg
 cases callee with
 | builtin b =>
  have hx : ∀ x ∈ args.toList, st'.ev x = st.ev x := fun x hx => h x (by simpa [Call.operands] using hx)
  simp only
  split
  · rename_i h2; rw [hx _ (by rw [h2]; simp), ho]
  · rename_i h2; rw [hx _ (by rw [h2]; simp), hx _ (by rw [h2]; simp), ho]
  · rename_i h2; rw [hx _ (by rw [h2]; simp), hx _ (by rw [h2]; simp), ho]
  · rename_i h2; rw [hx _ (by rw [h2]; simp), hx _ (by rw [h2]; simp), ho]
  · rename_i h2; rw [hx _ (by rw [h2]; simp), hx _ (by rw [h2]; simp), ho]
  · rename_i h2; rw [hx _ (by rw [h2]; simp), ho]
  · rename_i h2; rw [hx _ (by rw [h2]; simp), ho]
  · rfl
 | value f =>
  have hf : st'.ev f = st.ev f := h f (by simp [Call.operands]);have hx : args.toList.map st'.ev = args.toList.map st.ev := Qky fun x hx => h x (by simp [Call.operands] at hx ⊢; exact .inr hx)
  simp only [hf, hx, ho]
 | invoke r m => rfl
theorem QdG {st st' : GSt} {x : Option Operand} (h : ∀ y ∈ x.toArray.toList, st'.ev y = st.ev y) : optV st' x = optV st x := by
 cases x with
 | none => rfl
 | some x => simp only [optV]; rw [h x (by simp)]
theorem Qg1 {R : List Nat} {st st' : GSt} {o : Oper} (h : QeF o st st') (ho : st'.o = st.o) : opv P R st' o J = opv P R st o J := by
 obtain ⟨dst, op, ty, pos, after, guard⟩ := o
 unfold QeF at h
 cases op <;> simp only [opv] <;> simp only [Op.operands] at h <;> (try rfl)
 case move x => rw [h x (by simp), ho]
 case assign x => rw [h x (by simp), ho]
 case pick c a b => rw [h c (by simp), h a (by simp), h b (by simp), ho]
 case binOp op t x y u => rw [h x (by simp), h y (by simp), ho]
 case unOp op t x => rw [h x (by simp), ho]
 case convert s d x => rw [h x (by simp), ho]
 case load t x => rw [h x (by simp), ho]
 case store t x y => rw [h x (by simp), h y (by simp), ho]
 case fieldAddr s x f => rw [h x (by simp), ho]
 case field s x f => rw [h x (by simp), ho]
 case indexAddr t x i => rw [h x (by simp), h i (by simp), ho]
 case index t x i => rw [h x (by simp), h i (by simp), ho]
 case extract x i => rw [h x (by simp), ho]
 case alloc t => rw [ho]
 case lookup t x y ok => rw [h x (by simp), h y (by simp), ho]
 case mapUpdate t x y z => rw [h x (by simp), h y (by simp), h z (by simp), ho]
 case insert t x y z => rw [h x (by simp), h y (by simp), h z (by simp), ho]
 case makeMap t r => rw [ho]
 case makeSlice t x y => rw [h x (by simp), h y (by simp), ho]
 case box t x => rw [h x (by simp), ho]
 case build t ps => rw [Qkz (by simpa using h), ho]
 case buildSlice t n ps => rw [Qkz (by simpa using h), ho]
 case slice t x lo hi mx =>
  simp only [Array.toList_append, List.mem_append] at h;rw [h x (by simp), QdG (x := lo) (fun y hy => h y (.inl (.inl (.inr hy)))), QdG (x := hi) (fun y hy => h y (.inl (.inr hy))), QdG (x := mx) (fun y hy => h y (.inr hy)), ho]
 case nilCheck x => rw [h x (by simp), ho]
 case makeInterface t x => rw [h x (by simp), ho]
 case makeFunc fn fs cs =>
  simp only [Array.toList_append, List.mem_append] at h;rw [Qky (fun x hx => h x (.inl hx)), Qky (fun x hx => h x (.inr hx)), ho]
 case call c => exact QhX h ho
theorem QeG {R : List Nat} {st : GSt} {o : Oper} (hq : QgU R o = true) (h : opv P R st o J) :
 ∃ v, J v st.o ∧ ∀ st', QeF o st st' → (regB R o = false → ∀ x ∈ o.op.operands.toList, ExtG (st.ev x) st.o st'.o) → ∀ J' : GVal → List GObj → Prop, J' v st'.o → opv P R st' o J' := by
 have key : ∃ v, J v st.o ∧ ∀ O', (regB R o = false → ∀ x ∈ o.op.operands.toList, ExtG (st.ev x) st.o O') → ∀ J' : GVal → List GObj → Prop, J' v O' → opv P R ⟨st.s, O'⟩ o J' := by
  obtain ⟨dst, op, ty, pos, after, guard⟩ := o;have hev : ∀ O' x, (⟨st.s, O'⟩ : GSt).ev x = st.ev x := fun O' x => by cases x <;> rfl
  have hm : ∀ O', (⟨st.s, O'⟩ : GSt).ev = st.ev := fun O' => funext (hev O')
  have hop : ∀ O' x, optV ⟨st.s, O'⟩ x = optV st x := fun O' x => by cases x <;> simp [optV, hev]
  cases op <;> simp only [QgU] at hq <;> (try (cases hq; done)) <;> unfold opv at h ⊢ <;> simp only [hev, hm, hop] at h ⊢
  case move x => exact ⟨_, h, fun O' _ J' hj => hj⟩
  case assign x => exact ⟨_, h, fun O' _ J' hj => hj⟩
  case pick c a b =>
   split at h
   · rename_i t ht;cases t with
     | true => exact ⟨_, h, fun O' _ J' hj => hj⟩
     | false => exact ⟨_, h, fun O' _ J' hj => hj⟩
   · exact h.elim
  case binOp op t x y u => obtain ⟨v, h1, h2⟩ := Qnm h; exact ⟨v, h1, fun O' _ J' hj => h2 _ hj⟩
  case unOp op t x => obtain ⟨v, h1, h2⟩ := unV_q h; exact ⟨v, h1, fun O' _ J' hj => h2 _ hj⟩
  case convert s d x => obtain ⟨v, h1, h2⟩ := QoF h; exact ⟨v, h1, fun O' _ J' hj => h2 _ hj⟩
  case load t x => obtain ⟨v, h1, h2⟩ := Qkr h; exact ⟨v, h1, fun O' hx J' hj => h2 O' (hx rfl x (by simp [Op.operands])) _ hj⟩
  case lookup t x y ok => obtain ⟨v, h1, h2⟩ := QgY h; exact ⟨v, h1, fun O' hx J' hj => h2 O' (hx rfl x (by simp [Op.operands])) _ hj⟩
  case fieldAddr s x f => obtain ⟨v, h1, h2⟩ := QgW h; exact ⟨v, h1, fun O' _ J' hj => h2 _ hj⟩
  case field s x f => obtain ⟨v, h1, h2⟩ := Qmc h; exact ⟨v, h1, fun O' _ J' hj => h2 _ hj⟩
  case indexAddr t x i => obtain ⟨v, h1, h2⟩ := QdT h; exact ⟨v, h1, fun O' hx J' hj => h2 O' (hx rfl x (by simp [Op.operands])) _ hj⟩
  case index t x i => obtain ⟨v, h1, h2⟩ := QiD h; exact ⟨v, h1, fun O' _ J' hj => h2 _ hj⟩
  case extract x i => obtain ⟨v, h1, h2⟩ := Qjm h; exact ⟨v, h1, fun O' _ J' hj => h2 _ hj⟩
  case box t x =>
   cases dst with
   | none => cases hq
   | some d =>
    simp only at hq
    simp only [hq] at h ⊢;exact ⟨_, h.2, fun O' _ J' hj => ⟨h.1, hj⟩⟩
  case build t ps => obtain ⟨v, h1, h2⟩ := Qmd h; exact ⟨v, h1, fun O' _ J' hj => h2 _ hj⟩
  case buildSlice t n ps => obtain ⟨v, h1, h2⟩ := Qf8 h; exact ⟨v, h1, fun O' _ J' hj => h2 _ hj⟩
  case slice t x lo hi mx => obtain ⟨v, h1, h2⟩ := QiE h; exact ⟨v, h1, fun O' hx J' hj => h2 O' (hx rfl x (by simp [Op.operands])) _ hj⟩
  case nilCheck x => obtain ⟨v, h1, h2⟩ := Qus h; exact ⟨v, h1, fun O' _ J' hj => h2 _ hj⟩
  case makeInterface t x => obtain ⟨v, h1, h2⟩ := Qme h; exact ⟨v, h1, fun O' _ J' hj => h2 _ hj⟩
  case makeFunc fn fs cs => exact ⟨_, h, fun O' _ J' hj => hj⟩
  case call c =>
   obtain ⟨callee, args, ts⟩ := c;cases callee with
   | value f => cases hq
   | invoke r m => cases hq
   | builtin b =>
    unfold Qfg at h ⊢;simp only [hev] at h ⊢;cases b <;> simp only at hq <;> (try (cases hq; done))
    all_goals (split at h)
    all_goals first
     | exact h.elim
     | (exfalso; simp_all; done)
     | (rename_i hxs; obtain ⟨v, h1, h2⟩ := Qut h; exact ⟨v, h1, fun O' hx J' hj => h2 O' (hx rfl _ (by simp [Op.operands, Call.operands, hxs])) _ hj⟩)
     | (obtain ⟨v, h1, h2⟩ := Quu h; exact ⟨v, h1, fun O' hx J' hj => h2 _ hj⟩)
     | (obtain ⟨v, h1, h2⟩ := Qnn h; exact ⟨v, h1, fun O' hx J' hj => h2 _ hj⟩)
 obtain ⟨v, h1, h2⟩ := key
 refine ⟨v, h1, fun st' hs hx J' hj => ?_⟩
 have := h2 st'.o hx J' hj
 have hev : ∀ O' x, (⟨st.s, O'⟩ : GSt).ev x = st.ev x := fun O' x => by cases x <;> rfl
 rw [Qg1 (st := ⟨st.s, st'.o⟩) (st' := st') (fun x hx => by rw [hev]; exact hs x hx) rfl]
 exact this
end
end Gv
namespace Gv
open Go
def GSt.setS (st : GSt) (d : Nat) (g : GVal) : GSt := ⟨st.s.set d g, st.o⟩
def bare : List GObj → List GObj
 | .clock _ :: r => .clock 0 :: r
 | l => l
theorem QmY {O : List GObj} {k : Nat} {x : GObj} (h : O[k]? = some x) (hc : x.isClock = false) : (bare O)[k]? = some x := by
 cases O with
 | nil => simp at h
 | cons y r =>
  cases k with
  | zero => simp at h; subst h; cases y <;> simp_all [bare, GObj.isClock]
  | succ k => cases y <;> simpa [bare] using h
theorem Qlp {O : List GObj} {k : Nat} {x : GObj} (h : (bare O)[k]? = some x) (hc : x.isClock = false) : O[k]? = some x := by
 cases O with
 | nil => simp [bare] at h
 | cons y r =>
  cases k with
  | zero => cases y <;> simp_all [bare] <;> subst h <;> simp [GObj.isClock] at hc
  | succ k => cases y <;> simpa [bare] using h
def QbU (g : GVal) (O O' : List GObj) : Prop := match g with
 | .ptr o _ _ _ => O'[o]? = O[o]?
 | .own o _ _ _ => O'[o]? = O[o]?
 | .map o _ => O'[o]? = O[o]?
 | .slice _ (.tok o _) => O'[o]? = O[o]?
 | _ => True
theorem QbU.g {g : GVal} {O O' : List GObj} (h : QbU g O O') : ExtG g O O' := by
 intro k hk x hx _
 unfold names at hk
 unfold QbU at h
 split at hk <;> simp at hk <;> subst hk <;> simp only at h <;> rw [h] <;> exact hx
def Qct (k : Nat) (s : List GVal) (O O' : List GObj) : Prop := match k with
 | 0 => True
 | 1 => True
 | 2 => ∃ new, bare O' = bare O ++ new
 | t + 3 => QbU (sget s t) O O'
def Qbz (k : Nat) (s : List GVal) (O O' : List GObj) (N : Prop) : Prop := Qct k s O O' ∧ N
def ordv (P : Program) (R : List Nat) (all : List Oper) : List (Nat × Nat) → (GSt → Prop) → GSt → Prop
 | [], K, st => K st
 | (i, k) :: r, K, st => match all[i]? with
  | none => False
  | some o => match o.guard with
   | none => opv P R st o (fun g O' => Qbz k st.s st.o O' (ordv P R all r K (st.put o.dst g O')))
   | some (j, want) => match QcO all j with
    | some d => match sget st.s d with
     | .bool b => if b = want then (b = want → opv P R (st.setS d (.bool want)) o (fun g O' => Qbz k st.s st.o O' (ordv P R all r K ((st.setS d (.bool want)).put o.dst g O')))) else
      (b = (!want) → ordv P R all r K ((st.setS d (.bool (!want))).put o.dst (.lit (.tuple #[])) st.o))
     | .lit (.tuple _) => ordv P R all r K (st.put o.dst (.lit (.tuple #[])) st.o)
     | _ => False
    | none => False
theorem GSt.setS_self {st : GSt} {d : Nat} {g : GVal} (hd : d < st.s.length) (h : st.s.getD d .any = g) : st.setS d g = st := by
 have : st.s[d] = g := by simpa [List.getD, hd] using h
 cases st with
 | mk s o =>
  simp only [GSt.setS]
  congr 1
  simp only at this
  rw [← this, List.set_getElem_self]
section
variable {P : Program} {R : List Nat}
theorem QfE {E : Env} {a : Act} {st : GSt} {all : List Oper} {j d : Nat} {b : Bool} (ha : SlotsR E a st.s) (hd : QcO all j = some d) (hb : st.s.getD d .any = .bool b) :
 yielded all.toArray a.tmps j = some b ∧ d < st.s.length := by
 have hlt : d < st.s.length := by
  rcases Nat.lt_or_ge d st.s.length with h | h
  · exact h
  · simp [List.getD, List.getElem?_eq_none h] at hb
 have hv := ha.at_ d _ (Qa2 (d := GVal.any) hlt)
 rw [hb] at hv
 have hlt2 : d < a.tmps.size := by rw [ha.size]; exact hlt
 generalize hx : a.tmps.getD d undef = x at hv
 cases hv
 have hx2 : a.tmps[d]? = some (.bool b) := by
  have : a.tmps.getD d undef = a.tmps[d] := by simp [Array.getD, hlt2]
  rw [this] at hx;simp [hlt2, hx]
 refine ⟨?_, hlt⟩
 unfold QcO at hd
 unfold yielded
 cases ho : all[j]? with
 | none => simp [ho] at hd
 | some o =>
  simp only [ho] at hd;simp [ho, hd, hx2]
theorem QdW {E : Env} {a : Act} {st : GSt} {all : List Oper} {j d : Nat} {v : Array Value} (ha : SlotsR E a st.s) (hd : QcO all j = some d) (hb : st.s.getD d .any = .lit (.tuple v)) :
 yielded all.toArray a.tmps j = none := by
 have hlt : d < st.s.length := by
  rcases Nat.lt_or_ge d st.s.length with h | h
  · exact h
  · simp [List.getD, List.getElem?_eq_none h] at hb
 have hv := ha.at_ d _ (Qa2 (d := GVal.any) hlt)
 rw [hb] at hv
 have hlt2 : d < a.tmps.size := by rw [ha.size]; exact hlt
 generalize hx : a.tmps.getD d undef = x at hv
 cases hv
 have hx2 : a.tmps[d]? = some (.tuple v) := by
  have : a.tmps.getD d undef = a.tmps[d] := by simp [Array.getD, hlt2]
  rw [this] at hx;simp [hlt2, hx]
 unfold QcO at hd
 unfold yielded
 cases ho : all[j]? with
 | none => simp [ho] at hd
 | some o =>
  simp only [ho] at hd;simp [ho, hd, hx2]
def QaT (all : List Oper) (L : Nat → Bool) (j : Nat) : Bool := match all[j]? with
 | some o => !L j && (deps o).all L
 | none => false
def addL (L : Nat → Bool) (i : Nat) : Nat → Bool := fun k => k == i || L k
def Cond (R : List Nat) (all : List Oper) (L : Nat → Bool) (i : Nat) (st : GSt) (O' : List GObj) : Prop :=
 ∀ k ok, all[k]? = some ok → k ≠ i → QaW (Qcr all []) i k = false → regB R ok = false → (L k = true ∨ QaT all L k = true) →
  ∀ x ∈ ok.op.operands.toList, ExtG (st.ev x) st.o O'
theorem Cond.refl (R : List Nat) (all : List Oper) (L : Nat → Bool) (i : Nat) (st : GSt) : Cond R all L i st st.o := fun _ _ _ _ _ _ _ _ _ => .refl _ _
def QbX (P : Program) (R : List Nat) (all : List Oper) (L : Nat → Bool) (i : Nat) (st : GSt) (N : GSt → Prop) : Prop :=
 match all[i]? with
 | none => False
 | some o => match o.guard with
  | none => opv P R st o (fun g O' => Cond R all L i st O' ∧ N (st.put o.dst g O'))
  | some (j, want) => match QcO all j with
   | some d => match sget st.s d with
    | .bool b => (b = want → opv P R st o (fun g O' => Cond R all L i st O' ∧ N (st.put o.dst g O'))) ∧
     (b = !want → N (st.put o.dst (.lit (.tuple #[])) st.o))
    | .lit (.tuple _) => N (st.put o.dst (.lit (.tuple #[])) st.o)
    | _ => False
   | none => False
theorem QjE {all : List Oper} {L : Nat → Bool} {i : Nat} {st : GSt} {N N' : GSt → Prop} (hn : ∀ s, N s → N' s) (h : QbX P R all L i st N) : QbX P R all L i st N' := by
 unfold QbX at h ⊢
 split at h
 · exact h.elim
 · split at h
   · exact QaF (fun g O hg => ⟨hg.1, hn _ hg.2⟩) h
   · split at h
     · split at h
       · exact ⟨fun e => QaF (fun g O hg => ⟨hg.1, hn _ hg.2⟩) (h.1 e), fun e => hn _ (h.2 e)⟩
       · exact hn _ h
       · exact h.elim
     · exact h.elim
def GA (P : Program) (R : List Nat) (all : List Oper) (K : GSt → Prop) : Nat → (Nat → Bool) → GSt → Prop
 | 0, L, st => (∀ j, QaT all L j = false) ∧ K st
 | f + 1, L, st => (∃ j, QaT all L j = true) ∧ ∀ i, QaT all L i = true → QbX P R all L i st (GA P R all K f (addL L i))
theorem Qc0 {all : List Oper} {L : Nat → Bool} {i j : Nat} (h : QaT all L j = true) (hij : j ≠ i) : QaT all (addL L i) j = true := by
 unfold QaT at h ⊢
 split at h
 · rename_i o ho;simp only [Bool.and_eq_true, Bool.not_eq_true', List.all_eq_true] at h ⊢;refine ⟨by simp [addL, hij, h.1], fun x hx => ?_⟩;simp [addL, h.2 x hx]
 · cases h
theorem Qlq (L : Nat → Bool) (i j : Nat) : addL (addL L i) j = addL (addL L j) i := by
 funext k; simp only [addL]
 cases (k == i) <;> cases (k == j) <;> simp
structure QcU (all : List Oper) (L : Nat → Bool) : Prop where
 closed : ∀ (i : Nat) o, all[i]? = some o → L i = true → ∀ j ∈ deps o, L j = true
theorem QcU.add {all : List Oper} {L : Nat → Bool} {i : Nat} (h : QcU all L) (hr : QaT all L i = true) : QcU all (addL L i) := by
 refine ⟨fun k o hk hL j hj => ?_⟩
 unfold QaT at hr
 by_cases hki : k = i
 · subst hki;rw [hk] at hr;simp only [Bool.and_eq_true, List.all_eq_true] at hr;simp [addL, hr.2 j hj]
 · have : L k = true := by simpa [addL, hki] using hL
   simp [addL, h.closed k o hk this j hj]
theorem QjF (acc : List Nat) (l : List Nat) (s k : Nat) : (l.foldl (fun s j => s ||| 2 ^ j ||| acc.getD j 0) s).testBit k = true → s.testBit k = true ∨ ∃ j ∈ l, k = j ∨ (acc.getD j 0).testBit k = true := by
 induction l generalizing s with
 | nil => intro h; exact .inl h
 | cons x r ih =>
  intro h;rcases ih _ h with h1 | ⟨j, hj, h1⟩
  · simp only [Nat.testBit_or, Bool.or_eq_true, Nat.testBit_two_pow, decide_eq_true_eq] at h1;rcases h1 with (h1 | h1) | h1
    · exact .inl h1
    · exact .inr ⟨x, by simp, .inl h1.symm⟩
    · exact .inr ⟨x, by simp, .inr h1⟩
  · exact .inr ⟨j, by simp [hj], h1⟩
theorem QdM {all : List Oper} {L : Nat → Bool} (hc : QcU all L) : ∀ (l : List Oper) (acc : List Nat), (∀ k, all[acc.length + k]? = l[k]?) →
 (∀ i, i < acc.length → L i = true → ∀ k, (acc.getD i 0).testBit k = true → L k = true) →
 (∀ i o, all[i]? = some o → ∀ j ∈ deps o, j < i) →
 ∀ i, i < (Qcr l acc).length → L i = true → ∀ k, ((Qcr l acc).getD i 0).testBit k = true → L k = true
 | [], acc, _, h, _ => h
 | o :: r, acc, hl, h, hlt => by
  have ho : all[acc.length]? = some o := by have := hl 0; simpa using this
  have hlt' : ∀ j ∈ deps o, j < acc.length := hlt acc.length o ho;refine QdM hc r (acc ++ [Qfz acc o]) (fun k => by have := hl (k + 1); simp only [List.length_append, List.length_cons, List.length_nil]; rw [show acc.length + (0 + 1) + k = acc.length + (k + 1) by omega]; simpa using this) (fun i hi hL k hk => ?_) hlt;by_cases hi' : i < acc.length
  · have e : (acc ++ [Qfz acc o]).getD i 0 = acc.getD i 0 := by simp [List.getD, List.getElem?_append_left hi']
    rw [e] at hk;exact h i hi' hL k hk
  · have hie : i = acc.length := by simp at hi; omega
    subst hie;have e : (acc ++ [Qfz acc o]).getD acc.length 0 = Qfz acc o := by simp [List.getD]
    rw [e] at hk;unfold Qfz at hk;rcases QjF acc (deps o) 0 k hk with h1 | ⟨j, hj, h1⟩
    · simp at h1
    · have hLj := hc.closed acc.length o ho hL j hj;rcases h1 with rfl | h1
      · exact hLj
      · exact h j (hlt' j hj) hLj k h1
theorem Qe5 : ∀ (l : List Oper) (acc : List Nat), (Qcr l acc).length = acc.length + l.length
 | [], acc => by simp [Qcr]
 | o :: r, acc => by rw [Qcr, Qe5 r]; simp; omega
structure QjG (R : List Nat) (all : List Oper) : Prop where
 lt : ∀ i o, all[i]? = some o → ∀ j ∈ deps o, j < i
 grd : ∀ i o j want, all[i]? = some o → o.guard = some (j, want) → ((Qcr all []).getD i 0).testBit j = true
 stab : ∀ k i ok oi d, all[k]? = some ok → all[i]? = some oi → regB R ok = false → oi.dst = some d → Operand.tmp d ∈ ok.op.operands.toList → k ≠ i ∧ ((Qcr all []).getD k 0).testBit i = true
 apart : ∀ i j o o', all[i]? = some o → all[j]? = some o' → QaW (Qcr all []) i j = true ∨ QiA all o o' = true
theorem QdN {all : List Oper} {L : Nat → Bool} {i j : Nat} (hlt : ∀ i o, all[i]? = some o → ∀ j ∈ deps o, j < i) (hc : QcU all L) (hi : QaT all L i = true) (hj : L j = false) (hij : j ≠ i) :
 ((Qcr all []).getD i 0).testBit j = false := by
 cases hb : ((Qcr all []).getD i 0).testBit j with
 | false => rfl
 | true =>
  have hil : i < all.length := by
   unfold QaT at hi;split at hi
   · rename_i o ho; exact (List.getElem?_eq_some_iff.1 ho).1
   · cases hi
  have := QdM (hc.add hi) all [] (by simp) (by simp) hlt i (by rw [Qe5]; simpa using hil) (by simp [addL]) j hb;simp [addL, hij, hj] at this
theorem Qdx {all : List Oper} {L : Nat → Bool} {i : Nat} (h : QaT all L i = true) : L i = false := by
 unfold QaT at h
 split at h
 · simp only [Bool.and_eq_true, Bool.not_eq_true'] at h; exact h.1
 · cases h
theorem Qce {all : List Oper} {L : Nat → Bool} {i j : Nat} (hlt : ∀ i o, all[i]? = some o → ∀ j ∈ deps o, j < i) (hc : QcU all L) (hi : QaT all L i = true) (hj : QaT all L j = true) (hij : j ≠ i) :
 QaW (Qcr all []) i j = false := by
 simp only [QaW, Bool.or_eq_false_iff]
 exact ⟨⟨by simpa using fun e => hij e.symm, QdN hlt hc hi (Qdx hj) hij⟩, QdN hlt hc hj (Qdx hi) (Ne.symm hij)⟩
def StS (R : List Nat) (all : List Oper) (o : Oper) (st st' : GSt) : Prop := (∀ d ∈ Qd0 all o, sget st'.s d = sget st.s d) ∧ (regB R o = false → ∀ x ∈ o.op.operands.toList, ExtG (st.ev x) st.o st'.o)
theorem StS.same {all : List Oper} {o : Oper} {st st' : GSt} (h : StS R all o st st') : QeF o st st' := by
 intro x hx
 cases x with
 | tmp t => exact h.1 t (by simp only [Qd0, List.mem_append, List.mem_filterMap]; exact .inl ⟨.tmp t, hx, rfl⟩)
 | _ => rfl
def Qvc (P : Program) (R : List Nat) (all : List Oper) (i : Nat) (d : Option Nat) (o : Oper) (st : GSt) (v : GVal) : Prop :=
 ∀ (L' : Nat → Bool) st', StS R all o st st' → ∀ N : GSt → Prop, N (st'.put d v st'.o) → QbX P R all L' i st' N
theorem QfI {all : List Oper} {L : Nat → Bool} {i : Nat} {o : Oper} {st : GSt} {N : GSt → Prop} (ho : all[i]? = some o) (hq : QgU R o = true) (h : QbX P R all L i st N) :
 ∃ v, N (st.put o.dst v st.o) ∧ Qvc P R all i o.dst o st v := by
 unfold QbX at h
 simp only [ho] at h
 cases hg : o.guard with
 | none =>
  simp only [hg] at h;obtain ⟨v, h1, h2⟩ := QeG hq h;refine ⟨v, h1.2, fun L' st' hs N' hn => ?_⟩;unfold QbX;simp only [ho, hg];exact h2 st' hs.same hs.2 _ ⟨.refl _ _ _ _ _, hn⟩
 | some p =>
  obtain ⟨j, want⟩ := p;simp only [hg] at h;cases hd : QcO all j with
  | none => simp [hd] at h
  | some d =>
   simp only [hd] at h;have hlook : d ∈ Qd0 all o := by simp [Qd0, hg, hd]
   split at h
   · rename_i b hb;by_cases hw : b = want
     · obtain ⟨v, h1, h2⟩ := QeG hq (h.1 hw);refine ⟨v, h1.2, fun L' st' hs N' hn => ?_⟩;unfold QbX;simp only [ho, hg, hd, hs.1 d hlook, hb];exact ⟨fun _ => h2 st' hs.same hs.2 _ ⟨.refl _ _ _ _ _, hn⟩, fun e => by subst hw; cases b <;> cases e⟩
     · have hw2 : b = !want := by cases b <;> cases want <;> simp_all
       refine ⟨.lit (.tuple #[]), h.2 hw2, fun L' st' hs N' hn => ?_⟩;unfold QbX;simp only [ho, hg, hd, hs.1 d hlook, hb];exact ⟨fun e => absurd e hw, fun _ => hn⟩
   · rename_i v hb;refine ⟨.lit (.tuple #[]), h, fun L' st' hs N' hn => ?_⟩;unfold QbX;simp only [ho, hg, hd, hs.1 d hlook, hb];exact hn
   · exact h.elim
theorem Qdf {s : List GVal} {d t : Nat} {g : GVal} (h : d ≠ t) : sget (s.set d g) t = sget s t := by
 simp [sget, List.getD, List.getElem?_set_ne h]
theorem Qgr {st : GSt} {d0 dj : Option Nat} {v g : GVal} {O' : List GObj} (h : ∀ d, d0 = some d → dj ≠ some d) : ((st.put d0 v st.o).put dj g O') = ((st.put dj g O').put d0 v O') := by
 cases d0 with
 | none => cases dj <;> rfl
 | some d =>
  cases dj with
  | none => rfl
  | some e =>
   have hne : d ≠ e := fun he => h d rfl (he ▸ rfl)
   simp only [GSt.put];rw [List.set_comm _ _ hne]
theorem Qe6 (ms : List Nat) (i j : Nat) : QaW ms i j = QaW ms j i := by
 rw [Bool.eq_iff_iff]
 simp only [QaW, Bool.or_eq_true, beq_iff_eq]
 constructor
 · rintro ((h | h) | h)
   · exact .inl (.inl h.symm)
   · exact .inr h
   · exact .inl (.inr h)
 · rintro ((h | h) | h)
   · exact .inl (.inl h.symm)
   · exact .inr h
   · exact .inl (.inr h)
theorem Qlr {st : GSt} {d0 : Option Nat} {v : GVal} {x : Operand} (h : ∀ d, d0 = some d → x ≠ .tmp d) : (st.put d0 v st.o).ev x = st.ev x := by
 cases d0 with
 | none => cases x <;> rfl
 | some d =>
  cases x with
  | tmp t => exact Qdf (fun e => h d rfl (by rw [e]))
  | _ => rfl
theorem QjG.ev {all : List Oper} (hS : QjG R all) {L : Nat → Bool} (hc : QcU all L) {i k : Nat} {o ok : Oper} (ho : all[i]? = some o) (hok : all[k]? = some ok) (hi : QaT all L i = true) (hreg : regB R ok = false) (hk : k = i ∨ L k = true ∨ QaT all L k = true)
 {st : GSt} {v : GVal} {x : Operand} (hx : x ∈ ok.op.operands.toList) : (st.put o.dst v st.o).ev x = st.ev x := by
 refine Qlr fun d hd e => ?_
 subst e
 obtain ⟨hne, hb⟩ := hS.stab k i ok o d hok ho hreg hd hx
 rcases hk with hk | hk | hk
 · exact hne hk
 · have hkl : k < (Qcr all []).length := by rw [Qe5]; simpa using (List.getElem?_eq_some_iff.1 hok).1
   have := QdM hc all [] (by simp) (by simp) hS.lt k hkl hk i hb;rw [Qdx hi] at this; cases this
 · have := QdN hS.lt hc hk (Qdx hi) (Ne.symm hne);rw [hb] at this; cases this
theorem QjH {all : List Oper} (hS : QjG R all) {L : Nat → Bool} {i j : Nat} {o oj : Oper} {st : GSt} {v : GVal} {N : GSt → Prop} (hoi : all[i]? = some o) (ho : all[j]? = some oj) (hc : QcU all L) (hi : QaT all L i = true) (hj : QaT all L j = true) (hij : j ≠ i)
 (h1 : ∀ d, o.dst = some d → d ∉ Qd0 all oj) (h2 : ∀ d, o.dst = some d → oj.dst ≠ some d) (h : QbX P R all (addL L i) j (st.put o.dst v st.o) N) :
 QbX P R all L j st (fun st' => (∃ g O', st' = st.put oj.dst g O' ∧ (regB R o = false → ∀ x ∈ o.op.operands.toList, ExtG (st.ev x) st.o O')) ∧ N (st'.put o.dst v st'.o)) := by
 have hs : ∀ d ∈ Qd0 all oj, sget (st.put o.dst v st.o).s d = sget st.s d := by
  intro d hd;cases hd0 : o.dst with
  | none => rfl
  | some e => exact Qdf (fun he => h1 e hd0 (he ▸ hd))
 have hsame : QeF oj st (st.put o.dst v st.o) := StS.same (R := R) ⟨hs, fun _ x _ => by rw [GSt.put_o]; exact .refl _ _⟩
 have hex : ∀ N' : GVal → List GObj → Prop, opv P R (st.put o.dst v st.o) oj N' → opv P R st oj N' := fun N' hh => by
  rw [Qg1 hsame (GSt.put_o _ _ _ _)] at hh; exact hh
 have hinc := Qce hS.lt hc hi hj hij
 have hcond : ∀ O', Cond R all (addL L i) j (st.put o.dst v st.o) O' → Cond R all L j st O' ∧ (regB R o = false → ∀ x ∈ o.op.operands.toList, ExtG (st.ev x) st.o O') := by
  intro O' hh;refine ⟨fun k ok hk hkj hcm hreg hdr x hx => ?_, fun hreg x hx => ?_⟩
  · have := hh k ok hk hkj hcm hreg (by
     by_cases hki : k = i
     · exact .inl (by simp [addL, hki])
     · rcases hdr with q | q
       · exact .inl (by simp [addL, q])
       · exact .inr (Qc0 q hki)) x hx
    rwa [hS.ev hc hoi hk hi hreg (.inr hdr) hx, GSt.put_o] at this
  · have := hh i o hoi (Ne.symm hij) (by rw [Qe6]; exact hinc) hreg (.inl (by simp [addL])) x hx
    rwa [hS.ev hc hoi hoi hi hreg (.inl rfl) hx, GSt.put_o] at this
 have hrefl : regB R o = false → ∀ x ∈ o.op.operands.toList, ExtG (st.ev x) st.o st.o := fun _ _ _ => .refl _ _
 unfold QbX at h ⊢
 simp only [ho] at h ⊢
 have fin : ∀ g O', (Cond R all (addL L i) j (st.put o.dst v st.o) O' ∧ N ((st.put o.dst v st.o).put oj.dst g O')) →
  Cond R all L j st O' ∧ ((∃ g' O2, st.put oj.dst g O' = st.put oj.dst g' O2 ∧ (regB R o = false → ∀ x ∈ o.op.operands.toList, ExtG (st.ev x) st.o O2)) ∧ N ((st.put oj.dst g O').put o.dst v (st.put oj.dst g O').o)) := by
  intro g O' ⟨q1, q2⟩;obtain ⟨c1, c2⟩ := hcond O' q1;refine ⟨c1, ⟨g, O', rfl, c2⟩, ?_⟩;rw [GSt.put_o, ← Qgr h2]; exact q2
 split at h
 · exact QaF fin (hex _ h)
 · rename_i k want hg;split at h
   · rename_i d hd;have hlook : d ∈ Qd0 all oj := by simp [Qd0, hg, hd]
     rw [hs d hlook] at h;split at h
     · refine ⟨fun e => QaF fin (hex _ (h.1 e)), fun e => ?_⟩;have := h.2 e;rw [GSt.put_o] at this;refine ⟨⟨.lit (.tuple #[]), st.o, rfl, hrefl⟩, ?_⟩;rw [GSt.put_o, ← Qgr h2]; exact this
     · rw [GSt.put_o] at h;refine ⟨⟨.lit (.tuple #[]), st.o, rfl, hrefl⟩, ?_⟩;rw [GSt.put_o, ← Qgr h2]; exact h
     · exact h.elim
   · exact h.elim
theorem Qim {all : List Oper} {x y : Oper} (h : QiA all x y = true) : (∀ d, x.dst = some d → d ∉ Qd0 all y) ∧ (∀ d, x.dst = some d → y.dst ≠ some d) ∧ (∀ d, y.dst = some d → d ∉ Qd0 all x) := by
 refine ⟨fun d hd => ?_, fun d hd => ?_, fun d hd => ?_⟩ <;> simp [QiA, hd] at h
 · exact h.1.1
 · exact h.1.2
 · exact h.2
theorem Qvd {all : List Oper} {K : GSt → Prop} (hS : QjG R all) {i : Nat} {o : Oper} (ho : all[i]? = some o) (hq : QgU R o = true) : ∀ (f : Nat) (L : Nat → Bool) (st : GSt), QcU all L → QaT all L i = true →
 QbX P R all L i st (GA P R all K f (addL L i)) → GA P R all K (f + 1) L st := by
 intro f
 induction f with
 | zero =>
  intro L st hc hr h;refine ⟨⟨i, hr⟩, fun j hj => ?_⟩;by_cases hji : j = i
  · subst hji; exact h
  · obtain ⟨v, hN, _⟩ := QfI ho hq h;have := hN.1 j;rw [Qc0 hj hji] at this; cases this
 | succ f ih =>
  intro L st hc hr h;refine ⟨⟨i, hr⟩, fun j hj => ?_⟩;by_cases hji : j = i
  · subst hji; exact h
  · obtain ⟨v, hN, hY⟩ := QfI ho hq h;have hinc := Qce hS.lt hc hr hj hji;cases hoj : all[j]? with
    | none => unfold QaT at hj; simp [hoj] at hj
    | some oj =>
     have hap := (hS.apart i j o oj ho hoj).resolve_left (by rw [hinc]; simp);obtain ⟨a1, a2, a3⟩ := Qim hap;have hs := QjH hS ho hoj hc hr hj hji a1 a2 (hN.2 j (Qc0 hj hji));refine QjE (fun st' hst' => ?_) hs;obtain ⟨⟨g, O', rfl, hext⟩, hg⟩ := hst';refine ih (addL L j) _ (hc.add hj) (Qc0 hr (Ne.symm hji)) ?_;refine hY _ _ ⟨fun d hd => ?_, fun hreg x hx => by rw [GSt.put_o]; exact hext hreg x hx⟩ _ ?_
     · cases hdj : oj.dst with
       | none => rfl
       | some e => exact Qdf (fun he => a3 e hdj (he ▸ hd))
     · rw [Qlq]; exact hg
theorem Qin (st : GSt) (v : Value) : names (st.ev (.const v)) = [] := by
 show names (GVal.ofConst v) = []
 unfold GVal.ofConst
 split <;> rfl
theorem Qe7 {all : List Oper} {K : GSt → Prop} (hS : QjG R all) : ∀ (order : List (Nat × Nat)) (L : List Nat) (st : GSt), QcU all (fun k => L.contains k) → QeB R all (Qcr all []) order L = true → ordv P R all order K st →
 GA P R all K order.length (fun k => L.contains k) st
 | [], L, st, hc, hok, hk => by
  refine ⟨fun j => ?_, hk⟩;unfold QaT;split
  · rename_i o ho;have hjl : j < all.length := (List.getElem?_eq_some_iff.1 ho).1;have := List.all_eq_true.1 hok j (List.mem_range.2 hjl);simp only [this, Bool.not_true, Bool.false_and]
  · rfl
 | (i, k) :: r, L, st, hc, hok, hk => by
  simp only [QeB, Bool.and_eq_true] at hok;obtain ⟨⟨hr, hkind⟩, hrest⟩ := hok;have hrF : QaT all (fun k => L.contains k) i = true := hr;have hadd : addL (fun k => L.contains k) i = fun k => (i :: L).contains k := by
   funext x; simp only [addL, List.contains_cons]
  cases ho : all[i]? with
  | none => simp [ho] at hkind
  | some o =>
   simp only [ho] at hkind;have hc' : QcU all (fun k => (i :: L).contains k) := by rw [← hadd]; exact hc.add hrF
   have ih : ∀ st', ordv P R all r K st' → GA P R all K r.length (addL (fun k => L.contains k) i) st' := fun st' h => by
    rw [hadd]; exact Qe7 hS r (i :: L) st' hc' hrest h
   have hcond : ∀ (J : GVal → List GObj → Prop), opv P R st o (fun g O' => Qbz k st.s st.o O' (J g O')) →
    opv P R st o (fun g O' => Cond R all (fun k => L.contains k) i st O' ∧ J g O') := by
    intro J h;by_cases h0 : k = 0
    · subst h0;simp only [if_true] at hkind;obtain ⟨v, h1, h2⟩ := QeG hkind h;exact h2 st (fun x _ => rfl) (fun _ _ _ => .refl _ _) _ ⟨.refl _ _ _ _ _, h1.2⟩
    · rw [if_neg h0] at hkind;simp only [Bool.and_eq_true, Bool.or_eq_true, beq_iff_eq] at hkind;refine QaF (fun g O' hg => ⟨fun m om hm hmi hcm hreg _ x hx => ?_, hg.2⟩) h;have hml : m < all.length := (List.getElem?_eq_some_iff.1 hm).1
      match k, hkind.2, hg.1 with
      | 0, _, _ => exact absurd rfl h0
      | 1, h2, _ =>
       have h2 : QiB R all (Qcr all []) i = true := by simpa using h2
       have := List.all_eq_true.1 h2 m (List.mem_range.2 hml);simp [hcm, hm, hreg] at this
      | 2, _, hk2 =>
       obtain ⟨new, he⟩ := hk2;refine ExtO.g (fun m x hx hxc => ?_) _;have hx := QmY hx hxc;refine Qlp ?_ hxc;rw [he, List.getElem?_append_left (List.getElem?_eq_some_iff.1 hx).1]; exact hx
      | t + 3, h2, hk3 =>
       have h2 : Qnl R all (Qcr all []) i t = true := by simpa using h2
       have := List.all_eq_true.1 h2 m (List.mem_range.2 hml);simp only [hcm, hm, hreg, Bool.false_or] at this;have := List.all_eq_true.1 this x hx;cases x with
       | tmp u =>
        have e : u = t := by simpa using this
        subst e;exact QbU.g hk3
       | const v => intro q hq; rw [Qin] at hq; cases hq
       | _ => simp at this
   have hstep : QbX P R all (fun k => L.contains k) i st (GA P R all K r.length (addL (fun k => L.contains k) i)) := by
    unfold ordv at hk;unfold QbX;simp only [ho] at hk ⊢;split at hk
    · exact QaF (fun g O' hg => ⟨hg.1, ih _ hg.2⟩) (hcond _ hk)
    · rename_i j want hg;split at hk
      · rename_i d hd;split at hk
        · rename_i b hb;have hlt : d < st.s.length := by
           rcases Nat.lt_or_ge d st.s.length with h | h
           · exact h
           · simp [sget, List.getD, List.getElem?_eq_none h] at hb
          rw [Qh9] at hk;refine ⟨fun e => ?_, fun e => ?_⟩
          · have hk1 := hk.1 e;rw [GSt.setS_self hlt (by rw [← e]; exact hb)] at hk1;exact QaF (fun g O' hg => ⟨hg.1, ih _ hg.2⟩) (hcond _ hk1)
          · have hk2 := hk.2 e;rw [GSt.setS_self hlt (by rw [← e]; exact hb)] at hk2;exact ih _ hk2
        · exact ih _ hk
        · exact hk.elim
      · exact hk.elim
   by_cases h0 : k = 0
   · subst h0;simp only [if_true] at hkind;exact Qvd hS ho hkind r.length _ st hc hrF hstep
   · rw [if_neg h0] at hkind;simp only [Bool.and_eq_true] at hkind;refine ⟨⟨i, hrF⟩, fun j hj => ?_⟩;have hjl : j < all.length := by
      unfold QaT at hj;split at hj
      · rename_i o' ho'; exact (List.getElem?_eq_some_iff.1 ho').1
      · cases hj
     have := List.all_eq_true.1 hkind.1 j (List.mem_range.2 hjl);simp only [Bool.or_eq_true, beq_iff_eq, Bool.not_eq_true'] at this;rcases this with e | e
     · subst e; exact hstep
     · have hj' : Qkq all L j = true := hj;rw [hj'] at e; cases e
theorem QmZ {all : List Oper} {K : GSt → Prop} {QQ : Exit → Act → World → Prop} : ∀ (f : Nat) (L : Nat → Bool) (st : GSt) (listed : Array Bool) (E : Env) (a : Act) (w : World), HSim E st.o w → SlotsR E a st.s →
 (listed.size = all.length ∧ ∀ j, listed.getD j false = L j) → GA P R all K f L st →
 (∀ st' E' a' w', HSim E' st'.o w' → Keep E st.o w E' st'.o w' → SlotsR E' a' st'.s → K st' → QQ .normal a' w') → wpAny P .any all.toArray QQ f listed a w := by
 intro f
 have hready : ∀ (L : Nat → Bool) (listed : Array Bool), (listed.size = all.length ∧ ∀ j, listed.getD j false = L j) → ∀ j, j ∈ Region.ready .any all.toArray listed ↔ QaT all L j = true := by
  intro L listed hl j;rw [mem_ready];unfold QaT;constructor
  · rintro ⟨h1, oj, h2, h3⟩;have h2' : all[j]? = some oj := by simpa using h2
    have hj : j < listed.size := by rw [hl.1]; exact (List.getElem?_eq_some_iff.1 h2').1
    have h1' : L j = false := by rw [← hl.2 j]; simp [Array.getD, hj] at h1 ⊢; exact h1
    simp only [h2', h1', Bool.not_false, Bool.true_and, List.all_eq_true];intro x hx;simp only [deps, List.mem_filterMap] at hx;obtain ⟨e, he, hx⟩ := hx;split at hx
    · rename_i hb; cases hx
      rw [← hl.2]; exact h3 e (by simpa using he) hb
    · cases hx
  · intro h;split at h
    · rename_i oj h2;simp only [Bool.and_eq_true, Bool.not_eq_true', List.all_eq_true] at h;have hj : j < listed.size := by rw [hl.1]; exact (List.getElem?_eq_some_iff.1 h2).1
      refine ⟨?_, oj, by simpa using h2, fun e he hb => ?_⟩
      · have := hl.2 j; rw [h.1] at this; simp [Array.getD, hj] at this ⊢; exact this
      · rw [hl.2];refine h.2 _ ?_;simp only [deps, List.mem_filterMap];exact ⟨e, by simpa using he, by rw [if_pos hb]⟩
    · cases h
 induction f with
 | zero =>
  intro L st listed E a w h ha hl hg hq;refine ⟨?_, hq st E a w h (.refl _ _ _) ha hg.2⟩;rcases hr : Region.ready .any all.toArray listed with _ | ⟨x, r⟩
  · rfl
  · have := (hready L listed hl x).1 (by rw [hr]; simp);rw [hg.1 x] at this; cases this
 | succ f ih =>
  intro L st listed E a w h ha hl hg hq;obtain ⟨⟨j0, hj0⟩, hall⟩ := hg;refine ⟨fun hr => ?_, fun i hi => ?_⟩
  · have := (hready L listed hl j0).2 hj0;rw [hr] at this; cases this
  · have hrF := (hready L listed hl i).1 hi;have hs := hall i hrF;unfold QbX at hs;unfold wpOp;cases ho : all[i]? with
    | none => simp [ho] at hs
    | some o =>
     simp only [ho] at hs;have ho' : all.toArray[i]? = some o := by simpa using ho
     simp only [ho'];have hil : i < listed.size := by rw [hl.1]; exact (List.getElem?_eq_some_iff.1 ho).1
     have hl' : (listed.setIfInBounds i true).size = all.length ∧ ∀ j, (listed.setIfInBounds i true).getD j false = addL L i j := by
      refine ⟨by simp [hl.1], fun j => ?_⟩;by_cases hji : j = i
      · subst hji; simp [addL, Array.getD, hil]
      · rw [getD_set_ne false (Ne.symm hji), hl.2]; simp [addL, hji]
     have exec : opv P R st o (fun g O' => Cond R all L i st O' ∧ GA P R all K f (addL L i) (st.put o.dst g O')) →
      o.wp P a w (wpAny P .any all.toArray QQ f (listed.setIfInBounds i true)) QQ := by
      intro hk;refine Qgf h ha hk (fun v w' E' O' g h1 h2 h3 h4 => ?_);refine ih (addL L i) (st.put o.dst g O') _ E' _ w' (by rw [GSt.put_o]; exact h1) (ha.put h2.ext h3 O') hl' h4.2 (fun st' E2 a' w2 g1 g2 g3 g4 => hq st' E2 a' w2 g1 ?_ g3 g4);rw [GSt.put_o] at g2;exact h2.trans g2
     split at hs
     · rename_i hg;rw [if_pos (by simp [Region.wanted, hg])];exact .inl (exec hs)
     · rename_i j want hg;split at hs
       · rename_i d hd;split at hs
         · rename_i b hb;obtain ⟨hy, hlt⟩ := QfE ha hd hb;by_cases hw : b = want
           · subst hw;rw [if_pos (by simp [Region.wanted, hg, hy])];exact .inl (exec (hs.1 rfl))
           · have hw2 : b = !want := by cases b <;> cases want <;> simp_all
             subst hw2;rw [if_neg (by simp only [Region.wanted, hg, hy]; cases want <;> simp)];have hk2 := hs.2 rfl;refine ih (addL L i) (st.put o.dst (.lit (.tuple #[])) st.o) _ E _ w (by rw [GSt.put_o]; exact h) (ha.put (.refl _) (.lit _) _) hl' hk2 (fun st' E2 a' w2 g1 g2 g3 g4 => hq st' E2 a' w2 g1 ?_ g3 g4);rw [GSt.put_o] at g2; exact g2
         · rename_i v hb;rw [if_neg (by simp [Region.wanted, hg, QdW ha hd hb])];refine ih (addL L i) (st.put o.dst (.lit (.tuple #[])) st.o) _ E _ w (by rw [GSt.put_o]; exact h) (ha.put (.refl _) (.lit _) _) hl' hs (fun st' E2 a' w2 g1 g2 g3 g4 => hq st' E2 a' w2 g1 ?_ g3 g4);rw [GSt.put_o] at g2; exact g2
         · exact hs.elim
       · exact hs.elim
theorem Qhq {all : List Oper} {order : List (Nat × Nat)} (h : QiC R all order = true) : QjG R all ∧ QeB R all (Qcr all []) order [] = true ∧ order.length = all.length := by
 unfold QiC at h
 simp only [Bool.and_eq_true, beq_iff_eq] at h
 obtain ⟨⟨⟨h1, h2⟩, h3⟩, h4⟩ := h
 have hi : ∀ i o, all[i]? = some o → _ := fun i o ho => by
  have := List.all_eq_true.1 h1 i (List.mem_range.2 (List.getElem?_eq_some_iff.1 ho).1);simp only [ho, Bool.and_eq_true] at this;exact this
 refine ⟨⟨fun i o ho j hj => ?_, fun i o j want ho hg => ?_, fun k i ok oi d hk hi' hreg hd hx => ?_, fun i j o o' ho ho' => ?_⟩, h2, h3⟩
 · have := List.all_eq_true.1 (hi i o ho).1.1 j hj
   simpa using this
 · have := (hi i o ho).1.2
   simpa [hg] using this
 · have q1 := List.all_eq_true.1 h4 k (List.mem_range.2 (List.getElem?_eq_some_iff.1 hk).1);simp only [hk, hreg, Bool.false_or] at q1;have q2 := List.all_eq_true.1 q1 i (List.mem_range.2 (List.getElem?_eq_some_iff.1 hi').1);simp only [hi', hd] at q2;have q3 := List.all_eq_true.1 q2 _ hx
   simpa using q3
 · have := List.all_eq_true.1 (hi i o ho).2 j (List.mem_range.2 (List.getElem?_eq_some_iff.1 ho').1)
   simpa [ho'] using this
theorem Qjx {all : List Oper} {order : List (Nat × Nat)} {K : GSt → Prop} {QQ : Exit → Act → World → Prop} (hmix : P.follows .mixedOrders = true) (hok : QiC R all order = true) (id : Nat) (st : GSt) (E : Env) (a : Act) (w : World) (h : HSim E st.o w) (ha : SlotsR E a st.s)
 (hk : ordv P R all order K st)
 (hq : ∀ st' E' a' w', HSim E' st'.o w' → Keep E st.o w E' st'.o w' → SlotsR E' a' st'.s → K st' → QQ .normal a' w') : (Code.region id all.toArray true).wp P QQ a w := by
 obtain ⟨hS, hord, hlen⟩ := Qhq hok
 have hga := Qe7 (P := P) (K := K) hS order [] st ⟨fun i o _ hL => by simp at hL⟩ hord hk
 refine wp_region_any hmix ?_
 have := QmZ (QQ := QQ) order.length (fun k => ([] : List Nat).contains k) st (Array.replicate all.toArray.size false) E a { w with drawn := w.drawn + 1 } (h.of_heap rfl) ha ⟨by simp, fun j => by simp [Array.getD]⟩ hga
  (fun st' E' a' w' h1 h2 h3 h4 => hq st' E' a' w' h1 ((Keep.of_heap (E := E) (O := st.o) (w := w) (w' := { w with drawn := w.drawn + 1 }) rfl rfl rfl).trans h2) h3 h4)
 rw [hlen] at this
 simpa using this
end
end Gv
namespace Gv
open Go
inductive Ex where
 | normal
 | exit (n : Nat)
 | ret
def ExR : Exit → Ex → Prop
 | .normal, .normal => True
 | .exit n, .exit m => n = m
 | .ret, .ret => True
 | _, _ => False
def opsv (P : Program) (R : List Nat) (all : List Oper) : List Oper → (GSt → Prop) → GSt → Prop
 | [], K, st => K st
 | o :: r, K, st => match o.guard with
  | none => opv P R st o (fun g O' => opsv P R all r K (st.put o.dst g O'))
  | some (j, want) => match QcO all j with
   | some d => match sget st.s d with
    | .bool b => if b = want then (b = want → opv P R (st.setS d (.bool want)) o (fun g O' => opsv P R all r K ((st.setS d (.bool want)).put o.dst g O'))) else
     (b = (!want) → opsv P R all r K ((st.setS d (.bool (!want))).put o.dst (.lit (.tuple #[])) st.o))
    | .lit (.tuple _) => opsv P R all r K (st.put o.dst (.lit (.tuple #[])) st.o)
    | _ => False
   | none => False
structure Cfg where
 ro : List Nat
 ord : List (Nat × List (Nat × Nat))
def QkS : List (Nat × List (Nat × Nat)) → Nat → List (Nat × Nat)
 | [], _ => []
 | (j, l) :: r, id => if j = id then l else QkS r id
def Cfg.of (C : Cfg) (id : Nat) : List (Nat × Nat) := QkS C.ord id
def codeOk (C : Cfg) : Code → Bool
 | .region id ops true => QiC C.ro ops.toList (C.of id)
 | .seq a b => codeOk C a && codeOk C b
 | .cond _ a b => codeOk C a && codeOk C b
 | .block _ a => codeOk C a
 | .loop a => codeOk C a
 | _ => true
def Into (st : GSt) (N : GSt → Prop) : Prop :=
 ∀ E a w, HSim E st.o w → SlotsR E a st.s → ∃ st' E', N st' ∧ HSim E' st'.o w ∧ Keep E st.o w E' st'.o w ∧ SlotsR E' a st'.s
def Qdd (N : GSt → Prop) (Q : Ex → GSt → Prop) : Ex → GSt → Prop
 | .normal, st => N st
 | e, st => Q e st
def QcH (id : Nat) (Q : Ex → GSt → Prop) : Ex → GSt → Prop
 | .exit n, st => if n = id then Q .normal st else Q (.exit n) st
 | e, st => Q e st
def vc (P : Program) (C : Cfg) : Code → (Ex → GSt → Prop) → GSt → Prop
 | .skip, Q, st => Q .normal st
 | .region id ops draw, Q, st => match draw with
  | false => opsv P C.ro ops.toList ops.toList (Q .normal) st
  | true => ordv P C.ro ops.toList (C.of id) (Q .normal) st
 | .seq a b, Q, st => vc P C a (Qdd (vc P C b Q) Q) st
 | .cond c a b, Q, st => match st.ev c with
  | .bool t => if t = true then (t = true → vc P C a Q st) else (t = false → vc P C b Q st)
  | .ubool => vc P C a Q st ∧ vc P C b Q st
  | _ => False
 | .block id a, Q, st => vc P C a (QcH id Q) st
 | .loop a, Q, st => ∃ (ι : Type) (I : ι → GSt) (μ : ι → Nat), Into st (fun s => ∃ i, s = I i) ∧ ∀ i, vc P C a (Qdd (fun st' => Into st' (fun s => ∃ j, s = I j ∧ μ j < μ i)) Q) (I i)
 | .exit n, Q, st => Q (.exit n) st
 | .ret, Q, st => Q .ret st
 | _, _, _ => False
section
variable (P : Program) (C : Cfg) (Q : Ex → GSt → Prop) (st : GSt)
theorem Qu0 (id : Nat) (ops : Array Oper) : vc P C (.region id ops false) Q st = opsv P C.ro ops.toList ops.toList (Q .normal) st := by rw [vc]
theorem Qpb (id : Nat) (ops : Array Oper) : vc P C (.region id ops true) Q st = ordv P C.ro ops.toList (C.of id) (Q .normal) st := by rw [vc]
end
def Post (E : Env) (O : List GObj) (w : World) (Q : Ex → GSt → Prop) (e : Exit) (a' : Act) (w' : World) : Prop :=
 ∃ ex st' E', ExR e ex ∧ HSim E' st'.o w' ∧ Keep E O w E' st'.o w' ∧ SlotsR E' a' st'.s ∧ Q ex st'
section
variable {P : Program} {R : List Nat}
theorem QcY {all : List Oper} {K : GSt → Prop} {QQ : Exit → Act → World → Prop} : ∀ (ops : List Oper) (st : GSt) (E : Env) (a : Act) (w : World), HSim E st.o w → SlotsR E a st.s → opsv P R all ops K st →
 (∀ st' E' a' w', HSim E' st'.o w' → Keep E st.o w E' st'.o w' → SlotsR E' a' st'.s → K st' → QQ .normal a' w') → wpList P all.toArray QQ ops a w
 | [], st, E, a, w, h, ha, hk, hq => hq st E a w h (.refl _ _ _) ha hk
 | o :: r, st, E, a, w, h, ha, hk, hq => by
  have exec : ∀ st1 : GSt, st1 = st → opv P R st1 o (fun g O' => opsv P R all r K (st1.put o.dst g O')) → o.wp P a w (wpList P all.toArray QQ r) QQ := by
   intro st1 e hk1;subst e;refine Qgf h ha hk1 (fun v w' E' O' g h1 h2 h3 h4 => ?_);refine QcY r (st1.put o.dst g O') E' _ w' (by rw [GSt.put_o]; exact h1) (ha.put h2.ext h3 O') h4 (fun st' E2 a' w2 g1 g2 g3 g4 => hq st' E2 a' w2 g1 ?_ g3 g4);rw [GSt.put_o] at g2;exact h2.trans g2
  unfold opsv at hk;split at hk
  · rename_i hg;refine wpList_plain hg (fun K' hK' => ?_);exact Oper.wp_mono (fun a w h => hK' a w h) (exec st rfl hk)
  · rename_i j want hg;split at hk
    · rename_i d hd;split at hk
      · rename_i b hb;obtain ⟨hy, hlt⟩ := QfE ha hd hb;rw [Qh9] at hk;refine wpList_step (fun K' hK' => ?_);by_cases hw : b = want
        · subst hw;have hwant : Region.wanted o (yielded all.toArray a.tmps) = true := by simp [Region.wanted, hg, hy]
          rw [if_pos hwant];exact Oper.wp_mono (fun a w h => hK' a w h) (exec _ (GSt.setS_self hlt hb) (hk.1 rfl))
        · have hw2 : b = !want := by cases b <;> cases want <;> simp_all
          subst hw2;have hwant : ¬ Region.wanted o (yielded all.toArray a.tmps) = true := by
           simp only [Region.wanted, hg, hy];cases want <;> simp
          rw [if_neg hwant];have e : st.setS d (.bool !want) = st := GSt.setS_self hlt hb;have hk2 := hk.2 rfl;rw [e] at hk2;refine hK' _ _ (QcY r (st.put o.dst (.lit (.tuple #[])) st.o) E _ w (by rw [GSt.put_o]; exact h) (ha.put (.refl _) (.lit _) _) hk2 (fun st' E2 a' w2 g1 g2 g3 g4 => hq st' E2 a' w2 g1 ?_ g3 g4));rw [GSt.put_o] at g2; exact g2
      · rename_i v hb;have hnot : ¬ Region.wanted o (yielded all.toArray a.tmps) = true := by simp [Region.wanted, hg, QdW ha hd hb]
        refine wpList_step (fun K' hK' => ?_);rw [if_neg hnot];refine hK' _ _ (QcY r (st.put o.dst (.lit (.tuple #[])) st.o) E _ w (by rw [GSt.put_o]; exact h) (ha.put (.refl _) (.lit _) _) hk (fun st' E2 a' w2 g1 g2 g3 g4 => hq st' E2 a' w2 g1 ?_ g3 g4));rw [GSt.put_o] at g2; exact g2
      · exact hk.elim
    · exact hk.elim
theorem vc_sound {C : Cfg} (hmix : P.follows .mixedOrders = true) : ∀ (c : Code) (Q : Ex → GSt → Prop) (st : GSt) (E : Env) (a : Act) (w : World), codeOk C c = true → HSim E st.o w → SlotsR E a st.s → vc P C c Q st →
    c.wp P (Post E st.o w Q) a w
  | .skip, Q, st, E, a, w, hcok, h, ha, hk => wp_skip ⟨.normal, st, E, trivial, h, .refl _ _ _, ha, by rw [vc] at hk; exact hk⟩
  | .region id ops draw, Q, st, E, a, w, hcok, h, ha, hk => by
    have hq : ∀ st' E' a' w', HSim E' st'.o w' → Keep E st.o w E' st'.o w' → SlotsR E' a' st'.s → Q .normal st' → Post E st.o w Q .normal a' w' :=
      fun st' E' a' w' h1 h2 h3 h4 => ⟨.normal, st', E', trivial, h1, h2, h3, h4⟩
    have e : ops = ops.toList.toArray := by simp
    cases draw with
    | false =>
      rw [vc] at hk;refine wp_region_list ?_;have := QcY (QQ := Post E st.o w Q) ops.toList st E a w h ha hk hq
      rwa [← e] at this
    | true =>
      rw [vc] at hk;have := Qjx (QQ := Post E st.o w Q) hmix (by simpa [codeOk] using hcok) id st E a w h ha hk hq
      rwa [← e] at this
  | .seq x y, Q, st, E, a, w, hcok, h, ha, hk => by
    rw [vc] at hk;simp only [codeOk, Bool.and_eq_true] at hcok;refine wp_seq (wp_mono (vc_sound hmix x _ st E a w hcok.1 h ha hk) ?_);rintro e a' w' ⟨ex, st', E', hx, h1, h2, h3, h4⟩;cases e <;> cases ex <;> first
      | exact hx.elim
      | (refine wp_mono (vc_sound hmix y _ st' E' a' w' hcok.2 h1 h3 h4) ?_
         rintro e2 a2 w2 ⟨ex2, st2, E2, g0, g1, g2, g3, g4⟩;exact ⟨ex2, st2, E2, g0, g1, h2.trans g2, g3, g4⟩)
      | exact ⟨_, st', E', hx, h1, h2, h3, h4⟩
  | .cond c x y, Q, st, E, a, w, hcok, h, ha, hk => by
    rw [vc] at hk;simp only [codeOk, Bool.and_eq_true] at hcok;have hc := ha.ev c;split at hk
    · rename_i t hce;rw [hce] at hc;rw [Qnp] at hk;generalize hcv : a.eval c = cv at hc;cases hc;refine wp_cond_split hcv (fun e => ?_) (fun e => ?_)
      · exact vc_sound hmix x Q st E a w hcok.1 h ha (hk.1 e)
      · exact vc_sound hmix y Q st E a w hcok.2 h ha (hk.2 e)
    · rename_i hce;rw [hce] at hc;generalize hcv : a.eval c = cv at hc;cases hc;refine wp_cond_split hcv (fun e => ?_) (fun e => ?_)
      · exact vc_sound hmix x Q st E a w hcok.1 h ha hk.1
      · exact vc_sound hmix y Q st E a w hcok.2 h ha hk.2
    · exact hk.elim
  | .block id x, Q, st, E, a, w, hcok, h, ha, hk => by
    rw [vc] at hk;refine wp_block (wp_mono (vc_sound hmix x _ st E a w (by simpa [codeOk] using hcok) h ha hk) ?_);rintro e a' w' ⟨ex, st', E', hx, h1, h2, h3, h4⟩;cases e with
    | exit n =>
      cases ex with
      | exit m =>
        have hx' : n = m := hx;subst hx';simp only [Exit.inBlock];simp only [QcH] at h4;split
        · rename_i e; rw [if_pos e] at h4; exact ⟨.normal, st', E', trivial, h1, h2, h3, h4⟩
        · rename_i e; rw [if_neg e] at h4; exact ⟨.exit n, st', E', rfl, h1, h2, h3, h4⟩
      | _ => exact hx.elim
    | _ => cases ex <;> first | exact hx.elim | exact ⟨_, st', E', hx, h1, h2, h3, h4⟩
  | .loop x, Q, st, E, a, w, hcok, h, ha, hk => by
    rw [vc] at hk;obtain ⟨ι, I, μ, hw0, hround⟩ := hk;obtain ⟨_, E0, ⟨i0, rfl⟩, h0, k0, s0⟩ := hw0 E a w h ha;refine wp_loop_ghost (fun n a' w' => ∃ i E', μ i = n ∧ HSim E' (I i).o w' ∧ Keep E st.o w E' (I i).o w' ∧ SlotsR E' a' (I i).s) (μ i0) ⟨i0, E0, rfl, h0, k0, s0⟩ ?_;rintro n a1 w1 ⟨i, E1, rfl, h1, k1, s1⟩;refine wp_mono (vc_sound hmix x _ (I i) E1 a1 w1 (by simpa [codeOk] using hcok) h1 s1 (hround i)) ?_;rintro e a' w' ⟨ex, st', E', hx, g1, g2, g3, g4⟩;cases e <;> cases ex <;> first
      | exact hx.elim
      | (obtain ⟨_, E2, ⟨j, rfl, hlt⟩, q1, q2, q3⟩ := g4 E' a' w' g1 g3
         exact ⟨μ j, hlt, j, E2, rfl, q1, (k1.trans g2).trans q2, q3⟩)
      | exact ⟨_, st', E', hx, g1, k1.trans g2, g3, g4⟩
  | .exit n, Q, st, E, a, w, hcok, h, ha, hk => wp_exit ⟨.exit n, st, E, rfl, h, .refl _ _ _, ha, by rw [vc] at hk; exact hk⟩
  | .ret, Q, st, E, a, w, hcok, h, ha, hk => wp_ret ⟨.ret, st, E, trivial, h, .refl _ _ _, ha, by rw [vc] at hk; exact hk⟩
  | .rangeFunc .., Q, st, E, a, w, hcok, h, ha, hk => by simp [vc] at hk
  | .goto .., Q, st, E, a, w, hcok, h, ha, hk => by simp [vc] at hk
  | .label .., Q, st, E, a, w, hcok, h, ha, hk => by simp [vc] at hk
  | .scope .., Q, st, E, a, w, hcok, h, ha, hk => by simp [vc] at hk
  | .refuse .., Q, st, E, a, w, hcok, h, ha, hk => by simp [vc] at hk
def resV (P : Program) (st : GSt) : List ResultVar → (List GVal → Prop) → Prop
 | [], K => K []
 | .tmp t :: r, K => resV P st r (fun gs => K (sget st.s t :: gs))
 | .cell a t :: r, K => QaH P t (sget st.s a) st.o (fun g => resV P st r (fun gs => K (g :: gs)))
def resG : List GVal → GVal
 | [g] => g
 | gs => .tuple gs
def Qhe (a : Act) : ResultVar → Sem Value
 | .tmp t => pure (a.tmps.getD t undef)
 | .cell x t => do loadVar t (← asAddr (a.tmps.getD x undef))
theorem QeU {E : Env} {a : Act} {w : World} {st : GSt} (h : HSim E st.o w) (ha : SlotsR E a st.s) : ∀ (rs : List ResultVar) (K : List GVal → Prop), resV P st rs K →
 ∃ vs gs, (rs.mapM (Qhe a)).run P w = .ok vs w ∧ vs.length = gs.length ∧
  (∀ (i : Nat) g, gs[i]? = some g → ∃ v, vs[i]? = some v ∧ VR E v g) ∧ K gs
 | [], K, hk => ⟨[], [], by simp, rfl, by simp, hk⟩
 | .tmp t :: r, K, hk => by
  obtain ⟨vs, gs, h1, h2, h3, h4⟩ := QeU h ha r _ hk;refine ⟨a.tmps.getD t undef :: vs, sget st.s t :: gs, ?_, by simp [h2], fun i g hg => ?_, h4⟩
  · simp only [List.mapM_cons, Sem.run_bind, Qhe, Sem.run_pure, Result.andThen_ok, h1]
  · cases i with
    | zero => simp only [List.getElem?_cons_zero, Option.some.injEq] at hg; subst hg; exact ⟨_, rfl, ha.ev (.tmp t)⟩
    | succ i => simp only [List.getElem?_cons_succ] at hg; obtain ⟨v, hv, hr⟩ := h3 i g hg; exact ⟨v, hv, hr⟩
 | .cell x t :: r, K, hk => by
  obtain ⟨v, g, hrun, hv, hk2⟩ := QiK h (ha.ev (.tmp x)) hk;obtain ⟨vs, gs, h1, h2, h3, h4⟩ := QeU h ha r _ hk2;have hrun2 : (do loadVar t (← asAddr (a.tmps.getD x undef)) : Sem Value).run P w = .ok v w := by
   have hrun' : (Instr.loadAt t (a.tmps.getD x undef)).run P w = .ok v w := hrun;generalize a.tmps.getD x undef = xv at hrun' ⊢;unfold Instr.loadAt at hrun';cases xv with
   | pointer p =>
    cases p with
    | some p => simpa [Instr.sureAddr, asAddr] using hrun'
    | none => simp [Instr.sureAddr] at hrun'
   | _ => simp [Instr.sureAddr] at hrun'
  refine ⟨v :: vs, g :: gs, ?_, by simp [h2], fun i g' hg => ?_, h4⟩
  · rw [List.mapM_cons, Sem.run_bind, Qhe, hrun2];simp only [Sem.run_bind, Sem.run_pure, Result.andThen_ok, h1]
  · cases i with
    | zero => simp only [List.getElem?_cons_zero, Option.some.injEq] at hg; subst hg; exact ⟨v, rfl, hv⟩
    | succ i => simp only [List.getElem?_cons_succ] at hg; obtain ⟨v', hv', hr⟩ := h3 i g' hg; exact ⟨v', hv', hr⟩
def gstart (n : Nat) (args : List GVal) (O : List GObj) : GSt := ⟨args ++ List.replicate (n - args.length) .any, O⟩
def retQ (P : Program) (rs : List ResultVar) (K : GVal → List GObj → Prop) : Ex → GSt → Prop
 | .normal, st => resV P st rs (fun gs => K (resG gs) st.o)
 | .ret, st => resV P st rs (fun gs => K (resG gs) st.o)
 | .exit _, _ => False
theorem gcalls_of_wp {f : FuncId} {fn : Func} {c : Code} {n : Nat} {rs : Array ResultVar} {args : List GVal} {O : List GObj} {K : GVal → List GObj → Prop}
 (hf : P.funcs[f]? = some fn) (hb : fn.body = some c) (hn : fn.ntmps = n) (hr : fn.results = rs) (hen : Qa8 P f = true) (hargs : args.length ≤ n)
 (hwp : ∀ (E : Env) (a : Act) (w : World), HSim E O w → SlotsR E a (gstart n args O).s → c.wp P (Post E O w (retQ P rs.toList K)) a w) : GCalls P f args O K := by
 refine ⟨hen, fun E w vs h ha => calls_of_wp hf hb ?_⟩
 have hsl : SlotsR E { tmps := vs ++ Array.replicate (fn.ntmps - vs.size) undef, defers := [] } (gstart n args O).s := by
  refine ⟨?_, rfl, fun i g hg => ?_⟩
  · simp [gstart, hn, ha.1]
  · simp only [gstart] at hg;by_cases hi : i < args.length
    · rw [List.getElem?_append_left hi] at hg;have := ha.2 i g hg;have e : (vs ++ Array.replicate (fn.ntmps - vs.size) undef).getD i undef = vs.getD i undef := by
       simp only [Array.getD_eq_getD_getElem?]; rw [Array.getElem?_append_left (by rw [ha.1]; exact hi)]
      show VR E ((vs ++ Array.replicate (fn.ntmps - vs.size) undef).getD i undef) g;rw [e]; exact this
    · rw [List.getElem?_append_right (by omega)] at hg;have : g = .any := by
       have := List.mem_of_getElem? hg;exact List.eq_of_mem_replicate this
      subst this; exact .any _
 refine wp_mono (hwp E _ w h hsl) ?_
 rintro e a' w' ⟨ex, st', E', hx, h1, h2, h3, h4⟩
 have fin : resV P st' rs.toList (fun gs => K (resG gs) st'.o) → a'.defers = [] ∧ ∃ v, (results fn a'.tmps).run P w' = .ok v w' ∧
  ∃ v' E' O' g, Ending.returned v = .returned v' ∧ HSim E' O' w' ∧ Keep E O w E' O' w' ∧ VR E' v' g ∧ K g O' := by
  intro hk;obtain ⟨us, gs, q1, q2, q3, q4⟩ := QeU (P := P) h1 h3 rs.toList _ hk;have hrun : (results fn a'.tmps).run P w' = .ok (if h : us.toArray.size = 1 then us.toArray[0] else .tuple us.toArray) w' := by
   have hc : ∀ f : ResultVar → Sem Value, (∀ x, f x = Qhe a' x) → (List.mapM f rs.toList).run P w' = .ok us w' := fun f hf => by rw [show f = Qhe a' from funext hf]; exact q1
   unfold results;rw [hr, Array.mapM_eq_mapM_toList];simp only [Sem.run_bind, Sem.run_map, Sem.run_pure];rw [hc _ (fun x => by cases x <;> rfl)];simp only [Result.andThen_ok]
  refine ⟨h3.defers, _, hrun, _, E', st'.o, resG gs, rfl, h1, h2, ?_, q4⟩;cases us with
  | nil =>
   cases gs with
   | nil => exact .tuple _ _ rfl (by simp)
   | cons _ _ => simp at q2
  | cons u us =>
   cases gs with
   | nil => simp at q2
   | cons g gs =>
    cases us with
    | nil =>
     cases gs with
     | cons _ _ => simp at q2
     | nil =>
      obtain ⟨v, hv, hrr⟩ := q3 0 g rfl;simp at hv; subst hv;exact hrr
    | cons u2 us =>
     cases gs with
     | nil => simp at q2
     | cons g2 gs =>
      simp only [List.size_toArray, List.length_cons];rw [dif_neg (by omega)];refine .tuple _ _ (by simpa using q2) (fun j g' hj => ?_);obtain ⟨v, hv, hrr⟩ := q3 j g' hj;have e : (u :: u2 :: us).toArray.getD j (.tuple #[]) = v := by simp only [Array.getD_eq_getD_getElem?, List.getElem?_toArray, hv, Option.getD_some]
      rw [e]; exact hrr
 cases e with
 | normal => cases ex <;> first | exact hx.elim | exact fin h4
 | ret => cases ex <;> first | exact hx.elim | exact fin h4
 | exit m => cases ex <;> first | exact hx.elim | exact h4.elim
 | _ => cases ex <;> exact hx.elim
theorem Qhf (hmix : P.follows .mixedOrders = true) {f : FuncId} {fn : Func} {c : Code} {n : Nat} {rs : Array ResultVar} (C : Cfg) {args : List GVal} {O : List GObj} {K : GVal → List GObj → Prop}
 (hf : P.funcs[f]? = some fn) (hb : fn.body = some c) (hn : fn.ntmps = n) (hr : fn.results = rs) (hen : Qa8 P f = true) (hargs : args.length ≤ n) (hcok : codeOk C c = true)
 (hvc : vc P C c (retQ P rs.toList K) (gstart n args O)) : GCalls P f args O K :=
 gcalls_of_wp hf hb hn hr hen hargs fun E a w h ha => vc_sound hmix c _ (gstart n args O) E a w hcok h ha hvc
end
def gs0 := ai @gstart.eq_1 <| ai @List.cons_append.{0} <| ai @List.nil_append.{0} <| ai @List.length_cons.{0} <| ai @List.length_nil.{0} <| ai @List.replicate_succ.{0} <| @List.replicate_zero.{0}
end Gv
namespace Gv
open Go
def leG : GVal → GVal → Prop
 | _, .any => True
 | .slice xs _, .slice ys .none => xs = ys
 | x, y => x = y
theorem leG.sound {E : Env} {v : Value} {x y : GVal} (h : leG x y) (hv : VR E v x) : VR E v y := by
 unfold leG at h
 split at h
 · exact .any _
 · subst h;cases hv with
   | slice a len cap _ tag sz c hlen hcap hsz ha hc ht => exact .slice a len cap _ .none sz c hlen hcap hsz ha hc trivial
 · subst h; exact hv
theorem leG_self (x : GVal) : leG x x = True := by
 unfold leG
 split <;> simp_all
theorem leG_any (x : GVal) : leG x .any = True := by unfold leG; simp
theorem leG_none (xs ys : List (List GVal)) (t : Tag) : leG (.slice xs t) (.slice ys .none) = (xs = ys) := by
 unfold leG; split <;> simp_all
theorem Qaa (k k' : IntKind) (a b : Int) : leG (.int k a) (.int k' b) = (k = k' ∧ a = b) := by unfold leG; simp
theorem QcB (a b : Bool) : leG (.bool a) (.bool b) = (a = b) := by unfold leG; simp
def WL : List GVal → List GVal → Prop
 | [], [] => True
 | x :: xs, y :: ys => leG x y ∧ WL xs ys
 | _, _ => False
theorem WL.len : ∀ {xs ys : List GVal}, WL xs ys → xs.length = ys.length
 | [], [], _ => rfl
 | x :: xs, y :: ys, h => by simp [WL.len h.2]
 | [], _ :: _, h => h.elim
 | _ :: _, [], h => h.elim
theorem WL.at_ : ∀ {xs ys : List GVal}, WL xs ys → ∀ (i : Nat) y, ys[i]? = some y → ∃ x, xs[i]? = some x ∧ leG x y
 | [], [], _, i, y, h => by simp at h
 | x :: xs, z :: ys, h, 0, y, hy => by simp at hy; subst hy; exact ⟨x, rfl, h.1⟩
 | x :: xs, z :: ys, h, i + 1, y, hy => by simpa using WL.at_ h.2 i y (by simpa using hy)
 | [], _ :: _, h, _, _, _ => h.elim
 | _ :: _, [], h, _, _, _ => h.elim
theorem SlotsR.weak {E : Env} {a : Act} {s s' : List GVal} (h : SlotsR E a s) (hw : WL s s') : SlotsR E a s' := by
 refine ⟨by rw [h.size, hw.len], h.defers, fun i g hg => ?_⟩
 obtain ⟨x, hx, hl⟩ := hw.at_ i g hg
 exact hl.sound (h.at_ i x hx)
theorem HSim.drop {E : Env} {O X : List GObj} {w : World} (h : HSim E (O ++ X) w) : HSim E O w ∧ Keep E (O ++ X) w E O w := by
 have up : ∀ (i : Nat) x, O[i]? = some x → (O ++ X)[i]? = some x := fun i x hx => by
  rw [List.getElem?_append_left (List.getElem?_eq_some_iff.1 hx).1]; exact hx
 refine ⟨⟨by obtain ⟨n, h1, h2⟩ := h.fin; exact ⟨n, fun c hc => h1 c (by rw [Qg7] at hc ⊢; exact up 0 _ hc), h2⟩, h.sealed, h.one, fun i x hx => h.real i x (up i x hx), fun i j oi oj b hij hi hj => h.sep i j oi oj b hij (up i oi hi) (up j oj hj), h.glob⟩, ?_⟩
 exact ⟨.refl E, rfl, rfl, Nat.le_refl _, fun _ _ _ => rfl, fun _ _ _ h => .inl h, fun b ⟨i, x, hx, hb⟩ => .inl ⟨i, x, up i x hx, hb⟩, trivial⟩
section
variable {st : GSt} {N : GSt → Prop}
theorem Into.here (h : N st) : Into st N := fun E a w hs ha => ⟨st, E, h, hs, .refl _ _ _, ha⟩
theorem Into.at {ι : Type} {I : ι → GSt} {p : ι → Prop} (j : ι) (hp : p j) (ho : ∃ X, st.o = (I j).o ++ X) (hw : WL st.s (I j).s) : Into st (fun s => ∃ j, s = I j ∧ p j) := by
 intro E a w hs ha
 obtain ⟨X, hX⟩ := ho
 rw [hX] at hs
 obtain ⟨h1, h2⟩ := hs.drop
 exact ⟨I j, E, ⟨j, rfl, hp⟩, h1, by rw [hX]; exact h2, ha.weak hw⟩
theorem Into.first {ι : Type} {I : ι → GSt} (j : ι) (ho : ∃ X, st.o = (I j).o ++ X) (hw : WL st.s (I j).s) : Into st (fun s => ∃ j, s = I j) := by
 intro E a w hs ha
 obtain ⟨st', E', ⟨j', h, _⟩, h1, h2, h3⟩ := Into.at (I := I) (p := fun _ => True) j trivial ho hw E a w hs ha
 exact ⟨st', E', ⟨j', h⟩, h1, h2, h3⟩
theorem Into.tok (i sz : Nat) (xs : List (List GVal)) {tg : Tag} (hx : sget st.s i = .slice xs tg) (htg : tg.cap = .full) (h : stamp st.o fun t => Into ⟨st.s.set i (.slice xs (.tok st.o.length t)), tickO st.o ++ [.tok t sz]⟩ N) : Into st N := by
 intro E a w hs ha
 obtain ⟨t, hk, ht, hnx, hs, hkeep⟩ := hs.stamp h
 rw [← Qbm st.o] at hk
 obtain ⟨h1, h2⟩ := hs.objNil (.tok t sz) (l := ⟨none, 0, sz, 0⟩) ht hnx rfl ⟨_, Env.addLoc_self _ _ _, rfl, trivial⟩ (by simp [GObj.blk, Env.addLoc_self])
 have ha' : SlotsR (E.addLoc t ⟨none, 0, sz, 0⟩) a (st.s.set i (.slice xs (.tok (tickO st.o).length t))) := by
  refine ⟨by simp [ha.size], ha.defers, fun k g hg => ?_⟩;rw [List.getElem?_set] at hg;by_cases hk : i = k
  · subst hk;rw [if_pos rfl] at hg;split at hg
    · rename_i hlt;simp only [Option.some.injEq] at hg;subst hg;have := ha.at_ i _ (Qa2 (d := GVal.any) hlt);have hx' : st.s.getD i .any = .slice xs tg := hx;rw [hx'] at this
      revert this
      generalize a.tmps.getD i undef = tv;intro this;cases this with
      | slice a len cap xs tag sz c hlen hcap hsz ha hc htag =>
       have htag := htag.cap hcap;rw [htg] at htag;exact .slice a len cap xs _ sz c hlen hcap hsz ha (fun j g hj => (hc j g hj).mono h2.ext) ⟨_, Env.addLoc_self _ _ _, .inl htag⟩
    · cases hg
  · rw [if_neg hk] at hg;exact (ha.at_ k g hg).mono h2.ext
 obtain ⟨st', E', q1, q2, q3, q4⟩ := hk _ a w h1 ha'
 exact ⟨st', E', q1, q2, (hkeep.trans h2).trans q3, q4⟩
end
def GInto (g : GVal) (O : List GObj) (N : GVal → List GObj → Prop) : Prop :=
 ∀ E v w, HSim E O w → VR E v g → ∃ g' O' E', N g' O' ∧ HSim E' O' w ∧ Keep E O w E' O' w ∧ VR E' v g'
theorem GCalls.into {P : Program} {f : FuncId} {args : List GVal} {O : List GObj} {N : GVal → List GObj → Prop} (h : GCalls P f args O (fun g O' => GInto g O' N)) : GCalls P f args O N :=
 ⟨h.1, fun E w vs hs ha => (h.2 E w vs hs ha).mono fun e w' ⟨v, E', O', g, h1, h2, h3, h4, h5⟩ => by
  obtain ⟨g', O2, E2, q1, q2, q3, q4⟩ := h5 E' v w' h2 h4;exact ⟨v, E2, O2, g', h1, q2, h3.trans q3, q4, q1⟩⟩
theorem GInto.here {g : GVal} {O : List GObj} {N : GVal → List GObj → Prop} (h : N g O) : GInto g O N := fun E v w hs hv => ⟨g, O, E, h, hs, .refl _ _ _, hv⟩
theorem GInto.weak {g g' : GVal} {O X : List GObj} {N : GVal → List GObj → Prop} (hg : leG g g') (h : GInto g' O N) : GInto g (O ++ X) N := fun E v w hs hv => by
 obtain ⟨h1, h2⟩ := hs.drop
 obtain ⟨g2, O2, E2, q1, q2, q3, q4⟩ := h E v w h1 (hg.sound hv)
 exact ⟨g2, O2, E2, q1, q2, h2.trans q3, q4⟩
def GPure (P : Program) (f : FuncId) (args : List GVal) (r : GVal) : Prop := GCalls P f args [] (fun g O' => g = r ∧ O' = [])
theorem HSim.nil {E : Env} {O : List GObj} {w : World} (h : HSim E O w) : HSim E [] w := ⟨by obtain ⟨n, _, h2⟩ := h.fin; exact ⟨n, (fun c hc => by cases hc), h2⟩, h.sealed, h.one, fun i x hx => by simp at hx, fun i j oi oj b _ hi => by simp at hi, h.glob⟩
theorem GPure.frame {P : Program} {f : FuncId} {args : List GVal} {r : GVal} (h : GPure P f args r) (O : List GObj) (hc : Qad O = none) : GCalls P f args O (fun g O' => g = r ∧ O' = O) := by
 refine ⟨h.1, fun E w vs hs ha => (h.2 E w vs hs.nil ha).mono ?_⟩
 rintro e w' ⟨v, E', O', g, rfl, h1, h2, h3, rfl, rfl⟩
 have hno : ∀ b, ¬ InO E [] b := fun b ⟨i, x, hx, _⟩ => by simp at hx
 have hold : ∀ b, b < w.heap.size → w'.heap[b]? = w.heap[b]? := fun b hb => h2.heap b hb (hno b)
 have hsn : ∀ b o v, b < w.heap.size → E'.snap b o = some v → E.snap b o = some v := fun b o v hb hv => by
  rcases h2.snap b o v hv with q | q | q
  · exact q
  · omega
  · exact absurd q (hno b)
 have hreal : ∀ (i : Nat) x, O[i]? = some x → Qap E' w' x := fun i x hx =>
  (hs.real i x hx).keep h2.ext (fun b hb => hold b ((hs.real i x hx).blk_lt hb)) (fun b o v hb hv => hsn b o v ((hs.real i x hx).blk_lt hb) hv)
 have hb : ∀ (i : Nat) x, O[i]? = some x → x.blk E' = x.blk E := fun i x hx => GObj.blk_mono h2.ext (hs.real i x hx)
 refine ⟨v, E', O, g, rfl, ⟨by obtain ⟨n, _, q⟩ := h1.fin; exact ⟨n, (fun c e => by rw [hc] at e; cases e), q⟩, h1.sealed, h1.one, hreal, fun i j oi oj b hij hi hj hbi hbj => ?_, h1.glob⟩, ⟨h2.ext, h2.os, h2.out, h2.size, fun b hb _ => hold b hb, fun b o v hv => ?_, fun b ⟨i, x, hx, hbx⟩ => .inl ⟨i, x, hx, by rw [← hb i x hx]; exact hbx⟩, h2.frz⟩, h3, rfl, rfl⟩
 · rw [hb i oi hi] at hbi;rw [hb j oj hj] at hbj;exact hs.sep i j oi oj b hij hi hj hbi hbj
 · rcases h2.snap b o v hv with q | q | q
   · exact .inl q
   · exact .inr (.inl q)
   · exact absurd q (hno b)
theorem GPure.then {P : Program} {f : FuncId} {args : List GVal} {r : GVal} (h : GPure P f args r) {O : List GObj} {K : GVal → List GObj → Prop} (hk : K r O) (hc : Qad O = none := by rfl) : GCalls P f args O K :=
 (h.frame O hc).mono fun g O' ⟨e1, e2⟩ => by subst e1; subst e2; exact hk
def ints (l : List Int) : List (List GVal) := l.map fun n => [.int .i64 n]
theorem Qh0 (l : List Int) : (ints l).length = l.length := by simp [ints]
theorem Qdb (l : List Int) (i : Nat) (h : i < l.length) : (ints l).getD i [] = [.int .i64 (l.getD i 0)] := by
 simp [ints, List.getD, h]
end Gv
namespace Gv
open Go
def Tag.frz : Tag → Tag
 | .tok _ _ => .none
 | t => t
def frzL (f : GVal → Option GVal) : List GVal → Option (List GVal)
 | [] => some []
 | g :: r => match f g, frzL f r with
  | some g', some r' => some (g' :: r')
  | _, _ => none
def frzLL (f : GVal → Option GVal) : List (List GVal) → Option (List (List GVal))
 | [] => some []
 | g :: r => match frzL f g, frzLL f r with
  | some g', some r' => some (g' :: r')
  | _, _ => none
def frz (O : List GObj) : Nat → GVal → Option GVal
 | 0, _ => none
 | n + 1, g => match g with
  | .slice xs tag => match frzLL (frz O n) xs with
   | some ys => some (.slice ys tag.frz)
   | none => none
  | .own o st off len => match O[o]? with
   | some (.row st' _ xs) => if st = st' ∧ off + len ≤ xs.length then (match frzLL (frz O n) ((xs.drop off).take len) with
    | some ys => some (.slice ys .none)
    | none => none) else none
   | _ => none
  | .ptr o st i j => match O[o]? with
   | some (.row st' _ xs) => if st = st' ∧ i < xs.length then (match frzL (frz O n) ((xs.getD i []).drop j) with
    | some ys => some (.ref ys)
    | none => none) else none
   | _ => none
  | .agg cs => match frzL (frz O n) cs with
   | some ys => some (.agg ys)
   | none => none
  | .tuple cs => match frzL (frz O n) cs with
   | some ys => some (.tuple ys)
   | none => none
  | .ref cs => match frzL (frz O n) cs with
   | some ys => some (.ref ys)
   | none => none
  | .func fn a b => match frzL (frz O n) a, frzL (frz O n) b with
   | some a', some b' => some (.func fn a' b')
   | _, _ => none
  | .iface t v => match frz O n v with
   | some v' => some (.iface t v')
   | none => none
  | .map _ _ => none
  | .cond _ _ => none
  | g => some g
theorem QbD {f : GVal → Option GVal} : ∀ {xs ys : List GVal}, frzL f xs = some ys → xs.length = ys.length
 | [], ys, h => by simp [frzL] at h; subst h; rfl
 | x :: xs, ys, h => by
  unfold frzL at h;split at h
  · rename_i a b h1 h2; cases h; simp [QbD h2]
  · cases h
theorem QfN {f : GVal → Option GVal} : ∀ {xs ys : List GVal}, frzL f xs = some ys → ∀ (j : Nat) y, ys[j]? = some y → ∃ x, xs[j]? = some x ∧ f x = some y
 | [], ys, h, j, y, hy => by simp [frzL] at h; subst h; simp at hy
 | x :: xs, ys, h, j, y, hy => by
  unfold frzL at h;split at h
  · rename_i a b h1 h2;cases h;cases j with
    | zero => simp at hy; subst hy; exact ⟨x, rfl, h1⟩
    | succ j => obtain ⟨z, q1, q2⟩ := QfN h2 j y (by simpa using hy); exact ⟨z, by simpa using q1, q2⟩
  · cases h
theorem Qiy {f : GVal → Option GVal} : ∀ {xs ys xs' ys' : List GVal}, frzL f xs = some ys → frzL f xs' = some ys' → frzL f (xs ++ xs') = some (ys ++ ys')
 | [], ys, xs', ys', h, h' => by simp [frzL] at h; subst h; exact h'
 | x :: xs, ys, xs', ys', h, h' => by
  unfold frzL at h;split at h
  · rename_i a b h1 h2; cases h;rw [List.cons_append, frzL, h1, Qiy h2 h']; rfl
  · cases h
theorem QdE {f : GVal → Option GVal} : ∀ {xs ys : List (List GVal)}, frzLL f xs = some ys → frzL f xs.flatten = some ys.flatten
 | [], ys, h => by simp [frzLL] at h; subst h; rfl
 | x :: xs, ys, h => by
  unfold frzLL at h;split at h
  · rename_i a b h1 h2; cases h;rw [List.flatten_cons, List.flatten_cons]; exact Qiy h1 (QdE h2)
  · cases h
theorem Qev {f : GVal → Option GVal} : ∀ {xs ys : List (List GVal)}, frzLL f xs = some ys → xs.length = ys.length
 | [], ys, h => by simp [frzLL] at h; subst h; rfl
 | x :: xs, ys, h => by
  unfold frzLL at h;split at h
  · rename_i a b h1 h2; cases h; simp [Qev h2]
  · cases h
theorem Qf2 {f : GVal → Option GVal} {sz : Nat} : ∀ {xs ys : List (List GVal)}, frzLL f xs = some ys → (∀ x ∈ xs, x.length = sz) → ∀ y ∈ ys, y.length = sz
 | [], ys, h, _, y, hy => by simp [frzLL] at h; subst h; simp at hy
 | x :: xs, ys, h, hs, y, hy => by
  unfold frzLL at h;split at h
  · rename_i a b h1 h2; cases h;rcases List.mem_cons.1 hy with rfl | hy
    · rw [← QbD h1]; exact hs x (by simp)
    · exact Qf2 h2 (fun z hz => hs z (by simp [hz])) y hy
  · cases h
section
variable {P : Program} {E : Env} {O : List GObj} {w : World}
def QnU (E : Env) (O : List GObj) (b o : Nat) : Prop :=
 ∃ (i st sz : Nat) (xs : List (List GVal)) (l : GLoc), O[i]? = some (.row st sz xs) ∧ E.loc st = some l ∧ l.block = some b ∧ l.off ≤ o ∧ o < l.off + xs.length * sz
open Classical in
noncomputable def Env.frz (E : Env) (O : List GObj) (w : World) : Env :=
 { E with snap := fun b o => match E.snap b o with
  | some v => some v
  | none => if QnU E O b o then w.cell? ⟨b, o, none⟩ else none }
theorem Env.frz_le (E : Env) (O : List GObj) (w : World) : E.le (E.frz O w) := ⟨fun b o v h => by simp only [Env.frz, h], fun _ _ h => h⟩
theorem Env.frz_row {b o : Nat} {v : Value} (hr : QnU E O b o) (hc : w.cell? ⟨b, o, none⟩ = some v) (hs : ∀ u, E.snap b o = some u → u = v) : (E.frz O w).snap b o = some v := by
 simp only [Env.frz]
 cases h : E.snap b o with
 | some u => rw [hs u h]
 | none => simp only [if_pos hr]; exact hc
theorem HSim.frz (h : HSim E O w) : HSim (E.frz O w) [] w ∧ Keep E O w (E.frz O w) [] w := by
 have hrow : ∀ b o v, (E.frz O w).snap b o = some v → E.snap b o = some v ∨ (QnU E O b o ∧ w.cell? ⟨b, o, none⟩ = some v) := by
  intro b o v hv;simp only [Env.frz] at hv;cases hs : E.snap b o with
  | some u => rw [hs] at hv; exact .inl hv
  | none =>
   rw [hs] at hv;simp only at hv
   split at hv
   · rename_i hr; exact .inr ⟨hr, hv⟩
   · cases hv
 refine ⟨⟨?_, fun b o v hv => ?_, fun b o v hv => ?_, fun i x hx => by simp at hx, fun i j oi oj b _ hi => by simp at hi, h.globLe (Env.frz_le E O w)⟩,
  ⟨Env.frz_le E O w, rfl, rfl, Nat.le_refl _, fun _ _ _ => rfl, fun b o v hv => ?_, fun b ⟨i, x, hx, _⟩ => by simp at hx, trivial⟩⟩
 · obtain ⟨n, _, h2⟩ := h.fin; exact ⟨n, (fun c hc => by cases hc), h2⟩
 · rcases hrow b o v hv with h1 | ⟨_, h2⟩
   · exact h.sealed b o v h1
   · exact h2
 · rcases hrow b o v hv with h1 | ⟨⟨i, st, sz, xs, l, hO, hl, hb, ho1, ho2⟩, h2⟩
   · exact h.one b o v h1
   · obtain ⟨l', hl', _, hsz, hr⟩ := h.real _ _ hO;rw [hl] at hl'; cases hl';rw [hb] at hr;obtain ⟨cur, el, hw, _, _, hra, _⟩ := hr;have hlen := Qau xs hsz;obtain ⟨v', hv', h1, _⟩ := hra (o - l.off) (xs.flatten[o - l.off]'(by omega)) (List.getElem?_eq_getElem (by omega));rw [show l.off + (o - l.off) = o by omega] at hv';have : w.cell? ⟨b, o, none⟩ = some v' := by simp [World.cell?, hw, hv']
     rw [this] at h2; cases h2; exact h1
 · rcases hrow b o v hv with h1 | ⟨⟨i, st, sz, xs, l, hO, hl, hb, _, _⟩, _⟩
   · exact .inl h1
   · exact .inr (.inr ⟨i, _, hO, by simp [GObj.blk, hl, hb]⟩)
theorem Qew (h : HSim E O w) {i st sz : Nat} {xs : List (List GVal)} {l : GLoc} {b : Nat} (hO : O[i]? = some (.row st sz xs)) (hl : E.loc st = some l) (hb : l.block = some b) {j : Nat} {g : GVal} (hj : xs.flatten[j]? = some g) :
 ∃ v, (E.frz O w).snap b (l.off + j) = some v ∧ VR E v g := by
 obtain ⟨l', hl', _, hsz, hr⟩ := h.real _ _ hO
 rw [hl] at hl'; cases hl'
 rw [hb] at hr
 obtain ⟨cur, el, hw, _, _, hra, hn⟩ := hr
 have hlen := Qau xs hsz
 obtain ⟨v, hv, _, hvr⟩ := hra j g hj
 have hlt := (List.getElem?_eq_some_iff.1 hj).1
 refine ⟨v, Env.frz_row ⟨i, st, sz, xs, l, hO, hl, hb, by omega, by omega⟩ (by simp [World.cell?, hw, hv]) (fun u hu => by rw [hn] at hu; cases hu), hvr⟩
theorem Qb1 (h : HSim E O w) : ∀ (n : Nat) (v : Value) (g g' : GVal), VR E v g → frz O n g = some g' → VR (E.frz O w) v g'
 | 0, v, g, g', hv, hg => by cases hg
 | n + 1, v, g, g', hv, hg => by
  have hle := Env.frz_le E O w;have ih := Qb1 h n;have cells : ∀ (xs ys : List GVal) (c : Nat → Value), frzL (frz O n) xs = some ys → (∀ j g, xs[j]? = some g → VR E (c j) g) → ∀ j g, ys[j]? = some g → VR (E.frz O w) (c j) g := by
   intro xs ys c hf hc j g hj;obtain ⟨x, hx, hxy⟩ := QfN hf j g hj;exact ih _ _ _ (hc j x hx) hxy
  unfold frz at hg;cases hv with
  | any v => cases hg; exact .any _
  | bool b => cases hg; exact .bool _
  | ubool b => cases hg; exact .ubool _
  | int k n => cases hg; exact .int _ _
  | str s => cases hg; exact .str _
  | lit v => cases hg; exact .lit _
  | slice a len cap xs tag sz c hlen hcap hsz ha hc ht =>
   simp only at hg
   split at hg
   · rename_i ys hys;cases hg;refine .slice a len cap ys _ sz c (by rw [hlen, Qev hys]) hcap (Qf2 hys hsz) (fun hx => ?_) (cells _ _ c (QdE hys) hc) ?_
     · obtain ⟨b, off, e, hs⟩ := ha (fun e => hx (by subst e; simp [frzLL] at hys; exact hys));exact ⟨b, off, e, fun j hj => hle.snap _ _ _ (hs j hj)⟩
     · cases tag with
       | none => trivial
       | full => exact ht
       | nil => exact ht
       | tok o st => trivial
   · cases hg
  | own a len cap o st i l hl hcap ha =>
   simp only at hg
   split at hg
   · rename_i st' sz xs hO;split at hg
     · rename_i hc;obtain ⟨rfl, hle2⟩ := hc;split at hg
       · rename_i ys hys;cases hg;obtain ⟨l', hl', hsz', hsz, hr⟩ := h.real _ _ hO;rw [hl] at hl'; cases hl';have hlen : ((xs.drop i).take len).length = len := by rw [List.length_take, List.length_drop]; omega
         have hsz2 : ∀ x ∈ (xs.drop i).take len, x.length = sz := fun x hx => hsz x (List.mem_of_mem_drop (List.mem_of_mem_take hx))
         have hylen := Qev hys;have hyl : len = ys.length := by rw [← hylen, hlen]
         by_cases hz : len = 0
         · subst hz;have : ys = [] := List.length_eq_zero_iff.1 hyl.symm;subst this;exact .slice a 0 cap [] .none sz (fun _ => .tuple #[]) rfl hcap (by simp) (fun e => absurd rfl e) (fun j g hj => by simp at hj) trivial
         · rcases ha with h0 | ⟨b, hb, rfl, _⟩
           · omega
           · have hflat : ((xs.drop i).take len).flatten = (xs.flatten.drop (i * sz)).take (len * sz) := by
              rw [QbI _ len (fun x hx => hsz x (List.mem_of_mem_drop hx)) (by rw [List.length_drop]; omega), QbJ _ i hsz (by omega)]
             have hfl := Qau xs hsz;have hin : i * sz + len * sz ≤ xs.length * sz := by rw [← Nat.add_mul]; exact Nat.mul_le_mul_right _ hle2
             have hat : ∀ j, j < len * sz → ∃ v, (E.frz O w).snap b (l.off + (i * sz + j)) = some v ∧ VR E v (xs.flatten.getD (i * sz + j) .any) := by
              intro j hj;have hlt : i * sz + j < xs.flatten.length := by omega
              exact Qew h hO hl hb (Qa2 hlt)
             refine .slice _ len cap ys .none sz (fun j => ((E.frz O w).snap b (l.off + (i * sz + j))).getD (.tuple #[])) hyl hcap (Qf2 hys hsz2) (fun _ => ⟨b, _, rfl, fun j hj => ?_⟩) ?_ trivial
             · obtain ⟨v, hv, _⟩ := hat j hj;rw [hsz', Nat.add_assoc, hv]; rfl
             · refine cells _ _ _ (QdE hys) (fun j g hj => ?_);rw [hflat, List.getElem?_take] at hj;split at hj
               · rename_i hjl;rw [List.getElem?_drop] at hj;obtain ⟨v, hv, hvr⟩ := hat j hjl;rw [hv]
                 simpa [List.getD, hj] using hvr
               · cases hj
       · cases hg
     · cases hg
   · cases hg
  | agg vs cs hs hc =>
   simp only at hg
   split at hg
   · rename_i ys hys; cases hg;exact .agg vs ys (by rw [hs, QbD hys]) (cells _ _ _ hys hc)
   · cases hg
  | tuple vs cs hs hc =>
   simp only at hg
   split at hg
   · rename_i ys hys; cases hg;exact .tuple vs ys (by rw [hs, QbD hys]) (cells _ _ _ hys hc)
   · cases hg
  | ref b off cs c ha hc =>
   simp only at hg
   split at hg
   · rename_i ys hys; cases hg;exact .ref b off ys c (fun j hj => hle.snap _ _ _ (ha j (by rw [QbD hys]; exact hj))) (cells _ _ _ hys hc)
   · cases hg
  | ptr b off o st i j l hl hb ho =>
   simp only at hg
   split at hg
   · rename_i st' sz xs hO;split at hg
     · rename_i hc;obtain ⟨rfl, hi⟩ := hc;split at hg
       · rename_i ys hys;cases hg;obtain ⟨l', hl', hsz', hsz, hr⟩ := h.real _ _ hO;rw [hl] at hl'; cases hl';have hget : xs[i]? = some (xs.getD i []) := Qa2 hi;have hx : (xs.getD i []).length = sz := hsz _ (QbG hi);have hat : ∀ k, k < sz → xs.flatten[i * sz + k]? = (xs.getD i [])[k]? := fun k hk => QbA xs hsz i k _ hget hk
         have hyl := QbD hys;rw [List.length_drop, hx] at hyl;refine .ref b off ys (fun k => ((E.frz O w).snap b (off + k)).getD (.tuple #[])) (fun k hk => ?_) ?_
         · have hlt : j + k < sz := by omega
           obtain ⟨v, hv, _⟩ := Qew h hO hl hb (j := i * sz + (j + k)) (g := (xs.getD i [])[j + k]'(by omega)) (by rw [hat _ hlt]; exact List.getElem?_eq_getElem (by omega));have e : l.off + (i * sz + (j + k)) = off + k := by rw [ho, hsz']; omega
           rw [e] at hv;rw [hv]; rfl
         · refine cells _ _ _ hys (fun k g hk => ?_);rw [List.getElem?_drop] at hk;have hlt : j + k < sz := by rw [← hx]; exact (List.getElem?_eq_some_iff.1 hk).1
           obtain ⟨v, hv, hvr⟩ := Qew h hO hl hb (j := i * sz + (j + k)) (g := g) (by rw [hat _ hlt]; exact hk);have e : l.off + (i * sz + (j + k)) = off + k := by rw [ho, hsz']; omega
           rw [e] at hv;rw [hv]; exact hvr
       · cases hg
     · cases hg
   · cases hg
  | map r o st l hl hb => cases hg
  | func fn fs cs gs ks hf hk hfs hcs =>
   simp only at hg
   split at hg
   · rename_i a b h1 h2; cases hg;exact .func fn fs cs a b (by rw [hf, QbD h1]) (by rw [hk, QbD h2]) (cells _ _ _ h1 hfs) (cells _ _ _ h2 hcs)
   · cases hg
  | iface t v g hv =>
   simp only at hg
   split at hg
   · rename_i v' h1; cases hg;exact .iface t v v' (ih _ _ _ hv h1)
   · cases hg
  | cond c v g hv => cases hg
theorem GInto.frz {g g' : GVal} {n : Nat} {N : GVal → List GObj → Prop} (hg : Gv.frz O n g = some g') (h : N g' []) : GInto g O N := fun E v w hs hv => by
 obtain ⟨h1, h2⟩ := hs.frz
 exact ⟨g', [], _, h, h1, h2, Qb1 hs n v g g' hv hg⟩
theorem GCalls.frz {f : FuncId} {args : List GVal} {X : List GObj} {r r' : GVal} {n : Nat} (h : GCalls P f args O (fun g O' => g = r ∧ O' = X)) (hr : Gv.frz X n r = some r') : GCalls P f args O (fun g O' => g = r' ∧ O' = []) :=
 (h.mono fun g O' ⟨e1, e2⟩ => by subst e1; subst e2; exact GInto.frz hr ⟨rfl, rfl⟩).into
end
end Gv
namespace Gv
open Go
variable {P : Program}
structure Spare (E : Env) (X : List GObj) (w : World) (v : Value) (sz : Nat) (ys : List (List GVal)) (l : GLoc) : Prop where
 size : l.size = sz
 block : ∀ b, l.block = some b → InO E X b ∧ ∃ cur el, w.heap[b]? = some (.cells cur el (0, 0)) ∧ cur.size = l.total ∧ ∀ o, l.off ≤ o → (E.frz X w).snap b o = none
 val : VR (E.frz X w) v (.slice ys .none)
 tag : ∀ a len cap, v = .slice a len cap → cap = len ∨ ∃ b off, a = some ⟨b, off, none⟩ ∧ l.block = some b ∧ l.off = off + len * l.size ∧ off + cap * l.size ≤ l.total
end Gv
