/- Operations one by one. -/
import Derived.Test.YtcjiabpfahmjnaaGvSlim
set_option linter.unusedVariables false
namespace Gv
open Go
theorem op_move (P : Program) (R : List Nat) (st : GSt) (d : Option Nat) (K : GVal → List GObj → Prop) (x : Operand) : opS P R st d (.move x) K = K (st.ev x) st.o := by exact id rfl
theorem op_assign (P : Program) (R : List Nat) (st : GSt) (d : Option Nat) (K : GVal → List GObj → Prop) (x : Operand) : opS P R st d (.assign x) K = K (st.ev x) st.o := by exact id rfl
theorem op_binOp (P : Program) (R : List Nat) (st : GSt) (d : Option Nat) (K : GVal → List GObj → Prop) (o : BinOp) (t u : TypeId) (x y : Operand) : opS P R st d (.binOp o t x y u) K = binV P o t (st.ev x) (st.ev y) (fun g => K g st.o) := by exact id rfl
theorem op_unOp (P : Program) (R : List Nat) (st : GSt) (d : Option Nat) (K : GVal → List GObj → Prop) (o : UnOp) (t : TypeId) (x : Operand) : opS P R st d (.unOp o t x) K = unV o (st.ev x) (fun g => K g st.o) := by exact id rfl
theorem op_convert (P : Program) (R : List Nat) (st : GSt) (d : Option Nat) (K : GVal → List GObj → Prop) (s t : TypeId) (x : Operand) : opS P R st d (.convert s t x) K = convV P s t (st.ev x) (fun g => K g st.o) := by exact id rfl
theorem op_load (P : Program) (R : List Nat) (st : GSt) (d : Option Nat) (K : GVal → List GObj → Prop) (t : TypeId) (x : Operand) : opS P R st d (.load t x) K = loadV P t (st.ev x) st.o (fun g => K g st.o) := by exact id rfl
theorem op_store (P : Program) (R : List Nat) (st : GSt) (d : Option Nat) (K : GVal → List GObj → Prop) (t : TypeId) (x y : Operand) : opS P R st d (.store t x y) K = storeV P t (st.ev x) (st.ev y) st.o (fun O' => K .any O') := by exact id rfl
theorem op_fieldAddr (P : Program) (R : List Nat) (st : GSt) (d : Option Nat) (K : GVal → List GObj → Prop) (s : TypeId) (x : Operand) (f : Nat) : opS P R st d (.fieldAddr s x f) K = fieldAddrV P s (st.ev x) f (fun g => K g st.o) := by exact id rfl
theorem op_field (P : Program) (R : List Nat) (st : GSt) (d : Option Nat) (K : GVal → List GObj → Prop) (s : TypeId) (x : Operand) (f : Nat) : opS P R st d (.field s x f) K = fieldV P s (st.ev x) f (fun g => K g st.o) := by exact id rfl
theorem op_indexAddr (P : Program) (R : List Nat) (st : GSt) (d : Option Nat) (K : GVal → List GObj → Prop) (t : TypeId) (x i : Operand) : opS P R st d (.indexAddr t x i) K = indexAddrV P t (st.ev x) (st.ev i) st.o (fun g => K g st.o) := by exact id rfl
theorem op_index (P : Program) (R : List Nat) (st : GSt) (d : Option Nat) (K : GVal → List GObj → Prop) (t : TypeId) (x i : Operand) : opS P R st d (.index t x i) K = indexV P t (st.ev x) (st.ev i) (fun g => K g st.o) := by exact id rfl
theorem op_extract (P : Program) (R : List Nat) (st : GSt) (d : Option Nat) (K : GVal → List GObj → Prop) (x : Operand) (i : Nat) : opS P R st d (.extract x i) K = extractV (st.ev x) i (fun g => K g st.o) := by exact id rfl
theorem op_alloc (P : Program) (R : List Nat) (st : GSt) (d : Option Nat) (K : GVal → List GObj → Prop) (t : TypeId) : opS P R st d (.alloc t) K = allocV P t st.o K := by exact id rfl
theorem op_lookup (P : Program) (R : List Nat) (st : GSt) (d : Option Nat) (K : GVal → List GObj → Prop) (t : TypeId) (x y : Operand) (ok : Bool) : opS P R st d (.lookup t x y ok) K = lookupV P t (st.ev x) (st.ev y) ok st.o (fun g => K g st.o) := by exact id rfl
theorem op_mapUpdate (P : Program) (R : List Nat) (st : GSt) (d : Option Nat) (K : GVal → List GObj → Prop) (t : TypeId) (x y z : Operand) : opS P R st d (.mapUpdate t x y z) K = mapUpdateV P t (st.ev x) (st.ev y) (st.ev z) st.o (fun O' => K .any O') := by exact id rfl
theorem op_insert (P : Program) (R : List Nat) (st : GSt) (d : Option Nat) (K : GVal → List GObj → Prop) (t : TypeId) (x y z : Operand) : opS P R st d (.insert t x y z) K = mapUpdateV P t (st.ev x) (st.ev y) (st.ev z) st.o (fun O' => K .any O') := by exact id rfl
theorem op_makeMap (P : Program) (R : List Nat) (st : GSt) (d : Option Nat) (K : GVal → List GObj → Prop) (t : TypeId) : opS P R st d (.makeMap t none) K = makeMapV st.o K := by exact id rfl
theorem op_box (P : Program) (R : List Nat) (st : GSt) (d : Nat) (K : GVal → List GObj → Prop) (t : TypeId) (x : Operand) : opS P R st (some d) (.box t x) K = boxV (R.contains d) (st.ev x) st.o K := by exact id rfl
theorem op_build (P : Program) (R : List Nat) (st : GSt) (d : Option Nat) (K : GVal → List GObj → Prop) (t : TypeId) (ps : List (Nat × Operand)) : opS P R st d (.build t ps.toArray) K = buildV P t (ps.map fun p => (p.1, st.ev p.2)) (fun g => K g st.o) := by exact id rfl
theorem op_buildSlice (P : Program) (R : List Nat) (st : GSt) (d : Option Nat) (K : GVal → List GObj → Prop) (t : TypeId) (n : Nat) (ps : List (Nat × Operand)) : opS P R st d (.buildSlice t n ps.toArray) K = buildSliceV P t n (ps.map fun p => (p.1, st.ev p.2)) (fun g => K g st.o) := by exact id rfl
theorem op_slice (P : Program) (R : List Nat) (st : GSt) (d : Option Nat) (K : GVal → List GObj → Prop) (t : TypeId) (x : Operand) (lo hi mx : Option Operand) : opS P R st d (.slice t x lo hi mx) K = sliceV P t (st.ev x) (optV st lo) (optV st hi) (optV st mx) st.o (fun g => K g st.o) := by exact id rfl
theorem op_nilCheck (P : Program) (R : List Nat) (st : GSt) (d : Option Nat) (K : GVal → List GObj → Prop) (x : Operand) : opS P R st d (.nilCheck x) K = nilV (st.ev x) (fun g => K g st.o) := by exact id rfl
theorem op_makeInterface (P : Program) (R : List Nat) (st : GSt) (d : Option Nat) (K : GVal → List GObj → Prop) (t : TypeId) (x : Operand) : opS P R st d (.makeInterface t x) K = ifaceV P t (st.ev x) (fun g => K g st.o) := by exact id rfl
theorem op_makeFunc (P : Program) (R : List Nat) (st : GSt) (d : Option Nat) (K : GVal → List GObj → Prop) (fn : Fn) (fs cs : List Operand) : opS P R st d (.makeFunc fn fs.toArray cs.toArray) K = K (.func fn (fs.map st.ev) (cs.map st.ev)) st.o := by exact id rfl
theorem op_pick (P : Program) (R : List Nat) (st : GSt) (d : Option Nat) (K : GVal → List GObj → Prop) (c a b : Operand) : opS P R st d (.pick c a b) K = match st.ev c with | .bool t => gif t (K (st.ev a) st.o) (K (st.ev b) st.o) | _ => False := by exact id rfl
theorem op_len (P : Program) (R : List Nat) (st : GSt) (d : Option Nat) (K : GVal → List GObj → Prop) (t : TypeId) (x : Operand) : opS P R st d (.call ⟨.builtin .len, #[x], #[t]⟩) K = lenV P t (st.ev x) st.o (fun g => K g st.o) := by exact id rfl
theorem op_cap (P : Program) (R : List Nat) (st : GSt) (d : Option Nat) (K : GVal → List GObj → Prop) (t : TypeId) (x : Operand) : opS P R st d (.call ⟨.builtin .cap, #[x], #[t]⟩) K = capV P t (st.ev x) (fun g => K g st.o) := by exact id rfl
theorem op_min (P : Program) (R : List Nat) (st : GSt) (d : Option Nat) (K : GVal → List GObj → Prop) (ts : Array TypeId) (x y : Operand) : opS P R st d (.call ⟨.builtin .min, #[x, y], ts⟩) K = minV false [st.ev x, st.ev y] (fun g => K g st.o) := by exact id rfl
theorem op_max (P : Program) (R : List Nat) (st : GSt) (d : Option Nat) (K : GVal → List GObj → Prop) (ts : Array TypeId) (x y : Operand) : opS P R st d (.call ⟨.builtin .max, #[x, y], ts⟩) K = minV true [st.ev x, st.ev y] (fun g => K g st.o) := by exact id rfl
theorem op_delete (P : Program) (R : List Nat) (st : GSt) (d : Option Nat) (K : GVal → List GObj → Prop) (t u : TypeId) (x y : Operand) : opS P R st d (.call ⟨.builtin .delete, #[x, y], #[t, u]⟩) K = deleteV P t (st.ev x) (st.ev y) st.o (fun O' => K (.tuple []) O') := by exact id rfl
theorem op_append (P : Program) (R : List Nat) (st : GSt) (d : Nat) (K : GVal → List GObj → Prop) (t u : TypeId) (x y : Operand) : opS P R st (some d) (.call ⟨.builtin .append, #[x, y], #[t, u]⟩) K = appendV P (R.contains d) t u (st.ev x) (st.ev y) st.o K := by exact id rfl
theorem op_func (P : Program) (R : List Nat) (st : GSt) (d : Option Nat) (K : GVal → List GObj → Prop) (f : FuncId) (as : List Operand) (ts : Array TypeId) : opS P R st d (.call ⟨.value (.func f), as.toArray, ts⟩) K = GCalls P f (as.map st.ev) st.o K := by
  show GCalls P f ([] ++ as.map st.ev ++ []) st.o K = _
  rw [List.nil_append, List.append_nil]
theorem op_closure (P : Program) (R : List Nat) (st : GSt) (d : Option Nat) (K : GVal → List GObj → Prop) (t : Nat) (as : List Operand) (ts : Array TypeId) : opS P R st d (.call ⟨.value (.tmp t), as.toArray, ts⟩) K = match st.ev (.tmp t) with | .func (.func n) first caps => GCalls P n (first ++ as.map st.ev ++ caps) st.o K | _ => False := by exact id rfl
theorem ev_tmp (s : List GVal) (o : List GObj) (n : Nat) : (⟨s, o⟩ : GSt).ev (.tmp n) = sget s n := by exact id rfl
theorem ev_const (st : GSt) (v : Value) : st.ev (.const v) = .ofConst v := by exact id rfl
theorem ev_func (st : GSt) (f : FuncId) : st.ev (.func f) = .func (.func f) [] [] := by exact id rfl
theorem put_some (s : List GVal) (o : List GObj) (d : Nat) (g : GVal) (O' : List GObj) : GSt.put ⟨s, o⟩ (some d) g O' = ⟨s.set d g, O'⟩ := by exact id rfl
theorem put_none (s : List GVal) (o : List GObj) (g : GVal) (O' : List GObj) : GSt.put ⟨s, o⟩ none g O' = ⟨s, O'⟩ := by exact id rfl
theorem setS_mk (s : List GVal) (o : List GObj) (d : Nat) (g : GVal) : GSt.setS ⟨s, o⟩ d g = ⟨s.set d g, o⟩ := by exact id rfl
theorem ibin_add (P : Program) (t : TypeId) (k : IntKind) (a b : Int) (K : GVal → Prop) : binV P .add t (.int k a) (.int k b) K = K (.int k (norm k (a + b))) := by simp only [binV, true_and]
theorem ibin_sub (P : Program) (t : TypeId) (k : IntKind) (a b : Int) (K : GVal → Prop) : binV P .sub t (.int k a) (.int k b) K = K (.int k (norm k (a - b))) := by simp only [binV, true_and]
theorem ibin_mul (P : Program) (t : TypeId) (k : IntKind) (a b : Int) (K : GVal → Prop) : binV P .mul t (.int k a) (.int k b) K = K (.int k (norm k (a * b))) := by simp only [binV, true_and]
theorem ibin_quo (P : Program) (t : TypeId) (k : IntKind) (a b : Int) (K : GVal → Prop) : binV P .quo t (.int k a) (.int k b) K = (b ≠ 0 ∧ K (.int k (norm k (a.tdiv b)))) := by simp only [binV, true_and]
theorem ibin_rem (P : Program) (t : TypeId) (k : IntKind) (a b : Int) (K : GVal → Prop) : binV P .rem t (.int k a) (.int k b) K = (b ≠ 0 ∧ K (.int k (a.tmod b))) := by simp only [binV, true_and]
theorem ibin_eql (P : Program) (t : TypeId) (k : IntKind) (a b : Int) (K : GVal → Prop) : binV P .eql t (.int k a) (.int k b) K = K (.bool (a == b)) := by simp only [binV, true_and]
theorem ibin_neq (P : Program) (t : TypeId) (k : IntKind) (a b : Int) (K : GVal → Prop) : binV P .neq t (.int k a) (.int k b) K = K (.bool (a != b)) := by simp only [binV, true_and]
theorem ibin_lss (P : Program) (t : TypeId) (k : IntKind) (a b : Int) (K : GVal → Prop) : binV P .lss t (.int k a) (.int k b) K = K (.bool (decide (a < b))) := by simp only [binV, true_and]
theorem ibin_leq (P : Program) (t : TypeId) (k : IntKind) (a b : Int) (K : GVal → Prop) : binV P .leq t (.int k a) (.int k b) K = K (.bool (decide (a ≤ b))) := by simp only [binV, true_and]
theorem ibin_gtr (P : Program) (t : TypeId) (k : IntKind) (a b : Int) (K : GVal → Prop) : binV P .gtr t (.int k a) (.int k b) K = K (.bool (decide (b < a))) := by simp only [binV, true_and]
theorem ibin_geq (P : Program) (t : TypeId) (k : IntKind) (a b : Int) (K : GVal → Prop) : binV P .geq t (.int k a) (.int k b) K = K (.bool (decide (b ≤ a))) := by simp only [binV, true_and]
end Gv
