/- Numbers, bools, strings; len, min, max; interface values, functions. -/
import Derived.Test.YtomacbbghhabpaaP2
import Derived.Laws.Strings
import Derived.Laws.Concat
import Derived.Lib.ConvBytes
import Derived.Laws.AppendOwn
import Derived.Laws.IdiomStrings
import Derived.Test.YtomacbbghhabpaaP1
set_option linter.unusedVariables false
namespace Gv
open Go
def norm (k : IntKind) (n : Int) : Int := k.wrap n
theorem norm_i64 {n : Int} (h : -9223372036854775808 ≤ n ∧ n ≤ 9223372036854775807) : norm .i64 n = n := by
 have e1 : ((2 : Int) ^ 64) = 18446744073709551616 := by decide
 have e2 : ((2 : Int) ^ 63) = 9223372036854775808 := by decide
 simp only [norm, IntKind.wrap, IntKind.bits, IntKind.signed, Bool.true_and, e1, show (64 - 1 : Nat) = 63 from rfl, e2]
 by_cases h0 : 0 ≤ n
 · rw [if_neg (by simp; omega)]; omega
 · rw [if_pos (by simp; omega)]; omega
section
variable {P : Program} {E : Env} {O : List GObj} {w : World} {K : GVal → List GObj → Prop}
def aggT (P : Program) (t : TypeId) : Option (List Sk) :=
 match flat P 16 t, tab P t with
 | some ss, some (n, true) => if ss.length = n ∧ P.eqGuardType P.depth t = false then some ss else none
 | _, _ => none
theorem aggT_spec {P : Program} {t : TypeId} {ss : List Sk} (h : aggT P t = some ss) : flat P 16 t = some ss ∧ tab P t = some (ss.length, true) ∧ P.eqGuardType P.depth t = false := by
 unfold aggT at h
 split at h
 · rename_i s n h1 h2;split at h
   · rename_i hc; cases h; exact ⟨h1, by rw [h2, hc.1], hc.2⟩
   · cases h
 · cases h
def aggV (P : Program) (t : TypeId) (xs ys : List GVal) (K : Bool → Prop) : Prop :=
 match aggT P t with
 | some ss => match cellsEq ss xs ys with
  | some r => K r
  | none => False
 | none => False
def binV (P : Program) (op : BinOp) (t : TypeId) (x y : GVal) (K : GVal → Prop) : Prop :=
 match x, y with
 | .int k a, .int k' b => match op with
  | .add => k = k' ∧ K (.int k (norm k (a + b)))
  | .sub => k = k' ∧ K (.int k (norm k (a - b)))
  | .mul => k = k' ∧ K (.int k (norm k (a * b)))
  | .quo => k = k' ∧ b ≠ 0 ∧ K (.int k (norm k (a.tdiv b)))
  | .rem => k = k' ∧ b ≠ 0 ∧ K (.int k (a.tmod b))
  | .eql => k = k' ∧ K (.bool (a == b))
  | .neq => k = k' ∧ K (.bool (a != b))
  | .lss => k = k' ∧ K (.bool (decide (a < b)))
  | .leq => k = k' ∧ K (.bool (decide (a ≤ b)))
  | .gtr => k = k' ∧ K (.bool (decide (b < a)))
  | .geq => k = k' ∧ K (.bool (decide (b ≤ a)))
  | .and => k = k' ∧ K (.int k (bits .and k a b))
  | .or => k = k' ∧ K (.int k (bits .or k a b))
  | .xor => k = k' ∧ K (.int k (bits .xor k a b))
  | .shl => 0 ≤ b ∧ b ≤ k.bits ∧ K (.int k (norm k (a * 2 ^ b.toNat)))
  | .shr => 0 ≤ b ∧ b ≤ k.bits ∧ K (.int k (a / 2 ^ b.toNat))
  | _ => False
 | .bool a, .bool b => match op with
  | .eql => P.underlying t = some .bool ∧ K (.bool (a == b))
  | .neq => P.underlying t = some .bool ∧ K (.bool (a != b))
  | _ => False
 | .str a, .str b => match op with
  | .eql => K (.bool (a == b))
  | .neq => K (.bool (a != b))
  | .lss => K (.bool (Op.bytesLess a b))
  | .geq => K (.bool (!Op.bytesLess a b))
  | .add => a.length + b.length ≤ 4611686018427387904 ∧ K (.str (a ++ b))
  | _ => False
 | .slice xs tag, .slice [] .nil => match op with
  | .eql => (match P.underlying t with | some (.slice _) => true | _ => false) = true ∧ (tag = .nil → K (.bool true)) ∧ (tag ≠ .nil → (xs = [] → K .ubool) ∧ (xs ≠ [] → K (.bool false)))
  | .neq => (match P.underlying t with | some (.slice _) => true | _ => false) = true ∧ (tag = .nil → K (.bool false)) ∧ (tag ≠ .nil → (xs = [] → K .ubool) ∧ (xs ≠ [] → K (.bool true)))
  | _ => False
 | .own _ _ _ len, .slice [] .nil => match op with
  | .eql => (match P.underlying t with | some (.slice _) => true | _ => false) = true ∧ (len = 0 → K .ubool) ∧ (len ≠ 0 → K (.bool false))
  | .neq => (match P.underlying t with | some (.slice _) => true | _ => false) = true ∧ (len = 0 → K .ubool) ∧ (len ≠ 0 → K (.bool true))
  | _ => False
 | .agg xs, .agg ys => match op with
  | .eql => aggV P t xs ys (fun r => K (.bool r))
  | .neq => aggV P t xs ys (fun r => K (.bool !r))
  | _ => False
 | .iface _ _, .lit .nilIface => match op with
  | .eql => (match P.underlying t with | some (.interface _) => true | _ => false) = true ∧ K (.bool false)
  | .neq => (match P.underlying t with | some (.interface _) => true | _ => false) = true ∧ K (.bool true)
  | _ => False
 | .lit .nilFunc, .lit .nilFunc => match op with
  | .eql => (match P.underlying t with | some (.func _ _ _) => true | _ => false) = true ∧ K (.bool true)
  | .neq => (match P.underlying t with | some (.func _ _ _) => true | _ => false) = true ∧ K (.bool false)
  | _ => False
 | .func _ _ _, .lit .nilFunc => match op with
  | .eql => (match P.underlying t with | some (.func _ _ _) => true | _ => false) = true ∧ K (.bool false)
  | .neq => (match P.underlying t with | some (.func _ _ _) => true | _ => false) = true ∧ K (.bool true)
  | _ => False
 | .ptr _ _ _ _, .lit (.pointer none) => match op with
  | .eql => (match P.underlying t with | some (.pointer _) => true | _ => false) = true ∧ K (.bool false)
  | .neq => (match P.underlying t with | some (.pointer _) => true | _ => false) = true ∧ K (.bool true)
  | _ => False
 | .ref _, .lit (.pointer none) => match op with
  | .eql => (match P.underlying t with | some (.pointer _) => true | _ => false) = true ∧ K (.bool false)
  | .neq => (match P.underlying t with | some (.pointer _) => true | _ => false) = true ∧ K (.bool true)
  | _ => False
 | .lit (.pointer none), .lit (.pointer none) => match op with
  | .eql => (match P.underlying t with | some (.pointer _) => true | _ => false) = true ∧ K (.bool true)
  | .neq => (match P.underlying t with | some (.pointer _) => true | _ => false) = true ∧ K (.bool false)
  | _ => False
 | _, _ => False
def binSem (op : BinOp) (xT : TypeId) (x y : Operand) (a b : Value) : Sem Value := do eqGuard op xT x y a b; binOp op xT a b
theorem eqGuard_run {op : BinOp} {t : TypeId} {x y : Operand} {a b : Value} (h : ∀ u v, a = .agg u → b = .agg v → False) (h2 : a = .nilIface → b = .nilIface → False) :
 (eqGuard op t x y a b).run P w = .ok () w := by
 unfold eqGuard
 cases op <;> (try (simp; done)) <;> cases a <;> cases b <;> first | (simp; done) | exact (h _ _ rfl rfl).elim | exact (h2 rfl rfl).elim
theorem str_eq {a b : List UInt8} : ((⟨a.toArray⟩ : ByteArray).toList == (⟨b.toArray⟩ : ByteArray).toList) = (a == b) := by
 rw [ByteArray.toList_mk, ByteArray.toList_mk]
theorem str_add {a b : List UInt8} (h : a.length + b.length ≤ 4611686018427387904) : (Op.stringOp .add ⟨a.toArray⟩ ⟨b.toArray⟩).run P w = .ok (.string ⟨(a ++ b).toArray⟩) w := by
 have ha : (⟨a.toArray⟩ : ByteArray).size = a.length := by show a.toArray.size = _; simp
 have hb : (⟨b.toArray⟩ : ByteArray).size = b.length := by show b.toArray.size = _; simp
 rw [run_string_add_sum (P := P) w _ _ (by rw [ha, hb]; omega)]
 congr 2
theorem equal_of {t : TypeId} {x y : Value} {r : Bool} (h : ∀ d, (Op.equalIn (d + 1) t x y).run P w = .ok r w) : (Op.equal t x y).run P w = .ok r w := h 9999
theorem equal_bool {t : TypeId} {a b : Bool} (hu : P.underlying t = some .bool) : (Op.equal t (.bool a) (.bool b)).run P w = .ok (a == b) w :=
 equal_of fun d => by simp [Op.equalIn, run_underlying hu]
theorem equal_iface_nil {t u : TypeId} {v : Value} {ms : Array (String × TypeId)} (hu : P.underlying t = some (.interface ms)) : (Op.equal t (.iface u v) .nilIface).run P w = .ok false w :=
 equal_of fun d => by simp [Op.equalIn, run_underlying hu]
theorem equal_func_nil {t : TypeId} {fn : Fn} {fs cs : Array Value} {p r : Array TypeId} {vv : Bool} (hu : P.underlying t = some (.func p r vv)) : (Op.equal t (.func fn fs cs) .nilFunc).run P w = .ok false w :=
 equal_of fun d => by simp [Op.equalIn, run_underlying hu]
theorem equal_nilfunc {t : TypeId} {p r : Array TypeId} {vv : Bool} (hu : P.underlying t = some (.func p r vv)) : (Op.equal t .nilFunc .nilFunc).run P w = .ok true w :=
 equal_of fun d => by simp [Op.equalIn, run_underlying hu]
theorem equal_ptr_nil {t e : TypeId} {a : Addr} (hu : P.underlying t = some (.pointer e)) : (Op.equal t (.pointer (some a)) (.pointer none)).run P w = .ok false w :=
 equal_of fun d => by simp [Op.equalIn, run_underlying hu]
theorem equal_nil_nil {t e : TypeId} (hu : P.underlying t = some (.pointer e)) : (Op.equal t (.pointer none) (.pointer none)).run P w = .ok true w :=
 equal_of fun d => by simp [Op.equalIn, run_underlying hu]
theorem equal_slice_nil {t e : TypeId} {a : Option Addr} {n m c d : Nat} (hu : P.underlying t = some (.slice e)) : (Op.equal t (.slice a n c) (.slice none m d)).run P w = .ok a.isNone w :=
 equal_of fun d => by cases a <;> simp [Op.equalIn, run_underlying hu]
theorem bin_eql {t : TypeId} {x y : Value} {r : Bool} (hb : binOp .eql t x y = (do pure (.bool (← Op.equal t x y)) : Sem Value)) (h : (Op.equal t x y).run P w = .ok r w) : (binOp .eql t x y).run P w = .ok (.bool r) w := by
 rw [hb]; simp only [Sem.run_bind, h, Result.andThen_ok, Sem.run_pure]
theorem bin_neq {t : TypeId} {x y : Value} {r : Bool} (hb : binOp .neq t x y = (do pure (.bool (!(← Op.equal t x y))) : Sem Value)) (h : (Op.equal t x y).run P w = .ok r w) : (binOp .neq t x y).run P w = .ok (.bool (!r)) w := by
 rw [hb]; simp only [Sem.run_bind, h, Result.andThen_ok, Sem.run_pure]
theorem bin_sound {op : BinOp} {t : TypeId} {ox oy : Operand} {rx ry : Value} {x y : GVal} (h : HSim E O w) (hx : VR E rx x) (hy : VR E ry y) (hk : binV P op t x y (fun g => K g O)) :
 SOK P (binSem op t ox oy rx ry) E O w K := by
 have fin : ∀ (v : Value) (g : GVal), (∀ u v, rx = .agg u → ry = .agg v → False) → (rx = .nilIface → ry = .nilIface → False) → (binOp op t rx ry).run P w = .ok v w → VR E v g → K g O → SOK P (binSem op t ox oy rx ry) E O w K := by
  intro v g h1 h2 h3 h4 h5;refine .same ?_ h h4 h5;simp only [binSem, Sem.run_bind, eqGuard_run h1 h2, Result.andThen_ok, h3]
 unfold binV at hk
 cases hx with
 | int k a =>
  cases hy with
  | int k' b =>
   simp only at hk
   cases op with
   | quo =>
    obtain ⟨rfl, hb, hk⟩ := hk;exact fin (.int k (norm k (a.tdiv b))) _ (by intro u v e; cases e) (by intro e; cases e) (by simp [binOp, Op.intDiv, hb, norm]) (.int _ _) hk
   | rem =>
    obtain ⟨rfl, hb, hk⟩ := hk;exact fin (.int k (a.tmod b)) _ (by intro u v e; cases e) (by intro e; cases e) (by simp [binOp, Op.intDiv, hb]) (.int _ _) hk
   | shl =>
    obtain ⟨h0, h1, hk⟩ := hk;exact fin (.int k (norm k (a * 2 ^ b.toNat))) _ (by intro u v e; cases e) (by intro e; cases e) (by rw [binOp_shl, shift_shl _ _ _ _ h0 h1]; rfl) (.int _ _) hk
   | shr =>
    obtain ⟨h0, h1, hk⟩ := hk;exact fin (.int k (a / 2 ^ b.toNat)) _ (by intro u v e; cases e) (by intro e; cases e) (by rw [binOp_shr, shift_shr _ _ _ _ h0 h1]; rfl) (.int _ _) hk
   | andNot => exact hk.elim
   | eql => obtain ⟨rfl, hk⟩ := hk; exact fin _ _ (by intro u v e; cases e) (by intro e; cases e) (by rw [binOp_eql]; rfl) (.bool _) hk
   | neq => obtain ⟨rfl, hk⟩ := hk; exact fin _ _ (by intro u v e; cases e) (by intro e; cases e) (by rw [binOp_neq]; rfl) (.bool _) hk
   | lss => obtain ⟨rfl, hk⟩ := hk; exact fin _ _ (by intro u v e; cases e) (by intro e; cases e) (by rw [binOp_lss]; rfl) (.bool _) hk
   | leq => obtain ⟨rfl, hk⟩ := hk; exact fin _ _ (by intro u v e; cases e) (by intro e; cases e) (by rw [binOp_leq]; rfl) (.bool _) hk
   | gtr => obtain ⟨rfl, hk⟩ := hk; exact fin _ _ (by intro u v e; cases e) (by intro e; cases e) (by rw [binOp_gtr]; rfl) (.bool _) hk
   | geq => obtain ⟨rfl, hk⟩ := hk; exact fin _ _ (by intro u v e; cases e) (by intro e; cases e) (by rw [binOp_geq]; rfl) (.bool _) hk
   | add => obtain ⟨rfl, hk⟩ := hk; exact fin _ _ (by intro u v e; cases e) (by intro e; cases e) (by simp [binOp, Op.intArith]; rfl) (.int _ _) hk
   | sub => obtain ⟨rfl, hk⟩ := hk; exact fin _ _ (by intro u v e; cases e) (by intro e; cases e) (by simp [binOp, Op.intArith]; rfl) (.int _ _) hk
   | mul => obtain ⟨rfl, hk⟩ := hk; exact fin _ _ (by intro u v e; cases e) (by intro e; cases e) (by simp [binOp, Op.intArith]; rfl) (.int _ _) hk
   | and => obtain ⟨rfl, hk⟩ := hk; exact fin _ _ (by intro u v e; cases e) (by intro e; cases e) (by rw [binOp_and, intBits_and]; rfl) (.int _ _) hk
   | or => obtain ⟨rfl, hk⟩ := hk; exact fin _ _ (by intro u v e; cases e) (by intro e; cases e) (by rw [binOp_or, intBits_or]; rfl) (.int _ _) hk
   | xor => obtain ⟨rfl, hk⟩ := hk; exact fin _ _ (by intro u v e; cases e) (by intro e; cases e) (by rw [binOp_xor, intBits_xor]; rfl) (.int _ _) hk
  | _ => exact hk.elim
 | bool a =>
  cases hy with
  | bool b =>
   simp only at hk
   cases op with
   | eql => obtain ⟨hu, hk⟩ := hk; exact fin _ _ (by intro u v e; cases e) (by intro e; cases e) (bin_eql rfl (equal_bool hu)) (.bool _) hk
   | neq => obtain ⟨hu, hk⟩ := hk; exact fin _ _ (by intro u v e; cases e) (by intro e; cases e) (bin_neq rfl (equal_bool hu)) (.bool _) hk
   | _ => exact hk.elim
  | _ => exact hk.elim
 | str a =>
  cases hy with
  | str b =>
   simp only at hk
   cases op with
   | eql => exact fin _ _ (by intro u v e; cases e) (by intro e; cases e) (by rw [binOp_string_eql, str_eq]; rfl) (.bool _) hk
   | neq => exact fin (.bool (a != b)) _ (by intro u v e; cases e) (by intro e; cases e) (by simp [binOp, Op.stringOp, bne]) (.bool _) hk
   | lss => exact fin (.bool (Op.bytesLess a b)) _ (by intro u v e; cases e) (by intro e; cases e) (by simp [binOp, Op.stringOp]) (.bool _) hk
   | geq => exact fin (.bool (!Op.bytesLess a b)) _ (by intro u v e; cases e) (by intro e; cases e) (by simp [binOp, Op.stringOp]) (.bool _) hk
   | add => exact fin _ _ (by intro u v e; cases e) (by intro e; cases e) (by rw [binOp_string_add, str_add hk.1]) (.str _) hk.2
   | _ => exact hk.elim
  | _ => exact hk.elim
 | slice a len cap xs tag sz c hlen hcap hsz ha hc htag =>
  cases hy with
  | slice a2 len2 cap2 ys tag2 sz2 c2 hlen2 hcap2 hsz2 ha2 hc2 htag2 =>
   cases ys with
   | cons _ _ => exact hk.elim
   | nil =>
    cases tag2 with
    | nil =>
     obtain ⟨rfl, _⟩ := htag2;simp only at hk
     have both : ∀ (T : Bool → Bool) , (tag = .nil → K (.bool (T true)) O) → (tag ≠ .nil → (xs = [] → K .ubool O) ∧ (xs ≠ [] → K (.bool (T false)) O)) → ∃ g, VR E (.bool (T a.isNone)) g ∧ K g O := by
      intro T h1 h2;by_cases ht : tag = .nil
      · subst ht; obtain ⟨rfl, _⟩ := htag; exact ⟨_, .bool _, h1 rfl⟩
      · obtain ⟨h3, h4⟩ := h2 ht;by_cases hx : xs = []
        · exact ⟨_, .ubool _, h3 hx⟩
        · obtain ⟨b, off, rfl, _⟩ := ha hx;exact ⟨_, .bool _, h4 hx⟩
     cases op with
     | eql =>
      obtain ⟨hu, h1, h2⟩ := hk;split at hu
      · rename_i e hu';obtain ⟨g, hg1, hg2⟩ := both id h1 h2;exact fin _ g (by intro u v e; cases e) (by intro e; cases e) (bin_eql rfl (equal_slice_nil hu')) hg1 hg2
      · cases hu
     | neq =>
      obtain ⟨hu, h1, h2⟩ := hk;split at hu
      · rename_i e hu';obtain ⟨g, hg1, hg2⟩ := both not h1 h2;exact fin _ g (by intro u v e; cases e) (by intro e; cases e) (bin_neq rfl (equal_slice_nil hu')) hg1 hg2
      · cases hu
     | _ => exact hk.elim
    | _ => exact hk.elim
  | _ => exact hk.elim
 | own a len cap o st i l hl hcap ha =>
  cases hy with
  | slice a2 len2 cap2 ys tag2 sz2 c2 hlen2 hcap2 hsz2 ha2 hc2 htag2 =>
   cases ys with
   | cons _ _ => exact hk.elim
   | nil =>
    cases tag2 with
    | nil =>
     obtain ⟨rfl, _⟩ := htag2;simp only at hk
     have both : ∀ (T : Bool → Bool) , (len = 0 → K .ubool O) → (len ≠ 0 → K (.bool (T false)) O) → ∃ g, VR E (.bool (T a.isNone)) g ∧ K g O := by
      intro T h1 h2;by_cases hx : len = 0
      · exact ⟨_, .ubool _, h1 hx⟩
      · rcases ha with h3 | ⟨b, _, rfl, _⟩
        · omega
        · exact ⟨_, .bool _, h2 hx⟩
     cases op with
     | eql =>
      obtain ⟨hu, h1, h2⟩ := hk;split at hu
      · rename_i e hu';obtain ⟨g, hg1, hg2⟩ := both id h1 h2;exact fin _ g (by intro u v e; cases e) (by intro e; cases e) (bin_eql rfl (equal_slice_nil hu')) hg1 hg2
      · cases hu
     | neq =>
      obtain ⟨hu, h1, h2⟩ := hk;split at hu
      · rename_i e hu';obtain ⟨g, hg1, hg2⟩ := both not h1 h2;exact fin _ g (by intro u v e; cases e) (by intro e; cases e) (bin_neq rfl (equal_slice_nil hu')) hg1 hg2
      · cases hu
     | _ => exact hk.elim
    | _ => exact hk.elim
  | _ => exact hk.elim
 | agg vs cs hs hc =>
  cases hy with
  | agg us cs' hs' hc' =>
   simp only at hk
   have key : ∀ (L : Bool → Prop), aggV P t cs cs' L → ∃ r, L r ∧ (Op.equalIn 10000 t (.agg vs) (.agg us)).run P w = .ok r w ∧ P.eqGuardType P.depth t = false := by
    intro L hL;unfold aggV at hL;split at hL
    · rename_i ss hss;split at hL
      · rename_i r hr;obtain ⟨h1, h2, h3⟩ := aggT_spec hss;exact ⟨r, hL, flat_eq (m := 9984) 16 t ss h1 E w true _ _ cs cs' r h2 (.agg vs cs hs hc) (.agg us cs' hs' hc') (fun e => by cases e) hr, h3⟩
      · exact hL.elim
    · exact hL.elim
   cases op with
   | eql =>
    obtain ⟨r, hK, hr, hg⟩ := key _ hk;refine .same ?_ h (.bool r) hK;simp only [binSem, Sem.run_bind, run_eqGuard_agg w _ t _ _ _ _ hg, Result.andThen_ok, run_eql_struct, hr]
   | neq =>
    obtain ⟨r, hK, hr, hg⟩ := key _ hk;refine .same ?_ h (.bool !r) hK;simp only [binSem, Sem.run_bind, run_eqGuard_agg w _ t _ _ _ _ hg, Result.andThen_ok, run_neq_struct, hr]
   | _ => exact hk.elim
  | _ => exact hk.elim
 | iface ti vi gi hi =>
  cases hy with
  | lit v =>
   cases ry <;> try exact hk.elim
   simp only at hk
   cases op with
   | eql =>
    obtain ⟨hu, hk⟩ := hk;split at hu
    · rename_i ms hu';exact fin _ _ (by intro u v e; cases e) (by intro e; cases e) (bin_eql rfl (equal_iface_nil hu')) (.bool _) hk
    · cases hu
   | neq =>
    obtain ⟨hu, hk⟩ := hk;split at hu
    · rename_i ms hu';exact fin _ _ (by intro u v e; cases e) (by intro e; cases e) (bin_neq rfl (equal_iface_nil hu')) (.bool _) hk
    · cases hu
   | _ => exact hk.elim
  | _ => exact hk.elim
 | func fn fs cs gs ks a1 a2 a3 a4 =>
  cases hy with
  | lit v =>
   cases ry <;> try exact hk.elim
   simp only at hk
   cases op with
   | eql =>
    obtain ⟨hu, hk⟩ := hk;split at hu
    · rename_i p1 p2 p3 hu';exact fin _ _ (by intro u v e; cases e) (by intro e; cases e) (bin_eql rfl (equal_func_nil hu')) (.bool _) hk
    · cases hu
   | neq =>
    obtain ⟨hu, hk⟩ := hk;split at hu
    · rename_i p1 p2 p3 hu';exact fin _ _ (by intro u v e; cases e) (by intro e; cases e) (bin_neq rfl (equal_func_nil hu')) (.bool _) hk
    · cases hu
   | _ => exact hk.elim
  | _ => exact hk.elim
 | ptr b off o st i j l hl hb ho =>
  cases hy with
  | lit v =>
   cases ry with
   | pointer p =>
    cases p with
    | some p => exact hk.elim
    | none =>
     simp only at hk
     cases op with
     | eql =>
      obtain ⟨hu, hk⟩ := hk;split at hu
      · rename_i p1 hu';exact fin _ _ (by intro u v e; cases e) (by intro e; cases e) (bin_eql rfl (equal_ptr_nil hu')) (.bool _) hk
      · cases hu
     | neq =>
      obtain ⟨hu, hk⟩ := hk;split at hu
      · rename_i p1 hu';exact fin _ _ (by intro u v e; cases e) (by intro e; cases e) (bin_neq rfl (equal_ptr_nil hu')) (.bool _) hk
      · cases hu
     | _ => exact hk.elim
   | _ => exact hk.elim
  | _ => exact hk.elim
 | ref b off cs c ha hc =>
  cases hy with
  | lit v =>
   cases ry with
   | pointer p =>
    cases p with
    | some p => exact hk.elim
    | none =>
     simp only at hk
     cases op with
     | eql =>
      obtain ⟨hu, hk⟩ := hk;split at hu
      · rename_i p1 hu';exact fin _ _ (by intro u v e; cases e) (by intro e; cases e) (bin_eql rfl (equal_ptr_nil hu')) (.bool _) hk
      · cases hu
     | neq =>
      obtain ⟨hu, hk⟩ := hk;split at hu
      · rename_i p1 hu';exact fin _ _ (by intro u v e; cases e) (by intro e; cases e) (bin_neq rfl (equal_ptr_nil hu')) (.bool _) hk
      · cases hu
     | _ => exact hk.elim
   | _ => exact hk.elim
  | _ => exact hk.elim
 | lit v =>
  cases rx with
  | pointer p =>
   cases p with
   | some p => exact hk.elim
   | none =>
    cases hy with
    | lit v =>
     cases ry with
     | pointer p =>
      cases p with
      | some p => exact hk.elim
      | none =>
       simp only at hk
       cases op with
       | eql =>
        obtain ⟨hu, hk⟩ := hk;split at hu
        · rename_i p1 hu';exact fin _ _ (by intro u v e; cases e) (by intro e; cases e) (bin_eql rfl (equal_nil_nil hu')) (.bool _) hk
        · cases hu
       | neq =>
        obtain ⟨hu, hk⟩ := hk;split at hu
        · rename_i p1 hu';exact fin _ _ (by intro u v e; cases e) (by intro e; cases e) (bin_neq rfl (equal_nil_nil hu')) (.bool _) hk
        · cases hu
       | _ => exact hk.elim
     | _ => exact hk.elim
    | _ => exact hk.elim
  | nilFunc =>
   cases hy with
   | lit v =>
    cases ry <;> try exact hk.elim
    simp only at hk
    cases op with
    | eql =>
     obtain ⟨hu, hk⟩ := hk;split at hu
     · rename_i p1 p2 p3 hu';exact fin _ _ (by intro u v e; cases e) (by intro e; cases e) (bin_eql rfl (equal_nilfunc hu')) (.bool _) hk
     · cases hu
    | neq =>
     obtain ⟨hu, hk⟩ := hk;split at hu
     · rename_i p1 p2 p3 hu';exact fin _ _ (by intro u v e; cases e) (by intro e; cases e) (bin_neq rfl (equal_nilfunc hu')) (.bool _) hk
     · cases hu
    | _ => exact hk.elim
   | _ => exact hk.elim
  | _ => exact hk.elim
 | _ => exact hk.elim
def bothNil : Operand → GVal → Bool
 | .const .nilIface, .lit .nilIface => true
 | _, _ => false
def binN (P : Program) (op : BinOp) (t : TypeId) (oy : Operand) (x y : GVal) (K : GVal → Prop) : Prop :=
 match bothNil oy x with
 | true => (match P.underlying t with | some (.interface _) => true | _ => false) = true ∧ (match op with
  | .eql => K (.bool true)
  | .neq => K (.bool false)
  | _ => False)
 | false => binV P op t x y K
theorem bothNil_spec {oy : Operand} {x : GVal} (h : bothNil oy x = true) : oy = .const .nilIface ∧ x = .lit .nilIface := by
 unfold bothNil at h
 split at h
 · exact ⟨rfl, rfl⟩
 · cases h
theorem equal_iface_nil2 {t : TypeId} {ms : Array (String × TypeId)} (hu : P.underlying t = some (.interface ms)) : (Op.equalIn Op.maxDepth t .nilIface .nilIface).run P w = .ok true w := by
 have e : Op.maxDepth = (Op.maxDepth - 1) + 1 := by decide
 rw [e]
 simp [Op.equalIn, run_underlying hu]
theorem binN_sound {op : BinOp} {t : TypeId} {ox oy : Operand} {a : Act} {rx : Value} {x y : GVal} (h : HSim E O w) (hx : VR E rx x) (hy : VR E (a.eval oy) y) (hk : binN P op t oy x y (fun g => K g O)) :
 SOK P (binSem op t ox oy rx (a.eval oy)) E O w K := by
 unfold binN at hk
 split at hk
 · rename_i hb;obtain ⟨rfl, rfl⟩ := bothNil_spec hb;cases hx;obtain ⟨h1, hk⟩ := hk;split at h1
   · rename_i ms hu;cases op with
     | eql => exact .same (v := .bool true) (by simp [binSem, eqGuard, binOp, Op.equal, Act.eval, equal_iface_nil2 hu]) h (.bool _) hk
     | neq => exact .same (v := .bool false) (by simp [binSem, eqGuard, binOp, Op.equal, Act.eval, equal_iface_nil2 hu]) h (.bool _) hk
     | _ => exact hk.elim
   · cases h1
 · exact bin_sound h hx hy hk
def unV (op : UnOp) (x : GVal) (K : GVal → Prop) : Prop :=
 match op, x with
 | .not, .bool b => K (.bool (!b))
 | .neg, .int k n => K (.int k (norm k (0 - n)))
 | _, _ => False
theorem un_sound {op : UnOp} {rx : Value} {x : GVal} (h : HSim E O w) (hx : VR E rx x) (hk : unV op x (fun g => K g O)) : SOK P (Op.unary op rx) E O w K := by
 unfold unV at hk
 cases hx with
 | bool b =>
  cases op with
  | not => exact .same (v := .bool !b) (by simp [Op.unary]) h (.bool _) hk
  | _ => exact hk.elim
 | int k n =>
  cases op with
  | neg => exact .same (v := .int k (norm k (0 - n))) (by simp [Op.unary, Op.intArith, norm]) h (.int _ _) hk
  | _ => exact hk.elim
 | _ => cases op <;> exact hk.elim
def bytesOfG : List (List GVal) → Option (List UInt8)
 | [] => some []
 | [.int .u8 n] :: r => match bytesOfG r with
  | some l => if 0 ≤ n ∧ n ≤ 255 then some (UInt8.ofNat n.toNat :: l) else none
  | none => none
 | _ => none
theorem bytesOfG_some : ∀ {xs : List (List GVal)} {s : List UInt8}, bytesOfG xs = some s → xs = s.map fun c => [GVal.int .u8 c.toNat] := by
 intro xs
 fun_induction bytesOfG xs with
 | case1 => intro s h; cases h; rfl
 | case2 n r l hr hn ih =>
  intro s h; cases h;rw [ih hr, List.map_cons]
  congr 3
  rw [UInt8.toNat_ofNat']; omega
 | case3 => intro s h; cases h
 | case4 => intro s h; cases h
 | case5 => intro s h; cases h
def convV (P : Program) (src dst : TypeId) (x : GVal) (K : GVal → Prop) : Prop :=
 match x with
 | .int _ n => match P.underlying src, P.underlying dst with
  | some _, some (.int k) => K (.int k (norm k n))
  | _, _ => False
 | .str s => P.underlying src = some .string ∧ match P.underlying dst with
  | some .string => K (.str s)
  | some (.slice e) => P.underlying e = some (.int .u8) ∧ K (.slice (s.map fun c => [.int .u8 c.toNat]) .none)
  | _ => False
 | .slice xs _ => match P.underlying src with
  | some (.slice e) => P.underlying e = some (.int .u8) ∧ P.underlying dst = some .string ∧ match bytesOfG xs with
   | some s => s ≠ [] ∧ K (.str s)
   | none => False
  | _ => False
 | _ => False
theorem flat_bytes : ∀ s : List UInt8, (s.map fun c => [GVal.int .u8 c.toNat]).flatten = s.map fun c => GVal.int .u8 c.toNat
 | [] => rfl
 | c :: r => by simp [flat_bytes r]
theorem HSim.bytesNew {E : Env} {O : List GObj} {w : World} (h : HSim E O w) (e : TypeId) (s : ByteArray) :
 HSim (E.sealNew w.heap.size (Lib.bytesCells w e s)) O (Lib.bytesWorld w e s) ∧ Keep E O w (E.sealNew w.heap.size (Lib.bytesCells w e s)) O (Lib.bytesWorld w e s) := by
 have hnew := Lib.bytesWorld_at_new w e s
 refine h.gen ⟨fun b o v hv => ?_, fun _ _ hs => hs⟩ h.fin (by simp [Lib.bytesWorld, World.freeze, World.alloc, World.drew, -World.alloc_eq, -World.drew_eq]) ⟨by simp [Lib.bytesWorld, World.freeze, World.alloc, World.drew, -World.alloc_eq, -World.drew_eq], trivial⟩ (by rw [Lib.bytesWorld_size]; omega) (fun b => b = w.heap.size) (fun b hb => .inr (by omega))
  (fun k hk _ => Lib.bytesWorld_at_old w e s k hk) (fun k o v hv => ?_) (fun k o v hk hv => ?_) (fun i obj ho => .inl ⟨ho, fun b hb eb => ?_⟩) (fun i j oi oj b hij hi hj hbi hbj eb => ?_)
 · show (if b = w.heap.size then (Lib.bytesCells w e s)[o]? else E.snap b o) = some v;rw [if_neg (by have := h.lt hv; omega)]; exact hv
 · by_cases e : k = w.heap.size
   · exact .inr e
   · left; simpa [Env.sealNew, e] using hv
 · subst hk;have hc : (Lib.bytesCells w e s)[o]? = some v := by simpa [Env.sealNew] using hv
   refine ⟨by simp only [World.cell?, hnew]; simpa using hc, ?_⟩;have hm := Array.mem_of_getElem? hc;simp only [Lib.bytesCells, Array.mem_append, Array.mem_map, Array.mem_replicate] at hm;rcases hm with ⟨b, _, rfl⟩ | ⟨_, rfl⟩ <;> rfl
 · have := (h.real i obj ho).blk_lt hb; omega
 · have e2 : oi.blk (E.sealNew w.heap.size (Lib.bytesCells w e s)) = oi.blk E := by cases oi <;> rfl
   rw [e2] at hbi;have := (h.real i oi hi).blk_lt hbi; omega
theorem conv_sound {src dst : TypeId} {rx : Value} {x : GVal} (h : HSim E O w) (hx : VR E rx x) (hk : convV P src dst x (fun g => K g O)) : SOK P (convert src dst rx) E O w K := by
 unfold convV at hk
 cases hx with
 | int k n =>
  simp only at hk
  split at hk
  · rename_i d k' hs hd;exact .same (v := .int k' (norm k' n)) (by simp [convert, run_underlying hs, run_underlying hd, Conv.intToInt, norm]) h (.int _ _) hk
  · exact hk.elim
 | str s =>
  obtain ⟨hs, hk⟩ := hk;split at hk
  · rename_i hd;exact .same (v := .string ⟨s.toArray⟩) (by simp [convert, run_underlying hs, run_underlying hd]) h (.str _) hk
  · rename_i e hd;obtain ⟨he, hk⟩ := hk;obtain ⟨g1, g2⟩ := h.bytesNew e ⟨s.toArray⟩;refine ⟨_, _, _, _, _, Lib.run_convert_string_bytes w src dst e ⟨s.toArray⟩ hs hd he, g1, g2, .slice _ _ _ _ .none 1 (fun j => .int .u8 (s.getD j 0).toNat) (by simp [ByteArray.size]) ?_ (by simp) (fun _ => ⟨w.heap.size, 0, rfl, fun j hj => ?_⟩) (fun j g hj => ?_) trivial, hk⟩
    · exact grownCap_ge w _ 0 e
    · have hj' : j < s.length := by simpa [ByteArray.size] using hj
      show (if w.heap.size = w.heap.size then (Lib.bytesCells w e ⟨s.toArray⟩)[0 + j]? else _) = _;rw [if_pos rfl, Nat.zero_add, Lib.bytesCells, Array.getElem?_append_left (by simpa using hj')];simp [hj', List.getD]
    · rw [show (s.map fun c => [GVal.int .u8 c.toNat]).flatten = s.map fun c => GVal.int .u8 c.toNat from flat_bytes s] at hj;rw [List.getElem?_map] at hj;cases hq : s[j]? with
      | none => rw [hq] at hj; cases hj
      | some c => rw [hq] at hj; simp at hj; subst hj; simp [List.getD, hq]; exact .int _ _
  · exact hk.elim
 | slice a len cap xs tag sz c hlen hcap hsz ha hc htag =>
  simp only at hk
  split at hk
  · rename_i e hs;obtain ⟨he, hd, hk⟩ := hk;split at hk
    case h_2 => exact hk.elim
    rename_i s hbs;obtain ⟨hne, hk⟩ := hk;obtain rfl := bytesOfG_some hbs;obtain ⟨b, off, rfl, hsn⟩ := ha (by simpa using hne);have hl : len = s.length := by simpa using hlen
    subst hl;have hsz1 : sz = 1 := by
     cases s with
     | nil => exact absurd rfl hne
     | cons x r => simpa using (hsz [.int .u8 x.toNat] (by simp)).symm
    subst hsz1;refine .same (v := .string ⟨s.toArray⟩) (run_convert_bytes_back w src dst e ⟨b, off, none⟩ cap s hs he hd fun j hj => ?_) h (.str _) hk;have h1 := h.sealed b (off + j) _ (hsn j (by omega));have h2 := hc j (.int .u8 s[j].toNat) (by rw [flat_bytes, List.getElem?_map, List.getElem?_eq_getElem hj]; rfl);have h3 : c j = .int .u8 (s[j].toNat : Int) := by
     revert h2; generalize c j = cj; intro h2; cases h2; rfl
    rw [add_at, ← h3]; exact h1
  · exact hk.elim
 | _ => exact hk.elim
def lenV (P : Program) (t : TypeId) (x : GVal) (O : List GObj) (K : GVal → Prop) : Prop :=
 match x with
 | .slice xs _ => (match P.underlying t with | some (.slice _) => true | _ => false) = true ∧ K (.int .i64 xs.length)
 | .own _ _ _ len => (match P.underlying t with | some (.slice _) => true | _ => false) = true ∧ K (.int .i64 len)
 | .str s => P.underlying t = some .string ∧ K (.int .i64 s.length)
 | .map o st => (match P.underlying t with | some (.map _ _) => true | _ => false) = true ∧ match O[o]? with
  | some (.map st' kv) => st = st' ∧ K (.int .i64 kv.length)
  | _ => False
 | _ => match P.underlying t with
  | some (.array n _) => K (.int .i64 n)
  | _ => False
theorem len_sound {t ty : TypeId} {rx : Value} {x : GVal} (h : HSim E O w) (hx : VR E rx x) (hk : lenV P t x O (fun g => K g O)) : SOK P (Builtin.len_ #[t] ty #[rx]) E O w K := by
 have arrCase : ∀ n e, P.underlying t = some (.array n e) → K (.int .i64 n) O → SOK P (Builtin.len_ #[t] ty #[rx]) E O w K := fun n e hu hk =>
  .same (v := goInt n) (by simp [Builtin.len_, run_underlying hu]) h (.int _ _) hk
 unfold lenV at hk
 cases hx with
 | slice a len cap xs tag sz c hlen hcap hsz ha hc htag =>
  obtain ⟨hu, hk⟩ := hk;split at hu
  · rename_i e hu';exact .same (v := goInt len) (by simp [Builtin.len_, run_underlying hu']) h (by rw [hlen]; exact .int _ _) hk
  · cases hu
 | own a len cap o st i l hl hcap ha =>
  obtain ⟨hu, hk⟩ := hk;split at hu
  · rename_i e hu';exact .same (v := goInt len) (by simp [Builtin.len_, run_underlying hu']) h (.int _ _) hk
  · cases hu
 | str s =>
  obtain ⟨hu, hk⟩ := hk;have hss : (⟨s.toArray⟩ : ByteArray).size = s.length := by show s.toArray.size = _; simp
  exact .same (v := goInt s.length) (by simp [Builtin.len_, run_underlying hu, hss]) h (.int _ _) hk
 | map r o st l hl hb =>
  obtain ⟨hu, hk⟩ := hk;split at hu
  · rename_i kt et hu';simp only at hk
    split at hk
    · rename_i st' kv hO;obtain ⟨rfl, hk⟩ := hk;obtain ⟨l', b, es, clock, hl', hb', hw, hlen, _⟩ := h.real _ _ hO;rw [hl] at hl'; cases hl';rw [hb] at hb'; cases hb';refine .same (v := goInt es.size) ?_ h (by rw [hlen]; exact .int _ _) hk;simp [Builtin.len_, run_underlying hu', getObj, Sem.run, hw]
    · exact hk.elim
  · cases hu
 | _ =>
  simp only at hk
  split at hk
  · rename_i n e hu; exact arrCase n e hu hk
  · exact hk.elim
def capV (P : Program) (t : TypeId) (x : GVal) (K : GVal → Prop) : Prop :=
 (match P.underlying t with | some (.slice _) => true | _ => false) = true ∧ match x with
 | .slice xs .nil => K (.int .i64 0)
 | .slice xs .full => K (.int .i64 xs.length)
 | _ => False
theorem cap_sound {t ty : TypeId} {rx : Value} {x : GVal} (h : HSim E O w) (hx : VR E rx x) (hk : capV P t x (fun g => K g O)) : SOK P (Builtin.cap_ #[t] ty #[rx]) E O w K := by
 obtain ⟨hu, hk⟩ := hk
 split at hu
 · rename_i e hu';split at hk
   · cases hx with
     | slice a len cap _ tag sz c hlen hcap hsz ha hc htag =>
      have h0 : cap = 0 := htag.2;refine .same (v := .int .i64 0) ?_ h (.int _ _) hk;simp [Builtin.cap_, run_underlying hu', h0, goInt]
   · cases hx with
     | slice a len cap _ tag sz c hlen hcap hsz ha hc htag =>
      have h0 : cap = len := htag
      rw [← hlen] at hk;refine .same (v := .int .i64 len) ?_ h (.int _ _) hk;simp [Builtin.cap_, run_underlying hu', h0, goInt]
   · exact hk.elim
 · cases hu
def minV (mx : Bool) (xs : List GVal) (K : GVal → Prop) : Prop :=
 match xs with
 | [.int k a, .int k' b] => k = k' ∧ K (.int k (match mx with | true => max a b | false => min a b))
 | _ => False
theorem min_sound {mx : Bool} {ts : Array TypeId} {ty : TypeId} {rx ry : Value} {x y : GVal} (h : HSim E O w) (hx : VR E rx x) (hy : VR E ry y) (hk : minV mx [x, y] (fun g => K g O)) :
 SOK P (match mx with | true => Builtin.max_ ts ty #[rx, ry] | false => Builtin.min_ ts ty #[rx, ry]) E O w K := by
 unfold minV at hk
 cases hx with
 | int k a =>
  cases hy with
  | int k' b =>
   simp only at hk
   obtain ⟨rfl, hk⟩ := hk;cases mx with
   | true =>
    refine .same (v := .int k (max a b)) ?_ h (.int _ _) hk;have e : (if b > a then b else a) = max a b := by split <;> omega
    simp [Builtin.max_, Builtin.max2]; exact e
   | false =>
    refine .same (v := .int k (min a b)) ?_ h (.int _ _) hk;have e : (if b < a then b else a) = min a b := by split <;> omega
    simp [Builtin.min_, Builtin.min2]; exact e
  | _ => exact hk.elim
 | _ => exact hk.elim
def ifaceV (P : Program) (t : TypeId) (x : GVal) (K : GVal → Prop) : Prop :=
 (match P.underlying t with | some (.interface _) => false | some _ => true | none => false) = true ∧ K (.iface t x)
theorem iface_sound {t : TypeId} {rx : Value} {x : GVal} (h : HSim E O w) (hx : VR E rx x) (hk : ifaceV P t x (fun g => K g O)) : SOK P (Instr.makeInterface t rx) E O w K := by
 obtain ⟨hu, hk⟩ := hk
 refine .same (v := .iface t rx) ?_ h (.iface _ _ _ hx) hk
 cases hd : P.underlying t with
 | none => simp [hd] at hu
 | some d => cases d <;> first | (simp [hd] at hu; done) | simp [Instr.makeInterface, run_underlying hd]
end
end Gv
namespace Gv
open Go
section
variable {P : Program} {E : Env} {O : List GObj} {w : World} {K : GVal → List GObj → Prop}
def ChkOK (P : Program) (em : Bool) (d : Nat) (t : TypeId) (ss : List Sk) : Prop :=
 ∀ (E : Env) (w : World) (ag : Bool) (x : Value) (xs : List GVal), tab P t = some (ss.length, ag) → VR E x (grp ag xs) → xs.length = ss.length → (Instr.checkKey em d t x).run P w = .ok () w
theorem flat_chk {em : Bool} {m : Nat} : ∀ (d : Nat) (t : TypeId) (ss : List Sk), flat P d t = some ss → ChkOK P em (m + d) t ss
  | 0, t, ss, h => by cases h
  | d + 1, t, ss, h => by
    intro E w ag x xs ht hx hl;have IH : ∀ t k, flat P d t = some k → ChkOK P em (m + d) t k := fun t k e => flat_chk d t k e
    rw [show m + (d + 1) = (m + d) + 1 from rfl, Instr.checkKey];have h0 := h;unfold flat at h;cases hu : P.underlying t with
    | none => simp [hu] at h
    | some td =>
      cases td <;> simp only [hu] at h <;> try (cases h; done)
      case bool => simp [run_underlying hu]
      case int q => simp [run_underlying hu]
      case string => simp [run_underlying hu]
      case array n e =>
        split at h
        · rename_i k k' ag' e1 e2;split at h
          · rename_i hc;obtain ⟨rfl, hc⟩ := hc;simp only [Option.some.injEq] at h;subst h;have hi : ∃ i, P.info? e = some i := by
              cases hi : P.info? e with
              | none => simp [tab, hi] at e2
              | some i => exact ⟨i, rfl⟩
            obtain ⟨i, hi⟩ := hi;have ha : ag = true := by
              unfold tab at ht;cases hit : P.info? t with
              | none => simp [hit] at ht
              | some i => simp [hit, hu] at ht; exact ht.2
            subst ha;simp only [grp] at hx;have hn : (List.replicate n k).flatten.length = n * k.length := by simp
            rw [hn] at hl;have hag := flat_one e1 e2;cases hx with
            | agg vs cs hs hcs =>
              simp only [Sem.run_bind, run_underlying hu, Result.andThen_ok];simp only [Std.Legacy.Range.forIn_eq_forIn_range', Std.Legacy.Range.size, Nat.sub_zero, Nat.add_one_sub_one, Nat.div_one];have each : ∀ j ∈ List.range' 0 n, j * k.length + k.length ≤ xs.length := fun j hj => by
                simp only [List.mem_range'_1] at hj;have : (j + 1) * k.length ≤ n * k.length := Nat.mul_le_mul_right _ (by omega);rw [Nat.add_mul, Nat.one_mul] at this; omega
              generalize List.range' 0 n = is at each;induction is with
              | nil => simp
              | cons j is ih =>
                obtain ⟨a, p1, v1⟩ := part_run (P := P) (w := w) e2 hag (.agg vs xs hs hcs) (each j (by simp));have p2 := IH _ _ e1 E w _ a _ e2 v1 (by have := each j (by simp); simp; omega);simp only [List.forIn_cons, Sem.run_bind, run_sizeOf w hi, Result.andThen_ok, hc, p1, p2, Sem.run_pure];exact ih (fun y hy => each y (by simp [hy]))
          · cases h
        · cases h
      case struct fs =>
        split at h
        · rename_i hst;have ha : ag = true := by
            unfold tab at ht;cases hit : P.info? t with
            | none => simp [hit] at ht
            | some i => simp [hit, hu] at ht; exact ht.2
          subst ha;simp only [grp] at hx;cases hx with
          | agg vs cs hs hcs =>
            simp only [Sem.run_bind, run_underlying hu, Result.andThen_ok]
            rw [← Array.forIn_toList];have key : ∀ (fn : Field → PUnit → Sem (ForInStep PUnit)), (∀ f, fn f PUnit.unit = (do
                    if f.name ≠ "_" then do
                      let a ← part f.type vs f.offset
                      Instr.checkKey em (m + d) f.type a
                      pure (ForInStep.yield PUnit.unit)
                    else pure (ForInStep.yield PUnit.unit))) → ∀ (L : List Field) (off : Nat) (ss : List Sk), flatFs P (flat P d) off L = some ss → off + ss.length ≤ xs.length →
                (forIn L PUnit.unit fn : Sem PUnit).run P w = .ok PUnit.unit w := by
              intro fn hfn;intro L;induction L with
              | nil => intro off ss _ _; simp
              | cons f L ih =>
                intro off ss hf hle;unfold flatFs at hf;split at hf
                · rename_i k k' ag' e1 e2;split at hf
                  · rename_i hc;obtain ⟨rfl, ho, hn⟩ := hc;split at hf
                    · rename_i l hl';cases hf;simp only [List.length_append] at hle;have hne : f.name ≠ "_" := by simpa using hn
                      obtain ⟨a, p1, v1⟩ := part_run (P := P) (w := w) e2 (flat_one e1 e2) (.agg vs xs hs hcs) (by omega : off + k.length ≤ xs.length);have p2 := IH _ _ e1 E w _ a _ e2 v1 (by simp; omega);subst ho;simp only [List.forIn_cons, Sem.run_bind, hfn, hne, ne_eq, not_false_eq_true, if_true, Result.andThen_ok, p1, p2, Sem.run_pure];exact ih _ _ hl' (by omega)
                    · cases hf
                  · cases hf
                · cases hf
            rw [key _ (fun f => rfl) fs.toList 0 ss h (by omega)];rfl
        · cases h
structure KT where
 ss : List Sk
 ag : Bool
def keyT (P : Program) (t : TypeId) : Option (KT × TypeId) :=
 match P.underlying t with
 | some (.map k e) => match flat P 16 k, tab P k with
  | some ss, some (n, ag) => if ss.length = n ∧ (ag = false → ss.length = 1) then some (⟨ss, ag⟩, e) else none
  | _, _ => none
 | _ => none
def keyCells (k : KT) (g : GVal) : Option (List GVal) :=
 match k.ag, g with
 | true, .agg cs => some cs
 | true, _ => none
 | false, g => some [g]
theorem keyCells_grp {k : KT} {g : GVal} {cs : List GVal} (h : keyCells k g = some cs) : grp k.ag cs = g := by
 unfold keyCells at h
 cases hk : k.ag <;> simp only [hk] at h
 · simp at h; subst h; rfl
 · cases g <;> simp at h <;> subst h <;> rfl
def keyEq (k : KT) (x y : GVal) : Option Bool :=
 match keyCells k x, keyCells k y with
 | some xs, some ys => cellsEq k.ss xs ys
 | _, _ => none
def kfind (k : KT) (x : GVal) : List (GVal × GVal) → Option (Option Nat)
 | [] => some none
 | p :: r => match keyEq k x p.1 with
  | some true => some (some 0)
  | some false => match kfind k x r with
   | some (some i) => some (some (i + 1))
   | some none => some none
   | none => none
  | none => none
theorem keyEq_run {k : KT} {kt : TypeId} {n : Nat} {x y : Value} {g g' : GVal} {r : Bool} (hf : flat P 16 kt = some k.ss) (ht : tab P kt = some (k.ss.length, k.ag)) (hn : k.ag = false → k.ss.length = 1)
 (hx : VR E x g) (hy : VR E y g') (h : keyEq k g g' = some r) : (Op.equal kt x y).run P w = .ok r w := by
 unfold keyEq at h
 split at h
 · rename_i xs ys e1 e2
   rw [← keyCells_grp e1] at hx
   rw [← keyCells_grp e2] at hy;exact flat_eq (m := 9984) 16 kt k.ss hf E w k.ag x y xs ys r ht hx hy hn h
 · cases h
theorem keyEq_rigid {k : KT} {x y : Value} {g g' : GVal} (hn : k.ag = false → k.ss.length = 1) (hx : VR E x g) (hy : VR E y g') (h : keyEq k g g' = some true) : x = y := by
 unfold keyEq at h
 split at h
 · rename_i xs ys e1 e2
   rw [← keyCells_grp e1] at hx
   rw [← keyCells_grp e2] at hy;exact grp_rigid hx hy hn h
 · cases h
def shift (j : Nat) : Option Nat → Option Nat
 | some i => some (j + i)
 | none => none
def At (es : List MapEntry) (j : Nat) (r : Option Nat) : Option (Nat × Value) :=
 match r with
 | some i => match es[i]? with
  | some e => some (j + i, e.val)
  | none => none
 | none => none
theorem findAsking_run {k : KT} {kt : TypeId} {x : Value} {g : GVal} (hf : flat P 16 kt = some k.ss) (ht : tab P kt = some (k.ss.length, k.ag)) (hn : k.ag = false → k.ss.length = 1) (hx : VR E x g) :
 ∀ (es : List MapEntry) (kv : List (GVal × GVal)) (j : Nat) (r : Option Nat), es.length = kv.length → (∀ (i : Nat) e p, es[i]? = some e → kv[i]? = some p → EntryOK E e p) → kfind k g kv = some r →
  (Instr.findAsking kt x es j).run P w = .ok (At es j r) w
 | [], [], j, r, _, _, h => by simp [kfind] at h; subst h; simp [Instr.findAsking, At]
 | e :: es, p :: kv, j, r, hl, hall, h => by
  have h0 := (hall 0 e p rfl rfl).1;unfold kfind at h;rw [Instr.findAsking];split at h
  · rename_i h1;simp only [Option.some.injEq] at h; subst h;simp only [Sem.run_bind, keyEq_run (n := 0) hf ht hn hx h0 h1, Result.andThen_ok, if_true, Sem.run_pure];simp [At]
  · rename_i h1;have tail : ∀ r', kfind k g kv = some r' → (Instr.findAsking kt x es (j + 1)).run P w = .ok (At es (j + 1) r') w := fun r' hr' =>
     findAsking_run hf ht hn hx es kv (j + 1) r' (by simpa using hl) (fun i e' p' he hp => hall (i + 1) e' p' (by simpa using he) (by simpa using hp)) hr'
    simp only [Sem.run_bind, keyEq_run (n := 0) hf ht hn hx h0 h1, Result.andThen_ok, Bool.false_eq_true, if_false];split at h
    · rename_i i hi; simp only [Option.some.injEq] at h; subst h;rw [tail _ hi];simp only [At, List.getElem?_cons_succ];cases es[i]? with
      | none => rfl
      | some e' => simp; omega
    · rename_i hi; simp only [Option.some.injEq] at h; subst h;rw [tail _ hi]; rfl
    · cases h
  · cases h
 | [], _ :: _, j, r, hl, _, _ => by simp at hl
 | _ :: _, [], j, r, hl, _, _ => by simp at hl
theorem findNow_run (w : World) {k : KT} {kt : TypeId} {td : TypeDesc} {x : Value} {g : GVal} (hu : P.underlying kt = some td) (hf : flat P 16 kt = some k.ss) (ht : tab P kt = some (k.ss.length, k.ag)) (hn : k.ag = false → k.ss.length = 1) (hx : VR E x g) :
 ∀ (es : List MapEntry) (kv : List (GVal × GVal)) (j : Nat) (r : Option Nat), es.length = kv.length → (∀ (i : Nat) e p, es[i]? = some e → kv[i]? = some p → EntryOK E e p) → kfind k g kv = some r →
  Instr.findNow td x es j = some (At es j r) ∨ Instr.findNow td x es j = none
 | [], [], j, r, _, _, h => by simp [kfind] at h; subst h; left; simp [Instr.findNow, At]
 | e :: es, p :: kv, j, r, hl, hall, h => by
  have h0 := (hall 0 e p rfl rfl).1;unfold Instr.findNow;cases hs : Instr.sameNow td x e.key with
  | none => right; rfl
  | some b =>
   have hsb : ∀ r', keyEq k g p.1 = some r' → b = r' := by
    intro r' hr';have := keyEq_run (P := P) (w := w) (n := 0) hf ht hn hx h0 hr';have h2 : (Op.equal kt x e.key).run P w = .ok b w := by
     generalize e.key = y at hs;unfold Instr.sameNow at hs;split at hs
     · split at hs
       · rename_i e; subst e; cases hs; exact run_equalIn_int w 9999 kt _ _ _ _ hu
       · cases hs
     · cases hs; rw [beq_toListBytes]; exact run_equalIn_string w 9999 kt _ _ hu
     · cases hs; exact run_equalIn_bool w 9999 kt _ _ hu
     · cases hs
    rw [h2] at this;cases this; rfl
   unfold kfind at h;split at h
   · rename_i h1;have := hsb _ h1; subst this;simp only [Option.some.injEq] at h; subst h;left; simp [At]
   · rename_i h1;have := hsb _ h1; subst this;have tail : ∀ r', kfind k g kv = some r' → Instr.findNow td x es (j + 1) = some (At es (j + 1) r') ∨ Instr.findNow td x es (j + 1) = none := fun r' hr' =>
      findNow_run w hu hf ht hn hx es kv (j + 1) r' (by simpa using hl) (fun i e' p' he hp => hall (i + 1) e' p' (by simpa using he) (by simpa using hp)) hr'
     simp only
     split at h
     · rename_i i hi; simp only [Option.some.injEq] at h; subst h;rcases tail _ hi with h3 | h3
       · left; rw [h3]
         simp only [At, List.getElem?_cons_succ];cases es[i]? with
         | none => rfl
         | some e' => simp; omega
       · right; exact h3
     · rename_i hi; simp only [Option.some.injEq] at h; subst h;rcases tail _ hi with h3 | h3
       · left; rw [h3]; rfl
       · right; exact h3
     · cases h
   · cases h
 | [], _ :: _, j, r, hl, _, _ => by simp at hl
 | _ :: _, [], j, r, hl, _, _ => by simp at hl
theorem findKey_run {k : KT} {kt : TypeId} {x : Value} {g : GVal} {es : List MapEntry} {kv : List (GVal × GVal)} {r : Option Nat} (hf : flat P 16 kt = some k.ss) (ht : tab P kt = some (k.ss.length, k.ag)) (hn : k.ag = false → k.ss.length = 1) (hx : VR E x g)
 (hl : es.length = kv.length) (hall : ∀ (i : Nat) e p, es[i]? = some e → kv[i]? = some p → EntryOK E e p) (h : kfind k g kv = some r) : (Instr.findKey kt x es).run P w = .ok (At es 0 r) w := by
 unfold Instr.findKey
 cases hu : P.underlying kt with
 | none => simp [tab, hu] at ht
 | some td =>
  simp only [Sem.run_bind, run_underlying hu, Result.andThen_ok];rcases findNow_run (P := P) w hu hf ht hn hx es kv 0 r hl hall h with h1 | h1
  · rw [h1]; simp
  · rw [h1]; exact findAsking_run hf ht hn hx es kv 0 r hl hall h
theorem keyT_spec {t : TypeId} {k : KT} {e : TypeId} (h : keyT P t = some (k, e)) :
 ∃ kt, P.underlying t = some (.map kt e) ∧ flat P 16 kt = some k.ss ∧ tab P kt = some (k.ss.length, k.ag) ∧ (k.ag = false → k.ss.length = 1) := by
 unfold keyT at h
 split at h
 · rename_i kt e' hu;split at h
   · rename_i ss n ag h1 h2;split at h
     · rename_i hc; cases h; exact ⟨kt, hu, h1, by rw [h2, hc.1], hc.2⟩
     · cases h
   · cases h
 · cases h
theorem checkKey_run {k : KT} {kt : TypeId} {em : Bool} {x : Value} {g : GVal} {cs : List GVal} (hf : flat P 16 kt = some k.ss) (ht : tab P kt = some (k.ss.length, k.ag)) (hx : VR E x g)
 (hc : keyCells k g = some cs) (hl : cs.length = k.ss.length) : (Instr.checkKey em 10000 kt x).run P w = .ok () w := by
 rw [← keyCells_grp hc] at hx
 exact flat_chk (m := 9984) 16 kt k.ss hf E w k.ag x cs ht hx hl
def makeMapV (O : List GObj) (K : GVal → List GObj → Prop) : Prop := stamp O fun st => K (.map O.length st) (tickO O ++ [.map st []])
def keyOk (k : KT) (g : GVal) : Prop := match keyCells k g with
 | some cs => cs.length = k.ss.length
 | none => False
def zeroG (P : Program) (t : TypeId) : Option GVal :=
 match P.info? t with
 | some i => match i.zero with
  | some (.agg vs) => some (.agg (vs.toList.map .ofConst))
  | some z => some (.ofConst z)
  | none => none
 | none => none
def pairG (ok b : Bool) (g : GVal) : GVal := match ok with
 | true => .tuple [g, .bool b]
 | false => g
def lookupV (P : Program) (t : TypeId) (m x : GVal) (ok : Bool) (O : List GObj) (K : GVal → Prop) : Prop :=
 match keyT P t with
 | some (k, e) => keyOk k x ∧ match zeroG P e with
  | some z => match m with
   | .map o st => match O[o]? with
    | some (.map st' kv) => st = st' ∧ match kfind k x kv with
     | some (some i) => match kv[i]? with
      | some p => K (pairG ok true p.2)
      | none => False
     | some none => K (pairG ok false z)
     | none => False
    | _ => False
   | .lit (.map none) => K (pairG ok false z)
   | _ => False
  | none => False
 | none => False
def mapUpdateV (P : Program) (t : TypeId) (m x v : GVal) (O : List GObj) (K : List GObj → Prop) : Prop :=
 match keyT P t with
 | some (k, _) => keyOk k x ∧ match m with
  | .map o st => match O[o]? with
   | some (.map st' kv) => st = st' ∧ match kfind k x kv with
    | some (some i) => K (O.set o (.map st (kv.set i (x, v))))
    | some none => K (O.set o (.map st (kv ++ [(x, v)])))
    | none => False
   | _ => False
  | _ => False
 | none => False
def deleteV (P : Program) (t : TypeId) (m x : GVal) (O : List GObj) (K : List GObj → Prop) : Prop :=
 match keyT P t with
 | some (k, _) => keyOk k x ∧ match m with
  | .map o st => match O[o]? with
   | some (.map st' kv) => st = st' ∧ match kfind k x kv with
    | some (some i) => K (O.set o (.map st (kv.eraseIdx i)))
    | some none => K O
    | none => False
   | _ => False
  | _ => False
 | none => False
theorem makeMap_sound {t : TypeId} (h : HSim E O w) (hk : makeMapV O K) : SOK P (Instr.makeMap t none) E O w K := by
 unfold makeMapV at hk
 obtain ⟨st, hk, hst, hnx, h, hkeep⟩ := h.stamp hk
 rw [← tickO_len O] at hk
 obtain ⟨h1, h2⟩ := h.objNew (.map #[] 0) (.map st []) (l := ⟨some w.heap.size, 0, 0, 0⟩) hst hnx rfl trivial rfl
  ⟨_, w.heap.size, #[], 0, Env.addLoc_self _ _ _, rfl, alloc_new _ _, rfl, fun i e p he => by simp at he, ⟨by simp, by simp⟩, fun o => h.snap_new (Nat.le_refl _)⟩
  (by simp [GObj.blk, Env.addLoc_self])
 refine ⟨.map (some w.heap.size), _, _, _, _, ?_, h1, hkeep.trans h2, .map _ _ st _ (Env.addLoc_self _ _ _) rfl, hk⟩
 simp [Instr.makeMap]
theorem map_block {m : Option Nat} {o st : Nat} {kv : List (GVal × GVal)} (h : HSim E O w) (hm : VR E (.map m) (.map o st)) (hO : O[o]? = some (.map st kv)) :
 ∃ b es clock, m = some b ∧ w.heap[b]? = some (.map es clock) ∧ es.toList.length = kv.length ∧ (∀ (i : Nat) e p, es.toList[i]? = some e → kv[i]? = some p → EntryOK E e p) ∧ (∃ l, E.loc st = some l ∧ l.block = some b) ∧ (∀ o, E.snap b o = none) ∧ BornOK es clock := by
 cases hm with
 | map r o st l hl hb =>
  obtain ⟨l', b, es, clock, hl', hb', hw, hs, he, hbn, hn⟩ := h.real _ _ hO;rw [hl] at hl'; cases hl';rw [hb] at hb'; cases hb';exact ⟨r, es, clock, rfl, hw, by simpa using hs, fun i e p h1 h2 => he i e p (by simpa using h1) h2, ⟨l, hl, hb⟩, hn, hbn⟩
theorem zeroG_run {t : TypeId} {z : GVal} (h : zeroG P t = some z) (w : World) (E : Env) : ∃ v, (zeroValue t).run P w = .ok v w ∧ VR E v z := by
 unfold zeroG at h
 split at h
 · rename_i i hi;have run : ∀ v, i.zero = some v → (zeroValue t).run P w = .ok v w := fun v hz => by simp [zeroValue, typeInfo, hi, hz]
   split at h
   · rename_i vs hz;cases h;refine ⟨_, run _ hz, .agg _ _ (by simp) (fun j g hj => ?_)⟩;rw [List.getElem?_map] at hj;cases hv : vs.toList[j]? with
     | none => rw [hv] at hj; cases hj
     | some x =>
      rw [hv] at hj;simp only [Option.map_some, Option.some.injEq] at hj;subst hj;have hv' : vs[j]? = some x := by simpa using hv
      have e : vs.getD j (.tuple #[]) = x := by simp [Array.getD_eq_getD_getElem?, hv']
      rw [e]; exact VR.ofConst E x
   · rename_i z hne hz;cases h;exact ⟨_, run _ hz, VR.ofConst E z⟩
   · cases h
 · cases h
theorem getMap {r : Nat} {es : Array MapEntry} {clock : Nat} (hb : w.heap[r]? = some (.map es clock)) : (getObj r).run P w = .ok (.map es clock) w := by simp [getObj, Sem.run, hb]
theorem setMap {r : Nat} {es : Array MapEntry} {clock : Nat} (o : Obj) (hb : w.heap[r]? = some (.map es clock)) : (setObj r o).run P w = .ok () { w with heap := w.heap.setIfInBounds r o } := by
 simp [setObj, Sem.run, hb]
theorem lookup_sound {t : TypeId} {rm rx : Value} {m x : GVal} {ok : Bool} (h : HSim E O w) (hm : VR E rm m) (hx : VR E rx x) (hk : lookupV P t m x ok O (fun g => K g O)) :
 SOK P (Instr.lookup t rm rx ok) E O w K := by
 unfold lookupV at hk
 split at hk
 · rename_i k e hkt;obtain ⟨kt, hu, hf, ht, hn⟩ := keyT_spec hkt;obtain ⟨hko, hk⟩ := hk;have hchk : ∀ em, (Instr.checkKey em 10000 kt rx).run P w = .ok () w := fun em => by
    unfold keyOk at hko;split at hko
    · rename_i cs hcs; exact checkKey_run hf ht hx hcs hko
    · exact hko.elim
   split at hk
   · rename_i z hz;obtain ⟨zv, hzr, hzv⟩ := zeroG_run hz w E;have out : ∀ (v : Value) (b : Bool) (g : GVal), VR E v g → VR E (if ok = true then .tuple #[v, .bool b] else v) (pairG ok b g) := by
      intro v b g hv;cases ok with
      | false => exact hv
      | true =>
       refine .tuple _ _ rfl (fun j g' hj => ?_)
       match j with
       | 0 => simp at hj; subst hj; exact hv
       | 1 => simp at hj; subst hj; exact .bool b
       | j + 2 => simp at hj
     split at hk
     · rename_i o st;split at hk
       · rename_i st' kv hO;obtain ⟨rfl, hk⟩ := hk;have hm' : ∃ r, rm = .map r := by cases hm; exact ⟨_, rfl⟩
         obtain ⟨r, rfl⟩ := hm';obtain ⟨b, es, clock, rfl, hw, hl, he, _, _⟩ := map_block h hm hO;have base : ∀ r, kfind k x kv = some r → (Instr.lookup t (.map (some b)) rx ok).run P w = (match At es.toList 0 r with
          | some (_, v) => .ok (if ok = true then .tuple #[v, .bool true] else v) w
          | none => .ok (if ok = true then .tuple #[zv, .bool false] else zv) w) := fun r hr => by
          have hfk := findKey_run (P := P) (w := w) hf ht hn hx hl he hr;unfold Instr.lookup;simp only [Sem.run_bind, run_underlying hu, Result.andThen_ok, getMap hw, Sem.run_pure, hchk, hfk];cases At es.toList 0 r with
          | none => simp only [Sem.run_bind, hzr, Result.andThen_ok, Sem.run_pure]
          | some p => simp only [Sem.run_bind, Sem.run_pure, Result.andThen_ok]
         split at hk
         · rename_i i hi;split at hk
           · rename_i p hp;have hlt : i < es.toList.length := by rw [hl]; exact (List.getElem?_eq_some_iff.1 hp).1
             have hei : es.toList[i]? = some (es.toList[i]) := List.getElem?_eq_getElem hlt;refine .same ?_ h (out es.toList[i].val true p.2 (he i _ p hei hp).2) hk;rw [base _ hi]; simp only [At, hei]
           · exact hk.elim
         · rename_i hi;refine .same ?_ h (out zv false z hzv) hk;rw [base _ hi]; simp only [At]
         · exact hk.elim
       · exact hk.elim
     · have hm' : rm = .map none := by cases hm; rfl
       subst hm';refine .same ?_ h (out zv false z hzv) hk;unfold Instr.lookup;simp only [Sem.run_bind, run_underlying hu, Result.andThen_ok, Sem.run_pure, hchk];have hfk := findKey_run (P := P) (w := w) (es := []) (kv := []) (r := none) hf ht hn hx rfl (by simp) rfl;have e0 : (#[] : Array MapEntry).toList = [] := rfl;simp only [hfk, At, Sem.run_bind, hzr, Result.andThen_ok, Sem.run_pure]
     · exact hk.elim
   · exact hk.elim
 · exact hk.elim
theorem BornOK.modify {es : Array MapEntry} {clock : Nat} (h : BornOK es clock) (i : Nat) (f : MapEntry → MapEntry) (hf : ∀ e, (f e).born = e.born) : BornOK (es.modify i f) clock := by
 have e : (es.modify i f).toList.map MapEntry.born = es.toList.map MapEntry.born := by
  refine List.ext_getElem? fun j => ?_;rw [List.getElem?_map, List.getElem?_map, Array.getElem?_toList, Array.getElem?_toList, Array.getElem?_modify];by_cases hj : i = j
  · rw [if_pos hj];cases es[j]? with
    | none => rfl
    | some x => exact congrArg some (hf x)
  · rw [if_neg hj]
 obtain ⟨h1, h2⟩ := h
 refine ⟨fun x hx => ?_, ?_⟩
 · have : x.born ∈ (es.modify i f).toList.map MapEntry.born := List.mem_map_of_mem hx;rw [e] at this;obtain ⟨y, hy, ey⟩ := List.mem_map.1 this
   rw [← ey]; exact h1 y hy
 · have : ((es.modify i f).toList.map MapEntry.born).Pairwise (· ≠ ·) := by rw [e]; exact List.pairwise_map.2 h2
   exact List.pairwise_map.1 this
theorem BornOK.push {es : Array MapEntry} {clock : Nat} (h : BornOK es clock) (x : MapEntry) (hx : x.born = clock) : BornOK (es.push x) (clock + 1) := by
 obtain ⟨h1, h2⟩ := h
 refine ⟨fun y hy => ?_, ?_⟩
 · rw [Array.toList_push] at hy;rcases List.mem_append.1 hy with hy | hy
   · exact Nat.lt_succ_of_lt (h1 y hy)
   · rw [List.mem_singleton.1 hy, hx]; exact Nat.lt_succ_self _
 · rw [Array.toList_push];refine List.pairwise_append.2 ⟨h2, List.pairwise_singleton _ _, fun a ha b hb => ?_⟩;rw [List.mem_singleton.1 hb, hx];exact Nat.ne_of_lt (h1 a ha)
theorem BornOK.erase {es es' : Array MapEntry} {clock i : Nat} (h : BornOK es clock) (e : es'.toList = es.toList.eraseIdx i) : BornOK es' clock := by
 unfold BornOK
 rw [e]
 exact ⟨fun x hx => h.1 x (List.mem_of_mem_eraseIdx hx), h.2.sublist (List.eraseIdx_sublist _ _)⟩
theorem HSim.updMap {o st b : Nat} {kv kv' : List (GVal × GVal)} {es es' : Array MapEntry} {clock clock' : Nat} {l : GLoc} (h : HSim E O w) (hO : O[o]? = some (.map st kv)) (hl : E.loc st = some l) (hb : l.block = some b)
 (hw : w.heap[b]? = some (.map es clock)) (hs : es'.size = kv'.length) (he : ∀ (i : Nat) e p, es'[i]? = some e → kv'[i]? = some p → EntryOK E e p) (hbo : BornOK es' clock') :
 HSim E (O.set o (.map st kv')) { w with heap := w.heap.setIfInBounds b (.map es' clock') } ∧ Keep E O w E (O.set o (.map st kv')) { w with heap := w.heap.setIfInBounds b (.map es' clock') } := by
 have hblk : (GObj.map st kv).blk E = some b := by simp [GObj.blk, hl, hb]
 have hn : ∀ o, E.snap b o = none := by
  obtain ⟨l', b', es, clock, hl', hb', _, _, _, _, hn⟩ := h.real _ _ hO;rw [hl] at hl'; cases hl';rw [hb] at hb'; cases hb';exact hn
 have hlt := (Array.getElem?_eq_some_iff.1 hw).1
 refine h.upd (b := b) (t := b) hO (.inl hblk) (.inl rfl) (.refl E) h.fin ⟨rfl, rfl⟩ rfl ⟨rfl, trivial⟩ (by simp) (fun k _ hk => ?_) (fun _ _ _ _ hv => hv) (fun o v hv => ?_) ?_ (fun k hk => ?_)
 · rw [Array.getElem?_setIfInBounds, if_neg (fun e => hk e.symm)]
 · rw [hn o] at hv; cases hv
 · refine ⟨l, b, es', clock', hl, hb, ?_, hs, he, hbo, hn⟩;rw [Array.getElem?_setIfInBounds, if_pos rfl, if_pos hlt]
 · simp [GObj.blk, hl, hb] at hk; exact hk.symm
theorem sameBits_scalar {s : Sk} {x y : Value} {g g' : GVal} {n : Nat} (hx : VR E x g) (hy : VR E y g') (h : ceq s g g' = some true) : Instr.sameBits (n + 1) x y = true := by
 unfold ceq at h
 split at h
 · cases hx; cases hy
   split at h
   · rename_i e; subst e; simp at h; subst h; simp [Instr.sameBits]
   · cases h
 · cases hx; cases hy; simp at h; subst h; simp [Instr.sameBits]
 · cases hx; cases hy; simp at h; subst h
   simp only [Instr.sameBits];rw [beq_bytes]; simp
 · cases h
theorem sameBits_key {k : KT} {x y : Value} {g g' : GVal} (hn : k.ag = false → k.ss.length = 1) (hx : VR E x g) (hy : VR E y g') (h : keyEq k g g' = some true) : Instr.sameBits 10000 x y = true := by
 unfold keyEq at h
 split at h
 · rename_i xs ys e1 e2
   rw [← keyCells_grp e1] at hx
   rw [← keyCells_grp e2] at hy;obtain ⟨hl1, hl2⟩ := cellsEq_len h;cases ha : k.ag with
   | false =>
    rw [ha] at hx hy;have := hn ha
    match xs, ys, (by omega : xs.length = 1), (by omega : ys.length = 1) with
    | [a], [b], _, _ => obtain ⟨s, hs⟩ := cellsEq_at h 0 a b rfl rfl; exact sameBits_scalar (n := 9999) hx hy hs
   | true =>
    rw [ha] at hx hy;cases hx with
    | agg vs cs hs hc =>
     cases hy with
     | agg us cs' hs' hc' =>
      simp only [Instr.sameBits, Bool.and_eq_true, beq_iff_eq, List.all_eq_true];refine ⟨by omega, fun p hp => ?_⟩;obtain ⟨i, hi, hpi⟩ := List.mem_iff_getElem.1 hp;have hi1 : i < vs.size := by simp at hi; omega
      have hi2 : i < us.size := by simp at hi; omega
      rw [List.getElem_zip] at hpi;subst hpi;have e1' := hc i xs[i] (by simp [← hs, hi1]);have e2' := hc' i ys[i] (by simp [← hs', hi2]);obtain ⟨s, hss⟩ := cellsEq_at h i _ _ (List.getElem?_eq_getElem (by omega)) (List.getElem?_eq_getElem (by omega));have := sameBits_scalar (n := 9998) e1' e2' hss
      simpa [Array.getD, hi1, hi2] using this
 · cases h
theorem kfind_eq {k : KT} {x : GVal} : ∀ {kv : List (GVal × GVal)} {i : Nat}, kfind k x kv = some (some i) → ∃ p, kv[i]? = some p ∧ keyEq k x p.1 = some true
 | [], i, h => by simp [kfind] at h
 | p :: r, i, h => by
  unfold kfind at h;split at h
  · rename_i h1; cases h; exact ⟨p, rfl, h1⟩
  · split at h
    · rename_i j hj; cases h; obtain ⟨q, h1, h2⟩ := kfind_eq hj; exact ⟨q, by simpa using h1, h2⟩
    · cases h
    · cases h
  · cases h
theorem mapUpdate_sound {t : TypeId} {rm rx rv : Value} {m x v : GVal} {KU : List GObj → Prop} (h : HSim E O w) (hm : VR E rm m) (hx : VR E rx x) (hv : VR E rv v) (hk : mapUpdateV P t m x v O KU) :
 ∃ w' E' O', (Instr.mapUpdate t rm rx rv).run P w = .ok () w' ∧ HSim E' O' w' ∧ Keep E O w E' O' w' ∧ KU O' := by
 unfold mapUpdateV at hk
 split at hk
 · rename_i k e hkt;obtain ⟨kt, hu, hf, ht, hn⟩ := keyT_spec hkt;obtain ⟨hko, hk⟩ := hk;have hchk : ∀ em, (Instr.checkKey em 10000 kt rx).run P w = .ok () w := fun em => by
    unfold keyOk at hko;split at hko
    · rename_i cs hcs; exact checkKey_run hf ht hx hcs hko
    · exact hko.elim
   split at hk
   · rename_i o st;split at hk
     · rename_i st' kv hO;obtain ⟨rfl, hk⟩ := hk;have hm' : ∃ r, rm = .map r := by cases hm; exact ⟨_, rfl⟩
       obtain ⟨r, rfl⟩ := hm';obtain ⟨b, es, clock, rfl, hw, hl, he, ⟨l, hll, hlb⟩, _, hbo⟩ := map_block h hm hO;split at hk
       · rename_i i hi;have hfk := findKey_run (P := P) (w := w) hf ht hn hx hl he hi;obtain ⟨p, hp, hpe⟩ := kfind_eq hi;have hlt : i < es.toList.length := by rw [hl]; exact (List.getElem?_eq_some_iff.1 hp).1
         have hei : es.toList[i]? = some (es.toList[i]) := List.getElem?_eq_getElem hlt;have hkey : (Instr.keyThatStays (es.toList[i]).key rx).run P w = .ok rx w := by
          have h1 : keyEq k x p.1 = some true := hpe;have h2 := (he i _ p hei hp).1;have h3 := keyEq_rigid hn hx h2 h1;have h4 : Instr.sameBits 10000 (es.toList[i]).key rx = true := by
           have := sameBits_key hn hx h2 h1
           rw [← h3] at this ⊢; exact this
          unfold Instr.keyThatStays;rw [if_pos h4]; simp
         have hei' : es[i]? = some (es.toList[i]) := by simp
         obtain ⟨q1, q2⟩ := h.updMap (o := o) (kv' := kv.set i (x, v)) (es' := es.modify i fun e => { e with key := rx, val := rv }) (clock' := clock) hO hll hlb hw (by simpa using hl) (fun j e' p' he' hp' => by
          rw [Array.getElem?_modify] at he';rw [List.getElem?_set] at hp';by_cases hij : i = j
          · subst hij;rw [if_pos rfl, hei'] at he';simp only [Option.map_some, Option.some.injEq] at he';rw [if_pos rfl, if_pos (by rw [← hl]; exact hlt)] at hp';simp only [Option.some.injEq] at hp';subst he'; subst hp';exact ⟨hx, hv⟩
          · rw [if_neg hij] at he' hp';exact he j e' p' (by simpa using he') hp') (hbo.modify i _ fun _ => rfl)
         refine ⟨_, E, _, ?_, q1, q2, hk⟩;unfold Instr.mapUpdate;simp only [Sem.run_bind, run_underlying hu, Result.andThen_ok, getMap hw, hchk, hfk, At, hei, Nat.zero_add, hei', Option.map_some, Option.getD_some, hkey];rw [setMap _ hw]
       · rename_i hi;have hfk := findKey_run (P := P) (w := w) hf ht hn hx hl he hi;obtain ⟨q1, q2⟩ := h.updMap (o := o) (kv' := kv ++ [(x, v)]) (es' := es.push { key := rx, val := rv, born := clock }) (clock' := clock + 1) hO hll hlb hw (by simp; simpa using hl) (fun j e' p' he' hp' => by
          have hl' : es.size = kv.length := by simpa using hl
          rw [Array.getElem?_push] at he';by_cases hj : j = es.size
          · rw [if_pos hj] at he';simp only [Option.some.injEq] at he';rw [List.getElem?_append_right (by omega)] at hp';rw [show j - kv.length = 0 by omega] at hp';simp at hp';subst he'; subst hp';exact ⟨hx, hv⟩
          · rw [if_neg hj] at he';have hjlt := (Array.getElem?_eq_some_iff.1 he').1;rw [List.getElem?_append_left (by omega)] at hp';exact he j e' p' (by simpa using he') hp') (hbo.push _ rfl)
         refine ⟨_, E, _, ?_, q1, q2, hk⟩;unfold Instr.mapUpdate;simp only [Sem.run_bind, run_underlying hu, Result.andThen_ok, getMap hw, hchk, hfk, At];rw [setMap _ hw]
       · exact hk.elim
     · exact hk.elim
   · exact hk.elim
 · exact hk.elim
theorem delete_sound {t ty : TypeId} {rm rx : Value} {m x : GVal} {KU : List GObj → Prop} (u : TypeId) (h : HSim E O w) (hm : VR E rm m) (hx : VR E rx x) (hk : deleteV P t m x O KU) :
 ∃ w' E' O', (Builtin.delete_ #[t, u] ty #[rm, rx]).run P w = .ok (.tuple #[]) w' ∧ HSim E' O' w' ∧ Keep E O w E' O' w' ∧ KU O' := by
 unfold deleteV at hk
 split at hk
 · rename_i k e hkt;obtain ⟨kt, hu, hf, ht, hn⟩ := keyT_spec hkt;obtain ⟨hko, hk⟩ := hk;have hchk : ∀ em, (Instr.checkKey em 10000 kt rx).run P w = .ok () w := fun em => by
    unfold keyOk at hko;split at hko
    · rename_i cs hcs; exact checkKey_run hf ht hx hcs hko
    · exact hko.elim
   split at hk
   · rename_i o st;split at hk
     · rename_i st' kv hO;obtain ⟨rfl, hk⟩ := hk;have hm' : ∃ r, rm = .map r := by cases hm; exact ⟨_, rfl⟩
       obtain ⟨r, rfl⟩ := hm';obtain ⟨b, es, clock, rfl, hw, hl, he, ⟨l, hll, hlb⟩, _, hbo⟩ := map_block h hm hO;have hl' : es.size = kv.length := by simpa using hl
       split at hk
       · rename_i i hi;have hfk := findKey_run (P := P) (w := w) hf ht hn hx hl he hi;obtain ⟨p, hp, _⟩ := kfind_eq hi;have hlt : i < es.toList.length := by rw [hl]; exact (List.getElem?_eq_some_iff.1 hp).1
         have hei : es.toList[i]? = some (es.toList[i]) := List.getElem?_eq_getElem hlt;have hlt' : i < es.size := by simpa using hlt
         have hes : (es.eraseIdxIfInBounds i).toList = es.toList.eraseIdx i := by simp [Array.eraseIdxIfInBounds, hlt']
         obtain ⟨q1, q2⟩ := h.updMap (o := o) (kv' := kv.eraseIdx i) (es' := es.eraseIdxIfInBounds i) (clock' := clock) hO hll hlb hw
          (by rw [← Array.length_toList, hes]; rw [List.length_eraseIdx, List.length_eraseIdx, hl]) (fun j e' p' he' hp' => by
          have he2 : (es.toList.eraseIdx i)[j]? = some e' := by rw [← hes, Array.getElem?_toList]; exact he'
          rw [List.getElem?_eraseIdx] at he2 hp';by_cases hj : j < i
          · rw [if_pos hj] at he2 hp'; exact he j e' p' he2 hp'
          · rw [if_neg hj] at he2 hp'; exact he (j + 1) e' p' he2 hp') (hbo.erase hes)
         refine ⟨_, E, _, ?_, q1, q2, hk⟩;unfold Builtin.delete_;simp only [List.size_toArray, List.length_cons, List.length_nil, getElem?_pos, Nat.reduceAdd, Nat.zero_lt_succ, List.getElem_toArray, List.getElem_cons_zero, Nat.reduceLT, List.getElem_cons_succ,
          Sem.run_bind, run_underlying hu, Result.andThen_ok, getMap hw, hchk, hfk, At, hei, Nat.zero_add]
         rw [setMap _ hw];rfl
       · rename_i hi;have hfk := findKey_run (P := P) (w := w) hf ht hn hx hl he hi;have hlt := (Array.getElem?_eq_some_iff.1 hw).1;have hsame : ({ w with heap := w.heap.setIfInBounds b (.map es clock) } : World) = w := by
          have e : w.heap.setIfInBounds b (.map es clock) = w.heap := by
           apply Array.ext (by simp);intro j h1 h2;rw [Array.getElem_setIfInBounds];split
           · rename_i e; subst e; exact (Array.getElem?_eq_some_iff.1 hw).2.symm
           · rfl
          rw [e]
         refine ⟨w, E, O, ?_, h, .refl _ _ _, hk⟩;unfold Builtin.delete_;simp only [List.size_toArray, List.length_cons, List.length_nil, getElem?_pos, Nat.reduceAdd, Nat.zero_lt_succ, List.getElem_toArray, List.getElem_cons_zero, Nat.reduceLT, List.getElem_cons_succ,
          Sem.run_bind, run_underlying hu, Result.andThen_ok, getMap hw, hchk, hfk, At]
         rw [setMap _ hw, hsame];rfl
       · exact hk.elim
     · exact hk.elim
   · exact hk.elim
 · exact hk.elim
end
end Gv
namespace Gv
open Go
structure GSt where
 s : List GVal
 o : List GObj
def sget (s : List GVal) (t : Nat) : GVal := s.getD t .any
def GSt.ev (st : GSt) : Operand → GVal
 | .tmp t => sget st.s t
 | .const v => .ofConst v
 | .global g => .lit (.pointer (some ⟨g, 0, none⟩))
 | .func f => .func (.func f) [] []
def GSt.put (st : GSt) (d : Option Nat) (g : GVal) (O' : List GObj) : GSt :=
 match d with
 | some d => ⟨st.s.set d g, O'⟩
 | none => ⟨st.s, O'⟩
structure SlotsR (E : Env) (a : Act) (s : List GVal) : Prop where
 size : a.tmps.size = s.length
 defers : a.defers = []
 at_ : ∀ (i : Nat) g, s[i]? = some g → VR E (a.tmps.getD i undef) g
theorem SlotsR.mono {E E' : Env} (h : E.le E') {a : Act} {s : List GVal} (k : SlotsR E a s) : SlotsR E' a s := ⟨k.size, k.defers, fun i g hg => (k.at_ i g hg).mono h⟩
theorem SlotsR.ev {E : Env} {a : Act} {st : GSt} (h : SlotsR E a st.s) (x : Operand) : VR E (a.eval x) (st.ev x) := by
 cases x with
 | tmp t =>
  show VR E (a.tmps.getD t undef) (st.s.getD t .any);by_cases ht : t < st.s.length
  · exact h.at_ t _ (getD_of ht)
  · have : st.s.getD t .any = .any := by simp [List.getD, List.getElem?_eq_none (Nat.le_of_not_lt ht)]
    rw [this]; exact .any _
 | const v => exact VR.ofConst E v
 | global g => exact .lit _
 | func f => exact .func _ _ _ _ _ rfl rfl (by simp) (by simp)
theorem SlotsR.put {E E' : Env} {a : Act} {st : GSt} (h : SlotsR E a st.s) (hE : E.le E') {d : Option Nat} {v : Value} {g : GVal} (hv : VR E' v g) (O' : List GObj) : SlotsR E' (a.put d v) (st.put d g O').s := by
 cases d with
 | none => exact h.mono hE
 | some d =>
  refine ⟨by simp [Act.put, GSt.put, h.size], h.defers, fun i g' hg => ?_⟩;simp only [GSt.put, List.getElem?_set] at hg;simp only [Act.put, Array.getD_eq_getD_getElem?, Array.getElem?_setIfInBounds];by_cases hd : d = i
  · subst hd;rw [if_pos rfl] at hg;split at hg
    · rename_i hlt;simp only [Option.some.injEq] at hg;subst hg;have : d < a.tmps.size := by rw [h.size]; exact hlt
      simpa [this] using hv
    · cases hg
  · rw [if_neg hd] at hg ⊢;have := h.at_ i g' hg
    simpa [Array.getD_eq_getD_getElem?] using this.mono hE
theorem GSt.put_o (st : GSt) (d : Option Nat) (g : GVal) (O' : List GObj) : (st.put d g O').o = O' := by cases d <;> rfl
def enterable (P : Program) (f : FuncId) : Bool :=
 match P.funcs[f]? with
 | some fn => fn.body.isSome && fn.name != "runtime.NumGoroutine"
 | none => false
theorem enterable_run {P : Program} {f : FuncId} (h : enterable P f = true) (args : Array Value) (w : World) : (callFunc f args).run P w = .ok (.enter f args) w := by
 unfold enterable at h
 cases hf : P.funcs[f]? with
 | none => simp [hf] at h
 | some fn =>
  simp only [hf, Bool.and_eq_true, bne_iff_ne] at h;cases hb : fn.body with
  | none => simp [hb] at h
  | some c => simp [callFunc, hf, h.2, hb]
def ArgsR (E : Env) (vs : Array Value) (gs : List GVal) : Prop := vs.size = gs.length ∧ ∀ (i : Nat) g, gs[i]? = some g → VR E (vs.getD i undef) g
def GCalls (P : Program) (f : FuncId) (args : List GVal) (O : List GObj) (K : GVal → List GObj → Prop) : Prop :=
 enterable P f = true ∧ ∀ E w vs, HSim E O w → ArgsR E vs args →
  Calls P f vs w fun e w' => ∃ v E' O' g, e = .returned v ∧ HSim E' O' w' ∧ Keep E O w E' O' w' ∧ VR E' v g ∧ K g O'
theorem GCalls.mono {P : Program} {f : FuncId} {args : List GVal} {O : List GObj} {K K' : GVal → List GObj → Prop} (h : GCalls P f args O K) (hk : ∀ g O', K g O' → K' g O') : GCalls P f args O K' :=
 ⟨h.1, fun E w vs hs ha => (h.2 E w vs hs ha).mono fun e w' ⟨v, E', O', g, h1, h2, h3, h4, h5⟩ => ⟨v, E', O', g, h1, h2, h3, h4, hk _ _ h5⟩⟩
def nilV (g : GVal) (K : GVal → Prop) : Prop :=
 match g with
 | .ptr _ _ _ _ => K g
 | .ref _ => K g
 | .func (.func _) _ _ => K g
 | .iface _ _ => K g
 | _ => False
def callV (P : Program) (ow : Bool) (st : GSt) (c : Call) (K : GVal → List GObj → Prop) : Prop :=
 match c.callee with
 | .builtin b => match b, c.argTypes.toList, c.args.toList with
  | .len, [t], [x] => lenV P t (st.ev x) st.o (fun g => K g st.o)
  | .append, [t, u], [x, y] => appendV P ow t u (st.ev x) (st.ev y) st.o K
  | .min, _, [x, y] => minV false [st.ev x, st.ev y] (fun g => K g st.o)
  | .max, _, [x, y] => minV true [st.ev x, st.ev y] (fun g => K g st.o)
  | .delete, [t, u], [x, y] => deleteV P t (st.ev x) (st.ev y) st.o (fun O' => K (.tuple []) O')
  | .cap, [t], [x] => capV P t (st.ev x) (fun g => K g st.o)
  | .clear, [t], [x] => clearV P t (st.ev x) st.o (fun O' => K (.tuple []) O')
  | _, _, _ => False
 | .value f => match st.ev f with
  | .func (.func n) first caps => GCalls P n (first ++ c.args.toList.map st.ev ++ caps) st.o K
  | _ => False
 | _ => False
theorem gcase {b want : Bool} {p q : Prop} : (if b = want then (b = want → p) else (b = (!want) → q)) ↔ ((b = want → p) ∧ (b = (!want) → q)) := by
 cases b <;> cases want <;> simp
def gif (b : Bool) (p q : Prop) : Prop := match b with
 | true => p
 | false => q
theorem gif_iff {b : Bool} {p q : Prop} : gif b p q ↔ ((b = true → p) ∧ (b = false → q)) := by cases b <;> simp [gif]
theorem gcase1 {b : Bool} {p q : Prop} : (if b = true then (b = true → p) else (b = false → q)) ↔ ((b = true → p) ∧ (b = false → q)) := gcase (want := true)
def optV (st : GSt) : Option Operand → Option GVal
 | none => none
 | some x => some (st.ev x)
def opv (P : Program) (R : List Nat) (st : GSt) (o : Oper) (K : GVal → List GObj → Prop) : Prop :=
 match o.op with
 | .move x => K (st.ev x) st.o
 | .assign x => K (st.ev x) st.o
 | .pick c a b => match st.ev c with
  | .bool t => gif t (K (st.ev a) st.o) (K (st.ev b) st.o)
  | _ => False
 | .binOp op t x y _ => binN P op t y (st.ev x) (st.ev y) (fun g => K g st.o)
 | .unOp op _ x => unV op (st.ev x) (fun g => K g st.o)
 | .convert s d x => convV P s d (st.ev x) (fun g => K g st.o)
 | .load t x => loadV P t (st.ev x) st.o (fun g => K g st.o)
 | .store t x y => storeV P t (st.ev x) (st.ev y) st.o (fun O' => K .any O')
 | .fieldAddr s x f => fieldAddrV P s (st.ev x) f (fun g => K g st.o)
 | .field s x f => fieldV P s (st.ev x) f (fun g => K g st.o)
 | .indexAddr t x i => indexAddrV P t (st.ev x) (st.ev i) st.o (fun g => K g st.o)
 | .index t x i => indexV P t (st.ev x) (st.ev i) (fun g => K g st.o)
 | .extract x i => extractV (st.ev x) i (fun g => K g st.o)
 | .alloc t => allocV P t st.o K
 | .makeSlice t x y => makeSliceV P t (st.ev x) (st.ev y) st.o K
 | .lookup t x y ok => lookupV P t (st.ev x) (st.ev y) ok st.o (fun g => K g st.o)
 | .mapUpdate t x y z => mapUpdateV P t (st.ev x) (st.ev y) (st.ev z) st.o (fun O' => K .any O')
 | .insert t x y z => mapUpdateV P t (st.ev x) (st.ev y) (st.ev z) st.o (fun O' => K .any O')
 | .makeMap t r => match r with
  | none => makeMapV st.o K
  | some _ => False
 | .box _ x => boxV (match o.dst with | some d => R.contains d | none => false) (st.ev x) st.o K
 | .build t ps => buildV P t (ps.toList.map fun p => (p.1, st.ev p.2)) (fun g => K g st.o)
 | .buildSlice t n ps => buildSliceV P t n (ps.toList.map fun p => (p.1, st.ev p.2)) (fun g => K g st.o)
 | .slice t x lo hi mx => sliceV P t (st.ev x) (optV st lo) (optV st hi) (optV st mx) st.o (fun g => K g st.o)
 | .nilCheck x => nilV (st.ev x) (fun g => K g st.o)
 | .makeInterface t x => ifaceV P t (st.ev x) (fun g => K g st.o)
 | .makeFunc fn fs cs => K (.func fn (fs.toList.map st.ev) (cs.toList.map st.ev)) st.o
 | .call c => callV P (match o.dst with | some d => R.contains d | none => false) st c K
 | _ => False
section
variable {P : Program} {E : Env} {w : World} {K : GVal → List GObj → Prop} {st : GSt} {a : Act} {o : Oper} {next : Act → World → Prop} {Q : Exit → Act → World → Prop}
def Nexts (o : Oper) (a : Act) (w : World) (E : Env) (st : GSt) (K : GVal → List GObj → Prop) (next : Act → World → Prop) : Prop :=
 ∀ v w' E' O' g, HSim E' O' w' → Keep E st.o w E' O' w' → VR E' v g → K g O' → next (a.put o.dst v) w'
theorem wp_of_SOK {s : Sem Value} (hs : SOK P s E st.o w K) (he : execOp a.eval o = (do pure (.value (← s)) : Sem Next)) (hn : Nexts o a w E st K next) : o.wp P a w next Q := by
 obtain ⟨v, w', E', O', g, hrun, h1, h2, h3, h4⟩ := hs
 unfold Oper.wp
 rw [he]
 simp only [Sem.run_bind, hrun, Result.andThen_ok, Sem.run_pure, Oper.upon_value]
 exact hn v w' E' O' g h1 h2 h3 h4
theorem parts_R (ha : SlotsR E a st.s) (ps : Array (Nat × Operand)) :
 (ps.toList.map fun p => (p.1, st.ev p.2)).map (·.1) = (ps.map fun (i, x) => (i, a.eval x)).toList.map (·.1) ∧
 ∀ (i : Nat) g v, (ps.toList.map fun p => (p.1, st.ev p.2))[i]? = some g → (ps.map fun (i, x) => (i, a.eval x)).toList[i]? = some v → VR E v.2 g.2 := by
 constructor
 · simp
 · intro i g v hg hv;rw [List.getElem?_map] at hg;rw [Array.toList_map, List.getElem?_map] at hv;cases hp : ps.toList[i]? with
   | none => simp [hp] at hg
   | some p =>
    simp [hp] at hg hv;subst hg; subst hv;exact ha.ev _
theorem opt_R (ha : SlotsR E a st.s) (x : Option Operand) : OptR E (x.map a.eval) (optV st x) := by
 cases x with
 | none => trivial
 | some x => exact ha.ev x
theorem args_R (ha : SlotsR E a st.s) (xs : Array Operand) : ArgsR E (xs.map a.eval) (xs.toList.map st.ev) := by
 refine ⟨by simp, fun i g hg => ?_⟩
 rw [List.getElem?_map] at hg
 cases hp : xs.toList[i]? with
 | none => simp [hp] at hg
 | some p =>
  simp [hp] at hg;subst hg;have : xs[i]? = some p := by simpa using hp
  have e : (xs.map a.eval).getD i undef = a.eval p := by simp [Array.getD_eq_getD_getElem?, this]
  rw [e]; exact ha.ev p
theorem ArgsR.append {vs us : Array Value} {gs hs : List GVal} (h : ArgsR E vs gs) (k : ArgsR E us hs) : ArgsR E (vs ++ us) (gs ++ hs) := by
 refine ⟨by simp [h.1, k.1], fun i g hg => ?_⟩
 by_cases hi : i < gs.length
 · rw [List.getElem?_append_left hi] at hg;have e : (vs ++ us).getD i undef = vs.getD i undef := by
    simp only [Array.getD_eq_getD_getElem?]; rw [Array.getElem?_append_left (by rw [h.1]; exact hi)]
   rw [e]; exact h.2 i g hg
 · rw [List.getElem?_append_right (by omega)] at hg;have e : (vs ++ us).getD i undef = us.getD (i - gs.length) undef := by
    simp only [Array.getD_eq_getD_getElem?]; rw [Array.getElem?_append_right (by rw [h.1]; omega), h.1]
   rw [e]; exact k.2 _ g hg
theorem toList_one {α : Type} {a : Array α} {x : α} (h : a.toList = [x]) : a = #[x] := by apply Array.ext'; simpa using h
theorem toList_two {α : Type} {a : Array α} {x y : α} (h : a.toList = [x, y]) : a = #[x, y] := by apply Array.ext'; simpa using h
theorem call_sound {c : Call} {ow : Bool} {ty : TypeId} (h : HSim E st.o w) (ha : SlotsR E a st.s) (hk : callV P ow st c K) (ho : o.op = .call c) (hn : Nexts o a w E st K next) : o.wp P a w next Q := by
 have hex : execOp a.eval o = (do let d ← resolve a.eval c o.type; invoke d.target d.args : Sem Next) := by unfold execOp; rw [ho]
 unfold callV at hk
 obtain ⟨callee, args, argTypes⟩ := c
 cases callee with
 | builtin b =>
  simp only at hk
  have hbi : ∀ (s : Sem Value), builtin b argTypes o.type (args.map fun | .const _ => true | _ => false) (args.map a.eval) = (do pure (.value (← s)) : Sem Next) → SOK P s E st.o w K → o.wp P a w next Q := by
   intro s hs hok;refine wp_of_SOK hok ?_ hn;rw [hex];simp only [resolve, invoke];exact hs
  split at hk
  · rename_i t x h1 h2;rw [toList_one h1, toList_one h2] at hbi;exact hbi (Builtin.len_ #[t] o.type #[a.eval x]) (by simp [builtin]) (len_sound h (ha.ev x) hk)
  · rename_i t u x y h1 h2;rw [toList_two h1, toList_two h2] at hbi;exact hbi (Builtin.append_ #[t, u] o.type #[a.eval x, a.eval y]) (by simp [builtin]) (append_sound h (ha.ev x) (ha.ev y) hk)
  · rename_i x y h2;rw [toList_two h2] at hbi;exact hbi (Builtin.min_ argTypes o.type #[a.eval x, a.eval y]) (by simp [builtin]) (min_sound (mx := false) h (ha.ev x) (ha.ev y) hk)
  · rename_i x y h2;rw [toList_two h2] at hbi;exact hbi (Builtin.max_ argTypes o.type #[a.eval x, a.eval y]) (by simp [builtin]) (min_sound (mx := true) h (ha.ev x) (ha.ev y) hk)
  · rename_i t u x y h1 h2;rw [toList_two h1, toList_two h2] at hbi;obtain ⟨w', E', O', g1, g2, g3, g4⟩ := delete_sound (ty := o.type) u h (ha.ev x) (ha.ev y) hk;exact hbi (Builtin.delete_ #[t, u] o.type #[a.eval x, a.eval y]) (by simp [builtin]) ⟨_, w', E', O', _, g1, g2, g3, .tuple #[] [] rfl (by simp), g4⟩
  · rename_i t x h1 h2;rw [toList_one h1, toList_one h2] at hbi;exact hbi (Builtin.cap_ #[t] o.type #[a.eval x]) (by simp [builtin]) (cap_sound h (ha.ev x) hk)
  · rename_i t x h1 h2;rw [toList_one h1, toList_one h2] at hbi;obtain ⟨w', E', O', g1, g2, g3, g4⟩ := clear_sound (ty := o.type) h (ha.ev x) hk;exact hbi (Builtin.clear_ #[t] o.type #[a.eval x]) (by simp [builtin]) ⟨_, w', E', O', _, g1, g2, g3, .tuple #[] [] rfl (by simp), g4⟩
  · exact hk.elim
 | value f =>
  simp only at hk
  have hf := ha.ev f;split at hk
  · rename_i n first caps hfe
    rw [hfe] at hf;generalize hfv : a.eval f = fv at hf;cases hf with
    | func fn fs cs gs ks hfs hks hfs2 hks2 =>
     unfold Oper.wp;rw [hex];have hrun : (do let d ← resolve a.eval ⟨.value f, args, argTypes⟩ o.type; invoke d.target d.args : Sem Next).run P w = .ok (.enter n (fs ++ args.map a.eval ++ cs)) w := by
      simp only [resolve, hfv, Deferred.ofValue, Sem.run_bind, Sem.run_pure, Result.andThen_ok, invoke];exact enterable_run hk.1 _ w
     rw [hrun, Oper.upon_enter];have hargs : ArgsR E (fs ++ args.map a.eval ++ cs) (first ++ args.toList.map st.ev ++ caps) :=
      (ArgsR.append (ArgsR.append ⟨hfs, fun i g hg => hfs2 i g hg⟩ (args_R ha args)) ⟨hks, fun i g hg => hks2 i g hg⟩)
     refine (hk.2 E w _ h hargs).mono fun e w' he => ?_;obtain ⟨v, E', O', g, rfl, h1, h2, h3, h4⟩ := he;exact hn v w' E' O' g h1 h2 h3 h4
  · exact hk.elim
 | invoke r m => exact hk.elim
theorem op_sound {R : List Nat} (h : HSim E st.o w) (ha : SlotsR E a st.s) (hk : opv P R st o K) (hn : Nexts o a w E st K next) : o.wp P a w next Q := by
 obtain ⟨dst, op, ty, pos, after, guard⟩ := o
 unfold opv at hk
 have val : ∀ (v : Value) (g : GVal), execOp a.eval ⟨dst, op, ty, pos, after, guard⟩ = pure (.value v) → VR E v g → K g st.o → Oper.wp P ⟨dst, op, ty, pos, after, guard⟩ a w next Q := by
  intro v g he hv hkk;unfold Oper.wp;rw [he];simp only [Sem.run_pure, Oper.upon_value];exact hn v w E st.o g h (.refl _ _ _) hv hkk
 cases op with
 | move x => exact val _ _ rfl (ha.ev x) hk
 | assign x => exact val _ _ rfl (ha.ev x) hk
 | pick c x y =>
  simp only at hk
  have hc := ha.ev c;split at hk
  · rename_i t hce;rw [hce] at hc;rw [gif_iff] at hk;generalize hcv : a.eval c = cv at hc;cases hc;unfold Oper.wp;cases t with
    | true =>
     simp only [execOp, hcv, asBool, Sem.run_bind, Sem.run_pure, Result.andThen_ok, Oper.upon_value, if_true];exact hn _ w E st.o _ h (.refl _ _ _) (ha.ev x) (hk.1 rfl)
    | false =>
     simp only [execOp, hcv, asBool, Sem.run_bind, Sem.run_pure, Result.andThen_ok, Oper.upon_value];exact hn _ w E st.o _ h (.refl _ _ _) (ha.ev y) (hk.2 rfl)
  · exact hk.elim
 | binOp op t x y u => exact wp_of_SOK (binN_sound (ox := x) (oy := y) h (ha.ev x) (ha.ev y) hk) rfl hn
 | unOp op t x => exact wp_of_SOK (un_sound h (ha.ev x) hk) rfl hn
 | convert s d x => exact wp_of_SOK (conv_sound h (ha.ev x) hk) rfl hn
 | load t x => exact wp_of_SOK (load_sound h (ha.ev x) hk) rfl hn
 | store t x y =>
  obtain ⟨w', E', O', hrun, h1, h2, h3⟩ := store_sound (KU := fun O' => K .any O') h (ha.ev x) (ha.ev y) hk;unfold Oper.wp;simp only [execOp, Sem.run_bind, hrun, Result.andThen_ok, Sem.run_pure, Oper.upon_skip];exact hn undef w' E' O' .any h1 h2 (.any _) h3
 | fieldAddr s x f => exact wp_of_SOK (fieldAddr_sound h (ha.ev x) hk) rfl hn
 | field s x f => exact wp_of_SOK (field_sound h (ha.ev x) hk) rfl hn
 | indexAddr t x i => exact wp_of_SOK (indexAddr_sound h (ha.ev x) (ha.ev i) hk) rfl hn
 | index t x i => exact wp_of_SOK (index_sound h (ha.ev x) (ha.ev i) hk) rfl hn
 | extract x i => exact wp_of_SOK (extract_sound h (ha.ev x) hk) rfl hn
 | alloc t => exact wp_of_SOK (alloc_sound h hk) rfl hn
 | makeSlice t x y => exact wp_of_SOK (makeSlice_sound h (ha.ev x) (ha.ev y) hk) rfl hn
 | lookup t x y ok => exact wp_of_SOK (lookup_sound h (ha.ev x) (ha.ev y) hk) rfl hn
 | mapUpdate t x y z =>
  obtain ⟨w', E', O', hrun, h1, h2, h3⟩ := mapUpdate_sound (KU := fun O' => K .any O') h (ha.ev x) (ha.ev y) (ha.ev z) hk;unfold Oper.wp;simp only [execOp, Sem.run_bind, hrun, Result.andThen_ok, Sem.run_pure, Oper.upon_skip];exact hn undef w' E' O' .any h1 h2 (.any _) h3
 | insert t x y z =>
  obtain ⟨w', E', O', hrun, h1, h2, h3⟩ := mapUpdate_sound (KU := fun O' => K .any O') h (ha.ev x) (ha.ev y) (ha.ev z) hk;unfold Oper.wp;simp only [execOp, Sem.run_bind, hrun, Result.andThen_ok, Sem.run_pure, Oper.upon_skip];exact hn undef w' E' O' .any h1 h2 (.any _) h3
 | makeMap t r =>
  cases r with
  | none => exact wp_of_SOK (makeMap_sound (t := t) h hk) rfl hn
  | some r => exact hk.elim
 | box t x => exact wp_of_SOK (box_sound h (ha.ev x) hk) rfl hn
 | build t ps => exact wp_of_SOK (build_sound h (parts_R ha ps).1 (parts_R ha ps).2 hk) rfl hn
 | buildSlice t n ps => exact wp_of_SOK (buildSlice_sound h (parts_R ha ps).1 (parts_R ha ps).2 hk) rfl hn
 | slice t x lo hi mx => exact wp_of_SOK (slice_sound h (ha.ev x) (opt_R ha lo) (opt_R ha hi) (opt_R ha mx) hk) rfl hn
 | nilCheck x =>
  have hx := ha.ev x;simp only at hk
  unfold nilV at hk;split at hk
  · rename_i o' st' i j hxe;rw [hxe] at hx hk;generalize hxv : a.eval x = xv at hx;cases hx with
    | ptr b off o st i j l hl hb ho => exact val _ _ (by simp only [execOp, hxv]) (.ptr b off _ _ _ _ l hl hb ho) hk
  · rename_i cs hxe;rw [hxe] at hx hk;generalize hxv : a.eval x = xv at hx;cases hx with
    | ref b off cs c h1 h2 => exact val _ _ (by simp only [execOp, hxv]) (.ref b off cs c h1 h2) hk
  · rename_i f fs cs hxe;rw [hxe] at hx hk;generalize hxv : a.eval x = xv at hx;cases hx with
    | func fn fs cs gs ks a1 a2 a3 a4 => exact val (.func (.func f) fs cs) _ (by simp only [execOp, hxv]) (.func _ fs cs _ _ a1 a2 a3 a4) hk
  · rename_i t v hxe;rw [hxe] at hx hk;generalize hxv : a.eval x = xv at hx;cases hx with
    | iface t v g hv => exact val (.iface _ _) _ (by simp only [execOp, hxv]) (.iface _ _ _ hv) hk
  · exact hk.elim
 | makeInterface t x => exact wp_of_SOK (iface_sound h (ha.ev x) hk) rfl hn
 | makeFunc fn fs cs =>
  have h1 := args_R ha fs;have h2 := args_R ha cs;exact val (.func fn (fs.map a.eval) (cs.map a.eval)) _ rfl (.func fn _ _ _ _ h1.1 h2.1 (fun j g hg => h1.2 j g hg) (fun j g hg => h2.2 j g hg)) hk
 | call c => exact call_sound (ty := ty) h ha hk rfl hn
 | _ => exact hk.elim
end
end Gv
