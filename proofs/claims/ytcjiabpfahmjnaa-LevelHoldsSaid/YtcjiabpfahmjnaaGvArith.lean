/- Numbers, bools, strings; len, min, max; interface values, functions. -/
import Derived.Test.YtcjiabpfahmjnaaGvAppend3
import Derived.Test.YtcjiabpfahmjnaaGvEq
import Derived.Laws.Strings
import Derived.Laws.Concat
set_option linter.unusedVariables false
namespace Gv
open Go

/-- what an integer kind makes of a number -/
def norm (k : IntKind) (n : Int) : Int := k.wrap n

theorem norm_i64 {n : Int} (h : -9223372036854775808 ≤ n ∧ n ≤ 9223372036854775807) : norm .i64 n = n := by
  have e1 : ((2 : Int) ^ 64) = 18446744073709551616 := by decide
  have e2 : ((2 : Int) ^ 63) = 9223372036854775808 := by decide
  simp only [norm, IntKind.wrap, IntKind.bits, IntKind.signed, Bool.true_and, e1, show (64 - 1 : Nat) = 63 from rfl, e2]
  by_cases h0 : 0 ≤ n
  · rw [if_neg (by simp; omega)]; omega
  · rw [if_pos (by simp; omega)]; omega

theorem norm_u8 {n : Int} (h : 0 ≤ n ∧ n ≤ 255) : norm .u8 n = n := by
  simp only [norm, IntKind.wrap, IntKind.bits, IntKind.signed, Bool.false_and, Bool.false_eq_true, if_false]
  omega

section
variable {P : Program} {E : Env} {O : List GObj} {w : World} {K : GVal → List GObj → Prop}

/-- the cells of an aggregate that may be compared -/
def aggT (P : Program) (t : TypeId) : Option (List Sk) :=
  match flat P 16 t, tab P t with
  | some ss, some (n, true) => if ss.length = n ∧ P.eqGuardType P.depth t = false then some ss else none
  | _, _ => none
theorem aggT_spec {P : Program} {t : TypeId} {ss : List Sk} (h : aggT P t = some ss) : flat P 16 t = some ss ∧ tab P t = some (ss.length, true) ∧ P.eqGuardType P.depth t = false := by
  unfold aggT at h
  split at h
  · rename_i s n h1 h2
    split at h
    · rename_i hc; cases h; exact ⟨h1, by rw [h2, hc.1], hc.2⟩
    · cases h
  · cases h
def aggV (P : Program) (t : TypeId) (xs ys : List GVal) (K : Bool → Prop) : Prop :=
  match aggT P t with
  | some ss => match cellsEq ss xs ys with
    | some r => K r
    | none => False
  | none => False

def binV (P : Program) (op : BinOp) (t : TypeId) (x y : GVal) (K : GVal → Prop) : Prop :=
  match x, y with
  | .int k a, .int k' b => match op with
    | .add => k = k' ∧ K (.int k (norm k (a + b)))
    | .sub => k = k' ∧ K (.int k (norm k (a - b)))
    | .mul => k = k' ∧ K (.int k (norm k (a * b)))
    | .quo => k = k' ∧ b ≠ 0 ∧ K (.int k (norm k (a.tdiv b)))
    | .rem => k = k' ∧ b ≠ 0 ∧ K (.int k (a.tmod b))
    | .eql => k = k' ∧ K (.bool (a == b))
    | .neq => k = k' ∧ K (.bool (a != b))
    | .lss => k = k' ∧ K (.bool (decide (a < b)))
    | .leq => k = k' ∧ K (.bool (decide (a ≤ b)))
    | .gtr => k = k' ∧ K (.bool (decide (b < a)))
    | .geq => k = k' ∧ K (.bool (decide (b ≤ a)))
    | .and => k = k' ∧ K (.int k (bits .and k a b))
    | .or => k = k' ∧ K (.int k (bits .or k a b))
    | .xor => k = k' ∧ K (.int k (bits .xor k a b))
    | .shl => 0 ≤ b ∧ b ≤ k.bits ∧ K (.int k (norm k (a * 2 ^ b.toNat)))
    | .shr => 0 ≤ b ∧ b ≤ k.bits ∧ K (.int k (a / 2 ^ b.toNat))
    | _ => False
  | .bool a, .bool b => match op with
    | .eql => P.underlying t = some .bool ∧ K (.bool (a == b))
    | .neq => P.underlying t = some .bool ∧ K (.bool (a != b))
    | _ => False
  | .str a, .str b => match op with
    | .eql => K (.bool (a == b))
    | .neq => K (.bool (a != b))
    | .lss => K (.bool (Op.bytesLess a b))
    | .add => a.length + b.length ≤ 4611686018427387904 ∧ K (.str (a ++ b))
    | _ => False
  | .slice xs tag, .slice [] .nil => match op with
    | .eql => (match P.underlying t with | some (.slice _) => true | _ => false) = true ∧ (tag = .nil → K (.bool true)) ∧ (tag ≠ .nil → (xs = [] → K .ubool) ∧ (xs ≠ [] → K (.bool false)))
    | .neq => (match P.underlying t with | some (.slice _) => true | _ => false) = true ∧ (tag = .nil → K (.bool false)) ∧ (tag ≠ .nil → (xs = [] → K .ubool) ∧ (xs ≠ [] → K (.bool true)))
    | _ => False
  | .own _ _ _ len, .slice [] .nil => match op with
    | .eql => (match P.underlying t with | some (.slice _) => true | _ => false) = true ∧ (len = 0 → K .ubool) ∧ (len ≠ 0 → K (.bool false))
    | .neq => (match P.underlying t with | some (.slice _) => true | _ => false) = true ∧ (len = 0 → K .ubool) ∧ (len ≠ 0 → K (.bool true))
    | _ => False
  | .agg xs, .agg ys => match op with
    | .eql => aggV P t xs ys (fun r => K (.bool r))
    | .neq => aggV P t xs ys (fun r => K (.bool !r))
    | _ => False
  | .iface _ _, .lit .nilIface => match op with
    | .eql => (match P.underlying t with | some (.interface _) => true | _ => false) = true ∧ K (.bool false)
    | .neq => (match P.underlying t with | some (.interface _) => true | _ => false) = true ∧ K (.bool true)
    | _ => False
  | .lit .nilFunc, .lit .nilFunc => match op with
    | .eql => (match P.underlying t with | some (.func _ _ _) => true | _ => false) = true ∧ K (.bool true)
    | .neq => (match P.underlying t with | some (.func _ _ _) => true | _ => false) = true ∧ K (.bool false)
    | _ => False
  | .func _ _ _, .lit .nilFunc => match op with
    | .eql => (match P.underlying t with | some (.func _ _ _) => true | _ => false) = true ∧ K (.bool false)
    | .neq => (match P.underlying t with | some (.func _ _ _) => true | _ => false) = true ∧ K (.bool true)
    | _ => False
  | .ptr _ _ _ _, .lit (.pointer none) => match op with
    | .eql => (match P.underlying t with | some (.pointer _) => true | _ => false) = true ∧ K (.bool false)
    | .neq => (match P.underlying t with | some (.pointer _) => true | _ => false) = true ∧ K (.bool true)
    | _ => False
  | .lit (.pointer none), .lit (.pointer none) => match op with
    | .eql => (match P.underlying t with | some (.pointer _) => true | _ => false) = true ∧ K (.bool true)
    | .neq => (match P.underlying t with | some (.pointer _) => true | _ => false) = true ∧ K (.bool false)
    | _ => False
  | _, _ => False

def binSem (op : BinOp) (xT : TypeId) (x y : Operand) (a b : Value) : Sem Value := do eqGuard op xT x y a b; binOp op xT a b

theorem eqGuard_run {op : BinOp} {t : TypeId} {x y : Operand} {a b : Value} (h : ∀ u v, a = .agg u → b = .agg v → False) (h2 : a = .nilIface → b = .nilIface → False) :
    (eqGuard op t x y a b).run P w = .ok () w := by
  unfold eqGuard
  cases op <;> (try (simp; done)) <;> cases a <;> cases b <;> first | (simp; done) | exact (h _ _ rfl rfl).elim | exact (h2 rfl rfl).elim

theorem str_eq {a b : List UInt8} : ((⟨a.toArray⟩ : ByteArray).toList == (⟨b.toArray⟩ : ByteArray).toList) = (a == b) := by
  rw [ByteArray.toList_mk, ByteArray.toList_mk]

theorem str_add {a b : List UInt8} (h : a.length + b.length ≤ 4611686018427387904) : (Op.stringOp .add ⟨a.toArray⟩ ⟨b.toArray⟩).run P w = .ok (.string ⟨(a ++ b).toArray⟩) w := by
  have ha : (⟨a.toArray⟩ : ByteArray).size = a.length := by show a.toArray.size = _; simp
  have hb : (⟨b.toArray⟩ : ByteArray).size = b.length := by show b.toArray.size = _; simp
  rw [run_string_add_sum (P := P) w _ _ (by rw [ha, hb]; omega)]
  congr 2

theorem equal_of {t : TypeId} {x y : Value} {r : Bool} (h : ∀ d, (Op.equalIn (d + 1) t x y).run P w = .ok r w) : (Op.equal t x y).run P w = .ok r w := h 9999
theorem equal_bool {t : TypeId} {a b : Bool} (hu : P.underlying t = some .bool) : (Op.equal t (.bool a) (.bool b)).run P w = .ok (a == b) w :=
  equal_of fun d => by simp [Op.equalIn, run_underlying hu]
theorem equal_iface_nil {t u : TypeId} {v : Value} {ms : Array (String × TypeId)} (hu : P.underlying t = some (.interface ms)) : (Op.equal t (.iface u v) .nilIface).run P w = .ok false w :=
  equal_of fun d => by simp [Op.equalIn, run_underlying hu]
theorem equal_func_nil {t : TypeId} {fn : Fn} {fs cs : Array Value} {p r : Array TypeId} {vv : Bool} (hu : P.underlying t = some (.func p r vv)) : (Op.equal t (.func fn fs cs) .nilFunc).run P w = .ok false w :=
  equal_of fun d => by simp [Op.equalIn, run_underlying hu]
theorem equal_nilfunc {t : TypeId} {p r : Array TypeId} {vv : Bool} (hu : P.underlying t = some (.func p r vv)) : (Op.equal t .nilFunc .nilFunc).run P w = .ok true w :=
  equal_of fun d => by simp [Op.equalIn, run_underlying hu]
theorem equal_ptr_nil {t e : TypeId} {a : Addr} (hu : P.underlying t = some (.pointer e)) : (Op.equal t (.pointer (some a)) (.pointer none)).run P w = .ok false w :=
  equal_of fun d => by simp [Op.equalIn, run_underlying hu]
theorem equal_nil_nil {t e : TypeId} (hu : P.underlying t = some (.pointer e)) : (Op.equal t (.pointer none) (.pointer none)).run P w = .ok true w :=
  equal_of fun d => by simp [Op.equalIn, run_underlying hu]

theorem equal_slice_nil {t e : TypeId} {a : Option Addr} {n m c d : Nat} (hu : P.underlying t = some (.slice e)) : (Op.equal t (.slice a n c) (.slice none m d)).run P w = .ok a.isNone w :=
  equal_of fun d => by cases a <;> simp [Op.equalIn, run_underlying hu]
theorem bin_eql {t : TypeId} {x y : Value} {r : Bool} (hb : binOp .eql t x y = (do pure (.bool (← Op.equal t x y)) : Sem Value)) (h : (Op.equal t x y).run P w = .ok r w) : (binOp .eql t x y).run P w = .ok (.bool r) w := by
  rw [hb]; simp only [Sem.run_bind, h, Result.andThen_ok, Sem.run_pure]
theorem bin_neq {t : TypeId} {x y : Value} {r : Bool} (hb : binOp .neq t x y = (do pure (.bool (!(← Op.equal t x y))) : Sem Value)) (h : (Op.equal t x y).run P w = .ok r w) : (binOp .neq t x y).run P w = .ok (.bool (!r)) w := by
  rw [hb]; simp only [Sem.run_bind, h, Result.andThen_ok, Sem.run_pure]

theorem bin_sound {op : BinOp} {t : TypeId} {ox oy : Operand} {rx ry : Value} {x y : GVal} (h : HSim E O w) (hx : VR E rx x) (hy : VR E ry y) (hk : binV P op t x y (fun g => K g O)) :
    SOK P (binSem op t ox oy rx ry) E O w K := by
  have fin : ∀ (v : Value) (g : GVal), (∀ u v, rx = .agg u → ry = .agg v → False) → (rx = .nilIface → ry = .nilIface → False) → (binOp op t rx ry).run P w = .ok v w → VR E v g → K g O → SOK P (binSem op t ox oy rx ry) E O w K := by
    intro v g h1 h2 h3 h4 h5
    refine .same ?_ h h4 h5
    simp only [binSem, Sem.run_bind, eqGuard_run h1 h2, Result.andThen_ok, h3]
  unfold binV at hk
  cases hx with
  | int k a =>
    cases hy with
    | int k' b =>
      simp only at hk
      cases op with
      | quo =>
        obtain ⟨rfl, hb, hk⟩ := hk
        exact fin (.int k (norm k (a.tdiv b))) _ (by intro u v e; cases e) (by intro e; cases e) (by simp [binOp, Op.intDiv, hb, norm]) (.int _ _) hk
      | rem =>
        obtain ⟨rfl, hb, hk⟩ := hk
        exact fin (.int k (a.tmod b)) _ (by intro u v e; cases e) (by intro e; cases e) (by simp [binOp, Op.intDiv, hb]) (.int _ _) hk
      | shl =>
        obtain ⟨h0, h1, hk⟩ := hk
        exact fin (.int k (norm k (a * 2 ^ b.toNat))) _ (by intro u v e; cases e) (by intro e; cases e) (by rw [binOp_shl, shift_shl _ _ _ _ h0 h1]; rfl) (.int _ _) hk
      | shr =>
        obtain ⟨h0, h1, hk⟩ := hk
        exact fin (.int k (a / 2 ^ b.toNat)) _ (by intro u v e; cases e) (by intro e; cases e) (by rw [binOp_shr, shift_shr _ _ _ _ h0 h1]; rfl) (.int _ _) hk
      | andNot => exact hk.elim
      | eql => obtain ⟨rfl, hk⟩ := hk; exact fin _ _ (by intro u v e; cases e) (by intro e; cases e) (by rw [binOp_eql]; rfl) (.bool _) hk
      | neq => obtain ⟨rfl, hk⟩ := hk; exact fin _ _ (by intro u v e; cases e) (by intro e; cases e) (by rw [binOp_neq]; rfl) (.bool _) hk
      | lss => obtain ⟨rfl, hk⟩ := hk; exact fin _ _ (by intro u v e; cases e) (by intro e; cases e) (by rw [binOp_lss]; rfl) (.bool _) hk
      | leq => obtain ⟨rfl, hk⟩ := hk; exact fin _ _ (by intro u v e; cases e) (by intro e; cases e) (by rw [binOp_leq]; rfl) (.bool _) hk
      | gtr => obtain ⟨rfl, hk⟩ := hk; exact fin _ _ (by intro u v e; cases e) (by intro e; cases e) (by rw [binOp_gtr]; rfl) (.bool _) hk
      | geq => obtain ⟨rfl, hk⟩ := hk; exact fin _ _ (by intro u v e; cases e) (by intro e; cases e) (by rw [binOp_geq]; rfl) (.bool _) hk
      | add => obtain ⟨rfl, hk⟩ := hk; exact fin _ _ (by intro u v e; cases e) (by intro e; cases e) (by simp [binOp, Op.intArith]; rfl) (.int _ _) hk
      | sub => obtain ⟨rfl, hk⟩ := hk; exact fin _ _ (by intro u v e; cases e) (by intro e; cases e) (by simp [binOp, Op.intArith]; rfl) (.int _ _) hk
      | mul => obtain ⟨rfl, hk⟩ := hk; exact fin _ _ (by intro u v e; cases e) (by intro e; cases e) (by simp [binOp, Op.intArith]; rfl) (.int _ _) hk
      | and => obtain ⟨rfl, hk⟩ := hk; exact fin _ _ (by intro u v e; cases e) (by intro e; cases e) (by rw [binOp_and, intBits_and]; rfl) (.int _ _) hk
      | or => obtain ⟨rfl, hk⟩ := hk; exact fin _ _ (by intro u v e; cases e) (by intro e; cases e) (by rw [binOp_or, intBits_or]; rfl) (.int _ _) hk
      | xor => obtain ⟨rfl, hk⟩ := hk; exact fin _ _ (by intro u v e; cases e) (by intro e; cases e) (by rw [binOp_xor, intBits_xor]; rfl) (.int _ _) hk
    | _ => exact hk.elim
  | bool a =>
    cases hy with
    | bool b =>
      simp only at hk
      cases op with
      | eql => obtain ⟨hu, hk⟩ := hk; exact fin _ _ (by intro u v e; cases e) (by intro e; cases e) (bin_eql rfl (equal_bool hu)) (.bool _) hk
      | neq => obtain ⟨hu, hk⟩ := hk; exact fin _ _ (by intro u v e; cases e) (by intro e; cases e) (bin_neq rfl (equal_bool hu)) (.bool _) hk
      | _ => exact hk.elim
    | _ => exact hk.elim
  | str a =>
    cases hy with
    | str b =>
      simp only at hk
      cases op with
      | eql => exact fin _ _ (by intro u v e; cases e) (by intro e; cases e) (by rw [binOp_string_eql, str_eq]; rfl) (.bool _) hk
      | neq => exact fin (.bool (a != b)) _ (by intro u v e; cases e) (by intro e; cases e) (by simp [binOp, Op.stringOp, bne]) (.bool _) hk
      | lss => exact fin (.bool (Op.bytesLess a b)) _ (by intro u v e; cases e) (by intro e; cases e) (by simp [binOp, Op.stringOp]) (.bool _) hk
      | add => exact fin _ _ (by intro u v e; cases e) (by intro e; cases e) (by rw [binOp_string_add, str_add hk.1]) (.str _) hk.2
      | _ => exact hk.elim
    | _ => exact hk.elim
  | slice a len cap xs tag sz c hlen hcap hsz ha hc htag =>
    cases hy with
    | slice a2 len2 cap2 ys tag2 sz2 c2 hlen2 hcap2 hsz2 ha2 hc2 htag2 =>
      cases ys with
      | cons _ _ => exact hk.elim
      | nil =>
        cases tag2 with
        | nil =>
          obtain ⟨rfl, _⟩ := htag2
          simp only at hk
          have both : ∀ (T : Bool → Bool) , (tag = .nil → K (.bool (T true)) O) → (tag ≠ .nil → (xs = [] → K .ubool O) ∧ (xs ≠ [] → K (.bool (T false)) O)) → ∃ g, VR E (.bool (T a.isNone)) g ∧ K g O := by
            intro T h1 h2
            by_cases ht : tag = .nil
            · subst ht; obtain ⟨rfl, _⟩ := htag; exact ⟨_, .bool _, h1 rfl⟩
            · obtain ⟨h3, h4⟩ := h2 ht
              by_cases hx : xs = []
              · exact ⟨_, .ubool _, h3 hx⟩
              · obtain ⟨b, off, rfl, _⟩ := ha hx
                exact ⟨_, .bool _, h4 hx⟩
          cases op with
          | eql =>
            obtain ⟨hu, h1, h2⟩ := hk
            split at hu
            · rename_i e hu'
              obtain ⟨g, hg1, hg2⟩ := both id h1 h2
              exact fin _ g (by intro u v e; cases e) (by intro e; cases e) (bin_eql rfl (equal_slice_nil hu')) hg1 hg2
            · cases hu
          | neq =>
            obtain ⟨hu, h1, h2⟩ := hk
            split at hu
            · rename_i e hu'
              obtain ⟨g, hg1, hg2⟩ := both not h1 h2
              exact fin _ g (by intro u v e; cases e) (by intro e; cases e) (bin_neq rfl (equal_slice_nil hu')) hg1 hg2
            · cases hu
          | _ => exact hk.elim
        | _ => exact hk.elim
    | _ => exact hk.elim
  | own a len cap o st i l hl hcap ha =>
    cases hy with
    | slice a2 len2 cap2 ys tag2 sz2 c2 hlen2 hcap2 hsz2 ha2 hc2 htag2 =>
      cases ys with
      | cons _ _ => exact hk.elim
      | nil =>
        cases tag2 with
        | nil =>
          obtain ⟨rfl, _⟩ := htag2
          simp only at hk
          have both : ∀ (T : Bool → Bool) , (len = 0 → K .ubool O) → (len ≠ 0 → K (.bool (T false)) O) → ∃ g, VR E (.bool (T a.isNone)) g ∧ K g O := by
            intro T h1 h2
            by_cases hx : len = 0
            · exact ⟨_, .ubool _, h1 hx⟩
            · rcases ha with h3 | ⟨b, _, rfl, _⟩
              · omega
              · exact ⟨_, .bool _, h2 hx⟩
          cases op with
          | eql =>
            obtain ⟨hu, h1, h2⟩ := hk
            split at hu
            · rename_i e hu'
              obtain ⟨g, hg1, hg2⟩ := both id h1 h2
              exact fin _ g (by intro u v e; cases e) (by intro e; cases e) (bin_eql rfl (equal_slice_nil hu')) hg1 hg2
            · cases hu
          | neq =>
            obtain ⟨hu, h1, h2⟩ := hk
            split at hu
            · rename_i e hu'
              obtain ⟨g, hg1, hg2⟩ := both not h1 h2
              exact fin _ g (by intro u v e; cases e) (by intro e; cases e) (bin_neq rfl (equal_slice_nil hu')) hg1 hg2
            · cases hu
          | _ => exact hk.elim
        | _ => exact hk.elim
    | _ => exact hk.elim
  | agg vs cs hs hc =>
    cases hy with
    | agg us cs' hs' hc' =>
      simp only at hk
      have key : ∀ (L : Bool → Prop), aggV P t cs cs' L → ∃ r, L r ∧ (Op.equalIn 10000 t (.agg vs) (.agg us)).run P w = .ok r w ∧ P.eqGuardType P.depth t = false := by
        intro L hL
        unfold aggV at hL
        split at hL
        · rename_i ss hss
          split at hL
          · rename_i r hr
            obtain ⟨h1, h2, h3⟩ := aggT_spec hss
            exact ⟨r, hL, flat_eq (m := 9984) 16 t ss h1 E w true _ _ cs cs' r h2 (.agg vs cs hs hc) (.agg us cs' hs' hc') (fun e => by cases e) hr, h3⟩
          · exact hL.elim
        · exact hL.elim
      cases op with
      | eql =>
        obtain ⟨r, hK, hr, hg⟩ := key _ hk
        refine .same ?_ h (.bool r) hK
        simp only [binSem, Sem.run_bind, run_eqGuard_agg w _ t _ _ _ _ hg, Result.andThen_ok, run_eql_struct, hr]
      | neq =>
        obtain ⟨r, hK, hr, hg⟩ := key _ hk
        refine .same ?_ h (.bool !r) hK
        simp only [binSem, Sem.run_bind, run_eqGuard_agg w _ t _ _ _ _ hg, Result.andThen_ok, run_neq_struct, hr]
      | _ => exact hk.elim
    | _ => exact hk.elim
  | iface ti vi gi hi =>
    cases hy with
    | lit v =>
      cases ry <;> try exact hk.elim
      simp only at hk
      cases op with
      | eql =>
        obtain ⟨hu, hk⟩ := hk
        split at hu
        · rename_i ms hu'
          exact fin _ _ (by intro u v e; cases e) (by intro e; cases e) (bin_eql rfl (equal_iface_nil hu')) (.bool _) hk
        · cases hu
      | neq =>
        obtain ⟨hu, hk⟩ := hk
        split at hu
        · rename_i ms hu'
          exact fin _ _ (by intro u v e; cases e) (by intro e; cases e) (bin_neq rfl (equal_iface_nil hu')) (.bool _) hk
        · cases hu
      | _ => exact hk.elim
    | _ => exact hk.elim
  | func fn fs cs gs ks a1 a2 a3 a4 =>
    cases hy with
    | lit v =>
      cases ry <;> try exact hk.elim
      simp only at hk
      cases op with
      | eql =>
        obtain ⟨hu, hk⟩ := hk
        split at hu
        · rename_i p1 p2 p3 hu'
          exact fin _ _ (by intro u v e; cases e) (by intro e; cases e) (bin_eql rfl (equal_func_nil hu')) (.bool _) hk
        · cases hu
      | neq =>
        obtain ⟨hu, hk⟩ := hk
        split at hu
        · rename_i p1 p2 p3 hu'
          exact fin _ _ (by intro u v e; cases e) (by intro e; cases e) (bin_neq rfl (equal_func_nil hu')) (.bool _) hk
        · cases hu
      | _ => exact hk.elim
    | _ => exact hk.elim
  | ptr b off o st i j l hl hb ho =>
    cases hy with
    | lit v =>
      cases ry with
      | pointer p =>
        cases p with
        | some p => exact hk.elim
        | none =>
          simp only at hk
          cases op with
          | eql =>
            obtain ⟨hu, hk⟩ := hk
            split at hu
            · rename_i p1 hu'
              exact fin _ _ (by intro u v e; cases e) (by intro e; cases e) (bin_eql rfl (equal_ptr_nil hu')) (.bool _) hk
            · cases hu
          | neq =>
            obtain ⟨hu, hk⟩ := hk
            split at hu
            · rename_i p1 hu'
              exact fin _ _ (by intro u v e; cases e) (by intro e; cases e) (bin_neq rfl (equal_ptr_nil hu')) (.bool _) hk
            · cases hu
          | _ => exact hk.elim
      | _ => exact hk.elim
    | _ => exact hk.elim
  | lit v =>
    cases rx with
    | pointer p =>
      cases p with
      | some p => exact hk.elim
      | none =>
        cases hy with
        | lit v =>
          cases ry with
          | pointer p =>
            cases p with
            | some p => exact hk.elim
            | none =>
              simp only at hk
              cases op with
              | eql =>
                obtain ⟨hu, hk⟩ := hk
                split at hu
                · rename_i p1 hu'
                  exact fin _ _ (by intro u v e; cases e) (by intro e; cases e) (bin_eql rfl (equal_nil_nil hu')) (.bool _) hk
                · cases hu
              | neq =>
                obtain ⟨hu, hk⟩ := hk
                split at hu
                · rename_i p1 hu'
                  exact fin _ _ (by intro u v e; cases e) (by intro e; cases e) (bin_neq rfl (equal_nil_nil hu')) (.bool _) hk
                · cases hu
              | _ => exact hk.elim
          | _ => exact hk.elim
        | _ => exact hk.elim
    | nilFunc =>
      cases hy with
      | lit v =>
        cases ry <;> try exact hk.elim
        simp only at hk
        cases op with
        | eql =>
          obtain ⟨hu, hk⟩ := hk
          split at hu
          · rename_i p1 p2 p3 hu'
            exact fin _ _ (by intro u v e; cases e) (by intro e; cases e) (bin_eql rfl (equal_nilfunc hu')) (.bool _) hk
          · cases hu
        | neq =>
          obtain ⟨hu, hk⟩ := hk
          split at hu
          · rename_i p1 p2 p3 hu'
            exact fin _ _ (by intro u v e; cases e) (by intro e; cases e) (bin_neq rfl (equal_nilfunc hu')) (.bool _) hk
          · cases hu
        | _ => exact hk.elim
      | _ => exact hk.elim
    | _ => exact hk.elim
  | _ => exact hk.elim

def unV (op : UnOp) (x : GVal) (K : GVal → Prop) : Prop :=
  match op, x with
  | .not, .bool b => K (.bool (!b))
  | .neg, .int k n => K (.int k (norm k (0 - n)))
  | _, _ => False

theorem un_sound {op : UnOp} {rx : Value} {x : GVal} (h : HSim E O w) (hx : VR E rx x) (hk : unV op x (fun g => K g O)) : SOK P (Op.unary op rx) E O w K := by
  unfold unV at hk
  cases hx with
  | bool b =>
    cases op with
    | not => exact .same (v := .bool !b) (by simp [Op.unary]) h (.bool _) hk
    | _ => exact hk.elim
  | int k n =>
    cases op with
    | neg => exact .same (v := .int k (norm k (0 - n))) (by simp [Op.unary, Op.intArith, norm]) h (.int _ _) hk
    | _ => exact hk.elim
  | _ => cases op <;> exact hk.elim

def convV (P : Program) (src dst : TypeId) (x : GVal) (K : GVal → Prop) : Prop :=
  match x with
  | .int _ n => match P.underlying src, P.underlying dst with
    | some _, some (.int k) => K (.int k (norm k n))
    | _, _ => False
  | .str s => P.underlying src = some .string ∧ P.underlying dst = some .string ∧ K (.str s)
  | _ => False

theorem conv_sound {src dst : TypeId} {rx : Value} {x : GVal} (h : HSim E O w) (hx : VR E rx x) (hk : convV P src dst x (fun g => K g O)) : SOK P (convert src dst rx) E O w K := by
  unfold convV at hk
  cases hx with
  | int k n =>
    simp only at hk
    split at hk
    · rename_i d k' hs hd
      exact .same (v := .int k' (norm k' n)) (by simp [convert, run_underlying hs, run_underlying hd, Conv.intToInt, norm]) h (.int _ _) hk
    · exact hk.elim
  | str s =>
    obtain ⟨hs, hd, hk⟩ := hk
    exact .same (v := .string ⟨s.toArray⟩) (by simp [convert, run_underlying hs, run_underlying hd]) h (.str _) hk
  | _ => exact hk.elim

def lenV (P : Program) (t : TypeId) (x : GVal) (O : List GObj) (K : GVal → Prop) : Prop :=
  match x with
  | .slice xs _ => (match P.underlying t with | some (.slice _) => true | _ => false) = true ∧ K (.int .i64 xs.length)
  | .own _ _ _ len => (match P.underlying t with | some (.slice _) => true | _ => false) = true ∧ K (.int .i64 len)
  | .str s => P.underlying t = some .string ∧ K (.int .i64 s.length)
  | .map o st => (match P.underlying t with | some (.map _ _) => true | _ => false) = true ∧ match O[o]? with
    | some (.map st' kv) => st = st' ∧ K (.int .i64 kv.length)
    | _ => False
  | _ => match P.underlying t with
    | some (.array n _) => K (.int .i64 n)
    | _ => False

theorem len_sound {t ty : TypeId} {rx : Value} {x : GVal} (h : HSim E O w) (hx : VR E rx x) (hk : lenV P t x O (fun g => K g O)) : SOK P (Builtin.len_ #[t] ty #[rx]) E O w K := by
  have arrCase : ∀ n e, P.underlying t = some (.array n e) → K (.int .i64 n) O → SOK P (Builtin.len_ #[t] ty #[rx]) E O w K := fun n e hu hk =>
    .same (v := goInt n) (by simp [Builtin.len_, run_underlying hu]) h (.int _ _) hk
  unfold lenV at hk
  cases hx with
  | slice a len cap xs tag sz c hlen hcap hsz ha hc htag =>
    obtain ⟨hu, hk⟩ := hk
    split at hu
    · rename_i e hu'
      exact .same (v := goInt len) (by simp [Builtin.len_, run_underlying hu']) h (by rw [hlen]; exact .int _ _) hk
    · cases hu
  | own a len cap o st i l hl hcap ha =>
    obtain ⟨hu, hk⟩ := hk
    split at hu
    · rename_i e hu'
      exact .same (v := goInt len) (by simp [Builtin.len_, run_underlying hu']) h (.int _ _) hk
    · cases hu
  | str s =>
    obtain ⟨hu, hk⟩ := hk
    have hss : (⟨s.toArray⟩ : ByteArray).size = s.length := by show s.toArray.size = _; simp
    exact .same (v := goInt s.length) (by simp [Builtin.len_, run_underlying hu, hss]) h (.int _ _) hk
  | map r o st l hl hb =>
    obtain ⟨hu, hk⟩ := hk
    split at hu
    · rename_i kt et hu'
      simp only at hk
      split at hk
      · rename_i st' kv hO
        obtain ⟨rfl, hk⟩ := hk
        obtain ⟨l', b, es, clock, hl', hb', hw, hlen, _⟩ := h.real _ _ hO
        rw [hl] at hl'; cases hl'
        rw [hb] at hb'; cases hb'
        refine .same (v := goInt es.size) ?_ h (by rw [hlen]; exact .int _ _) hk
        simp [Builtin.len_, run_underlying hu', getObj, Sem.run, hw]
      · exact hk.elim
    · cases hu
  | _ =>
    simp only at hk
    split at hk
    · rename_i n e hu; exact arrCase n e hu hk
    · exact hk.elim

/-! min, max of integers -/
/-- a capacity that is known -/
def capV (P : Program) (t : TypeId) (x : GVal) (K : GVal → Prop) : Prop :=
  (match P.underlying t with | some (.slice _) => true | _ => false) = true ∧ match x with
  | .slice xs .nil => K (.int .i64 0)
  | .slice xs .full => K (.int .i64 xs.length)
  | _ => False
theorem cap_sound {t ty : TypeId} {rx : Value} {x : GVal} (h : HSim E O w) (hx : VR E rx x) (hk : capV P t x (fun g => K g O)) : SOK P (Builtin.cap_ #[t] ty #[rx]) E O w K := by
  obtain ⟨hu, hk⟩ := hk
  split at hu
  · rename_i e hu'
    split at hk
    · cases hx with
      | slice a len cap _ tag sz c hlen hcap hsz ha hc htag =>
        have h0 : cap = 0 := htag.2
        refine .same (v := .int .i64 0) ?_ h (.int _ _) hk
        simp [Builtin.cap_, run_underlying hu', h0, goInt]
    · cases hx with
      | slice a len cap _ tag sz c hlen hcap hsz ha hc htag =>
        have h0 : cap = len := htag
        rw [← hlen] at hk
        refine .same (v := .int .i64 len) ?_ h (.int _ _) hk
        simp [Builtin.cap_, run_underlying hu', h0, goInt]
    · exact hk.elim
  · cases hu

def minG (mx : Bool) : List GVal → Option (IntKind × Int)
  | [] => none
  | [.int k n] => some (k, n)
  | .int k n :: r => match minG mx r with
    | some (k', m) => if k = k' then some (k, match mx with | true => max n m | false => min n m) else none
    | none => none
  | _ => none

def minV (mx : Bool) (xs : List GVal) (K : GVal → Prop) : Prop :=
  match xs with
  | [.int k a, .int k' b] => k = k' ∧ K (.int k (match mx with | true => max a b | false => min a b))
  | _ => False

theorem min_sound {mx : Bool} {ts : Array TypeId} {ty : TypeId} {rx ry : Value} {x y : GVal} (h : HSim E O w) (hx : VR E rx x) (hy : VR E ry y) (hk : minV mx [x, y] (fun g => K g O)) :
    SOK P (match mx with | true => Builtin.max_ ts ty #[rx, ry] | false => Builtin.min_ ts ty #[rx, ry]) E O w K := by
  unfold minV at hk
  cases hx with
  | int k a =>
    cases hy with
    | int k' b =>
      simp only at hk
      obtain ⟨rfl, hk⟩ := hk
      cases mx with
      | true =>
        refine .same (v := .int k (max a b)) ?_ h (.int _ _) hk
        have e : (if b > a then b else a) = max a b := by split <;> omega
        simp [Builtin.max_, Builtin.max2]; exact e
      | false =>
        refine .same (v := .int k (min a b)) ?_ h (.int _ _) hk
        have e : (if b < a then b else a) = min a b := by split <;> omega
        simp [Builtin.min_, Builtin.min2]; exact e
    | _ => exact hk.elim
  | _ => exact hk.elim

def ifaceV (P : Program) (t : TypeId) (x : GVal) (K : GVal → Prop) : Prop :=
  (match P.underlying t with | some (.interface _) => false | some _ => true | none => false) = true ∧ K (.iface t x)

theorem iface_sound {t : TypeId} {rx : Value} {x : GVal} (h : HSim E O w) (hx : VR E rx x) (hk : ifaceV P t x (fun g => K g O)) : SOK P (Instr.makeInterface t rx) E O w K := by
  obtain ⟨hu, hk⟩ := hk
  refine .same (v := .iface t rx) ?_ h (.iface _ _ _ hx) hk
  cases hd : P.underlying t with
  | none => simp [hd] at hu
  | some d => cases d <;> first | (simp [hd] at hu; done) | simp [Instr.makeInterface, run_underlying hd]

end
end Gv
