/- Calls whose value is one of some. -/
import Derived.Test.YtcjiabpfahmjnaaGvMore
set_option linter.unusedVariables false
namespace Gv
open Go
/-- a call that gives a value with a property, whatever the caller's objects; they stay as they are -/
def GRel (P : Program) (f : FuncId) (args : List GVal) (R : GVal → Prop) : Prop := GCalls P f args [] (fun g O' => R g ∧ O' = [])

theorem GRel.frame {P : Program} {f : FuncId} {args : List GVal} {R : GVal → Prop} (h : GRel P f args R) (O : List GObj) (hc : clockOf O = none) : GCalls P f args O (fun g O' => R g ∧ O' = O) := by
  refine ⟨h.1, fun E w vs hs ha => (h.2 E w vs hs.nil ha).mono ?_⟩
  rintro e w' ⟨v, E', O', g, rfl, h1, h2, h3, hR, rfl⟩
  have hno : ∀ b, ¬ InO E [] b := fun b ⟨i, x, hx, _⟩ => by simp at hx
  have hold : ∀ b, b < w.heap.size → w'.heap[b]? = w.heap[b]? := fun b hb => h2.heap b hb (hno b)
  have hsn : ∀ b o v, b < w.heap.size → E'.snap b o = some v → E.snap b o = some v := fun b o v hb hv => by
    rcases h2.snap b o v hv with q | q | q
    · exact q
    · omega
    · exact absurd q (hno b)
  have hreal : ∀ (i : Nat) x, O[i]? = some x → Realized E' w' x := fun i x hx =>
    (hs.real i x hx).keep h2.ext (fun b hb => hold b ((hs.real i x hx).blk_lt hb)) (fun b o v hb hv => hsn b o v ((hs.real i x hx).blk_lt hb) hv)
  have hb : ∀ (i : Nat) x, O[i]? = some x → x.blk E' = x.blk E := fun i x hx => GObj.blk_mono h2.ext (hs.real i x hx)
  refine ⟨v, E', O, g, rfl, ⟨by obtain ⟨n, _, q⟩ := h1.fin; exact ⟨n, (fun c e => by rw [hc] at e; cases e), q⟩, h1.sealed, h1.one, hreal, fun i j oi oj b hij hi hj hbi hbj => ?_⟩, ⟨h2.ext, h2.os, h2.out, h2.size, fun b hb _ => hold b hb, fun b o v hv => ?_, fun b ⟨i, x, hx, hbx⟩ => .inl ⟨i, x, hx, by rw [← hb i x hx]; exact hbx⟩, h2.frz⟩, h3, hR, rfl⟩
  · rw [hb i oi hi] at hbi
    rw [hb j oj hj] at hbj
    exact hs.sep i j oi oj b hij hi hj hbi hbj
  · rcases h2.snap b o v hv with q | q | q
    · exact .inl q
    · exact .inr (.inl q)
    · exact absurd q (hno b)
theorem GRel.then {P : Program} {f : FuncId} {args : List GVal} {R : GVal → Prop} (h : GRel P f args R) {O : List GObj} {K : GVal → List GObj → Prop} (hk : ∀ g, R g → K g O) (hc : clockOf O = none := by rfl) : GCalls P f args O K :=
  (h.frame O hc).mono fun g O' ⟨e1, e2⟩ => by subst e2; exact hk g e1
theorem GCalls.toRel {P : Program} {f : FuncId} {args : List GVal} {R : GVal → Prop} (h : GCalls P f args [] (fun g O' => ∃ r, frzTo r g O' ∧ R r)) : GRel P f args R :=
  (h.mono fun g O' ⟨r, ⟨n, g', h1, h2⟩, hR⟩ => GInto.frzA (N := fun g O' => R g ∧ O' = []) h1 h2 ⟨hR, rfl⟩).into
theorem FnS.rel {P : Program} (hmix : P.follows .mixedOrders = true) {f : FuncId} {C : Cfg} {n : Nat} {rs : List ResultVar} {s : SCode} (h : FnS P f C n rs s) {args : List GVal} {R : GVal → Prop} (ha : args.length ≤ n)
    (hk : vcS P C.ro s (retQ P rs (fun g O' => ∃ r, frzTo r g O' ∧ R r)) (gstart n args [])) : GRel P f args R := GCalls.toRel (h.calls hmix ha hk)
/-- less is said of a row's last cells -/
theorem Into.rowLast {st : GSt} {N : GSt → Prop} (i : Nat) {t sz : Nat} (A : List (List GVal)) (c c' : List GVal) (hO : st.o[i]? = some (.row t sz (A ++ [c]))) (hA : ∀ x ∈ A, x.length = sz) (hs : c'.length = sz) (hw : WL c c') (h : Into ⟨st.s, st.o.set i (.row t sz (A ++ [c']))⟩ N) : Into st N := by
  intro E a w hs' ha
  have hlen := hw.len
  obtain ⟨h1, h2⟩ := hs'.cells hO (ys := A ++ [c']) (by simp) (fun y hy => by
    rcases List.mem_append.1 hy with hy | hy
    · exact hA y hy
    · simp at hy; rw [hy]; exact hs) (fun j g' hj => by
    simp only [List.flatten_append, List.flatten_cons, List.flatten_nil, List.append_nil] at hj ⊢
    by_cases e : j < A.flatten.length
    · rw [List.getElem?_append_left e] at hj ⊢
      exact ⟨g', hj, fun v hv => hv⟩
    · rw [List.getElem?_append_right (by omega)] at hj ⊢
      obtain ⟨x, hx, hl⟩ := hw.at_ _ g' hj
      exact ⟨x, hx, fun v hv => hl.sound hv⟩)
  obtain ⟨st', E', q1, q2, q3, q4⟩ := h E a w h1 ha
  exact ⟨st', E', q1, q2, h2.trans q3, q4⟩

/-! ways out, one by one -/
theorem thenQ_n (N : GSt → Prop) (Q : Ex → GSt → Prop) (st : GSt) : thenQ N Q .normal st = N st := rfl
theorem thenQ_r (N : GSt → Prop) (Q : Ex → GSt → Prop) (st : GSt) : thenQ N Q .ret st = Q .ret st := rfl
theorem thenQ_e (N : GSt → Prop) (Q : Ex → GSt → Prop) (n : Nat) (st : GSt) : thenQ N Q (.exit n) st = Q (.exit n) st := rfl
theorem blockQ_n (id : Nat) (Q : Ex → GSt → Prop) (st : GSt) : blockQ id Q .normal st = Q .normal st := rfl
theorem blockQ_r (id : Nat) (Q : Ex → GSt → Prop) (st : GSt) : blockQ id Q .ret st = Q .ret st := rfl
theorem blockQ_e (id n : Nat) (Q : Ex → GSt → Prop) (st : GSt) : blockQ id Q (.exit n) st = if n = id then Q .normal st else Q (.exit n) st := rfl
theorem retQ_n (P : Program) (rs : List ResultVar) (K : GVal → List GObj → Prop) (st : GSt) : retQ P rs K .normal st = resV P st rs (fun gs => K (resG gs) st.o) := rfl
theorem retQ_r (P : Program) (rs : List ResultVar) (K : GVal → List GObj → Prop) (st : GSt) : retQ P rs K .ret st = resV P st rs (fun gs => K (resG gs) st.o) := rfl
end Gv
