/- What may be forgotten of a state; contracts with less said; a callee that leaves the caller's objects alone. -/
import Derived.Test.YtcjiabpfahmjnaaGvCode
set_option linter.unusedVariables false
namespace Gv
open Go

/-- x says at least as much as y -/
def leG : GVal → GVal → Prop
  | _, .any => True
  | .slice xs _, .slice ys .none => xs = ys
  | x, y => x = y

theorem leG.sound {E : Env} {v : Value} {x y : GVal} (h : leG x y) (hv : VR E v x) : VR E v y := by
  unfold leG at h
  split at h
  · exact .any _
  · subst h
    cases hv with
    | slice a len cap _ tag sz c hlen hcap hsz ha hc ht => exact .slice a len cap _ .none sz c hlen hcap hsz ha hc trivial
  · subst h; exact hv

theorem leG_self (x : GVal) : leG x x = True := by
  unfold leG
  split <;> simp_all
theorem leG_any (x : GVal) : leG x .any = True := by unfold leG; simp
theorem leG_none (xs ys : List (List GVal)) (t : Tag) : leG (.slice xs t) (.slice ys .none) = (xs = ys) := by
  unfold leG; split <;> simp_all
theorem leG_int (k k' : IntKind) (a b : Int) : leG (.int k a) (.int k' b) = (k = k' ∧ a = b) := by unfold leG; simp
theorem leG_bool (a b : Bool) : leG (.bool a) (.bool b) = (a = b) := by unfold leG; simp
theorem leG_tok (xs ys : List (List GVal)) (t : Tag) (o st : Nat) : leG (.slice xs t) (.slice ys (.tok o st)) = (xs = ys ∧ t = .tok o st) := by unfold leG; simp
theorem leG_full (xs ys : List (List GVal)) (t : Tag) : leG (.slice xs t) (.slice ys .full) = (xs = ys ∧ t = .full) := by unfold leG; simp

def WL : List GVal → List GVal → Prop
  | [], [] => True
  | x :: xs, y :: ys => leG x y ∧ WL xs ys
  | _, _ => False

theorem WL.len : ∀ {xs ys : List GVal}, WL xs ys → xs.length = ys.length
  | [], [], _ => rfl
  | x :: xs, y :: ys, h => by simp [WL.len h.2]
  | [], _ :: _, h => h.elim
  | _ :: _, [], h => h.elim

theorem WL.at_ : ∀ {xs ys : List GVal}, WL xs ys → ∀ (i : Nat) y, ys[i]? = some y → ∃ x, xs[i]? = some x ∧ leG x y
  | [], [], _, i, y, h => by simp at h
  | x :: xs, z :: ys, h, 0, y, hy => by simp at hy; subst hy; exact ⟨x, rfl, h.1⟩
  | x :: xs, z :: ys, h, i + 1, y, hy => by simpa using WL.at_ h.2 i y (by simpa using hy)
  | [], _ :: _, h, _, _, _ => h.elim
  | _ :: _, [], h, _, _, _ => h.elim

theorem SlotsR.weak {E : Env} {a : Act} {s s' : List GVal} (h : SlotsR E a s) (hw : WL s s') : SlotsR E a s' := by
  refine ⟨by rw [h.size, hw.len], h.defers, fun i g hg => ?_⟩
  obtain ⟨x, hx, hl⟩ := hw.at_ i g hg
  exact hl.sound (h.at_ i x hx)

/-- objects at the end may be forgotten -/
theorem HSim.drop {E : Env} {O X : List GObj} {w : World} (h : HSim E (O ++ X) w) : HSim E O w ∧ Keep E (O ++ X) w E O w := by
  have up : ∀ (i : Nat) x, O[i]? = some x → (O ++ X)[i]? = some x := fun i x hx => by
    rw [List.getElem?_append_left (List.getElem?_eq_some_iff.1 hx).1]; exact hx
  refine ⟨⟨by obtain ⟨n, h1, h2⟩ := h.fin; exact ⟨n, fun c hc => h1 c (by rw [clockOf_zero] at hc ⊢; exact up 0 _ hc), h2⟩, h.sealed, h.one, fun i x hx => h.real i x (up i x hx), fun i j oi oj b hij hi hj => h.sep i j oi oj b hij (up i oi hi) (up j oj hj)⟩, ?_⟩
  exact ⟨.refl E, rfl, rfl, Nat.le_refl _, fun _ _ _ => rfl, fun _ _ _ h => .inl h, fun b ⟨i, x, hx, hb⟩ => .inl ⟨i, x, up i x hx, hb⟩, trivial⟩

section
variable {st : GSt} {N : GSt → Prop}

theorem Into.here (h : N st) : Into st N := fun E a w hs ha => ⟨st, E, h, hs, .refl _ _ _, ha⟩

theorem Into.at {ι : Type} {I : ι → GSt} {p : ι → Prop} (j : ι) (hp : p j) (ho : ∃ X, st.o = (I j).o ++ X) (hw : WL st.s (I j).s) : Into st (fun s => ∃ j, s = I j ∧ p j) := by
  intro E a w hs ha
  obtain ⟨X, hX⟩ := ho
  rw [hX] at hs
  obtain ⟨h1, h2⟩ := hs.drop
  exact ⟨I j, E, ⟨j, rfl, hp⟩, h1, by rw [hX]; exact h2, ha.weak hw⟩

theorem Into.first {ι : Type} {I : ι → GSt} (j : ι) (ho : ∃ X, st.o = (I j).o ++ X) (hw : WL st.s (I j).s) : Into st (fun s => ∃ j, s = I j) := by
  intro E a w hs ha
  obtain ⟨st', E', ⟨j', h, _⟩, h1, h2, h3⟩ := Into.at (I := I) (p := fun _ => True) j trivial ho hw E a w hs ha
  exact ⟨st', E', ⟨j', h⟩, h1, h2, h3⟩

/-- a slice without spare room is given a token -/
theorem Into.tok (i sz : Nat) (xs : List (List GVal)) {tg : Tag} (hx : sget st.s i = .slice xs tg) (htg : tg.cap = .full) (h : stamp st.o fun t => Into ⟨st.s.set i (.slice xs (.tok st.o.length t)), tickO st.o ++ [.tok t sz]⟩ N) : Into st N := by
  intro E a w hs ha
  obtain ⟨t, hk, ht, hnx, hs, hkeep⟩ := hs.stamp h
  rw [← tickO_len st.o] at hk
  obtain ⟨h1, h2⟩ := hs.objNil (.tok t sz) (l := ⟨none, 0, sz, 0⟩) ht hnx rfl ⟨_, Env.addLoc_self _ _ _, rfl, trivial⟩ (by simp [GObj.blk, Env.addLoc_self])
  have ha' : SlotsR (E.addLoc t ⟨none, 0, sz, 0⟩) a (st.s.set i (.slice xs (.tok (tickO st.o).length t))) := by
    refine ⟨by simp [ha.size], ha.defers, fun k g hg => ?_⟩
    rw [List.getElem?_set] at hg
    by_cases hk : i = k
    · subst hk
      rw [if_pos rfl] at hg
      split at hg
      · rename_i hlt
        simp only [Option.some.injEq] at hg
        subst hg
        have := ha.at_ i _ (getD_of (d := GVal.any) hlt)
        have hx' : st.s.getD i .any = .slice xs tg := hx
        rw [hx'] at this
        revert this
        generalize a.tmps.getD i undef = tv
        intro this
        cases this with
        | slice a len cap xs tag sz c hlen hcap hsz ha hc htag =>
          have htag := htag.cap hcap
          rw [htg] at htag
          exact .slice a len cap xs _ sz c hlen hcap hsz ha (fun j g hj => (hc j g hj).mono h2.ext) ⟨_, Env.addLoc_self _ _ _, .inl htag⟩
      · cases hg
    · rw [if_neg hk] at hg
      exact (ha.at_ k g hg).mono h2.ext
  obtain ⟨st', E', q1, q2, q3, q4⟩ := hk _ a w h1 ha'
  exact ⟨st', E', q1, q2, (hkeep.trans h2).trans q3, q4⟩

end

/-! results -/
def GInto (g : GVal) (O : List GObj) (N : GVal → List GObj → Prop) : Prop :=
  ∀ E v w, HSim E O w → VR E v g → ∃ g' O' E', N g' O' ∧ HSim E' O' w ∧ Keep E O w E' O' w ∧ VR E' v g'

theorem GCalls.into {P : Program} {f : FuncId} {args : List GVal} {O : List GObj} {N : GVal → List GObj → Prop} (h : GCalls P f args O (fun g O' => GInto g O' N)) : GCalls P f args O N :=
  ⟨h.1, fun E w vs hs ha => (h.2 E w vs hs ha).mono fun e w' ⟨v, E', O', g, h1, h2, h3, h4, h5⟩ => by
    obtain ⟨g', O2, E2, q1, q2, q3, q4⟩ := h5 E' v w' h2 h4
    exact ⟨v, E2, O2, g', h1, q2, h3.trans q3, q4, q1⟩⟩

theorem GInto.here {g : GVal} {O : List GObj} {N : GVal → List GObj → Prop} (h : N g O) : GInto g O N := fun E v w hs hv => ⟨g, O, E, h, hs, .refl _ _ _, hv⟩

theorem GInto.weak {g g' : GVal} {O X : List GObj} {N : GVal → List GObj → Prop} (hg : leG g g') (h : GInto g' O N) : GInto g (O ++ X) N := fun E v w hs hv => by
  obtain ⟨h1, h2⟩ := hs.drop
  obtain ⟨g2, O2, E2, q1, q2, q3, q4⟩ := h E v w h1 (hg.sound hv)
  exact ⟨g2, O2, E2, q1, q2, h2.trans q3, q4⟩

/-- A PURE CALL: it gives one value, whatever the caller's objects; they stay as they are -/
def GPure (P : Program) (f : FuncId) (args : List GVal) (r : GVal) : Prop := GCalls P f args [] (fun g O' => g = r ∧ O' = [])

theorem HSim.nil {E : Env} {O : List GObj} {w : World} (h : HSim E O w) : HSim E [] w := ⟨by obtain ⟨n, _, h2⟩ := h.fin; exact ⟨n, (fun c hc => by cases hc), h2⟩, h.sealed, h.one, fun i x hx => by simp at hx, fun i j oi oj b _ hi => by simp at hi⟩

theorem GPure.frame {P : Program} {f : FuncId} {args : List GVal} {r : GVal} (h : GPure P f args r) (O : List GObj) (hc : clockOf O = none) : GCalls P f args O (fun g O' => g = r ∧ O' = O) := by
  refine ⟨h.1, fun E w vs hs ha => (h.2 E w vs hs.nil ha).mono ?_⟩
  rintro e w' ⟨v, E', O', g, rfl, h1, h2, h3, rfl, rfl⟩
  have hno : ∀ b, ¬ InO E [] b := fun b ⟨i, x, hx, _⟩ => by simp at hx
  have hold : ∀ b, b < w.heap.size → w'.heap[b]? = w.heap[b]? := fun b hb => h2.heap b hb (hno b)
  have hsn : ∀ b o v, b < w.heap.size → E'.snap b o = some v → E.snap b o = some v := fun b o v hb hv => by
    rcases h2.snap b o v hv with q | q | q
    · exact q
    · omega
    · exact absurd q (hno b)
  have hreal : ∀ (i : Nat) x, O[i]? = some x → Realized E' w' x := fun i x hx =>
    (hs.real i x hx).keep h2.ext (fun b hb => hold b ((hs.real i x hx).blk_lt hb)) (fun b o v hb hv => hsn b o v ((hs.real i x hx).blk_lt hb) hv)
  have hb : ∀ (i : Nat) x, O[i]? = some x → x.blk E' = x.blk E := fun i x hx => GObj.blk_mono h2.ext (hs.real i x hx)
  refine ⟨v, E', O, g, rfl, ⟨by obtain ⟨n, _, q⟩ := h1.fin; exact ⟨n, (fun c e => by rw [hc] at e; cases e), q⟩, h1.sealed, h1.one, hreal, fun i j oi oj b hij hi hj hbi hbj => ?_⟩, ⟨h2.ext, h2.os, h2.out, h2.size, fun b hb _ => hold b hb, fun b o v hv => ?_, fun b ⟨i, x, hx, hbx⟩ => .inl ⟨i, x, hx, by rw [← hb i x hx]; exact hbx⟩, h2.frz⟩, h3, rfl, rfl⟩
  · rw [hb i oi hi] at hbi
    rw [hb j oj hj] at hbj
    exact hs.sep i j oi oj b hij hi hj hbi hbj
  · rcases h2.snap b o v hv with q | q | q
    · exact .inl q
    · exact .inr (.inl q)
    · exact absurd q (hno b)

theorem GPure.then {P : Program} {f : FuncId} {args : List GVal} {r : GVal} (h : GPure P f args r) {O : List GObj} {K : GVal → List GObj → Prop} (hk : K r O) (hc : clockOf O = none := by rfl) : GCalls P f args O K :=
  (h.frame O hc).mono fun g O' ⟨e1, e2⟩ => by subst e1; subst e2; exact hk

/-- one function's pure contract, from its conditions -/
theorem gpure_of_vc {P : Program} (hmix : P.follows .mixedOrders = true) {f : FuncId} {fn : Func} {c : Code} {n : Nat} {rs : Array ResultVar} (C : Cfg) {args : List GVal} {r : GVal}
    (hf : P.funcs[f]? = some fn) (hb : fn.body = some c) (hn : fn.ntmps = n) (hr : fn.results = rs) (hen : enterable P f = true) (hargs : args.length ≤ n) (hcok : codeOk C c = true)
    (hvc : vc P C c (retQ P rs.toList (fun g O' => leG g r)) (gstart n args [])) : GPure P f args r := by
  refine GCalls.into ((gcalls_of_vc hmix C hf hb hn hr hen hargs hcok hvc).mono fun g O' h => ?_)
  have := GInto.weak (O := []) (X := O') (N := fun g O' => g = r ∧ O' = []) h (.here ⟨rfl, rfl⟩)
  simpa using this

/-! lists of integers -/
def ints (l : List Int) : List (List GVal) := l.map fun n => [.int .i64 n]
theorem ints_length (l : List Int) : (ints l).length = l.length := by simp [ints]
theorem ints_at (l : List Int) (i : Nat) (h : i < l.length) : (ints l).getD i [] = [.int .i64 (l.getD i 0)] := by
  simp [ints, List.getD, h]
theorem ints_sz (l : List Int) : ∀ x ∈ ints l, x.length = 1 := by
  intro x hx; obtain ⟨n, _, rfl⟩ := List.mem_map.1 hx; rfl
theorem ints_append (a b : List Int) : ints (a ++ b) = ints a ++ ints b := by simp [ints]
theorem ints_nil : ints [] = [] := rfl
theorem ints_one (n : Int) : ints [n] = [[.int .i64 n]] := rfl
end Gv
