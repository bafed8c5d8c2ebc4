/- Rows that begin empty; values whose rows are left behind. -/
import Derived.Test.YtcjiabpfahmjnaaGvHold
import Derived.Test.YtcjiabpfahmjnaaGvFreeze
set_option linter.unusedVariables false
namespace Gv
open Go
section
variable {st : GSt} {N : GSt → Prop}
/-- an empty slice without spare room becomes a row of its own -/
theorem Into.row (i sz : Nat) {tg : Tag} (hx : sget st.s i = .slice [] tg) (htg : tg.cap = .full) (h : stamp st.o fun t => Into ⟨st.s.set i (.own st.o.length t 0 0), tickO st.o ++ [.row t sz []]⟩ N) : Into st N := by
  intro E a w hs ha
  obtain ⟨t, hk, ht, hnx, hs, hkeep⟩ := hs.stamp h
  rw [← tickO_len st.o] at hk
  obtain ⟨h1, h2⟩ := hs.objNil (.row t sz []) (l := ⟨none, 0, sz, 0⟩) ht hnx rfl ⟨_, Env.addLoc_self _ _ _, rfl, by simp, rfl⟩ (by simp [GObj.blk, Env.addLoc_self])
  have ha' : SlotsR (E.addLoc t ⟨none, 0, sz, 0⟩) a (st.s.set i (.own (tickO st.o).length t 0 0)) := by
    refine ⟨by simp [ha.size], ha.defers, fun k g hg => ?_⟩
    rw [List.getElem?_set] at hg
    by_cases hk : i = k
    · subst hk
      rw [if_pos rfl] at hg
      split at hg
      · rename_i hlt
        simp only [Option.some.injEq] at hg
        subst hg
        have := ha.at_ i _ (getD_of (d := GVal.any) hlt)
        have hx' : st.s.getD i .any = .slice [] tg := hx
        rw [hx'] at this
        revert this
        generalize a.tmps.getD i undef = tv
        intro this
        cases this with
        | slice a len cap xs tag sz c hlen hcap hsz ha hc htag =>
          have htag := htag.cap hcap
          rw [htg] at htag
          have h0 : len = 0 := by simpa using hlen
          have h1 : cap = 0 := by rw [← h0]; exact htag
          subst h0
          exact .own a 0 cap _ t 0 _ (Env.addLoc_self _ _ _) (Nat.zero_le _) (.inl h1)
      · cases hg
    · rw [if_neg hk] at hg
      exact (ha.at_ k g hg).mono h2.ext
  obtain ⟨st', E', q1, q2, q3, q4⟩ := hk _ a w h1 ha'
  exact ⟨st', E', q1, q2, (hkeep.trans h2).trans q3, q4⟩
end

/-- what comes back, its rows left behind -/
theorem GInto.frzA {g g' r : GVal} {n : Nat} {O : List GObj} {N : GVal → List GObj → Prop} (hg : Gv.frz O n g = some g') (hl : Gv.leA g' r) (h : N r []) : GInto g O N := fun E v w hs hv => by
  obtain ⟨h1, h2⟩ := hs.frz
  exact ⟨r, [], _, h, h1, h2, hl.sound (frz_sound hs n v g g' hv hg)⟩
def frzTo (r : GVal) (g : GVal) (O' : List GObj) : Prop := ∃ n g', Gv.frz O' n g = some g' ∧ Gv.leA g' r
theorem GCalls.toPure {P : Program} {f : FuncId} {args : List GVal} {r : GVal} (h : GCalls P f args [] (frzTo r)) : GPure P f args r :=
  (h.mono fun g O' ⟨n, g', h1, h2⟩ => GInto.frzA (N := fun g O' => g = r ∧ O' = []) h1 h2 ⟨rfl, rfl⟩).into
theorem FnS.pureF {P : Program} (hmix : P.follows .mixedOrders = true) {f : FuncId} {C : Cfg} {n : Nat} {rs : List ResultVar} {s : SCode} (h : FnS P f C n rs s) {args : List GVal} {r : GVal} (ha : args.length ≤ n)
    (hk : vcS P C.ro s (retQ P rs (frzTo r)) (gstart n args [])) : GPure P f args r := GCalls.toPure (h.calls hmix ha hk)

/-! lists whose rows are plain -/
theorem frzLL_same {f : GVal → Option GVal} : ∀ {xs : List (List GVal)}, (∀ x ∈ xs, frzL f x = some x) → frzLL f xs = some xs
  | [], _ => rfl
  | x :: xs, h => by rw [frzLL, h x (by simp), frzLL_same fun y hy => h y (by simp [hy])]
theorem frzL_one {f : GVal → Option GVal} {g : GVal} (h : f g = some g) : frzL f [g] = some [g] := by simp [frzL, h]
theorem frz_ints (O : List GObj) (n : Nat) (l : List Int) : frzLL (Gv.frz O (n + 1)) (ints l) = some (ints l) :=
  frzLL_same fun x hx => by obtain ⟨i, _, rfl⟩ := List.mem_map.1 hx; simp [frzL, Gv.frz]
theorem frz_intsS (O : List GObj) (n : Nat) (l : List Int) (t : Tag) : Gv.frz O (n + 2) (.slice (ints l) t) = some (.slice (ints l) t.frz) := by
  rw [Gv.frz, frz_ints]
theorem frz_own {O : List GObj} {n o st len sz : Nat} {xs : List (List GVal)} (hO : O[o]? = some (.row st sz xs)) (hl : len = xs.length) (h : frzLL (Gv.frz O n) xs = some xs) : Gv.frz O (n + 1) (.own o st 0 len) = some (.slice xs .none) := by
  subst hl
  rw [Gv.frz, hO]
  simp only [true_and, Nat.zero_add, Nat.le_refl, if_true, List.drop_zero, List.take_length, h]
/-! a row's cells, of which less is said -/
theorem HSim.cells {E : Env} {O : List GObj} {w : World} (h : HSim E O w) {i st sz : Nat} {xs ys : List (List GVal)} (hO : O[i]? = some (.row st sz xs)) (hlen : ys.length = xs.length) (hsz : ∀ y ∈ ys, y.length = sz)
    (hc : ∀ (j : Nat) g', ys.flatten[j]? = some g' → ∃ g, xs.flatten[j]? = some g ∧ ∀ v, VR E v g → VR E v g') :
    HSim E (O.set i (.row st sz ys)) w ∧ Keep E O w E (O.set i (.row st sz ys)) w := by
  have hi : i < O.length := (List.getElem?_eq_some_iff.1 hO).1
  have get : ∀ (k : Nat) x, (O.set i (.row st sz ys))[k]? = some x → (k = i ∧ x = .row st sz ys) ∨ O[k]? = some x := by
    intro k x hx
    rw [List.getElem?_set] at hx
    by_cases e : i = k
    · rw [if_pos e] at hx
      rw [if_pos hi] at hx
      simp only [Option.some.injEq] at hx; exact .inl ⟨e.symm, hx.symm⟩
    · rw [if_neg e] at hx; exact .inr hx
  have blk : ∀ (k : Nat) x, (O.set i (.row st sz ys))[k]? = some x → ∃ y, O[k]? = some y ∧ x.blk E = y.blk E := by
    intro k x hx
    rcases get k x hx with ⟨rfl, rfl⟩ | hx
    · exact ⟨_, hO, rfl⟩
    · exact ⟨x, hx, rfl⟩
  refine ⟨⟨?_, h.sealed, h.one, fun k x hx => ?_, fun a b oa ob bb hab ha hb h1 h2 => ?_⟩, ⟨.refl E, rfl, rfl, Nat.le_refl _, fun _ _ _ => rfl, fun _ _ _ hv => .inl hv, fun b ⟨k, x, hx, hb⟩ => ?_, trivial⟩⟩
  · obtain ⟨n, h1, h2⟩ := h.fin
    exact ⟨n, fun c hc => h1 c (by rwa [clockOf_set hO rfl rfl] at hc), h2⟩
  · rcases get k x hx with ⟨rfl, rfl⟩ | hx
    · obtain ⟨l, hl, h1, h2, h3⟩ := h.real _ _ hO
      refine ⟨l, hl, h1, hsz, ?_⟩
      cases hb : l.block with
      | none =>
        simp only [hb] at h3
        subst h3
        simpa using hlen
      | some b =>
        simp only [hb] at h3 ⊢
        obtain ⟨cur, el, a1, a2, a3, a4, a5⟩ := h3
        refine ⟨cur, el, a1, a2, by rw [hlen]; exact a3, fun j g hj => ?_, a5⟩
        obtain ⟨g0, hg0, hm⟩ := hc j g hj
        obtain ⟨v, hv, h4, hr⟩ := a4 j g0 hg0
        exact ⟨v, hv, h4, hm v hr⟩
    · exact h.real k x hx
  · obtain ⟨ya, hya, ea⟩ := blk a oa ha
    obtain ⟨yb, hyb, eb⟩ := blk b ob hb
    exact h.sep a b ya yb bb hab hya hyb (by rw [← ea]; exact h1) (by rw [← eb]; exact h2)
  · obtain ⟨y, hy, e⟩ := blk k x hx
    exact .inl ⟨k, y, hy, by rw [← e]; exact hb⟩

section
variable {st : GSt} {N : GSt → Prop}
/-- less is said of a struct's cells -/
theorem Into.cells (i : Nat) {t sz : Nat} {cs : List GVal} (cs' : List GVal) (hO : st.o[i]? = some (.row t sz [cs])) (hs : cs'.length = sz) (hw : WL cs cs') (h : Into ⟨st.s, st.o.set i (.row t sz [cs'])⟩ N) : Into st N := by
  intro E a w hs' ha
  obtain ⟨h1, h2⟩ := hs'.cells hO (ys := [cs']) rfl (by simp [hs]) (fun j g' hj => by
    simp only [List.flatten_cons, List.flatten_nil, List.append_nil] at hj ⊢
    obtain ⟨x, hx, hl⟩ := hw.at_ j g' hj
    exact ⟨x, hx, fun v hv => hl.sound hv⟩)
  obtain ⟨st', E', q1, q2, q3, q4⟩ := h E a w h1 ha
  exact ⟨st', E', q1, q2, h2.trans q3, q4⟩
/-- objects at the end are forgotten -/
theorem Into.drop {O X : List GObj} (ho : st.o = O ++ X) (h : Into ⟨st.s, O⟩ N) : Into st N := by
  intro E a w hs ha
  rw [ho] at hs
  obtain ⟨h1, h2⟩ := hs.drop
  obtain ⟨st', E', q1, q2, q3, q4⟩ := h E a w h1 ha
  exact ⟨st', E', q1, q2, by rw [ho]; exact h2.trans q3, q4⟩
/-- a slice in a struct, without spare room, is given a token -/
theorem Into.cellTok (i c tsz : Nat) {t sz : Nat} {cs : List GVal} (xs : List (List GVal)) {tg : Tag} (hO : st.o[i]? = some (.row t sz [cs])) (hc : cs[c]? = some (.slice xs tg)) (htg : tg.cap = .full) (hcl : cs.length = sz)
    (h : stamp st.o fun u => Into ⟨st.s, ((tickO st.o) ++ [GObj.tok u tsz]).set i (.row t sz [cs.set c (.slice xs (.tok st.o.length u))])⟩ N) : Into st N := by
  intro E a w hs ha
  obtain ⟨u, hk, ht, hnx, hs, hkeep⟩ := hs.stamp h
  rw [← tickO_len st.o] at hk
  obtain ⟨h1, h2⟩ := hs.objNil (.tok u tsz) (l := ⟨none, 0, tsz, 0⟩) ht hnx rfl ⟨_, Env.addLoc_self _ _ _, rfl, trivial⟩ (by simp [GObj.blk, Env.addLoc_self])
  have hO' : (tickO st.o ++ [GObj.tok u tsz])[i]? = some (.row t sz [cs]) := by
    have := tickO_get hO rfl
    rw [List.getElem?_append_left (List.getElem?_eq_some_iff.1 this).1]; exact this
  obtain ⟨h3, h4⟩ := h1.cells hO' (ys := [cs.set c (.slice xs (.tok (tickO st.o).length u))]) rfl (by simp [hcl]) (fun j g' hj => by
    simp only [List.flatten_cons, List.flatten_nil, List.append_nil] at hj ⊢
    rw [List.getElem?_set] at hj
    by_cases e : c = j
    · subst e
      rw [if_pos rfl] at hj
      split at hj
      · simp only [Option.some.injEq] at hj
        subst hj
        refine ⟨_, hc, fun v hv => ?_⟩
        cases hv with
        | slice a len cap xs tag sz c hlen hcap hsz ha hc htag =>
          have htag := htag.cap hcap
          rw [htg] at htag
          exact .slice a len cap xs _ sz c hlen hcap hsz ha hc ⟨_, Env.addLoc_self _ _ _, .inl htag⟩
      · cases hj
    · rw [if_neg e] at hj
      exact ⟨g', hj, fun v hv => hv⟩)
  obtain ⟨st', E', q1, q2, q3, q4⟩ := hk _ a w h3 (ha.mono h2.ext)
  exact ⟨st', E', q1, q2, ((hkeep.trans h2).trans h4).trans q3, q4⟩
end
/-! parts of a tuple -/
theorem ext_0 (a : GVal) (r : List GVal) (K : GVal → Prop) : extractV (.tuple (a :: r)) 0 K = K a := by rw [extractV]; rfl
theorem ext_1 (a b : GVal) (r : List GVal) (K : GVal → Prop) : extractV (.tuple (a :: b :: r)) 1 K = K b := by rw [extractV]; rfl
theorem ext_2 (a b c : GVal) (r : List GVal) (K : GVal → Prop) : extractV (.tuple (a :: b :: c :: r)) 2 K = K c := by rw [extractV]; rfl
theorem ext_3 (a b c d : GVal) (r : List GVal) (K : GVal → Prop) : extractV (.tuple (a :: b :: c :: d :: r)) 3 K = K d := by rw [extractV]; rfl
theorem gif_neb (a b : Bool) (p q : Prop) : gif (a != b) p q = gif a (gif b q p) (gif b p q) := by cases a <;> cases b <;> rfl
theorem gif_eqb (a b : Bool) (p q : Prop) : gif (a == b) p q = gif a (gif b p q) (gif b q p) := by cases a <;> cases b <;> rfl
end Gv
