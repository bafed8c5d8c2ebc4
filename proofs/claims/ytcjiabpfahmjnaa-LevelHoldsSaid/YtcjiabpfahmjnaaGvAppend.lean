/- Cuts of slices and strings; append. -/
import Derived.Test.YtcjiabpfahmjnaaGvSlice
set_option linter.unusedVariables false
namespace Gv
open Go

section
variable {P : Program} {E : Env} {O : List GObj} {w : World} {K : GVal → List GObj → Prop}

/-- an optional bound: nothing, or an integer -/
def bound (d : Int) : Option GVal → Option Int
  | none => some d
  | some (.int _ n) => some n
  | _ => none

def hiTag : Option GVal → Tag
  | none => .full
  | some _ => .none
/-- what is known of the capacity behind a cut -/
def cutTag (O : List GObj) (sz : Nat) (tag : Tag) (hi : Option GVal) : Option Tag :=
  match hi with
  | some _ => match tag with
    | .nil => some .full
    | _ => some .none
  | none => match tag with
    | .tok o st => match O[o]? with
      | some (.tok st' sz') => if st = st' ∧ sz = sz' then some (.tok o st) else some .none
      | some (.clock _) => none
      | some _ => some .none
      | none => none
    | t => some t.cap

def sliceV (P : Program) (t : TypeId) (g : GVal) (lo hi mx : Option GVal) (O : List GObj) (K : GVal → Prop) : Prop :=
  match g with
  | .slice xs tag => match els P t, bound 0 lo, bound xs.length hi with
    | some (sz, _), some l, some h => match mx with
      | none => 0 ≤ l ∧ l ≤ h ∧ h ≤ xs.length ∧ (∀ x ∈ xs, x.length = sz) ∧ match cutTag O sz tag hi with
        | some tag' => K (.slice ((xs.take h.toNat).drop l.toNat) tag')
        | none => False
      | some (.int _ m) => l = 0 ∧ h = 0 ∧ m = 0 ∧ hi.isSome = true ∧ K (.slice [] .full)
      | _ => False
    | _, _, _ => False
  | .own o st off len => match els P t, bound 0 lo, bound len hi, mx with
    | some (sz, _), some l, some h, none => match O[o]? with
      | some (.row st' sz' xs) => st = st' ∧ sz = sz' ∧ 0 ≤ l ∧ l ≤ h ∧ h ≤ len ∧ K (.own o st (off + l.toNat) (h.toNat - l.toNat))
      | _ => False
    | _, _, _, _ => False
  | .str s => match bound 0 lo, bound s.length hi, mx with
    | some l, some h, none => P.underlying t = some .string ∧ 0 ≤ l ∧ l ≤ h ∧ h ≤ s.length ∧ K (.str ((s.take h.toNat).drop l.toNat))
    | _, _, _ => False
  | .ref cs => match arr P t, bound 0 lo, mx with
    | some (len, 1, _), some l, none => match bound len hi with
      | some h => 0 ≤ l ∧ l ≤ h ∧ h ≤ len ∧ len ≤ cs.length ∧ K (.slice ((((cs.take len).map fun c => [c]).take h.toNat).drop l.toNat) (hiTag hi))
      | none => False
    | _, _, _ => False
  | _ => False

theorem sliceBound_run {n : Int} {k : IntKind} {y : Nat} {c : BoundsCode} (h0 : 0 ≤ n) (h1 : n ≤ y) : (Instr.sliceBound (.int k n) y c).run P w = .ok n.toNat w := by
  simp [Instr.sliceBound, asIntOf, h0, h1]

/-- an optional operand -/
def OptR (E : Env) : Option Value → Option GVal → Prop
  | none, none => True
  | some v, some g => VR E v g
  | _, _ => False

theorem sliceBounds_run {isS : Bool} {len cap : Nat} {rlo rhi : Option Value} {lo hi : Option GVal} {l h : Int} (hlo : OptR E rlo lo) (hhi : OptR E rhi hi)
    (e1 : bound 0 lo = some l) (e2 : bound len hi = some h) (h0 : 0 ≤ l) (h1 : l ≤ h) (h2 : h ≤ len) (hc : len ≤ cap) :
    (Instr.sliceBounds isS len cap rlo rhi none).run P w = .ok (l.toNat, h.toNat, cap) w := by
  have key : ∀ (v : Value) (g : GVal) (d n : Int) (y : Nat) (c : BoundsCode), VR E v g → bound d (some g) = some n → 0 ≤ n → n ≤ y → (Instr.sliceBound v y c).run P w = .ok n.toNat w := by
    intro v g d n y c hv hb h0 h1
    cases hv <;> simp [bound] at hb
    subst hb
    exact sliceBound_run h0 h1
  cases hi with
  | none => cases rhi with
    | some v => cases hhi
    | none =>
      simp only [bound, Option.some.injEq] at e2
      have eh : h.toNat = len := by omega
      cases lo with
      | none => cases rlo with
        | some v => cases hlo
        | none =>
          simp only [bound, Option.some.injEq] at e1
          subst e1
          simp [Instr.sliceBounds, eh]
      | some g => cases rlo with
        | none => cases hlo
        | some v =>
          have := key v g _ l len (if (none : Option Value).isSome then .slice3C else .sliceB) hlo e1 h0 (by omega)
          simp at this
          simp [Instr.sliceBounds, this, eh]
  | some gh => cases rhi with
    | none => cases hhi
    | some vh =>
      have hh := key vh gh _ h cap (if isS then .sliceAcap else .sliceAlen) hhi e2 (by omega) (by omega)
      cases lo with
      | none => cases rlo with
        | some v => cases hlo
        | none =>
          simp only [bound, Option.some.injEq] at e1
          subst e1
          simp [Instr.sliceBounds, hh]
      | some g => cases rlo with
        | none => cases hlo
        | some v =>
          have := key v g _ l h.toNat (if (none : Option Value).isSome then .slice3C else .sliceB) hlo e1 h0 (by omega)
          simp at this
          simp [Instr.sliceBounds, this, hh]

theorem sliceAt_slice {t : TypeId} {e : TypeId} {x : Value} {lo hi mx : Option Value} (hu : P.underlying t = some (.slice e)) :
    (Instr.sliceAt t x lo hi mx).run P w = (Instr.slice t x lo hi mx).run P w := by
  unfold Instr.sliceAt
  simp only [Sem.run_bind, run_underlying hu, Result.andThen_ok]

theorem flatten_drop {α : Type} {sz : Nat} : ∀ (xs : List (List α)) (n : Nat), (∀ x ∈ xs, x.length = sz) → n ≤ xs.length → (xs.drop n).flatten = xs.flatten.drop (n * sz)
  | xs, 0, _, _ => by simp
  | [], n + 1, _, h => by simp at h
  | x :: r, n + 1, h, hn => by
    have hx : x.length = sz := h x (by simp)
    have ih := flatten_drop r n (fun y hy => h y (by simp [hy])) (by simpa using hn)
    simp only [List.drop_succ_cons, ih, List.flatten_cons]
    have e : (n + 1) * sz = x.length + n * sz := by rw [hx, Nat.succ_mul]; omega
    rw [e, List.drop_length_add_append]

theorem flatten_take {α : Type} {sz : Nat} : ∀ (xs : List (List α)) (n : Nat), (∀ x ∈ xs, x.length = sz) → n ≤ xs.length → (xs.take n).flatten = xs.flatten.take (n * sz)
  | xs, 0, _, _ => by simp
  | [], n + 1, _, h => by simp at h
  | x :: r, n + 1, h, hn => by
    have hx : x.length = sz := h x (by simp)
    have ih := flatten_take r n (fun y hy => h y (by simp [hy])) (by simpa using hn)
    simp only [List.take_succ_cons, ih, List.flatten_cons]
    have e : (n + 1) * sz = x.length + n * sz := by rw [hx, Nat.succ_mul]; omega
    rw [e, List.take_length_add_append]

/-- a cut of a slice's value -/
theorem VR.cut {b off len cap : Nat} {xs : List (List GVal)} {tag tag' : Tag} {sz l h : Nat} {a : Option Addr} (hv : VR E (.slice a len cap) (.slice xs tag)) (hsz : ∀ x ∈ xs, x.length = sz)
    (h1 : l ≤ h) (h2 : h ≤ xs.length) (ht : TagOK E (if cap = l then a else a.map (·.add (l * sz))) (h - l) (cap - l) tag') :
    VR E (.slice (if cap = l then a else a.map (·.add (l * sz))) (h - l) (cap - l)) (.slice ((xs.take h).drop l) tag') := by
  cases hv with
  | slice a len cap xs tag sz' c hlen hcap hsz' ha hc htag =>
    by_cases hemp : (xs.take h).drop l = []
    · refine .slice _ _ _ _ _ sz c (by simp; omega) (by omega) (by rw [hemp]; simp) (fun hx => absurd hemp hx) (by rw [hemp]; simp) ht
    · have hlt : l < h := by
        rcases Nat.lt_or_ge l h with h' | h'
        · exact h'
        · exact absurd (List.drop_of_length_le (by simp; omega)) hemp
      have hne : xs ≠ [] := by intro e; rw [e] at h2; simp at h2; omega
      obtain ⟨b, off, rfl, hs⟩ := ha hne
      have hszz : sz' = sz := by
        have hm : xs.getD 0 [] ∈ xs := mem_getD (by omega)
        rw [← hsz _ hm, ← hsz' _ hm]
      subst hszz
      have hcl : ¬ cap = l := by omega
      simp only [hcl, if_false, Option.map_some, add_at] at ht ⊢
      have hd : ((xs.take h).drop l).flatten = (xs.flatten.take (h * sz')).drop (l * sz') := by
        rw [flatten_drop _ _ (fun x hx => hsz x (List.mem_of_mem_take hx)) (by simp; omega), flatten_take _ _ hsz (by omega)]
      refine .slice _ _ _ _ _ sz' (fun j => c (l * sz' + j)) (by simp; omega) (by omega) (fun x hx => hsz x (List.mem_of_mem_take (List.mem_of_mem_drop hx))) (fun _ => ⟨b, off + l * sz', rfl, fun j hj => ?_⟩) (fun j g hj => ?_) ht
      · rw [Nat.add_assoc]
        refine hs _ ?_
        have e1 : l * sz' + (h - l) * sz' = h * sz' := by rw [← Nat.add_mul]; congr 1; omega
        have e2 : h * sz' ≤ len * sz' := Nat.mul_le_mul_right _ (by omega)
        omega
      · rw [hd, List.getElem?_drop, List.getElem?_take] at hj
        split at hj
        · exact hc _ g hj
        · cases hj

theorem TagOK.cut {a : Option Addr} {len cap sz l : Nat} {tag : Tag} (ht : TagOK E a len cap tag) (hcap : len ≤ cap) (hl : l ≤ len)
    (htok : ∀ o st, tag = .tok o st → ∀ g, E.loc st = some g → len ≠ cap → g.size = sz) :
    TagOK E (if cap = l then a else a.map (·.add (l * sz))) (len - l) (cap - l) tag := by
  cases tag with
  | none => trivial
  | full => simp only [TagOK] at ht ⊢; omega
  | nil => obtain ⟨rfl, h2⟩ := ht; refine ⟨by simp, by omega⟩
  | tok o st =>
    obtain ⟨g, hg, ht⟩ := ht
    refine ⟨g, hg, ?_⟩
    rcases ht with e | ⟨b, off, rfl, hb, ho, htot⟩
    · left; omega
    · by_cases hc : cap = len
      · left; omega
      · right
        have hs := htok o st rfl g hg (fun e => hc e.symm)
        have hcl : ¬ cap = l := by omega
        refine ⟨b, off + l * sz, by simp [hcl, add_at], hb, ?_, ?_⟩
        · rw [ho, hs, Nat.add_assoc, ← Nat.add_mul]; congr 2; omega
        · have : (cap - l) * g.size + l * sz = cap * g.size := by rw [hs, ← Nat.add_mul]; congr 1; omega
          omega

theorem cutTag_ok {a : Option Addr} {len cap sz l h : Nat} {tag tag' : Tag} {hi : Option GVal} (hs : HSim E O w) (ht : TagOK E a len cap tag) (hcap : len ≤ cap) (hl : l ≤ h) (hh : h ≤ len)
    (hhi : hi = none → h = len) (hc : cutTag O sz tag hi = some tag') : TagOK E (if cap = l then a else a.map (·.add (l * sz))) (h - l) (cap - l) tag' := by
  cases hi with
  | some g =>
    cases tag with
    | nil =>
      simp only [cutTag, Option.some.injEq] at hc; subst hc
      have h0 : cap = 0 := ht.2
      show cap - l = h - l
      omega
    | _ => simp only [cutTag, Option.some.injEq] at hc; subst hc; trivial
  | none =>
    have e := hhi rfl
    subst e
    cases tag with
    | none => simp only [cutTag, Option.some.injEq] at hc; subst hc; trivial
    | full => simp only [cutTag, Option.some.injEq] at hc; subst hc; exact TagOK.cut (tag := .full) ht hcap hl (by intro o st e; cases e)
    | nil => simp only [cutTag, Option.some.injEq] at hc; subst hc; exact TagOK.cut (tag := .full) (ht.cap hcap) hcap hl (by intro o st e; cases e)
    | tok o st =>
      simp only [cutTag] at hc
      split at hc
      · rename_i st' sz' hO
        split at hc
        · rename_i hcc
          simp only [Option.some.injEq] at hc; subst hc
          obtain ⟨rfl, rfl⟩ := hcc
          obtain ⟨l', hl', hls, _⟩ := hs.real _ _ hO
          refine ht.cut hcap hl (fun o' st' e g hg _ => ?_)
          cases e
          rw [hl'] at hg; cases hg; exact hls
        · simp only [Option.some.injEq] at hc; subst hc; trivial
      · cases hc
      · simp only [Option.some.injEq] at hc; subst hc; trivial
      · cases hc

theorem slice_sound {t : TypeId} {r : Value} {g : GVal} {rlo rhi rmx : Option Value} {lo hi mx : Option GVal} (h : HSim E O w) (hr : VR E r g) (hlo : OptR E rlo lo) (hhi : OptR E rhi hi) (hmx : OptR E rmx mx)
    (hk : sliceV P t g lo hi mx O (fun g => K g O)) : SOK P (Instr.sliceAt t r rlo rhi rmx) E O w K := by
  unfold sliceV at hk
  cases hr with
  | slice a len cap xs tag sz c hlen hcap hsz ha hc htag =>
    simp only at hk
    split at hk
    · rename_i sz' ag l hh he e1 e2
      obtain ⟨e, hu, ht⟩ := els_spec he
      split at hk
      · cases rmx with
        | some v => cases hmx
        | none =>
          obtain ⟨h0, h1, h2, h3, hk⟩ := hk
          cases hct : cutTag O sz' tag hi with
          | none => simp [hct] at hk
          | some tag' =>
          simp only [hct] at hk
          have hb := sliceBounds_run (P := P) (w := w) (isS := true) (len := len) (cap := cap) hlo hhi e1 (by rw [hlen]; exact e2) h0 h1 (by omega) hcap
          refine .same (v := .slice (if cap = l.toNat then a else a.map (·.add (l.toNat * sz'))) (hh.toNat - l.toNat) (cap - l.toNat)) ?_ h ?_ hk
          · rw [sliceAt_slice hu]
            simp [Instr.slice, run_underlying hu, hb, (tab_spec ht w).1]
          · have htag' := cutTag_ok (sz := sz') (l := l.toNat) (h := hh.toNat) (hi := hi) h htag hcap (by omega) (by omega) (fun e => by subst e; simp [bound] at e2; omega) hct
            exact VR.cut (b := 0) (off := 0) (.slice a len cap xs tag sz c hlen hcap hsz ha hc htag) h3 (by omega) (by omega) htag'
      · rename_i m
        cases rmx with
        | none => cases hmx
        | some vm =>
          obtain ⟨rfl, rfl, rfl, h4, hk⟩ := hk
          have hvm : VR E vm (.int _ 0) := hmx
          cases hvm
          cases hi with
          | none => simp at h4
          | some gh => cases rhi with
            | none => cases hhi
            | some vh =>
              have hvh : VR E vh gh := hhi
              cases hvh <;> simp [bound] at e2
              subst e2
              have hs0 : ∀ c k y, (Instr.sliceBound (.int k 0) y c).run P w = .ok 0 w := fun c k y => by simp [Instr.sliceBound, asIntOf]
              have hlow : ∀ c c', ((match rlo with
                  | some v => Instr.sliceBound v 0 (if (some (Value.int IntKind.i64 0)).isSome then c else c')
                  | none => pure 0) : Sem Nat).run P w = .ok 0 w := by
                intro c c'
                cases lo with
                | none => cases rlo with
                  | none => simp
                  | some v => cases hlo
                | some gl => cases rlo with
                  | none => cases hlo
                  | some v =>
                    have hv : VR E v gl := hlo
                    cases hv <;> simp [bound] at e1
                    subst e1
                    simpa using hs0 c _ _
              refine .same (v := .slice (if (0 : Nat) = 0 then a else a.map (·.add (0 * sz'))) 0 0) ?_ h
                (.slice _ _ _ [] .full 0 c rfl (Nat.le_refl _) (by simp) (by simp) (by simp) rfl) hk
              rw [sliceAt_slice hu]
              cases lo with
              | none => cases rlo with
                | none => simp [Instr.slice, run_underlying hu, Instr.sliceBounds, hs0, (tab_spec ht w).1]
                | some v => cases hlo
              | some gl => cases rlo with
                | none => cases hlo
                | some v =>
                  have hv : VR E v gl := hlo
                  cases hv <;> simp [bound] at e1
                  subst e1
                  simp [Instr.slice, run_underlying hu, Instr.sliceBounds, hs0, (tab_spec ht w).1]
      · exact hk.elim
    · exact hk.elim
  | own a len cap o st i l hl hcap ha =>
    simp only at hk
    split at hk
    · rename_i sz ag lo' hi' he e1 e2
      obtain ⟨e, hu, ht⟩ := els_spec he
      split at hk
      · rename_i st' sz' xs hO
        obtain ⟨rfl, rfl, h0, h1, h2, hk⟩ := hk
        cases rmx with
        | some v => cases hmx
        | none =>
          have hb := sliceBounds_run (P := P) (w := w) (isS := true) (len := len) (cap := cap) hlo hhi e1 e2 h0 h1 h2 hcap
          obtain ⟨l', hl', hls, hsz, hreal⟩ := h.real _ _ hO
          rw [hl] at hl'; cases hl'
          have hrun : (Instr.sliceAt t (.slice a len cap) rlo rhi none).run P w = .ok (.slice (if cap = lo'.toNat then a else a.map (·.add (lo'.toNat * sz))) (hi'.toNat - lo'.toNat) (cap - lo'.toNat)) w := by
            rw [sliceAt_slice hu]
            simp [Instr.slice, run_underlying hu, hb, (tab_spec ht w).1]
          refine .same hrun h ?_ hk
          refine .own _ _ _ o st _ l hl (by omega) ?_
          by_cases hcl : cap = lo'.toNat
          · left; omega
          · rcases ha with hc0 | ⟨b, hb', rfl, hfit⟩
            · left; omega
            · right
              simp only [if_neg hcl, Option.map_some, add_at]
              refine ⟨b, hb', by rw [hls, Nat.add_mul, Nat.add_assoc], ?_⟩
              have : (cap - lo'.toNat) * l.size + lo'.toNat * l.size = cap * l.size := by rw [← Nat.add_mul]; congr 1; omega
              rw [Nat.add_mul]; omega
      · exact hk.elim
    · exact hk.elim
  | str s =>
    simp only at hk
    split at hk
    · rename_i lo' hi' e1 e2
      obtain ⟨hu, h0, h1, h2, hk⟩ := hk
      cases rmx with
      | some v => cases hmx
      | none =>
        have hss : (⟨s.toArray⟩ : ByteArray).size = s.length := by show s.toArray.size = _; simp
        have hb := sliceBounds_run (P := P) (w := w) (isS := false) (len := s.length) (cap := s.length) hlo hhi e1 e2 h0 h1 h2 (Nat.le_refl _)
        refine .same (v := .string ⟨((s.take hi'.toNat).drop lo'.toNat).toArray⟩) ?_ h (.str _) hk
        unfold Instr.sliceAt
        simp only [Sem.run_bind, run_underlying hu, Result.andThen_ok]
        unfold Instr.slice
        simp only [Sem.run_bind, run_underlying hu, Result.andThen_ok, Option.isSome_none, Bool.false_eq_true, if_false, hss, hb, Sem.run_pure]
        congr 2
        apply ByteArray.ext
        simp [ByteArray.data_extract, List.drop_take]
    · exact hk.elim
  | ref b off cs c ha hc =>
    simp only at hk
    split at hk
    · rename_i len ag lo' he e1
      obtain ⟨e, hu, ht⟩ := arr_spec he
      split at hk
      · rename_i hi' e2
        obtain ⟨h0, h1, h2, h3, hk⟩ := hk
        cases rmx with
        | some v => cases hmx
        | none =>
          have hb := sliceBounds_run (P := P) (w := w) (isS := false) (len := len) (cap := len) hlo hhi e1 e2 h0 h1 h2 (Nat.le_refl _)
          have hfl : ((cs.take len).map fun c => [c]).flatten = cs.take len := by
            induction cs.take len with
            | nil => rfl
            | cons x r ih => simp [ih]
          have hv : VR E (.slice (some ⟨b, off, none⟩) len len) (.slice ((cs.take len).map fun c => [c]) .full) := by
            refine .slice _ _ _ _ _ 1 c (by simp; omega) (Nat.le_refl _) (fun x hx => by obtain ⟨y, _, rfl⟩ := List.mem_map.1 hx; rfl) (fun _ => ⟨b, off, rfl, fun j hj => ha j (by omega)⟩) (fun j g hj => ?_) rfl
            rw [hfl, List.getElem?_take] at hj
            split at hj
            · exact hc j g hj
            · cases hj
          refine .same (v := .slice (if len = lo'.toNat then some ⟨b, off, none⟩ else some ((⟨b, off, none⟩ : Addr).add (lo'.toNat * 1))) (hi'.toNat - lo'.toNat) (len - lo'.toNat)) ?_ h ?_ hk
          · unfold Instr.sliceAt
            simp only [Sem.run_bind, run_underlying hu, Result.andThen_ok, Instr.sureAddr, Sem.run_pure, hb, (tab_spec ht w).1]
            split <;> rfl
          · have hval := VR.cut (b := 0) (off := 0) (sz := 1) (l := lo'.toNat) (h := hi'.toNat) (tag' := hiTag hi) hv
              (fun x hx => by obtain ⟨y, _, rfl⟩ := List.mem_map.1 hx; rfl) (by omega) (by simp; omega) (by
                cases hi with
                | none => simp [bound] at e2; simp only [TagOK, hiTag]; omega
                | some _ => trivial)
            have e3 : (if len = lo'.toNat then some (⟨b, off, none⟩ : Addr) else (some (⟨b, off, none⟩ : Addr)).map (·.add (lo'.toNat * 1))) = (if len = lo'.toNat then some ⟨b, off, none⟩ else some ((⟨b, off, none⟩ : Addr).add (lo'.toNat * 1))) := by
              split <;> rfl
            rw [← e3]; exact hval
      · exact hk.elim
    · exact hk.elim
  | _ => exact hk.elim

end
end Gv
