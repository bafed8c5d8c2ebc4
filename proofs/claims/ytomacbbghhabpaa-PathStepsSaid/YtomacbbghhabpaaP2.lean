/- Cuts of slices and strings; append. -/
import Derived.Test.YtomacbbghhabpaaP1
import Derived.IntWalk
import Derived.ChangeKeysEq
import Derived.Laws.StructEq
set_option linter.unusedVariables false
namespace Gv
open Go
section
variable {P : Program} {E : Env} {O : List GObj} {w : World} {K : GVal → List GObj → Prop}
def bound (d : Int) : Option GVal → Option Int
 | none => some d
 | some (.int _ n) => some n
 | _ => none
def hiTag : Option GVal → Tag
 | none => .full
 | some _ => .none
def cutTag (O : List GObj) (sz : Nat) (tag : Tag) (hi : Option GVal) : Option Tag :=
 match hi with
 | some _ => match tag with
  | .nil => some .full
  | _ => some .none
 | none => match tag with
  | .tok o st => match O[o]? with
   | some (.tok st' sz') => if st = st' ∧ sz = sz' then some (.tok o st) else some .none
   | some (.clock _) => none
   | some _ => some .none
   | none => none
  | t => some t.cap
def sliceV (P : Program) (t : TypeId) (g : GVal) (lo hi mx : Option GVal) (O : List GObj) (K : GVal → Prop) : Prop :=
 match g with
 | .slice xs tag => match els P t, bound 0 lo, bound xs.length hi with
  | some (sz, _), some l, some h => match mx with
   | none => 0 ≤ l ∧ l ≤ h ∧ h ≤ xs.length ∧ (∀ x ∈ xs, x.length = sz) ∧ match cutTag O sz tag hi with
    | some tag' => K (.slice ((xs.take h.toNat).drop l.toNat) tag')
    | none => False
   | some (.int _ m) => l = 0 ∧ h = 0 ∧ m = 0 ∧ hi.isSome = true ∧ K (.slice [] .full)
   | _ => False
  | _, _, _ => False
 | .own o st off len => match els P t, bound 0 lo, bound len hi, mx with
  | some (sz, _), some l, some h, none => match O[o]? with
   | some (.row st' sz' xs) => st = st' ∧ sz = sz' ∧ 0 ≤ l ∧ l ≤ h ∧ h ≤ len ∧ K (.own o st (off + l.toNat) (h.toNat - l.toNat))
   | _ => False
  | _, _, _, _ => False
 | .str s => match bound 0 lo, bound s.length hi, mx with
  | some l, some h, none => P.underlying t = some .string ∧ 0 ≤ l ∧ l ≤ h ∧ h ≤ s.length ∧ K (.str ((s.take h.toNat).drop l.toNat))
  | _, _, _ => False
 | .ref cs => match arr P t, bound 0 lo, mx with
  | some (len, 1, _), some l, none => match bound len hi with
   | some h => 0 ≤ l ∧ l ≤ h ∧ h ≤ len ∧ len ≤ cs.length ∧ K (.slice ((((cs.take len).map fun c => [c]).take h.toNat).drop l.toNat) (hiTag hi))
   | none => False
  | _, _, _ => False
 | _ => False
theorem sliceBound_run {n : Int} {k : IntKind} {y : Nat} {c : BoundsCode} (h0 : 0 ≤ n) (h1 : n ≤ y) : (Instr.sliceBound (.int k n) y c).run P w = .ok n.toNat w := by
 simp [Instr.sliceBound, asIntOf, h0, h1]
def OptR (E : Env) : Option Value → Option GVal → Prop
 | none, none => True
 | some v, some g => VR E v g
 | _, _ => False
theorem sliceBounds_run {isS : Bool} {len cap : Nat} {rlo rhi : Option Value} {lo hi : Option GVal} {l h : Int} (hlo : OptR E rlo lo) (hhi : OptR E rhi hi)
 (e1 : bound 0 lo = some l) (e2 : bound len hi = some h) (h0 : 0 ≤ l) (h1 : l ≤ h) (h2 : h ≤ len) (hc : len ≤ cap) :
 (Instr.sliceBounds isS len cap rlo rhi none).run P w = .ok (l.toNat, h.toNat, cap) w := by
 have key : ∀ (v : Value) (g : GVal) (d n : Int) (y : Nat) (c : BoundsCode), VR E v g → bound d (some g) = some n → 0 ≤ n → n ≤ y → (Instr.sliceBound v y c).run P w = .ok n.toNat w := by
  intro v g d n y c hv hb h0 h1;cases hv <;> simp [bound] at hb
  subst hb;exact sliceBound_run h0 h1
 cases hi with
 | none => cases rhi with
  | some v => cases hhi
  | none =>
   simp only [bound, Option.some.injEq] at e2;have eh : h.toNat = len := by omega
   cases lo with
   | none => cases rlo with
    | some v => cases hlo
    | none =>
     simp only [bound, Option.some.injEq] at e1;subst e1;simp [Instr.sliceBounds, eh]
   | some g => cases rlo with
    | none => cases hlo
    | some v =>
     have := key v g _ l len (if (none : Option Value).isSome then .slice3C else .sliceB) hlo e1 h0 (by omega);simp at this;simp [Instr.sliceBounds, this, eh]
 | some gh => cases rhi with
  | none => cases hhi
  | some vh =>
   have hh := key vh gh _ h cap (if isS then .sliceAcap else .sliceAlen) hhi e2 (by omega) (by omega);cases lo with
   | none => cases rlo with
    | some v => cases hlo
    | none =>
     simp only [bound, Option.some.injEq] at e1;subst e1;simp [Instr.sliceBounds, hh]
   | some g => cases rlo with
    | none => cases hlo
    | some v =>
     have := key v g _ l h.toNat (if (none : Option Value).isSome then .slice3C else .sliceB) hlo e1 h0 (by omega);simp at this;simp [Instr.sliceBounds, this, hh]
theorem sliceAt_slice {t : TypeId} {e : TypeId} {x : Value} {lo hi mx : Option Value} (hu : P.underlying t = some (.slice e)) :
 (Instr.sliceAt t x lo hi mx).run P w = (Instr.slice t x lo hi mx).run P w := by
 unfold Instr.sliceAt
 simp only [Sem.run_bind, run_underlying hu, Result.andThen_ok]
theorem flatten_drop {α : Type} {sz : Nat} : ∀ (xs : List (List α)) (n : Nat), (∀ x ∈ xs, x.length = sz) → n ≤ xs.length → (xs.drop n).flatten = xs.flatten.drop (n * sz)
 | xs, 0, _, _ => by simp
 | [], n + 1, _, h => by simp at h
 | x :: r, n + 1, h, hn => by
  have hx : x.length = sz := h x (by simp);have ih := flatten_drop r n (fun y hy => h y (by simp [hy])) (by simpa using hn);simp only [List.drop_succ_cons, ih, List.flatten_cons];have e : (n + 1) * sz = x.length + n * sz := by rw [hx, Nat.succ_mul]; omega
  rw [e, List.drop_length_add_append]
theorem flatten_take {α : Type} {sz : Nat} : ∀ (xs : List (List α)) (n : Nat), (∀ x ∈ xs, x.length = sz) → n ≤ xs.length → (xs.take n).flatten = xs.flatten.take (n * sz)
 | xs, 0, _, _ => by simp
 | [], n + 1, _, h => by simp at h
 | x :: r, n + 1, h, hn => by
  have hx : x.length = sz := h x (by simp);have ih := flatten_take r n (fun y hy => h y (by simp [hy])) (by simpa using hn);simp only [List.take_succ_cons, ih, List.flatten_cons];have e : (n + 1) * sz = x.length + n * sz := by rw [hx, Nat.succ_mul]; omega
  rw [e, List.take_length_add_append]
theorem VR.cut {b off len cap : Nat} {xs : List (List GVal)} {tag tag' : Tag} {sz l h : Nat} {a : Option Addr} (hv : VR E (.slice a len cap) (.slice xs tag)) (hsz : ∀ x ∈ xs, x.length = sz)
 (h1 : l ≤ h) (h2 : h ≤ xs.length) (ht : TagOK E (if cap = l then a else a.map (·.add (l * sz))) (h - l) (cap - l) tag') :
 VR E (.slice (if cap = l then a else a.map (·.add (l * sz))) (h - l) (cap - l)) (.slice ((xs.take h).drop l) tag') := by
 cases hv with
 | slice a len cap xs tag sz' c hlen hcap hsz' ha hc htag =>
  by_cases hemp : (xs.take h).drop l = []
  · refine .slice _ _ _ _ _ sz c (by simp; omega) (by omega) (by rw [hemp]; simp) (fun hx => absurd hemp hx) (by rw [hemp]; simp) ht
  · have hlt : l < h := by
     rcases Nat.lt_or_ge l h with h' | h'
     · exact h'
     · exact absurd (List.drop_of_length_le (by simp; omega)) hemp
    have hne : xs ≠ [] := by intro e; rw [e] at h2; simp at h2; omega
    obtain ⟨b, off, rfl, hs⟩ := ha hne;have hszz : sz' = sz := by
     have hm : xs.getD 0 [] ∈ xs := mem_getD (by omega)
     rw [← hsz _ hm, ← hsz' _ hm]
    subst hszz;have hcl : ¬ cap = l := by omega
    simp only [hcl, if_false, Option.map_some, add_at] at ht ⊢;have hd : ((xs.take h).drop l).flatten = (xs.flatten.take (h * sz')).drop (l * sz') := by
     rw [flatten_drop _ _ (fun x hx => hsz x (List.mem_of_mem_take hx)) (by simp; omega), flatten_take _ _ hsz (by omega)]
    refine .slice _ _ _ _ _ sz' (fun j => c (l * sz' + j)) (by simp; omega) (by omega) (fun x hx => hsz x (List.mem_of_mem_take (List.mem_of_mem_drop hx))) (fun _ => ⟨b, off + l * sz', rfl, fun j hj => ?_⟩) (fun j g hj => ?_) ht
    · rw [Nat.add_assoc];refine hs _ ?_;have e1 : l * sz' + (h - l) * sz' = h * sz' := by rw [← Nat.add_mul]; congr 1; omega
      have e2 : h * sz' ≤ len * sz' := Nat.mul_le_mul_right _ (by omega);omega
    · rw [hd, List.getElem?_drop, List.getElem?_take] at hj;split at hj
      · exact hc _ g hj
      · cases hj
theorem TagOK.cut {a : Option Addr} {len cap sz l : Nat} {tag : Tag} (ht : TagOK E a len cap tag) (hcap : len ≤ cap) (hl : l ≤ len)
 (htok : ∀ o st, tag = .tok o st → ∀ g, E.loc st = some g → len ≠ cap → g.size = sz) :
 TagOK E (if cap = l then a else a.map (·.add (l * sz))) (len - l) (cap - l) tag := by
 cases tag with
 | none => trivial
 | full => simp only [TagOK] at ht ⊢; omega
 | nil => obtain ⟨rfl, h2⟩ := ht; refine ⟨by simp, by omega⟩
 | tok o st =>
  obtain ⟨g, hg, ht⟩ := ht;refine ⟨g, hg, ?_⟩;rcases ht with e | ⟨b, off, rfl, hb, ho, htot⟩
  · left; omega
  · by_cases hc : cap = len
    · left; omega
    · right;have hs := htok o st rfl g hg (fun e => hc e.symm);have hcl : ¬ cap = l := by omega
      refine ⟨b, off + l * sz, by simp [hcl, add_at], hb, ?_, ?_⟩
      · rw [ho, hs, Nat.add_assoc, ← Nat.add_mul]; congr 2; omega
      · have : (cap - l) * g.size + l * sz = cap * g.size := by rw [hs, ← Nat.add_mul]; congr 1; omega
        omega
theorem cutTag_ok {a : Option Addr} {len cap sz l h : Nat} {tag tag' : Tag} {hi : Option GVal} (hs : HSim E O w) (ht : TagOK E a len cap tag) (hcap : len ≤ cap) (hl : l ≤ h) (hh : h ≤ len)
 (hhi : hi = none → h = len) (hc : cutTag O sz tag hi = some tag') : TagOK E (if cap = l then a else a.map (·.add (l * sz))) (h - l) (cap - l) tag' := by
 cases hi with
 | some g =>
  cases tag with
  | nil =>
   simp only [cutTag, Option.some.injEq] at hc; subst hc;have h0 : cap = 0 := ht.2;show cap - l = h - l;omega
  | _ => simp only [cutTag, Option.some.injEq] at hc; subst hc; trivial
 | none =>
  have e := hhi rfl;subst e;cases tag with
  | none => simp only [cutTag, Option.some.injEq] at hc; subst hc; trivial
  | full => simp only [cutTag, Option.some.injEq] at hc; subst hc; exact TagOK.cut (tag := .full) ht hcap hl (by intro o st e; cases e)
  | nil => simp only [cutTag, Option.some.injEq] at hc; subst hc; exact TagOK.cut (tag := .full) (ht.cap hcap) hcap hl (by intro o st e; cases e)
  | tok o st =>
   simp only [cutTag] at hc;split at hc
   · rename_i st' sz' hO;split at hc
     · rename_i hcc;simp only [Option.some.injEq] at hc; subst hc;obtain ⟨rfl, rfl⟩ := hcc;obtain ⟨l', hl', hls, _⟩ := hs.real _ _ hO;refine ht.cut hcap hl (fun o' st' e g hg _ => ?_);cases e;rw [hl'] at hg; cases hg; exact hls
     · simp only [Option.some.injEq] at hc; subst hc; trivial
   · cases hc
   · simp only [Option.some.injEq] at hc; subst hc; trivial
   · cases hc
theorem slice_sound {t : TypeId} {r : Value} {g : GVal} {rlo rhi rmx : Option Value} {lo hi mx : Option GVal} (h : HSim E O w) (hr : VR E r g) (hlo : OptR E rlo lo) (hhi : OptR E rhi hi) (hmx : OptR E rmx mx)
 (hk : sliceV P t g lo hi mx O (fun g => K g O)) : SOK P (Instr.sliceAt t r rlo rhi rmx) E O w K := by
 unfold sliceV at hk
 cases hr with
 | slice a len cap xs tag sz c hlen hcap hsz ha hc htag =>
  simp only at hk
  split at hk
  · rename_i sz' ag l hh he e1 e2;obtain ⟨e, hu, ht⟩ := els_spec he;split at hk
    · cases rmx with
      | some v => cases hmx
      | none =>
       obtain ⟨h0, h1, h2, h3, hk⟩ := hk;cases hct : cutTag O sz' tag hi with
       | none => simp [hct] at hk
       | some tag' =>
       simp only [hct] at hk;have hb := sliceBounds_run (P := P) (w := w) (isS := true) (len := len) (cap := cap) hlo hhi e1 (by rw [hlen]; exact e2) h0 h1 (by omega) hcap;refine .same (v := .slice (if cap = l.toNat then a else a.map (·.add (l.toNat * sz'))) (hh.toNat - l.toNat) (cap - l.toNat)) ?_ h ?_ hk
       · rw [sliceAt_slice hu];simp [Instr.slice, run_underlying hu, hb, (tab_spec ht w).1]
       · have htag' := cutTag_ok (sz := sz') (l := l.toNat) (h := hh.toNat) (hi := hi) h htag hcap (by omega) (by omega) (fun e => by subst e; simp [bound] at e2; omega) hct;exact VR.cut (b := 0) (off := 0) (.slice a len cap xs tag sz c hlen hcap hsz ha hc htag) h3 (by omega) (by omega) htag'
    · rename_i m;cases rmx with
      | none => cases hmx
      | some vm =>
       obtain ⟨rfl, rfl, rfl, h4, hk⟩ := hk;have hvm : VR E vm (.int _ 0) := hmx;cases hvm;cases hi with
       | none => simp at h4
       | some gh => cases rhi with
        | none => cases hhi
        | some vh =>
         have hvh : VR E vh gh := hhi;cases hvh <;> simp [bound] at e2
         subst e2;have hs0 : ∀ c k y, (Instr.sliceBound (.int k 0) y c).run P w = .ok 0 w := fun c k y => by simp [Instr.sliceBound, asIntOf]
         have hlow : ∀ c c', ((match rlo with
          | some v => Instr.sliceBound v 0 (if (some (Value.int IntKind.i64 0)).isSome then c else c')
          | none => pure 0) : Sem Nat).run P w = .ok 0 w := by
          intro c c';cases lo with
          | none => cases rlo with
           | none => simp
           | some v => cases hlo
          | some gl => cases rlo with
           | none => cases hlo
           | some v =>
            have hv : VR E v gl := hlo;cases hv <;> simp [bound] at e1
            subst e1
            simpa using hs0 c _ _
         refine .same (v := .slice (if (0 : Nat) = 0 then a else a.map (·.add (0 * sz'))) 0 0) ?_ h
          (.slice _ _ _ [] .full 0 c rfl (Nat.le_refl _) (by simp) (by simp) (by simp) rfl) hk
         rw [sliceAt_slice hu];cases lo with
         | none => cases rlo with
          | none => simp [Instr.slice, run_underlying hu, Instr.sliceBounds, hs0, (tab_spec ht w).1]
          | some v => cases hlo
         | some gl => cases rlo with
          | none => cases hlo
          | some v =>
           have hv : VR E v gl := hlo;cases hv <;> simp [bound] at e1
           subst e1;simp [Instr.slice, run_underlying hu, Instr.sliceBounds, hs0, (tab_spec ht w).1]
    · exact hk.elim
  · exact hk.elim
 | own a len cap o st i l hl hcap ha =>
  simp only at hk
  split at hk
  · rename_i sz ag lo' hi' he e1 e2;obtain ⟨e, hu, ht⟩ := els_spec he;split at hk
    · rename_i st' sz' xs hO;obtain ⟨rfl, rfl, h0, h1, h2, hk⟩ := hk;cases rmx with
      | some v => cases hmx
      | none =>
       have hb := sliceBounds_run (P := P) (w := w) (isS := true) (len := len) (cap := cap) hlo hhi e1 e2 h0 h1 h2 hcap;obtain ⟨l', hl', hls, hsz, hreal⟩ := h.real _ _ hO;rw [hl] at hl'; cases hl';have hrun : (Instr.sliceAt t (.slice a len cap) rlo rhi none).run P w = .ok (.slice (if cap = lo'.toNat then a else a.map (·.add (lo'.toNat * sz))) (hi'.toNat - lo'.toNat) (cap - lo'.toNat)) w := by
        rw [sliceAt_slice hu];simp [Instr.slice, run_underlying hu, hb, (tab_spec ht w).1]
       refine .same hrun h ?_ hk;refine .own _ _ _ o st _ l hl (by omega) ?_;by_cases hcl : cap = lo'.toNat
       · left; omega
       · rcases ha with hc0 | ⟨b, hb', rfl, hfit⟩
         · left; omega
         · right;simp only [if_neg hcl, Option.map_some, add_at];refine ⟨b, hb', by rw [hls, Nat.add_mul, Nat.add_assoc], ?_⟩;have : (cap - lo'.toNat) * l.size + lo'.toNat * l.size = cap * l.size := by rw [← Nat.add_mul]; congr 1; omega
           rw [Nat.add_mul]; omega
    · exact hk.elim
  · exact hk.elim
 | str s =>
  simp only at hk
  split at hk
  · rename_i lo' hi' e1 e2;obtain ⟨hu, h0, h1, h2, hk⟩ := hk;cases rmx with
    | some v => cases hmx
    | none =>
     have hss : (⟨s.toArray⟩ : ByteArray).size = s.length := by show s.toArray.size = _; simp
     have hb := sliceBounds_run (P := P) (w := w) (isS := false) (len := s.length) (cap := s.length) hlo hhi e1 e2 h0 h1 h2 (Nat.le_refl _);refine .same (v := .string ⟨((s.take hi'.toNat).drop lo'.toNat).toArray⟩) ?_ h (.str _) hk;unfold Instr.sliceAt;simp only [Sem.run_bind, run_underlying hu, Result.andThen_ok];unfold Instr.slice;simp only [Sem.run_bind, run_underlying hu, Result.andThen_ok, Option.isSome_none, Bool.false_eq_true, if_false, hss, hb, Sem.run_pure]
     congr 2
     apply ByteArray.ext;simp [ByteArray.data_extract, List.drop_take]
  · exact hk.elim
 | ref b off cs c ha hc =>
  simp only at hk
  split at hk
  · rename_i len ag lo' he e1;obtain ⟨e, hu, ht⟩ := arr_spec he;split at hk
    · rename_i hi' e2;obtain ⟨h0, h1, h2, h3, hk⟩ := hk;cases rmx with
      | some v => cases hmx
      | none =>
       have hb := sliceBounds_run (P := P) (w := w) (isS := false) (len := len) (cap := len) hlo hhi e1 e2 h0 h1 h2 (Nat.le_refl _);have hfl : ((cs.take len).map fun c => [c]).flatten = cs.take len := by
        induction cs.take len with
        | nil => rfl
        | cons x r ih => simp [ih]
       have hv : VR E (.slice (some ⟨b, off, none⟩) len len) (.slice ((cs.take len).map fun c => [c]) .full) := by
        refine .slice _ _ _ _ _ 1 c (by simp; omega) (Nat.le_refl _) (fun x hx => by obtain ⟨y, _, rfl⟩ := List.mem_map.1 hx; rfl) (fun _ => ⟨b, off, rfl, fun j hj => ha j (by omega)⟩) (fun j g hj => ?_) rfl;rw [hfl, List.getElem?_take] at hj;split at hj
        · exact hc j g hj
        · cases hj
       refine .same (v := .slice (if len = lo'.toNat then some ⟨b, off, none⟩ else some ((⟨b, off, none⟩ : Addr).add (lo'.toNat * 1))) (hi'.toNat - lo'.toNat) (len - lo'.toNat)) ?_ h ?_ hk
       · unfold Instr.sliceAt;simp only [Sem.run_bind, run_underlying hu, Result.andThen_ok, Instr.sureAddr, Sem.run_pure, hb, (tab_spec ht w).1];split <;> rfl
       · have hval := VR.cut (b := 0) (off := 0) (sz := 1) (l := lo'.toNat) (h := hi'.toNat) (tag' := hiTag hi) hv
          (fun x hx => by obtain ⟨y, _, rfl⟩ := List.mem_map.1 hx; rfl) (by omega) (by simp; omega) (by
           cases hi with
           | none => simp [bound] at e2; simp only [TagOK, hiTag]; omega
           | some _ => trivial)
         have e3 : (if len = lo'.toNat then some (⟨b, off, none⟩ : Addr) else (some (⟨b, off, none⟩ : Addr)).map (·.add (lo'.toNat * 1))) = (if len = lo'.toNat then some ⟨b, off, none⟩ else some ((⟨b, off, none⟩ : Addr).add (lo'.toNat * 1))) := by
          split <;> rfl
         rw [← e3]; exact hval
    · exact hk.elim
  · exact hk.elim
 | _ => exact hk.elim
end
end Gv
namespace Gv
open Go
section
variable {P : Program} {E : Env} {O : List GObj} {w : World} {K : GVal → List GObj → Prop}
def notInt (P : Program) (t : TypeId) : Bool :=
 match P.underlying t with
 | some (.slice _) => true
 | some .string => true
 | _ => false
def srcV (x : GVal) (O : List GObj) (K : List (List GVal) → Prop) : Prop :=
 match x with
 | .slice ys _ => K ys
 | .own o st off len => match O[o]? with
  | some (.row st' _ xs) => st = st' ∧ off + len ≤ xs.length ∧ K ((xs.drop off).take len)
  | _ => False
 | .str b => K (b.map fun c => [GVal.int .u8 c.toNat])
 | _ => False
structure SrcOK (P : Program) (E : Env) (w : World) (rx : Value) (sz : Nat) (ys : List (List GVal)) (news : List Value) : Prop where
 len : ∀ w' : World, (Builtin.lenOf rx).run P w' = .ok ys.length w'
 cells : ∀ w' : World, w'.heap = w.heap → (Builtin.firstCells sz ys.length rx).run P w' = .ok news.toArray w'
 size : news.length = ys.length * sz
 at_ : ∀ (j : Nat) g, ys.flatten[j]? = some g → ∃ v, news[j]? = some v ∧ v.oneCell' = true ∧ VR E v g
theorem rowNews {b o n : Nat} {cur : Array Value} {el : TypeId} (hw : w.heap[b]? = some (.cells cur el (0, 0))) (hfit : o + n ≤ cur.size) {w' : World} (hh : w'.heap = w.heap) :
 (loadCells ⟨b, o, none⟩ n).run P w' = .ok ((cur.toList.drop o).take n).toArray w' := by
 have e : n = ((cur.toList.drop o).take n).length := by simp; omega
 rw [show loadCells ⟨b, o, none⟩ n = loadCells ⟨b, o, none⟩ ((cur.toList.drop o).take n).length from by rw [← e]]
 refine run_loadCells_list w' _ _ (fun j v hj => ?_)
 rw [List.getElem?_take] at hj
 split at hj
 · rw [List.getElem?_drop] at hj;simp only [add_at, World.cell?, hh, hw, Option.isSome_none, Bool.false_eq_true, if_false]
   simpa using hj
 · cases hj
theorem flat_single {α β : Type} (l : List α) (f : α → β) : (l.map fun c => [f c]).flatten = l.map f := by
 induction l with
 | nil => rfl
 | cons x r ih => simp [ih]
theorem src_sound {rx : Value} {x : GVal} {sz : Nat} {KS : List (List GVal) → Prop} (h : HSim E O w) (hx : VR E rx x) (hk : srcV x O (fun ys => (∀ y ∈ ys, y.length = sz) ∧ KS ys))
 (hstr : ∀ b, x = .str b → True) : ∃ ys news, KS ys ∧ (∀ y ∈ ys, y.length = sz) ∧ SrcOK P E w rx sz ys news := by
 unfold srcV at hk
 cases hx with
 | slice a len cap xs tag sz' c hlen hcap hsz ha hc htag =>
  simp only at hk
  obtain ⟨h1, hk⟩ := hk;by_cases hne : xs = []
  · subst hne;refine ⟨[], [], hk, h1, ⟨fun w' => by simp [Builtin.lenOf, hlen], fun w' _ => ?_, by simp, by simp⟩⟩;cases a with
    | none => simp [Builtin.firstCells]
    | some a => simp [Builtin.firstCells, loadCells, loadCellsFrom]
  · obtain ⟨b, off, rfl, hs⟩ := ha hne;have hpos : 0 < xs.length := List.length_pos_iff.2 hne;have hszz : sz' = sz := by
     have hm : xs.getD 0 [] ∈ xs := mem_getD hpos
     rw [← h1 _ hm, ← hsz _ hm]
    subst hszz;have hfl := flatten_len xs hsz;have hnews : ∀ j, j < xs.length * sz' → ((List.range (xs.length * sz')).map c)[j]? = some (c j) := by intro j hj; simp [hj]
    refine ⟨xs, (List.range (xs.length * sz')).map c, hk, h1, ⟨fun w' => by simp [Builtin.lenOf, hlen], fun w' hh => ?_, by simp, fun j g hj => ?_⟩⟩
    · simp only [Builtin.firstCells];rw [run_loadCells w' _ _ c (fun j hj => by
       rw [add_at];have := h.sealed _ _ _ (hs j (by rw [hlen]; exact hj))
       simpa [World.cell?, hh] using this)]
    · have hjl : j < xs.length * sz' := by rw [← hfl]; exact (List.getElem?_eq_some_iff.1 hj).1
      exact ⟨c j, hnews j hjl, h.one _ _ _ (hs j (by rw [hlen]; exact hjl)), hc j g hj⟩
 | own a len cap o st i l hl hcap ha =>
  simp only at hk
  split at hk
  · rename_i st' sz' xs hO;obtain ⟨rfl, hle, h1, hk⟩ := hk;obtain ⟨l', hl', hls, hsz, hreal⟩ := h.real _ _ hO;rw [hl] at hl'; cases hl';have hyl : ((xs.drop i).take len).length = len := by simp; omega
    by_cases hz : len = 0
    · subst hz;refine ⟨_, [], hk, h1, ⟨fun w' => by simp [Builtin.lenOf], fun w' _ => ?_, by simp, by simp⟩⟩;cases a with
      | none => simp [Builtin.firstCells]
      | some a => simp [Builtin.firstCells, loadCells, loadCellsFrom]
    · rcases ha with hc0 | ⟨b, hb, rfl, hfit⟩
      · omega
      · simp only [hb] at hreal;obtain ⟨cur, el, hw, hcur, htot, hrows, hsnap⟩ := hreal;have hszz : sz' = sz := by
         have hm : ((xs.drop i).take len).getD 0 [] ∈ (xs.drop i).take len := mem_getD (by omega)
         rw [← h1 _ hm, hsz _ (List.mem_of_mem_drop (List.mem_of_mem_take hm))]
        subst hszz;have e1 : l.off + i * l.size + len * sz' ≤ cur.size := by
         have : len * l.size ≤ cap * l.size := Nat.mul_le_mul_right _ hcap;rw [hls] at this hfit;rw [hcur, hls]; omega
        have hfl : ((xs.drop i).take len).flatten = (xs.flatten.drop (i * sz')).take (len * sz') := by
         rw [flatten_take (sz := sz') _ _ (fun x hx => hsz x (List.mem_of_mem_drop hx)) (by simp; omega), flatten_drop _ _ hsz (by omega)]
        refine ⟨_, ((cur.toList.drop (l.off + i * l.size)).take (len * sz')), hk, h1, ⟨fun w' => by simp [Builtin.lenOf]; omega, fun w' hh => ?_, by rw [List.length_take, hyl, List.length_drop, Array.length_toList]; omega, fun j g hj => ?_⟩⟩
        · simp only [Builtin.firstCells, hyl];exact rowNews hw e1 hh
        · rw [hfl, List.getElem?_take] at hj;split at hj
          · rename_i hjl;rw [List.getElem?_drop] at hj;obtain ⟨v, hv, ho, hr⟩ := hrows _ g hj;refine ⟨v, ?_, ho, hr⟩;rw [List.getElem?_take, if_pos hjl, List.getElem?_drop];have e : l.off + i * l.size + j = l.off + (i * sz' + j) := by rw [hls]; omega
            rw [e]; simpa using hv
          · cases hj
  · exact hk.elim
 | str s =>
  simp only at hk
  obtain ⟨h1, hk⟩ := hk;have hss : (⟨s.toArray⟩ : ByteArray).size = s.length := by show s.toArray.size = _; simp
  have hfl := flat_single s fun c => GVal.int .u8 c.toNat
  by_cases hz : s = []
  · subst hz;refine ⟨[], [], hk, by simp, ⟨fun w' => by simp [Builtin.lenOf]; rfl, fun w' _ => ?_, by simp, by simp⟩⟩;simp [Builtin.firstCells]
  · have hsz1 : sz = 1 := by
     have hm : (s.map fun c => [GVal.int .u8 c.toNat]).getD 0 [] ∈ s.map fun c => [GVal.int .u8 c.toNat] := mem_getD (by simp; exact List.length_pos_iff.2 hz)
     rw [← h1 _ hm];obtain ⟨c, _, e⟩ := List.mem_map.1 hm
     rw [← e]; rfl
    subst hsz1;refine ⟨_, s.map fun c => Value.int .u8 c.toNat, hk, h1, ⟨fun w' => by simp [Builtin.lenOf, hss], fun w' _ => ?_, by simp, fun j g hj => ?_⟩⟩
    · simp only [Builtin.firstCells, List.length_map];have : ((⟨s.toArray⟩ : ByteArray).extract 0 s.length).data = s.toArray := by
       simp [ByteArray.data_extract]
      rw [this];simp
    · rw [hfl, List.getElem?_map] at hj;cases hc : s[j]? with
      | none => simp [hc] at hj
      | some c =>
       simp [hc] at hj;subst hj;exact ⟨.int .u8 c.toNat, by simp [hc], rfl, .int _ _⟩
 | _ => exact hk.elim
theorem notInt_spec {t : TypeId} (h : notInt P t = true) : (∃ e, P.underlying t = some (.slice e)) ∨ P.underlying t = some .string := by
 unfold notInt at h
 split at h
 · rename_i e hd; exact .inl ⟨e, hd⟩
 · rename_i hd; exact .inr hd
 · cases h
theorem run_fits {sT xT ty e : TypeId} {i : TypeInfo} {rx : Value} {sz : Nat} {ys : List (List GVal)} {news : List Value} (hu : P.underlying sT = some (.slice e)) (hi : P.info? e = some i) (hsz : i.size = sz)
 (hx : notInt P xT = true) (hs : SrcOK P E w rx sz ys news) {base : Option Addr} {sLen sCap : Nat} (hfit : sLen + ys.length ≤ sCap) {w' : World}
 (hst : match base with | some a => (storeCells (a.add (sLen * sz)) news).run P w = .ok () w' | none => w' = w) :
 (Builtin.append_ #[sT, xT] ty #[.slice base sLen sCap, rx]).run P w = .ok (.slice base (sLen + ys.length) sCap) w' := by
 rcases notInt_spec hx with ⟨e', hd⟩ | hd
 all_goals
  have hc := hs.cells w rfl;cases base with
  | none => subst hst; simp [Builtin.append_, run_underlying hu, run_underlying hd, Go.sizeOf, typeInfo, hi, hsz, hs.len, hfit, hc]
  | some a =>
   simp only at hst
   simp [Builtin.append_, run_underlying hu, run_underlying hd, Go.sizeOf, typeInfo, hi, hsz, hs.len, hfit, hc, hst]
theorem run_grows {sT xT ty e : TypeId} {i : TypeInfo} {z : Value} {rx : Value} {sz : Nat} {ys : List (List GVal)} {news olds : List Value} (hu : P.underlying sT = some (.slice e)) (hi : P.info? e = some i) (hsz : i.size = sz)
 (hz : i.zero = some z) (hzs : z.cells.size = sz) (hx : notInt P xT = true) (hs : SrcOK P E w rx sz ys news) {base : Option Addr} {sLen sCap : Nat} (hgt : sCap < sLen + ys.length)
 (hold : ∀ w' : World, w'.heap = w.heap → (Builtin.firstCells sz sLen (.slice base sLen sCap)).run P w' = .ok olds.toArray w')
 (hroom : (sLen + ys.length) * i.bytes ≤ 140737488355328) (hmax : sLen + ys.length ≤ 4611686018427387904) :
 ∃ cap rest, sLen + ys.length ≤ cap ∧ rest.size = (cap - (sLen + ys.length)) * sz ∧
  (Builtin.append_ #[sT, xT] ty #[.slice base sLen sCap, rx]).run P w = .ok (.slice (some ⟨w.heap.size, 0, none⟩) (sLen + ys.length) cap) (w.drew.alloc (.cells (olds.toArray ++ news.toArray ++ rest) e)) := by
 refine ⟨grownCap w (sLen + ys.length) sCap e, Builtin.zeroCells z.cells (grownCap w (sLen + ys.length) sCap e - (sLen + ys.length)), ?_, ?_, ?_⟩
 · simp only [grownCap, Question.cut]; omega
 · simp [Builtin.zeroCells, hzs]
 · have h48 : ¬ (281474976710656 < Builtin.nextslicecap (sLen + ys.length) sCap * i.bytes) := by have := growslice_fits hgt hroom; omega
   have hn : ¬ (sLen + ys.length ≤ sCap) := by omega
   have h63' : ¬ ((9223372036854775807 : Int) < (sLen : Int) + (ys.length : Int)) := by omega
   have hc1 := hs.cells w.drew rfl;have hc2 := hold w.drew rfl;rcases notInt_spec hx with ⟨e', hd⟩ | hd <;> simp [Builtin.append_, run_underlying hu, run_underlying hd, Go.sizeOf, typeInfo, hi, hsz, hs.len, hn, h63', h48, Question.forced, hc1, hc2, zeroValue, hz, newRow, grownCap]
   all_goals (rw [← Array.append_assoc]; simp)
structure AppOK (P : Program) (E : Env) (w : World) (sT xT ty : TypeId) (e : TypeId) (by_ : Nat) (z rx : Value) (sz : Nat) (ys : List (List GVal)) (news : List Value) : Prop where
 size : news.length = ys.length * sz
 at_ : ∀ (j : Nat) g, ys.flatten[j]? = some g → ∃ v, news[j]? = some v ∧ v.oneCell' = true ∧ VR E v g
 fits : ∀ {base : Option Addr} {sLen sCap : Nat} {w' : World}, sLen + ys.length ≤ sCap → (match base with | some a => (storeCells (a.add (sLen * sz)) news).run P w = .ok () w' | none => w' = w) →
  (Builtin.append_ #[sT, xT] ty #[.slice base sLen sCap, rx]).run P w = .ok (.slice base (sLen + ys.length) sCap) w'
 grows : ∀ {base : Option Addr} {sLen sCap : Nat} {olds : List Value}, sCap < sLen + ys.length → (∀ w' : World, w'.heap = w.heap → (Builtin.firstCells sz sLen (.slice base sLen sCap)).run P w' = .ok olds.toArray w') →
  (sLen + ys.length) * by_ ≤ 140737488355328 → sLen + ys.length ≤ 4611686018427387904 →
  ∃ cap rest, sLen + ys.length ≤ cap ∧ rest.size = (cap - (sLen + ys.length)) * sz ∧
   (Builtin.append_ #[sT, xT] ty #[.slice base sLen sCap, rx]).run P w = .ok (.slice (some ⟨w.heap.size, 0, none⟩) (sLen + ys.length) cap) (w.drew.alloc (.cells (olds.toArray ++ news.toArray ++ rest) e))
theorem SrcOK.app {sT xT ty e : TypeId} {i : TypeInfo} {z rx : Value} {sz : Nat} {ys : List (List GVal)} {news : List Value} (hs : SrcOK P E w rx sz ys news) (hu : P.underlying sT = some (.slice e)) (hi : P.info? e = some i) (hsz : i.size = sz)
 (hz : i.zero = some z) (hzs : z.cells.size = sz) (hx : notInt P xT = true) : AppOK P E w sT xT ty e i.bytes z rx sz ys news :=
 ⟨hs.size, hs.at_, fun h1 h2 => run_fits hu hi hsz hx hs h1 h2, fun h1 h2 h3 h4 => run_grows hu hi hsz hz hzs hx hs h1 h2 h3 h4⟩
theorem zeros_app {sT xT ty e : TypeId} {i : TypeInfo} {z : Value} {sz : Nat} {q : IntKind} {n : Int} {cs : List GVal} (hu : P.underlying sT = some (.slice e)) (hi : P.info? e = some i) (hsz : i.size = sz)
 (hz : i.zero = some z) (hzs : z.cells.size = sz) (hcs : cs = z.cells.toList.map .ofConst) (hso : ∀ c ∈ cs, c.solid = true) (hx : P.underlying xT = some (.int q)) (h0 : 0 ≤ n) (hn : n ≤ 4611686018427387904) (hby : n * i.bytes ≤ 281474976710656) :
 AppOK P E w sT xT ty e i.bytes z (.int .i64 n) sz (List.replicate n.toNat cs) (List.replicate n.toNat z.cells.toList).flatten := by
 have hlen : (List.replicate n.toNat cs).length = n.toNat := by simp
 have hnews : (List.replicate n.toNat z.cells.toList).flatten.length = n.toNat * sz := by simp [hzs]
 have hwrap : IntKind.i64.wrap n = n := IntWalk.i64_in n (by omega)
 have hneg : ¬ n < 0 := by omega
 have h48 : ¬ (281474976710656 < n * (i.bytes : Int)) := by omega
 have hzc : Builtin.zeroCells z.cells n.toNat = (List.replicate n.toNat z.cells.toList).flatten.toArray := by
  apply Array.ext';rw [Builtin.zeroCells, flat_replicate]
 have hnil : n.toNat * sz = 0 → (List.replicate n.toNat z.cells.toList).flatten = [] := fun h => List.length_eq_zero_iff.1 (by rw [hnews]; exact h)
 refine ⟨by rw [hnews, hlen], fun j g hj => ?_, fun {base sLen sCap w'} hfit hst => ?_, fun {base sLen sCap olds} hgt hold hroom hmax => ?_⟩
 · have e1 : (List.replicate n.toNat cs).flatten = (List.replicate n.toNat z.cells.toList).flatten.map .ofConst := by
    rw [hcs, List.map_flatten, List.map_replicate]
   have hmem : g ∈ cs := by
    have := List.mem_of_getElem? hj;obtain ⟨l, hl, hg⟩ := List.mem_flatten.1 this;rw [List.eq_of_mem_replicate hl] at hg; exact hg
   rw [e1, List.getElem?_map] at hj;cases hv : (List.replicate n.toNat z.cells.toList).flatten[j]? with
   | none => rw [hv] at hj; cases hj
   | some v =>
    rw [hv] at hj;simp only [Option.map_some, Option.some.injEq] at hj;have hr := VR.ofConst E v;rw [hj] at hr;exact ⟨v, rfl, hr.one (hso g hmem), hr⟩
 · rw [hlen] at hfit ⊢;by_cases hns : n.toNat * sz = 0
   · rw [hnil hns] at hst;cases base with
     | none => subst hst; simp only [Builtin.append_]; simp [run_underlying hu, run_underlying hx, Go.sizeOf, typeInfo, hi, hsz, asInt, asIntOf, hwrap, hneg, h48, hfit, hns]
     | some a =>
      simp only at hst
      simp only [Builtin.append_];simp [run_underlying hu, run_underlying hx, Go.sizeOf, typeInfo, hi, hsz, asInt, asIntOf, hwrap, hneg, h48, hfit, hns, hst]
   · cases base with
     | none => subst hst; simp only [Builtin.append_]; simp [run_underlying hu, run_underlying hx, Go.sizeOf, typeInfo, hi, asInt, asIntOf, hwrap, hneg, h48, hfit, zeroValue, hz]
     | some a =>
      simp only at hst
      simp only [Builtin.append_];simp [run_underlying hu, run_underlying hx, Go.sizeOf, typeInfo, hi, hsz, asInt, asIntOf, hwrap, hneg, h48, hfit, hns, zeroValue, hz, hzc, hst]
 · rw [hlen] at hgt hroom hmax ⊢;refine ⟨grownCap w (sLen + n.toNat) sCap e, Builtin.zeroCells z.cells (grownCap w (sLen + n.toNat) sCap e - (sLen + n.toNat)), ?_, ?_, ?_⟩
   · simp only [grownCap, Question.cut]; omega
   · simp [Builtin.zeroCells, hzs]
   · have h48' : ¬ (281474976710656 < Builtin.nextslicecap (sLen + n.toNat) sCap * i.bytes) := by have := growslice_fits hgt hroom; omega
     have hnf : ¬ (sLen + n.toNat ≤ sCap) := by omega
     have h63' : ¬ ((9223372036854775807 : Int) < (sLen : Int) + (n.toNat : Int)) := by omega
     have h63'' : ¬ ((9223372036854775807 : Int) < (sLen : Int) + max n 0) := by omega
     have hc2 := hold w.drew rfl;by_cases hns : n.toNat * sz = 0
     · rw [hnil hns];simp only [Builtin.append_];simp [run_underlying hu, run_underlying hx, Go.sizeOf, typeInfo, hi, hsz, asInt, asIntOf, hwrap, hneg, h48, hnf, h63'', h48', Question.forced, hc2, zeroValue, hz, newRow, grownCap, hns]
     · simp only [Builtin.append_];simp [run_underlying hu, run_underlying hx, Go.sizeOf, typeInfo, hi, hsz, asInt, asIntOf, hwrap, hneg, h48, hnf, h63'', h48', Question.forced, hc2, zeroValue, hz, newRow, grownCap, hns, hzc]
       rw [← Array.append_assoc]; simp
def asrcV (P : Program) (xT : TypeId) (by_ : Nat) (cs : List GVal) (x : GVal) (O : List GObj) (K : List (List GVal) → Prop) : Prop :=
 match notInt P xT with
 | true => srcV x O K
 | false => (match P.underlying xT with | some (.int _) => true | _ => false) = true ∧ (∀ c ∈ cs, c.solid = true) ∧ match x with
  | .int .i64 n => 0 ≤ n ∧ n ≤ 4611686018427387904 ∧ n * by_ ≤ 281474976710656 ∧ K (List.replicate n.toNat cs)
  | _ => False
theorem asrc_sound {sT xT ty e : TypeId} {i : TypeInfo} {z rx : Value} {x : GVal} {sz : Nat} {cs : List GVal} {KS : List (List GVal) → Prop} (h : HSim E O w) (hu : P.underlying sT = some (.slice e)) (hi : P.info? e = some i) (hsz : i.size = sz)
 (hz : i.zero = some z) (hzs : z.cells.size = sz) (hcs : cs = z.cells.toList.map .ofConst) (hx : VR E rx x) (hk : asrcV P xT i.bytes cs x O (fun ys => (∀ y ∈ ys, y.length = sz) ∧ KS ys)) :
 ∃ ys news, KS ys ∧ (∀ y ∈ ys, y.length = sz) ∧ ∀ w' : World, w'.heap = w.heap → AppOK P E w' sT xT ty e i.bytes z rx sz ys news := by
 unfold asrcV at hk
 split at hk
 · rename_i hni;obtain ⟨ys, news, h1, h2, h3⟩ := src_sound (P := P) h hx hk (fun _ _ => trivial);exact ⟨ys, news, h1, h2, fun w' hw => SrcOK.app ⟨h3.len, fun w2 h => h3.cells w2 (h.trans hw), h3.size, h3.at_⟩ hu hi hsz hz hzs hni⟩
 · obtain ⟨hq, hso, hk⟩ := hk;split at hq
   · rename_i q hxT;split at hk
     · rename_i n;obtain ⟨h0, hn, hb, h1, h2⟩ := hk;have hrx : rx = .int .i64 n := by cases hx; rfl
       subst hrx;exact ⟨_, _, h2, h1, fun w' _ => zeros_app hu hi hsz hz hzs hcs hso hxT h0 hn hb⟩
     · exact hk.elim
   · cases hq
end
end Gv
namespace Gv
open Go
section
variable {P : Program} {E : Env} {O : List GObj} {w : World} {K : GVal → List GObj → Prop}
def appendV (P : Program) (ow : Bool) (sT xT : TypeId) (s x : GVal) (O : List GObj) (K : GVal → List GObj → Prop) : Prop :=
 match elt P sT with
 | some (sz, by_, cs) => asrcV P xT by_ cs x O (fun ys => (∀ y ∈ ys, y.length = sz) ∧ match s with
  | .slice xs tag => (∀ y ∈ xs, y.length = sz) ∧ (xs.length + ys.length) * by_ ≤ 140737488355328 ∧ xs.length + ys.length ≤ 4611686018427387904 ∧ match tag.cap with
   | .full => match ow with
    | false => stamp O fun st => K (.slice (xs ++ ys) (.tok O.length st)) (tickO O ++ [.tok st sz])
    | true => (ys ≠ [] ∨ xs = []) ∧ stamp O fun st => K (.own O.length st 0 (xs.length + ys.length)) (tickO O ++ [.row st sz (xs ++ ys)])
   | .tok o st => match O[o]? with
    | some (.tok st' sz') => st = st' ∧ sz = sz' ∧ stamp O fun st2 => K (.slice (xs ++ ys) (.tok o st2)) ((tickO O).set o (.tok st2 sz))
    | _ => False
   | _ => False
  | .own o st off len => match O[o]? with
   | some (.row st' sz' xs) => st = st' ∧ sz = sz' ∧ off + len ≤ xs.length ∧ (len + ys.length) * by_ ≤ 140737488355328 ∧ len + ys.length ≤ 4611686018427387904 ∧
    stamp O fun st2 => K (.own o st2 0 (len + ys.length)) ((tickO O).set o (.row st2 sz ((xs.drop off).take len ++ ys)))
   | _ => False
  | _ => False)
 | none => False
theorem HSim.objNil (h : HSim E O w) (obj : GObj) {st : Nat} {l : GLoc} (hst : E.loc st = none) (hnx : Next' O st) (hnc : obj.isClock = false) (hr : Realized (E.addLoc st l) w obj) (hblk : obj.blk (E.addLoc st l) = none) :
 HSim (E.addLoc st l) (O ++ [obj]) w ∧ Keep E O w (E.addLoc st l) (O ++ [obj]) w := by
 have hle := Env.addLoc_le l hst
 have split : ∀ (i : Nat) x, (O ++ [obj])[i]? = some x → (i < O.length ∧ O[i]? = some x) ∨ x = obj := by
  intro i x hx;by_cases hi : i < O.length
  · rw [List.getElem?_append_left hi] at hx; exact .inl ⟨hi, hx⟩
  · rw [List.getElem?_append_right (by omega)] at hx;right;cases hk : i - O.length with
    | zero => rw [hk] at hx; simpa using hx.symm
    | succ k => rw [hk] at hx; simp at hx
 refine h.gen hle ((Env.addLoc_fin h.fin hnx).app hnc) rfl ⟨rfl, trivial⟩ (Nat.le_refl _) (fun _ => False) (fun _ hf => hf.elim) (fun _ _ _ => rfl) (fun _ _ _ hv => .inl hv) (fun _ _ _ hf _ => hf.elim)
  (fun i x hx => ?_) (fun _ _ _ _ _ _ _ _ _ _ hf => hf.elim)
 rcases split i x hx with ⟨_, h1⟩ | rfl
 · exact .inl ⟨h1, fun _ _ hf => hf.elim⟩
 · exact .inr ⟨hr, fun b hb => by rw [hblk] at hb; cases hb⟩
def Env.sealMore (E : Env) (b off : Nat) (news : List Value) : Env := { E with snap := fun k o => if k = b ∧ off ≤ o ∧ o < off + news.length then news[o - off]? else E.snap k o }
theorem Env.addLoc_snap (E : Env) (st : Nat) (l : GLoc) : (E.addLoc st l).snap = E.snap := rfl
theorem sliceCells {a : Option Addr} {len cap sz : Nat} {xs : List (List GVal)} {tag : Tag} (h : HSim E O w) (hv : VR E (.slice a len cap) (.slice xs tag)) (hsz : ∀ x ∈ xs, x.length = sz) :
 ∃ olds : List Value, olds.length = len * sz ∧ (∀ w' : World, w'.heap = w.heap → (Builtin.firstCells sz len (.slice a len cap)).run P w' = .ok olds.toArray w') ∧
  (∀ (j : Nat) v, olds[j]? = some v → v.oneCell' = true) ∧ (∀ (j : Nat) g, xs.flatten[j]? = some g → ∃ v, olds[j]? = some v ∧ VR E v g) ∧
  (xs ≠ [] → ∀ b off, a = some ⟨b, off, none⟩ → ∀ (j : Nat) v, olds[j]? = some v → E.snap b (off + j) = some v) := by
 cases hv with
 | slice a len cap xs tag sz' c hlen hcap hsz' ha hc htag =>
  by_cases hne : xs = []
  · subst hne;simp at hlen; subst hlen;refine ⟨[], by simp, fun w' _ => ?_, by simp, by simp, fun h => absurd rfl h⟩;cases a with
    | none => simp [Builtin.firstCells]
    | some a => simp [Builtin.firstCells, loadCells, loadCellsFrom]
  · obtain ⟨b, off, rfl, hs⟩ := ha hne;have hpos : 0 < xs.length := List.length_pos_iff.2 hne;have hszz : sz' = sz := by
     have hm : xs.getD 0 [] ∈ xs := mem_getD hpos
     rw [← hsz _ hm, ← hsz' _ hm]
    subst hszz;have hfl := flatten_len xs hsz;have hat : ∀ (j : Nat) v, ((List.range (len * sz')).map c)[j]? = some v → j < len * sz' ∧ v = c j := by
     intro j v hj;have hlt : j < len * sz' := by simpa using (List.getElem?_eq_some_iff.1 hj).1
     simp [hlt] at hj; exact ⟨hlt, hj.symm⟩
    refine ⟨(List.range (len * sz')).map c, by simp, fun w' hh => ?_, fun j v hj => ?_, fun j g hj => ?_, fun _ b' off' e j v hj => ?_⟩
    · simp only [Builtin.firstCells];rw [run_loadCells w' _ _ c (fun j hj => by
       rw [add_at];have := h.sealed _ _ _ (hs j hj)
       simpa [World.cell?, hh] using this)]
    · obtain ⟨hlt, rfl⟩ := hat j v hj; exact h.one _ _ _ (hs j hlt)
    · have hjl : j < len * sz' := by rw [hlen, ← hfl]; exact (List.getElem?_eq_some_iff.1 hj).1
      exact ⟨c j, by simp [hjl], hc j g hj⟩
    · cases e;obtain ⟨hlt, rfl⟩ := hat j v hj; exact hs j hlt
theorem flat_append_at {xs ys : List (List GVal)} {n sz : Nat} (hx : ∀ x ∈ xs, x.length = sz) (hn : xs.length * sz = n) (j : Nat) (g : GVal) (h : (xs ++ ys).flatten[j]? = some g) :
 (j < n ∧ xs.flatten[j]? = some g) ∨ (n ≤ j ∧ ys.flatten[j - n]? = some g) := by
 have hl := flatten_len xs hx
 rw [List.flatten_append] at h
 by_cases hj : j < n
 · rw [List.getElem?_append_left (by omega)] at h; exact .inl ⟨hj, h⟩
 · rw [List.getElem?_append_right (by omega)] at h;exact .inr ⟨by omega, by rw [hl, hn] at h; exact h⟩
theorem grown_tok {xs ys : List (List GVal)} {sz len cap : Nat} {olds news : List Value} {rest : Array Value} {e : TypeId} {st : Nat} {O' : List GObj} (h : HSim E O w) (hst : E.loc st = none) (hnx : Next' O st)
 (hlen : len = xs.length) (hxs : ∀ x ∈ xs, x.length = sz) (hys : ∀ y ∈ ys, y.length = sz) (ho : olds.length = len * sz) (hn : news.length = ys.length * sz)
 (ho1 : ∀ (j : Nat) v, olds[j]? = some v → v.oneCell' = true) (hor : ∀ (j : Nat) g, xs.flatten[j]? = some g → ∃ v, olds[j]? = some v ∧ VR E v g)
 (hnr : ∀ (j : Nat) g, ys.flatten[j]? = some g → ∃ v, news[j]? = some v ∧ v.oneCell' = true ∧ VR E v g)
 (hcap : len + ys.length ≤ cap) (hrest : rest.size = (cap - (len + ys.length)) * sz) (o : Nat)
 (hO' : (O' = O ++ [.tok st sz] ∧ o = O.length) ∨ (O' = O.set o (.tok st sz) ∧ ∃ obj, O[o]? = some obj ∧ obj.isClock = false)) :
 ∃ E', HSim E' O' (w.drew.alloc (.cells (olds.toArray ++ news.toArray ++ rest) e)) ∧ Keep E O w E' O' (w.drew.alloc (.cells (olds.toArray ++ news.toArray ++ rest) e)) ∧
  VR E' (.slice (some ⟨w.heap.size, 0, none⟩) (len + ys.length) cap) (.slice (xs ++ ys) (.tok o st)) := by
 let cells : Array Value := olds.toArray ++ news.toArray ++ rest
 let n := (len + ys.length) * sz
 let l : GLoc := ⟨some w.heap.size, n, sz, cap * sz⟩
 let E1 : Env := (E.sealTo w.heap.size n cells).addLoc st l
 have hn' : n = olds.length + news.length := by show (len + ys.length) * sz = _; rw [ho, hn, Nat.add_mul]
 have hcs : cells.size = cap * sz := by
  show (olds.toArray ++ news.toArray ++ rest).size = _;simp only [Array.size_append, List.size_toArray, hrest, ho, hn, ← Nat.add_mul]
  congr 1; omega
 have hcell : ∀ j, j < n → cells[j]? = (olds ++ news)[j]? := by
  intro j hj;show (olds.toArray ++ news.toArray ++ rest)[j]? = _;rw [Array.getElem?_append_left (by simp; omega)];simp
 have hone : ∀ (j : Nat) v, (olds ++ news)[j]? = some v → v.oneCell' = true := by
  intro j v hj;by_cases hjo : j < olds.length
  · rw [List.getElem?_append_left hjo] at hj; exact ho1 j v hj
  · rw [List.getElem?_append_right (by omega)] at hj;have hlt : j - olds.length < ys.flatten.length := by rw [flatten_len ys hys, ← hn]; exact (List.getElem?_eq_some_iff.1 hj).1
    obtain ⟨v', hv', h1, _⟩ := hnr (j - olds.length) ys.flatten[j - olds.length] (by simp);rw [hj] at hv'; cases hv'; exact h1
 have hle : E.le E1 := by
  refine ⟨fun b o v hv => ?_, fun s l' hs => ?_⟩
  · show (if b = w.heap.size then (if o < n then cells[o]? else none) else E.snap b o) = some v;rw [if_neg (by have := h.lt hv; omega)]; exact hv
  · show (if s = st then some l else E.loc s) = some l';split
    · rename_i e; subst e; rw [hst] at hs; cases hs
    · exact hs
 have hfin : Fin' E1 O := Env.addLoc_fin (E := E.sealTo w.heap.size n cells) h.fin hnx
 have hl : E1.loc st = some l := Env.addLoc_self _ _ _
 have hnew : (w.drew.alloc (.cells cells e)).heap[w.heap.size]? = some (.cells cells e) := alloc_new w.drew _
 have hreal : Realized E1 (w.drew.alloc (.cells cells e)) (.tok st sz) :=
  ⟨l, hl, rfl, cells, e, hnew, hcs, fun o ho' => by
   show (if w.heap.size = w.heap.size then (if o < n then cells[o]? else none) else E.snap w.heap.size o) = none;rw [if_pos rfl, if_neg (by have : n ≤ o := ho'; omega)]⟩
 have hblk : (GObj.tok st sz).blk E1 = some w.heap.size := by simp [GObj.blk, hl, l]
 have hheap : ∀ k, k < w.heap.size → k ≠ w.heap.size → (w.drew.alloc (.cells cells e)).heap[k]? = w.heap[k]? := fun k hk _ => alloc_old w.drew _ k hk
 have hsnap : ∀ k o v, k ≠ w.heap.size → E1.snap k o = some v → E.snap k o = some v := fun k o v hk hv => by
  have hv' : (if k = w.heap.size then (if o < n then cells[o]? else none) else E.snap k o) = some v := hv
  rwa [if_neg hk] at hv'
 have hcl : ∀ o v, E1.snap w.heap.size o = some v → (w.drew.alloc (.cells cells e)).cell? ⟨w.heap.size, o, none⟩ = some v ∧ v.oneCell' = true := fun o v hv => by
  have hv' : (if w.heap.size = w.heap.size then (if o < n then cells[o]? else none) else E.snap w.heap.size o) = some v := hv;rw [if_pos rfl] at hv';split at hv'
  · rename_i hon;refine ⟨by simp only [World.cell?, hnew]; simpa using hv', ?_⟩;rw [hcell o hon] at hv'; exact hone o v hv'
  · cases hv'
 have hVR : VR E1 (.slice (some ⟨w.heap.size, 0, none⟩) (len + ys.length) cap) (.slice (xs ++ ys) (.tok o st)) := by
  refine .slice _ _ _ _ _ sz (fun j => cells.getD j (.tuple #[])) (by simp [hlen]) hcap (fun x hx => (List.mem_append.1 hx).elim (hxs x) (hys x)) (fun _ => ⟨w.heap.size, 0, rfl, fun j hj => ?_⟩) (fun j g hj => ?_) ?_
  · show (if w.heap.size = w.heap.size then (if 0 + j < n then cells[0 + j]? else none) else _) = _;have hjc : j < cells.size := by
     have : n ≤ cap * sz := Nat.mul_le_mul_right _ hcap;rw [hcs]; exact Nat.lt_of_lt_of_le hj this
    rw [if_pos rfl, Nat.zero_add, if_pos hj];simp [Array.getD, hjc]
  · have hex : ∃ v, (olds ++ news)[j]? = some v ∧ VR E v g ∧ j < n := by
     rcases flat_append_at hxs (by rw [← hlen, ← ho]) j g hj with ⟨h1, h2⟩ | ⟨h1, h2⟩
     · obtain ⟨v, hv, hr⟩ := hor j g h2;exact ⟨v, by rw [List.getElem?_append_left h1]; exact hv, hr, by omega⟩
     · obtain ⟨v, hv, _, hr⟩ := hnr _ g h2;have := (List.getElem?_eq_some_iff.1 hv).1;exact ⟨v, by rw [List.getElem?_append_right h1]; exact hv, hr, by omega⟩
    obtain ⟨v, hv, hr, hjn⟩ := hex;have e : cells.getD j (.tuple #[]) = v := by simp [Array.getD_eq_getD_getElem?, hcell j hjn, hv]
    rw [e]; exact hr.mono hle
  · refine ⟨l, hl, .inr ⟨w.heap.size, 0, rfl, rfl, ?_, ?_⟩⟩
    · show n = 0 + (len + ys.length) * sz; omega
    · show 0 + cap * sz ≤ cap * sz; omega
 have hgen : HSim E1 O' (w.drew.alloc (.cells cells e)) ∧ Keep E O w E1 O' (w.drew.alloc (.cells cells e)) := by
  rcases hO' with ⟨rfl, rfl⟩ | ⟨rfl, obj, hobj, hobjc⟩
  · have hd : ∀ (i : Nat) x, (O ++ [GObj.tok st sz])[i]? = some x → (i < O.length ∧ O[i]? = some x) ∨ (i = O.length ∧ x = .tok st sz) := by
     intro i x hx;by_cases hi : i < O.length
     · rw [List.getElem?_append_left hi] at hx; exact .inl ⟨hi, hx⟩
     · rw [List.getElem?_append_right (by omega)] at hx;right;cases hk : i - O.length with
       | zero => rw [hk] at hx; exact ⟨by omega, by simpa using hx.symm⟩
       | succ k => rw [hk] at hx; simp at hx
    have hold : ∀ (i : Nat) x, O[i]? = some x → x.blk E1 ≠ some w.heap.size := fun i x hx hb => by
     rw [GObj.blk_mono hle (h.real i x hx)] at hb;have := (h.real i x hx).blk_lt hb; omega
    refine h.gen hle (hfin.app rfl) rfl ⟨rfl, trivial⟩ (by show w.heap.size ≤ (w.heap.push _).size; simp) (fun k => k = w.heap.size) (fun b hb => .inr (by omega)) (fun k hk hk' => hheap k hk hk') (fun k o v hv => ?_) (fun k o v hk hv => by subst hk; exact hcl o v hv) (fun i x hx => ?_) (fun i j oi oj b hij hi hj hbi hbj hb => ?_)
    · by_cases e : k = w.heap.size
      · exact .inr e
      · exact .inl (hsnap k o v e hv)
    · rcases hd i x hx with ⟨_, h1⟩ | ⟨_, rfl⟩
      · exact .inl ⟨h1, fun b hb e => by have := (h.real i x h1).blk_lt hb; omega⟩
      · exact .inr ⟨hreal, fun b hb => by rw [hblk] at hb; exact (Option.some.inj hb).symm⟩
    · subst hb;rcases hd i oi hi with ⟨_, h1⟩ | ⟨hi', rfl⟩
      · exact hold i oi h1 hbi
      · rcases hd j oj hj with ⟨_, h1⟩ | ⟨hj', rfl⟩
        · exact hold j oj h1 hbj
        · omega
  · exact h.upd (b := w.heap.size) (t := w.heap.size) hobj (.inr (Nat.le_refl _)) (.inl rfl) hle hfin ⟨hobjc, rfl⟩ rfl ⟨rfl, trivial⟩ (by show w.heap.size ≤ (w.heap.push _).size; simp) (fun k hk hk' => hheap k hk hk') hsnap hcl hreal
     (fun k hk => by rw [hblk] at hk; exact (Option.some.inj hk).symm)
 exact ⟨E1, hgen.1, hgen.2, hVR⟩
theorem grown_row {xs ys : List (List GVal)} {sz len cap : Nat} {olds news : List Value} {rest : Array Value} {e : TypeId} {st : Nat} {O' : List GObj} (h : HSim E O w) (hst : E.loc st = none) (hnx : Next' O st)
 (hlen : len = xs.length) (hxs : ∀ x ∈ xs, x.length = sz) (hys : ∀ y ∈ ys, y.length = sz) (ho : olds.length = len * sz) (hn : news.length = ys.length * sz)
 (hor : ∀ (j : Nat) g, xs.flatten[j]? = some g → ∃ v, olds[j]? = some v ∧ v.oneCell' = true ∧ VR E v g)
 (hnr : ∀ (j : Nat) g, ys.flatten[j]? = some g → ∃ v, news[j]? = some v ∧ v.oneCell' = true ∧ VR E v g)
 (hcap : len + ys.length ≤ cap) (hrest : rest.size = (cap - (len + ys.length)) * sz) (o : Nat)
 (hO' : (O' = O ++ [.row st sz (xs ++ ys)] ∧ o = O.length) ∨ (O' = O.set o (.row st sz (xs ++ ys)) ∧ ∃ obj, O[o]? = some obj ∧ obj.isClock = false)) :
 ∃ E', HSim E' O' (w.drew.alloc (.cells (olds.toArray ++ news.toArray ++ rest) e)) ∧ Keep E O w E' O' (w.drew.alloc (.cells (olds.toArray ++ news.toArray ++ rest) e)) ∧
  VR E' (.slice (some ⟨w.heap.size, 0, none⟩) (len + ys.length) cap) (.own o st 0 (len + ys.length)) := by
 let cells : Array Value := olds.toArray ++ news.toArray ++ rest
 let l : GLoc := ⟨some w.heap.size, 0, sz, cap * sz⟩
 let E1 : Env := E.addLoc st l
 have hcs : cells.size = cap * sz := by
  show (olds.toArray ++ news.toArray ++ rest).size = _;simp only [Array.size_append, List.size_toArray, hrest, ho, hn, ← Nat.add_mul]
  congr 1; omega
 have hsum : olds.length + news.length = (len + ys.length) * sz := by rw [ho, hn, Nat.add_mul]
 have hcell : ∀ j, j < olds.length + news.length → cells[j]? = (olds ++ news)[j]? := by
  intro j hj;show (olds.toArray ++ news.toArray ++ rest)[j]? = _;rw [Array.getElem?_append_left (by simp; omega)];simp
 have hle : E.le E1 := Env.addLoc_le l hst
 have hl : E1.loc st = some l := Env.addLoc_self _ _ _
 have hnew : (w.drew.alloc (.cells cells e)).heap[w.heap.size]? = some (.cells cells e) := alloc_new w.drew _
 have hsz : ∀ x ∈ xs ++ ys, x.length = sz := fun x hx => (List.mem_append.1 hx).elim (hxs x) (hys x)
 have hreal : Realized E1 (w.drew.alloc (.cells cells e)) (.row st sz (xs ++ ys)) := by
  refine ⟨l, hl, rfl, hsz, cells, e, hnew, hcs, ?_, fun j g hj => ?_, fun o => h.snap_new (Nat.le_refl _)⟩
  · show 0 + (xs ++ ys).length * sz ≤ cap * sz;rw [Nat.zero_add, List.length_append, ← hlen];exact Nat.mul_le_mul_right _ hcap
  · show ∃ v, cells[0 + j]? = some v ∧ _;rw [Nat.zero_add];rcases flat_append_at hxs (by rw [← hlen, ← ho]) j g hj with ⟨h1, h2⟩ | ⟨h1, h2⟩
    · obtain ⟨v, hv, h3, hr⟩ := hor j g h2;exact ⟨v, by rw [hcell j (by omega), List.getElem?_append_left h1]; exact hv, h3, hr.mono hle⟩
    · obtain ⟨v, hv, h3, hr⟩ := hnr _ g h2;have := (List.getElem?_eq_some_iff.1 hv).1;exact ⟨v, by rw [hcell j (by omega), List.getElem?_append_right h1]; exact hv, h3, hr.mono hle⟩
 have hblk : (GObj.row st sz (xs ++ ys)).blk E1 = some w.heap.size := by simp [GObj.blk, hl, l]
 have hVR : VR E1 (.slice (some ⟨w.heap.size, 0, none⟩) (len + ys.length) cap) (.own o st 0 (len + ys.length)) :=
  .own _ _ _ o st 0 l hl hcap (.inr ⟨w.heap.size, rfl, by simp [l], by show 0 + 0 * sz + cap * sz ≤ cap * sz; omega⟩)
 have hd : HSim E O w.drew := h.of_heap rfl
 have kd : Keep E O w E O w.drew := Keep.of_heap rfl rfl rfl
 rcases hO' with ⟨rfl, rfl⟩ | ⟨rfl, obj, hobj, hobjc⟩
 · obtain ⟨h1, h2⟩ := hd.objNew (.cells cells e) (.row st sz (xs ++ ys)) (l := l) hst hnx rfl trivial rfl hreal hblk;exact ⟨E1, h1, kd.trans h2, hVR⟩
 · obtain ⟨h1, h2⟩ := h.upd (b := w.heap.size) (t := w.heap.size) (E' := E1) (w' := w.drew.alloc (.cells cells e)) (obj' := .row st sz (xs ++ ys)) hobj (.inr (Nat.le_refl _)) (.inl rfl) hle (Env.addLoc_fin h.fin hnx) ⟨hobjc, rfl⟩ rfl ⟨rfl, trivial⟩
    (by show w.heap.size ≤ (w.heap.push _).size; simp) (fun k hk hk' => alloc_old w.drew _ k hk) (fun _ _ _ _ hv => hv)
    (fun o v hv => by have := h.snap_new (b := w.heap.size) (o := o) (Nat.le_refl _); have hv' : E.snap w.heap.size o = some v := hv; rw [this] at hv'; cases hv') hreal
    (fun k hk => by rw [hblk] at hk; exact (Option.some.inj hk).symm)
   exact ⟨E1, h1, h2, hVR⟩
theorem append_sound {ow : Bool} {sT xT ty : TypeId} {rs rx : Value} {s x : GVal} (h : HSim E O w) (hs : VR E rs s) (hx : VR E rx x) (hk : appendV P ow sT xT s x O K) :
    SOK P (Builtin.append_ #[sT, xT] ty #[rs, rx]) E O w K := by
  unfold appendV at hk;cases he : elt P sT with
  | none => simp [he] at hk
  | some q =>
    obtain ⟨sz, by_, zs⟩ := q;simp only [he] at hk;obtain ⟨e, i, z, hu, hi, hsz, hby, hzz, hzc, hzs⟩ := elt_spec he;obtain ⟨ys, news, hk, hys, happ⟩ := asrc_sound (P := P) (sT := sT) (xT := xT) (ty := ty) h hu hi hsz hzz hzs hzc hx (by rw [hby]; exact hk);have hsrc := happ w rfl;have hn1 : ∀ v ∈ news, v.oneCell' = true := by
      intro v hv;obtain ⟨j, hj, rfl⟩ := List.mem_iff_getElem.1 hv;have hlt : j < ys.flatten.length := by rw [flatten_len ys hys, ← hsrc.size]; exact hj
      obtain ⟨v', hv', h1, _⟩ := hsrc.at_ j ys.flatten[j] (by simp);have : news[j]? = some news[j] := by simp
      rw [this] at hv'; cases hv'; exact h1
    cases hs with
    | slice a len cap xs tag sz' c hlen hcap hsz' ha hc htag =>
      simp only at hk
      obtain ⟨hxs, hroom, hmax, hk⟩ := hk;have htag := htag.cap hcap;generalize tag.cap = tag at htag hk;have hv : VR E (.slice a len cap) (.slice xs tag) := .slice a len cap xs tag sz' c hlen hcap hsz' ha hc htag;obtain ⟨olds, ho1, ho2, ho3, ho4, ho5⟩ := sliceCells (P := P) h hv hxs;cases tag with
      | none => exact hk.elim
      | nil => exact hk.elim
      | full =>
        have hcl : cap = len := htag;cases ow with
        | true =>
          obtain ⟨hys0, hk⟩ := hk;obtain ⟨st, hk, hst, hnx, h, hkeep⟩ := h.stamp hk
          rw [← tickO_len O] at hk;by_cases hfit : len + ys.length ≤ cap
          · have hy0 : ys.length = 0 := by omega
            have hynil : ys = [] := List.length_eq_zero_iff.1 hy0;have hxnil : xs = [] := hys0.resolve_left (fun hh => hh hynil);have hnn : news = [] := List.length_eq_zero_iff.1 (by rw [hsrc.size, hy0]; simp);have hrun := hsrc.fits (w' := w) (base := a) hfit (by cases a <;> simp [hnn, storeCells]);subst hynil; subst hxnil;simp only [List.length_nil, Nat.add_zero, List.append_nil] at hk hlen hrun;obtain ⟨h1, h2⟩ := h.objNil (.row st sz []) (l := ⟨none, 0, sz, 0⟩) hst hnx rfl ⟨_, Env.addLoc_self _ _ _, rfl, by simp, rfl⟩ (by simp [GObj.blk, Env.addLoc_self]);refine ⟨_, w, _, _, _, hrun, h1, hkeep.trans h2, ?_, hk⟩;rw [hlen];exact .own _ _ _ _ st 0 _ (Env.addLoc_self _ _ _) (Nat.zero_le _) (.inl (by rw [hcl, hlen]))
          · obtain ⟨cap', rest, hc', hr', hrun⟩ := hsrc.grows (base := a) (sLen := len) (sCap := cap) (by omega) ho2 (by rw [hlen, hby]; exact hroom) (by omega);obtain ⟨E', g1, g2, g3⟩ := grown_row (e := e) h hst hnx hlen hxs hys ho1 hsrc.size (fun j g hj => by obtain ⟨v, hv, hr⟩ := ho4 j g hj; exact ⟨v, hv, ho3 j v hv, hr⟩) hsrc.at_ hc' hr' (tickO O).length (.inl ⟨rfl, rfl⟩)
            rw [← hlen] at hk;exact ⟨_, _, E', _, _, hrun, g1, hkeep.trans g2, g3, hk⟩
        | false =>
        obtain ⟨st, hk, hst, hnx, h, hkeep⟩ := h.stamp hk
        rw [← tickO_len O] at hk;by_cases hfit : len + ys.length ≤ cap
        · have hy0 : ys.length = 0 := by omega
          have hynil : ys = [] := List.length_eq_zero_iff.1 hy0;have hnn : news = [] := List.length_eq_zero_iff.1 (by rw [hsrc.size, hy0]; simp);have hrun := hsrc.fits (w' := w) (base := a) hfit (by cases a <;> simp [hnn, storeCells]);obtain ⟨h1, h2⟩ := h.objNil (.tok st sz) (l := ⟨none, 0, sz, 0⟩) hst hnx rfl ⟨_, Env.addLoc_self _ _ _, rfl, trivial⟩ (by simp [GObj.blk, Env.addLoc_self]);refine ⟨_, w, _, _, _, hrun, h1, hkeep.trans h2, ?_, hk⟩;subst hynil;simp only [List.length_nil, Nat.add_zero, List.append_nil];exact .slice _ _ _ _ _ sz' c hlen hcap hsz' ha (fun j g hj => (hc j g hj).mono h2.ext) ⟨_, Env.addLoc_self _ _ _, .inl hcl⟩
        · obtain ⟨cap', rest, hc', hr', hrun⟩ := hsrc.grows (base := a) (sLen := len) (sCap := cap) (by omega) ho2 (by rw [hlen, hby]; exact hroom) (by omega);obtain ⟨E', g1, g2, g3⟩ := grown_tok (e := e) h hst hnx hlen hxs hys ho1 hsrc.size ho3 ho4 hsrc.at_ hc' hr' (tickO O).length (.inl ⟨rfl, rfl⟩);exact ⟨_, _, E', _, _, hrun, g1, hkeep.trans g2, g3, hk⟩
      | tok o st =>
        simp only at hk
        split at hk
        · rename_i st' sz2 hO;obtain ⟨rfl, rfl, hk⟩ := hk;obtain ⟨st2, hk, hst2, hnx, h, hkeep⟩ := h.stamp hk;have hO := tickO_get hO rfl;obtain ⟨l, hl, hls, hlreal⟩ := h.real _ _ hO;by_cases hfit : len + ys.length ≤ cap
          · by_cases hy0 : ys.length = 0
            · have hynil : ys = [] := List.length_eq_zero_iff.1 hy0;have hnn : news = [] := List.length_eq_zero_iff.1 (by rw [hsrc.size, hy0]; simp);have hrun := hsrc.fits (w' := w) (base := a) hfit (by cases a <;> simp [hnn, storeCells]);have hle := Env.addLoc_le l hst2;obtain ⟨h1, h2⟩ : HSim (E.addLoc st2 l) ((tickO O).set o (.tok st2 sz)) w ∧ Keep E (tickO O) w (E.addLoc st2 l) ((tickO O).set o (.tok st2 sz)) w := by
                cases hb : l.block with
                | none =>
                  exact h.upd (b := w.heap.size) (t := w.heap.size) hO (.inr (Nat.le_refl _)) (.inl rfl) hle (Env.addLoc_fin h.fin hnx) ⟨rfl, rfl⟩ rfl ⟨rfl, trivial⟩ (Nat.le_refl _) (fun _ _ _ => rfl) (fun _ _ _ _ hs => hs)
                    (fun o v hs => by have := h.snap_new (b := w.heap.size) (o := o) (Nat.le_refl _); rw [Env.addLoc_snap, this] at hs; cases hs)
                    ⟨l, Env.addLoc_self _ _ _, hls, by simp only [hb]⟩ (fun k hk => by simp [GObj.blk, Env.addLoc_self, hb] at hk)
                | some b =>
                  simp only [hb] at hlreal;have hblk : (GObj.tok st sz).blk E = some b := by simp [GObj.blk, hl, hb]
                  exact h.upd (b := b) (t := b) hO (.inl hblk) (.inl rfl) hle (Env.addLoc_fin h.fin hnx) ⟨rfl, rfl⟩ rfl ⟨rfl, trivial⟩ (Nat.le_refl _) (fun _ _ _ => rfl) (fun _ _ _ _ hs => hs)
                    (fun o v hs => ⟨h.sealed b o v hs, h.one b o v hs⟩) ⟨l, Env.addLoc_self _ _ _, hls, by simp only [hb]; exact hlreal⟩ (fun k hk => by simpa [GObj.blk, Env.addLoc_self, hb] using hk.symm)
              refine ⟨_, w, _, _, _, hrun, h1, hkeep.trans h2, ?_, hk⟩;subst hynil;simp only [List.length_nil, Nat.add_zero, List.append_nil];obtain ⟨l', hl', htok⟩ := htag;rw [hl] at hl'; cases hl';exact .slice _ _ _ _ _ sz' c hlen hcap hsz' (fun hx => by obtain ⟨b, off, e1, e2⟩ := ha hx; exact ⟨b, off, e1, fun j hj => hle.snap _ _ _ (e2 j hj)⟩) (fun j g hj => (hc j g hj).mono hle) ⟨l, Env.addLoc_self _ _ _, htok⟩
            · obtain ⟨l', hl', htok⟩ := htag;rw [hl] at hl'; cases hl';rcases htok with hcl | ⟨b, off, rfl, hb, hoff, htot⟩
              · omega
              · simp only [hb] at hlreal;obtain ⟨cur, el, hw, hcur, hsnap⟩ := hlreal;have hnl : news.length = ys.length * l.size := by rw [hls]; exact hsrc.size
                have hfitc : l.off + news.length ≤ cur.size := by
                  have h1 : (len + ys.length) * l.size ≤ cap * l.size := Nat.mul_le_mul_right _ hfit;rw [Nat.add_mul] at h1;rw [hcur, hnl]; omega
                have hst := run_storeCells_at P b l.off el news 0 cur w hw (by simpa using hfitc) hn1;simp only [Nat.add_zero] at hst;let cur' : Array Value := (cur.toList.take l.off ++ news ++ cur.toList.drop (l.off + news.length)).toArray;have hrun := hsrc.fits (w' := w.setRow b cur') (base := some ⟨b, off, none⟩) hfit (by
                  simp only [add_at];have e : off + len * sz = l.off := by rw [hoff, hls]
                  rw [e]; exact hst)
                have hw' := setRow_heap w b cur cur' el (0, 0) hw;have hcur' : cur'.size = cur.size := by
                  show (cur.toList.take l.off ++ news ++ cur.toList.drop (l.off + news.length)).toArray.size = _;simp; omega
                have hat : ∀ k, cur'[k]? = if l.off ≤ k ∧ k < l.off + news.length then news[k - l.off]? else cur[k]? := by
                  intro k;show (cur.toList.take l.off ++ news ++ cur.toList.drop (l.off + news.length)).toArray[k]? = _;rw [List.getElem?_toArray];by_cases h1 : k < l.off
                  · rw [if_neg (by omega), List.append_assoc, List.getElem?_append_left (by simp; omega), List.getElem?_take_of_lt h1]; simp
                  · by_cases h2 : k < l.off + news.length
                    · rw [if_pos ⟨by omega, h2⟩, List.append_assoc, List.getElem?_append_right (by simp; omega), List.getElem?_append_left (by simp; omega)];have e : k - (List.take l.off cur.toList).length = k - l.off := by simp; omega
                      rw [e]
                    · rw [if_neg (by omega), List.getElem?_append_right (by simp; omega), List.getElem?_drop];have e : l.off + news.length + (k - (List.take l.off cur.toList ++ news).length) = k := by simp; omega
                      rw [e]; simp
                let l2 : GLoc := { l with off := l.off + news.length }
                let E1 : Env := (E.sealMore b l.off news).addLoc st2 l2;have hle : E.le E1 := by
                  refine ⟨fun k o v hv0 => ?_, fun s l' hs => ?_⟩
                  · show (if k = b ∧ l.off ≤ o ∧ o < l.off + news.length then news[o - l.off]? else E.snap k o) = some v;rw [if_neg (fun hh => by rw [hh.1, hsnap o hh.2.1] at hv0; cases hv0)];exact hv0
                  · show (if s = st2 then some l2 else E.loc s) = some l';split
                    · rename_i e; subst e; rw [hst2] at hs; cases hs
                    · exact hs
                have hl2 : E1.loc st2 = some l2 := Env.addLoc_self _ _ _;have hblk : (GObj.tok st sz).blk E = some b := by simp [GObj.blk, hl, hb]
                have hsn1 : ∀ o, l.off ≤ o → o < l.off + news.length → E1.snap b o = news[o - l.off]? := fun o h1 h2 => by
                  show (if b = b ∧ l.off ≤ o ∧ o < l.off + news.length then news[o - l.off]? else E.snap b o) = _;rw [if_pos ⟨rfl, h1, h2⟩]
                have hsn2 : ∀ o, ¬ (l.off ≤ o ∧ o < l.off + news.length) → E1.snap b o = E.snap b o := fun o h1 => by
                  show (if b = b ∧ l.off ≤ o ∧ o < l.off + news.length then news[o - l.off]? else E.snap b o) = _;rw [if_neg (fun hh => h1 hh.2)]
                obtain ⟨h1, h2⟩ : HSim E1 ((tickO O).set o (.tok st2 sz)) (w.setRow b cur') ∧ Keep E (tickO O) w E1 ((tickO O).set o (.tok st2 sz)) (w.setRow b cur') := by
                  refine h.upd (b := b) (t := b) hO (.inl hblk) (.inl rfl) hle (Env.addLoc_fin (E := E.sealMore b l.off news) h.fin hnx) ⟨rfl, rfl⟩ rfl ⟨rfl, trivial⟩ (by simp) (fun k _ hk => setRow_other w b k cur' hk) (fun k o v hk hv => ?_) (fun o v hv => ?_)
                    ⟨l2, hl2, hls, by
                      show match l.block with | none => True | some b => _
                      simp only [hb];exact ⟨cur', el, hw', by rw [hcur', hcur], fun o ho => by rw [hsn2 o (by have : l.off + news.length ≤ o := ho; omega)]; exact hsnap o (by have : l.off + news.length ≤ o := ho; omega)⟩⟩
                    (fun k hk => by
                      have : (GObj.tok st2 sz).blk E1 = some b := by simp [GObj.blk, hl2, l2, hb]
                      rw [this] at hk; exact (Option.some.inj hk).symm)
                  · have hv' : (if k = b ∧ l.off ≤ o ∧ o < l.off + news.length then news[o - l.off]? else E.snap k o) = some v := hv
                    rwa [if_neg (fun hh => hk hh.1)] at hv'
                  · have hcell : (w.setRow b cur').cell? ⟨b, o, none⟩ = cur'[o]? := by simp [World.cell?, hw']
                    rw [hcell, hat];by_cases hin : l.off ≤ o ∧ o < l.off + news.length
                    · rw [hsn1 o hin.1 hin.2] at hv;rw [if_pos hin];exact ⟨hv, hn1 v (List.mem_of_getElem? hv)⟩
                    · rw [hsn2 o hin] at hv;rw [if_neg hin];have := h.sealed b o v hv;simp only [World.cell?, hw] at this;exact ⟨by simpa using this, h.one b o v hv⟩
                refine ⟨_, _, E1, _, _, hrun, h1, hkeep.trans h2, ?_, hk⟩;have hold : ∀ (j : Nat) v, olds[j]? = some v → E.snap b (off + j) = some v := by
                  intro j v hj;have hne : xs ≠ [] := by
                    intro e;have : olds.length = 0 := by rw [ho1, hlen, e]; simp
                    have := List.length_eq_zero_iff.1 this;rw [this] at hj; simp at hj
                  exact ho5 hne b off rfl j v hj
                have holdl : off + olds.length = l.off := by rw [ho1, hoff, hls]
                refine .slice _ _ _ _ _ sz (fun j => (olds ++ news).getD j (.tuple #[])) (by simp [hlen]) hfit (fun x hx => (List.mem_append.1 hx).elim (hxs x) (hys x)) (fun _ => ⟨b, off, rfl, fun j hj => ?_⟩) (fun j g hj => ?_) ?_
                · have hjt : j < (olds ++ news).length := by rw [List.length_append, ho1, hsrc.size, ← Nat.add_mul]; exact hj
                  have hget : (olds ++ news)[j]? = some ((olds ++ news).getD j (.tuple #[])) := getD_of hjt;by_cases hjo : j < olds.length
                  · rw [hsn2 _ (by omega)];exact hold j _ (by rw [← hget, List.getElem?_append_left hjo])
                  · rw [List.length_append] at hjt;rw [hsn1 _ (by omega) (by omega), ← hget, List.getElem?_append_right (by omega)]
                    congr 1; omega
                · have hex : ∃ v, (olds ++ news)[j]? = some v ∧ VR E v g := by
                    rcases flat_append_at hxs (by rw [← hlen, ← ho1]) j g hj with ⟨h1, h2⟩ | ⟨h1, h2⟩
                    · obtain ⟨v, hv, hr⟩ := ho4 j g h2;exact ⟨v, by rw [List.getElem?_append_left h1]; exact hv, hr⟩
                    · obtain ⟨v, hv, _, hr⟩ := hsrc.at_ _ g h2;exact ⟨v, by rw [List.getElem?_append_right h1]; exact hv, hr⟩
                  obtain ⟨v, hv, hr⟩ := hex;have e : (olds ++ news).getD j (.tuple #[]) = v := by simp [List.getD, hv]
                  rw [e]; exact hr.mono hle
                · refine ⟨l2, hl2, .inr ⟨b, off, rfl, hb, ?_, ?_⟩⟩
                  · show l.off + news.length = off + (len + ys.length) * l.size;rw [hoff, hnl, Nat.add_mul]; omega
                  · exact htot
          · obtain ⟨cap', rest, hc', hr', hrun⟩ := hsrc.grows (base := a) (sLen := len) (sCap := cap) (by omega) ho2 (by rw [hlen, hby]; exact hroom) (by omega);obtain ⟨E', g1, g2, g3⟩ := grown_tok (e := e) h hst2 hnx hlen hxs hys ho1 hsrc.size ho3 ho4 hsrc.at_ hc' hr' o (.inr ⟨rfl, _, hO, rfl⟩);exact ⟨_, _, E', _, _, hrun, g1, hkeep.trans g2, g3, hk⟩
        · exact hk.elim
    | own a len cap o st i' l hl hcap ha =>
      simp only at hk
      split at hk
      · rename_i st' sz2 xs hO;obtain ⟨rfl, rfl, hofl, hroom, hmax, hk⟩ := hk;have hv : VR E (.slice a len cap) (.own o st i' len) := .own a len cap o st i' l hl hcap ha;obtain ⟨l0, hl0, hls, hszx, _⟩ := h.real _ _ hO;rw [hl] at hl0; cases hl0;obtain ⟨zs, olds, hzs', hzsz, hsrcS⟩ := src_sound (P := P) (sz := sz) (KS := fun zs => zs = (xs.drop i').take len) h hv
          (by simp only [srcV, hO]; exact ⟨trivial, hofl, fun y hy => hszx y (List.mem_of_mem_drop (List.mem_of_mem_take hy)), by simp⟩) (fun _ _ => trivial)
        have hzl : zs.length = len := by rw [hzs']; simp; omega
        obtain ⟨st2, hk, hst2, hnx, h, hkeep⟩ := h.stamp hk;have hO := tickO_get hO rfl;obtain ⟨l0, hl0, _, _, hreal⟩ := h.real _ _ hO;rw [hl] at hl0; cases hl0
        rw [← hzs'] at hk;by_cases hfit : len + ys.length ≤ cap
        · rcases ha with hc0 | ⟨b, hb, rfl, htot⟩
          · have hl0 : len = 0 := by omega
            have hy0 : ys.length = 0 := by omega
            have hynil : ys = [] := List.length_eq_zero_iff.1 hy0;have hznil : zs = [] := List.length_eq_zero_iff.1 (by omega);have hnn : news = [] := List.length_eq_zero_iff.1 (by rw [hsrc.size, hy0]; simp);have hrun := hsrc.fits (w' := w) (base := a) hfit (by cases a <;> simp [hnn, storeCells]);subst hynil; subst hznil; subst hl0;simp only [List.length_nil, Nat.add_zero, List.append_nil] at hk hrun;have hle := Env.addLoc_le l hst2;obtain ⟨h1, h2⟩ : HSim (E.addLoc st2 l) ((tickO O).set o (.row st2 sz [])) w ∧ Keep E (tickO O) w (E.addLoc st2 l) ((tickO O).set o (.row st2 sz [])) w := by
              cases hb : l.block with
              | none =>
                exact h.upd (b := w.heap.size) (t := w.heap.size) hO (.inr (Nat.le_refl _)) (.inl rfl) hle (Env.addLoc_fin h.fin hnx) ⟨rfl, rfl⟩ rfl ⟨rfl, trivial⟩ (Nat.le_refl _) (fun _ _ _ => rfl) (fun _ _ _ _ hs => hs)
                  (fun o v hs => by have := h.snap_new (b := w.heap.size) (o := o) (Nat.le_refl _); rw [Env.addLoc_snap, this] at hs; cases hs)
                  ⟨l, Env.addLoc_self _ _ _, hls, by simp, by simp only [hb]⟩ (fun k hk => by simp [GObj.blk, Env.addLoc_self, hb] at hk)
              | some b =>
                simp only [hb] at hreal;obtain ⟨cur, el, q1, q2, q3, q4, q5⟩ := hreal;have hblk : (GObj.row st sz xs).blk E = some b := by simp [GObj.blk, hl, hb]
                exact h.upd (b := b) (t := b) hO (.inl hblk) (.inl rfl) hle (Env.addLoc_fin h.fin hnx) ⟨rfl, rfl⟩ rfl ⟨rfl, trivial⟩ (Nat.le_refl _) (fun _ _ _ => rfl) (fun _ _ _ _ hs => hs)
                  (fun o v hs => ⟨h.sealed b o v hs, h.one b o v hs⟩) ⟨l, Env.addLoc_self _ _ _, hls, by simp, by simp only [hb]; exact ⟨cur, el, q1, q2, by simp; omega, fun j g hj => by simp at hj, q5⟩⟩
                  (fun k hk => by simpa [GObj.blk, Env.addLoc_self, hb] using hk.symm)
            exact ⟨_, w, _, _, _, hrun, h1, hkeep.trans h2, .own _ _ _ _ st2 0 _ (Env.addLoc_self _ _ _) (Nat.zero_le _) (.inl hc0), hk⟩
          · simp only [hb] at hreal;obtain ⟨cur, el, hw, hcur, htotr, hrows, hsnap⟩ := hreal;rw [hls] at htot;have hnl : news.length = ys.length * sz := hsrc.size;have hcapsz : (len + ys.length) * sz ≤ cap * sz := Nat.mul_le_mul_right _ hfit;rw [Nat.add_mul] at hcapsz;have hpos : l.off + i' * sz + len * sz + news.length ≤ cur.size := by rw [hcur, hnl]; omega
            have hst := run_storeCells_at P b (l.off + i' * sz + len * sz) el news 0 cur w hw (by simpa using hpos) hn1;simp only [Nat.add_zero] at hst;let p := l.off + i' * sz + len * sz;let cur' : Array Value := (cur.toList.take p ++ news ++ cur.toList.drop (p + news.length)).toArray;have hrun := hsrc.fits (w' := w.setRow b cur') (base := some ⟨b, l.off + i' * l.size, none⟩) hfit (by
              simp only [add_at];have e : l.off + i' * l.size + len * sz = l.off + i' * sz + len * sz := by rw [hls]
              rw [e]; exact hst)
            have hw' := setRow_heap w b cur cur' el (0, 0) hw;have hp : p + news.length ≤ cur.toList.length := by show l.off + i' * sz + len * sz + news.length ≤ _; simpa using hpos
            have hcur' : cur'.size = cur.size := by
              show (cur.toList.take p ++ news ++ cur.toList.drop (p + news.length)).toArray.size = _;simp at hp ⊢; omega
            have hat : ∀ k, cur'[k]? = if p ≤ k ∧ k < p + news.length then news[k - p]? else cur[k]? := by
              intro k;show (cur.toList.take p ++ news ++ cur.toList.drop (p + news.length)).toArray[k]? = _;rw [List.getElem?_toArray];by_cases h1 : k < p
              · rw [if_neg (by omega), List.append_assoc, List.getElem?_append_left (by simp at hp ⊢; omega), List.getElem?_take_of_lt h1]; simp
              · by_cases h2 : k < p + news.length
                · rw [if_pos ⟨by omega, h2⟩, List.append_assoc, List.getElem?_append_right (by simp at hp ⊢; omega), List.getElem?_append_left (by simp at hp ⊢; omega)];have e : k - (List.take p cur.toList).length = k - p := by simp at hp ⊢; omega
                  rw [e]
                · rw [if_neg (by omega), List.getElem?_append_right (by simp at hp ⊢; omega), List.getElem?_drop];have e : p + news.length + (k - (List.take p cur.toList ++ news).length) = k := by simp at hp ⊢; omega
                  rw [e]; simp
            let l2 : GLoc := { l with off := l.off + i' * sz }
            have hle : E.le (E.addLoc st2 l2) := Env.addLoc_le l2 hst2;have hblk : (GObj.row st sz xs).blk E = some b := by simp [GObj.blk, hl, hb]
            have hfl : zs.flatten = (xs.flatten.drop (i' * sz)).take (len * sz) := by
              rw [hzs', flatten_take (sz := sz) _ _ (fun x hx => hszx x (List.mem_of_mem_drop hx)) (by simp; omega), flatten_drop _ _ hszx (by omega)]
            have hreal2 : Realized (E.addLoc st2 l2) (w.setRow b cur') (.row st2 sz (zs ++ ys)) := by
              refine ⟨l2, Env.addLoc_self _ _ _, hls, fun x hx => (List.mem_append.1 hx).elim (hzsz x) (hys x), ?_⟩;show match l.block with | none => _ | some b => _
              simp only [hb];refine ⟨cur', el, hw', by rw [hcur', hcur], ?_, fun j g hj => ?_, hsnap⟩
              · show l.off + i' * sz + (zs ++ ys).length * sz ≤ l.total;rw [List.length_append, hzl, Nat.add_mul]; omega
              · show ∃ v, cur'[l.off + i' * sz + j]? = some v ∧ _;rcases flat_append_at hzsz (by rw [hzl]) j g hj with ⟨h1, h2⟩ | ⟨h1, h2⟩
                · rw [hfl, List.getElem?_take, if_pos h1, List.getElem?_drop] at h2;obtain ⟨v, hv, h3, hr⟩ := hrows _ g h2;refine ⟨v, ?_, h3, hr.mono hle⟩;rw [hat, if_neg (by show ¬ (l.off + i' * sz + len * sz ≤ _ ∧ _); omega), Nat.add_assoc];exact hv
                · obtain ⟨v, hv, h3, hr⟩ := hsrc.at_ _ g h2;have hlt := (List.getElem?_eq_some_iff.1 hv).1;refine ⟨v, ?_, h3, hr.mono hle⟩;rw [hat, if_pos ⟨by show l.off + i' * sz + len * sz ≤ _; omega, by show _ < l.off + i' * sz + len * sz + news.length; omega⟩];have e : l.off + i' * sz + j - p = j - len * sz := by show l.off + i' * sz + j - (l.off + i' * sz + len * sz) = _; omega
                  rw [e]; exact hv
            obtain ⟨h1, h2⟩ := h.upd (b := b) (t := b) (E' := E.addLoc st2 l2) (w' := w.setRow b cur') (obj' := .row st2 sz (zs ++ ys)) hO (.inl hblk) (.inl rfl) hle (Env.addLoc_fin h.fin hnx) ⟨rfl, rfl⟩ rfl ⟨rfl, trivial⟩ (by simp)
              (fun k _ hk => setRow_other w b k cur' hk) (fun _ _ _ _ hs => hs) (fun o v hs => by have hs' : E.snap b o = some v := hs; rw [hsnap o] at hs'; cases hs') hreal2
              (fun k hk => by have : (GObj.row st2 sz (zs ++ ys)).blk (E.addLoc st2 l2) = some b := by simp [GObj.blk, Env.addLoc_self, l2, hb]
                              rw [this] at hk; exact (Option.some.inj hk).symm)
            refine ⟨_, _, _, _, _, hrun, h1, hkeep.trans h2, .own _ _ _ _ st2 0 l2 (Env.addLoc_self _ _ _) hfit (.inr ⟨b, hb, ?_, ?_⟩), hk⟩
            · show some (⟨b, l.off + i' * l.size, none⟩ : Addr) = some ⟨b, l.off + i' * sz + 0 * l.size, none⟩;rw [hls]; simp
            · show l.off + i' * sz + 0 * l.size + cap * l.size ≤ l.total;rw [hls]; omega
        · obtain ⟨cap', rest, hc', hr', hrun⟩ := hsrc.grows (base := a) (sLen := len) (sCap := cap) (by omega)
            (fun w' hh => by have := hsrcS.cells w' hh; rw [hzl] at this; exact this) (by rw [hby]; exact hroom) hmax
          obtain ⟨E', g1, g2, g3⟩ := grown_row (e := e) h hst2 hnx hzl.symm hzsz hys (by rw [hsrcS.size, hzl]) hsrc.size hsrcS.at_ hsrc.at_ hc' hr' o (.inr ⟨rfl, _, hO, rfl⟩);exact ⟨_, _, E', _, _, hrun, g1, hkeep.trans g2, g3, hk⟩
      · exact hk.elim
    | _ => exact hk.elim
end
end Gv
namespace Gv
open Go
inductive Sk where
 | int
 | str
 | bool
 deriving DecidableEq
def ceq (s : Sk) (x y : GVal) : Option Bool :=
 match s, x, y with
 | .int, .int k a, .int k' b => if k = k' then some (a == b) else none
 | .bool, .bool a, .bool b => some (a == b)
 | .str, .str a, .str b => some (a == b)
 | _, _, _ => none
def cellsEq : List Sk → List GVal → List GVal → Option Bool
 | [], [], [] => some true
 | s :: ss, x :: xs, y :: ys => match ceq s x y, cellsEq ss xs ys with
  | some a, some b => some (a && b)
  | _, _ => none
 | _, _, _ => none
def flatFs (P : Program) (fl : TypeId → Option (List Sk)) : Nat → List Field → Option (List Sk)
 | off, [] => some []
 | off, f :: r => match fl f.type, tab P f.type with
  | some k, some (k', _) => if k.length = k' ∧ f.offset = off ∧ (f.name != "_") = true then (match flatFs P fl (off + k.length) r with
   | some l => some (k ++ l)
   | none => none) else none
  | _, _ => none
def flat (P : Program) : Nat → TypeId → Option (List Sk)
 | 0, _ => none
 | d + 1, t => match P.underlying t with
  | some .bool => some [.bool]
  | some (.int _) => some [.int]
  | some .string => some [.str]
  | some (.array n e) => match flat P d e, tab P e with
   | some k, some (k', _) => if k.length = k' ∧ P.cellsOf e = k.length then some (List.replicate n k).flatten else none
   | _, _ => none
  | some (.struct fs) => if P.stoodInHeld t = false then flatFs P (flat P d) 0 fs.toList else none
  | _ => none
theorem cellsEq_len : ∀ {ss : List Sk} {xs ys : List GVal} {r : Bool}, cellsEq ss xs ys = some r → xs.length = ss.length ∧ ys.length = ss.length
 | [], [], [], _, _ => ⟨rfl, rfl⟩
 | s :: ss, x :: xs, y :: ys, r, h => by
  unfold cellsEq at h;split at h
  · rename_i a b h1 h2; simp [cellsEq_len h2]
  · cases h
 | [], _ :: _, _, _, h => by cases h
 | [], [], _ :: _, _, h => by cases h
 | _ :: _, [], _, _, h => by cases h
 | _ :: _, _ :: _, [], _, h => by cases h
theorem cellsEq_cut : ∀ (s1 : List Sk) {s2 : List Sk} {xs ys : List GVal} {r : Bool}, cellsEq (s1 ++ s2) xs ys = some r →
 ∃ a b, cellsEq s1 (xs.take s1.length) (ys.take s1.length) = some a ∧ cellsEq s2 (xs.drop s1.length) (ys.drop s1.length) = some b ∧ r = (a && b)
 | [], s2, xs, ys, r, h => ⟨true, r, by simp [cellsEq], by simpa using h, by simp⟩
 | s :: s1, s2, x :: xs, y :: ys, r, h => by
  rw [List.cons_append] at h;unfold cellsEq at h;split at h
  · rename_i a b h1 h2;obtain ⟨a', b', q1, q2, q3⟩ := cellsEq_cut s1 h2;simp only [Option.some.injEq] at h;exact ⟨a && a', b', by simp [cellsEq, h1, q1], by simpa using q2, by rw [← h, q3, Bool.and_assoc]⟩
  · cases h
 | _ :: _, _, [], _, _, h => by cases h
 | _ :: _, _, _ :: _, [], _, h => by cases h
section
variable {P : Program} {E : Env} {w : World}
theorem beq_bytes (a b : List UInt8) : ((⟨a.toArray⟩ : ByteArray) == ⟨b.toArray⟩) = (a == b) := by
 rw [beq_toListBytes, ByteArray.toList_mk, ByteArray.toList_mk]
theorem ceq_rigid {s : Sk} {x y : Value} {g g' : GVal} (hx : VR E x g) (hy : VR E y g') (h : ceq s g g' = some true) : x = y := by
 unfold ceq at h
 split at h
 · cases hx; cases hy
   split at h
   · rename_i e; subst e; simp at h; subst h; rfl
   · cases h
 · cases hx; cases hy; simp at h; subst h; rfl
 · cases hx; cases hy; simp at h; subst h; rfl
 · cases h
theorem cellsEq_at : ∀ {ss : List Sk} {xs ys : List GVal}, cellsEq ss xs ys = some true → ∀ (j : Nat) a b, xs[j]? = some a → ys[j]? = some b → ∃ s, ceq s a b = some true
 | [], [], [], h, j, a, b, ha, _ => by simp at ha
 | s :: ss, x :: xs, y :: ys, h, j, a, b, ha, hb => by
  unfold cellsEq at h;split at h
  · rename_i p q h1 h2;simp only [Option.some.injEq, Bool.and_eq_true] at h;obtain ⟨rfl, rfl⟩ := h;cases j with
    | zero => simp at ha hb; subst ha; subst hb; exact ⟨_, h1⟩
    | succ j => exact cellsEq_at h2 j a b (by simpa using ha) (by simpa using hb)
  · cases h
 | [], _ :: _, _, h, _, _, _, _, _ => by cases h
 | [], [], _ :: _, h, _, _, _, _, _ => by cases h
 | _ :: _, [], _, h, _, _, _, _, _ => by cases h
 | _ :: _, _ :: _, [], h, _, _, _, _, _ => by cases h
theorem grp_rigid {x y : Value} {ag : Bool} {ss : List Sk} {xs ys : List GVal} (hx : VR E x (grp ag xs)) (hy : VR E y (grp ag ys)) (hn : ag = false → ss.length = 1) (h : cellsEq ss xs ys = some true) : x = y := by
 obtain ⟨hl1, hl2⟩ := cellsEq_len h
 cases ag with
 | false =>
  have := hn rfl
  match xs, ys, (by omega : xs.length = 1), (by omega : ys.length = 1) with
  | [a], [b], _, _ => obtain ⟨s, hs⟩ := cellsEq_at h 0 a b rfl rfl; exact ceq_rigid hx hy hs
 | true =>
  cases hx with
  | agg vs cs hs hc =>
   cases hy with
   | agg us cs' hs' hc' =>
    congr 1
    apply Array.ext (by omega);intro i h1 h2;have e1 := hc i xs[i] (by simp [← hs, h1]);have e2 := hc' i ys[i] (by simp [← hs', h2]);obtain ⟨s, hss⟩ := cellsEq_at h i _ _ (List.getElem?_eq_getElem (by omega)) (List.getElem?_eq_getElem (by omega));have := ceq_rigid e1 e2 hss
    simpa [Array.getD, h1, h2] using this
def EqOK (P : Program) (d : Nat) (t : TypeId) (ss : List Sk) : Prop :=
 ∀ (E : Env) (w : World) (ag : Bool) (x y : Value) (xs ys : List GVal) (r : Bool), tab P t = some (ss.length, ag) → VR E x (grp ag xs) → VR E y (grp ag ys) → (ag = false → ss.length = 1) → cellsEq ss xs ys = some r →
  (Op.equalIn d t x y).run P w = .ok r w
theorem eqItems_ok {d : Nat} {e : TypeId} {ss : List Sk} {ag : Bool} (hc : P.cellsOf e = ss.length) (ht : tab P e = some (ss.length, ag)) (hag : ag = false → ss.length = 1) (IH : EqOK P d e ss) (E : Env) (w : World) {vs us : Array Value} :
 ∀ (m i : Nat) (xs ys : List GVal) (r : Bool), VR E (.agg vs) (.agg xs) → VR E (.agg us) (.agg ys) → cellsEq (List.replicate m ss).flatten (xs.drop (i * ss.length)) (ys.drop (i * ss.length)) = some r →
 xs.length = (i + m) * ss.length → ys.length = (i + m) * ss.length → (Op.eqItems d e (P.cellsOf e) vs us (List.range' i m)).run P w = .ok r w
 | 0, i, xs, ys, r, hx, hy, h, hl, hl2 => by
  obtain ⟨h1, h2⟩ := cellsEq_len h;simp at h1 h2;have e1 : xs.drop (i * ss.length) = [] := by rw [List.drop_eq_nil_iff]; omega
  have e2 : ys.drop (i * ss.length) = [] := by rw [List.drop_eq_nil_iff]; omega
  rw [e1, e2] at h;simp [cellsEq] at h;subst h;simp [Op.eqItems]
 | m + 1, i, xs, ys, r, hx, hy, h, hl, hl2 => by
  rw [List.replicate_succ, List.flatten_cons] at h;obtain ⟨a, b, h1, h2, rfl⟩ := cellsEq_cut ss h;have hlt : i * ss.length + ss.length ≤ xs.length := by rw [hl, Nat.add_mul, Nat.add_mul]; omega
  have hlt2 : i * ss.length + ss.length ≤ ys.length := by rw [hl2, Nat.add_mul, Nat.add_mul]; omega
  obtain ⟨v, r1, v1⟩ := part_run (P := P) (w := w) ht hag hx hlt;obtain ⟨u, r2, u1⟩ := part_run (P := P) (w := w) ht hag hy hlt2;have r3 := IH E w ag v u _ _ a ht v1 u1 hag h1;rw [List.drop_drop, List.drop_drop] at h2;have := eqItems_ok hc ht hag IH E w m (i + 1) xs ys b hx hy (by rw [Nat.add_mul, Nat.one_mul]; exact h2) (by rw [hl]; congr 1; omega) (by rw [hl2]; congr 1; omega);rw [List.range'_succ];simp only [Op.eqItems, Sem.run_bind, hc, r1, r2, r3, Result.andThen_ok];rw [hc] at this;cases a
  · simp
  · simpa using this
theorem eqFields_ok {d : Nat} {fl : TypeId → Option (List Sk)} (IH : ∀ t k, fl t = some k → EqOK P d t k) (hone : ∀ t k ag, fl t = some k → tab P t = some (k.length, ag) → ag = false → k.length = 1) (E : Env) (w : World) {vs us : Array Value} :
 ∀ (fs : List Field) (off : Nat) (ss : List Sk) (xs ys : List GVal) (r : Bool), VR E (.agg vs) (.agg xs) → VR E (.agg us) (.agg ys) → flatFs P fl off fs = some ss → cellsEq ss (xs.drop off) (ys.drop off) = some r → off ≤ xs.length → off ≤ ys.length →
 (Op.eqFields d vs us fs).run P w = .ok r w
 | [], off, ss, xs, ys, r, hx, hy, hf, h, ho1, ho2 => by
  simp only [flatFs, Option.some.injEq] at hf;subst hf;obtain ⟨h1, h2⟩ := cellsEq_len h;have e1 : xs.drop off = [] := List.length_eq_zero_iff.1 h1;have e2 : ys.drop off = [] := List.length_eq_zero_iff.1 h2;rw [e1, e2] at h;simp [cellsEq] at h;subst h;simp [Op.eqFields]
 | f :: fs, off, ss, xs, ys, r, hx, hy, hf, h, ho1, ho2 => by
  unfold flatFs at hf;split at hf
  · rename_i k k' ag e1 e2;split at hf
    · rename_i hc;obtain ⟨rfl, ho, hn⟩ := hc;split at hf
      · rename_i l hl;cases hf;obtain ⟨h1, h2⟩ := cellsEq_len h;simp only [List.length_drop, List.length_append] at h1 h2;obtain ⟨a, b, h1, h2, rfl⟩ := cellsEq_cut k h;have hag := hone _ _ ag e1 e2;obtain ⟨v, r1, v1⟩ := part_run (P := P) (w := w) e2 hag hx (by omega : off + k.length ≤ xs.length);obtain ⟨u, r2, u1⟩ := part_run (P := P) (w := w) e2 hag hy (by omega : off + k.length ≤ ys.length);have r3 := IH _ _ e1 E w ag v u _ _ a e2 v1 u1 hag h1;rw [List.drop_drop, List.drop_drop] at h2;have := eqFields_ok IH hone E w fs (off + k.length) l xs ys b hx hy hl h2 (by omega) (by omega);subst ho;have hne : f.name ≠ "_" := by simpa using hn
        simp only [Op.eqFields, hne, ne_eq, not_false_eq_true, if_true, Sem.run_bind, r1, r2, r3, Result.andThen_ok];cases a
        · simp
        · simpa using this
      · cases hf
    · cases hf
  · cases hf
theorem flat_one {d : Nat} {t : TypeId} {k : List Sk} {ag : Bool} (h : flat P d t = some k) (ht : tab P t = some (k.length, ag)) (ha : ag = false) : k.length = 1 := by
 subst ha
 cases d with
 | zero => cases h
 | succ d =>
  unfold flat at h;unfold tab at ht;cases hu : P.underlying t with
  | none => simp [hu] at h
  | some td =>
   cases hi : P.info? t with
   | none => simp [hu, hi] at ht
   | some i => cases td <;> simp_all <;> (subst h; rfl)
theorem flat_eq {m : Nat} : ∀ (d : Nat) (t : TypeId) (ss : List Sk), flat P d t = some ss → EqOK P (m + d) t ss
 | 0, t, ss, h => by cases h
 | d + 1, t, ss, h => by
  intro E w ag x y xs ys r ht hx hy hag hr;have IH : ∀ t k, flat P d t = some k → EqOK P (m + d) t k := fun t k e => flat_eq d t k e
  obtain ⟨hl1, hl2⟩ := cellsEq_len hr;show (Op.equalIn ((m + d) + 1) t x y).run P w = _;have sc : ∀ s td, P.underlying t = some td → (∀ i, P.info? t = some i → tab P t = some (i.size, false)) → ss = [s] → ∃ a b, VR E x a ∧ VR E y b ∧ ceq s a b = some r := by
   intro s td hu hb he;subst he;have hf : ag = false := by
    cases hi : P.info? t with
    | none => simp [tab, hi] at ht
    | some i => rw [hb i hi] at ht; simp at ht; exact ht.2
   subst hf
   match xs, ys, hl1, hl2 with
   | [a], [b], _, _ =>
    refine ⟨a, b, hx, hy, ?_⟩;simp only [cellsEq] at hr;cases hc : ceq s a b with
    | none => simp [hc] at hr
    | some z => simp [hc] at hr; rw [hr]
  unfold flat at h;cases hu : P.underlying t with
  | none => simp [hu] at h
  | some td =>
   cases td <;> simp only [hu] at h <;> try (cases h; done)
   case bool =>
    obtain ⟨a, b, ha, hb, hc⟩ := sc .bool _ hu (fun i hi => by simp [tab, hi, hu]) (by simpa using h.symm);cases a <;> cases b <;> simp only [ceq] at hc <;> try (cases hc; done)
    cases ha; cases hb; simp at hc; subst hc
    simp [Op.equalIn, run_underlying hu]
   case int q =>
    obtain ⟨a, b, ha, hb, hc⟩ := sc .int _ hu (fun i hi => by simp [tab, hi, hu]) (by simpa using h.symm);cases a <;> cases b <;> simp only [ceq] at hc <;> try (cases hc; done)
    cases ha; cases hb
    split at hc
    · rename_i e; subst e; simp at hc; subst hc;simp [Op.equalIn, run_underlying hu]
    · cases hc
   case string =>
    obtain ⟨a, b, ha, hb, hc⟩ := sc .str _ hu (fun i hi => by simp [tab, hi, hu]) (by simpa using h.symm);cases a <;> cases b <;> simp only [ceq] at hc <;> try (cases hc; done)
    cases ha; cases hb; simp at hc; subst hc
    simp [Op.equalIn, run_underlying hu, beq_bytes]
   case array n e =>
    split at h
    · rename_i k k' ag' e1 e2;split at h
      · rename_i hc;obtain ⟨rfl, hc⟩ := hc;simp only [Option.some.injEq] at h;subst h;have hi : ∃ i, P.info? e = some i := by
         cases hi : P.info? e with
         | none => simp [tab, hi] at e2
         | some i => exact ⟨i, rfl⟩
        obtain ⟨i, hi⟩ := hi;have ha : ag = true := by
         unfold tab at ht;cases hit : P.info? t with
         | none => simp [hit] at ht
         | some i => simp [hit, hu] at ht; exact ht.2
        subst ha;simp only [grp] at hx hy;have hn : (List.replicate n k).flatten.length = n * k.length := by simp
        rw [hn] at hl1 hl2;cases hx with
        | agg vs cs hs hcs =>
         cases hy with
         | agg us cs' hs' hcs' =>
          rw [run_equalIn_array w (m + d) vs us hu hi, List.range_eq_range'];exact eqItems_ok hc e2 (flat_one e1 e2) (IH _ _ e1) E w n 0 xs ys r (.agg vs _ hs hcs) (.agg us _ hs' hcs') (by simpa using hr) (by simpa using hl1) (by simpa using hl2)
      · cases h
    · cases h
   case struct fs =>
    split at h
    · rename_i hst;have hfo : P.underlying t = some (.struct (P.fieldsOf t)) := by rw [hu]; simp [Program.fieldsOf, hu]
      have hfs : P.fieldsOf t = fs := by simp [Program.fieldsOf, hu]
      have ha : ag = true := by
       unfold tab at ht;cases hit : P.info? t with
       | none => simp [hit] at ht
       | some i => simp [hit, hu] at ht; exact ht.2
      subst ha;simp only [grp] at hx hy;cases hx with
      | agg vs cs hs hcs =>
       cases hy with
       | agg us cs' hs' hcs' =>
        rw [run_equalIn_struct w (m + d) t vs us hfo hst, hfs];exact eqFields_ok IH (fun t k ag e1 e2 e3 => flat_one e1 e2 e3) E w fs.toList 0 ss xs ys r (.agg vs _ hs hcs) (.agg us _ hs' hcs') h (by simpa using hr) (by omega) (by omega)
    · cases h
end
end Gv
