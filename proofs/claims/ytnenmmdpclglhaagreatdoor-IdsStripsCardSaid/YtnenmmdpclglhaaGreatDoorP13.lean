/- Graphs that may be: plain laws of walks. -/
import Derived.Test.YtnenmmdpclglhaaGreatDoorP12
import Derived.Test.YtnenmmdpclglhaaGreatDoorP10
import Derived.Test.YtnenmmdpclglhaaGreatDoorP8
set_option linter.unusedVariables false
set_option linter.unusedSimpArgs false
set_option maxRecDepth 20000
namespace Gv.Tryz
open Go Gv Go.Proofs
structure Good (m : GM) : Prop where
  ok : GOK m
  keys : (m.map (·.1)).Nodup
  closed : ∀ x y, y ∈ parsM m x → (look m y).isSome = true
  acyc : ∀ x, ¬ Reach (parsM m) (parsM m x) x
theorem Good.gm {m : GM} (h : Good m) : GMOK m := ⟨by have := h.ok.len; omega, h.ok.row⟩
theorem Reach.trans {nx : Hs → List Hs} {l l' : List Hs} {x : Hs} (h : Reach nx l' x) (hl : ∀ y ∈ l', Reach nx l y) : Reach nx l x := by
  induction h with
  | base x hx => exact hl x hx
  | step x y _ hy ih => exact .step x y ih hy
theorem Reach.sub {nx : Hs → List Hs} {l l' : List Hs} {x : Hs} (h : Reach nx l' x) (hl : ∀ y ∈ l', y ∈ l) : Reach nx l x := h.trans fun y hy => .base y (hl y hy)
theorem Reach.nil {nx : Hs → List Hs} {x : Hs} (h : Reach nx [] x) : False := by
  induction h with
  | base x hx => cases hx
  | step _ _ _ _ ih => exact ih
theorem pars_there {m : GM} {x y : Hs} (h : y ∈ parsM m x) : (look m x).isSome = true := by
  cases e : look m x with
  | some l => rfl
  | none => rw [parsM_none e] at h; cases h
theorem Reach.inM {m : GM} {l : List Hs} {x : Hs} (h : Reach (parsM m) l x) (hx : (look m x).isSome = true) : Reach (parsM m) (inM m l) x := by
  induction h with
  | base x h => exact .base x (List.mem_filter.2 ⟨h, hx⟩)
  | step x y _ hy ih => exact .step x y (ih (pars_there hy)) hy
theorem visL_ex (m : GM) (dn : Hs → Bool) : ∀ (n : Nat) (r S out : List Hs), S.Nodup → (∀ x ∈ S, (look m x).isSome = true) → m.length < S.length + n → ∃ T, VisL m dn r (S, out) T ∧ T.1.Nodup ∧ (∀ x ∈ T.1, (look m x).isSome = true) ∧ S.length ≤ T.1.length := by
  intro n
  induction n with
  | zero =>
    intro r S out h1 h2 h3
    have := nodup_lenH S (m.map (·.1)) h1 fun x hx => look_key (h2 x hx)
    rw [List.length_map] at this
    omega
  | succ n ihn =>
    intro r
    induction r with
    | nil => exact fun S out h1 h2 h3 => ⟨_, .nil _, h1, h2, Nat.le_refl _⟩
    | cons p r ih =>
      intro S out h1 h2 h3
      cases hp : pushed m dn S p with
      | false =>
        obtain ⟨T, a, b⟩ := ih S out h1 h2 h3
        exact ⟨T, .skip p r (S, out) T hp a, b⟩
      | true =>
        obtain ⟨p1, p2, _⟩ := pushed_iff hp
        obtain ⟨⟨S1, o1⟩, a1, a2, a3, a4⟩ := ihn (parsM m p) (S ++ [p]) out (by
          rw [List.nodup_append]
          exact ⟨h1, by simp, fun a ha b hb => by rw [List.mem_singleton.1 hb]; exact fun e => p2 (e ▸ ha)⟩) (fun x hx => by
          rcases List.mem_append.1 hx with q | q
          · exact h2 x q
          · rw [List.mem_singleton.1 q]; exact p1) (by rw [List.length_append, List.length_singleton]; omega)
        simp only [List.length_append, List.length_singleton] at a2 a3 a4
        obtain ⟨T, b1, b2, b3, b4⟩ := ih S1 (o1 ++ [p]) a2 a3 (by omega)
        exact ⟨T, .go p r (S, out) (S1, o1) T hp a1 b1, b2, b3, by omega⟩
theorem vis_spec {m : GM} {dn : Hs → Bool} (hg : ∀ x, ¬ Reach (parsM m) (parsM m x) x) {r : List Hs} {so T : WSt} (h : VisL m dn r so T) :
    (∀ x ∈ so.2, x ∈ so.1) → (∀ k ∈ so.1, k ∉ so.2 → ∀ p ∈ r, Reach (parsM m) (parsM m k) p) →
    ∃ new, T.2 = so.2 ++ new ∧ (∀ x, x ∈ T.1 ↔ x ∈ so.1 ∨ x ∈ new) ∧ new.Nodup ∧ (∀ x ∈ new, x ∉ so.1 ∧ (look m x).isSome = true ∧ dn x = false ∧ Reach (parsM m) r x) ∧
      (∀ p ∈ r, (look m p).isSome = true → dn p = false → p ∈ T.2) ∧ (∀ i x, new[i]? = some x → ∀ y ∈ parsM m x, (look m y).isSome = true → dn y = false → y ∈ so.2 ++ new.take i) := by
  induction h with
  | nil so => exact fun _ _ => ⟨[], by simp, by simp, List.nodup_nil, by simp, by simp, by simp⟩
  | skip p r so T hp _ ih =>
    intro hS hK
    obtain ⟨new, h1, h2, h3, h4, h5, h6⟩ := ih hS fun k hk hn q hq => hK k hk hn q (by simp [hq])
    refine ⟨new, h1, h2, h3, fun x hx => ?_, fun q hq hl hd => ?_, h6⟩
    · obtain ⟨a, b, c, d⟩ := h4 x hx
      exact ⟨a, b, c, d.sub fun y hy => by simp [hy]⟩
    · rcases List.mem_cons.1 hq with e | e
      · subst e
        have hin : q ∈ so.1 := by
          unfold pushed at hp
          rw [hl, hd] at hp
          simpa using hp
        by_cases ho : q ∈ so.2
        · rw [h1]; exact List.mem_append_left _ ho
        · exact absurd (hK q hin ho q (by simp)) (hg q)
      · exact h5 q e hl hd
  | go p r so so1 T hp _ _ ih1 ih2 =>
    intro hS hK
    obtain ⟨p1, p2, p3⟩ := pushed_iff hp
    obtain ⟨n1, a1, a2, a3, a4, a5, a6⟩ := ih1 (fun x hx => List.mem_append_left _ (hS x hx)) (fun k hk hn y hy => by
      rcases List.mem_append.1 hk with q | q
      · exact .step p y (hK k q hn p (by simp)) hy
      · rw [List.mem_singleton.1 q]; exact .base y hy)
    simp only at a1 a2 a4 a5 a6
    have hso1 : ∀ x ∈ so1.2 ++ [p], x ∈ so1.1 := fun x hx => by
      rw [a2]
      rw [a1] at hx
      simp only [List.mem_append, List.mem_singleton] at hx ⊢
      rcases hx with (q | q) | q
      · exact .inl (.inl (hS x q))
      · exact .inr q
      · exact .inl (.inr q)
    obtain ⟨n2, b1, b2, b3, b4, b5, b6⟩ := ih2 hso1 (fun k hk hn q hq => by
      simp only at hk hn
      rw [a2] at hk
      rw [a1] at hn
      simp only [List.mem_append, List.mem_singleton, not_or] at hk hn
      rcases hk with (e | e) | e
      · exact hK k e hn.1.1 q (by simp [hq])
      · exact absurd e hn.2
      · exact absurd e hn.1.2)
    simp only at b1 b2 b4 b5 b6
    have e2 : T.2 = so.2 ++ (n1 ++ [p] ++ n2) := by rw [b1, a1]; simp
    refine ⟨n1 ++ [p] ++ n2, e2, fun x => ?_, ?_, fun x hx => ?_, fun q hq hl hd => ?_, fun i x hi y hy hl hd => ?_⟩
    · rw [b2, a2]
      simp only [List.mem_append, List.mem_singleton]
      constructor
      · rintro (((h | h) | h) | h)
        · exact .inl h
        · exact .inr (.inl (.inr h))
        · exact .inr (.inl (.inl h))
        · exact .inr (.inr h)
      · rintro (h | (h | h) | h)
        · exact .inl (.inl (.inl h))
        · exact .inl (.inr h)
        · exact .inl (.inl (.inr h))
        · exact .inr h
    · rw [List.nodup_append, List.nodup_append]
      refine ⟨⟨a3, by simp, fun a ha b hb e => ?_⟩, b3, fun a ha b hb e => ?_⟩
      · rw [List.mem_singleton.1 hb] at e
        exact (a4 a ha).1 (by rw [e]; simp)
      · refine (b4 b hb).1 (hso1 b ?_)
        rw [← e, a1]
        simp only [List.mem_append, List.mem_singleton] at ha ⊢
        exact ha.imp .inr id
    · rcases List.mem_append.1 hx with q | q
      · rcases List.mem_append.1 q with q | q
        · obtain ⟨c1, c2, c3, c4⟩ := a4 x q
          exact ⟨fun e => c1 (List.mem_append_left _ e), c2, c3, c4.trans fun y hy => .step p y (.base p (by simp)) hy⟩
        · rw [List.mem_singleton.1 q]; exact ⟨p2, p1, p3, .base p (by simp)⟩
      · obtain ⟨c1, c2, c3, c4⟩ := b4 x q
        exact ⟨fun e => c1 (by rw [a2]; simp [e]), c2, c3, c4.sub fun y hy => by simp [hy]⟩
    · rcases List.mem_cons.1 hq with e | e
      · rw [e2, e]; simp
      · exact b5 q e hl hd
    · have hin : ∀ z, (z ∈ so.2 ++ n1 ++ [p] ∨ z ∈ so.2 ++ n1 ++ [p] ++ n2.take (i - n1.length - 1)) → n1.length < i → z ∈ so.2 ++ (n1 ++ [p] ++ n2).take i := fun z hz hi => by
        have et : (n1 ++ [p] ++ n2).take i = n1 ++ [p] ++ n2.take (i - n1.length - 1) := by
          rw [List.take_append, List.take_of_length_le (by simp; omega)]
          congr 2
          simp; omega
        rw [et]
        rcases hz with q | q
        · simp only [List.mem_append, List.mem_singleton] at q ⊢
          rcases q with (q | q) | q
          · exact .inl q
          · exact .inr (.inl (.inl q))
          · exact .inr (.inl (.inr q))
        · simp only [List.mem_append, List.mem_singleton] at q ⊢
          rcases q with ((q | q) | q) | q
          · exact .inl q
          · exact .inr (.inl (.inl q))
          · exact .inr (.inl (.inr q))
          · exact .inr (.inr q)
      by_cases h1 : i < n1.length
      · have e1 : n1[i]? = some x := by rw [List.append_assoc, List.getElem?_append_left h1] at hi; exact hi
        have := a6 i x e1 y hy hl hd
        have et : (n1 ++ [p] ++ n2).take i = n1.take i := by rw [List.append_assoc, List.take_append_of_le_length (by omega)]
        rw [et]; exact this
      · by_cases h2 : i = n1.length
        · subst h2
          have e1 : x = p := by
            rw [List.append_assoc, List.getElem?_append_right (Nat.le_refl _), Nat.sub_self] at hi
            simpa using hi.symm
          subst e1
          have := a5 y hy hl hd
          rw [a1] at this
          have et : (n1 ++ [x] ++ n2).take n1.length = n1 := by rw [List.append_assoc]; exact List.take_left
          rw [et]; exact this
        · have e1 : n2[i - n1.length - 1]? = some x := by
            rw [List.append_assoc, List.getElem?_append_right (by omega), List.singleton_append] at hi
            obtain ⟨j, hj⟩ : ∃ j, i - n1.length = j + 1 := ⟨i - n1.length - 1, by omega⟩
            rw [hj] at hi ⊢
            simpa using hi
          have := b6 _ x e1 y hy hl hd
          rw [a1] at this
          exact hin y (.inr this) (by omega)
theorem vis_spec0 {m : GM} {dn : Hs → Bool} (hg : ∀ x, ¬ Reach (parsM m) (parsM m x) x) {hs : List Hs} {T : WSt} (h : VisL m dn hs ([], []) T) :
    (∀ x, x ∈ T.1 ↔ x ∈ T.2) ∧ T.2.Nodup ∧ (∀ x ∈ T.2, (look m x).isSome = true ∧ dn x = false ∧ Reach (parsM m) hs x) ∧
      (∀ p ∈ hs, (look m p).isSome = true → dn p = false → p ∈ T.2) ∧ (∀ i x, T.2[i]? = some x → ∀ y ∈ parsM m x, (look m y).isSome = true → dn y = false → y ∈ T.2.take i) := by
  obtain ⟨new, h1, h2, h3, h4, h5, h6⟩ := vis_spec hg h (by simp) (by simp)
  simp only [List.nil_append] at h1 h6
  subst h1
  refine ⟨fun x => by rw [h2]; simp, h3, fun x hx => ?_, h5, h6⟩
  obtain ⟨_, b, c, d⟩ := h4 x hx
  exact ⟨b, c, d⟩
theorem nodup_at {l : List Hs} (h : l.Nodup) {i j : Nat} {x : Hs} (hi : l[i]? = some x) (hj : l[j]? = some x) : i = j := by
  obtain ⟨a, ha⟩ := List.getElem?_eq_some_iff.1 hi
  obtain ⟨b, hb⟩ := List.getElem?_eq_some_iff.1 hj
  exact (List.getElem_inj h).1 (by rw [ha, hb])
end Gv.Tryz
/- Adding commits: a graph that may be stays one; graphs that say alike. -/
set_option linter.unusedVariables false
set_option linter.unusedSimpArgs false
set_option maxRecDepth 20000
namespace Gv.Tryz
open Go Gv Go.Proofs
theorem mset_keys {α : Type} (m : List (Hs × α)) (h : Hs) (v : α) : (mset m h v).map (·.1) = if (look m h).isSome = true then m.map (·.1) else m.map (·.1) ++ [h] := by
  induction m with
  | nil => simp [mset, look]
  | cons p r ih =>
    rw [mset, look]
    by_cases e : h = p.1
    · rw [if_pos e, if_pos e]; simp [e]
    · rw [if_neg e, if_neg e, List.map_cons, ih]
      split <;> simp
theorem key_look {α : Type} {m : List (Hs × α)} {x : Hs} (h : x ∈ m.map (·.1)) : (look m x).isSome = true := by
  induction m with
  | nil => cases h
  | cons p r ih =>
    rw [look]
    by_cases e : x = p.1
    · rw [if_pos e]; rfl
    · rw [if_neg e]
      rw [List.map_cons] at h
      rcases List.mem_cons.1 h with q | q
      · exact absurd q e
      · exact ih q
theorem join_spec : ∀ {cs : List Cm} {m M : GM}, joinP m cs = .ok M → (m.map (·.1)).Nodup → (M.map (·.1)).Nodup ∧ (∀ h l, look m h = some l → look M h = some l) ∧ (∀ c ∈ cs, look M c.1 = some c.2) ∧ (∀ h l, look M h = some l → look m h = some l ∨ (h, l) ∈ cs)
  | [], m, M, h, hk => by
    rw [joinP] at h; cases h
    exact ⟨hk, fun _ _ h => h, by simp, fun _ _ h => .inl h⟩
  | c :: r, m, M, h, hk => by
    rw [joinP] at h
    unfold joinE at h
    cases el : look m c.1 with
    | some l =>
      simp only [el] at h
      split at h
      · rename_i m' e
        split at e
        · rename_i e2
          cases e
          obtain ⟨h1, h2, h3, h4⟩ := join_spec h hk
          refine ⟨h1, h2, fun d hd => ?_, fun x l hx => (h4 x l hx).imp id fun q => List.mem_cons_of_mem _ q⟩
          rcases List.mem_cons.1 hd with q | q
          · rw [q, h2 _ _ el, e2]
          · exact h3 d q
        · cases e
      · cases h
    | none =>
      simp only [el] at h
      have hk' : ((mset m c.1 c.2).map (·.1)).Nodup := by
        rw [mset_keys, el]
        simp only [Option.isSome_none, Bool.false_eq_true, if_false]
        rw [List.nodup_append]
        refine ⟨hk, by simp, fun a ha b hb e => ?_⟩
        rw [List.mem_singleton.1 hb] at e
        have := key_look ha
        rw [e, el] at this; cases this
      obtain ⟨h1, h2, h3, h4⟩ := join_spec h hk'
      refine ⟨h1, fun x l hx => h2 x l ?_, fun d hd => ?_, fun x l hx => ?_⟩
      · rw [look_mset, if_neg (fun e => by rw [e, el] at hx; cases hx)]; exact hx
      · rcases List.mem_cons.1 hd with q | q
        · rw [q]; exact h2 _ _ (by rw [look_mset, if_pos rfl])
        · exact h3 d q
      · rcases h4 x l hx with q | q
        · rw [look_mset] at q
          split at q
          · rename_i e
            cases q
            exact .inr (by rw [e]; simp)
          · exact .inl q
        · exact .inr (List.mem_cons_of_mem _ q)
theorem joined_ok {gr : Int} {m M : GM} {cs : List Cm} {hs : List Hs} (h : joinedP gr m cs hs = .ok M) : sizesP gr hs.length cs = none ∧ joinP m cs = .ok M ∧ lackP M cs hs = none ∧ roundP m M cs = none ∧ M.length ≤ 1000 := by
  unfold joinedP at h
  split at h
  · cases h
  · rename_i e1
    split at h
    · cases h
    · rename_i M' e2
      split at h
      · cases h
      · rename_i e3
        split at h
        · cases h
        · rename_i e4
          split at h
          · cases h
          · cases h
            exact ⟨e1, e2, e3, e4, by omega⟩
theorem lack_none {M : GM} {cs : List Cm} {hs : List Hs} (h : lackP M cs hs = none) : (∀ c ∈ cs, ∀ y ∈ c.2, (look M y).isSome = true) ∧ ∀ y ∈ hs, (look M y).isSome = true := by
  unfold lackP at h
  have hn : ∀ n y, nowhere M n y = none → (look M y).isSome = true := fun n y q => by
    unfold nowhere at q
    split at q
    · rename_i e; rw [e]; rfl
    · cases q
  split at h
  · cases h
  · rename_i e
    refine ⟨fun c hc y hy => ?_, fun y hy => hn 11 y (List.findSome?_eq_none_iff.1 h y hy)⟩
    exact hn 10 y (List.findSome?_eq_none_iff.1 (List.findSome?_eq_none_iff.1 e c hc) y hy)
theorem joined_good {gr : Int} {m M : GM} {cs : List Cm} {hs : List Hs} (hm : Good m) (h : joinedP gr m cs hs = .ok M) : Good M := by
  obtain ⟨e1, e2, e3, e4, e5⟩ := joined_ok h
  obtain ⟨_, _, _, n4⟩ := sizesP_none e1
  obtain ⟨_, r2⟩ := joinP_ok e2 hm.ok.row fun c hc => (n4 c hc).1
  obtain ⟨k1, k2, k3, k4⟩ := join_spec e2 hm.keys
  obtain ⟨l1, _⟩ := lack_none e3
  refine ⟨⟨e5, r2⟩, k1, fun x y hy => ?_, fun x hx => ?_⟩
  · cases el : look M x with
    | none => rw [parsM_none el] at hy; cases hy
    | some l =>
      rw [parsM_some el] at hy
      rcases k4 x l el with q | q
      · have := hm.closed x y (by rw [parsM_some q]; exact hy)
        obtain ⟨z, hz⟩ := Option.isSome_iff_exists.1 this
        rw [k2 y z hz]; rfl
      · exact l1 _ q y hy
  · cases el : look M x with
    | none => rw [parsM_none el] at hx; exact hx.nil
    | some l =>
      rw [parsM_some el] at hx
      cases eo : look m x with
      | some l' =>
        have e : l' = l := by
          have := k2 x l' eo
          rw [el] at this; cases this; rfl
        subst e
        have : ∀ z, Reach (parsM M) l' z → Reach (parsM m) l' z ∧ (look m z).isSome = true := fun z hz => by
          induction hz with
          | base z hz => exact ⟨.base z hz, hm.closed x z (by rw [parsM_some eo]; exact hz)⟩
          | step z y _ hy ih =>
            obtain ⟨lz, hlz⟩ := Option.isSome_iff_exists.1 ih.2
            rw [parsM_some (k2 z lz hlz)] at hy
            have hy' : y ∈ parsM m z := by rw [parsM_some hlz]; exact hy
            exact ⟨.step z y ih.1 hy', hm.closed z y hy'⟩
        exact hm.acyc x (by rw [parsM_some eo]; exact (this x hx).1)
      | none =>
        rcases k4 x l el with q | q
        · rw [eo] at q; cases q
        · unfold roundP at e4
          have := List.findSome?_eq_none_iff.1 e4 _ q
          unfold roundE at this
          rw [eo] at this
          simp only [Option.isSome_none, Bool.false_eq_true, if_false] at this
          split at this
          · cases this
          · rename_i hn; exact hn hx
def Alike (m m' : GM) : Prop := ∀ h, look m h = look m' h
theorem Alike.pars {m m' : GM} (h : Alike m m') : parsM m = parsM m' := funext fun x => by unfold parsM; rw [h x]
theorem Alike.len {m m' : GM} (h : Alike m m') (k : (m.map (·.1)).Nodup) (k' : (m'.map (·.1)).Nodup) : m.length = m'.length := by
  have a := nodup_lenH _ (m'.map (·.1)) k fun x hx => look_key (by rw [← h x]; exact key_look hx)
  have b := nodup_lenH _ (m.map (·.1)) k' fun x hx => look_key (by rw [h x]; exact key_look hx)
  simp only [List.length_map] at a b
  omega
theorem Alike.symm {m m' : GM} (h : Alike m m') : Alike m' m := fun x => (h x).symm
end Gv.Tryz
/- Contracts: the reference's graph: find, Has, Parents. -/
set_option linter.unusedVariables false
set_option linter.unusedSimpArgs false
set_option maxRecDepth 20000
set_option maxHeartbeats 4000000
namespace Gv.Tryz
open Go Gv Go.Proofs
theorem GLes_com (h : Hs) (l : List Hs) (t : Tag) : GLes (bytesG h.1 ++ [.slice (hsG l) t]) (comG (h, l)) := GLes.app (GLes.refl _) ⟨GLe.none, trivial⟩
end Gv.Tryz
/- OrderLong: a line of commits: plain laws. -/
set_option linter.unusedVariables false
set_option linter.unusedSimpArgs false
set_option maxRecDepth 20000
namespace Gv.Tryz
open Go Gv Go.Proofs
def hL (k : Nat) : Hs := hq (UInt8.ofNat (k / 256)) (UInt8.ofNat k) 1
def cL (k : Nat) : Cm := (hL k, if k = 0 then [] else [hL (k - 1)])
def seg (a j : Nat) : List Cm := (List.range j).map fun i => cL (a + i)
abbrev chain (n : Nat) : GM := seg 0 n
end Gv.Tryz
/- Commits put into a sorted list; a list with a hash twice. -/
set_option linter.unusedVariables false
set_option linter.unusedSimpArgs false
set_option maxRecDepth 20000
namespace Gv.Tryz
open Go Gv Go.Proofs
end Gv.Tryz
/- Plain laws of GraphUnion. -/
set_option linter.unusedVariables false
set_option linter.unusedSimpArgs false
namespace Gv.Tryz
open Go Gv Go.Proofs
end Gv.Tryz
/- Numbers of commits: plain laws. -/
set_option linter.unusedVariables false
set_option linter.unusedSimpArgs false
namespace Gv.Tryz
open Go Gv Go.Proofs
def UpL (m : GM) : List Hs → List Hs → Prop
  | _, [] => True
  | acc, x :: r => (∀ y ∈ parsM m x, y ∈ acc) ∧ UpL m (acc ++ [x]) r
theorem UpL.app {m : GM} : ∀ (a b acc : List Hs), UpL m acc (a ++ b) ↔ UpL m acc a ∧ UpL m (acc ++ a) b
  | [], b, acc => by simp [UpL]
  | x :: r, b, acc => by
    rw [List.cons_append, UpL, UpL, UpL.app r b (acc ++ [x]), and_assoc]
    simp
theorem UpL.filter {m : GM} (p : Hs → Bool) : ∀ (l acc acc' : List Hs), (∀ y ∈ acc, y ∈ acc') → (∀ y ∈ l, p y = false → y ∈ acc') → UpL m acc l → UpL m acc' (l.filter p)
  | [], _, _, _, _, _ => trivial
  | x :: r, acc, acc', h1, h2, h => by
    rw [UpL] at h
    rw [List.filter_cons]
    cases hp : p x with
    | true =>
      rw [if_pos rfl, UpL]
      refine ⟨fun y hy => h1 y (h.1 y hy), UpL.filter p r _ _ (fun y hy => ?_) (fun y hy hpy => List.mem_append_left _ (h2 y (by simp [hy]) hpy)) h.2⟩
      rcases List.mem_append.1 hy with q | q
      · exact List.mem_append_left _ (h1 y q)
      · exact List.mem_append_right _ q
    | false =>
      rw [if_neg (by simp)]
      refine UpL.filter p r _ _ (fun y hy => ?_) (fun y hy hpy => h2 y (by simp [hy]) hpy) h.2
      rcases List.mem_append.1 hy with q | q
      · exact h1 y q
      · rw [List.mem_singleton.1 q]; exact h2 x (by simp) hp
theorem UpL.of {m : GM} {T acc : List Hs} (h : ∀ (i : Nat) x, T[i]? = some x → ∀ y ∈ parsM m x, y ∈ acc ∨ y ∈ T.take i) : UpL m acc T := by
  have : ∀ b a : List Hs, T = a ++ b → UpL m (acc ++ a) b := by
    intro b
    induction b with
    | nil => exact fun _ _ => trivial
    | cons x r ih =>
      intro a e
      rw [UpL]
      refine ⟨fun y hy => ?_, ?_⟩
      · have hx : T[a.length]? = some x := by rw [e, List.getElem?_append_right (Nat.le_refl _), Nat.sub_self]; rfl
        have ht : T.take a.length = a := by rw [e]; exact List.take_left
        have := h a.length x hx y hy
        rw [ht] at this
        exact List.mem_append.2 this
      · rw [List.append_assoc]
        exact ih (a ++ [x]) (by rw [e]; simp)
  have := this T [] rfl
  rwa [List.append_nil] at this
theorem UpL.at_ {m : GM} : ∀ {l acc : List Hs}, UpL m acc l → ∀ (i : Nat) (x : Hs), l[i]? = some x → ∀ y ∈ parsM m x, y ∈ acc ++ l.take i
  | [], acc, _, i, x, hi, y, hy => by simp at hi
  | z :: r, acc, h, 0, x, hi, y, hy => by
    simp at hi; subst hi
    rw [UpL] at h
    simpa using h.1 y hy
  | z :: r, acc, h, i + 1, x, hi, y, hy => by
    rw [UpL] at h
    have := UpL.at_ h.2 i x (by simpa using hi) y hy
    simpa using this
theorem UpL.congr {m m1 : GM} : ∀ (l acc : List Hs), (∀ x ∈ l, parsM m1 x = parsM m x) → UpL m acc l → UpL m1 acc l
  | [], _, _, _ => trivial
  | x :: r, acc, h, hu => by
    rw [UpL] at hu ⊢
    rw [h x (by simp)]
    exact ⟨hu.1, UpL.congr r _ (fun y hy => h y (by simp [hy])) hu.2⟩
structure NumOK (m : GM) (M O : List Hs) : Prop where
  nd : (M ++ O).Nodup
  all : ∀ x, x ∈ M ++ O ↔ (look m x).isSome = true
  up : UpL m [] (M ++ O)
theorem numK_no {l : List Hs} {b : Int} {a : List (Hs × Int)} {x : Hs} : ∀ {k : Nat}, k ≤ l.length → x ∉ l.take k → look (numK l b a k) x = look a x
  | 0, _, _ => rfl
  | k + 1, hk, hx => by
    rw [takeH (by omega)] at hx
    simp only [List.mem_append, List.mem_singleton, not_or] at hx
    rw [numK, look_mset, if_neg hx.2]
    exact numK_no (by omega) hx.1
theorem getD_at {l : List Hs} {j : Nat} {x : Hs} (h : l[j]? = some x) : l.getD j h0 = x := by simp [List.getD, h]
theorem numK_at {l : List Hs} {b : Int} {a : List (Hs × Int)} (hn : l.Nodup) {j : Nat} {x : Hs} (hx : l[j]? = some x) : ∀ {k : Nat}, j < k → k ≤ l.length → look (numK l b a k) x = some (b + j)
  | 0, h, _ => by omega
  | k + 1, h, hk => by
    rw [numK, look_mset]
    by_cases e : j = k
    · subst e
      rw [if_pos (getD_at hx).symm]
    · have hne : x ≠ l.getD k h0 := fun q => by
        have h2 : l[k]? = some x := by
          rw [List.getElem?_eq_getElem (by omega)]
          rw [List.getD_eq_getElem?_getD, List.getElem?_eq_getElem (by omega)] at q
          exact congrArg some q.symm
        exact e (nodup_at hn hx h2)
      rw [if_neg hne]
      exact numK_at hn hx (by omega) (by omega)
theorem id_m {M O : List Hs} (hn : (M ++ O).Nodup) {j : Nat} {x : Hs} (hx : M[j]? = some x) : look (ofM M O) x = some (j : Int) := by
  obtain ⟨h1, h2, h3⟩ := List.nodup_append.1 hn
  have hxM : x ∈ M := List.mem_of_getElem? hx
  rw [ofM, numK_no (Nat.le_refl _) (fun q => by rw [List.take_length] at q; exact h3 x hxM x q rfl), numK_at h1 hx (List.getElem?_eq_some_iff.1 hx).1 (Nat.le_refl _), Int.zero_add]
theorem id_o {M O : List Hs} (hn : (M ++ O).Nodup) {j : Nat} {x : Hs} (hx : O[j]? = some x) : look (ofM M O) x = some (1099511627776 + (j : Int)) := by
  obtain ⟨h1, h2, h3⟩ := List.nodup_append.1 hn
  rw [ofM, numK_at h2 hx (List.getElem?_eq_some_iff.1 hx).1 (Nat.le_refl _)]
theorem id_no {M O : List Hs} {x : Hs} (hx : x ∉ M ++ O) : look (ofM M O) x = none := by
  simp only [List.mem_append, not_or] at hx
  rw [ofM, numK_no (Nat.le_refl _) (by rw [List.take_length]; exact hx.2), numK_no (Nat.le_refl _) (by rw [List.take_length]; exact hx.1)]
  rfl
theorem id_some {M O : List Hs} (hn : (M ++ O).Nodup) (x : Hs) : (look (ofM M O) x).isSome = decide (x ∈ M ++ O) := by
  by_cases h : x ∈ M ++ O
  · rw [decide_eq_true h]
    rcases List.mem_append.1 h with q | q
    · obtain ⟨j, hj⟩ := List.getElem?_of_mem q
      rw [id_m hn hj]; rfl
    · obtain ⟨j, hj⟩ := List.getElem?_of_mem q
      rw [id_o hn hj]; rfl
  · rw [decide_eq_false h, id_no h]; rfl
theorem id_master {M O : List Hs} (hn : (M ++ O).Nodup) (hl : M.length ≤ 1000000) (x : Hs) : masterB (ofM M O) x = decide (x ∈ M) := by
  unfold masterB
  by_cases h : x ∈ M
  · obtain ⟨j, hj⟩ := List.getElem?_of_mem h
    have := (List.getElem?_eq_some_iff.1 hj).1
    rw [decide_eq_true h, id_m hn hj]
    exact decide_eq_true (by show (j : Int) < 1099511627776; omega)
  · rw [decide_eq_false h]
    by_cases h2 : x ∈ O
    · obtain ⟨j, hj⟩ := List.getElem?_of_mem h2
      rw [id_o hn hj]
      exact decide_eq_false (by show ¬ (1099511627776 + (j : Int)) < 1099511627776; omega)
    · rw [id_no (by simp [h, h2])]
theorem reach_pars {m : GM} {M : List Hs} (hu : UpL m [] M) {z y : Hs} (hz : z ∈ M) (hy : y ∈ parsM m z) : y ∈ M := by
  obtain ⟨i, hi⟩ := List.getElem?_of_mem hz
  have := hu.at_ i z hi y hy
  rw [List.nil_append] at this
  exact List.mem_of_mem_take this
theorem num_step {m m1 : GM} {M O : List Hs} (h : NumOK m M O) (hg1 : Good m1) (hext : ∀ x l, look m x = some l → look m1 x = some l) {gr : Int} {hs : List Hs} {cs : List Cm}
    (hcs : ∀ x, (look m1 x).isSome = true → (look m x).isSome = true ∨ x ∈ cs.map (·.1)) {M1 O1 : List Hs} (hMl : M.length ≤ 1000000)
    (hcase : (gr ≠ 1 ∧ M1 = M ∧ O1 = O) ∨ (gr = 1 ∧ ∃ T1 : WSt, VisL m1 (masterB (ofM M O)) hs ([], []) T1 ∧ M1 = M ++ T1.2 ∧ O1 = woL O T1.2))
    {T2 : WSt} (hT2 : VisL m1 (fun h => (look (ofM M1 O1) h).isSome) (hs ++ cs.map (·.1)) ([], []) T2) :
    NumOK m1 M1 (O1 ++ T2.2) ∧ ∀ x, x ∈ M1 ↔ x ∈ M ∨ (gr = 1 ∧ Reach (parsM m1) (inM m1 hs) x) := by
  have hth : ∀ x, (look m x).isSome = true → (look m1 x).isSome = true ∧ parsM m1 x = parsM m x := fun x hx => by
    obtain ⟨l, hl⟩ := Option.isSome_iff_exists.1 hx
    exact ⟨by rw [hext x l hl]; rfl, by rw [parsM_some hl, parsM_some (hext x l hl)]⟩
  have up1 : UpL m1 [] (M ++ O) := UpL.congr _ _ (fun x hx => (hth x ((h.all x).1 hx)).2) h.up
  obtain ⟨upM, upO⟩ := (UpL.app M O []).1 up1
  rw [List.nil_append] at upO
  obtain ⟨nM, nO, nMO⟩ := List.nodup_append.1 h.nd
  have key : (M1 ++ O1).Nodup ∧ (∀ x ∈ M1 ++ O1, (look m1 x).isSome = true) ∧ UpL m1 [] (M1 ++ O1) ∧ (∀ x ∈ M ++ O, x ∈ M1 ++ O1) ∧ ∀ x, x ∈ M1 ↔ x ∈ M ∨ (gr = 1 ∧ Reach (parsM m1) (inM m1 hs) x) := by
    rcases hcase with ⟨hg, rfl, rfl⟩ | ⟨hg, T1, hT1, rfl, rfl⟩
    · exact ⟨h.nd, fun x hx => (hth x ((h.all x).1 hx)).1, up1, fun x hx => hx, fun x => ⟨.inl, fun q => q.elim id fun e => absurd e.1 hg⟩⟩
    · obtain ⟨_, t1, t2, t3, t4⟩ := vis_spec0 hg1.acyc hT1
      have hmb : ∀ x, masterB (ofM M O) x = decide (x ∈ M) := id_master h.nd hMl
      have tM : ∀ x ∈ T1.2, x ∉ M := fun x hx q => by
        have := (t2 x hx).2.1
        rw [hmb, decide_eq_true q] at this; cases this
      have hwo : ∀ x, x ∈ woL O T1.2 ↔ x ∈ O ∧ x ∉ T1.2 := fun x => by unfold woL; rw [List.mem_filter]; simp
      refine ⟨?_, fun x hx => ?_, ?_, fun x hx => ?_, fun x => ?_⟩
      · rw [List.nodup_append, List.nodup_append]
        refine ⟨⟨nM, t1, fun a ha b hb e => tM b hb (e ▸ ha)⟩, nO.sublist List.filter_sublist, fun a ha b hb e => ?_⟩
        obtain ⟨q1, q2⟩ := (hwo b).1 hb
        rcases List.mem_append.1 ha with q | q
        · exact nMO a q b q1 e
        · exact q2 (e ▸ q)
      · rcases List.mem_append.1 hx with q | q
        · rcases List.mem_append.1 q with q | q
          · exact (hth x ((h.all x).1 (List.mem_append_left _ q))).1
          · exact (t2 x q).1
        · exact (hth x ((h.all x).1 (List.mem_append_right _ ((hwo x).1 q).1))).1
      · rw [UpL.app, UpL.app]
        rw [List.nil_append, List.nil_append]
        refine ⟨⟨upM, UpL.of fun i x hi y hy => ?_⟩, ?_⟩
        · by_cases q : y ∈ M
          · exact .inl q
          · exact .inr (t4 i x hi y hy (hg1.closed x y hy) (by rw [hmb]; exact decide_eq_false q))
        · exact UpL.filter _ O M _ (fun y hy => List.mem_append_left _ hy) (fun y _ hp => List.mem_append_right _ (by simpa using hp)) upO
      · by_cases q : x ∈ T1.2
        · exact List.mem_append_left _ (List.mem_append_right _ q)
        · rcases List.mem_append.1 hx with r | r
          · exact List.mem_append_left _ (List.mem_append_left _ r)
          · exact List.mem_append_right _ ((hwo x).2 ⟨r, q⟩)
      · rw [List.mem_append]
        constructor
        · rintro (q | q)
          · exact .inl q
          · obtain ⟨a, _, c⟩ := t2 x q
            exact .inr ⟨hg, c.inM a⟩
        · rintro (q | ⟨_, q⟩)
          · exact .inl q
          · induction q with
            | base x hx =>
              obtain ⟨a, b⟩ := List.mem_filter.1 hx
              by_cases q : x ∈ M
              · exact .inl q
              · exact .inr (t3 x a b (by rw [hmb]; exact decide_eq_false q))
            | step z y _ hy ih =>
              rcases ih with r | r
              · exact .inl (reach_pars upM r hy)
              · by_cases q : y ∈ M
                · exact .inl q
                · obtain ⟨i, hi⟩ := List.getElem?_of_mem r
                  exact .inr (List.mem_of_mem_take (t4 i z hi y hy (hg1.closed z y hy) (by rw [hmb]; exact decide_eq_false q)))
  obtain ⟨k1, k2, k3, k4, k5⟩ := key
  refine ⟨?_, k5⟩
  obtain ⟨_, t1, t2, t3, t4⟩ := vis_spec0 hg1.acyc hT2
  have hdn : ∀ x, (look (ofM M1 O1) x).isSome = decide (x ∈ M1 ++ O1) := id_some k1
  have tN : ∀ x ∈ T2.2, x ∉ M1 ++ O1 := fun x hx q => by
    have := (t2 x hx).2.1
    rw [hdn, decide_eq_true q] at this; cases this
  refine ⟨?_, fun x => ?_, ?_⟩
  · rw [← List.append_assoc, List.nodup_append]
    exact ⟨k1, t1, fun a ha b hb e => tN b hb (e ▸ ha)⟩
  · rw [← List.append_assoc, List.mem_append]
    constructor
    · rintro (q | q)
      · exact k2 x q
      · exact (t2 x q).1
    · intro hx
      by_cases q : x ∈ M1 ++ O1
      · exact .inl q
      · rcases hcs x hx with r | r
        · exact absurd (k4 x ((h.all x).2 r)) q
        · exact .inr (t3 x (List.mem_append_right _ r) hx (by rw [hdn]; exact decide_eq_false q))
  · rw [← List.append_assoc, UpL.app, List.nil_append]
    refine ⟨k3, UpL.of fun i x hi y hy => ?_⟩
    by_cases q : y ∈ M1 ++ O1
    · exact .inl q
    · exact .inr (t4 i x hi y hy (hg1.closed x y hy) (by rw [hdn]; exact decide_eq_false q))
end Gv.Tryz
/- Contracts: the reference's round. -/
set_option linter.unusedVariables false
set_option linter.unusedSimpArgs false
set_option maxRecDepth 20000
set_option maxHeartbeats 4000000
namespace Gv.Tryz
open Go Gv Go.Proofs
open Nat (reduceEqDiff reduceAdd reduceSub reduceLeDiff reduceMul reduceLT)
theorem hIn (l : List Hs) (t : Tag) (h : Hs) (hl : l.length ≤ 4398046511104) : GPure Tryz.prog 21 [.slice (hsG l) t, .agg (bytesG h.1)] (.bool (decide (h ∈ l))) := by
  refine h21.pure mixS (by simp) ?_
  simp only [gstart, s21, List.cons_append, List.nil_append, List.length_cons, List.length_nil, reduceAdd, reduceSub, List.replicate_succ, List.replicate_zero]
  simp +contextual -implicitDefEqProofs (maxSteps := 2000000) (disch := omega) only [drawC, drawK, keepT, ↓lenV, binV, ↓loadV, ↓indexAddrV, ↓boxV, GVal.cells, GVal.ofConst, ↓resV, resG, ↓reduceIte, reduceEqDiff, reduceAdd, reduceSub, reduceLeDiff, reduceCtorEq, aggV, Tag.cap, GVal.solid, Nat.reduceBEq, reduceMul, reduceLT, vcA, ↓vcB, vcC, fbFy, e21, vcD, v32]
  refine vcSLoop_by (ι := { k : Nat // k ≤ l.length ∧ h ∉ l.take k }) (fun k => ⟨[.slice (hsG l) t, .any, .any, .ref (bytesG h.1), .any, .int .i64 (k.1 : Nat)] ++ List.replicate 12 .any, []⟩) (fun k => l.length - k.1) ?_ ?_
  · exact Into.first ⟨0, by omega, by simp⟩ ⟨[], by simp⟩ (by simp [WL, leG_self, leG_any, leG_int])
  · rintro ⟨k, hk, he⟩
    by_cases h' : k < l.length
    · have d0 : ((k : Int) < (l.length : Int)) = True := eq_true (by omega)
      have ea := hsG_at l k h'
      obtain ⟨x, ex⟩ : ∃ x, l.getD k h0 = x := ⟨_, rfl⟩
      rw [ex] at ea
      have ht := takeH h'
      rw [ex] at ht
      have ce := cellsEq_hs x h
      by_cases e : x = h
      · rw [decide_eq_true e] at ce
        have em : h ∈ l := List.mem_of_mem_take (i := k + 1) (by rw [ht, e]; simp)
        rw [decide_eq_true em]
        simp +contextual -implicitDefEqProofs (maxSteps := 2000000) (disch := omega) only [drawC, drawK, keepT, ↓lenV, binV, ↓loadV, ↓indexAddrV, ↓boxV, GVal.cells, GVal.ofConst, ↓resV, resG, ↓reduceIte, reduceEqDiff, reduceAdd, reduceSub, reduceLeDiff, reduceCtorEq, aggV, Tag.cap, GVal.solid, Nat.reduceBEq, reduceMul, reduceLT, vcA, ↓vcB, vcC, fbFy, e21, d0, ea, hsG_len, ce, vcD, v32]
        omega
      · rw [decide_eq_false e] at ce
        simp +contextual -implicitDefEqProofs (maxSteps := 2000000) (disch := omega) only [drawC, drawK, keepT, ↓lenV, binV, ↓loadV, ↓indexAddrV, ↓boxV, GVal.cells, GVal.ofConst, ↓resV, resG, ↓reduceIte, reduceEqDiff, reduceAdd, reduceSub, reduceLeDiff, reduceCtorEq, aggV, Tag.cap, GVal.solid, Nat.reduceBEq, reduceMul, reduceLT, vcA, ↓vcB, vcC, fbFy, e21, d0, ea, hsG_len, ce, vcD, v32]
        refine ⟨by omega, ?_⟩
        refine Into.at ⟨k + 1, by omega, ?_⟩ (by show l.length - (k + 1) < l.length - k; omega) ⟨[], by simp⟩ (by simp [WL, leG_self, leG_any, leG_int])
        rw [ht]
        intro q
        rcases List.mem_append.1 q with q | q
        · exact he q
        · exact e (List.mem_singleton.1 q).symm
    · have d0 : ((k : Int) < (l.length : Int)) = False := eq_false (by omega)
      rw [List.take_of_length_le (by omega)] at he
      rw [decide_eq_false he]
      simp +contextual -implicitDefEqProofs (maxSteps := 2000000) (disch := omega) only [drawC, drawK, keepT, ↓lenV, binV, ↓loadV, ↓indexAddrV, ↓boxV, GVal.cells, GVal.ofConst, ↓resV, resG, ↓reduceIte, reduceEqDiff, reduceAdd, reduceSub, reduceLeDiff, reduceCtorEq, aggV, Tag.cap, GVal.solid, Nat.reduceBEq, reduceMul, reduceLT, vcA, ↓vcB, vcC, fbFy, e21, d0, hsG_len, vcD]
end Gv.Tryz
/- Numbers of commits: what the law asks of them; contracts in its memory. -/
set_option linter.unusedVariables false
set_option linter.unusedSimpArgs false
set_option maxRecDepth 20000
set_option maxHeartbeats 4000000
namespace Gv.Tryz
open Go Gv Go.Proofs
open Nat (reduceEqDiff reduceAdd reduceSub reduceLeDiff reduceMul reduceLT)
theorem inM_memI {m : GM} {l : List Hs} {x : Hs} : x ∈ inM m l ↔ x ∈ l ∧ (look m x).isSome = true := by unfold inM; exact List.mem_filter
theorem reach_app {m : GM} {nx : Hs → List Hs} {a b : List Hs} {x : Hs} : Reach nx (inM m (a ++ b)) x ↔ Reach nx (inM m a) x ∨ Reach nx (inM m b) x := by
  constructor
  · intro h
    induction h with
    | base x hx =>
      obtain ⟨h1, h2⟩ := inM_memI.1 hx
      rcases List.mem_append.1 h1 with q | q
      · exact .inl (.base x (inM_memI.2 ⟨q, h2⟩))
      · exact .inr (.base x (inM_memI.2 ⟨q, h2⟩))
    | step z y _ hy ih => exact ih.imp (fun q => .step z y q hy) (fun q => .step z y q hy)
  · rintro (h | h)
    · exact h.sub fun y hy => by obtain ⟨h1, h2⟩ := inM_memI.1 hy; exact inM_memI.2 ⟨List.mem_append_left _ h1, h2⟩
    · exact h.sub fun y hy => by obtain ⟨h1, h2⟩ := inM_memI.1 hy; exact inM_memI.2 ⟨List.mem_append_right _ h1, h2⟩
theorem reach_thereI {m : GM} (hc : ∀ x y, y ∈ parsM m x → (look m y).isSome = true) {l : List Hs} {x : Hs} (h : Reach (parsM m) (inM m l) x) : (look m x).isSome = true := by
  cases h with
  | base x hx => exact (inM_memI.1 hx).2
  | step z x _ hx => exact hc z x hx
theorem reach_ext {m m1 : GM} (hm : Good m) (hext : ∀ x l, look m x = some l → look m1 x = some l) {l : List Hs} (hl : ∀ x ∈ l, (look m x).isSome = true) (x : Hs) : Reach (parsM m1) (inM m1 l) x ↔ Reach (parsM m) (inM m l) x := by
  have hth : ∀ x, (look m x).isSome = true → (look m1 x).isSome = true ∧ parsM m1 x = parsM m x := fun x hx => by
    obtain ⟨l, hl⟩ := Option.isSome_iff_exists.1 hx
    exact ⟨by rw [hext x l hl]; rfl, by rw [parsM_some hl, parsM_some (hext x l hl)]⟩
  constructor
  · intro h
    induction h with
    | base x hx => have := (inM_memI.1 hx).1; exact .base x (inM_memI.2 ⟨this, hl x this⟩)
    | step z y _ hy ih => exact .step z y ih (by rw [← (hth z (reach_thereI hm.closed ih)).2]; exact hy)
  · intro h
    induction h with
    | base x hx => obtain ⟨a, b⟩ := inM_memI.1 hx; exact .base x (inM_memI.2 ⟨a, (hth x b).1⟩)
    | step z y hz hy ih => exact .step z y ih (by rw [(hth z (reach_thereI hm.closed hz)).2]; exact hy)
theorem same_len {a b : List Hs} (ha : a.Nodup) (hb : b.Nodup) (h : ∀ x, x ∈ a ↔ x ∈ b) : a.length = b.length :=
  Nat.le_antisymm (nodup_lenH a b ha fun x hx => (h x).1 hx) (nodup_lenH b a hb fun x hx => (h x).2 hx)
theorem joined_add {gr : Int} {m M : GM} {cs : List Cm} {hs : List Hs} (h : joinedP gr m cs hs = .ok M) : joinedP 2 m cs [] = .ok M := by
  obtain ⟨e1, e2, e3, e4, e5⟩ := joined_ok h
  obtain ⟨n1, n2, n3, n4⟩ := sizesP_none e1
  have h1 : sizesP 2 0 cs = none := by
    unfold sizesP at e1 ⊢
    split at e1
    · cases e1
    · rw [if_neg (by unfold badReq; omega)]
      exact e1
  have h3 : lackP M cs [] = none := by
    unfold lackP at e3 ⊢
    cases hc : cs.findSome? (fun c => c.2.findSome? (nowhere M 10)) with
    | some e => rw [hc] at e3; cases e3
    | none => rfl
  unfold joinedP
  simp only [List.length_nil, h1, e2, h3, e4]
  rw [if_neg (by omega)]
noncomputable def chkP (gr : Int) (m : GM) (cs : List Cm) (hs : List Hs) : Er := match joinedP gr m cs hs with
  | .ok _ => none
  | .error e => some e
theorem iCheck (m : GM) (hm : GOK m) (cs : List Cm) (hs : List Hs) (th : Tag) (gr : Int) (st s : Nat) (hc : cs.length ≤ 1000000) (hh : hs.length ≤ 1000000) (hp : ∀ c ∈ cs, c.2.length ≤ 1000000) :
    GCalls Tryz.prog 10 [.ptr 0 st 0 0, .agg (reqG cs hs th gr)] (gObj st s m) (fun g O' => g = errV (chkP gr m cs hs) ∧ O' = gObj st s m) := by
  cases hj : joinedP gr m cs hs with
  | error e =>
    have : chkP gr m cs hs = some e := by unfold chkP; rw [hj]
    rw [this]
    have c1 := gJoinedBy m hm cs hs th gr st s hc hh hp
    rw [hj] at c1
    obtain ⟨ty, v, ev⟩ := errV_some e
    refine h10.calls mixS (by simp) ?_
    simp only [gstart, s10, List.cons_append, List.nil_append, List.length_cons, List.length_nil, reduceAdd, reduceSub, List.replicate_succ, List.replicate_zero]
    simp +contextual -implicitDefEqProofs (maxSteps := 2000000) (disch := omega) only [↓loadV, ↓boxV, GVal.cells, GVal.ofConst, ↓resV, resG, ↓reduceIte, reduceEqDiff, reduceAdd, reduceSub, reduceLeDiff, reduceCtorEq, Tag.cap, GVal.solid, Nat.reduceBEq, reduceMul, reduceLT, vcA, ↓vcB, vcC, fbFy, e10, vcD]
    refine c1.mono ?_
    rintro g O' ⟨s2, rfl, rfl⟩
    simp +contextual -implicitDefEqProofs (maxSteps := 2000000) (disch := omega) only [↓loadV, ↓boxV, GVal.cells, GVal.ofConst, ↓resV, resG, ↓reduceIte, reduceEqDiff, reduceAdd, reduceSub, reduceLeDiff, reduceCtorEq, Tag.cap, GVal.solid, Nat.reduceBEq, reduceMul, reduceLT, vcA, ↓vcB, vcC, fbFy, e10, jdV, jdO, ev, vcD]
  | ok M =>
    have : chkP gr m cs hs = none := by unfold chkP; rw [hj]
    rw [this]
    have c1 := gJoinedBy m hm cs hs th gr st s hc hh hp
    rw [hj] at c1
    refine GCalls.dropTo ?_
    refine h10.calls mixS (by simp) ?_
    simp only [gstart, s10, List.cons_append, List.nil_append, List.length_cons, List.length_nil, reduceAdd, reduceSub, List.replicate_succ, List.replicate_zero]
    simp +contextual -implicitDefEqProofs (maxSteps := 2000000) (disch := omega) only [↓loadV, ↓boxV, GVal.cells, GVal.ofConst, ↓resV, resG, ↓reduceIte, reduceEqDiff, reduceAdd, reduceSub, reduceLeDiff, reduceCtorEq, Tag.cap, GVal.solid, Nat.reduceBEq, reduceMul, reduceLT, vcA, ↓vcB, vcC, fbFy, e10, vcD]
    refine c1.mono ?_
    rintro g O' ⟨s2, rfl, rfl⟩
    simp +contextual -implicitDefEqProofs (maxSteps := 2000000) (disch := omega) only [↓loadV, ↓boxV, GVal.cells, GVal.ofConst, ↓resV, resG, ↓reduceIte, reduceEqDiff, reduceAdd, reduceSub, reduceLeDiff, reduceCtorEq, Tag.cap, GVal.solid, Nat.reduceBEq, reduceMul, reduceLT, vcA, ↓vcB, vcC, fbFy, e10, jdV, jdO, errV, vcD]
    exact ⟨.lit .nilIface, gObj st s m, [.map s2 (kvG encL M)], rfl, leA_refl _, rfl, rfl⟩
theorem iNew2 (m : GM) (st s : Nat) (n : Int) (h1 : 1 ≤ n) (h2 : n ≤ 600) : GCalls Tryz.prog 7 [.int .i64 n] (gObj st s m) (fun g O' => ∃ ti so, g = .tuple [.ptr 2 ti 0 0, .lit .nilIface] ∧ O' = gObj st s m ++ idO2 ti so n [] []) := by
  have d0 : (n < 1) = False := eq_false (by omega)
  have d1 : ((600 : Int) < n) = False := eq_false (by omega)
  have raw : GCalls Tryz.prog 7 [.int .i64 n] (gObj st s m) (fun g O' => ∃ ti so, g = .tuple [.ptr 3 ti 0 0, .lit .nilIface] ∧ O' = gObj st s m ++ [.map so [], .row ti 4 [[.int .i64 n, .slice [] .nil, .slice [] .nil, .map 2 so]]]) := by
    refine h7.calls mixS (by simp) ?_
    simp only [gstart, s7, List.cons_append, List.nil_append, List.length_cons, List.length_nil, reduceAdd, reduceSub, List.replicate_succ, List.replicate_zero]
    simp +contextual -implicitDefEqProofs (maxSteps := 2000000) (disch := omega) only [binV, ↓boxV, ↓buildV, ↓ifaceV, fillG, place, GVal.cells, GVal.ofConst, ↓resV, resG, ↓reduceIte, reduceEqDiff, reduceAdd, reduceSub, reduceLeDiff, reduceCtorEq, ↓makeMapV, Tag.cap, GVal.solid, Nat.reduceBEq, reduceMul, reduceLT, vcA, ↓vcB, vcC, fbFy, e7, d0, d1, vcD]
    exact fun so => ⟨rfl, fun ti => ⟨ti, so, rfl, rfl⟩⟩
  refine GCalls.into (raw.mono ?_)
  rintro g O' ⟨ti, so, rfl, rfl⟩ E v w hs hv
  obtain ⟨p1, p2⟩ := hs.pick (X := gObj st s m ++ idO2 ti so n [] []) [0, 1, 3, 2] ⟨⟨_, rfl, .refl _⟩, ⟨_, rfl, .refl _⟩, ⟨_, rfl, OLe.row ⟨⟨GLe.refl _, GLe.none, GLe.none, GLe.map _ _ _, trivial⟩, trivial⟩⟩, ⟨_, rfl, .refl _⟩, trivial⟩ (by decide) rfl
  exact ⟨.tuple [.ptr 2 ti 0 0, .lit .nilIface], _, E, ⟨ti, so, rfl, rfl⟩, p1, p2, GLe.tuple (xs := [.ptr 3 ti 0 0, .lit .nilIface]) (ys := [.ptr 2 ti 0 0, .lit .nilIface]) ⟨GLe.ptr _ _ _ _ _, GLe.refl _, trivial⟩ _ _ hv⟩
section
variable {f : FuncId} {args args' : List GVal} {r : GVal} {ti so : Nat} {n : Int} {M O : List Hs}
theorem iAt2 (h : GCalls Tryz.prog f (.ptr 0 ti 0 0 :: args) (idO ti so n M O) (fun g O' => g = r ∧ O' = idO ti so n M O)) (g1 g2 : GObj) (h1 : g1.isClock = false) (X : List GObj) : GCalls Tryz.prog f (.ptr 2 ti 0 0 :: args) (g1 :: g2 :: (idO2 ti so n M O ++ X)) (fun g O' => g = r ∧ O' = g1 :: g2 :: (idO2 ti so n M O ++ X)) :=
  GCalls.readAt h [2, 3] ⟨⟨_, rfl, OLe.row ⟨⟨GLe.refl _, GLe.refl _, GLe.refl _, GLe.map _ _ _, trivial⟩, trivial⟩⟩, ⟨_, rfl, .refl _⟩, trivial⟩ ⟨⟨_, rfl, OLe.row ⟨⟨GLe.refl _, GLe.refl _, GLe.refl _, GLe.map _ _ _, trivial⟩, trivial⟩⟩, ⟨_, rfl, .refl _⟩, trivial⟩ (by decide) ⟨GLe.ptr _ _ _ _ _, GLes.refl _⟩ rfl (by cases g1 <;> first | rfl | cases h1)
end
end Gv.Tryz
/- graph.Descendants, the ghost parts of its walk. -/
set_option linter.unusedVariables false
set_option linter.unusedSimpArgs false
set_option maxRecDepth 20000
set_option maxHeartbeats 4000000
namespace Gv.Tryz
open Go Gv Go.Proofs
open Nat (reduceEqDiff reduceAdd reduceSub reduceLeDiff reduceMul reduceLT)
abbrev dS (p0 p1 x5 x6 x7 x9 x15 x21 x22 x23 : GVal) : List GVal := [p0, p1, .any, .any, .any, x5, x6, x7, .any, x9, .any, .any, .any, .any, .any, x15, .any, .any, .any, .any, .any, x21, x22, x23, .any, .any, .any, .any, .any, .any, .any, .any, .any, .any, .any, .any, .any, .any, .any, .any, .any, .any]
theorem dR0 (p0 p1 : GVal) (O : List GObj) : vcS Tryz.prog [] s16_0 (vcN (NW (dS p0 p1 .any .any .any .any .any .any .any .any) O)) (gstart 42 [p0, p1] O) := by
  simp only [gstart, List.cons_append, List.nil_append, List.length_cons, List.length_nil, reduceAdd, reduceSub, List.replicate_succ, List.replicate_zero]
  skip
  simp +contextual -implicitDefEqProofs (maxSteps := 2000000) (disch := omega) only [↓lenV, binV, optV, ↓loadV, ↓storeV, ↓fieldAddrV, ↓indexAddrV, ↓allocV, ↓buildSliceV, ↓sliceV, ↓nilV, ↓appendV, ↓srcV, bound, cutTag, hiTag, fillE, GVal.cells, GVal.ofConst, ↓resV, resG, ↓reduceIte, reduceEqDiff, reduceAdd, reduceSub, reduceLeDiff, reduceCtorEq, ↓asrcV, ↓makeMapV, Tag.cap, GVal.solid, Nat.reduceBEq, reduceMul, reduceLT, vcA, ↓vcB, vcC, fbFy, e16, vcN, NW, leG_any, leG_self, and_true, true_and, vcD]
  try trivial
theorem dR1 (p0 p1 : GVal) (r0 : GObj) (hst : ∀ (r : List GObj) (K : Nat → Prop), stamp (r0 :: r) K = ∀ st, K st) (htk : ∀ r : List GObj, tickO (r0 :: r) = r0 :: r) : vcS Tryz.prog [] s16_1 (vcN fun st' => ∃ stC stb, NW (dS p0 p1 (.ptr 3 stb 0 0) .any .any .any .any .any .any .any) ([r0, .dead, .map stC [], .row stb 1 [[.map 2 stC]]]) st') ⟨dS p0 p1 .any .any .any .any .any .any .any .any, [r0, .dead]⟩ := by
  skip
  simp +contextual -implicitDefEqProofs (maxSteps := 2000000) (disch := omega) only [↓lenV, binV, optV, ↓loadV, ↓storeV, ↓fieldAddrV, ↓indexAddrV, ↓allocV, ↓buildSliceV, ↓sliceV, ↓nilV, ↓appendV, ↓srcV, bound, cutTag, hiTag, fillE, GVal.cells, GVal.ofConst, ↓resV, resG, ↓reduceIte, reduceEqDiff, reduceAdd, reduceSub, reduceLeDiff, reduceCtorEq, ↓asrcV, ↓makeMapV, Tag.cap, GVal.solid, Nat.reduceBEq, reduceMul, reduceLT, vcA, ↓vcB, vcC, fbFy, e16, hst, htk, vcN, NW, leG_any, leG_self, and_true, true_and, dS, vcD]
  exact fun stC => ⟨rfl, fun stb => ⟨stC, stb, rfl, by simp [leG_self]⟩⟩
theorem dR2 (p1 x5 : GVal) (st s : Nat) (X : List GObj) : opsS Tryz.prog [] [(.mk (some 11) (.move (.tmp 0)) none), (.mk (some 12) (.nilCheck (.tmp 11)) none), (.mk (some 13) (.fieldAddr 90 (.tmp 12) 0) none), (.mk (some 14) (.load 88 (.tmp 13)) none)]
    (NW ((dS (.ptr 0 st 0 0) p1 x5 .any .any .any .any .any .any .any).set 14 (.map 1 s)) (.row st 1 [[.map 1 s]] :: X)) ⟨dS (.ptr 0 st 0 0) p1 x5 .any .any .any .any .any .any .any, .row st 1 [[.map 1 s]] :: X⟩ := by
  skip
  simp +contextual -implicitDefEqProofs (maxSteps := 2000000) (disch := omega) only [↓lenV, binV, optV, ↓loadV, ↓storeV, ↓fieldAddrV, ↓indexAddrV, ↓allocV, ↓buildSliceV, ↓sliceV, ↓nilV, ↓appendV, ↓srcV, bound, cutTag, hiTag, fillE, GVal.cells, GVal.ofConst, ↓resV, resG, ↓reduceIte, reduceEqDiff, reduceAdd, reduceSub, reduceLeDiff, reduceCtorEq, ↓asrcV, ↓makeMapV, Tag.cap, GVal.solid, Nat.reduceBEq, reduceMul, reduceLT, vcA, ↓vcB, vcC, fbFy, e16, NW, leG_any, leG_self, and_true, true_and, dS, vcD]
  try trivial
theorem dR3 (p0 p1 x5 x15 : GVal) (b : Bool) (k v : GVal) (O : List GObj) : opsS Tryz.prog [] [(.mk (some 17) (.extract (.tmp 16) 0) none)]
    (NW ((dS p0 p1 x5 .any .any .any x15 .any .any .any).set 17 (.bool b)) O) ⟨(dS p0 p1 x5 .any .any .any x15 .any .any .any).set 16 (.tuple [.bool b, k, v]), O⟩ := by
  skip
  simp +contextual -implicitDefEqProofs (maxSteps := 2000000) (disch := omega) only [↓lenV, binV, optV, ↓loadV, ↓storeV, ↓fieldAddrV, ↓indexAddrV, ↓allocV, ↓buildSliceV, ↓sliceV, ↓nilV, ↓appendV, ↓srcV, bound, cutTag, hiTag, fillE, GVal.cells, GVal.ofConst, ↓resV, resG, ↓reduceIte, reduceEqDiff, reduceAdd, reduceSub, reduceLeDiff, reduceCtorEq, ↓asrcV, ↓makeMapV, Tag.cap, GVal.solid, Nat.reduceBEq, reduceMul, reduceLT, vcA, ↓vcB, vcC, fbFy, e16, NW, leG_any, leG_self, and_true, true_and, dS, vcD]
  try trivial
theorem dR3' (p0 p1 x5 x15 : GVal) (b : Bool) (O : List GObj) : opsS Tryz.prog [] [(.mk (some 17) (.extract (.tmp 16) 0) none)]
    (NW ((dS p0 p1 x5 .any .any .any x15 .any .any .any).set 17 (.bool b)) O) ⟨(dS p0 p1 x5 .any .any .any x15 .any .any .any).set 16 (.tuple [.bool b]), O⟩ := by
  skip
  simp +contextual -implicitDefEqProofs (maxSteps := 2000000) (disch := omega) only [↓lenV, binV, optV, ↓loadV, ↓storeV, ↓fieldAddrV, ↓indexAddrV, ↓allocV, ↓buildSliceV, ↓sliceV, ↓nilV, ↓appendV, ↓srcV, bound, cutTag, hiTag, fillE, GVal.cells, GVal.ofConst, ↓resV, resG, ↓reduceIte, reduceEqDiff, reduceAdd, reduceSub, reduceLeDiff, reduceCtorEq, ↓asrcV, ↓makeMapV, Tag.cap, GVal.solid, Nat.reduceBEq, reduceMul, reduceLT, vcA, ↓vcB, vcC, fbFy, e16, NW, leG_any, leG_self, and_true, true_and, dS, vcD]
  try trivial
theorem dR4 (p0 p1 x5 x15 : GVal) (h : Hs) (ps : List Hs) (O : List GObj) (hst : ∀ K : Nat → Prop, stamp O K = ∀ st, K st) (htk : tickO O = O) : opsS Tryz.prog [] [(.mk (some 19) (.extract (.tmp 18) 0) none), (.mk (some 20) (.extract (.tmp 18) 1) none), (.mk (some 6) (.alloc 44) none), (.mk none (.store 44 (.tmp 6) (.tmp 19)) none), (.mk (some 7) (.assign (.tmp 20)) none)]
    (fun st' => ∃ v, NW (dS p0 p1 x5 (.ptr O.length v 0 0) (.slice (hsG ps) .none) .any x15 .any .any .any) (O ++ [.row v 32 [bytesG h.1]]) st') ⟨(dS p0 p1 x5 .any .any .any x15 .any .any .any).set 18 (.tuple [.agg (bytesG h.1), .slice (hsG ps) .none]), O⟩ := by
  have hO : ∀ x : GObj, (O ++ [x])[O.length]? = some x := fun x => by simp
  have hS : ∀ x y : GObj, (O ++ [x]).set O.length y = O ++ [y] := fun x y => by simp
  skip
  simp +contextual -implicitDefEqProofs (maxSteps := 2000000) (disch := omega) only [↓lenV, binV, optV, ↓loadV, ↓storeV, ↓fieldAddrV, ↓indexAddrV, ↓allocV, ↓buildSliceV, ↓sliceV, ↓nilV, ↓appendV, ↓srcV, bound, cutTag, hiTag, fillE, GVal.cells, GVal.ofConst, ↓resV, resG, ↓reduceIte, reduceEqDiff, reduceAdd, reduceSub, reduceLeDiff, reduceCtorEq, ↓asrcV, ↓makeMapV, Tag.cap, GVal.solid, Nat.reduceBEq, reduceMul, reduceLT, vcA, ↓vcB, vcC, fbFy, e16, NW, leG_any, leG_self, and_true, true_and, dS, hst, htk, hO, hS, vcD, v32]
  first
    | exact fun v => ⟨v, rfl, by simp [leG_self]⟩
    | exact fun v => ⟨v, rfl⟩
theorem dR5 (p0 p1 x5 x6 x15 : GVal) (ps : List Hs) (O : List GObj) : vcS Tryz.prog [] s16_5 (vcN (NW (dS p0 p1 x5 x6 .any .any x15 (.slice (hsG ps) .none) (.int .i64 ps.length) (.int .i64 0)) O)) ⟨dS p0 p1 x5 x6 (.slice (hsG ps) .none) .any x15 .any .any .any, O⟩ := by
  skip
  simp +contextual -implicitDefEqProofs (maxSteps := 2000000) (disch := omega) only [↓lenV, binV, optV, ↓loadV, ↓storeV, ↓fieldAddrV, ↓indexAddrV, ↓allocV, ↓buildSliceV, ↓sliceV, ↓nilV, ↓appendV, ↓srcV, bound, cutTag, hiTag, fillE, GVal.cells, GVal.ofConst, ↓resV, resG, ↓reduceIte, reduceEqDiff, reduceAdd, reduceSub, reduceLeDiff, reduceCtorEq, ↓asrcV, ↓makeMapV, Tag.cap, GVal.solid, Nat.reduceBEq, reduceMul, reduceLT, vcA, ↓vcB, vcC, fbFy, e16, vcN, NW, leG_any, leG_self, and_true, true_and, dS, hsG_len, vcD]
  try trivial
theorem dR6 (p0 p1 x5 x6 x15 x21 : GVal) (k n : Nat) (O : List GObj) : vcS Tryz.prog [] s16_6 (vcN (NW ((dS p0 p1 x5 x6 .any .any x15 x21 (.int .i64 n) (.int .i64 k)).set 24 (.bool (decide (k < n)))) O)) ⟨dS p0 p1 x5 x6 .any .any x15 x21 (.int .i64 n) (.int .i64 k), O⟩ := by
  have d0 : decide ((k : Int) < (n : Int)) = decide (k < n) := by simp
  skip
  simp +contextual -implicitDefEqProofs (maxSteps := 2000000) (disch := omega) only [↓lenV, binV, optV, ↓loadV, ↓storeV, ↓fieldAddrV, ↓indexAddrV, ↓allocV, ↓buildSliceV, ↓sliceV, ↓nilV, ↓appendV, ↓srcV, bound, cutTag, hiTag, fillE, GVal.cells, GVal.ofConst, ↓resV, resG, ↓reduceIte, reduceEqDiff, reduceAdd, reduceSub, reduceLeDiff, reduceCtorEq, ↓asrcV, ↓makeMapV, Tag.cap, GVal.solid, Nat.reduceBEq, reduceMul, reduceLT, vcA, ↓vcB, vcC, fbFy, e16, vcN, NW, leG_any, leG_self, and_true, true_and, dS, d0, vcD]
  try trivial
theorem dR7 (p0 p1 x5 x6 x15 x22 : GVal) (ps : List Hs) (k : Nat) (hk : k < ps.length) (p : Hs) (hp : ps.getD k h0 = p) (O : List GObj) (hst : ∀ K : Nat → Prop, stamp O K = ∀ st, K st) (htk : tickO O = O) : vcS Tryz.prog [] s16_7
    (vcN fun st' => ∃ v, NW (dS p0 p1 x5 x6 .any (.ptr O.length v 0 0) x15 (.slice (hsG ps) .none) x22 (.int .i64 k)) (O ++ [.row v 32 [bytesG p.1]]) st') ⟨dS p0 p1 x5 x6 .any .any x15 (.slice (hsG ps) .none) x22 (.int .i64 k), O⟩ := by
  have hO : ∀ x : GObj, (O ++ [x])[O.length]? = some x := fun x => by simp
  have hS : ∀ x y : GObj, (O ++ [x]).set O.length y = O ++ [y] := fun x y => by simp
  have ea := hsG_at ps k hk
  rw [hp] at ea
  skip
  simp +contextual -implicitDefEqProofs (maxSteps := 2000000) (disch := omega) only [↓lenV, binV, optV, ↓loadV, ↓storeV, ↓fieldAddrV, ↓indexAddrV, ↓allocV, ↓buildSliceV, ↓sliceV, ↓nilV, ↓appendV, ↓srcV, bound, cutTag, hiTag, fillE, GVal.cells, GVal.ofConst, ↓resV, resG, ↓reduceIte, reduceEqDiff, reduceAdd, reduceSub, reduceLeDiff, reduceCtorEq, ↓asrcV, ↓makeMapV, Tag.cap, GVal.solid, Nat.reduceBEq, reduceMul, reduceLT, vcA, ↓vcB, vcC, fbFy, e16, vcN, NW, leG_any, leG_self, and_true, true_and, dS, hst, htk, hO, hS, hsG_len, ea, all_hsG, vcD, v32]
  refine ⟨by omega, by omega, ?_⟩
  exact fun v => ⟨v, rfl, by rw [leG_self]; trivial⟩
theorem dR8a (p0 p1 x15 x21 x22 x23 : GVal) (h p : Hs) (stb stC : Nat) (r0 r1 r2 : GObj) (X : List GObj) : opsS Tryz.prog [] [(.mk (some 27) (.load 88 (.tmp 5)) none), (.mk (some 28) (.load 44 (.tmp 9)) none), (.mk (some 30) (.load 44 (.tmp 6)) none), (.mk (some 31) (.buildSlice 33 1 #[(0, (.tmp 30))]) none)]
    (NW ((((dS p0 p1 (.ptr 3 stb 0 0) (.ref (bytesG h.1)) .any .any x15 x21 x22 x23).set 27 (.map 2 stC)).set 28 (.agg (bytesG p.1))).set 31 (.slice [bytesG h.1] .full)) (r0 :: r1 :: r2 :: .row stb 1 [[.map 2 stC]] :: X)) ⟨dS p0 p1 (.ptr 3 stb 0 0) (.ref (bytesG h.1)) .any (.ref (bytesG p.1)) x15 x21 x22 x23, r0 :: r1 :: r2 :: .row stb 1 [[.map 2 stC]] :: X⟩ := by
  skip
  simp +contextual -implicitDefEqProofs (maxSteps := 2000000) (disch := omega) only [↓lenV, binV, optV, ↓loadV, ↓storeV, ↓fieldAddrV, ↓indexAddrV, ↓allocV, ↓buildSliceV, ↓sliceV, ↓nilV, ↓appendV, ↓srcV, bound, cutTag, hiTag, fillE, GVal.cells, GVal.ofConst, ↓resV, resG, ↓reduceIte, reduceEqDiff, reduceAdd, reduceSub, reduceLeDiff, reduceCtorEq, ↓asrcV, ↓makeMapV, Tag.cap, GVal.solid, Nat.reduceBEq, reduceMul, reduceLT, vcA, ↓vcB, vcC, fbFy, e16, NW, leG_any, leG_self, and_true, true_and, dS, vcD, v32]
  try trivial
theorem dR8n (p0 p1 x5 x6 x15 x21 x22 x23 x27 : GVal) (h : Hs) (stamp_ : Nat) (O : List GObj) (hst : ∀ K : Nat → Prop, stamp O K = ∀ st, K st) (htk : tickO O = O) : opsS Tryz.prog [] [(.mk (some 29) (.extract (.tmp 32) 0) none), (.mk (some 33) (.call (.mk (.builtin (.append)) #[(.tmp 29), (.tmp 31)] #[33, 33])) none), (.mk (some 34) (.extract (.tmp 32) 1) none)]
    (fun st' => ∃ v, NW ((((dS p0 p1 x5 x6 .any .any x15 x21 x22 x23).set 27 x27).set 33 (.slice (hsG [h]) (.tok O.length v))).set 34 (.int .i64 stamp_)) (O ++ [.tok v 32]) st')
    ⟨(((dS p0 p1 x5 x6 .any .any x15 x21 x22 x23).set 27 x27).set 31 (.slice [bytesG h.1] .full)).set 32 (.tuple [.slice [] .nil, .int .i64 stamp_]), O⟩ := by
  skip
  simp +contextual -implicitDefEqProofs (maxSteps := 2000000) (disch := omega) only [↓lenV, binV, optV, ↓loadV, ↓storeV, ↓fieldAddrV, ↓indexAddrV, ↓allocV, ↓buildSliceV, ↓sliceV, ↓nilV, ↓appendV, ↓srcV, bound, cutTag, hiTag, fillE, GVal.cells, GVal.ofConst, ↓resV, resG, ↓reduceIte, reduceEqDiff, reduceAdd, reduceSub, reduceLeDiff, reduceCtorEq, ↓asrcV, ↓makeMapV, Tag.cap, GVal.solid, Nat.reduceBEq, reduceMul, reduceLT, vcA, ↓vcB, vcC, fbFy, e16, NW, leG_any, leG_self, and_true, true_and, dS, hst, htk, vcD, v32]
  first
    | exact fun v => ⟨v, rfl, by simp [leG_self, hsG]⟩
    | exact fun v => ⟨v, rfl⟩
theorem dR8s (p0 p1 x5 x6 x15 x21 x22 x23 x27 : GVal) (h : Hs) (l : List Hs) (hl : l.length ≤ 1000000) (stamp_ o t : Nat) (O : List GObj) (hO : O[o]? = some (.tok t 32)) (hst : ∀ K : Nat → Prop, stamp O K = ∀ st, K st) (htk : tickO O = O) : opsS Tryz.prog [] [(.mk (some 29) (.extract (.tmp 32) 0) none), (.mk (some 33) (.call (.mk (.builtin (.append)) #[(.tmp 29), (.tmp 31)] #[33, 33])) none), (.mk (some 34) (.extract (.tmp 32) 1) none)]
    (fun st' => ∃ v, NW ((((dS p0 p1 x5 x6 .any .any x15 x21 x22 x23).set 27 x27).set 33 (.slice (hsG (l ++ [h])) (.tok o v))).set 34 (.int .i64 stamp_)) (O.set o (.tok v 32)) st')
    ⟨(((dS p0 p1 x5 x6 .any .any x15 x21 x22 x23).set 27 x27).set 31 (.slice [bytesG h.1] .full)).set 32 (.tuple [.slice (hsG l) (.tok o t), .int .i64 stamp_]), O⟩ := by
  skip
  simp +contextual -implicitDefEqProofs (maxSteps := 2000000) (disch := omega) only [↓lenV, binV, optV, ↓loadV, ↓storeV, ↓fieldAddrV, ↓indexAddrV, ↓allocV, ↓buildSliceV, ↓sliceV, ↓nilV, ↓appendV, ↓srcV, bound, cutTag, hiTag, fillE, GVal.cells, GVal.ofConst, ↓resV, resG, ↓reduceIte, reduceEqDiff, reduceAdd, reduceSub, reduceLeDiff, reduceCtorEq, ↓asrcV, ↓makeMapV, Tag.cap, GVal.solid, Nat.reduceBEq, reduceMul, reduceLT, vcA, ↓vcB, vcC, fbFy, e16, NW, leG_any, leG_self, and_true, true_and, dS, hst, htk, hO, hsG_len, all_hsG, vcD, v32]
  refine ⟨by omega, by omega, ?_⟩
  exact fun v => ⟨v, rfl, by rw [hsG_app]; exact (leG_self _).mpr trivial⟩
theorem dR9 (p0 p1 x5 x6 x15 x21 x22 : GVal) (k : Nat) (hk : k ≤ 1000000000) (O : List GObj) : vcS Tryz.prog [] s16_9 (vcN (NW (dS p0 p1 x5 x6 .any .any x15 x21 x22 (.int .i64 (k + 1 : Nat))) O)) ⟨dS p0 p1 x5 x6 .any .any x15 x21 x22 (.int .i64 k), O⟩ := by
  skip
  simp +contextual -implicitDefEqProofs (maxSteps := 2000000) (disch := omega) only [↓lenV, binV, optV, ↓loadV, ↓storeV, ↓fieldAddrV, ↓indexAddrV, ↓allocV, ↓buildSliceV, ↓sliceV, ↓nilV, ↓appendV, ↓srcV, bound, cutTag, hiTag, fillE, GVal.cells, GVal.ofConst, ↓resV, resG, ↓reduceIte, reduceEqDiff, reduceAdd, reduceSub, reduceLeDiff, reduceCtorEq, ↓asrcV, ↓makeMapV, Tag.cap, GVal.solid, Nat.reduceBEq, reduceMul, reduceLT, vcA, ↓vcB, vcC, fbFy, e16, vcN, NW, leG_any, leG_self, and_true, true_and, dS, vcD]
end Gv.Tryz
/- graph.Descendants: the map of children grows. -/
set_option linter.unusedVariables false
set_option linter.unusedSimpArgs false
set_option maxRecDepth 20000
set_option maxHeartbeats 4000000
namespace Gv.Tryz
open Go Gv Go.Proofs
def kidPut (ch : GM) (p h : Hs) : GM := mset ch p ((look ch p).getD [] ++ [h])
def kidRow (ch : GM) (h : Hs) (ps : List Hs) : GM := ps.foldl (fun c p => kidPut c p h) ch
def kidAll (pre : GM) : GM := pre.foldl (fun c q => kidRow c q.1 q.2) []
abbrev CT := List ((Hs × List Hs) × Nat)
def ctM (ct : CT) : GM := ct.map (·.1)
def kvT (ct : CT) : List (GVal × GVal) := ct.zipIdx.map fun q => (.agg (bytesG q.1.1.1.1), .slice (hsG q.1.1.2) (.tok (q.2 + 4) q.1.2))
def obs (st s stC stb : Nat) (ct : CT) : List GObj := .row st 1 [[.map 1 s]] :: .dead :: .dead :: .row stb 1 [[.map 2 stC]] :: ct.map fun q => .tok q.2 32
theorem kvT_at (ct : CT) (i : Nat) : (kvT ct)[i]? = (ct[i]?).map fun q => (.agg (bytesG q.1.1.1), .slice (hsG q.1.2) (.tok (i + 4) q.2)) := by
  unfold kvT
  rw [List.getElem?_map, List.getElem?_zipIdx]
  cases ct[i]? <;> simp
theorem kvT_len (ct : CT) : (kvT ct).length = ct.length := by simp [kvT]
theorem kvT_set (ct : CT) (i : Nat) (q : (Hs × List Hs) × Nat) : (kvT ct).set i (.agg (bytesG q.1.1.1), .slice (hsG q.1.2) (.tok (i + 4) q.2)) = kvT (ct.set i q) := by
  refine List.ext_getElem? fun j => ?_
  rw [kvT_at, List.getElem?_set, List.getElem?_set, kvT_at, kvT_len]
  by_cases e : i = j
  · subst e
    simp only [if_true]
    split <;> rfl
  · simp only [if_neg e]
theorem kvT_app (ct : CT) (q : (Hs × List Hs) × Nat) : kvT ct ++ [(.agg (bytesG q.1.1.1), .slice (hsG q.1.2) (.tok (ct.length + 4) q.2))] = kvT (ct ++ [q]) := by
  simp [kvT, List.zipIdx_append]
theorem obs_len (st s stC stb : Nat) (ct : CT) : (obs st s stC stb ct).length = ct.length + 4 := by simp [obs]
theorem obs_at (st s stC stb : Nat) (ct : CT) (i : Nat) : (obs st s stC stb ct)[i + 4]? = (ct[i]?).map fun q => .tok q.2 32 := by simp [obs]
theorem obs_set (st s stC stb : Nat) (ct : CT) (i : Nat) (q : (Hs × List Hs) × Nat) : (obs st s stC stb ct).set (i + 4) (.tok q.2 32) = obs st s stC stb (ct.set i q) := by simp [obs, List.map_set]
theorem obs_app (st s stC stb : Nat) (ct : CT) (q : (Hs × List Hs) × Nat) : obs st s stC stb ct ++ [.tok q.2 32] = obs st s stC stb (ct ++ [q]) := by simp [obs]
theorem kfind_keys {k : KT} {x : GVal} : ∀ {kv kv' : List (GVal × GVal)}, kv.map (·.1) = kv'.map (·.1) → kfind k x kv = kfind k x kv'
  | [], [], _ => rfl
  | [], q :: r, h => by simp at h
  | p :: r, [], h => by simp at h
  | p :: r, q :: r', h => by
    simp only [List.map_cons, List.cons.injEq] at h
    rw [kfind, kfind, h.1, kfind_keys h.2]
theorem kfind_T (ct : CT) (p : Hs) : kfind hkT (.agg (bytesG p.1)) (kvT ct) = some (idxM (ctM ct) p) := by
  rw [← kfind_h encL p (ctM ct)]
  refine kfind_keys (List.ext_getElem? fun i => ?_)
  rw [List.getElem?_map, List.getElem?_map, kvT_at, kvG, ctM, List.getElem?_map, List.getElem?_map]
  cases ct[i]? <;> rfl
theorem idx_at {α : Type} : ∀ (m : List (Hs × α)) (h : Hs) (v : α), look m h = some v → ∃ i, idxM m h = some i ∧ m[i]? = some (h, v) ∧ ∀ w, m.set i (h, w) = mset m h w
  | [], h, v, e => by cases e
  | p :: r, h, v, e => by
    rw [look] at e
    by_cases hp : h = p.1
    · rw [if_pos hp] at e
      cases e
      refine ⟨0, by rw [idxM, if_pos hp], by simp [hp], fun w => by simp [mset, hp]⟩
    · rw [if_neg hp] at e
      obtain ⟨i, h1, h2, h3⟩ := idx_at r h v e
      exact ⟨i + 1, by rw [idxM, if_neg hp, h1]; rfl, by simpa using h2, fun w => by rw [mset, if_neg hp, ← h3 w]; rfl⟩
theorem idx_no {α : Type} : ∀ (m : List (Hs × α)) (h : Hs), look m h = none → idxM m h = none ∧ ∀ w, m ++ [(h, w)] = mset m h w
  | [], h, e => ⟨rfl, fun w => rfl⟩
  | p :: r, h, e => by
    rw [look] at e
    by_cases hp : h = p.1
    · rw [if_pos hp] at e; cases e
    · rw [if_neg hp] at e
      obtain ⟨h1, h2⟩ := idx_no r h e
      exact ⟨by rw [idxM, if_neg hp, h1]; rfl, fun w => by rw [mset, if_neg hp, ← h2 w]; rfl⟩
structure DD where
  (st s stC stb b r bC : Nat)
  m : GM
  es : Array MapEntry
  clock : Nat
  E0 : Env
  w0 : World
  lC : GLoc
structure DOK (D : DD) : Prop where
  hl : D.lC.block = some D.bC
  h0 : D.w0.heap.size ≤ D.bC
  hr0 : D.w0.heap.size ≤ D.r
  nb : D.bC ≠ D.b
  nr : D.bC ≠ D.r
  nrb : D.r ≠ D.b
  born : BornOK D.es D.clock
abbrev DD.o (D : DD) (ct : CT) : List GObj := obs D.st D.s D.stC D.stb ct
structure AtW (D : DD) (seen : Array Nat) (E : Env) (O : List GObj) (w : World) : Prop where
  sim : HSim E O w
  keep : Keep D.E0 [.row D.st 1 [[.map 1 D.s]], .dead] D.w0 E O w
  walk : WalkAt w D.b D.r D.es D.clock seen
  hb : Hid E O w D.b
  hr : Hid E O w D.r
  hC : Hid E O w D.bC
  loc : E.loc D.stC = some D.lC
def Ent (D : DD) (ct : CT) (E : Env) (w : World) : Prop := ∃ esC cC, MapAt E w D.bC esC cC (kvT ct)
theorem walk_same {w w' : World} {b r clock : Nat} {es : Array MapEntry} {seen : Array Nat} (h : WalkAt w b r es clock seen) (hb : w'.heap[b]? = w.heap[b]?) (hr : w'.heap[r]? = w.heap[r]?) : WalkAt w' b r es clock seen := by
  obtain ⟨since, c0, h1, h2, h3, h4, h5⟩ := h
  exact ⟨since, c0, hb.trans h1, hr.trans h2, h3, h4, h5⟩
theorem AtW.step {D : DD} {seen : Array Nat} {E E' : Env} {O O' : List GObj} {w w' : World} (h : AtW D seen E O w) (h' : HSim E' O' w') (k : Keep E O w E' O' w') : AtW D seen E' O' w' :=
  ⟨h', h.keep.trans k, walk_same h.walk (h.hb.keep k).2 (h.hr.keep k).2, (h.hb.keep k).1, (h.hr.keep k).1, (h.hC.keep k).1, k.ext.loc _ _ h.loc⟩
theorem Ent.step {D : DD} {ct : CT} {seen : Array Nat} {E E' : Env} {O O' : List GObj} {w w' : World} (h : Ent D ct E w) (hA : AtW D seen E O w) (k : Keep E O w E' O' w') : Ent D ct E' w' := by
  obtain ⟨esC, cC, hm⟩ := h
  exact ⟨esC, cC, hm.ext k.ext (hA.hC.keep k).2⟩
theorem AtW.poke {D : DD} (hD : DOK D) {seen : Array Nat} {E : Env} {O : List GObj} {w w' : World} (h : AtW D seen E O w) (g : w.grownBy w' (some D.bC)) : AtW D seen E O w' :=
  ⟨h.sim.grown g (fun r e => by cases e; exact ⟨h.hC.obj, h.hC.snap⟩), h.keep.grown g (fun r e => by cases e; exact hD.h0),
   walk_same h.walk (g.block _ h.hb.lt (fun e => hD.nb (Option.some.inj e).symm)) (g.block _ h.hr.lt (fun e => hD.nr (Option.some.inj e).symm)), h.hb.grown g, h.hr.grown g, h.hC.grown g, h.loc⟩
theorem obs_stamp (st s stC stb : Nat) (ct : CT) (K : Nat → Prop) : stamp (obs st s stC stb ct) K = ∀ st, K st := rfl
theorem obs_tick (st s stC stb : Nat) (ct : CT) : tickO (obs st s stC stb ct) = obs st s stC stb ct := rfl
theorem dR8 {all : Array Oper} {QQ : Exit → Act → World → Prop} (D : DD) (hD : DOK D) {ct : CT} {seen : Array Nat} {E : Env} {a : Act} {w : World} (hA : AtW D seen E (D.o ct) w) (hE : Ent D ct E w) {p0 p1 x15 x21 x22 x23 : GVal} {h p : Hs}
    (ha : SlotsR E a (dS p0 p1 (.ptr 3 D.stb 0 0) (.ref (bytesG h.1)) .any (.ref (bytesG p.1)) x15 x21 x22 x23)) (hlen : ∀ q ∈ ct, q.1.2.length ≤ 1000000) {o1 o2 o3 o4 o5 o6 o7 o8 o9 : Oper}
    (hA4 : [o1, o2, o3, o4].map (fun o => (⟨o.dst, o.op, none⟩ : SOp)) = [(.mk (some 27) (.load 88 (.tmp 5)) none), (.mk (some 28) (.load 44 (.tmp 9)) none), (.mk (some 30) (.load 44 (.tmp 6)) none), (.mk (some 31) (.buildSlice 33 1 #[(0, (.tmp 30))]) none)])
    (gA4 : [o1, o2, o3, o4].all (fun o => o.guard.isNone) = true)
    (h5 : o5.op = .mapEntry 88 (.tmp 27) (.tmp 28)) (g5 : o5.guard = none) (d5 : o5.dst = some 32)
    (hB3 : [o6, o7, o8].map (fun o => (⟨o.dst, o.op, none⟩ : SOp)) = [(.mk (some 29) (.extract (.tmp 32) 0) none), (.mk (some 33) (.call (.mk (.builtin (.append)) #[(.tmp 29), (.tmp 31)] #[33, 33])) none), (.mk (some 34) (.extract (.tmp 32) 1) none)])
    (gB3 : [o6, o7, o8].all (fun o => o.guard.isNone) = true)
    (h9 : o9.op = .entryStore 88 (.tmp 27) (.tmp 34) (.tmp 33)) (g9 : o9.guard = none) (d9 : o9.dst = none)
    (hq : ∀ ct' E' a' w', ctM ct' = kidPut (ctM ct) p h → AtW D seen E' (D.o ct') w' → Ent D ct' E' w' → SlotsR E' a' (dS p0 p1 (.ptr 3 D.stb 0 0) (.ref (bytesG h.1)) .any .any x15 x21 x22 x23) → QQ .normal a' w') :
    wpList Tryz.prog all QQ [o1, o2, o3, o4, o5, o6, o7, o8, o9] a w := by
  refine ops_seg (st := ⟨_, D.o ct⟩) 4 hA4 gA4 hA.sim ha (dR8a p0 p1 x15 x21 x22 x23 h p D.stb D.stC _ _ _ _) ?_
  rintro ⟨s1, O1⟩ E1 a1 w1 q1 k1 s1R ⟨e1, hw1⟩
  change O1 = D.o ct at e1
  subst e1
  have s1 := s1R.weak hw1
  have hA1 := hA.step q1 k1
  obtain ⟨esC, cC, hm1⟩ := hE.step hA k1
  have v27 : a1.eval (.tmp 27) = .map (some D.bC) := map_val (SlotsR.ev (st := ⟨_, []⟩) s1 (.tmp 27)) hA1.loc hD.hl
  have v28 : VR E1 (a1.eval (.tmp 28)) (.agg (bytesG p.1)) := SlotsR.ev (st := ⟨_, []⟩) s1 (.tmp 28)
  have hkt : keyT Tryz.prog 88 = some (hkT, 33) := by kernel_rfl
  have hz : zeroG Tryz.prog 33 = some (.slice [] .nil) := by kernel_rfl
  have hko : keyOk hkT (.agg (bytesG p.1)) := by simp [keyOk, keyCells, len32]
  obtain ⟨rv0, stN, es1, clock1, w2, hrun, hg2, hb2, hv0, hstore⟩ := mapEntry_hid hkt hz hko v28 hm1 (kfind_T ct p)
  show wpList _ _ _ (o5 :: [o6, o7, o8, o9]) a1 w1
  refine mapEntry_step g5 h5 (by rw [v27]; exact hrun) ?_
  have hA2 := hA1.poke hD hg2
  rw [d5]
  have fin : ∀ (ct' : CT) (oldg newg : GVal) (O3 : List GObj), VR E1 rv0 oldg → putAt (kvT ct) (.agg (bytesG p.1)) newg (idxM (ctM ct) p) = kvT ct' → ctM ct' = kidPut (ctM ct) p h → O3 = D.o ct' →
      ∀ (st3 : GSt) E3 a3 w3, HSim E3 st3.o w3 → Keep E1 (D.o ct) w2 E3 st3.o w3 → SlotsR E3 a3 st3.s → NW ((((dS p0 p1 (.ptr 3 D.stb 0 0) (.ref (bytesG h.1)) .any .any x15 x21 x22 x23).set 27 (.map 2 D.stC)).set 33 newg).set 34 (.int .i64 stN)) O3 st3 →
      wpList Tryz.prog all QQ [o9] a3 w3 := by
    rintro ct' oldg newg O3 ho hput hct rfl ⟨s3, O3⟩ E3 a3 w3 q3 k3 s3R ⟨e3, hw3⟩
    change O3 = D.o ct' at e3
    subst e3
    have s3 := s3R.weak hw3
    have hA3 := hA2.step q3 k3
    have v27' : a3.eval (.tmp 27) = .map (some D.bC) := map_val (SlotsR.ev (st := ⟨_, []⟩) s3 (.tmp 27)) hA3.loc hD.hl
    have v33 : VR E3 (a3.eval (.tmp 33)) newg := SlotsR.ev (st := ⟨_, []⟩) s3 (.tmp 33)
    have v34 : a3.eval (.tmp 34) = goInt stN := by
      have : VR E3 (a3.eval (.tmp 34)) (.int .i64 stN) := SlotsR.ev (st := ⟨_, []⟩) s3 (.tmp 34)
      generalize a3.eval (.tmp 34) = v at this
      cases this; rfl
    obtain ⟨w4, es4, c4, hrun4, hg4, hm4⟩ := hstore E3 w3 (a3.eval (.tmp 33)) newg k3.ext (((hA2.hC.keep k3).2).trans hb2) v33
    refine entryStore_step g9 h9 (by rw [v27', v34]; exact hrun4) (wpList_nil ?_)
    rw [hput] at hm4
    refine hq ct' E3 _ w4 hct (hA3.poke hD hg4) ⟨es4, c4, hm4⟩ ?_
    rw [d9]
    exact s3.weak (by simp [WL, leG_self, leG_any])
  have s2 : ∀ oldg, VR E1 rv0 oldg → SlotsR E1 (a1.put (some 32) (.tuple #[rv0, goInt stN])) ((((dS p0 p1 (.ptr 3 D.stb 0 0) (.ref (bytesG h.1)) .any .any x15 x21 x22 x23).set 27 (.map 2 D.stC)).set 31 (.slice [bytesG h.1] .full)).set 32 (.tuple [oldg, .int .i64 stN])) := fun oldg ho => by
    have hvt : VR E1 (.tuple #[rv0, goInt stN]) (.tuple [oldg, .int .i64 stN]) := .tuple _ _ rfl (fun j g hj => by
      match j with
      | 0 => cases hj; exact ho
      | 1 => cases hj; exact .int _ _
      | j + 2 => simp at hj)
    exact (SlotsR.put (st := ⟨_, []⟩) s1 (.refl E1) (d := some 32) hvt []).weak (by simp [GSt.put, WL, leG_self, leG_any])
  show wpList _ _ _ (o6 :: o7 :: o8 :: [o9]) _ _
  cases hlk : look (ctM ct) p with
  | none =>
    obtain ⟨i1, i2⟩ := idx_no _ _ hlk
    rw [i1] at hv0
    refine ops_seg (st := ⟨((((dS p0 p1 (.ptr 3 D.stb 0 0) (.ref (bytesG h.1)) .any .any x15 x21 x22 x23).set 27 (.map 2 D.stC)).set 31 (.slice [bytesG h.1] .full)).set 32 (.tuple [.slice [] .nil, .int .i64 stN])), D.o ct⟩) 3 hB3 gB3 hA2.sim (s2 (.slice [] .nil) hv0) (dR8n p0 p1 _ _ x15 x21 x22 x23 _ h stN (D.o ct) (obs_stamp _ _ _ _ _) (obs_tick _ _ _ _ _)) ?_
    rintro st3 E3 a3 w3 q3 k3 s3R ⟨v, hN⟩
    refine fin (ct ++ [((p, [h]), v)]) _ (.slice (hsG [h]) (.tok (D.o ct).length v)) _ hv0 ?_ ?_ rfl st3 E3 a3 w3 q3 k3 s3R ?_
    · rw [i1, obs_len]
      exact kvT_app ct ((p, [h]), v)
    · rw [kidPut, hlk, ← i2]
      simp [ctM]
    · have := obs_app D.st D.s D.stC D.stb ct ((p, [h]), v)
      show NW _ (obs D.st D.s D.stC D.stb _) st3
      rw [← this]
      exact hN
  | some l =>
    obtain ⟨i, i1, i2, i3⟩ := idx_at _ _ _ hlk
    obtain ⟨q, hqi, eq⟩ : ∃ q, ct[i]? = some q ∧ q.1 = (p, l) := by
      rw [ctM, List.getElem?_map] at i2
      cases hc : ct[i]? with
      | none => rw [hc] at i2; cases i2
      | some q => rw [hc] at i2; exact ⟨q, rfl, by simpa using i2⟩
    obtain ⟨q1', t⟩ := q
    change q1' = (p, l) at eq
    subst eq
    have hv : VR E1 rv0 (.slice (hsG l) (.tok (i + 4) t)) := by
      rw [i1] at hv0
      simpa [oldAt, kvT_at, hqi] using hv0
    refine ops_seg (st := ⟨((((dS p0 p1 (.ptr 3 D.stb 0 0) (.ref (bytesG h.1)) .any .any x15 x21 x22 x23).set 27 (.map 2 D.stC)).set 31 (.slice [bytesG h.1] .full)).set 32 (.tuple [.slice (hsG l) (.tok (i + 4) t), .int .i64 stN])), D.o ct⟩) 3 hB3 gB3 hA2.sim (s2 _ hv) (dR8s p0 p1 _ _ x15 x21 x22 x23 _ h l (hlen _ (List.mem_of_getElem? hqi)) stN (i + 4) t (D.o ct) (by rw [obs_at, hqi]; rfl) (obs_stamp _ _ _ _ _) (obs_tick _ _ _ _ _)) ?_
    rintro st3 E3 a3 w3 q3 k3 s3R ⟨v, hN⟩
    refine fin (ct.set i ((p, l ++ [h]), v)) _ (.slice (hsG (l ++ [h])) (.tok (i + 4) v)) _ hv ?_ ?_ rfl st3 E3 a3 w3 q3 k3 s3R ?_
    · rw [i1]
      exact kvT_set ct i ((p, l ++ [h]), v)
    · rw [kidPut, hlk, Option.getD_some, ← i3]
      simp [ctM, List.map_set]
    · have := obs_set D.st D.s D.stC D.stb ct i ((p, l ++ [h]), v)
      show NW _ (obs D.st D.s D.stC D.stb _) st3
      rw [← this]
      exact hN
end Gv.Tryz
/- graph.Descendants: its two loops. -/
set_option linter.unusedVariables false
set_option linter.unusedSimpArgs false
set_option maxRecDepth 20000
set_option maxHeartbeats 4000000
namespace Gv.Tryz
open Go Gv Go.Proofs
theorem frzL_hs (O : List GObj) (n : Nat) (h : Hs) : frzL (Gv.frz O (n + 1)) (bytesG h.1) = some (bytesG h.1) := by
  have := frz_hs O n [h]
  simp only [hsG, List.map_cons, List.map_nil, frzLL] at this
  cases e : frzL (Gv.frz O (n + 1)) (bytesG h.1) with
  | none => rw [e] at this; cases this
  | some x => rw [e] at this; simpa using this
def Kb (N : Nat) (ch : GM) : Prop := ∀ q ∈ ch, q.2.length ≤ N
theorem look_memG : ∀ {m : GM} {h : Hs} {l : List Hs}, look m h = some l → (h, l) ∈ m
  | [], h, l, e => by cases e
  | p :: r, h, l, e => by
    rw [look] at e
    by_cases hp : h = p.1
    · rw [if_pos hp] at e; cases e; rw [hp]; simp
    · rw [if_neg hp] at e; exact List.mem_cons_of_mem _ (look_memG e)
theorem mem_mset {m : GM} {h : Hs} {v : List Hs} {q : Hs × List Hs} (hq : q ∈ mset m h v) : q ∈ m ∨ q = (h, v) := by
  induction m with
  | nil => rw [mset] at hq; exact .inr (by simpa using hq)
  | cons p r ih =>
    rw [mset] at hq
    split at hq
    · rcases List.mem_cons.1 hq with e | e
      · exact .inr e
      · exact .inl (List.mem_cons_of_mem _ e)
    · rcases List.mem_cons.1 hq with e | e
      · exact .inl (by rw [e]; simp)
      · rcases ih e with e | e
        · exact .inl (List.mem_cons_of_mem _ e)
        · exact .inr e
theorem Kb.put {N : Nat} {ch : GM} (h : Kb N ch) (p x : Hs) : Kb (N + 1) (kidPut ch p x) := by
  intro q hq
  rcases mem_mset hq with e | e
  · have := h q e; omega
  · rw [e]
    show ((look ch p).getD [] ++ [x]).length ≤ N + 1
    rw [List.length_append, List.length_singleton]
    cases hl : look ch p with
    | none => simp
    | some l => have := h _ (look_memG hl); simp at this ⊢; omega
theorem kidRow_snoc (ch : GM) (h : Hs) (a : List Hs) (p : Hs) : kidRow ch h (a ++ [p]) = kidPut (kidRow ch h a) p h := by simp [kidRow]
theorem Kb.row {N : Nat} {ch : GM} (h : Kb N ch) (x : Hs) : ∀ ps : List Hs, Kb (N + ps.length) (kidRow ch x ps) := by
  intro ps
  induction ps generalizing N ch with
  | nil => exact h
  | cons p r ih =>
    have := ih (h.put p x)
    rw [List.length_cons, show N + (r.length + 1) = N + 1 + r.length by omega]
    exact this
theorem kidAll_snoc (a : GM) (q : Hs × List Hs) : kidAll (a ++ [q]) = kidRow (kidAll a) q.1 q.2 := by simp [kidAll]
theorem Kb.foldl : ∀ (pre ch : GM) (N : Nat), Kb N ch → (∀ q ∈ pre, q.2.length ≤ 4) → Kb (N + 4 * pre.length) (pre.foldl (fun c q => kidRow c q.1 q.2) ch)
  | [], ch, N, h, _ => h
  | q :: r, ch, N, h, hq => by
    have h1 := h.row q.1 q.2
    have h2 := hq q (by simp)
    have := Kb.foldl r _ (N + 4) (fun x hx => by have := h1 x hx; omega) (fun y hy => hq y (by simp [hy]))
    rw [List.length_cons, show N + 4 * (r.length + 1) = N + 4 + 4 * r.length by omega]
    exact this
theorem Kb.all (pre : GM) (h : ∀ q ∈ pre, q.2.length ≤ 4) : Kb (4 * pre.length) (kidAll pre) := by
  have := Kb.foldl pre [] 0 (fun q hq => by cases hq) h
  rw [Nat.zero_add] at this
  exact this
abbrev l8a : List SOp := [(.mk (some 27) (.load 88 (.tmp 5)) none), (.mk (some 28) (.load 44 (.tmp 9)) none), (.mk (some 30) (.load 44 (.tmp 6)) none), (.mk (some 31) (.buildSlice 33 1 #[(0, (.tmp 30))]) none)]
abbrev l8b : List SOp := [(.mk (some 29) (.extract (.tmp 32) 0) none), (.mk (some 33) (.call (.mk (.builtin (.append)) #[(.tmp 29), (.tmp 31)] #[33, 33])) none), (.mk (some 34) (.extract (.tmp 32) 1) none)]
structure R8 (o1 o2 o3 o4 o5 o6 o7 o8 o9 : Oper) : Prop where
  a4 : [o1, o2, o3, o4].map (fun o => (⟨o.dst, o.op, none⟩ : SOp)) = l8a
  ga : [o1, o2, o3, o4].all (fun o => o.guard.isNone) = true
  h5 : o5.op = .mapEntry 88 (.tmp 27) (.tmp 28) ∧ o5.guard = none ∧ o5.dst = some 32
  b3 : [o6, o7, o8].map (fun o => (⟨o.dst, o.op, none⟩ : SOp)) = l8b
  gb : [o6, o7, o8].all (fun o => o.guard.isNone) = true
  h9 : o9.op = .entryStore 88 (.tmp 27) (.tmp 34) (.tmp 33) ∧ o9.guard = none ∧ o9.dst = none
abbrev C0 : Cfg := ⟨[], []⟩
theorem dInner {Q : Exit → Act → World → Prop} (D : DD) (hD : DOK D) {c6 c7 c9 : Code} {id8 : Nat} {o1 o2 o3 o4 o5 o6 o7 o8 o9 : Oper} (s6 : slim C0 c6 = some s16_6) (k6 : codeOk C0 c6 = true) (s7 : slim C0 c7 = some s16_7) (k7 : codeOk C0 c7 = true)
    (s9 : slim C0 c9 = some s16_9) (k9 : codeOk C0 c9 = true) (r8 : R8 o1 o2 o3 o4 o5 o6 o7 o8 o9)
    {ct0 : CT} {seen : Array Nat} {E : Env} {a : Act} {w : World} (hA : AtW D seen E (D.o ct0) w) (hE : Ent D ct0 E w) {p0 p1 x15 : GVal} {h : Hs} {ps : List Hs} {N : Nat} (hKb : Kb N (ctM ct0)) (hN : N + ps.length ≤ 1000000)
    (ha : SlotsR E a (dS p0 p1 (.ptr 3 D.stb 0 0) (.ref (bytesG h.1)) .any .any x15 (.slice (hsG ps) .none) (.int .i64 ps.length) (.int .i64 0)))
    (hq : ∀ ct' E' a' w', ctM ct' = kidRow (ctM ct0) h ps → AtW D seen E' (D.o ct') w' → Ent D ct' E' w' → SlotsR E' a' (dS p0 p1 (.ptr 3 D.stb 0 0) .any .any .any x15 .any .any .any) → Q (.exit 2) a' w') :
    (Code.loop (c6.seq ((Code.cond (.tmp 24) .skip (.exit 2)).seq ((Code.block 3 (c7.seq (Code.region id8 #[o1, o2, o3, o4, o5, o6, o7, o8, o9] false))).seq c9)))).wp Tryz.prog Q a w := by
  refine wp_loop_ghost (fun n a w => ∃ ct k E, k ≤ ps.length ∧ ps.length - k = n ∧ ctM ct = kidRow (ctM ct0) h (ps.take k) ∧ AtW D seen E (D.o ct) w ∧ Ent D ct E w ∧ SlotsR E a (dS p0 p1 (.ptr 3 D.stb 0 0) (.ref (bytesG h.1)) .any .any x15 (.slice (hsG ps) .none) (.int .i64 ps.length) (.int .i64 k))) ps.length ⟨ct0, 0, E, Nat.zero_le _, rfl, rfl, hA, hE, ha⟩ ?_
  rintro n a1 w1 ⟨ct, k, E1, hk, rfl, hct, hA1, hE1, s1⟩
  refine wp_seq (wp_part (st := ⟨_, D.o ct⟩) mixS s6 k6 hA1.sim s1 (dR6 p0 p1 _ _ x15 _ k ps.length (D.o ct)) ?_)
  rintro ⟨t2, O2⟩ E2 a2 w2 q2 k2 s2R ⟨e2, hw2⟩
  change O2 = D.o ct at e2
  subst e2
  have s2 := s2R.weak hw2
  have hA2 := hA1.step q2 k2
  have hE2 := hE1.step hA1 k2
  have hc : a2.eval (.tmp 24) = .bool (decide (k < ps.length)) := by
    have : VR E2 (a2.eval (.tmp 24)) (.bool (decide (k < ps.length))) := SlotsR.ev (st := ⟨_, []⟩) s2 (.tmp 24)
    generalize a2.eval (.tmp 24) = v at this
    cases this; rfl
  show (Code.seq _ _).wp _ _ _ _
  refine wp_seq (wp_cond_split hc (fun ht => wp_skip ?_) (fun hf => wp_exit ?_))
  · have hlt : k < ps.length := of_decide_eq_true ht
    obtain ⟨p, hp⟩ : ∃ p, ps.getD k h0 = p := ⟨_, rfl⟩
    show (Code.seq _ _).wp _ _ _ _
    refine wp_seq (wp_block (wp_seq (wp_part (st := ⟨dS p0 p1 (.ptr 3 D.stb 0 0) (.ref (bytesG h.1)) .any .any x15 (.slice (hsG ps) .none) (.int .i64 ps.length) (.int .i64 k), D.o ct⟩) mixS s7 k7 hA2.sim (s2.weak (by simp [WL, leG_self, leG_any])) (dR7 p0 p1 _ _ x15 _ ps k hlt p hp (D.o ct) (obs_stamp _ _ _ _ _) (obs_tick _ _ _ _ _)) ?_)))
    rintro ⟨t3, O3⟩ E3 a3 w3 q3 k3 s3R ⟨v, e3, hw3⟩
    change O3 = D.o ct ++ [.row v 32 [bytesG p.1]] at e3
    subst e3
    have s3 := s3R.weak hw3
    obtain ⟨m1, m2, m3⟩ := q3.meltBox s3 9 1 rfl (by rw [len32]) (frzL_hs _ 0 p) (by intro e; have := len32 p; rw [e] at this; cases this)
    have kk := k3.trans m2
    have hA3 := hA2.step m1 kk
    have hE3 := hE2.step hA2 kk
    refine wp_region_lit (dR8 D hD hA3 hE3 (p0 := p0) (p1 := p1) (x15 := x15) (x21 := .slice (hsG ps) .none) (x22 := .int .i64 ps.length) (x23 := .int .i64 k) (h := h) (p := p) (m3.weak (by simp [WL, leG_self, leG_any])) ?_ r8.a4 r8.ga r8.h5.1 r8.h5.2.1 r8.h5.2.2 r8.b3 r8.gb r8.h9.1 r8.h9.2.1 r8.h9.2.2 ?_)
    · intro q hq
      have hb := hKb.row h (ps.take k)
      rw [← hct] at hb
      have h1 := hb q.1 (List.mem_map_of_mem hq)
      rw [List.length_take] at h1
      omega
    · intro ct' E4 a4 w4 hct' hA4 hE4 s4
      refine wp_part (st := ⟨_, D.o ct'⟩) mixS s9 k9 hA4.sim s4 (dR9 p0 p1 _ _ x15 _ _ k (by omega) (D.o ct')) ?_
      rintro ⟨t5, O5⟩ E5 a5 w5 q5 k5 s5R ⟨e5, hw5⟩
      change O5 = D.o ct' at e5
      subst e5
      refine ⟨ps.length - (k + 1), by omega, ct', k + 1, E5, hlt, rfl, ?_, hA4.step q5 k5, hE4.step hA4 k5, s5R.weak hw5⟩
      rw [hct', hct, takeH hlt, hp, kidRow_snoc]
  · have hnl : ¬ k < ps.length := of_decide_eq_false hf
    have : k = ps.length := by omega
    subst this
    rw [List.take_length] at hct
    exact hq ct E2 a2 w2 hct hA2 hE2 (s2.weak (by simp [WL, leG_self, leG_any]))
end Gv.Tryz
/- graph.Descendants: its outer loop. -/
set_option linter.unusedVariables false
set_option linter.unusedSimpArgs false
set_option maxRecDepth 20000
set_option maxHeartbeats 4000000
namespace Gv.Tryz
open Go Gv Go.Proofs
theorem AtW.pokeR {D : DD} (hD : DOK D) {seen seen' : Array Nat} {E : Env} {O : List GObj} {w w' : World} (h : AtW D seen E O w) (g : w.grownBy w' (some D.r)) (hw : WalkAt w' D.b D.r D.es D.clock seen') : AtW D seen' E O w' :=
  ⟨h.sim.grown g (fun r e => by cases e; exact ⟨h.hr.obj, h.hr.snap⟩), h.keep.grown g (fun r e => by cases e; exact hD.hr0), hw, h.hb.grown g, h.hr.grown g, h.hC.grown g, h.loc⟩
theorem inBlock_self {id : Nat} {Q : Exit → Act → World → Prop} {a : Act} {w : World} (h : Q .normal a w) : Exit.inBlock id Q (.exit id) a w := by simp only [Exit.inBlock, if_true]; exact h
abbrev l4 : List SOp := [(.mk (some 19) (.extract (.tmp 18) 0) none), (.mk (some 20) (.extract (.tmp 18) 1) none), (.mk (some 6) (.alloc 44) none), (.mk none (.store 44 (.tmp 6) (.tmp 19)) none), (.mk (some 7) (.assign (.tmp 20)) none)]
theorem dOuter {Q : Exit → Act → World → Prop} (D : DD) (hD : DOK D) (hm : GMOK D.m) (f : MapEntry → Hs × List Hs) (hf : D.es.toList.map f = D.m) (hfe : ∀ e ∈ D.es.toList, EntryOK D.E0 e (.agg (bytesG (f e).1.1), encL (f e).2))
    {c5 c6 c7 c9 : Code} {id3 id4 id8 : Nat} {n1 n2 e1 e2 e3 e4 e5 e6 o1 o2 o3 o4 o5 o6 o7 o8 o9 : Oper}
    (hn1 : n1.op = .next (.tmp 15) false ∧ n1.guard = none ∧ n1.dst = some 16) (hn2 : [n2].map (fun o => (⟨o.dst, o.op, none⟩ : SOp)) = [(.mk (some 17) (.extract (.tmp 16) 0) none)]) (gn2 : [n2].all (fun o => o.guard.isNone) = true)
    (he1 : e1.op = .entry (.tmp 15) ∧ e1.guard = none ∧ e1.dst = some 18) (he2 : [e2, e3, e4, e5, e6].map (fun o => (⟨o.dst, o.op, none⟩ : SOp)) = l4) (ge2 : [e2, e3, e4, e5, e6].all (fun o => o.guard.isNone) = true)
    (s5 : slim C0 c5 = some s16_5) (k5 : codeOk C0 c5 = true) (s6 : slim C0 c6 = some s16_6) (k6 : codeOk C0 c6 = true) (s7 : slim C0 c7 = some s16_7) (k7 : codeOk C0 c7 = true)
    (s9 : slim C0 c9 = some s16_9) (k9 : codeOk C0 c9 = true) (r8 : R8 o1 o2 o3 o4 o5 o6 o7 o8 o9)
    {E : Env} {a : Act} {w : World} (hA : AtW D #[] E (D.o []) w) (hE : Ent D [] E w) {p0 p1 : GVal}
    (ha : SlotsR E a (dS p0 p1 (.ptr 3 D.stb 0 0) .any .any .any (.lit (.pointer (some ⟨D.r, 0, none⟩))) .any .any .any))
    (hq : ∀ ct' pre seen E' a' w', pre.Perm D.m → ctM ct' = kidAll pre → AtW D seen E' (D.o ct') w' → Ent D ct' E' w' → SlotsR E' a' (dS p0 p1 (.ptr 3 D.stb 0 0) .any .any .any .any .any .any .any) → Q (.exit 0) a' w') :
    (Code.loop ((Code.region id3 #[n1, n2] false).seq ((Code.cond (.tmp 17) .skip (.exit 0)).seq (Code.block 1 ((Code.region id4 #[e1, e2, e3, e4, e5, e6] false).seq (c5.seq (Code.block 2
      (Code.loop (c6.seq ((Code.cond (.tmp 24) .skip (.exit 2)).seq ((Code.block 3 (c7.seq (Code.region id8 #[o1, o2, o3, o4, o5, o6, o7, o8, o9] false))).seq c9))))))))))).wp Tryz.prog Q a w := by
  obtain ⟨x15, e15⟩ : ∃ x : GVal, .lit (.pointer (some ⟨D.r, 0, none⟩)) = x := ⟨_, rfl⟩
  have lit15 : ∀ {E : Env} {a : Act} {S : List GVal}, SlotsR E a S → S.getD 15 .any = x15 → a.eval (.tmp 15) = .pointer (some ⟨D.r, 0, none⟩) := by
    intro E a S h hx
    have := SlotsR.ev (st := ⟨S, []⟩) h (.tmp 15)
    change VR E _ (S.getD 15 .any) at this
    rw [hx, ← e15] at this
    generalize a.eval (.tmp 15) = v at this
    cases this; rfl
  rw [e15] at ha
  refine wp_loop_ghost (fun n a w => ∃ ct seen xs E, Came D.es seen xs ∧ w.rangeLeft D.b D.r = n ∧ ctM ct = kidAll (xs.map f) ∧ AtW D seen E (D.o ct) w ∧ Ent D ct E w ∧ SlotsR E a (dS p0 p1 (.ptr 3 D.stb 0 0) .any .any .any x15 .any .any .any)) _ ⟨[], #[], [], E, Came.nil _, rfl, rfl, hA, hE, ha⟩ ?_
  rintro n a1 w1 ⟨ct, seen, xs, E1, hC, rfl, hct, hA1, hE1, s1⟩
  refine wp_seq (wp_region_lit (next_step hn1.2.1 hn1.1 hD.born hC (lit15 s1 rfl) hA1.walk ?_ ?_))
  · -- nothing is left
    intro hp
    rw [hn1.2.2]
    have hvt : VR E1 (.tuple #[.bool false]) (.tuple [.bool false]) := .tuple _ _ rfl (fun j g hj => by
      match j with
      | 0 => cases hj; exact .bool _
      | j + 1 => simp at hj)
    have s2 := (SlotsR.put (st := ⟨_, []⟩) s1 (.refl E1) (d := some 16) hvt [])
    refine ops_seg (st := ⟨(dS p0 p1 (.ptr 3 D.stb 0 0) .any .any .any x15 .any .any .any).set 16 (.tuple [.bool false]), D.o ct⟩) 1 hn2 gn2 hA1.sim s2 (dR3' p0 p1 _ x15 false (D.o ct)) ?_
    rintro ⟨t2, O2⟩ E2 a2 w2 q2 k2 s2R ⟨e2, hw2⟩
    change O2 = D.o ct at e2
    subst e2
    have s3 := s2R.weak hw2
    have hc : a2.eval (.tmp 17) = .bool false := by
      have : VR E2 (a2.eval (.tmp 17)) (.bool false) := SlotsR.ev (st := ⟨_, []⟩) s3 (.tmp 17)
      generalize a2.eval (.tmp 17) = v at this
      cases this; rfl
    refine wpList_nil ?_
    show (Code.seq _ _).wp _ _ _ _
    refine wp_seq (wp_cond_split hc (fun ht => by cases ht) (fun _ => wp_exit ?_))
    refine hq ct (xs.map f) seen E2 a2 w2 ?_ hct (hA1.step q2 k2) (hE1.step hA1 k2) (s3.weak (by simp [WL, leG_self, leG_any]))
    rw [← hf]
    exact hp.map f
  · intro e w' hem hC2 hlt hwk hmu hg hent
    rw [hn1.2.2]
    have hA' := hA1.pokeR hD hg hwk
    have hE' : Ent D ct E1 w' := by
      obtain ⟨esC, cC, hmC⟩ := hE1
      exact ⟨esC, cC, hmC.ext (.refl _) (hg.block _ hA1.hC.lt (fun e => hD.nr (Option.some.inj e)))⟩
    have hvt : VR E1 (.tuple #[.bool true, e.key, e.val]) (.tuple [.bool true, .any, .any]) := .tuple _ _ rfl (fun j g hj => by
      match j with
      | 0 => cases hj; exact .bool _
      | 1 => cases hj; exact .any _
      | 2 => cases hj; exact .any _
      | j + 3 => simp at hj)
    have s2 := (SlotsR.put (st := ⟨_, []⟩) s1 (.refl E1) (d := some 16) hvt [])
    refine ops_seg (st := ⟨(dS p0 p1 (.ptr 3 D.stb 0 0) .any .any .any x15 .any .any .any).set 16 (.tuple [.bool true, .any, .any]), D.o ct⟩) 1 hn2 gn2 hA'.sim s2 (dR3 p0 p1 _ x15 true .any .any (D.o ct)) ?_
    rintro ⟨t2, O2⟩ E2 a2 w2 q2 k2 s2R ⟨e2', hw2⟩
    change O2 = D.o ct at e2'
    subst e2'
    have s3 := s2R.weak hw2
    have hc : a2.eval (.tmp 17) = .bool true := by
      have : VR E2 (a2.eval (.tmp 17)) (.bool true) := SlotsR.ev (st := ⟨_, []⟩) s3 (.tmp 17)
      generalize a2.eval (.tmp 17) = v at this
      cases this; rfl
    have hA2 := hA'.step q2 k2
    have hE2 := hE'.step hA' k2
    have hent2 := hent w2 (hA'.hb.keep k2).2 (hA'.hr.keep k2).2
    refine wpList_nil ?_
    show (Code.seq _ _).wp _ _ _ _
    refine wp_seq (wp_cond_split hc (fun ht => wp_skip ?_) (fun hf => by cases hf))
    show (Code.block _ _).wp _ _ _ _
    refine wp_block (wp_seq (wp_region_lit (entry_step he1.2.1 he1.1 (lit15 s3 rfl) hent2 ?_)))
    rw [he1.2.2]
    obtain ⟨hv1, hv2⟩ := hfe e hem
    obtain ⟨q, eq⟩ : ∃ q, f e = q := ⟨_, rfl⟩
    have hqm : q ∈ D.m := by rw [← eq, ← hf]; exact List.mem_map_of_mem hem
    rw [eq] at hv1 hv2
    obtain ⟨h, ps⟩ := q
    have hvt2 : VR E2 (.tuple #[e.key, e.val]) (.tuple [.agg (bytesG h.1), .slice (hsG ps) .none]) := .tuple _ _ rfl (fun j g hj => by
      match j with
      | 0 => cases hj; exact hv1.mono hA2.keep.ext
      | 1 => cases hj; exact hv2.mono hA2.keep.ext
      | j + 2 => simp at hj)
    have s4 := (SlotsR.put (st := ⟨_, []⟩) s3 (.refl E2) (d := some 18) hvt2 []).weak (s' := (dS p0 p1 (.ptr 3 D.stb 0 0) .any .any .any x15 .any .any .any).set 18 (.tuple [.agg (bytesG h.1), .slice (hsG ps) .none])) (by simp [GSt.put, WL, leG_self, leG_any])
    refine ops_seg (st := ⟨(dS p0 p1 (.ptr 3 D.stb 0 0) .any .any .any x15 .any .any .any).set 18 (.tuple [.agg (bytesG h.1), .slice (hsG ps) .none]), D.o ct⟩) 5 he2 ge2 hA2.sim s4 (dR4 p0 p1 _ x15 h ps (D.o ct) (obs_stamp _ _ _ _ _) (obs_tick _ _ _ _ _)) ?_
    rintro ⟨t3, O3⟩ E3 a3 w3 q3 k3 s3R ⟨v, e3', hw3⟩
    change O3 = D.o ct ++ [.row v 32 [bytesG h.1]] at e3'
    subst e3'
    have s5' := s3R.weak hw3
    obtain ⟨m1, m2, m3⟩ := q3.meltBox s5' 6 1 rfl (by rw [len32]) (frzL_hs _ 0 h) (by intro e; have := len32 h; rw [e] at this; cases this)
    have kk := k3.trans m2
    have hA3 := hA2.step m1 kk
    have hE3 := hE2.step hA2 kk
    refine wpList_nil ?_
    show (Code.seq _ _).wp _ _ _ _
    refine wp_seq (wp_part (st := ⟨dS p0 p1 (.ptr 3 D.stb 0 0) (.ref (bytesG h.1)) (.slice (hsG ps) .none) .any x15 .any .any .any, D.o ct⟩) mixS s5 k5 hA3.sim (m3.weak (by simp [WL, leG_self, leG_any])) (dR5 p0 p1 _ _ x15 ps (D.o ct)) ?_)
    rintro ⟨t4, O4⟩ E4 a4 w4 q4 k4 s4R ⟨e4', hw4⟩
    change O4 = D.o ct at e4'
    subst e4'
    have hps : ps.length ≤ 4 := hm.row _ hqm
    have hle : xs.length ≤ D.m.length := by
      have : D.es.toList.length = D.m.length := by rw [← hf, List.length_map]
      have h2 : D.es.toList.length = D.es.size := Array.length_toList
      omega
    have hml := hm.len
    have hKb := Kb.all (xs.map f) (fun q hq => by
      obtain ⟨y, hy, rfl⟩ := List.mem_map.1 hq
      exact hm.row _ (by rw [← hf]; exact List.mem_map_of_mem (hC.2.2 y hy)))
    rw [← hct, List.length_map] at hKb
    show (Code.block _ _).wp _ _ _ _
    refine wp_block (dInner D hD s6 k6 s7 k7 s9 k9 r8 (hA3.step q4 k4) (hE3.step hA3 k4) hKb (by omega) (s4R.weak hw4) ?_)
    intro ct' E5 a5 w5 hct' hA5 hE5 s6'
    refine inBlock_self ?_
    refine ⟨w5.rangeLeft D.b D.r, ?_, ct', _, xs ++ [e], E5, hC2, rfl, ?_, hA5, hE5, s6'⟩
    · rw [hA5.walk.left_eq, ← hwk.left_eq]; exact hmu
    · rw [List.map_append, List.map_cons, List.map_nil, kidAll_snoc, eq, hct', hct]
end Gv.Tryz
/- graph.Descendants: the contract. -/
set_option linter.unusedVariables false
set_option linter.unusedSimpArgs false
set_option maxRecDepth 20000
set_option maxHeartbeats 4000000
namespace Gv.Tryz
open Go Gv Go.Proofs
open Nat (reduceEqDiff reduceAdd reduceSub reduceLeDiff reduceMul reduceLT)
def kidsM (m : GM) (x : Hs) : List Hs := (m.filter fun q => decide (x ∈ q.2)).map (·.1)
theorem kidsM_mem {m : GM} {x y : Hs} : y ∈ kidsM m x ↔ ∃ q ∈ m, x ∈ q.2 ∧ y = q.1 := by
  unfold kidsM
  rw [List.mem_map]
  constructor
  · rintro ⟨q, hq, rfl⟩
    obtain ⟨h1, h2⟩ := List.mem_filter.1 hq
    exact ⟨q, h1, of_decide_eq_true h2, rfl⟩
  · rintro ⟨q, h1, h2, rfl⟩
    exact ⟨q, List.mem_filter.2 ⟨h1, decide_eq_true h2⟩, rfl⟩
theorem parsM_put (ch : GM) (p h x : Hs) : parsM (kidPut ch p h) x = if x = p then parsM ch x ++ [h] else parsM ch x := by
  unfold parsM kidPut
  rw [look_mset]
  by_cases e : x = p
  · rw [if_pos e, if_pos e, e]; rfl
  · rw [if_neg e, if_neg e]
theorem parsM_row (h x y : Hs) : ∀ (ps : List Hs) (ch : GM), y ∈ parsM (kidRow ch h ps) x ↔ y ∈ parsM ch x ∨ (x ∈ ps ∧ y = h)
  | [], ch => by simp [kidRow]
  | p :: r, ch => by
    have := parsM_row h x y r (kidPut ch p h)
    rw [show kidRow ch h (p :: r) = kidRow (kidPut ch p h) h r from rfl, this, parsM_put]
    by_cases e : x = p
    · rw [if_pos e]; simp [e]; exact fun _ q => .inr q
    · rw [if_neg e]; simp [e]
theorem parsM_all (x y : Hs) : ∀ (pre ch : GM), y ∈ parsM (pre.foldl (fun c q => kidRow c q.1 q.2) ch) x ↔ y ∈ parsM ch x ∨ ∃ q ∈ pre, x ∈ q.2 ∧ y = q.1
  | [], ch => by simp
  | q :: r, ch => by
    rw [List.foldl_cons, parsM_all x y r, parsM_row]
    constructor
    · rintro ((h | h) | ⟨z, h1, h2⟩)
      · exact .inl h
      · exact .inr ⟨q, by simp, h⟩
      · exact .inr ⟨z, by simp [h1], h2⟩
    · rintro (h | ⟨z, h1, h2⟩)
      · exact .inl (.inl h)
      · rcases List.mem_cons.1 h1 with e | e
        · rw [e] at h2; exact .inl (.inr h2)
        · exact .inr ⟨z, e, h2⟩
theorem kids_of_perm {pre m : GM} (hp : pre.Perm m) (x y : Hs) : y ∈ parsM (kidAll pre) x ↔ y ∈ kidsM m x := by
  unfold kidAll
  rw [parsM_all, kidsM_mem]
  constructor
  · rintro (h | ⟨q, h1, h2⟩)
    · cases h
    · exact ⟨q, hp.mem_iff.1 h1, h2⟩
  · rintro ⟨q, h1, h2⟩
    exact .inr ⟨q, hp.mem_iff.2 h1, h2⟩
theorem reach_iff {n1 n2 : Hs → List Hs} (h : ∀ x y, y ∈ n1 x ↔ y ∈ n2 x) (l : List Hs) (z : Hs) : Reach n1 l z ↔ Reach n2 l z := by
  constructor
  · intro r
    induction r with
    | base x hx => exact .base x hx
    | step x y _ hy ih => exact .step x y ih ((h x y).1 hy)
  · intro r
    induction r with
    | base x hx => exact .base x hx
    | step x y _ hy ih => exact .step x y ih ((h x y).2 hy)
noncomputable def desL (m : GM) (l : List Hs) : List Hs := by
  classical exact sortR ((l ++ hashesM m).filter fun x => decide (Reach (kidsM m) (inM m l) x))
theorem desL_ss (m : GM) (l : List Hs) : SS (desL m l) := sortR_ss _
theorem kids_in {m : GM} {x y : Hs} (h : y ∈ kidsM m x) : y ∈ hashesM m := by
  obtain ⟨q, h1, _, rfl⟩ := kidsM_mem.1 h
  exact List.mem_append_left _ (List.mem_map_of_mem h1)
theorem desL_mem (m : GM) (l : List Hs) (x : Hs) : x ∈ desL m l ↔ Reach (kidsM m) (inM m l) x := by
  classical
  unfold desL
  rw [sortR_mem, List.mem_filter, decide_eq_true_eq]
  refine ⟨fun h => h.2, fun h => ⟨?_, h⟩⟩
  cases h with
  | base x hx => exact List.mem_append_left _ (List.mem_filter.1 hx).1
  | step x y _ hy => exact List.mem_append_right _ (kids_in hy)
theorem gDes1 (a : GObj) (M : GM) (h : Hs) (s : Nat) (l : List Hs) (el : look M h = some l) : GCalls Tryz.prog 48 [.agg (bytesG h.1), .ref [.map 1 s]] [a, .map s (kvG encL M)] (fun g O' => g = .slice (hsG l) .none ∧ O' = [a, .map s (kvG encL M)]) := by
  obtain ⟨i, hi, hv, _⟩ := look_idx encL M h l el
  refine h48.calls mixS (by simp) ?_
  simp only [gstart, s48, List.cons_append, List.nil_append, List.length_cons, List.length_nil, reduceAdd, reduceSub, List.replicate_succ, List.replicate_zero]
  simp +contextual -implicitDefEqProofs (maxSteps := 2000000) (disch := omega) only [optV, ↓loadV, ↓boxV, ↓sliceV, bound, cutTag, hiTag, GVal.cells, GVal.ofConst, ↓resV, resG, ↓reduceIte, reduceEqDiff, reduceAdd, reduceSub, reduceLeDiff, reduceCtorEq, ↓lookupV, keyOk, keyCells, pairG, Tag.cap, GVal.solid, Nat.reduceBEq, reduceMul, reduceLT, vcA, ↓vcB, vcC, fbFy, e48, kfind_h, hi, hv, vcD, v32]
theorem gDes0 (a : GObj) (M : GM) (h : Hs) (s : Nat) (el : look M h = none) : GCalls Tryz.prog 48 [.agg (bytesG h.1), .ref [.map 1 s]] [a, .map s (kvG encL M)] (fun g O' => g = .slice [] .nil ∧ O' = [a, .map s (kvG encL M)]) := by
  obtain ⟨hi, _⟩ := look_none encL M h el
  refine h48.calls mixS (by simp) ?_
  simp only [gstart, s48, List.cons_append, List.nil_append, List.length_cons, List.length_nil, reduceAdd, reduceSub, List.replicate_succ, List.replicate_zero]
  simp +contextual -implicitDefEqProofs (maxSteps := 2000000) (disch := omega) only [optV, ↓loadV, ↓boxV, ↓sliceV, bound, cutTag, hiTag, GVal.cells, GVal.ofConst, ↓resV, resG, ↓reduceIte, reduceEqDiff, reduceAdd, reduceSub, reduceLeDiff, reduceCtorEq, ↓lookupV, keyOk, keyCells, pairG, Tag.cap, GVal.solid, Nat.reduceBEq, reduceMul, reduceLT, vcA, ↓vcB, vcC, fbFy, e48, kfind_h, hi, vcD, v32]
theorem gDesN (a : GObj) (M : GM) (h : Hs) (s : Nat) : GCalls Tryz.prog 48 [.agg (bytesG h.1), .ref [.map 1 s]] [a, .map s (kvG encL M)] (fun g O' => g = .slice (hsG (parsM M h)) .none ∧ O' = [a, .map s (kvG encL M)]) := by
  cases el : look M h with
  | some l => rw [parsM_some el]; exact gDes1 a M h s l el
  | none =>
    rw [parsM_none el]
    refine GCalls.into ((gDes0 a M h s el).mono ?_)
    rintro g O' ⟨rfl, rfl⟩
    exact GInto.weak (O := [a, .map s (kvG encL M)]) (X := []) (by rw [leG_none]; rfl) (.here ⟨rfl, rfl⟩)
theorem dHalf (m : GM) (hm : GMOK m) (st s stC : Nat) (l : List Hs) (t : Tag) (ht : t = .nil → l = []) (hl : l.length ≤ 10000) (ch : GM) (hch : ∀ x y, y ∈ parsM ch x ↔ y ∈ kidsM m x) (hKb : Kb 40000 ch) :
    vcS Tryz.prog [] (.seq s16_15 .ret) (retQ Tryz.prog [.tmp 4] (dropTo fun g O' => g = .slice (hsG (desL m l)) .none ∧ O' = gObj st s m)) ⟨dS (.ptr 0 st 0 0) (.slice (hsG l) t) (.ref [.map 2 stC]) .any .any .any .any .any .any .any, gObj st s m ++ [.map stC (kvG encL ch)]⟩ := by
  have hfl : (inM m l).length ≤ l.length := List.length_filter_le _ _
  have cT := (gThere m st s l t ht (by omega)).keep2 rfl [.map stC (kvG encL ch)]
  have hkl : ∀ x, (parsM ch x).length ≤ 40000 := fun x => by
    cases e : look ch x with
    | some r => rw [parsM_some e]; exact hKb _ (look_memG e)
    | none => rw [parsM_none e]; simp
  have cR0 := gReached (caps := [.ref [.map 1 stC]]) (parsM ch) (fun h => gDesN (.row st 1 [[.map 1 s]]) ch h stC) rfl (inM m l) .none (by simp) (inM m l ++ hashesM m) (fun x hx => List.mem_append_left _ hx) (fun x _ y hy => List.mem_append_right _ (kids_in ((hch x y).1 hy))) 40000 (fun x _ => hkl x) (by have := hm.hashes; rw [List.length_append]; omega) (by omega) (by omega)
  have cR := GCalls.on2new (O := gObj st s m ++ [.map stC (kvG encL ch)]) (args' := [.slice (hsG (inM m l)) .none, .func (.func 48) [] [.ref [.map 2 stC]]]) (R := fun st kv => ∃ S : List Hs, kv = kvG encB (setM S) ∧ S.Nodup ∧ (∀ x, x ∈ S ↔ Reach (parsM ch) (inM m l) x) ∧ S.length ≤ (inM m l ++ hashesM m).length) (cR0.mono (by
    rintro g O' ⟨st, S, rfl, rfl, h1, h2, h3⟩
    exact ⟨st, _, rfl, rfl, S, rfl, h1, h2, h3⟩)) 0 2 (by omega) rfl rfl ⟨GLe.refl _, GLe.func _ trivial ⟨GLe.ref ⟨GLe.map _ _ _, trivial⟩, trivial⟩, trivial⟩ rfl rfl
  skip
  simp +contextual -implicitDefEqProofs (maxSteps := 2000000) (disch := omega) only [↓lenV, binV, optV, ↓loadV, ↓storeV, ↓fieldAddrV, ↓indexAddrV, ↓allocV, ↓buildSliceV, ↓sliceV, ↓nilV, ↓appendV, ↓srcV, bound, cutTag, hiTag, fillE, GVal.cells, GVal.ofConst, ↓resV, resG, ↓reduceIte, reduceEqDiff, reduceAdd, reduceSub, reduceLeDiff, reduceCtorEq, ↓asrcV, ↓makeMapV, Tag.cap, GVal.solid, Nat.reduceBEq, reduceMul, reduceLT, vcA, ↓vcB, vcC, fbFy, e16, dS, vcD]
  refine cT.mono ?_
  rintro g O' ⟨rfl, rfl⟩
  simp +contextual -implicitDefEqProofs (maxSteps := 2000000) (disch := omega) only [↓lenV, binV, optV, ↓loadV, ↓storeV, ↓fieldAddrV, ↓indexAddrV, ↓allocV, ↓buildSliceV, ↓sliceV, ↓nilV, ↓appendV, ↓srcV, bound, cutTag, hiTag, fillE, GVal.cells, GVal.ofConst, ↓resV, resG, ↓reduceIte, reduceEqDiff, reduceAdd, reduceSub, reduceLeDiff, reduceCtorEq, ↓asrcV, ↓makeMapV, Tag.cap, GVal.solid, Nat.reduceBEq, reduceMul, reduceLT, vcA, ↓vcB, vcC, fbFy, e16, vcD]
  refine cR.mono ?_
  rintro g O' ⟨s2, kv, rfl, rfl, S, rfl, hS, hR, hSl⟩
  have hh := hm.hashes
  rw [List.length_append] at hSl
  have eA : sortR ((setM S).map (·.1)) = desL m l := ss_eq (sortR_ss _) (desL_ss m l) fun z => by
    rw [sortR_mem, desL_mem, ← reach_iff hch, ← hR z]; simp [setM]
  have cS := gSorted encB (setM S) (by simp [setM]; omega) s2
  rw [eA] at cS
  have cS2 : GCalls Tryz.prog 45 [.map 0 s2] [.map s2 (kvG encB (setM S))] (fun g O' => ∃ x', O' = [x'] ∧ (g = .slice (hsG (desL m l)) .none ∧ x' = .map s2 (kvG encB (setM S)))) := cS.mono (by rintro g O' ⟨rfl, rfl⟩; exact ⟨_, rfl, rfl, rfl⟩)
  have cS3 := GCalls.keep1 (args' := [.map 3 s2]) cS2 (O := gObj st s m ++ [.map stC (kvG encL ch)] ++ [.map s2 (kvG encB (setM S))]) 3 rfl rfl rfl rfl
  simp +contextual -implicitDefEqProofs (maxSteps := 2000000) (disch := omega) only [↓lenV, binV, optV, ↓loadV, ↓storeV, ↓fieldAddrV, ↓indexAddrV, ↓allocV, ↓buildSliceV, ↓sliceV, ↓nilV, ↓appendV, ↓srcV, bound, cutTag, hiTag, fillE, GVal.cells, GVal.ofConst, ↓resV, resG, ↓reduceIte, reduceEqDiff, reduceAdd, reduceSub, reduceLeDiff, reduceCtorEq, ↓asrcV, ↓makeMapV, Tag.cap, GVal.solid, Nat.reduceBEq, reduceMul, reduceLT, vcA, ↓vcB, vcC, fbFy, e16, vcD]
  refine cS3.mono ?_
  rintro g O' ⟨rfl, rfl⟩
  simp +contextual -implicitDefEqProofs (maxSteps := 2000000) (disch := omega) only [↓lenV, binV, optV, ↓loadV, ↓storeV, ↓fieldAddrV, ↓indexAddrV, ↓allocV, ↓buildSliceV, ↓sliceV, ↓nilV, ↓appendV, ↓srcV, bound, cutTag, hiTag, fillE, GVal.cells, GVal.ofConst, ↓resV, resG, ↓reduceIte, reduceEqDiff, reduceAdd, reduceSub, reduceLeDiff, reduceCtorEq, ↓asrcV, ↓makeMapV, Tag.cap, GVal.solid, Nat.reduceBEq, reduceMul, reduceLT, vcA, ↓vcB, vcC, fbFy, e16, vcD]
  exact ⟨_, gObj st s m, [.map stC (kvG encL ch), .map s2 (kvG encB (setM S))], rfl, leA_refl _, rfl, rfl⟩
end Gv.Tryz
