/- Graphs that may be: plain laws of walks. -/
import Derived.Test.YtgkglnjmiobdmaaP10
import Derived.KernelRfl
set_option linter.unusedVariables false
set_option linter.unusedSimpArgs false
set_option maxRecDepth 20000
namespace Gv.Try
open Go Gv Go.Proofs
structure Good (m : GM) : Prop where
  ok : GOK m
  keys : (m.map (·.1)).Nodup
  closed : ∀ x y, y ∈ parsM m x → (look m y).isSome = true
  acyc : ∀ x, ¬ Reach (parsM m) (parsM m x) x
theorem Good.gm {m : GM} (h : Good m) : GMOK m := ⟨by have := h.ok.len; omega, h.ok.row⟩
theorem Reach.trans {nx : Hs → List Hs} {l l' : List Hs} {x : Hs} (h : Reach nx l' x) (hl : ∀ y ∈ l', Reach nx l y) : Reach nx l x := by
  induction h with
  | base x hx => exact hl x hx
  | step x y _ hy ih => exact .step x y ih hy
theorem Reach.sub {nx : Hs → List Hs} {l l' : List Hs} {x : Hs} (h : Reach nx l' x) (hl : ∀ y ∈ l', y ∈ l) : Reach nx l x := h.trans fun y hy => .base y (hl y hy)
theorem Reach.nil {nx : Hs → List Hs} {x : Hs} (h : Reach nx [] x) : False := by
  induction h with
  | base x hx => cases hx
  | step _ _ _ _ ih => exact ih
theorem pars_there {m : GM} {x y : Hs} (h : y ∈ parsM m x) : (look m x).isSome = true := by
  cases e : look m x with
  | some l => rfl
  | none => rw [parsM_none e] at h; cases h
theorem Reach.inM {m : GM} {l : List Hs} {x : Hs} (h : Reach (parsM m) l x) (hx : (look m x).isSome = true) : Reach (parsM m) (inM m l) x := by
  induction h with
  | base x h => exact .base x (List.mem_filter.2 ⟨h, hx⟩)
  | step x y _ hy ih => exact .step x y (ih (pars_there hy)) hy
theorem visL_ex (m : GM) (dn : Hs → Bool) : ∀ (n : Nat) (r S out : List Hs), S.Nodup → (∀ x ∈ S, (look m x).isSome = true) → m.length < S.length + n → ∃ T, VisL m dn r (S, out) T ∧ T.1.Nodup ∧ (∀ x ∈ T.1, (look m x).isSome = true) ∧ S.length ≤ T.1.length := by
  intro n
  induction n with
  | zero =>
    intro r S out h1 h2 h3
    have := nodup_lenH S (m.map (·.1)) h1 fun x hx => look_key (h2 x hx)
    rw [List.length_map] at this
    omega
  | succ n ihn =>
    intro r
    induction r with
    | nil => exact fun S out h1 h2 h3 => ⟨_, .nil _, h1, h2, Nat.le_refl _⟩
    | cons p r ih =>
      intro S out h1 h2 h3
      cases hp : pushed m dn S p with
      | false =>
        obtain ⟨T, a, b⟩ := ih S out h1 h2 h3
        exact ⟨T, .skip p r (S, out) T hp a, b⟩
      | true =>
        obtain ⟨p1, p2, _⟩ := pushed_iff hp
        obtain ⟨⟨S1, o1⟩, a1, a2, a3, a4⟩ := ihn (parsM m p) (S ++ [p]) out (by
          rw [List.nodup_append]
          exact ⟨h1, by simp, fun a ha b hb => by rw [List.mem_singleton.1 hb]; exact fun e => p2 (e ▸ ha)⟩) (fun x hx => by
          rcases List.mem_append.1 hx with q | q
          · exact h2 x q
          · rw [List.mem_singleton.1 q]; exact p1) (by rw [List.length_append, List.length_singleton]; omega)
        simp only [List.length_append, List.length_singleton] at a2 a3 a4
        obtain ⟨T, b1, b2, b3, b4⟩ := ih S1 (o1 ++ [p]) a2 a3 (by omega)
        exact ⟨T, .go p r (S, out) (S1, o1) T hp a1 b1, b2, b3, by omega⟩
theorem walk_ex (m : GM) (dn : Hs → Bool) (hs : List Hs) : ∃ T, VisL m dn hs ([], []) T := by
  obtain ⟨T, h, _⟩ := visL_ex m dn (m.length + 1) hs [] [] List.nodup_nil (by simp) (by simp)
  exact ⟨T, h⟩
theorem vis_spec {m : GM} {dn : Hs → Bool} (hg : ∀ x, ¬ Reach (parsM m) (parsM m x) x) {r : List Hs} {so T : WSt} (h : VisL m dn r so T) :
    (∀ x ∈ so.2, x ∈ so.1) → (∀ k ∈ so.1, k ∉ so.2 → ∀ p ∈ r, Reach (parsM m) (parsM m k) p) →
    ∃ new, T.2 = so.2 ++ new ∧ (∀ x, x ∈ T.1 ↔ x ∈ so.1 ∨ x ∈ new) ∧ new.Nodup ∧ (∀ x ∈ new, x ∉ so.1 ∧ (look m x).isSome = true ∧ dn x = false ∧ Reach (parsM m) r x) ∧
      (∀ p ∈ r, (look m p).isSome = true → dn p = false → p ∈ T.2) ∧ (∀ i x, new[i]? = some x → ∀ y ∈ parsM m x, (look m y).isSome = true → dn y = false → y ∈ so.2 ++ new.take i) := by
  induction h with
  | nil so => exact fun _ _ => ⟨[], by simp, by simp, List.nodup_nil, by simp, by simp, by simp⟩
  | skip p r so T hp _ ih =>
    intro hS hK
    obtain ⟨new, h1, h2, h3, h4, h5, h6⟩ := ih hS fun k hk hn q hq => hK k hk hn q (by simp [hq])
    refine ⟨new, h1, h2, h3, fun x hx => ?_, fun q hq hl hd => ?_, h6⟩
    · obtain ⟨a, b, c, d⟩ := h4 x hx
      exact ⟨a, b, c, d.sub fun y hy => by simp [hy]⟩
    · rcases List.mem_cons.1 hq with e | e
      · subst e
        have hin : q ∈ so.1 := by
          unfold pushed at hp
          rw [hl, hd] at hp
          simpa using hp
        by_cases ho : q ∈ so.2
        · rw [h1]; exact List.mem_append_left _ ho
        · exact absurd (hK q hin ho q (by simp)) (hg q)
      · exact h5 q e hl hd
  | go p r so so1 T hp _ _ ih1 ih2 =>
    intro hS hK
    obtain ⟨p1, p2, p3⟩ := pushed_iff hp
    obtain ⟨n1, a1, a2, a3, a4, a5, a6⟩ := ih1 (fun x hx => List.mem_append_left _ (hS x hx)) (fun k hk hn y hy => by
      rcases List.mem_append.1 hk with q | q
      · exact .step p y (hK k q hn p (by simp)) hy
      · rw [List.mem_singleton.1 q]; exact .base y hy)
    simp only at a1 a2 a4 a5 a6
    have hso1 : ∀ x ∈ so1.2 ++ [p], x ∈ so1.1 := fun x hx => by
      rw [a2]
      rw [a1] at hx
      simp only [List.mem_append, List.mem_singleton] at hx ⊢
      rcases hx with (q | q) | q
      · exact .inl (.inl (hS x q))
      · exact .inr q
      · exact .inl (.inr q)
    obtain ⟨n2, b1, b2, b3, b4, b5, b6⟩ := ih2 hso1 (fun k hk hn q hq => by
      simp only at hk hn
      rw [a2] at hk
      rw [a1] at hn
      simp only [List.mem_append, List.mem_singleton, not_or] at hk hn
      rcases hk with (e | e) | e
      · exact hK k e hn.1.1 q (by simp [hq])
      · exact absurd e hn.2
      · exact absurd e hn.1.2)
    simp only at b1 b2 b4 b5 b6
    have e2 : T.2 = so.2 ++ (n1 ++ [p] ++ n2) := by rw [b1, a1]; simp
    refine ⟨n1 ++ [p] ++ n2, e2, fun x => ?_, ?_, fun x hx => ?_, fun q hq hl hd => ?_, fun i x hi y hy hl hd => ?_⟩
    · rw [b2, a2]
      simp only [List.mem_append, List.mem_singleton]
      constructor
      · rintro (((h | h) | h) | h)
        · exact .inl h
        · exact .inr (.inl (.inr h))
        · exact .inr (.inl (.inl h))
        · exact .inr (.inr h)
      · rintro (h | (h | h) | h)
        · exact .inl (.inl (.inl h))
        · exact .inl (.inr h)
        · exact .inl (.inl (.inr h))
        · exact .inr h
    · rw [List.nodup_append, List.nodup_append]
      refine ⟨⟨a3, by simp, fun a ha b hb e => ?_⟩, b3, fun a ha b hb e => ?_⟩
      · rw [List.mem_singleton.1 hb] at e
        exact (a4 a ha).1 (by rw [e]; simp)
      · refine (b4 b hb).1 (hso1 b ?_)
        rw [← e, a1]
        simp only [List.mem_append, List.mem_singleton] at ha ⊢
        exact ha.imp .inr id
    · rcases List.mem_append.1 hx with q | q
      · rcases List.mem_append.1 q with q | q
        · obtain ⟨c1, c2, c3, c4⟩ := a4 x q
          exact ⟨fun e => c1 (List.mem_append_left _ e), c2, c3, c4.trans fun y hy => .step p y (.base p (by simp)) hy⟩
        · rw [List.mem_singleton.1 q]; exact ⟨p2, p1, p3, .base p (by simp)⟩
      · obtain ⟨c1, c2, c3, c4⟩ := b4 x q
        exact ⟨fun e => c1 (by rw [a2]; simp [e]), c2, c3, c4.sub fun y hy => by simp [hy]⟩
    · rcases List.mem_cons.1 hq with e | e
      · rw [e2, e]; simp
      · exact b5 q e hl hd
    · have hin : ∀ z, (z ∈ so.2 ++ n1 ++ [p] ∨ z ∈ so.2 ++ n1 ++ [p] ++ n2.take (i - n1.length - 1)) → n1.length < i → z ∈ so.2 ++ (n1 ++ [p] ++ n2).take i := fun z hz hi => by
        have et : (n1 ++ [p] ++ n2).take i = n1 ++ [p] ++ n2.take (i - n1.length - 1) := by
          rw [List.take_append, List.take_of_length_le (by simp; omega)]
          congr 2
          simp; omega
        rw [et]
        rcases hz with q | q
        · simp only [List.mem_append, List.mem_singleton] at q ⊢
          rcases q with (q | q) | q
          · exact .inl q
          · exact .inr (.inl (.inl q))
          · exact .inr (.inl (.inr q))
        · simp only [List.mem_append, List.mem_singleton] at q ⊢
          rcases q with ((q | q) | q) | q
          · exact .inl q
          · exact .inr (.inl (.inl q))
          · exact .inr (.inl (.inr q))
          · exact .inr (.inr q)
      by_cases h1 : i < n1.length
      · have e1 : n1[i]? = some x := by rw [List.append_assoc, List.getElem?_append_left h1] at hi; exact hi
        have := a6 i x e1 y hy hl hd
        have et : (n1 ++ [p] ++ n2).take i = n1.take i := by rw [List.append_assoc, List.take_append_of_le_length (by omega)]
        rw [et]; exact this
      · by_cases h2 : i = n1.length
        · subst h2
          have e1 : x = p := by
            rw [List.append_assoc, List.getElem?_append_right (Nat.le_refl _), Nat.sub_self] at hi
            simpa using hi.symm
          subst e1
          have := a5 y hy hl hd
          rw [a1] at this
          have et : (n1 ++ [x] ++ n2).take n1.length = n1 := by rw [List.append_assoc]; exact List.take_left
          rw [et]; exact this
        · have e1 : n2[i - n1.length - 1]? = some x := by
            rw [List.append_assoc, List.getElem?_append_right (by omega), List.singleton_append] at hi
            obtain ⟨j, hj⟩ : ∃ j, i - n1.length = j + 1 := ⟨i - n1.length - 1, by omega⟩
            rw [hj] at hi ⊢
            simpa using hi
          have := b6 _ x e1 y hy hl hd
          rw [a1] at this
          exact hin y (.inr this) (by omega)
theorem vis_spec0 {m : GM} {dn : Hs → Bool} (hg : ∀ x, ¬ Reach (parsM m) (parsM m x) x) {hs : List Hs} {T : WSt} (h : VisL m dn hs ([], []) T) :
    (∀ x, x ∈ T.1 ↔ x ∈ T.2) ∧ T.2.Nodup ∧ (∀ x ∈ T.2, (look m x).isSome = true ∧ dn x = false ∧ Reach (parsM m) hs x) ∧
      (∀ p ∈ hs, (look m p).isSome = true → dn p = false → p ∈ T.2) ∧ (∀ i x, T.2[i]? = some x → ∀ y ∈ parsM m x, (look m y).isSome = true → dn y = false → y ∈ T.2.take i) := by
  obtain ⟨new, h1, h2, h3, h4, h5, h6⟩ := vis_spec hg h (by simp) (by simp)
  simp only [List.nil_append] at h1 h6
  subst h1
  refine ⟨fun x => by rw [h2]; simp, h3, fun x hx => ?_, h5, h6⟩
  obtain ⟨_, b, c, d⟩ := h4 x hx
  exact ⟨b, c, d⟩
theorem nodup_at {l : List Hs} (h : l.Nodup) {i j : Nat} {x : Hs} (hi : l[i]? = some x) (hj : l[j]? = some x) : i = j := by
  obtain ⟨a, ha⟩ := List.getElem?_eq_some_iff.1 hi
  obtain ⟨b, hb⟩ := List.getElem?_eq_some_iff.1 hj
  exact (List.getElem_inj h).1 (by rw [ha, hb])
theorem walk_rising {m : GM} (hm : Good m) {hs : List Hs} {T : WSt} (h : VisL m (fun _ => false) hs ([], []) T) : risingB m T.2 = true := by
  obtain ⟨_, h2, h3, _, h5⟩ := vis_spec0 hm.acyc h
  refine risingB_yes ⟨h2, fun x hx => (h3 x hx).1, fun k a x hk hx j hj => ?_⟩
  have hr := (ancL_mem m [a] x).1 hx
  have : x ∈ T.2.take (k + 1) := by
    clear hj hx
    induction hr with
    | base x hx =>
      have := (List.mem_filter.1 hx).1
      rw [List.mem_singleton.1 this]
      obtain ⟨q, hq⟩ := List.getElem?_eq_some_iff.1 hk
      rw [List.take_succ_eq_append_getElem q, hq]; simp
    | step x y _ hy ih =>
      obtain ⟨i, hi, e⟩ := List.getElem_of_mem ih
      rw [List.getElem_take] at e
      have hi2 : i < k + 1 := by rw [List.length_take] at hi; omega
      have hi3 : i < T.2.length := by rw [List.length_take] at hi; omega
      have := h5 i x (by rw [List.getElem?_eq_getElem hi3, e]) y hy (hm.closed x y hy) rfl
      exact List.take_subset_take_left T.2 (by omega) this
  obtain ⟨i, hi, e⟩ := List.getElem_of_mem this
  rw [List.getElem_take] at e
  have hi2 : i < k + 1 := by rw [List.length_take] at hi; omega
  have hi3 : i < T.2.length := by rw [List.length_take] at hi; omega
  have := nodup_at h2 hj (show T.2[i]? = some x by rw [List.getElem?_eq_getElem hi3, e])
  omega
theorem vis_app {m : GM} {dn : Hs → Bool} {a b : List Hs} : ∀ {so T : WSt}, VisL m dn (a ++ b) so T → ∃ T1, VisL m dn a so T1 ∧ VisL m dn b T1 T := by
  induction a with
  | nil => exact fun h => ⟨_, .nil _, h⟩
  | cons p r ih =>
    intro so T h
    rw [List.cons_append] at h
    cases hp : pushed m dn so.1 p with
    | false =>
      obtain ⟨T1, h1, h2⟩ := ih (h.inv_skip hp)
      exact ⟨T1, .skip p r so T1 hp h1, h2⟩
    | true =>
      obtain ⟨so1, h1, h2⟩ := h.inv_go hp
      obtain ⟨T1, h3, h4⟩ := ih h2
      exact ⟨T1, .go p r so so1 T1 hp h1 h3, h4⟩
theorem pushed_sim {m : GM} {a S Sb : List Hs} (hS : ∀ x, x ∈ S ↔ x ∈ a ∨ x ∈ Sb) (p : Hs) : pushed m (fun x => decide (x ∈ a)) Sb p = pushed m (fun _ => false) S p := by
  unfold pushed
  have := hS p
  by_cases h1 : p ∈ a <;> by_cases h2 : p ∈ Sb <;> simp [h1, h2] at this <;> simp [h1, h2, this]
theorem vis_sim {m : GM} {a : List Hs} {r : List Hs} {so T : WSt} (h : VisL m (fun _ => false) r so T) : ∀ Sb out, (∀ x, x ∈ so.1 ↔ x ∈ a ∨ x ∈ Sb) → so.2 = a ++ out → ∃ T', VisL m (fun x => decide (x ∈ a)) r (Sb, out) T' ∧ T.2 = a ++ T'.2 ∧ ∀ x, x ∈ T.1 ↔ x ∈ a ∨ x ∈ T'.1 := by
  induction h with
  | nil so => exact fun Sb out h1 h2 => ⟨_, .nil _, h2, h1⟩
  | skip p r so T hp _ ih =>
    intro Sb out h1 h2
    obtain ⟨T', a1, a2⟩ := ih Sb out h1 h2
    exact ⟨T', .skip p r _ _ (by rw [pushed_sim h1]; exact hp) a1, a2⟩
  | go p r so so1 T hp _ _ ih1 ih2 =>
    intro Sb out h1 h2
    obtain ⟨T1, a1, a2, a3⟩ := ih1 (Sb ++ [p]) out (fun x => by
      simp only [List.mem_append, List.mem_singleton, h1, or_assoc]) h2
    obtain ⟨T', b1, b2, b3⟩ := ih2 T1.1 (T1.2 ++ [p]) a3 (by rw [a2, List.append_assoc])
    exact ⟨T', .go p r _ T1 _ (by rw [pushed_sim h1]; exact hp) a1 b1, b2, b3⟩
theorem walk_parts {m : GM} (hm : Good m) {h1 h2 : List Hs} {T : WSt} (h : VisL m (fun _ => false) (h1 ++ h2) ([], []) T) :
    ∃ T1 T2, VisL m (fun _ => false) h1 ([], []) T1 ∧ VisL m (fun x => decide (x ∈ T1.2)) h2 ([], []) T2 ∧ T.2 = T1.2 ++ T2.2 := by
  obtain ⟨T1, a1, a2⟩ := vis_app h
  have hS := (vis_spec0 hm.acyc a1).1
  obtain ⟨T2, b1, b2, _⟩ := vis_sim (a := T1.2) a2 [] [] (fun x => by rw [hS]; simp) (by simp)
  exact ⟨T1, T2, a1, b1, b2⟩
end Gv.Try
/- Adding commits: a graph that may be stays one; graphs that say alike. -/
set_option linter.unusedVariables false
set_option linter.unusedSimpArgs false
set_option maxRecDepth 20000
namespace Gv.Try
open Go Gv Go.Proofs
theorem good_nil : Good [] := ⟨⟨by simp, by simp⟩, by simp, fun x y h => by simp [parsM, look] at h, fun x h => by
  rw [show parsM [] x = [] from rfl] at h; exact h.nil⟩
theorem mset_keys {α : Type} (m : List (Hs × α)) (h : Hs) (v : α) : (mset m h v).map (·.1) = if (look m h).isSome = true then m.map (·.1) else m.map (·.1) ++ [h] := by
  induction m with
  | nil => simp [mset, look]
  | cons p r ih =>
    rw [mset, look]
    by_cases e : h = p.1
    · rw [if_pos e, if_pos e]; simp [e]
    · rw [if_neg e, if_neg e, List.map_cons, ih]
      split <;> simp
theorem key_look {α : Type} {m : List (Hs × α)} {x : Hs} (h : x ∈ m.map (·.1)) : (look m x).isSome = true := by
  induction m with
  | nil => cases h
  | cons p r ih =>
    rw [look]
    by_cases e : x = p.1
    · rw [if_pos e]; rfl
    · rw [if_neg e]
      rw [List.map_cons] at h
      rcases List.mem_cons.1 h with q | q
      · exact absurd q e
      · exact ih q
theorem join_spec : ∀ {cs : List Cm} {m M : GM}, joinP m cs = .ok M → (m.map (·.1)).Nodup → (M.map (·.1)).Nodup ∧ (∀ h l, look m h = some l → look M h = some l) ∧ (∀ c ∈ cs, look M c.1 = some c.2) ∧ (∀ h l, look M h = some l → look m h = some l ∨ (h, l) ∈ cs)
  | [], m, M, h, hk => by
    rw [joinP] at h; cases h
    exact ⟨hk, fun _ _ h => h, by simp, fun _ _ h => .inl h⟩
  | c :: r, m, M, h, hk => by
    rw [joinP] at h
    unfold joinE at h
    cases el : look m c.1 with
    | some l =>
      simp only [el] at h
      split at h
      · rename_i m' e
        split at e
        · rename_i e2
          cases e
          obtain ⟨h1, h2, h3, h4⟩ := join_spec h hk
          refine ⟨h1, h2, fun d hd => ?_, fun x l hx => (h4 x l hx).imp id fun q => List.mem_cons_of_mem _ q⟩
          rcases List.mem_cons.1 hd with q | q
          · rw [q, h2 _ _ el, e2]
          · exact h3 d q
        · cases e
      · cases h
    | none =>
      simp only [el] at h
      have hk' : ((mset m c.1 c.2).map (·.1)).Nodup := by
        rw [mset_keys, el]
        simp only [Option.isSome_none, Bool.false_eq_true, if_false]
        rw [List.nodup_append]
        refine ⟨hk, by simp, fun a ha b hb e => ?_⟩
        rw [List.mem_singleton.1 hb] at e
        have := key_look ha
        rw [e, el] at this; cases this
      obtain ⟨h1, h2, h3, h4⟩ := join_spec h hk'
      refine ⟨h1, fun x l hx => h2 x l ?_, fun d hd => ?_, fun x l hx => ?_⟩
      · rw [look_mset, if_neg (fun e => by rw [e, el] at hx; cases hx)]; exact hx
      · rcases List.mem_cons.1 hd with q | q
        · rw [q]; exact h2 _ _ (by rw [look_mset, if_pos rfl])
        · exact h3 d q
      · rcases h4 x l hx with q | q
        · rw [look_mset] at q
          split at q
          · rename_i e
            cases q
            exact .inr (by rw [e]; simp)
          · exact .inl q
        · exact .inr (List.mem_cons_of_mem _ q)
theorem joined_ok {gr : Int} {m M : GM} {cs : List Cm} {hs : List Hs} (h : joinedP gr m cs hs = .ok M) : sizesP gr hs.length cs = none ∧ joinP m cs = .ok M ∧ lackP M cs hs = none ∧ roundP m M cs = none ∧ M.length ≤ 1000 := by
  unfold joinedP at h
  split at h
  · cases h
  · rename_i e1
    split at h
    · cases h
    · rename_i M' e2
      split at h
      · cases h
      · rename_i e3
        split at h
        · cases h
        · rename_i e4
          split at h
          · cases h
          · cases h
            exact ⟨e1, e2, e3, e4, by omega⟩
theorem lack_none {M : GM} {cs : List Cm} {hs : List Hs} (h : lackP M cs hs = none) : (∀ c ∈ cs, ∀ y ∈ c.2, (look M y).isSome = true) ∧ ∀ y ∈ hs, (look M y).isSome = true := by
  unfold lackP at h
  have hn : ∀ n y, nowhere M n y = none → (look M y).isSome = true := fun n y q => by
    unfold nowhere at q
    split at q
    · rename_i e; rw [e]; rfl
    · cases q
  split at h
  · cases h
  · rename_i e
    refine ⟨fun c hc y hy => ?_, fun y hy => hn 11 y (List.findSome?_eq_none_iff.1 h y hy)⟩
    exact hn 10 y (List.findSome?_eq_none_iff.1 (List.findSome?_eq_none_iff.1 e c hc) y hy)
theorem joined_good {gr : Int} {m M : GM} {cs : List Cm} {hs : List Hs} (hm : Good m) (h : joinedP gr m cs hs = .ok M) : Good M := by
  obtain ⟨e1, e2, e3, e4, e5⟩ := joined_ok h
  obtain ⟨_, _, _, n4⟩ := sizesP_none e1
  obtain ⟨_, r2⟩ := joinP_ok e2 hm.ok.row fun c hc => (n4 c hc).1
  obtain ⟨k1, k2, k3, k4⟩ := join_spec e2 hm.keys
  obtain ⟨l1, _⟩ := lack_none e3
  refine ⟨⟨e5, r2⟩, k1, fun x y hy => ?_, fun x hx => ?_⟩
  · cases el : look M x with
    | none => rw [parsM_none el] at hy; cases hy
    | some l =>
      rw [parsM_some el] at hy
      rcases k4 x l el with q | q
      · have := hm.closed x y (by rw [parsM_some q]; exact hy)
        obtain ⟨z, hz⟩ := Option.isSome_iff_exists.1 this
        rw [k2 y z hz]; rfl
      · exact l1 _ q y hy
  · cases el : look M x with
    | none => rw [parsM_none el] at hx; exact hx.nil
    | some l =>
      rw [parsM_some el] at hx
      cases eo : look m x with
      | some l' =>
        have e : l' = l := by
          have := k2 x l' eo
          rw [el] at this; cases this; rfl
        subst e
        have : ∀ z, Reach (parsM M) l' z → Reach (parsM m) l' z ∧ (look m z).isSome = true := fun z hz => by
          induction hz with
          | base z hz => exact ⟨.base z hz, hm.closed x z (by rw [parsM_some eo]; exact hz)⟩
          | step z y _ hy ih =>
            obtain ⟨lz, hlz⟩ := Option.isSome_iff_exists.1 ih.2
            rw [parsM_some (k2 z lz hlz)] at hy
            have hy' : y ∈ parsM m z := by rw [parsM_some hlz]; exact hy
            exact ⟨.step z y ih.1 hy', hm.closed z y hy'⟩
        exact hm.acyc x (by rw [parsM_some eo]; exact (this x hx).1)
      | none =>
        rcases k4 x l el with q | q
        · rw [eo] at q; cases q
        · unfold roundP at e4
          have := List.findSome?_eq_none_iff.1 e4 _ q
          unfold roundE at this
          rw [eo] at this
          simp only [Option.isSome_none, Bool.false_eq_true, if_false] at this
          split at this
          · cases this
          · rename_i hn; exact hn hx
def Alike (m m' : GM) : Prop := ∀ h, look m h = look m' h
theorem Alike.pars {m m' : GM} (h : Alike m m') : parsM m = parsM m' := funext fun x => by unfold parsM; rw [h x]
theorem Alike.len {m m' : GM} (h : Alike m m') (k : (m.map (·.1)).Nodup) (k' : (m'.map (·.1)).Nodup) : m.length = m'.length := by
  have a := nodup_lenH _ (m'.map (·.1)) k fun x hx => look_key (by rw [← h x]; exact key_look hx)
  have b := nodup_lenH _ (m.map (·.1)) k' fun x hx => look_key (by rw [h x]; exact key_look hx)
  simp only [List.length_map] at a b
  omega
theorem Alike.symm {m m' : GM} (h : Alike m m') : Alike m' m := fun x => (h x).symm
theorem join_alike : ∀ {cs : List Cm} {m m' : GM}, Alike m m' → (∃ e, joinP m cs = .error e ∧ joinP m' cs = .error e) ∨ ∃ M M', joinP m cs = .ok M ∧ joinP m' cs = .ok M' ∧ Alike M M'
  | [], m, m', h => .inr ⟨m, m', rfl, rfl, h⟩
  | c :: r, m, m', h => by
    rw [joinP, joinP]
    unfold joinE
    rw [← h c.1]
    cases el : look m c.1 with
    | some l =>
      simp only
      by_cases e : l = c.2
      · rw [if_pos e, if_pos e]; exact join_alike h
      · rw [if_neg e, if_neg e]; exact .inl ⟨_, rfl, rfl⟩
    | none =>
      simp only
      exact join_alike fun x => by rw [look_mset, look_mset, h x]
theorem lack_alike {M M' : GM} (h : Alike M M') (cs : List Cm) (hs : List Hs) : lackP M cs hs = lackP M' cs hs := by
  have : nowhere M = nowhere M' := funext fun n => funext fun y => by unfold nowhere; rw [h y]
  unfold lackP; rw [this]
theorem round_alike {m m' M M' : GM} (h : Alike m m') (H : Alike M M') (cs : List Cm) : roundP m M cs = roundP m' M' cs := by
  have : roundE m M = roundE m' M' := funext fun c => by unfold roundE; rw [h c.1, H.pars]
  unfold roundP; rw [this]
theorem joined_alike {m m' : GM} (h : Alike m m') (k : (m.map (·.1)).Nodup) (k' : (m'.map (·.1)).Nodup) (gr : Int) (cs : List Cm) (hs : List Hs) :
    (∃ e, joinedP gr m cs hs = .error e ∧ joinedP gr m' cs hs = .error e) ∨ ∃ M M', joinedP gr m cs hs = .ok M ∧ joinedP gr m' cs hs = .ok M' ∧ Alike M M' := by
  unfold joinedP
  cases sizesP gr hs.length cs with
  | some e => exact .inl ⟨e, rfl, rfl⟩
  | none =>
    simp only
    rcases join_alike (cs := cs) h with ⟨⟨x, n⟩, e1, e2⟩ | ⟨M, M', e1, e2, H⟩
    · rw [e1, e2]; exact .inl ⟨_, rfl, rfl⟩
    · rw [e1, e2]
      simp only
      rw [lack_alike H]
      cases lackP M' cs hs with
      | some e => exact .inl ⟨e, rfl, rfl⟩
      | none =>
        simp only
        rw [round_alike h H]
        cases roundP m' M' cs with
        | some e => exact .inl ⟨e, rfl, rfl⟩
        | none =>
          simp only
          rw [H.len (join_spec e1 k).1 (join_spec e2 k').1]
          split
          · exact .inl ⟨_, rfl, rfl⟩
          · exact .inr ⟨M, M', rfl, rfl, H⟩
end Gv.Try
/- Contracts: chapter 12's example. -/
set_option linter.unusedVariables false
set_option linter.unusedSimpArgs false
set_option maxRecDepth 20000
set_option maxHeartbeats 4000000
namespace Gv.Try
open Go Gv Go.Proofs
theorem GCalls.args {P : Program} {f : FuncId} {args args' : List GVal} {O : List GObj} {K : GVal → List GObj → Prop} (h : GCalls P f args O K) (ha : GLes args' args) : GCalls P f args' O K :=
  ⟨h.1, fun E w vs hs hv => h.2 E w vs hs ⟨by rw [hv.1, ha.len], fun k g hg => by
    obtain ⟨x, hx, hle⟩ := ha.at_ k g hg
    exact hle _ _ (hv.2 k x hx)⟩⟩
def hq (a b c : UInt8) : Hs := ⟨a :: b :: c :: List.replicate 29 0, rfl⟩
def q1 : Hs := hq 1 0 0
theorem qE1 : ([.int .u8 1, .int .u8 0, .int .u8 0, .int .u8 0, .int .u8 0, .int .u8 0, .int .u8 0, .int .u8 0, .int .u8 0, .int .u8 0, .int .u8 0, .int .u8 0, .int .u8 0, .int .u8 0, .int .u8 0, .int .u8 0, .int .u8 0, .int .u8 0, .int .u8 0, .int .u8 0, .int .u8 0, .int .u8 0, .int .u8 0, .int .u8 0, .int .u8 0, .int .u8 0, .int .u8 0, .int .u8 0, .int .u8 0, .int .u8 0, .int .u8 0, .int .u8 0] : List GVal) = bytesG q1.1 := rfl
theorem qR1 (x : GVal) : ([.int .u8 1, .int .u8 0, .int .u8 0, .int .u8 0, .int .u8 0, .int .u8 0, .int .u8 0, .int .u8 0, .int .u8 0, .int .u8 0, .int .u8 0, .int .u8 0, .int .u8 0, .int .u8 0, .int .u8 0, .int .u8 0, .int .u8 0, .int .u8 0, .int .u8 0, .int .u8 0, .int .u8 0, .int .u8 0, .int .u8 0, .int .u8 0, .int .u8 0, .int .u8 0, .int .u8 0, .int .u8 0, .int .u8 0, .int .u8 0, .int .u8 0, .int .u8 0, x] : List GVal) = bytesG q1.1 ++ [x] := rfl
def q2 : Hs := hq 2 0 0
theorem qE2 : ([.int .u8 2, .int .u8 0, .int .u8 0, .int .u8 0, .int .u8 0, .int .u8 0, .int .u8 0, .int .u8 0, .int .u8 0, .int .u8 0, .int .u8 0, .int .u8 0, .int .u8 0, .int .u8 0, .int .u8 0, .int .u8 0, .int .u8 0, .int .u8 0, .int .u8 0, .int .u8 0, .int .u8 0, .int .u8 0, .int .u8 0, .int .u8 0, .int .u8 0, .int .u8 0, .int .u8 0, .int .u8 0, .int .u8 0, .int .u8 0, .int .u8 0, .int .u8 0] : List GVal) = bytesG q2.1 := rfl
theorem qR2 (x : GVal) : ([.int .u8 2, .int .u8 0, .int .u8 0, .int .u8 0, .int .u8 0, .int .u8 0, .int .u8 0, .int .u8 0, .int .u8 0, .int .u8 0, .int .u8 0, .int .u8 0, .int .u8 0, .int .u8 0, .int .u8 0, .int .u8 0, .int .u8 0, .int .u8 0, .int .u8 0, .int .u8 0, .int .u8 0, .int .u8 0, .int .u8 0, .int .u8 0, .int .u8 0, .int .u8 0, .int .u8 0, .int .u8 0, .int .u8 0, .int .u8 0, .int .u8 0, .int .u8 0, x] : List GVal) = bytesG q2.1 ++ [x] := rfl
def q3 : Hs := hq 3 0 0
theorem qE3 : ([.int .u8 3, .int .u8 0, .int .u8 0, .int .u8 0, .int .u8 0, .int .u8 0, .int .u8 0, .int .u8 0, .int .u8 0, .int .u8 0, .int .u8 0, .int .u8 0, .int .u8 0, .int .u8 0, .int .u8 0, .int .u8 0, .int .u8 0, .int .u8 0, .int .u8 0, .int .u8 0, .int .u8 0, .int .u8 0, .int .u8 0, .int .u8 0, .int .u8 0, .int .u8 0, .int .u8 0, .int .u8 0, .int .u8 0, .int .u8 0, .int .u8 0, .int .u8 0] : List GVal) = bytesG q3.1 := rfl
theorem qR3 (x : GVal) : ([.int .u8 3, .int .u8 0, .int .u8 0, .int .u8 0, .int .u8 0, .int .u8 0, .int .u8 0, .int .u8 0, .int .u8 0, .int .u8 0, .int .u8 0, .int .u8 0, .int .u8 0, .int .u8 0, .int .u8 0, .int .u8 0, .int .u8 0, .int .u8 0, .int .u8 0, .int .u8 0, .int .u8 0, .int .u8 0, .int .u8 0, .int .u8 0, .int .u8 0, .int .u8 0, .int .u8 0, .int .u8 0, .int .u8 0, .int .u8 0, .int .u8 0, .int .u8 0, x] : List GVal) = bytesG q3.1 ++ [x] := rfl
def q4 : Hs := hq 4 0 0
theorem qE4 : ([.int .u8 4, .int .u8 0, .int .u8 0, .int .u8 0, .int .u8 0, .int .u8 0, .int .u8 0, .int .u8 0, .int .u8 0, .int .u8 0, .int .u8 0, .int .u8 0, .int .u8 0, .int .u8 0, .int .u8 0, .int .u8 0, .int .u8 0, .int .u8 0, .int .u8 0, .int .u8 0, .int .u8 0, .int .u8 0, .int .u8 0, .int .u8 0, .int .u8 0, .int .u8 0, .int .u8 0, .int .u8 0, .int .u8 0, .int .u8 0, .int .u8 0, .int .u8 0] : List GVal) = bytesG q4.1 := rfl
theorem qR4 (x : GVal) : ([.int .u8 4, .int .u8 0, .int .u8 0, .int .u8 0, .int .u8 0, .int .u8 0, .int .u8 0, .int .u8 0, .int .u8 0, .int .u8 0, .int .u8 0, .int .u8 0, .int .u8 0, .int .u8 0, .int .u8 0, .int .u8 0, .int .u8 0, .int .u8 0, .int .u8 0, .int .u8 0, .int .u8 0, .int .u8 0, .int .u8 0, .int .u8 0, .int .u8 0, .int .u8 0, .int .u8 0, .int .u8 0, .int .u8 0, .int .u8 0, .int .u8 0, .int .u8 0, x] : List GVal) = bytesG q4.1 ++ [x] := rfl
def fourCs : List Cm := [(q4, [q2, q3]), (q2, [q1]), (q3, [q1]), (q1, [])]
theorem reach_rank {M : GM} (rk : Hs → Nat) (hr : ∀ p ∈ M, ∀ y ∈ p.2, rk y < rk p.1) {l : List Hs} {n : Nat} (hl : ∀ x ∈ l, rk x < n) {x : Hs} (h : Reach (parsM M) l x) : rk x < n := by
  induction h with
  | base x hx => exact hl x hx
  | step x y _ hy ih =>
    obtain ⟨p, h1, h2, h3⟩ := parsM_mem hy
    have := hr p h1 y h3
    rw [h2] at this
    omega
theorem roundP_rank {m M : GM} {cs : List Cm} (rk : Hs → Nat) (hr : ∀ p ∈ M, ∀ y ∈ p.2, rk y < rk p.1) (hc : ∀ c ∈ cs, ∀ y ∈ c.2, rk y < rk c.1) : roundP m M cs = none := by
  unfold roundP
  rw [List.findSome?_eq_none_iff]
  intro c hcm
  unfold roundE
  split
  · rfl
  · rw [if_neg]
    intro h
    have := reach_rank rk hr (hc c hcm) h
    omega
def rkQ (h : Hs) : Nat := (h.1.headD 0).toNat
theorem four_joined : joinedP 2 [] fourCs [] = .ok fourCs := by
  have e1 : sizesP 2 0 fourCs = none := by kernel_rfl
  have e2 : joinP [] fourCs = .ok fourCs := by kernel_rfl
  have e3 : lackP fourCs fourCs [] = none := by kernel_rfl
  have e4 : roundP [] fourCs fourCs = none := roundP_rank rkQ (by decide) (by decide)
  unfold joinedP
  rw [show ([] : List Hs).length = 0 from rfl, e1]
  simp only [e2, e3, e4]
  rw [if_neg (by decide)]
theorem fourG : GOK ([] : GM) := ⟨by simp, by simp⟩
theorem four_arg (st : Nat) : GLes [.ptr 0 st 0 0, .slice [bytesG q4.1 ++ [.slice [bytesG q2.1, bytesG q3.1] .full], bytesG q2.1 ++ [.slice [bytesG q1.1] .full], bytesG q3.1 ++ [.slice [bytesG q1.1] .full], bytesG q1.1 ++ [.slice [] .nil]] .full] [.ptr 0 st 0 0, .slice (csG fourCs) .none] :=
  ⟨GLe.refl _, GLe.trans GLe.none (GLe.slice ⟨GLes.app (GLes.refl _) ⟨GLe.none, trivial⟩, GLes.app (GLes.refl _) ⟨GLe.none, trivial⟩, GLes.app (GLes.refl _) ⟨GLe.none, trivial⟩, GLes.app (GLes.refl _) ⟨GLe.none, trivial⟩, trivial⟩), trivial⟩
theorem gFour : GCalls Try.prog 14 [] [] (fun g O' => ∃ st s, g = .ptr 0 st 0 0 ∧ O' = gObj st s fourCs) := by
  have cA := fun st s => gAdd [] fourG fourCs st s (by decide) (by decide)
  have ea : addedE [] fourCs = none := by unfold addedE; rw [four_joined]
  have em : addedM [] fourCs = fourCs := by unfold addedM; rw [four_joined]
  simp only [ea, em] at cA
  refine h14.calls mixS (by simp) ?_
  simp only [gstart, s14, List.cons_append, List.nil_append, List.length_cons, List.length_nil, Nat.reduceAdd, Nat.reduceSub, List.replicate_succ, List.replicate_zero]
  simp +contextual -implicitDefEqProofs (maxSteps := 2000000) (disch := omega) only [binV, ↓buildV, ↓buildSliceV, fillG, fillE, place, GVal.cells, grp, GVal.ofConst, ↓resV, resG, List.map, List.headD, List.take, List.drop, ↓reduceIte, Nat.reduceEqDiff, Nat.reduceAdd, Nat.reduceSub, Nat.reduceLeDiff, reduceCtorEq, implies_true, ne_eq, aggV, Tag.cap, List.replicate, allSolid, GVal.solid, Nat.reduceBEq, Nat.reduceMul, Nat.reduceLT, List.length_map, List.length_range, splice, vcA, ↓vcB, vcC, fbFd, e14]
  refine gNew.mono ?_
  rintro g O' ⟨st, s, rfl, rfl⟩
  simp +contextual -implicitDefEqProofs (maxSteps := 2000000) (disch := omega) only [binV, ↓buildV, ↓buildSliceV, fillG, fillE, place, GVal.cells, grp, GVal.ofConst, ↓resV, resG, List.map, List.headD, List.take, List.drop, ↓reduceIte, Nat.reduceEqDiff, Nat.reduceAdd, Nat.reduceSub, Nat.reduceLeDiff, reduceCtorEq, implies_true, ne_eq, aggV, Tag.cap, List.replicate, allSolid, GVal.solid, Nat.reduceBEq, Nat.reduceMul, Nat.reduceLT, List.length_map, List.length_range, splice, vcA, ↓vcB, vcC, fbFd, e14, qE1, qE2, qE3, qE4, qR1, qR2, qR3, qR4, len32, take32, take32a, drop32a, drop33a, take33a, len33, solid33, solidH]
  refine (GCalls.args (cA st s) (four_arg st)).mono ?_
  rintro g O' ⟨x', y', rfl, rfl, s', rfl, rfl⟩
  simp +contextual -implicitDefEqProofs (maxSteps := 2000000) (disch := omega) only [binV, ↓buildV, ↓buildSliceV, fillG, fillE, place, GVal.cells, grp, GVal.ofConst, ↓resV, resG, List.map, List.headD, List.take, List.drop, ↓reduceIte, Nat.reduceEqDiff, Nat.reduceAdd, Nat.reduceSub, Nat.reduceLeDiff, reduceCtorEq, implies_true, ne_eq, aggV, Tag.cap, List.replicate, allSolid, GVal.solid, Nat.reduceBEq, Nat.reduceMul, Nat.reduceLT, List.length_map, List.length_range, splice, vcA, ↓vcB, vcC, fbFd, e14, errV]
  exact ⟨st, s', rfl, rfl⟩
theorem fourM : GMOK fourCs := ⟨by decide, by decide⟩
theorem four_walk : VisL fourCs (fun _ => false) [q4] ([], []) ([q4, q2, q1, q3], [q1, q2, q3, q4]) := by
  have p4 : parsM fourCs q4 = [q2, q3] := by kernel_rfl
  have p3 : parsM fourCs q3 = [q1] := by kernel_rfl
  have p2 : parsM fourCs q2 = [q1] := by kernel_rfl
  have p1 : parsM fourCs q1 = [] := by kernel_rfl
  have w1 : VisL fourCs (fun _ => false) [q1] ([q4, q2], []) ([q4, q2, q1], [q1]) := .go q1 [] _ ([q4, q2, q1], []) _ (by kernel_rfl) (by rw [p1]; exact .nil _) (.nil _)
  have w3 : VisL fourCs (fun _ => false) [q1] ([q4, q2, q1, q3], [q1, q2]) ([q4, q2, q1, q3], [q1, q2]) := .skip q1 [] _ _ (by kernel_rfl) (.nil _)
  have w23 : VisL fourCs (fun _ => false) [q3] ([q4, q2, q1], [q1, q2]) ([q4, q2, q1, q3], [q1, q2, q3]) := .go q3 [] _ ([q4, q2, q1, q3], [q1, q2]) _ (by kernel_rfl) (by rw [p3]; exact w3) (.nil _)
  have w2 : VisL fourCs (fun _ => false) [q2, q3] ([q4], []) ([q4, q2, q1, q3], [q1, q2, q3]) := .go q2 [q3] _ ([q4, q2, q1], [q1]) _ (by kernel_rfl) (by rw [p2]; exact w1) w23
  exact .go q4 [] _ ([q4, q2, q1, q3], [q1, q2, q3]) _ (by kernel_rfl) (by rw [p4]; exact w2) (.nil _)
theorem gKnown : GPure Try.prog 10 [] (.bool true) := by
  have cS := hSame [q1, q2, q3, q4] [q1, q2, q3, q4] .none .full (by decide)
  rw [decide_eq_true rfl] at cS
  refine GCalls.toPure ?_
  refine h10.calls mixS (by simp) ?_
  simp only [gstart, s10, List.cons_append, List.nil_append, List.length_cons, List.length_nil, Nat.reduceAdd, Nat.reduceSub, List.replicate_succ, List.replicate_zero]
  simp +contextual -implicitDefEqProofs (maxSteps := 2000000) (disch := omega) only [binV, ↓buildV, ↓buildSliceV, fillG, fillE, place, GVal.cells, grp, GVal.ofConst, ↓resV, resG, List.map, List.headD, List.take, List.drop, ↓reduceIte, Nat.reduceEqDiff, Nat.reduceAdd, Nat.reduceSub, Nat.reduceLeDiff, reduceCtorEq, implies_true, ne_eq, aggV, Tag.cap, List.replicate, allSolid, GVal.solid, Nat.reduceBEq, Nat.reduceMul, Nat.reduceLT, List.length_map, List.length_range, splice, vcA, ↓vcB, vcC, fbFd, e10]
  refine gFour.mono ?_
  rintro g O' ⟨st, s, rfl, rfl⟩
  simp +contextual -implicitDefEqProofs (maxSteps := 2000000) (disch := omega) only [binV, ↓buildV, ↓buildSliceV, fillG, fillE, place, GVal.cells, grp, GVal.ofConst, ↓resV, resG, List.map, List.headD, List.take, List.drop, ↓reduceIte, Nat.reduceEqDiff, Nat.reduceAdd, Nat.reduceSub, Nat.reduceLeDiff, reduceCtorEq, implies_true, ne_eq, aggV, Tag.cap, List.replicate, allSolid, GVal.solid, Nat.reduceBEq, Nat.reduceMul, Nat.reduceLT, List.length_map, List.length_range, splice, vcA, ↓vcB, vcC, fbFd, e10, qE1, qE2, qE3, qE4, qR1, qR2, qR3, qR4, len32, take32, take32a, drop32a, drop33a, take33a, len33, solid33, solidH]
  refine (gWalkN fourCs fourM [q4] .full st s _ four_walk (by decide)).mono ?_
  rintro g O' ⟨rfl, rfl⟩
  simp +contextual -implicitDefEqProofs (maxSteps := 2000000) (disch := omega) only [binV, ↓buildV, ↓buildSliceV, fillG, fillE, place, GVal.cells, grp, GVal.ofConst, ↓resV, resG, List.map, List.headD, List.take, List.drop, ↓reduceIte, Nat.reduceEqDiff, Nat.reduceAdd, Nat.reduceSub, Nat.reduceLeDiff, reduceCtorEq, implies_true, ne_eq, aggV, Tag.cap, List.replicate, allSolid, GVal.solid, Nat.reduceBEq, Nat.reduceMul, Nat.reduceLT, List.length_map, List.length_range, splice, vcA, ↓vcB, vcC, fbFd, e10, qE1, qE2, qE3, qE4, qR1, qR2, qR3, qR4, len32, take32, take32a, drop32a, drop33a, take33a, len33, solid33, solidH]
  refine cS.then ?_ (by rfl)
  simp +contextual -implicitDefEqProofs (maxSteps := 2000000) (disch := omega) only [binV, ↓buildV, ↓buildSliceV, fillG, fillE, place, GVal.cells, grp, GVal.ofConst, ↓resV, resG, List.map, List.headD, List.take, List.drop, ↓reduceIte, Nat.reduceEqDiff, Nat.reduceAdd, Nat.reduceSub, Nat.reduceLeDiff, reduceCtorEq, implies_true, ne_eq, aggV, Tag.cap, List.replicate, allSolid, GVal.solid, Nat.reduceBEq, Nat.reduceMul, Nat.reduceLT, List.length_map, List.length_range, splice, vcA, ↓vcB, vcC, fbFd, e10]
  exact ⟨1, .bool true, rfl, by rw [leA_bool]⟩
end Gv.Try
/- OrderLong: a line of commits: plain laws. -/
set_option linter.unusedVariables false
set_option linter.unusedSimpArgs false
set_option maxRecDepth 20000
namespace Gv.Try
open Go Gv Go.Proofs
def hL (k : Nat) : Hs := hq (UInt8.ofNat (k / 256)) (UInt8.ofNat k) 1
def cL (k : Nat) : Cm := (hL k, if k = 0 then [] else [hL (k - 1)])
def seg (a j : Nat) : List Cm := (List.range j).map fun i => cL (a + i)
abbrev chain (n : Nat) : GM := seg 0 n
end Gv.Try
/- Commits put into a sorted list; a list with a hash twice. -/
set_option linter.unusedVariables false
set_option linter.unusedSimpArgs false
set_option maxRecDepth 20000
namespace Gv.Try
open Go Gv Go.Proofs
def insC : GM → Cm → GM
  | [], c => [c]
  | x :: r, c => if ltB x.1.1 c.1.1 = true then x :: insC r c else c :: x :: r
theorem ins_eq : ∀ (L : GM) (c : Cm), L.take (idxC L c.1) ++ [c] ++ L.drop (idxC L c.1) = insC L c
  | [], c => rfl
  | x :: r, c => by
    unfold idxC insC
    by_cases e : ltB x.1.1 c.1.1 = true
    · rw [if_pos e, if_pos e, List.take_succ_cons, List.drop_succ_cons, ← ins_eq r c]; rfl
    · rw [if_neg e, if_neg e]; rfl
theorem insC_mem : ∀ (L : GM) (c z : Cm), z ∈ insC L c ↔ z ∈ L ∨ z = c
  | [], c, z => by simp [insC]
  | x :: r, c, z => by
    unfold insC
    split
    · simp only [List.mem_cons, insC_mem r c z, or_assoc]
    · simp only [List.mem_cons]
      constructor
      · rintro (h | h)
        · exact .inr h
        · exact .inl h
      · rintro (h | h)
        · exact .inr h
        · exact .inl h
theorem insC_len : ∀ (L : GM) (c : Cm), (insC L c).length = L.length + 1
  | [], c => rfl
  | x :: r, c => by
    unfold insC; split
    · rw [List.length_cons, insC_len r c, List.length_cons]
    · rfl
theorem look_none_mem {α : Type} {m : List (Hs × α)} {h : Hs} (e : look m h = none) : ∀ x ∈ m, x.1 ≠ h := fun x hx q => by
  have := key_look (m := m) (x := h) (List.mem_map.2 ⟨x, hx, q⟩)
  rw [e] at this; cases this
theorem insC_ss : ∀ {L : GM} (c : Cm), SSC L → (∀ x ∈ L, x.1 ≠ c.1) → SSC (insC L c)
  | [], c, _, _ => by simp [insC, SSC]
  | x :: r, c, hs, hn => by
    unfold insC
    obtain ⟨h1, h2⟩ := List.pairwise_cons.1 hs
    split
    · rename_i e
      refine List.pairwise_cons.2 ⟨fun z hz => ?_, insC_ss c h2 fun y hy => hn y (by simp [hy])⟩
      rcases (insC_mem r c z).1 hz with q | rfl
      · exact h1 z q
      · exact e
    · rename_i e
      have hx : LT c.1 x.1 := LT.total (by cases q : ltB x.1.1 c.1.1 with | true => exact absurd q e | false => rfl) (hn x (by simp))
      refine List.pairwise_cons.2 ⟨fun z hz => ?_, hs⟩
      rcases List.mem_cons.1 hz with rfl | q
      · exact hx
      · exact hx.trans (h1 z q)
theorem look_ins : ∀ (L : GM) (c : Cm) (h : Hs), look L c.1 = none → look (insC L c) h = if h = c.1 then some c.2 else look L h
  | [], c, h, _ => rfl
  | x :: r, c, h, e => by
    rw [look] at e
    by_cases q : c.1 = x.1
    · rw [if_pos q] at e; cases e
    · rw [if_neg q] at e
      unfold insC
      split
      · rw [look, look_ins r c h e, look]
        by_cases p : h = x.1
        · rw [if_pos p, if_neg (c := h = c.1) (fun w => q (w.symm.trans p)), if_pos p]
        · rw [if_neg p, if_neg p]
      · rw [look]
theorem putC_new {L : GM} {c : Cm} (e : look L c.1 = none) : putC L c = insC L c := by
  unfold putC
  rw [e, if_neg (by simp), ins_eq]
theorem putC_old {L : GM} {c : Cm} {l : List Hs} (e : look L c.1 = some l) : putC L c = L := by
  unfold putC
  rw [if_pos (by rw [e]; rfl)]
theorem putC_ss {L : GM} (c : Cm) (h : SSC L) : SSC (putC L c) := by
  cases e : look L c.1 with
  | none => rw [putC_new e]; exact insC_ss c h (look_none_mem e)
  | some l => rw [putC_old e]; exact h
theorem putC_len (L : GM) (c : Cm) : (putC L c).length ≤ L.length + 1 := by
  cases e : look L c.1 with
  | none => rw [putC_new e, insC_len]; exact Nat.le_refl _
  | some l => rw [putC_old e]; omega
theorem look_putC (L : GM) (c : Cm) (h : Hs) : look (putC L c) h = if (look L c.1).isSome = true then look L h else if h = c.1 then some c.2 else look L h := by
  cases e : look L c.1 with
  | none => rw [putC_new e, look_ins L c h e]; rfl
  | some l => rw [putC_old e]; rfl
theorem putC_row {L : GM} {c : Cm} {n : Nat} (h : ∀ p ∈ L, p.2.length ≤ n) (hc : c.2.length ≤ n) : ∀ p ∈ putC L c, p.2.length ≤ n := fun p hp => by
  cases e : look L c.1 with
  | none =>
    rw [putC_new e] at hp
    rcases (insC_mem L c p).1 hp with q | rfl
    · exact h p q
    · exact hc
  | some l => rw [putC_old e] at hp; exact h p hp
def putsC (L : GM) (cs : List Cm) : GM := cs.foldl putC L
theorem putsC_snoc (L : GM) (cs : List Cm) (k : Nat) (h : k < cs.length) : putsC L (cs.take (k + 1)) = putC (putsC L (cs.take k)) (cs.getD k default) := by
  unfold putsC
  rw [takeC h, List.foldl_append]; rfl
theorem putsC_ss : ∀ (cs : List Cm) {L : GM}, SSC L → SSC (putsC L cs)
  | [], L, h => h
  | c :: r, L, h => putsC_ss r (putC_ss c h)
theorem putsC_len : ∀ (cs : List Cm) (L : GM), (putsC L cs).length ≤ L.length + cs.length
  | [], L => by simp [putsC]
  | c :: r, L => by
    have := putsC_len r (putC L c)
    have := putC_len L c
    show (putsC (putC L c) r).length ≤ _
    rw [List.length_cons]; omega
theorem putsC_row {n : Nat} : ∀ (cs : List Cm) {L : GM}, (∀ p ∈ L, p.2.length ≤ n) → (∀ c ∈ cs, c.2.length ≤ n) → ∀ p ∈ putsC L cs, p.2.length ≤ n
  | [], L, h, _ => h
  | c :: r, L, h, hc => putsC_row r (putC_row h (hc c (by simp))) fun x hx => hc x (by simp [hx])
theorem ssc_keys {L : GM} (h : SSC L) : (L.map (·.1)).Nodup := by
  rw [List.nodup_iff_pairwise_ne, List.pairwise_map]
  exact h.imp fun q e => by rw [e] at q; exact LT.irrefl _ q
theorem join_put {m M X : GM} {c : Cm} (h : Alike m X) (e : joinE m c = .ok M) : Alike M (putC X c) := by
  unfold joinE at e
  intro x
  rw [look_putC, ← h c.1, ← h x]
  cases el : look m c.1 with
  | some l =>
    simp only [el] at e
    split at e
    · cases e; rfl
    · cases e
  | none =>
    simp only [el] at e
    cases e
    rw [look_mset]; rfl
theorem join_puts : ∀ {cs : List Cm} {m M X : GM}, Alike m X → joinP m cs = .ok M → Alike M (putsC X cs)
  | [], m, M, X, h, e => by rw [joinP] at e; cases e; exact h
  | c :: r, m, M, X, h, e => by
    rw [joinP] at e
    split at e
    · rename_i m' e1
      exact join_puts (cs := r) (join_put h e1) e
    · cases e
theorem sortR_len_le (l : List Hs) : (sortR l).length ≤ l.length :=
  nodup_lenH _ _ (ss_nodup (sortR_ss l)) fun x hx => (sortR_mem l x).1 hx
theorem twice_iff (l : List Hs) : twiceB l = true ↔ ¬ l.Nodup := by
  unfold twiceB
  rw [decide_eq_true_eq]
  constructor
  · intro h n
    have := nodup_lenH l (sortR l) n fun x hx => (sortR_mem l x).2 hx
    omega
  · intro h
    refine Nat.lt_of_not_le fun q => h ?_
    have hs := ss_nodup (sortR_ss l)
    have hle := sortR_len_le l
    have key : ∀ (a b : List Hs), a.Nodup → (∀ x ∈ a, x ∈ b) → b.length ≤ a.length → b.Nodup := by
      intro a
      induction a with
      | nil => intro b _ _ hb; have : b = [] := List.length_eq_zero_iff.1 (by simpa using hb); rw [this]; exact List.nodup_nil
      | cons x r ih =>
        intro b hn hs hb
        obtain ⟨h1, h2⟩ := List.nodup_cons.1 hn
        obtain ⟨p, q, rfl⟩ := List.append_of_mem (hs x (by simp))
        have h3 : (p ++ q).Nodup := ih (p ++ q) h2 (fun y hy => by
          have := hs y (by simp [hy])
          have hne : y ≠ x := fun e => h1 (e ▸ hy)
          simp at this ⊢
          rcases this with t | t | t
          · exact .inl t
          · exact absurd t hne
          · exact .inr t) (by simp at hb ⊢; omega)
        have hx : x ∉ p ++ q := fun hm => by
          have hlen : (x :: r).length ≤ (p ++ q).length := nodup_lenH _ _ hn fun y hy => by
            have := hs y hy
            simp at this hm ⊢
            rcases this with t | t | t
            · exact .inl t
            · rw [t]; exact hm
            · exact .inr t
          simp at hlen hb
          omega
        rw [List.nodup_append] at h3
        rw [List.nodup_append, List.nodup_cons]
        simp at hx
        refine ⟨h3.1, ⟨hx.2, h3.2.1⟩, fun a ha b hb => ?_⟩
        rcases List.mem_cons.1 hb with e | e
        · rw [e]; exact fun w => hx.1 (w ▸ ha)
        · exact h3.2.2 a ha b e
    exact key (sortR l) l hs (fun x hx => (sortR_mem l x).1 hx) q
end Gv.Try
/- Contracts: the reference's round. -/
set_option linter.unusedVariables false
set_option linter.unusedSimpArgs false
set_option maxRecDepth 20000
set_option maxHeartbeats 4000000
namespace Gv.Try
open Go Gv Go.Proofs
noncomputable def roundB (L : GM) (h : Hs) : Bool := by classical exact if Reach (parsM L) (parsM L h) h then true else false
theorem roundB_yes {L : GM} {h : Hs} (e : Reach (parsM L) (parsM L h) h) : roundB L h = true := by unfold roundB; exact if_pos e
theorem roundB_no {L : GM} {h : Hs} (e : ¬ Reach (parsM L) (parsM L h) h) : roundB L h = false := by unfold roundB; exact if_neg e
theorem hIn (l : List Hs) (t : Tag) (h : Hs) (hl : l.length ≤ 4398046511104) : GPure Try.prog 20 [.slice (hsG l) t, .agg (bytesG h.1)] (.bool (decide (h ∈ l))) := by
  refine h20.pure mixS (by simp) ?_
  simp only [gstart, s20, List.cons_append, List.nil_append, List.length_cons, List.length_nil, Nat.reduceAdd, Nat.reduceSub, List.replicate_succ, List.replicate_zero]
  simp +contextual -implicitDefEqProofs (maxSteps := 2000000) (disch := omega) only [drawC, drawK, keepT, ↓lenV, binV, ↓loadV, ↓indexAddrV, ↓boxV, GVal.cells, grp, GVal.ofConst, ↓resV, resG, List.map, List.headD, List.take, List.drop, ↓reduceIte, Nat.reduceEqDiff, Nat.reduceAdd, Nat.reduceSub, Nat.reduceLeDiff, reduceCtorEq, implies_true, ne_eq, aggV, Tag.cap, List.replicate, allSolid, GVal.solid, Nat.reduceBEq, Nat.reduceMul, Nat.reduceLT, List.length_map, List.length_range, splice, vcA, ↓vcB, vcC, fbFd, e20, take32, len32, solidH]
  refine vcSLoop_by (ι := { k : Nat // k ≤ l.length ∧ h ∉ l.take k }) (fun k => ⟨[.slice (hsG l) t, .any, .any, .ref (bytesG h.1), .any, .int .i64 (k.1 : Nat)] ++ List.replicate 12 .any, []⟩) (fun k => l.length - k.1) ?_ ?_
  · exact Into.first ⟨0, by omega, by simp⟩ ⟨[], by simp⟩ (by simp [WL, leG_self, leG_any, leG_int])
  · rintro ⟨k, hk, he⟩
    by_cases h' : k < l.length
    · have d0 : ((k : Int) < (l.length : Int)) = True := eq_true (by omega)
      have ea := hsG_at l k h'
      obtain ⟨x, ex⟩ : ∃ x, l.getD k h0 = x := ⟨_, rfl⟩
      rw [ex] at ea
      have ht := takeH h'
      rw [ex] at ht
      have ce := cellsEq_hs x h
      by_cases e : x = h
      · rw [decide_eq_true e] at ce
        have em : h ∈ l := List.mem_of_mem_take (i := k + 1) (by rw [ht, e]; simp)
        rw [decide_eq_true em]
        simp +contextual -implicitDefEqProofs (maxSteps := 2000000) (disch := omega) only [drawC, drawK, keepT, ↓lenV, binV, ↓loadV, ↓indexAddrV, ↓boxV, GVal.cells, grp, GVal.ofConst, ↓resV, resG, List.map, List.headD, List.take, List.drop, ↓reduceIte, Nat.reduceEqDiff, Nat.reduceAdd, Nat.reduceSub, Nat.reduceLeDiff, reduceCtorEq, implies_true, ne_eq, aggV, Tag.cap, List.replicate, allSolid, GVal.solid, Nat.reduceBEq, Nat.reduceMul, Nat.reduceLT, List.length_map, List.length_range, splice, vcA, ↓vcB, vcC, fbFd, e20, d0, ea, hsG_len, take32, len32, solidH, ce]
        omega
      · rw [decide_eq_false e] at ce
        simp +contextual -implicitDefEqProofs (maxSteps := 2000000) (disch := omega) only [drawC, drawK, keepT, ↓lenV, binV, ↓loadV, ↓indexAddrV, ↓boxV, GVal.cells, grp, GVal.ofConst, ↓resV, resG, List.map, List.headD, List.take, List.drop, ↓reduceIte, Nat.reduceEqDiff, Nat.reduceAdd, Nat.reduceSub, Nat.reduceLeDiff, reduceCtorEq, implies_true, ne_eq, aggV, Tag.cap, List.replicate, allSolid, GVal.solid, Nat.reduceBEq, Nat.reduceMul, Nat.reduceLT, List.length_map, List.length_range, splice, vcA, ↓vcB, vcC, fbFd, e20, d0, ea, hsG_len, take32, len32, solidH, ce]
        refine ⟨by omega, ?_⟩
        refine Into.at ⟨k + 1, by omega, ?_⟩ (by show l.length - (k + 1) < l.length - k; omega) ⟨[], by simp⟩ (by simp [WL, leG_self, leG_any, leG_int])
        rw [ht]
        intro q
        rcases List.mem_append.1 q with q | q
        · exact he q
        · exact e (List.mem_singleton.1 q).symm
    · have d0 : ((k : Int) < (l.length : Int)) = False := eq_false (by omega)
      rw [List.take_of_length_le (by omega)] at he
      rw [decide_eq_false he]
      simp +contextual -implicitDefEqProofs (maxSteps := 2000000) (disch := omega) only [drawC, drawK, keepT, ↓lenV, binV, ↓loadV, ↓indexAddrV, ↓boxV, GVal.cells, grp, GVal.ofConst, ↓resV, resG, List.map, List.headD, List.take, List.drop, ↓reduceIte, Nat.reduceEqDiff, Nat.reduceAdd, Nat.reduceSub, Nat.reduceLeDiff, reduceCtorEq, implies_true, ne_eq, aggV, Tag.cap, List.replicate, allSolid, GVal.solid, Nat.reduceBEq, Nat.reduceMul, Nat.reduceLT, List.length_map, List.length_range, splice, vcA, ↓vcB, vcC, fbFd, e20, d0, hsG_len]
theorem GCalls.keep1' {P : Program} {f : FuncId} {args args' : List GVal} {x : GObj} {r : GVal} (h : GCalls P f args [x] (fun g O' => g = r ∧ O' = [x])) {O : List GObj} (i : Nat) (hO : O[i]? = some x) (ha : args.map (GVal.place i) = args') (hx : x.isClock = false) (hc : clockOf O = none) :
    GCalls P f args' O (fun g O' => g = r ∧ O' = O) := GCalls.keep1 (h.mono (by rintro g O' ⟨rfl, rfl⟩; exact ⟨x, rfl, rfl, rfl⟩)) i hO ha hx hc
theorem rRound (L : GM) (hL : SSC L) (hm : GMOK L) (h : Hs) (rt : Nat) : GCalls Try.prog 52 [.ptr 0 rt 0 0, .agg (bytesG h.1)] (rObj rt L) (fun g O' => g = .bool (roundB L h) ∧ O' = rObj rt L) := by
  have hll := hm.len
  have hhl := hm.hashes
  have cP := fun x => rParents L hL (by omega) x rt
  have hp0 := hm.pars h
  refine GCalls.dropTo ?_
  refine h52.calls mixS (by simp) ?_
  simp only [gstart, s52, List.cons_append, List.nil_append, List.length_cons, List.length_nil, Nat.reduceAdd, Nat.reduceSub, List.replicate_succ, List.replicate_zero]
  simp +contextual -implicitDefEqProofs (maxSteps := 2000000) (disch := omega) only [drawC, drawK, keepT, ↓lenV, binV, optV, ↓loadV, ↓storeV, ↓indexAddrV, ↓allocV, ↓boxV, ↓buildSliceV, ↓sliceV, ↓appendV, ↓srcV, bound, cutTag, hiTag, fillE, GVal.cells, grp, GVal.ofConst, ↓resV, resG, List.map, List.headD, List.take, List.drop, ↓reduceIte, Nat.reduceEqDiff, Nat.reduceAdd, Nat.reduceSub, Nat.reduceLeDiff, reduceCtorEq, implies_true, ne_eq, ↓asrcV, aggV, Tag.cap, List.replicate, allSolid, GVal.solid, Nat.reduceBEq, Nat.reduceMul, Nat.reduceLT, List.length_map, List.length_range, splice, vcA, ↓vcB, vcC, fbFd, e52, take32, len32, solidH]
  refine (cP h).mono ?_
  rintro g O' ⟨rfl, rfl⟩
  simp +contextual -implicitDefEqProofs (maxSteps := 2000000) (disch := omega) only [drawC, drawK, keepT, ↓lenV, binV, optV, ↓loadV, ↓storeV, ↓indexAddrV, ↓allocV, ↓boxV, ↓buildSliceV, ↓sliceV, ↓appendV, ↓srcV, bound, cutTag, hiTag, fillE, GVal.cells, grp, GVal.ofConst, ↓resV, resG, List.map, List.headD, List.take, List.drop, ↓reduceIte, Nat.reduceEqDiff, Nat.reduceAdd, Nat.reduceSub, Nat.reduceLeDiff, reduceCtorEq, implies_true, ne_eq, ↓asrcV, aggV, Tag.cap, List.replicate, allSolid, GVal.solid, Nat.reduceBEq, Nat.reduceMul, Nat.reduceLT, List.length_map, List.length_range, splice, vcA, ↓vcB, vcC, fbFd, e52, hsG_len, all_hsG]
  refine ⟨by omega, by omega, fun s1 => ?_⟩
  have mu1 : ∀ u s n : Nat, rMu u 4 s n < rMu u 4 s (n + 1) := fun u s n => by unfold rMu; omega
  have mu2 : ∀ u s n m : Nat, s < u → m ≤ 4 → rMu u 4 (s + 1) (n + m) < rMu u 4 s (n + 1) := fun u s n m h1 h2 => by
    unfold rMu; omega
  obtain ⟨U, hU⟩ : ∃ U, parsM L h ++ hashesM L = U := ⟨_, rfl⟩
  have hUl : U.length ≤ 50004 := by rw [← hU, List.length_append]; omega
  have hU1 : ∀ x ∈ parsM L h, x ∈ U := fun x hx => by rw [← hU]; exact List.mem_append_left _ hx
  have hU2 : ∀ x y, y ∈ parsM L x → y ∈ U := fun x y hy => by rw [← hU]; exact List.mem_append_right _ (pars_in hy)
  refine vcSLoop_by (ι := { p : (List Hs × List Hs) × Nat // (RInv (parsM L) U (parsM L h) p.1.1 p.1.2 ∧ h ∉ p.1.1) ∧ p.1.2.length ≤ 4 + 4 * p.1.1.length }) (fun p => ⟨[.ptr 0 rt 0 0, .any, .any, .ref (bytesG h.1), .any, .slice (hsG p.1.1.1) (.tok 1 p.1.2), .slice (hsG p.1.1.2) .none] ++ List.replicate 37 .any, rObj rt L ++ [.tok p.1.2 32]⟩) (fun p => rMu U.length 4 p.1.1.1.length p.1.1.2.length) ?_ ?_
  · refine Into.slot 6 _ (.slice (hsG (parsM L h)) .none) rfl (fun E v q => GLe.none E v q) ?_
    refine Into.drop (O := rObj rt L) (X := [.tok s1 32]) rfl ?_
    refine Into.tok 5 32 [] rfl rfl ?_
    simp +contextual -implicitDefEqProofs (maxSteps := 2000000) (disch := omega) only [drawC, drawK, keepT, ↓lenV, binV, optV, ↓loadV, ↓storeV, ↓indexAddrV, ↓allocV, ↓boxV, ↓buildSliceV, ↓sliceV, ↓appendV, ↓srcV, bound, cutTag, hiTag, fillE, GVal.cells, grp, GVal.ofConst, ↓resV, resG, List.map, List.headD, List.take, List.drop, ↓reduceIte, Nat.reduceEqDiff, Nat.reduceAdd, Nat.reduceSub, Nat.reduceLeDiff, reduceCtorEq, implies_true, ne_eq, ↓asrcV, aggV, Tag.cap, List.replicate, allSolid, GVal.solid, Nat.reduceBEq, Nat.reduceMul, Nat.reduceLT, List.length_map, List.length_range, splice, vcA, ↓vcB, vcC, fbFd, e52]
    intro ss
    exact Into.first ⟨(([], parsM L h), ss), ⟨⟨List.nodup_nil, fun x hx => hU1 x (by simpa using hx), fun x hx => .inr hx, fun x hx => by simp at hx, fun x hx => .base x (by simpa using hx)⟩, by simp⟩, by show (parsM L h).length ≤ 4 + 4 * 0; omega⟩ ⟨[], by simp⟩ (by simp [WL, leG_self, leG_any, hsG])
  · rintro ⟨⟨⟨S, todo⟩, v⟩, ⟨inv, hnS⟩, hlen⟩
    change RInv (parsM L) U (parsM L h) S todo at inv
    have hnS : h ∉ S := hnS
    change todo.length ≤ 4 + 4 * S.length at hlen
    have hSl := inv.len
    rcases List.eq_nil_or_concat todo with rfl | ⟨tt, x, e⟩
    · have hn : ¬ Reach (parsM L) (parsM L h) h := fun q => hnS ((inv.fin h).2 q)
      rw [roundB_no hn]
      simp +contextual -implicitDefEqProofs (maxSteps := 2000000) (disch := omega) only [drawC, drawK, keepT, ↓lenV, binV, optV, ↓loadV, ↓storeV, ↓indexAddrV, ↓allocV, ↓boxV, ↓buildSliceV, ↓sliceV, ↓appendV, ↓srcV, bound, cutTag, hiTag, fillE, GVal.cells, grp, GVal.ofConst, ↓resV, resG, List.map, List.headD, List.take, List.drop, ↓reduceIte, Nat.reduceEqDiff, Nat.reduceAdd, Nat.reduceSub, Nat.reduceLeDiff, reduceCtorEq, implies_true, ne_eq, ↓asrcV, aggV, Tag.cap, List.replicate, allSolid, GVal.solid, Nat.reduceBEq, Nat.reduceMul, Nat.reduceLT, List.length_map, List.length_range, splice, vcA, ↓vcB, vcC, fbFd, e52, hsG_len, Int.lt_irrefl, false_imp_iff, true_and, List.length_nil, Int.natCast_zero]
      exact ⟨_, rObj rt L, [.tok v 32], rfl, leA_refl _, rfl, rfl⟩
    · rw [List.concat_eq_append] at e
      subst e
      have d0 : ((0 : Int) < (tt.length : Int) + 1) = True := eq_true (by omega)
      have htl : tt.length + 1 ≤ 4 + 4 * S.length := by rw [List.length_append, List.length_singleton] at hlen; exact hlen
      have d1 : norm .i64 ((tt.length : Int) + 1 - 1) = (tt.length : Int) := by rw [norm_i64 (by omega)]; omega
      have d2 : ((tt.length : Int)).toNat = tt.length := by omega
      have eS : (hsG (tt ++ [x])).getD tt.length [] = bytesG x.1 := by
        rw [hsG_at _ _ (by simp)]
        simp [List.getD]
      have eT : List.take tt.length (tt ++ [x]) = tt := List.take_left
      have ce := cellsEq_hs x h
      by_cases ex : x = h
      · rw [decide_eq_true ex] at ce
        have hy : Reach (parsM L) (parsM L h) h := by
          have := inv.sound x (.inr (by simp))
          rw [ex] at this; exact this
        rw [roundB_yes hy]
        simp +contextual -implicitDefEqProofs (maxSteps := 2000000) (disch := omega) only [drawC, drawK, keepT, ↓lenV, binV, optV, ↓loadV, ↓storeV, ↓indexAddrV, ↓allocV, ↓boxV, ↓buildSliceV, ↓sliceV, ↓appendV, ↓srcV, bound, cutTag, hiTag, fillE, GVal.cells, grp, GVal.ofConst, ↓resV, resG, List.map, List.headD, List.take, List.drop, ↓reduceIte, Nat.reduceEqDiff, Nat.reduceAdd, Nat.reduceSub, Nat.reduceLeDiff, reduceCtorEq, implies_true, ne_eq, ↓asrcV, aggV, Tag.cap, List.replicate, allSolid, GVal.solid, Nat.reduceBEq, Nat.reduceMul, Nat.reduceLT, List.length_map, List.length_range, splice, vcA, ↓vcB, vcC, fbFd, e52, toNat0, Nat.sub_zero, hsG_len, d0, d1, d2, eS, eT, all_hsG, take_hs, List.length_append, List.length_singleton, List.length_cons, List.length_nil, true_imp_iff, solidH, len32, take32, ce]
        exact ⟨by omega, by omega, fun st => ⟨by omega, by omega, by omega, _, rObj rt L, [.tok v 32, .row st 32 [bytesG x.1]], rfl, leA_refl _, rfl, rfl⟩⟩
      · rw [decide_eq_false ex] at ce
        have cI := hIn S (.tok 1 v) x (by omega)
        by_cases hx : x ∈ S
        · rw [decide_eq_true hx] at cI
          simp +contextual -implicitDefEqProofs (maxSteps := 2000000) (disch := omega) only [drawC, drawK, keepT, ↓lenV, binV, optV, ↓loadV, ↓storeV, ↓indexAddrV, ↓allocV, ↓boxV, ↓buildSliceV, ↓sliceV, ↓appendV, ↓srcV, bound, cutTag, hiTag, fillE, GVal.cells, grp, GVal.ofConst, ↓resV, resG, List.map, List.headD, List.take, List.drop, ↓reduceIte, Nat.reduceEqDiff, Nat.reduceAdd, Nat.reduceSub, Nat.reduceLeDiff, reduceCtorEq, implies_true, ne_eq, ↓asrcV, aggV, Tag.cap, List.replicate, allSolid, GVal.solid, Nat.reduceBEq, Nat.reduceMul, Nat.reduceLT, List.length_map, List.length_range, splice, vcA, ↓vcB, vcC, fbFd, e52, toNat0, Nat.sub_zero, hsG_len, d0, d1, d2, eS, eT, all_hsG, take_hs, List.length_append, List.length_singleton, List.length_cons, List.length_nil, true_imp_iff, solidH, len32, take32, ce]
          refine ⟨by omega, by omega, fun st => ⟨by omega, by omega, by omega, ?_⟩⟩
          refine cI.then ?_ (by rfl)
          simp +contextual -implicitDefEqProofs (maxSteps := 2000000) (disch := omega) only [drawC, drawK, keepT, ↓lenV, binV, optV, ↓loadV, ↓storeV, ↓indexAddrV, ↓allocV, ↓boxV, ↓buildSliceV, ↓sliceV, ↓appendV, ↓srcV, bound, cutTag, hiTag, fillE, GVal.cells, grp, GVal.ofConst, ↓resV, resG, List.map, List.headD, List.take, List.drop, ↓reduceIte, Nat.reduceEqDiff, Nat.reduceAdd, Nat.reduceSub, Nat.reduceLeDiff, reduceCtorEq, implies_true, ne_eq, ↓asrcV, aggV, Tag.cap, List.replicate, allSolid, GVal.solid, Nat.reduceBEq, Nat.reduceMul, Nat.reduceLT, List.length_map, List.length_range, splice, vcA, ↓vcB, vcC, fbFd, e52, toNat0, Nat.sub_zero, hsG_len, d0, d1, d2, eS, eT, all_hsG, take_hs, solidH, len32, take32, ce]
          exact Into.at ⟨((S, tt), v), ⟨inv.skip hx, hnS⟩, by show tt.length ≤ 4 + 4 * S.length; omega⟩ (mu1 _ _ _) ⟨[.row st 32 [bytesG x.1]], by simp⟩ (by simp [WL, leG_self, leG_any])
        · rw [decide_eq_false hx] at cI
          have hkx := hm.pars x
          have hgo := inv.go hx (fun y hy => hU2 x y hy)
          have hgl := hgo.len
          rw [List.length_append, List.length_singleton] at hgl
          simp +contextual -implicitDefEqProofs (maxSteps := 2000000) (disch := omega) only [drawC, drawK, keepT, ↓lenV, binV, optV, ↓loadV, ↓storeV, ↓indexAddrV, ↓allocV, ↓boxV, ↓buildSliceV, ↓sliceV, ↓appendV, ↓srcV, bound, cutTag, hiTag, fillE, GVal.cells, grp, GVal.ofConst, ↓resV, resG, List.map, List.headD, List.take, List.drop, ↓reduceIte, Nat.reduceEqDiff, Nat.reduceAdd, Nat.reduceSub, Nat.reduceLeDiff, reduceCtorEq, implies_true, ne_eq, ↓asrcV, aggV, Tag.cap, List.replicate, allSolid, GVal.solid, Nat.reduceBEq, Nat.reduceMul, Nat.reduceLT, List.length_map, List.length_range, splice, vcA, ↓vcB, vcC, fbFd, e52, toNat0, Nat.sub_zero, hsG_len, d0, d1, d2, eS, eT, all_hsG, take_hs, List.length_append, List.length_singleton, List.length_cons, List.length_nil, true_imp_iff, solidH, len32, take32, ce]
          refine ⟨by omega, by omega, fun st => ⟨by omega, by omega, by omega, ?_⟩⟩
          refine cI.then ?_ (by rfl)
          simp +contextual -implicitDefEqProofs (maxSteps := 2000000) (disch := omega) only [drawC, drawK, keepT, ↓lenV, binV, optV, ↓loadV, ↓storeV, ↓indexAddrV, ↓allocV, ↓boxV, ↓buildSliceV, ↓sliceV, ↓appendV, ↓srcV, bound, cutTag, hiTag, fillE, GVal.cells, grp, GVal.ofConst, ↓resV, resG, List.map, List.headD, List.take, List.drop, ↓reduceIte, Nat.reduceEqDiff, Nat.reduceAdd, Nat.reduceSub, Nat.reduceLeDiff, reduceCtorEq, implies_true, ne_eq, ↓asrcV, aggV, Tag.cap, List.replicate, allSolid, GVal.solid, Nat.reduceBEq, Nat.reduceMul, Nat.reduceLT, List.length_map, List.length_range, splice, vcA, ↓vcB, vcC, fbFd, e52, toNat0, Nat.sub_zero, hsG_len, all_hsG, take_hs, solidH, len32, take32, if32, one32, List.length_append, List.length_singleton, List.length_cons, List.length_nil]
          refine ⟨by omega, by omega, fun s2 => ⟨by omega, by omega, fun s3 => ⟨⟨[_], rfl⟩, ?_⟩⟩⟩
          refine (GCalls.keep1' (cP x) (O := [.row rt 1 [[.slice (csG L) .none]], .tok s2 32, .row st 32 [bytesG x.1], .tok s3 32]) 0 rfl rfl rfl rfl).mono ?_
          rintro g O' ⟨rfl, rfl⟩
          simp +contextual -implicitDefEqProofs (maxSteps := 2000000) (disch := omega) only [drawC, drawK, keepT, ↓lenV, binV, optV, ↓loadV, ↓storeV, ↓indexAddrV, ↓allocV, ↓boxV, ↓buildSliceV, ↓sliceV, ↓appendV, ↓srcV, bound, cutTag, hiTag, fillE, GVal.cells, grp, GVal.ofConst, ↓resV, resG, List.map, List.headD, List.take, List.drop, ↓reduceIte, Nat.reduceEqDiff, Nat.reduceAdd, Nat.reduceSub, Nat.reduceLeDiff, reduceCtorEq, implies_true, ne_eq, ↓asrcV, aggV, Tag.cap, List.replicate, allSolid, GVal.solid, Nat.reduceBEq, Nat.reduceMul, Nat.reduceLT, List.length_map, List.length_range, splice, vcA, ↓vcB, vcC, fbFd, e52, toNat0, Nat.sub_zero, hsG_len, all_hsG, take_hs, solidH, len32, take32, if32, one32, List.length_append, List.length_singleton, List.length_cons, List.length_nil]
          refine ⟨by omega, by omega, fun s4 => ?_⟩
          refine Into.at ⟨((S ++ [x], tt ++ parsM L x), s2), ⟨hgo, fun q => ?_⟩, ?_⟩ ?_ ⟨[.row st 32 [bytesG x.1], .tok s4 32], by simp⟩ (by simp [WL, leG_self, leG_any, leG_none, hsG_app, hsG])
          · rcases List.mem_append.1 q with q | q
            · exact hnS q
            · exact ex (List.mem_singleton.1 q).symm
          · show (tt ++ parsM L x).length ≤ 4 + 4 * (S ++ [x]).length
            rw [List.length_append, List.length_append, List.length_singleton]; omega
          · show rMu _ 4 (S ++ [x]).length (tt ++ parsM L x).length < rMu _ 4 S.length (tt.length + 1)
            rw [List.length_append, List.length_append, List.length_singleton]
            exact mu2 _ _ _ _ (by omega) hkx
end Gv.Try
