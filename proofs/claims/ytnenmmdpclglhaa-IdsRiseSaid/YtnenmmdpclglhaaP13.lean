/- Numbers of commits: plain laws. -/
import Derived.Test.YtnenmmdpclglhaaP12
import Derived.Test.YtnenmmdpclglhaaP9
import Derived.Test.YtnenmmdpclglhaaP5
set_option linter.unusedVariables false
set_option linter.unusedSimpArgs false
namespace Gv.Try
open Go Gv Go.Proofs
def UpL (m : GM) : List Hs → List Hs → Prop
  | _, [] => True
  | acc, x :: r => (∀ y ∈ parsM m x, y ∈ acc) ∧ UpL m (acc ++ [x]) r
theorem UpL.app {m : GM} : ∀ (a b acc : List Hs), UpL m acc (a ++ b) ↔ UpL m acc a ∧ UpL m (acc ++ a) b
  | [], b, acc => by simp [UpL]
  | x :: r, b, acc => by
    rw [List.cons_append, UpL, UpL, UpL.app r b (acc ++ [x]), and_assoc]
    simp
theorem UpL.filter {m : GM} (p : Hs → Bool) : ∀ (l acc acc' : List Hs), (∀ y ∈ acc, y ∈ acc') → (∀ y ∈ l, p y = false → y ∈ acc') → UpL m acc l → UpL m acc' (l.filter p)
  | [], _, _, _, _, _ => trivial
  | x :: r, acc, acc', h1, h2, h => by
    rw [UpL] at h
    rw [List.filter_cons]
    cases hp : p x with
    | true =>
      rw [if_pos rfl, UpL]
      refine ⟨fun y hy => h1 y (h.1 y hy), UpL.filter p r _ _ (fun y hy => ?_) (fun y hy hpy => List.mem_append_left _ (h2 y (by simp [hy]) hpy)) h.2⟩
      rcases List.mem_append.1 hy with q | q
      · exact List.mem_append_left _ (h1 y q)
      · exact List.mem_append_right _ q
    | false =>
      rw [if_neg (by simp)]
      refine UpL.filter p r _ _ (fun y hy => ?_) (fun y hy hpy => h2 y (by simp [hy]) hpy) h.2
      rcases List.mem_append.1 hy with q | q
      · exact h1 y q
      · rw [List.mem_singleton.1 q]; exact h2 x (by simp) hp
theorem UpL.of {m : GM} {T acc : List Hs} (h : ∀ (i : Nat) x, T[i]? = some x → ∀ y ∈ parsM m x, y ∈ acc ∨ y ∈ T.take i) : UpL m acc T := by
  have : ∀ b a : List Hs, T = a ++ b → UpL m (acc ++ a) b := by
    intro b
    induction b with
    | nil => exact fun _ _ => trivial
    | cons x r ih =>
      intro a e
      rw [UpL]
      refine ⟨fun y hy => ?_, ?_⟩
      · have hx : T[a.length]? = some x := by rw [e, List.getElem?_append_right (Nat.le_refl _), Nat.sub_self]; rfl
        have ht : T.take a.length = a := by rw [e]; exact List.take_left
        have := h a.length x hx y hy
        rw [ht] at this
        exact List.mem_append.2 this
      · rw [List.append_assoc]
        exact ih (a ++ [x]) (by rw [e]; simp)
  have := this T [] rfl
  rwa [List.append_nil] at this
theorem UpL.at_ {m : GM} : ∀ {l acc : List Hs}, UpL m acc l → ∀ (i : Nat) (x : Hs), l[i]? = some x → ∀ y ∈ parsM m x, y ∈ acc ++ l.take i
  | [], acc, _, i, x, hi, y, hy => by simp at hi
  | z :: r, acc, h, 0, x, hi, y, hy => by
    simp at hi; subst hi
    rw [UpL] at h
    simpa using h.1 y hy
  | z :: r, acc, h, i + 1, x, hi, y, hy => by
    rw [UpL] at h
    have := UpL.at_ h.2 i x (by simpa using hi) y hy
    simpa using this
theorem UpL.congr {m m1 : GM} : ∀ (l acc : List Hs), (∀ x ∈ l, parsM m1 x = parsM m x) → UpL m acc l → UpL m1 acc l
  | [], _, _, _ => trivial
  | x :: r, acc, h, hu => by
    rw [UpL] at hu ⊢
    rw [h x (by simp)]
    exact ⟨hu.1, UpL.congr r _ (fun y hy => h y (by simp [hy])) hu.2⟩
structure NumOK (m : GM) (M O : List Hs) : Prop where
  nd : (M ++ O).Nodup
  all : ∀ x, x ∈ M ++ O ↔ (look m x).isSome = true
  up : UpL m [] (M ++ O)
theorem numK_no {l : List Hs} {b : Int} {a : List (Hs × Int)} {x : Hs} : ∀ {k : Nat}, k ≤ l.length → x ∉ l.take k → look (numK l b a k) x = look a x
  | 0, _, _ => rfl
  | k + 1, hk, hx => by
    rw [takeH (by omega)] at hx
    simp only [List.mem_append, List.mem_singleton, not_or] at hx
    rw [numK, look_mset, if_neg hx.2]
    exact numK_no (by omega) hx.1
theorem getD_at {l : List Hs} {j : Nat} {x : Hs} (h : l[j]? = some x) : l.getD j h0 = x := by simp [List.getD, h]
theorem numK_at {l : List Hs} {b : Int} {a : List (Hs × Int)} (hn : l.Nodup) {j : Nat} {x : Hs} (hx : l[j]? = some x) : ∀ {k : Nat}, j < k → k ≤ l.length → look (numK l b a k) x = some (b + j)
  | 0, h, _ => by omega
  | k + 1, h, hk => by
    rw [numK, look_mset]
    by_cases e : j = k
    · subst e
      rw [if_pos (getD_at hx).symm]
    · have hne : x ≠ l.getD k h0 := fun q => by
        have h2 : l[k]? = some x := by
          rw [List.getElem?_eq_getElem (by omega)]
          rw [List.getD_eq_getElem?_getD, List.getElem?_eq_getElem (by omega)] at q
          exact congrArg some q.symm
        exact e (nodup_at hn hx h2)
      rw [if_neg hne]
      exact numK_at hn hx (by omega) (by omega)
theorem id_m {M O : List Hs} (hn : (M ++ O).Nodup) {j : Nat} {x : Hs} (hx : M[j]? = some x) : look (ofM M O) x = some (j : Int) := by
  obtain ⟨h1, h2, h3⟩ := List.nodup_append.1 hn
  have hxM : x ∈ M := List.mem_of_getElem? hx
  rw [ofM, numK_no (Nat.le_refl _) (fun q => by rw [List.take_length] at q; exact h3 x hxM x q rfl), numK_at h1 hx (List.getElem?_eq_some_iff.1 hx).1 (Nat.le_refl _), Int.zero_add]
theorem id_o {M O : List Hs} (hn : (M ++ O).Nodup) {j : Nat} {x : Hs} (hx : O[j]? = some x) : look (ofM M O) x = some (1099511627776 + (j : Int)) := by
  obtain ⟨h1, h2, h3⟩ := List.nodup_append.1 hn
  rw [ofM, numK_at h2 hx (List.getElem?_eq_some_iff.1 hx).1 (Nat.le_refl _)]
theorem id_no {M O : List Hs} {x : Hs} (hx : x ∉ M ++ O) : look (ofM M O) x = none := by
  simp only [List.mem_append, not_or] at hx
  rw [ofM, numK_no (Nat.le_refl _) (by rw [List.take_length]; exact hx.2), numK_no (Nat.le_refl _) (by rw [List.take_length]; exact hx.1)]
  rfl
theorem id_some {M O : List Hs} (hn : (M ++ O).Nodup) (x : Hs) : (look (ofM M O) x).isSome = decide (x ∈ M ++ O) := by
  by_cases h : x ∈ M ++ O
  · rw [decide_eq_true h]
    rcases List.mem_append.1 h with q | q
    · obtain ⟨j, hj⟩ := List.getElem?_of_mem q
      rw [id_m hn hj]; rfl
    · obtain ⟨j, hj⟩ := List.getElem?_of_mem q
      rw [id_o hn hj]; rfl
  · rw [decide_eq_false h, id_no h]; rfl
theorem id_master {M O : List Hs} (hn : (M ++ O).Nodup) (hl : M.length ≤ 1000000) (x : Hs) : masterB (ofM M O) x = decide (x ∈ M) := by
  unfold masterB
  by_cases h : x ∈ M
  · obtain ⟨j, hj⟩ := List.getElem?_of_mem h
    have := (List.getElem?_eq_some_iff.1 hj).1
    rw [decide_eq_true h, id_m hn hj]
    exact decide_eq_true (by show (j : Int) < 1099511627776; omega)
  · rw [decide_eq_false h]
    by_cases h2 : x ∈ O
    · obtain ⟨j, hj⟩ := List.getElem?_of_mem h2
      rw [id_o hn hj]
      exact decide_eq_false (by show ¬ (1099511627776 + (j : Int)) < 1099511627776; omega)
    · rw [id_no (by simp [h, h2])]
theorem reach_pars {m : GM} {M : List Hs} (hu : UpL m [] M) {z y : Hs} (hz : z ∈ M) (hy : y ∈ parsM m z) : y ∈ M := by
  obtain ⟨i, hi⟩ := List.getElem?_of_mem hz
  have := hu.at_ i z hi y hy
  rw [List.nil_append] at this
  exact List.mem_of_mem_take this
theorem num_step {m m1 : GM} {M O : List Hs} (h : NumOK m M O) (hg1 : Good m1) (hext : ∀ x l, look m x = some l → look m1 x = some l) {gr : Int} {hs : List Hs} {cs : List Cm}
    (hcs : ∀ x, (look m1 x).isSome = true → (look m x).isSome = true ∨ x ∈ cs.map (·.1)) {M1 O1 : List Hs} (hMl : M.length ≤ 1000000)
    (hcase : (gr ≠ 1 ∧ M1 = M ∧ O1 = O) ∨ (gr = 1 ∧ ∃ T1 : WSt, VisL m1 (masterB (ofM M O)) hs ([], []) T1 ∧ M1 = M ++ T1.2 ∧ O1 = woL O T1.2))
    {T2 : WSt} (hT2 : VisL m1 (fun h => (look (ofM M1 O1) h).isSome) (hs ++ cs.map (·.1)) ([], []) T2) :
    NumOK m1 M1 (O1 ++ T2.2) ∧ ∀ x, x ∈ M1 ↔ x ∈ M ∨ (gr = 1 ∧ Reach (parsM m1) (inM m1 hs) x) := by
  have hth : ∀ x, (look m x).isSome = true → (look m1 x).isSome = true ∧ parsM m1 x = parsM m x := fun x hx => by
    obtain ⟨l, hl⟩ := Option.isSome_iff_exists.1 hx
    exact ⟨by rw [hext x l hl]; rfl, by rw [parsM_some hl, parsM_some (hext x l hl)]⟩
  have up1 : UpL m1 [] (M ++ O) := UpL.congr _ _ (fun x hx => (hth x ((h.all x).1 hx)).2) h.up
  obtain ⟨upM, upO⟩ := (UpL.app M O []).1 up1
  rw [List.nil_append] at upO
  obtain ⟨nM, nO, nMO⟩ := List.nodup_append.1 h.nd
  have key : (M1 ++ O1).Nodup ∧ (∀ x ∈ M1 ++ O1, (look m1 x).isSome = true) ∧ UpL m1 [] (M1 ++ O1) ∧ (∀ x ∈ M ++ O, x ∈ M1 ++ O1) ∧ ∀ x, x ∈ M1 ↔ x ∈ M ∨ (gr = 1 ∧ Reach (parsM m1) (inM m1 hs) x) := by
    rcases hcase with ⟨hg, rfl, rfl⟩ | ⟨hg, T1, hT1, rfl, rfl⟩
    · exact ⟨h.nd, fun x hx => (hth x ((h.all x).1 hx)).1, up1, fun x hx => hx, fun x => ⟨.inl, fun q => q.elim id fun e => absurd e.1 hg⟩⟩
    · obtain ⟨_, t1, t2, t3, t4⟩ := vis_spec0 hg1.acyc hT1
      have hmb : ∀ x, masterB (ofM M O) x = decide (x ∈ M) := id_master h.nd hMl
      have tM : ∀ x ∈ T1.2, x ∉ M := fun x hx q => by
        have := (t2 x hx).2.1
        rw [hmb, decide_eq_true q] at this; cases this
      have hwo : ∀ x, x ∈ woL O T1.2 ↔ x ∈ O ∧ x ∉ T1.2 := fun x => by unfold woL; rw [List.mem_filter]; simp
      refine ⟨?_, fun x hx => ?_, ?_, fun x hx => ?_, fun x => ?_⟩
      · rw [List.nodup_append, List.nodup_append]
        refine ⟨⟨nM, t1, fun a ha b hb e => tM b hb (e ▸ ha)⟩, nO.sublist List.filter_sublist, fun a ha b hb e => ?_⟩
        obtain ⟨q1, q2⟩ := (hwo b).1 hb
        rcases List.mem_append.1 ha with q | q
        · exact nMO a q b q1 e
        · exact q2 (e ▸ q)
      · rcases List.mem_append.1 hx with q | q
        · rcases List.mem_append.1 q with q | q
          · exact (hth x ((h.all x).1 (List.mem_append_left _ q))).1
          · exact (t2 x q).1
        · exact (hth x ((h.all x).1 (List.mem_append_right _ ((hwo x).1 q).1))).1
      · rw [UpL.app, UpL.app]
        rw [List.nil_append, List.nil_append]
        refine ⟨⟨upM, UpL.of fun i x hi y hy => ?_⟩, ?_⟩
        · by_cases q : y ∈ M
          · exact .inl q
          · exact .inr (t4 i x hi y hy (hg1.closed x y hy) (by rw [hmb]; exact decide_eq_false q))
        · exact UpL.filter _ O M _ (fun y hy => List.mem_append_left _ hy) (fun y _ hp => List.mem_append_right _ (by simpa using hp)) upO
      · by_cases q : x ∈ T1.2
        · exact List.mem_append_left _ (List.mem_append_right _ q)
        · rcases List.mem_append.1 hx with r | r
          · exact List.mem_append_left _ (List.mem_append_left _ r)
          · exact List.mem_append_right _ ((hwo x).2 ⟨r, q⟩)
      · rw [List.mem_append]
        constructor
        · rintro (q | q)
          · exact .inl q
          · obtain ⟨a, _, c⟩ := t2 x q
            exact .inr ⟨hg, c.inM a⟩
        · rintro (q | ⟨_, q⟩)
          · exact .inl q
          · induction q with
            | base x hx =>
              obtain ⟨a, b⟩ := List.mem_filter.1 hx
              by_cases q : x ∈ M
              · exact .inl q
              · exact .inr (t3 x a b (by rw [hmb]; exact decide_eq_false q))
            | step z y _ hy ih =>
              rcases ih with r | r
              · exact .inl (reach_pars upM r hy)
              · by_cases q : y ∈ M
                · exact .inl q
                · obtain ⟨i, hi⟩ := List.getElem?_of_mem r
                  exact .inr (List.mem_of_mem_take (t4 i z hi y hy (hg1.closed z y hy) (by rw [hmb]; exact decide_eq_false q)))
  obtain ⟨k1, k2, k3, k4, k5⟩ := key
  refine ⟨?_, k5⟩
  obtain ⟨_, t1, t2, t3, t4⟩ := vis_spec0 hg1.acyc hT2
  have hdn : ∀ x, (look (ofM M1 O1) x).isSome = decide (x ∈ M1 ++ O1) := id_some k1
  have tN : ∀ x ∈ T2.2, x ∉ M1 ++ O1 := fun x hx q => by
    have := (t2 x hx).2.1
    rw [hdn, decide_eq_true q] at this; cases this
  refine ⟨?_, fun x => ?_, ?_⟩
  · rw [← List.append_assoc, List.nodup_append]
    exact ⟨k1, t1, fun a ha b hb e => tN b hb (e ▸ ha)⟩
  · rw [← List.append_assoc, List.mem_append]
    constructor
    · rintro (q | q)
      · exact k2 x q
      · exact (t2 x q).1
    · intro hx
      by_cases q : x ∈ M1 ++ O1
      · exact .inl q
      · rcases hcs x hx with r | r
        · exact absurd (k4 x ((h.all x).2 r)) q
        · exact .inr (t3 x (List.mem_append_right _ r) hx (by rw [hdn]; exact decide_eq_false q))
  · rw [← List.append_assoc, UpL.app, List.nil_append]
    refine ⟨k3, UpL.of fun i x hi y hy => ?_⟩
    by_cases q : y ∈ M1 ++ O1
    · exact .inl q
    · exact .inr (t4 i x hi y hy (hg1.closed x y hy) (by rw [hdn]; exact decide_eq_false q))
end Gv.Try
/- Contracts: the reference's round. -/
set_option linter.unusedVariables false
set_option linter.unusedSimpArgs false
set_option maxRecDepth 20000
set_option maxHeartbeats 4000000
namespace Gv.Try
open Go Gv Go.Proofs
theorem hIn (l : List Hs) (t : Tag) (h : Hs) (hl : l.length ≤ 4398046511104) : GPure Try.prog 17 [.slice (hsG l) t, .agg (bytesG h.1)] (.bool (decide (h ∈ l))) := by
  refine h17.pure mixS (by simp) ?_
  simp only [gstart, s17, List.cons_append, List.nil_append, List.length_cons, List.length_nil, Nat.reduceAdd, Nat.reduceSub, List.replicate_succ, List.replicate_zero]
  simp +contextual -implicitDefEqProofs (maxSteps := 2000000) (disch := omega) only [drawC, drawK, keepT, ↓lenV, binV, ↓loadV, ↓indexAddrV, ↓boxV, GVal.cells, grp, GVal.ofConst, ↓resV, resG, List.map, List.headD, List.take, List.drop, ↓reduceIte, Nat.reduceEqDiff, Nat.reduceAdd, Nat.reduceSub, Nat.reduceLeDiff, reduceCtorEq, implies_true, ne_eq, aggV, Tag.cap, List.replicate, allSolid, GVal.solid, Nat.reduceBEq, Nat.reduceMul, Nat.reduceLT, List.length_map, List.length_range, splice, vcA, ↓vcB, vcC, fbFe, e17, take32, len32, solidH]
  refine vcSLoop_by (ι := { k : Nat // k ≤ l.length ∧ h ∉ l.take k }) (fun k => ⟨[.slice (hsG l) t, .any, .any, .ref (bytesG h.1), .any, .int .i64 (k.1 : Nat)] ++ List.replicate 12 .any, []⟩) (fun k => l.length - k.1) ?_ ?_
  · exact Into.first ⟨0, by omega, by simp⟩ ⟨[], by simp⟩ (by simp [WL, leG_self, leG_any, leG_int])
  · rintro ⟨k, hk, he⟩
    by_cases h' : k < l.length
    · have d0 : ((k : Int) < (l.length : Int)) = True := eq_true (by omega)
      have ea := hsG_at l k h'
      obtain ⟨x, ex⟩ : ∃ x, l.getD k h0 = x := ⟨_, rfl⟩
      rw [ex] at ea
      have ht := takeH h'
      rw [ex] at ht
      have ce := cellsEq_hs x h
      by_cases e : x = h
      · rw [decide_eq_true e] at ce
        have em : h ∈ l := List.mem_of_mem_take (i := k + 1) (by rw [ht, e]; simp)
        rw [decide_eq_true em]
        simp +contextual -implicitDefEqProofs (maxSteps := 2000000) (disch := omega) only [drawC, drawK, keepT, ↓lenV, binV, ↓loadV, ↓indexAddrV, ↓boxV, GVal.cells, grp, GVal.ofConst, ↓resV, resG, List.map, List.headD, List.take, List.drop, ↓reduceIte, Nat.reduceEqDiff, Nat.reduceAdd, Nat.reduceSub, Nat.reduceLeDiff, reduceCtorEq, implies_true, ne_eq, aggV, Tag.cap, List.replicate, allSolid, GVal.solid, Nat.reduceBEq, Nat.reduceMul, Nat.reduceLT, List.length_map, List.length_range, splice, vcA, ↓vcB, vcC, fbFe, e17, d0, ea, hsG_len, take32, len32, solidH, ce]
        omega
      · rw [decide_eq_false e] at ce
        simp +contextual -implicitDefEqProofs (maxSteps := 2000000) (disch := omega) only [drawC, drawK, keepT, ↓lenV, binV, ↓loadV, ↓indexAddrV, ↓boxV, GVal.cells, grp, GVal.ofConst, ↓resV, resG, List.map, List.headD, List.take, List.drop, ↓reduceIte, Nat.reduceEqDiff, Nat.reduceAdd, Nat.reduceSub, Nat.reduceLeDiff, reduceCtorEq, implies_true, ne_eq, aggV, Tag.cap, List.replicate, allSolid, GVal.solid, Nat.reduceBEq, Nat.reduceMul, Nat.reduceLT, List.length_map, List.length_range, splice, vcA, ↓vcB, vcC, fbFe, e17, d0, ea, hsG_len, take32, len32, solidH, ce]
        refine ⟨by omega, ?_⟩
        refine Into.at ⟨k + 1, by omega, ?_⟩ (by show l.length - (k + 1) < l.length - k; omega) ⟨[], by simp⟩ (by simp [WL, leG_self, leG_any, leG_int])
        rw [ht]
        intro q
        rcases List.mem_append.1 q with q | q
        · exact he q
        · exact e (List.mem_singleton.1 q).symm
    · have d0 : ((k : Int) < (l.length : Int)) = False := eq_false (by omega)
      rw [List.take_of_length_le (by omega)] at he
      rw [decide_eq_false he]
      simp +contextual -implicitDefEqProofs (maxSteps := 2000000) (disch := omega) only [drawC, drawK, keepT, ↓lenV, binV, ↓loadV, ↓indexAddrV, ↓boxV, GVal.cells, grp, GVal.ofConst, ↓resV, resG, List.map, List.headD, List.take, List.drop, ↓reduceIte, Nat.reduceEqDiff, Nat.reduceAdd, Nat.reduceSub, Nat.reduceLeDiff, reduceCtorEq, implies_true, ne_eq, aggV, Tag.cap, List.replicate, allSolid, GVal.solid, Nat.reduceBEq, Nat.reduceMul, Nat.reduceLT, List.length_map, List.length_range, splice, vcA, ↓vcB, vcC, fbFe, e17, d0, hsG_len]
end Gv.Try
/- Numbers of commits: what the law asks of them; contracts in its memory. -/
set_option linter.unusedVariables false
set_option linter.unusedSimpArgs false
set_option maxRecDepth 20000
set_option maxHeartbeats 4000000
namespace Gv.Try
open Go Gv Go.Proofs
theorem inM_memI {m : GM} {l : List Hs} {x : Hs} : x ∈ inM m l ↔ x ∈ l ∧ (look m x).isSome = true := by unfold inM; exact List.mem_filter
theorem reach_app {m : GM} {nx : Hs → List Hs} {a b : List Hs} {x : Hs} : Reach nx (inM m (a ++ b)) x ↔ Reach nx (inM m a) x ∨ Reach nx (inM m b) x := by
  constructor
  · intro h
    induction h with
    | base x hx =>
      obtain ⟨h1, h2⟩ := inM_memI.1 hx
      rcases List.mem_append.1 h1 with q | q
      · exact .inl (.base x (inM_memI.2 ⟨q, h2⟩))
      · exact .inr (.base x (inM_memI.2 ⟨q, h2⟩))
    | step z y _ hy ih => exact ih.imp (fun q => .step z y q hy) (fun q => .step z y q hy)
  · rintro (h | h)
    · exact h.sub fun y hy => by obtain ⟨h1, h2⟩ := inM_memI.1 hy; exact inM_memI.2 ⟨List.mem_append_left _ h1, h2⟩
    · exact h.sub fun y hy => by obtain ⟨h1, h2⟩ := inM_memI.1 hy; exact inM_memI.2 ⟨List.mem_append_right _ h1, h2⟩
theorem reach_thereI {m : GM} (hc : ∀ x y, y ∈ parsM m x → (look m y).isSome = true) {l : List Hs} {x : Hs} (h : Reach (parsM m) (inM m l) x) : (look m x).isSome = true := by
  cases h with
  | base x hx => exact (inM_memI.1 hx).2
  | step z x _ hx => exact hc z x hx
theorem reach_ext {m m1 : GM} (hm : Good m) (hext : ∀ x l, look m x = some l → look m1 x = some l) {l : List Hs} (hl : ∀ x ∈ l, (look m x).isSome = true) (x : Hs) : Reach (parsM m1) (inM m1 l) x ↔ Reach (parsM m) (inM m l) x := by
  have hth : ∀ x, (look m x).isSome = true → (look m1 x).isSome = true ∧ parsM m1 x = parsM m x := fun x hx => by
    obtain ⟨l, hl⟩ := Option.isSome_iff_exists.1 hx
    exact ⟨by rw [hext x l hl]; rfl, by rw [parsM_some hl, parsM_some (hext x l hl)]⟩
  constructor
  · intro h
    induction h with
    | base x hx => have := (inM_memI.1 hx).1; exact .base x (inM_memI.2 ⟨this, hl x this⟩)
    | step z y _ hy ih => exact .step z y ih (by rw [← (hth z (reach_thereI hm.closed ih)).2]; exact hy)
  · intro h
    induction h with
    | base x hx => obtain ⟨a, b⟩ := inM_memI.1 hx; exact .base x (inM_memI.2 ⟨a, (hth x b).1⟩)
    | step z y hz hy ih => exact .step z y ih (by rw [(hth z (reach_thereI hm.closed hz)).2]; exact hy)
theorem num_rising {m : GM} (hm : Good m) {M O : List Hs} (h : NumOK m M O) : risingB m (M ++ O) = true := by
  refine risingB_yes ⟨h.nd, fun x hx => (h.all x).1 hx, fun k y x hk hx j hj => ?_⟩
  have hr : ∀ z, Reach (parsM m) (inM m [y]) z → z ∈ (M ++ O).take (k + 1) := fun z hz => by
    induction hz with
    | base z hz =>
      have := (inM_memI.1 hz).1
      rw [List.mem_singleton] at this
      subst this
      rw [List.mem_take_iff_getElem]
      obtain ⟨h1, h2⟩ := List.getElem?_eq_some_iff.1 hk
      exact ⟨k, by omega, h2⟩
    | step z w _ hw ih =>
      obtain ⟨i, hi, e⟩ := List.mem_take_iff_getElem.1 ih
      have hi2 : i < k + 1 := by omega
      have := h.up.at_ i z (by rw [List.getElem?_eq_getElem (by omega), e]) w hw
      rw [List.nil_append] at this
      exact (List.take_subset_take_left (M ++ O) (by omega : i ≤ k + 1)) this
  have := hr x ((ancL_mem m [y] x).1 hx)
  obtain ⟨i, hi, e⟩ := List.mem_take_iff_getElem.1 this
  have hji := nodup_at h.nd (List.getElem?_eq_getElem (by omega : i < (M ++ O).length) |>.trans (congrArg some e)) hj
  omega
theorem same_len {a b : List Hs} (ha : a.Nodup) (hb : b.Nodup) (h : ∀ x, x ∈ a ↔ x ∈ b) : a.length = b.length :=
  Nat.le_antisymm (nodup_lenH a b ha fun x hx => (h x).1 hx) (nodup_lenH b a hb fun x hx => (h x).2 hx)
theorem joined_add {gr : Int} {m M : GM} {cs : List Cm} {hs : List Hs} (h : joinedP gr m cs hs = .ok M) : joinedP 2 m cs [] = .ok M := by
  obtain ⟨e1, e2, e3, e4, e5⟩ := joined_ok h
  obtain ⟨n1, n2, n3, n4⟩ := sizesP_none e1
  have h1 : sizesP 2 0 cs = none := by
    unfold sizesP at e1 ⊢
    split at e1
    · cases e1
    · rw [if_neg (by unfold badReq; omega)]
      exact e1
  have h3 : lackP M cs [] = none := by
    unfold lackP at e3 ⊢
    cases hc : cs.findSome? (fun c => c.2.findSome? (nowhere M 10)) with
    | some e => rw [hc] at e3; cases e3
    | none => rfl
  unfold joinedP
  simp only [List.length_nil, h1, e2, h3, e4]
  rw [if_neg (by omega)]
noncomputable def chkP (gr : Int) (m : GM) (cs : List Cm) (hs : List Hs) : Er := match joinedP gr m cs hs with
  | .ok _ => none
  | .error e => some e
theorem iCheck (m : GM) (hm : GOK m) (cs : List Cm) (hs : List Hs) (th : Tag) (gr : Int) (st s : Nat) (hc : cs.length ≤ 1000000) (hh : hs.length ≤ 1000000) (hp : ∀ c ∈ cs, c.2.length ≤ 1000000) :
    GCalls Try.prog 8 [.ptr 0 st 0 0, .agg (reqG cs hs th gr)] (gObj st s m) (fun g O' => g = errV (chkP gr m cs hs) ∧ O' = gObj st s m) := by
  cases hj : joinedP gr m cs hs with
  | error e =>
    have : chkP gr m cs hs = some e := by unfold chkP; rw [hj]
    rw [this]
    have c1 := gJoinedBy m hm cs hs th gr st s hc hh hp
    rw [hj] at c1
    obtain ⟨ty, v, ev⟩ := errV_some e
    refine h8.calls mixS (by simp) ?_
    simp only [gstart, s8, List.cons_append, List.nil_append, List.length_cons, List.length_nil, Nat.reduceAdd, Nat.reduceSub, List.replicate_succ, List.replicate_zero]
    simp +contextual -implicitDefEqProofs (maxSteps := 2000000) (disch := omega) only [↓loadV, ↓boxV, GVal.cells, grp, GVal.ofConst, ↓resV, resG, List.map, List.headD, List.take, List.drop, ↓reduceIte, Nat.reduceEqDiff, Nat.reduceAdd, Nat.reduceSub, Nat.reduceLeDiff, reduceCtorEq, implies_true, ne_eq, Tag.cap, List.replicate, allSolid, GVal.solid, Nat.reduceBEq, Nat.reduceMul, Nat.reduceLT, List.length_map, List.length_range, splice, vcA, ↓vcB, vcC, fbFe, e8]
    refine c1.mono ?_
    rintro g O' ⟨s2, rfl, rfl⟩
    simp +contextual -implicitDefEqProofs (maxSteps := 2000000) (disch := omega) only [↓loadV, ↓boxV, GVal.cells, grp, GVal.ofConst, ↓resV, resG, List.map, List.headD, List.take, List.drop, ↓reduceIte, Nat.reduceEqDiff, Nat.reduceAdd, Nat.reduceSub, Nat.reduceLeDiff, reduceCtorEq, implies_true, ne_eq, Tag.cap, List.replicate, allSolid, GVal.solid, Nat.reduceBEq, Nat.reduceMul, Nat.reduceLT, List.length_map, List.length_range, splice, vcA, ↓vcB, vcC, fbFe, e8, jdV, jdO, ev]
  | ok M =>
    have : chkP gr m cs hs = none := by unfold chkP; rw [hj]
    rw [this]
    have c1 := gJoinedBy m hm cs hs th gr st s hc hh hp
    rw [hj] at c1
    refine GCalls.dropTo ?_
    refine h8.calls mixS (by simp) ?_
    simp only [gstart, s8, List.cons_append, List.nil_append, List.length_cons, List.length_nil, Nat.reduceAdd, Nat.reduceSub, List.replicate_succ, List.replicate_zero]
    simp +contextual -implicitDefEqProofs (maxSteps := 2000000) (disch := omega) only [↓loadV, ↓boxV, GVal.cells, grp, GVal.ofConst, ↓resV, resG, List.map, List.headD, List.take, List.drop, ↓reduceIte, Nat.reduceEqDiff, Nat.reduceAdd, Nat.reduceSub, Nat.reduceLeDiff, reduceCtorEq, implies_true, ne_eq, Tag.cap, List.replicate, allSolid, GVal.solid, Nat.reduceBEq, Nat.reduceMul, Nat.reduceLT, List.length_map, List.length_range, splice, vcA, ↓vcB, vcC, fbFe, e8]
    refine c1.mono ?_
    rintro g O' ⟨s2, rfl, rfl⟩
    simp +contextual -implicitDefEqProofs (maxSteps := 2000000) (disch := omega) only [↓loadV, ↓boxV, GVal.cells, grp, GVal.ofConst, ↓resV, resG, List.map, List.headD, List.take, List.drop, ↓reduceIte, Nat.reduceEqDiff, Nat.reduceAdd, Nat.reduceSub, Nat.reduceLeDiff, reduceCtorEq, implies_true, ne_eq, Tag.cap, List.replicate, allSolid, GVal.solid, Nat.reduceBEq, Nat.reduceMul, Nat.reduceLT, List.length_map, List.length_range, splice, vcA, ↓vcB, vcC, fbFe, e8, jdV, jdO, errV]
    exact ⟨.lit .nilIface, gObj st s m, [.map s2 (kvG encL M)], rfl, leA_refl _, rfl, rfl⟩
theorem iNew2 (m : GM) (st s : Nat) (n : Int) (h1 : 1 ≤ n) (h2 : n ≤ 600) : GCalls Try.prog 5 [.int .i64 n] (gObj st s m) (fun g O' => ∃ ti so, g = .tuple [.ptr 2 ti 0 0, .lit .nilIface] ∧ O' = gObj st s m ++ idO2 ti so n [] []) := by
  have d0 : (n < 1) = False := eq_false (by omega)
  have d1 : ((600 : Int) < n) = False := eq_false (by omega)
  have raw : GCalls Try.prog 5 [.int .i64 n] (gObj st s m) (fun g O' => ∃ ti so, g = .tuple [.ptr 3 ti 0 0, .lit .nilIface] ∧ O' = gObj st s m ++ [.map so [], .row ti 4 [[.int .i64 n, .slice [] .nil, .slice [] .nil, .map 2 so]]]) := by
    refine h5.calls mixS (by simp) ?_
    simp only [gstart, s5, List.cons_append, List.nil_append, List.length_cons, List.length_nil, Nat.reduceAdd, Nat.reduceSub, List.replicate_succ, List.replicate_zero]
    simp +contextual -implicitDefEqProofs (maxSteps := 2000000) (disch := omega) only [binV, ↓boxV, ↓buildV, ↓ifaceV, fillG, place, GVal.cells, grp, GVal.ofConst, ↓resV, resG, List.map, List.headD, List.take, List.drop, ↓reduceIte, Nat.reduceEqDiff, Nat.reduceAdd, Nat.reduceSub, Nat.reduceLeDiff, reduceCtorEq, implies_true, ne_eq, ↓makeMapV, Tag.cap, List.replicate, allSolid, GVal.solid, Nat.reduceBEq, Nat.reduceMul, Nat.reduceLT, List.length_map, List.length_range, splice, vcA, ↓vcB, vcC, fbFe, e5, d0, d1]
    exact fun so => ⟨rfl, fun ti => ⟨ti, so, rfl, rfl⟩⟩
  refine GCalls.into (raw.mono ?_)
  rintro g O' ⟨ti, so, rfl, rfl⟩ E v w hs hv
  obtain ⟨p1, p2⟩ := hs.pick (X := gObj st s m ++ idO2 ti so n [] []) [0, 1, 3, 2] ⟨⟨_, rfl, .refl _⟩, ⟨_, rfl, .refl _⟩, ⟨_, rfl, OLe.row ⟨⟨GLe.refl _, GLe.none, GLe.none, GLe.map _ _ _, trivial⟩, trivial⟩⟩, ⟨_, rfl, .refl _⟩, trivial⟩ (by decide) rfl
  exact ⟨.tuple [.ptr 2 ti 0 0, .lit .nilIface], _, E, ⟨ti, so, rfl, rfl⟩, p1, p2, GLe.tuple (xs := [.ptr 3 ti 0 0, .lit .nilIface]) (ys := [.ptr 2 ti 0 0, .lit .nilIface]) ⟨GLe.ptr _ _ _ _ _, GLe.refl _, trivial⟩ _ _ hv⟩
section
variable {f : FuncId} {args args' : List GVal} {r : GVal} {ti so : Nat} {n : Int} {M O : List Hs}
theorem iAt2 (h : GCalls Try.prog f (.ptr 0 ti 0 0 :: args) (idO ti so n M O) (fun g O' => g = r ∧ O' = idO ti so n M O)) (g1 g2 : GObj) (h1 : g1.isClock = false) (X : List GObj) : GCalls Try.prog f (.ptr 2 ti 0 0 :: args) (g1 :: g2 :: (idO2 ti so n M O ++ X)) (fun g O' => g = r ∧ O' = g1 :: g2 :: (idO2 ti so n M O ++ X)) :=
  GCalls.readAt h [2, 3] ⟨⟨_, rfl, OLe.row ⟨⟨GLe.refl _, GLe.refl _, GLe.refl _, GLe.map _ _ _, trivial⟩, trivial⟩⟩, ⟨_, rfl, .refl _⟩, trivial⟩ ⟨⟨_, rfl, OLe.row ⟨⟨GLe.refl _, GLe.refl _, GLe.refl _, GLe.map _ _ _, trivial⟩, trivial⟩⟩, ⟨_, rfl, .refl _⟩, trivial⟩ (by decide) ⟨GLe.ptr _ _ _ _ _, GLes.refl _⟩ rfl (by cases g1 <;> first | rfl | cases h1)
end
end Gv.Try
/- The example of chapter 13. -/
set_option linter.unusedVariables false
set_option linter.unusedSimpArgs false
set_option maxRecDepth 20000
set_option maxHeartbeats 4000000
namespace Gv.Try
open Go Gv Go.Proofs
theorem iAdd (m M : GM) (hG : GOK m) (cs : List Cm) (e : Er) (he : addedE m cs = e) (hM : addedM m cs = M) (st s : Nat) (hc : cs.length ≤ 1000000) (hp : ∀ c ∈ cs, c.2.length ≤ 1000000) (X : List GObj) {args' : List GVal} (ha : GLes args' [.ptr 0 st 0 0, .slice (csG cs) .none]) :
    GCalls Try.prog 9 args' (gObj st s m ++ X) (fun g O' => ∃ s', g = errV e ∧ O' = gObj st s' M ++ X) := by
  refine (GCalls.on2 (R := fun g x' y' => g = errV (addedE m cs) ∧ ∃ s', x' = .row st 1 [[.map 1 s']] ∧ y' = .map s' (kvG encL (addedM m cs))) (gAdd m hG cs st s hc hp) (O := gObj st s m ++ X) 0 1 (by omega) rfl rfl (.refl _) ha rfl rfl (by rintro g x' y' ⟨_, s', rfl, rfl⟩; exact ⟨rfl, rfl⟩) rfl).mono ?_
  rintro g O' ⟨x', y', ⟨rfl, s', rfl, rfl⟩, rfl⟩
  exact ⟨s', by rw [he], by rw [hM]; rfl⟩
theorem iUpdT {m : GM} {ti st s so : Nat} {n : Int} {M O M1 O2 : List Hs} {args args' : List GVal} (h : GCalls Try.prog 10 args (gObj st s m ++ idO2 ti so n M O) (fun g O' => ∃ so', g = .lit .nilIface ∧ O' = gObj st s m ++ idO2 ti so' n M1 O2)) (ha : GLes args' args) (X : List GObj) :
    GCalls Try.prog 10 args' (gObj st s m ++ (idO2 ti so n M O ++ X)) (fun g O' => ∃ so', g = .lit .nilIface ∧ O' = gObj st s m ++ (idO2 ti so' n M1 O2 ++ X)) := by
  refine ((GCalls.args h ha).tail (by rintro g O' ⟨so', rfl, rfl⟩; exact ⟨rfl, by simp⟩) rfl (by simp) X).mono ?_
  rintro g O' ⟨O1, ⟨so', rfl, rfl⟩, rfl⟩
  exact ⟨so', rfl, rfl⟩
def iM : GM := [(q1, []), (q2, [q1])]
theorem iMok : joinedP 2 [] [(q1, []), (q2, [q1])] [] = .ok iM := by
  have h1 : sizesP 2 0 [(q1, []), (q2, [q1])] = none := by kernel_rfl
  have h2 : joinP [] [(q1, []), (q2, [q1])] = .ok iM := by kernel_rfl
  have h3 : lackP iM [(q1, []), (q2, [q1])] [] = none := by kernel_rfl
  have h4 : roundP [] iM [(q1, []), (q2, [q1])] = none := roundP_rank rkQ (by decide) (by decide)
  unfold joinedP
  simp only [List.length_nil, h1, h2, h3, h4]
  rfl
theorem iMgm : GMOK iM := ⟨by decide, by decide⟩
theorem iV1 : VisL iM (fun h => (look (ofM [] []) h).isSome) [q1, q2] ([], []) ([q1, q2], [q1, q2]) := by
  have e1 : parsM iM q1 = [] := by kernel_rfl
  have e2 : parsM iM q2 = [q1] := by kernel_rfl
  refine .go q1 [q2] ([], []) ([q1], []) _ (by kernel_rfl) (by rw [e1]; exact .nil _) ?_
  exact .go q2 [] ([q1], [q1]) ([q1, q2], [q1]) _ (by kernel_rfl) (by rw [e2]; exact .skip q1 [] _ _ (by kernel_rfl) (.nil _)) (.nil _)
theorem iV2 : VisL iM (masterB (ofM [] [q1, q2])) [q1] ([], []) ([q1], [q1]) := by
  have e1 : parsM iM q1 = [] := by kernel_rfl
  exact .go q1 [] ([], []) ([q1], []) _ (by kernel_rfl) (by rw [e1]; exact .nil _) (.nil _)
theorem iV3 : VisL iM (fun h => (look (ofM [q1] [q2]) h).isSome) [q1] ([], []) ([], []) := .skip q1 [] _ _ (by kernel_rfl) (.nil _)
theorem iKnown : GPure Try.prog 6 [] (.bool true) := by
  have cA := fun st s X => iAdd [] iM fourG [(q1, []), (q2, [q1])] none (by unfold addedE; rw [iMok]) (by unfold addedM; rw [iMok]) st s (by decide) (by decide) X (args' := [.ptr 0 st 0 0, .slice [bytesG q1.1 ++ [.slice [] .nil], bytesG q2.1 ++ [.slice [bytesG q1.1] .full]] .full]) ⟨GLe.refl _, GLe.trans GLe.none (GLe.slice ⟨GLes.app (GLes.refl _) ⟨GLe.none, trivial⟩, GLes.app (GLes.refl _) ⟨GLe.none, trivial⟩, trivial⟩), trivial⟩
  have cU1 := fun ti st s so X => iUpdT (args' := [.ptr 2 ti 0 0, .ptr 0 st 0 0, .agg [.slice [bytesG q1.1 ++ [.slice [] .nil], bytesG q2.1 ++ [.slice [bytesG q1.1] .full]] .full, .slice [] .nil, .int .i64 2]]) (iUpdate iM iMgm ti st s so [(q1, []), (q2, [q1])] [] .nil (fun _ => rfl) 2 5 [] [] [] [] (.inl ⟨by decide, rfl, rfl⟩) _ iV1 (by decide) (by decide) (by decide) (by decide) (by decide) (by decide)) ⟨GLe.refl _, GLe.refl _, GLe.agg ⟨GLe.trans GLe.none (GLe.slice ⟨GLes.app (GLes.refl _) ⟨GLe.none, trivial⟩, GLes.app (GLes.refl _) ⟨GLe.none, trivial⟩, trivial⟩), GLe.refl _, GLe.refl _, trivial⟩, trivial⟩ X
  have cU2 := fun ti st s so X => iUpdT (args' := [.ptr 2 ti 0 0, .ptr 0 st 0 0, .agg [.slice [] .nil, .slice [bytesG q1.1] .full, .int .i64 1]]) (iUpdate iM iMgm ti st s so [] [q1] .full (by simp) 1 5 [] [q1, q2] [q1] [q2] (.inr ⟨rfl, _, iV2, rfl, rfl, by decide, by decide⟩) _ iV3 (by decide) (by decide) (by decide) (by decide) (by decide) (by decide)) ⟨GLe.refl _, GLe.refl _, GLe.agg ⟨GLe.none, GLe.refl _, GLe.refl _, trivial⟩, trivial⟩ X
  have e1 : idV (ofM [q1] [q2]) q1 = .tuple [.int .i64 0, .bool true] := by kernel_rfl
  have e2 : idV (ofM [q1] [q2]) q2 = .tuple [.int .i64 1099511627776, .bool true] := by kernel_rfl
  have c1 := fun ti so g1 g2 hg X => iAt2 (iID ti so 5 [q1] [q2] q1) g1 g2 hg X
  have c2 := fun ti so g1 g2 hg X => iAt2 (iID ti so 5 [q1] [q2] q2) g1 g2 hg X
  rw [e1] at c1
  rw [e2] at c2
  have c3 := fun ti so g1 g2 hg X => iAt2 (args := []) (iMasters ti so 5 [q1] [q2]) g1 g2 hg X
  have c4 := fun ti so g1 g2 hg X => iAt2 (args := []) (iOthers ti so 5 [q1] [q2]) g1 g2 hg X
  refine GCalls.toPure ?_
  refine h6.calls mixS (by simp) ?_
  simp only [gstart, s6, List.cons_append, List.nil_append, List.length_cons, List.length_nil, Nat.reduceAdd, Nat.reduceSub, List.replicate_succ, List.replicate_zero]
  simp +contextual -implicitDefEqProofs (maxSteps := 2000000) (disch := omega) only [binV, ↓loadV, ↓storeV, ↓fieldAddrV, ↓allocV, ↓buildV, ↓buildSliceV, fillG, fillE, place, GVal.cells, grp, GVal.ofConst, ↓resV, resG, List.map, List.headD, List.take, List.drop, ↓reduceIte, Nat.reduceEqDiff, Nat.reduceAdd, Nat.reduceSub, Nat.reduceLeDiff, reduceCtorEq, implies_true, ne_eq, aggV, Tag.cap, List.replicate, allSolid, GVal.solid, Nat.reduceBEq, Nat.reduceMul, Nat.reduceLT, List.length_map, List.length_range, splice, vcA, ↓vcB, vcC, fbFe, e6]
  refine gNew.mono ?_
  rintro g O' ⟨st, s, rfl, rfl⟩
  simp +contextual -implicitDefEqProofs (maxSteps := 2000000) (disch := omega) only [binV, ↓loadV, ↓storeV, ↓fieldAddrV, ↓allocV, ↓buildV, ↓buildSliceV, fillG, fillE, place, GVal.cells, grp, GVal.ofConst, ↓resV, resG, List.map, List.headD, List.take, List.drop, ↓reduceIte, Nat.reduceEqDiff, Nat.reduceAdd, Nat.reduceSub, Nat.reduceLeDiff, reduceCtorEq, implies_true, ne_eq, aggV, Tag.cap, List.replicate, allSolid, GVal.solid, Nat.reduceBEq, Nat.reduceMul, Nat.reduceLT, List.length_map, List.length_range, splice, vcA, ↓vcB, vcC, fbFe, e6]
  refine (iNew2 [] st s 5 (by decide) (by decide)).mono ?_
  rintro g O' ⟨ti, so, rfl, rfl⟩
  simp +contextual -implicitDefEqProofs (maxSteps := 2000000) (disch := omega) only [binV, ↓loadV, ↓storeV, ↓fieldAddrV, ↓allocV, ↓buildV, ↓buildSliceV, fillG, fillE, place, GVal.cells, grp, GVal.ofConst, ↓resV, resG, List.map, List.headD, List.take, List.drop, ↓reduceIte, Nat.reduceEqDiff, Nat.reduceAdd, Nat.reduceSub, Nat.reduceLeDiff, reduceCtorEq, implies_true, ne_eq, aggV, Tag.cap, List.replicate, allSolid, GVal.solid, Nat.reduceBEq, Nat.reduceMul, Nat.reduceLT, List.length_map, List.length_range, splice, vcA, ↓vcB, vcC, fbFe, e6, qE1, qE2, qR1, qR2, len32, take32, take32a, drop32a, drop33a, take33a, len33, solid33, solidH, Try.underlying27]
  intro sr
  refine (cA st s _).mono ?_
  rintro g O' ⟨s', rfl, rfl⟩
  simp +contextual -implicitDefEqProofs (maxSteps := 2000000) (disch := omega) only [binV, ↓loadV, ↓storeV, ↓fieldAddrV, ↓allocV, ↓buildV, ↓buildSliceV, fillG, fillE, place, GVal.cells, grp, GVal.ofConst, ↓resV, resG, List.map, List.headD, List.take, List.drop, ↓reduceIte, Nat.reduceEqDiff, Nat.reduceAdd, Nat.reduceSub, Nat.reduceLeDiff, reduceCtorEq, implies_true, ne_eq, aggV, Tag.cap, List.replicate, allSolid, GVal.solid, Nat.reduceBEq, Nat.reduceMul, Nat.reduceLT, List.length_map, List.length_range, splice, vcA, ↓vcB, vcC, fbFe, e6, qE1, qE2, qR1, qR2, len32, take32, take32a, drop32a, drop33a, take33a, len33, solid33, solidH, errV, Try.underlying27]
  refine (cU1 ti st s' so _).mono ?_
  rintro g O' ⟨so2, rfl, rfl⟩
  simp +contextual -implicitDefEqProofs (maxSteps := 2000000) (disch := omega) only [binV, ↓loadV, ↓storeV, ↓fieldAddrV, ↓allocV, ↓buildV, ↓buildSliceV, fillG, fillE, place, GVal.cells, grp, GVal.ofConst, ↓resV, resG, List.map, List.headD, List.take, List.drop, ↓reduceIte, Nat.reduceEqDiff, Nat.reduceAdd, Nat.reduceSub, Nat.reduceLeDiff, reduceCtorEq, implies_true, ne_eq, aggV, Tag.cap, List.replicate, allSolid, GVal.solid, Nat.reduceBEq, Nat.reduceMul, Nat.reduceLT, List.length_map, List.length_range, splice, vcA, ↓vcB, vcC, fbFe, e6, qE1, qE2, qR1, qR2, len32, take32, take32a, drop32a, drop33a, take33a, len33, solid33, solidH, errV, Try.underlying27]
  refine (cU2 ti st s' so2 _).mono ?_
  rintro g O' ⟨so3, rfl, rfl⟩
  simp +contextual -implicitDefEqProofs (maxSteps := 2000000) (disch := omega) only [binV, ↓loadV, ↓storeV, ↓fieldAddrV, ↓allocV, ↓buildV, ↓buildSliceV, fillG, fillE, place, GVal.cells, grp, GVal.ofConst, ↓resV, resG, List.map, List.headD, List.take, List.drop, ↓reduceIte, Nat.reduceEqDiff, Nat.reduceAdd, Nat.reduceSub, Nat.reduceLeDiff, reduceCtorEq, implies_true, ne_eq, aggV, Tag.cap, List.replicate, allSolid, GVal.solid, Nat.reduceBEq, Nat.reduceMul, Nat.reduceLT, List.length_map, List.length_range, splice, vcA, ↓vcB, vcC, fbFe, e6, qE1, qE2, qR1, qR2, len32, take32, take32a, drop32a, drop33a, take33a, len33, solid33, solidH, errV, Try.underlying27]
  refine (c1 ti so3 _ _ rfl _).mono ?_
  rintro g O' ⟨rfl, rfl⟩
  simp +contextual -implicitDefEqProofs (maxSteps := 2000000) (disch := omega) only [binV, ↓loadV, ↓storeV, ↓fieldAddrV, ↓allocV, ↓buildV, ↓buildSliceV, fillG, fillE, place, GVal.cells, grp, GVal.ofConst, ↓resV, resG, List.map, List.headD, List.take, List.drop, ↓reduceIte, Nat.reduceEqDiff, Nat.reduceAdd, Nat.reduceSub, Nat.reduceLeDiff, reduceCtorEq, implies_true, ne_eq, aggV, Tag.cap, List.replicate, allSolid, GVal.solid, Nat.reduceBEq, Nat.reduceMul, Nat.reduceLT, List.length_map, List.length_range, splice, vcA, ↓vcB, vcC, fbFe, e6, qE1, qE2, qR1, qR2, len32, take32, take32a, drop32a, drop33a, take33a, len33, solid33, solidH]
  refine (c2 ti so3 _ _ rfl _).mono ?_
  rintro g O' ⟨rfl, rfl⟩
  simp +contextual -implicitDefEqProofs (maxSteps := 2000000) (disch := omega) only [binV, ↓loadV, ↓storeV, ↓fieldAddrV, ↓allocV, ↓buildV, ↓buildSliceV, fillG, fillE, place, GVal.cells, grp, GVal.ofConst, ↓resV, resG, List.map, List.headD, List.take, List.drop, ↓reduceIte, Nat.reduceEqDiff, Nat.reduceAdd, Nat.reduceSub, Nat.reduceLeDiff, reduceCtorEq, implies_true, ne_eq, aggV, Tag.cap, List.replicate, allSolid, GVal.solid, Nat.reduceBEq, Nat.reduceMul, Nat.reduceLT, List.length_map, List.length_range, splice, vcA, ↓vcB, vcC, fbFe, e6, qE1, qE2, qR1, qR2, len32, take32, take32a, drop32a, drop33a, take33a, len33, solid33, solidH]
  refine (c3 ti so3 _ _ rfl _).mono ?_
  rintro g O' ⟨rfl, rfl⟩
  simp +contextual -implicitDefEqProofs (maxSteps := 2000000) (disch := omega) only [binV, ↓loadV, ↓storeV, ↓fieldAddrV, ↓allocV, ↓buildV, ↓buildSliceV, fillG, fillE, place, GVal.cells, grp, GVal.ofConst, ↓resV, resG, List.map, List.headD, List.take, List.drop, ↓reduceIte, Nat.reduceEqDiff, Nat.reduceAdd, Nat.reduceSub, Nat.reduceLeDiff, reduceCtorEq, implies_true, ne_eq, aggV, Tag.cap, List.replicate, allSolid, GVal.solid, Nat.reduceBEq, Nat.reduceMul, Nat.reduceLT, List.length_map, List.length_range, splice, vcA, ↓vcB, vcC, fbFe, e6, qE1, qE2, qR1, qR2, len32, take32, take32a, drop32a, drop33a, take33a, len33, solid33, solidH]
  refine (c4 ti so3 _ _ rfl _).mono ?_
  rintro g O' ⟨rfl, rfl⟩
  simp +contextual -implicitDefEqProofs (maxSteps := 2000000) (disch := omega) only [binV, ↓loadV, ↓storeV, ↓fieldAddrV, ↓allocV, ↓buildV, ↓buildSliceV, fillG, fillE, place, GVal.cells, grp, GVal.ofConst, ↓resV, resG, List.map, List.headD, List.take, List.drop, ↓reduceIte, Nat.reduceEqDiff, Nat.reduceAdd, Nat.reduceSub, Nat.reduceLeDiff, reduceCtorEq, implies_true, ne_eq, aggV, Tag.cap, List.replicate, allSolid, GVal.solid, Nat.reduceBEq, Nat.reduceMul, Nat.reduceLT, List.length_map, List.length_range, splice, vcA, ↓vcB, vcC, fbFe, e6, qE1, qE2, qR1, qR2, len32, take32, take32a, drop32a, drop33a, take33a, len33, solid33, solidH]
  exact ⟨1, .bool true, rfl, by rw [leA_bool]⟩
end Gv.Try
/- Contracts: the law's hashes of numbers. -/
set_option linter.unusedVariables false
set_option linter.unusedSimpArgs false
set_option maxRecDepth 20000
set_option maxHeartbeats 4000000
namespace Gv.Try
open Go Gv Go.Proofs
noncomputable def hashF (n : Int) : Hs := Classical.choose (hHash n)
theorem hHashF (n : Int) : GPure Try.prog 22 [.int .i64 n] (.agg (bytesG (hashF n).1)) := Classical.choose_spec (hHash n)
end Gv.Try
/- Contracts: taproothand's ahead. -/
set_option linter.unusedVariables false
set_option linter.unusedSimpArgs false
set_option maxRecDepth 20000
set_option maxHeartbeats 4000000
namespace Gv.Try
open Go Gv Go.Proofs
theorem ints_snoc (l : List Int) (x : Int) : ints l ++ [[.int .i64 x]] = ints (l ++ [x]) := by simp [ints]
theorem ints_len (l : List Int) : (ints l).length = l.length := by simp [ints]
theorem all_ints (l : List Int) : (∀ x ∈ ints l, x.length = 1) = True := eq_true fun x hx => by obtain ⟨s, _, rfl⟩ := List.mem_map.1 hx; rfl
theorem frz_ints (O : List GObj) (n : Nat) (l : List Int) : frzLL (Gv.frz O (n + 1)) (ints l) = some (ints l) :=
  frzLL_same fun x hx => by
    obtain ⟨s, _, rfl⟩ := List.mem_map.1 hx
    exact frzL_same fun y hy => by rw [List.mem_singleton.1 hy]; simp only [Gv.frz]
theorem ints_at (l : List Int) (i : Nat) (h : i < l.length) : (ints l).getD i [] = [.int .i64 (l.getD i 0)] := by simp [ints, List.getD, h]
theorem nrm {x : Int} (h : -9223372036854775808 ≤ x) (k : x ≤ 9223372036854775807) : norm .i64 x = x := norm_i64 ⟨h, k⟩
def ahP (n : Int) (j : Nat) : Int := if n.tmod 7 = 2 then n.tdiv 2 else n - 1 - j * (2 + n.tmod 5)
def ahStep (n : Int) (l : List Int) (j : Nat) : List Int := if 0 ≤ ahP n j ∧ ahP n j < n ∧ (l = [] ∨ l.getD 0 0 ≠ ahP n j) then l ++ [ahP n j] else l
def ahL (n : Int) (k : Nat) : List Int := (List.range k).foldl (ahStep n) []
theorem ahL_succ (n : Int) (k : Nat) : ahL n (k + 1) = ahStep n (ahL n k) k := by simp [ahL, List.range_succ]
theorem ahL_len (n : Int) : ∀ k : Nat, (ahL n k).length ≤ k
  | 0 => by simp [ahL]
  | k + 1 => by
    rw [ahL_succ]
    have := ahL_len n k
    unfold ahStep
    split
    · rw [List.length_append, List.length_singleton]; omega
    · omega
def ahK (n : Int) : Nat := if n = 0 ∨ n.tmod 11 = 5 then 0 else if n.tmod 4 = 3 then 2 else 1
def aheadL (n : Int) : List Int := ahL n (ahK n)
theorem aheadL_len (n : Int) : (aheadL n).length ≤ 2 := by
  have := ahL_len n (ahK n)
  unfold aheadL
  have : ahK n ≤ 2 := by unfold ahK; split <;> (try split) <;> omega
  omega
theorem gAhead (n : Int) (h0 : 0 ≤ n) (h1 : n < 60) : GPure Try.prog 23 [.int .i64 n] (.slice (ints (aheadL n)) .none) := by
  have m5 := Int.tmod_nonneg 5 h0
  have m5' := Int.tmod_lt_of_pos n (by decide : (0 : Int) < 5)
  have q2 : 0 ≤ n.tdiv 2 := Int.tdiv_nonneg h0 (by decide)
  have q2' : n.tdiv 2 ≤ n := Int.tdiv_le_self 2 h0
  have hP : ∀ j : Nat, ahP n j = if n.tmod 7 = 2 then n.tdiv 2 else n - 1 - j * (2 + n.tmod 5) := fun j => rfl
  refine GCalls.toPure ?_
  by_cases e0 : n = 0
  · have d0 : (n = 0) = True := eq_true e0
    have ek : ahK n = 0 := by unfold ahK; rw [if_pos (.inl e0)]
    refine h23.calls mixS (by simp) ?_
    simp only [gstart, s23, List.cons_append, List.nil_append, List.length_cons, List.length_nil, Nat.reduceAdd, Nat.reduceSub, List.replicate_succ, List.replicate_zero]
    simp +contextual -implicitDefEqProofs (maxSteps := 2000000) (disch := omega) only [↓lenV, binV, optV, ↓loadV, ↓indexAddrV, ↓buildSliceV, ↓sliceV, ↓appendV, ↓srcV, bound, cutTag, hiTag, fillE, GVal.cells, grp, GVal.ofConst, ↓resV, resG, List.map, List.headD, List.take, List.drop, ↓reduceIte, Nat.reduceEqDiff, Nat.reduceAdd, Nat.reduceSub, Nat.reduceLeDiff, reduceCtorEq, implies_true, ne_eq, ↓asrcV, aggV, Tag.cap, List.replicate, allSolid, GVal.solid, Nat.reduceBEq, Nat.reduceMul, Nat.reduceLT, List.length_map, List.length_range, splice, vcA, ↓vcB, vcC, fbFe, e23, d0, not_true_eq_false, not_false_eq_true, false_imp_iff, true_imp_iff, and_true, true_and]
    refine vcSLoop_by (ι := Unit) (fun p => ⟨[.int .i64 n, .any, .any, .slice [] .nil, .int .i64 0, .int .i64 0] ++ List.replicate 55 .any, []⟩) (fun p => 0) ?_ ?_
    · exact Into.first () ⟨[], by simp⟩ (by simp [WL, leG_self, leG_any])
    · rintro ⟨⟩
      simp +contextual -implicitDefEqProofs (maxSteps := 2000000) (disch := omega) only [↓lenV, binV, optV, ↓loadV, ↓indexAddrV, ↓buildSliceV, ↓sliceV, ↓appendV, ↓srcV, bound, cutTag, hiTag, fillE, GVal.cells, grp, GVal.ofConst, ↓resV, resG, List.map, List.headD, List.take, List.drop, ↓reduceIte, Nat.reduceEqDiff, Nat.reduceAdd, Nat.reduceSub, Nat.reduceLeDiff, reduceCtorEq, implies_true, ne_eq, ↓asrcV, aggV, Tag.cap, List.replicate, allSolid, GVal.solid, Nat.reduceBEq, Nat.reduceMul, Nat.reduceLT, List.length_map, List.length_range, splice, vcA, ↓vcB, vcC, fbFe, e23, Int.lt_irrefl, false_imp_iff, true_and]
      exact ⟨2, .slice [] .nil, by rw [Gv.frz]; rfl, by rw [leA_slice]; unfold aheadL; rw [ek]; rfl⟩
  · have d0 : (n = 0) = False := eq_false e0
    by_cases e1 : n.tmod 11 = 5
    · have d1 : (n.tmod 11 = 5) = True := eq_true e1
      have ek : ahK n = 0 := by unfold ahK; rw [if_pos (.inr e1)]
      refine h23.calls mixS (by simp) ?_
      simp only [gstart, s23, List.cons_append, List.nil_append, List.length_cons, List.length_nil, Nat.reduceAdd, Nat.reduceSub, List.replicate_succ, List.replicate_zero]
      simp +contextual -implicitDefEqProofs (maxSteps := 2000000) (disch := omega) only [↓lenV, binV, optV, ↓loadV, ↓indexAddrV, ↓buildSliceV, ↓sliceV, ↓appendV, ↓srcV, bound, cutTag, hiTag, fillE, GVal.cells, grp, GVal.ofConst, ↓resV, resG, List.map, List.headD, List.take, List.drop, ↓reduceIte, Nat.reduceEqDiff, Nat.reduceAdd, Nat.reduceSub, Nat.reduceLeDiff, reduceCtorEq, implies_true, ne_eq, ↓asrcV, aggV, Tag.cap, List.replicate, allSolid, GVal.solid, Nat.reduceBEq, Nat.reduceMul, Nat.reduceLT, List.length_map, List.length_range, splice, vcA, ↓vcB, vcC, fbFe, e23, d0, d1, not_true_eq_false, not_false_eq_true, false_imp_iff, true_imp_iff, and_true, true_and]
      refine ⟨by decide, ?_⟩
      refine vcSLoop_by (ι := Unit) (fun p => ⟨[.int .i64 n, .any, .any, .slice [] .nil, .int .i64 0, .int .i64 0] ++ List.replicate 55 .any, []⟩) (fun p => 0) ?_ ?_
      · exact Into.first () ⟨[], by simp⟩ (by simp [WL, leG_self, leG_any])
      · rintro ⟨⟩
        simp +contextual -implicitDefEqProofs (maxSteps := 2000000) (disch := omega) only [↓lenV, binV, optV, ↓loadV, ↓indexAddrV, ↓buildSliceV, ↓sliceV, ↓appendV, ↓srcV, bound, cutTag, hiTag, fillE, GVal.cells, grp, GVal.ofConst, ↓resV, resG, List.map, List.headD, List.take, List.drop, ↓reduceIte, Nat.reduceEqDiff, Nat.reduceAdd, Nat.reduceSub, Nat.reduceLeDiff, reduceCtorEq, implies_true, ne_eq, ↓asrcV, aggV, Tag.cap, List.replicate, allSolid, GVal.solid, Nat.reduceBEq, Nat.reduceMul, Nat.reduceLT, List.length_map, List.length_range, splice, vcA, ↓vcB, vcC, fbFe, e23, Int.lt_irrefl, false_imp_iff, true_and]
        exact ⟨2, .slice [] .nil, by rw [Gv.frz]; rfl, by rw [leA_slice]; unfold aheadL; rw [ek]; rfl⟩
    · have d1 : (n.tmod 11 = 5) = False := eq_false e1
      by_cases e2 : n.tmod 4 = 3
      · have d2 : (n.tmod 4 = 3) = True := eq_true e2
        have ek : ahK n = 2 := by unfold ahK; rw [if_neg (by simp [e0, e1]), if_pos e2]
        refine h23.calls mixS (by simp) ?_
        simp only [gstart, s23, List.cons_append, List.nil_append, List.length_cons, List.length_nil, Nat.reduceAdd, Nat.reduceSub, List.replicate_succ, List.replicate_zero]
        simp +contextual -implicitDefEqProofs (maxSteps := 2000000) (disch := omega) only [↓lenV, binV, optV, ↓loadV, ↓indexAddrV, ↓buildSliceV, ↓sliceV, ↓appendV, ↓srcV, bound, cutTag, hiTag, fillE, GVal.cells, grp, GVal.ofConst, ↓resV, resG, List.map, List.headD, List.take, List.drop, ↓reduceIte, Nat.reduceEqDiff, Nat.reduceAdd, Nat.reduceSub, Nat.reduceLeDiff, reduceCtorEq, implies_true, ne_eq, ↓asrcV, aggV, Tag.cap, List.replicate, allSolid, GVal.solid, Nat.reduceBEq, Nat.reduceMul, Nat.reduceLT, List.length_map, List.length_range, splice, vcA, ↓vcB, vcC, fbFe, e23, d0, d1, d2, not_true_eq_false, not_false_eq_true, false_imp_iff, true_imp_iff, and_true, true_and]
        refine ⟨by decide, by decide, ?_⟩
        refine vcSLoop_by (ι := { p : Nat × Nat // p.1 ≤ 2 }) (fun p => ⟨[.int .i64 n, .any, .any, .slice (ints (ahL n p.1.1)) (.tok 0 p.1.2), .int .i64 2, .int .i64 (p.1.1 : Nat)] ++ List.replicate 55 .any, [.tok p.1.2 1]⟩) (fun p => 2 - p.1.1) ?_ ?_
        · refine Into.tok 3 1 [] rfl rfl ?_
          simp +contextual -implicitDefEqProofs (maxSteps := 2000000) (disch := omega) only [↓lenV, binV, optV, ↓loadV, ↓indexAddrV, ↓buildSliceV, ↓sliceV, ↓appendV, ↓srcV, bound, cutTag, hiTag, fillE, GVal.cells, grp, GVal.ofConst, ↓resV, resG, List.map, List.headD, List.take, List.drop, ↓reduceIte, Nat.reduceEqDiff, Nat.reduceAdd, Nat.reduceSub, Nat.reduceLeDiff, reduceCtorEq, implies_true, ne_eq, ↓asrcV, aggV, Tag.cap, List.replicate, allSolid, GVal.solid, Nat.reduceBEq, Nat.reduceMul, Nat.reduceLT, List.length_map, List.length_range, splice, vcA, ↓vcB, vcC, fbFe, e23]
          intro t0
          exact Into.first ⟨(0, t0), by show 0 ≤ 2; omega⟩ ⟨[], by simp⟩ (by simp [WL, leG_self, leG_any, ahL, ints])
        · rintro ⟨⟨j, v⟩, hj⟩
          change j ≤ 2 at hj
          have hll := ahL_len n j
          by_cases h : j < 2
          · have dj : ((j : Int) < 2) = True := eq_true (by omega)
            have j01 : (j : Int) = 0 ∨ (j : Int) = 1 := by omega
            have mj : (j : Int) * (2 + n.tmod 5) ≤ 12 ∧ 0 ≤ (j : Int) * (2 + n.tmod 5) := by rcases j01 with e | e <;> rw [e] <;> omega
            have nm1 : norm .i64 ((j : Int) * (2 + n.tmod 5)) = (j : Int) * (2 + n.tmod 5) := nrm (by omega) (by omega)
            have nm2 : norm .i64 (n - 1 - (j : Int) * (2 + n.tmod 5)) = n - 1 - (j : Int) * (2 + n.tmod 5) := nrm (by omega) (by omega)
            simp +contextual -implicitDefEqProofs (maxSteps := 2000000) (disch := omega) only [↓lenV, binV, optV, ↓loadV, ↓indexAddrV, ↓buildSliceV, ↓sliceV, ↓appendV, ↓srcV, bound, cutTag, hiTag, fillE, GVal.cells, grp, GVal.ofConst, ↓resV, resG, List.map, List.headD, List.take, List.drop, ↓reduceIte, Nat.reduceEqDiff, Nat.reduceAdd, Nat.reduceSub, Nat.reduceLeDiff, reduceCtorEq, implies_true, ne_eq, ↓asrcV, aggV, Tag.cap, List.replicate, allSolid, GVal.solid, Nat.reduceBEq, Nat.reduceMul, Nat.reduceLT, List.length_map, List.length_range, splice, vcA, ↓vcB, vcC, fbFe, e23, dj, nm1, nm2]
            exact ⟨by decide, by decide, fun e7 => ⟨by decide, fun c1 => ⟨fun c2 => ⟨fun c3 => ⟨by omega, by omega, fun st => by
                        have hE : ahL n (j + 1) = ahL n j ++ [n.tdiv 2] := by rw [ahL_succ]; unfold ahStep; rw [hP, if_pos e7]; exact if_pos ⟨c1, c2, .inl (List.length_eq_zero_iff.1 (by omega))⟩
                        exact Into.at ⟨(j + 1, st), by show j + 1 ≤ 2; omega⟩ (by show 2 - (j + 1) < 2 - j; omega) ⟨[], by simp⟩ (by simp [WL, leG_self, leG_any, leG_int, hE, ints_snoc])⟩, fun c3 => ⟨by omega, by omega, fun c4 => ⟨by omega, by omega, fun st => by
                        have hE : ahL n (j + 1) = ahL n j ++ [n.tdiv 2] := by rw [ahL_succ]; unfold ahStep; rw [hP, if_pos e7]; exact if_pos ⟨c1, c2, .inr c4⟩
                        exact Into.at ⟨(j + 1, st), by show j + 1 ≤ 2; omega⟩ (by show 2 - (j + 1) < 2 - j; omega) ⟨[], by simp⟩ (by simp [WL, leG_self, leG_any, leG_int, hE, ints_snoc])⟩, fun c4 => by
                        have hE : ahL n (j + 1) = ahL n j := by rw [ahL_succ]; unfold ahStep; rw [hP, if_pos e7]; exact if_neg (by rintro ⟨_, _, q | q⟩; exact c3 (by rw [q]; rfl); exact q c4)
                        exact Into.at ⟨(j + 1, v), by show j + 1 ≤ 2; omega⟩ (by show 2 - (j + 1) < 2 - j; omega) ⟨[], by simp⟩ (by simp [WL, leG_self, leG_any, leG_int, hE, ints_snoc])⟩⟩, fun c2 => by
                        have hE : ahL n (j + 1) = ahL n j := by rw [ahL_succ]; unfold ahStep; rw [hP, if_pos e7]; exact if_neg (fun q => by omega)
                        exact Into.at ⟨(j + 1, v), by show j + 1 ≤ 2; omega⟩ (by show 2 - (j + 1) < 2 - j; omega) ⟨[], by simp⟩ (by simp [WL, leG_self, leG_any, leG_int, hE, ints_snoc])⟩, fun c1 => by
                        have hE : ahL n (j + 1) = ahL n j := by rw [ahL_succ]; unfold ahStep; rw [hP, if_pos e7]; exact if_neg (fun q => by omega)
                        exact Into.at ⟨(j + 1, v), by show j + 1 ≤ 2; omega⟩ (by show 2 - (j + 1) < 2 - j; omega) ⟨[], by simp⟩ (by simp [WL, leG_self, leG_any, leG_int, hE, ints_snoc])⟩, fun e7 => ⟨fun c1 => ⟨fun c2 => ⟨fun c3 => ⟨by omega, by omega, fun st => by
                        have hE : ahL n (j + 1) = ahL n j ++ [(n - 1 - (j : Int) * (2 + n.tmod 5))] := by rw [ahL_succ]; unfold ahStep; rw [hP, if_neg e7]; exact if_pos ⟨c1, c2, .inl (List.length_eq_zero_iff.1 (by omega))⟩
                        exact Into.at ⟨(j + 1, st), by show j + 1 ≤ 2; omega⟩ (by show 2 - (j + 1) < 2 - j; omega) ⟨[], by simp⟩ (by simp [WL, leG_self, leG_any, leG_int, hE, ints_snoc])⟩, fun c3 => ⟨by omega, by omega, fun c4 => ⟨by omega, by omega, fun st => by
                        have hE : ahL n (j + 1) = ahL n j ++ [(n - 1 - (j : Int) * (2 + n.tmod 5))] := by rw [ahL_succ]; unfold ahStep; rw [hP, if_neg e7]; exact if_pos ⟨c1, c2, .inr c4⟩
                        exact Into.at ⟨(j + 1, st), by show j + 1 ≤ 2; omega⟩ (by show 2 - (j + 1) < 2 - j; omega) ⟨[], by simp⟩ (by simp [WL, leG_self, leG_any, leG_int, hE, ints_snoc])⟩, fun c4 => by
                        have hE : ahL n (j + 1) = ahL n j := by rw [ahL_succ]; unfold ahStep; rw [hP, if_neg e7]; exact if_neg (by rintro ⟨_, _, q | q⟩; exact c3 (by rw [q]; rfl); exact q c4)
                        exact Into.at ⟨(j + 1, v), by show j + 1 ≤ 2; omega⟩ (by show 2 - (j + 1) < 2 - j; omega) ⟨[], by simp⟩ (by simp [WL, leG_self, leG_any, leG_int, hE, ints_snoc])⟩⟩, fun c2 => by
                        have hE : ahL n (j + 1) = ahL n j := by rw [ahL_succ]; unfold ahStep; rw [hP, if_neg e7]; exact if_neg (fun q => by omega)
                        exact Into.at ⟨(j + 1, v), by show j + 1 ≤ 2; omega⟩ (by show 2 - (j + 1) < 2 - j; omega) ⟨[], by simp⟩ (by simp [WL, leG_self, leG_any, leG_int, hE, ints_snoc])⟩, fun c1 => by
                        have hE : ahL n (j + 1) = ahL n j := by rw [ahL_succ]; unfold ahStep; rw [hP, if_neg e7]; exact if_neg (fun q => by omega)
                        exact Into.at ⟨(j + 1, v), by show j + 1 ≤ 2; omega⟩ (by show 2 - (j + 1) < 2 - j; omega) ⟨[], by simp⟩ (by simp [WL, leG_self, leG_any, leG_int, hE, ints_snoc])⟩⟩
          · have dj : ((j : Int) < 2) = False := eq_false (by omega)
            have e : ahL n j = ahL n 2 := by rw [show j = 2 by omega]
            simp +contextual -implicitDefEqProofs (maxSteps := 2000000) (disch := omega) only [↓lenV, binV, optV, ↓loadV, ↓indexAddrV, ↓buildSliceV, ↓sliceV, ↓appendV, ↓srcV, bound, cutTag, hiTag, fillE, GVal.cells, grp, GVal.ofConst, ↓resV, resG, List.map, List.headD, List.take, List.drop, ↓reduceIte, Nat.reduceEqDiff, Nat.reduceAdd, Nat.reduceSub, Nat.reduceLeDiff, reduceCtorEq, implies_true, ne_eq, ↓asrcV, aggV, Tag.cap, List.replicate, allSolid, GVal.solid, Nat.reduceBEq, Nat.reduceMul, Nat.reduceLT, List.length_map, List.length_range, splice, vcA, ↓vcB, vcC, fbFe, e23, dj, e]
            exact ⟨2, .slice (ints (ahL n 2)) (Tag.frz (.tok 0 v)), by rw [Gv.frz, frz_ints], by rw [leA_slice]; unfold aheadL; rw [ek]⟩
      · have d2 : (n.tmod 4 = 3) = False := eq_false e2
        have ek : ahK n = 1 := by unfold ahK; rw [if_neg (by simp [e0, e1]), if_neg e2]
        refine h23.calls mixS (by simp) ?_
        simp only [gstart, s23, List.cons_append, List.nil_append, List.length_cons, List.length_nil, Nat.reduceAdd, Nat.reduceSub, List.replicate_succ, List.replicate_zero]
        simp +contextual -implicitDefEqProofs (maxSteps := 2000000) (disch := omega) only [↓lenV, binV, optV, ↓loadV, ↓indexAddrV, ↓buildSliceV, ↓sliceV, ↓appendV, ↓srcV, bound, cutTag, hiTag, fillE, GVal.cells, grp, GVal.ofConst, ↓resV, resG, List.map, List.headD, List.take, List.drop, ↓reduceIte, Nat.reduceEqDiff, Nat.reduceAdd, Nat.reduceSub, Nat.reduceLeDiff, reduceCtorEq, implies_true, ne_eq, ↓asrcV, aggV, Tag.cap, List.replicate, allSolid, GVal.solid, Nat.reduceBEq, Nat.reduceMul, Nat.reduceLT, List.length_map, List.length_range, splice, vcA, ↓vcB, vcC, fbFe, e23, d0, d1, d2, not_true_eq_false, not_false_eq_true, false_imp_iff, true_imp_iff, and_true, true_and]
        refine ⟨by decide, by decide, ?_⟩
        refine vcSLoop_by (ι := { p : Nat × Nat // p.1 ≤ 1 }) (fun p => ⟨[.int .i64 n, .any, .any, .slice (ints (ahL n p.1.1)) (.tok 0 p.1.2), .int .i64 1, .int .i64 (p.1.1 : Nat)] ++ List.replicate 55 .any, [.tok p.1.2 1]⟩) (fun p => 1 - p.1.1) ?_ ?_
        · refine Into.tok 3 1 [] rfl rfl ?_
          simp +contextual -implicitDefEqProofs (maxSteps := 2000000) (disch := omega) only [↓lenV, binV, optV, ↓loadV, ↓indexAddrV, ↓buildSliceV, ↓sliceV, ↓appendV, ↓srcV, bound, cutTag, hiTag, fillE, GVal.cells, grp, GVal.ofConst, ↓resV, resG, List.map, List.headD, List.take, List.drop, ↓reduceIte, Nat.reduceEqDiff, Nat.reduceAdd, Nat.reduceSub, Nat.reduceLeDiff, reduceCtorEq, implies_true, ne_eq, ↓asrcV, aggV, Tag.cap, List.replicate, allSolid, GVal.solid, Nat.reduceBEq, Nat.reduceMul, Nat.reduceLT, List.length_map, List.length_range, splice, vcA, ↓vcB, vcC, fbFe, e23]
          intro t0
          exact Into.first ⟨(0, t0), by show 0 ≤ 1; omega⟩ ⟨[], by simp⟩ (by simp [WL, leG_self, leG_any, ahL, ints])
        · rintro ⟨⟨j, v⟩, hj⟩
          change j ≤ 1 at hj
          have hll := ahL_len n j
          by_cases h : j < 1
          · have dj : ((j : Int) < 1) = True := eq_true (by omega)
            have j01 : (j : Int) = 0 ∨ (j : Int) = 1 := by omega
            have mj : (j : Int) * (2 + n.tmod 5) ≤ 12 ∧ 0 ≤ (j : Int) * (2 + n.tmod 5) := by rcases j01 with e | e <;> rw [e] <;> omega
            have nm1 : norm .i64 ((j : Int) * (2 + n.tmod 5)) = (j : Int) * (2 + n.tmod 5) := nrm (by omega) (by omega)
            have nm2 : norm .i64 (n - 1 - (j : Int) * (2 + n.tmod 5)) = n - 1 - (j : Int) * (2 + n.tmod 5) := nrm (by omega) (by omega)
            simp +contextual -implicitDefEqProofs (maxSteps := 2000000) (disch := omega) only [↓lenV, binV, optV, ↓loadV, ↓indexAddrV, ↓buildSliceV, ↓sliceV, ↓appendV, ↓srcV, bound, cutTag, hiTag, fillE, GVal.cells, grp, GVal.ofConst, ↓resV, resG, List.map, List.headD, List.take, List.drop, ↓reduceIte, Nat.reduceEqDiff, Nat.reduceAdd, Nat.reduceSub, Nat.reduceLeDiff, reduceCtorEq, implies_true, ne_eq, ↓asrcV, aggV, Tag.cap, List.replicate, allSolid, GVal.solid, Nat.reduceBEq, Nat.reduceMul, Nat.reduceLT, List.length_map, List.length_range, splice, vcA, ↓vcB, vcC, fbFe, e23, dj, nm1, nm2]
            exact ⟨by decide, by decide, fun e7 => ⟨by decide, fun c1 => ⟨fun c2 => ⟨fun c3 => ⟨by omega, by omega, fun st => by
                        have hE : ahL n (j + 1) = ahL n j ++ [n.tdiv 2] := by rw [ahL_succ]; unfold ahStep; rw [hP, if_pos e7]; exact if_pos ⟨c1, c2, .inl (List.length_eq_zero_iff.1 (by omega))⟩
                        exact Into.at ⟨(j + 1, st), by show j + 1 ≤ 1; omega⟩ (by show 1 - (j + 1) < 1 - j; omega) ⟨[], by simp⟩ (by simp [WL, leG_self, leG_any, leG_int, hE, ints_snoc])⟩, fun c3 => (c3 (by omega)).elim⟩, fun c2 => by
                        have hE : ahL n (j + 1) = ahL n j := by rw [ahL_succ]; unfold ahStep; rw [hP, if_pos e7]; exact if_neg (fun q => by omega)
                        exact Into.at ⟨(j + 1, v), by show j + 1 ≤ 1; omega⟩ (by show 1 - (j + 1) < 1 - j; omega) ⟨[], by simp⟩ (by simp [WL, leG_self, leG_any, leG_int, hE, ints_snoc])⟩, fun c1 => by
                        have hE : ahL n (j + 1) = ahL n j := by rw [ahL_succ]; unfold ahStep; rw [hP, if_pos e7]; exact if_neg (fun q => by omega)
                        exact Into.at ⟨(j + 1, v), by show j + 1 ≤ 1; omega⟩ (by show 1 - (j + 1) < 1 - j; omega) ⟨[], by simp⟩ (by simp [WL, leG_self, leG_any, leG_int, hE, ints_snoc])⟩, fun e7 => ⟨fun c1 => ⟨fun c2 => ⟨fun c3 => ⟨by omega, by omega, fun st => by
                        have hE : ahL n (j + 1) = ahL n j ++ [(n - 1 - (j : Int) * (2 + n.tmod 5))] := by rw [ahL_succ]; unfold ahStep; rw [hP, if_neg e7]; exact if_pos ⟨c1, c2, .inl (List.length_eq_zero_iff.1 (by omega))⟩
                        exact Into.at ⟨(j + 1, st), by show j + 1 ≤ 1; omega⟩ (by show 1 - (j + 1) < 1 - j; omega) ⟨[], by simp⟩ (by simp [WL, leG_self, leG_any, leG_int, hE, ints_snoc])⟩, fun c3 => (c3 (by omega)).elim⟩, fun c2 => by
                        have hE : ahL n (j + 1) = ahL n j := by rw [ahL_succ]; unfold ahStep; rw [hP, if_neg e7]; exact if_neg (fun q => by omega)
                        exact Into.at ⟨(j + 1, v), by show j + 1 ≤ 1; omega⟩ (by show 1 - (j + 1) < 1 - j; omega) ⟨[], by simp⟩ (by simp [WL, leG_self, leG_any, leG_int, hE, ints_snoc])⟩, fun c1 => by
                        have hE : ahL n (j + 1) = ahL n j := by rw [ahL_succ]; unfold ahStep; rw [hP, if_neg e7]; exact if_neg (fun q => by omega)
                        exact Into.at ⟨(j + 1, v), by show j + 1 ≤ 1; omega⟩ (by show 1 - (j + 1) < 1 - j; omega) ⟨[], by simp⟩ (by simp [WL, leG_self, leG_any, leG_int, hE, ints_snoc])⟩⟩
          · have dj : ((j : Int) < 1) = False := eq_false (by omega)
            have e : ahL n j = ahL n 1 := by rw [show j = 1 by omega]
            simp +contextual -implicitDefEqProofs (maxSteps := 2000000) (disch := omega) only [↓lenV, binV, optV, ↓loadV, ↓indexAddrV, ↓buildSliceV, ↓sliceV, ↓appendV, ↓srcV, bound, cutTag, hiTag, fillE, GVal.cells, grp, GVal.ofConst, ↓resV, resG, List.map, List.headD, List.take, List.drop, ↓reduceIte, Nat.reduceEqDiff, Nat.reduceAdd, Nat.reduceSub, Nat.reduceLeDiff, reduceCtorEq, implies_true, ne_eq, ↓asrcV, aggV, Tag.cap, List.replicate, allSolid, GVal.solid, Nat.reduceBEq, Nat.reduceMul, Nat.reduceLT, List.length_map, List.length_range, splice, vcA, ↓vcB, vcC, fbFe, e23, dj, e]
            exact ⟨2, .slice (ints (ahL n 1)) (Tag.frz (.tok 0 v)), by rw [Gv.frz, frz_ints], by rw [leA_slice]; unfold aheadL; rw [ek]⟩
end Gv.Try
/- Less is said of a row that the call owns. -/
set_option linter.unusedVariables false
namespace Gv
open Go
theorem Into.rowLe {st : GSt} {N : GSt → Prop} (i : Nat) {t sz : Nat} (xs ys : List (List GVal)) (hO : st.o[i]? = some (.row t sz xs)) (hw : GLess xs ys) (h : Into ⟨st.s, st.o.set i (.row t sz ys)⟩ N) : Into st N := by
  intro E a w hs' ha
  obtain ⟨h1, h2, h3⟩ := hw.flat
  obtain ⟨l, _, _, hz, _⟩ := hs'.real i _ hO
  obtain ⟨q1, q2⟩ := hs'.cells hO (ys := ys) h2.symm (fun y hy => h3 sz hz y hy) (fun j g' hj => by
    obtain ⟨g, hg, hl⟩ := h1.at_ j g' hj
    exact ⟨g, hg, fun v hv => hl _ _ hv⟩)
  obtain ⟨st', E', r1, r2, r3, r4⟩ := h E a w q1 ha
  exact ⟨st', E', r1, r2, q2.trans r3, r4⟩
end Gv
namespace Gv
open Go
end Gv
