/- Hashes in order, each once: the plain theory. -/
import Derived.Test.YtppbonmfhgikhaaP9
import Derived.Test.YtppbonmfhgikhaaP7
set_option linter.unusedVariables false
namespace Gv.Try
open Go Gv Go.Proofs
abbrev LT (a b : Hs) : Prop := ltB a.1 b.1 = true
abbrev SS (l : List Hs) : Prop := l.Pairwise LT
theorem LT.trans {a b c : Hs} (h : LT a b) (k : LT b c) : LT a c := ltB_trans (by rw [a.2, b.2]) (by rw [b.2, c.2]) h k
theorem LT.irrefl (a : Hs) : ¬ LT a a := by unfold LT; rw [ltB_irrefl]; simp
theorem LT.total {a b : Hs} (h : ltB a.1 b.1 = false) (n : a ≠ b) : LT b a := by
  cases e : ltB b.1 a.1 with
  | true => exact e
  | false => exact absurd (Subtype.ext (ltB_total (by rw [a.2, b.2]) h e)) n
theorem putH_nil (h : Hs) : putH [] h = [h] := by simp [putH]
theorem putH_cons (x : Hs) (r : List Hs) (h : Hs) : putH (x :: r) h = if LT x h then x :: putH r h else if x = h then x :: r else h :: x :: r := by
  unfold putH
  rw [idxH_cons]
  by_cases c : LT x h
  · rw [if_pos c, if_pos c]
    simp only [List.length_cons, List.getD_cons_succ, Nat.add_lt_add_iff_right, List.take_succ_cons, List.drop_succ_cons, List.cons_append]
    split <;> rfl
  · rw [if_neg c, if_neg c]
    simp
theorem putH_mem : ∀ (l : List Hs) (h z : Hs), z ∈ putH l h ↔ z ∈ l ∨ z = h
  | [], h, z => by rw [putH_nil]; simp
  | x :: r, h, z => by
    rw [putH_cons]
    have := putH_mem r h z
    split
    · simp only [List.mem_cons, this, or_assoc]
    · split
      · rename_i e; subst e; simp only [List.mem_cons]
        constructor
        · exact .inl
        · rintro (h | h)
          · exact h
          · exact .inl h
      · simp only [List.mem_cons]
        constructor
        · rintro (h | h)
          · exact .inr h
          · exact .inl h
        · rintro (h | h)
          · exact .inr h
          · exact .inl h
theorem putH_ss : ∀ {l : List Hs} (h : Hs), SS l → SS (putH l h)
  | [], h, _ => by rw [putH_nil]; simp [SS]
  | x :: r, h, hs => by
    rw [putH_cons]
    obtain ⟨h1, h2⟩ := List.pairwise_cons.1 hs
    split
    · rename_i c
      refine List.pairwise_cons.2 ⟨fun z hz => ?_, putH_ss h h2⟩
      rcases (putH_mem r h z).1 hz with h3 | rfl
      · exact h1 z h3
      · exact c
    · rename_i c
      split
      · exact hs
      · rename_i n
        have c' : ltB x.1 h.1 = false := by cases e : ltB x.1 h.1 with | true => exact absurd e c | false => rfl
        have hx := LT.total c' n
        refine List.pairwise_cons.2 ⟨fun z hz => ?_, hs⟩
        rcases List.mem_cons.1 hz with rfl | h3
        · exact hx
        · exact hx.trans (h1 z h3)
theorem foldl_put : ∀ (l acc : List Hs), SS acc → SS (l.foldl putH acc) ∧ ∀ z, z ∈ l.foldl putH acc ↔ z ∈ l ∨ z ∈ acc
  | [], acc, h => ⟨h, by simp⟩
  | x :: r, acc, h => by
    obtain ⟨h1, h2⟩ := foldl_put r (putH acc x) (putH_ss x h)
    refine ⟨h1, fun z => ?_⟩
    rw [List.foldl_cons, h2, putH_mem, List.mem_cons]
    constructor
    · rintro (h | h | h)
      · exact .inl (.inr h)
      · exact .inr h
      · exact .inl (.inl h)
    · rintro ((h | h) | h)
      · exact .inr (.inr h)
      · exact .inl h
      · exact .inr (.inl h)
theorem sortR_ss (l : List Hs) : SS (sortR l) := (foldl_put l [] List.Pairwise.nil).1
theorem sortR_mem (l : List Hs) (z : Hs) : z ∈ sortR l ↔ z ∈ l := by
  have := (foldl_put l [] List.Pairwise.nil).2 z
  simpa [sortR] using this
theorem ss_eq : ∀ {a b : List Hs}, SS a → SS b → (∀ z, z ∈ a ↔ z ∈ b) → a = b
  | [], b, _, _, h => by
    cases b with
    | nil => rfl
    | cons y s => exact absurd ((h y).2 (by simp)) (by simp)
  | x :: r, [], _, _, h => absurd ((h x).1 (by simp)) (by simp)
  | x :: r, y :: s, ha, hb, h => by
    obtain ⟨a1, a2⟩ := List.pairwise_cons.1 ha
    obtain ⟨b1, b2⟩ := List.pairwise_cons.1 hb
    have e : x = y := by
      rcases List.mem_cons.1 ((h x).1 (by simp)) with e | hx
      · exact e
      · rcases List.mem_cons.1 ((h y).2 (by simp)) with e | hy
        · exact e.symm
        · exact absurd ((b1 x hx).trans (a1 y hy)) (LT.irrefl y)
    subst e
    refine congrArg (x :: ·) (ss_eq a2 b2 fun z => ⟨fun hz => ?_, fun hz => ?_⟩)
    · rcases List.mem_cons.1 ((h z).1 (List.mem_cons_of_mem _ hz)) with rfl | h3
      · exact absurd (a1 z hz) (LT.irrefl z)
      · exact h3
    · rcases List.mem_cons.1 ((h z).2 (List.mem_cons_of_mem _ hz)) with rfl | h3
      · exact absurd (b1 z hz) (LT.irrefl z)
      · exact h3
def ddT : Hs → List Hs → List Hs
  | _, [] => []
  | x, y :: r => if y = x then ddT y r else y :: ddT y r
theorem ddT_cons (x y : Hs) (r : List Hs) : ddT x (y :: r) = if y = x then ddT y r else y :: ddT y r := rfl
def dd : List Hs → List Hs
  | [] => []
  | x :: r => x :: ddT x r
abbrev WS (l : List Hs) : Prop := l.Pairwise (fun a b => ltB b.1 a.1 = false)
theorem ddT_ss : ∀ (x : Hs) (r : List Hs), WS (x :: r) → SS (x :: ddT x r) ∧ ∀ z, z ∈ x :: ddT x r ↔ z ∈ x :: r
  | x, [], _ => ⟨by simp [ddT, SS], by simp [ddT]⟩
  | x, y :: r, h => by
    obtain ⟨h1, h2⟩ := List.pairwise_cons.1 h
    obtain ⟨i1, i2⟩ := ddT_ss y r h2
    rw [ddT_cons]
    split
    · rename_i e; subst e
      refine ⟨i1, fun z => ?_⟩
      rw [i2]; simp
    · rename_i n
      have hxy : LT x y := LT.total (h1 y (by simp)) n
      refine ⟨List.pairwise_cons.2 ⟨fun z hz => ?_, i1⟩, fun z => ?_⟩
      · rcases List.mem_cons.1 hz with rfl | h3
        · exact hxy
        · exact hxy.trans ((List.pairwise_cons.1 i1).1 z h3)
      · rw [List.mem_cons, i2, List.mem_cons (a := z) (b := x)]
theorem dd_sortR {ys l : List Hs} (hp : ys.Perm l) (hw : WS ys) : dd ys = sortR l := by
  refine ss_eq ?_ (sortR_ss l) fun z => ?_
  · cases ys with
    | nil => exact List.Pairwise.nil
    | cons x r => exact (ddT_ss x r hw).1
  · rw [sortR_mem, ← hp.mem_iff]
    cases ys with
    | nil => rfl
    | cons x r => exact (ddT_ss x r hw).2 z
end Gv.Try
/- Contracts: Clone, Compact, hex.Sort. -/
set_option linter.unusedVariables false
set_option linter.unusedSimpArgs false
set_option maxRecDepth 20000
set_option maxHeartbeats 4000000
namespace Gv.Try
open Go Gv Go.Proofs
theorem hClone (l : List Hs) (t : Tag) (hl : l.length ≤ 4398046511104) (ht : t = .nil → l = []) : GCalls Try.prog 22 [.slice (hsG l) t] [] (fun g O' => (l = [] ∧ g = .slice [] .nil ∧ O' = []) ∨ ∃ st, g = .own 0 st 0 l.length ∧ O' = [.row st 32 (hsG l)]) := by
  refine h22.calls mixS (by simp) ?_
  simp only [gstart, s22, List.cons_append, List.nil_append, List.length_cons, List.length_nil, Nat.reduceAdd, Nat.reduceSub, List.replicate_succ, List.replicate_zero]
  simp +contextual -implicitDefEqProofs (maxSteps := 2000000) (disch := omega) only [binV, optV, ↓buildSliceV, ↓sliceV, ↓appendV, ↓srcV, bound, cutTag, hiTag, fillE, GVal.cells, grp, GVal.ofConst, ↓resV, resG, List.map, List.headD, List.take, List.drop, ↓reduceIte, Nat.reduceEqDiff, Nat.reduceAdd, Nat.reduceSub, Nat.reduceLeDiff, reduceCtorEq, implies_true, ne_eq, ↓asrcV, aggV, Tag.cap, List.replicate, allSolid, GVal.solid, Nat.reduceBEq, Nat.reduceMul, Nat.reduceLT, List.length_map, List.length_range, splice, vcA, ↓vcB, vcC, els36, elt36, notInt3, notInt36, notInt5, tab3, tab5, und3, und36, und4, und5, e22, hsG_len, all_hsG]
  refine ⟨fun h => .inl (ht h), fun _ => ⟨fun h => ?_, fun h => ⟨by omega, by omega, by simp, fun st => .inr ⟨st, rfl, rfl⟩⟩⟩⟩
  have h0 : l = [] := by
    cases l with
    | nil => rfl
    | cons a r => simp [hsG] at h
  exact ⟨.inl h0, .inr trivial, fun st => .inr ⟨st, by rw [h0]; rfl, rfl⟩⟩
theorem hSortNil {st : Nat} : GCalls Try.prog 23 [.own 0 st 0 0, .func (.func 24) [] []] [.row st 32 []] (fun r O' => r = .tuple [] ∧ O' = [.row st 32 []]) := by
  refine (sSort [] (by simp) (O := [.row st 32 []]) (o := 0) rfl rfl).mono ?_
  rintro g O' ⟨rfl, ys, h1, h2, rfl⟩
  rw [h1.eq_nil]; exact ⟨rfl, rfl⟩
theorem GCalls.nilArg {P : Program} {f : FuncId} {rest : List GVal} {sz : Nat} {K : GVal → List GObj → Prop} (h : ∀ t, GCalls P f (.own 0 t 0 0 :: rest) [.row t sz []] K) : GCalls P f (.slice [] .nil :: rest) [] K := by
  refine ⟨(h 0).1, fun E w vs hs ha => ?_⟩
  obtain ⟨t, hk, ht, hnx, hs, hkeep⟩ := hs.stamp (K := fun t => GCalls P f (.own 0 t 0 0 :: rest) [.row t sz []] K) (show Gv.stamp [] _ from h)
  obtain ⟨h1, h2⟩ := hs.objNil (.row t sz []) (l := ⟨none, 0, sz, 0⟩) ht hnx rfl ⟨_, Env.addLoc_self _ _ _, rfl, by simp, rfl⟩ (by simp [GObj.blk, Env.addLoc_self])
  have ha' : ArgsR (E.addLoc t ⟨none, 0, sz, 0⟩) vs (.own 0 t 0 0 :: rest) := by
    refine ⟨by rw [ha.1]; simp, fun k g hg => ?_⟩
    cases k with
    | zero =>
      simp at hg; subst hg
      have := ha.2 0 _ rfl
      revert this
      generalize vs.getD 0 undef = tv
      intro this
      cases this with
      | slice a len cap xs tag sz c hlen hcap hsz ha hc htag =>
        obtain ⟨_, h1⟩ := htag
        have h0 : len = 0 := by simpa using hlen
        subst h0
        exact .own a 0 cap _ t 0 _ (Env.addLoc_self _ _ _) (Nat.zero_le _) (.inl h1)
    | succ k => exact (ha.2 (k + 1) g (by simpa using hg)).mono h2.ext
  refine (hk.2 _ w vs h1 ha').mono ?_
  rintro e w' ⟨v, E', O', g, q1, q2, q3, q4, q5⟩
  exact ⟨v, E', O', g, q1, q2, (hkeep.trans h2).trans q3, q4, q5⟩
theorem getD_set_ne {l : List Hs} {i j : Nat} {a : Hs} (h : i ≠ j) : (l.set i a).getD j h0 = l.getD j h0 := by
  simp [List.getD, List.getElem?_set, h]
theorem getD_set_eq {l : List Hs} {i : Nat} {a : Hs} (h : i < l.length) : (l.set i a).getD i h0 = a := by
  simp [List.getD, List.getElem?_set, h]
theorem hsG_set (l : List Hs) (i : Nat) (s : Hs) : (hsG l).set i (bytesG s.1) = hsG (l.set i s) := by simp [hsG, List.map_set]
theorem dd_len1 {ys : List Hs} (h : ys.length < 2) : dd ys = ys := by
  match ys, h with
  | [], _ => rfl
  | [x], _ => rfl
theorem hCompact (ys : List Hs) (hl : ys.length ≤ 4398046511104) (st : Nat) :
    GCalls Try.prog 25 [.own 0 st 0 ys.length] [.row st 32 (hsG ys)] (fun g O' => g = .own 0 st 0 (dd ys).length ∧ O' = [.row st 32 (hsG (dd ys))]) := by
  refine h25.calls mixS (by simp) ?_
  simp only [gstart, s25, List.cons_append, List.nil_append, List.length_cons, List.length_nil, Nat.reduceAdd, Nat.reduceSub, List.replicate_succ, List.replicate_zero]
  simp +contextual -implicitDefEqProofs (maxSteps := 2000000) (disch := omega) only [drawC, ↓op_clear, ↓lenV, binV, optV, ↓loadV, ↓storeV, ↓indexAddrV, ↓sliceV, bound, cutTag, hiTag, GVal.cells, grp, GVal.ofConst, ↓resV, resG, List.map, List.headD, List.take, List.drop, ↓reduceIte, Nat.reduceEqDiff, Nat.reduceAdd, Nat.reduceSub, Nat.reduceLeDiff, reduceCtorEq, implies_true, ne_eq, ↓clearV, aggV, Tag.cap, List.replicate, allSolid, GVal.solid, Nat.reduceBEq, Nat.reduceMul, Nat.reduceLT, List.length_map, List.length_range, splice, vcA, ↓vcB, vcC, aggT23, arr23, arr53, els35, els36, els43, elt35, elt36, elt43, fld45_0, fld45_1, notInt23, notInt3, notInt35, notInt36, notInt42, notInt43, notInt45, notInt47, notInt5, notInt55, notInt57, notInt60, notInt9, plc53, tab23, tab3, tab42, tab43, tab5, und23, und3, und35, und36, und4, und42, und43, und47, und49, und5, und53, und55, und57, und60, und9, zer23, zer45, zer53, e25, hsG_len, all_hsG]
  refine ⟨fun h => by rw [dd_len1 (by omega)]; exact ⟨rfl, rfl⟩, fun hn => ?_⟩
  refine vcSLoop_by (ι := { k : Nat // 1 ≤ k ∧ k ≤ ys.length ∧ dd ys = ys.take k ++ ddT (ys.getD (k - 1) h0) (ys.drop k) }) (fun k => ⟨[.own 0 st 0 ys.length, .any, .any, .int .i64 (k.1 : Nat)] ++ List.replicate 57 .any, [.row st 32 (hsG ys)]⟩) (fun k => ys.length - k.1) ?_ ?_
  · refine Into.first ⟨1, by omega, by omega, ?_⟩ ⟨[], by simp⟩ (by simp [WL, leG_self, leG_any, leG_int])
    match ys, hn with
    | x :: r, _ => rfl
  · rintro ⟨k, hk1, hk, he⟩
    by_cases h' : k < ys.length
    · have d0 : ((k : Int) < (ys.length : Int)) = True := eq_true (by omega)
      have ea := hsG_at ys k h'
      have eb := hsG_at ys (k - 1) (by omega)
      rw [dropH h', ddT_cons] at he
      obtain ⟨x, ex⟩ : ∃ x, ys.getD k h0 = x := ⟨_, rfl⟩
      obtain ⟨y, ey⟩ : ∃ y, ys.getD (k - 1) h0 = y := ⟨_, rfl⟩
      rw [ex] at ea he
      rw [ey] at eb he
      have tn : ((k : Int) - 1).toNat = k - 1 := by omega
      simp +contextual -implicitDefEqProofs (maxSteps := 2000000) (disch := omega) only [drawC, ↓op_clear, ↓lenV, binV, optV, ↓loadV, ↓storeV, ↓indexAddrV, ↓sliceV, bound, cutTag, hiTag, GVal.cells, grp, GVal.ofConst, ↓resV, resG, List.map, List.headD, List.take, List.drop, ↓reduceIte, Nat.reduceEqDiff, Nat.reduceAdd, Nat.reduceSub, Nat.reduceLeDiff, reduceCtorEq, implies_true, ne_eq, ↓clearV, aggV, Tag.cap, List.replicate, allSolid, GVal.solid, Nat.reduceBEq, Nat.reduceMul, Nat.reduceLT, List.length_map, List.length_range, splice, vcA, ↓vcB, vcC, aggT23, arr23, arr53, els35, els36, els43, elt35, elt36, elt43, fld45_0, fld45_1, notInt23, notInt3, notInt35, notInt36, notInt42, notInt43, notInt45, notInt47, notInt5, notInt55, notInt57, notInt60, notInt9, plc53, tab23, tab3, tab42, tab43, tab5, und23, und3, und35, und36, und4, und42, und43, und47, und49, und5, und53, und55, und57, und60, und9, zer23, zer45, zer53, e25, hsG_len, d0, ea, eb, tn, all_hsG, take32, len32, cellsEq_hs x y, Nat.zero_add]
      refine ⟨by omega, by omega, by omega, by omega, by omega, by omega, by omega, fun c => ⟨by omega, by omega, by omega, ?_⟩, fun c => ?_⟩
      · rw [if_pos c] at he
        refine vcSLoop_by (ι := { p : Nat × Nat × List Hs // 1 ≤ p.2.1 ∧ k + p.2.1 ≤ ys.length ∧ p.1 + 1 ≤ k + p.2.1 ∧ p.2.2.length = ys.length ∧ (∀ i, k + p.2.1 ≤ i + 1 → p.2.2.getD i h0 = ys.getD i h0) ∧ dd ys = p.2.2.take p.1 ++ ddT (ys.getD (k + p.2.1 - 1) h0) (ys.drop (k + p.2.1)) }) (fun p => ⟨[.own 0 st 0 ys.length, .any, .any, .int .i64 (p.1.1 : Nat), .own 0 st k (ys.length - k), .int .i64 (p.1.2.1 : Nat)] ++ List.replicate 55 .any, [.row st 32 (hsG p.1.2.2)]⟩) (fun p => ys.length - p.1.2.1) ?_ ?_
        · refine Into.first ⟨(k, 1, ys), by show 1 ≤ 1; omega, by show k + 1 ≤ _; omega, by show k + 1 ≤ k + 1; omega, rfl, fun _ _ => rfl, ?_⟩ ⟨[], by simp⟩ (by simp [WL, leG_self, leG_any, leG_int])
          show dd ys = ys.take k ++ ddT (ys.getD (k + 1 - 1) h0) (ys.drop (k + 1))
          rw [he, Nat.add_sub_cancel, ex, c]
        · rintro ⟨⟨w, q, zs⟩, hq1, hq, hw, hz, hu, hd⟩
          simp only [] at hq1 hq hw hz hu hd
          by_cases h2 : q < ys.length - k
          · have d1 : ((q : Int) < ((ys.length - k : Nat) : Int)) = True := eq_true (by omega)
            have ea := hsG_at zs (k + q) (by omega)
            have eb := hsG_at zs (k + (q - 1)) (by omega)
            rw [dropH (by omega), ddT_cons, ← hu (k + q) (by omega)] at hd
            obtain ⟨x2, ex2⟩ : ∃ x, zs.getD (k + q) h0 = x := ⟨_, rfl⟩
            have ey2 : zs.getD (k + (q - 1)) h0 = ys.getD (k + q - 1) h0 := by rw [hu _ (by omega)]; congr 1; omega
            obtain ⟨y2, ey3⟩ : ∃ x, ys.getD (k + q - 1) h0 = x := ⟨_, rfl⟩
            rw [ex2] at ea hd
            rw [ey2, ey3] at eb
            rw [ey3] at hd
            have tn : ((q : Int) - 1).toNat = q - 1 := by omega
            have ew : List.drop 32 ((hsG zs).getD w []) = [] := by rw [hsG_at zs w (by omega)]; exact List.drop_of_length_le (by rw [len32]; omega)
            simp +contextual -implicitDefEqProofs (maxSteps := 2000000) (disch := omega) only [drawC, ↓op_clear, ↓lenV, binV, optV, ↓loadV, ↓storeV, ↓indexAddrV, ↓sliceV, bound, cutTag, hiTag, GVal.cells, grp, GVal.ofConst, ↓resV, resG, List.map, List.headD, List.take, List.drop, ↓reduceIte, Nat.reduceEqDiff, Nat.reduceAdd, Nat.reduceSub, Nat.reduceLeDiff, reduceCtorEq, implies_true, ne_eq, ↓clearV, aggV, Tag.cap, List.replicate, allSolid, GVal.solid, Nat.reduceBEq, Nat.reduceMul, Nat.reduceLT, List.length_map, List.length_range, splice, vcA, ↓vcB, vcC, aggT23, arr23, arr53, els35, els36, els43, elt35, elt36, elt43, fld45_0, fld45_1, notInt23, notInt3, notInt35, notInt36, notInt42, notInt43, notInt45, notInt47, notInt5, notInt55, notInt57, notInt60, notInt9, plc53, tab23, tab3, tab42, tab43, tab5, und23, und3, und35, und36, und4, und42, und43, und47, und49, und5, und53, und55, und57, und60, und9, zer23, zer45, zer53, e25, hsG_len, hz, d1, ea, eb, tn, all_hsG, take32, len32, cellsEq_hs x2 y2, Nat.zero_add, ew, List.append_nil, hsG_set]
            refine ⟨by omega, by omega, by omega, by omega, by omega, by omega, by omega, fun c2 => ?_, fun c2 => ?_⟩
            · rw [if_pos c2] at hd
              refine Into.at ⟨(w, q + 1, zs), by show 1 ≤ q + 1; omega, by show k + (q + 1) ≤ _; omega, by show w + 1 ≤ k + (q + 1); omega, hz, fun i hi => hu i (by have : k + (q + 1) ≤ i + 1 := hi; omega), ?_⟩ (by show _ < _; simp; omega) ⟨[], by simp⟩ (by simp [WL, leG_self, leG_any, leG_int])
              show dd ys = zs.take w ++ ddT (ys.getD (k + (q + 1) - 1) h0) (ys.drop (k + (q + 1)))
              have e1 : k + (q + 1) - 1 = k + q := by omega
              have e2 : k + (q + 1) = k + q + 1 := by omega
              rw [hd, e1, e2, ← hu (k + q) (by omega), ex2]
            · rw [if_neg c2] at hd
              refine ⟨by omega, by omega, by omega, by omega, by omega, by omega, by rw [sol_bytes]; trivial, by omega, by rw [hsG_at zs w (by omega), len32]; omega, ?_⟩
              refine Into.at ⟨(w + 1, q + 1, zs.set w x2), by show 1 ≤ q + 1; omega, by show k + (q + 1) ≤ _; omega, by show w + 1 + 1 ≤ k + (q + 1); omega, by show (zs.set w x2).length = _; rw [List.length_set, hz], fun i hi => ?_, ?_⟩ (by show _ < _; simp; omega) ⟨[], by simp⟩ (by simp [WL, leG_self, leG_any, leG_int])
              · have hi' : k + (q + 1) ≤ i + 1 := hi
                show (zs.set w x2).getD i h0 = _
                rw [getD_set_ne (by omega), hu i (by omega)]
              · show dd ys = (zs.set w x2).take (w + 1) ++ ddT (ys.getD (k + (q + 1) - 1) h0) (ys.drop (k + (q + 1)))
                have e1 : k + (q + 1) - 1 = k + q := by omega
                have e2 : k + (q + 1) = k + q + 1 := by omega
                rw [hd, e1, e2, ← hu (k + q) (by omega), ex2, takeH (by rw [List.length_set]; omega), List.take_set_of_le (by omega), getD_set_eq (by omega), List.append_assoc]; rfl
          · have d1 : ((q : Int) < ((ys.length - k : Nat) : Int)) = False := eq_false (by omega)
            simp +contextual -implicitDefEqProofs (maxSteps := 2000000) (disch := omega) only [drawC, ↓op_clear, ↓lenV, binV, optV, ↓loadV, ↓storeV, ↓indexAddrV, ↓sliceV, bound, cutTag, hiTag, GVal.cells, grp, GVal.ofConst, ↓resV, resG, List.map, List.headD, List.take, List.drop, ↓reduceIte, Nat.reduceEqDiff, Nat.reduceAdd, Nat.reduceSub, Nat.reduceLeDiff, reduceCtorEq, implies_true, ne_eq, ↓clearV, aggV, Tag.cap, List.replicate, allSolid, GVal.solid, Nat.reduceBEq, Nat.reduceMul, Nat.reduceLT, List.length_map, List.length_range, splice, vcA, ↓vcB, vcC, aggT23, arr23, arr53, els35, els36, els43, elt35, elt36, elt43, fld45_0, fld45_1, notInt23, notInt3, notInt35, notInt36, notInt42, notInt43, notInt45, notInt47, notInt5, notInt55, notInt57, notInt60, notInt9, plc53, tab23, tab3, tab42, tab43, tab5, und23, und3, und35, und36, und4, und42, und43, und47, und49, und5, und53, und55, und57, und60, und9, zer23, zer45, zer53, e25, hsG_len, hz, d1, false_imp_iff, true_and, take_hs]
            rw [List.drop_of_length_le (by omega)] at hd
            have e : dd ys = zs.take w := by rw [hd]; simp [ddT]
            refine ⟨by omega, by omega, by omega, by omega, by omega, by omega, ?_, by rw [e]⟩
            have e2 : (dd ys).length = w := by rw [e, List.length_take]; omega
            rw [e2]; rfl
      · rw [if_neg c] at he
        refine Into.at ⟨k + 1, by omega, by omega, ?_⟩ (by show _ < _; simp; omega) ⟨[], by simp⟩ (by simp [WL, leG_self, leG_any, leG_int])
        rw [takeH h', he, Nat.add_sub_cancel, ex, List.append_assoc]; rfl
    · have d0 : ((k : Int) < (ys.length : Int)) = False := eq_false (by omega)
      rw [List.drop_of_length_le (by omega), List.take_of_length_le (by omega)] at he
      simp +contextual -implicitDefEqProofs (maxSteps := 2000000) (disch := omega) only [drawC, ↓op_clear, ↓lenV, binV, optV, ↓loadV, ↓storeV, ↓indexAddrV, ↓sliceV, bound, cutTag, hiTag, GVal.cells, grp, GVal.ofConst, ↓resV, resG, List.map, List.headD, List.take, List.drop, ↓reduceIte, Nat.reduceEqDiff, Nat.reduceAdd, Nat.reduceSub, Nat.reduceLeDiff, reduceCtorEq, implies_true, ne_eq, ↓clearV, aggV, Tag.cap, List.replicate, allSolid, GVal.solid, Nat.reduceBEq, Nat.reduceMul, Nat.reduceLT, List.length_map, List.length_range, splice, vcA, ↓vcB, vcC, aggT23, arr23, arr53, els35, els36, els43, elt35, elt36, elt43, fld45_0, fld45_1, notInt23, notInt3, notInt35, notInt36, notInt42, notInt43, notInt45, notInt47, notInt5, notInt55, notInt57, notInt60, notInt9, plc53, tab23, tab3, tab42, tab43, tab5, und23, und3, und35, und36, und4, und42, und43, und47, und49, und5, und53, und55, und57, und60, und9, zer23, zer45, zer53, e25, hsG_len, d0, false_imp_iff, true_and]
      have e : dd ys = ys := by rw [he]; simp [ddT]
      rw [e]; exact ⟨rfl, rfl⟩
theorem hCompactNil : GPure Try.prog 25 [.slice [] .nil] (.slice [] .none) := by
  refine h25.pure mixS (by simp) ?_
  simp only [gstart, s25, List.cons_append, List.nil_append, List.length_cons, List.length_nil, Nat.reduceAdd, Nat.reduceSub, List.replicate_succ, List.replicate_zero]
  simp +contextual -implicitDefEqProofs (maxSteps := 2000000) (disch := omega) only [drawC, ↓op_clear, ↓lenV, binV, optV, ↓loadV, ↓storeV, ↓indexAddrV, ↓sliceV, bound, cutTag, hiTag, GVal.cells, grp, GVal.ofConst, ↓resV, resG, List.map, List.headD, List.take, List.drop, ↓reduceIte, Nat.reduceEqDiff, Nat.reduceAdd, Nat.reduceSub, Nat.reduceLeDiff, reduceCtorEq, implies_true, ne_eq, ↓clearV, aggV, Tag.cap, List.replicate, allSolid, GVal.solid, Nat.reduceBEq, Nat.reduceMul, Nat.reduceLT, List.length_map, List.length_range, splice, vcA, ↓vcB, vcC, aggT23, arr23, arr53, els35, els36, els43, elt35, elt36, elt43, fld45_0, fld45_1, notInt23, notInt3, notInt35, notInt36, notInt42, notInt43, notInt45, notInt47, notInt5, notInt55, notInt57, notInt60, notInt9, plc53, tab23, tab3, tab42, tab43, tab5, und23, und3, und35, und36, und4, und42, und43, und47, und49, und5, und53, und55, und57, und60, und9, zer23, zer45, zer53, e25]
  exact fun h => absurd h (by omega)
theorem cSort (l : List Hs) (t : Tag) (hl : l.length ≤ 4398046511104) (ht : t = .nil → l = []) : GCalls Try.prog 15 [.slice (hsG l) t] [] (fun g O' => (l = [] ∧ g = .slice [] .none) ∨ ∃ st ys, List.Perm ys l ∧ ys.Pairwise (fun a b => ltB b.1 a.1 = false) ∧ g = .own 0 st 0 (dd ys).length ∧ O' = [.row st 32 (hsG (dd ys))]) := by
  refine h15.calls mixS (by simp) ?_
  simp only [gstart, s15, List.cons_append, List.nil_append, List.length_cons, List.length_nil, Nat.reduceAdd, Nat.reduceSub, List.replicate_succ, List.replicate_zero]
  simp +contextual -implicitDefEqProofs (maxSteps := 2000000) (disch := omega) only [optV, ↓sliceV, bound, cutTag, hiTag, GVal.cells, grp, GVal.ofConst, ↓resV, resG, List.map, List.headD, List.take, List.drop, ↓reduceIte, Nat.reduceEqDiff, Nat.reduceAdd, Nat.reduceSub, Nat.reduceLeDiff, reduceCtorEq, implies_true, ne_eq, Tag.cap, List.replicate, allSolid, GVal.solid, Nat.reduceBEq, Nat.reduceMul, Nat.reduceLT, List.length_map, List.length_range, splice, vcA, ↓vcB, vcC, aggT23, arr23, els36, elt36, notInt23, notInt3, notInt36, notInt5, notInt55, notInt9, tab23, tab3, tab5, und23, und3, und36, und4, und5, und55, und9, zer23, e15]
  refine (hClone l t hl ht).mono ?_
  rintro g O' (⟨rfl, rfl, rfl⟩ | ⟨st, rfl, rfl⟩)
  · simp +contextual -implicitDefEqProofs (maxSteps := 2000000) (disch := omega) only [optV, ↓sliceV, bound, cutTag, hiTag, GVal.cells, grp, GVal.ofConst, ↓resV, resG, List.map, List.headD, List.take, List.drop, ↓reduceIte, Nat.reduceEqDiff, Nat.reduceAdd, Nat.reduceSub, Nat.reduceLeDiff, reduceCtorEq, implies_true, ne_eq, Tag.cap, List.replicate, allSolid, GVal.solid, Nat.reduceBEq, Nat.reduceMul, Nat.reduceLT, List.length_map, List.length_range, splice, vcA, ↓vcB, vcC, aggT23, arr23, els36, elt36, notInt23, notInt3, notInt36, notInt5, notInt55, notInt9, tab23, tab3, tab5, und23, und3, und36, und4, und5, und55, und9, zer23, e15]
    refine GCalls.nilArg (sz := 32) fun st => hSortNil.mono ?_
    rintro g O' ⟨rfl, rfl⟩
    simp +contextual -implicitDefEqProofs (maxSteps := 2000000) (disch := omega) only [optV, ↓sliceV, bound, cutTag, hiTag, GVal.cells, grp, GVal.ofConst, ↓resV, resG, List.map, List.headD, List.take, List.drop, ↓reduceIte, Nat.reduceEqDiff, Nat.reduceAdd, Nat.reduceSub, Nat.reduceLeDiff, reduceCtorEq, implies_true, ne_eq, Tag.cap, List.replicate, allSolid, GVal.solid, Nat.reduceBEq, Nat.reduceMul, Nat.reduceLT, List.length_map, List.length_range, splice, vcA, ↓vcB, vcC, aggT23, arr23, els36, elt36, notInt23, notInt3, notInt36, notInt5, notInt55, notInt9, tab23, tab3, tab5, und23, und3, und36, und4, und5, und55, und9, zer23, e15]
    refine hCompactNil.then ?_ (by rfl)
    simp +contextual -implicitDefEqProofs (maxSteps := 2000000) (disch := omega) only [optV, ↓sliceV, bound, cutTag, hiTag, GVal.cells, grp, GVal.ofConst, ↓resV, resG, List.map, List.headD, List.take, List.drop, ↓reduceIte, Nat.reduceEqDiff, Nat.reduceAdd, Nat.reduceSub, Nat.reduceLeDiff, reduceCtorEq, implies_true, ne_eq, Tag.cap, List.replicate, allSolid, GVal.solid, Nat.reduceBEq, Nat.reduceMul, Nat.reduceLT, List.length_map, List.length_range, splice, vcA, ↓vcB, vcC, aggT23, arr23, els36, elt36, notInt23, notInt3, notInt36, notInt5, notInt55, notInt9, tab23, tab3, tab5, und23, und3, und36, und4, und5, und55, und9, zer23, e15]
    exact .inl trivial
  · simp +contextual -implicitDefEqProofs (maxSteps := 2000000) (disch := omega) only [optV, ↓sliceV, bound, cutTag, hiTag, GVal.cells, grp, GVal.ofConst, ↓resV, resG, List.map, List.headD, List.take, List.drop, ↓reduceIte, Nat.reduceEqDiff, Nat.reduceAdd, Nat.reduceSub, Nat.reduceLeDiff, reduceCtorEq, implies_true, ne_eq, Tag.cap, List.replicate, allSolid, GVal.solid, Nat.reduceBEq, Nat.reduceMul, Nat.reduceLT, List.length_map, List.length_range, splice, vcA, ↓vcB, vcC, aggT23, arr23, els36, elt36, notInt23, notInt3, notInt36, notInt5, notInt55, notInt9, tab23, tab3, tab5, und23, und3, und36, und4, und5, und55, und9, zer23, e15]
    refine (sSort l (by omega) rfl rfl).mono ?_
    rintro _ _ ⟨rfl, ys, hp, hw, rfl⟩
    have hpl := hp.length_eq
    simp +contextual -implicitDefEqProofs (maxSteps := 2000000) (disch := omega) only [optV, ↓sliceV, bound, cutTag, hiTag, GVal.cells, grp, GVal.ofConst, ↓resV, resG, List.map, List.headD, List.take, List.drop, ↓reduceIte, Nat.reduceEqDiff, Nat.reduceAdd, Nat.reduceSub, Nat.reduceLeDiff, reduceCtorEq, implies_true, ne_eq, Tag.cap, List.replicate, allSolid, GVal.solid, Nat.reduceBEq, Nat.reduceMul, Nat.reduceLT, List.length_map, List.length_range, splice, vcA, ↓vcB, vcC, aggT23, arr23, els36, elt36, notInt23, notInt3, notInt36, notInt5, notInt55, notInt9, tab23, tab3, tab5, und23, und3, und36, und4, und5, und55, und9, zer23, e15]
    rw [← hpl]
    refine (hCompact ys (by omega) st).mono ?_
    rintro g O' ⟨rfl, rfl⟩
    simp +contextual -implicitDefEqProofs (maxSteps := 2000000) (disch := omega) only [optV, ↓sliceV, bound, cutTag, hiTag, GVal.cells, grp, GVal.ofConst, ↓resV, resG, List.map, List.headD, List.take, List.drop, ↓reduceIte, Nat.reduceEqDiff, Nat.reduceAdd, Nat.reduceSub, Nat.reduceLeDiff, reduceCtorEq, implies_true, ne_eq, Tag.cap, List.replicate, allSolid, GVal.solid, Nat.reduceBEq, Nat.reduceMul, Nat.reduceLT, List.length_map, List.length_range, splice, vcA, ↓vcB, vcC, aggT23, arr23, els36, elt36, notInt23, notInt3, notInt36, notInt5, notInt55, notInt9, tab23, tab3, tab5, und23, und3, und36, und4, und5, und55, und9, zer23, e15]
    exact .inr ⟨st, ys, hp, hw, rfl, rfl⟩
theorem frzL_same {f : GVal → Option GVal} : ∀ {xs : List GVal}, (∀ x ∈ xs, f x = some x) → frzL f xs = some xs
  | [], _ => rfl
  | x :: xs, h => by rw [frzL, h x (by simp), frzL_same fun y hy => h y (by simp [hy])]
theorem frz_hs (O : List GObj) (n : Nat) (l : List Hs) : frzLL (Gv.frz O (n + 1)) (hsG l) = some (hsG l) :=
  frzLL_same fun x hx => by
    obtain ⟨s, _, rfl⟩ := List.mem_map.1 hx
    exact frzL_same fun y hy => by
      obtain ⟨c, _, rfl⟩ := List.mem_map.1 hy
      simp only [Gv.frz]
theorem hSort (l : List Hs) (t : Tag) (hl : l.length ≤ 4398046511104) (ht : t = .nil → l = []) : GPure Try.prog 15 [.slice (hsG l) t] (.slice (hsG (sortR l)) .none) :=
  GCalls.toPure ((cSort l t hl ht).mono fun g O' h => by
    rcases h with ⟨rfl, rfl⟩ | ⟨st, ys, hp, hw, rfl, rfl⟩
    · exact ⟨4, .slice [] .none, by rw [Gv.frz]; rfl, by rw [leA_slice]; rfl⟩
    · rw [dd_sortR hp hw]
      exact ⟨4, .slice (hsG (sortR l)) .none, frz_own rfl (hsG_len _).symm (frz_hs _ 2 _), by rw [leA_slice]⟩)
end Gv.Try
/- HexSorts: the walk. -/
set_option linter.unusedVariables false
set_option linter.unusedSimpArgs false
set_option maxRecDepth 20000
set_option maxHeartbeats 4000000
namespace Gv.Try
open Go Gv Go.Proofs
noncomputable def hashF (n : Int) : Hs := Classical.choose (hHash n)
theorem hHashF (n : Int) : GPure Try.prog 13 [.int .i64 n] (.agg (bytesG (hashF n).1)) := Classical.choose_spec (hHash n)
noncomputable def hashN (l : List Int) (k : Nat) : List Hs := (List.range k).map fun j => hashF (l.getD j 0)
theorem hashN_len (l : List Int) (k : Nat) : (hashN l k).length = k := by simp [hashN]
theorem hashN_succ (l : List Int) (k : Nat) : hsG (hashN l (k + 1)) = hsG (hashN l k) ++ [bytesG (hashF (l.getD k 0)).1] := by
  simp [hashN, List.range_succ, hsG]
theorem foldl_len : ∀ (l acc : List Hs), (l.foldl putH acc).length ≤ acc.length + l.length
  | [], acc => by simp
  | x :: r, acc => by
    have := foldl_len r (putH acc x)
    have := putH_len acc x
    simp only [List.foldl_cons, List.length_cons]; omega
theorem sortR_len (l : List Hs) : (sortR l).length ≤ l.length := by
  have := foldl_len l []
  simpa [sortR] using this
theorem spec4 (l : List Int) (r : List Hs) (t : Tag) (hl : l.length ≤ 9223372036854775807) (hr : r.length ≤ 4398046510976) : GPure Try.prog 4 [.slice (ints l) t, .slice (hsG r) .none] (.bool true) := by
  refine h4.pure mixS (by simp) ?_
  simp only [gstart, s4, List.cons_append, List.nil_append, List.length_cons, List.length_nil, Nat.reduceAdd, Nat.reduceSub, List.replicate_succ, List.replicate_zero]
  simp +contextual -implicitDefEqProofs (maxSteps := 2000000) (disch := omega) only [↓lenV, binV, optV, ↓loadV, ↓indexAddrV, ↓buildSliceV, ↓sliceV, ↓appendV, ↓srcV, bound, cutTag, hiTag, fillE, GVal.cells, grp, GVal.ofConst, ↓resV, resG, List.map, List.headD, List.take, List.drop, ↓reduceIte, Nat.reduceEqDiff, Nat.reduceAdd, Nat.reduceSub, Nat.reduceLeDiff, reduceCtorEq, implies_true, ne_eq, ↓asrcV, Tag.cap, List.replicate, allSolid, GVal.solid, Nat.reduceBEq, Nat.reduceMul, Nat.reduceLT, List.length_map, List.length_range, splice, vcA, ↓vcB, vcC, aggT23, arr23, els35, els36, elt35, elt36, notInt23, notInt3, notInt35, notInt36, notInt5, notInt9, tab23, tab3, tab5, und23, und3, und35, und36, und4, und5, und9, zer23, e4]
  refine vcSLoop_by (ι := { p : Nat × Nat // p.1 ≤ l.length ∧ p.1 ≤ 40 }) (fun p => ⟨[.slice (ints l) t, .slice (hsG r) .none, .any, .any, .any, .slice (hsG (hashN l p.1.1)) (.tok 0 p.1.2), .int .i64 (p.1.1 : Nat)] ++ List.replicate 29 .any, [.tok p.1.2 32]⟩) (fun p => 40 - p.1.1) ?_ ?_
  · refine Into.tok 5 32 [] rfl rfl ?_
    simp +contextual -implicitDefEqProofs (maxSteps := 2000000) (disch := omega) only [↓lenV, binV, optV, ↓loadV, ↓indexAddrV, ↓buildSliceV, ↓sliceV, ↓appendV, ↓srcV, bound, cutTag, hiTag, fillE, GVal.cells, grp, GVal.ofConst, ↓resV, resG, List.map, List.headD, List.take, List.drop, ↓reduceIte, Nat.reduceEqDiff, Nat.reduceAdd, Nat.reduceSub, Nat.reduceLeDiff, reduceCtorEq, implies_true, ne_eq, ↓asrcV, Tag.cap, List.replicate, allSolid, GVal.solid, Nat.reduceBEq, Nat.reduceMul, Nat.reduceLT, List.length_map, List.length_range, splice, vcA, ↓vcB, vcC, aggT23, arr23, els35, els36, elt35, elt36, notInt23, notInt3, notInt35, notInt36, notInt5, notInt9, tab23, tab3, tab5, und23, und3, und35, und36, und4, und5, und9, zer23, e4]
    intro t0
    exact Into.first ⟨(0, t0), by show 0 ≤ _; omega, by show 0 ≤ 40; omega⟩ ⟨[], by simp⟩ (by simp [WL, leG_self, leG_any, hashN, hsG])
  · rintro ⟨⟨k, v⟩, hk, hk4⟩
    simp only [] at hk hk4
    have tl := hashN_len l k
    by_cases h : k < l.length ∧ k < 40
    · have d0 : ((k : Int) < (l.length : Int)) = True := eq_true (by omega)
      have d1 : ((k : Int) < 40) = True := eq_true (by omega)
      obtain ⟨x, ex⟩ : ∃ x, l.getD k 0 = x := ⟨_, rfl⟩
      have eN := hashN_succ l k
      rw [ex] at eN
      simp +contextual -implicitDefEqProofs (maxSteps := 2000000) (disch := omega) only [↓lenV, binV, optV, ↓loadV, ↓indexAddrV, ↓buildSliceV, ↓sliceV, ↓appendV, ↓srcV, bound, cutTag, hiTag, fillE, GVal.cells, grp, GVal.ofConst, ↓resV, resG, List.map, List.headD, List.take, List.drop, ↓reduceIte, Nat.reduceEqDiff, Nat.reduceAdd, Nat.reduceSub, Nat.reduceLeDiff, reduceCtorEq, implies_true, ne_eq, ↓asrcV, Tag.cap, List.replicate, allSolid, GVal.solid, Nat.reduceBEq, Nat.reduceMul, Nat.reduceLT, List.length_map, List.length_range, splice, vcA, ↓vcB, vcC, aggT23, arr23, els35, els36, elt35, elt36, notInt23, notInt3, notInt35, notInt36, notInt5, notInt9, tab23, tab3, tab5, und23, und3, und35, und36, und4, und5, und9, zer23, e4, d0, d1, ex]
      refine ⟨by omega, ?_⟩
      refine (hHashF x).then ?_ (by rfl)
      simp +contextual -implicitDefEqProofs (maxSteps := 2000000) (disch := omega) only [↓lenV, binV, optV, ↓loadV, ↓indexAddrV, ↓buildSliceV, ↓sliceV, ↓appendV, ↓srcV, bound, cutTag, hiTag, fillE, GVal.cells, grp, GVal.ofConst, ↓resV, resG, List.map, List.headD, List.take, List.drop, ↓reduceIte, Nat.reduceEqDiff, Nat.reduceAdd, Nat.reduceSub, Nat.reduceLeDiff, reduceCtorEq, implies_true, ne_eq, ↓asrcV, Tag.cap, List.replicate, allSolid, GVal.solid, Nat.reduceBEq, Nat.reduceMul, Nat.reduceLT, List.length_map, List.length_range, splice, vcA, ↓vcB, vcC, aggT23, arr23, els35, els36, elt35, elt36, notInt23, notInt3, notInt35, notInt36, notInt5, notInt9, tab23, tab3, tab5, und23, und3, und35, und36, und4, und5, und9, zer23, e4, d0, d1, hsG_len, tl, all_hsG, take32, len32, sol_bytes, if32, one32]
      refine ⟨by omega, by omega, fun st => ?_⟩
      rw [← eN]
      exact Into.at ⟨(k + 1, st), by show k + 1 ≤ _; omega, by show k + 1 ≤ 40; omega⟩ (by show _ < _; simp; omega) ⟨[], by simp⟩ (by simp [WL, leG_self, leG_any, leG_int])
    · by_cases h1 : k < l.length
      · have d0 : ((k : Int) < (l.length : Int)) = True := eq_true (by omega)
        have d1 : ((k : Int) < 40) = False := eq_false (by omega)
        simp +contextual -implicitDefEqProofs (maxSteps := 2000000) (disch := omega) only [↓lenV, binV, optV, ↓loadV, ↓indexAddrV, ↓buildSliceV, ↓sliceV, ↓appendV, ↓srcV, bound, cutTag, hiTag, fillE, GVal.cells, grp, GVal.ofConst, ↓resV, resG, List.map, List.headD, List.take, List.drop, ↓reduceIte, Nat.reduceEqDiff, Nat.reduceAdd, Nat.reduceSub, Nat.reduceLeDiff, reduceCtorEq, implies_true, ne_eq, ↓asrcV, Tag.cap, List.replicate, allSolid, GVal.solid, Nat.reduceBEq, Nat.reduceMul, Nat.reduceLT, List.length_map, List.length_range, splice, vcA, ↓vcB, vcC, aggT23, arr23, els35, els36, elt35, elt36, notInt23, notInt3, notInt35, notInt36, notInt5, notInt9, tab23, tab3, tab5, und23, und3, und35, und36, und4, und5, und9, zer23, e4, d0, d1, hsG_len, tl, all_hsG]
        refine ⟨by omega, by omega, fun st => ?_⟩
        refine hKnown.then ?_ (by rfl)
        rw [← hsG_app]
        simp +contextual -implicitDefEqProofs (maxSteps := 2000000) (disch := omega) only [↓lenV, binV, optV, ↓loadV, ↓indexAddrV, ↓buildSliceV, ↓sliceV, ↓appendV, ↓srcV, bound, cutTag, hiTag, fillE, GVal.cells, grp, GVal.ofConst, ↓resV, resG, List.map, List.headD, List.take, List.drop, ↓reduceIte, Nat.reduceEqDiff, Nat.reduceAdd, Nat.reduceSub, Nat.reduceLeDiff, reduceCtorEq, implies_true, ne_eq, ↓asrcV, Tag.cap, List.replicate, allSolid, GVal.solid, Nat.reduceBEq, Nat.reduceMul, Nat.reduceLT, List.length_map, List.length_range, splice, vcA, ↓vcB, vcC, aggT23, arr23, els35, els36, elt35, elt36, notInt23, notInt3, notInt35, notInt36, notInt5, notInt9, tab23, tab3, tab5, und23, und3, und35, und36, und4, und5, und9, zer23, e4]
        have len : (hashN l k ++ r).length ≤ 4398046511104 := by rw [List.length_append, tl]; omega
        have nn : ∀ u : Nat, (Tag.tok 0 u) = .nil → hashN l k ++ r = [] := fun u e => by cases e
        trace_state
        refine (hSort (hashN l k ++ r) _ len (nn _)).then ?_ (by rfl)
        simp +contextual -implicitDefEqProofs (maxSteps := 2000000) (disch := omega) only [↓lenV, binV, optV, ↓loadV, ↓indexAddrV, ↓buildSliceV, ↓sliceV, ↓appendV, ↓srcV, bound, cutTag, hiTag, fillE, GVal.cells, grp, GVal.ofConst, ↓resV, resG, List.map, List.headD, List.take, List.drop, ↓reduceIte, Nat.reduceEqDiff, Nat.reduceAdd, Nat.reduceSub, Nat.reduceLeDiff, reduceCtorEq, implies_true, ne_eq, ↓asrcV, Tag.cap, List.replicate, allSolid, GVal.solid, Nat.reduceBEq, Nat.reduceMul, Nat.reduceLT, List.length_map, List.length_range, splice, vcA, ↓vcB, vcC, aggT23, arr23, els35, els36, elt35, elt36, notInt23, notInt3, notInt35, notInt36, notInt5, notInt9, tab23, tab3, tab5, und23, und3, und35, und36, und4, und5, und9, zer23, e4]
        refine (hSortR (hashN l k ++ r) _ len).then ?_ (by rfl)
        simp +contextual -implicitDefEqProofs (maxSteps := 2000000) (disch := omega) only [↓lenV, binV, optV, ↓loadV, ↓indexAddrV, ↓buildSliceV, ↓sliceV, ↓appendV, ↓srcV, bound, cutTag, hiTag, fillE, GVal.cells, grp, GVal.ofConst, ↓resV, resG, List.map, List.headD, List.take, List.drop, ↓reduceIte, Nat.reduceEqDiff, Nat.reduceAdd, Nat.reduceSub, Nat.reduceLeDiff, reduceCtorEq, implies_true, ne_eq, ↓asrcV, Tag.cap, List.replicate, allSolid, GVal.solid, Nat.reduceBEq, Nat.reduceMul, Nat.reduceLT, List.length_map, List.length_range, splice, vcA, ↓vcB, vcC, aggT23, arr23, els35, els36, elt35, elt36, notInt23, notInt3, notInt35, notInt36, notInt5, notInt9, tab23, tab3, tab5, und23, und3, und35, und36, und4, und5, und9, zer23, e4]
        trace_state
        refine (hSame _ _ _ _ (by have := sortR_len (hashN l k ++ r); omega)).then ?_ (by rfl)
        simp +contextual -implicitDefEqProofs (maxSteps := 2000000) (disch := omega) only [↓lenV, binV, optV, ↓loadV, ↓indexAddrV, ↓buildSliceV, ↓sliceV, ↓appendV, ↓srcV, bound, cutTag, hiTag, fillE, GVal.cells, grp, GVal.ofConst, ↓resV, resG, List.map, List.headD, List.take, List.drop, ↓reduceIte, Nat.reduceEqDiff, Nat.reduceAdd, Nat.reduceSub, Nat.reduceLeDiff, reduceCtorEq, implies_true, ne_eq, ↓asrcV, Tag.cap, List.replicate, allSolid, GVal.solid, Nat.reduceBEq, Nat.reduceMul, Nat.reduceLT, List.length_map, List.length_range, splice, vcA, ↓vcB, vcC, aggT23, arr23, els35, els36, elt35, elt36, notInt23, notInt3, notInt35, notInt36, notInt5, notInt9, tab23, tab3, tab5, und23, und3, und35, und36, und4, und5, und9, zer23, e4]
      · have d0 : ((k : Int) < (l.length : Int)) = False := eq_false (by omega)
        simp +contextual -implicitDefEqProofs (maxSteps := 2000000) (disch := omega) only [↓lenV, binV, optV, ↓loadV, ↓indexAddrV, ↓buildSliceV, ↓sliceV, ↓appendV, ↓srcV, bound, cutTag, hiTag, fillE, GVal.cells, grp, GVal.ofConst, ↓resV, resG, List.map, List.headD, List.take, List.drop, ↓reduceIte, Nat.reduceEqDiff, Nat.reduceAdd, Nat.reduceSub, Nat.reduceLeDiff, reduceCtorEq, implies_true, ne_eq, ↓asrcV, Tag.cap, List.replicate, allSolid, GVal.solid, Nat.reduceBEq, Nat.reduceMul, Nat.reduceLT, List.length_map, List.length_range, splice, vcA, ↓vcB, vcC, aggT23, arr23, els35, els36, elt35, elt36, notInt23, notInt3, notInt35, notInt36, notInt5, notInt9, tab23, tab3, tab5, und23, und3, und35, und36, und4, und5, und9, zer23, e4, d0, hsG_len, tl, all_hsG]
        refine ⟨by omega, by omega, fun st => ?_⟩
        refine hKnown.then ?_ (by rfl)
        rw [← hsG_app]
        simp +contextual -implicitDefEqProofs (maxSteps := 2000000) (disch := omega) only [↓lenV, binV, optV, ↓loadV, ↓indexAddrV, ↓buildSliceV, ↓sliceV, ↓appendV, ↓srcV, bound, cutTag, hiTag, fillE, GVal.cells, grp, GVal.ofConst, ↓resV, resG, List.map, List.headD, List.take, List.drop, ↓reduceIte, Nat.reduceEqDiff, Nat.reduceAdd, Nat.reduceSub, Nat.reduceLeDiff, reduceCtorEq, implies_true, ne_eq, ↓asrcV, Tag.cap, List.replicate, allSolid, GVal.solid, Nat.reduceBEq, Nat.reduceMul, Nat.reduceLT, List.length_map, List.length_range, splice, vcA, ↓vcB, vcC, aggT23, arr23, els35, els36, elt35, elt36, notInt23, notInt3, notInt35, notInt36, notInt5, notInt9, tab23, tab3, tab5, und23, und3, und35, und36, und4, und5, und9, zer23, e4]
        have len : (hashN l k ++ r).length ≤ 4398046511104 := by rw [List.length_append, tl]; omega
        have nn : ∀ u : Nat, (Tag.tok 0 u) = .nil → hashN l k ++ r = [] := fun u e => by cases e
        trace_state
        refine (hSort (hashN l k ++ r) _ len (nn _)).then ?_ (by rfl)
        simp +contextual -implicitDefEqProofs (maxSteps := 2000000) (disch := omega) only [↓lenV, binV, optV, ↓loadV, ↓indexAddrV, ↓buildSliceV, ↓sliceV, ↓appendV, ↓srcV, bound, cutTag, hiTag, fillE, GVal.cells, grp, GVal.ofConst, ↓resV, resG, List.map, List.headD, List.take, List.drop, ↓reduceIte, Nat.reduceEqDiff, Nat.reduceAdd, Nat.reduceSub, Nat.reduceLeDiff, reduceCtorEq, implies_true, ne_eq, ↓asrcV, Tag.cap, List.replicate, allSolid, GVal.solid, Nat.reduceBEq, Nat.reduceMul, Nat.reduceLT, List.length_map, List.length_range, splice, vcA, ↓vcB, vcC, aggT23, arr23, els35, els36, elt35, elt36, notInt23, notInt3, notInt35, notInt36, notInt5, notInt9, tab23, tab3, tab5, und23, und3, und35, und36, und4, und5, und9, zer23, e4]
        refine (hSortR (hashN l k ++ r) _ len).then ?_ (by rfl)
        simp +contextual -implicitDefEqProofs (maxSteps := 2000000) (disch := omega) only [↓lenV, binV, optV, ↓loadV, ↓indexAddrV, ↓buildSliceV, ↓sliceV, ↓appendV, ↓srcV, bound, cutTag, hiTag, fillE, GVal.cells, grp, GVal.ofConst, ↓resV, resG, List.map, List.headD, List.take, List.drop, ↓reduceIte, Nat.reduceEqDiff, Nat.reduceAdd, Nat.reduceSub, Nat.reduceLeDiff, reduceCtorEq, implies_true, ne_eq, ↓asrcV, Tag.cap, List.replicate, allSolid, GVal.solid, Nat.reduceBEq, Nat.reduceMul, Nat.reduceLT, List.length_map, List.length_range, splice, vcA, ↓vcB, vcC, aggT23, arr23, els35, els36, elt35, elt36, notInt23, notInt3, notInt35, notInt36, notInt5, notInt9, tab23, tab3, tab5, und23, und3, und35, und36, und4, und5, und9, zer23, e4]
        trace_state
        refine (hSame _ _ _ _ (by have := sortR_len (hashN l k ++ r); omega)).then ?_ (by rfl)
        simp +contextual -implicitDefEqProofs (maxSteps := 2000000) (disch := omega) only [↓lenV, binV, optV, ↓loadV, ↓indexAddrV, ↓buildSliceV, ↓sliceV, ↓appendV, ↓srcV, bound, cutTag, hiTag, fillE, GVal.cells, grp, GVal.ofConst, ↓resV, resG, List.map, List.headD, List.take, List.drop, ↓reduceIte, Nat.reduceEqDiff, Nat.reduceAdd, Nat.reduceSub, Nat.reduceLeDiff, reduceCtorEq, implies_true, ne_eq, ↓asrcV, Tag.cap, List.replicate, allSolid, GVal.solid, Nat.reduceBEq, Nat.reduceMul, Nat.reduceLT, List.length_map, List.length_range, splice, vcA, ↓vcB, vcC, aggT23, arr23, els35, els36, elt35, elt36, notInt23, notInt3, notInt35, notInt36, notInt5, notInt9, tab23, tab3, tab5, und23, und3, und35, und36, und4, und5, und9, zer23, e4]
end Gv.Try
/- A call that is handed rows of the caller's to read: for the call they are plain lists; behind it they are rows again. What it makes lies behind them. -/
set_option linter.unusedVariables false
namespace Gv
open Go
/-- of such a value nothing is said that lies in memory -/
def plainG : GVal → Bool
  | .any => true
  | .bool _ => true
  | .ubool => true
  | .int _ _ => true
  | .str _ => true
  | .lit _ => true
  | .own _ _ _ _ => true
  | .slice [] .none => true
  | _ => false
theorem VR.plain {E F : Env} {v : Value} {g : GVal} (hl : ∀ s l, E.loc s = some l → F.loc s = some l) (h : VR E v g) (hg : plainG g = true) : VR F v g := by
  cases h with
  | any v => exact .any v
  | bool b => exact .bool b
  | ubool b => exact .ubool b
  | int k n => exact .int k n
  | str s => exact .str s
  | lit v => exact .lit v
  | own a len cap o st i l h1 hcap ha => exact .own a len cap o st i l (hl _ _ h1) hcap ha
  | slice a len cap xs tag sz c hlen hcap hsz ha hc ht =>
    cases xs with
    | cons x r => cases hg
    | nil => cases tag with
      | none => exact .slice a len cap [] .none sz c hlen hcap hsz (fun h => absurd rfl h) (fun j g hj => by simp at hj) trivial
      | _ => cases hg
  | _ => cases hg
def GObj.flat : GObj → Bool
  | .row _ _ xs => xs.all fun r => r.all plainG
  | .dead => true
  | _ => false
/-- the same value, its row so many places on -/
def GVal.shift (k : Nat) : GVal → GVal
  | .own o st i len => .own (o + k) st i len
  | g => g
theorem VR.shift {E : Env} {v : Value} {g : GVal} (k : Nat) (h : VR E v g) : VR E v (g.shift k) := by
  cases h with
  | own a len cap o st i l h1 hcap ha => exact .own a len cap _ st i l h1 hcap ha
  | any v => exact .any v
  | bool b => exact .bool b
  | ubool b => exact .ubool b
  | int k n => exact .int k n
  | str s => exact .str s
  | lit v => exact .lit v
  | slice a len cap xs tag sz c hlen hcap hsz ha hc ht => exact .slice a len cap xs tag sz c hlen hcap hsz ha hc ht
  | agg vs cs hs hc => exact .agg vs cs hs hc
  | tuple vs cs hs hc => exact .tuple vs cs hs hc
  | ref b off cs c ha hc => exact .ref b off cs c ha hc
  | ptr b off o st i j l hl hb ho => exact .ptr b off o st i j l hl hb ho
  | map r o st l hl hb => exact .map r o st l hl hb
  | func fn fs cs gs ks hf hk hfs hcs => exact .func fn fs cs gs ks hf hk hfs hcs
  | iface t v g h => exact .iface t v g h
  | cond c v g h => exact .cond c v g h
theorem plainG_shift {g : GVal} (k : Nat) (h : plainG g = true) : plainG (g.shift k) = true := by
  cases g <;> first | exact h | rfl

/-- the caller's rows are read and left behind -/
theorem GCalls.frzArgs {P : Program} {f : FuncId} {args args' : List GVal} {O : List GObj} {K : GVal → List GObj → Prop} (n : Nat) (h : GCalls P f args' [] K) (ha' : frzL (Gv.frz O n) args = some args') : GCalls P f args O K := by
  refine ⟨h.1, fun E w vs hs ha => ?_⟩
  obtain ⟨h1, h2⟩ := hs.frz
  have hb : ArgsR (E.frz O w) vs args' := ⟨by rw [ha.1, frzL_len ha'], fun i g hg => by
    obtain ⟨x, q1, q2⟩ := frzL_at ha' i g hg
    exact frz_sound hs n _ x g (ha.2 i x q1) q2⟩
  refine (h.2 _ w vs h1 hb).mono ?_
  rintro e w' ⟨v, E', O', g, q1, q2, q3, q4, q5⟩
  exact ⟨v, E', O', g, q1, q2, h2.trans q3, q4, q5⟩

open Classical in
theorem GCalls.borrow {P : Program} {f : FuncId} {args args' : List GVal} {O : List GObj} {K : GVal → List GObj → Prop} (n : Nat) (h : GCalls P f args' [] K) (ha' : frzL (Gv.frz O n) args = some args') (hc : clockOf O = none)
    (hK : ∀ g O', K g O' → plainG g = true ∧ ∀ x ∈ O', x.flat = true) : GCalls P f args O (fun g O'' => ∃ g0 O', K g0 O' ∧ g = g0.shift O.length ∧ O'' = O ++ O') := by
  refine ⟨h.1, fun E w vs hs ha => ?_⟩
  obtain ⟨f1, f2⟩ := hs.frz
  have hb : ArgsR (E.frz O w) vs args' := ⟨by rw [ha.1, frzL_len ha'], fun i g hg => by
    obtain ⟨x, q1, q2⟩ := frzL_at ha' i g hg
    exact frz_sound hs n _ x g (ha.2 i x q1) q2⟩
  refine (h.2 _ w vs f1 hb).mono ?_
  rintro e w' ⟨v, E', O', g, rfl, h1, h2, h3, h5⟩
  obtain ⟨hg, hfl⟩ := hK g O' h5
  have hno : ∀ b, ¬ InO (E.frz O w) [] b := fun b ⟨i, x, hx, _⟩ => by simp at hx
  have hold : ∀ b, b < w.heap.size → w'.heap[b]? = w.heap[b]? := fun b hb => h2.heap b hb (hno b)
  have hle : E.le E' := f2.ext.trans h2.ext
  let F : Env := { loc := E'.loc, snap := fun b o => match E.snap b o with
    | some v => some v
    | none => if b < w.heap.size then none else E'.snap b o }
  have hF : E.le F := ⟨fun b o v h => by show (match E.snap b o with | some v => some v | none => _) = _; rw [h], hle.loc⟩
  have hFs : ∀ b o v, F.snap b o = some v → E'.snap b o = some v := by
    intro b o v hv
    change (match E.snap b o with | some v => some v | none => if b < w.heap.size then none else E'.snap b o) = some v at hv
    cases hs : E.snap b o with
    | some u => rw [hs] at hv; cases hv; exact hle.snap _ _ _ hs
    | none =>
      rw [hs] at hv
      simp only at hv
      split at hv
      · cases hv
      · exact hv
  have hFo : ∀ b o v, b < w.heap.size → F.snap b o = some v → E.snap b o = some v := by
    intro b o v hb hv
    change (match E.snap b o with | some v => some v | none => if b < w.heap.size then none else E'.snap b o) = some v at hv
    cases hs : E.snap b o with
    | some u => rw [hs] at hv; exact hv
    | none => rw [hs] at hv; simp only [if_pos hb] at hv; cases hv
  have hFn : ∀ b o, E'.snap b o = none → F.snap b o = none := fun b o hn => by
    cases hq : F.snap b o with
    | none => rfl
    | some v => rw [hFs b o v hq] at hn; cases hn
  have hbk : ∀ x : GObj, x.blk F = x.blk E' := fun x => by cases x <;> rfl
  have hbO : ∀ (i : Nat) x, O[i]? = some x → x.blk F = x.blk E := fun i x hx => GObj.blk_mono hF (hs.real i x hx)
  have hnew : ∀ (i : Nat) x b, O'[i]? = some x → x.blk F = some b → w.heap.size ≤ b := fun i x b hx hb => by
    rcases h2.objs b ⟨i, x, hx, by rw [← hbk]; exact hb⟩ with q | q
    · exact absurd q (hno b)
    · exact q
  have hcl : clockOf (O ++ O') = none := by
    cases O with
    | nil =>
      rw [List.nil_append]
      cases O' with
      | nil => rfl
      | cons x r =>
        have := hfl x (by simp)
        cases x <;> first | rfl | cases this
    | cons x r => cases x <;> first | rfl | cases hc
  have hreal : ∀ (i : Nat) x, (O ++ O')[i]? = some x → Realized F w' x := by
    intro i x hx
    by_cases hi : i < O.length
    · rw [List.getElem?_append_left hi] at hx
      exact (hs.real i x hx).keep hF (fun b hb => hold b ((hs.real i x hx).blk_lt hb)) (fun b o v hb hv => hFo b o v ((hs.real i x hx).blk_lt hb) hv)
    · rw [List.getElem?_append_right (by omega)] at hx
      have hr := h1.real _ x hx
      have hf := hfl x (List.mem_of_getElem? hx)
      cases x with
      | dead => trivial
      | row st sz xs =>
        obtain ⟨l, hl, hls, hsx, hrr⟩ := hr
        refine ⟨l, hl, hls, hsx, ?_⟩
        cases hb : l.block with
        | none => simp only [hb] at hrr; exact hrr
        | some b =>
          simp only [hb] at hrr
          obtain ⟨cur, el, q1, q2, q3, q4, q5⟩ := hrr
          refine ⟨cur, el, q1, q2, q3, fun k c hk => ?_, fun o => hFn _ _ (q5 o)⟩
          obtain ⟨x, z1, z2, z3⟩ := q4 k c hk
          refine ⟨x, z1, z2, z3.plain (E := E') (F := F) (fun s l h => show F.loc s = some l from h) ?_⟩
          have hcm := List.mem_of_getElem? hk
          obtain ⟨r, hr1, hr2⟩ := List.mem_flatten.1 hcm
          simp only [GObj.flat, List.all_eq_true] at hf
          exact hf r hr1 c hr2
      | _ => cases hf
  refine ⟨v, F, O ++ O', g.shift O.length, rfl, ⟨?_, fun b o v hv => h1.sealed b o v (hFs b o v hv), fun b o v hv => h1.one b o v (hFs b o v hv), hreal, ?_⟩, ⟨hF, ?_, ?_, h2.size, fun b hb _ => hold b hb, ?_, ?_, trivial⟩, (h3.plain (E := E') (F := F) (fun s l h => show F.loc s = some l from h) hg).shift _, g, O', h5, rfl, rfl⟩
  · obtain ⟨m, _, q⟩ := h1.fin
    exact ⟨m, fun c e => by rw [hcl] at e; (cases e), q⟩
  · intro i j oi oj b hij hi hj hbi hbj
    by_cases ii : i < O.length
    · rw [List.getElem?_append_left ii] at hi
      rw [hbO i oi hi] at hbi
      by_cases jj : j < O.length
      · rw [List.getElem?_append_left jj] at hj
        rw [hbO j oj hj] at hbj
        exact hs.sep i j oi oj b hij hi hj hbi hbj
      · rw [List.getElem?_append_right (by omega)] at hj
        have h6 := hnew _ oj b hj hbj
        have h7 := (hs.real i oi hi).blk_lt hbi
        omega
    · rw [List.getElem?_append_right (by omega)] at hi
      by_cases jj : j < O.length
      · rw [List.getElem?_append_left jj] at hj
        rw [hbO j oj hj] at hbj
        have h6 := hnew _ oi b hi hbi
        have h7 := (hs.real j oj hj).blk_lt hbj
        omega
      · rw [List.getElem?_append_right (by omega)] at hj
        rw [hbk] at hbi hbj
        exact h1.sep _ _ oi oj b (by omega) hi hj hbi hbj
  · rw [h2.os, f2.os]
  · rw [h2.out, f2.out]
  · intro b o v hv
    by_cases hb : b < w.heap.size
    · exact .inl (hFo b o v hb hv)
    · exact .inr (.inl (by omega))
  · intro b ⟨i, x, hx, hbx⟩
    by_cases hi : i < O.length
    · rw [List.getElem?_append_left hi] at hx
      exact .inl ⟨i, x, hx, by rw [← hbO i x hx]; exact hbx⟩
    · rw [List.getElem?_append_right (by omega)] at hx
      exact .inr (hnew _ x b hx hbx)
end Gv
