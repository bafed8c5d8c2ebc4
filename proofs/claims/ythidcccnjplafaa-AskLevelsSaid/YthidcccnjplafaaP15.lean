/- Contracts: the greatest segment of an ID; ancestors. -/
import Derived.Test.YthidcccnjplafaaP14
import Derived.Test.YthidcccnjplafaaP10
import Derived.Test.YthidcccnjplafaaP11
set_option linter.unusedVariables false
set_option linter.unusedSimpArgs false
set_option maxRecDepth 20000
set_option maxHeartbeats 8000000
namespace Gv.Try
open Go Gv Go.Proofs
/-- a segment that tells an ID's ancestors -/
structure Tells (m o : List (List Int)) (x : Seg) (id : Int) : Prop where
  lo : 0 ≤ x.lo
  le : x.lo ≤ id
  hi : id ≤ x.hi
  lead : ∀ y, x.lo ≤ y → y ≤ id → Leads m o y id
  all : ∀ y, x.lo ≤ y → y ≤ id → ∀ p ∈ parI m o y, p < x.lo → p ∈ x.par
  par : ∀ p ∈ x.par, inT m o p ∧ Leads m o p id
  len : x.par.length ≤ 1000
  top : x.hi ≤ 1099511628776
theorem SegH.tells {m o : List (List Int)} (h : TOK m o) {x : Seg} (hx : SegH m o x) : Tells m o x x.hi := by
  have h1 := inT_range h (hx.has x.lo (Int.le_refl _) hx.le)
  have h2 := inT_range h (hx.has x.hi hx.le (Int.le_refl _))
  have hp : ∀ p ∈ x.par, inT m o p ∧ Leads m o p x.hi := fun p hp => by
    obtain ⟨_, y, y1, y2, y3⟩ := hx.from_ p hp
    exact ⟨(h.par y3).2, (Leads.par y3 (h.par y3).2).trans (hx.lead y y1 y2)⟩
  refine ⟨h1.1, hx.le, Int.le_refl _, hx.lead, hx.all, hp, ?_, h2.2⟩
  have := nodup_len x.par (allI m.length o.length) hx.nodup fun p q => (allI_hasI _ _ _).2 (hp p q).1
  have := allI_len m.length o.length
  have := h.len
  omega
theorem FlatS.leads {m o : List (List Int)} {x : Seg} (hx : FlatS m o x) {id : Int} (h2 : id ≤ x.hi) : ∀ (k : Nat), x.lo ≤ id - k → Leads m o (id - k) id := by
  intro k
  induction k with
  | zero => intro _; simp; exact Leads.refl m o id
  | succ k ih =>
    intro hk
    refine Leads.trans ?_ (ih (by omega))
    refine Leads.par ?_ (hx.inn _ (by omega) (by omega))
    rw [hx.one (id - k) (by omega) (by omega)]; simp; omega
theorem FlatS.tells {m o : List (List Int)} (h : TOK m o) {x : Seg} (hx : FlatS m o x) {id : Int} (h1 : x.lo ≤ id) (h2 : id ≤ x.hi) : Tells m o x id := by
  have hl : ∀ y, x.lo ≤ y → y ≤ id → Leads m o y id := fun y q1 q2 => by
    have := hx.leads h2 (id - y).toNat (by omega)
    rwa [show id - ((id - y).toNat : Int) = y by omega] at this
  refine ⟨hx.lo, h1, h2, hl, fun y q1 q2 p hp q3 => ?_, fun p hp => ?_, by have := flat_par4 h hx; omega, hx.top⟩
  · by_cases e : y = x.lo
    · rw [e] at hp; rw [hx.par]; exact hp
    · rw [hx.one y (by omega) (by omega)] at hp
      simp at hp; omega
  · rw [hx.par] at hp
    exact ⟨(h.par hp).2, (Leads.par hp (h.par hp).2).trans (hl x.lo (Int.le_refl _) h1)⟩
theorem aFind {m o : List (List Int)} {L : List (List Seg)} (h : DagOK m o L) (i : Nat) (hi : i < L.length) (id : Int) : GPure Try.prog 64 [.slice (segsG (L.getD i [])) .none, .int .i64 id] (.tuple [.int .i64 (fnd id (L.getD i []) 0).1, .bool (fnd id (L.getD i []) 0).2]) :=
  spec33 _ _ id _ (by have := (h.size i).1; omega) fun k hk => ends_fnd (h.segs i hi).sorted id k hk
theorem DagOK.below {m o : List (List Int)} {L : List (List Seg)} (h : DagOK m o L) {i : Nat} (hi : i < L.length) {x : Seg} (hx : x ∈ L.getD i []) {id : Int} (hl : x.lo ≤ id) : ∀ s ∈ L.getD 0 [], s.lo ≤ id → id ≤ s.hi → x.lo ≤ s.lo := by
  intro s hs h1 h2
  obtain ⟨q, hq, e⟩ := h.lows i hi x hx
  rw [e]
  obtain ⟨a, ha, ea⟩ := List.getElem_of_mem hs
  obtain ⟨b, hb, eb⟩ := List.getElem_of_mem hq
  have ea' : (L.getD 0 []).getD a default = s := by rw [List.getD_eq_getElem?_getD, List.getElem?_eq_getElem ha]; exact ea
  have eb' : (L.getD 0 []).getD b default = q := by rw [List.getD_eq_getElem?_getD, List.getElem?_eq_getElem hb]; exact eb
  have so := (h.segs 0 (by have := h.len1; omega)).sorted
  by_cases c : a < b
  · have := so.at_ a b c hb
    rw [ea', eb'] at this
    omega
  · by_cases c2 : b < a
    · have := so.at_ b a c2 ha
      have := (h.flat q hq).le
      rw [ea', eb'] at *
      omega
    · have : a = b := by omega
      subst this
      rw [← ea', ← eb']; omega
theorem aWhole {m o : List (List Int)} {L : List (List Seg)} (h : DagOK m o L) (id : Int) (hid : inT m o id) (st : Nat) (kk : Int) (hk : 0 ≤ kk ∧ kk ≤ 1000000000) :
    GCalls Try.prog 38 [.ptr 0 st 0 0, .int .i64 id] [.row st 3 [dagG L (allN L) kk]] (fun g O' => ∃ x', O' = [x'] ∧ ∃ x k', g = .agg (segG x) ∧ x' = .row st 3 [dagG L (allN L) k'] ∧ kk + 1 ≤ k' ∧ k' ≤ kk + L.length ∧ Tells m o x id ∧ ∀ s ∈ L.getD 0 [], s.lo ≤ id → id ≤ s.hi → x.lo ≤ s.lo) := by
  have hL1 := h.len1
  have hL4 := h.len4
  have hidr := inT_range h.tok hid
  refine GCalls.dropTo ?_
  refine h38.calls mixS (by simp) ?_
  simp only [gstart, s38, List.cons_append, List.nil_append, List.length_cons, List.length_nil, Nat.reduceAdd, Nat.reduceSub, List.replicate_succ, List.replicate_zero]
  simp +contextual -implicitDefEqProofs (maxSteps := 2000000) (disch := omega) only [↓lenV, binV, ↓loadV, ↓storeV, ↓fieldAddrV, ↓indexAddrV, ↓allocV, ↓nil_ptr, ↓nil_ref, GVal.cells, grp, GVal.ofConst, ↓resV, resG, List.map, List.headD, List.take, List.drop, ↓reduceIte, Nat.reduceEqDiff, Nat.reduceAdd, Nat.reduceSub, Nat.reduceLeDiff, reduceCtorEq, implies_true, ne_eq, aggV, Tag.cap, List.replicate, allSolid, GVal.solid, Nat.reduceBEq, Nat.reduceMul, Nat.reduceLT, List.length_map, List.length_range, splice, vcA, ↓vcB, vcC, fbFf, e38, levsG_length]
  intro w
  refine vcSLoop_by (ι := { p : Nat × Int // p.1 < L.length ∧ kk ≤ p.2 ∧ p.2 + p.1 + 1 ≤ kk + L.length }) (fun p => ⟨[.ptr 0 st 0 0, .int .i64 id, .any, .any, .ptr 1 w 0 0, .int .i64 (p.1.1 : Nat)] ++ List.replicate 78 .any, [.row st 3 [dagG L (allN L) p.1.2], .row w 5 [[.int .i64 0, .int .i64 0, .slice [] .nil, .bool false, .bool false]]]⟩) (fun p => p.1.1) ?_ ?_
  · exact Into.first ⟨(L.length - 1, kk), by show L.length - 1 < _; omega, Int.le_refl _, by show kk + ((L.length - 1 : Nat) : Int) + 1 ≤ _; omega⟩ ⟨[], by simp⟩ (by simp [WL, leG_self, leG_any, leG_int] <;> omega)
  · rintro ⟨⟨i, k'⟩, hi, hk1, hk2⟩
    change i < L.length at hi
    change kk ≤ k' at hk1
    change k' + i + 1 ≤ kk + L.length at hk2
    obtain ⟨j, hj, hin, hfd⟩ := h.seg hi hid
    obtain ⟨j0, hj0, hin0, hfd0⟩ := h.seg (i := 0) (by omega) hid
    have cF := aFind h i hi id
    have cF0 := aFind h 0 (by omega) id
    rw [hfd] at cF
    rw [hfd0] at cF0
    simp only [] at cF cF0
    have eL := levsG_at L i hi
    have hsH := h.segH hi hj
    have hF0 := h.flat _ (seg_mem hj0)
    have eS := segsG_at (L.getD i []) j hj
    have eS0 := segsG_at (L.getD 0 []) j0 hj0
    obtain ⟨h1, h2⟩ := hin
    obtain ⟨h3, h4⟩ := hin0
    have T0 := hF0.tells h.tok h3 h4
    have TH := hsH.tells h.tok
    have W0 := h.below (by omega) (seg_mem hj0) h3
    have WH := h.below hi (seg_mem hj) h1
    clear hsH hF0 hfd hfd0
    generalize (L.getD i []).getD j default = x at *
    generalize (L.getD 0 []).getD j0 default = x0 at *
    by_cases h0 : 0 < i
    · have d0 : ((0 : Int) < (i : Int)) = True := eq_true (by omega)
      by_cases e : x.hi = id
      · have d1 : (x.hi == id) = true := by simpa using e
        simp +contextual -implicitDefEqProofs (maxSteps := 2000000) (disch := omega) only [↓lenV, binV, ↓loadV, ↓storeV, ↓fieldAddrV, ↓indexAddrV, ↓allocV, ↓nil_ptr, ↓nil_ref, GVal.cells, grp, GVal.ofConst, ↓resV, resG, List.map, List.headD, List.take, List.drop, ↓reduceIte, Nat.reduceEqDiff, Nat.reduceAdd, Nat.reduceSub, Nat.reduceLeDiff, reduceCtorEq, implies_true, ne_eq, aggV, Tag.cap, List.replicate, allSolid, GVal.solid, Nat.reduceBEq, Nat.reduceMul, Nat.reduceLT, List.length_map, List.length_range, splice, vcA, ↓vcB, vcC, fbFf, e38, levsG_length, d0, eL]
        refine ⟨by omega, by omega, ?_⟩
        refine cF.then ?_ (by rfl)
        simp +contextual -implicitDefEqProofs (maxSteps := 2000000) (disch := omega) only [↓lenV, binV, ↓loadV, ↓storeV, ↓fieldAddrV, ↓indexAddrV, ↓allocV, ↓nil_ptr, ↓nil_ref, GVal.cells, grp, GVal.ofConst, ↓resV, resG, List.map, List.headD, List.take, List.drop, ↓reduceIte, Nat.reduceEqDiff, Nat.reduceAdd, Nat.reduceSub, Nat.reduceLeDiff, reduceCtorEq, implies_true, ne_eq, aggV, Tag.cap, List.replicate, allSolid, GVal.solid, Nat.reduceBEq, Nat.reduceMul, Nat.reduceLT, List.length_map, List.length_range, splice, vcA, ↓vcB, vcC, fbFf, e38, levsG_length, d0, eL, segsG_length, eS, segG, d1]
        refine ⟨by omega, by omega, by omega, by omega, by omega, by omega, by omega, by omega, ?_⟩
        exact ⟨.agg (segG x), [.row st 3 [dagG L (allN L) (k' + 1)]], [_], rfl, by rw [leA_agg]; simp [segG, WL, leG_self], _, rfl, x, k' + 1, rfl, rfl, by omega, by omega, by rw [← e]; exact TH, WH⟩
      · have d1 : (x.hi == id) = false := by simpa using e
        simp +contextual -implicitDefEqProofs (maxSteps := 2000000) (disch := omega) only [↓lenV, binV, ↓loadV, ↓storeV, ↓fieldAddrV, ↓indexAddrV, ↓allocV, ↓nil_ptr, ↓nil_ref, GVal.cells, grp, GVal.ofConst, ↓resV, resG, List.map, List.headD, List.take, List.drop, ↓reduceIte, Nat.reduceEqDiff, Nat.reduceAdd, Nat.reduceSub, Nat.reduceLeDiff, reduceCtorEq, implies_true, ne_eq, aggV, Tag.cap, List.replicate, allSolid, GVal.solid, Nat.reduceBEq, Nat.reduceMul, Nat.reduceLT, List.length_map, List.length_range, splice, vcA, ↓vcB, vcC, fbFf, e38, levsG_length, d0, eL]
        refine ⟨by omega, by omega, ?_⟩
        refine cF.then ?_ (by rfl)
        simp +contextual -implicitDefEqProofs (maxSteps := 2000000) (disch := omega) only [↓lenV, binV, ↓loadV, ↓storeV, ↓fieldAddrV, ↓indexAddrV, ↓allocV, ↓nil_ptr, ↓nil_ref, GVal.cells, grp, GVal.ofConst, ↓resV, resG, List.map, List.headD, List.take, List.drop, ↓reduceIte, Nat.reduceEqDiff, Nat.reduceAdd, Nat.reduceSub, Nat.reduceLeDiff, reduceCtorEq, implies_true, ne_eq, aggV, Tag.cap, List.replicate, allSolid, GVal.solid, Nat.reduceBEq, Nat.reduceMul, Nat.reduceLT, List.length_map, List.length_range, splice, vcA, ↓vcB, vcC, fbFf, e38, levsG_length, d0, eL, segsG_length, eS, segG, d1]
        refine ⟨by omega, by omega, by omega, by omega, ?_⟩
        exact Into.at ⟨(i - 1, k' + 1), by show i - 1 < _; omega, by show kk ≤ k' + 1; omega, by show k' + 1 + ((i - 1 : Nat) : Int) + 1 ≤ _; omega⟩ (by show i - 1 < i; omega) ⟨[], rfl⟩ (by simp [WL, leG_self, leG_any, leG_int] <;> omega)
    · have d0 : ((0 : Int) < (i : Int)) = False := eq_false (by omega)
      simp +contextual -implicitDefEqProofs (maxSteps := 2000000) (disch := omega) only [↓lenV, binV, ↓loadV, ↓storeV, ↓fieldAddrV, ↓indexAddrV, ↓allocV, ↓nil_ptr, ↓nil_ref, GVal.cells, grp, GVal.ofConst, ↓resV, resG, List.map, List.headD, List.take, List.drop, ↓reduceIte, Nat.reduceEqDiff, Nat.reduceAdd, Nat.reduceSub, Nat.reduceLeDiff, reduceCtorEq, implies_true, ne_eq, aggV, Tag.cap, List.replicate, allSolid, GVal.solid, Nat.reduceBEq, Nat.reduceMul, Nat.reduceLT, List.length_map, List.length_range, splice, vcA, ↓vcB, vcC, fbFf, e38, levsG_length, d0]
      refine (aFlat L (allN L) h.len1).then ?_
      simp +contextual -implicitDefEqProofs (maxSteps := 2000000) (disch := omega) only [↓lenV, binV, ↓loadV, ↓storeV, ↓fieldAddrV, ↓indexAddrV, ↓allocV, ↓nil_ptr, ↓nil_ref, GVal.cells, grp, GVal.ofConst, ↓resV, resG, List.map, List.headD, List.take, List.drop, ↓reduceIte, Nat.reduceEqDiff, Nat.reduceAdd, Nat.reduceSub, Nat.reduceLeDiff, reduceCtorEq, implies_true, ne_eq, aggV, Tag.cap, List.replicate, allSolid, GVal.solid, Nat.reduceBEq, Nat.reduceMul, Nat.reduceLT, List.length_map, List.length_range, splice, vcA, ↓vcB, vcC, fbFf, e38, levsG_length, d0]
      refine cF0.then ?_ (by rfl)
      simp +contextual -implicitDefEqProofs (maxSteps := 2000000) (disch := omega) only [↓lenV, binV, ↓loadV, ↓storeV, ↓fieldAddrV, ↓indexAddrV, ↓allocV, ↓nil_ptr, ↓nil_ref, GVal.cells, grp, GVal.ofConst, ↓resV, resG, List.map, List.headD, List.take, List.drop, ↓reduceIte, Nat.reduceEqDiff, Nat.reduceAdd, Nat.reduceSub, Nat.reduceLeDiff, reduceCtorEq, implies_true, ne_eq, aggV, Tag.cap, List.replicate, allSolid, GVal.solid, Nat.reduceBEq, Nat.reduceMul, Nat.reduceLT, List.length_map, List.length_range, splice, vcA, ↓vcB, vcC, fbFf, e38, levsG_length, d0, ext_0, ext_1]
      refine (aFlat L (allN L) h.len1).then ?_
      simp +contextual -implicitDefEqProofs (maxSteps := 2000000) (disch := omega) only [↓lenV, binV, ↓loadV, ↓storeV, ↓fieldAddrV, ↓indexAddrV, ↓allocV, ↓nil_ptr, ↓nil_ref, GVal.cells, grp, GVal.ofConst, ↓resV, resG, List.map, List.headD, List.take, List.drop, ↓reduceIte, Nat.reduceEqDiff, Nat.reduceAdd, Nat.reduceSub, Nat.reduceLeDiff, reduceCtorEq, implies_true, ne_eq, aggV, Tag.cap, List.replicate, allSolid, GVal.solid, Nat.reduceBEq, Nat.reduceMul, Nat.reduceLT, List.length_map, List.length_range, splice, vcA, ↓vcB, vcC, fbFf, e38, levsG_length, segsG_length, d0, eS0, segG]
      exact ⟨by omega, by omega, .agg (segG x0), [.row st 3 [dagG L (allN L) (k' + 1)]], [_], rfl, by rw [leA_agg]; simp [segG, WL, leG_self], _, rfl, x0, k' + 1, rfl, rfl, by omega, by omega, T0, W0⟩
/-- how many segments begin there or later -/
def cntB (l : List Seg) (B : Int) : Nat := (l.filter fun s => decide (B ≤ s.lo)).length
theorem cntB_le (l : List Seg) (B : Int) : cntB l B ≤ l.length := List.length_filter_le _ _
theorem cntB_mono : ∀ (l : List Seg) {B B' : Int}, B' ≤ B → cntB l B ≤ cntB l B'
  | [], _, _, _ => Nat.le_refl _
  | s :: r, B, B', h => by
    have := cntB_mono r h
    unfold cntB at *
    simp only [List.filter_cons]
    by_cases c : B ≤ s.lo
    · rw [if_pos (by simpa using c), if_pos (by simp; omega)]; simp; exact this
    · rw [if_neg (by simpa using c)]
      split
      · simp; omega
      · exact this
theorem cntB_step : ∀ (l : List Seg) {B B' : Int} {s : Seg}, s ∈ l → s.lo < B → B' ≤ s.lo → cntB l B + 1 ≤ cntB l B'
  | [], _, _, s, hs, _, _ => by simp at hs
  | a :: r, B, B', s, hs, h1, h2 => by
    rcases List.mem_cons.1 hs with rfl | hs
    · have := cntB_mono r (B := B) (B' := B') (by omega)
      unfold cntB at *
      simp only [List.filter_cons]
      rw [if_neg (by simp; omega), if_pos (by simpa using h2)]; simp; exact this
    · have := cntB_step r hs h1 h2
      unfold cntB at *
      simp only [List.filter_cons]
      by_cases c : B ≤ a.lo
      · rw [if_pos (by simpa using c), if_pos (by simp; omega)]; simp; exact this
      · rw [if_neg (by simpa using c)]
        split
        · simp; omega
        · exact this
theorem filter_lt {α : Type} (p q : α → Bool) : ∀ (l : List α), (∀ x ∈ l, q x = true → p x = true) → (∃ x ∈ l, p x = true ∧ q x = false) → (l.filter q).length < (l.filter p).length
  | [], _, ⟨x, hx, _⟩ => by simp at hx
  | a :: r, h, hx => by
    have mono : ∀ (l : List α), (∀ x ∈ l, q x = true → p x = true) → (l.filter q).length ≤ (l.filter p).length := by
      intro l
      induction l with
      | nil => intro _; exact Nat.le_refl _
      | cons b t ih =>
        intro hh
        have := ih fun x hx => hh x (by simp [hx])
        have hb := hh b (by simp)
        simp only [List.filter_cons]
        cases hq : q b with
        | true => rw [hb hq]; simpa using this
        | false => cases p b <;> simp <;> omega
    obtain ⟨x, hx, h1, h2⟩ := hx
    simp only [List.filter_cons]
    rcases List.mem_cons.1 hx with rfl | hx
    · have := mono r fun y hy => h y (by simp [hy])
      rw [h1, h2]; simp; omega
    · have := filter_lt p q r (fun y hy => h y (by simp [hy])) ⟨x, hx, h1, h2⟩
      have ha := h a (by simp)
      cases hq : q a with
      | true => rw [ha hq]; simpa using this
      | false => cases p a <;> simp <;> omega
/-- how many IDs a set lacks -/
def lackN (m o : List (List Int)) (s : List Sp.S) : Nat := ((allI m.length o.length).filter fun x => !Sp.hasB s x).length
structure AncI (m o : List (List Int)) (L : List (List Seg)) (s : List Sp.S) (kk : Int) (out todo : List Sp.S) (k : Int) : Prop where
  r1 : Sp.Rt 0 out
  r2 : Sp.Rt 0 todo
  o1 : ∀ n, Sp.has out n → inT m o n ∧ aP m o s n
  t1 : ∀ n, Sp.has todo n → inT m o n ∧ aP m o s n
  all : ∀ n, inT m o n → Sp.has s n → Sp.has out n ∨ Sp.has todo n
  cl : ∀ n p, Sp.has out n → p ∈ parI m o n → Sp.has out p ∨ Sp.has todo p
  dis : ∀ n, Sp.has todo n → ¬ Sp.has out n
  cnt : ∃ B : Int, (∀ n, Sp.has todo n → n < B) ∧ kk ≤ k ∧ k ≤ kk + ((L.length * cntB (L.getD 0 []) B : Nat) : Int)
  one : kk + 1 ≤ k ∨ todo = idsP m o (Sp.has s)
theorem rt_ids {m o : List (List Int)} {l : List Sp.S} (h : Sp.Rt 0 l) (hn : ∀ n, Sp.has l n → inT m o n) : l = idsP m o (Sp.has l) := idsP_eq h fun n => ⟨fun q => ⟨hn n q, q⟩, fun q => q.2⟩
theorem AncI.done {m o : List (List Int)} (h : TOK m o) {L : List (List Seg)} {s out : List Sp.S} {kk k : Int} (hI : AncI m o L s kk out [] k) : out = idsP m o (aP m o s) := by
  refine idsP_eq hI.r1 fun n => ⟨fun q => hI.o1 n q, fun ⟨hn, b, hb, hs, hl⟩ => ?_⟩
  have hb' : Sp.has out b := (hI.all b hb hs).elim id fun q => absurd q (by simp [Sp.has])
  classical
  have := hl ((allI m.length o.length).filter fun x => decide (Sp.has out x)) (by simp only [List.mem_filter, decide_eq_true_iff]; exact ⟨(allI_hasI _ _ _).2 hb, hb'⟩) (by
    intro x hx p hp hpt
    simp only [List.mem_filter, decide_eq_true_iff] at hx ⊢
    exact ⟨(allI_hasI _ _ _).2 hpt, (hI.cl x p hx.2 hp).elim id fun q => absurd q (by simp [Sp.has])⟩)
  simp only [List.mem_filter, decide_eq_true_iff] at this
  exact this.2
theorem AncI.step {m o : List (List Int)} {L : List (List Seg)} (h : DagOK m o L) {s out todo : List Sp.S} {kk k k2 high : Int} {x : Seg} (hI : AncI m o L s kk out todo k) (hh : Sp.has todo high) (hm : ∀ n, Sp.has todo n → n ≤ high)
    (T : Tells m o x high) (W : ∀ s ∈ L.getD 0 [], s.lo ≤ high → high ≤ s.hi → x.lo ≤ s.lo) (h1 : k + 1 ≤ k2) (h2 : k2 ≤ k + L.length) :
    AncI m o L s kk (Sp.uni out [(x.lo, high)]) (Sp.minus (Sp.uni todo (Sp.nf (x.par.map fun i => (i, i)))) (Sp.uni out [(x.lo, high)])) k2 ∧
      lackN m o (Sp.uni out [(x.lo, high)]) < lackN m o out := by
  have hT := hI.t1 high hh
  have Tlo := T.lo
  have okO : Sp.Ok out := by rw [rt_ids hI.r1 fun n q => (hI.o1 n q).1]; exact idsP_ok h.tok _
  have okT : Sp.Ok todo := by rw [rt_ids hI.r2 fun n q => (hI.t1 n q).1]; exact idsP_ok h.tok _
  have okX : Sp.Ok [(x.lo, high)] := fun q hq => by
    simp at hq; subst hq
    have := inT_range h.tok hT.1
    have := T.le
    simp only; omega
  have okP := idsOk h.tok fun p hp => (T.par p hp).1
  have hX : ∀ n, Sp.has [(x.lo, high)] n ↔ x.lo ≤ n ∧ n ≤ high := fun n => by
    unfold Sp.has; simp; omega
  have hP : ∀ n, Sp.has (Sp.nf (x.par.map fun i => (i, i))) n ↔ n ∈ x.par := fun n => by
    rw [Sp.nf_has, has_ones _ _ fun p hp => (inT_range h.tok (T.par p hp).1).1]
  have hO : ∀ n, Sp.has (Sp.uni out [(x.lo, high)]) n ↔ Sp.has out n ∨ (x.lo ≤ n ∧ n ≤ high) := fun n => by rw [Sp.uni_has, hX]
  have hQ : ∀ n, Sp.has (Sp.minus (Sp.uni todo (Sp.nf (x.par.map fun i => (i, i)))) (Sp.uni out [(x.lo, high)])) n ↔ (Sp.has todo n ∨ n ∈ x.par) ∧ ¬ (Sp.has out n ∨ (x.lo ≤ n ∧ n ≤ high)) := fun n => by
    rw [Sp.minus_has (Sp.uni_ok okT (Sp.nf_ok okP)) (Sp.uni_ok okO okX), Sp.uni_has, hP, hO]
  have anc : ∀ n, Leads m o n high → aP m o s n := fun n hl => by
    obtain ⟨b, hb, hs, hl2⟩ := hT.2
    exact ⟨b, hb, hs, hl.trans hl2⟩
  have inX : ∀ n, x.lo ≤ n → n ≤ high → inT m o n ∧ aP m o s n := fun n q1 q2 => ⟨leads_in (T.lead n q1 q2) hT.1, anc n (T.lead n q1 q2)⟩
  refine ⟨⟨Sp.uni_rt _ _, Sp.minus_rt _ _, fun n q => ?_, fun n q => ?_, fun n q1 q2 => ?_, fun n p q hp => ?_, fun n q => ?_, ?_, .inl ?_⟩, ?_⟩
  · rcases (hO n).1 q with q | q
    · exact hI.o1 n q
    · exact inX n q.1 q.2
  · rcases ((hQ n).1 q).1 with q | q
    · exact hI.t1 n q
    · exact ⟨(T.par n q).1, anc n (T.par n q).2⟩
  · rw [hO, hQ]
    rcases hI.all n q1 q2 with q | q
    · exact .inl (.inl q)
    · by_cases c : Sp.has out n ∨ (x.lo ≤ n ∧ n ≤ high)
      · exact .inl c
      · exact .inr ⟨.inl q, c⟩
  · rw [hO, hQ]
    by_cases c : Sp.has out p ∨ (x.lo ≤ p ∧ p ≤ high)
    · exact .inl c
    · refine .inr ⟨?_, c⟩
      rcases (hO n).1 q with q | q
      · rcases hI.cl n p q hp with q | q
        · exact absurd (.inl q) c
        · exact .inl q
      · have := h.tok.par hp
        exact .inr (T.all n q.1 q.2 p hp (by
          by_cases c2 : p < x.lo
          · exact c2
          · exact absurd (.inr ⟨by omega, by omega⟩) c))
  · rw [hO]; exact ((hQ n).1 q).2
  · obtain ⟨B, hB, hk1, hk2⟩ := hI.cnt
    obtain ⟨j, hj, hin, _⟩ := h.seg (i := 0) (by have := h.len1; omega) hT.1
    have hs0 := seg_mem hj
    generalize (L.getD 0 []).getD j default = s0 at *
    have hlo := W s0 hs0 hin.1 hin.2
    have hb := hB high hh
    have hin1 := hin.1
    have c1 := cntB_step (L.getD 0 []) (B := B) (B' := x.lo) hs0 (by omega) hlo
    refine ⟨x.lo, fun n q => ?_, by omega, ?_⟩
    · obtain ⟨q1, q2⟩ := (hQ n).1 q
      rcases q1 with q1 | q1
      · have := hm n q1
        by_cases c2 : n < x.lo
        · exact c2
        · exact absurd (.inr ⟨by omega, this⟩) q2
      · have := leads_le h.tok (T.par n q1).2
        by_cases c2 : n < x.lo
        · exact c2
        · exact absurd (.inr ⟨by omega, this⟩) q2
    · have c2 : L.length * (cntB (L.getD 0 []) B + 1) ≤ L.length * cntB (L.getD 0 []) x.lo := Nat.mul_le_mul_left _ c1
      rw [Nat.mul_succ] at c2
      omega
  · obtain ⟨B, hB, hk1, hk2⟩ := hI.cnt
    omega
  · refine filter_lt _ _ _ (fun n _ q => ?_) ⟨high, (allI_hasI _ _ _).2 hT.1, ?_, ?_⟩
    · simp only [Bool.not_eq_true'] at q ⊢
      cases hq : Sp.hasB out n with
      | false => rfl
      | true =>
        have := (Sp.hasB_iff _ _).2 ((hO n).2 (.inl ((Sp.hasB_iff _ _).1 hq)))
        rw [this] at q; cases q
    · simp only [Bool.not_eq_true']
      cases hq : Sp.hasB out high with
      | false => rfl
      | true => exact absurd ((Sp.hasB_iff _ _).1 hq) (hI.dis high hh)
    · simp only [Bool.not_eq_false']
      exact (Sp.hasB_iff _ _).2 ((hO high).2 (.inr ⟨T.le, Int.le_refl _⟩))
end Gv.Try
/- Contracts: ancestors of a set. -/
set_option linter.unusedVariables false
set_option linter.unusedSimpArgs false
set_option maxRecDepth 20000
set_option maxHeartbeats 8000000
namespace Gv.Try
open Go Gv Go.Proofs
theorem rt_last {l : List Sp.S} (h : Sp.Rt 0 l) {n : Int} (hn : Sp.has l n) : n ≤ (l.getD (l.length - 1) (0, 0)).2 := by
  rcases List.eq_nil_or_concat l with e | ⟨A, x, e⟩
  · subst e; simp [Sp.has] at hn
  · subst e
    rw [List.concat_eq_append] at *
    have e1 : (A ++ [x]).length - 1 = A.length := by simp
    rw [e1, getD_last]
    obtain ⟨_, _, h3, h4⟩ := (Sp.Rt_snoc x A 0).1 h
    rcases (Sp.has_app _ _ _).1 hn with ⟨y, hy, q1, q2, q3⟩ | ⟨y, hy, q1, q2, q3⟩
    · have := h4 y hy; omega
    · simp at hy; subst hy; exact q3
theorem aAncestors {m o : List (List Int)} {L : List (List Seg)} (h : DagOK m o L) (s : List Sp.S) (t : Tag) (hl : s.length ≤ 1000000) (hs : Sp.Ok s) (st : Nat) (kk : Int) (hk : 0 ≤ kk ∧ kk ≤ 100000000) :
    GCalls Try.prog 12 [.ptr 0 st 0 0, .slice (spl s) t] [.row st 3 [dagG L (allN L) kk]] (fun g O' => ∃ x', O' = [x'] ∧ ∃ k', g = .slice (spl (idsP m o (aP m o s))) .none ∧ x' = .row st 3 [dagG L (allN L) k'] ∧ kk ≤ k' ∧ k' ≤ kk + ((L.length * (L.getD 0 []).length : Nat) : Int) ∧ (idsP m o (Sp.has s) ≠ [] → kk + 1 ≤ k')) := by
  have hN := h.allLen
  have hT := h.tok.len
  have hL1 := h.len1
  have hL4 := h.len4
  have hll := (h.size 0).1
  have hfz : ∀ B, L.length * cntB (L.getD 0 []) B ≤ L.length * (L.getD 0 []).length := fun B => Nat.mul_le_mul_left _ (cntB_le _ _)
  have hf2 : L.length * (L.getD 0 []).length ≤ 4 * 1000 := Nat.mul_le_mul hL4 hll
  refine h12.calls mixS (by simp) ?_
  simp only [gstart, s12, List.cons_append, List.nil_append, List.length_cons, List.length_nil, Nat.reduceAdd, Nat.reduceSub, List.replicate_succ, List.replicate_zero]
  simp +contextual -implicitDefEqProofs (maxSteps := 2000000) (disch := omega) only [↓unV, optV, ↓loadV, ↓storeV, ↓fieldAddrV, ↓allocV, ↓buildV, ↓buildSliceV, ↓sliceV, bound, cutTag, hiTag, fillG, fillE, place, GVal.cells, grp, GVal.ofConst, ↓resV, resG, List.map, List.headD, List.take, List.drop, ↓reduceIte, Nat.reduceEqDiff, Nat.reduceAdd, Nat.reduceSub, Nat.reduceLeDiff, reduceCtorEq, implies_true, ne_eq, Tag.cap, List.replicate, allSolid, GVal.solid, Nat.reduceBEq, Nat.reduceMul, Nat.reduceLT, List.length_map, List.length_range, splice, vcA, ↓vcB, vcC, fbFf, e12]
  refine (aThere L (allN L) s t (by omega) hs h.allOk).then ?_
  rw [h.thereEq s]
  simp +contextual -implicitDefEqProofs (maxSteps := 2000000) (disch := omega) only [↓unV, optV, ↓loadV, ↓storeV, ↓fieldAddrV, ↓allocV, ↓buildV, ↓buildSliceV, ↓sliceV, bound, cutTag, hiTag, fillG, fillE, place, GVal.cells, grp, GVal.ofConst, ↓resV, resG, List.map, List.headD, List.take, List.drop, ↓reduceIte, Nat.reduceEqDiff, Nat.reduceAdd, Nat.reduceSub, Nat.reduceLeDiff, reduceCtorEq, implies_true, ne_eq, Tag.cap, List.replicate, allSolid, GVal.solid, Nat.reduceBEq, Nat.reduceMul, Nat.reduceLT, List.length_map, List.length_range, splice, vcA, ↓vcB, vcC, fbFf, e12]
  refine vcSLoop_by (ι := { p : List Sp.S × List Sp.S × Int // AncI m o L s kk p.1 p.2.1 p.2.2 }) (fun p => ⟨[.ptr 0 st 0 0, .any, .any, .any, .any, .slice (spl p.1.1) .none, .slice (spl p.1.2.1) .none] ++ List.replicate 33 .any, [.row st 3 [dagG L (allN L) p.1.2.2]]⟩) (fun p => lackN m o p.1.1) ?_ ?_
  · refine Into.first ⟨([], idsP m o (Sp.has s), kk), ?_⟩ ⟨[], by simp⟩ (by simp [WL, leG_self, leG_any, leG_none, spl])
    have no : ∀ n, ¬ Sp.has [] n := fun n q => by simp [Sp.has] at q
    refine ⟨trivial, idsP_rt _ _ _, fun n q => absurd q (no n), fun n q => ?_, fun n q1 q2 => .inr ((idsP_has _ _ _ _).2 ⟨q1, q2⟩), fun n p q => absurd q (no n), fun n q => no n, ⟨1099511628777, fun n q => ?_, Int.le_refl _, by show kk ≤ kk + _; omega⟩, .inr rfl⟩
    · have := (idsP_has _ _ _ _).1 q
      exact ⟨this.1, n, this.1, this.2, Leads.refl m o n⟩
    · have := inT_range h.tok ((idsP_has _ _ _ _).1 q).1; omega
  · rintro ⟨⟨out, todo, k⟩, hI⟩
    change AncI m o L s kk out todo k at hI
    have eO := rt_ids hI.r1 fun n q => (hI.o1 n q).1
    have eT := rt_ids hI.r2 fun n q => (hI.t1 n q).1
    have lO : out.length ≤ 1000 := by rw [eO]; have := idsP_len m o (Sp.has out); omega
    have lT : todo.length ≤ 1000 := by rw [eT]; have := idsP_len m o (Sp.has todo); omega
    have okO : Sp.Ok out := by rw [eO]; exact idsP_ok h.tok _
    have okT : Sp.Ok todo := by rw [eT]; exact idsP_ok h.tok _
    have cH := sHigh todo .none (by omega) okT
    rw [Sp.nf_rt_eq hI.r2] at cH
    unfold highV at cH
    obtain ⟨B, hB, hk1, hk2⟩ := hI.cnt
    have hb := hfz B
    by_cases h0 : 0 < todo.length
    · rw [decide_eq_true h0] at cH
      have hmem : todo.getD (todo.length - 1) (0, 0) ∈ todo := by
        rw [List.getD_eq_getElem?_getD, List.getElem?_eq_getElem (by omega)]; exact List.getElem_mem _
      have hhas := hI.r2.hi (Int.le_refl _) hmem
      have hmax : ∀ n, Sp.has todo n → n ≤ (todo.getD (todo.length - 1) (0, 0)).2 := fun n q => rt_last hI.r2 q
      have hin := hI.t1 _ hhas
      have hr := inT_range h.tok hin.1
      generalize (todo.getD (todo.length - 1) (0, 0)).2 = high at *
      simp +contextual -implicitDefEqProofs (maxSteps := 2000000) (disch := omega) only [↓unV, optV, ↓loadV, ↓storeV, ↓fieldAddrV, ↓allocV, ↓buildV, ↓buildSliceV, ↓sliceV, bound, cutTag, hiTag, fillG, fillE, place, GVal.cells, grp, GVal.ofConst, ↓resV, resG, List.map, List.headD, List.take, List.drop, ↓reduceIte, Nat.reduceEqDiff, Nat.reduceAdd, Nat.reduceSub, Nat.reduceLeDiff, reduceCtorEq, implies_true, ne_eq, Tag.cap, List.replicate, allSolid, GVal.solid, Nat.reduceBEq, Nat.reduceMul, Nat.reduceLT, List.length_map, List.length_range, splice, vcA, ↓vcB, vcC, fbFf, e12]
      refine cH.then ?_ (by rfl)
      simp +contextual -implicitDefEqProofs (maxSteps := 2000000) (disch := omega) only [↓unV, optV, ↓loadV, ↓storeV, ↓fieldAddrV, ↓allocV, ↓buildV, ↓buildSliceV, ↓sliceV, bound, cutTag, hiTag, fillG, fillE, place, GVal.cells, grp, GVal.ofConst, ↓resV, resG, List.map, List.headD, List.take, List.drop, ↓reduceIte, Nat.reduceEqDiff, Nat.reduceAdd, Nat.reduceSub, Nat.reduceLeDiff, reduceCtorEq, implies_true, ne_eq, Tag.cap, List.replicate, allSolid, GVal.solid, Nat.reduceBEq, Nat.reduceMul, Nat.reduceLT, List.length_map, List.length_range, splice, vcA, ↓vcB, vcC, fbFf, e12]
      refine (aWhole h high hin.1 st k (by omega)).mono ?_
      rintro g O' ⟨_, rfl, x, k2, rfl, rfl, hk3, hk4, T, W⟩
      obtain ⟨I2, hlack⟩ := hI.step h hhas hmax T W hk3 hk4
      have T1 := T.lo
      have T2 := T.le
      have okX : Sp.Ok [(x.lo, high)] := fun q hq => by simp at hq; subst hq; simp only; omega
      have okP := idsOk h.tok fun p hp => (T.par p hp).1
      have cU := sUnion out [(x.lo, high)] .none .full (by simp; omega) okO okX
      have lU := Sp.uni_len out [(x.lo, high)]
      have okU := Sp.uni_ok okO okX
      have cOf := sOf x.par .none T.len (getD_bounds (fun p hp => by have := inT_range h.tok (T.par p hp).1; omega) (by omega) (by omega))
      have lP := Sp.nf_len (x.par.map fun i => (i, i))
      rw [List.length_map] at lP
      have lX := T.len
      have cU2 := sUnion todo (Sp.nf (x.par.map fun i => (i, i))) .none .none (by omega) okT (Sp.nf_ok okP)
      have lU2 := Sp.uni_len todo (Sp.nf (x.par.map fun i => (i, i)))
      have okU2 := Sp.uni_ok okT (Sp.nf_ok okP)
      simp only [List.length_singleton] at lU
      have cM := sMinus (Sp.uni todo (Sp.nf (x.par.map fun i => (i, i)))) (Sp.uni out [(x.lo, high)]) .none .none (by omega) okU2 okU
      simp +contextual -implicitDefEqProofs (maxSteps := 2000000) (disch := omega) only [↓unV, optV, ↓loadV, ↓storeV, ↓fieldAddrV, ↓allocV, ↓buildV, ↓buildSliceV, ↓sliceV, bound, cutTag, hiTag, fillG, fillE, place, GVal.cells, grp, GVal.ofConst, ↓resV, resG, List.map, List.headD, List.take, List.drop, ↓reduceIte, Nat.reduceEqDiff, Nat.reduceAdd, Nat.reduceSub, Nat.reduceLeDiff, reduceCtorEq, implies_true, ne_eq, Tag.cap, List.replicate, allSolid, GVal.solid, Nat.reduceBEq, Nat.reduceMul, Nat.reduceLT, List.length_map, List.length_range, splice, vcA, ↓vcB, vcC, fbFf, e12, segG]
      intro w
      refine cU.then ?_ (by rfl)
      simp +contextual -implicitDefEqProofs (maxSteps := 2000000) (disch := omega) only [↓unV, optV, ↓loadV, ↓storeV, ↓fieldAddrV, ↓allocV, ↓buildV, ↓buildSliceV, ↓sliceV, bound, cutTag, hiTag, fillG, fillE, place, GVal.cells, grp, GVal.ofConst, ↓resV, resG, List.map, List.headD, List.take, List.drop, ↓reduceIte, Nat.reduceEqDiff, Nat.reduceAdd, Nat.reduceSub, Nat.reduceLeDiff, reduceCtorEq, implies_true, ne_eq, Tag.cap, List.replicate, allSolid, GVal.solid, Nat.reduceBEq, Nat.reduceMul, Nat.reduceLT, List.length_map, List.length_range, splice, vcA, ↓vcB, vcC, fbFf, e12, segG]
      refine cOf.then ?_ (by rfl)
      simp +contextual -implicitDefEqProofs (maxSteps := 2000000) (disch := omega) only [↓unV, optV, ↓loadV, ↓storeV, ↓fieldAddrV, ↓allocV, ↓buildV, ↓buildSliceV, ↓sliceV, bound, cutTag, hiTag, fillG, fillE, place, GVal.cells, grp, GVal.ofConst, ↓resV, resG, List.map, List.headD, List.take, List.drop, ↓reduceIte, Nat.reduceEqDiff, Nat.reduceAdd, Nat.reduceSub, Nat.reduceLeDiff, reduceCtorEq, implies_true, ne_eq, Tag.cap, List.replicate, allSolid, GVal.solid, Nat.reduceBEq, Nat.reduceMul, Nat.reduceLT, List.length_map, List.length_range, splice, vcA, ↓vcB, vcC, fbFf, e12, segG]
      refine cU2.then ?_ (by rfl)
      simp +contextual -implicitDefEqProofs (maxSteps := 2000000) (disch := omega) only [↓unV, optV, ↓loadV, ↓storeV, ↓fieldAddrV, ↓allocV, ↓buildV, ↓buildSliceV, ↓sliceV, bound, cutTag, hiTag, fillG, fillE, place, GVal.cells, grp, GVal.ofConst, ↓resV, resG, List.map, List.headD, List.take, List.drop, ↓reduceIte, Nat.reduceEqDiff, Nat.reduceAdd, Nat.reduceSub, Nat.reduceLeDiff, reduceCtorEq, implies_true, ne_eq, Tag.cap, List.replicate, allSolid, GVal.solid, Nat.reduceBEq, Nat.reduceMul, Nat.reduceLT, List.length_map, List.length_range, splice, vcA, ↓vcB, vcC, fbFf, e12, segG]
      refine cM.then ?_ (by rfl)
      simp +contextual -implicitDefEqProofs (maxSteps := 2000000) (disch := omega) only [↓unV, optV, ↓loadV, ↓storeV, ↓fieldAddrV, ↓allocV, ↓buildV, ↓buildSliceV, ↓sliceV, bound, cutTag, hiTag, fillG, fillE, place, GVal.cells, grp, GVal.ofConst, ↓resV, resG, List.map, List.headD, List.take, List.drop, ↓reduceIte, Nat.reduceEqDiff, Nat.reduceAdd, Nat.reduceSub, Nat.reduceLeDiff, reduceCtorEq, implies_true, ne_eq, Tag.cap, List.replicate, allSolid, GVal.solid, Nat.reduceBEq, Nat.reduceMul, Nat.reduceLT, List.length_map, List.length_range, splice, vcA, ↓vcB, vcC, fbFf, e12, segG]
      exact Into.at ⟨(Sp.uni out [(x.lo, high)], Sp.minus (Sp.uni todo (Sp.nf (x.par.map fun i => (i, i)))) (Sp.uni out [(x.lo, high)]), k2), I2⟩ hlack ⟨[.row w 5 [segG x]], by simp [segG]⟩ (by simp [WL, leG_self, leG_any])
    · rw [decide_eq_false h0] at cH
      have e : todo = [] := List.length_eq_zero_iff.1 (by omega)
      subst e
      have hd := hI.done h.tok
      simp +contextual -implicitDefEqProofs (maxSteps := 2000000) (disch := omega) only [↓unV, optV, ↓loadV, ↓storeV, ↓fieldAddrV, ↓allocV, ↓buildV, ↓buildSliceV, ↓sliceV, bound, cutTag, hiTag, fillG, fillE, place, GVal.cells, grp, GVal.ofConst, ↓resV, resG, List.map, List.headD, List.take, List.drop, ↓reduceIte, Nat.reduceEqDiff, Nat.reduceAdd, Nat.reduceSub, Nat.reduceLeDiff, reduceCtorEq, implies_true, ne_eq, Tag.cap, List.replicate, allSolid, GVal.solid, Nat.reduceBEq, Nat.reduceMul, Nat.reduceLT, List.length_map, List.length_range, splice, vcA, ↓vcB, vcC, fbFf, e12]
      refine cH.then ?_ (by rfl)
      simp +contextual -implicitDefEqProofs (maxSteps := 2000000) (disch := omega) only [↓unV, optV, ↓loadV, ↓storeV, ↓fieldAddrV, ↓allocV, ↓buildV, ↓buildSliceV, ↓sliceV, bound, cutTag, hiTag, fillG, fillE, place, GVal.cells, grp, GVal.ofConst, ↓resV, resG, List.map, List.headD, List.take, List.drop, ↓reduceIte, Nat.reduceEqDiff, Nat.reduceAdd, Nat.reduceSub, Nat.reduceLeDiff, reduceCtorEq, implies_true, ne_eq, Tag.cap, List.replicate, allSolid, GVal.solid, Nat.reduceBEq, Nat.reduceMul, Nat.reduceLT, List.length_map, List.length_range, splice, vcA, ↓vcB, vcC, fbFf, e12]
      refine ⟨_, rfl, k, by rw [hd], rfl, hk1, by omega, fun hne => ?_⟩
      rcases hI.one with q | q
      · exact q
      · exact absurd q.symm hne
end Gv.Try
/- A line of commits: its table, its ancestors. -/
set_option linter.unusedVariables false
set_option linter.unusedSimpArgs false
set_option maxRecDepth 20000
set_option maxHeartbeats 8000000
namespace Gv.Try
open Go Gv Go.Proofs
def rowN (i : Nat) : List Int := if i = 0 then [] else [(i : Int) - 1]
def lineM (n : Nat) : List (List Int) := (List.range n).map rowN
theorem lineM_len (n : Nat) : (lineM n).length = n := by simp [lineM]
theorem lineM_at (n i : Nat) (h : i < n) : (lineM n).getD i [] = rowN i := by simp [lineM, List.getD, h]
def rowG (i : Nat) : List GVal := if i = 0 then [.slice [] .nil] else [.slice [[.int .i64 ((i : Int) - 1)]] .full]
def lineG (n : Nat) : List (List GVal) := (List.range n).map rowG
theorem lineG_len (n : Nat) : (lineG n).length = n := by simp [lineG]
theorem lineG_succ (n : Nat) : lineG (n + 1) = lineG n ++ [rowG n] := by simp [lineG, List.range_succ]
theorem all_lineG (n : Nat) : (∀ x ∈ lineG n, x.length = 1) = True := eq_true fun x hx => by
  obtain ⟨i, _, rfl⟩ := List.mem_map.1 hx
  unfold rowG; split <;> rfl
theorem line_hasI (n : Nat) (x : Int) : inT (lineM n) [] x ↔ 0 ≤ x ∧ x < n := by
  unfold inT hasI
  rw [lineM_len, decide_eq_true_iff]
  have : split = 1099511627776 := rfl
  simp; omega
theorem line_par {n : Nat} (hn : n ≤ 1000) {x : Int} (h : 0 ≤ x) (h2 : x < n) : parI (lineM n) [] x = if x = 0 then [] else [x - 1] := by
  rw [parI_m _ _ _ h (by rw [lineM_len]; exact h2), Int.sub_zero, lineM_at _ _ (by omega), rowN]
  by_cases e : x = 0
  · subst e; rfl
  · rw [if_neg e, if_neg (by omega)]
    congr 1; omega
theorem line_tok (n : Nat) (hn : n ≤ 1000) : TOK (lineM n) [] := by
  refine ⟨by rw [lineM_len]; simp; exact hn, ?_⟩
  unfold rightI
  rw [Bool.and_eq_true]
  refine ⟨okG_of _ _ fun k hk => ?_, rfl⟩
  rw [lineM_len] at hk
  rw [lineM_at _ _ hk]
  unfold rowN
  by_cases e : k = 0
  · rw [if_pos e]; simp
  · rw [if_neg e]
    refine ⟨fun p hp => ?_, by simp, by simp⟩
    simp at hp; subst hp
    refine ⟨by omega, by omega, ?_⟩
    exact (line_hasI n _).2 (by omega)
theorem line_leads {n : Nat} (hn : n ≤ 1000) : ∀ (k : Nat) (b : Int), 0 ≤ b - k → b < n → Leads (lineM n) [] (b - k) b := by
  intro k
  induction k with
  | zero => intro b _ _; simp; exact Leads.refl _ _ b
  | succ k ih =>
    intro b h1 h2
    refine Leads.trans ?_ (ih b (by omega) h2)
    refine Leads.par ?_ ((line_hasI n _).2 (by omega))
    rw [line_par hn (by omega) (by omega), if_neg (by omega)]; simp; omega
theorem line_anc {n : Nat} (hn : n ≤ 1000) (a : Int) (h0 : 0 ≤ a) (h1 : a < n) : idsP (lineM n) [] (aP (lineM n) [] [(a, a)]) = [(0, a)] := by
  symm
  refine idsP_eq ⟨Int.le_refl _, h0, trivial⟩ fun x => ?_
  have hs : ∀ y, Sp.has [(a, a)] y ↔ y = a := fun y => by unfold Sp.has; simp; omega
  rw [line_hasI]
  constructor
  · rintro ⟨p, hp, q0, q1, q2⟩
    simp at hp; subst hp
    simp only at q1 q2
    refine ⟨⟨q0, by omega⟩, a, (line_hasI n _).2 ⟨h0, h1⟩, (hs a).2 rfl, ?_⟩
    have := line_leads hn (a - x).toNat a (by omega) h1
    rwa [show a - ((a - x).toNat : Int) = x by omega] at this
  · rintro ⟨⟨q0, q1⟩, b, hb, hs2, hl⟩
    have := (hs b).1 hs2
    subst this
    have := leads_le (line_tok n hn) hl
    exact ⟨_, List.mem_singleton.2 rfl, q0, by simp only; omega, by simp only; omega⟩
theorem okS_max {m o : List (List Int)} : ∀ (l : List Seg) (n : Nat), okS m o n l → ∀ s ∈ l, s.par = [s.lo - 1] → s.lo = split
  | [], n, h, s, hs, _ => by simp at hs
  | a :: r, n, h, s, hs, hp => by
    simp only [okS] at h
    obtain ⟨_, _, _, _, h7, h8⟩ := h
    rcases List.mem_cons.1 hs with rfl | hs
    · exact h7 hp
    · exact okS_max r _ h8 s hs hp
theorem line_one {n : Nat} (hn : n ≤ 1000) {L : List (List Seg)} (h : DagOK (lineM n) [] L) : (L.getD 0 []).length ≤ 1 := by
  have hz : ∀ s ∈ L.getD 0 [], s.lo = 0 := fun s hs => by
    have f := h.flat s hs
    have hr := (line_hasI n _).1 (f.inn s.lo (Int.le_refl _) f.le)
    by_cases e : s.lo = 0
    · exact e
    · have := okS_max _ 0 h.oks s hs (by rw [f.par, line_par hn hr.1 hr.2, if_neg e])
      have : split = 1099511627776 := rfl
      omega
  by_cases c : (L.getD 0 []).length ≤ 1
  · exact c
  · have a1 := hz _ (seg_mem (l := L.getD 0 []) (k := 0) (by omega))
    have a2 := hz _ (seg_mem (l := L.getD 0 []) (k := 1) (by omega))
    have := (h.segs 0 (by have := h.len1; omega)).sorted.at_ 0 1 (by omega) (by omega)
    have := (h.flat _ (seg_mem (l := L.getD 0 []) (k := 0) (by omega))).le
    omega
theorem line_levels {size : Int} {l : List Seg} {L : List (List Seg)} (hl : l.length ≤ 1) (h : LevOK size l L) : L.length = 1 := by
  obtain ⟨h1, h2, h3, h4, h5⟩ := h
  by_cases c : L.length = 1
  · exact c
  · obtain ⟨u1, u2⟩ := h4 0 (by omega)
    rw [h3] at u1 u2
    have e : L.getD (0 + 1) [] = [] := List.length_eq_zero_iff.1 (by omega)
    rw [e] at u1
    cases u1 with
    | nil => simp at u2
theorem GLess_map {α : Type} (f g : α → List GVal) : ∀ (l : List α), (∀ x, GLes (f x) (g x)) → GLess (l.map f) (l.map g)
  | [], _ => trivial
  | a :: r, h => ⟨h a, GLess_map f g r h⟩
theorem line_frz (O : List GObj) (n k u : Nat) : frzS (.agg [.slice (tabG (lineM k)) .none, .slice [] .none]) (.agg [.slice (lineG k) (.tok n u), .slice [] .nil]) O := by
  have e : frzLL (Gv.frz O 6) (lineG k) = some (lineG k) := frzLL_same fun x hx => by
    obtain ⟨i, _, rfl⟩ := List.mem_map.1 hx
    unfold rowG
    split <;> rfl
  have e2 : Gv.frz O 7 (.slice (lineG k) (.tok n u)) = some (.slice (lineG k) .none) := by rw [Gv.frz, e]; rfl
  have e3 : Gv.frz O 7 (.slice [] .nil) = some (.slice [] .nil) := rfl
  refine ⟨8, .agg [.slice (lineG k) .none, .slice [] .nil], by rw [Gv.frz, frzL, e2, frzL, e3]; rfl, ?_⟩
  refine GLe.agg ⟨GLe.slice ?_, GLe.of _ _ (by rw [leG_none]), trivial⟩
  unfold lineG tabG lineM
  rw [List.map_map]
  refine GLess_map _ _ _ fun i => ?_
  simp only [Function.comp]
  unfold rowG rowN
  split
  · exact ⟨GLe.of _ _ (by rw [leG_none]; rfl), trivial⟩
  · exact ⟨GLe.of _ _ (by rw [leG_none]; rfl), trivial⟩
theorem aLine (n : Nat) (hn : n ≤ 1000) : GPure Try.prog 10 [.int .i64 n] (.agg [.slice (tabG (lineM n)) .none, .slice [] .none]) := by
  refine h10.pureS mixS (by simp) ?_
  simp only [gstart, s10, List.cons_append, List.nil_append, List.length_cons, List.length_nil, Nat.reduceAdd, Nat.reduceSub, List.replicate_succ, List.replicate_zero]
  simp +contextual -implicitDefEqProofs (maxSteps := 2000000) (disch := omega) only [binV, optV, ↓loadV, ↓storeV, ↓fieldAddrV, ↓allocV, ↓buildSliceV, ↓sliceV, ↓appendV, ↓srcV, bound, cutTag, hiTag, fillE, GVal.cells, grp, GVal.ofConst, ↓resV, resG, List.map, List.headD, List.take, List.drop, ↓reduceIte, Nat.reduceEqDiff, Nat.reduceAdd, Nat.reduceSub, Nat.reduceLeDiff, reduceCtorEq, implies_true, ne_eq, ↓asrcV, aggV, Tag.cap, List.replicate, allSolid, GVal.solid, Nat.reduceBEq, Nat.reduceMul, Nat.reduceLT, List.length_map, List.length_range, splice, vcA, ↓vcB, vcC, fbFf, e10]
  intro s0 s1
  refine vcSLoop_by (ι := { p : Nat × Nat // p.1 ≤ n }) (fun p => ⟨[.int .i64 n, .any, .ptr 0 s0 0 0, .ptr 1 s1 0 0, .int .i64 (p.1.1 : Nat)] ++ List.replicate 21 .any, [.row s0 2 [[.slice [] .nil, .slice [] .nil]], .row s1 2 [[.slice (lineG p.1.1) (.tok 2 p.1.2), .slice [] .nil]], .tok p.1.2 1]⟩) (fun p => n - p.1.1) ?_ ?_
  · refine Into.cellTok 1 0 1 [] (tg := .nil) rfl rfl rfl rfl ?_
    simp +contextual -implicitDefEqProofs (maxSteps := 2000000) (disch := omega) only [binV, optV, ↓loadV, ↓storeV, ↓fieldAddrV, ↓allocV, ↓buildSliceV, ↓sliceV, ↓appendV, ↓srcV, bound, cutTag, hiTag, fillE, GVal.cells, grp, GVal.ofConst, ↓resV, resG, List.map, List.headD, List.take, List.drop, ↓reduceIte, Nat.reduceEqDiff, Nat.reduceAdd, Nat.reduceSub, Nat.reduceLeDiff, reduceCtorEq, implies_true, ne_eq, ↓asrcV, aggV, Tag.cap, List.replicate, allSolid, GVal.solid, Nat.reduceBEq, Nat.reduceMul, Nat.reduceLT, List.length_map, List.length_range, splice, vcA, ↓vcB, vcC, fbFf, e10]
    intro u
    exact Into.first ⟨(0, u), by omega⟩ ⟨[], by simp [lineG]⟩ (by simp [WL, leG_self, leG_any])
  · rintro ⟨⟨k, u⟩, hk⟩
    change k ≤ n at hk
    by_cases h : k < n
    · have d0 : ((k : Int) < (n : Int)) = True := eq_true (by omega)
      have eN := lineG_succ k
      have lk := lineG_len k
      by_cases e : k = 0
      · subst e
        have d2 : ((0 : Int) < (n : Int)) = True := eq_true (by omega)
        simp +contextual -implicitDefEqProofs (maxSteps := 2000000) (disch := omega) only [binV, optV, ↓loadV, ↓storeV, ↓fieldAddrV, ↓allocV, ↓buildSliceV, ↓sliceV, ↓appendV, ↓srcV, bound, cutTag, hiTag, fillE, GVal.cells, grp, GVal.ofConst, ↓resV, resG, List.map, List.headD, List.take, List.drop, ↓reduceIte, Nat.reduceEqDiff, Nat.reduceAdd, Nat.reduceSub, Nat.reduceLeDiff, reduceCtorEq, implies_true, ne_eq, ↓asrcV, aggV, Tag.cap, List.replicate, allSolid, GVal.solid, Nat.reduceBEq, Nat.reduceMul, Nat.reduceLT, List.length_map, List.length_range, splice, vcA, ↓vcB, vcC, fbFf, e10, d0, d2, lk, all_lineG]
        intro v
        exact Into.at ⟨(1, v), by show 1 ≤ n; omega⟩ (by show n - 1 < n - 0; omega) ⟨[], by simp [eN, rowG]⟩ (by simp [WL, leG_self, leG_any, leG_int])
      · have d1 : ((k : Int) == 0) = false := by simpa using e
        simp +contextual -implicitDefEqProofs (maxSteps := 2000000) (disch := omega) only [binV, optV, ↓loadV, ↓storeV, ↓fieldAddrV, ↓allocV, ↓buildSliceV, ↓sliceV, ↓appendV, ↓srcV, bound, cutTag, hiTag, fillE, GVal.cells, grp, GVal.ofConst, ↓resV, resG, List.map, List.headD, List.take, List.drop, ↓reduceIte, Nat.reduceEqDiff, Nat.reduceAdd, Nat.reduceSub, Nat.reduceLeDiff, reduceCtorEq, implies_true, ne_eq, ↓asrcV, aggV, Tag.cap, List.replicate, allSolid, GVal.solid, Nat.reduceBEq, Nat.reduceMul, Nat.reduceLT, List.length_map, List.length_range, splice, vcA, ↓vcB, vcC, fbFf, e10, d0, d1, lk, all_lineG]
        refine ⟨by omega, by omega, fun v => ?_⟩
        exact Into.at ⟨(k + 1, v), by show k + 1 ≤ n; omega⟩ (by show n - (k + 1) < n - k; omega) ⟨[], by simp [eN, rowG, e]⟩ (by simp [WL, leG_self, leG_any, leG_int])
    · have d0 : ((k : Int) < (n : Int)) = False := eq_false (by omega)
      have e : k = n := by omega
      subst e
      simp +contextual -implicitDefEqProofs (maxSteps := 2000000) (disch := omega) only [binV, optV, ↓loadV, ↓storeV, ↓fieldAddrV, ↓allocV, ↓buildSliceV, ↓sliceV, ↓appendV, ↓srcV, bound, cutTag, hiTag, fillE, GVal.cells, grp, GVal.ofConst, ↓resV, resG, List.map, List.headD, List.take, List.drop, ↓reduceIte, Nat.reduceEqDiff, Nat.reduceAdd, Nat.reduceSub, Nat.reduceLeDiff, reduceCtorEq, implies_true, ne_eq, ↓asrcV, aggV, Tag.cap, List.replicate, allSolid, GVal.solid, Nat.reduceBEq, Nat.reduceMul, Nat.reduceLT, List.length_map, List.length_range, splice, vcA, ↓vcB, vcC, fbFf, e10, d0]
      exact line_frz _ 2 k u
/-- a line's dag: all that stands on one another -/
theorem line_dag {n : Nat} (h1 : 1 ≤ n) (hn : n ≤ 1000) {size : Int} {L : List (List Seg)} (h : DagOK (lineM n) [] L) (hL : LevOK size (buildI (lineM n) []) L) : L.length * (L.getD 0 []).length ≤ 1 := by
  have a := line_one hn h
  have e : L.getD 0 [] = buildI (lineM n) [] := hL.2.2.1
  have b := line_levels (by rw [← e]; exact a) hL
  rw [b, Nat.one_mul]; exact a
theorem line_has {n : Nat} (a : Int) (h0 : 0 ≤ a) (h1 : a < n) : idsP (lineM n) [] (Sp.has [(a, a)]) ≠ [] := fun e => by
  have : Sp.has (idsP (lineM n) [] (Sp.has [(a, a)])) a := (idsP_has _ _ _ _).2 ⟨(line_hasI n a).2 ⟨h0, h1⟩, (a, a), by simp, h0, Int.le_refl _, Int.le_refl _⟩
  rw [e] at this; simp [Sp.has] at this
theorem frzB (O : List GObj) : frzTo (.bool true) (.bool true) O := ⟨1, .bool true, rfl, by rw [leA_bool]⟩
theorem aKnown : GPure Try.prog 11 [] (.bool true) := by
  have hT := line_tok 9 (by omega)
  refine GCalls.toPure ?_
  refine h11.calls mixS (by simp) ?_
  simp only [gstart, s11, List.cons_append, List.nil_append, List.length_cons, List.length_nil, Nat.reduceAdd, Nat.reduceSub, List.replicate_succ, List.replicate_zero]
  simp +contextual -implicitDefEqProofs (maxSteps := 2000000) (disch := omega) only [↓lenV, binV, ↓loadV, ↓indexAddrV, ↓buildV, ↓buildSliceV, fillG, fillE, place, GVal.cells, grp, GVal.ofConst, ↓resV, resG, List.map, List.headD, List.take, List.drop, ↓reduceIte, Nat.reduceEqDiff, Nat.reduceAdd, Nat.reduceSub, Nat.reduceLeDiff, reduceCtorEq, implies_true, ne_eq, aggV, Tag.cap, List.replicate, allSolid, GVal.solid, Nat.reduceBEq, Nat.reduceMul, Nat.reduceLT, List.length_map, List.length_range, splice, vcA, ↓vcB, vcC, fbFf, e11]
  refine (aLine 9 (by omega)).then ?_ (by rfl)
  simp +contextual -implicitDefEqProofs (maxSteps := 2000000) (disch := omega) only [↓lenV, binV, ↓loadV, ↓indexAddrV, ↓buildV, ↓buildSliceV, fillG, fillE, place, GVal.cells, grp, GVal.ofConst, ↓resV, resG, List.map, List.headD, List.take, List.drop, ↓reduceIte, Nat.reduceEqDiff, Nat.reduceAdd, Nat.reduceSub, Nat.reduceLeDiff, reduceCtorEq, implies_true, ne_eq, aggV, Tag.cap, List.replicate, allSolid, GVal.solid, Nat.reduceBEq, Nat.reduceMul, Nat.reduceLT, List.length_map, List.length_range, splice, vcA, ↓vcB, vcC, fbFf, e11]
  refine (aNew hT .none .none 3 (by omega)).mono ?_
  rintro g O' ⟨st, L, rfl, rfl, hD, hL⟩
  have hc := line_dag (by omega) (by omega) hD hL
  have cA := aAncestors hD [(8, 8)] .full (by simp) (fun q hq => by simp at hq; subst hq; simp only; omega) st 0 (by omega)
  rw [line_anc (by omega) 8 (by omega) (by omega)] at cA
  have hne := line_has (n := 9) 8 (by omega) (by omega)
  have cc : cellsEq [Sk.int, Sk.int] [.int .i64 0, .int .i64 8] [.int .i64 0, .int .i64 8] = some true := rfl
  simp +contextual -implicitDefEqProofs (maxSteps := 2000000) (disch := omega) only [↓lenV, binV, ↓loadV, ↓indexAddrV, ↓buildV, ↓buildSliceV, fillG, fillE, place, GVal.cells, grp, GVal.ofConst, ↓resV, resG, List.map, List.headD, List.take, List.drop, ↓reduceIte, Nat.reduceEqDiff, Nat.reduceAdd, Nat.reduceSub, Nat.reduceLeDiff, reduceCtorEq, implies_true, ne_eq, aggV, Tag.cap, List.replicate, allSolid, GVal.solid, Nat.reduceBEq, Nat.reduceMul, Nat.reduceLT, List.length_map, List.length_range, splice, vcA, ↓vcB, vcC, fbFf, e11]
  refine cA.mono ?_
  rintro g O' ⟨_, rfl, k, rfl, rfl, h1, h2, h3⟩
  have h4 := h3 hne
  have ek : k = 1 := by omega
  subst ek
  simp +contextual -implicitDefEqProofs (maxSteps := 2000000) (disch := omega) only [↓lenV, binV, ↓loadV, ↓indexAddrV, ↓buildV, ↓buildSliceV, fillG, fillE, place, GVal.cells, grp, GVal.ofConst, ↓resV, resG, List.map, List.headD, List.take, List.drop, ↓reduceIte, Nat.reduceEqDiff, Nat.reduceAdd, Nat.reduceSub, Nat.reduceLeDiff, reduceCtorEq, implies_true, ne_eq, aggV, Tag.cap, List.replicate, allSolid, GVal.solid, Nat.reduceBEq, Nat.reduceMul, Nat.reduceLT, List.length_map, List.length_range, splice, vcA, ↓vcB, vcC, fbFf, e11, spl_length, spl_one, spG, cc, Int.toNat_zero]
  refine ⟨by omega, by omega, ?_⟩
  refine (aSteps L (allN L) 1 st).mono ?_
  rintro g O' ⟨rfl, rfl⟩
  simp +contextual -implicitDefEqProofs (maxSteps := 2000000) (disch := omega) only [↓lenV, binV, ↓loadV, ↓indexAddrV, ↓buildV, ↓buildSliceV, fillG, fillE, place, GVal.cells, grp, GVal.ofConst, ↓resV, resG, List.map, List.headD, List.take, List.drop, ↓reduceIte, Nat.reduceEqDiff, Nat.reduceAdd, Nat.reduceSub, Nat.reduceLeDiff, reduceCtorEq, implies_true, ne_eq, aggV, Tag.cap, List.replicate, allSolid, GVal.solid, Nat.reduceBEq, Nat.reduceMul, Nat.reduceLT, List.length_map, List.length_range, splice, vcA, ↓vcB, vcC, fbFf, e11]
  refine ⟨fun _ => ?_, fun hh => absurd hh (by omega)⟩
  refine (aSteps L (allN L) 1 st).mono ?_
  rintro g O' ⟨rfl, rfl⟩
  simp +contextual -implicitDefEqProofs (maxSteps := 2000000) (disch := omega) only [↓lenV, binV, ↓loadV, ↓indexAddrV, ↓buildV, ↓buildSliceV, fillG, fillE, place, GVal.cells, grp, GVal.ofConst, ↓resV, resG, List.map, List.headD, List.take, List.drop, ↓reduceIte, Nat.reduceEqDiff, Nat.reduceAdd, Nat.reduceSub, Nat.reduceLeDiff, reduceCtorEq, implies_true, ne_eq, aggV, Tag.cap, List.replicate, allSolid, GVal.solid, Nat.reduceBEq, Nat.reduceMul, Nat.reduceLT, List.length_map, List.length_range, splice, vcA, ↓vcB, vcC, fbFf, e11]
  first | exact frzB _ | exact ⟨fun _ => frzB _, fun hh => absurd hh (by omega)⟩
end Gv.Try
/- Contracts: descendants, heads, roots, what lies between. -/
set_option linter.unusedVariables false
set_option linter.unusedSimpArgs false
set_option maxRecDepth 20000
set_option maxHeartbeats 8000000
namespace Gv.Try
open Go Gv Go.Proofs
/-- those of a set that stand on it, among the first segments -/
structure DesI (m o : List (List Int)) (s : List Sp.S) (l : List Seg) (k : Nat) (out : List Sp.S) : Prop where
  rt : Sp.Rt 0 out
  has : ∀ n, Sp.has out n ↔ (∃ x ∈ l.take k, x.lo ≤ n ∧ n ≤ x.hi) ∧ inT m o n ∧ dP m o s n
theorem DesI.more {m o : List (List Int)} {s : List Sp.S} {l : List Seg} {k : Nat} {out : List Sp.S} (hI : DesI m o s l k out) (hk : k < l.length) (hx : FlatS m o (l.getD k default)) {low : Int} (h0 : (l.getD k default).lo ≤ low)
    (hd : ∀ n, (l.getD k default).lo ≤ n → n ≤ (l.getD k default).hi → (dP m o s n ↔ low ≤ n)) : DesI m o s l (k + 1) (Sp.uni out [(low, (l.getD k default).hi)]) := by
  refine ⟨Sp.uni_rt _ _, fun n => ?_⟩
  have e : l.take (k + 1) = l.take k ++ [l.getD k default] := by rw [List.take_add_one]; simp [List.getD, hk]
  rw [Sp.uni_has, hI.has, e]
  generalize l.getD k default = x at *
  have hX : Sp.has [(low, x.hi)] n ↔ 0 ≤ n ∧ low ≤ n ∧ n ≤ x.hi := by unfold Sp.has; simp
  rw [hX]
  have hlo := hx.lo
  constructor
  · rintro (⟨⟨y, hy, q⟩, r⟩ | ⟨q0, q1, q2⟩)
    · exact ⟨⟨y, by simp [hy], q⟩, r⟩
    · exact ⟨⟨x, by simp, by omega, q2⟩, hx.inn n (by omega) q2, (hd n (by omega) q2).2 q1⟩
  · rintro ⟨⟨y, hy, q1, q2⟩, r1, r2⟩
    rcases List.mem_append.1 hy with hy | hy
    · exact .inl ⟨⟨y, hy, q1, q2⟩, r1, r2⟩
    · simp at hy; subst hy
      exact .inr ⟨by omega, (hd n q1 q2).1 r2, q2⟩
theorem DesI.none {m o : List (List Int)} {s : List Sp.S} {l : List Seg} {k : Nat} {out : List Sp.S} (hI : DesI m o s l k out) (hk : k < l.length)
    (hd : ∀ n, (l.getD k default).lo ≤ n → n ≤ (l.getD k default).hi → ¬ dP m o s n) : DesI m o s l (k + 1) out := by
  refine ⟨hI.rt, fun n => ?_⟩
  have e : l.take (k + 1) = l.take k ++ [l.getD k default] := by rw [List.take_add_one]; simp [List.getD, hk]
  rw [hI.has, e]
  generalize l.getD k default = x at *
  constructor
  · rintro ⟨⟨y, hy, q⟩, r⟩
    exact ⟨⟨y, by simp [hy], q⟩, r⟩
  · rintro ⟨⟨y, hy, q1, q2⟩, r1, r2⟩
    rcases List.mem_append.1 hy with hy | hy
    · exact ⟨⟨y, hy, q1, q2⟩, r1, r2⟩
    · simp at hy; subst hy
      exact absurd r2 (hd n q1 q2)
theorem DesI.all {m o : List (List Int)} {L : List (List Seg)} (h : DagOK m o L) {s out : List Sp.S} (hI : DesI m o s (L.getD 0 []) (L.getD 0 []).length out) : out = idsP m o (dP m o s) := by
  refine idsP_eq hI.rt fun n => ?_
  rw [hI.has, List.take_length]
  constructor
  · rintro ⟨_, q⟩; exact q
  · intro q
    obtain ⟨j, hj, hin, _⟩ := h.seg (i := 0) (by have := h.len1; omega) q.1
    exact ⟨⟨_, seg_mem hj, hin⟩, q⟩
end Gv.Try
/- Contracts: what lies between; sets of raw numbers. -/
set_option linter.unusedVariables false
set_option linter.unusedSimpArgs false
set_option maxRecDepth 20000
set_option maxHeartbeats 8000000
namespace Gv.Try
open Go Gv Go.Proofs
end Gv.Try
/- The plain laws of heads, roots, what lies between. -/
set_option linter.unusedVariables false
set_option linter.unusedSimpArgs false
set_option maxRecDepth 20000
set_option maxHeartbeats 8000000
namespace Gv.Try
open Go Gv Go.Proofs
section
variable {m o : List (List Int)} (h : TOK m o) {s t : List Sp.S}
include h
end
end Gv.Try
/- AskEnds gives true. -/
set_option linter.unusedVariables false
set_option linter.unusedSimpArgs false
set_option maxRecDepth 20000
set_option maxHeartbeats 8000000
namespace Gv.Try
open Go Gv Go.Proofs
end Gv.Try
/- AskLaws gives true. -/
set_option linter.unusedVariables false
set_option linter.unusedSimpArgs false
set_option maxRecDepth 20000
set_option maxHeartbeats 8000000
namespace Gv.Try
open Go Gv Go.Proofs
section
variable {m o : List (List Int)} (h : TOK m o) {s t : List Sp.S}
include h
end
end Gv.Try
/- Contracts: a dag's segments, copied. -/
set_option linter.unusedVariables false
set_option linter.unusedSimpArgs false
set_option maxRecDepth 20000
set_option maxHeartbeats 8000000
namespace Gv.Try
open Go Gv Go.Proofs
theorem levs_take (L : List (List Seg)) (k : Nat) (h : k < L.length) : L.take (k + 1) = L.take k ++ [L.getD k []] := by
  rw [List.take_add_one]; simp [List.getD, h]
theorem c59' (l : List Seg) (hl : l.length ≤ 1000000) (O : List GObj) (hc : clockOf O = none := by rfl) : GCalls Try.prog 44 [.slice (segsG l) .none] O (fun g O' => (∃ st, g = .own O.length st 0 l.length ∧ O' = O ++ [.row st 5 (segsG l)]) ∨ (l = [] ∧ g = .slice [] .nil ∧ O' = O)) := by
  refine (GCalls.new (c59 l hl) hc ?_).mono ?_
  · rintro g O' (⟨st, rfl, rfl⟩ | ⟨_, rfl, rfl⟩) <;> rfl
  · rintro g O'' ⟨g0, O', (⟨st, rfl, rfl⟩ | ⟨h, rfl, rfl⟩), rfl, rfl⟩
    · exact .inl ⟨st, by simp [GVal.shift], rfl⟩
    · exact .inr ⟨h, rfl, by simp⟩
theorem aSegments (L : List (List Seg)) (N : List Sp.S) (hL : L.length ≤ 4) (hz : ∀ i, (L.getD i []).length ≤ 1000 ∧ sumP (L.getD i []) ≤ 100000) : DPure 16 L N [] (.slice (levsG L) .none) := by
  intro st kk
  refine GCalls.dropTo ?_
  refine h16.calls mixS (by simp) ?_
  simp only [gstart, s16, List.cons_append, List.nil_append, List.length_cons, List.length_nil, Nat.reduceAdd, Nat.reduceSub, List.replicate_succ, List.replicate_zero]
  simp +contextual -implicitDefEqProofs (maxSteps := 2000000) (disch := omega) only [↓lenV, binV, optV, ↓loadV, ↓storeV, ↓fieldAddrV, ↓indexAddrV, ↓buildSliceV, ↓sliceV, ↓nil_ptr, ↓nil_ref, ↓appendV, ↓srcV, bound, cutTag, hiTag, fillE, GVal.cells, grp, GVal.ofConst, ↓resV, resG, List.map, List.headD, List.take, List.drop, ↓reduceIte, Nat.reduceEqDiff, Nat.reduceAdd, Nat.reduceSub, Nat.reduceLeDiff, reduceCtorEq, implies_true, ne_eq, ↓asrcV, Tag.cap, List.replicate, allSolid, GVal.solid, Nat.reduceBEq, Nat.reduceMul, Nat.reduceLT, List.length_map, List.length_range, splice, vcA, ↓vcB, vcC, fbFf, e16, levsG_length]
  refine vcSLoop_by (ι := { p : Nat × Nat // p.1 ≤ L.length }) (fun p => ⟨[.ptr 0 st 0 0, .any, .any, .slice (levsG (L.take p.1.1)) (.tok 1 p.1.2)] ++ List.replicate 7 .any ++ [.slice (levsG L) .none, .int .i64 L.length, .int .i64 (p.1.1 : Nat)] ++ List.replicate 27 .any, [.row st 3 [dagG L N kk], .tok p.1.2 1]⟩) (fun p => L.length - p.1.1) ?_ ?_
  · refine Into.tok 3 1 [] rfl rfl ?_
    simp +contextual -implicitDefEqProofs (maxSteps := 2000000) (disch := omega) only [↓lenV, binV, optV, ↓loadV, ↓storeV, ↓fieldAddrV, ↓indexAddrV, ↓buildSliceV, ↓sliceV, ↓nil_ptr, ↓nil_ref, ↓appendV, ↓srcV, bound, cutTag, hiTag, fillE, GVal.cells, grp, GVal.ofConst, ↓resV, resG, List.map, List.headD, List.take, List.drop, ↓reduceIte, Nat.reduceEqDiff, Nat.reduceAdd, Nat.reduceSub, Nat.reduceLeDiff, reduceCtorEq, implies_true, ne_eq, ↓asrcV, Tag.cap, List.replicate, allSolid, GVal.solid, Nat.reduceBEq, Nat.reduceMul, Nat.reduceLT, List.length_map, List.length_range, splice, vcA, ↓vcB, vcC, fbFf, e16]
    intro u
    exact Into.first ⟨(0, u), by omega⟩ ⟨[], by simp⟩ (by simp [WL, leG_self, leG_any, levsG])
  · rintro ⟨⟨k, u⟩, hk⟩
    change k ≤ L.length at hk
    by_cases hkl : k < L.length
    · have d0 : ((k : Int) < (L.length : Int)) = True := eq_true (by omega)
      have eS := levsG_at L k hkl
      have eN := levs_take L k hkl
      obtain ⟨z1, z2⟩ := hz k
      have hp : ∀ i, ((L.getD k []).getD i default).par.length ≤ 17592186044416 := fun i => by have := sumP_at (L.getD k []) i; omega
      have lk : (L.take k).length ≤ 4 := by rw [List.length_take]; omega
      generalize L.getD k [] = l at *
      generalize L.take k = A at *
      simp +contextual -implicitDefEqProofs (maxSteps := 2000000) (disch := omega) only [↓lenV, binV, optV, ↓loadV, ↓storeV, ↓fieldAddrV, ↓indexAddrV, ↓buildSliceV, ↓sliceV, ↓nil_ptr, ↓nil_ref, ↓appendV, ↓srcV, bound, cutTag, hiTag, fillE, GVal.cells, grp, GVal.ofConst, ↓resV, resG, List.map, List.headD, List.take, List.drop, ↓reduceIte, Nat.reduceEqDiff, Nat.reduceAdd, Nat.reduceSub, Nat.reduceLeDiff, reduceCtorEq, implies_true, ne_eq, ↓asrcV, Tag.cap, List.replicate, allSolid, GVal.solid, Nat.reduceBEq, Nat.reduceMul, Nat.reduceLT, List.length_map, List.length_range, splice, vcA, ↓vcB, vcC, fbFf, e16, levsG_length, d0, eS]
      refine ⟨by omega, ?_⟩
      refine (c59' l (by omega) _ (by rfl)).mono ?_
      rintro g O' (⟨w, rfl, rfl⟩ | ⟨rfl, rfl, rfl⟩)
      · simp +contextual -implicitDefEqProofs (maxSteps := 2000000) (disch := omega) only [↓lenV, binV, optV, ↓loadV, ↓storeV, ↓fieldAddrV, ↓indexAddrV, ↓buildSliceV, ↓sliceV, ↓nil_ptr, ↓nil_ref, ↓appendV, ↓srcV, bound, cutTag, hiTag, fillE, GVal.cells, grp, GVal.ofConst, ↓resV, resG, List.map, List.headD, List.take, List.drop, ↓reduceIte, Nat.reduceEqDiff, Nat.reduceAdd, Nat.reduceSub, Nat.reduceLeDiff, reduceCtorEq, implies_true, ne_eq, ↓asrcV, Tag.cap, List.replicate, allSolid, GVal.solid, Nat.reduceBEq, Nat.reduceMul, Nat.reduceLT, List.length_map, List.length_range, splice, vcA, ↓vcB, vcC, fbFf, e16, segsG_length]
        refine vcSLoop_by (ι := Option { j : Nat // j < l.length }) (fun p => match p with
          | some j => ⟨[.ptr 0 st 0 0, .any, .any, .slice (levsG A) (.tok 1 u), .any, .any, .own 2 w 0 l.length] ++ List.replicate 4 .any ++ [.slice (levsG L) .none, .int .i64 L.length, .int .i64 (k : Nat)] ++ List.replicate 6 .any ++ [.int .i64 l.length, .int .i64 (j.1 : Nat)] ++ List.replicate 19 .any, [.row st 3 [dagG L N kk], .tok u 1, .row w 5 (segsG l)]⟩
          | none => ⟨[.ptr 0 st 0 0, .any, .any, .slice (levsG A) (.tok 1 u), .any, .any, .slice (segsG l) .none] ++ List.replicate 4 .any ++ [.slice (levsG L) .none, .int .i64 L.length, .int .i64 (k : Nat)] ++ List.replicate 6 .any ++ [.int .i64 l.length, .int .i64 l.length] ++ List.replicate 19 .any, [.row st 3 [dagG L N kk], .tok u 1]⟩) (fun p => match p with | some j => l.length - j.1 | none => 0) ?_ ?_
        · by_cases h0 : 0 < l.length
          · exact Into.first (some ⟨0, h0⟩) ⟨[], by simp⟩ (by simp [WL, leG_self, leG_any])
          · refine Into.melt (O := [.row st 3 [dagG L N kk], .tok u 1]) 6 3 rfl rfl (segsG_length _).symm (frz_segs _ 1 _) ?_
            have e : l = [] := List.length_eq_zero_iff.1 (by omega)
            subst e
            exact Into.first none ⟨[], by simp⟩ (by simp [WL, leG_self, leG_any])
        · rintro (_ | ⟨j, hj⟩)
          · simp +contextual -implicitDefEqProofs (maxSteps := 2000000) (disch := omega) only [↓lenV, binV, optV, ↓loadV, ↓storeV, ↓fieldAddrV, ↓indexAddrV, ↓buildSliceV, ↓sliceV, ↓nil_ptr, ↓nil_ref, ↓appendV, ↓srcV, bound, cutTag, hiTag, fillE, GVal.cells, grp, GVal.ofConst, ↓resV, resG, List.map, List.headD, List.take, List.drop, ↓reduceIte, Nat.reduceEqDiff, Nat.reduceAdd, Nat.reduceSub, Nat.reduceLeDiff, reduceCtorEq, implies_true, ne_eq, ↓asrcV, Tag.cap, List.replicate, allSolid, GVal.solid, Nat.reduceBEq, Nat.reduceMul, Nat.reduceLT, List.length_map, List.length_range, splice, vcA, ↓vcB, vcC, fbFf, e16, segsG_length, levsG_length, all_levsG]
            refine ⟨fun h => absurd h (by omega), fun _ => ⟨by omega, by omega, fun v => ?_⟩⟩
            exact Into.at ⟨(k + 1, v), by show k + 1 ≤ _; omega⟩ (by show _ < _; simp; omega) ⟨[], by simp⟩ (by simp [WL, leG_self, leG_any, leG_int, eN, levsG_append, levsG_one])
          · have d1 : ((j : Int) < (l.length : Int)) = True := eq_true (by omega)
            have eT := segsG_at l j hj
            have eW := segsG_set_self l j hj
            have c58 := spec58 (l.getD j default).par .none (hp j) (by simp)
            rw [segG] at eW
            simp only [segG] at eT
            by_cases hlast : j + 1 < l.length
            · generalize l.getD j default = x at *
              simp +contextual -implicitDefEqProofs (maxSteps := 2000000) (disch := omega) only [↓lenV, binV, optV, ↓loadV, ↓storeV, ↓fieldAddrV, ↓indexAddrV, ↓buildSliceV, ↓sliceV, ↓nil_ptr, ↓nil_ref, ↓appendV, ↓srcV, bound, cutTag, hiTag, fillE, GVal.cells, grp, GVal.ofConst, ↓resV, resG, List.map, List.headD, List.take, List.drop, ↓reduceIte, Nat.reduceEqDiff, Nat.reduceAdd, Nat.reduceSub, Nat.reduceLeDiff, reduceCtorEq, implies_true, ne_eq, ↓asrcV, Tag.cap, List.replicate, allSolid, GVal.solid, Nat.reduceBEq, Nat.reduceMul, Nat.reduceLT, List.length_map, List.length_range, splice, vcA, ↓vcB, vcC, fbFf, e16, segsG_length, d1, eT]
              refine ⟨by omega, by omega, by omega, c58.then ?_⟩
              simp +contextual -implicitDefEqProofs (maxSteps := 2000000) (disch := omega) only [↓lenV, binV, optV, ↓loadV, ↓storeV, ↓fieldAddrV, ↓indexAddrV, ↓buildSliceV, ↓sliceV, ↓nil_ptr, ↓nil_ref, ↓appendV, ↓srcV, bound, cutTag, hiTag, fillE, GVal.cells, grp, GVal.ofConst, ↓resV, resG, List.map, List.headD, List.take, List.drop, ↓reduceIte, Nat.reduceEqDiff, Nat.reduceAdd, Nat.reduceSub, Nat.reduceLeDiff, reduceCtorEq, implies_true, ne_eq, ↓asrcV, Tag.cap, List.replicate, allSolid, GVal.solid, Nat.reduceBEq, Nat.reduceMul, Nat.reduceLT, List.length_map, List.length_range, splice, vcA, ↓vcB, vcC, fbFf, e16, segsG_length, d1, eT]
              rw [eW]
              refine ⟨by omega, hj, hj, ?_⟩
              exact Into.at (some ⟨j + 1, hlast⟩) (by show _ < _; simp; omega) ⟨[], by simp⟩ (by simp [WL, leG_self, leG_any, leG_int])
            · have e : j + 1 = l.length := by omega
              generalize l.getD j default = x at *
              simp +contextual -implicitDefEqProofs (maxSteps := 2000000) (disch := omega) only [↓lenV, binV, optV, ↓loadV, ↓storeV, ↓fieldAddrV, ↓indexAddrV, ↓buildSliceV, ↓sliceV, ↓nil_ptr, ↓nil_ref, ↓appendV, ↓srcV, bound, cutTag, hiTag, fillE, GVal.cells, grp, GVal.ofConst, ↓resV, resG, List.map, List.headD, List.take, List.drop, ↓reduceIte, Nat.reduceEqDiff, Nat.reduceAdd, Nat.reduceSub, Nat.reduceLeDiff, reduceCtorEq, implies_true, ne_eq, ↓asrcV, Tag.cap, List.replicate, allSolid, GVal.solid, Nat.reduceBEq, Nat.reduceMul, Nat.reduceLT, List.length_map, List.length_range, splice, vcA, ↓vcB, vcC, fbFf, e16, segsG_length, d1, eT]
              refine ⟨by omega, by omega, by omega, c58.then ?_⟩
              simp +contextual -implicitDefEqProofs (maxSteps := 2000000) (disch := omega) only [↓lenV, binV, optV, ↓loadV, ↓storeV, ↓fieldAddrV, ↓indexAddrV, ↓buildSliceV, ↓sliceV, ↓nil_ptr, ↓nil_ref, ↓appendV, ↓srcV, bound, cutTag, hiTag, fillE, GVal.cells, grp, GVal.ofConst, ↓resV, resG, List.map, List.headD, List.take, List.drop, ↓reduceIte, Nat.reduceEqDiff, Nat.reduceAdd, Nat.reduceSub, Nat.reduceLeDiff, reduceCtorEq, implies_true, ne_eq, ↓asrcV, Tag.cap, List.replicate, allSolid, GVal.solid, Nat.reduceBEq, Nat.reduceMul, Nat.reduceLT, List.length_map, List.length_range, splice, vcA, ↓vcB, vcC, fbFf, e16, segsG_length, d1, eT]
              rw [eW]
              refine ⟨by omega, hj, hj, ?_⟩
              refine Into.melt (O := [.row st 3 [dagG L N kk], .tok u 1]) (xs := segsG l) 6 3 rfl rfl (segsG_length _).symm (frz_segs _ 1 _) ?_
              exact Into.at none (by show _ < _; simp; omega) ⟨[], by simp⟩ (by simp [WL, leG_self, leG_any, leG_int] <;> omega)
      · simp +contextual -implicitDefEqProofs (maxSteps := 2000000) (disch := omega) only [↓lenV, binV, optV, ↓loadV, ↓storeV, ↓fieldAddrV, ↓indexAddrV, ↓buildSliceV, ↓sliceV, ↓nil_ptr, ↓nil_ref, ↓appendV, ↓srcV, bound, cutTag, hiTag, fillE, GVal.cells, grp, GVal.ofConst, ↓resV, resG, List.map, List.headD, List.take, List.drop, ↓reduceIte, Nat.reduceEqDiff, Nat.reduceAdd, Nat.reduceSub, Nat.reduceLeDiff, reduceCtorEq, implies_true, ne_eq, ↓asrcV, Tag.cap, List.replicate, allSolid, GVal.solid, Nat.reduceBEq, Nat.reduceMul, Nat.reduceLT, List.length_map, List.length_range, splice, vcA, ↓vcB, vcC, fbFf, e16]
        refine vcSLoop_by (ι := Unit) (fun _ => ⟨[.ptr 0 st 0 0, .any, .any, .slice (levsG A) (.tok 1 u), .any, .any, .slice [] .none] ++ List.replicate 4 .any ++ [.slice (levsG L) .none, .int .i64 L.length, .int .i64 (k : Nat)] ++ List.replicate 6 .any ++ [.int .i64 0, .int .i64 0] ++ List.replicate 19 .any, [.row st 3 [dagG L N kk], .tok u 1]⟩) (fun _ => 0) ?_ ?_
        · exact Into.first () ⟨[], by simp⟩ (by simp [WL, leG_self, leG_any, leG_none])
        · rintro ⟨⟩
          simp +contextual -implicitDefEqProofs (maxSteps := 2000000) (disch := omega) only [↓lenV, binV, optV, ↓loadV, ↓storeV, ↓fieldAddrV, ↓indexAddrV, ↓buildSliceV, ↓sliceV, ↓nil_ptr, ↓nil_ref, ↓appendV, ↓srcV, bound, cutTag, hiTag, fillE, GVal.cells, grp, GVal.ofConst, ↓resV, resG, List.map, List.headD, List.take, List.drop, ↓reduceIte, Nat.reduceEqDiff, Nat.reduceAdd, Nat.reduceSub, Nat.reduceLeDiff, reduceCtorEq, implies_true, ne_eq, ↓asrcV, Tag.cap, List.replicate, allSolid, GVal.solid, Nat.reduceBEq, Nat.reduceMul, Nat.reduceLT, List.length_map, List.length_range, splice, vcA, ↓vcB, vcC, fbFf, e16, levsG_length, all_levsG]
          refine ⟨fun h => absurd h (by omega), fun _ => ⟨by omega, by omega, fun v => ?_⟩⟩
          exact Into.at ⟨(k + 1, v), by show k + 1 ≤ _; omega⟩ (by show _ < _; simp; omega) ⟨[], by simp⟩ (by simp [WL, leG_self, leG_any, leG_int, eN, levsG_append, levsG_one, segsG])
    · have d0 : ((k : Int) < (L.length : Int)) = False := eq_false (by omega)
      have e : L.take k = L := List.take_of_length_le (by omega)
      simp +contextual -implicitDefEqProofs (maxSteps := 2000000) (disch := omega) only [↓lenV, binV, optV, ↓loadV, ↓storeV, ↓fieldAddrV, ↓indexAddrV, ↓buildSliceV, ↓sliceV, ↓nil_ptr, ↓nil_ref, ↓appendV, ↓srcV, bound, cutTag, hiTag, fillE, GVal.cells, grp, GVal.ofConst, ↓resV, resG, List.map, List.headD, List.take, List.drop, ↓reduceIte, Nat.reduceEqDiff, Nat.reduceAdd, Nat.reduceSub, Nat.reduceLeDiff, reduceCtorEq, implies_true, ne_eq, ↓asrcV, Tag.cap, List.replicate, allSolid, GVal.solid, Nat.reduceBEq, Nat.reduceMul, Nat.reduceLT, List.length_map, List.length_range, splice, vcA, ↓vcB, vcC, fbFf, e16, levsG_length, d0]
      rw [e]
      exact ⟨.slice (levsG L) .none, [.row st 3 [dagG L N kk]], [.tok u 1], rfl, by rw [leA_slice], _, rfl, rfl, rfl⟩
end Gv.Try
/- AskLevels: the law. -/
set_option linter.unusedVariables false
set_option linter.unusedSimpArgs false
set_option maxRecDepth 20000
set_option maxHeartbeats 8000000
namespace Gv.Try
open Go Gv Go.Proofs
theorem rel35x (l : List Seg) (size : Int) (hl : l.length ≤ 1000) (hp : sumP l ≤ 100000) (hs : 2 ≤ size) (hok : Sp.Ok (spansOf l)) :
    GCalls Try.prog 35 [.slice (segsG l) .none, .int .i64 size] [] (fun g O' => ∃ st L, g = .ptr 0 st 0 0 ∧ O' = [.row st 3 [dagG L (Sp.nf (spansOf l)) 0]] ∧ LevMx size l L) := by
  refine GCalls.dropTo ?_
  refine h35.calls mixS (by simp) ?_
  simp only [gstart, s35, List.cons_append, List.nil_append, List.length_cons, List.length_nil, Nat.reduceAdd, Nat.reduceSub, List.replicate_succ, List.replicate_zero]
  simp +contextual -implicitDefEqProofs (maxSteps := 2000000) (disch := omega) only [drawC, ↓lenV, binV, ↓loadV, ↓storeV, ↓fieldAddrV, ↓indexAddrV, ↓allocV, ↓boxV, ↓buildV, ↓buildSliceV, ↓nil_ptr, ↓nil_ref, ↓appendV, ↓srcV, fillG, fillE, place, GVal.cells, grp, GVal.ofConst, ↓resV, resG, List.map, List.headD, List.take, List.drop, ↓reduceIte, Nat.reduceEqDiff, Nat.reduceAdd, Nat.reduceSub, Nat.reduceLeDiff, reduceCtorEq, implies_true, ne_eq, ↓asrcV, Tag.cap, List.replicate, allSolid, GVal.solid, Nat.reduceBEq, Nat.reduceMul, Nat.reduceLT, List.length_map, List.length_range, splice, vcA, ↓vcB, vcC, fbFf, e35]
  refine (rel21x l size hl hp hs).then ?_
  rintro g ⟨L, rfl, hL⟩
  simp +contextual -implicitDefEqProofs (maxSteps := 2000000) (disch := omega) only [drawC, ↓lenV, binV, ↓loadV, ↓storeV, ↓fieldAddrV, ↓indexAddrV, ↓allocV, ↓boxV, ↓buildV, ↓buildSliceV, ↓nil_ptr, ↓nil_ref, ↓appendV, ↓srcV, fillG, fillE, place, GVal.cells, grp, GVal.ofConst, ↓resV, resG, List.map, List.headD, List.take, List.drop, ↓reduceIte, Nat.reduceEqDiff, Nat.reduceAdd, Nat.reduceSub, Nat.reduceLeDiff, reduceCtorEq, implies_true, ne_eq, ↓asrcV, Tag.cap, List.replicate, allSolid, GVal.solid, Nat.reduceBEq, Nat.reduceMul, Nat.reduceLT, List.length_map, List.length_range, splice, vcA, ↓vcB, vcC, fbFf, e35]
  intro st
  have hsz : (spansOf l).length = l.length := spansOf_len l
  refine vcSLoop_by (ι := { p : Nat × Nat // p.1 ≤ l.length }) (fun p => ⟨[.any, .any, .any, .any, .any, .ptr 0 st 0 0, .any, .any, .any, .any, .any, .any, .any, .slice (segsG l) .none, .int .i64 l.length, .int .i64 (p.1.1 : Nat)] ++ List.replicate 27 .any, [.row st 3 [[.slice (levsG L) .none, .slice (spl (spansOf (l.take p.1.1))) (.tok 1 p.1.2), .int .i64 0]], .tok p.1.2 2]⟩) (fun p => l.length - p.1.1) ?_ ?_
  · refine Into.cellTok 0 1 2 [] (tg := .nil) rfl rfl rfl rfl ?_
    simp +contextual -implicitDefEqProofs (maxSteps := 2000000) (disch := omega) only [drawC, ↓lenV, binV, ↓loadV, ↓storeV, ↓fieldAddrV, ↓indexAddrV, ↓allocV, ↓boxV, ↓buildV, ↓buildSliceV, ↓nil_ptr, ↓nil_ref, ↓appendV, ↓srcV, fillG, fillE, place, GVal.cells, grp, GVal.ofConst, ↓resV, resG, List.map, List.headD, List.take, List.drop, ↓reduceIte, Nat.reduceEqDiff, Nat.reduceAdd, Nat.reduceSub, Nat.reduceLeDiff, reduceCtorEq, implies_true, ne_eq, ↓asrcV, Tag.cap, List.replicate, allSolid, GVal.solid, Nat.reduceBEq, Nat.reduceMul, Nat.reduceLT, List.length_map, List.length_range, splice, vcA, ↓vcB, vcC, fbFf, e35]
    intro u
    exact Into.first ⟨(0, u), by omega⟩ ⟨[], by simp [spansOf, spl]⟩ (by simp [WL, leG_self, leG_any, segsG_length])
  · rintro ⟨⟨k, u⟩, hk⟩
    change k ≤ l.length at hk
    by_cases h : k < l.length
    · have d0 : ((k : Int) < (l.length : Int)) = True := eq_true (by omega)
      have eS := segsG_at l k h
      have eN := spansOf_take l k h
      have lk : (spansOf (l.take k)).length = k := by rw [spansOf_len, List.length_take]; omega
      generalize l.getD k default = s at *
      generalize spansOf (l.take k) = A at *
      simp +contextual -implicitDefEqProofs (maxSteps := 2000000) (disch := omega) only [drawC, ↓lenV, binV, ↓loadV, ↓storeV, ↓fieldAddrV, ↓indexAddrV, ↓allocV, ↓boxV, ↓buildV, ↓buildSliceV, ↓nil_ptr, ↓nil_ref, ↓appendV, ↓srcV, fillG, fillE, place, GVal.cells, grp, GVal.ofConst, ↓resV, resG, List.map, List.headD, List.take, List.drop, ↓reduceIte, Nat.reduceEqDiff, Nat.reduceAdd, Nat.reduceSub, Nat.reduceLeDiff, reduceCtorEq, implies_true, ne_eq, ↓asrcV, Tag.cap, List.replicate, allSolid, GVal.solid, Nat.reduceBEq, Nat.reduceMul, Nat.reduceLT, List.length_map, List.length_range, splice, vcA, ↓vcB, vcC, fbFf, e35, segsG_length, d0, eS, segG, spl_length, all_spl, lk]
      refine ⟨by omega, fun st1 => ⟨by omega, by omega, fun st2 => ?_⟩⟩
      exact Into.at ⟨(k + 1, st2), by show k + 1 ≤ _; omega⟩ (by show _ < _; simp; omega) ⟨[.row st1 5 [segG s]], by simp [eN, spl_append, spl_one, spG, segG]⟩ (by simp [WL, leG_self, leG_any, leG_int])
    · have d0 : ((k : Int) < (l.length : Int)) = False := eq_false (by omega)
      have e : k = l.length := by omega
      subst e
      simp +contextual -implicitDefEqProofs (maxSteps := 2000000) (disch := omega) only [drawC, ↓lenV, binV, ↓loadV, ↓storeV, ↓fieldAddrV, ↓indexAddrV, ↓allocV, ↓boxV, ↓buildV, ↓buildSliceV, ↓nil_ptr, ↓nil_ref, ↓appendV, ↓srcV, fillG, fillE, place, GVal.cells, grp, GVal.ofConst, ↓resV, resG, List.map, List.headD, List.take, List.drop, ↓reduceIte, Nat.reduceEqDiff, Nat.reduceAdd, Nat.reduceSub, Nat.reduceLeDiff, reduceCtorEq, implies_true, ne_eq, ↓asrcV, Tag.cap, List.replicate, allSolid, GVal.solid, Nat.reduceBEq, Nat.reduceMul, Nat.reduceLT, List.length_map, List.length_range, splice, vcA, ↓vcB, vcC, fbFf, e35, segsG_length, d0, List.take_length]
      refine (sMake (spansOf l) _ (by omega) hok).then ?_ (by rfl)
      simp +contextual -implicitDefEqProofs (maxSteps := 2000000) (disch := omega) only [drawC, ↓lenV, binV, ↓loadV, ↓storeV, ↓fieldAddrV, ↓indexAddrV, ↓allocV, ↓boxV, ↓buildV, ↓buildSliceV, ↓nil_ptr, ↓nil_ref, ↓appendV, ↓srcV, fillG, fillE, place, GVal.cells, grp, GVal.ofConst, ↓resV, resG, List.map, List.headD, List.take, List.drop, ↓reduceIte, Nat.reduceEqDiff, Nat.reduceAdd, Nat.reduceSub, Nat.reduceLeDiff, reduceCtorEq, implies_true, ne_eq, ↓asrcV, Tag.cap, List.replicate, allSolid, GVal.solid, Nat.reduceBEq, Nat.reduceMul, Nat.reduceLT, List.length_map, List.length_range, splice, vcA, ↓vcB, vcC, fbFf, e35]
      exact ⟨.ptr 0 st 0 0, [.row st 3 [dagG L (Sp.nf (spansOf l)) 0]], [.tok u 2], rfl, by unfold leA; simp [leG_self], st, L, rfl, rfl, hL⟩
theorem aOverX {m o : List (List Int)} (h : TOK m o) {l : List Seg} (hl : okS m o 0 l) (hn : l.length ≤ 1000) (size : Int) (hs : 2 ≤ size) :
    GCalls Try.prog 35 [.slice (segsG l) .none, .int .i64 size] [] (fun g O' => ∃ st L, g = .ptr 0 st 0 0 ∧ O' = [.row st 3 [dagG L (allN L) 0]] ∧ DagOK m o L ∧ LevMx size l L) := by
  have hp : sumP l ≤ 100000 := by
    have := sumP_le4 l fun s hs => flat_par4 h (okS_flat l 0 hl s hs)
    omega
  refine (rel35x l size hn hp hs (okS_ok hl)).mono ?_
  rintro g O' ⟨st, L, rfl, rfl, hL⟩
  have e : L.getD 0 [] = l := hL.1.2.2.1
  exact ⟨st, L, rfl, by rw [allN, e], .of h hl hn hL.1, hL⟩
theorem aNewX {m o : List (List Int)} (h : TOK m o) (tm to : Tag) (size : Int) (hs : 2 ≤ size) :
    GCalls Try.prog 9 [.agg [.slice (tabG m) tm, .slice (tabG o) to], .int .i64 size] [] (fun g O' => ∃ st L, g = .ptr 0 st 0 0 ∧ O' = [.row st 3 [dagG L (allN L) 0]] ∧ DagOK m o L ∧ LevMx size (buildI m o) L) := by
  have hl := h.len
  have hm4 : ∀ p ∈ m, p.length ≤ 17592186044416 := fun p hp => by
    have hr := h.right; rw [rightI, Bool.and_eq_true] at hr; have := okG_row hr.1 p hp; omega
  have ho4 : ∀ p ∈ o, p.length ≤ 17592186044416 := fun p hp => by
    have hr := h.right; rw [rightI, Bool.and_eq_true] at hr; have := okG_row hr.2 p hp; omega
  have hoS := build_okS m o (by omega) (by omega) h.right
  have c34 := spec34 m o tm to (by omega) (by omega) hm4 ho4
  rw [h.right] at c34
  refine h9.calls mixS (by simp) ?_
  simp only [gstart, s9, List.cons_append, List.nil_append, List.length_cons, List.length_nil, Nat.reduceAdd, Nat.reduceSub, List.replicate_succ, List.replicate_zero]
  simp +contextual -implicitDefEqProofs (maxSteps := 2000000) (disch := omega) only [binV, ↓unV, ↓loadV, ↓boxV, GVal.cells, grp, GVal.ofConst, ↓resV, resG, List.map, List.headD, List.take, List.drop, ↓reduceIte, Nat.reduceEqDiff, Nat.reduceAdd, Nat.reduceSub, Nat.reduceLeDiff, reduceCtorEq, implies_true, ne_eq, Tag.cap, List.replicate, allSolid, GVal.solid, Nat.reduceBEq, Nat.reduceMul, Nat.reduceLT, List.length_map, List.length_range, splice, vcA, ↓vcB, vcC, fbFf, e9]
  refine c34.then ?_ (by rfl)
  have d0 : (size < 2) = False := eq_false (by omega)
  simp +contextual -implicitDefEqProofs (maxSteps := 2000000) (disch := omega) only [binV, ↓unV, ↓loadV, ↓boxV, GVal.cells, grp, GVal.ofConst, ↓resV, resG, List.map, List.headD, List.take, List.drop, ↓reduceIte, Nat.reduceEqDiff, Nat.reduceAdd, Nat.reduceSub, Nat.reduceLeDiff, reduceCtorEq, implies_true, ne_eq, Tag.cap, List.replicate, allSolid, GVal.solid, Nat.reduceBEq, Nat.reduceMul, Nat.reduceLT, List.length_map, List.length_range, splice, vcA, ↓vcB, vcC, fbFf, e9, d0]
  refine (spec12 m o tm to (by omega) (by omega) hm4 ho4).then ?_ (by rfl)
  simp +contextual -implicitDefEqProofs (maxSteps := 2000000) (disch := omega) only [binV, ↓unV, ↓loadV, ↓boxV, GVal.cells, grp, GVal.ofConst, ↓resV, resG, List.map, List.headD, List.take, List.drop, ↓reduceIte, Nat.reduceEqDiff, Nat.reduceAdd, Nat.reduceSub, Nat.reduceLeDiff, reduceCtorEq, implies_true, ne_eq, Tag.cap, List.replicate, allSolid, GVal.solid, Nat.reduceBEq, Nat.reduceMul, Nat.reduceLT, List.length_map, List.length_range, splice, vcA, ↓vcB, vcC, fbFf, e9, d0]
  refine (aOverX h hoS (buildI_len h) size hs).mono ?_
  rintro g O' ⟨st, L, rfl, rfl, h1, h2⟩
  simp +contextual -implicitDefEqProofs (maxSteps := 2000000) (disch := omega) only [binV, ↓unV, ↓loadV, ↓boxV, GVal.cells, grp, GVal.ofConst, ↓resV, resG, List.map, List.headD, List.take, List.drop, ↓reduceIte, Nat.reduceEqDiff, Nat.reduceAdd, Nat.reduceSub, Nat.reduceLeDiff, reduceCtorEq, implies_true, ne_eq, Tag.cap, List.replicate, allSolid, GVal.solid, Nat.reduceBEq, Nat.reduceMul, Nat.reduceLT, List.length_map, List.length_range, splice, vcA, ↓vcB, vcC, fbFf, e9]
  exact ⟨st, L, rfl, rfl, h1, h2⟩

theorem refLevels (l : List Seg) (size : Int) (hl : l.length ≤ 1000) (hp : sumP l ≤ 100000) (hs : 2 ≤ size) (hs2 : size ≤ 1000000) : GRel Try.prog 17 [.slice (segsG l) .none, .int .i64 size] (fun g => ∃ L, g = .slice (levsG L) .none ∧ LevMx size l L) := by
  refine h17.rel mixS (by simp) ?_
  simp only [gstart, s17, List.cons_append, List.nil_append, List.length_cons, List.length_nil, Nat.reduceAdd, Nat.reduceSub, List.replicate_succ, List.replicate_zero]
  simp +contextual -implicitDefEqProofs (maxSteps := 2000000) (disch := omega) only [↓lenV, binV, optV, ↓loadV, ↓indexAddrV, ↓buildSliceV, ↓sliceV, ↓appendV, ↓srcV, bound, cutTag, hiTag, fillE, GVal.cells, grp, GVal.ofConst, ↓resV, resG, List.map, List.headD, List.take, List.drop, ↓reduceIte, Nat.reduceEqDiff, Nat.reduceAdd, Nat.reduceSub, Nat.reduceLeDiff, reduceCtorEq, implies_true, ne_eq, ↓asrcV, Tag.cap, List.replicate, allSolid, GVal.solid, Nat.reduceBEq, Nat.reduceMul, Nat.reduceLT, List.length_map, List.length_range, splice, vcA, ↓vcB, vcC, fbFf, e17]
  refine ⟨fun h => absurd h (by omega), fun _ => ?_⟩
  refine vcSLoop_by (ι := { p : List (List Seg) × Nat // LevGo size l p.1 }) (fun p => ⟨[.any, .int .i64 size, .any, .any, .any, .slice (levsG p.1.1) (.tok 0 p.1.2)] ++ List.replicate 33 .any, [.tok p.1.2 1]⟩) (fun p => 4 - p.1.1.length) ?_ ?_
  · refine Into.tok 5 1 [[.slice (segsG l) .none]] rfl rfl ?_
    simp +contextual -implicitDefEqProofs (maxSteps := 2000000) (disch := omega) only [↓lenV, binV, optV, ↓loadV, ↓indexAddrV, ↓buildSliceV, ↓sliceV, ↓appendV, ↓srcV, bound, cutTag, hiTag, fillE, GVal.cells, grp, GVal.ofConst, ↓resV, resG, List.map, List.headD, List.take, List.drop, ↓reduceIte, Nat.reduceEqDiff, Nat.reduceAdd, Nat.reduceSub, Nat.reduceLeDiff, reduceCtorEq, implies_true, ne_eq, ↓asrcV, Tag.cap, List.replicate, allSolid, GVal.solid, Nat.reduceBEq, Nat.reduceMul, Nat.reduceLT, List.length_map, List.length_range, splice, vcA, ↓vcB, vcC, fbFf, e17]
    intro t
    exact Into.first ⟨([l], t), ⟨by simp, by simp, rfl, fun i hi => by simp at hi, fun i => by
      cases i with
      | zero => exact ⟨hl, hp⟩
      | succ i => simp [List.getD, sumP]⟩, fun i hi => by simp at hi⟩ ⟨[], by simp⟩ (by simp [WL, leG_self, leG_any, levsG_one])
  · rintro ⟨⟨L, v⟩, hL⟩
    change LevGo size l L at hL
    have hL' := hL
    obtain ⟨⟨h1, h2, h3, h4, h5⟩, hup⟩ := hL'
    have out : (L.length = 4 ∨ ∀ u, UpMx size (L.getD (L.length - 1) []) u → (L.getD (L.length - 1) []).length ≤ u.length) → ∃ r, frzTo r (.slice (levsG L) (.tok 0 v)) [.tok v 1] ∧ ∃ L, r = .slice (levsG L) .none ∧ LevMx size l L := fun hs => ⟨_, ⟨5, _, frz_levs _ 0 _ _, by rw [Tag.frz, leA_slice]⟩, L, rfl, hL.1, hL.2, hs⟩
    simp +contextual -implicitDefEqProofs (maxSteps := 2000000) (disch := omega) only [↓lenV, binV, optV, ↓loadV, ↓indexAddrV, ↓buildSliceV, ↓sliceV, ↓appendV, ↓srcV, bound, cutTag, hiTag, fillE, GVal.cells, grp, GVal.ofConst, ↓resV, resG, List.map, List.headD, List.take, List.drop, ↓reduceIte, Nat.reduceEqDiff, Nat.reduceAdd, Nat.reduceSub, Nat.reduceLeDiff, reduceCtorEq, implies_true, ne_eq, ↓asrcV, Tag.cap, List.replicate, allSolid, GVal.solid, Nat.reduceBEq, Nat.reduceMul, Nat.reduceLT, List.length_map, List.length_range, splice, vcA, ↓vcB, vcC, fbFf, e17, levsG_length, levsG_at, toNat_pred]
    refine ⟨fun h6 => ⟨by omega, by omega, ?_⟩, fun _ => out (.inl (by omega))⟩
    have hb := h5 (L.length - 1)
    refine (refUp (L.getD (L.length - 1) []) size hb.1 hb.2 hs hs2).then ?_
    rintro g ⟨u, rfl, hu⟩
    simp +contextual -implicitDefEqProofs (maxSteps := 2000000) (disch := omega) only [↓lenV, binV, optV, ↓loadV, ↓indexAddrV, ↓buildSliceV, ↓sliceV, ↓appendV, ↓srcV, bound, cutTag, hiTag, fillE, GVal.cells, grp, GVal.ofConst, ↓resV, resG, List.map, List.headD, List.take, List.drop, ↓reduceIte, Nat.reduceEqDiff, Nat.reduceAdd, Nat.reduceSub, Nat.reduceLeDiff, reduceCtorEq, implies_true, ne_eq, ↓asrcV, Tag.cap, List.replicate, allSolid, GVal.solid, Nat.reduceBEq, Nat.reduceMul, Nat.reduceLT, List.length_map, List.length_range, splice, vcA, ↓vcB, vcC, fbFf, e17, levsG_length, levsG_at, toNat_pred, segsG_length, all_levsG]
    refine ⟨by omega, by omega, fun h7 => out (.inr fun u2 h8 => by rw [h8.uniq hu]; omega), fun h7 => ⟨by omega, by omega, fun w => ?_⟩⟩
    exact Into.at ⟨(L ++ [u], w), hL.more (by omega) hu (by omega)⟩ (by show 4 - (L ++ [u]).length < 4 - L.length; rw [List.length_append]; simp; omega) ⟨[], by simp⟩ (by simp [WL, leG_self, leG_any, leG_int, levsG_append, levsG_one])
theorem refFlat {m o : List (List Int)} (h : TOK m o) : GPure Try.prog 18 [.agg [.slice (tabG m) .none, .slice (tabG o) .none]] (.slice (segsG (buildI m o)) .none) := by
  have hl := h.len
  have hoS := build_okS m o (by omega) (by omega) h.right
  refine spec24 m o h.len h.right (fun x => okRow_len h.right x) fun s hs => ?_
  have f := okS_flat _ 0 hoS s hs
  have := f.lo
  have := f.le
  have := f.top
  have hs : split = 1099511627776 := rfl
  omega
theorem specLevels (x y : List Int) (size : Int) : GPure Try.prog 4 [.agg [.slice (ints x) .none, .slice (ints y) .none], .int .i64 size] (.bool true) := by
  have b1 := Int.emod_nonneg size (by decide : (5 : Int) ≠ 0)
  have b2 := Int.emod_lt_of_pos size (by decide : (0 : Int) < 5)
  have cPk := sPick size 5 (by omega) (by omega)
  have cT := spec11 x y .none .none
  have hT : TOK (tabM x) (tabO x y) := ⟨by have := tabM_len x; have := tabO_len x y; omega, raw_right x y⟩
  have cPl := spec13 (tabG (tabM x)) (tabG (tabO x y)) .none .none
  generalize tabM x = m at *
  generalize tabO x y = o at *
  generalize size % 5 = q at *
  have hbl := buildI_len hT
  have hbp : sumP (buildI m o) ≤ 100000 := by
    have hl := hT.len
    have hoS := build_okS m o (by omega) (by omega) hT.right
    have := sumP_le4 (buildI m o) fun s hs => flat_par4 hT (okS_flat _ 0 hoS s hs)
    omega
  refine GCalls.toPure ?_
  refine h4.calls mixS (by simp) ?_
  simp only [gstart, s4, List.cons_append, List.nil_append, List.length_cons, List.length_nil, Nat.reduceAdd, Nat.reduceSub, List.replicate_succ, List.replicate_zero]
  simp +contextual -implicitDefEqProofs (maxSteps := 2000000) (disch := omega) only [drawC, ↓lenV, binV, ↓unV, ↓loadV, ↓storeV, ↓indexAddrV, ↓allocV, ↓boxV, GVal.cells, grp, GVal.ofConst, ↓resV, resG, List.map, List.headD, List.take, List.drop, ↓reduceIte, Nat.reduceEqDiff, Nat.reduceAdd, Nat.reduceSub, Nat.reduceLeDiff, reduceCtorEq, implies_true, ne_eq, aggV, Tag.cap, List.replicate, allSolid, GVal.solid, Nat.reduceBEq, Nat.reduceMul, Nat.reduceLT, List.length_map, List.length_range, splice, vcA, ↓vcB, vcC, fbFf, e4]
  refine cT.then ?_ (by rfl)
  simp +contextual -implicitDefEqProofs (maxSteps := 2000000) (disch := omega) only [drawC, ↓lenV, binV, ↓unV, ↓loadV, ↓storeV, ↓indexAddrV, ↓allocV, ↓boxV, GVal.cells, grp, GVal.ofConst, ↓resV, resG, List.map, List.headD, List.take, List.drop, ↓reduceIte, Nat.reduceEqDiff, Nat.reduceAdd, Nat.reduceSub, Nat.reduceLeDiff, reduceCtorEq, implies_true, ne_eq, aggV, Tag.cap, List.replicate, allSolid, GVal.solid, Nat.reduceBEq, Nat.reduceMul, Nat.reduceLT, List.length_map, List.length_range, splice, vcA, ↓vcB, vcC, fbFf, e4]
  intro s0
  refine cPk.then ?_ (by rfl)
  simp +contextual -implicitDefEqProofs (maxSteps := 2000000) (disch := omega) only [drawC, ↓lenV, binV, ↓unV, ↓loadV, ↓storeV, ↓indexAddrV, ↓allocV, ↓boxV, GVal.cells, grp, GVal.ofConst, ↓resV, resG, List.map, List.headD, List.take, List.drop, ↓reduceIte, Nat.reduceEqDiff, Nat.reduceAdd, Nat.reduceSub, Nat.reduceLeDiff, reduceCtorEq, implies_true, ne_eq, aggV, Tag.cap, List.replicate, allSolid, GVal.solid, Nat.reduceBEq, Nat.reduceMul, Nat.reduceLT, List.length_map, List.length_range, splice, vcA, ↓vcB, vcC, fbFf, e4]
  refine cPl.then ?_ (by rfl)
  simp +contextual -implicitDefEqProofs (maxSteps := 2000000) (disch := omega) only [drawC, ↓lenV, binV, ↓unV, ↓loadV, ↓storeV, ↓indexAddrV, ↓allocV, ↓boxV, GVal.cells, grp, GVal.ofConst, ↓resV, resG, List.map, List.headD, List.take, List.drop, ↓reduceIte, Nat.reduceEqDiff, Nat.reduceAdd, Nat.reduceSub, Nat.reduceLeDiff, reduceCtorEq, implies_true, ne_eq, aggV, Tag.cap, List.replicate, allSolid, GVal.solid, Nat.reduceBEq, Nat.reduceMul, Nat.reduceLT, List.length_map, List.length_range, splice, vcA, ↓vcB, vcC, fbFf, e4]
  refine (GCalls.newUp (aNewX hT .none .none (2 + q) (by omega)) (by rfl) (by rintro g O' ⟨st, L, rfl, rfl, _⟩; rfl)).mono ?_
  rintro g O' ⟨g0, O1, ⟨st, L, rfl, rfl, hD, hL⟩, rfl, rfl⟩
  have hz := hL.1.2.2.2.2
  have hlen := hL.1.2.1
  have cS := aSegments L (allN L) hlen hz
  have cF := refFlat hT
  have cL := refLevels (buildI m o) (2 + q) hbl hbp (by omega) (by omega)
  simp +contextual -implicitDefEqProofs (maxSteps := 2000000) (disch := omega) only [drawC, ↓lenV, binV, ↓unV, ↓loadV, ↓storeV, ↓indexAddrV, ↓allocV, ↓boxV, GVal.cells, grp, GVal.ofConst, ↓resV, resG, List.map, List.headD, List.take, List.drop, ↓reduceIte, Nat.reduceEqDiff, Nat.reduceAdd, Nat.reduceSub, Nat.reduceLeDiff, reduceCtorEq, implies_true, ne_eq, aggV, Tag.cap, List.replicate, allSolid, GVal.solid, Nat.reduceBEq, Nat.reduceMul, Nat.reduceLT, List.length_map, List.length_range, splice, vcA, ↓vcB, vcC, fbFf, e4, GVal.up]
  refine aKnown.then ?_ (by rfl)
  simp +contextual -implicitDefEqProofs (maxSteps := 2000000) (disch := omega) only [drawC, ↓lenV, binV, ↓unV, ↓loadV, ↓storeV, ↓indexAddrV, ↓allocV, ↓boxV, GVal.cells, grp, GVal.ofConst, ↓resV, resG, List.map, List.headD, List.take, List.drop, ↓reduceIte, Nat.reduceEqDiff, Nat.reduceAdd, Nat.reduceSub, Nat.reduceLeDiff, reduceCtorEq, implies_true, ne_eq, aggV, Tag.cap, List.replicate, allSolid, GVal.solid, Nat.reduceBEq, Nat.reduceMul, Nat.reduceLT, List.length_map, List.length_range, splice, vcA, ↓vcB, vcC, fbFf, e4]
  refine cS.then ?_
  simp +contextual -implicitDefEqProofs (maxSteps := 2000000) (disch := omega) only [drawC, ↓lenV, binV, ↓unV, ↓loadV, ↓storeV, ↓indexAddrV, ↓allocV, ↓boxV, GVal.cells, grp, GVal.ofConst, ↓resV, resG, List.map, List.headD, List.take, List.drop, ↓reduceIte, Nat.reduceEqDiff, Nat.reduceAdd, Nat.reduceSub, Nat.reduceLeDiff, reduceCtorEq, implies_true, ne_eq, aggV, Tag.cap, List.replicate, allSolid, GVal.solid, Nat.reduceBEq, Nat.reduceMul, Nat.reduceLT, List.length_map, List.length_range, splice, vcA, ↓vcB, vcC, fbFf, e4]
  refine cF.then ?_ (by rfl)
  simp +contextual -implicitDefEqProofs (maxSteps := 2000000) (disch := omega) only [drawC, ↓lenV, binV, ↓unV, ↓loadV, ↓storeV, ↓indexAddrV, ↓allocV, ↓boxV, GVal.cells, grp, GVal.ofConst, ↓resV, resG, List.map, List.headD, List.take, List.drop, ↓reduceIte, Nat.reduceEqDiff, Nat.reduceAdd, Nat.reduceSub, Nat.reduceLeDiff, reduceCtorEq, implies_true, ne_eq, aggV, Tag.cap, List.replicate, allSolid, GVal.solid, Nat.reduceBEq, Nat.reduceMul, Nat.reduceLT, List.length_map, List.length_range, splice, vcA, ↓vcB, vcC, fbFf, e4]
  refine (cL.then ?_)
  rintro g ⟨L2, rfl, hL2⟩
  obtain rfl := hL.uniq hL2
  simp +contextual -implicitDefEqProofs (maxSteps := 2000000) (disch := omega) only [drawC, ↓lenV, binV, ↓unV, ↓loadV, ↓storeV, ↓indexAddrV, ↓allocV, ↓boxV, GVal.cells, grp, GVal.ofConst, ↓resV, resG, List.map, List.headD, List.take, List.drop, ↓reduceIte, Nat.reduceEqDiff, Nat.reduceAdd, Nat.reduceSub, Nat.reduceLeDiff, reduceCtorEq, implies_true, ne_eq, aggV, Tag.cap, List.replicate, allSolid, GVal.solid, Nat.reduceBEq, Nat.reduceMul, Nat.reduceLT, List.length_map, List.length_range, splice, vcA, ↓vcB, vcC, fbFf, e4, levsG_length, not_true_eq_false, false_imp_iff, true_imp_iff, and_true, true_and]
  refine vcSLoop_by (ι := { k : Nat // k ≤ L.length }) (fun k => ⟨[.any, .any, .any, .any, .any, .any, .any, .slice (levsG L) .none, .slice (levsG L) .none, .int .i64 (k.1 : Nat)] ++ List.replicate 42 .any, []⟩) (fun k => L.length - k.1) ?_ ?_
  · exact Into.first ⟨0, Nat.zero_le _⟩ ⟨_, rfl⟩ (by simp [WL, leG_self, leG_any])
  · rintro ⟨k, hk⟩
    by_cases hkl : k < L.length
    · have d0 : ((k : Int) < (L.length : Int)) = True := eq_true (by omega)
      have eS := levsG_at L k hkl
      have hb := hz k
      have c39 := spec39 (L.getD k []) (L.getD k []) .none .none (by omega) (fun i => by have := sumP_at (L.getD k []) i; omega)
      rw [decide_eq_true rfl] at c39
      generalize L.getD k [] = l at *
      simp +contextual -implicitDefEqProofs (maxSteps := 2000000) (disch := omega) only [drawC, ↓lenV, binV, ↓unV, ↓loadV, ↓storeV, ↓indexAddrV, ↓allocV, ↓boxV, GVal.cells, grp, GVal.ofConst, ↓resV, resG, List.map, List.headD, List.take, List.drop, ↓reduceIte, Nat.reduceEqDiff, Nat.reduceAdd, Nat.reduceSub, Nat.reduceLeDiff, reduceCtorEq, implies_true, ne_eq, aggV, Tag.cap, List.replicate, allSolid, GVal.solid, Nat.reduceBEq, Nat.reduceMul, Nat.reduceLT, List.length_map, List.length_range, splice, vcA, ↓vcB, vcC, fbFf, e4, levsG_length, d0, eS]
      refine ⟨by omega, by omega, c39.then ?_⟩
      simp +contextual -implicitDefEqProofs (maxSteps := 2000000) (disch := omega) only [drawC, ↓lenV, binV, ↓unV, ↓loadV, ↓storeV, ↓indexAddrV, ↓allocV, ↓boxV, GVal.cells, grp, GVal.ofConst, ↓resV, resG, List.map, List.headD, List.take, List.drop, ↓reduceIte, Nat.reduceEqDiff, Nat.reduceAdd, Nat.reduceSub, Nat.reduceLeDiff, reduceCtorEq, implies_true, ne_eq, aggV, Tag.cap, List.replicate, allSolid, GVal.solid, Nat.reduceBEq, Nat.reduceMul, Nat.reduceLT, List.length_map, List.length_range, splice, vcA, ↓vcB, vcC, fbFf, e4, levsG_length, d0, eS]
      exact Into.at ⟨k + 1, by omega⟩ (by show _ < _; simp; omega) ⟨[], by simp⟩ (by simp [WL, leG_self, leG_any, leG_int])
    · have d0 : ((k : Int) < (L.length : Int)) = False := eq_false (by omega)
      simp +contextual -implicitDefEqProofs (maxSteps := 2000000) (disch := omega) only [drawC, ↓lenV, binV, ↓unV, ↓loadV, ↓storeV, ↓indexAddrV, ↓allocV, ↓boxV, GVal.cells, grp, GVal.ofConst, ↓resV, resG, List.map, List.headD, List.take, List.drop, ↓reduceIte, Nat.reduceEqDiff, Nat.reduceAdd, Nat.reduceSub, Nat.reduceLeDiff, reduceCtorEq, implies_true, ne_eq, aggV, Tag.cap, List.replicate, allSolid, GVal.solid, Nat.reduceBEq, Nat.reduceMul, Nat.reduceLT, List.length_map, List.length_range, splice, vcA, ↓vcB, vcC, fbFf, e4, levsG_length, d0]
      exact frzB _
end Gv.Try
