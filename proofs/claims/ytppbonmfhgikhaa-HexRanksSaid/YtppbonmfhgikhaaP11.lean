/- Sets of numbers as lists of spans: the plain theory. -/
import Derived.Test.YtppbonmfhgikhaaP4
import Derived.Test.YtppbonmfhgikhaaP7
import Derived.Test.YtppbonmfhgikhaaP9
import Derived.Test.YtppbonmfhgikhaaHJb
set_option linter.unusedVariables false
namespace Gv.Sp
open Gv
abbrev S := Int × Int
/-- a number is in one of the spans; only numbers from 0 on count -/
def has (l : List S) (n : Int) : Prop := ∃ s ∈ l, 0 ≤ n ∧ s.1 ≤ n ∧ n ≤ s.2
theorem has_nil (n : Int) : has [] n ↔ False := by simp [has]
theorem has_cons (s : S) (l : List S) (n : Int) : has (s :: l) n ↔ (0 ≤ n ∧ s.1 ≤ n ∧ n ≤ s.2) ∨ has l n := by simp [has]
theorem has_app (a b : List S) (n : Int) : has (a ++ b) n ↔ has a n ∨ has b n := by
  induction a with
  | nil => simp [has_nil]
  | cons s r ih => rw [List.cons_append, has_cons, has_cons, ih, or_assoc]
theorem has_perm {a b : List S} (h : a.Perm b) (n : Int) : has a n ↔ has b n := by
  simp only [has, h.mem_iff]
/-- right: rising, apart, not adjacent -/
def Rt : Int → List S → Prop
  | _, [] => True
  | b, s :: r => b ≤ s.1 ∧ s.1 ≤ s.2 ∧ Rt (s.2 + 2) r
theorem Rt.weak {b b' : Int} : ∀ {l : List S}, Rt b l → b' ≤ b → Rt b' l
  | [], _, _ => trivial
  | s :: r, ⟨h1, h2, h3⟩, h => ⟨by omega, h2, h3⟩
theorem Rt.ge {n : Int} : ∀ {l : List S} {b : Int}, Rt b l → has l n → b ≤ n
  | [], b, _, h => by simp [has] at h
  | s :: r, b, ⟨h1, h2, h3⟩, h => by
    rcases (has_cons s r n).1 h with h | h
    · omega
    · have := h3.ge h; omega
theorem Rt.mem {s : S} : ∀ {l : List S} {b : Int}, Rt b l → s ∈ l → b ≤ s.1 ∧ s.1 ≤ s.2
  | [], b, _, h => by simp at h
  | x :: r, b, ⟨h1, h2, h3⟩, h => by
    rcases List.mem_cons.1 h with rfl | h
    · exact ⟨h1, h2⟩
    · have := h3.mem h; omega
theorem Rt.lo {s : S} {l : List S} {b : Int} (h : Rt b l) (hb : 0 ≤ b) (hs : s ∈ l) : has l s.1 := ⟨s, hs, by have := h.mem hs; omega⟩
theorem Rt.hi {s : S} {l : List S} {b : Int} (h : Rt b l) (hb : 0 ≤ b) (hs : s ∈ l) : has l s.2 := ⟨s, hs, by have := h.mem hs; omega⟩
theorem uniq : ∀ {l l' : List S} {b b' : Int}, Rt b l → Rt b' l' → 0 ≤ b → 0 ≤ b' → (∀ n, has l n ↔ has l' n) → l = l'
  | [], [], _, _, _, _, _, _, _ => rfl
  | [], y :: r, _, b', _, h', _, h0', h => absurd ((h y.1).2 (h'.lo h0' (by simp))) (by simp [has])
  | x :: r, [], b, _, h', _, h0', _, h => absurd ((h x.1).1 (h'.lo h0' (by simp))) (by simp [has])
  | (x1, x2) :: r, (y1, y2) :: q, b, b', hx, hy, hb, hb', h => by
    have e1 : has ((y1, y2) :: q) x1 := (h _).1 (hx.lo hb (s := (x1, x2)) (by simp))
    have e2 : has ((x1, x2) :: r) y1 := (h _).2 (hy.lo hb' (s := (y1, y2)) (by simp))
    obtain ⟨p1, p2, p3⟩ := hx
    obtain ⟨q1, q2, q3⟩ := hy
    simp only at p1 p2 p3 q1 q2 q3
    have g1 : y1 ≤ x1 := by
      rcases (has_cons _ _ _).1 e1 with e | e
      · exact e.2.1
      · have := q3.ge e; omega
    have g2 : x1 ≤ y1 := by
      rcases (has_cons _ _ _).1 e2 with e | e
      · exact e.2.1
      · have := p3.ge e; omega
    have g : x1 = y1 := by omega
    have k1 : ¬ x2 < y2 := fun hlt => by
      have e := (h (x2 + 1)).2 ((has_cons _ _ _).2 (.inl ⟨by omega, by show y1 ≤ _; omega, by show _ ≤ y2; omega⟩))
      rcases (has_cons _ _ _).1 e with e | e
      · have := e.2.2; simp only at this; omega
      · have := p3.ge e; omega
    have k2 : ¬ y2 < x2 := fun hlt => by
      have e := (h (y2 + 1)).1 ((has_cons _ _ _).2 (.inl ⟨by omega, by show x1 ≤ _; omega, by show _ ≤ x2; omega⟩))
      rcases (has_cons _ _ _).1 e with e | e
      · have := e.2.2; simp only at this; omega
      · have := q3.ge e; omega
    have k : x2 = y2 := by omega
    subst g; subst k
    have hr : ∀ n, has r n ↔ has q n := fun n => by
      constructor
      · intro hn
        rcases (has_cons _ _ _).1 ((h n).1 ((has_cons _ _ _).2 (.inr hn))) with e | e
        · have := p3.ge hn; have := e.2.2; simp only at this; omega
        · exact e
      · intro hn
        rcases (has_cons _ _ _).1 ((h n).2 ((has_cons _ _ _).2 (.inr hn))) with e | e
        · have := q3.ge hn; have := e.2.2; simp only at this; omega
        · exact e
    rw [uniq p3 q3 (by omega) (by omega) hr]

theorem Rt_snoc (x : S) : ∀ (A : List S) (b : Int), Rt b (A ++ [x]) ↔ Rt b A ∧ b ≤ x.1 ∧ x.1 ≤ x.2 ∧ ∀ y ∈ A, y.2 + 2 ≤ x.1
  | [], b => by simp [Rt]
  | y :: r, b => by
    rw [List.cons_append]
    show b ≤ y.1 ∧ y.1 ≤ y.2 ∧ Rt (y.2 + 2) (r ++ [x]) ↔ (b ≤ y.1 ∧ y.1 ≤ y.2 ∧ Rt (y.2 + 2) r) ∧ _
    rw [Rt_snoc x r]
    constructor
    · rintro ⟨h1, h2, h3, h4, h5, h6⟩
      exact ⟨⟨h1, h2, h3⟩, by omega, h5, fun z hz => by
        rcases List.mem_cons.1 hz with rfl | hz
        · exact h4
        · exact h6 z hz⟩
    · rintro ⟨⟨h1, h2, h3⟩, h4, h5, h6⟩
      exact ⟨h1, h2, h3, h6 y (by simp), h5, fun z hz => h6 z (by simp [hz])⟩

/-- a right list with a span more -/
def ins : List S → S → List S
  | [], s => [s]
  | x :: r, s => if x.2 + 1 < s.1 then x :: ins r s else if s.2 + 1 < x.1 then s :: x :: r else ins r (min s.1 x.1, max s.2 x.2)
theorem ins_rt : ∀ (l : List S) (s : S) (b : Int), Rt b l → b ≤ s.1 → s.1 ≤ s.2 → Rt b (ins l s)
  | [], s, b, _, h1, h2 => ⟨h1, h2, trivial⟩
  | x :: r, s, b, ⟨p1, p2, p3⟩, h1, h2 => by
    unfold ins
    split
    · exact ⟨p1, p2, ins_rt r s _ p3 (by omega) h2⟩
    · split
      · exact ⟨h1, h2, by omega, p2, p3⟩
      · exact ins_rt r _ b (p3.weak (by omega)) (by show _ ≤ min _ _; omega) (by show min _ _ ≤ max _ _; omega)
theorem ins_has (n : Int) : ∀ (l : List S) (s : S) (b : Int), Rt b l → s.1 ≤ s.2 → (has (ins l s) n ↔ has l n ∨ (0 ≤ n ∧ s.1 ≤ n ∧ n ≤ s.2))
  | [], s, b, _, _ => by simp [ins, has_cons, has_nil]
  | x :: r, s, b, ⟨p1, p2, p3⟩, h2 => by
    unfold ins
    split
    · rw [has_cons, ins_has n r s _ p3 h2, has_cons, or_assoc]
    · split
      · rw [has_cons s, or_comm]
      · rw [ins_has n r _ _ p3 (by show min _ _ ≤ max _ _; omega), has_cons]
        constructor
        · rintro (h | ⟨q1, q2, q3⟩)
          · exact .inl (.inr h)
          · simp only at q2 q3
            by_cases e : s.1 ≤ n ∧ n ≤ s.2
            · exact .inr ⟨q1, e⟩
            · exact .inl (.inl ⟨q1, by omega, by omega⟩)
        · rintro ((⟨q1, q2, q3⟩ | h) | ⟨q1, q2, q3⟩)
          · exact .inr ⟨q1, by show min _ _ ≤ _; omega, by show _ ≤ max _ _; omega⟩
          · exact .inl h
          · exact .inr ⟨q1, by show min _ _ ≤ _; omega, by show _ ≤ max _ _; omega⟩
theorem ins_len : ∀ (l : List S) (s : S), (ins l s).length ≤ l.length + 1
  | [], s => by simp [ins]
  | x :: r, s => by
    unfold ins
    split
    · have := ins_len r s; simp; omega
    · split
      · simp
      · have := ins_len r (min s.1 x.1, max s.2 x.2); simp; omega

/-- one span of any, put into a set -/
def put (acc : List S) (s : S) : List S := if max s.1 0 ≤ s.2 then ins acc (max s.1 0, s.2) else acc
/-- the set of any spans -/
def nfA (acc : List S) : List S → List S
  | [] => acc
  | s :: r => nfA (put acc s) r
def nf (l : List S) : List S := nfA [] l
theorem put_rt {acc : List S} (s : S) (h : Rt 0 acc) : Rt 0 (put acc s) := by
  unfold put; split
  · exact ins_rt _ _ _ h (by show _ ≤ max _ _; omega) (by assumption)
  · exact h
theorem put_has {acc : List S} (s : S) (h : Rt 0 acc) (n : Int) : has (put acc s) n ↔ has acc n ∨ (0 ≤ n ∧ s.1 ≤ n ∧ n ≤ s.2) := by
  unfold put; split
  · rw [ins_has n _ _ _ h (by assumption)]
    constructor
    · rintro (q | ⟨q1, q2, q3⟩)
      · exact .inl q
      · exact .inr ⟨q1, by simp only at q2; omega, q3⟩
    · rintro (q | ⟨q1, q2, q3⟩)
      · exact .inl q
      · exact .inr ⟨q1, by show max _ _ ≤ _; omega, q3⟩
  · constructor
    · exact .inl
    · rintro (q | ⟨q1, q2, q3⟩)
      · exact q
      · omega
theorem nfA_rt : ∀ (l acc : List S), Rt 0 acc → Rt 0 (nfA acc l)
  | [], acc, h => h
  | s :: r, acc, h => nfA_rt r _ (put_rt s h)
theorem nfA_has (n : Int) : ∀ (l acc : List S), Rt 0 acc → (has (nfA acc l) n ↔ has acc n ∨ has l n)
  | [], acc, h => by simp [nfA, has_nil]
  | s :: r, acc, h => by
    show has (nfA (put acc s) r) n ↔ _
    rw [nfA_has n r _ (put_rt s h), put_has s h, has_cons, or_assoc]
theorem nfA_app (a b acc : List S) : nfA acc (a ++ b) = nfA (nfA acc a) b := by
  induction a generalizing acc with
  | nil => rfl
  | cons s r ih => exact ih _
theorem nf_rt (l : List S) : Rt 0 (nf l) := nfA_rt l [] trivial
theorem nf_has (l : List S) (n : Int) : has (nf l) n ↔ has l n := by rw [nf, nfA_has n l [] trivial, has_nil, false_or]
theorem nfA_len : ∀ (l acc : List S), (nfA acc l).length ≤ acc.length + l.length
  | [], acc => by simp [nfA]
  | s :: r, acc => by
    have h := nfA_len r (put acc s)
    have : (put acc s).length ≤ acc.length + 1 := by
      unfold put; split
      · exact ins_len _ _
      · omega
    show (nfA (put acc s) r).length ≤ _
    simp; omega
theorem nf_len (l : List S) : (nf l).length ≤ l.length := by have := nfA_len l []; simpa [nf] using this
/-- the set is the one right list with its numbers -/
theorem nf_eq {l r : List S} (h : Rt 0 r) (hn : ∀ n, has r n ↔ has l n) : nf l = r := uniq (nf_rt l) h (by omega) (by omega) fun n => by rw [nf_has, hn]
theorem nf_rt_eq {l : List S} (h : Rt 0 l) : nf l = l := nf_eq h fun _ => Iff.rfl
theorem nf_nf (l : List S) : nf (nf l) = nf l := nf_rt_eq (nf_rt l)
theorem nf_congr {a b : List S} (h : ∀ n, has a n ↔ has b n) : nf a = nf b := nf_eq (nf_rt b) fun n => by rw [nf_has, h]

/-- bounds -/
def Top (l : List S) : Prop := ∀ s ∈ l, s.2 ≤ 9223372036854775807
def Ok (l : List S) : Prop := ∀ s ∈ l, (-9223372036854775808 ≤ s.1 ∧ s.1 ≤ 9223372036854775807) ∧ (-9223372036854775808 ≤ s.2 ∧ s.2 ≤ 9223372036854775807)
theorem Ok.has {l : List S} (h : Ok l) {n : Int} (hn : has l n) : n ≤ 9223372036854775807 := by obtain ⟨s, hs, h1, h2, h3⟩ := hn; have := (h s hs).2.2; omega
theorem ok_of {l : List S} {b : Int} (h : Rt b l) (hb : 0 ≤ b) (hn : ∀ n, Sp.has l n → n ≤ 9223372036854775807) : Ok l := fun s hs => by
  have h1 := h.mem hs
  have h2 := hn _ (h.hi hb hs)
  exact ⟨⟨by omega, by omega⟩, by omega, h2⟩
theorem nf_ok {l : List S} (h : Ok l) : Ok (nf l) := ok_of (nf_rt l) (by omega) fun n hn => h.has ((nf_has l n).1 hn)
theorem Ok.app {a b : List S} (ha : Ok a) (hb : Ok b) : Ok (a ++ b) := fun s hs => (List.mem_append.1 hs).elim (ha s) (hb s)
theorem Ok.nil : Ok [] := fun s hs => by simp at hs
theorem Ok.at {l : List S} (h : Ok l) (i : Nat) : (-9223372036854775808 ≤ (l.getD i (0, 0)).1 ∧ (l.getD i (0, 0)).1 ≤ 9223372036854775807) ∧ (-9223372036854775808 ≤ (l.getD i (0, 0)).2 ∧ (l.getD i (0, 0)).2 ≤ 9223372036854775807) := by
  by_cases hi : i < l.length
  · rw [List.getD_eq_getElem?_getD, List.getElem?_eq_getElem hi]; exact h _ (List.getElem_mem hi)
  · rw [List.getD_eq_getElem?_getD, List.getElem?_eq_none (by omega)]; simp
theorem Rt.at {l : List S} {b : Int} (h : Rt b l) (i : Nat) (hi : i < l.length) : b ≤ (l.getD i (0, 0)).1 ∧ (l.getD i (0, 0)).1 ≤ (l.getD i (0, 0)).2 := by
  rw [List.getD_eq_getElem?_getD, List.getElem?_eq_getElem hi]; exact h.mem (List.getElem_mem hi)

/-- what is in two right lists -/
def both (a b : List S) : List S :=
  match a, b with
  | [], _ => []
  | _ :: _, [] => []
  | x :: a, y :: b => (if max x.1 y.1 ≤ min x.2 y.2 then [(max x.1 y.1, min x.2 y.2)] else []) ++ if x.2 < y.2 then both a (y :: b) else both (x :: a) b
termination_by a.length + b.length
theorem both_nil (b : List S) : both [] b = [] := by rw [both.eq_def]
theorem both_nil' (a : List S) : both a [] = [] := by cases a <;> rw [both.eq_def]
theorem both_cons (x y : S) (a b : List S) : both (x :: a) (y :: b) = (if max x.1 y.1 ≤ min x.2 y.2 then [(max x.1 y.1, min x.2 y.2)] else []) ++ if x.2 < y.2 then both a (y :: b) else both (x :: a) b := by rw [both.eq_def]
theorem both_spec (n : Int) : ∀ (k : Nat) (a b : List S) (p q : Int), a.length + b.length ≤ k → Rt p a → Rt q b → Rt (max p q) (both a b) ∧ (has (both a b) n ↔ has a n ∧ has b n)
  | k, [], b, p, q, _, _, _ => by rw [both_nil]; exact ⟨trivial, by simp [has_nil]⟩
  | k, x :: a, [], p, q, _, _, _ => by rw [both_nil']; exact ⟨trivial, by simp [has_nil]⟩
  | 0, x :: a, y :: b, p, q, h, _, _ => by simp at h
  | k + 1, x :: a, y :: b, p, q, h, hx, hy => by
    have hx' := hx
    have hy' := hy
    obtain ⟨x1, x2, x3⟩ := hx'
    obtain ⟨y1, y2, y3⟩ := hy'
    rw [both_cons]
    simp only [List.length_cons] at h
    by_cases hlt : x.2 < y.2
    · rw [if_pos hlt]
      obtain ⟨r1, r2⟩ := both_spec n k a (y :: b) (x.2 + 2) q (by simp; omega) x3 hy
      have r1' := r1
      constructor
      · split
        · show Rt _ (_ :: _)
          exact ⟨by show max p q ≤ max x.1 y.1; omega, by assumption, r1.weak (by show min x.2 y.2 + 2 ≤ _; omega)⟩
        · exact r1.weak (by omega)
      · have e : has ((if max x.1 y.1 ≤ min x.2 y.2 then [(max x.1 y.1, min x.2 y.2)] else []) ++ both a (y :: b)) n ↔ (0 ≤ n ∧ x.1 ≤ n ∧ n ≤ x.2 ∧ y.1 ≤ n ∧ n ≤ y.2) ∨ has (both a (y :: b)) n := by
          rw [has_app]
          refine or_congr ?_ Iff.rfl
          split
          · simp only [has_cons, has_nil, or_false]; omega
          · rw [has_nil]; exact ⟨False.elim, fun h => by omega⟩
        rw [e, r2, has_cons x]
        constructor
        · rintro (⟨c1, c2, c3, c4, c5⟩ | ⟨c1, c2⟩)
          · exact ⟨.inl ⟨c1, c2, c3⟩, (has_cons _ _ _).2 (.inl ⟨c1, c4, c5⟩)⟩
          · exact ⟨.inr c1, c2⟩
        · rintro ⟨⟨c1, c2, c3⟩ | c1, c4⟩
          · rcases (has_cons _ _ _).1 c4 with ⟨_, d2, d3⟩ | d
            · exact .inl ⟨c1, c2, c3, d2, d3⟩
            · have := y3.ge d; omega
          · exact .inr ⟨c1, c4⟩
    · rw [if_neg hlt]
      obtain ⟨r1, r2⟩ := both_spec n k (x :: a) b p (y.2 + 2) (by simp; omega) hx y3
      constructor
      · split
        · show Rt _ (_ :: _)
          exact ⟨by show max p q ≤ max x.1 y.1; omega, by assumption, r1.weak (by show min x.2 y.2 + 2 ≤ _; omega)⟩
        · exact r1.weak (by omega)
      · have e : has ((if max x.1 y.1 ≤ min x.2 y.2 then [(max x.1 y.1, min x.2 y.2)] else []) ++ both (x :: a) b) n ↔ (0 ≤ n ∧ x.1 ≤ n ∧ n ≤ x.2 ∧ y.1 ≤ n ∧ n ≤ y.2) ∨ has (both (x :: a) b) n := by
          rw [has_app]
          refine or_congr ?_ Iff.rfl
          split
          · simp only [has_cons, has_nil, or_false]; omega
          · rw [has_nil]; exact ⟨False.elim, fun h => by omega⟩
        rw [e, r2, has_cons y]
        constructor
        · rintro (⟨c1, c2, c3, c4, c5⟩ | ⟨c1, c2⟩)
          · exact ⟨(has_cons _ _ _).2 (.inl ⟨c1, c2, c3⟩), .inl ⟨c1, c4, c5⟩⟩
          · exact ⟨c1, .inr c2⟩
        · rintro ⟨c4, ⟨c1, c2, c3⟩ | c1⟩
          · rcases (has_cons _ _ _).1 c4 with ⟨_, d2, d3⟩ | d
            · exact .inl ⟨c1, d2, d3, c2, c3⟩
            · have := x3.ge d; omega
          · exact .inr ⟨c4, c1⟩
theorem both_rt {a b : List S} (ha : Rt 0 a) (hb : Rt 0 b) : Rt 0 (both a b) := by have := (both_spec 0 _ a b 0 0 (Nat.le_refl _) ha hb).1; simpa using this
theorem both_has {a b : List S} (ha : Rt 0 a) (hb : Rt 0 b) (n : Int) : has (both a b) n ↔ has a n ∧ has b n := (both_spec n _ a b 0 0 (Nat.le_refl _) ha hb).2
theorem both_len : ∀ (k : Nat) (a b : List S), a.length + b.length ≤ k → (both a b).length ≤ a.length + b.length
  | k, [], b, _ => by rw [both_nil]; simp
  | k, x :: a, [], _ => by rw [both_nil']; simp
  | 0, x :: a, y :: b, h => by simp at h
  | k + 1, x :: a, y :: b, h => by
    rw [both_cons]
    simp only [List.length_cons] at h
    have h1 := both_len k a (y :: b) (by simp; omega)
    have h2 := both_len k (x :: a) b (by simp; omega)
    simp only [List.length_cons] at h1 h2
    by_cases hlt : x.2 < y.2
    · rw [if_pos hlt]; split <;> simp <;> omega
    · rw [if_neg hlt]; split <;> simp <;> omega

/-- all numbers from one on that are not in a right list -/
def restF (low : Int) : List S → List S
  | [] => [(low, 9223372036854775807)]
  | s :: r => (if low < s.1 then [(low, s.1 - 1)] else []) ++ if s.2 = 9223372036854775807 then [] else restF (s.2 + 1) r
theorem restF_spec (n : Int) : ∀ (l : List S) (low b : Int), Rt b l → (∀ s ∈ l, s.2 ≤ 9223372036854775807) → 0 ≤ low → low ≤ 9223372036854775807 → low ≤ b → Rt low (restF low l) ∧ (has (restF low l) n ↔ low ≤ n ∧ n ≤ 9223372036854775807 ∧ ¬ has l n)
  | [], low, b, _, _, h0, h1, _ => ⟨⟨Int.le_refl _, h1, trivial⟩, by simp only [restF, has_cons, has_nil, or_false, not_false_eq_true, and_true]; omega⟩
  | s :: r, low, b, ⟨p1, p2, p3⟩, ht, h0, h1, h2 => by
    have hs := ht s (by simp)
    unfold restF
    by_cases e : s.2 = 9223372036854775807
    · rw [if_pos e, List.append_nil, has_cons]
      have hr : ¬ has r n := fun h => by
        have := p3.ge h
        obtain ⟨z, hz, _, _, h5⟩ := h
        have := ht z (by simp [hz]); omega
      constructor
      · split
        · exact ⟨Int.le_refl _, by show low ≤ s.1 - 1; omega, trivial⟩
        · trivial
      · split
        · simp only [has_cons, has_nil, or_false, hr]; omega
        · simp only [has_nil, hr, or_false]; exact ⟨False.elim, fun h => by omega⟩
    · rw [if_neg e]
      obtain ⟨r1, r2⟩ := restF_spec n r (s.2 + 1) (s.2 + 2) p3 (fun z hz => ht z (by simp [hz])) (by omega) (by omega) (by omega)
      have hge : has r n → s.2 + 2 ≤ n := fun h => p3.ge h
      constructor
      · split
        · exact ⟨Int.le_refl _, by show low ≤ s.1 - 1; omega, r1.weak (by show s.1 - 1 + 2 ≤ _; omega)⟩
        · exact r1.weak (by omega)
      · rw [has_app, r2, has_cons]
        split
        · simp only [has_cons, has_nil, or_false]
          constructor
          · rintro (h | h)
            · refine ⟨by omega, by omega, ?_⟩
              rintro (h' | h')
              · omega
              · have := hge h'; omega
            · refine ⟨by omega, by omega, ?_⟩
              rintro (h' | h')
              · omega
              · exact h.2.2 h'
          · rintro ⟨h3, h4, h5⟩
            have h6 : ¬ (0 ≤ n ∧ s.1 ≤ n ∧ n ≤ s.2) := fun h => h5 (.inl h)
            have h7 : ¬ has r n := fun h => h5 (.inr h)
            by_cases h8 : n < s.1
            · exact .inl (by omega)
            · exact .inr ⟨by omega, h4, h7⟩
        · rw [has_nil, false_or]
          constructor
          · rintro ⟨h3, h4, h5⟩
            refine ⟨by omega, h4, ?_⟩
            rintro (h' | h')
            · omega
            · exact h5 h'
          · rintro ⟨h3, h4, h5⟩
            have h6 : ¬ (0 ≤ n ∧ s.1 ≤ n ∧ n ≤ s.2) := fun h => h5 (.inl h)
            exact ⟨by omega, h4, fun h => h5 (.inr h)⟩
def rest (l : List S) : List S := restF 0 l
theorem rest_rt {l : List S} (h : Rt 0 l) (ht : Ok l) : Rt 0 (rest l) := (restF_spec 0 l 0 0 h (fun s hs => (ht s hs).2.2) (by omega) (by omega) (by omega)).1
theorem rest_has {l : List S} (h : Rt 0 l) (ht : Ok l) (n : Int) : has (rest l) n ↔ 0 ≤ n ∧ n ≤ 9223372036854775807 ∧ ¬ has l n := (restF_spec n l 0 0 h (fun s hs => (ht s hs).2.2) (by omega) (by omega) (by omega)).2
theorem rest_ok {l : List S} (h : Rt 0 l) (ht : Ok l) : Ok (rest l) := ok_of (rest_rt h ht) (by omega) fun n hn => ((rest_has h ht n).1 hn).2.1
theorem restF_len : ∀ (l : List S) (low : Int), (restF low l).length ≤ l.length + 1
  | [], low => by simp [restF]
  | s :: r, low => by
    unfold restF
    have := restF_len r (s.2 + 1)
    split <;> split <;> simp <;> omega
/-- of any spans: union, both, minus -/
def uni (a b : List S) : List S := nf (a ++ b)
def bothS (a b : List S) : List S := both (nf a) (nf b)
def minus (a b : List S) : List S := bothS a (rest (nf b))
theorem uni_rt (a b : List S) : Rt 0 (uni a b) := nf_rt _
theorem uni_has (a b : List S) (n : Int) : has (uni a b) n ↔ has a n ∨ has b n := by rw [uni, nf_has, has_app]
theorem uni_ok {a b : List S} (ha : Ok a) (hb : Ok b) : Ok (uni a b) := nf_ok (ha.app hb)
theorem bothS_rt (a b : List S) : Rt 0 (bothS a b) := both_rt (nf_rt a) (nf_rt b)
theorem bothS_has (a b : List S) (n : Int) : has (bothS a b) n ↔ has a n ∧ has b n := by rw [bothS, both_has (nf_rt a) (nf_rt b), nf_has, nf_has]
theorem bothS_ok {a b : List S} (ha : Ok a) : Ok (bothS a b) := ok_of (bothS_rt a b) (by omega) fun n hn => ha.has ((bothS_has a b n).1 hn).1
theorem minus_rt (a b : List S) : Rt 0 (minus a b) := bothS_rt _ _
theorem minus_has {a b : List S} (ha : Ok a) (hb : Ok b) (n : Int) : has (minus a b) n ↔ has a n ∧ ¬ has b n := by
  rw [minus, bothS_has, rest_has (nf_rt b) (nf_ok hb), nf_has]
  constructor
  · exact fun h => ⟨h.1, h.2.2.2⟩
  · refine fun h => ⟨h.1, ?_, ha.has h.1, h.2⟩
    obtain ⟨s, _, h1, _⟩ := h.1; exact h1
theorem minus_ok {a b : List S} (ha : Ok a) : Ok (minus a b) := bothS_ok ha
theorem uni_len (a b : List S) : (uni a b).length ≤ a.length + b.length := by have := nf_len (a ++ b); simpa [uni] using this
theorem bothS_len (a b : List S) : (bothS a b).length ≤ a.length + b.length := by
  have h1 := both_len _ (nf a) (nf b) (Nat.le_refl _)
  have h2 := nf_len a
  have h3 := nf_len b
  unfold bothS; omega
theorem minus_len (a b : List S) : (minus a b).length ≤ a.length + b.length + 1 := by
  have h1 := bothS_len a (rest (nf b))
  have h2 := restF_len (nf b) 0
  have h3 := nf_len b
  unfold minus; unfold rest at *; omega
theorem empty_of {l : List S} (h : Rt 0 l) (hn : ∀ n, ¬ has l n) : l = [] := by
  cases l with
  | nil => rfl
  | cons s r => exact absurd (h.lo (by omega) (s := s) (by simp)) (hn _)
end Gv.Sp
/- Spans as ghost values. -/
set_option linter.unusedVariables false
namespace Gv
def spG (s : Sp.S) : List GVal := [.int .i64 s.1, .int .i64 s.2]
def spl (l : List Sp.S) : List (List GVal) := l.map spG
theorem spl_length (l : List Sp.S) : (spl l).length = l.length := by simp [spl]
theorem spl_at (l : List Sp.S) (i : Nat) (h : i < l.length) : (spl l).getD i [] = spG (l.getD i (0, 0)) := by simp [spl, List.getD, h]
theorem spl_append (a b : List Sp.S) : spl (a ++ b) = spl a ++ spl b := by simp [spl]
theorem spl_one (s : Sp.S) : spl [s] = [spG s] := rfl
theorem spl_nil : spl [] = [] := rfl
theorem spl_cons (s : Sp.S) (l : List Sp.S) : spl (s :: l) = spG s :: spl l := rfl
theorem spl_take (l : List Sp.S) (n : Nat) : (spl l).take n = spl (l.take n) := by simp [spl, List.map_take]
theorem spl_drop (l : List Sp.S) (n : Nat) : (spl l).drop n = spl (l.drop n) := by simp [spl, List.map_drop]
theorem all_spl (l : List Sp.S) : (∀ x ∈ spl l, x.length = 2) = True := eq_true fun x hx => by obtain ⟨s, _, rfl⟩ := List.mem_map.1 hx; rfl
theorem spl_set (l : List Sp.S) (i : Nat) (s : Sp.S) : (spl l).set i (spG s) = spl (l.set i s) := by simp [spl, List.map_set]
theorem frz_spl (O : List GObj) (n : Nat) (l : List Sp.S) : frzLL (Gv.frz O (n + 1)) (spl l) = some (spl l) :=
  frzLL_same fun x hx => by
    obtain ⟨s, _, rfl⟩ := List.mem_map.1 hx
    simp only [spG, frzL, Gv.frz]
theorem frz_splS (O : List GObj) (n : Nat) (l : List Sp.S) (t : Tag) : Gv.frz O (n + 2) (.slice (spl l) t) = some (.slice (spl l) t.frz) := by
  rw [Gv.frz, frz_spl]
theorem getD_last {α : Type} (A : List α) (x d : α) : (A ++ [x]).getD A.length d = x := by simp [List.getD]
theorem spl_setLast (A : List Sp.S) (x y : Sp.S) : (spl (A ++ [x])).set A.length (spG y) = spl (A ++ [y]) := by
  rw [spl_set, List.set_append_right _ _ (Nat.le_refl _), Nat.sub_self]; rfl
theorem drop_getD {l : List Sp.S} {k : Nat} (h : k < l.length) : l.drop k = l.getD k (0, 0) :: l.drop (k + 1) := by
  rw [List.drop_eq_getElem_cons h]; simp [List.getD, h]
theorem take_getD {l : List Sp.S} {k : Nat} (h : k < l.length) : l.take (k + 1) = l.take k ++ [l.getD k (0, 0)] := by
  rw [List.take_add_one]; simp [List.getD, h]
end Gv
/- What some shapes read as. -/
set_option linter.unusedVariables false
namespace Gv
open Go
theorem wf_i64 {n : Int} (h : (Lit.int .i64 n).wf = true) : -9223372036854775808 ≤ n ∧ n ≤ 9223372036854775807 := by
  have e1 : IntKind.i64.min = -9223372036854775808 := by decide
  have e2 : IntKind.i64.max = 9223372036854775807 := by decide
  simp [Lit.wf] at h; omega
theorem den_slice {α : Type} {e : Sh} (enc : α → List GVal) (ok : α → Prop) (he : ∀ {x}, Den e x → ∃ a, x = enc a ∧ ok a) {gs : List GVal} (h : Den (.slice e) gs) : ∃ l : List α, gs = [.slice (l.map enc) .none] ∧ l.length ≤ maxLen ∧ ∀ a ∈ l, ok a := by
  obtain ⟨xs, rfl, hl, hx⟩ := h
  have : ∀ xs : List (List GVal), (∀ x ∈ xs, Den e x) → ∃ l : List α, xs = l.map enc ∧ ∀ a ∈ l, ok a := by
    intro xs
    induction xs with
    | nil => exact fun _ => ⟨[], rfl, by simp⟩
    | cons a r ih =>
      intro h
      obtain ⟨l, rfl, hl⟩ := ih fun x hx => h x (by simp [hx])
      obtain ⟨n, rfl, hn⟩ := he (h a (by simp))
      exact ⟨n :: l, rfl, by simpa using ⟨hn, hl⟩⟩
  obtain ⟨l, rfl, h2⟩ := this xs hx
  exact ⟨l, rfl, by simpa using hl, h2⟩
theorem den_i64s {gs : List GVal} (h : Den (.slice (.int .i64)) gs) : ∃ l : List Int, gs = [.slice (ints l) .none] ∧ l.length ≤ 9223372036854775807 ∧ ∀ i, -9223372036854775808 ≤ l.getD i 0 ∧ l.getD i 0 ≤ 9223372036854775807 := by
  obtain ⟨l, rfl, h1, h2⟩ := den_slice (fun n : Int => [.int .i64 n]) (fun n => (Lit.int .i64 n).wf = true) (fun {x} (h : Den (.int .i64) x) => h) h
  refine ⟨l, rfl, Nat.le_trans h1 (by decide), fun i => ?_⟩
  by_cases hi : i < l.length
  · rw [List.getD_eq_getElem?_getD, List.getElem?_eq_getElem hi]; exact wf_i64 (h2 _ (List.getElem_mem hi))
  · rw [List.getD_eq_getElem?_getD, List.getElem?_eq_none (by omega)]; simp
theorem den_spans {gs : List GVal} (h : Den (.slice (.agg [.int .i64, .int .i64])) gs) : ∃ l : List Sp.S, gs = [.slice (spl l) .none] ∧ l.length ≤ 9223372036854775807 ∧ Sp.Ok l := by
  obtain ⟨l, rfl, h1, h2⟩ := den_slice spG (fun s => (-9223372036854775808 ≤ s.1 ∧ s.1 ≤ 9223372036854775807) ∧ (-9223372036854775808 ≤ s.2 ∧ s.2 ≤ 9223372036854775807)) (fun {x} h => by
    obtain ⟨ps, rfl, p, q, rfl, ⟨a, rfl, wa⟩, p2, q2, rfl, ⟨b, rfl, wb⟩, rfl⟩ := h
    exact ⟨(a, b), rfl, wf_i64 wa, wf_i64 wb⟩) h
  exact ⟨l, rfl, Nat.le_trans h1 (by decide), h2⟩
end Gv
/- HexBack: from the readings. -/
set_option linter.unusedVariables false
namespace Gv.Try
open Go Gv Go.Proofs
theorem wf_u8 {n : Int} (h : (Lit.int .u8 n).wf = true) : 0 ≤ n ∧ n ≤ 255 := by
  have e1 : IntKind.u8.min = 0 := by decide
  have e2 : IntKind.u8.max = 255 := by decide
  simp [Lit.wf] at h; omega
theorem den_u8s : ∀ {n : Nat} {ps : List (List GVal)}, Dens (List.replicate n (.int .u8)) ps → ∃ a : List UInt8, a.length = n ∧ ps.flatten = bytesG a
  | 0, ps, h => by
    simp only [List.replicate_zero, Dens] at h; subst h; exact ⟨[], rfl, rfl⟩
  | n + 1, ps, h => by
    simp only [List.replicate_succ, Dens, Den] at h
    obtain ⟨p, q, rfl, ⟨m, rfl, hm⟩, hq⟩ := h
    obtain ⟨a, la, ea⟩ := den_u8s hq
    have := wf_u8 hm
    refine ⟨UInt8.ofNat m.toNat :: a, by simp [la], ?_⟩
    have e : ((UInt8.ofNat m.toNat).toNat : Int) = m := by
      rw [UInt8.toNat_ofNat']; omega
    simp [ea, bytesG]; omega
theorem den_hash {gs : List GVal} (h : Den (.agg (List.replicate 32 (.int .u8))) gs) : ∃ a : List UInt8, a.length = 32 ∧ gs = bytesG a := by
  unfold Den at h
  obtain ⟨ps, rfl, h⟩ := h
  obtain ⟨a, la, ea⟩ := den_u8s h
  exact ⟨a, la, ea⟩
theorem wHexBack {g0 g1 g2 : List GVal} (h0 : Den (.agg (List.replicate 32 (.int .u8))) g0) (h1 : Den (.agg (List.replicate 32 (.int .u8))) g1) (h2 : Den (.int .i64) g2) : GPure Try.prog 3 ([Sh.val (.agg (List.replicate 32 (.int .u8))) g0] ++ [Sh.val (.agg (List.replicate 32 (.int .u8))) g1] ++ [Sh.val (.int .i64) g2]) (.bool true) := by
  obtain ⟨a, la, rfl⟩ := den_hash h0
  obtain ⟨b, lb, rfl⟩ := den_hash h1
  obtain ⟨n, rfl, wn⟩ := h2
  exact spec3 a b n la lb (wf_i64 wn)
end Gv.Try
/- HexRanks: from the readings. -/
set_option linter.unusedVariables false
namespace Gv.Try
open Go Gv Go.Proofs
theorem wHexRanks {g0 g1 : List GVal} (h0 : Den (.slice (.int .i64)) g0) (h1 : Den (.int .i64) g1) : GPure Try.prog 5 ([Sh.val (.slice (.int .i64)) g0] ++ [Sh.val (.int .i64) g1]) (.bool true) := by
  obtain ⟨a, rfl, la, _⟩ := den_i64s h0
  obtain ⟨n, rfl, wn⟩ := h1
  exact spec5 a n .none la (wf_i64 wn)
end Gv.Try
