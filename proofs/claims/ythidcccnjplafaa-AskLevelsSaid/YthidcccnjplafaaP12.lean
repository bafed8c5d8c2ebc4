/- Sets of numbers as lists of spans: the plain theory. -/
import Derived.Test.YthidcccnjplafaaP4
import Derived.Test.YthidcccnjplafaaP7
import Derived.Test.YthidcccnjplafaaP11
import Derived.Test.YthidcccnjplafaaSlimFf
import Derived.Test.YthidcccnjplafaaP8
import Derived.Shelf.SlSortCmp.WholeK
import Derived.Shelf.SlicesG.Cmp
import Derived.Test.YthidcccnjplafaaProg
import Derived.KernelRfl
set_option linter.unusedVariables false
namespace Gv.Sp
open Gv
abbrev S := Int × Int
/-- a number is in one of the spans; only numbers from 0 on count -/
def has (l : List S) (n : Int) : Prop := ∃ s ∈ l, 0 ≤ n ∧ s.1 ≤ n ∧ n ≤ s.2
theorem has_nil (n : Int) : has [] n ↔ False := by simp [has]
theorem has_cons (s : S) (l : List S) (n : Int) : has (s :: l) n ↔ (0 ≤ n ∧ s.1 ≤ n ∧ n ≤ s.2) ∨ has l n := by simp [has]
theorem has_app (a b : List S) (n : Int) : has (a ++ b) n ↔ has a n ∨ has b n := by
  induction a with
  | nil => simp [has_nil]
  | cons s r ih => rw [List.cons_append, has_cons, has_cons, ih, or_assoc]
theorem has_perm {a b : List S} (h : a.Perm b) (n : Int) : has a n ↔ has b n := by
  simp only [has, h.mem_iff]
/-- right: rising, apart, not adjacent -/
def Rt : Int → List S → Prop
  | _, [] => True
  | b, s :: r => b ≤ s.1 ∧ s.1 ≤ s.2 ∧ Rt (s.2 + 2) r
theorem Rt.weak {b b' : Int} : ∀ {l : List S}, Rt b l → b' ≤ b → Rt b' l
  | [], _, _ => trivial
  | s :: r, ⟨h1, h2, h3⟩, h => ⟨by omega, h2, h3⟩
theorem Rt.ge {n : Int} : ∀ {l : List S} {b : Int}, Rt b l → has l n → b ≤ n
  | [], b, _, h => by simp [has] at h
  | s :: r, b, ⟨h1, h2, h3⟩, h => by
    rcases (has_cons s r n).1 h with h | h
    · omega
    · have := h3.ge h; omega
theorem Rt.mem {s : S} : ∀ {l : List S} {b : Int}, Rt b l → s ∈ l → b ≤ s.1 ∧ s.1 ≤ s.2
  | [], b, _, h => by simp at h
  | x :: r, b, ⟨h1, h2, h3⟩, h => by
    rcases List.mem_cons.1 h with rfl | h
    · exact ⟨h1, h2⟩
    · have := h3.mem h; omega
theorem Rt.lo {s : S} {l : List S} {b : Int} (h : Rt b l) (hb : 0 ≤ b) (hs : s ∈ l) : has l s.1 := ⟨s, hs, by have := h.mem hs; omega⟩
theorem Rt.hi {s : S} {l : List S} {b : Int} (h : Rt b l) (hb : 0 ≤ b) (hs : s ∈ l) : has l s.2 := ⟨s, hs, by have := h.mem hs; omega⟩
theorem uniq : ∀ {l l' : List S} {b b' : Int}, Rt b l → Rt b' l' → 0 ≤ b → 0 ≤ b' → (∀ n, has l n ↔ has l' n) → l = l'
  | [], [], _, _, _, _, _, _, _ => rfl
  | [], y :: r, _, b', _, h', _, h0', h => absurd ((h y.1).2 (h'.lo h0' (by simp))) (by simp [has])
  | x :: r, [], b, _, h', _, h0', _, h => absurd ((h x.1).1 (h'.lo h0' (by simp))) (by simp [has])
  | (x1, x2) :: r, (y1, y2) :: q, b, b', hx, hy, hb, hb', h => by
    have e1 : has ((y1, y2) :: q) x1 := (h _).1 (hx.lo hb (s := (x1, x2)) (by simp))
    have e2 : has ((x1, x2) :: r) y1 := (h _).2 (hy.lo hb' (s := (y1, y2)) (by simp))
    obtain ⟨p1, p2, p3⟩ := hx
    obtain ⟨q1, q2, q3⟩ := hy
    simp only at p1 p2 p3 q1 q2 q3
    have g1 : y1 ≤ x1 := by
      rcases (has_cons _ _ _).1 e1 with e | e
      · exact e.2.1
      · have := q3.ge e; omega
    have g2 : x1 ≤ y1 := by
      rcases (has_cons _ _ _).1 e2 with e | e
      · exact e.2.1
      · have := p3.ge e; omega
    have g : x1 = y1 := by omega
    have k1 : ¬ x2 < y2 := fun hlt => by
      have e := (h (x2 + 1)).2 ((has_cons _ _ _).2 (.inl ⟨by omega, by show y1 ≤ _; omega, by show _ ≤ y2; omega⟩))
      rcases (has_cons _ _ _).1 e with e | e
      · have := e.2.2; simp only at this; omega
      · have := p3.ge e; omega
    have k2 : ¬ y2 < x2 := fun hlt => by
      have e := (h (y2 + 1)).1 ((has_cons _ _ _).2 (.inl ⟨by omega, by show x1 ≤ _; omega, by show _ ≤ x2; omega⟩))
      rcases (has_cons _ _ _).1 e with e | e
      · have := e.2.2; simp only at this; omega
      · have := q3.ge e; omega
    have k : x2 = y2 := by omega
    subst g; subst k
    have hr : ∀ n, has r n ↔ has q n := fun n => by
      constructor
      · intro hn
        rcases (has_cons _ _ _).1 ((h n).1 ((has_cons _ _ _).2 (.inr hn))) with e | e
        · have := p3.ge hn; have := e.2.2; simp only at this; omega
        · exact e
      · intro hn
        rcases (has_cons _ _ _).1 ((h n).2 ((has_cons _ _ _).2 (.inr hn))) with e | e
        · have := q3.ge hn; have := e.2.2; simp only at this; omega
        · exact e
    rw [uniq p3 q3 (by omega) (by omega) hr]

theorem Rt_snoc (x : S) : ∀ (A : List S) (b : Int), Rt b (A ++ [x]) ↔ Rt b A ∧ b ≤ x.1 ∧ x.1 ≤ x.2 ∧ ∀ y ∈ A, y.2 + 2 ≤ x.1
  | [], b => by simp [Rt]
  | y :: r, b => by
    rw [List.cons_append]
    show b ≤ y.1 ∧ y.1 ≤ y.2 ∧ Rt (y.2 + 2) (r ++ [x]) ↔ (b ≤ y.1 ∧ y.1 ≤ y.2 ∧ Rt (y.2 + 2) r) ∧ _
    rw [Rt_snoc x r]
    constructor
    · rintro ⟨h1, h2, h3, h4, h5, h6⟩
      exact ⟨⟨h1, h2, h3⟩, by omega, h5, fun z hz => by
        rcases List.mem_cons.1 hz with rfl | hz
        · exact h4
        · exact h6 z hz⟩
    · rintro ⟨⟨h1, h2, h3⟩, h4, h5, h6⟩
      exact ⟨h1, h2, h3, h6 y (by simp), h5, fun z hz => h6 z (by simp [hz])⟩

/-- a right list with a span more -/
def ins : List S → S → List S
  | [], s => [s]
  | x :: r, s => if x.2 + 1 < s.1 then x :: ins r s else if s.2 + 1 < x.1 then s :: x :: r else ins r (min s.1 x.1, max s.2 x.2)
theorem ins_rt : ∀ (l : List S) (s : S) (b : Int), Rt b l → b ≤ s.1 → s.1 ≤ s.2 → Rt b (ins l s)
  | [], s, b, _, h1, h2 => ⟨h1, h2, trivial⟩
  | x :: r, s, b, ⟨p1, p2, p3⟩, h1, h2 => by
    unfold ins
    split
    · exact ⟨p1, p2, ins_rt r s _ p3 (by omega) h2⟩
    · split
      · exact ⟨h1, h2, by omega, p2, p3⟩
      · exact ins_rt r _ b (p3.weak (by omega)) (by show _ ≤ min _ _; omega) (by show min _ _ ≤ max _ _; omega)
theorem ins_has (n : Int) : ∀ (l : List S) (s : S) (b : Int), Rt b l → s.1 ≤ s.2 → (has (ins l s) n ↔ has l n ∨ (0 ≤ n ∧ s.1 ≤ n ∧ n ≤ s.2))
  | [], s, b, _, _ => by simp [ins, has_cons, has_nil]
  | x :: r, s, b, ⟨p1, p2, p3⟩, h2 => by
    unfold ins
    split
    · rw [has_cons, ins_has n r s _ p3 h2, has_cons, or_assoc]
    · split
      · rw [has_cons s, or_comm]
      · rw [ins_has n r _ _ p3 (by show min _ _ ≤ max _ _; omega), has_cons]
        constructor
        · rintro (h | ⟨q1, q2, q3⟩)
          · exact .inl (.inr h)
          · simp only at q2 q3
            by_cases e : s.1 ≤ n ∧ n ≤ s.2
            · exact .inr ⟨q1, e⟩
            · exact .inl (.inl ⟨q1, by omega, by omega⟩)
        · rintro ((⟨q1, q2, q3⟩ | h) | ⟨q1, q2, q3⟩)
          · exact .inr ⟨q1, by show min _ _ ≤ _; omega, by show _ ≤ max _ _; omega⟩
          · exact .inl h
          · exact .inr ⟨q1, by show min _ _ ≤ _; omega, by show _ ≤ max _ _; omega⟩
theorem ins_len : ∀ (l : List S) (s : S), (ins l s).length ≤ l.length + 1
  | [], s => by simp [ins]
  | x :: r, s => by
    unfold ins
    split
    · have := ins_len r s; simp; omega
    · split
      · simp
      · have := ins_len r (min s.1 x.1, max s.2 x.2); simp; omega

/-- one span of any, put into a set -/
def put (acc : List S) (s : S) : List S := if max s.1 0 ≤ s.2 then ins acc (max s.1 0, s.2) else acc
/-- the set of any spans -/
def nfA (acc : List S) : List S → List S
  | [] => acc
  | s :: r => nfA (put acc s) r
def nf (l : List S) : List S := nfA [] l
theorem put_rt {acc : List S} (s : S) (h : Rt 0 acc) : Rt 0 (put acc s) := by
  unfold put; split
  · exact ins_rt _ _ _ h (by show _ ≤ max _ _; omega) (by assumption)
  · exact h
theorem put_has {acc : List S} (s : S) (h : Rt 0 acc) (n : Int) : has (put acc s) n ↔ has acc n ∨ (0 ≤ n ∧ s.1 ≤ n ∧ n ≤ s.2) := by
  unfold put; split
  · rw [ins_has n _ _ _ h (by assumption)]
    constructor
    · rintro (q | ⟨q1, q2, q3⟩)
      · exact .inl q
      · exact .inr ⟨q1, by simp only at q2; omega, q3⟩
    · rintro (q | ⟨q1, q2, q3⟩)
      · exact .inl q
      · exact .inr ⟨q1, by show max _ _ ≤ _; omega, q3⟩
  · constructor
    · exact .inl
    · rintro (q | ⟨q1, q2, q3⟩)
      · exact q
      · omega
theorem nfA_rt : ∀ (l acc : List S), Rt 0 acc → Rt 0 (nfA acc l)
  | [], acc, h => h
  | s :: r, acc, h => nfA_rt r _ (put_rt s h)
theorem nfA_has (n : Int) : ∀ (l acc : List S), Rt 0 acc → (has (nfA acc l) n ↔ has acc n ∨ has l n)
  | [], acc, h => by simp [nfA, has_nil]
  | s :: r, acc, h => by
    show has (nfA (put acc s) r) n ↔ _
    rw [nfA_has n r _ (put_rt s h), put_has s h, has_cons, or_assoc]
theorem nf_rt (l : List S) : Rt 0 (nf l) := nfA_rt l [] trivial
theorem nf_has (l : List S) (n : Int) : has (nf l) n ↔ has l n := by rw [nf, nfA_has n l [] trivial, has_nil, false_or]
theorem nfA_len : ∀ (l acc : List S), (nfA acc l).length ≤ acc.length + l.length
  | [], acc => by simp [nfA]
  | s :: r, acc => by
    have h := nfA_len r (put acc s)
    have : (put acc s).length ≤ acc.length + 1 := by
      unfold put; split
      · exact ins_len _ _
      · omega
    show (nfA (put acc s) r).length ≤ _
    simp; omega
theorem nf_len (l : List S) : (nf l).length ≤ l.length := by have := nfA_len l []; simpa [nf] using this
/-- the set is the one right list with its numbers -/
theorem nf_eq {l r : List S} (h : Rt 0 r) (hn : ∀ n, has r n ↔ has l n) : nf l = r := uniq (nf_rt l) h (by omega) (by omega) fun n => by rw [nf_has, hn]
theorem nf_rt_eq {l : List S} (h : Rt 0 l) : nf l = l := nf_eq h fun _ => Iff.rfl
def Ok (l : List S) : Prop := ∀ s ∈ l, (-9223372036854775808 ≤ s.1 ∧ s.1 ≤ 9223372036854775807) ∧ (-9223372036854775808 ≤ s.2 ∧ s.2 ≤ 9223372036854775807)
theorem Ok.has {l : List S} (h : Ok l) {n : Int} (hn : has l n) : n ≤ 9223372036854775807 := by obtain ⟨s, hs, h1, h2, h3⟩ := hn; have := (h s hs).2.2; omega
theorem ok_of {l : List S} {b : Int} (h : Rt b l) (hb : 0 ≤ b) (hn : ∀ n, Sp.has l n → n ≤ 9223372036854775807) : Ok l := fun s hs => by
  have h1 := h.mem hs
  have h2 := hn _ (h.hi hb hs)
  exact ⟨⟨by omega, by omega⟩, by omega, h2⟩
theorem nf_ok {l : List S} (h : Ok l) : Ok (nf l) := ok_of (nf_rt l) (by omega) fun n hn => h.has ((nf_has l n).1 hn)
theorem Ok.app {a b : List S} (ha : Ok a) (hb : Ok b) : Ok (a ++ b) := fun s hs => (List.mem_append.1 hs).elim (ha s) (hb s)
theorem Ok.nil : Ok [] := fun s hs => by simp at hs
theorem Ok.at {l : List S} (h : Ok l) (i : Nat) : (-9223372036854775808 ≤ (l.getD i (0, 0)).1 ∧ (l.getD i (0, 0)).1 ≤ 9223372036854775807) ∧ (-9223372036854775808 ≤ (l.getD i (0, 0)).2 ∧ (l.getD i (0, 0)).2 ≤ 9223372036854775807) := by
  by_cases hi : i < l.length
  · rw [List.getD_eq_getElem?_getD, List.getElem?_eq_getElem hi]; exact h _ (List.getElem_mem hi)
  · rw [List.getD_eq_getElem?_getD, List.getElem?_eq_none (by omega)]; simp
theorem Rt.at {l : List S} {b : Int} (h : Rt b l) (i : Nat) (hi : i < l.length) : b ≤ (l.getD i (0, 0)).1 ∧ (l.getD i (0, 0)).1 ≤ (l.getD i (0, 0)).2 := by
  rw [List.getD_eq_getElem?_getD, List.getElem?_eq_getElem hi]; exact h.mem (List.getElem_mem hi)

/-- what is in two right lists -/
def both (a b : List S) : List S :=
  match a, b with
  | [], _ => []
  | _ :: _, [] => []
  | x :: a, y :: b => (if max x.1 y.1 ≤ min x.2 y.2 then [(max x.1 y.1, min x.2 y.2)] else []) ++ if x.2 < y.2 then both a (y :: b) else both (x :: a) b
termination_by a.length + b.length
theorem both_nil (b : List S) : both [] b = [] := by rw [both.eq_def]
theorem both_nil' (a : List S) : both a [] = [] := by cases a <;> rw [both.eq_def]
theorem both_cons (x y : S) (a b : List S) : both (x :: a) (y :: b) = (if max x.1 y.1 ≤ min x.2 y.2 then [(max x.1 y.1, min x.2 y.2)] else []) ++ if x.2 < y.2 then both a (y :: b) else both (x :: a) b := by rw [both.eq_def]
theorem both_spec (n : Int) : ∀ (k : Nat) (a b : List S) (p q : Int), a.length + b.length ≤ k → Rt p a → Rt q b → Rt (max p q) (both a b) ∧ (has (both a b) n ↔ has a n ∧ has b n)
  | k, [], b, p, q, _, _, _ => by rw [both_nil]; exact ⟨trivial, by simp [has_nil]⟩
  | k, x :: a, [], p, q, _, _, _ => by rw [both_nil']; exact ⟨trivial, by simp [has_nil]⟩
  | 0, x :: a, y :: b, p, q, h, _, _ => by simp at h
  | k + 1, x :: a, y :: b, p, q, h, hx, hy => by
    have hx' := hx
    have hy' := hy
    obtain ⟨x1, x2, x3⟩ := hx'
    obtain ⟨y1, y2, y3⟩ := hy'
    rw [both_cons]
    simp only [List.length_cons] at h
    by_cases hlt : x.2 < y.2
    · rw [if_pos hlt]
      obtain ⟨r1, r2⟩ := both_spec n k a (y :: b) (x.2 + 2) q (by simp; omega) x3 hy
      have r1' := r1
      constructor
      · split
        · show Rt _ (_ :: _)
          exact ⟨by show max p q ≤ max x.1 y.1; omega, by assumption, r1.weak (by show min x.2 y.2 + 2 ≤ _; omega)⟩
        · exact r1.weak (by omega)
      · have e : has ((if max x.1 y.1 ≤ min x.2 y.2 then [(max x.1 y.1, min x.2 y.2)] else []) ++ both a (y :: b)) n ↔ (0 ≤ n ∧ x.1 ≤ n ∧ n ≤ x.2 ∧ y.1 ≤ n ∧ n ≤ y.2) ∨ has (both a (y :: b)) n := by
          rw [has_app]
          refine or_congr ?_ Iff.rfl
          split
          · simp only [has_cons, has_nil, or_false]; omega
          · rw [has_nil]; exact ⟨False.elim, fun h => by omega⟩
        rw [e, r2, has_cons x]
        constructor
        · rintro (⟨c1, c2, c3, c4, c5⟩ | ⟨c1, c2⟩)
          · exact ⟨.inl ⟨c1, c2, c3⟩, (has_cons _ _ _).2 (.inl ⟨c1, c4, c5⟩)⟩
          · exact ⟨.inr c1, c2⟩
        · rintro ⟨⟨c1, c2, c3⟩ | c1, c4⟩
          · rcases (has_cons _ _ _).1 c4 with ⟨_, d2, d3⟩ | d
            · exact .inl ⟨c1, c2, c3, d2, d3⟩
            · have := y3.ge d; omega
          · exact .inr ⟨c1, c4⟩
    · rw [if_neg hlt]
      obtain ⟨r1, r2⟩ := both_spec n k (x :: a) b p (y.2 + 2) (by simp; omega) hx y3
      constructor
      · split
        · show Rt _ (_ :: _)
          exact ⟨by show max p q ≤ max x.1 y.1; omega, by assumption, r1.weak (by show min x.2 y.2 + 2 ≤ _; omega)⟩
        · exact r1.weak (by omega)
      · have e : has ((if max x.1 y.1 ≤ min x.2 y.2 then [(max x.1 y.1, min x.2 y.2)] else []) ++ both (x :: a) b) n ↔ (0 ≤ n ∧ x.1 ≤ n ∧ n ≤ x.2 ∧ y.1 ≤ n ∧ n ≤ y.2) ∨ has (both (x :: a) b) n := by
          rw [has_app]
          refine or_congr ?_ Iff.rfl
          split
          · simp only [has_cons, has_nil, or_false]; omega
          · rw [has_nil]; exact ⟨False.elim, fun h => by omega⟩
        rw [e, r2, has_cons y]
        constructor
        · rintro (⟨c1, c2, c3, c4, c5⟩ | ⟨c1, c2⟩)
          · exact ⟨(has_cons _ _ _).2 (.inl ⟨c1, c2, c3⟩), .inl ⟨c1, c4, c5⟩⟩
          · exact ⟨c1, .inr c2⟩
        · rintro ⟨c4, ⟨c1, c2, c3⟩ | c1⟩
          · rcases (has_cons _ _ _).1 c4 with ⟨_, d2, d3⟩ | d
            · exact .inl ⟨c1, d2, d3, c2, c3⟩
            · have := x3.ge d; omega
          · exact .inr ⟨c4, c1⟩
theorem both_rt {a b : List S} (ha : Rt 0 a) (hb : Rt 0 b) : Rt 0 (both a b) := by have := (both_spec 0 _ a b 0 0 (Nat.le_refl _) ha hb).1; simpa using this
theorem both_has {a b : List S} (ha : Rt 0 a) (hb : Rt 0 b) (n : Int) : has (both a b) n ↔ has a n ∧ has b n := (both_spec n _ a b 0 0 (Nat.le_refl _) ha hb).2
theorem both_len : ∀ (k : Nat) (a b : List S), a.length + b.length ≤ k → (both a b).length ≤ a.length + b.length
  | k, [], b, _ => by rw [both_nil]; simp
  | k, x :: a, [], _ => by rw [both_nil']; simp
  | 0, x :: a, y :: b, h => by simp at h
  | k + 1, x :: a, y :: b, h => by
    rw [both_cons]
    simp only [List.length_cons] at h
    have h1 := both_len k a (y :: b) (by simp; omega)
    have h2 := both_len k (x :: a) b (by simp; omega)
    simp only [List.length_cons] at h1 h2
    by_cases hlt : x.2 < y.2
    · rw [if_pos hlt]; split <;> simp <;> omega
    · rw [if_neg hlt]; split <;> simp <;> omega

/-- all numbers from one on that are not in a right list -/
def restF (low : Int) : List S → List S
  | [] => [(low, 9223372036854775807)]
  | s :: r => (if low < s.1 then [(low, s.1 - 1)] else []) ++ if s.2 = 9223372036854775807 then [] else restF (s.2 + 1) r
theorem restF_spec (n : Int) : ∀ (l : List S) (low b : Int), Rt b l → (∀ s ∈ l, s.2 ≤ 9223372036854775807) → 0 ≤ low → low ≤ 9223372036854775807 → low ≤ b → Rt low (restF low l) ∧ (has (restF low l) n ↔ low ≤ n ∧ n ≤ 9223372036854775807 ∧ ¬ has l n)
  | [], low, b, _, _, h0, h1, _ => ⟨⟨Int.le_refl _, h1, trivial⟩, by simp only [restF, has_cons, has_nil, or_false, not_false_eq_true, and_true]; omega⟩
  | s :: r, low, b, ⟨p1, p2, p3⟩, ht, h0, h1, h2 => by
    have hs := ht s (by simp)
    unfold restF
    by_cases e : s.2 = 9223372036854775807
    · rw [if_pos e, List.append_nil, has_cons]
      have hr : ¬ has r n := fun h => by
        have := p3.ge h
        obtain ⟨z, hz, _, _, h5⟩ := h
        have := ht z (by simp [hz]); omega
      constructor
      · split
        · exact ⟨Int.le_refl _, by show low ≤ s.1 - 1; omega, trivial⟩
        · trivial
      · split
        · simp only [has_cons, has_nil, or_false, hr]; omega
        · simp only [has_nil, hr, or_false]; exact ⟨False.elim, fun h => by omega⟩
    · rw [if_neg e]
      obtain ⟨r1, r2⟩ := restF_spec n r (s.2 + 1) (s.2 + 2) p3 (fun z hz => ht z (by simp [hz])) (by omega) (by omega) (by omega)
      have hge : has r n → s.2 + 2 ≤ n := fun h => p3.ge h
      constructor
      · split
        · exact ⟨Int.le_refl _, by show low ≤ s.1 - 1; omega, r1.weak (by show s.1 - 1 + 2 ≤ _; omega)⟩
        · exact r1.weak (by omega)
      · rw [has_app, r2, has_cons]
        split
        · simp only [has_cons, has_nil, or_false]
          constructor
          · rintro (h | h)
            · refine ⟨by omega, by omega, ?_⟩
              rintro (h' | h')
              · omega
              · have := hge h'; omega
            · refine ⟨by omega, by omega, ?_⟩
              rintro (h' | h')
              · omega
              · exact h.2.2 h'
          · rintro ⟨h3, h4, h5⟩
            have h6 : ¬ (0 ≤ n ∧ s.1 ≤ n ∧ n ≤ s.2) := fun h => h5 (.inl h)
            have h7 : ¬ has r n := fun h => h5 (.inr h)
            by_cases h8 : n < s.1
            · exact .inl (by omega)
            · exact .inr ⟨by omega, h4, h7⟩
        · rw [has_nil, false_or]
          constructor
          · rintro ⟨h3, h4, h5⟩
            refine ⟨by omega, h4, ?_⟩
            rintro (h' | h')
            · omega
            · exact h5 h'
          · rintro ⟨h3, h4, h5⟩
            have h6 : ¬ (0 ≤ n ∧ s.1 ≤ n ∧ n ≤ s.2) := fun h => h5 (.inl h)
            exact ⟨by omega, h4, fun h => h5 (.inr h)⟩
def rest (l : List S) : List S := restF 0 l
theorem rest_rt {l : List S} (h : Rt 0 l) (ht : Ok l) : Rt 0 (rest l) := (restF_spec 0 l 0 0 h (fun s hs => (ht s hs).2.2) (by omega) (by omega) (by omega)).1
theorem rest_has {l : List S} (h : Rt 0 l) (ht : Ok l) (n : Int) : has (rest l) n ↔ 0 ≤ n ∧ n ≤ 9223372036854775807 ∧ ¬ has l n := (restF_spec n l 0 0 h (fun s hs => (ht s hs).2.2) (by omega) (by omega) (by omega)).2
theorem rest_ok {l : List S} (h : Rt 0 l) (ht : Ok l) : Ok (rest l) := ok_of (rest_rt h ht) (by omega) fun n hn => ((rest_has h ht n).1 hn).2.1
theorem restF_len : ∀ (l : List S) (low : Int), (restF low l).length ≤ l.length + 1
  | [], low => by simp [restF]
  | s :: r, low => by
    unfold restF
    have := restF_len r (s.2 + 1)
    split <;> split <;> simp <;> omega
/-- of any spans: union, both, minus -/
def uni (a b : List S) : List S := nf (a ++ b)
def bothS (a b : List S) : List S := both (nf a) (nf b)
def minus (a b : List S) : List S := bothS a (rest (nf b))
theorem uni_rt (a b : List S) : Rt 0 (uni a b) := nf_rt _
theorem uni_has (a b : List S) (n : Int) : has (uni a b) n ↔ has a n ∨ has b n := by rw [uni, nf_has, has_app]
theorem uni_ok {a b : List S} (ha : Ok a) (hb : Ok b) : Ok (uni a b) := nf_ok (ha.app hb)
theorem bothS_rt (a b : List S) : Rt 0 (bothS a b) := both_rt (nf_rt a) (nf_rt b)
theorem bothS_has (a b : List S) (n : Int) : has (bothS a b) n ↔ has a n ∧ has b n := by rw [bothS, both_has (nf_rt a) (nf_rt b), nf_has, nf_has]
theorem bothS_ok {a b : List S} (ha : Ok a) : Ok (bothS a b) := ok_of (bothS_rt a b) (by omega) fun n hn => ha.has ((bothS_has a b n).1 hn).1
theorem minus_rt (a b : List S) : Rt 0 (minus a b) := bothS_rt _ _
theorem minus_has {a b : List S} (ha : Ok a) (hb : Ok b) (n : Int) : has (minus a b) n ↔ has a n ∧ ¬ has b n := by
  rw [minus, bothS_has, rest_has (nf_rt b) (nf_ok hb), nf_has]
  constructor
  · exact fun h => ⟨h.1, h.2.2.2⟩
  · refine fun h => ⟨h.1, ?_, ha.has h.1, h.2⟩
    obtain ⟨s, _, h1, _⟩ := h.1; exact h1
theorem minus_ok {a b : List S} (ha : Ok a) : Ok (minus a b) := bothS_ok ha
theorem uni_len (a b : List S) : (uni a b).length ≤ a.length + b.length := by have := nf_len (a ++ b); simpa [uni] using this
theorem bothS_len (a b : List S) : (bothS a b).length ≤ a.length + b.length := by
  have h1 := both_len _ (nf a) (nf b) (Nat.le_refl _)
  have h2 := nf_len a
  have h3 := nf_len b
  unfold bothS; omega
theorem minus_len (a b : List S) : (minus a b).length ≤ a.length + b.length + 1 := by
  have h1 := bothS_len a (rest (nf b))
  have h2 := restF_len (nf b) 0
  have h3 := nf_len b
  unfold minus; unfold rest at *; omega
end Gv.Sp
/- Spans as ghost values. -/
set_option linter.unusedVariables false
namespace Gv
def spG (s : Sp.S) : List GVal := [.int .i64 s.1, .int .i64 s.2]
def spl (l : List Sp.S) : List (List GVal) := l.map spG
theorem spl_length (l : List Sp.S) : (spl l).length = l.length := by simp [spl]
theorem spl_at (l : List Sp.S) (i : Nat) (h : i < l.length) : (spl l).getD i [] = spG (l.getD i (0, 0)) := by simp [spl, List.getD, h]
theorem spl_append (a b : List Sp.S) : spl (a ++ b) = spl a ++ spl b := by simp [spl]
theorem spl_one (s : Sp.S) : spl [s] = [spG s] := rfl
theorem spl_nil : spl [] = [] := rfl
theorem spl_cons (s : Sp.S) (l : List Sp.S) : spl (s :: l) = spG s :: spl l := rfl
theorem all_spl (l : List Sp.S) : (∀ x ∈ spl l, x.length = 2) = True := eq_true fun x hx => by obtain ⟨s, _, rfl⟩ := List.mem_map.1 hx; rfl
theorem spl_set (l : List Sp.S) (i : Nat) (s : Sp.S) : (spl l).set i (spG s) = spl (l.set i s) := by simp [spl, List.map_set]
theorem frz_spl (O : List GObj) (n : Nat) (l : List Sp.S) : frzLL (Gv.frz O (n + 1)) (spl l) = some (spl l) :=
  frzLL_same fun x hx => by
    obtain ⟨s, _, rfl⟩ := List.mem_map.1 hx
    simp only [spG, frzL, Gv.frz]
theorem getD_last {α : Type} (A : List α) (x d : α) : (A ++ [x]).getD A.length d = x := by simp [List.getD]
theorem spl_setLast (A : List Sp.S) (x y : Sp.S) : (spl (A ++ [x])).set A.length (spG y) = spl (A ++ [y]) := by
  rw [spl_set, List.set_append_right _ _ (Nat.le_refl _), Nat.sub_self]; rfl
theorem drop_getD {l : List Sp.S} {k : Nat} (h : k < l.length) : l.drop k = l.getD k (0, 0) :: l.drop (k + 1) := by
  rw [List.drop_eq_getElem_cons h]; simp [List.getD, h]
theorem take_getD {l : List Sp.S} {k : Nat} (h : k < l.length) : l.take (k + 1) = l.take k ++ [l.getD k (0, 0)] := by
  rw [List.take_add_one]; simp [List.getD, h]
end Gv
/- Sets of numbers: tests, a span taken away, counts. -/
set_option linter.unusedVariables false
namespace Gv.Sp
open Gv
def hasB (l : List S) (n : Int) : Bool := l.any fun s => decide (0 ≤ n) && (decide (s.1 ≤ n) && decide (n ≤ s.2))
theorem hasB_iff (l : List S) (n : Int) : hasB l n = true ↔ has l n := by
  simp only [hasB, List.any_eq_true, Bool.and_eq_true, decide_eq_true_eq, has]
/-- a right list without a span -/
def cut : List S → S → List S
  | [], _ => []
  | s :: r, y => (if s.2 < y.1 ∨ y.2 < s.1 then [s] else (if s.1 < y.1 then [(s.1, y.1 - 1)] else []) ++ (if y.2 < s.2 then [(y.2 + 1, s.2)] else [])) ++ cut r y
end Gv.Sp
/- Sets of numbers: the laws of three sets. -/
set_option linter.unusedVariables false
namespace Gv.Sp
open Gv
/-- few spans, with ends that are numbers of the machine -/
def Lim (l : List S) (k : Nat) : Prop := l.length ≤ k ∧ Ok l
theorem Lim.ok {l : List S} {k : Nat} (h : Lim l k) : Ok l := h.2
theorem Lim.uni {a b : List S} {m n : Nat} (ha : Lim a m) (hb : Lim b n) : Lim (uni a b) (m + n) := ⟨by have := uni_len a b; have := ha.1; have := hb.1; omega, uni_ok ha.2 hb.2⟩
theorem Lim.both {a b : List S} {m n : Nat} (ha : Lim a m) (hb : Lim b n) : Lim (bothS a b) (m + n) := ⟨by have := bothS_len a b; have := ha.1; have := hb.1; omega, bothS_ok ha.2⟩
theorem Lim.minus {a b : List S} {m n : Nat} (ha : Lim a m) (hb : Lim b n) : Lim (minus a b) (m + n + 1) := ⟨by have := minus_len a b; have := ha.1; have := hb.1; omega, minus_ok ha.2⟩
theorem Lim.nf {a : List S} {m : Nat} (ha : Lim a m) : Lim (nf a) m := ⟨by have := nf_len a; have := ha.1; omega, nf_ok ha.2⟩
theorem Lim.le {a : List S} {m n : Nat} (ha : Lim a m) (h : m ≤ n) : Lim a n := ⟨by have := ha.1; omega, ha.2⟩
theorem eqv {a b : List S} (ha : Rt 0 a) (hb : Rt 0 b) (h : ∀ n, has a n ↔ has b n) : a = b := uniq ha hb (by omega) (by omega) h
variable {x y z : List S}
end Gv.Sp
/- Sets of a table's IDs: who stands on whom. -/
set_option linter.unusedVariables false
set_option linter.unusedSimpArgs false
namespace Gv.Try
open Go Gv Go.Proofs
/-- a table that may be -/
structure TOK (m o : List (List Int)) : Prop where
  len : m.length + o.length ≤ 1000
  right : rightI m o = true
/-- an ID is there -/
abbrev inT (m o : List (List Int)) (x : Int) : Prop := hasI m.length o.length x = true
theorem TOK.par {m o : List (List Int)} (h : TOK m o) {p x : Int} (hp : p ∈ parI m o x) : p < x ∧ inT m o p := (parI_props h.len h.right x).1 p hp
theorem inT_range {m o : List (List Int)} (h : TOK m o) {x : Int} (hx : inT m o x) : 0 ≤ x ∧ x ≤ 1099511628776 := by
  have := h.len
  unfold inT hasI at hx
  have hs : split = 1099511627776 := rfl
  have := of_decide_eq_true hx
  omega
theorem leads_le {m o : List (List Int)} (h : TOK m o) {a b : Int} (hl : Leads m o a b) : a ≤ b := by
  have := hl (b :: (allI m.length o.length).filter fun x => decide (x ≤ b)) (by simp) (by
    intro x hx p hp hpt
    refine List.mem_cons_of_mem _ ?_
    simp only [List.mem_filter, decide_eq_true_iff]
    refine ⟨(allI_hasI _ _ _).2 hpt, ?_⟩
    have := (h.par hp).1
    rcases List.mem_cons.1 hx with rfl | hx
    · omega
    · simp only [List.mem_filter, decide_eq_true_iff] at hx; omega)
  rcases List.mem_cons.1 this with e | e
  · omega
  · simp only [List.mem_filter, decide_eq_true_iff] at e; exact e.2
theorem leads_in {m o : List (List Int)} {a b : Int} (hl : Leads m o a b) (hb : inT m o b) : inT m o a :=
  (allI_hasI _ _ _).1 (hl (allI m.length o.length) ((allI_hasI _ _ _).2 hb) fun x hx p hp hpt => (allI_hasI _ _ _).2 hpt)
/-- the IDs of which something is so, as spans -/
noncomputable def idsP (m o : List (List Int)) (P : Int → Prop) : List Sp.S := by
  classical exact Sp.nf (((allI m.length o.length).filter fun x => decide (P x)).map fun i => (i, i))
theorem has_ones (l : List Int) (n : Int) (hl : ∀ x ∈ l, 0 ≤ x) : Sp.has (l.map fun i => (i, i)) n ↔ n ∈ l := by
  unfold Sp.has
  constructor
  · rintro ⟨s, hs, h0, h1, h2⟩
    obtain ⟨i, hi, rfl⟩ := List.mem_map.1 hs
    simp only at h1 h2
    have : n = i := by omega
    rw [this]; exact hi
  · intro h
    exact ⟨(n, n), List.mem_map.2 ⟨n, h, rfl⟩, hl n h, Int.le_refl _, Int.le_refl _⟩
theorem allI_pos (a b : Nat) : ∀ x ∈ allI a b, 0 ≤ x := fun x hx => by
  have := (allI_mem a b x).1 hx
  have hs : split = 1099511627776 := rfl
  omega
theorem idsP_rt (m o : List (List Int)) (P : Int → Prop) : Sp.Rt 0 (idsP m o P) := Sp.nf_rt _
theorem idsP_has (m o : List (List Int)) (P : Int → Prop) (n : Int) : Sp.has (idsP m o P) n ↔ inT m o n ∧ P n := by
  classical
  unfold idsP
  rw [Sp.nf_has, has_ones _ _ (fun x hx => allI_pos _ _ x (List.mem_filter.1 hx).1)]
  simp only [List.mem_filter, decide_eq_true_iff, allI_hasI]
theorem idsP_len (m o : List (List Int)) (P : Int → Prop) : (idsP m o P).length ≤ m.length + o.length := by
  classical
  unfold idsP
  refine Nat.le_trans (Sp.nf_len _) ?_
  rw [List.length_map]
  refine Nat.le_trans (List.length_filter_le _ _) ?_
  rw [allI_len]; omega
theorem idsP_ok {m o : List (List Int)} (h : TOK m o) (P : Int → Prop) : Sp.Ok (idsP m o P) := Sp.ok_of (idsP_rt m o P) (by omega) fun n hn => by
  have := inT_range h ((idsP_has m o P n).1 hn).1; omega
theorem idsP_eq {m o : List (List Int)} {P : Int → Prop} {l : List Sp.S} (h : Sp.Rt 0 l) (hn : ∀ n, Sp.has l n ↔ inT m o n ∧ P n) : l = idsP m o P :=
  Sp.eqv h (idsP_rt m o P) fun n => by rw [hn, idsP_has]
/-! the questions -/
section
variable (m o : List (List Int)) (s : List Sp.S)
def aP (a : Int) : Prop := ∃ b, inT m o b ∧ Sp.has s b ∧ Leads m o a b
def dP (d : Int) : Prop := ∃ a, inT m o a ∧ Sp.has s a ∧ Leads m o a d
end
end Gv.Try

/- Contracts: small functions over spans. -/
set_option linter.unusedVariables false
set_option maxRecDepth 20000
set_option linter.unusedSimpArgs false
namespace Gv.Try
open Go Gv Go.Proofs

theorem sBeyond (s x : Sp.S) (h1 : -9223372036854775808 ≤ s.1 ∧ s.1 ≤ 9223372036854775807) (h2 : -9223372036854775808 ≤ x.2 ∧ x.2 ≤ 9223372036854775807) :
    GPure Try.prog 78 [.agg (spG s), .agg (spG x)] (.bool (decide (x.2 + 1 < s.1))) := by
  refine h78.pure mixS (by simp) ?_
  simp only [gstart, s78, List.cons_append, List.nil_append, List.length_cons, List.length_nil, Nat.reduceAdd, Nat.reduceSub, List.replicate_succ, List.replicate_zero]
  unfold spG
  simp +contextual -implicitDefEqProofs (maxSteps := 2000000) (disch := omega) only [binV, ↓loadV, ↓fieldAddrV, ↓boxV, GVal.cells, grp, GVal.ofConst, ↓resV, resG, List.map, List.headD, List.take, List.drop, ↓reduceIte, Nat.reduceEqDiff, Nat.reduceAdd, Nat.reduceSub, Nat.reduceLeDiff, reduceCtorEq, implies_true, ne_eq, Tag.cap, List.replicate, allSolid, GVal.solid, Nat.reduceBEq, Nat.reduceMul, Nat.reduceLT, List.length_map, List.length_range, splice, vcA, ↓vcB, vcC, fbFf, e78]
  trace_state
  exact ⟨fun h => by simp; omega, fun h => by simp; omega⟩

theorem sPick (n m : Int) (hm : 0 < m) (hm2 : m ≤ 1000000000) : GPure Try.prog 8 [.int .i64 n, .int .i64 m] (.int .i64 (n % m)) := by
  refine h8.pure mixS (by simp) ?_
  simp only [gstart, s8, List.cons_append, List.nil_append, List.length_cons, List.length_nil, Nat.reduceAdd, Nat.reduceSub, List.replicate_succ, List.replicate_zero]
  simp +contextual -implicitDefEqProofs (maxSteps := 2000000) (disch := omega) only [binV, GVal.cells, grp, GVal.ofConst, ↓resV, resG, List.map, List.headD, List.take, List.drop, ↓reduceIte, Nat.reduceEqDiff, Nat.reduceAdd, Nat.reduceSub, Nat.reduceLeDiff, reduceCtorEq, implies_true, ne_eq, Tag.cap, List.replicate, allSolid, GVal.solid, Nat.reduceBEq, Nat.reduceMul, Nat.reduceLT, List.length_map, List.length_range, splice, vcA, ↓vcB, vcC, fbFf, e8]
  obtain ⟨h1, h2⟩ := tmod_pick n m hm
  have h3 := Int.emod_nonneg n (by omega : m ≠ 0)
  have h4 := Int.emod_lt_of_pos n hm
  exact ⟨by omega, fun h => by rw [h1 h, norm_i64 (by omega)], h2⟩
end Gv.Try
/- Contracts: tests over spans; the law's set. -/
set_option linter.unusedVariables false
set_option linter.unusedSimpArgs false
set_option maxRecDepth 20000
set_option maxHeartbeats 4000000
namespace Gv.Try
open Go Gv Go.Proofs

end Gv.Try
/- slices.SortFunc over rows of structs, as a contract over ghost values. -/
set_option linter.unusedVariables false
namespace Gv
open Go Go.Proofs Go.Shelf Go.RowKit Go.Lib Go.Sort

section
variable {P : Program} {ρ : Ren}
set_option maxHeartbeats 2000000 in
theorem insertion_none (L : SlLaysF0.n20 P ρ) (p : Option Addr) (cap : Nat) (fv : Value) (w : World) :
    Calls P (ρ.f 20) #[.slice p 0 cap, .int .i64 0, .int .i64 0, fv] w fun e w' => e = .returned (.tuple #[]) ∧ w' = w := by
  have mixed := L.mixed; have t0 := L.t0; have a0 := L.a0; have z0 := L.z0; have v0 := L.v0; have t3 := L.t3; have a3 := L.a3; have z3 := L.z3; have v3 := L.v3; have t4 := L.t4; have a4 := L.a4; have z4 := L.z4; have v4 := L.v4; have t22 := L.t22; have a22 := L.a22; have z22 := L.z22; have v22 := L.v22; have t25 := L.t25; have a25 := L.a25; have z25 := L.z25; have v25 := L.v25
  obtain ⟨_, _, FG⟩ := L.f20
  go_enter FG, SlBodyF.n20_ntmps ρ
  go_wp2
  refine wp_loop_rounds 1 ?_
  rw [rounds_succ]
  go_wp2
  go_end0
  exact ⟨rfl, rfl⟩

set_option maxHeartbeats 2000000 in
theorem pdq_none (L : SlLaysF0.n14 P ρ) (p : Option Addr) (cap : Nat) (lim : Int) (fv : Value) (w : World) :
    Calls P (ρ.f 14) #[.slice p 0 cap, .int .i64 0, .int .i64 0, .int .i64 lim, fv] w fun e w' => e = .returned (.tuple #[]) ∧ w' = w := by
  have mixed := L.mixed; have t0 := L.t0; have a0 := L.a0; have z0 := L.z0; have v0 := L.v0; have t3 := L.t3; have a3 := L.a3; have z3 := L.z3; have v3 := L.v3; have t4 := L.t4; have a4 := L.a4; have z4 := L.z4; have v4 := L.v4; have t5 := L.t5; have a5 := L.a5; have z5 := L.z5; have v5 := L.v5; have t9 := L.t9; have a9 := L.a9; have z9 := L.z9; have v9 := L.v9; have t22 := L.t22; have a22 := L.a22; have z22 := L.z22; have v22 := L.v22; have t25 := L.t25; have a25 := L.a25; have z25 := L.z25; have v25 := L.v25; have t39 := L.t39; have a39 := L.a39; have z39 := L.z39; have v39 := L.v39; have t45 := L.t45; have a45 := L.a45; have z45 := L.z45; have v45 := L.v45; have t46 := L.t46; have a46 := L.a46; have z46 := L.z46; have v46 := L.v46; have t50 := L.t50; have a50 := L.a50; have z50 := L.z50; have v50 := L.v50; have t53 := L.t53; have a53 := L.a53; have z53 := L.z53; have v53 := L.v53; have t55 := L.t55; have a55 := L.a55; have z55 := L.z55; have v55 := L.v55; have t66 := L.t66; have a66 := L.a66; have z66 := L.z66; have v66 := L.v66; have t70 := L.t70; have a70 := L.a70; have z70 := L.z70; have v70 := L.v70; have t76 := L.t76; have a76 := L.a76; have z76 := L.z76; have v76 := L.v76; have t77 := L.t77; have a77 := L.a77; have z77 := L.z77; have v77 := L.v77
  have e20 : ∀ args w, (callFunc (ρ.f 20) args).run P w = .ok (.enter (ρ.f 20) args) w := L.f20.enters rfl
  have hi := fun W => insertion_none (P := P) (ρ := ρ) { L with } p cap fv W
  obtain ⟨_, _, FG⟩ := L.f14
  go_enter FG, SlBodyF.n14_ntmps ρ
  go_wp2
  refine wp_loop_rounds 1 ?_
  rw [rounds_succ]
  go_wp2_with (go_at_fn (ρ.f 20); refine (hi _).mono ?_; rintro e w' ⟨rfl, rfl⟩)
  (try simp only [Exit.inBlock, Exit.then]); refine bodyPost_ret (results_none rfl _ _ _) rfl ?_
  exact ⟨rfl, rfl⟩

set_option maxHeartbeats 2000000 in
theorem sort_none (L : SlLaysF0.n6 P ρ) (p : Option Addr) (cap : Nat) (fv : Value) (w : World) :
    Calls P (ρ.f 6) #[.slice p 0 cap, fv] w fun e w' => e = .returned (.tuple #[]) ∧ w' = w := by
  have mixed := L.mixed; have t0 := L.t0; have a0 := L.a0; have z0 := L.z0; have v0 := L.v0; have t3 := L.t3; have a3 := L.a3; have z3 := L.z3; have v3 := L.v3; have t4 := L.t4; have a4 := L.a4; have z4 := L.z4; have v4 := L.v4; have t5 := L.t5; have a5 := L.a5; have z5 := L.z5; have v5 := L.v5; have t9 := L.t9; have a9 := L.a9; have z9 := L.z9; have v9 := L.v9; have t22 := L.t22; have a22 := L.a22; have z22 := L.z22; have v22 := L.v22; have t25 := L.t25; have a25 := L.a25; have z25 := L.z25; have v25 := L.v25; have t39 := L.t39; have a39 := L.a39; have z39 := L.z39; have v39 := L.v39; have t45 := L.t45; have a45 := L.a45; have z45 := L.z45; have v45 := L.v45; have t46 := L.t46; have a46 := L.a46; have z46 := L.z46; have v46 := L.v46; have t50 := L.t50; have a50 := L.a50; have z50 := L.z50; have v50 := L.v50; have t53 := L.t53; have a53 := L.a53; have z53 := L.z53; have v53 := L.v53; have t55 := L.t55; have a55 := L.a55; have z55 := L.z55; have v55 := L.v55; have t66 := L.t66; have a66 := L.a66; have z66 := L.z66; have v66 := L.v66; have t70 := L.t70; have a70 := L.a70; have z70 := L.z70; have v70 := L.v70; have t76 := L.t76; have a76 := L.a76; have z76 := L.z76; have v76 := L.v76; have t77 := L.t77; have a77 := L.a77; have z77 := L.z77; have v77 := L.v77
  have e14 : ∀ args w, (callFunc (ρ.f 14) args).run P w = .ok (.enter (ρ.f 14) args) w := L.f14.enters rfl
  have e15 : ∀ args w, (callFunc (ρ.f 15) args).run P w = .ok (.enter (ρ.f 15) args) w := enters_of L.f15 (by kernel_rfl) rfl
  have hp := fun lim W => pdq_none (P := P) (ρ := ρ) { L with } p cap lim fv W
  have hl : ∀ W, Calls P (ρ.f 15) #[.int .u64 0] W fun e w' => e = .returned (.int .i64 (Lib.bitLen 0 : Nat)) ∧ w' = W := fun W => by
    have h := Any.bits_Len (SlLaysF0.n15.bits (P := P) (ρ := ρ) { L with }) 0 W (by omega) (by omega)
    exact h
  obtain ⟨_, _, FG⟩ := L.f6
  go_enter FG, SlBodyF.n6_ntmps ρ
  go_wp2_with (first | (go_at_fn (ρ.f 15); refine (hl _).mono ?_; rintro e w' ⟨rfl, rfl⟩) | (go_at_fn (ρ.f 14); refine (hp _ _).mono ?_; rintro e w' ⟨rfl, rfl⟩))
  go_end0
  exact ⟨rfl, rfl⟩
end

theorem flatMap_at {α : Type} (G : α → List GVal) (k : Nat) (hG : ∀ x, (G x).length = k) : ∀ (xs : List α) (t : Nat), (xs.map G).flatten[t]? = (xs[t / k]?).bind fun x => (G x)[t % k]?
  | [], t => by simp
  | x :: r, t => by
    rw [List.map_cons, List.flatten_cons]
    by_cases h : t < k
    · rw [List.getElem?_append_left (by rw [hG]; exact h), Nat.div_eq_of_lt h, Nat.mod_eq_of_lt h]
      rfl
    · rw [List.getElem?_append_right (by rw [hG]; omega), hG, flatMap_at G k hG r]
      by_cases hk : k = 0
      · subst hk
        have : ∀ y, G y = [] := fun y => List.eq_nil_of_length_eq_zero (hG y)
        simp [this]
      · have e : t = (t - k) + k := by omega
        have e1 : t / k = (t - k) / k + 1 := by
          conv => lhs; rw [e]
          rw [Nat.add_div_right _ (by omega)]
        have e2 : t % k = (t - k) % k := by
          conv => lhs; rw [e]
          rw [Nat.add_mod_right]
        rw [e1, e2, List.getElem?_cons_succ]

section
variable {α : Type} [Inhabited α]
theorem sortWorld_at (enc : α → List Value) (k : Nat) (w : World) (blk off m : Nat) (dk : Array α) (os : Array Obj) {cur : Array Value} {el : TypeId} {fr : Nat × Nat} (hc : w.heap[blk]? = some (.cells cur el fr)) :
    (sortWorldK enc k w blk off m dk os).os = w.os ∧ (sortWorldK enc k w blk off m dk os).output = w.output ∧ w.heap.size ≤ (sortWorldK enc k w blk off m dk os).heap.size ∧
    (∀ b, b < w.heap.size → b ≠ blk → (sortWorldK enc k w blk off m dk os).heap[b]? = w.heap[b]?) ∧
    (sortWorldK enc k w blk off m dk os).heap[blk]? = some (.cells (putCells id off (flatK enc k dk) cur) el fr) := by
  have e : (sortWorldK enc k w blk off m dk os).heap = (w.heap.modify blk (onCells (putCells id off (flatK enc k dk)))) ++ os := rfl
  have hlt := (Array.getElem?_eq_some_iff.1 hc).1
  refine ⟨rfl, rfl, by rw [e]; simp, fun b hb hn => ?_, ?_⟩
  · rw [e, Array.getElem?_append, if_pos (by simpa using hb), Array.getElem?_modify, if_neg (fun h => hn h.symm)]
  · rw [e, Array.getElem?_append, if_pos (by simpa using hlt), Array.getElem?_modify, if_pos rfl, hc]; rfl

theorem putCells_at (off : Nat) (d : Array Value) (c : Array Value) (j : Nat) (hj : j < d.size) (hc : off + j < c.size) : (putCells id off d c)[off + j]? = some d[j]! := by
  simp only [putCells, Array.getElem?_mapIdx, Array.getElem?_eq_getElem hc, Option.map_some]
  rw [if_pos ⟨by omega, by omega⟩, show off + j - off = j by omega]; rfl
theorem putCells_size (off : Nat) (d : Array Value) (c : Array Value) : (putCells id off d c).size = c.size := by simp [putCells]
theorem getBang_of {β : Type} [Inhabited β] {l : List β} {i : Nat} {x : β} (h : l[i]? = some x) : l[i]! = x := by simp [h]
end

theorem set_same {β : Type} {l : List β} {i : Nat} {x : β} (h : l[i]? = some x) : l.set i x = l := by
  apply List.ext_getElem?
  intro j
  rw [List.getElem?_set]
  by_cases e : i = j
  · subst e; rw [if_pos rfl, h, if_pos (List.getElem?_eq_some_iff.1 h).1]
  · rw [if_neg e]

theorem gcalls_sort {P : Program} {ρ : Ren} {α : Type} [Inhabited α] (L : SlLaysF0.n6 P ρ) (k : Nat) (aE : ∀ w, (isAgg (ρ.t 24)).run P w = .ok true w) (zE : ∀ w, (Go.sizeOf (ρ.t 24)).run P w = .ok k w)
    (enc : α → List Value) (G : α → List GVal) (hk : ∀ x, (enc x).length = k) (h1 : ∀ x, ∀ v ∈ enc x, v.oneCell' = true) (hG : ∀ x, (G x).length = k)
    (hdet : ∀ E x (j : Nat) g v, (G x)[j]? = some g → VR E v g → (enc x)[j]? = some v) (hback : ∀ E x (j : Nat) g, (G x)[j]? = some g → ∃ v, (enc x)[j]? = some v ∧ VR E v g)
    (cf : α → α → Int) (hO : SWO (ltOf cf)) (c : FuncId) (eg : ∀ args w, (callFunc c args).run P w = .ok (.enter c args) w)
    (hcmp : ∀ x y W, Calls P c #[.agg (enc x).toArray, .agg (enc y).toArray] W fun e w' => e = .returned (.int .i64 (cf x y)) ∧ ∃ q os', w' = grow (W.drewN q) os')
    (hen : enterable P (ρ.f 6) = true) (xs : List α) (hsz : xs.length < 4611686018427387904) {O : List GObj} {o st : Nat} (hOo : O[o]? = some (.row st k (xs.map G))) (hc : clockOf O = none) :
    GCalls P (ρ.f 6) [.own o st 0 xs.length, .func (.func c) [] []] O (fun r O' => r = .tuple [] ∧ ∃ ys : List α, ys.Perm xs ∧ ys.Pairwise (fun a b => ¬ cf b a < 0) ∧ O' = O.set o (.row st k (ys.map G))) := by
  refine ⟨hen, fun E w vs hs ha => ?_⟩
  obtain ⟨hvs, hva⟩ := ha
  have h2 : vs.size = 2 := hvs
  have hv0 := hva 0 _ rfl
  have hv1 := hva 1 _ rfl
  obtain ⟨v0, v1, rfl⟩ : ∃ a b, vs = #[a, b] := by
    refine ⟨vs[0], vs[1], Array.ext (by simp [h2]) fun i a b => ?_⟩
    have : i = 0 ∨ i = 1 := by omega
    rcases this with rfl | rfl <;> rfl
  have e0 : (#[v0, v1] : Array Value).getD 0 undef = v0 := rfl
  have e1 : (#[v0, v1] : Array Value).getD 1 undef = v1 := rfl
  rw [e0] at hv0; rw [e1] at hv1
  clear hva hvs h2 e0 e1
  cases hv1 with
  | func _ fs cs _ _ hf hkk hfs hcs =>
    have ef : fs = #[] := Array.eq_empty_of_size_eq_zero hf
    have ec : cs = #[] := Array.eq_empty_of_size_eq_zero hkk
    subst ef; subst ec
    have hreal := hs.real _ _ hOo
    cases hv0 with
    | own a _ cap _ _ _ l hl hcap hadr =>
      obtain ⟨l', hl', hsz', hrow, hm⟩ := hreal
      rw [hl] at hl'; cases hl'
      by_cases hx : xs = []
      · subst hx
        refine (sort_none L a cap _ w).mono ?_
        rintro e w' ⟨rfl, rfl⟩
        exact ⟨_, E, O, .tuple [], rfl, hs, .refl _ _ _, .tuple _ _ rfl (fun j g h => by simp at h), rfl, [], .refl _, .nil, (set_same hOo).symm⟩
      · have hpos : 0 < xs.length := List.length_pos_iff.2 hx
        rcases hadr with h0 | ⟨b, hb, rfl, htot⟩
        · omega
        rw [hb] at hm
        obtain ⟨cur, el, hw, hcs', hle, hrows, hsn⟩ := hm
        have hmul : (0 : Nat) * l.size = 0 := Nat.zero_mul _
        rw [hmul, Nat.add_zero]
        have hle' : l.off + xs.length * k ≤ cur.size := by rw [hcs']; simpa using hle
        have hlt := (Array.getElem?_eq_some_iff.1 hw).1
        have hcell : ∀ t, t < xs.length * k → ∃ v, cur[l.off + t]? = some v ∧ (flatK enc k xs.toArray)[t]! = v := fun t ht => by
          have hk0 : 0 < k := Nat.pos_of_ne_zero fun e => by subst e; simp at ht
          have hd : t / k < xs.length := Nat.div_lt_of_lt_mul (by rw [Nat.mul_comm]; exact ht)
          have hmd : t % k < k := Nat.mod_lt _ hk0
          have hx? : xs[t / k]? = some xs[t / k] := List.getElem?_eq_getElem hd
          have hg : (G xs[t / k])[t % k]? = some ((G xs[t / k])[t % k]'(by rw [hG]; exact hmd)) := List.getElem?_eq_getElem _
          obtain ⟨v, q1, _, q3⟩ := hrows t _ (by rw [flatMap_at G k hG, hx?]; exact hg)
          refine ⟨v, q1, ?_⟩
          rw [get_flatK _ _ _ _ (by simpa using ht)]
          have := hdet E _ _ _ _ hg q3
          have e1 : xs.toArray[t / k]! = xs[t / k] := by
            rw [getElem!_pos _ _ (by simpa using hd)]; rfl
          rw [e1]; exact getBang_of this
        have hH : HoldsK enc k w b l.off xs.toArray := fun t ht => by
          have ht' : t < xs.length * k := by simpa using ht
          obtain ⟨v, q1, q2⟩ := hcell t ht'
          refine ⟨?_, ?_⟩
          · show w.cell? _ = some (flatK enc k xs.toArray)[t]!
            rw [q2]; simp [World.cell?, hw, q1]
          · simp [World.frozen?, hw]
        have hcmp' : CmpLays P c #[] enc k cf b l.off xs.toArray.size w := fun m os dk _ x y => hcmp x y _
        refine (AnyQ.slices_SortFunc L k aE zE enc hk h1 cf hO c #[] b l.off cap xs.toArray w eg hcmp' hH hlt (by simpa using hsz)).mono ?_
        rintro e w' ⟨rfl, d', n, os, ⟨p1, p2, p3⟩, hsort, rfl⟩
        have hlen : d'.size = xs.length := by simpa using p1
        have hperm : d'.toList.Perm xs := by
          have q1 : d'.extract 0 xs.toArray.size = d' := by rw [← p1]; simp
          have q2 : xs.toArray.extract 0 xs.toArray.size = xs.toArray := by simp
          rw [q1, q2] at p3; exact p3
        have hpw : d'.toList.Pairwise (fun a b => ¬ cf b a < 0) := by
          rw [List.pairwise_iff_getElem]
          intro i j hi hj hij
          have := hsort i j (Nat.zero_le _) hij (by simp at hj; rw [← p1]; exact hj)
          rw [getElem!_pos d' j (by simpa using hj), getElem!_pos d' i (by simpa using hi)] at this
          simpa [ltOf] using this
        obtain ⟨s1, s2, s3, s4, s5⟩ := sortWorld_at enc k w b l.off n d' os hw
        have hup := hs.upd (E' := E) (w' := sortWorldK enc k w b l.off n d' os) (obj' := .row st k (d'.toList.map G)) (b := b) (t := b) hOo (.inl (by simp [GObj.blk, hl, hb])) (.inl rfl) (.refl E) hs.fin ⟨rfl, rfl⟩ s1 ⟨s2, trivial⟩ s3 s4 (fun _ _ _ _ hv => hv)
          (fun o v hv => by rw [hsn o] at hv; cases hv)
          (by
            refine ⟨l, hl, hsz', fun y hy => ?_, ?_⟩
            · obtain ⟨z, _, rfl⟩ := List.mem_map.1 hy; exact hG z
            rw [hb]
            refine ⟨_, el, s5, by rw [putCells_size]; exact hcs', by simp [hlen]; rw [← hcs']; exact hle', fun j g hj => ?_, hsn⟩
            rw [flatMap_at G k hG] at hj
            cases hq : d'.toList[j / k]? with
            | none => rw [hq] at hj; cases hj
            | some x =>
              rw [hq] at hj
              have hj' : (G x)[j % k]? = some g := hj
              obtain ⟨v, q1, q2⟩ := hback E x _ g hj'
              have hi : j / k < d'.size := by simpa using (List.getElem?_eq_some_iff.1 hq).1
              have hk0 : 0 < k := Nat.pos_of_ne_zero fun e => by
                have := (List.getElem?_eq_some_iff.1 hj').1; rw [hG, e] at this; omega
              have hjk : j < d'.size * k := (Nat.div_lt_iff_lt_mul hk0).1 hi
              have e3 : d'[j / k]! = x := by
                rw [getElem!_pos d' (j / k) hi]
                have := (List.getElem?_eq_some_iff.1 hq).2
                simpa using this
              refine ⟨v, ?_, h1 x v (List.mem_of_getElem? q1), q2⟩
              rw [putCells_at l.off _ _ j (by simpa using hjk) (by rw [hlen] at hjk; omega), get_flatK _ _ _ _ hjk, e3, getBang_of q1])
          (fun kk hkk => by simp [GObj.blk, hl, hb] at hkk; exact hkk.symm)
        exact ⟨_, E, _, .tuple [], rfl, hup.1, hup.2, .tuple _ _ rfl (fun j g h => by simp at h), rfl, d'.toList, hperm, hpw, rfl⟩
end Gv
/- slices.SortFunc of spans by their low ends, as a contract. -/
set_option linter.unusedVariables false
set_option maxRecDepth 100000
namespace Go.Proofs
open Go.Shelf
def Try.sortSp_ren : Go.Shelf.Ren := ⟨fun | 6 => 75 | 15 => 92 | 14 => 91 | 28 => 107 | 29 => 108 | 20 => 99 | 21 => 100 | 22 => 101 | 23 => 102 | 24 => 103 | 25 => 104 | 26 => 105 | 27 => 106 | 46 => 111 | 47 => 112 | 48 => 113 | 49 => 114 | 50 => 115 | 57 => 117 | n => n, fun | 22 => 30 | 24 => 33 | 25 => 93 | 3 => 3 | 39 => 106 | 0 => 0 | 53 => 118 | 55 => 120 | 4 => 4 | 46 => 112 | 45 => 111 | 50 => 60 | 5 => 5 | 9 => 9 | 66 => 123 | 70 => 127 | 76 => 130 | 77 => 131 | n => n, fun | n => n⟩
theorem Try.sortSp : Go.Proofs.SlLaysF0.n6 Try.prog Try.sortSp_ren := {
  mixed := by kernel_rfl
  f6 := ⟨Try.f75.name, by decide, Try.func75.trans (congrArg some (by kernel_rfl))⟩
  f14 := ⟨Try.f91.name, by decide, Try.func91.trans (congrArg some (by kernel_rfl))⟩
  f15 := Try.func92.trans (congrArg some (by kernel_rfl))
  f20 := ⟨Try.f99.name, by decide, Try.func99.trans (congrArg some (by kernel_rfl))⟩
  f21 := ⟨Try.f100.name, by decide, Try.func100.trans (congrArg some (by kernel_rfl))⟩
  f22 := ⟨Try.f101.name, by decide, Try.func101.trans (congrArg some (by kernel_rfl))⟩
  f23 := ⟨Try.f102.name, by decide, Try.func102.trans (congrArg some (by kernel_rfl))⟩
  f24 := ⟨Try.f103.name, by decide, Try.func103.trans (congrArg some (by kernel_rfl))⟩
  f25 := ⟨Try.f104.name, by decide, Try.func104.trans (congrArg some (by kernel_rfl))⟩
  f26 := ⟨Try.f105.name, by decide, Try.func105.trans (congrArg some (by kernel_rfl))⟩
  f27 := ⟨Try.f106.name, by decide, Try.func106.trans (congrArg some (by kernel_rfl))⟩
  f28 := Try.func107.trans (congrArg some (by kernel_rfl))
  f29 := Try.func108.trans (congrArg some (by kernel_rfl))
  f46 := ⟨Try.f111.name, by decide, Try.func111.trans (congrArg some (by kernel_rfl))⟩
  f47 := Try.func112.trans (congrArg some (by kernel_rfl))
  f48 := Try.func113.trans (congrArg some (by kernel_rfl))
  f49 := ⟨Try.f114.name, by decide, Try.func114.trans (congrArg some (by kernel_rfl))⟩
  f50 := ⟨Try.f115.name, by decide, Try.func115.trans (congrArg some (by kernel_rfl))⟩
  f57 := ⟨Try.f117.name, by decide, Try.func117.trans (congrArg some (by kernel_rfl))⟩
  t0 := Try.underlying0
  a0 := Try.isAgg0
  z0 := Try.sizeOf0
  v0 := Try.zeroValue0
  t3 := Try.underlying3
  a3 := Try.isAgg3
  z3 := Try.sizeOf3
  v3 := Try.zeroValue3
  t4 := Try.underlying4
  a4 := Try.isAgg4
  z4 := Try.sizeOf4
  v4 := Try.zeroValue4
  t5 := Try.underlying5
  a5 := Try.isAgg5
  z5 := Try.sizeOf5
  v5 := Try.zeroValue5
  t9 := Try.underlying9
  a9 := Try.isAgg9
  z9 := Try.sizeOf9
  v9 := Try.zeroValue9
  t22 := Try.underlying30
  a22 := Try.isAgg30
  z22 := Try.sizeOf30
  v22 := Try.zeroValue30
  t25 := Try.underlying93
  a25 := Try.isAgg93
  z25 := Try.sizeOf93
  v25 := Try.zeroValue93
  t39 := Try.underlying106
  a39 := Try.isAgg106
  z39 := Try.sizeOf106
  v39 := Try.zeroValue106
  t45 := Try.underlying111
  a45 := Try.isAgg111
  z45 := Try.sizeOf111
  v45 := Try.zeroValue111
  t46 := Try.underlying112
  a46 := Try.isAgg112
  z46 := Try.sizeOf112
  v46 := Try.zeroValue112
  t50 := Try.underlying60
  a50 := Try.isAgg60
  z50 := Try.sizeOf60
  v50 := Try.zeroValue60
  t53 := Try.underlying118
  a53 := Try.isAgg118
  z53 := Try.sizeOf118
  v53 := Try.zeroValue118
  t55 := Try.underlying120
  a55 := Try.isAgg120
  z55 := Try.sizeOf120
  v55 := Try.zeroValue120
  t66 := Try.underlying123
  a66 := Try.isAgg123
  z66 := Try.sizeOf123
  v66 := Try.zeroValue123
  t70 := Try.underlying127
  a70 := Try.isAgg127
  z70 := Try.sizeOf127
  v70 := Try.zeroValue127
  t76 := Try.underlying130
  a76 := Try.isAgg130
  z76 := Try.sizeOf130
  v76 := Try.zeroValue130
  t77 := Try.underlying131
  a77 := Try.isAgg131
  z77 := Try.sizeOf131
  v77 := Try.zeroValue131 }
def Try.cmpInt_ren : Go.Shelf.Ren := ⟨fun | 5 => 77 | 7 => 93 | n => n, fun | 22 => 3 | 3 => 3 | 4 => 4 | n => n, fun | n => n⟩
theorem Try.cmpInt : Go.Proofs.SlLaysC2.n5 Try.prog Try.cmpInt_ren := {
  mixed := by kernel_rfl
  f5 := ⟨Try.f77.name, by decide, Try.func77.trans (congrArg some (by kernel_rfl))⟩
  f7 := ⟨Try.f93.name, by decide, Try.func93.trans (congrArg some (by kernel_rfl))⟩
  t3 := Try.underlying3
  a3 := Try.isAgg3
  z3 := Try.sizeOf3
  v3 := Try.zeroValue3
  t4 := Try.underlying4
  a4 := Try.isAgg4
  z4 := Try.sizeOf4
  v4 := Try.zeroValue4
  t22 := Try.underlying3
  a22 := Try.isAgg3
  z22 := Try.sizeOf3
  v22 := Try.zeroValue3 }
end Go.Proofs
namespace Gv.Try
open Go Gv Go.Proofs Go.Shelf Go.RowKit Go.Lib Go.Sort
set_option maxHeartbeats 2000000 in
theorem sortClosure (x y : Sp.S) (W : World) : Calls Try.prog 76 #[.agg #[.int .i64 x.1, .int .i64 x.2], .agg #[.int .i64 y.1, .int .i64 y.2]] W fun e w' => e = .returned (.int .i64 (Lib.compareInt x.1 y.1)) ∧ ∃ q os', w' = grow (W.drewN q) os' := by
  have hcon := fun W' => AnyG.cmp_Compare_int Try.cmpInt x.1 y.1 W'
  change ∀ W', Calls Try.prog 77 _ _ _ at hcon
  generalize Lib.compareInt x.1 y.1 = r at hcon ⊢
  go_enter Try.func76, Try.ntmps76
  go_wp2_with (go_at_call 77; refine (hcon _).mono ?_; rintro e w' ⟨rfl, rfl⟩)
  go_ret
  exact ⟨rfl, 0, _, by rw [alloc_eq_grow, alloc_eq_grow, grow_grow]; rfl⟩

theorem ltLo (x y : Sp.S) : ltOf (fun x y : Sp.S => Lib.compareInt x.1 y.1) x y = decide (x.1 < y.1) := by
  unfold ltOf Lib.compareInt
  by_cases h1 : x.1 < y.1
  · simp [h1]
  · by_cases h2 : y.1 < x.1 <;> simp [h1, h2]
theorem swoLo : SWO (ltOf fun x y : Sp.S => Lib.compareInt x.1 y.1) where
  irrefl x := by rw [ltLo]; simp
  trans x y z h1 h2 := by rw [ltLo] at *; simp at *; omega
  ntrans x y z h1 h2 := by rw [ltLo] at *; simp at *; omega
def encSp (s : Sp.S) : List Value := [.int .i64 s.1, .int .i64 s.2]

theorem sSort (xs : List Sp.S) (hsz : xs.length < 4611686018427387904) {O : List GObj} {o st : Nat} (hO : O[o]? = some (.row st 2 (spl xs))) (hc : clockOf O = none) :
    GCalls Try.prog 75 [.own o st 0 xs.length, .func (.func 76) [] []] O (fun r O' => r = .tuple [] ∧ ∃ ys : List Sp.S, ys.Perm xs ∧ ys.Pairwise (fun a b => a.1 ≤ b.1) ∧ O' = O.set o (.row st 2 (spl ys))) := by
  have h := gcalls_sort (α := Sp.S) Try.sortSp 2 Try.isAgg33 Try.sizeOf33 encSp spG (fun _ => rfl)
    (fun x v hv => by simp [encSp] at hv; rcases hv with rfl | rfl <;> rfl) (fun _ => rfl)
    (fun E x j g v hg hv => by
      match j, hg with
      | 0, hg => simp [spG] at hg; subst hg; cases hv; rfl
      | 1, hg => simp [spG] at hg; subst hg; cases hv; rfl
      | j + 2, hg => simp [spG] at hg)
    (fun E x j g hg => by
      match j, hg with
      | 0, hg => simp [spG] at hg; subst hg; exact ⟨_, rfl, .int _ _⟩
      | 1, hg => simp [spG] at hg; subst hg; exact ⟨_, rfl, .int _ _⟩
      | j + 2, hg => simp [spG] at hg)
    (fun x y => Lib.compareInt x.1 y.1) swoLo 76 (enters_of Try.func76 (by kernel_rfl) rfl) (fun x y W => sortClosure x y W) (by kernel_rfl) xs hsz hO hc
  refine h.mono ?_
  rintro g O' ⟨rfl, ys, h1, h2, rfl⟩
  refine ⟨rfl, ys, h1, h2.imp fun {a b} hab => ?_, rfl⟩
  have := ltLo b a
  unfold ltOf at this
  have h3 : decide (b.1 < a.1) = false := by rw [← this]; exact decide_eq_false hab
  have := of_decide_eq_false h3
  omega
end Gv.Try
/- Contract: spans.Make. -/
set_option linter.unusedVariables false
set_option linter.unusedSimpArgs false
set_option maxRecDepth 20000
set_option maxHeartbeats 4000000
namespace Gv.Try
open Go Gv Go.Proofs

def clampL : List Sp.S → List Sp.S
  | [] => []
  | s :: r => (if max s.1 0 ≤ s.2 then [(max s.1 0, s.2)] else []) ++ clampL r
theorem clampL_app : ∀ (a b : List Sp.S), clampL (a ++ b) = clampL a ++ clampL b
  | [], b => rfl
  | s :: r, b => by simp [clampL, clampL_app r b]
theorem clampL_step (l : List Sp.S) (k : Nat) (h : k < l.length) : clampL (l.take (k + 1)) = clampL (l.take k) ++ (if max (l.getD k (0, 0)).1 0 ≤ (l.getD k (0, 0)).2 then [(max (l.getD k (0, 0)).1 0, (l.getD k (0, 0)).2)] else []) := by
  rw [take_getD h, clampL_app]; simp [clampL]
theorem clampL_len (l : List Sp.S) : (clampL l).length ≤ l.length := by
  induction l with
  | nil => simp [clampL]
  | cons s r ih => unfold clampL; split <;> simp <;> omega
theorem clampL_take (l : List Sp.S) (k : Nat) : (clampL (l.take k)).length ≤ l.length := by
  have := clampL_len (l.take k); simp at this; omega
theorem clampL_has (n : Int) (l : List Sp.S) : Sp.has (clampL l) n ↔ Sp.has l n := by
  induction l with
  | nil => rfl
  | cons s r ih =>
    unfold clampL
    rw [Sp.has_app, ih, Sp.has_cons]
    refine or_congr ?_ Iff.rfl
    split
    · simp only [Sp.has_cons, Sp.has_nil, or_false]; omega
    · rw [Sp.has_nil]; exact ⟨False.elim, fun h => by omega⟩
theorem clampL_mem (l : List Sp.S) : ∀ s ∈ clampL l, 0 ≤ s.1 ∧ s.1 ≤ s.2 := by
  induction l with
  | nil => simp [clampL]
  | cons x r ih =>
    intro s hs
    unfold clampL at hs
    rcases List.mem_append.1 hs with h | h
    · split at h
      · simp at h; subst h; rename_i h'; exact ⟨by show 0 ≤ max _ _; omega, h'⟩
      · simp at h
    · exact ih s h
theorem clampL_ok {l : List Sp.S} (h : Sp.Ok l) : Sp.Ok (clampL l) := by
  induction l with
  | nil => exact h
  | cons x r ih =>
    intro s hs
    unfold clampL at hs
    rcases List.mem_append.1 hs with h' | h'
    · split at h'
      · simp at h'; subst h'
        have := h x (by simp)
        exact ⟨⟨by show _ ≤ max _ _; omega, by show max _ _ ≤ _; omega⟩, this.2⟩
      · simp at h'
    · exact ih (fun z hz => h z (by simp [hz])) s h'
/-- the state of the merge -/
def MOk (zs out : List Sp.S) : Prop := Sp.Rt 0 out ∧ (∀ n, Sp.has out n ↔ Sp.has zs n) ∧ (∀ x ∈ out, ∃ z ∈ zs, x.1 = z.1) ∧ out.length ≤ zs.length ∧ Sp.Ok out
theorem MOk.more {zs out : List Sp.S} (h : MOk zs out) (s : Sp.S) (hs : 0 ≤ s.1 ∧ s.1 ≤ s.2 ∧ s.2 ≤ 9223372036854775807) (hge : ∀ z ∈ zs, z.1 ≤ s.1) (hq : ∀ x, out.getLast? = some x → x.2 + 1 < s.1) : MOk (zs ++ [s]) (out ++ [s]) := by
  obtain ⟨h1, h2, h3, h4, h5⟩ := h
  refine ⟨(Sp.Rt_snoc s out 0).2 ⟨h1, hs.1, hs.2.1, fun y hy => ?_⟩, fun n => by rw [Sp.has_app, Sp.has_app, h2], fun x hx => ?_, by simp; omega, h5.app (fun x hx => by simp at hx; subst hx; omega)⟩
  · rcases List.eq_nil_or_concat out with e | ⟨A, x, e⟩
    · subst e; simp at hy
    · rw [List.concat_eq_append] at e; subst e
      have := hq x (by simp)
      rcases List.mem_append.1 hy with h | h
      · have q := ((Sp.Rt_snoc x A 0).1 h1).2.2.2 y h
        have := ((Sp.Rt_snoc x A 0).1 h1).2.2.1
        omega
      · simp at h; subst h; omega
  · rcases List.mem_append.1 hx with h | h
    · obtain ⟨z, hz, e⟩ := h3 x h; exact ⟨z, by simp [hz], e⟩
    · exact ⟨s, by simp, by simp at h; rw [h]⟩
theorem MOk.grow {zs A : List Sp.S} {x : Sp.S} (h : MOk zs (A ++ [x])) (s : Sp.S) (hs : 0 ≤ s.1 ∧ s.1 ≤ s.2 ∧ s.2 ≤ 9223372036854775807) (hge : ∀ z ∈ zs, z.1 ≤ s.1) (hq : s.1 ≤ x.2 + 1) : MOk (zs ++ [s]) (A ++ [(x.1, max x.2 s.2)]) := by
  obtain ⟨h1, h2, h3, h4, h5⟩ := h
  obtain ⟨r1, r2, r3, r4⟩ := (Sp.Rt_snoc x A 0).1 h1
  obtain ⟨z, hz, ez⟩ := h3 x (by simp)
  have hz' := hge z hz
  refine ⟨(Sp.Rt_snoc _ A 0).2 ⟨r1, r2, by show x.1 ≤ max _ _; omega, r4⟩, fun n => ?_, fun y hy => ?_, by simp at *; omega, fun y hy => ?_⟩
  · have := h2 n
    rw [Sp.has_app, Sp.has_cons, Sp.has_nil] at this
    rw [Sp.has_app, Sp.has_app, Sp.has_cons, Sp.has_cons, Sp.has_nil, ← this]
    simp only [or_false, or_assoc]
    refine or_congr Iff.rfl ?_
    omega
  · rcases List.mem_append.1 hy with h | h
    · obtain ⟨z, hz, e⟩ := h3 y (by simp [h]); exact ⟨z, by simp [hz], e⟩
    · simp at h; subst h; exact ⟨z, by simp [hz], ez⟩
  · rcases List.mem_append.1 hy with h | h
    · exact h5 y (by simp [h])
    · simp at h; subst h
      have := h5 x (by simp)
      exact ⟨this.1, by show _ ≤ max _ _; omega, by show max _ _ ≤ _; omega⟩

theorem cMake (l : List Sp.S) (t : Tag) (hl : l.length ≤ 4398046511104) (ho : Sp.Ok l) :
    GCalls Try.prog 58 [.slice (spl l) t] [] (fun g O' => ∃ st0 st1 ys, g = .own 1 st1 0 (Sp.nf l).length ∧ O' = [.row st0 2 (spl ys), .row st1 2 (spl (Sp.nf l))]) := by
  refine h58.calls mixS (by simp) ?_
  simp only [gstart, s58, List.cons_append, List.nil_append, List.length_cons, List.length_nil, Nat.reduceAdd, Nat.reduceSub, List.replicate_succ, List.replicate_zero]
  simp +contextual -implicitDefEqProofs (maxSteps := 2000000) (disch := omega) only [drawC, ↓lenV, binV, ↓unV, optV, ↓loadV, ↓storeV, ↓fieldAddrV, ↓indexAddrV, ↓allocV, ↓buildSliceV, ↓sliceV, ↓appendV, ↓srcV, ↓minV, bound, cutTag, hiTag, fillE, GVal.cells, grp, GVal.ofConst, ↓resV, resG, List.map, List.headD, List.take, List.drop, ↓reduceIte, Nat.reduceEqDiff, Nat.reduceAdd, Nat.reduceSub, Nat.reduceLeDiff, reduceCtorEq, implies_true, ne_eq, ↓asrcV, Tag.cap, List.replicate, allSolid, GVal.solid, Nat.reduceBEq, Nat.reduceMul, Nat.reduceLT, List.length_map, List.length_range, splice, vcA, ↓vcB, vcC, fbFf, e58, spl_length]
  refine vcSLoop_by (ι := { p : Nat × Nat // p.1 ≤ l.length }) (fun p => ⟨[.slice (spl l) t, .any, .any, .own 0 p.1.2 0 (clampL (l.take p.1.1)).length, .slice [] .nil, .any, .any, .any, .any, .any, .slice (spl l) t, .int .i64 l.length, .int .i64 (p.1.1 : Nat)] ++ List.replicate 59 .any, [.row p.1.2 2 (spl (clampL (l.take p.1.1)))]⟩) (fun p => l.length - p.1.1) ?_ ?_
  · refine Into.row 3 2 rfl rfl ?_
    simp +contextual -implicitDefEqProofs (maxSteps := 2000000) (disch := omega) only [drawC, ↓lenV, binV, ↓unV, optV, ↓loadV, ↓storeV, ↓fieldAddrV, ↓indexAddrV, ↓allocV, ↓buildSliceV, ↓sliceV, ↓appendV, ↓srcV, ↓minV, bound, cutTag, hiTag, fillE, GVal.cells, grp, GVal.ofConst, ↓resV, resG, List.map, List.headD, List.take, List.drop, ↓reduceIte, Nat.reduceEqDiff, Nat.reduceAdd, Nat.reduceSub, Nat.reduceLeDiff, reduceCtorEq, implies_true, ne_eq, ↓asrcV, Tag.cap, List.replicate, allSolid, GVal.solid, Nat.reduceBEq, Nat.reduceMul, Nat.reduceLT, List.length_map, List.length_range, splice, vcA, ↓vcB, vcC, fbFf, e58]
    intro t0
    exact Into.first ⟨(0, t0), by omega⟩ ⟨[], by simp [clampL, spl]⟩ (by simp [WL, leG_self, leG_any, clampL])
  · rintro ⟨⟨k, v⟩, hk⟩
    change k ≤ l.length at hk
    have hs := ho.at k
    have hcl := clampL_take l k
    have hk' : k = l.length → l.take k = l := fun e => by rw [e, List.take_length]
    by_cases h : k < l.length
    · have d0 : ((k : Int) < (l.length : Int)) = True := eq_true (by omega)
      have eS := spl_at l k h
      have eN := clampL_step l k h
      generalize l.getD k (0, 0) = s at *
      generalize clampL (l.take k) = A at *
      simp +contextual -implicitDefEqProofs (maxSteps := 2000000) (disch := omega) only [drawC, ↓lenV, binV, ↓unV, optV, ↓loadV, ↓storeV, ↓fieldAddrV, ↓indexAddrV, ↓allocV, ↓buildSliceV, ↓sliceV, ↓appendV, ↓srcV, ↓minV, bound, cutTag, hiTag, fillE, GVal.cells, grp, GVal.ofConst, ↓resV, resG, List.map, List.headD, List.take, List.drop, ↓reduceIte, Nat.reduceEqDiff, Nat.reduceAdd, Nat.reduceSub, Nat.reduceLeDiff, reduceCtorEq, implies_true, ne_eq, ↓asrcV, Tag.cap, List.replicate, allSolid, GVal.solid, Nat.reduceBEq, Nat.reduceMul, Nat.reduceLT, List.length_map, List.length_range, splice, vcA, ↓vcB, vcC, fbFf, e58, spl_length, d0, eS, spG, all_spl]
      refine ⟨by omega, fun st => ⟨fun h1 => ⟨by omega, by omega, by omega, fun st_1 => ?_⟩, fun h1 => ?_⟩⟩
      · rw [if_pos h1] at eN
        have eO : List.take A.length (spl A) ++ [[.int .i64 (max s.1 0), .int .i64 s.2]] = spl (clampL (l.take (k + 1))) := by
          rw [List.take_of_length_le (by rw [spl_length]; exact Nat.le_refl _), eN, spl_append, spl_one]; rfl
        have eL : A.length + 1 = (clampL (l.take (k + 1))).length := by rw [eN]; simp
        refine Into.at ⟨(k + 1, st_1), by show k + 1 ≤ _; omega⟩ (by show _ < _; simp; omega) ⟨[.row st 2 [[.int .i64 (max s.1 0), .int .i64 s.2]]], by rw [eO]; rfl⟩ ?_
        simp [WL, leG_self, leG_any, eL]
      · rw [if_neg (by omega), List.append_nil] at eN
        refine Into.at ⟨(k + 1, v), by show k + 1 ≤ _; omega⟩ (by show _ < _; simp; omega) ⟨[.row st 2 [[.int .i64 (max s.1 0), .int .i64 s.2]]], by rw [eN]; rfl⟩ ?_
        simp [WL, leG_self, leG_any, eN]
    · have e : k = l.length := by omega
      rw [hk' e] at *
      clear hk'
      subst e
      have hm := clampL_mem l
      have hh := fun n => clampL_has n l
      have hok := clampL_ok ho
      have hxl := clampL_len l
      generalize clampL l = xs at *
      have d0 : ((l.length : Int) < (l.length : Int)) = False := eq_false (by omega)
      simp +contextual -implicitDefEqProofs (maxSteps := 2000000) (disch := omega) only [drawC, ↓lenV, binV, ↓unV, optV, ↓loadV, ↓storeV, ↓fieldAddrV, ↓indexAddrV, ↓allocV, ↓buildSliceV, ↓sliceV, ↓appendV, ↓srcV, ↓minV, bound, cutTag, hiTag, fillE, GVal.cells, grp, GVal.ofConst, ↓resV, resG, List.map, List.headD, List.take, List.drop, ↓reduceIte, Nat.reduceEqDiff, Nat.reduceAdd, Nat.reduceSub, Nat.reduceLeDiff, reduceCtorEq, implies_true, ne_eq, ↓asrcV, Tag.cap, List.replicate, allSolid, GVal.solid, Nat.reduceBEq, Nat.reduceMul, Nat.reduceLT, List.length_map, List.length_range, splice, vcA, ↓vcB, vcC, fbFf, e58, spl_length, d0]
      refine (sSort xs (by omega) rfl rfl).mono ?_
      rintro _ _ ⟨rfl, ys, hp, hw, rfl⟩
      have hyl : ys.length = xs.length := hp.length_eq
      have hym : ∀ s ∈ ys, (0 ≤ s.1 ∧ s.1 ≤ s.2) ∧ s.2 ≤ 9223372036854775807 := fun s hs => ⟨hm s (hp.mem_iff.1 hs), (hok s (hp.mem_iff.1 hs)).2.2⟩
      have hyh : ∀ n, Sp.has ys n ↔ Sp.has l n := fun n => by rw [Sp.has_perm hp, hh]
      rw [← hyl]
      simp +contextual -implicitDefEqProofs (maxSteps := 2000000) (disch := omega) only [drawC, ↓lenV, binV, ↓unV, optV, ↓loadV, ↓storeV, ↓fieldAddrV, ↓indexAddrV, ↓allocV, ↓buildSliceV, ↓sliceV, ↓appendV, ↓srcV, ↓minV, bound, cutTag, hiTag, fillE, GVal.cells, grp, GVal.ofConst, ↓resV, resG, List.map, List.headD, List.take, List.drop, ↓reduceIte, Nat.reduceEqDiff, Nat.reduceAdd, Nat.reduceSub, Nat.reduceLeDiff, reduceCtorEq, implies_true, ne_eq, ↓asrcV, Tag.cap, List.replicate, allSolid, GVal.solid, Nat.reduceBEq, Nat.reduceMul, Nat.reduceLT, List.length_map, List.length_range, splice, vcA, ↓vcB, vcC, fbFf, e58, spl_length]
      refine vcSLoop_by (ι := { p : Nat × List Sp.S × Nat // p.1 ≤ ys.length ∧ MOk (ys.take p.1) p.2.1 }) (fun p => ⟨[.any, .any, .any, .any, .own 1 p.1.2.2 0 p.1.2.1.length] ++ List.replicate 27 .any ++ [.own 0 v 0 ys.length, .int .i64 ys.length, .int .i64 (p.1.1 : Nat)] ++ List.replicate 37 .any, [.row v 2 (spl ys), .row p.1.2.2 2 (spl p.1.2.1)]⟩) (fun p => ys.length - p.1.1) ?_ ?_
      · refine Into.row 4 2 rfl rfl ?_
        simp +contextual -implicitDefEqProofs (maxSteps := 2000000) (disch := omega) only [drawC, ↓lenV, binV, ↓unV, optV, ↓loadV, ↓storeV, ↓fieldAddrV, ↓indexAddrV, ↓allocV, ↓buildSliceV, ↓sliceV, ↓appendV, ↓srcV, ↓minV, bound, cutTag, hiTag, fillE, GVal.cells, grp, GVal.ofConst, ↓resV, resG, List.map, List.headD, List.take, List.drop, ↓reduceIte, Nat.reduceEqDiff, Nat.reduceAdd, Nat.reduceSub, Nat.reduceLeDiff, reduceCtorEq, implies_true, ne_eq, ↓asrcV, Tag.cap, List.replicate, allSolid, GVal.solid, Nat.reduceBEq, Nat.reduceMul, Nat.reduceLT, List.length_map, List.length_range, splice, vcA, ↓vcB, vcC, fbFf, e58]
        intro t1
        exact Into.first ⟨(0, [], t1), by omega, by simp [MOk, Sp.Rt, Sp.has, Sp.Ok]⟩ ⟨[], by simp [spl]⟩ (by simp [WL, leG_self, leG_any])
      · rintro ⟨⟨k, out, w⟩, hk, hM⟩
        change k ≤ ys.length at hk
        change MOk (ys.take k) out at hM
        by_cases h : k < ys.length
        · have d0 : ((k : Int) < (ys.length : Int)) = True := eq_true (by omega)
          have eS := spl_at ys k h
          have hs : (0 ≤ (ys.getD k (0, 0)).1 ∧ (ys.getD k (0, 0)).1 ≤ (ys.getD k (0, 0)).2) ∧ (ys.getD k (0, 0)).2 ≤ 9223372036854775807 := by
            rw [List.getD_eq_getElem?_getD, List.getElem?_eq_getElem h]; exact hym _ (List.getElem_mem h)
          have hge : ∀ z ∈ ys.take k, z.1 ≤ (ys.getD k (0, 0)).1 := fun z hz => by
            obtain ⟨i, hi, e⟩ := List.getElem_of_mem hz
            rw [List.length_take] at hi
            rw [List.getElem_take] at e
            have := (List.pairwise_iff_getElem.1 hw) i k (by omega) h (by omega)
            rw [List.getD_eq_getElem?_getD, List.getElem?_eq_getElem h, ← e]; exact this
          have eN := take_getD h
          generalize ys.getD k (0, 0) = s at *
          have hol : out.length ≤ ys.length := by have := hM.2.2.2.1; rw [List.length_take] at this; omega
          rcases List.eq_nil_or_concat out with e | ⟨A, x, e⟩
          · subst e
            have d3 : ((0 : Int) < 0) = False := eq_false (by omega)
            simp +contextual -implicitDefEqProofs (maxSteps := 2000000) (disch := omega) only [drawC, ↓lenV, binV, ↓unV, optV, ↓loadV, ↓storeV, ↓fieldAddrV, ↓indexAddrV, ↓allocV, ↓buildSliceV, ↓sliceV, ↓appendV, ↓srcV, ↓minV, bound, cutTag, hiTag, fillE, GVal.cells, grp, GVal.ofConst, ↓resV, resG, List.map, List.headD, List.take, List.drop, ↓reduceIte, Nat.reduceEqDiff, Nat.reduceAdd, Nat.reduceSub, Nat.reduceLeDiff, reduceCtorEq, implies_true, ne_eq, ↓asrcV, Tag.cap, List.replicate, allSolid, GVal.solid, Nat.reduceBEq, Nat.reduceMul, Nat.reduceLT, List.length_map, List.length_range, splice, vcA, ↓vcB, vcC, fbFf, e58, spl_length, d0, d3, eS, spG, all_spl]
            refine ⟨by omega, h, h, fun st st_1 => ?_⟩
            refine Into.at ⟨(k + 1, [s], st_1), by show k + 1 ≤ _; omega, by show MOk _ _; rw [eN]; exact hM.more s ⟨hs.1.1, hs.1.2, hs.2⟩ hge (by simp)⟩ (by show _ < _; simp; omega) ⟨[.row st 2 [[.int .i64 s.1, .int .i64 s.2]]], by rfl⟩ ?_
            simp [WL, leG_self, leG_any]
          · rw [List.concat_eq_append] at e; subst e
            have hx := hM.2.2.2.2 x (by simp)
            have eX : (spl (A ++ [x])).getD A.length [] = spG x := by rw [spl_append, spl_one, ← spl_length A, getD_last]
            have eL : (A ++ [x]).length = A.length + 1 := by simp
            rw [eL] at hol ⊢
            have d1 : ((0 : Int) < ((A.length : Int) + 1)) = True := eq_true (by omega)
            have d2 : ((A.length : Int) + 1 - 1).toNat = A.length := by omega
            simp +contextual -implicitDefEqProofs (maxSteps := 2000000) (disch := omega) only [drawC, ↓lenV, binV, ↓unV, optV, ↓loadV, ↓storeV, ↓fieldAddrV, ↓indexAddrV, ↓allocV, ↓buildSliceV, ↓sliceV, ↓appendV, ↓srcV, ↓minV, bound, cutTag, hiTag, fillE, GVal.cells, grp, GVal.ofConst, ↓resV, resG, List.map, List.headD, List.take, List.drop, ↓reduceIte, Nat.reduceEqDiff, Nat.reduceAdd, Nat.reduceSub, Nat.reduceLeDiff, reduceCtorEq, implies_true, ne_eq, ↓asrcV, Tag.cap, List.replicate, allSolid, GVal.solid, Nat.reduceBEq, Nat.reduceMul, Nat.reduceLT, List.length_map, List.length_range, splice, vcA, ↓vcB, vcC, fbFf, e58, spl_length, d0, d1, d2, eS, eX, eL, spG, all_spl]
            refine ⟨by omega, h, h, fun st => ⟨by omega, by omega, ?_⟩⟩
            refine (sBeyond s x (by omega) (by omega)).then ?_
            simp +contextual -implicitDefEqProofs (maxSteps := 2000000) (disch := omega) only [drawC, ↓lenV, binV, ↓unV, optV, ↓loadV, ↓storeV, ↓fieldAddrV, ↓indexAddrV, ↓allocV, ↓buildSliceV, ↓sliceV, ↓appendV, ↓srcV, ↓minV, bound, cutTag, hiTag, fillE, GVal.cells, grp, GVal.ofConst, ↓resV, resG, List.map, List.headD, List.take, List.drop, ↓reduceIte, Nat.reduceEqDiff, Nat.reduceAdd, Nat.reduceSub, Nat.reduceLeDiff, reduceCtorEq, implies_true, ne_eq, ↓asrcV, Tag.cap, List.replicate, allSolid, GVal.solid, Nat.reduceBEq, Nat.reduceMul, Nat.reduceLT, List.length_map, List.length_range, splice, vcA, ↓vcB, vcC, fbFf, e58, spl_length, d0, d1, d2, eS, eX, eL, spG, all_spl]
            refine ⟨fun h5 => ⟨by omega, by omega, by omega, fun st_1 => ?_⟩, fun h5 => ⟨by omega, by omega, by omega, by omega, ?_⟩⟩
            · refine Into.at ⟨(k + 1, A ++ [x] ++ [s], st_1), by show k + 1 ≤ _; omega, by show MOk _ _; rw [eN]; exact hM.more s ⟨hs.1.1, hs.1.2, hs.2⟩ hge (fun z hz => by simp at hz; subst hz; exact h5)⟩ (by show _ < _; simp; omega) ⟨[.row st 2 [[.int .i64 s.1, .int .i64 s.2]]], ?_⟩ ?_
              · rw [List.take_of_length_le (by rw [spl_length, eL]; exact Nat.le_refl _), spl_append _ [s], spl_one]; rfl
              · simp [WL, leG_self, leG_any]
            · refine Into.at ⟨(k + 1, A ++ [(x.1, max x.2 s.2)], w), by show k + 1 ≤ _; omega, by show MOk _ _; rw [eN]; exact hM.grow s ⟨hs.1.1, hs.1.2, hs.2⟩ hge h5⟩ (by show _ < _; simp; omega) ⟨[.row st 2 [[.int .i64 s.1, .int .i64 s.2]]], ?_⟩ ?_
              · have := spl_setLast A x (x.1, max x.2 s.2)
                simp only [spG] at this
                rw [this]; rfl
              · simp [WL, leG_self, leG_any]
        · have d0 : ((k : Int) < (ys.length : Int)) = False := eq_false (by omega)
          have hk' : k = ys.length := by omega
          rw [hk', List.take_length] at hM
          simp +contextual -implicitDefEqProofs (maxSteps := 2000000) (disch := omega) only [drawC, ↓lenV, binV, ↓unV, optV, ↓loadV, ↓storeV, ↓fieldAddrV, ↓indexAddrV, ↓allocV, ↓buildSliceV, ↓sliceV, ↓appendV, ↓srcV, ↓minV, bound, cutTag, hiTag, fillE, GVal.cells, grp, GVal.ofConst, ↓resV, resG, List.map, List.headD, List.take, List.drop, ↓reduceIte, Nat.reduceEqDiff, Nat.reduceAdd, Nat.reduceSub, Nat.reduceLeDiff, reduceCtorEq, implies_true, ne_eq, ↓asrcV, Tag.cap, List.replicate, allSolid, GVal.solid, Nat.reduceBEq, Nat.reduceMul, Nat.reduceLT, List.length_map, List.length_range, splice, vcA, ↓vcB, vcC, fbFf, e58, spl_length, d0]
          have eR : Sp.nf l = out := Sp.nf_eq hM.1 fun n => by rw [hM.2.1, hyh]
          rw [eR]
          exact ⟨v, w, ys, rfl, rfl⟩

theorem sMake (l : List Sp.S) (t : Tag) (hl : l.length ≤ 4398046511104) (ho : Sp.Ok l) : GPure Try.prog 58 [.slice (spl l) t] (.slice (spl (Sp.nf l)) .none) :=
  GCalls.toPure ((cMake l t hl ho).mono fun g O' ⟨st0, st1, ys, e1, e2⟩ => ⟨4, .slice (spl (Sp.nf l)) .none, by
    rw [e1, e2]; exact frz_own rfl (spl_length _).symm (frz_spl _ 2 _), by rw [leA_slice]⟩)
end Gv.Try
/- Contracts: spans.Union, Both, rest, Minus. -/
set_option linter.unusedVariables false
set_option linter.unusedSimpArgs false
set_option maxRecDepth 20000
set_option maxHeartbeats 4000000
namespace Gv.Try
open Go Gv Go.Proofs

theorem sGrow (n : Nat) (hn : n ≤ 4398046511104) : GCalls Try.prog 88 [.slice [] .nil, .int .i64 n] [] (fun g O' => (n = 0 ∧ g = .slice [] .nil ∧ O' = []) ∨ ∃ st xs, g = .own 0 st 0 0 ∧ O' = [.row st 2 xs]) := by
  refine h88.calls mixS (by simp) ?_
  simp only [gstart, s88, List.cons_append, List.nil_append, List.length_cons, List.length_nil, Nat.reduceAdd, Nat.reduceSub, List.replicate_succ, List.replicate_zero]
  have d0 : ((n : Int) < 0) = False := eq_false (by omega)
  simp +contextual -implicitDefEqProofs (maxSteps := 2000000) (disch := omega) only [↓lenV, binV, optV, ↓sliceV, ↓ifaceV, ↓appendV, ↓srcV, bound, cutTag, hiTag, GVal.cells, grp, GVal.ofConst, ↓resV, resG, List.map, List.headD, List.take, List.drop, ↓reduceIte, Nat.reduceEqDiff, Nat.reduceAdd, Nat.reduceSub, Nat.reduceLeDiff, reduceCtorEq, implies_true, ne_eq, ↓asrcV, ↓capV, Tag.cap, List.replicate, allSolid, GVal.solid, Nat.reduceBEq, Nat.reduceMul, Nat.reduceLT, List.length_map, List.length_range, splice, vcA, ↓vcB, vcC, fbFf, e88, d0, false_imp_iff, true_and]
  refine ⟨fun h => ⟨by omega, by omega, by omega, by omega, by omega, by omega, fun y hy => by rw [(List.mem_replicate.1 hy).2]; rfl, by simp; omega, by simp; omega, .inr trivial, fun st => ⟨by omega, by omega, by omega, .inr ⟨st, _, rfl, rfl⟩⟩⟩, fun h => .inl (by omega)⟩

theorem sConcat (a b : List Sp.S) (ta tb tt : Tag) (hl : a.length + b.length ≤ 4398046511104) : GPure Try.prog 65 [.slice [[.slice (spl a) ta], [.slice (spl b) tb]] tt] (.slice (spl (a ++ b)) .none) := by
  refine h65.pureF mixS (by simp) ?_
  simp only [gstart, s65, List.cons_append, List.nil_append, List.length_cons, List.length_nil, Nat.reduceAdd, Nat.reduceSub, List.replicate_succ, List.replicate_zero]
  simp +contextual -implicitDefEqProofs (maxSteps := 2000000) (disch := omega) only [↓lenV, binV, optV, ↓loadV, ↓indexAddrV, ↓sliceV, ↓ifaceV, ↓appendV, ↓srcV, bound, cutTag, hiTag, GVal.cells, grp, GVal.ofConst, ↓resV, resG, List.map, List.headD, List.take, List.drop, ↓reduceIte, Nat.reduceEqDiff, Nat.reduceAdd, Nat.reduceSub, Nat.reduceLeDiff, reduceCtorEq, implies_true, ne_eq, ↓asrcV, Tag.cap, List.replicate, allSolid, GVal.solid, Nat.reduceBEq, Nat.reduceMul, Nat.reduceLT, List.length_map, List.length_range, splice, vcA, ↓vcB, vcC, fbFf, e65]
  refine vcSLoop_by (ι := { p : Nat × Nat // (p.1 = 0 ∧ p.2 = 0) ∨ (p.1 = 1 ∧ p.2 = a.length) ∨ (p.1 = 2 ∧ p.2 = a.length + b.length) }) (fun p => ⟨[.slice [[.slice (spl a) ta], [.slice (spl b) tb]] tt, .any, .any, .int .i64 (p.1.2 : Nat), .any, .any, .any, .any, .any, .slice [[.slice (spl a) ta], [.slice (spl b) tb]] tt, .int .i64 2, .int .i64 (p.1.1 : Nat)] ++ List.replicate 24 .any, []⟩) (fun p => 2 - p.1.1) ?_ ?_
  · exact Into.first ⟨(0, 0), .inl ⟨rfl, rfl⟩⟩ ⟨[], by simp⟩ (by simp [WL, leG_self, leG_any])
  · rintro ⟨⟨k, n⟩, hk⟩
    simp only [] at hk
    rcases hk with ⟨rfl, rfl⟩ | ⟨rfl, rfl⟩ | ⟨rfl, rfl⟩
    · have d1 : ((0 : Int) + a.length < 0) = False := eq_false (by omega)
      simp +contextual -implicitDefEqProofs (maxSteps := 2000000) (disch := omega) only [↓lenV, binV, optV, ↓loadV, ↓indexAddrV, ↓sliceV, ↓ifaceV, ↓appendV, ↓srcV, bound, cutTag, hiTag, GVal.cells, grp, GVal.ofConst, ↓resV, resG, List.map, List.headD, List.take, List.drop, ↓reduceIte, Nat.reduceEqDiff, Nat.reduceAdd, Nat.reduceSub, Nat.reduceLeDiff, reduceCtorEq, implies_true, ne_eq, ↓asrcV, Tag.cap, List.replicate, allSolid, GVal.solid, Nat.reduceBEq, Nat.reduceMul, Nat.reduceLT, List.length_map, List.length_range, splice, vcA, ↓vcB, vcC, fbFf, e65, spl_length, Int.reduceLT, Int.reduceLE, Int.reduceToNat, true_imp_iff, false_imp_iff, d1]
      exact Into.at ⟨(1, a.length), .inr (.inl ⟨rfl, rfl⟩)⟩ (by show _ < _; simp) ⟨[], by simp⟩ (by simp [WL, leG_self, leG_any, leG_int])
    · have d1 : ((a.length : Int) + b.length < 0) = False := eq_false (by omega)
      simp +contextual -implicitDefEqProofs (maxSteps := 2000000) (disch := omega) only [↓lenV, binV, optV, ↓loadV, ↓indexAddrV, ↓sliceV, ↓ifaceV, ↓appendV, ↓srcV, bound, cutTag, hiTag, GVal.cells, grp, GVal.ofConst, ↓resV, resG, List.map, List.headD, List.take, List.drop, ↓reduceIte, Nat.reduceEqDiff, Nat.reduceAdd, Nat.reduceSub, Nat.reduceLeDiff, reduceCtorEq, implies_true, ne_eq, ↓asrcV, Tag.cap, List.replicate, allSolid, GVal.solid, Nat.reduceBEq, Nat.reduceMul, Nat.reduceLT, List.length_map, List.length_range, splice, vcA, ↓vcB, vcC, fbFf, e65, spl_length, Int.reduceLT, Int.reduceLE, Int.reduceToNat, true_imp_iff, false_imp_iff, d1]
      exact Into.at ⟨(2, a.length + b.length), .inr (.inr ⟨rfl, rfl⟩)⟩ (by show _ < _; simp) ⟨[], by simp⟩ (by simp [WL, leG_self, leG_any, leG_int])
    · simp +contextual -implicitDefEqProofs (maxSteps := 2000000) (disch := omega) only [↓lenV, binV, optV, ↓loadV, ↓indexAddrV, ↓sliceV, ↓ifaceV, ↓appendV, ↓srcV, bound, cutTag, hiTag, GVal.cells, grp, GVal.ofConst, ↓resV, resG, List.map, List.headD, List.take, List.drop, ↓reduceIte, Nat.reduceEqDiff, Nat.reduceAdd, Nat.reduceSub, Nat.reduceLeDiff, reduceCtorEq, implies_true, ne_eq, ↓asrcV, Tag.cap, List.replicate, allSolid, GVal.solid, Nat.reduceBEq, Nat.reduceMul, Nat.reduceLT, List.length_map, List.length_range, splice, vcA, ↓vcB, vcC, fbFf, e65, spl_length, Int.reduceLT, Int.reduceLE, Int.reduceToNat, true_imp_iff, false_imp_iff]
      have hg := sGrow (a.length + b.length) hl
      rw [Int.natCast_add] at hg
      refine hg.mono ?_
      clear hg
      rintro g O' hg
      simp +contextual -implicitDefEqProofs (maxSteps := 2000000) (disch := omega) only [↓lenV, binV, optV, ↓loadV, ↓indexAddrV, ↓sliceV, ↓ifaceV, ↓appendV, ↓srcV, bound, cutTag, hiTag, GVal.cells, grp, GVal.ofConst, ↓resV, resG, List.map, List.headD, List.take, List.drop, ↓reduceIte, Nat.reduceEqDiff, Nat.reduceAdd, Nat.reduceSub, Nat.reduceLeDiff, reduceCtorEq, implies_true, ne_eq, ↓asrcV, Tag.cap, List.replicate, allSolid, GVal.solid, Nat.reduceBEq, Nat.reduceMul, Nat.reduceLT, List.length_map, List.length_range, splice, vcA, ↓vcB, vcC, fbFf, e65]
      refine vcSLoop_by (ι := { p : Nat × List Sp.S × Nat × List (List GVal) // (p.1 = 0 ∧ p.2.1 = []) ∨ (p.1 = 1 ∧ p.2.1 = a ∧ p.2.2.2 = spl a) ∨ (p.1 = 2 ∧ p.2.1 = a ++ b ∧ p.2.2.2 = spl (a ++ b)) }) (fun p => ⟨[.any, .any, .any, .any, .any, .any, .own 0 p.1.2.2.1 0 p.1.2.1.length] ++ List.replicate 18 .any ++ [.slice [[.slice (spl a) ta], [.slice (spl b) tb]] tt, .int .i64 2, .int .i64 (p.1.1 : Nat)] ++ List.replicate 8 .any, [.row p.1.2.2.1 2 p.1.2.2.2]⟩) (fun p => 2 - p.1.1) ?_ ?_
      · rcases hg with ⟨_, rfl, rfl⟩ | ⟨st, xs, rfl, rfl⟩
        · refine Into.row 6 2 rfl rfl ?_
          simp +contextual -implicitDefEqProofs (maxSteps := 2000000) (disch := omega) only [↓lenV, binV, optV, ↓loadV, ↓indexAddrV, ↓sliceV, ↓ifaceV, ↓appendV, ↓srcV, bound, cutTag, hiTag, GVal.cells, grp, GVal.ofConst, ↓resV, resG, List.map, List.headD, List.take, List.drop, ↓reduceIte, Nat.reduceEqDiff, Nat.reduceAdd, Nat.reduceSub, Nat.reduceLeDiff, reduceCtorEq, implies_true, ne_eq, ↓asrcV, Tag.cap, List.replicate, allSolid, GVal.solid, Nat.reduceBEq, Nat.reduceMul, Nat.reduceLT, List.length_map, List.length_range, splice, vcA, ↓vcB, vcC, fbFf, e65]
          intro t0
          exact Into.first ⟨(0, [], t0, []), .inl ⟨rfl, rfl⟩⟩ ⟨[], by simp⟩ (by simp [WL, leG_self, leG_any])
        · exact Into.first ⟨(0, [], st, xs), .inl ⟨rfl, rfl⟩⟩ ⟨[], by simp⟩ (by simp [WL, leG_self, leG_any])
      · rintro ⟨⟨k, L, v, xs⟩, hk⟩
        simp only [] at hk
        rcases hk with ⟨rfl, rfl⟩ | ⟨rfl, rfl, rfl⟩ | ⟨rfl, rfl, rfl⟩
        · simp +contextual -implicitDefEqProofs (maxSteps := 2000000) (disch := omega) only [↓lenV, binV, optV, ↓loadV, ↓indexAddrV, ↓sliceV, ↓ifaceV, ↓appendV, ↓srcV, bound, cutTag, hiTag, GVal.cells, grp, GVal.ofConst, ↓resV, resG, List.map, List.headD, List.take, List.drop, ↓reduceIte, Nat.reduceEqDiff, Nat.reduceAdd, Nat.reduceSub, Nat.reduceLeDiff, reduceCtorEq, implies_true, ne_eq, ↓asrcV, Tag.cap, List.replicate, allSolid, GVal.solid, Nat.reduceBEq, Nat.reduceMul, Nat.reduceLT, List.length_map, List.length_range, splice, vcA, ↓vcB, vcC, fbFf, e65, spl_length, Int.reduceLT, Int.reduceLE, Int.reduceToNat, true_imp_iff, false_imp_iff, all_spl]
          exact ⟨by omega, by omega, by omega, fun st => Into.at ⟨(1, a, st, spl a), .inr (.inl ⟨rfl, rfl, rfl⟩)⟩ (by show _ < _; simp) ⟨[], by simp⟩ (by simp [WL, leG_self, leG_any, leG_int])⟩
        · simp +contextual -implicitDefEqProofs (maxSteps := 2000000) (disch := omega) only [↓lenV, binV, optV, ↓loadV, ↓indexAddrV, ↓sliceV, ↓ifaceV, ↓appendV, ↓srcV, bound, cutTag, hiTag, GVal.cells, grp, GVal.ofConst, ↓resV, resG, List.map, List.headD, List.take, List.drop, ↓reduceIte, Nat.reduceEqDiff, Nat.reduceAdd, Nat.reduceSub, Nat.reduceLeDiff, reduceCtorEq, implies_true, ne_eq, ↓asrcV, Tag.cap, List.replicate, allSolid, GVal.solid, Nat.reduceBEq, Nat.reduceMul, Nat.reduceLT, List.length_map, List.length_range, splice, vcA, ↓vcB, vcC, fbFf, e65, spl_length, Int.reduceLT, Int.reduceLE, Int.reduceToNat, true_imp_iff, false_imp_iff, all_spl]
          exact ⟨by omega, by omega, by omega, fun st => Into.at ⟨(2, L ++ b, st, spl (L ++ b)), .inr (.inr ⟨rfl, rfl, rfl⟩)⟩ (by show _ < _; simp) ⟨[], by rw [List.take_of_length_le (by rw [spl_length]; exact Nat.le_refl _), spl_append]; simp⟩ (by simp [WL, leG_self, leG_any, leG_int])⟩
        · simp +contextual -implicitDefEqProofs (maxSteps := 2000000) (disch := omega) only [↓lenV, binV, optV, ↓loadV, ↓indexAddrV, ↓sliceV, ↓ifaceV, ↓appendV, ↓srcV, bound, cutTag, hiTag, GVal.cells, grp, GVal.ofConst, ↓resV, resG, List.map, List.headD, List.take, List.drop, ↓reduceIte, Nat.reduceEqDiff, Nat.reduceAdd, Nat.reduceSub, Nat.reduceLeDiff, reduceCtorEq, implies_true, ne_eq, ↓asrcV, Tag.cap, List.replicate, allSolid, GVal.solid, Nat.reduceBEq, Nat.reduceMul, Nat.reduceLT, List.length_map, List.length_range, splice, vcA, ↓vcB, vcC, fbFf, e65, spl_length, Int.reduceLT, Int.reduceLE, Int.reduceToNat, true_imp_iff, false_imp_iff]
          exact ⟨4, .slice (spl (a ++ b)) .none, frz_own rfl (spl_length _).symm (frz_spl _ 2 _), by rw [leA_slice]⟩

theorem sBoth (a b : List Sp.S) (ta tb : Tag) (hl : a.length + b.length ≤ 4398046511104) (ha : Sp.Ok a) (hb : Sp.Ok b) : GPure Try.prog 59 [.slice (spl a) ta, .slice (spl b) tb] (.slice (spl (Sp.bothS a b)) .none) := by
  refine h59.pure mixS (by simp) ?_
  simp only [gstart, s59, List.cons_append, List.nil_append, List.length_cons, List.length_nil, Nat.reduceAdd, Nat.reduceSub, List.replicate_succ, List.replicate_zero]
  simp +contextual -implicitDefEqProofs (maxSteps := 2000000) (disch := omega) only [drawC, ↓lenV, binV, optV, ↓loadV, ↓storeV, ↓fieldAddrV, ↓indexAddrV, ↓allocV, ↓buildV, ↓buildSliceV, ↓sliceV, ↓appendV, ↓srcV, ↓minV, bound, cutTag, hiTag, fillG, fillE, place, GVal.cells, grp, GVal.ofConst, ↓resV, resG, List.map, List.headD, List.take, List.drop, ↓reduceIte, Nat.reduceEqDiff, Nat.reduceAdd, Nat.reduceSub, Nat.reduceLeDiff, reduceCtorEq, implies_true, ne_eq, ↓asrcV, Tag.cap, List.replicate, allSolid, GVal.solid, Nat.reduceBEq, Nat.reduceMul, Nat.reduceLT, List.length_map, List.length_range, splice, vcA, ↓vcB, vcC, fbFf, e59]
  refine (sMake a ta (by omega) ha).then ?_ (by rfl)
  simp +contextual -implicitDefEqProofs (maxSteps := 2000000) (disch := omega) only [drawC, ↓lenV, binV, optV, ↓loadV, ↓storeV, ↓fieldAddrV, ↓indexAddrV, ↓allocV, ↓buildV, ↓buildSliceV, ↓sliceV, ↓appendV, ↓srcV, ↓minV, bound, cutTag, hiTag, fillG, fillE, place, GVal.cells, grp, GVal.ofConst, ↓resV, resG, List.map, List.headD, List.take, List.drop, ↓reduceIte, Nat.reduceEqDiff, Nat.reduceAdd, Nat.reduceSub, Nat.reduceLeDiff, reduceCtorEq, implies_true, ne_eq, ↓asrcV, Tag.cap, List.replicate, allSolid, GVal.solid, Nat.reduceBEq, Nat.reduceMul, Nat.reduceLT, List.length_map, List.length_range, splice, vcA, ↓vcB, vcC, fbFf, e59]
  refine (sMake b tb (by omega) hb).then ?_ (by rfl)
  simp +contextual -implicitDefEqProofs (maxSteps := 2000000) (disch := omega) only [drawC, ↓lenV, binV, optV, ↓loadV, ↓storeV, ↓fieldAddrV, ↓indexAddrV, ↓allocV, ↓buildV, ↓buildSliceV, ↓sliceV, ↓appendV, ↓srcV, ↓minV, bound, cutTag, hiTag, fillG, fillE, place, GVal.cells, grp, GVal.ofConst, ↓resV, resG, List.map, List.headD, List.take, List.drop, ↓reduceIte, Nat.reduceEqDiff, Nat.reduceAdd, Nat.reduceSub, Nat.reduceLeDiff, reduceCtorEq, implies_true, ne_eq, ↓asrcV, Tag.cap, List.replicate, allSolid, GVal.solid, Nat.reduceBEq, Nat.reduceMul, Nat.reduceLT, List.length_map, List.length_range, splice, vcA, ↓vcB, vcC, fbFf, e59, spl_length]
  have hA := Sp.nf_len a
  have hB := Sp.nf_len b
  refine vcSLoop_by (ι := { p : List Sp.S × List Sp.S × List Sp.S × Nat // p.2.2.1 ++ Sp.both p.1 p.2.1 = Sp.bothS a b ∧ Sp.Ok p.1 ∧ Sp.Ok p.2.1 ∧ p.2.2.1.length + p.1.length + p.2.1.length ≤ a.length + b.length }) (fun p => ⟨[.slice (spl p.1.1) .none, .slice (spl p.1.2.1) .none, .any, .any, .any, .slice (spl p.1.2.2.1) (.tok 0 p.1.2.2.2)] ++ List.replicate 55 .any, [.tok p.1.2.2.2 2]⟩) (fun p => p.1.1.length + p.1.2.1.length) ?_ ?_
  · refine Into.tok 5 2 [] rfl rfl ?_
    simp +contextual -implicitDefEqProofs (maxSteps := 2000000) (disch := omega) only [drawC, ↓lenV, binV, optV, ↓loadV, ↓storeV, ↓fieldAddrV, ↓indexAddrV, ↓allocV, ↓buildV, ↓buildSliceV, ↓sliceV, ↓appendV, ↓srcV, ↓minV, bound, cutTag, hiTag, fillG, fillE, place, GVal.cells, grp, GVal.ofConst, ↓resV, resG, List.map, List.headD, List.take, List.drop, ↓reduceIte, Nat.reduceEqDiff, Nat.reduceAdd, Nat.reduceSub, Nat.reduceLeDiff, reduceCtorEq, implies_true, ne_eq, ↓asrcV, Tag.cap, List.replicate, allSolid, GVal.solid, Nat.reduceBEq, Nat.reduceMul, Nat.reduceLT, List.length_map, List.length_range, splice, vcA, ↓vcB, vcC, fbFf, e59]
    intro t0
    exact Into.first ⟨(Sp.nf a, Sp.nf b, [], t0), rfl, Sp.nf_ok ha, Sp.nf_ok hb, by simp <;> omega⟩ ⟨[], by simp⟩ (by simp [WL, leG_self, leG_any, spl_nil])
  · rintro ⟨⟨A, B, out, v⟩, he, hoA, hoB, hle⟩
    simp only [] at he hoA hoB hle
    cases A with
    | nil =>
      simp +contextual -implicitDefEqProofs (maxSteps := 2000000) (disch := omega) only [drawC, ↓lenV, binV, optV, ↓loadV, ↓storeV, ↓fieldAddrV, ↓indexAddrV, ↓allocV, ↓buildV, ↓buildSliceV, ↓sliceV, ↓appendV, ↓srcV, ↓minV, bound, cutTag, hiTag, fillG, fillE, place, GVal.cells, grp, GVal.ofConst, ↓resV, resG, List.map, List.headD, List.take, List.drop, ↓reduceIte, Nat.reduceEqDiff, Nat.reduceAdd, Nat.reduceSub, Nat.reduceLeDiff, reduceCtorEq, implies_true, ne_eq, ↓asrcV, Tag.cap, List.replicate, allSolid, GVal.solid, Nat.reduceBEq, Nat.reduceMul, Nat.reduceLT, List.length_map, List.length_range, splice, vcA, ↓vcB, vcC, fbFf, e59, spl_length, spl_nil]
      rw [Sp.both_nil, List.append_nil] at he
      exact ⟨fun h => by omega, fun _ => by rw [he]⟩
    | cons x A =>
      cases B with
      | nil =>
        simp +contextual -implicitDefEqProofs (maxSteps := 2000000) (disch := omega) only [drawC, ↓lenV, binV, optV, ↓loadV, ↓storeV, ↓fieldAddrV, ↓indexAddrV, ↓allocV, ↓buildV, ↓buildSliceV, ↓sliceV, ↓appendV, ↓srcV, ↓minV, bound, cutTag, hiTag, fillG, fillE, place, GVal.cells, grp, GVal.ofConst, ↓resV, resG, List.map, List.headD, List.take, List.drop, ↓reduceIte, Nat.reduceEqDiff, Nat.reduceAdd, Nat.reduceSub, Nat.reduceLeDiff, reduceCtorEq, implies_true, ne_eq, ↓asrcV, Tag.cap, List.replicate, allSolid, GVal.solid, Nat.reduceBEq, Nat.reduceMul, Nat.reduceLT, List.length_map, List.length_range, splice, vcA, ↓vcB, vcC, fbFf, e59, spl_length, spl_nil, spl_cons]
        rw [Sp.both_nil', List.append_nil] at he
        exact ⟨fun _ => ⟨fun h => by omega, fun _ => by rw [he]⟩, fun h => by omega⟩
      | cons y B =>
        have hx := hoA x (by simp)
        have hy := hoB y (by simp)
        have tA : ((A.length : Int) + 1).toNat = A.length + 1 := by omega
        have tB : ((B.length : Int) + 1).toNat = B.length + 1 := by omega
        have kA : (spl A).take A.length = spl A := List.take_of_length_le (by rw [spl_length]; exact Nat.le_refl _)
        have kB : (spl B).take B.length = spl B := List.take_of_length_le (by rw [spl_length]; exact Nat.le_refl _)
        simp +contextual -implicitDefEqProofs (maxSteps := 2000000) (disch := omega) only [drawC, ↓lenV, binV, optV, ↓loadV, ↓storeV, ↓fieldAddrV, ↓indexAddrV, ↓allocV, ↓buildV, ↓buildSliceV, ↓sliceV, ↓appendV, ↓srcV, ↓minV, bound, cutTag, hiTag, fillG, fillE, place, GVal.cells, grp, GVal.ofConst, ↓resV, resG, List.map, List.headD, List.take, List.drop, ↓reduceIte, Nat.reduceEqDiff, Nat.reduceAdd, Nat.reduceSub, Nat.reduceLeDiff, reduceCtorEq, implies_true, ne_eq, ↓asrcV, Tag.cap, List.replicate, allSolid, GVal.solid, Nat.reduceBEq, Nat.reduceMul, Nat.reduceLT, List.length_map, List.length_range, splice, vcA, ↓vcB, vcC, fbFf, e59, spl_length, spl_nil, spl_cons, spG, all_spl, Int.reduceToNat, tA, tB, kA, kB]
        rw [Sp.both_cons] at he
        simp only [List.length_cons] at hle
        refine ⟨fun _ => ⟨fun _ => ⟨by omega, by omega, by omega, by omega, fun st => ⟨⟨_, rfl⟩, fun h1 => ⟨by omega, by omega, fun st_1 => ⟨by omega, by omega, fun h2 => ⟨by omega, by omega, by omega, ?_⟩, fun h2 => ⟨by omega, by omega, by omega, ?_⟩⟩⟩, fun h1 => ⟨by omega, by omega, fun h2 => ⟨by omega, by omega, by omega, ?_⟩, fun h2 => ⟨by omega, by omega, by omega, ?_⟩⟩⟩⟩, fun h => by omega⟩, fun h => by omega⟩
        · rw [if_pos h1, if_pos h2] at he
          refine Into.at ⟨(A, y :: B, out ++ [(max x.1 y.1, min x.2 y.2)], st_1), by rw [← he]; simp, fun s hs => hoA s (by simp [hs]), hoB, by simp <;> omega⟩ (by show _ < _; simp <;> omega) ⟨[.row st 2 [[.int .i64 (max x.1 y.1), .int .i64 (min x.2 y.2)]]], by simp⟩ ?_
          simp [WL, leG_self, leG_any, spl_append, spl_cons, spl_nil, spG]
        · rw [if_pos h1, if_neg (by omega)] at he
          refine Into.at ⟨(x :: A, B, out ++ [(max x.1 y.1, min x.2 y.2)], st_1), by rw [← he]; simp, hoA, fun s hs => hoB s (by simp [hs]), by simp <;> omega⟩ (by show _ < _; simp) ⟨[.row st 2 [[.int .i64 (max x.1 y.1), .int .i64 (min x.2 y.2)]]], by simp⟩ ?_
          simp [WL, leG_self, leG_any, spl_append, spl_cons, spl_nil, spG]
        · rw [if_neg (by omega), if_pos h2] at he
          refine Into.at ⟨(A, y :: B, out, v), by rw [← he, List.nil_append], fun s hs => hoA s (by simp [hs]), hoB, by simp <;> omega⟩ (by show _ < _; simp <;> omega) ⟨[.row st 2 [[.int .i64 (max x.1 y.1), .int .i64 (min x.2 y.2)]]], by simp⟩ ?_
          simp [WL, leG_self, leG_any, spl_append, spl_cons, spl_nil, spG]
        · rw [if_neg (by omega), if_neg (by omega)] at he
          refine Into.at ⟨(x :: A, B, out, v), by rw [← he, List.nil_append], hoA, fun s hs => hoB s (by simp [hs]), by simp <;> omega⟩ (by show _ < _; simp) ⟨[.row st 2 [[.int .i64 (max x.1 y.1), .int .i64 (min x.2 y.2)]]], by simp⟩ ?_
          simp [WL, leG_self, leG_any, spl_append, spl_cons, spl_nil, spG]

theorem sRest (l : List Sp.S) (t : Tag) (hl : l.length ≤ 4398046511104) (ho : Sp.Ok l) : GPure Try.prog 66 [.slice (spl l) t] (.slice (spl (Sp.rest (Sp.nf l))) .none) := by
  refine h66.pure mixS (by simp) ?_
  simp only [gstart, s66, List.cons_append, List.nil_append, List.length_cons, List.length_nil, Nat.reduceAdd, Nat.reduceSub, List.replicate_succ, List.replicate_zero]
  simp +contextual -implicitDefEqProofs (maxSteps := 2000000) (disch := omega) only [↓lenV, binV, optV, ↓loadV, ↓storeV, ↓fieldAddrV, ↓indexAddrV, ↓allocV, ↓buildV, ↓buildSliceV, ↓sliceV, ↓appendV, ↓srcV, bound, cutTag, hiTag, fillG, fillE, place, GVal.cells, grp, GVal.ofConst, ↓resV, resG, List.map, List.headD, List.take, List.drop, ↓reduceIte, Nat.reduceEqDiff, Nat.reduceAdd, Nat.reduceSub, Nat.reduceLeDiff, reduceCtorEq, implies_true, ne_eq, ↓asrcV, aggV, Tag.cap, List.replicate, allSolid, GVal.solid, Nat.reduceBEq, Nat.reduceMul, Nat.reduceLT, List.length_map, List.length_range, splice, vcA, ↓vcB, vcC, fbFf, e66]
  refine (sMake l t (by omega) ho).then ?_ (by rfl)
  have hN := Sp.nf_len l
  have hoN := Sp.nf_ok ho
  have hrt := Sp.nf_rt l
  generalize Sp.nf l = N at *
  simp +contextual -implicitDefEqProofs (maxSteps := 2000000) (disch := omega) only [↓lenV, binV, optV, ↓loadV, ↓storeV, ↓fieldAddrV, ↓indexAddrV, ↓allocV, ↓buildV, ↓buildSliceV, ↓sliceV, ↓appendV, ↓srcV, bound, cutTag, hiTag, fillG, fillE, place, GVal.cells, grp, GVal.ofConst, ↓resV, resG, List.map, List.headD, List.take, List.drop, ↓reduceIte, Nat.reduceEqDiff, Nat.reduceAdd, Nat.reduceSub, Nat.reduceLeDiff, reduceCtorEq, implies_true, ne_eq, ↓asrcV, aggV, Tag.cap, List.replicate, allSolid, GVal.solid, Nat.reduceBEq, Nat.reduceMul, Nat.reduceLT, List.length_map, List.length_range, splice, vcA, ↓vcB, vcC, fbFf, e66, spl_length]
  refine vcSLoop_by (ι := { p : Nat × Nat × List Sp.S × Int // p.1 ≤ N.length ∧ p.2.2.1 ++ Sp.restF p.2.2.2 (N.drop p.1) = Sp.rest N ∧ 0 ≤ p.2.2.2 ∧ p.2.2.2 ≤ 9223372036854775807 ∧ p.2.2.1.length ≤ p.1 }) (fun p => ⟨[.any, .any, .any, .slice (spl p.1.2.2.1) (.tok 0 p.1.2.1), .int .i64 p.1.2.2.2, .any, .any, .any, .slice (spl N) .none, .int .i64 N.length, .int .i64 (p.1.1 : Nat)] ++ List.replicate 28 .any, [.tok p.1.2.1 2]⟩) (fun p => N.length - p.1.1) ?_ ?_
  · refine Into.tok 3 2 [] rfl rfl ?_
    simp +contextual -implicitDefEqProofs (maxSteps := 2000000) (disch := omega) only [↓lenV, binV, optV, ↓loadV, ↓storeV, ↓fieldAddrV, ↓indexAddrV, ↓allocV, ↓buildV, ↓buildSliceV, ↓sliceV, ↓appendV, ↓srcV, bound, cutTag, hiTag, fillG, fillE, place, GVal.cells, grp, GVal.ofConst, ↓resV, resG, List.map, List.headD, List.take, List.drop, ↓reduceIte, Nat.reduceEqDiff, Nat.reduceAdd, Nat.reduceSub, Nat.reduceLeDiff, reduceCtorEq, implies_true, ne_eq, ↓asrcV, aggV, Tag.cap, List.replicate, allSolid, GVal.solid, Nat.reduceBEq, Nat.reduceMul, Nat.reduceLT, List.length_map, List.length_range, splice, vcA, ↓vcB, vcC, fbFf, e66]
    intro t0
    exact Into.first ⟨(0, t0, [], 0), by omega, by simp [Sp.rest], by simp, by simp, by simp⟩ ⟨[], by simp⟩ (by simp [WL, leG_self, leG_any, spl_nil])
  · rintro ⟨⟨k, v, out, low⟩, hk, he, h0, h1, hol⟩
    simp only [] at hk he h0 h1 hol
    by_cases h : k < N.length
    · have d0 : ((k : Int) < (N.length : Int)) = True := eq_true (by omega)
      have eS := spl_at N k h
      have hs := hoN.at k
      have hs2 := hrt.at k h
      rw [drop_getD h] at he
      unfold Sp.restF at he
      generalize N.getD k (0, 0) = s at *
      simp +contextual -implicitDefEqProofs (maxSteps := 2000000) (disch := omega) only [↓lenV, binV, optV, ↓loadV, ↓storeV, ↓fieldAddrV, ↓indexAddrV, ↓allocV, ↓buildV, ↓buildSliceV, ↓sliceV, ↓appendV, ↓srcV, bound, cutTag, hiTag, fillG, fillE, place, GVal.cells, grp, GVal.ofConst, ↓resV, resG, List.map, List.headD, List.take, List.drop, ↓reduceIte, Nat.reduceEqDiff, Nat.reduceAdd, Nat.reduceSub, Nat.reduceLeDiff, reduceCtorEq, implies_true, ne_eq, ↓asrcV, aggV, Tag.cap, List.replicate, allSolid, GVal.solid, Nat.reduceBEq, Nat.reduceMul, Nat.reduceLT, List.length_map, List.length_range, splice, vcA, ↓vcB, vcC, fbFf, e66, spl_length, d0, eS, spG, all_spl]
      refine ⟨by omega, fun st => ⟨fun h2 => ⟨by omega, by omega, fun st_1 => ⟨fun h3 => ?_, fun h3 => ?_⟩⟩, fun h2 => ⟨fun h3 => ?_, fun h3 => ?_⟩⟩⟩
      · rw [if_pos h2, if_pos h3] at he
        rw [← he, spl_append, List.append_nil, spl_one]; rfl
      · rw [if_pos h2, if_neg h3] at he
        refine Into.at ⟨(k + 1, st_1, out ++ [(low, s.1 - 1)], s.2 + 1), by show k + 1 ≤ _; omega, by rw [← he]; simp, by show 0 ≤ s.2 + 1; omega, by show s.2 + 1 ≤ _; omega, by simp <;> omega⟩ (by show _ < _; simp; omega) ⟨[.row st 2 [[.int .i64 s.1, .int .i64 s.2]]], by simp⟩ ?_
        simp [WL, leG_self, leG_any, spl_append, spl_cons, spl_nil, spG]
      · rw [if_neg (by omega), if_pos h3] at he
        rw [← he]; simp
      · rw [if_neg (by omega), if_neg h3, List.nil_append] at he
        refine Into.at ⟨(k + 1, v, out, s.2 + 1), by show k + 1 ≤ _; omega, he, by show 0 ≤ s.2 + 1; omega, by show s.2 + 1 ≤ _; omega, by show out.length ≤ k + 1; omega⟩ (by show _ < _; simp; omega) ⟨[.row st 2 [[.int .i64 s.1, .int .i64 s.2]]], by simp⟩ ?_
        simp [WL, leG_self, leG_any, spl_append, spl_cons, spl_nil, spG]
    · have d0 : ((k : Int) < (N.length : Int)) = False := eq_false (by omega)
      simp +contextual -implicitDefEqProofs (maxSteps := 2000000) (disch := omega) only [↓lenV, binV, optV, ↓loadV, ↓storeV, ↓fieldAddrV, ↓indexAddrV, ↓allocV, ↓buildV, ↓buildSliceV, ↓sliceV, ↓appendV, ↓srcV, bound, cutTag, hiTag, fillG, fillE, place, GVal.cells, grp, GVal.ofConst, ↓resV, resG, List.map, List.headD, List.take, List.drop, ↓reduceIte, Nat.reduceEqDiff, Nat.reduceAdd, Nat.reduceSub, Nat.reduceLeDiff, reduceCtorEq, implies_true, ne_eq, ↓asrcV, aggV, Tag.cap, List.replicate, allSolid, GVal.solid, Nat.reduceBEq, Nat.reduceMul, Nat.reduceLT, List.length_map, List.length_range, splice, vcA, ↓vcB, vcC, fbFf, e66, spl_length, d0, all_spl, false_imp_iff, true_and]
      rw [List.drop_of_length_le (by omega)] at he
      exact ⟨by omega, by omega, fun _ => by rw [← he, spl_append]; rfl⟩

theorem sUnion (a b : List Sp.S) (ta tb : Tag) (hl : a.length + b.length ≤ 4398046511104) (ha : Sp.Ok a) (hb : Sp.Ok b) : GPure Try.prog 39 [.slice (spl a) ta, .slice (spl b) tb] (.slice (spl (Sp.uni a b)) .none) := by
  refine h39.pure mixS (by simp) ?_
  simp only [gstart, s39, List.cons_append, List.nil_append, List.length_cons, List.length_nil, Nat.reduceAdd, Nat.reduceSub, List.replicate_succ, List.replicate_zero]
  simp +contextual -implicitDefEqProofs (maxSteps := 2000000) (disch := omega) only [optV, ↓buildSliceV, ↓sliceV, bound, cutTag, hiTag, fillE, GVal.cells, grp, GVal.ofConst, ↓resV, resG, List.map, List.headD, List.take, List.drop, ↓reduceIte, Nat.reduceEqDiff, Nat.reduceAdd, Nat.reduceSub, Nat.reduceLeDiff, reduceCtorEq, implies_true, ne_eq, Tag.cap, List.replicate, allSolid, GVal.solid, Nat.reduceBEq, Nat.reduceMul, Nat.reduceLT, List.length_map, List.length_range, splice, vcA, ↓vcB, vcC, fbFf, e39]
  refine (sConcat a b ta tb _ hl).then ?_ (by rfl)
  simp +contextual -implicitDefEqProofs (maxSteps := 2000000) (disch := omega) only [optV, ↓buildSliceV, ↓sliceV, bound, cutTag, hiTag, fillE, GVal.cells, grp, GVal.ofConst, ↓resV, resG, List.map, List.headD, List.take, List.drop, ↓reduceIte, Nat.reduceEqDiff, Nat.reduceAdd, Nat.reduceSub, Nat.reduceLeDiff, reduceCtorEq, implies_true, ne_eq, Tag.cap, List.replicate, allSolid, GVal.solid, Nat.reduceBEq, Nat.reduceMul, Nat.reduceLT, List.length_map, List.length_range, splice, vcA, ↓vcB, vcC, fbFf, e39]
  refine (sMake (a ++ b) .none (by simp; omega) (ha.app hb)).then ?_ (by rfl)
  simp +contextual -implicitDefEqProofs (maxSteps := 2000000) (disch := omega) only [optV, ↓buildSliceV, ↓sliceV, bound, cutTag, hiTag, fillE, GVal.cells, grp, GVal.ofConst, ↓resV, resG, List.map, List.headD, List.take, List.drop, ↓reduceIte, Nat.reduceEqDiff, Nat.reduceAdd, Nat.reduceSub, Nat.reduceLeDiff, reduceCtorEq, implies_true, ne_eq, Tag.cap, List.replicate, allSolid, GVal.solid, Nat.reduceBEq, Nat.reduceMul, Nat.reduceLT, List.length_map, List.length_range, splice, vcA, ↓vcB, vcC, fbFf, e39]
  rfl

theorem sMinus (a b : List Sp.S) (ta tb : Tag) (hl : a.length + b.length < 4398046511104) (ha : Sp.Ok a) (hb : Sp.Ok b) : GPure Try.prog 40 [.slice (spl a) ta, .slice (spl b) tb] (.slice (spl (Sp.minus a b)) .none) := by
  have h1 := Sp.restF_len (Sp.nf b) 0
  have h2 := Sp.nf_len b
  refine h40.pure mixS (by simp) ?_
  simp only [gstart, s40, List.cons_append, List.nil_append, List.length_cons, List.length_nil, Nat.reduceAdd, Nat.reduceSub, List.replicate_succ, List.replicate_zero]
  simp +contextual -implicitDefEqProofs (maxSteps := 2000000) (disch := omega) only [optV, ↓sliceV, bound, cutTag, hiTag, GVal.cells, grp, GVal.ofConst, ↓resV, resG, List.map, List.headD, List.take, List.drop, ↓reduceIte, Nat.reduceEqDiff, Nat.reduceAdd, Nat.reduceSub, Nat.reduceLeDiff, reduceCtorEq, implies_true, ne_eq, Tag.cap, List.replicate, allSolid, GVal.solid, Nat.reduceBEq, Nat.reduceMul, Nat.reduceLT, List.length_map, List.length_range, splice, vcA, ↓vcB, vcC, fbFf, e40]
  refine (sRest b tb (by omega) hb).then ?_ (by rfl)
  simp +contextual -implicitDefEqProofs (maxSteps := 2000000) (disch := omega) only [optV, ↓sliceV, bound, cutTag, hiTag, GVal.cells, grp, GVal.ofConst, ↓resV, resG, List.map, List.headD, List.take, List.drop, ↓reduceIte, Nat.reduceEqDiff, Nat.reduceAdd, Nat.reduceSub, Nat.reduceLeDiff, reduceCtorEq, implies_true, ne_eq, Tag.cap, List.replicate, allSolid, GVal.solid, Nat.reduceBEq, Nat.reduceMul, Nat.reduceLT, List.length_map, List.length_range, splice, vcA, ↓vcB, vcC, fbFf, e40]
  refine (sBoth a (Sp.rest (Sp.nf b)) ta .none (by unfold Sp.rest; omega) ha (Sp.rest_ok (Sp.nf_rt b) (Sp.nf_ok hb))).then ?_ (by rfl)
  simp +contextual -implicitDefEqProofs (maxSteps := 2000000) (disch := omega) only [optV, ↓sliceV, bound, cutTag, hiTag, GVal.cells, grp, GVal.ofConst, ↓resV, resG, List.map, List.headD, List.take, List.drop, ↓reduceIte, Nat.reduceEqDiff, Nat.reduceAdd, Nat.reduceSub, Nat.reduceLeDiff, reduceCtorEq, implies_true, ne_eq, Tag.cap, List.replicate, allSolid, GVal.solid, Nat.reduceBEq, Nat.reduceMul, Nat.reduceLT, List.length_map, List.length_range, splice, vcA, ↓vcB, vcC, fbFf, e40]
  rfl

end Gv.Try
/- Contracts: the document's answer on spans: join, Make, Right, Union; Has, Count of both. -/
set_option linter.unusedVariables false
set_option linter.unusedSimpArgs false
set_option maxRecDepth 20000
set_option maxHeartbeats 4000000
namespace Gv.Try
open Go Gv Go.Proofs

end Gv.Try
/- Contracts: the document's answer on spans: Both, Minus. -/
set_option linter.unusedVariables false
set_option linter.unusedSimpArgs false
set_option maxRecDepth 20000
set_option maxHeartbeats 4000000
namespace Gv.Try
open Go Gv Go.Proofs

end Gv.Try
