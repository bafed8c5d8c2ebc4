/- Sets of numbers as lists of spans: the plain theory. -/
import Derived.Test.YthidcccnjplafaaGreatP4
import Derived.Test.YthidcccnjplafaaGreatP5
import Derived.Test.YthidcccnjplafaaGreatP8
import Derived.Test.YthidcccnjplafaaGreatSlimFz
import Derived.Test.YthidcccnjplafaaGreatP6
import Derived.Shelf.SlSortCmp.WholeK
import Derived.Shelf.SlicesG.Cmp
import Derived.Test.YthidcccnjplafaaGreatProg
import Derived.KernelRfl
set_option linter.unusedVariables false
namespace Gv.Sp
open Gv
abbrev S := Int × Int
def has (l : List S) (n : Int) : Prop := ∃ s ∈ l, 0 ≤ n ∧ s.1 ≤ n ∧ n ≤ s.2
theorem has_nil (n : Int) : has [] n ↔ False := by simp [has]
theorem has_cons (s : S) (l : List S) (n : Int) : has (s :: l) n ↔ (0 ≤ n ∧ s.1 ≤ n ∧ n ≤ s.2) ∨ has l n := by simp [has]
theorem has_app (a b : List S) (n : Int) : has (a ++ b) n ↔ has a n ∨ has b n := by
  induction a with
  | nil => simp [has_nil]
  | cons s r ih => rw [List.cons_append, has_cons, has_cons, ih, or_assoc]
theorem has_perm {a b : List S} (h : a.Perm b) (n : Int) : has a n ↔ has b n := by
  simp only [has, h.mem_iff]
def Rt : Int → List S → Prop
  | _, [] => True
  | b, s :: r => b ≤ s.1 ∧ s.1 ≤ s.2 ∧ Rt (s.2 + 2) r
theorem Rt.weak {b b' : Int} : ∀ {l : List S}, Rt b l → b' ≤ b → Rt b' l
  | [], _, _ => trivial
  | s :: r, ⟨h1, h2, h3⟩, h => ⟨by omega, h2, h3⟩
theorem Rt.ge {n : Int} : ∀ {l : List S} {b : Int}, Rt b l → has l n → b ≤ n
  | [], b, _, h => by simp [has] at h
  | s :: r, b, ⟨h1, h2, h3⟩, h => by
    rcases (has_cons s r n).1 h with h | h
    · omega
    · have := h3.ge h; omega
theorem Rt.mem {s : S} : ∀ {l : List S} {b : Int}, Rt b l → s ∈ l → b ≤ s.1 ∧ s.1 ≤ s.2
  | [], b, _, h => by simp at h
  | x :: r, b, ⟨h1, h2, h3⟩, h => by
    rcases List.mem_cons.1 h with rfl | h
    · exact ⟨h1, h2⟩
    · have := h3.mem h; omega
theorem Rt.lo {s : S} {l : List S} {b : Int} (h : Rt b l) (hb : 0 ≤ b) (hs : s ∈ l) : has l s.1 := ⟨s, hs, by have := h.mem hs; omega⟩
theorem Rt.hi {s : S} {l : List S} {b : Int} (h : Rt b l) (hb : 0 ≤ b) (hs : s ∈ l) : has l s.2 := ⟨s, hs, by have := h.mem hs; omega⟩
theorem uniq : ∀ {l l' : List S} {b b' : Int}, Rt b l → Rt b' l' → 0 ≤ b → 0 ≤ b' → (∀ n, has l n ↔ has l' n) → l = l'
  | [], [], _, _, _, _, _, _, _ => rfl
  | [], y :: r, _, b', _, h', _, h0', h => absurd ((h y.1).2 (h'.lo h0' (by simp))) (by simp [has])
  | x :: r, [], b, _, h', _, h0', _, h => absurd ((h x.1).1 (h'.lo h0' (by simp))) (by simp [has])
  | (x1, x2) :: r, (y1, y2) :: q, b, b', hx, hy, hb, hb', h => by
    have e1 : has ((y1, y2) :: q) x1 := (h _).1 (hx.lo hb (s := (x1, x2)) (by simp))
    have e2 : has ((x1, x2) :: r) y1 := (h _).2 (hy.lo hb' (s := (y1, y2)) (by simp))
    obtain ⟨p1, p2, p3⟩ := hx
    obtain ⟨q1, q2, q3⟩ := hy
    simp only at p1 p2 p3 q1 q2 q3
    have g1 : y1 ≤ x1 := by
      rcases (has_cons _ _ _).1 e1 with e | e
      · exact e.2.1
      · have := q3.ge e; omega
    have g2 : x1 ≤ y1 := by
      rcases (has_cons _ _ _).1 e2 with e | e
      · exact e.2.1
      · have := p3.ge e; omega
    have g : x1 = y1 := by omega
    have k1 : ¬ x2 < y2 := fun hlt => by
      have e := (h (x2 + 1)).2 ((has_cons _ _ _).2 (.inl ⟨by omega, by show y1 ≤ _; omega, by show _ ≤ y2; omega⟩))
      rcases (has_cons _ _ _).1 e with e | e
      · have := e.2.2; simp only at this; omega
      · have := p3.ge e; omega
    have k2 : ¬ y2 < x2 := fun hlt => by
      have e := (h (y2 + 1)).1 ((has_cons _ _ _).2 (.inl ⟨by omega, by show x1 ≤ _; omega, by show _ ≤ x2; omega⟩))
      rcases (has_cons _ _ _).1 e with e | e
      · have := e.2.2; simp only at this; omega
      · have := q3.ge e; omega
    have k : x2 = y2 := by omega
    subst g; subst k
    have hr : ∀ n, has r n ↔ has q n := fun n => by
      constructor
      · intro hn
        rcases (has_cons _ _ _).1 ((h n).1 ((has_cons _ _ _).2 (.inr hn))) with e | e
        · have := p3.ge hn; have := e.2.2; simp only at this; omega
        · exact e
      · intro hn
        rcases (has_cons _ _ _).1 ((h n).2 ((has_cons _ _ _).2 (.inr hn))) with e | e
        · have := q3.ge hn; have := e.2.2; simp only at this; omega
        · exact e
    rw [uniq p3 q3 (by omega) (by omega) hr]

theorem Rt_snoc (x : S) : ∀ (A : List S) (b : Int), Rt b (A ++ [x]) ↔ Rt b A ∧ b ≤ x.1 ∧ x.1 ≤ x.2 ∧ ∀ y ∈ A, y.2 + 2 ≤ x.1
  | [], b => by simp [Rt]
  | y :: r, b => by
    rw [List.cons_append]
    show b ≤ y.1 ∧ y.1 ≤ y.2 ∧ Rt (y.2 + 2) (r ++ [x]) ↔ (b ≤ y.1 ∧ y.1 ≤ y.2 ∧ Rt (y.2 + 2) r) ∧ _
    rw [Rt_snoc x r]
    constructor
    · rintro ⟨h1, h2, h3, h4, h5, h6⟩
      exact ⟨⟨h1, h2, h3⟩, by omega, h5, fun z hz => by
        rcases List.mem_cons.1 hz with rfl | hz
        · exact h4
        · exact h6 z hz⟩
    · rintro ⟨⟨h1, h2, h3⟩, h4, h5, h6⟩
      exact ⟨h1, h2, h3, h6 y (by simp), h5, fun z hz => h6 z (by simp [hz])⟩

def ins : List S → S → List S
  | [], s => [s]
  | x :: r, s => if x.2 + 1 < s.1 then x :: ins r s else if s.2 + 1 < x.1 then s :: x :: r else ins r (min s.1 x.1, max s.2 x.2)
theorem ins_rt : ∀ (l : List S) (s : S) (b : Int), Rt b l → b ≤ s.1 → s.1 ≤ s.2 → Rt b (ins l s)
  | [], s, b, _, h1, h2 => ⟨h1, h2, trivial⟩
  | x :: r, s, b, ⟨p1, p2, p3⟩, h1, h2 => by
    unfold ins
    split
    · exact ⟨p1, p2, ins_rt r s _ p3 (by omega) h2⟩
    · split
      · exact ⟨h1, h2, by omega, p2, p3⟩
      · exact ins_rt r _ b (p3.weak (by omega)) (by show _ ≤ min _ _; omega) (by show min _ _ ≤ max _ _; omega)
theorem ins_has (n : Int) : ∀ (l : List S) (s : S) (b : Int), Rt b l → s.1 ≤ s.2 → (has (ins l s) n ↔ has l n ∨ (0 ≤ n ∧ s.1 ≤ n ∧ n ≤ s.2))
  | [], s, b, _, _ => by simp [ins, has_cons, has_nil]
  | x :: r, s, b, ⟨p1, p2, p3⟩, h2 => by
    unfold ins
    split
    · rw [has_cons, ins_has n r s _ p3 h2, has_cons, or_assoc]
    · split
      · rw [has_cons s, or_comm]
      · rw [ins_has n r _ _ p3 (by show min _ _ ≤ max _ _; omega), has_cons]
        constructor
        · rintro (h | ⟨q1, q2, q3⟩)
          · exact .inl (.inr h)
          · simp only at q2 q3
            by_cases e : s.1 ≤ n ∧ n ≤ s.2
            · exact .inr ⟨q1, e⟩
            · exact .inl (.inl ⟨q1, by omega, by omega⟩)
        · rintro ((⟨q1, q2, q3⟩ | h) | ⟨q1, q2, q3⟩)
          · exact .inr ⟨q1, by show min _ _ ≤ _; omega, by show _ ≤ max _ _; omega⟩
          · exact .inl h
          · exact .inr ⟨q1, by show min _ _ ≤ _; omega, by show _ ≤ max _ _; omega⟩
theorem ins_len : ∀ (l : List S) (s : S), (ins l s).length ≤ l.length + 1
  | [], s => by simp [ins]
  | x :: r, s => by
    unfold ins
    split
    · have := ins_len r s; simp; omega
    · split
      · simp
      · have := ins_len r (min s.1 x.1, max s.2 x.2); simp; omega

def put (acc : List S) (s : S) : List S := if max s.1 0 ≤ s.2 then ins acc (max s.1 0, s.2) else acc
def nfA (acc : List S) : List S → List S
  | [] => acc
  | s :: r => nfA (put acc s) r
def nf (l : List S) : List S := nfA [] l
theorem put_rt {acc : List S} (s : S) (h : Rt 0 acc) : Rt 0 (put acc s) := by
  unfold put; split
  · exact ins_rt _ _ _ h (by show _ ≤ max _ _; omega) (by assumption)
  · exact h
theorem put_has {acc : List S} (s : S) (h : Rt 0 acc) (n : Int) : has (put acc s) n ↔ has acc n ∨ (0 ≤ n ∧ s.1 ≤ n ∧ n ≤ s.2) := by
  unfold put; split
  · rw [ins_has n _ _ _ h (by assumption)]
    constructor
    · rintro (q | ⟨q1, q2, q3⟩)
      · exact .inl q
      · exact .inr ⟨q1, by simp only at q2; omega, q3⟩
    · rintro (q | ⟨q1, q2, q3⟩)
      · exact .inl q
      · exact .inr ⟨q1, by show max _ _ ≤ _; omega, q3⟩
  · constructor
    · exact .inl
    · rintro (q | ⟨q1, q2, q3⟩)
      · exact q
      · omega
theorem nfA_rt : ∀ (l acc : List S), Rt 0 acc → Rt 0 (nfA acc l)
  | [], acc, h => h
  | s :: r, acc, h => nfA_rt r _ (put_rt s h)
theorem nfA_has (n : Int) : ∀ (l acc : List S), Rt 0 acc → (has (nfA acc l) n ↔ has acc n ∨ has l n)
  | [], acc, h => by simp [nfA, has_nil]
  | s :: r, acc, h => by
    show has (nfA (put acc s) r) n ↔ _
    rw [nfA_has n r _ (put_rt s h), put_has s h, has_cons, or_assoc]
theorem nf_rt (l : List S) : Rt 0 (nf l) := nfA_rt l [] trivial
theorem nf_has (l : List S) (n : Int) : has (nf l) n ↔ has l n := by rw [nf, nfA_has n l [] trivial, has_nil, false_or]
theorem nfA_len : ∀ (l acc : List S), (nfA acc l).length ≤ acc.length + l.length
  | [], acc => by simp [nfA]
  | s :: r, acc => by
    have h := nfA_len r (put acc s)
    have : (put acc s).length ≤ acc.length + 1 := by
      unfold put; split
      · exact ins_len _ _
      · omega
    show (nfA (put acc s) r).length ≤ _
    simp; omega
theorem nf_len (l : List S) : (nf l).length ≤ l.length := by have := nfA_len l []; simpa [nf] using this
theorem nf_eq {l r : List S} (h : Rt 0 r) (hn : ∀ n, has r n ↔ has l n) : nf l = r := uniq (nf_rt l) h (by omega) (by omega) fun n => by rw [nf_has, hn]
theorem nf_rt_eq {l : List S} (h : Rt 0 l) : nf l = l := nf_eq h fun _ => Iff.rfl
def Ok (l : List S) : Prop := ∀ s ∈ l, (-9223372036854775808 ≤ s.1 ∧ s.1 ≤ 9223372036854775807) ∧ (-9223372036854775808 ≤ s.2 ∧ s.2 ≤ 9223372036854775807)
theorem Ok.has {l : List S} (h : Ok l) {n : Int} (hn : has l n) : n ≤ 9223372036854775807 := by obtain ⟨s, hs, h1, h2, h3⟩ := hn; have := (h s hs).2.2; omega
theorem ok_of {l : List S} {b : Int} (h : Rt b l) (hb : 0 ≤ b) (hn : ∀ n, Sp.has l n → n ≤ 9223372036854775807) : Ok l := fun s hs => by
  have h1 := h.mem hs
  have h2 := hn _ (h.hi hb hs)
  exact ⟨⟨by omega, by omega⟩, by omega, h2⟩
theorem nf_ok {l : List S} (h : Ok l) : Ok (nf l) := ok_of (nf_rt l) (by omega) fun n hn => h.has ((nf_has l n).1 hn)
theorem Ok.app {a b : List S} (ha : Ok a) (hb : Ok b) : Ok (a ++ b) := fun s hs => (List.mem_append.1 hs).elim (ha s) (hb s)
theorem Ok.nil : Ok [] := fun s hs => by simp at hs
theorem Ok.at {l : List S} (h : Ok l) (i : Nat) : (-9223372036854775808 ≤ (l.getD i (0, 0)).1 ∧ (l.getD i (0, 0)).1 ≤ 9223372036854775807) ∧ (-9223372036854775808 ≤ (l.getD i (0, 0)).2 ∧ (l.getD i (0, 0)).2 ≤ 9223372036854775807) := by
  by_cases hi : i < l.length
  · rw [List.getD_eq_getElem?_getD, List.getElem?_eq_getElem hi]; exact h _ (List.getElem_mem hi)
  · rw [List.getD_eq_getElem?_getD, List.getElem?_eq_none (by omega)]; simp
theorem Rt.at {l : List S} {b : Int} (h : Rt b l) (i : Nat) (hi : i < l.length) : b ≤ (l.getD i (0, 0)).1 ∧ (l.getD i (0, 0)).1 ≤ (l.getD i (0, 0)).2 := by
  rw [List.getD_eq_getElem?_getD, List.getElem?_eq_getElem hi]; exact h.mem (List.getElem_mem hi)

def both (a b : List S) : List S :=
  match a, b with
  | [], _ => []
  | _ :: _, [] => []
  | x :: a, y :: b => (if max x.1 y.1 ≤ min x.2 y.2 then [(max x.1 y.1, min x.2 y.2)] else []) ++ if x.2 < y.2 then both a (y :: b) else both (x :: a) b
termination_by a.length + b.length
theorem both_nil (b : List S) : both [] b = [] := by rw [both.eq_def]
theorem both_nil' (a : List S) : both a [] = [] := by cases a <;> rw [both.eq_def]
theorem both_cons (x y : S) (a b : List S) : both (x :: a) (y :: b) = (if max x.1 y.1 ≤ min x.2 y.2 then [(max x.1 y.1, min x.2 y.2)] else []) ++ if x.2 < y.2 then both a (y :: b) else both (x :: a) b := by rw [both.eq_def]
theorem both_spec (n : Int) : ∀ (k : Nat) (a b : List S) (p q : Int), a.length + b.length ≤ k → Rt p a → Rt q b → Rt (max p q) (both a b) ∧ (has (both a b) n ↔ has a n ∧ has b n)
  | k, [], b, p, q, _, _, _ => by rw [both_nil]; exact ⟨trivial, by simp [has_nil]⟩
  | k, x :: a, [], p, q, _, _, _ => by rw [both_nil']; exact ⟨trivial, by simp [has_nil]⟩
  | 0, x :: a, y :: b, p, q, h, _, _ => by simp at h
  | k + 1, x :: a, y :: b, p, q, h, hx, hy => by
    have hx' := hx
    have hy' := hy
    obtain ⟨x1, x2, x3⟩ := hx'
    obtain ⟨y1, y2, y3⟩ := hy'
    rw [both_cons]
    simp only [List.length_cons] at h
    by_cases hlt : x.2 < y.2
    · rw [if_pos hlt]
      obtain ⟨r1, r2⟩ := both_spec n k a (y :: b) (x.2 + 2) q (by simp; omega) x3 hy
      have r1' := r1
      constructor
      · split
        · show Rt _ (_ :: _)
          exact ⟨by show max p q ≤ max x.1 y.1; omega, by assumption, r1.weak (by show min x.2 y.2 + 2 ≤ _; omega)⟩
        · exact r1.weak (by omega)
      · have e : has ((if max x.1 y.1 ≤ min x.2 y.2 then [(max x.1 y.1, min x.2 y.2)] else []) ++ both a (y :: b)) n ↔ (0 ≤ n ∧ x.1 ≤ n ∧ n ≤ x.2 ∧ y.1 ≤ n ∧ n ≤ y.2) ∨ has (both a (y :: b)) n := by
          rw [has_app]
          refine or_congr ?_ Iff.rfl
          split
          · simp only [has_cons, has_nil, or_false]; omega
          · rw [has_nil]; exact ⟨False.elim, fun h => by omega⟩
        rw [e, r2, has_cons x]
        constructor
        · rintro (⟨c1, c2, c3, c4, c5⟩ | ⟨c1, c2⟩)
          · exact ⟨.inl ⟨c1, c2, c3⟩, (has_cons _ _ _).2 (.inl ⟨c1, c4, c5⟩)⟩
          · exact ⟨.inr c1, c2⟩
        · rintro ⟨⟨c1, c2, c3⟩ | c1, c4⟩
          · rcases (has_cons _ _ _).1 c4 with ⟨_, d2, d3⟩ | d
            · exact .inl ⟨c1, c2, c3, d2, d3⟩
            · have := y3.ge d; omega
          · exact .inr ⟨c1, c4⟩
    · rw [if_neg hlt]
      obtain ⟨r1, r2⟩ := both_spec n k (x :: a) b p (y.2 + 2) (by simp; omega) hx y3
      constructor
      · split
        · show Rt _ (_ :: _)
          exact ⟨by show max p q ≤ max x.1 y.1; omega, by assumption, r1.weak (by show min x.2 y.2 + 2 ≤ _; omega)⟩
        · exact r1.weak (by omega)
      · have e : has ((if max x.1 y.1 ≤ min x.2 y.2 then [(max x.1 y.1, min x.2 y.2)] else []) ++ both (x :: a) b) n ↔ (0 ≤ n ∧ x.1 ≤ n ∧ n ≤ x.2 ∧ y.1 ≤ n ∧ n ≤ y.2) ∨ has (both (x :: a) b) n := by
          rw [has_app]
          refine or_congr ?_ Iff.rfl
          split
          · simp only [has_cons, has_nil, or_false]; omega
          · rw [has_nil]; exact ⟨False.elim, fun h => by omega⟩
        rw [e, r2, has_cons y]
        constructor
        · rintro (⟨c1, c2, c3, c4, c5⟩ | ⟨c1, c2⟩)
          · exact ⟨(has_cons _ _ _).2 (.inl ⟨c1, c2, c3⟩), .inl ⟨c1, c4, c5⟩⟩
          · exact ⟨c1, .inr c2⟩
        · rintro ⟨c4, ⟨c1, c2, c3⟩ | c1⟩
          · rcases (has_cons _ _ _).1 c4 with ⟨_, d2, d3⟩ | d
            · exact .inl ⟨c1, d2, d3, c2, c3⟩
            · have := x3.ge d; omega
          · exact .inr ⟨c4, c1⟩
theorem both_rt {a b : List S} (ha : Rt 0 a) (hb : Rt 0 b) : Rt 0 (both a b) := by have := (both_spec 0 _ a b 0 0 (Nat.le_refl _) ha hb).1; simpa using this
theorem both_has {a b : List S} (ha : Rt 0 a) (hb : Rt 0 b) (n : Int) : has (both a b) n ↔ has a n ∧ has b n := (both_spec n _ a b 0 0 (Nat.le_refl _) ha hb).2
theorem both_len : ∀ (k : Nat) (a b : List S), a.length + b.length ≤ k → (both a b).length ≤ a.length + b.length
  | k, [], b, _ => by rw [both_nil]; simp
  | k, x :: a, [], _ => by rw [both_nil']; simp
  | 0, x :: a, y :: b, h => by simp at h
  | k + 1, x :: a, y :: b, h => by
    rw [both_cons]
    simp only [List.length_cons] at h
    have h1 := both_len k a (y :: b) (by simp; omega)
    have h2 := both_len k (x :: a) b (by simp; omega)
    simp only [List.length_cons] at h1 h2
    by_cases hlt : x.2 < y.2
    · rw [if_pos hlt]; split <;> simp <;> omega
    · rw [if_neg hlt]; split <;> simp <;> omega

def restF (low : Int) : List S → List S
  | [] => [(low, 9223372036854775807)]
  | s :: r => (if low < s.1 then [(low, s.1 - 1)] else []) ++ if s.2 = 9223372036854775807 then [] else restF (s.2 + 1) r
theorem restF_spec (n : Int) : ∀ (l : List S) (low b : Int), Rt b l → (∀ s ∈ l, s.2 ≤ 9223372036854775807) → 0 ≤ low → low ≤ 9223372036854775807 → low ≤ b → Rt low (restF low l) ∧ (has (restF low l) n ↔ low ≤ n ∧ n ≤ 9223372036854775807 ∧ ¬ has l n)
  | [], low, b, _, _, h0, h1, _ => ⟨⟨Int.le_refl _, h1, trivial⟩, by simp only [restF, has_cons, has_nil, or_false, not_false_eq_true, and_true]; omega⟩
  | s :: r, low, b, ⟨p1, p2, p3⟩, ht, h0, h1, h2 => by
    have hs := ht s (by simp)
    unfold restF
    by_cases e : s.2 = 9223372036854775807
    · rw [if_pos e, List.append_nil, has_cons]
      have hr : ¬ has r n := fun h => by
        have := p3.ge h
        obtain ⟨z, hz, _, _, h5⟩ := h
        have := ht z (by simp [hz]); omega
      constructor
      · split
        · exact ⟨Int.le_refl _, by show low ≤ s.1 - 1; omega, trivial⟩
        · trivial
      · split
        · simp only [has_cons, has_nil, or_false, hr]; omega
        · simp only [has_nil, hr, or_false]; exact ⟨False.elim, fun h => by omega⟩
    · rw [if_neg e]
      obtain ⟨r1, r2⟩ := restF_spec n r (s.2 + 1) (s.2 + 2) p3 (fun z hz => ht z (by simp [hz])) (by omega) (by omega) (by omega)
      have hge : has r n → s.2 + 2 ≤ n := fun h => p3.ge h
      constructor
      · split
        · exact ⟨Int.le_refl _, by show low ≤ s.1 - 1; omega, r1.weak (by show s.1 - 1 + 2 ≤ _; omega)⟩
        · exact r1.weak (by omega)
      · rw [has_app, r2, has_cons]
        split
        · simp only [has_cons, has_nil, or_false]
          constructor
          · rintro (h | h)
            · refine ⟨by omega, by omega, ?_⟩
              rintro (h' | h')
              · omega
              · have := hge h'; omega
            · refine ⟨by omega, by omega, ?_⟩
              rintro (h' | h')
              · omega
              · exact h.2.2 h'
          · rintro ⟨h3, h4, h5⟩
            have h6 : ¬ (0 ≤ n ∧ s.1 ≤ n ∧ n ≤ s.2) := fun h => h5 (.inl h)
            have h7 : ¬ has r n := fun h => h5 (.inr h)
            by_cases h8 : n < s.1
            · exact .inl (by omega)
            · exact .inr ⟨by omega, h4, h7⟩
        · rw [has_nil, false_or]
          constructor
          · rintro ⟨h3, h4, h5⟩
            refine ⟨by omega, h4, ?_⟩
            rintro (h' | h')
            · omega
            · exact h5 h'
          · rintro ⟨h3, h4, h5⟩
            have h6 : ¬ (0 ≤ n ∧ s.1 ≤ n ∧ n ≤ s.2) := fun h => h5 (.inl h)
            exact ⟨by omega, h4, fun h => h5 (.inr h)⟩
def rest (l : List S) : List S := restF 0 l
theorem rest_rt {l : List S} (h : Rt 0 l) (ht : Ok l) : Rt 0 (rest l) := (restF_spec 0 l 0 0 h (fun s hs => (ht s hs).2.2) (by omega) (by omega) (by omega)).1
theorem rest_has {l : List S} (h : Rt 0 l) (ht : Ok l) (n : Int) : has (rest l) n ↔ 0 ≤ n ∧ n ≤ 9223372036854775807 ∧ ¬ has l n := (restF_spec n l 0 0 h (fun s hs => (ht s hs).2.2) (by omega) (by omega) (by omega)).2
theorem rest_ok {l : List S} (h : Rt 0 l) (ht : Ok l) : Ok (rest l) := ok_of (rest_rt h ht) (by omega) fun n hn => ((rest_has h ht n).1 hn).2.1
theorem restF_len : ∀ (l : List S) (low : Int), (restF low l).length ≤ l.length + 1
  | [], low => by simp [restF]
  | s :: r, low => by
    unfold restF
    have := restF_len r (s.2 + 1)
    split <;> split <;> simp <;> omega
def uni (a b : List S) : List S := nf (a ++ b)
def bothS (a b : List S) : List S := both (nf a) (nf b)
def minus (a b : List S) : List S := bothS a (rest (nf b))
theorem uni_rt (a b : List S) : Rt 0 (uni a b) := nf_rt _
theorem uni_has (a b : List S) (n : Int) : has (uni a b) n ↔ has a n ∨ has b n := by rw [uni, nf_has, has_app]
theorem uni_ok {a b : List S} (ha : Ok a) (hb : Ok b) : Ok (uni a b) := nf_ok (ha.app hb)
theorem bothS_rt (a b : List S) : Rt 0 (bothS a b) := both_rt (nf_rt a) (nf_rt b)
theorem bothS_has (a b : List S) (n : Int) : has (bothS a b) n ↔ has a n ∧ has b n := by rw [bothS, both_has (nf_rt a) (nf_rt b), nf_has, nf_has]
theorem bothS_ok {a b : List S} (ha : Ok a) : Ok (bothS a b) := ok_of (bothS_rt a b) (by omega) fun n hn => ha.has ((bothS_has a b n).1 hn).1
theorem minus_rt (a b : List S) : Rt 0 (minus a b) := bothS_rt _ _
theorem minus_has {a b : List S} (ha : Ok a) (hb : Ok b) (n : Int) : has (minus a b) n ↔ has a n ∧ ¬ has b n := by
  rw [minus, bothS_has, rest_has (nf_rt b) (nf_ok hb), nf_has]
  constructor
  · exact fun h => ⟨h.1, h.2.2.2⟩
  · refine fun h => ⟨h.1, ?_, ha.has h.1, h.2⟩
    obtain ⟨s, _, h1, _⟩ := h.1; exact h1
theorem minus_ok {a b : List S} (ha : Ok a) : Ok (minus a b) := bothS_ok ha
theorem uni_len (a b : List S) : (uni a b).length ≤ a.length + b.length := by have := nf_len (a ++ b); simpa [uni] using this
theorem bothS_len (a b : List S) : (bothS a b).length ≤ a.length + b.length := by
  have h1 := both_len _ (nf a) (nf b) (Nat.le_refl _)
  have h2 := nf_len a
  have h3 := nf_len b
  unfold bothS; omega
theorem minus_len (a b : List S) : (minus a b).length ≤ a.length + b.length + 1 := by
  have h1 := bothS_len a (rest (nf b))
  have h2 := restF_len (nf b) 0
  have h3 := nf_len b
  unfold minus; unfold rest at *; omega
end Gv.Sp
/- Spans as ghost values. -/
set_option linter.unusedVariables false
namespace Gv
def spG (s : Sp.S) : List GVal := [.int .i64 s.1, .int .i64 s.2]
def spl (l : List Sp.S) : List (List GVal) := l.map spG
theorem spl_length (l : List Sp.S) : (spl l).length = l.length := by simp [spl]
theorem spl_at (l : List Sp.S) (i : Nat) (h : i < l.length) : (spl l).getD i [] = spG (l.getD i (0, 0)) := by simp [spl, List.getD, h]
theorem spl_append (a b : List Sp.S) : spl (a ++ b) = spl a ++ spl b := by simp [spl]
theorem spl_one (s : Sp.S) : spl [s] = [spG s] := rfl
theorem spl_nil : spl [] = [] := rfl
theorem spl_cons (s : Sp.S) (l : List Sp.S) : spl (s :: l) = spG s :: spl l := rfl
theorem all_spl (l : List Sp.S) : (∀ x ∈ spl l, x.length = 2) = True := eq_true fun x hx => by obtain ⟨s, _, rfl⟩ := List.mem_map.1 hx; rfl
theorem spl_set (l : List Sp.S) (i : Nat) (s : Sp.S) : (spl l).set i (spG s) = spl (l.set i s) := by simp [spl, List.map_set]
theorem frz_spl (O : List GObj) (n : Nat) (l : List Sp.S) : frzLL (Gv.frz O (n + 1)) (spl l) = some (spl l) :=
  frzLL_same fun x hx => by
    obtain ⟨s, _, rfl⟩ := List.mem_map.1 hx
    simp only [spG, frzL, Gv.frz]
theorem getD_last {α : Type} (A : List α) (x d : α) : (A ++ [x]).getD A.length d = x := by simp [List.getD]
theorem spl_setLast (A : List Sp.S) (x y : Sp.S) : (spl (A ++ [x])).set A.length (spG y) = spl (A ++ [y]) := by
  rw [spl_set, List.set_append_right _ _ (Nat.le_refl _), Nat.sub_self]; rfl
theorem drop_getD {l : List Sp.S} {k : Nat} (h : k < l.length) : l.drop k = l.getD k (0, 0) :: l.drop (k + 1) := by
  rw [List.drop_eq_getElem_cons h]; simp [List.getD, h]
theorem take_getD {l : List Sp.S} {k : Nat} (h : k < l.length) : l.take (k + 1) = l.take k ++ [l.getD k (0, 0)] := by
  rw [List.take_add_one]; simp [List.getD, h]
end Gv
/- Sets of numbers: tests, a span taken away, counts. -/
set_option linter.unusedVariables false
namespace Gv.Sp
open Gv
def hasB (l : List S) (n : Int) : Bool := l.any fun s => decide (0 ≤ n) && (decide (s.1 ≤ n) && decide (n ≤ s.2))
theorem hasB_iff (l : List S) (n : Int) : hasB l n = true ↔ has l n := by
  simp only [hasB, List.any_eq_true, Bool.and_eq_true, decide_eq_true_eq, has]
theorem hasB_eq {a b : List S} {n : Int} (h : has a n ↔ has b n) : hasB a n = hasB b n := by
  rw [Bool.eq_iff_iff, hasB_iff, hasB_iff, h]
theorem hasB_cons (s : S) (l : List S) (n : Int) : hasB (s :: l) n = ((decide (0 ≤ n) && (decide (s.1 ≤ n) && decide (n ≤ s.2))) || hasB l n) := rfl
theorem ins_cons (x s : S) (r : List S) : ins (x :: r) s = if x.2 + 1 < s.1 then x :: ins r s else if s.2 + 1 < x.1 then s :: x :: r else ins r (min s.1 x.1, max s.2 x.2) := rfl
def cut : List S → S → List S
  | [], _ => []
  | s :: r, y => (if s.2 < y.1 ∨ y.2 < s.1 then [s] else (if s.1 < y.1 then [(s.1, y.1 - 1)] else []) ++ (if y.2 < s.2 then [(y.2 + 1, s.2)] else [])) ++ cut r y
theorem cut_rt (y : S) (hy : y.1 ≤ y.2) : ∀ (l : List S) (b : Int), Rt b l → Rt b (cut l y)
  | [], b, _ => trivial
  | s :: r, b, ⟨h1, h2, h3⟩ => by
    have h := cut_rt y hy r _ h3
    unfold cut
    split
    · exact ⟨h1, h2, h⟩
    · split
      · split
        · exact ⟨h1, by show s.1 ≤ y.1 - 1; omega, by show y.1 - 1 + 2 ≤ y.2 + 1; omega, by show y.2 + 1 ≤ s.2; omega, h⟩
        · exact ⟨h1, by show s.1 ≤ y.1 - 1; omega, h.weak (by show y.1 - 1 + 2 ≤ _; omega)⟩
      · split
        · exact ⟨by show b ≤ y.2 + 1; omega, by show y.2 + 1 ≤ s.2; omega, h⟩
        · exact h.weak (by omega)
theorem cut_has (y : S) (hy : y.1 ≤ y.2) (n : Int) : ∀ (l : List S), has (cut l y) n ↔ has l n ∧ ¬ (y.1 ≤ n ∧ n ≤ y.2)
  | [] => by simp [cut, has_nil]
  | s :: r => by
    unfold cut
    rw [has_app, cut_has y hy n r, has_cons]
    have : has (if s.2 < y.1 ∨ y.2 < s.1 then [s] else (if s.1 < y.1 then [(s.1, y.1 - 1)] else []) ++ (if y.2 < s.2 then [(y.2 + 1, s.2)] else [])) n ↔ (0 ≤ n ∧ s.1 ≤ n ∧ n ≤ s.2) ∧ ¬ (y.1 ≤ n ∧ n ≤ y.2) := by
      split
      · simp only [has_cons, has_nil, or_false]; omega
      · rw [has_app]
        split <;> split <;> simp only [has_cons, has_nil, or_false, false_or] <;> exact ⟨fun h => by first | exact h.elim | omega, fun h => by omega⟩
    rw [this]
    constructor
    · rintro (⟨h, k⟩ | ⟨h, k⟩)
      · exact ⟨.inl h, k⟩
      · exact ⟨.inr h, k⟩
    · rintro ⟨h | h, k⟩
      · exact .inl ⟨h, k⟩
      · exact .inr ⟨h, k⟩
theorem cut_id (y : S) : ∀ (l : List S) (b : Int), Rt b l → y.2 < b → cut l y = l
  | [], b, _, _ => rfl
  | s :: r, b, ⟨h1, h2, h3⟩, h => by
    unfold cut
    rw [if_pos (by omega), cut_id y r _ h3 (by omega)]; rfl
theorem cut_len2 (y : S) (hy : y.1 ≤ y.2) : ∀ (l : List S) (b : Int), Rt b l → (cut l y).length ≤ l.length + 1
  | [], b, _ => by simp [cut]
  | s :: r, b, ⟨h1, h2, h3⟩ => by
    have ih := cut_len2 y hy r _ h3
    unfold cut
    split
    · simp; omega
    · by_cases h4 : y.2 < s.2
      · rw [cut_id y r _ h3 (by omega)]
        rw [if_pos h4]
        split <;> simp <;> omega
      · rw [if_neg h4]
        split <;> simp <;> omega
theorem cut_cons (s y : S) (r : List S) : cut (s :: r) y = (if s.2 < y.1 ∨ y.2 < s.1 then [s] else (if s.1 < y.1 then [(s.1, y.1 - 1)] else []) ++ (if y.2 < s.2 then [(y.2 + 1, s.2)] else [])) ++ cut r y := rfl
theorem has_take (N : List S) (k : Nat) (h : k < N.length) (n : Int) : has (N.take (k + 1)) n ↔ has (N.take k) n ∨ (0 ≤ n ∧ (N.getD k (0, 0)).1 ≤ n ∧ n ≤ (N.getD k (0, 0)).2) := by
  rw [take_getD h, has_app, has_cons, has_nil, or_false]
def meets (A B : List S) : List S := A.flatMap fun x => B.map fun y => (max x.1 y.1, min x.2 y.2)
theorem meets_has (A B : List S) (n : Int) : has (meets A B) n ↔ has A n ∧ has B n := by
  simp only [has, meets, List.mem_flatMap, List.mem_map]
  constructor
  · rintro ⟨s, ⟨x, hx, y, hy, rfl⟩, h0, h1, h2⟩
    simp only at h1 h2
    exact ⟨⟨x, hx, h0, by omega, by omega⟩, ⟨y, hy, h0, by omega, by omega⟩⟩
  · rintro ⟨⟨x, hx, h0, h1, h2⟩, ⟨y, hy, _, h3, h4⟩⟩
    exact ⟨_, ⟨x, hx, y, hy, rfl⟩, h0, by show max _ _ ≤ n; omega, by show n ≤ min _ _; omega⟩
end Gv.Sp
/- Sets of numbers: the laws of three sets. -/
set_option linter.unusedVariables false
namespace Gv.Sp
open Gv
def Lim (l : List S) (k : Nat) : Prop := l.length ≤ k ∧ Ok l
theorem Lim.ok {l : List S} {k : Nat} (h : Lim l k) : Ok l := h.2
theorem Lim.uni {a b : List S} {m n : Nat} (ha : Lim a m) (hb : Lim b n) : Lim (uni a b) (m + n) := ⟨by have := uni_len a b; have := ha.1; have := hb.1; omega, uni_ok ha.2 hb.2⟩
theorem Lim.both {a b : List S} {m n : Nat} (ha : Lim a m) (hb : Lim b n) : Lim (bothS a b) (m + n) := ⟨by have := bothS_len a b; have := ha.1; have := hb.1; omega, bothS_ok ha.2⟩
theorem Lim.minus {a b : List S} {m n : Nat} (ha : Lim a m) (hb : Lim b n) : Lim (minus a b) (m + n + 1) := ⟨by have := minus_len a b; have := ha.1; have := hb.1; omega, minus_ok ha.2⟩
theorem Lim.nf {a : List S} {m : Nat} (ha : Lim a m) : Lim (nf a) m := ⟨by have := nf_len a; have := ha.1; omega, nf_ok ha.2⟩
theorem Lim.le {a : List S} {m n : Nat} (ha : Lim a m) (h : m ≤ n) : Lim a n := ⟨by have := ha.1; omega, ha.2⟩
theorem eqv {a b : List S} (ha : Rt 0 a) (hb : Rt 0 b) (h : ∀ n, has a n ↔ has b n) : a = b := uniq ha hb (by omega) (by omega) h
variable {x y z : List S}
end Gv.Sp
/- Sets of a table's IDs: who stands on whom. -/
set_option linter.unusedVariables false
set_option linter.unusedSimpArgs false
namespace Gv.Tryz
open Go Gv Go.Proofs
structure TOK (m o : List (List Int)) : Prop where
  len : m.length + o.length ≤ 1000
  right : rightI m o = true
abbrev inT (m o : List (List Int)) (x : Int) : Prop := hasI m.length o.length x = true
theorem TOK.par {m o : List (List Int)} (h : TOK m o) {p x : Int} (hp : p ∈ parI m o x) : p < x ∧ inT m o p := (parI_props h.len h.right x).1 p hp
theorem inT_range {m o : List (List Int)} (h : TOK m o) {x : Int} (hx : inT m o x) : 0 ≤ x ∧ x ≤ 1099511628776 := by
  have := h.len
  unfold inT hasI at hx
  have hs : split = 1099511627776 := rfl
  have := of_decide_eq_true hx
  omega
theorem leads_iff {m o : List (List Int)} (h : TOK m o) {a b : Int} : Leads m o a b ↔ a = b ∨ ∃ p ∈ parI m o b, Leads m o a p := by
  constructor
  · intro hl
    classical
    have := hl (b :: (allI m.length o.length).filter fun x => decide (∃ p ∈ parI m o b, Leads m o x p)) (by simp) (by
      intro x hx p hp hpt
      refine List.mem_cons_of_mem _ ?_
      simp only [List.mem_filter, decide_eq_true_iff]
      refine ⟨(allI_hasI _ _ _).2 hpt, ?_⟩
      rcases List.mem_cons.1 hx with rfl | hx
      · exact ⟨p, hp, Leads.refl m o p⟩
      · simp only [List.mem_filter, decide_eq_true_iff] at hx
        obtain ⟨_, q, hq, hl⟩ := hx
        exact ⟨q, hq, (Leads.par hp hpt).trans hl⟩)
    rcases List.mem_cons.1 this with e | e
    · exact .inl e
    · simp only [List.mem_filter, decide_eq_true_iff] at e
      exact .inr e.2
  · rintro (rfl | ⟨p, hp, hl⟩)
    · exact Leads.refl m o a
    · exact hl.trans (Leads.par hp (h.par hp).2)
theorem leads_le {m o : List (List Int)} (h : TOK m o) {a b : Int} (hl : Leads m o a b) : a ≤ b := by
  have := hl (b :: (allI m.length o.length).filter fun x => decide (x ≤ b)) (by simp) (by
    intro x hx p hp hpt
    refine List.mem_cons_of_mem _ ?_
    simp only [List.mem_filter, decide_eq_true_iff]
    refine ⟨(allI_hasI _ _ _).2 hpt, ?_⟩
    have := (h.par hp).1
    rcases List.mem_cons.1 hx with rfl | hx
    · omega
    · simp only [List.mem_filter, decide_eq_true_iff] at hx; omega)
  rcases List.mem_cons.1 this with e | e
  · omega
  · simp only [List.mem_filter, decide_eq_true_iff] at e; exact e.2
theorem leads_in {m o : List (List Int)} {a b : Int} (hl : Leads m o a b) (hb : inT m o b) : inT m o a :=
  (allI_hasI _ _ _).1 (hl (allI m.length o.length) ((allI_hasI _ _ _).2 hb) fun x hx p hp hpt => (allI_hasI _ _ _).2 hpt)
noncomputable def idsP (m o : List (List Int)) (P : Int → Prop) : List Sp.S := by
  classical exact Sp.nf (((allI m.length o.length).filter fun x => decide (P x)).map fun i => (i, i))
theorem has_ones (l : List Int) (n : Int) (hl : ∀ x ∈ l, 0 ≤ x) : Sp.has (l.map fun i => (i, i)) n ↔ n ∈ l := by
  unfold Sp.has
  constructor
  · rintro ⟨s, hs, h0, h1, h2⟩
    obtain ⟨i, hi, rfl⟩ := List.mem_map.1 hs
    simp only at h1 h2
    have : n = i := by omega
    rw [this]; exact hi
  · intro h
    exact ⟨(n, n), List.mem_map.2 ⟨n, h, rfl⟩, hl n h, Int.le_refl _, Int.le_refl _⟩
theorem allI_pos (a b : Nat) : ∀ x ∈ allI a b, 0 ≤ x := fun x hx => by
  have := (allI_mem a b x).1 hx
  have hs : split = 1099511627776 := rfl
  omega
theorem idsP_rt (m o : List (List Int)) (P : Int → Prop) : Sp.Rt 0 (idsP m o P) := Sp.nf_rt _
theorem idsP_has (m o : List (List Int)) (P : Int → Prop) (n : Int) : Sp.has (idsP m o P) n ↔ inT m o n ∧ P n := by
  classical
  unfold idsP
  rw [Sp.nf_has, has_ones _ _ (fun x hx => allI_pos _ _ x (List.mem_filter.1 hx).1)]
  simp only [List.mem_filter, decide_eq_true_iff, allI_hasI]
theorem idsP_len (m o : List (List Int)) (P : Int → Prop) : (idsP m o P).length ≤ m.length + o.length := by
  classical
  unfold idsP
  refine Nat.le_trans (Sp.nf_len _) ?_
  rw [List.length_map]
  refine Nat.le_trans (List.length_filter_le _ _) ?_
  rw [allI_len]; omega
theorem idsP_ok {m o : List (List Int)} (h : TOK m o) (P : Int → Prop) : Sp.Ok (idsP m o P) := Sp.ok_of (idsP_rt m o P) (by omega) fun n hn => by
  have := inT_range h ((idsP_has m o P n).1 hn).1; omega
theorem idsP_eq {m o : List (List Int)} {P : Int → Prop} {l : List Sp.S} (h : Sp.Rt 0 l) (hn : ∀ n, Sp.has l n ↔ inT m o n ∧ P n) : l = idsP m o P :=
  Sp.eqv h (idsP_rt m o P) fun n => by rw [hn, idsP_has]
/-! the questions -/
section
variable (m o : List (List Int)) (s : List Sp.S)
def pP (p : Int) : Prop := ∃ x, inT m o x ∧ Sp.has s x ∧ p ∈ parI m o x
def cP (c : Int) : Prop := ∃ p ∈ parI m o c, Sp.has s p
def aP (a : Int) : Prop := ∃ b, inT m o b ∧ Sp.has s b ∧ Leads m o a b
def dP (d : Int) : Prop := ∃ a, inT m o a ∧ Sp.has s a ∧ Leads m o a d
end
end Gv.Tryz

/- Contracts: small functions over spans. -/
set_option linter.unusedVariables false
set_option maxRecDepth 20000
set_option linter.unusedSimpArgs false
namespace Gv.Tryz
open Go Gv Go.Proofs

theorem sBeyond (s x : Sp.S) (h1 : -9223372036854775808 ≤ s.1 ∧ s.1 ≤ 9223372036854775807) (h2 : -9223372036854775808 ≤ x.2 ∧ x.2 ≤ 9223372036854775807) :
    GPure Tryz.prog 71 [.agg (spG s), .agg (spG x)] (.bool (decide (x.2 + 1 < s.1))) := by
  refine h71.pure mixS (by simp) ?_
  simp only [gstart, s71, List.cons_append, List.nil_append, List.length_cons, List.length_nil, Nat.reduceAdd, Nat.reduceSub, List.replicate_succ, List.replicate_zero]
  unfold spG
  simp +contextual -implicitDefEqProofs (maxSteps := 2000000) (disch := omega) only [binV, ↓loadV, ↓fieldAddrV, ↓boxV, GVal.cells, grp, GVal.ofConst, ↓resV, resG, List.map, List.headD, List.take, List.drop, ↓reduceIte, Nat.reduceEqDiff, Nat.reduceAdd, Nat.reduceSub, Nat.reduceLeDiff, reduceCtorEq, implies_true, ne_eq, Tag.cap, List.replicate, allSolid, GVal.solid, Nat.reduceBEq, Nat.reduceMul, Nat.reduceLT, List.length_map, List.length_range, splice, vcA, ↓vcB, vcC, fbFz, e71]
  trace_state
  exact ⟨fun h => by simp; omega, fun h => by simp; omega⟩

theorem sPick (n m : Int) (hm : 0 < m) (hm2 : m ≤ 1000000000) : GPure Tryz.prog 5 [.int .i64 n, .int .i64 m] (.int .i64 (n % m)) := by
  refine h5.pure mixS (by simp) ?_
  simp only [gstart, s5, List.cons_append, List.nil_append, List.length_cons, List.length_nil, Nat.reduceAdd, Nat.reduceSub, List.replicate_succ, List.replicate_zero]
  simp +contextual -implicitDefEqProofs (maxSteps := 2000000) (disch := omega) only [binV, GVal.cells, grp, GVal.ofConst, ↓resV, resG, List.map, List.headD, List.take, List.drop, ↓reduceIte, Nat.reduceEqDiff, Nat.reduceAdd, Nat.reduceSub, Nat.reduceLeDiff, reduceCtorEq, implies_true, ne_eq, Tag.cap, List.replicate, allSolid, GVal.solid, Nat.reduceBEq, Nat.reduceMul, Nat.reduceLT, List.length_map, List.length_range, splice, vcA, ↓vcB, vcC, fbFz, e5]
  obtain ⟨h1, h2⟩ := tmod_pick n m hm
  have h3 := Int.emod_nonneg n (by omega : m ≠ 0)
  have h4 := Int.emod_lt_of_pos n hm
  exact ⟨by omega, fun h => by rw [h1 h, norm_i64 (by omega)], h2⟩
end Gv.Tryz
/- Contracts: tests over spans; the law's set. -/
set_option linter.unusedVariables false
set_option linter.unusedSimpArgs false
set_option maxRecDepth 20000
set_option maxHeartbeats 4000000
namespace Gv.Tryz
open Go Gv Go.Proofs

theorem cellsEq_pair (a b c d : Int) : cellsEq [Sk.int, Sk.int] [.int .i64 a, .int .i64 b] [.int .i64 c, .int .i64 d] = some (decide (a = c) && decide (b = d)) := by
  simp only [cellsEq, ceq, if_true, Bool.and_true]; rfl

theorem sSameSpans (a b : List Sp.S) (ta tb : Tag) (ha : a.length ≤ 17592186044416) : GPure Tryz.prog 12 [.slice (spl a) ta, .slice (spl b) tb] (.bool (decide (a = b))) := by
  refine h12.pure mixS (by simp) ?_
  simp only [gstart, s12, List.cons_append, List.nil_append, List.length_cons, List.length_nil, Nat.reduceAdd, Nat.reduceSub, List.replicate_succ, List.replicate_zero]
  simp +contextual -implicitDefEqProofs (maxSteps := 2000000) (disch := omega) only [drawC, drawK, keepT, ↓lenV, binV, ↓loadV, ↓indexAddrV, GVal.cells, grp, GVal.ofConst, ↓resV, resG, List.map, List.headD, List.take, List.drop, ↓reduceIte, Nat.reduceEqDiff, Nat.reduceAdd, Nat.reduceSub, Nat.reduceLeDiff, reduceCtorEq, implies_true, ne_eq, aggV, Tag.cap, List.replicate, allSolid, GVal.solid, Nat.reduceBEq, Nat.reduceMul, Nat.reduceLT, List.length_map, List.length_range, splice, vcA, ↓vcB, vcC, fbFz, e12, spl_length]
  refine ⟨fun h => (decide_eq_false (fun e => h (by rw [e]))).symm, fun h => ?_⟩
  have hlen : a.length = b.length := by omega
  refine vcSLoop_by (ι := { k : Nat // k ≤ a.length ∧ ∀ j, j < k → a.getD j (0, 0) = b.getD j (0, 0) }) (fun k => ⟨[.slice (spl a) ta, .slice (spl b) tb, .any, .any, .any, .int .i64 (k.1 : Nat)] ++ List.replicate 20 .any, []⟩) (fun k => a.length - k.1) ?_ ?_
  · exact Into.first ⟨0, by omega, by omega⟩ ⟨[], by simp⟩ (by simp [WL, leG_self, leG_any])
  · rintro ⟨k, hk, hj⟩
    by_cases h : k < a.length
    · have d0 : ((k : Int) < (a.length : Int)) = True := eq_true (by omega)
      have eA := spl_at a k h
      have eB := spl_at b k (by omega)
      simp +contextual -implicitDefEqProofs (maxSteps := 2000000) (disch := omega) only [drawC, drawK, keepT, ↓lenV, binV, ↓loadV, ↓indexAddrV, GVal.cells, grp, GVal.ofConst, ↓resV, resG, List.map, List.headD, List.take, List.drop, ↓reduceIte, Nat.reduceEqDiff, Nat.reduceAdd, Nat.reduceSub, Nat.reduceLeDiff, reduceCtorEq, implies_true, ne_eq, aggV, Tag.cap, List.replicate, allSolid, GVal.solid, Nat.reduceBEq, Nat.reduceMul, Nat.reduceLT, List.length_map, List.length_range, splice, vcA, ↓vcB, vcC, fbFz, e12, spl_length, d0, eA, eB, spG, cellsEq_pair]
      refine ⟨by omega, by omega, by omega, ?_⟩
      by_cases e : a.getD k (0, 0) = b.getD k (0, 0)
      · have e1 : (decide ((a.getD k (0, 0)).1 = (b.getD k (0, 0)).1) && decide ((a.getD k (0, 0)).2 = (b.getD k (0, 0)).2)) = true := by rw [e]; simp
        rw [e1]
        refine Into.at ⟨k + 1, by omega, fun j hj' => ?_⟩ (by show _ < _; simp; omega) ⟨[], by simp⟩ (by simp [WL, leG_self, leG_any, leG_int])
        by_cases ej : j = k
        · rw [ej, e]
        · exact hj j (by omega)
      · have e1 : (decide ((a.getD k (0, 0)).1 = (b.getD k (0, 0)).1) && decide ((a.getD k (0, 0)).2 = (b.getD k (0, 0)).2)) = false := by
          rw [Bool.eq_false_iff]; intro e'; simp at e'; exact e (Prod.ext e'.1 e'.2)
        rw [e1]
        exact (decide_eq_false (fun e' => e (by rw [e']))).symm
    · have d0 : ((k : Int) < (a.length : Int)) = False := eq_false (by omega)
      simp +contextual -implicitDefEqProofs (maxSteps := 2000000) (disch := omega) only [drawC, drawK, keepT, ↓lenV, binV, ↓loadV, ↓indexAddrV, GVal.cells, grp, GVal.ofConst, ↓resV, resG, List.map, List.headD, List.take, List.drop, ↓reduceIte, Nat.reduceEqDiff, Nat.reduceAdd, Nat.reduceSub, Nat.reduceLeDiff, reduceCtorEq, implies_true, ne_eq, aggV, Tag.cap, List.replicate, allSolid, GVal.solid, Nat.reduceBEq, Nat.reduceMul, Nat.reduceLT, List.length_map, List.length_range, splice, vcA, ↓vcB, vcC, fbFz, e12, spl_length, d0]
      refine (decide_eq_true ?_).symm
      apply List.ext_getElem hlen
      intro i h3 h4
      have := hj i (by omega)
      simpa [List.getD, h3, h4] using this

end Gv.Tryz
/- slices.SortFunc over rows of structs, as a contract over ghost values. -/
set_option linter.unusedVariables false
namespace Gv
open Go Go.Proofs Go.Shelf Go.RowKit Go.Lib Go.Sort

section
variable {P : Program} {ρ : Ren}
set_option maxHeartbeats 2000000 in
theorem insertion_none (L : SlLaysF0.n20 P ρ) (p : Option Addr) (cap : Nat) (fv : Value) (w : World) :
    Calls P (ρ.f 20) #[.slice p 0 cap, .int .i64 0, .int .i64 0, fv] w fun e w' => e = .returned (.tuple #[]) ∧ w' = w := by
  have mixed := L.mixed; have t0 := L.t0; have a0 := L.a0; have z0 := L.z0; have v0 := L.v0; have t3 := L.t3; have a3 := L.a3; have z3 := L.z3; have v3 := L.v3; have t4 := L.t4; have a4 := L.a4; have z4 := L.z4; have v4 := L.v4; have t22 := L.t22; have a22 := L.a22; have z22 := L.z22; have v22 := L.v22; have t25 := L.t25; have a25 := L.a25; have z25 := L.z25; have v25 := L.v25
  obtain ⟨_, _, FG⟩ := L.f20
  go_enter FG, SlBodyF.n20_ntmps ρ
  go_wp2
  refine wp_loop_rounds 1 ?_
  rw [rounds_succ]
  go_wp2
  go_end0
  exact ⟨rfl, rfl⟩

set_option maxHeartbeats 2000000 in
theorem pdq_none (L : SlLaysF0.n14 P ρ) (p : Option Addr) (cap : Nat) (lim : Int) (fv : Value) (w : World) :
    Calls P (ρ.f 14) #[.slice p 0 cap, .int .i64 0, .int .i64 0, .int .i64 lim, fv] w fun e w' => e = .returned (.tuple #[]) ∧ w' = w := by
  have mixed := L.mixed; have t0 := L.t0; have a0 := L.a0; have z0 := L.z0; have v0 := L.v0; have t3 := L.t3; have a3 := L.a3; have z3 := L.z3; have v3 := L.v3; have t4 := L.t4; have a4 := L.a4; have z4 := L.z4; have v4 := L.v4; have t5 := L.t5; have a5 := L.a5; have z5 := L.z5; have v5 := L.v5; have t9 := L.t9; have a9 := L.a9; have z9 := L.z9; have v9 := L.v9; have t22 := L.t22; have a22 := L.a22; have z22 := L.z22; have v22 := L.v22; have t25 := L.t25; have a25 := L.a25; have z25 := L.z25; have v25 := L.v25; have t39 := L.t39; have a39 := L.a39; have z39 := L.z39; have v39 := L.v39; have t45 := L.t45; have a45 := L.a45; have z45 := L.z45; have v45 := L.v45; have t46 := L.t46; have a46 := L.a46; have z46 := L.z46; have v46 := L.v46; have t50 := L.t50; have a50 := L.a50; have z50 := L.z50; have v50 := L.v50; have t53 := L.t53; have a53 := L.a53; have z53 := L.z53; have v53 := L.v53; have t55 := L.t55; have a55 := L.a55; have z55 := L.z55; have v55 := L.v55; have t66 := L.t66; have a66 := L.a66; have z66 := L.z66; have v66 := L.v66; have t70 := L.t70; have a70 := L.a70; have z70 := L.z70; have v70 := L.v70; have t76 := L.t76; have a76 := L.a76; have z76 := L.z76; have v76 := L.v76; have t77 := L.t77; have a77 := L.a77; have z77 := L.z77; have v77 := L.v77
  have e20 : ∀ args w, (callFunc (ρ.f 20) args).run P w = .ok (.enter (ρ.f 20) args) w := L.f20.enters rfl
  have hi := fun W => insertion_none (P := P) (ρ := ρ) { L with } p cap fv W
  obtain ⟨_, _, FG⟩ := L.f14
  go_enter FG, SlBodyF.n14_ntmps ρ
  go_wp2
  refine wp_loop_rounds 1 ?_
  rw [rounds_succ]
  go_wp2_with (go_at_fn (ρ.f 20); refine (hi _).mono ?_; rintro e w' ⟨rfl, rfl⟩)
  (try simp only [Exit.inBlock, Exit.then]); refine bodyPost_ret (results_none rfl _ _ _) rfl ?_
  exact ⟨rfl, rfl⟩

set_option maxHeartbeats 2000000 in
theorem sort_none (L : SlLaysF0.n6 P ρ) (p : Option Addr) (cap : Nat) (fv : Value) (w : World) :
    Calls P (ρ.f 6) #[.slice p 0 cap, fv] w fun e w' => e = .returned (.tuple #[]) ∧ w' = w := by
  have mixed := L.mixed; have t0 := L.t0; have a0 := L.a0; have z0 := L.z0; have v0 := L.v0; have t3 := L.t3; have a3 := L.a3; have z3 := L.z3; have v3 := L.v3; have t4 := L.t4; have a4 := L.a4; have z4 := L.z4; have v4 := L.v4; have t5 := L.t5; have a5 := L.a5; have z5 := L.z5; have v5 := L.v5; have t9 := L.t9; have a9 := L.a9; have z9 := L.z9; have v9 := L.v9; have t22 := L.t22; have a22 := L.a22; have z22 := L.z22; have v22 := L.v22; have t25 := L.t25; have a25 := L.a25; have z25 := L.z25; have v25 := L.v25; have t39 := L.t39; have a39 := L.a39; have z39 := L.z39; have v39 := L.v39; have t45 := L.t45; have a45 := L.a45; have z45 := L.z45; have v45 := L.v45; have t46 := L.t46; have a46 := L.a46; have z46 := L.z46; have v46 := L.v46; have t50 := L.t50; have a50 := L.a50; have z50 := L.z50; have v50 := L.v50; have t53 := L.t53; have a53 := L.a53; have z53 := L.z53; have v53 := L.v53; have t55 := L.t55; have a55 := L.a55; have z55 := L.z55; have v55 := L.v55; have t66 := L.t66; have a66 := L.a66; have z66 := L.z66; have v66 := L.v66; have t70 := L.t70; have a70 := L.a70; have z70 := L.z70; have v70 := L.v70; have t76 := L.t76; have a76 := L.a76; have z76 := L.z76; have v76 := L.v76; have t77 := L.t77; have a77 := L.a77; have z77 := L.z77; have v77 := L.v77
  have e14 : ∀ args w, (callFunc (ρ.f 14) args).run P w = .ok (.enter (ρ.f 14) args) w := L.f14.enters rfl
  have e15 : ∀ args w, (callFunc (ρ.f 15) args).run P w = .ok (.enter (ρ.f 15) args) w := enters_of L.f15 (by kernel_rfl) rfl
  have hp := fun lim W => pdq_none (P := P) (ρ := ρ) { L with } p cap lim fv W
  have hl : ∀ W, Calls P (ρ.f 15) #[.int .u64 0] W fun e w' => e = .returned (.int .i64 (Lib.bitLen 0 : Nat)) ∧ w' = W := fun W => by
    have h := Any.bits_Len (SlLaysF0.n15.bits (P := P) (ρ := ρ) { L with }) 0 W (by omega) (by omega)
    exact h
  obtain ⟨_, _, FG⟩ := L.f6
  go_enter FG, SlBodyF.n6_ntmps ρ
  go_wp2_with (first | (go_at_fn (ρ.f 15); refine (hl _).mono ?_; rintro e w' ⟨rfl, rfl⟩) | (go_at_fn (ρ.f 14); refine (hp _ _).mono ?_; rintro e w' ⟨rfl, rfl⟩))
  go_end0
  exact ⟨rfl, rfl⟩
end

theorem flatMap_at {α : Type} (G : α → List GVal) (k : Nat) (hG : ∀ x, (G x).length = k) : ∀ (xs : List α) (t : Nat), (xs.map G).flatten[t]? = (xs[t / k]?).bind fun x => (G x)[t % k]?
  | [], t => by simp
  | x :: r, t => by
    rw [List.map_cons, List.flatten_cons]
    by_cases h : t < k
    · rw [List.getElem?_append_left (by rw [hG]; exact h), Nat.div_eq_of_lt h, Nat.mod_eq_of_lt h]
      rfl
    · rw [List.getElem?_append_right (by rw [hG]; omega), hG, flatMap_at G k hG r]
      by_cases hk : k = 0
      · subst hk
        have : ∀ y, G y = [] := fun y => List.eq_nil_of_length_eq_zero (hG y)
        simp [this]
      · have e : t = (t - k) + k := by omega
        have e1 : t / k = (t - k) / k + 1 := by
          conv => lhs; rw [e]
          rw [Nat.add_div_right _ (by omega)]
        have e2 : t % k = (t - k) % k := by
          conv => lhs; rw [e]
          rw [Nat.add_mod_right]
        rw [e1, e2, List.getElem?_cons_succ]

section
variable {α : Type} [Inhabited α]
theorem sortWorld_at (enc : α → List Value) (k : Nat) (w : World) (blk off m : Nat) (dk : Array α) (os : Array Obj) {cur : Array Value} {el : TypeId} {fr : Nat × Nat} (hc : w.heap[blk]? = some (.cells cur el fr)) :
    (sortWorldK enc k w blk off m dk os).os = w.os ∧ (sortWorldK enc k w blk off m dk os).output = w.output ∧ w.heap.size ≤ (sortWorldK enc k w blk off m dk os).heap.size ∧
    (∀ b, b < w.heap.size → b ≠ blk → (sortWorldK enc k w blk off m dk os).heap[b]? = w.heap[b]?) ∧
    (sortWorldK enc k w blk off m dk os).heap[blk]? = some (.cells (putCells id off (flatK enc k dk) cur) el fr) := by
  have e : (sortWorldK enc k w blk off m dk os).heap = (w.heap.modify blk (onCells (putCells id off (flatK enc k dk)))) ++ os := rfl
  have hlt := (Array.getElem?_eq_some_iff.1 hc).1
  refine ⟨rfl, rfl, by rw [e]; simp, fun b hb hn => ?_, ?_⟩
  · rw [e, Array.getElem?_append, if_pos (by simpa using hb), Array.getElem?_modify, if_neg (fun h => hn h.symm)]
  · rw [e, Array.getElem?_append, if_pos (by simpa using hlt), Array.getElem?_modify, if_pos rfl, hc]; rfl

theorem putCells_at (off : Nat) (d : Array Value) (c : Array Value) (j : Nat) (hj : j < d.size) (hc : off + j < c.size) : (putCells id off d c)[off + j]? = some d[j]! := by
  simp only [putCells, Array.getElem?_mapIdx, Array.getElem?_eq_getElem hc, Option.map_some]
  rw [if_pos ⟨by omega, by omega⟩, show off + j - off = j by omega]; rfl
theorem putCells_size (off : Nat) (d : Array Value) (c : Array Value) : (putCells id off d c).size = c.size := by simp [putCells]
theorem getBang_of {β : Type} [Inhabited β] {l : List β} {i : Nat} {x : β} (h : l[i]? = some x) : l[i]! = x := by simp [h]
end

theorem set_same {β : Type} {l : List β} {i : Nat} {x : β} (h : l[i]? = some x) : l.set i x = l := by
  apply List.ext_getElem?
  intro j
  rw [List.getElem?_set]
  by_cases e : i = j
  · subst e; rw [if_pos rfl, h, if_pos (List.getElem?_eq_some_iff.1 h).1]
  · rw [if_neg e]

theorem gcalls_sort {P : Program} {ρ : Ren} {α : Type} [Inhabited α] (L : SlLaysF0.n6 P ρ) (k : Nat) (aE : ∀ w, (isAgg (ρ.t 24)).run P w = .ok true w) (zE : ∀ w, (Go.sizeOf (ρ.t 24)).run P w = .ok k w)
    (enc : α → List Value) (G : α → List GVal) (hk : ∀ x, (enc x).length = k) (h1 : ∀ x, ∀ v ∈ enc x, v.oneCell' = true) (hG : ∀ x, (G x).length = k)
    (hdet : ∀ E x (j : Nat) g v, (G x)[j]? = some g → VR E v g → (enc x)[j]? = some v) (hback : ∀ E x (j : Nat) g, (G x)[j]? = some g → ∃ v, (enc x)[j]? = some v ∧ VR E v g)
    (cf : α → α → Int) (hO : SWO (ltOf cf)) (c : FuncId) (eg : ∀ args w, (callFunc c args).run P w = .ok (.enter c args) w)
    (hcmp : ∀ x y W, Calls P c #[.agg (enc x).toArray, .agg (enc y).toArray] W fun e w' => e = .returned (.int .i64 (cf x y)) ∧ ∃ q os', w' = grow (W.drewN q) os')
    (hen : enterable P (ρ.f 6) = true) (xs : List α) (hsz : xs.length < 4611686018427387904) {O : List GObj} {o st : Nat} (hOo : O[o]? = some (.row st k (xs.map G))) (hc : clockOf O = none) :
    GCalls P (ρ.f 6) [.own o st 0 xs.length, .func (.func c) [] []] O (fun r O' => r = .tuple [] ∧ ∃ ys : List α, ys.Perm xs ∧ ys.Pairwise (fun a b => ¬ cf b a < 0) ∧ O' = O.set o (.row st k (ys.map G))) := by
  refine ⟨hen, fun E w vs hs ha => ?_⟩
  obtain ⟨hvs, hva⟩ := ha
  have h2 : vs.size = 2 := hvs
  have hv0 := hva 0 _ rfl
  have hv1 := hva 1 _ rfl
  obtain ⟨v0, v1, rfl⟩ : ∃ a b, vs = #[a, b] := by
    refine ⟨vs[0], vs[1], Array.ext (by simp [h2]) fun i a b => ?_⟩
    have : i = 0 ∨ i = 1 := by omega
    rcases this with rfl | rfl <;> rfl
  have e0 : (#[v0, v1] : Array Value).getD 0 undef = v0 := rfl
  have e1 : (#[v0, v1] : Array Value).getD 1 undef = v1 := rfl
  rw [e0] at hv0; rw [e1] at hv1
  clear hva hvs h2 e0 e1
  cases hv1 with
  | func _ fs cs _ _ hf hkk hfs hcs =>
    have ef : fs = #[] := Array.eq_empty_of_size_eq_zero hf
    have ec : cs = #[] := Array.eq_empty_of_size_eq_zero hkk
    subst ef; subst ec
    have hreal := hs.real _ _ hOo
    cases hv0 with
    | own a _ cap _ _ _ l hl hcap hadr =>
      obtain ⟨l', hl', hsz', hrow, hm⟩ := hreal
      rw [hl] at hl'; cases hl'
      by_cases hx : xs = []
      · subst hx
        refine (sort_none L a cap _ w).mono ?_
        rintro e w' ⟨rfl, rfl⟩
        exact ⟨_, E, O, .tuple [], rfl, hs, .refl _ _ _, .tuple _ _ rfl (fun j g h => by simp at h), rfl, [], .refl _, .nil, (set_same hOo).symm⟩
      · have hpos : 0 < xs.length := List.length_pos_iff.2 hx
        rcases hadr with h0 | ⟨b, hb, rfl, htot⟩
        · omega
        rw [hb] at hm
        obtain ⟨cur, el, hw, hcs', hle, hrows, hsn⟩ := hm
        have hmul : (0 : Nat) * l.size = 0 := Nat.zero_mul _
        rw [hmul, Nat.add_zero]
        have hle' : l.off + xs.length * k ≤ cur.size := by rw [hcs']; simpa using hle
        have hlt := (Array.getElem?_eq_some_iff.1 hw).1
        have hcell : ∀ t, t < xs.length * k → ∃ v, cur[l.off + t]? = some v ∧ (flatK enc k xs.toArray)[t]! = v := fun t ht => by
          have hk0 : 0 < k := Nat.pos_of_ne_zero fun e => by subst e; simp at ht
          have hd : t / k < xs.length := Nat.div_lt_of_lt_mul (by rw [Nat.mul_comm]; exact ht)
          have hmd : t % k < k := Nat.mod_lt _ hk0
          have hx? : xs[t / k]? = some xs[t / k] := List.getElem?_eq_getElem hd
          have hg : (G xs[t / k])[t % k]? = some ((G xs[t / k])[t % k]'(by rw [hG]; exact hmd)) := List.getElem?_eq_getElem _
          obtain ⟨v, q1, _, q3⟩ := hrows t _ (by rw [flatMap_at G k hG, hx?]; exact hg)
          refine ⟨v, q1, ?_⟩
          rw [get_flatK _ _ _ _ (by simpa using ht)]
          have := hdet E _ _ _ _ hg q3
          have e1 : xs.toArray[t / k]! = xs[t / k] := by
            rw [getElem!_pos _ _ (by simpa using hd)]; rfl
          rw [e1]; exact getBang_of this
        have hH : HoldsK enc k w b l.off xs.toArray := fun t ht => by
          have ht' : t < xs.length * k := by simpa using ht
          obtain ⟨v, q1, q2⟩ := hcell t ht'
          refine ⟨?_, ?_⟩
          · show w.cell? _ = some (flatK enc k xs.toArray)[t]!
            rw [q2]; simp [World.cell?, hw, q1]
          · simp [World.frozen?, hw]
        have hcmp' : CmpLays P c #[] enc k cf b l.off xs.toArray.size w := fun m os dk _ x y => hcmp x y _
        refine (AnyQ.slices_SortFunc L k aE zE enc hk h1 cf hO c #[] b l.off cap xs.toArray w eg hcmp' hH hlt (by simpa using hsz)).mono ?_
        rintro e w' ⟨rfl, d', n, os, ⟨p1, p2, p3⟩, hsort, rfl⟩
        have hlen : d'.size = xs.length := by simpa using p1
        have hperm : d'.toList.Perm xs := by
          have q1 : d'.extract 0 xs.toArray.size = d' := by rw [← p1]; simp
          have q2 : xs.toArray.extract 0 xs.toArray.size = xs.toArray := by simp
          rw [q1, q2] at p3; exact p3
        have hpw : d'.toList.Pairwise (fun a b => ¬ cf b a < 0) := by
          rw [List.pairwise_iff_getElem]
          intro i j hi hj hij
          have := hsort i j (Nat.zero_le _) hij (by simp at hj; rw [← p1]; exact hj)
          rw [getElem!_pos d' j (by simpa using hj), getElem!_pos d' i (by simpa using hi)] at this
          simpa [ltOf] using this
        obtain ⟨s1, s2, s3, s4, s5⟩ := sortWorld_at enc k w b l.off n d' os hw
        have hup := hs.upd (E' := E) (w' := sortWorldK enc k w b l.off n d' os) (obj' := .row st k (d'.toList.map G)) (b := b) (t := b) hOo (.inl (by simp [GObj.blk, hl, hb])) (.inl rfl) (.refl E) hs.fin ⟨rfl, rfl⟩ s1 ⟨s2, trivial⟩ s3 s4 (fun _ _ _ _ hv => hv)
          (fun o v hv => by rw [hsn o] at hv; cases hv)
          (by
            refine ⟨l, hl, hsz', fun y hy => ?_, ?_⟩
            · obtain ⟨z, _, rfl⟩ := List.mem_map.1 hy; exact hG z
            rw [hb]
            refine ⟨_, el, s5, by rw [putCells_size]; exact hcs', by simp [hlen]; rw [← hcs']; exact hle', fun j g hj => ?_, hsn⟩
            rw [flatMap_at G k hG] at hj
            cases hq : d'.toList[j / k]? with
            | none => rw [hq] at hj; cases hj
            | some x =>
              rw [hq] at hj
              have hj' : (G x)[j % k]? = some g := hj
              obtain ⟨v, q1, q2⟩ := hback E x _ g hj'
              have hi : j / k < d'.size := by simpa using (List.getElem?_eq_some_iff.1 hq).1
              have hk0 : 0 < k := Nat.pos_of_ne_zero fun e => by
                have := (List.getElem?_eq_some_iff.1 hj').1; rw [hG, e] at this; omega
              have hjk : j < d'.size * k := (Nat.div_lt_iff_lt_mul hk0).1 hi
              have e3 : d'[j / k]! = x := by
                rw [getElem!_pos d' (j / k) hi]
                have := (List.getElem?_eq_some_iff.1 hq).2
                simpa using this
              refine ⟨v, ?_, h1 x v (List.mem_of_getElem? q1), q2⟩
              rw [putCells_at l.off _ _ j (by simpa using hjk) (by rw [hlen] at hjk; omega), get_flatK _ _ _ _ hjk, e3, getBang_of q1])
          (fun kk hkk => by simp [GObj.blk, hl, hb] at hkk; exact hkk.symm)
        exact ⟨_, E, _, .tuple [], rfl, hup.1, hup.2, .tuple _ _ rfl (fun j g h => by simp at h), rfl, d'.toList, hperm, hpw, rfl⟩
end Gv
/- slices.SortFunc of spans by their low ends, as a contract. -/
set_option linter.unusedVariables false
set_option maxRecDepth 100000
namespace Go.Proofs
open Go.Shelf
def Tryz.sortSp_ren : Go.Shelf.Ren := ⟨fun | 6 => 68 | 15 => 87 | 14 => 86 | 28 => 106 | 29 => 107 | 20 => 98 | 21 => 99 | 22 => 100 | 23 => 101 | 24 => 102 | 25 => 103 | 26 => 104 | 27 => 105 | 46 => 110 | 47 => 111 | 48 => 112 | 49 => 113 | 50 => 114 | 57 => 116 | n => n, fun | 22 => 39 | 24 => 59 | 25 => 84 | 3 => 3 | 39 => 99 | 0 => 0 | 53 => 115 | 55 => 117 | 4 => 4 | 46 => 109 | 45 => 108 | 50 => 71 | 5 => 5 | 9 => 9 | 66 => 120 | 70 => 124 | 76 => 127 | 77 => 128 | n => n, fun | n => n⟩
theorem Tryz.sortSp : Go.Proofs.SlLaysF0.n6 Tryz.prog Tryz.sortSp_ren := {
  mixed := by kernel_rfl
  f6 := ⟨Tryz.f68.name, by decide, Tryz.func68.trans (congrArg some (by kernel_rfl))⟩
  f14 := ⟨Tryz.f86.name, by decide, Tryz.func86.trans (congrArg some (by kernel_rfl))⟩
  f15 := Tryz.func87.trans (congrArg some (by kernel_rfl))
  f20 := ⟨Tryz.f98.name, by decide, Tryz.func98.trans (congrArg some (by kernel_rfl))⟩
  f21 := ⟨Tryz.f99.name, by decide, Tryz.func99.trans (congrArg some (by kernel_rfl))⟩
  f22 := ⟨Tryz.f100.name, by decide, Tryz.func100.trans (congrArg some (by kernel_rfl))⟩
  f23 := ⟨Tryz.f101.name, by decide, Tryz.func101.trans (congrArg some (by kernel_rfl))⟩
  f24 := ⟨Tryz.f102.name, by decide, Tryz.func102.trans (congrArg some (by kernel_rfl))⟩
  f25 := ⟨Tryz.f103.name, by decide, Tryz.func103.trans (congrArg some (by kernel_rfl))⟩
  f26 := ⟨Tryz.f104.name, by decide, Tryz.func104.trans (congrArg some (by kernel_rfl))⟩
  f27 := ⟨Tryz.f105.name, by decide, Tryz.func105.trans (congrArg some (by kernel_rfl))⟩
  f28 := Tryz.func106.trans (congrArg some (by kernel_rfl))
  f29 := Tryz.func107.trans (congrArg some (by kernel_rfl))
  f46 := ⟨Tryz.f110.name, by decide, Tryz.func110.trans (congrArg some (by kernel_rfl))⟩
  f47 := Tryz.func111.trans (congrArg some (by kernel_rfl))
  f48 := Tryz.func112.trans (congrArg some (by kernel_rfl))
  f49 := ⟨Tryz.f113.name, by decide, Tryz.func113.trans (congrArg some (by kernel_rfl))⟩
  f50 := ⟨Tryz.f114.name, by decide, Tryz.func114.trans (congrArg some (by kernel_rfl))⟩
  f57 := ⟨Tryz.f116.name, by decide, Tryz.func116.trans (congrArg some (by kernel_rfl))⟩
  t0 := Tryz.underlying0
  a0 := Tryz.isAgg0
  z0 := Tryz.sizeOf0
  v0 := Tryz.zeroValue0
  t3 := Tryz.underlying3
  a3 := Tryz.isAgg3
  z3 := Tryz.sizeOf3
  v3 := Tryz.zeroValue3
  t4 := Tryz.underlying4
  a4 := Tryz.isAgg4
  z4 := Tryz.sizeOf4
  v4 := Tryz.zeroValue4
  t5 := Tryz.underlying5
  a5 := Tryz.isAgg5
  z5 := Tryz.sizeOf5
  v5 := Tryz.zeroValue5
  t9 := Tryz.underlying9
  a9 := Tryz.isAgg9
  z9 := Tryz.sizeOf9
  v9 := Tryz.zeroValue9
  t22 := Tryz.underlying39
  a22 := Tryz.isAgg39
  z22 := Tryz.sizeOf39
  v22 := Tryz.zeroValue39
  t25 := Tryz.underlying84
  a25 := Tryz.isAgg84
  z25 := Tryz.sizeOf84
  v25 := Tryz.zeroValue84
  t39 := Tryz.underlying99
  a39 := Tryz.isAgg99
  z39 := Tryz.sizeOf99
  v39 := Tryz.zeroValue99
  t45 := Tryz.underlying108
  a45 := Tryz.isAgg108
  z45 := Tryz.sizeOf108
  v45 := Tryz.zeroValue108
  t46 := Tryz.underlying109
  a46 := Tryz.isAgg109
  z46 := Tryz.sizeOf109
  v46 := Tryz.zeroValue109
  t50 := Tryz.underlying71
  a50 := Tryz.isAgg71
  z50 := Tryz.sizeOf71
  v50 := Tryz.zeroValue71
  t53 := Tryz.underlying115
  a53 := Tryz.isAgg115
  z53 := Tryz.sizeOf115
  v53 := Tryz.zeroValue115
  t55 := Tryz.underlying117
  a55 := Tryz.isAgg117
  z55 := Tryz.sizeOf117
  v55 := Tryz.zeroValue117
  t66 := Tryz.underlying120
  a66 := Tryz.isAgg120
  z66 := Tryz.sizeOf120
  v66 := Tryz.zeroValue120
  t70 := Tryz.underlying124
  a70 := Tryz.isAgg124
  z70 := Tryz.sizeOf124
  v70 := Tryz.zeroValue124
  t76 := Tryz.underlying127
  a76 := Tryz.isAgg127
  z76 := Tryz.sizeOf127
  v76 := Tryz.zeroValue127
  t77 := Tryz.underlying128
  a77 := Tryz.isAgg128
  z77 := Tryz.sizeOf128
  v77 := Tryz.zeroValue128 }
def Tryz.cmpInt_ren : Go.Shelf.Ren := ⟨fun | 5 => 70 | 7 => 88 | n => n, fun | 22 => 3 | 3 => 3 | 4 => 4 | n => n, fun | n => n⟩
theorem Tryz.cmpInt : Go.Proofs.SlLaysC2.n5 Tryz.prog Tryz.cmpInt_ren := {
  mixed := by kernel_rfl
  f5 := ⟨Tryz.f70.name, by decide, Tryz.func70.trans (congrArg some (by kernel_rfl))⟩
  f7 := ⟨Tryz.f88.name, by decide, Tryz.func88.trans (congrArg some (by kernel_rfl))⟩
  t3 := Tryz.underlying3
  a3 := Tryz.isAgg3
  z3 := Tryz.sizeOf3
  v3 := Tryz.zeroValue3
  t4 := Tryz.underlying4
  a4 := Tryz.isAgg4
  z4 := Tryz.sizeOf4
  v4 := Tryz.zeroValue4
  t22 := Tryz.underlying3
  a22 := Tryz.isAgg3
  z22 := Tryz.sizeOf3
  v22 := Tryz.zeroValue3 }
end Go.Proofs
namespace Gv.Tryz
open Go Gv Go.Proofs Go.Shelf Go.RowKit Go.Lib Go.Sort
set_option maxHeartbeats 2000000 in
theorem sortClosure (x y : Sp.S) (W : World) : Calls Tryz.prog 69 #[.agg #[.int .i64 x.1, .int .i64 x.2], .agg #[.int .i64 y.1, .int .i64 y.2]] W fun e w' => e = .returned (.int .i64 (Lib.compareInt x.1 y.1)) ∧ ∃ q os', w' = grow (W.drewN q) os' := by
  have hcon := fun W' => AnyG.cmp_Compare_int Tryz.cmpInt x.1 y.1 W'
  change ∀ W', Calls Tryz.prog 70 _ _ _ at hcon
  generalize Lib.compareInt x.1 y.1 = r at hcon ⊢
  go_enter Tryz.func69, Tryz.ntmps69
  go_wp2_with (go_at_call 70; refine (hcon _).mono ?_; rintro e w' ⟨rfl, rfl⟩)
  go_ret
  exact ⟨rfl, 0, _, by rw [alloc_eq_grow, alloc_eq_grow, grow_grow]; rfl⟩

theorem ltLo (x y : Sp.S) : ltOf (fun x y : Sp.S => Lib.compareInt x.1 y.1) x y = decide (x.1 < y.1) := by
  unfold ltOf Lib.compareInt
  by_cases h1 : x.1 < y.1
  · simp [h1]
  · by_cases h2 : y.1 < x.1 <;> simp [h1, h2]
theorem swoLo : SWO (ltOf fun x y : Sp.S => Lib.compareInt x.1 y.1) where
  irrefl x := by rw [ltLo]; simp
  trans x y z h1 h2 := by rw [ltLo] at *; simp at *; omega
  ntrans x y z h1 h2 := by rw [ltLo] at *; simp at *; omega
def encSp (s : Sp.S) : List Value := [.int .i64 s.1, .int .i64 s.2]

theorem sSort (xs : List Sp.S) (hsz : xs.length < 4611686018427387904) {O : List GObj} {o st : Nat} (hO : O[o]? = some (.row st 2 (spl xs))) (hc : clockOf O = none) :
    GCalls Tryz.prog 68 [.own o st 0 xs.length, .func (.func 69) [] []] O (fun r O' => r = .tuple [] ∧ ∃ ys : List Sp.S, ys.Perm xs ∧ ys.Pairwise (fun a b => a.1 ≤ b.1) ∧ O' = O.set o (.row st 2 (spl ys))) := by
  have h := gcalls_sort (α := Sp.S) Tryz.sortSp 2 Tryz.isAgg59 Tryz.sizeOf59 encSp spG (fun _ => rfl)
    (fun x v hv => by simp [encSp] at hv; rcases hv with rfl | rfl <;> rfl) (fun _ => rfl)
    (fun E x j g v hg hv => by
      match j, hg with
      | 0, hg => simp [spG] at hg; subst hg; cases hv; rfl
      | 1, hg => simp [spG] at hg; subst hg; cases hv; rfl
      | j + 2, hg => simp [spG] at hg)
    (fun E x j g hg => by
      match j, hg with
      | 0, hg => simp [spG] at hg; subst hg; exact ⟨_, rfl, .int _ _⟩
      | 1, hg => simp [spG] at hg; subst hg; exact ⟨_, rfl, .int _ _⟩
      | j + 2, hg => simp [spG] at hg)
    (fun x y => Lib.compareInt x.1 y.1) swoLo 69 (enters_of Tryz.func69 (by kernel_rfl) rfl) (fun x y W => sortClosure x y W) (by kernel_rfl) xs hsz hO hc
  refine h.mono ?_
  rintro g O' ⟨rfl, ys, h1, h2, rfl⟩
  refine ⟨rfl, ys, h1, h2.imp fun {a b} hab => ?_, rfl⟩
  have := ltLo b a
  unfold ltOf at this
  have h3 : decide (b.1 < a.1) = false := by rw [← this]; exact decide_eq_false hab
  have := of_decide_eq_false h3
  omega
end Gv.Tryz
/- Contract: spans.Make. -/
set_option linter.unusedVariables false
set_option linter.unusedSimpArgs false
set_option maxRecDepth 20000
set_option maxHeartbeats 4000000
namespace Gv.Tryz
open Go Gv Go.Proofs

def clampL : List Sp.S → List Sp.S
  | [] => []
  | s :: r => (if max s.1 0 ≤ s.2 then [(max s.1 0, s.2)] else []) ++ clampL r
theorem clampL_app : ∀ (a b : List Sp.S), clampL (a ++ b) = clampL a ++ clampL b
  | [], b => rfl
  | s :: r, b => by simp [clampL, clampL_app r b]
theorem clampL_step (l : List Sp.S) (k : Nat) (h : k < l.length) : clampL (l.take (k + 1)) = clampL (l.take k) ++ (if max (l.getD k (0, 0)).1 0 ≤ (l.getD k (0, 0)).2 then [(max (l.getD k (0, 0)).1 0, (l.getD k (0, 0)).2)] else []) := by
  rw [take_getD h, clampL_app]; simp [clampL]
theorem clampL_len (l : List Sp.S) : (clampL l).length ≤ l.length := by
  induction l with
  | nil => simp [clampL]
  | cons s r ih => unfold clampL; split <;> simp <;> omega
theorem clampL_take (l : List Sp.S) (k : Nat) : (clampL (l.take k)).length ≤ l.length := by
  have := clampL_len (l.take k); simp at this; omega
theorem clampL_has (n : Int) (l : List Sp.S) : Sp.has (clampL l) n ↔ Sp.has l n := by
  induction l with
  | nil => rfl
  | cons s r ih =>
    unfold clampL
    rw [Sp.has_app, ih, Sp.has_cons]
    refine or_congr ?_ Iff.rfl
    split
    · simp only [Sp.has_cons, Sp.has_nil, or_false]; omega
    · rw [Sp.has_nil]; exact ⟨False.elim, fun h => by omega⟩
theorem clampL_mem (l : List Sp.S) : ∀ s ∈ clampL l, 0 ≤ s.1 ∧ s.1 ≤ s.2 := by
  induction l with
  | nil => simp [clampL]
  | cons x r ih =>
    intro s hs
    unfold clampL at hs
    rcases List.mem_append.1 hs with h | h
    · split at h
      · simp at h; subst h; rename_i h'; exact ⟨by show 0 ≤ max _ _; omega, h'⟩
      · simp at h
    · exact ih s h
theorem clampL_ok {l : List Sp.S} (h : Sp.Ok l) : Sp.Ok (clampL l) := by
  induction l with
  | nil => exact h
  | cons x r ih =>
    intro s hs
    unfold clampL at hs
    rcases List.mem_append.1 hs with h' | h'
    · split at h'
      · simp at h'; subst h'
        have := h x (by simp)
        exact ⟨⟨by show _ ≤ max _ _; omega, by show max _ _ ≤ _; omega⟩, this.2⟩
      · simp at h'
    · exact ih (fun z hz => h z (by simp [hz])) s h'
def MOk (zs out : List Sp.S) : Prop := Sp.Rt 0 out ∧ (∀ n, Sp.has out n ↔ Sp.has zs n) ∧ (∀ x ∈ out, ∃ z ∈ zs, x.1 = z.1) ∧ out.length ≤ zs.length ∧ Sp.Ok out
theorem MOk.more {zs out : List Sp.S} (h : MOk zs out) (s : Sp.S) (hs : 0 ≤ s.1 ∧ s.1 ≤ s.2 ∧ s.2 ≤ 9223372036854775807) (hge : ∀ z ∈ zs, z.1 ≤ s.1) (hq : ∀ x, out.getLast? = some x → x.2 + 1 < s.1) : MOk (zs ++ [s]) (out ++ [s]) := by
  obtain ⟨h1, h2, h3, h4, h5⟩ := h
  refine ⟨(Sp.Rt_snoc s out 0).2 ⟨h1, hs.1, hs.2.1, fun y hy => ?_⟩, fun n => by rw [Sp.has_app, Sp.has_app, h2], fun x hx => ?_, by simp; omega, h5.app (fun x hx => by simp at hx; subst hx; omega)⟩
  · rcases List.eq_nil_or_concat out with e | ⟨A, x, e⟩
    · subst e; simp at hy
    · rw [List.concat_eq_append] at e; subst e
      have := hq x (by simp)
      rcases List.mem_append.1 hy with h | h
      · have q := ((Sp.Rt_snoc x A 0).1 h1).2.2.2 y h
        have := ((Sp.Rt_snoc x A 0).1 h1).2.2.1
        omega
      · simp at h; subst h; omega
  · rcases List.mem_append.1 hx with h | h
    · obtain ⟨z, hz, e⟩ := h3 x h; exact ⟨z, by simp [hz], e⟩
    · exact ⟨s, by simp, by simp at h; rw [h]⟩
theorem MOk.grow {zs A : List Sp.S} {x : Sp.S} (h : MOk zs (A ++ [x])) (s : Sp.S) (hs : 0 ≤ s.1 ∧ s.1 ≤ s.2 ∧ s.2 ≤ 9223372036854775807) (hge : ∀ z ∈ zs, z.1 ≤ s.1) (hq : s.1 ≤ x.2 + 1) : MOk (zs ++ [s]) (A ++ [(x.1, max x.2 s.2)]) := by
  obtain ⟨h1, h2, h3, h4, h5⟩ := h
  obtain ⟨r1, r2, r3, r4⟩ := (Sp.Rt_snoc x A 0).1 h1
  obtain ⟨z, hz, ez⟩ := h3 x (by simp)
  have hz' := hge z hz
  refine ⟨(Sp.Rt_snoc _ A 0).2 ⟨r1, r2, by show x.1 ≤ max _ _; omega, r4⟩, fun n => ?_, fun y hy => ?_, by simp at *; omega, fun y hy => ?_⟩
  · have := h2 n
    rw [Sp.has_app, Sp.has_cons, Sp.has_nil] at this
    rw [Sp.has_app, Sp.has_app, Sp.has_cons, Sp.has_cons, Sp.has_nil, ← this]
    simp only [or_false, or_assoc]
    refine or_congr Iff.rfl ?_
    omega
  · rcases List.mem_append.1 hy with h | h
    · obtain ⟨z, hz, e⟩ := h3 y (by simp [h]); exact ⟨z, by simp [hz], e⟩
    · simp at h; subst h; exact ⟨z, by simp [hz], ez⟩
  · rcases List.mem_append.1 hy with h | h
    · exact h5 y (by simp [h])
    · simp at h; subst h
      have := h5 x (by simp)
      exact ⟨this.1, by show _ ≤ max _ _; omega, by show max _ _ ≤ _; omega⟩

theorem cMake (l : List Sp.S) (t : Tag) (hl : l.length ≤ 4398046511104) (ho : Sp.Ok l) :
    GCalls Tryz.prog 47 [.slice (spl l) t] [] (fun g O' => ∃ st0 st1 ys, g = .own 1 st1 0 (Sp.nf l).length ∧ O' = [.row st0 2 (spl ys), .row st1 2 (spl (Sp.nf l))]) := by
  refine h47.calls mixS (by simp) ?_
  simp only [gstart, s47, List.cons_append, List.nil_append, List.length_cons, List.length_nil, Nat.reduceAdd, Nat.reduceSub, List.replicate_succ, List.replicate_zero]
  simp +contextual -implicitDefEqProofs (maxSteps := 2000000) (disch := omega) only [drawC, drawK, keepT, ↓lenV, binV, ↓unV, optV, ↓loadV, ↓storeV, ↓fieldAddrV, ↓indexAddrV, ↓allocV, ↓buildSliceV, ↓sliceV, ↓appendV, ↓srcV, ↓minV, bound, cutTag, hiTag, fillE, GVal.cells, grp, GVal.ofConst, ↓resV, resG, List.map, List.headD, List.take, List.drop, ↓reduceIte, Nat.reduceEqDiff, Nat.reduceAdd, Nat.reduceSub, Nat.reduceLeDiff, reduceCtorEq, implies_true, ne_eq, ↓asrcV, Tag.cap, List.replicate, allSolid, GVal.solid, Nat.reduceBEq, Nat.reduceMul, Nat.reduceLT, List.length_map, List.length_range, splice, vcA, ↓vcB, vcC, fbFz, e47, spl_length]
  refine vcSLoop_by (ι := { p : Nat × Nat // p.1 ≤ l.length }) (fun p => ⟨[.slice (spl l) t, .any, .any, .own 0 p.1.2 0 (clampL (l.take p.1.1)).length, .slice [] .nil, .any, .any, .any, .any, .any, .slice (spl l) t, .int .i64 l.length, .int .i64 (p.1.1 : Nat)] ++ List.replicate 59 .any, [.row p.1.2 2 (spl (clampL (l.take p.1.1)))]⟩) (fun p => l.length - p.1.1) ?_ ?_
  · refine Into.row 3 2 rfl rfl ?_
    simp +contextual -implicitDefEqProofs (maxSteps := 2000000) (disch := omega) only [drawC, drawK, keepT, ↓lenV, binV, ↓unV, optV, ↓loadV, ↓storeV, ↓fieldAddrV, ↓indexAddrV, ↓allocV, ↓buildSliceV, ↓sliceV, ↓appendV, ↓srcV, ↓minV, bound, cutTag, hiTag, fillE, GVal.cells, grp, GVal.ofConst, ↓resV, resG, List.map, List.headD, List.take, List.drop, ↓reduceIte, Nat.reduceEqDiff, Nat.reduceAdd, Nat.reduceSub, Nat.reduceLeDiff, reduceCtorEq, implies_true, ne_eq, ↓asrcV, Tag.cap, List.replicate, allSolid, GVal.solid, Nat.reduceBEq, Nat.reduceMul, Nat.reduceLT, List.length_map, List.length_range, splice, vcA, ↓vcB, vcC, fbFz, e47]
    intro t0
    exact Into.first ⟨(0, t0), by omega⟩ ⟨[], by simp [clampL, spl]⟩ (by simp [WL, leG_self, leG_any, clampL])
  · rintro ⟨⟨k, v⟩, hk⟩
    change k ≤ l.length at hk
    have hs := ho.at k
    have hcl := clampL_take l k
    have hk' : k = l.length → l.take k = l := fun e => by rw [e, List.take_length]
    by_cases h : k < l.length
    · have d0 : ((k : Int) < (l.length : Int)) = True := eq_true (by omega)
      have eS := spl_at l k h
      have eN := clampL_step l k h
      generalize l.getD k (0, 0) = s at *
      generalize clampL (l.take k) = A at *
      simp +contextual -implicitDefEqProofs (maxSteps := 2000000) (disch := omega) only [drawC, drawK, keepT, ↓lenV, binV, ↓unV, optV, ↓loadV, ↓storeV, ↓fieldAddrV, ↓indexAddrV, ↓allocV, ↓buildSliceV, ↓sliceV, ↓appendV, ↓srcV, ↓minV, bound, cutTag, hiTag, fillE, GVal.cells, grp, GVal.ofConst, ↓resV, resG, List.map, List.headD, List.take, List.drop, ↓reduceIte, Nat.reduceEqDiff, Nat.reduceAdd, Nat.reduceSub, Nat.reduceLeDiff, reduceCtorEq, implies_true, ne_eq, ↓asrcV, Tag.cap, List.replicate, allSolid, GVal.solid, Nat.reduceBEq, Nat.reduceMul, Nat.reduceLT, List.length_map, List.length_range, splice, vcA, ↓vcB, vcC, fbFz, e47, spl_length, d0, eS, spG, all_spl]
      refine ⟨by omega, fun st => ⟨fun h1 => ⟨by omega, by omega, by omega, fun st_1 => ?_⟩, fun h1 => ?_⟩⟩
      · rw [if_pos h1] at eN
        have eO : List.take A.length (spl A) ++ [[.int .i64 (max s.1 0), .int .i64 s.2]] = spl (clampL (l.take (k + 1))) := by
          rw [List.take_of_length_le (by rw [spl_length]; exact Nat.le_refl _), eN, spl_append, spl_one]; rfl
        have eL : A.length + 1 = (clampL (l.take (k + 1))).length := by rw [eN]; simp
        refine Into.at ⟨(k + 1, st_1), by show k + 1 ≤ _; omega⟩ (by show _ < _; simp; omega) ⟨[.row st 2 [[.int .i64 (max s.1 0), .int .i64 s.2]]], by rw [eO]; rfl⟩ ?_
        simp [WL, leG_self, leG_any, eL]
      · rw [if_neg (by omega), List.append_nil] at eN
        refine Into.at ⟨(k + 1, v), by show k + 1 ≤ _; omega⟩ (by show _ < _; simp; omega) ⟨[.row st 2 [[.int .i64 (max s.1 0), .int .i64 s.2]]], by rw [eN]; rfl⟩ ?_
        simp [WL, leG_self, leG_any, eN]
    · have e : k = l.length := by omega
      rw [hk' e] at *
      clear hk'
      subst e
      have hm := clampL_mem l
      have hh := fun n => clampL_has n l
      have hok := clampL_ok ho
      have hxl := clampL_len l
      generalize clampL l = xs at *
      have d0 : ((l.length : Int) < (l.length : Int)) = False := eq_false (by omega)
      simp +contextual -implicitDefEqProofs (maxSteps := 2000000) (disch := omega) only [drawC, drawK, keepT, ↓lenV, binV, ↓unV, optV, ↓loadV, ↓storeV, ↓fieldAddrV, ↓indexAddrV, ↓allocV, ↓buildSliceV, ↓sliceV, ↓appendV, ↓srcV, ↓minV, bound, cutTag, hiTag, fillE, GVal.cells, grp, GVal.ofConst, ↓resV, resG, List.map, List.headD, List.take, List.drop, ↓reduceIte, Nat.reduceEqDiff, Nat.reduceAdd, Nat.reduceSub, Nat.reduceLeDiff, reduceCtorEq, implies_true, ne_eq, ↓asrcV, Tag.cap, List.replicate, allSolid, GVal.solid, Nat.reduceBEq, Nat.reduceMul, Nat.reduceLT, List.length_map, List.length_range, splice, vcA, ↓vcB, vcC, fbFz, e47, spl_length, d0]
      refine (sSort xs (by omega) rfl rfl).mono ?_
      rintro _ _ ⟨rfl, ys, hp, hw, rfl⟩
      have hyl : ys.length = xs.length := hp.length_eq
      have hym : ∀ s ∈ ys, (0 ≤ s.1 ∧ s.1 ≤ s.2) ∧ s.2 ≤ 9223372036854775807 := fun s hs => ⟨hm s (hp.mem_iff.1 hs), (hok s (hp.mem_iff.1 hs)).2.2⟩
      have hyh : ∀ n, Sp.has ys n ↔ Sp.has l n := fun n => by rw [Sp.has_perm hp, hh]
      rw [← hyl]
      simp +contextual -implicitDefEqProofs (maxSteps := 2000000) (disch := omega) only [drawC, drawK, keepT, ↓lenV, binV, ↓unV, optV, ↓loadV, ↓storeV, ↓fieldAddrV, ↓indexAddrV, ↓allocV, ↓buildSliceV, ↓sliceV, ↓appendV, ↓srcV, ↓minV, bound, cutTag, hiTag, fillE, GVal.cells, grp, GVal.ofConst, ↓resV, resG, List.map, List.headD, List.take, List.drop, ↓reduceIte, Nat.reduceEqDiff, Nat.reduceAdd, Nat.reduceSub, Nat.reduceLeDiff, reduceCtorEq, implies_true, ne_eq, ↓asrcV, Tag.cap, List.replicate, allSolid, GVal.solid, Nat.reduceBEq, Nat.reduceMul, Nat.reduceLT, List.length_map, List.length_range, splice, vcA, ↓vcB, vcC, fbFz, e47, spl_length]
      refine vcSLoop_by (ι := { p : Nat × List Sp.S × Nat // p.1 ≤ ys.length ∧ MOk (ys.take p.1) p.2.1 }) (fun p => ⟨[.any, .any, .any, .any, .own 1 p.1.2.2 0 p.1.2.1.length] ++ List.replicate 27 .any ++ [.own 0 v 0 ys.length, .int .i64 ys.length, .int .i64 (p.1.1 : Nat)] ++ List.replicate 37 .any, [.row v 2 (spl ys), .row p.1.2.2 2 (spl p.1.2.1)]⟩) (fun p => ys.length - p.1.1) ?_ ?_
      · refine Into.row 4 2 rfl rfl ?_
        simp +contextual -implicitDefEqProofs (maxSteps := 2000000) (disch := omega) only [drawC, drawK, keepT, ↓lenV, binV, ↓unV, optV, ↓loadV, ↓storeV, ↓fieldAddrV, ↓indexAddrV, ↓allocV, ↓buildSliceV, ↓sliceV, ↓appendV, ↓srcV, ↓minV, bound, cutTag, hiTag, fillE, GVal.cells, grp, GVal.ofConst, ↓resV, resG, List.map, List.headD, List.take, List.drop, ↓reduceIte, Nat.reduceEqDiff, Nat.reduceAdd, Nat.reduceSub, Nat.reduceLeDiff, reduceCtorEq, implies_true, ne_eq, ↓asrcV, Tag.cap, List.replicate, allSolid, GVal.solid, Nat.reduceBEq, Nat.reduceMul, Nat.reduceLT, List.length_map, List.length_range, splice, vcA, ↓vcB, vcC, fbFz, e47]
        intro t1
        exact Into.first ⟨(0, [], t1), by omega, by simp [MOk, Sp.Rt, Sp.has, Sp.Ok]⟩ ⟨[], by simp [spl]⟩ (by simp [WL, leG_self, leG_any])
      · rintro ⟨⟨k, out, w⟩, hk, hM⟩
        change k ≤ ys.length at hk
        change MOk (ys.take k) out at hM
        by_cases h : k < ys.length
        · have d0 : ((k : Int) < (ys.length : Int)) = True := eq_true (by omega)
          have eS := spl_at ys k h
          have hs : (0 ≤ (ys.getD k (0, 0)).1 ∧ (ys.getD k (0, 0)).1 ≤ (ys.getD k (0, 0)).2) ∧ (ys.getD k (0, 0)).2 ≤ 9223372036854775807 := by
            rw [List.getD_eq_getElem?_getD, List.getElem?_eq_getElem h]; exact hym _ (List.getElem_mem h)
          have hge : ∀ z ∈ ys.take k, z.1 ≤ (ys.getD k (0, 0)).1 := fun z hz => by
            obtain ⟨i, hi, e⟩ := List.getElem_of_mem hz
            rw [List.length_take] at hi
            rw [List.getElem_take] at e
            have := (List.pairwise_iff_getElem.1 hw) i k (by omega) h (by omega)
            rw [List.getD_eq_getElem?_getD, List.getElem?_eq_getElem h, ← e]; exact this
          have eN := take_getD h
          generalize ys.getD k (0, 0) = s at *
          have hol : out.length ≤ ys.length := by have := hM.2.2.2.1; rw [List.length_take] at this; omega
          rcases List.eq_nil_or_concat out with e | ⟨A, x, e⟩
          · subst e
            have d3 : ((0 : Int) < 0) = False := eq_false (by omega)
            simp +contextual -implicitDefEqProofs (maxSteps := 2000000) (disch := omega) only [drawC, drawK, keepT, ↓lenV, binV, ↓unV, optV, ↓loadV, ↓storeV, ↓fieldAddrV, ↓indexAddrV, ↓allocV, ↓buildSliceV, ↓sliceV, ↓appendV, ↓srcV, ↓minV, bound, cutTag, hiTag, fillE, GVal.cells, grp, GVal.ofConst, ↓resV, resG, List.map, List.headD, List.take, List.drop, ↓reduceIte, Nat.reduceEqDiff, Nat.reduceAdd, Nat.reduceSub, Nat.reduceLeDiff, reduceCtorEq, implies_true, ne_eq, ↓asrcV, Tag.cap, List.replicate, allSolid, GVal.solid, Nat.reduceBEq, Nat.reduceMul, Nat.reduceLT, List.length_map, List.length_range, splice, vcA, ↓vcB, vcC, fbFz, e47, spl_length, d0, d3, eS, spG, all_spl]
            refine ⟨by omega, h, h, fun st st_1 => ?_⟩
            refine Into.at ⟨(k + 1, [s], st_1), by show k + 1 ≤ _; omega, by show MOk _ _; rw [eN]; exact hM.more s ⟨hs.1.1, hs.1.2, hs.2⟩ hge (by simp)⟩ (by show _ < _; simp; omega) ⟨[.row st 2 [[.int .i64 s.1, .int .i64 s.2]]], by rfl⟩ ?_
            simp [WL, leG_self, leG_any]
          · rw [List.concat_eq_append] at e; subst e
            have hx := hM.2.2.2.2 x (by simp)
            have eX : (spl (A ++ [x])).getD A.length [] = spG x := by rw [spl_append, spl_one, ← spl_length A, getD_last]
            have eL : (A ++ [x]).length = A.length + 1 := by simp
            rw [eL] at hol ⊢
            have d1 : ((0 : Int) < ((A.length : Int) + 1)) = True := eq_true (by omega)
            have d2 : ((A.length : Int) + 1 - 1).toNat = A.length := by omega
            simp +contextual -implicitDefEqProofs (maxSteps := 2000000) (disch := omega) only [drawC, drawK, keepT, ↓lenV, binV, ↓unV, optV, ↓loadV, ↓storeV, ↓fieldAddrV, ↓indexAddrV, ↓allocV, ↓buildSliceV, ↓sliceV, ↓appendV, ↓srcV, ↓minV, bound, cutTag, hiTag, fillE, GVal.cells, grp, GVal.ofConst, ↓resV, resG, List.map, List.headD, List.take, List.drop, ↓reduceIte, Nat.reduceEqDiff, Nat.reduceAdd, Nat.reduceSub, Nat.reduceLeDiff, reduceCtorEq, implies_true, ne_eq, ↓asrcV, Tag.cap, List.replicate, allSolid, GVal.solid, Nat.reduceBEq, Nat.reduceMul, Nat.reduceLT, List.length_map, List.length_range, splice, vcA, ↓vcB, vcC, fbFz, e47, spl_length, d0, d1, d2, eS, eX, eL, spG, all_spl]
            refine ⟨by omega, h, h, fun st => ⟨by omega, by omega, ?_⟩⟩
            refine (sBeyond s x (by omega) (by omega)).then ?_
            simp +contextual -implicitDefEqProofs (maxSteps := 2000000) (disch := omega) only [drawC, drawK, keepT, ↓lenV, binV, ↓unV, optV, ↓loadV, ↓storeV, ↓fieldAddrV, ↓indexAddrV, ↓allocV, ↓buildSliceV, ↓sliceV, ↓appendV, ↓srcV, ↓minV, bound, cutTag, hiTag, fillE, GVal.cells, grp, GVal.ofConst, ↓resV, resG, List.map, List.headD, List.take, List.drop, ↓reduceIte, Nat.reduceEqDiff, Nat.reduceAdd, Nat.reduceSub, Nat.reduceLeDiff, reduceCtorEq, implies_true, ne_eq, ↓asrcV, Tag.cap, List.replicate, allSolid, GVal.solid, Nat.reduceBEq, Nat.reduceMul, Nat.reduceLT, List.length_map, List.length_range, splice, vcA, ↓vcB, vcC, fbFz, e47, spl_length, d0, d1, d2, eS, eX, eL, spG, all_spl]
            refine ⟨fun h5 => ⟨by omega, by omega, by omega, fun st_1 => ?_⟩, fun h5 => ⟨by omega, by omega, by omega, by omega, ?_⟩⟩
            · refine Into.at ⟨(k + 1, A ++ [x] ++ [s], st_1), by show k + 1 ≤ _; omega, by show MOk _ _; rw [eN]; exact hM.more s ⟨hs.1.1, hs.1.2, hs.2⟩ hge (fun z hz => by simp at hz; subst hz; exact h5)⟩ (by show _ < _; simp; omega) ⟨[.row st 2 [[.int .i64 s.1, .int .i64 s.2]]], ?_⟩ ?_
              · rw [List.take_of_length_le (by rw [spl_length, eL]; exact Nat.le_refl _), spl_append _ [s], spl_one]; rfl
              · simp [WL, leG_self, leG_any]
            · refine Into.at ⟨(k + 1, A ++ [(x.1, max x.2 s.2)], w), by show k + 1 ≤ _; omega, by show MOk _ _; rw [eN]; exact hM.grow s ⟨hs.1.1, hs.1.2, hs.2⟩ hge h5⟩ (by show _ < _; simp; omega) ⟨[.row st 2 [[.int .i64 s.1, .int .i64 s.2]]], ?_⟩ ?_
              · have := spl_setLast A x (x.1, max x.2 s.2)
                simp only [spG] at this
                rw [this]; rfl
              · simp [WL, leG_self, leG_any]
        · have d0 : ((k : Int) < (ys.length : Int)) = False := eq_false (by omega)
          have hk' : k = ys.length := by omega
          rw [hk', List.take_length] at hM
          simp +contextual -implicitDefEqProofs (maxSteps := 2000000) (disch := omega) only [drawC, drawK, keepT, ↓lenV, binV, ↓unV, optV, ↓loadV, ↓storeV, ↓fieldAddrV, ↓indexAddrV, ↓allocV, ↓buildSliceV, ↓sliceV, ↓appendV, ↓srcV, ↓minV, bound, cutTag, hiTag, fillE, GVal.cells, grp, GVal.ofConst, ↓resV, resG, List.map, List.headD, List.take, List.drop, ↓reduceIte, Nat.reduceEqDiff, Nat.reduceAdd, Nat.reduceSub, Nat.reduceLeDiff, reduceCtorEq, implies_true, ne_eq, ↓asrcV, Tag.cap, List.replicate, allSolid, GVal.solid, Nat.reduceBEq, Nat.reduceMul, Nat.reduceLT, List.length_map, List.length_range, splice, vcA, ↓vcB, vcC, fbFz, e47, spl_length, d0]
          have eR : Sp.nf l = out := Sp.nf_eq hM.1 fun n => by rw [hM.2.1, hyh]
          rw [eR]
          exact ⟨v, w, ys, rfl, rfl⟩

theorem sMake (l : List Sp.S) (t : Tag) (hl : l.length ≤ 4398046511104) (ho : Sp.Ok l) : GPure Tryz.prog 47 [.slice (spl l) t] (.slice (spl (Sp.nf l)) .none) :=
  GCalls.toPure ((cMake l t hl ho).mono fun g O' ⟨st0, st1, ys, e1, e2⟩ => ⟨4, .slice (spl (Sp.nf l)) .none, by
    rw [e1, e2]; exact frz_own rfl (spl_length _).symm (frz_spl _ 2 _), by rw [leA_slice]⟩)
end Gv.Tryz
