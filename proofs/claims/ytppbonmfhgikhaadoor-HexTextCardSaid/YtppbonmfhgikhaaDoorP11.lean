/- Sets of numbers as lists of spans: the plain theory. -/
import Derived.Test.YtppbonmfhgikhaaDoorP4
import Derived.Test.YtppbonmfhgikhaaDoorP8
import Derived.Test.YtppbonmfhgikhaaDoorP9
import Derived.OpenShut
import Derived.SizedLaws
import Derived.Test.YtppbonmfhgikhaaDoorP10
import Derived.Test.YtppbonmfhgikhaaDoorRows
import Derived.ChangeSame
import Derived.ChangeVars
import Derived.JoinedOf
import Derived.RowKit
import Derived.RowKitTokens
import Derived.LaidLaws
import Derived.LaidHandle
import Derived.Stop.Joined
set_option linter.unusedVariables false
namespace Gv.Sp
open Gv
abbrev S := Int × Int
/-- a number is in one of the spans; only numbers from 0 on count -/
def has (l : List S) (n : Int) : Prop := ∃ s ∈ l, 0 ≤ n ∧ s.1 ≤ n ∧ n ≤ s.2
theorem has_nil (n : Int) : has [] n ↔ False := by simp [has]
theorem has_cons (s : S) (l : List S) (n : Int) : has (s :: l) n ↔ (0 ≤ n ∧ s.1 ≤ n ∧ n ≤ s.2) ∨ has l n := by simp [has]
theorem has_app (a b : List S) (n : Int) : has (a ++ b) n ↔ has a n ∨ has b n := by
  induction a with
  | nil => simp [has_nil]
  | cons s r ih => rw [List.cons_append, has_cons, has_cons, ih, or_assoc]
theorem has_perm {a b : List S} (h : a.Perm b) (n : Int) : has a n ↔ has b n := by
  simp only [has, h.mem_iff]
/-- right: rising, apart, not adjacent -/
def Rt : Int → List S → Prop
  | _, [] => True
  | b, s :: r => b ≤ s.1 ∧ s.1 ≤ s.2 ∧ Rt (s.2 + 2) r
theorem Rt.weak {b b' : Int} : ∀ {l : List S}, Rt b l → b' ≤ b → Rt b' l
  | [], _, _ => trivial
  | s :: r, ⟨h1, h2, h3⟩, h => ⟨by omega, h2, h3⟩
theorem Rt.ge {n : Int} : ∀ {l : List S} {b : Int}, Rt b l → has l n → b ≤ n
  | [], b, _, h => by simp [has] at h
  | s :: r, b, ⟨h1, h2, h3⟩, h => by
    rcases (has_cons s r n).1 h with h | h
    · omega
    · have := h3.ge h; omega
theorem Rt.mem {s : S} : ∀ {l : List S} {b : Int}, Rt b l → s ∈ l → b ≤ s.1 ∧ s.1 ≤ s.2
  | [], b, _, h => by simp at h
  | x :: r, b, ⟨h1, h2, h3⟩, h => by
    rcases List.mem_cons.1 h with rfl | h
    · exact ⟨h1, h2⟩
    · have := h3.mem h; omega
theorem Rt.lo {s : S} {l : List S} {b : Int} (h : Rt b l) (hb : 0 ≤ b) (hs : s ∈ l) : has l s.1 := ⟨s, hs, by have := h.mem hs; omega⟩
theorem Rt.hi {s : S} {l : List S} {b : Int} (h : Rt b l) (hb : 0 ≤ b) (hs : s ∈ l) : has l s.2 := ⟨s, hs, by have := h.mem hs; omega⟩
theorem uniq : ∀ {l l' : List S} {b b' : Int}, Rt b l → Rt b' l' → 0 ≤ b → 0 ≤ b' → (∀ n, has l n ↔ has l' n) → l = l'
  | [], [], _, _, _, _, _, _, _ => rfl
  | [], y :: r, _, b', _, h', _, h0', h => absurd ((h y.1).2 (h'.lo h0' (by simp))) (by simp [has])
  | x :: r, [], b, _, h', _, h0', _, h => absurd ((h x.1).1 (h'.lo h0' (by simp))) (by simp [has])
  | (x1, x2) :: r, (y1, y2) :: q, b, b', hx, hy, hb, hb', h => by
    have e1 : has ((y1, y2) :: q) x1 := (h _).1 (hx.lo hb (s := (x1, x2)) (by simp))
    have e2 : has ((x1, x2) :: r) y1 := (h _).2 (hy.lo hb' (s := (y1, y2)) (by simp))
    obtain ⟨p1, p2, p3⟩ := hx
    obtain ⟨q1, q2, q3⟩ := hy
    simp only at p1 p2 p3 q1 q2 q3
    have g1 : y1 ≤ x1 := by
      rcases (has_cons _ _ _).1 e1 with e | e
      · exact e.2.1
      · have := q3.ge e; omega
    have g2 : x1 ≤ y1 := by
      rcases (has_cons _ _ _).1 e2 with e | e
      · exact e.2.1
      · have := p3.ge e; omega
    have g : x1 = y1 := by omega
    have k1 : ¬ x2 < y2 := fun hlt => by
      have e := (h (x2 + 1)).2 ((has_cons _ _ _).2 (.inl ⟨by omega, by show y1 ≤ _; omega, by show _ ≤ y2; omega⟩))
      rcases (has_cons _ _ _).1 e with e | e
      · have := e.2.2; simp only at this; omega
      · have := p3.ge e; omega
    have k2 : ¬ y2 < x2 := fun hlt => by
      have e := (h (y2 + 1)).1 ((has_cons _ _ _).2 (.inl ⟨by omega, by show x1 ≤ _; omega, by show _ ≤ x2; omega⟩))
      rcases (has_cons _ _ _).1 e with e | e
      · have := e.2.2; simp only at this; omega
      · have := q3.ge e; omega
    have k : x2 = y2 := by omega
    subst g; subst k
    have hr : ∀ n, has r n ↔ has q n := fun n => by
      constructor
      · intro hn
        rcases (has_cons _ _ _).1 ((h n).1 ((has_cons _ _ _).2 (.inr hn))) with e | e
        · have := p3.ge hn; have := e.2.2; simp only at this; omega
        · exact e
      · intro hn
        rcases (has_cons _ _ _).1 ((h n).2 ((has_cons _ _ _).2 (.inr hn))) with e | e
        · have := q3.ge hn; have := e.2.2; simp only at this; omega
        · exact e
    rw [uniq p3 q3 (by omega) (by omega) hr]

theorem Rt_snoc (x : S) : ∀ (A : List S) (b : Int), Rt b (A ++ [x]) ↔ Rt b A ∧ b ≤ x.1 ∧ x.1 ≤ x.2 ∧ ∀ y ∈ A, y.2 + 2 ≤ x.1
  | [], b => by simp [Rt]
  | y :: r, b => by
    rw [List.cons_append]
    show b ≤ y.1 ∧ y.1 ≤ y.2 ∧ Rt (y.2 + 2) (r ++ [x]) ↔ (b ≤ y.1 ∧ y.1 ≤ y.2 ∧ Rt (y.2 + 2) r) ∧ _
    rw [Rt_snoc x r]
    constructor
    · rintro ⟨h1, h2, h3, h4, h5, h6⟩
      exact ⟨⟨h1, h2, h3⟩, by omega, h5, fun z hz => by
        rcases List.mem_cons.1 hz with rfl | hz
        · exact h4
        · exact h6 z hz⟩
    · rintro ⟨⟨h1, h2, h3⟩, h4, h5, h6⟩
      exact ⟨h1, h2, h3, h6 y (by simp), h5, fun z hz => h6 z (by simp [hz])⟩

/-- a right list with a span more -/
def ins : List S → S → List S
  | [], s => [s]
  | x :: r, s => if x.2 + 1 < s.1 then x :: ins r s else if s.2 + 1 < x.1 then s :: x :: r else ins r (min s.1 x.1, max s.2 x.2)
theorem ins_rt : ∀ (l : List S) (s : S) (b : Int), Rt b l → b ≤ s.1 → s.1 ≤ s.2 → Rt b (ins l s)
  | [], s, b, _, h1, h2 => ⟨h1, h2, trivial⟩
  | x :: r, s, b, ⟨p1, p2, p3⟩, h1, h2 => by
    unfold ins
    split
    · exact ⟨p1, p2, ins_rt r s _ p3 (by omega) h2⟩
    · split
      · exact ⟨h1, h2, by omega, p2, p3⟩
      · exact ins_rt r _ b (p3.weak (by omega)) (by show _ ≤ min _ _; omega) (by show min _ _ ≤ max _ _; omega)
theorem ins_has (n : Int) : ∀ (l : List S) (s : S) (b : Int), Rt b l → s.1 ≤ s.2 → (has (ins l s) n ↔ has l n ∨ (0 ≤ n ∧ s.1 ≤ n ∧ n ≤ s.2))
  | [], s, b, _, _ => by simp [ins, has_cons, has_nil]
  | x :: r, s, b, ⟨p1, p2, p3⟩, h2 => by
    unfold ins
    split
    · rw [has_cons, ins_has n r s _ p3 h2, has_cons, or_assoc]
    · split
      · rw [has_cons s, or_comm]
      · rw [ins_has n r _ _ p3 (by show min _ _ ≤ max _ _; omega), has_cons]
        constructor
        · rintro (h | ⟨q1, q2, q3⟩)
          · exact .inl (.inr h)
          · simp only at q2 q3
            by_cases e : s.1 ≤ n ∧ n ≤ s.2
            · exact .inr ⟨q1, e⟩
            · exact .inl (.inl ⟨q1, by omega, by omega⟩)
        · rintro ((⟨q1, q2, q3⟩ | h) | ⟨q1, q2, q3⟩)
          · exact .inr ⟨q1, by show min _ _ ≤ _; omega, by show _ ≤ max _ _; omega⟩
          · exact .inl h
          · exact .inr ⟨q1, by show min _ _ ≤ _; omega, by show _ ≤ max _ _; omega⟩
theorem ins_len : ∀ (l : List S) (s : S), (ins l s).length ≤ l.length + 1
  | [], s => by simp [ins]
  | x :: r, s => by
    unfold ins
    split
    · have := ins_len r s; simp; omega
    · split
      · simp
      · have := ins_len r (min s.1 x.1, max s.2 x.2); simp; omega

/-- one span of any, put into a set -/
def put (acc : List S) (s : S) : List S := if max s.1 0 ≤ s.2 then ins acc (max s.1 0, s.2) else acc
/-- the set of any spans -/
def nfA (acc : List S) : List S → List S
  | [] => acc
  | s :: r => nfA (put acc s) r
def nf (l : List S) : List S := nfA [] l
theorem put_rt {acc : List S} (s : S) (h : Rt 0 acc) : Rt 0 (put acc s) := by
  unfold put; split
  · exact ins_rt _ _ _ h (by show _ ≤ max _ _; omega) (by assumption)
  · exact h
theorem put_has {acc : List S} (s : S) (h : Rt 0 acc) (n : Int) : has (put acc s) n ↔ has acc n ∨ (0 ≤ n ∧ s.1 ≤ n ∧ n ≤ s.2) := by
  unfold put; split
  · rw [ins_has n _ _ _ h (by assumption)]
    constructor
    · rintro (q | ⟨q1, q2, q3⟩)
      · exact .inl q
      · exact .inr ⟨q1, by simp only at q2; omega, q3⟩
    · rintro (q | ⟨q1, q2, q3⟩)
      · exact .inl q
      · exact .inr ⟨q1, by show max _ _ ≤ _; omega, q3⟩
  · constructor
    · exact .inl
    · rintro (q | ⟨q1, q2, q3⟩)
      · exact q
      · omega
theorem nfA_rt : ∀ (l acc : List S), Rt 0 acc → Rt 0 (nfA acc l)
  | [], acc, h => h
  | s :: r, acc, h => nfA_rt r _ (put_rt s h)
theorem nfA_has (n : Int) : ∀ (l acc : List S), Rt 0 acc → (has (nfA acc l) n ↔ has acc n ∨ has l n)
  | [], acc, h => by simp [nfA, has_nil]
  | s :: r, acc, h => by
    show has (nfA (put acc s) r) n ↔ _
    rw [nfA_has n r _ (put_rt s h), put_has s h, has_cons, or_assoc]
theorem nfA_app (a b acc : List S) : nfA acc (a ++ b) = nfA (nfA acc a) b := by
  induction a generalizing acc with
  | nil => rfl
  | cons s r ih => exact ih _
theorem nf_rt (l : List S) : Rt 0 (nf l) := nfA_rt l [] trivial
theorem nf_has (l : List S) (n : Int) : has (nf l) n ↔ has l n := by rw [nf, nfA_has n l [] trivial, has_nil, false_or]
theorem nfA_len : ∀ (l acc : List S), (nfA acc l).length ≤ acc.length + l.length
  | [], acc => by simp [nfA]
  | s :: r, acc => by
    have h := nfA_len r (put acc s)
    have : (put acc s).length ≤ acc.length + 1 := by
      unfold put; split
      · exact ins_len _ _
      · omega
    show (nfA (put acc s) r).length ≤ _
    simp; omega
theorem nf_len (l : List S) : (nf l).length ≤ l.length := by have := nfA_len l []; simpa [nf] using this
/-- the set is the one right list with its numbers -/
theorem nf_eq {l r : List S} (h : Rt 0 r) (hn : ∀ n, has r n ↔ has l n) : nf l = r := uniq (nf_rt l) h (by omega) (by omega) fun n => by rw [nf_has, hn]
theorem nf_rt_eq {l : List S} (h : Rt 0 l) : nf l = l := nf_eq h fun _ => Iff.rfl
theorem nf_nf (l : List S) : nf (nf l) = nf l := nf_rt_eq (nf_rt l)
theorem nf_congr {a b : List S} (h : ∀ n, has a n ↔ has b n) : nf a = nf b := nf_eq (nf_rt b) fun n => by rw [nf_has, h]

/-- bounds -/
def Top (l : List S) : Prop := ∀ s ∈ l, s.2 ≤ 9223372036854775807
def Ok (l : List S) : Prop := ∀ s ∈ l, (-9223372036854775808 ≤ s.1 ∧ s.1 ≤ 9223372036854775807) ∧ (-9223372036854775808 ≤ s.2 ∧ s.2 ≤ 9223372036854775807)
theorem Ok.has {l : List S} (h : Ok l) {n : Int} (hn : has l n) : n ≤ 9223372036854775807 := by obtain ⟨s, hs, h1, h2, h3⟩ := hn; have := (h s hs).2.2; omega
theorem ok_of {l : List S} {b : Int} (h : Rt b l) (hb : 0 ≤ b) (hn : ∀ n, Sp.has l n → n ≤ 9223372036854775807) : Ok l := fun s hs => by
  have h1 := h.mem hs
  have h2 := hn _ (h.hi hb hs)
  exact ⟨⟨by omega, by omega⟩, by omega, h2⟩
theorem nf_ok {l : List S} (h : Ok l) : Ok (nf l) := ok_of (nf_rt l) (by omega) fun n hn => h.has ((nf_has l n).1 hn)
theorem Ok.app {a b : List S} (ha : Ok a) (hb : Ok b) : Ok (a ++ b) := fun s hs => (List.mem_append.1 hs).elim (ha s) (hb s)
theorem Ok.nil : Ok [] := fun s hs => by simp at hs
theorem Ok.at {l : List S} (h : Ok l) (i : Nat) : (-9223372036854775808 ≤ (l.getD i (0, 0)).1 ∧ (l.getD i (0, 0)).1 ≤ 9223372036854775807) ∧ (-9223372036854775808 ≤ (l.getD i (0, 0)).2 ∧ (l.getD i (0, 0)).2 ≤ 9223372036854775807) := by
  by_cases hi : i < l.length
  · rw [List.getD_eq_getElem?_getD, List.getElem?_eq_getElem hi]; exact h _ (List.getElem_mem hi)
  · rw [List.getD_eq_getElem?_getD, List.getElem?_eq_none (by omega)]; simp
theorem Rt.at {l : List S} {b : Int} (h : Rt b l) (i : Nat) (hi : i < l.length) : b ≤ (l.getD i (0, 0)).1 ∧ (l.getD i (0, 0)).1 ≤ (l.getD i (0, 0)).2 := by
  rw [List.getD_eq_getElem?_getD, List.getElem?_eq_getElem hi]; exact h.mem (List.getElem_mem hi)

/-- what is in two right lists -/
def both (a b : List S) : List S :=
  match a, b with
  | [], _ => []
  | _ :: _, [] => []
  | x :: a, y :: b => (if max x.1 y.1 ≤ min x.2 y.2 then [(max x.1 y.1, min x.2 y.2)] else []) ++ if x.2 < y.2 then both a (y :: b) else both (x :: a) b
termination_by a.length + b.length
theorem both_nil (b : List S) : both [] b = [] := by rw [both.eq_def]
theorem both_nil' (a : List S) : both a [] = [] := by cases a <;> rw [both.eq_def]
theorem both_cons (x y : S) (a b : List S) : both (x :: a) (y :: b) = (if max x.1 y.1 ≤ min x.2 y.2 then [(max x.1 y.1, min x.2 y.2)] else []) ++ if x.2 < y.2 then both a (y :: b) else both (x :: a) b := by rw [both.eq_def]
theorem both_spec (n : Int) : ∀ (k : Nat) (a b : List S) (p q : Int), a.length + b.length ≤ k → Rt p a → Rt q b → Rt (max p q) (both a b) ∧ (has (both a b) n ↔ has a n ∧ has b n)
  | k, [], b, p, q, _, _, _ => by rw [both_nil]; exact ⟨trivial, by simp [has_nil]⟩
  | k, x :: a, [], p, q, _, _, _ => by rw [both_nil']; exact ⟨trivial, by simp [has_nil]⟩
  | 0, x :: a, y :: b, p, q, h, _, _ => by simp at h
  | k + 1, x :: a, y :: b, p, q, h, hx, hy => by
    have hx' := hx
    have hy' := hy
    obtain ⟨x1, x2, x3⟩ := hx'
    obtain ⟨y1, y2, y3⟩ := hy'
    rw [both_cons]
    simp only [List.length_cons] at h
    by_cases hlt : x.2 < y.2
    · rw [if_pos hlt]
      obtain ⟨r1, r2⟩ := both_spec n k a (y :: b) (x.2 + 2) q (by simp; omega) x3 hy
      have r1' := r1
      constructor
      · split
        · show Rt _ (_ :: _)
          exact ⟨by show max p q ≤ max x.1 y.1; omega, by assumption, r1.weak (by show min x.2 y.2 + 2 ≤ _; omega)⟩
        · exact r1.weak (by omega)
      · have e : has ((if max x.1 y.1 ≤ min x.2 y.2 then [(max x.1 y.1, min x.2 y.2)] else []) ++ both a (y :: b)) n ↔ (0 ≤ n ∧ x.1 ≤ n ∧ n ≤ x.2 ∧ y.1 ≤ n ∧ n ≤ y.2) ∨ has (both a (y :: b)) n := by
          rw [has_app]
          refine or_congr ?_ Iff.rfl
          split
          · simp only [has_cons, has_nil, or_false]; omega
          · rw [has_nil]; exact ⟨False.elim, fun h => by omega⟩
        rw [e, r2, has_cons x]
        constructor
        · rintro (⟨c1, c2, c3, c4, c5⟩ | ⟨c1, c2⟩)
          · exact ⟨.inl ⟨c1, c2, c3⟩, (has_cons _ _ _).2 (.inl ⟨c1, c4, c5⟩)⟩
          · exact ⟨.inr c1, c2⟩
        · rintro ⟨⟨c1, c2, c3⟩ | c1, c4⟩
          · rcases (has_cons _ _ _).1 c4 with ⟨_, d2, d3⟩ | d
            · exact .inl ⟨c1, c2, c3, d2, d3⟩
            · have := y3.ge d; omega
          · exact .inr ⟨c1, c4⟩
    · rw [if_neg hlt]
      obtain ⟨r1, r2⟩ := both_spec n k (x :: a) b p (y.2 + 2) (by simp; omega) hx y3
      constructor
      · split
        · show Rt _ (_ :: _)
          exact ⟨by show max p q ≤ max x.1 y.1; omega, by assumption, r1.weak (by show min x.2 y.2 + 2 ≤ _; omega)⟩
        · exact r1.weak (by omega)
      · have e : has ((if max x.1 y.1 ≤ min x.2 y.2 then [(max x.1 y.1, min x.2 y.2)] else []) ++ both (x :: a) b) n ↔ (0 ≤ n ∧ x.1 ≤ n ∧ n ≤ x.2 ∧ y.1 ≤ n ∧ n ≤ y.2) ∨ has (both (x :: a) b) n := by
          rw [has_app]
          refine or_congr ?_ Iff.rfl
          split
          · simp only [has_cons, has_nil, or_false]; omega
          · rw [has_nil]; exact ⟨False.elim, fun h => by omega⟩
        rw [e, r2, has_cons y]
        constructor
        · rintro (⟨c1, c2, c3, c4, c5⟩ | ⟨c1, c2⟩)
          · exact ⟨(has_cons _ _ _).2 (.inl ⟨c1, c2, c3⟩), .inl ⟨c1, c4, c5⟩⟩
          · exact ⟨c1, .inr c2⟩
        · rintro ⟨c4, ⟨c1, c2, c3⟩ | c1⟩
          · rcases (has_cons _ _ _).1 c4 with ⟨_, d2, d3⟩ | d
            · exact .inl ⟨c1, d2, d3, c2, c3⟩
            · have := x3.ge d; omega
          · exact .inr ⟨c4, c1⟩
theorem both_rt {a b : List S} (ha : Rt 0 a) (hb : Rt 0 b) : Rt 0 (both a b) := by have := (both_spec 0 _ a b 0 0 (Nat.le_refl _) ha hb).1; simpa using this
theorem both_has {a b : List S} (ha : Rt 0 a) (hb : Rt 0 b) (n : Int) : has (both a b) n ↔ has a n ∧ has b n := (both_spec n _ a b 0 0 (Nat.le_refl _) ha hb).2
theorem both_len : ∀ (k : Nat) (a b : List S), a.length + b.length ≤ k → (both a b).length ≤ a.length + b.length
  | k, [], b, _ => by rw [both_nil]; simp
  | k, x :: a, [], _ => by rw [both_nil']; simp
  | 0, x :: a, y :: b, h => by simp at h
  | k + 1, x :: a, y :: b, h => by
    rw [both_cons]
    simp only [List.length_cons] at h
    have h1 := both_len k a (y :: b) (by simp; omega)
    have h2 := both_len k (x :: a) b (by simp; omega)
    simp only [List.length_cons] at h1 h2
    by_cases hlt : x.2 < y.2
    · rw [if_pos hlt]; split <;> simp <;> omega
    · rw [if_neg hlt]; split <;> simp <;> omega

/-- all numbers from one on that are not in a right list -/
def restF (low : Int) : List S → List S
  | [] => [(low, 9223372036854775807)]
  | s :: r => (if low < s.1 then [(low, s.1 - 1)] else []) ++ if s.2 = 9223372036854775807 then [] else restF (s.2 + 1) r
theorem restF_spec (n : Int) : ∀ (l : List S) (low b : Int), Rt b l → (∀ s ∈ l, s.2 ≤ 9223372036854775807) → 0 ≤ low → low ≤ 9223372036854775807 → low ≤ b → Rt low (restF low l) ∧ (has (restF low l) n ↔ low ≤ n ∧ n ≤ 9223372036854775807 ∧ ¬ has l n)
  | [], low, b, _, _, h0, h1, _ => ⟨⟨Int.le_refl _, h1, trivial⟩, by simp only [restF, has_cons, has_nil, or_false, not_false_eq_true, and_true]; omega⟩
  | s :: r, low, b, ⟨p1, p2, p3⟩, ht, h0, h1, h2 => by
    have hs := ht s (by simp)
    unfold restF
    by_cases e : s.2 = 9223372036854775807
    · rw [if_pos e, List.append_nil, has_cons]
      have hr : ¬ has r n := fun h => by
        have := p3.ge h
        obtain ⟨z, hz, _, _, h5⟩ := h
        have := ht z (by simp [hz]); omega
      constructor
      · split
        · exact ⟨Int.le_refl _, by show low ≤ s.1 - 1; omega, trivial⟩
        · trivial
      · split
        · simp only [has_cons, has_nil, or_false, hr]; omega
        · simp only [has_nil, hr, or_false]; exact ⟨False.elim, fun h => by omega⟩
    · rw [if_neg e]
      obtain ⟨r1, r2⟩ := restF_spec n r (s.2 + 1) (s.2 + 2) p3 (fun z hz => ht z (by simp [hz])) (by omega) (by omega) (by omega)
      have hge : has r n → s.2 + 2 ≤ n := fun h => p3.ge h
      constructor
      · split
        · exact ⟨Int.le_refl _, by show low ≤ s.1 - 1; omega, r1.weak (by show s.1 - 1 + 2 ≤ _; omega)⟩
        · exact r1.weak (by omega)
      · rw [has_app, r2, has_cons]
        split
        · simp only [has_cons, has_nil, or_false]
          constructor
          · rintro (h | h)
            · refine ⟨by omega, by omega, ?_⟩
              rintro (h' | h')
              · omega
              · have := hge h'; omega
            · refine ⟨by omega, by omega, ?_⟩
              rintro (h' | h')
              · omega
              · exact h.2.2 h'
          · rintro ⟨h3, h4, h5⟩
            have h6 : ¬ (0 ≤ n ∧ s.1 ≤ n ∧ n ≤ s.2) := fun h => h5 (.inl h)
            have h7 : ¬ has r n := fun h => h5 (.inr h)
            by_cases h8 : n < s.1
            · exact .inl (by omega)
            · exact .inr ⟨by omega, h4, h7⟩
        · rw [has_nil, false_or]
          constructor
          · rintro ⟨h3, h4, h5⟩
            refine ⟨by omega, h4, ?_⟩
            rintro (h' | h')
            · omega
            · exact h5 h'
          · rintro ⟨h3, h4, h5⟩
            have h6 : ¬ (0 ≤ n ∧ s.1 ≤ n ∧ n ≤ s.2) := fun h => h5 (.inl h)
            exact ⟨by omega, h4, fun h => h5 (.inr h)⟩
def rest (l : List S) : List S := restF 0 l
theorem rest_rt {l : List S} (h : Rt 0 l) (ht : Ok l) : Rt 0 (rest l) := (restF_spec 0 l 0 0 h (fun s hs => (ht s hs).2.2) (by omega) (by omega) (by omega)).1
theorem rest_has {l : List S} (h : Rt 0 l) (ht : Ok l) (n : Int) : has (rest l) n ↔ 0 ≤ n ∧ n ≤ 9223372036854775807 ∧ ¬ has l n := (restF_spec n l 0 0 h (fun s hs => (ht s hs).2.2) (by omega) (by omega) (by omega)).2
theorem rest_ok {l : List S} (h : Rt 0 l) (ht : Ok l) : Ok (rest l) := ok_of (rest_rt h ht) (by omega) fun n hn => ((rest_has h ht n).1 hn).2.1
theorem restF_len : ∀ (l : List S) (low : Int), (restF low l).length ≤ l.length + 1
  | [], low => by simp [restF]
  | s :: r, low => by
    unfold restF
    have := restF_len r (s.2 + 1)
    split <;> split <;> simp <;> omega
/-- of any spans: union, both, minus -/
def uni (a b : List S) : List S := nf (a ++ b)
def bothS (a b : List S) : List S := both (nf a) (nf b)
def minus (a b : List S) : List S := bothS a (rest (nf b))
theorem uni_rt (a b : List S) : Rt 0 (uni a b) := nf_rt _
theorem uni_has (a b : List S) (n : Int) : has (uni a b) n ↔ has a n ∨ has b n := by rw [uni, nf_has, has_app]
theorem uni_ok {a b : List S} (ha : Ok a) (hb : Ok b) : Ok (uni a b) := nf_ok (ha.app hb)
theorem bothS_rt (a b : List S) : Rt 0 (bothS a b) := both_rt (nf_rt a) (nf_rt b)
theorem bothS_has (a b : List S) (n : Int) : has (bothS a b) n ↔ has a n ∧ has b n := by rw [bothS, both_has (nf_rt a) (nf_rt b), nf_has, nf_has]
theorem bothS_ok {a b : List S} (ha : Ok a) : Ok (bothS a b) := ok_of (bothS_rt a b) (by omega) fun n hn => ha.has ((bothS_has a b n).1 hn).1
theorem minus_rt (a b : List S) : Rt 0 (minus a b) := bothS_rt _ _
theorem minus_has {a b : List S} (ha : Ok a) (hb : Ok b) (n : Int) : has (minus a b) n ↔ has a n ∧ ¬ has b n := by
  rw [minus, bothS_has, rest_has (nf_rt b) (nf_ok hb), nf_has]
  constructor
  · exact fun h => ⟨h.1, h.2.2.2⟩
  · refine fun h => ⟨h.1, ?_, ha.has h.1, h.2⟩
    obtain ⟨s, _, h1, _⟩ := h.1; exact h1
theorem minus_ok {a b : List S} (ha : Ok a) : Ok (minus a b) := bothS_ok ha
theorem uni_len (a b : List S) : (uni a b).length ≤ a.length + b.length := by have := nf_len (a ++ b); simpa [uni] using this
theorem bothS_len (a b : List S) : (bothS a b).length ≤ a.length + b.length := by
  have h1 := both_len _ (nf a) (nf b) (Nat.le_refl _)
  have h2 := nf_len a
  have h3 := nf_len b
  unfold bothS; omega
theorem minus_len (a b : List S) : (minus a b).length ≤ a.length + b.length + 1 := by
  have h1 := bothS_len a (rest (nf b))
  have h2 := restF_len (nf b) 0
  have h3 := nf_len b
  unfold minus; unfold rest at *; omega
theorem empty_of {l : List S} (h : Rt 0 l) (hn : ∀ n, ¬ has l n) : l = [] := by
  cases l with
  | nil => rfl
  | cons s r => exact absurd (h.lo (by omega) (s := s) (by simp)) (hn _)
end Gv.Sp
/- Spans as ghost values. -/
set_option linter.unusedVariables false
namespace Gv
def spG (s : Sp.S) : List GVal := [.int .i64 s.1, .int .i64 s.2]
def spl (l : List Sp.S) : List (List GVal) := l.map spG
theorem spl_length (l : List Sp.S) : (spl l).length = l.length := by simp [spl]
theorem spl_at (l : List Sp.S) (i : Nat) (h : i < l.length) : (spl l).getD i [] = spG (l.getD i (0, 0)) := by simp [spl, List.getD, h]
theorem spl_append (a b : List Sp.S) : spl (a ++ b) = spl a ++ spl b := by simp [spl]
theorem spl_one (s : Sp.S) : spl [s] = [spG s] := rfl
theorem spl_nil : spl [] = [] := rfl
theorem spl_cons (s : Sp.S) (l : List Sp.S) : spl (s :: l) = spG s :: spl l := rfl
theorem spl_take (l : List Sp.S) (n : Nat) : (spl l).take n = spl (l.take n) := by simp [spl, List.map_take]
theorem spl_drop (l : List Sp.S) (n : Nat) : (spl l).drop n = spl (l.drop n) := by simp [spl, List.map_drop]
theorem all_spl (l : List Sp.S) : (∀ x ∈ spl l, x.length = 2) = True := eq_true fun x hx => by obtain ⟨s, _, rfl⟩ := List.mem_map.1 hx; rfl
theorem spl_set (l : List Sp.S) (i : Nat) (s : Sp.S) : (spl l).set i (spG s) = spl (l.set i s) := by simp [spl, List.map_set]
theorem frz_spl (O : List GObj) (n : Nat) (l : List Sp.S) : frzLL (Gv.frz O (n + 1)) (spl l) = some (spl l) :=
  frzLL_same fun x hx => by
    obtain ⟨s, _, rfl⟩ := List.mem_map.1 hx
    simp only [spG, frzL, Gv.frz]
theorem frz_splS (O : List GObj) (n : Nat) (l : List Sp.S) (t : Tag) : Gv.frz O (n + 2) (.slice (spl l) t) = some (.slice (spl l) t.frz) := by
  rw [Gv.frz, frz_spl]
theorem getD_last {α : Type} (A : List α) (x d : α) : (A ++ [x]).getD A.length d = x := by simp [List.getD]
theorem spl_setLast (A : List Sp.S) (x y : Sp.S) : (spl (A ++ [x])).set A.length (spG y) = spl (A ++ [y]) := by
  rw [spl_set, List.set_append_right _ _ (Nat.le_refl _), Nat.sub_self]; rfl
theorem drop_getD {l : List Sp.S} {k : Nat} (h : k < l.length) : l.drop k = l.getD k (0, 0) :: l.drop (k + 1) := by
  rw [List.drop_eq_getElem_cons h]; simp [List.getD, h]
theorem take_getD {l : List Sp.S} {k : Nat} (h : k < l.length) : l.take (k + 1) = l.take k ++ [l.getD k (0, 0)] := by
  rw [List.take_add_one]; simp [List.getD, h]
end Gv
/- What some shapes read as. -/
set_option linter.unusedVariables false
namespace Gv
open Go
theorem wf_i64 {n : Int} (h : (Lit.int .i64 n).wf = true) : -9223372036854775808 ≤ n ∧ n ≤ 9223372036854775807 := by
  have e1 : IntKind.i64.min = -9223372036854775808 := by decide
  have e2 : IntKind.i64.max = 9223372036854775807 := by decide
  simp [Lit.wf] at h; omega
theorem den_slice {α : Type} {e : Sh} (enc : α → List GVal) (ok : α → Prop) (he : ∀ {x}, Den e x → ∃ a, x = enc a ∧ ok a) {gs : List GVal} (h : Den (.slice e) gs) : ∃ l : List α, gs = [.slice (l.map enc) .none] ∧ l.length ≤ maxLen ∧ ∀ a ∈ l, ok a := by
  obtain ⟨xs, rfl, hl, hx⟩ := h
  have : ∀ xs : List (List GVal), (∀ x ∈ xs, Den e x) → ∃ l : List α, xs = l.map enc ∧ ∀ a ∈ l, ok a := by
    intro xs
    induction xs with
    | nil => exact fun _ => ⟨[], rfl, by simp⟩
    | cons a r ih =>
      intro h
      obtain ⟨l, rfl, hl⟩ := ih fun x hx => h x (by simp [hx])
      obtain ⟨n, rfl, hn⟩ := he (h a (by simp))
      exact ⟨n :: l, rfl, by simpa using ⟨hn, hl⟩⟩
  obtain ⟨l, rfl, h2⟩ := this xs hx
  exact ⟨l, rfl, by simpa using hl, h2⟩
theorem den_i64s {gs : List GVal} (h : Den (.slice (.int .i64)) gs) : ∃ l : List Int, gs = [.slice (ints l) .none] ∧ l.length ≤ 9223372036854775807 ∧ ∀ i, -9223372036854775808 ≤ l.getD i 0 ∧ l.getD i 0 ≤ 9223372036854775807 := by
  obtain ⟨l, rfl, h1, h2⟩ := den_slice (fun n : Int => [.int .i64 n]) (fun n => (Lit.int .i64 n).wf = true) (fun {x} (h : Den (.int .i64) x) => h) h
  refine ⟨l, rfl, Nat.le_trans h1 (by decide), fun i => ?_⟩
  by_cases hi : i < l.length
  · rw [List.getD_eq_getElem?_getD, List.getElem?_eq_getElem hi]; exact wf_i64 (h2 _ (List.getElem_mem hi))
  · rw [List.getD_eq_getElem?_getD, List.getElem?_eq_none (by omega)]; simp
theorem den_spans {gs : List GVal} (h : Den (.slice (.agg [.int .i64, .int .i64])) gs) : ∃ l : List Sp.S, gs = [.slice (spl l) .none] ∧ l.length ≤ 9223372036854775807 ∧ Sp.Ok l := by
  obtain ⟨l, rfl, h1, h2⟩ := den_slice spG (fun s => (-9223372036854775808 ≤ s.1 ∧ s.1 ≤ 9223372036854775807) ∧ (-9223372036854775808 ≤ s.2 ∧ s.2 ≤ 9223372036854775807)) (fun {x} h => by
    obtain ⟨ps, rfl, p, q, rfl, ⟨a, rfl, wa⟩, p2, q2, rfl, ⟨b, rfl, wb⟩, rfl⟩ := h
    exact ⟨(a, b), rfl, wf_i64 wa, wf_i64 wb⟩) h
  exact ⟨l, rfl, Nat.le_trans h1 (by decide), h2⟩
end Gv
/- From a reading of plain data to what it is without memory: with arrays, and how long slices can be at most. -/
set_option linter.unusedVariables false
namespace Gv
open Go Go.RowKit Go.WideShapes Go.ChangeShapes
namespace Z

/-- a type's shape -/
inductive Sh where
  | int (k : IntKind)
  | bool
  | str
  | slice (e : Sh)
  | agg (l : List Sh)
  | arr (n : Nat) (e : Sh)
mutual
def Sh.size : Sh → Nat
  | .agg l => Sh.sizes l
  | .arr n e => n * e.size
  | _ => 1
def Sh.sizes : List Sh → Nat
  | [] => 0
  | s :: r => s.size + Sh.sizes r
end
mutual
/-- a value takes as many bytes at least -/
def Sh.low : Sh → Nat
  | .int .i64 => 8
  | .int .u64 => 8
  | .int _ => 1
  | .bool => 1
  | .str => 16
  | .slice _ => 24
  | .agg l => Sh.lows l
  | .arr n e => n * e.low
def Sh.lows : List Sh → Nat
  | [] => 0
  | s :: r => s.low + Sh.lows r
end
mutual
def shB (P : Program) : Sh → TypeId → Bool
  | .int k, t => match P.underlying t with
    | some (.int k') => k = k'
    | _ => false
  | .bool, t => match P.underlying t with
    | some .bool => true
    | _ => false
  | .str, t => match P.underlying t with
    | some .string => true
    | _ => false
  | .slice e, t => match P.underlying t with
    | some (.slice et) => shB P e et && P.cellsOf et == e.size && decide (0 < e.size) && decide (e.low ≤ P.bytesOf et)
    | _ => false
  | .agg l, t => match P.underlying t with
    | some (.struct fs) => shBs P l fs.toList 0 && P.cellsOf t == Sh.sizes l
    | _ => false
  | .arr n e, t => match P.underlying t with
    | some (.array n' et) => n == n' && shB P e et && P.cellsOf et == e.size && P.cellsOf t == n * e.size
    | _ => false
def shBs (P : Program) : List Sh → List Field → Nat → Bool
  | [], [], _ => true
  | s :: r, f :: fs, o => f.offset == o && P.cellsOf f.type == s.size && shB P s f.type && shBs P r fs (o + s.size)
  | _, _, _ => false
end
mutual
/-- what a reading's cells are -/
def Den : Sh → List GVal → Prop
  | .int k, gs => ∃ n, gs = [.int k n] ∧ (Lit.int k n).wf = true
  | .bool, gs => ∃ b, gs = [.bool b]
  | .str, gs => ∃ s, gs = [.str s] ∧ s.length ≤ reachBytes
  | .slice e, gs => ∃ xs, gs = [.slice xs .none] ∧ (xs.length ≤ maxLen ∧ xs.length * e.low ≤ reachBytes) ∧ ∀ x ∈ xs, Den e x
  | .agg l, gs => ∃ ps, gs = ps.flatten ∧ Dens l ps
  | .arr n e, gs => ∃ ps : List (List GVal), gs = ps.flatten ∧ ps.length = n ∧ ∀ p ∈ ps, Den e p ∧ p.length = e.size
def Dens : List Sh → List (List GVal) → Prop
  | [], ps => ps = []
  | s :: r, ps => ∃ p q, ps = p :: q ∧ Den s p ∧ Dens r q
end

theorem mem_all {H : Type} {P : Program} {e : TypeId} : ∀ {ds : List (DataW H)} {d : DataW H}, d ∈ ds → ∀ n ∈ d.weights P e, n ∈ DataW.weightsAll P e ds
  | a :: r, d, hd, n, hn => by
    simp only [DataW.weightsAll, List.mem_append]
    rcases List.mem_cons.1 hd with rfl | hd
    · exact .inl hn
    · exact .inr (mem_all hd n hn)
  | [], d, hd, n, hn => by simp at hd
section
variable {H : Type} {enc : TypeId × Value → H} {P : Program} {w : World} {spare : Nat → Bool} {held : Bool}

mutual
theorem rd : ∀ (S : Sh) (n : Nat) (t : TypeId) (cs : List Value) (x : DataW H × List MemPlace), shB P S t = true → DataW.trod enc P w 0 spare held n t cs = some x → (∀ k ∈ x.1.weights P t, k ≤ reachBytes) → ∃ gs, CellsOK w cs gs ∧ Den S gs ∧ cs.length = S.size
  | .int k, n, t, cs, x, hs, h, hw => by
    unfold shB at hs
    split at hs
    · rename_i k' hu
      have hs : k = k' := by simpa using hs
      subst hs
      obtain ⟨m, rfl, _, hwf⟩ := DataW.trod_int hu h
      exact ⟨[.int k m], .one rfl (.int _ _), ⟨m, rfl, hwf⟩, rfl⟩
    · cases hs
  | .bool, n, t, cs, x, hs, h, hw => by
    unfold shB at hs
    split at hs
    · rename_i hu
      obtain ⟨b, rfl, _⟩ := DataW.trod_bool hu h
      exact ⟨[.bool b], .one rfl (.bool _), ⟨b, rfl⟩, rfl⟩
    · cases hs
  | .str, n, t, cs, x, hs, h, hw => by
    unfold shB at hs
    split at hs
    · rename_i hu
      cases n with
      | zero => simp [DataW.trod] at h
      | succ n =>
        unfold DataW.trod at h
        rw [hu] at h
        match cs, h with
        | [.string b], h =>
          simp only at h
          split at h
          · rename_i hl
            simp only [Option.some.injEq] at h
            subst h
            refine ⟨[.str b.data.toList], .one rfl ?_, ⟨_, rfl, ?_⟩, rfl⟩
            · exact VR.str (E := Env.all w) b.data.toList
            · exact hw _ (by simp [DataW.weights])
          · cases h
    · cases hs
  | .slice e, n, t, cs, x, hs, h, hw => by
    unfold shB at hs
    split at hs
    · rename_i et hu
      simp only [Bool.and_eq_true, beq_iff_eq] at hs
      obtain ⟨⟨⟨hs, hsz⟩, hpos⟩, hlow⟩ := hs
      have hpos : 0 < e.size := by simpa using hpos
      have hlow : e.low ≤ P.bytesOf et := by simpa using hlow
      rcases DataW.trod_slice hu h with ⟨rfl, _⟩ | ⟨a, len, cap, elems, rest, m, rfl, rfl, rfl, _, hlc, hcm, hel, helem, _, _⟩
      · exact ⟨[.slice [] .none], .one rfl (.slice none 0 0 [] .none 0 (fun _ => .bool true) rfl (Nat.le_refl _) (by simp) (fun hx => absurd rfl hx) (by simp) trivial), ⟨[], rfl, ⟨by simp, by simp⟩, by simp⟩, rfl⟩
      · have hw0 : (elems.length + rest.length) * P.bytesOf et ≤ reachBytes := by
          have := hw ((elems.length + rest.length) * P.bytesOf et) (by show _ ∈ DataW.weights P t (.slice _ _); rw [DataW.weights]; simp only [hu, List.length_map]; exact List.mem_cons_self)
          exact this
        have hwE : ∀ d ∈ elems.map (·.1), ∀ k ∈ d.weights P et, k ≤ reachBytes := fun d hd k hk =>
          hw k (by show k ∈ DataW.weights P t (.slice _ _); rw [DataW.weights]; simp only [hu]; exact List.mem_cons_of_mem _ (List.mem_append_left _ (mem_all hd k hk)))
        have each : ∀ i : Nat, ∃ cs gs, i < len → (w.cells? 0 (a.add (i * P.cellsOf et)) (P.cellsOf et)) = some cs ∧ CellsOK w cs gs ∧ Den e gs ∧ cs.length = e.size := by
          intro i
          by_cases hi : i < len
          · have := helem i hi
            rw [← hel] at hi
            rw [List.getElem?_eq_getElem hi, Option.bind_eq_some_iff] at this
            obtain ⟨cs, h1, h2⟩ := this
            obtain ⟨gs, h3, h4, h5⟩ := rd e m et cs _ hs h2 (fun k hk => hwE _ (List.mem_map_of_mem (List.getElem_mem hi)) k hk)
            exact ⟨cs, gs, fun _ => ⟨h1, h3, h4, h5⟩⟩
          · exact ⟨[], [], fun h => absurd h hi⟩
        obtain ⟨C, hC⟩ := Classical.axiomOfChoice each
        obtain ⟨G, hCG⟩ := Classical.axiomOfChoice hC
        refine ⟨[.slice ((List.range len).map G) .none], .one rfl ?_, ⟨_, rfl, ⟨by simp; omega, ?_⟩, fun x hx => ?_⟩, rfl⟩
        · have hG : ∀ i, i < len → (G i).length = e.size := fun i hi => by rw [← (hCG i hi).2.1.1]; exact (hCG i hi).2.2.2
          have cell : ∀ i, i < len → ∀ j, j < e.size → w.cell? ((a.add (i * e.size)).add j) = (C i)[j]? := fun i hi j hj => by
            have := cells_at (hCG i hi).1
            rw [hsz] at this
            exact this.2 j hj
          have dm : ∀ k, k < len * e.size → k / e.size < len ∧ k % e.size < e.size ∧ k / e.size * e.size + k % e.size = k := fun k hk =>
            ⟨(Nat.div_lt_iff_lt_mul hpos).2 hk, Nat.mod_lt _ hpos, by rw [Nat.mul_comm]; exact Nat.div_add_mod k e.size⟩
          have hszs : ∀ x ∈ (List.range len).map G, x.length = e.size := fun x hx => by
            obtain ⟨i, hi, rfl⟩ := List.mem_map.1 hx
            exact hG i (by simpa using hi)
          refine .slice (some a) len cap _ .none e.size (fun k => ((C (k / e.size))[k % e.size]?).getD (.bool true)) (by simp) hlc hszs (fun hx => ?_) (fun k g hk => ?_) trivial
          · have hlen : 0 < len := by
              rcases Nat.eq_zero_or_pos len with h0 | h0
              · subst h0; simp at hx
              · exact h0
            have in_ : ∀ i, i < len → ∀ j, j < e.size → ∃ v, (C i)[j]? = some v ∧ v.oneCell' = true := fun i hi j hj => by
              have hl : j < (C i).length := by rw [(hCG i hi).2.2.2]; exact hj
              exact ⟨_, List.getElem?_eq_getElem hl, (hCG i hi).2.1.2.1 _ (List.getElem_mem hl)⟩
            obtain ⟨b, off, spot⟩ := a
            have hspot : spot = none := by
              obtain ⟨v, hv, _⟩ := in_ 0 hlen 0 hpos
              have := cell 0 hlen 0 hpos
              rw [hv] at this
              simpa [Addr.add] using World.cell?_spot this
            subst hspot
            refine ⟨b, off, rfl, fun k hk => ?_⟩
            obtain ⟨d1, d2, d3⟩ := dm k hk
            obtain ⟨v, hv, hv2⟩ := in_ _ d1 _ d2
            have := cell _ d1 _ d2
            rw [hv] at this
            rw [hv]
            refine Env.all_at ?_ hv2
            rw [add_at, add_at, Nat.add_assoc, d3] at this
            exact this
          · have hk' : k < len * e.size := by
              have := (List.getElem?_eq_some_iff.1 hk).1
              rw [flat_len hszs] at this
              simpa using this
            obtain ⟨d1, d2, d3⟩ := dm k hk'
            have hx : ((List.range len).map G)[k / e.size]? = some (G (k / e.size)) := by simp [d1]
            have e1 := flatten_at _ hszs (k / e.size) (k % e.size) _ hx d2
            rw [d3, hk] at e1
            have hl : k % e.size < (C (k / e.size)).length := by rw [(hCG _ d1).2.2.2]; exact d2
            rw [List.getElem?_eq_getElem hl]
            exact (hCG _ d1).2.1.2.2 _ _ _ (List.getElem?_eq_getElem hl) e1.symm
        · rw [List.length_map, List.length_range]
          refine Nat.le_trans (Nat.mul_le_mul (by omega : len ≤ elems.length + rest.length) hlow) hw0
        · obtain ⟨i, hi, rfl⟩ := List.mem_map.1 hx
          exact (hCG i (by simpa using hi)).2.2.1
    · cases hs
  | .agg l, n, t, cs, x, hs, h, hw => by
    unfold shB at hs
    split at hs
    · rename_i fs hu
      simp only [Bool.and_eq_true, beq_iff_eq] at hs
      obtain ⟨hs, hsz⟩ := hs
      obtain ⟨xs, m, rfl, rfl, hcl, hxl, hf⟩ := DataW.trod_struct hu h
      obtain ⟨ps, h1, h2⟩ := rds l m fs.toList cs 0 hs (by simpa [hsz] using hcl) (fun f hf' => by
        obtain ⟨i, hi⟩ := List.getElem?_of_mem hf'
        have := hf i f (by simpa using hi)
        have hlt : i < xs.length := by rw [hxl]; simpa using (List.getElem?_eq_some_iff.1 hi).1
        rw [List.getElem?_eq_getElem hlt] at this
        refine ⟨_, this, fun k hk => hw k ?_⟩
        simp only [DataW.weights, hu]
        exact DataW.weights_mem_each (j := i) (t := f.type) (d := xs[i].1) (by rw [List.getElem?_map, hi]; rfl) (by rw [List.getElem?_map, List.getElem?_eq_getElem hlt]; rfl) k hk)
      exact ⟨ps.flatten, by simpa using h1, ⟨ps, rfl, h2⟩, by rw [hcl, hsz]; rfl⟩
    · cases hs
  | .arr c e, n, t, cs, x, hs, h, hw => by
    unfold shB at hs
    split at hs
    · rename_i n' et hu
      simp only [Bool.and_eq_true, beq_iff_eq] at hs
      obtain ⟨⟨⟨rfl, hs⟩, hsz⟩, hct⟩ := hs
      obtain ⟨xs, m, rfl, rfl, hcl, hxl, hf⟩ := DataW.trod_array hu h
      have key : ∀ k, k ≤ c → ∃ ps : List (List GVal), CellsOK w (cs.take (k * e.size)) ps.flatten ∧ ps.length = k ∧ ∀ p ∈ ps, Den e p ∧ p.length = e.size := by
        intro k
        induction k with
        | zero => exact fun _ => ⟨[], by simp [CellsOK], rfl, by simp⟩
        | succ k ih =>
          intro hk
          obtain ⟨ps, h1, h2, h3⟩ := ih (by omega)
          have := hf k (by omega)
          have hlt : k < xs.length := by omega
          rw [List.getElem?_eq_getElem hlt] at this
          obtain ⟨gs, q1, q2, q3⟩ := rd e m et _ _ hs this (fun z hz => hw z (by
            simp only [DataW.weights, hu]
            exact mem_all (List.mem_map_of_mem (List.getElem_mem hlt)) z hz))
          refine ⟨ps ++ [gs], ?_, by simp [h2], fun p hp => ?_⟩
          · rw [List.flatten_append, List.flatten_cons, List.flatten_nil, List.append_nil, Nat.succ_mul, List.take_add]
            rw [hsz] at q1
            exact h1.append q1
          · rcases List.mem_append.1 hp with hp | hp
            · exact h3 p hp
            · simp at hp; subst hp
              exact ⟨q2, by rw [← q1.1, q3]⟩
      obtain ⟨ps, h1, h2, h3⟩ := key c (Nat.le_refl _)
      rw [List.take_of_length_le (by omega)] at h1
      exact ⟨ps.flatten, h1, ⟨ps, rfl, h2, h3⟩, by rw [hcl, hct]; rfl⟩
    · cases hs
theorem rds : ∀ (l : List Sh) (n : Nat) (fs : List Field) (cs : List Value) (o : Nat), shBs P l fs o = true → cs.length = o + Sh.sizes l →
    (∀ f ∈ fs, ∃ x, DataW.trod enc P w 0 spare held n f.type ((cs.drop f.offset).take (P.cellsOf f.type)) = some x ∧ ∀ k ∈ x.1.weights P f.type, k ≤ reachBytes) → ∃ ps, CellsOK w (cs.drop o) ps.flatten ∧ Dens l ps
  | [], n, fs, cs, o, hs, hl, h => by
    refine ⟨[], ?_, rfl⟩
    rw [List.drop_eq_nil_of_le (by rw [hl]; simp [Sh.sizes])]
    exact ⟨rfl, by simp, fun j c g h1 => by simp at h1⟩
  | s :: r, n, fs, cs, o, hs, hl, h => by
    match fs, hs, h with
    | f :: fs, hs, h =>
      unfold shBs at hs
      simp only [Bool.and_eq_true, beq_iff_eq] at hs
      obtain ⟨⟨⟨h1, h2⟩, h3⟩, h4⟩ := hs
      obtain ⟨x, hx, hxw⟩ := h f (by simp)
      obtain ⟨gs, q1, q2, q3⟩ := rd s n f.type _ _ h3 hx hxw
      simp only [Sh.sizes] at hl
      obtain ⟨ps, k1, k2⟩ := rds r n fs cs (o + s.size) h4 (by rw [hl]; omega) (fun f' hf' => h f' (by simp [hf']))
      refine ⟨gs :: ps, ?_, ⟨gs, ps, rfl, q2, k2⟩⟩
      rw [List.flatten_cons]
      have e : cs.drop o = (cs.drop f.offset).take (P.cellsOf f.type) ++ cs.drop (o + s.size) := by
        rw [h1, h2, ← List.drop_drop]; exact (List.take_append_drop _ _).symm
      rw [e]
      exact q1.append k1
    | [], hs, h => simp [shBs] at hs
end

def Sh.val : Sh → List GVal → GVal
  | .agg _, gs => .agg gs
  | .arr _ _, gs => .agg gs
  | _, gs => gs.headD .any

/-- an argument, from its reading -/
theorem arg_read {S : Sh} {t : TypeId} {r : Reach} {base : Nat} {v : Value} {d : DataW H} {ps : List MemPlace} (hs : shB P S t = true) (hval : Value.okWide P w r base t v) (h : DataW.Trod enc P w 0 spare held t v d ps) (hw : ∀ k ∈ d.weights P t, k ≤ reachBytes) :
    ∃ gs, Den S gs ∧ VR (Env.all w) v (S.val gs) := by
  obtain ⟨n, h⟩ := h
  obtain ⟨gs, h1, h2, h3⟩ := rd S n t _ _ hs h hw
  refine ⟨gs, h2, ?_⟩
  have single : ∀ x : Value, v = x → x.cells.toList = [x] → (∃ g, gs = [g]) → S.val gs = gs.headD .any → VR (Env.all w) v (S.val gs) := by
    intro x hx hc ⟨g, hg⟩ hv
    subst hx; subst hg
    rw [hv]
    rw [hc] at h1
    exact h1.2.2 0 _ _ rfl rfl
  cases S with
  | int k =>
    unfold shB at hs
    split at hs
    · rename_i k' hu
      obtain ⟨n, rfl⟩ := okWide_int hu hval
      obtain ⟨m, e, _⟩ := h2
      exact single _ rfl rfl ⟨_, e⟩ rfl
    · cases hs
  | bool =>
    unfold shB at hs
    split at hs
    · rename_i hu
      obtain ⟨n, rfl⟩ := okWide_bool hu hval
      obtain ⟨m, e⟩ := h2
      exact single _ rfl rfl ⟨_, e⟩ rfl
    · cases hs
  | str =>
    unfold shB at hs
    split at hs
    · rename_i hu
      obtain ⟨n, rfl⟩ := okWide_string hu hval
      obtain ⟨m, e, _⟩ := h2
      exact single _ rfl rfl ⟨_, e⟩ rfl
    · cases hs
  | slice e =>
    unfold shB at hs
    split at hs
    · rename_i et hu
      obtain ⟨a, len, cap, rfl⟩ := okWide_slice hu hval
      obtain ⟨m, e, _⟩ := h2
      exact single _ rfl rfl ⟨_, e⟩ rfl
    · cases hs
  | agg l =>
    unfold shB at hs
    split at hs
    · rename_i fs hu
      obtain ⟨cs, rfl, _⟩ := okWide_struct hu hval
      refine .agg cs gs (by have := h1.1; simpa [Value.cells] using this) (fun j g hj => ?_)
      have hl : j < cs.size := by
        have := (List.getElem?_eq_some_iff.1 hj).1
        rw [← h1.1] at this; simpa [Value.cells] using this
      have := h1.2.2 j cs[j] g (by simp [Value.cells, hl]) hj
      simpa [Array.getD, hl] using this
    · cases hs
  | arr c e =>
    unfold shB at hs
    split at hs
    · rename_i n' et hu
      have hval' := hval
      simp only [Value.okWide, hu] at hval'
      obtain ⟨cs, rfl, hcs, _⟩ := hval'
      refine .agg cs gs (by have := h1.1; simpa [Value.cells] using this) (fun j g hj => ?_)
      have hl : j < cs.size := by
        have := (List.getElem?_eq_some_iff.1 hj).1
        rw [← h1.1] at this; simpa [Value.cells] using this
      have := h1.2.2 j cs[j] g (by simp [Value.cells, hl]) hj
      simpa [Array.getD, hl] using this
    · cases hs
end
end Z
end Gv
/- HexDigits, HexText: from the readings. -/
set_option linter.unusedVariables false
namespace Gv.Tryd
open Go Gv Go.Proofs
theorem wf_u8 {n : Int} (h : (Lit.int .u8 n).wf = true) : 0 ≤ n ∧ n ≤ 255 := by
  have e1 : IntKind.u8.min = 0 := by decide
  have e2 : IntKind.u8.max = 255 := by decide
  simp [Lit.wf] at h; omega
abbrev hashZ : Z.Sh := .arr 32 (.int .u8)
theorem denZ_u8s : ∀ {ps : List (List GVal)}, (∀ p ∈ ps, Z.Den (.int .u8) p) → ∃ a : List UInt8, a.length = ps.length ∧ ps.flatten = bytesG a
  | [], _ => ⟨[], rfl, rfl⟩
  | p :: q, h => by
    obtain ⟨m, rfl, hm⟩ := h p (by simp)
    obtain ⟨a, la, ea⟩ := denZ_u8s fun x hx => h x (List.mem_cons_of_mem _ hx)
    have := wf_u8 hm
    refine ⟨UInt8.ofNat m.toNat :: a, by simp [la], ?_⟩
    simp [ea, bytesG]; omega
theorem denZ_hash {gs : List GVal} (h : Z.Den hashZ gs) : ∃ a : Hs, gs = bytesG a.1 := by
  obtain ⟨ps, rfl, hl, hp⟩ := h
  obtain ⟨a, la, ea⟩ := denZ_u8s fun p hp' => (hp p hp').1
  exact ⟨⟨a, by rw [la, hl]⟩, ea⟩
theorem denZ_u8 {gs : List GVal} (h : Z.Den (.int .u8) gs) : ∃ c : UInt8, gs = [.int .u8 c.toNat] := by
  obtain ⟨m, rfl, hm⟩ := h
  have := wf_u8 hm
  refine ⟨UInt8.ofNat m.toNat, ?_⟩
  have e : ((UInt8.ofNat m.toNat).toNat : Int) = m := by
    rw [UInt8.toNat_ofNat']; omega
  rw [e]
theorem wHexDigits {g0 g1 g2 : List GVal} (h0 : Z.Den (.int .u8) g0) (h1 : Z.Den (.int .i64) g1) (h2 : Z.Den (.int .i64) g2) : GPure Tryd.prog 3 ([Z.Sh.val (.int .u8) g0] ++ [Z.Sh.val (.int .i64) g1] ++ [Z.Sh.val (.int .i64) g2]) (.bool true) := by
  obtain ⟨c, rfl⟩ := denZ_u8 h0
  obtain ⟨n, rfl, wn⟩ := h1
  obtain ⟨k, rfl, wk⟩ := h2
  exact spec3 c n k
theorem wHexText {g0 g1 g2 g3 g4 g5 : List GVal} (h0 : Z.Den hashZ g0) (h1 : Z.Den hashZ g1) (h2 : Z.Den .str g2) (h3 : Z.Den (.int .i64) g3) (h4 : Z.Den (.int .i64) g4) (h5 : Z.Den .bool g5) : GPure Tryd.prog 4 ([Z.Sh.val hashZ g0] ++ [Z.Sh.val hashZ g1] ++ [Z.Sh.val .str g2] ++ [Z.Sh.val (.int .i64) g3] ++ [Z.Sh.val (.int .i64) g4] ++ [Z.Sh.val .bool g5]) (.bool true) := by
  obtain ⟨a, rfl⟩ := denZ_hash h0
  obtain ⟨b, rfl⟩ := denZ_hash h1
  obtain ⟨s, rfl, ls⟩ := h2
  obtain ⟨n, rfl, wn⟩ := h3
  obtain ⟨k, rfl, wk⟩ := h4
  obtain ⟨near, rfl⟩ := h5
  have e : s.length ≤ 9223372036854775807 := by unfold reachBytes at ls; omega
  cases near with
  | true => exact spec4t a.1 b.1 s n k a.2 b.2 (wf_i64 wk)
  | false => exact spec4f a.1 b.1 s n k a.2 b.2 e
end Gv.Tryd
/- What the listed variable (errors.errorType) holds when a call begins, for this seat. -/
namespace Go.Proofs.YtppbonmfhgikhaaDoor
open Go Go.ChangeShapes Go.WideShapes Go.RowKit
theorem laidOwn : ownKnob Tryd.prog.godebug = none := by kernel_rfl
theorem laidOut : laidOutB Tryd.prog = true := by kernel_rfl
abbrev laidL : List (String × DataW Unit) := [("errors.errorType", Rows.laid_errors_errorType)]
theorem laidVar : Tryd.prog.globalNamed "errors.errorType" = some 0 := by kernel_rfl
theorem laidRt : (Tryd.prog.cutTypes.find? (·.1 == "internal/reflectlite.rtype")).map (·.2) = some 74 := by kernel_rfl
theorem laidRow : ((List.range 136).filter fun t => Tryd.prog.rowNamed t [101, 114, 114, 111, 114]) = [29] := by kernel_rfl
theorem laidSize : Tryd.prog.types.size = 136 := by kernel_rfl
theorem laidHandle {W : World} (h : laidMetH Tryd.prog laidL W) : W.cell? ⟨0, 0, none⟩ = some (.iface 74 (.agg #[.pointer (some ⟨2, 29, none⟩)])) := by
  have h' : laidMet Tryd.prog [] W ∧ handlesMet Tryd.prog laidL W := h
  obtain ⟨name, u, ty, e1, e2, e3, e4, e5⟩ := h'.2 _ (List.mem_singleton.2 rfl)
  have en : name = [101, 114, 114, 111, 114] := (Option.some.inj e1).symm
  subst en
  obtain rfl := Option.some.inj (laidRt.symm.trans e2)
  have hm : ty ∈ (List.range 136).filter fun t => Tryd.prog.rowNamed t [101, 114, 114, 111, 114] := List.mem_filter.2 ⟨List.mem_range.2 (by rw [← laidSize]; exact e3), e4⟩
  rw [laidRow] at hm
  obtain rfl := List.mem_singleton.1 hm
  have hh : typeHandle Tryd.prog 29 = .pointer (some ⟨2, 29, none⟩) := by kernel_rfl
  rw [hh] at e5
  simpa using World.var?_cell laidVar e5 0
theorem laidGlobs {W : World} (h : laidMetH Tryd.prog laidL W) : Gv.GlobsIn W := fun p hp => by
  obtain rfl : p = (0, 0, .iface 74 (.agg #[.pointer (some ⟨2, 29, none⟩)])) := by simpa [Gv.globs] using hp
  exact ⟨laidHandle h, rfl⟩
/-- a world in which the variable is laid -/
noncomputable def laidWorld (os : Os) : World :=
  let w0 := World.holding Tryd.prog os ⟨#[], #[], []⟩
  { w0 with heap := w0.heap.modify 0 fun
      | .cells _ t frozen => .cells #[.iface 74 (.agg #[.pointer (some ⟨2, 29, none⟩)])] t frozen
      | o => o }
theorem laidWorld_met (os : Os) (args : Array Value) : laidMetH Tryd.prog laidL ((laidWorld os).forCall (fun _ _ => 0) ⟨#[], args, []⟩).memory :=
  laidMetH_of_parts (laidMet_nil _ _) (by kernel_rfl)
end Go.Proofs.YtppbonmfhgikhaaDoor
