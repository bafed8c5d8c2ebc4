/- Contracts: the document's segments. -/
import Derived.Test.YtcjiabpfahmjnaaSCb
set_option linter.unusedVariables false
set_option linter.unusedSimpArgs false
set_option maxRecDepth 20000
set_option maxHeartbeats 8000000
namespace Gv.Try
open Go Gv Go.Proofs

def spansOf (l : List Seg) : List (Int × Int) := l.map fun s => (s.lo, s.hi)
/-- an own group's span -/
def okP (p : Int × Int) : Prop := 0 ≤ p.1 ∧ p.1 ≤ p.2 ∧ p.2 ≤ split + 1000 ∧ (p.1 < split ↔ p.2 < split)
/-- segments one behind the other -/
def SegsOK (l : List Seg) : Prop := (∀ p ∈ spansOf l, okP p) ∧ (spansOf l).Pairwise (fun a b => a.2 < b.1)
theorem spansOf_set (l : List Seg) (i : Nat) (s : Seg) (h : s.lo = (l.getD i default).lo ∧ s.hi = (l.getD i default).hi) : spansOf (l.set i s) = spansOf l := by
  by_cases hi : i < l.length
  · apply List.ext_getElem (by simp [spansOf])
    intro j h1 h2
    simp only [spansOf, List.getElem_map, List.getElem_set]
    split
    · rename_i e; subst e; rw [h.1, h.2]; simp [List.getD, hi]
    · rfl
  · rw [List.set_eq_of_length_le (by omega)]
theorem sumP_set : ∀ (l : List Seg) (i : Nat) (s : Seg), s.par = (l.getD i default).par → sumP (l.set i s) = sumP l
  | [], i, s, h => rfl
  | a :: l, 0, s, h => by simp at h; simp [sumP, h]
  | a :: l, i + 1, s, h => by
    simp only [List.getD_cons_succ] at h
    simp [sumP, sumP_set l i s h]
theorem SegsOK_head (u : List Seg) (i : Nat) (b : Bool) (h : SegsOK u) : SegsOK (u.set i { u.getD i default with head := b }) := by
  have := spansOf_set u i { u.getD i default with head := b } ⟨rfl, rfl⟩
  unfold SegsOK
  rw [this]; exact h
theorem sumP_head (u : List Seg) (i : Nat) (b : Bool) : sumP (u.set i { u.getD i default with head := b }) = sumP u := sumP_set u i _ rfl
theorem SegsOK.snoc {l : List Seg} {s : Seg} (h : SegsOK l) (hs : okP (s.lo, s.hi)) (hl : ∀ x ∈ l, x.hi < s.lo) : SegsOK (l ++ [s]) := by
  obtain ⟨h1, h2⟩ := h
  refine ⟨fun p hp => ?_, ?_⟩
  · simp only [spansOf, List.map_append, List.map_cons, List.map_nil, List.mem_append, List.mem_singleton] at hp
    rcases hp with hp | rfl
    · exact h1 p hp
    · exact hs
  · simp only [spansOf, List.map_append, List.map_cons, List.map_nil, List.pairwise_append]
    refine ⟨h2, by simp, fun a ha b hb => ?_⟩
    simp at hb
    subst hb
    obtain ⟨x, hx, rfl⟩ := List.mem_map.1 ha
    exact hl x hx
theorem SegsOK.init {l : List Seg} {s : Seg} (h : SegsOK (l ++ [s])) : SegsOK l ∧ okP (s.lo, s.hi) ∧ ∀ x ∈ l, x.hi < s.lo := by
  obtain ⟨h1, h2⟩ := h
  simp only [spansOf, List.map_append, List.map_cons, List.map_nil, List.pairwise_append] at h1 h2
  refine ⟨⟨fun p hp => h1 p (by simp only [List.mem_append]; exact .inl hp), h2.1⟩, h1 _ (by simp), fun x hx => ?_⟩
  exact h2.2.2 (x.lo, x.hi) (List.mem_map.2 ⟨x, hx, rfl⟩) (s.lo, s.hi) (by simp)

/-- on the way: the segments of the first IDs -/
structure FlatInv (m o : List (List Int)) (k : Nat) (out : List Seg) : Prop where
  ok : SegsOK out
  mem : ∀ s ∈ out, ∃ j, j < k ∧ s.hi = (allI m.length o.length).getD j 0
  len : out.length ≤ k
  sum : sumP out ≤ 4 * k

theorem allI_at (m o k : Nat) (h : k < m + o) : (allI m o).getD k 0 = if k < m then (k : Int) else split + ((k - m : Nat) : Int) := by
  split
  · rename_i e; exact allI_getD1 m o k e
  · exact allI_getD2 m o k (by omega) h
theorem FlatInv.new {m o : List (List Int)} {k : Nat} {out : List Seg} (h : FlatInv m o k out) (hm : m.length + o.length ≤ 500) (hk : k < m.length + o.length) {p : List Int} (hp : p.length ≤ 4) {r b : Bool} :
    FlatInv m o (k + 1) (out ++ [⟨(allI m.length o.length).getD k 0, (allI m.length o.length).getD k 0, p, r, b⟩]) := by
  have hs : split = 1099511627776 := rfl
  have ek := allI_at m.length o.length k hk
  refine ⟨h.ok.snoc ?_ fun x hx => ?_, fun s hs => ?_, ?_, ?_⟩
  · show okP ((allI m.length o.length).getD k 0, (allI m.length o.length).getD k 0)
    unfold okP
    refine ⟨?_, ?_, ?_, Iff.rfl⟩ <;> simp only <;> split at ek <;> omega
  · obtain ⟨j, hj, e⟩ := h.mem x hx
    have ej := allI_at m.length o.length j (by omega)
    show x.hi < (allI m.length o.length).getD k 0
    split at ek <;> split at ej <;> omega
  · rcases List.mem_append.1 hs with hs | hs
    · obtain ⟨j, hj, e⟩ := h.mem s hs
      exact ⟨j, by omega, e⟩
    · simp at hs; subst hs; exact ⟨k, by omega, rfl⟩
  · have := h.len; simp; omega
  · have := h.sum; rw [sumP_app]; simp only [sumP]; omega
theorem FlatInv.more {m o : List (List Int)} {k : Nat} {out : List Seg} (h : FlatInv m o k out) (hm : m.length + o.length ≤ 500) (hk : k < m.length + o.length) (hne : out ≠ []) (he : (out.getD (out.length - 1) default).hi = (allI m.length o.length).getD k 0 - 1) :
    FlatInv m o (k + 1) (out.set (out.length - 1) { out.getD (out.length - 1) default with hi := (allI m.length o.length).getD k 0 }) := by
  have hs : split = 1099511627776 := rfl
  have ek := allI_at m.length o.length k hk
  obtain ⟨e1, e2⟩ := set_last out hne default { out.getD (out.length - 1) default with hi := (allI m.length o.length).getD k 0 }
  have hlast : out.getD (out.length - 1) default ∈ out := by
    have : out.length - 1 < out.length := by have := List.length_pos_iff.2 hne; omega
    rw [List.getD_eq_getElem?_getD, List.getElem?_eq_getElem this]; exact List.getElem_mem this
  obtain ⟨j, hj, ej⟩ := h.mem _ hlast
  have ej2 := allI_at m.length o.length j (by omega)
  have hsum := sumP_set out (out.length - 1) { out.getD (out.length - 1) default with hi := (allI m.length o.length).getD k 0 } rfl
  have hok := h.ok
  rw [e1] at hok
  obtain ⟨i1, i2, i3⟩ := hok.init
  refine ⟨?_, fun s hs => ?_, ?_, ?_⟩
  · rw [e2]
    refine i1.snoc ?_ i3
    show okP ((out.getD (out.length - 1) default).lo, (allI m.length o.length).getD k 0)
    unfold okP at i2 ⊢
    simp only at i2 ⊢
    split at ek <;> split at ej2 <;> omega
  · rw [e2] at hs
    rcases List.mem_append.1 hs with hs | hs
    · obtain ⟨j, hj, e⟩ := h.mem s (by rw [e1]; exact List.mem_append_left _ hs)
      exact ⟨j, by omega, e⟩
    · simp at hs; subst hs; exact ⟨k, by omega, rfl⟩
  · have := h.len; rw [List.length_set]; omega
  · have := h.sum; rw [hsum]; omega


end Gv.Try
