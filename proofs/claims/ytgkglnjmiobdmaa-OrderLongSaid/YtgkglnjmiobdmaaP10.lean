/- OrderLong: a line of commits: plain laws. -/
import Derived.Test.YtgkglnjmiobdmaaP9
import Derived.OpenShut
import Derived.Test.YtgkglnjmiobdmaaP5
import Derived.ChangeArms
import Derived.Carry
import Derived.Test.YtgkglnjmiobdmaaP4
set_option linter.unusedVariables false
set_option linter.unusedSimpArgs false
set_option maxRecDepth 20000
namespace Gv.Try
open Go Gv Go.Proofs
def hL (k : Nat) : Hs := hq (UInt8.ofNat (k / 256)) (UInt8.ofNat k) 1
def rkL (h : Hs) : Nat := 256 * (h.1.getD 0 0).toNat + (h.1.getD 1 0).toNat
theorem rkL_hL {k : Nat} (h : k < 65536) : rkL (hL k) = k := by
  show 256 * (UInt8.ofNat (k / 256)).toNat + (UInt8.ofNat k).toNat = k
  rw [UInt8.toNat_ofNat', UInt8.toNat_ofNat']
  omega
theorem hL_inj {i j : Nat} (hi : i < 65536) (hj : j < 65536) (e : hL i = hL j) : i = j := by
  rw [← rkL_hL hi, ← rkL_hL hj, e]
def cL (k : Nat) : Cm := (hL k, if k = 0 then [] else [hL (k - 1)])
def seg (a j : Nat) : List Cm := (List.range j).map fun i => cL (a + i)
abbrev chain (n : Nat) : GM := seg 0 n
theorem seg_len (a j : Nat) : (seg a j).length = j := by simp [seg]
theorem seg_snoc (a j : Nat) : seg a (j + 1) = seg a j ++ [cL (a + j)] := by simp [seg, List.range_succ]
theorem seg_cons (a j : Nat) : seg a (j + 1) = cL a :: seg (a + 1) j := by
  simp only [seg, List.range_succ_eq_map, List.map_cons, List.map_map, Nat.add_zero]
  congr 1
  apply List.map_congr_left
  intro i _
  simp only [Function.comp]
  congr 1; omega
theorem chain_snoc (n : Nat) : chain (n + 1) = chain n ++ [cL n] := by rw [chain, seg_snoc, Nat.zero_add]
theorem look_app {α : Type} (a b : List (Hs × α)) (h : Hs) : look (a ++ b) h = match look a h with
    | some v => some v
    | none => look b h := by
  induction a with
  | nil => rfl
  | cons p r ih =>
    rw [List.cons_append, look, look, ih]
    split <;> rfl
theorem mset_new {α : Type} (m : List (Hs × α)) (h : Hs) (v : α) (hl : look m h = none) : mset m h v = m ++ [(h, v)] := by
  induction m with
  | nil => rfl
  | cons p r ih =>
    rw [look] at hl
    by_cases e : h = p.1
    · rw [if_pos e] at hl; cases hl
    · rw [if_neg e] at hl
      rw [mset, if_neg e, ih hl]; rfl
theorem look_chain : ∀ (n i : Nat), n ≤ 65536 → i < 65536 → look (chain n) (hL i) = if i < n then some (cL i).2 else none
  | 0, i, _, _ => by rw [if_neg (by omega)]; rfl
  | n + 1, i, hn, hi => by
    rw [chain_snoc, look_app, look_chain n i (by omega) hi]
    by_cases h : i < n
    · rw [if_pos h, if_pos (by omega)]
    · rw [if_neg h]
      show look [cL n] (hL i) = _
      rw [show [cL n] = [(hL n, (cL n).2)] from rfl, look]
      by_cases e : i = n
      · subst e; rw [if_pos rfl, if_pos (by omega)]
      · rw [if_neg (fun q => e (hL_inj hi (by omega) q)), if_neg (by omega)]; rfl
theorem chain_join : ∀ (j a : Nat), a + j ≤ 1000 → joinP (chain a) (seg a j) = .ok (chain (a + j))
  | 0, a, _ => rfl
  | j + 1, a, h => by
    rw [seg_cons, joinP]
    have hl : look (chain a) (cL a).1 = none := by
      show look (chain a) (hL a) = none
      rw [look_chain a a (by omega) (by omega), if_neg (by omega)]
    have e : joinE (chain a) (cL a) = .ok (chain (a + 1)) := by
      unfold joinE
      rw [hl]
      simp only
      rw [mset_new _ _ _ hl, chain_snoc]
    rw [e]
    simp only
    rw [chain_join j (a + 1) (by omega)]
    congr 2; omega
theorem seg_mem {a j : Nat} {c : Cm} (h : c ∈ seg a j) : ∃ i, i < j ∧ c = cL (a + i) := by
  simp only [seg, List.mem_map, List.mem_range] at h
  obtain ⟨i, hi, rfl⟩ := h
  exact ⟨i, hi, rfl⟩
theorem cL_par {k : Nat} {y : Hs} (h : y ∈ (cL k).2) : 0 < k ∧ y = hL (k - 1) := by
  unfold cL at h
  simp only at h
  split at h
  · simp at h
  · simp at h; exact ⟨by omega, h⟩
theorem cL_len (k : Nat) : (cL k).2.length ≤ 1 := by unfold cL; simp only; split <;> simp
theorem sortR_one (h : Hs) : sortR [h] = [h] := by simp [sortR, putH, idxH]
theorem twice_le1 {l : List Hs} (h : l.length ≤ 1) : twiceB l = false := by
  match l, h with
  | [], _ => rfl
  | [a], _ => unfold twiceB; rw [sortR_one]; simp
theorem chain_joined (a j : Nat) (hj : j ≤ 200) (h : a + j ≤ 1000) : joinedP 2 (chain a) (seg a j) [] = .ok (chain (a + j)) := by
  have e1 : sizesP 2 ([] : List Hs).length (seg a j) = none := by
    unfold sizesP
    rw [if_neg (by unfold badReq; rw [seg_len]; simp; omega), List.findSome?_eq_none_iff]
    intro c hc
    obtain ⟨i, hi, rfl⟩ := seg_mem hc
    have := cL_len (a + i)
    unfold sizeE
    rw [if_neg (by omega), twice_le1 this, if_neg (by simp)]
  have e2 := chain_join j a h
  have e3 : lackP (chain (a + j)) (seg a j) [] = none := by
    unfold lackP
    have : (seg a j).findSome? (fun c => c.2.findSome? (nowhere (chain (a + j)) 10)) = none := by
      rw [List.findSome?_eq_none_iff]
      intro c hc
      obtain ⟨i, hi, rfl⟩ := seg_mem hc
      rw [List.findSome?_eq_none_iff]
      intro y hy
      obtain ⟨h0, rfl⟩ := cL_par hy
      unfold nowhere
      rw [look_chain _ _ (by omega) (by omega), if_pos (by omega)]
    rw [this]; rfl
  have hrk : ∀ b, b ≤ 1000 → ∀ p ∈ chain b, ∀ y ∈ p.2, rkL y < rkL p.1 := fun b hb p hp y hy => by
    obtain ⟨i, hi, rfl⟩ := seg_mem hp
    obtain ⟨h0, rfl⟩ := cL_par hy
    show rkL (hL (0 + i - 1)) < rkL (hL (0 + i))
    rw [rkL_hL (by omega), rkL_hL (by omega)]; omega
  have e4 : roundP (chain a) (chain (a + j)) (seg a j) = none := roundP_rank rkL (hrk _ h) fun c hc y hy => by
    obtain ⟨i, hi, rfl⟩ := seg_mem hc
    obtain ⟨h0, rfl⟩ := cL_par hy
    show rkL (hL (a + i - 1)) < rkL (hL (a + i))
    rw [rkL_hL (by omega), rkL_hL (by omega)]; omega
  unfold joinedP
  rw [e1]
  simp only [e2, e3, e4]
  rw [if_neg (by rw [seg_len]; omega)]
theorem chain_ok {n : Nat} (h : n ≤ 1000) : GOK (chain n) := ⟨by rw [seg_len]; exact h, fun p hp => by
  obtain ⟨i, _, rfl⟩ := seg_mem hp
  have := cL_len (0 + i); omega⟩
theorem chain_mok {n : Nat} (h : n ≤ 1000) : GMOK (chain n) := ⟨by rw [seg_len]; omega, (chain_ok h).row⟩
def names_ (n : Nat) : List Hs := (List.range n).map hL
theorem names_snoc (n : Nat) : names_ (n + 1) = names_ n ++ [hL n] := by simp [names_, List.range_succ]
theorem chain_walk (n : Nat) (hn : n ≤ 1000) : ∀ (k : Nat), k < n → ∀ S out : List Hs, (∀ i, i ≤ k → hL i ∉ S) → ∃ S', VisL (chain n) (fun _ => false) [hL k] (S, out) (S', out ++ names_ (k + 1)) := by
  intro k
  induction k with
  | zero =>
    intro hk S out hS
    have hp : pushed (chain n) (fun _ => false) S (hL 0) = true := by
      unfold pushed
      rw [look_chain n 0 (by omega) (by omega), if_pos hk]
      simp [hS 0 (Nat.le_refl _)]
    have pp : parsM (chain n) (hL 0) = [] := by unfold parsM; rw [look_chain n 0 (by omega) (by omega), if_pos hk]; rfl
    exact ⟨_, .go _ _ _ (S ++ [hL 0], out) _ hp (by rw [pp]; exact .nil _) (.nil _)⟩
  | succ k ih =>
    intro hk S out hS
    have hp : pushed (chain n) (fun _ => false) S (hL (k + 1)) = true := by
      unfold pushed
      rw [look_chain n (k + 1) (by omega) (by omega), if_pos hk]
      simp [hS (k + 1) (Nat.le_refl _)]
    have pp : parsM (chain n) (hL (k + 1)) = [hL k] := by unfold parsM; rw [look_chain n (k + 1) (by omega) (by omega), if_pos hk]; rfl
    obtain ⟨S', h'⟩ := ih (by omega) (S ++ [hL (k + 1)]) out (fun i hi hm => by
      rcases List.mem_append.1 hm with q | q
      · exact hS i (by omega) q
      · have := hL_inj (by omega) (by omega) (List.mem_singleton.1 q); omega)
    refine ⟨S', .go _ _ _ (S', out ++ names_ (k + 1)) _ hp (by rw [pp]; exact h') ?_⟩
    rw [names_snoc (k + 1), ← List.append_assoc]
    exact .nil _
end Gv.Try
/- OrderLong gives true. -/
set_option linter.unusedVariables false
set_option linter.unusedSimpArgs false
set_option maxRecDepth 20000
set_option maxHeartbeats 4000000
namespace Gv.Try
open Go Gv Go.Proofs
def hB (k : Nat) : Hs := if k = 0 then hq 0 0 0 else hL (k - 1)
theorem hL_lit (x : Int) (k : Nat) (hx : x = (k : Int)) (hk : k < 65536) : ([.int .u8 (norm .u8 (x / 256)), .int .u8 (norm .u8 x), .int .u8 1, .int .u8 0, .int .u8 0, .int .u8 0, .int .u8 0, .int .u8 0, .int .u8 0, .int .u8 0, .int .u8 0, .int .u8 0, .int .u8 0, .int .u8 0, .int .u8 0, .int .u8 0, .int .u8 0, .int .u8 0, .int .u8 0, .int .u8 0, .int .u8 0, .int .u8 0, .int .u8 0, .int .u8 0, .int .u8 0, .int .u8 0, .int .u8 0, .int .u8 0, .int .u8 0, .int .u8 0, .int .u8 0, .int .u8 0] : List GVal) = bytesG (hL k).1 := by
  subst hx
  have e1 : norm .u8 ((k : Int) / 256) = ((UInt8.ofNat (k / 256)).toNat : Int) := by
    rw [UInt8.toNat_ofNat']
    show ((k : Int) / 256) % 256 = _
    omega
  have e2 : norm .u8 (k : Int) = ((UInt8.ofNat k).toNat : Int) := by
    rw [UInt8.toNat_ofNat']
    show (k : Int) % 256 = _
    omega
  rw [e1, e2]; rfl
theorem hR_lit (x : Int) (k : Nat) (hx : x = (k : Int)) (hk : k < 65536) (y : GVal) : ([.int .u8 (norm .u8 (x / 256)), .int .u8 (norm .u8 x), .int .u8 1, .int .u8 0, .int .u8 0, .int .u8 0, .int .u8 0, .int .u8 0, .int .u8 0, .int .u8 0, .int .u8 0, .int .u8 0, .int .u8 0, .int .u8 0, .int .u8 0, .int .u8 0, .int .u8 0, .int .u8 0, .int .u8 0, .int .u8 0, .int .u8 0, .int .u8 0, .int .u8 0, .int .u8 0, .int .u8 0, .int .u8 0, .int .u8 0, .int .u8 0, .int .u8 0, .int .u8 0, .int .u8 0, .int .u8 0, y] : List GVal) = bytesG (hL k).1 ++ [y] := by
  rw [← hL_lit x k hx hk]; rfl
theorem drop32z (h : Hs) : List.drop 32 (bytesG h.1) = [] := List.drop_of_length_le (by rw [len32]; omega)
theorem names_len (n : Nat) : (names_ n).length = n := by simp [names_]
theorem hB_succ (k : Nat) : hB (k + 1) = hL k := by simp [hB]
theorem WL_com (h : Hs) (l : List Hs) (t : Tag) : WL (bytesG h.1 ++ [.slice (hsG l) t]) (comG (h, l)) := by
  show WL (bytesG h.1 ++ [.slice (hsG l) t]) (bytesG h.1 ++ [.slice (hsG l) .none])
  have : ∀ (a : List GVal) (x y : GVal), leG x y → WL (a ++ [x]) (a ++ [y]) := by
    intro a x y h
    induction a with
    | nil => exact ⟨h, trivial⟩
    | cons b r ih => exact ⟨by rw [leG_self]; trivial, ih⟩
  exact this _ _ _ (by rw [leG_none])
theorem ibin_shr8 (P : Program) (t : TypeId) (a : Int) (K : GVal → Prop) : binV P .shr t (.int .i64 a) (.int .u64 8) K = K (.int .i64 (a / 256)) := by
  unfold binV
  show (_ ∧ _ ∧ K _) = _
  rw [show (2 : Int) ^ Int.toNat 8 = 256 from rfl]
  exact propext ⟨fun h => h.2.2, fun h => ⟨by decide, by decide, h⟩⟩
theorem conv_u8 (n : Int) (K : GVal → Prop) : convV Try.prog 3 5 (.int .i64 n) K = K (.int .u8 (norm .u8 n)) := conv_int _ _ _ _ _ _ _ Try.underlying3 Try.underlying5
theorem specLong (n0 : Int) : GPure Try.prog 3 [.int .i64 n0] (.bool true) := by
  have b1 := Int.emod_nonneg n0 (by decide : (700 : Int) ≠ 0)
  have b2 := Int.emod_lt_of_pos n0 (by decide : (0 : Int) < 700)
  have cPk := sPick n0 700 (by omega) (by omega)
  obtain ⟨N, hN⟩ : ∃ N : Nat, 100 + n0 % 700 = (N : Int) := ⟨(100 + n0 % 700).toNat, by omega⟩
  generalize n0 % 700 = q at *
  refine GCalls.toPure ?_
  refine h3.calls mixS (by simp) ?_
  simp only [gstart, s3, List.cons_append, List.nil_append, List.length_cons, List.length_nil, Nat.reduceAdd, Nat.reduceSub, List.replicate_succ, List.replicate_zero]
  simp +contextual -implicitDefEqProofs (maxSteps := 2000000) (disch := omega) only [binV, ↓unV, ↓convV, optV, ↓loadV, ↓storeV, ↓fieldAddrV, ↓allocV, ↓buildV, ↓buildSliceV, ↓sliceV, ↓appendV, ↓srcV, bound, cutTag, hiTag, fillG, fillE, place, GVal.cells, grp, GVal.ofConst, ↓resV, resG, List.map, List.headD, List.take, List.drop, ↓reduceIte, Nat.reduceEqDiff, Nat.reduceAdd, Nat.reduceSub, Nat.reduceLeDiff, reduceCtorEq, implies_true, ne_eq, ↓asrcV, aggV, Tag.cap, List.replicate, allSolid, GVal.solid, Nat.reduceBEq, Nat.reduceMul, Nat.reduceLT, List.length_map, List.length_range, splice, vcA, ↓vcB, vcC, fbFd, e3]
  refine cPk.then ?_ (by rfl)
  simp +contextual -implicitDefEqProofs (maxSteps := 2000000) (disch := omega) only [binV, ↓unV, ↓convV, optV, ↓loadV, ↓storeV, ↓fieldAddrV, ↓allocV, ↓buildV, ↓buildSliceV, ↓sliceV, ↓appendV, ↓srcV, bound, cutTag, hiTag, fillG, fillE, place, GVal.cells, grp, GVal.ofConst, ↓resV, resG, List.map, List.headD, List.take, List.drop, ↓reduceIte, Nat.reduceEqDiff, Nat.reduceAdd, Nat.reduceSub, Nat.reduceLeDiff, reduceCtorEq, implies_true, ne_eq, ↓asrcV, aggV, Tag.cap, List.replicate, allSolid, GVal.solid, Nat.reduceBEq, Nat.reduceMul, Nat.reduceLT, List.length_map, List.length_range, splice, vcA, ↓vcB, vcC, fbFd, e3, hN]
  refine gNew.mono ?_
  rintro g O' ⟨st, s, rfl, rfl⟩
  simp +contextual -implicitDefEqProofs (maxSteps := 2000000) (disch := omega) only [binV, ↓unV, ↓convV, optV, ↓loadV, ↓storeV, ↓fieldAddrV, ↓allocV, ↓buildV, ↓buildSliceV, ↓sliceV, ↓appendV, ↓srcV, bound, cutTag, hiTag, fillG, fillE, place, GVal.cells, grp, GVal.ofConst, ↓resV, resG, List.map, List.headD, List.take, List.drop, ↓reduceIte, Nat.reduceEqDiff, Nat.reduceAdd, Nat.reduceSub, Nat.reduceLeDiff, reduceCtorEq, implies_true, ne_eq, ↓asrcV, aggV, Tag.cap, List.replicate, allSolid, GVal.solid, Nat.reduceBEq, Nat.reduceMul, Nat.reduceLT, List.length_map, List.length_range, splice, vcA, ↓vcB, vcC, fbFd, e3, hN]
  refine gKnown.then ?_ (by rfl)
  simp +contextual -implicitDefEqProofs (maxSteps := 2000000) (disch := omega) only [binV, ↓unV, ↓convV, optV, ↓loadV, ↓storeV, ↓fieldAddrV, ↓allocV, ↓buildV, ↓buildSliceV, ↓sliceV, ↓appendV, ↓srcV, bound, cutTag, hiTag, fillG, fillE, place, GVal.cells, grp, GVal.ofConst, ↓resV, resG, List.map, List.headD, List.take, List.drop, ↓reduceIte, Nat.reduceEqDiff, Nat.reduceAdd, Nat.reduceSub, Nat.reduceLeDiff, reduceCtorEq, implies_true, ne_eq, ↓asrcV, aggV, Tag.cap, List.replicate, allSolid, GVal.solid, Nat.reduceBEq, Nat.reduceMul, Nat.reduceLT, List.length_map, List.length_range, splice, vcA, ↓vcB, vcC, fbFd, e3, hN]
  intro sh
  refine vcSLoop_by (ι := { p : Nat × (Nat × Nat) // 100 * p.1 ≤ N + 100 }) (fun p => ⟨[.int .i64 N, .any, .any, .ptr 0 st 0 0, .ptr 2 sh 0 0, .slice (hsG (names_ (min (100 * p.1.1) N))) (.tok 3 p.1.2.2), .int .i64 ((100 * p.1.1 : Nat) : Int)] ++ List.replicate 62 .any, [.row st 1 [[.map 1 p.1.2.1]], .map p.1.2.1 (kvG encL (chain (min (100 * p.1.1) N))), .row sh 32 [bytesG (hB (min (100 * p.1.1) N)).1], .tok p.1.2.2 32]⟩) (fun p => N + 200 - 100 * p.1.1) ?_ ?_
  · refine Into.tok 5 32 [] rfl rfl ?_
    simp +contextual -implicitDefEqProofs (maxSteps := 2000000) (disch := omega) only [binV, ↓unV, ↓convV, optV, ↓loadV, ↓storeV, ↓fieldAddrV, ↓allocV, ↓buildV, ↓buildSliceV, ↓sliceV, ↓appendV, ↓srcV, bound, cutTag, hiTag, fillG, fillE, place, GVal.cells, grp, GVal.ofConst, ↓resV, resG, List.map, List.headD, List.take, List.drop, ↓reduceIte, Nat.reduceEqDiff, Nat.reduceAdd, Nat.reduceSub, Nat.reduceLeDiff, reduceCtorEq, implies_true, ne_eq, ↓asrcV, aggV, Tag.cap, List.replicate, allSolid, GVal.solid, Nat.reduceBEq, Nat.reduceMul, Nat.reduceLT, List.length_map, List.length_range, splice, vcA, ↓vcB, vcC, fbFd, e3]
    intro so
    exact Into.first ⟨(0, (s, so)), by show 100 * 0 ≤ _; omega⟩ ⟨[], by simp [hB, names_, seg]; rfl⟩ (by simp [WL, leG_self, leG_any, names_, hsG])
  · rintro ⟨⟨q', ⟨s2, so⟩⟩, hq⟩
    change 100 * q' ≤ N + 100 at hq
    obtain ⟨I, hI⟩ : ∃ I, 100 * q' = I := ⟨_, rfl⟩
    by_cases h : I < N
    · have d0 : ((I : Int) < (N : Int)) = True := eq_true (by omega)
      have em : min I N = I := by omega
      have cJ := chain_joined I
      simp +contextual -implicitDefEqProofs (maxSteps := 2000000) (disch := omega) only [binV, ↓unV, ↓convV, optV, ↓loadV, ↓storeV, ↓fieldAddrV, ↓allocV, ↓buildV, ↓buildSliceV, ↓sliceV, ↓appendV, ↓srcV, bound, cutTag, hiTag, fillG, fillE, place, GVal.cells, grp, GVal.ofConst, ↓resV, resG, List.map, List.headD, List.take, List.drop, ↓reduceIte, Nat.reduceEqDiff, Nat.reduceAdd, Nat.reduceSub, Nat.reduceLeDiff, reduceCtorEq, implies_true, ne_eq, ↓asrcV, aggV, Tag.cap, List.replicate, allSolid, GVal.solid, Nat.reduceBEq, Nat.reduceMul, Nat.reduceLT, List.length_map, List.length_range, splice, vcA, ↓vcB, vcC, fbFd, e3, hI, em, d0]
      refine vcSLoop_by (ι := { p : Nat × (Nat × Nat) // p.1 ≤ 100 ∧ I + p.1 ≤ N }) (fun p => ⟨[.int .i64 N, .any, .any, .ptr 0 st 0 0, .ptr 2 sh 0 0, .slice (hsG (names_ (I + p.1.1))) (.tok 3 p.1.2.1), .int .i64 (I : Nat), .slice (csG (seg I p.1.1)) (.tok 4 p.1.2.2), .int .i64 ((I + p.1.1 : Nat) : Int)] ++ List.replicate 60 .any, [.row st 1 [[.map 1 s2]], .map s2 (kvG encL (chain I)), .row sh 32 [bytesG (hB (I + p.1.1)).1], .tok p.1.2.1 32, .tok p.1.2.2 33]⟩) (fun p => 100 - p.1.1) ?_ ?_
      · refine Into.tok 7 33 [] rfl rfl ?_
        simp +contextual -implicitDefEqProofs (maxSteps := 2000000) (disch := omega) only [binV, ↓unV, ↓convV, optV, ↓loadV, ↓storeV, ↓fieldAddrV, ↓allocV, ↓buildV, ↓buildSliceV, ↓sliceV, ↓appendV, ↓srcV, bound, cutTag, hiTag, fillG, fillE, place, GVal.cells, grp, GVal.ofConst, ↓resV, resG, List.map, List.headD, List.take, List.drop, ↓reduceIte, Nat.reduceEqDiff, Nat.reduceAdd, Nat.reduceSub, Nat.reduceLeDiff, reduceCtorEq, implies_true, ne_eq, ↓asrcV, aggV, Tag.cap, List.replicate, allSolid, GVal.solid, Nat.reduceBEq, Nat.reduceMul, Nat.reduceLT, List.length_map, List.length_range, splice, vcA, ↓vcB, vcC, fbFd, e3]
        intro sl
        exact Into.first ⟨(0, (so, sl)), by omega, by show I + 0 ≤ _; omega⟩ ⟨[], by simp⟩ (by simp [WL, leG_self, leG_any, seg, csG])
      · rintro ⟨⟨j, ⟨so2, sl⟩⟩, hj, hjN⟩
        change j ≤ 100 at hj
        change I + j ≤ N at hjN
        obtain ⟨k, hk⟩ : ∃ k, I + j = k := ⟨_, rfl⟩
        by_cases h2 : j < 100 ∧ k < N
        · have d1 : ((k : Int) < (I : Int) + 100) = True := eq_true (by omega)
          have d2 : ((k : Int) < (N : Int)) = True := eq_true (by omega)
          have hl := hL_lit (k : Int) k rfl (by omega)
          have hr := fun y => hR_lit (k : Int) k rfl (by omega) y
          by_cases hk0 : k = 0
          · have d3 : ((0 : Int) < (k : Int)) = False := eq_false (by omega)
            simp +contextual -implicitDefEqProofs (maxSteps := 2000000) (disch := omega) only [↓unV, ↓convV, optV, ↓loadV, ↓storeV, ↓fieldAddrV, ↓allocV, ↓buildV, ↓buildSliceV, ↓sliceV, ↓appendV, ↓srcV, bound, cutTag, hiTag, fillG, fillE, place, GVal.cells, grp, GVal.ofConst, ↓resV, resG, List.map, List.headD, List.take, List.drop, ↓reduceIte, Nat.reduceEqDiff, Nat.reduceAdd, Nat.reduceSub, Nat.reduceLeDiff, reduceCtorEq, implies_true, ne_eq, ↓asrcV, aggV, Tag.cap, List.replicate, allSolid, GVal.solid, Nat.reduceBEq, Nat.reduceMul, Nat.reduceLT, List.length_map, List.length_range, splice, vcA, ↓vcB, vcC, fbFd, e3, ibin_shr8, ↓conv_u8, solidH, len32, take32, take32a, drop32a, drop33a, take33a, len33, solid33, setO_6, setO_7, hsG_len, all_hsG, all_csG, csG_len, seg_len, drop32z, names_len, List.append_nil, hk, d1, d2, d3, hl, hr, not_true_eq_false, not_false_eq_true, false_imp_iff, true_imp_iff, and_true, true_and]
            refine fun u => ⟨by omega, by omega, fun sl2 => ⟨by omega, by omega, fun so3 => ?_⟩⟩
            have ek : I + (j + 1) = k + 1 := by omega
            refine Into.sliceLast 7 (csG (seg I j)) (bytesG (hL k).1 ++ [.slice [] .nil]) (comG (cL k)) rfl ?_ ?_
            · have := WL_com (hL k) [] .nil
              rw [show cL k = (hL k, []) by unfold cL; rw [if_pos hk0]]
              exact this
            · refine Into.at ⟨(j + 1, (so3, sl2)), by show j + 1 ≤ 100; omega, by show I + (j + 1) ≤ N; omega⟩ (by show 100 - (j + 1) < 100 - j; omega) ⟨[.row u 33 [(bytesG (hL k).1 ++ [.slice [] .nil])]], ?_⟩ ?_
              · show _ = [GObj.row st 1 [[.map 1 s2]], .map s2 (kvG encL (chain I)), .row sh 32 [bytesG (hB (I + (j + 1))).1], .tok so3 32, .tok sl2 33] ++ [.row u 33 [(bytesG (hL k).1 ++ [.slice [] .nil])]]
                rw [ek, hB_succ]; rfl
              · have e1 : names_ (I + (j + 1)) = names_ k ++ [hL k] := by rw [ek, names_snoc]
                have e2 : seg I (j + 1) = seg I j ++ [cL k] := by rw [seg_snoc, hk]
                simp only [e1, e2, hsG_app, csG_app]
                simp [WL, leG_self, leG_any, leG_int, hsG, csG, Int.natCast_add, ← hk]
                try omega
          · have d3 : ((0 : Int) < (k : Int)) = True := eq_true (by omega)
            simp +contextual -implicitDefEqProofs (maxSteps := 2000000) (disch := omega) only [↓unV, ↓convV, optV, ↓loadV, ↓storeV, ↓fieldAddrV, ↓allocV, ↓buildV, ↓buildSliceV, ↓sliceV, ↓appendV, ↓srcV, bound, cutTag, hiTag, fillG, fillE, place, GVal.cells, grp, GVal.ofConst, ↓resV, resG, List.map, List.headD, List.take, List.drop, ↓reduceIte, Nat.reduceEqDiff, Nat.reduceAdd, Nat.reduceSub, Nat.reduceLeDiff, reduceCtorEq, implies_true, ne_eq, ↓asrcV, aggV, Tag.cap, List.replicate, allSolid, GVal.solid, Nat.reduceBEq, Nat.reduceMul, Nat.reduceLT, List.length_map, List.length_range, splice, vcA, ↓vcB, vcC, fbFd, e3, ibin_shr8, ↓conv_u8, solidH, len32, take32, take32a, drop32a, drop33a, take33a, len33, solid33, setO_6, setO_7, hsG_len, all_hsG, all_csG, csG_len, seg_len, drop32z, names_len, List.append_nil, hk, d1, d2, d3, hl, hr, not_true_eq_false, not_false_eq_true, false_imp_iff, true_imp_iff, and_true, true_and]
            refine fun u => ⟨by omega, by omega, fun sl2 => ⟨by omega, by omega, fun so3 => ?_⟩⟩
            have ek : I + (j + 1) = k + 1 := by omega
            refine Into.sliceLast 7 (csG (seg I j)) (bytesG (hL k).1 ++ [.slice [bytesG (hB k).1] .full]) (comG (cL k)) rfl ?_ ?_
            · have := WL_com (hL k) [hL (k - 1)] .full
              rw [show cL k = (hL k, [hL (k - 1)]) by unfold cL; rw [if_neg hk0]]
              rw [show hB k = hL (k - 1) by unfold hB; rw [if_neg hk0]]
              exact this
            · refine Into.at ⟨(j + 1, (so3, sl2)), by show j + 1 ≤ 100; omega, by show I + (j + 1) ≤ N; omega⟩ (by show 100 - (j + 1) < 100 - j; omega) ⟨[.row u 33 [(bytesG (hL k).1 ++ [.slice [bytesG (hB k).1] .full])]], ?_⟩ ?_
              · show _ = [GObj.row st 1 [[.map 1 s2]], .map s2 (kvG encL (chain I)), .row sh 32 [bytesG (hB (I + (j + 1))).1], .tok so3 32, .tok sl2 33] ++ [.row u 33 [(bytesG (hL k).1 ++ [.slice [bytesG (hB k).1] .full])]]
                rw [ek, hB_succ]; rfl
              · have e1 : names_ (I + (j + 1)) = names_ k ++ [hL k] := by rw [ek, names_snoc]
                have e2 : seg I (j + 1) = seg I j ++ [cL k] := by rw [seg_snoc, hk]
                simp only [e1, e2, hsG_app, csG_app]
                simp [WL, leG_self, leG_any, leG_int, hsG, csG, Int.natCast_add, ← hk]
                try omega
        · have cA := gAdd (chain I) (chain_ok (by omega)) (seg I j) st s2 (by rw [seg_len]; omega) (fun c hc => by obtain ⟨i, _, rfl⟩ := seg_mem hc; have := cL_len (I + i); omega)
          have eJ := cJ j (by omega) (by omega)
          have ea : addedE (chain I) (seg I j) = none := by unfold addedE; rw [eJ]
          have em2 : addedM (chain I) (seg I j) = chain k := by unfold addedM; rw [eJ, hk]
          rw [ea, em2] at cA
          have emk : min (100 * (q' + 1)) N = k := by omega
          by_cases h3 : j < 100
          · have d1 : ((k : Int) < (I : Int) + 100) = True := eq_true (by omega)
            have d2 : ((k : Int) < (N : Int)) = False := eq_false (by omega)
            simp +contextual -implicitDefEqProofs (maxSteps := 2000000) (disch := omega) only [↓unV, ↓convV, optV, ↓loadV, ↓storeV, ↓fieldAddrV, ↓allocV, ↓buildV, ↓buildSliceV, ↓sliceV, ↓appendV, ↓srcV, bound, cutTag, hiTag, fillG, fillE, place, GVal.cells, grp, GVal.ofConst, ↓resV, resG, List.map, List.headD, List.take, List.drop, ↓reduceIte, Nat.reduceEqDiff, Nat.reduceAdd, Nat.reduceSub, Nat.reduceLeDiff, reduceCtorEq, implies_true, ne_eq, ↓asrcV, aggV, Tag.cap, List.replicate, allSolid, GVal.solid, Nat.reduceBEq, Nat.reduceMul, Nat.reduceLT, List.length_map, List.length_range, splice, vcA, ↓vcB, vcC, fbFd, e3, ibin_shr8, ↓conv_u8, solidH, len32, take32, take32a, drop32a, drop33a, take33a, len33, solid33, setO_6, setO_7, hsG_len, all_hsG, all_csG, csG_len, seg_len, drop32z, names_len, List.append_nil, hk, d1, d2, not_true_eq_false, not_false_eq_true, false_imp_iff, true_imp_iff, and_true, true_and]
            have hArg : GLes [.ptr 0 st 0 0, .slice (csG (seg I j)) (.tok 4 sl)] [.ptr 0 st 0 0, .slice (csG (seg I j)) .none] := ⟨GLe.refl _, GLe.none, trivial⟩
            refine (GCalls.tail (GCalls.args cA hArg) (by rintro g O' ⟨x', y', rfl, _, _, rfl, rfl⟩; exact ⟨rfl, by simp⟩) rfl (by simp) [.row sh 32 [bytesG (hB k).1], .tok so2 32, .tok sl 33]).mono ?_
            rintro g O' ⟨_, ⟨x', y', rfl, rfl, s', rfl, rfl⟩, rfl⟩
            simp +contextual -implicitDefEqProofs (maxSteps := 2000000) (disch := omega) only [binV, ↓unV, ↓convV, optV, ↓loadV, ↓storeV, ↓fieldAddrV, ↓allocV, ↓buildV, ↓buildSliceV, ↓sliceV, ↓appendV, ↓srcV, bound, cutTag, hiTag, fillG, fillE, place, GVal.cells, grp, GVal.ofConst, ↓resV, resG, List.map, List.headD, List.take, List.drop, ↓reduceIte, Nat.reduceEqDiff, Nat.reduceAdd, Nat.reduceSub, Nat.reduceLeDiff, reduceCtorEq, implies_true, ne_eq, ↓asrcV, aggV, Tag.cap, List.replicate, allSolid, GVal.solid, Nat.reduceBEq, Nat.reduceMul, Nat.reduceLT, List.length_map, List.length_range, splice, vcA, ↓vcB, vcC, fbFd, e3, Try.underlying34, errV]
            exact Into.at ⟨(q' + 1, (s', so2)), by show 100 * (q' + 1) ≤ N + 100; omega⟩ (by show N + 200 - 100 * (q' + 1) < N + 200 - I; omega) ⟨[.tok sl 33], by simp [emk]⟩ (by simp [WL, leG_self, leG_any, leG_int, emk, ← hI]; try omega)
          · have d1 : ((k : Int) < (I : Int) + 100) = False := eq_false (by omega)
            simp +contextual -implicitDefEqProofs (maxSteps := 2000000) (disch := omega) only [↓unV, ↓convV, optV, ↓loadV, ↓storeV, ↓fieldAddrV, ↓allocV, ↓buildV, ↓buildSliceV, ↓sliceV, ↓appendV, ↓srcV, bound, cutTag, hiTag, fillG, fillE, place, GVal.cells, grp, GVal.ofConst, ↓resV, resG, List.map, List.headD, List.take, List.drop, ↓reduceIte, Nat.reduceEqDiff, Nat.reduceAdd, Nat.reduceSub, Nat.reduceLeDiff, reduceCtorEq, implies_true, ne_eq, ↓asrcV, aggV, Tag.cap, List.replicate, allSolid, GVal.solid, Nat.reduceBEq, Nat.reduceMul, Nat.reduceLT, List.length_map, List.length_range, splice, vcA, ↓vcB, vcC, fbFd, e3, ibin_shr8, ↓conv_u8, solidH, len32, take32, take32a, drop32a, drop33a, take33a, len33, solid33, setO_6, setO_7, hsG_len, all_hsG, all_csG, csG_len, seg_len, drop32z, names_len, List.append_nil, hk, d1, not_true_eq_false, not_false_eq_true, false_imp_iff, true_imp_iff, and_true, true_and]
            have hArg : GLes [.ptr 0 st 0 0, .slice (csG (seg I j)) (.tok 4 sl)] [.ptr 0 st 0 0, .slice (csG (seg I j)) .none] := ⟨GLe.refl _, GLe.none, trivial⟩
            refine (GCalls.tail (GCalls.args cA hArg) (by rintro g O' ⟨x', y', rfl, _, _, rfl, rfl⟩; exact ⟨rfl, by simp⟩) rfl (by simp) [.row sh 32 [bytesG (hB k).1], .tok so2 32, .tok sl 33]).mono ?_
            rintro g O' ⟨_, ⟨x', y', rfl, rfl, s', rfl, rfl⟩, rfl⟩
            simp +contextual -implicitDefEqProofs (maxSteps := 2000000) (disch := omega) only [binV, ↓unV, ↓convV, optV, ↓loadV, ↓storeV, ↓fieldAddrV, ↓allocV, ↓buildV, ↓buildSliceV, ↓sliceV, ↓appendV, ↓srcV, bound, cutTag, hiTag, fillG, fillE, place, GVal.cells, grp, GVal.ofConst, ↓resV, resG, List.map, List.headD, List.take, List.drop, ↓reduceIte, Nat.reduceEqDiff, Nat.reduceAdd, Nat.reduceSub, Nat.reduceLeDiff, reduceCtorEq, implies_true, ne_eq, ↓asrcV, aggV, Tag.cap, List.replicate, allSolid, GVal.solid, Nat.reduceBEq, Nat.reduceMul, Nat.reduceLT, List.length_map, List.length_range, splice, vcA, ↓vcB, vcC, fbFd, e3, Try.underlying34, errV]
            exact Into.at ⟨(q' + 1, (s', so2)), by show 100 * (q' + 1) ≤ N + 100; omega⟩ (by show N + 200 - 100 * (q' + 1) < N + 200 - I; omega) ⟨[.tok sl 33], by simp [emk]⟩ (by simp [WL, leG_self, leG_any, leG_int, emk, ← hI]; try omega)
    · have d0 : ((I : Int) < (N : Int)) = False := eq_false (by omega)
      have em : min I N = N := by omega
      have eB : hB N = hL (N - 1) := by unfold hB; rw [if_neg (by omega)]
      obtain ⟨S', hV⟩ := chain_walk N (by omega) (N - 1) (by omega) [] [] (by simp)
      rw [List.nil_append, show N - 1 + 1 = N by omega] at hV
      have cS := hSame (names_ N) (names_ N) .none (.tok 3 so) (by rw [names_len]; omega)
      rw [decide_eq_true rfl] at cS
      simp +contextual -implicitDefEqProofs (maxSteps := 2000000) (disch := omega) only [binV, ↓unV, ↓convV, optV, ↓loadV, ↓storeV, ↓fieldAddrV, ↓allocV, ↓buildV, ↓buildSliceV, ↓sliceV, ↓appendV, ↓srcV, bound, cutTag, hiTag, fillG, fillE, place, GVal.cells, grp, GVal.ofConst, ↓resV, resG, List.map, List.headD, List.take, List.drop, ↓reduceIte, Nat.reduceEqDiff, Nat.reduceAdd, Nat.reduceSub, Nat.reduceLeDiff, reduceCtorEq, implies_true, ne_eq, ↓asrcV, aggV, Tag.cap, List.replicate, allSolid, GVal.solid, Nat.reduceBEq, Nat.reduceMul, Nat.reduceLT, List.length_map, List.length_range, splice, vcA, ↓vcB, vcC, fbFd, e3, hI, em, d0, eB, len32, take32, solidH]
      refine (GCalls.tail (gWalkN (chain N) (chain_mok (by omega)) [hL (N - 1)] .full st s2 _ hV (by simp)) (by rintro g O' ⟨rfl, rfl⟩; exact ⟨rfl, by simp⟩) rfl (by simp) [.row sh 32 [bytesG (hL (N - 1)).1], .tok so 32]).mono ?_
      rintro g O' ⟨_, ⟨rfl, rfl⟩, rfl⟩
      simp +contextual -implicitDefEqProofs (maxSteps := 2000000) (disch := omega) only [binV, ↓unV, ↓convV, optV, ↓loadV, ↓storeV, ↓fieldAddrV, ↓allocV, ↓buildV, ↓buildSliceV, ↓sliceV, ↓appendV, ↓srcV, bound, cutTag, hiTag, fillG, fillE, place, GVal.cells, grp, GVal.ofConst, ↓resV, resG, List.map, List.headD, List.take, List.drop, ↓reduceIte, Nat.reduceEqDiff, Nat.reduceAdd, Nat.reduceSub, Nat.reduceLeDiff, reduceCtorEq, implies_true, ne_eq, ↓asrcV, aggV, Tag.cap, List.replicate, allSolid, GVal.solid, Nat.reduceBEq, Nat.reduceMul, Nat.reduceLT, List.length_map, List.length_range, splice, vcA, ↓vcB, vcC, fbFd, e3]
      refine cS.then ?_ (by rfl)
      simp +contextual -implicitDefEqProofs (maxSteps := 2000000) (disch := omega) only [binV, ↓unV, ↓convV, optV, ↓loadV, ↓storeV, ↓fieldAddrV, ↓allocV, ↓buildV, ↓buildSliceV, ↓sliceV, ↓appendV, ↓srcV, bound, cutTag, hiTag, fillG, fillE, place, GVal.cells, grp, GVal.ofConst, ↓resV, resG, List.map, List.headD, List.take, List.drop, ↓reduceIte, Nat.reduceEqDiff, Nat.reduceAdd, Nat.reduceSub, Nat.reduceLeDiff, reduceCtorEq, implies_true, ne_eq, ↓asrcV, aggV, Tag.cap, List.replicate, allSolid, GVal.solid, Nat.reduceBEq, Nat.reduceMul, Nat.reduceLT, List.length_map, List.length_range, splice, vcA, ↓vcB, vcC, fbFd, e3]
      exact ⟨1, .bool true, rfl, by rw [leA_bool]⟩
end Gv.Try
/- From a reading of plain data (numbers, bools, strings, slices, structs) to what it is without memory. -/
set_option linter.unusedVariables false
namespace Gv
open Go Go.RowKit Go.WideShapes Go.ChangeShapes

def Env.all (w : World) : Env := ⟨fun b o => match w.cell? ⟨b, o, none⟩ with
  | some v => if v.oneCell' = true then some v else none
  | none => none, fun _ => none⟩
theorem Env.all_at {w : World} {b o : Nat} {v : Value} (h : w.cell? ⟨b, o, none⟩ = some v) (hv : v.oneCell' = true) : (Env.all w).snap b o = some v := by
  simp [Env.all, h, hv]
def GlobsIn (w : World) : Prop := ∀ p ∈ globs, w.cell? ⟨p.1, p.2.1, none⟩ = some p.2.2 ∧ p.2.2.oneCell' = true
theorem globsIn_none {w : World} (h : globs = []) : GlobsIn w := fun p hp => by rw [h] at hp; cases hp
theorem HSim.all (w : World) (hg : GlobsIn w) : HSim (Env.all w) [] w := by
  have key : ∀ b o v, (Env.all w).snap b o = some v → w.cell? ⟨b, o, none⟩ = some v ∧ v.oneCell' = true := by
    intro b o v h
    simp only [Env.all] at h
    split at h
    · rename_i x hx
      split at h
      · rename_i hv
        simp only [Option.some.injEq] at h
        subst h
        exact ⟨hx, hv⟩
      · cases h
    · cases h
  exact ⟨⟨0, (fun c hc => by cases hc), fun _ _ => rfl⟩, fun b o v h => (key b o v h).1, fun b o v h => (key b o v h).2, fun i x hx => by simp at hx, fun i j oi oj b _ hi => by simp at hi, fun p hp => Env.all_at (hg p hp).1 (hg p hp).2⟩

inductive Sh where
  | int (k : IntKind)
  | bool
  | str
  | slice (e : Sh)
  | agg (l : List Sh)
mutual
def Sh.size : Sh → Nat
  | .agg l => Sh.sizes l
  | _ => 1
def Sh.sizes : List Sh → Nat
  | [] => 0
  | s :: r => s.size + Sh.sizes r
end
mutual
def shB (P : Program) : Sh → TypeId → Bool
  | .int k, t => match P.underlying t with
    | some (.int k') => k = k'
    | _ => false
  | .bool, t => match P.underlying t with
    | some .bool => true
    | _ => false
  | .str, t => match P.underlying t with
    | some .string => true
    | _ => false
  | .slice e, t => match P.underlying t with
    | some (.slice et) => shB P e et && P.cellsOf et == e.size && decide (0 < e.size)
    | _ => false
  | .agg l, t => match P.underlying t with
    | some (.struct fs) => shBs P l fs.toList 0 && P.cellsOf t == Sh.sizes l
    | some (.array n e) => l.length == n && (shAs P l e && P.cellsOf t == Sh.sizes l)
    | _ => false
def shAs (P : Program) : List Sh → TypeId → Bool
  | [], _ => true
  | s :: r, t => P.cellsOf t == s.size && (shB P s t && shAs P r t)
def shBs (P : Program) : List Sh → List Field → Nat → Bool
  | [], [], _ => true
  | s :: r, f :: fs, o => f.offset == o && P.cellsOf f.type == s.size && shB P s f.type && shBs P r fs (o + s.size)
  | _, _, _ => false
end
mutual
def Den : Sh → List GVal → Prop
  | .int k, gs => ∃ n, gs = [.int k n] ∧ (Lit.int k n).wf = true
  | .bool, gs => ∃ b, gs = [.bool b]
  | .str, gs => ∃ s, gs = [.str s] ∧ s.length ≤ maxLen
  | .slice e, gs => ∃ xs, gs = [.slice xs .none] ∧ xs.length ≤ maxLen ∧ ∀ x ∈ xs, Den e x
  | .agg l, gs => ∃ ps, gs = ps.flatten ∧ Dens l ps
def Dens : List Sh → List (List GVal) → Prop
  | [], ps => ps = []
  | s :: r, ps => ∃ p q, ps = p :: q ∧ Den s p ∧ Dens r q
end

def CellsOK (w : World) (cs : List Value) (gs : List GVal) : Prop :=
  cs.length = gs.length ∧ (∀ c ∈ cs, c.oneCell' = true) ∧ ∀ (j : Nat) c g, cs[j]? = some c → gs[j]? = some g → VR (Env.all w) c g
theorem CellsOK.one {w : World} {v : Value} {g : GVal} (hv : v.oneCell' = true) (h : VR (Env.all w) v g) : CellsOK w [v] [g] :=
  ⟨rfl, by simpa using hv, fun j c g' h1 h2 => by
    cases j with
    | zero => simp at h1 h2; subst h1; subst h2; exact h
    | succ j => simp at h1⟩
theorem CellsOK.append {w : World} {a b : List Value} {x y : List GVal} (h : CellsOK w a x) (k : CellsOK w b y) : CellsOK w (a ++ b) (x ++ y) := by
  refine ⟨by simp [h.1, k.1], fun c hc => ?_, fun j c g h1 h2 => ?_⟩
  · rcases List.mem_append.1 hc with hc | hc
    · exact h.2.1 c hc
    · exact k.2.1 c hc
  · by_cases hj : j < a.length
    · rw [List.getElem?_append_left hj] at h1
      rw [List.getElem?_append_left (by rw [← h.1]; exact hj)] at h2
      exact h.2.2 j c g h1 h2
    · rw [List.getElem?_append_right (by omega)] at h1
      rw [List.getElem?_append_right (by rw [← h.1]; omega), ← h.1] at h2
      exact k.2.2 _ c g h1 h2

section
variable {H : Type} {enc : TypeId × Value → H} {P : Program} {w : World} {spare : Nat → Bool} {held : Bool}

theorem cells_at {base : Nat} {a : Addr} {n : Nat} {cs : List Value} (h : w.cells? base a n = some cs) : cs.length = n ∧ ∀ j, j < n → w.cell? (a.add j) = cs[j]? := by
  unfold World.cells? at h
  split at h
  · have hl := mapM_some_length h
    refine ⟨by simpa using hl, fun j hj => ?_⟩
    exact mapM_some_get h j j (by simp [hj])
  · cases h

theorem flat_len {α : Type} {sz : Nat} : ∀ {xs : List (List α)}, (∀ x ∈ xs, x.length = sz) → xs.flatten.length = xs.length * sz
  | [], _ => by simp
  | x :: xs, h => by
    rw [List.flatten_cons, List.length_append, h x (by simp), flat_len fun y hy => h y (by simp [hy])]
    simp [Nat.succ_mul, Nat.add_comm]

mutual
theorem rd : ∀ (S : Sh) (n : Nat) (t : TypeId) (cs : List Value) (x : DataW H × List MemPlace), shB P S t = true → DataW.trod enc P w 0 spare held n t cs = some x → ∃ gs, CellsOK w cs gs ∧ Den S gs ∧ cs.length = S.size
  | .int k, n, t, cs, x, hs, h => by
    unfold shB at hs
    split at hs
    · rename_i k' hu
      have hs : k = k' := by simpa using hs
      subst hs
      obtain ⟨m, rfl, _, hwf⟩ := DataW.trod_int hu h
      exact ⟨[.int k m], .one rfl (.int _ _), ⟨m, rfl, hwf⟩, rfl⟩
    · cases hs
  | .bool, n, t, cs, x, hs, h => by
    unfold shB at hs
    split at hs
    · rename_i hu
      obtain ⟨b, rfl, _⟩ := DataW.trod_bool hu h
      exact ⟨[.bool b], .one rfl (.bool _), ⟨b, rfl⟩, rfl⟩
    · cases hs
  | .str, n, t, cs, x, hs, h => by
    unfold shB at hs
    split at hs
    · rename_i hu
      cases n with
      | zero => simp [DataW.trod] at h
      | succ n =>
        unfold DataW.trod at h
        rw [hu] at h
        match cs, h with
        | [.string b], h =>
          simp only at h
          split at h
          · rename_i hl
            refine ⟨[.str b.data.toList], .one rfl ?_, ⟨_, rfl, ?_⟩, rfl⟩
            · exact VR.str (E := Env.all w) b.data.toList
            · simpa using hl
          · cases h
    · cases hs
  | .slice e, n, t, cs, x, hs, h => by
    unfold shB at hs
    split at hs
    · rename_i et hu
      simp only [Bool.and_eq_true, beq_iff_eq] at hs
      obtain ⟨⟨hs, hsz⟩, hpos⟩ := hs
      have hpos : 0 < e.size := by simpa using hpos
      rcases DataW.trod_slice hu h with ⟨rfl, _⟩ | ⟨a, len, cap, elems, rest, m, rfl, rfl, _, _, hlc, hcm, hel, helem, _, _⟩
      · exact ⟨[.slice [] .none], .one rfl (.slice none 0 0 [] .none 0 (fun _ => .bool true) rfl (Nat.le_refl _) (by simp) (fun hx => absurd rfl hx) (by simp) trivial), ⟨[], rfl, by simp, by simp⟩, rfl⟩
      · have each : ∀ i : Nat, ∃ cs gs, i < len → (w.cells? 0 (a.add (i * P.cellsOf et)) (P.cellsOf et)) = some cs ∧ CellsOK w cs gs ∧ Den e gs ∧ cs.length = e.size := by
          intro i
          by_cases hi : i < len
          · have := helem i hi
            rw [← hel] at hi
            rw [List.getElem?_eq_getElem hi, Option.bind_eq_some_iff] at this
            obtain ⟨cs, h1, h2⟩ := this
            obtain ⟨gs, h3, h4, h5⟩ := rd e m et cs _ hs h2
            exact ⟨cs, gs, fun _ => ⟨h1, h3, h4, h5⟩⟩
          · exact ⟨[], [], fun h => absurd h hi⟩
        obtain ⟨C, hC⟩ := Classical.axiomOfChoice each
        obtain ⟨G, hCG⟩ := Classical.axiomOfChoice hC
        refine ⟨[.slice ((List.range len).map G) .none], .one rfl ?_, ⟨_, rfl, by simp; omega, fun x hx => ?_⟩, rfl⟩
        · have hG : ∀ i, i < len → (G i).length = e.size := fun i hi => by rw [← (hCG i hi).2.1.1]; exact (hCG i hi).2.2.2
          have cell : ∀ i, i < len → ∀ j, j < e.size → w.cell? ((a.add (i * e.size)).add j) = (C i)[j]? := fun i hi j hj => by
            have := cells_at (hCG i hi).1
            rw [hsz] at this
            exact this.2 j hj
          have dm : ∀ k, k < len * e.size → k / e.size < len ∧ k % e.size < e.size ∧ k / e.size * e.size + k % e.size = k := fun k hk =>
            ⟨(Nat.div_lt_iff_lt_mul hpos).2 hk, Nat.mod_lt _ hpos, by rw [Nat.mul_comm]; exact Nat.div_add_mod k e.size⟩
          have hszs : ∀ x ∈ (List.range len).map G, x.length = e.size := fun x hx => by
            obtain ⟨i, hi, rfl⟩ := List.mem_map.1 hx
            exact hG i (by simpa using hi)
          refine .slice (some a) len cap _ .none e.size (fun k => ((C (k / e.size))[k % e.size]?).getD (.bool true)) (by simp) hlc hszs (fun hx => ?_) (fun k g hk => ?_) trivial
          · have hlen : 0 < len := by
              rcases Nat.eq_zero_or_pos len with h0 | h0
              · subst h0; simp at hx
              · exact h0
            have in_ : ∀ i, i < len → ∀ j, j < e.size → ∃ v, (C i)[j]? = some v ∧ v.oneCell' = true := fun i hi j hj => by
              have hl : j < (C i).length := by rw [(hCG i hi).2.2.2]; exact hj
              exact ⟨_, List.getElem?_eq_getElem hl, (hCG i hi).2.1.2.1 _ (List.getElem_mem hl)⟩
            obtain ⟨b, off, spot⟩ := a
            have hspot : spot = none := by
              obtain ⟨v, hv, _⟩ := in_ 0 hlen 0 hpos
              have := cell 0 hlen 0 hpos
              rw [hv] at this
              simpa [Addr.add] using World.cell?_spot this
            subst hspot
            refine ⟨b, off, rfl, fun k hk => ?_⟩
            obtain ⟨d1, d2, d3⟩ := dm k hk
            obtain ⟨v, hv, hv2⟩ := in_ _ d1 _ d2
            have := cell _ d1 _ d2
            rw [hv] at this
            rw [hv]
            refine Env.all_at ?_ hv2
            rw [add_at, add_at, Nat.add_assoc, d3] at this
            exact this
          · have hk' : k < len * e.size := by
              have := (List.getElem?_eq_some_iff.1 hk).1
              rw [flat_len hszs] at this
              simpa using this
            obtain ⟨d1, d2, d3⟩ := dm k hk'
            have hx : ((List.range len).map G)[k / e.size]? = some (G (k / e.size)) := by simp [d1]
            have e1 := flatten_at _ hszs (k / e.size) (k % e.size) _ hx d2
            rw [d3, hk] at e1
            have hl : k % e.size < (C (k / e.size)).length := by rw [(hCG _ d1).2.2.2]; exact d2
            rw [List.getElem?_eq_getElem hl]
            exact (hCG _ d1).2.1.2.2 _ _ _ (List.getElem?_eq_getElem hl) e1.symm
        · obtain ⟨i, hi, rfl⟩ := List.mem_map.1 hx
          exact (hCG i (by simpa using hi)).2.2.1
    · cases hs
  | .agg l, n, t, cs, x, hs, h => by
    unfold shB at hs
    split at hs
    · rename_i fs hu
      simp only [Bool.and_eq_true, beq_iff_eq] at hs
      obtain ⟨hs, hsz⟩ := hs
      obtain ⟨xs, m, rfl, rfl, hcl, hxl, hf⟩ := DataW.trod_struct hu h
      obtain ⟨ps, h1, h2⟩ := rds l m fs.toList cs 0 hs (by simpa [hsz] using hcl) (fun f hf' => by
        obtain ⟨i, hi⟩ := List.getElem?_of_mem hf'
        have := hf i f (by simpa using hi)
        have hlt : i < xs.length := by rw [hxl]; simpa using (List.getElem?_eq_some_iff.1 hi).1
        rw [List.getElem?_eq_getElem hlt] at this
        exact ⟨_, this⟩)
      exact ⟨ps.flatten, by simpa using h1, ⟨ps, rfl, h2⟩, by rw [hcl, hsz]; rfl⟩
    · rename_i k et hu
      simp only [Bool.and_eq_true, beq_iff_eq] at hs
      obtain ⟨hlk, hs, hsz⟩ := hs
      obtain ⟨xs, m, rfl, rfl, hcl, hxl, hf⟩ := DataW.trod_array hu h
      obtain ⟨ps, h1, h2⟩ := rda l m et cs hs (by simpa [hsz] using hcl) (fun i hi => by
        have := hf i (by omega)
        rw [List.getElem?_eq_getElem (by omega)] at this
        exact ⟨_, this⟩)
      exact ⟨ps.flatten, h1, ⟨ps, rfl, h2⟩, by rw [hcl, hsz]; rfl⟩
    · cases hs
theorem rda : ∀ (l : List Sh) (n : Nat) (et : TypeId) (cs : List Value), shAs P l et = true → cs.length = Sh.sizes l →
    (∀ i, i < l.length → ∃ x, DataW.trod enc P w 0 spare held n et ((cs.drop (i * P.cellsOf et)).take (P.cellsOf et)) = some x) → ∃ ps, CellsOK w cs ps.flatten ∧ Dens l ps
  | [], n, et, cs, hs, hl, h => by
    have : cs = [] := List.length_eq_zero_iff.1 hl
    subst this
    exact ⟨[], ⟨rfl, by simp, fun j c g h1 => by simp at h1⟩, rfl⟩
  | s :: r, n, et, cs, hs, hl, h => by
    unfold shAs at hs
    simp only [Bool.and_eq_true, beq_iff_eq] at hs
    obtain ⟨h1, h2, h3⟩ := hs
    obtain ⟨x, hx⟩ := h 0 (by simp)
    rw [Nat.zero_mul, List.drop_zero] at hx
    obtain ⟨gs, q1, q2, q3⟩ := rd s n et _ _ h2 hx
    simp only [Sh.sizes] at hl
    obtain ⟨ps, k1, k2⟩ := rda r n et (cs.drop (P.cellsOf et)) h3 (by rw [List.length_drop, hl, h1]; omega) (fun i hi => by
      obtain ⟨y, hy⟩ := h (i + 1) (by simpa using hi)
      rw [List.drop_drop]
      have e : P.cellsOf et + i * P.cellsOf et = (i + 1) * P.cellsOf et := by rw [Nat.succ_mul, Nat.add_comm]
      rw [e]; exact ⟨y, hy⟩)
    refine ⟨gs :: ps, ?_, ⟨gs, ps, rfl, q2, k2⟩⟩
    rw [List.flatten_cons]
    have := q1.append k1
    rwa [List.take_append_drop] at this
theorem rds : ∀ (l : List Sh) (n : Nat) (fs : List Field) (cs : List Value) (o : Nat), shBs P l fs o = true → cs.length = o + Sh.sizes l →
    (∀ f ∈ fs, ∃ x, DataW.trod enc P w 0 spare held n f.type ((cs.drop f.offset).take (P.cellsOf f.type)) = some x) → ∃ ps, CellsOK w (cs.drop o) ps.flatten ∧ Dens l ps
  | [], n, fs, cs, o, hs, hl, h => by
    refine ⟨[], ?_, rfl⟩
    rw [List.drop_eq_nil_of_le (by rw [hl]; simp [Sh.sizes])]
    exact ⟨rfl, by simp, fun j c g h1 => by simp at h1⟩
  | s :: r, n, fs, cs, o, hs, hl, h => by
    match fs, hs, h with
    | f :: fs, hs, h =>
      unfold shBs at hs
      simp only [Bool.and_eq_true, beq_iff_eq] at hs
      obtain ⟨⟨⟨h1, h2⟩, h3⟩, h4⟩ := hs
      obtain ⟨x, hx⟩ := h f (by simp)
      obtain ⟨gs, q1, q2, q3⟩ := rd s n f.type _ _ h3 hx
      simp only [Sh.sizes] at hl
      obtain ⟨ps, k1, k2⟩ := rds r n fs cs (o + s.size) h4 (by rw [hl]; omega) (fun f' hf' => h f' (by simp [hf']))
      refine ⟨gs :: ps, ?_, ⟨gs, ps, rfl, q2, k2⟩⟩
      rw [List.flatten_cons]
      have e : cs.drop o = (cs.drop f.offset).take (P.cellsOf f.type) ++ cs.drop (o + s.size) := by
        rw [h1, h2, ← List.drop_drop]; exact (List.take_append_drop _ _).symm
      rw [e]
      exact q1.append k1
    | [], hs, h => simp [shBs] at hs
end

def Sh.val : Sh → List GVal → GVal
  | .agg _, gs => .agg gs
  | _, gs => gs.headD .any

theorem arg_read {S : Sh} {t : TypeId} {r : Reach} {base : Nat} {v : Value} {d : DataW H} {ps : List MemPlace} (hs : shB P S t = true) (hval : Value.okWide P w r base t v) (h : DataW.Trod enc P w 0 spare held t v d ps) :
    ∃ gs, Den S gs ∧ VR (Env.all w) v (S.val gs) := by
  obtain ⟨n, h⟩ := h
  obtain ⟨gs, h1, h2, h3⟩ := rd S n t _ _ hs h
  refine ⟨gs, h2, ?_⟩
  have single : ∀ x : Value, v = x → x.cells.toList = [x] → (∃ g, gs = [g]) → S.val gs = gs.headD .any → VR (Env.all w) v (S.val gs) := by
    intro x hx hc ⟨g, hg⟩ hv
    subst hx; subst hg
    rw [hv]
    rw [hc] at h1
    exact h1.2.2 0 _ _ rfl rfl
  cases S with
  | int k =>
    unfold shB at hs
    split at hs
    · rename_i k' hu
      obtain ⟨n, rfl⟩ := okWide_int hu hval
      obtain ⟨m, e, _⟩ := h2
      exact single _ rfl rfl ⟨_, e⟩ rfl
    · cases hs
  | bool =>
    unfold shB at hs
    split at hs
    · rename_i hu
      obtain ⟨n, rfl⟩ := okWide_bool hu hval
      obtain ⟨m, e⟩ := h2
      exact single _ rfl rfl ⟨_, e⟩ rfl
    · cases hs
  | str =>
    unfold shB at hs
    split at hs
    · rename_i hu
      obtain ⟨n, rfl⟩ := okWide_string hu hval
      obtain ⟨m, e, _⟩ := h2
      exact single _ rfl rfl ⟨_, e⟩ rfl
    · cases hs
  | slice e =>
    unfold shB at hs
    split at hs
    · rename_i et hu
      obtain ⟨a, len, cap, rfl⟩ := okWide_slice hu hval
      obtain ⟨m, e, _⟩ := h2
      exact single _ rfl rfl ⟨_, e⟩ rfl
    · cases hs
  | agg l =>
    unfold shB at hs
    split at hs
    · rename_i fs hu
      obtain ⟨cs, rfl, _⟩ := okWide_struct hu hval
      refine .agg cs gs (by have := h1.1; simpa [Value.cells] using this) (fun j g hj => ?_)
      have hl : j < cs.size := by
        have := (List.getElem?_eq_some_iff.1 hj).1
        rw [← h1.1] at this; simpa [Value.cells] using this
      have := h1.2.2 j cs[j] g (by simp [Value.cells, hl]) hj
      simpa [Array.getD, hl] using this
    · rename_i n e hu
      obtain ⟨cs, rfl⟩ : ∃ cs : Array Value, v = .agg cs := by
        simp only [Value.okWide, hu] at hval
        obtain ⟨cs, h1, _⟩ := hval
        exact ⟨cs, h1⟩
      refine .agg cs gs (by have := h1.1; simpa [Value.cells] using this) (fun j g hj => ?_)
      have hl : j < cs.size := by
        have := (List.getElem?_eq_some_iff.1 hj).1
        rw [← h1.1] at this; simpa [Value.cells] using this
      have := h1.2.2 j cs[j] g (by simp [Value.cells, hl]) hj
      simpa [Array.getD, hl] using this
    · cases hs

theorem GPure.lawAt {P : Program} {f : FuncId} {args : Array Value} {gs : List GVal} {w : World} (h : GPure P f gs (.bool true)) (ha : ArgsR (Env.all w) args gs) (hg : GlobsIn w := by exact Gv.globsIn_none rfl) :
    Calls P f args w fun e w' => e = .returned (.bool true) ∧ Old w w' := by
  refine (h.2 (Env.all w) w args (HSim.all w hg) ha).mono ?_
  rintro e w' ⟨v, E', O', g, rfl, h1, h2, h3, rfl, rfl⟩
  cases h3
  exact ⟨rfl, h2.old⟩
theorem ArgsR.nil {E : Env} : ArgsR E #[] [] := ⟨rfl, fun i g h => by simp at h⟩
theorem ArgsR.one {E : Env} {v : Value} {g : GVal} (h : VR E v g) : ArgsR E #[v] [g] := ⟨rfl, fun i g' hg => by
  cases i with
  | zero => simp at hg; subst hg; exact h
  | succ i => simp at hg⟩

theorem Old.trod {W W' : World} {t : TypeId} {v : Value} {d : DataW H} {ps : List MemPlace} (hl : laidOutB P = true) (hr : P.readableRec t = true) (hrow : t < P.types.size) (hb : Old W W') {sp : Nat → Bool}
    (h : DataW.Trod enc P W 0 (fun _ => true) true t v d ps) (hlt : ∀ x ∈ ps, x.block < W.heap.size) (hs : ∀ x ∈ ps, sp x.block = true) : DataW.Trod enc P W' 0 sp true t v d ps :=
  WideElems.Trod_stays hl hr hrow h (fun x hx => by
    have hp := hlt x hx
    cases x with
    | cell b o => exact World.cell?_of_block (w := W) (hb.block b hp)
    | map b => exact hb.block b hp) hs
end
end Gv
/- Sets of numbers as lists of spans: the plain theory. -/
set_option linter.unusedVariables false
namespace Gv.Sp
open Gv
abbrev S := Int × Int
def has (l : List S) (n : Int) : Prop := ∃ s ∈ l, 0 ≤ n ∧ s.1 ≤ n ∧ n ≤ s.2
theorem has_cons (s : S) (l : List S) (n : Int) : has (s :: l) n ↔ (0 ≤ n ∧ s.1 ≤ n ∧ n ≤ s.2) ∨ has l n := by simp [has]
def Rt : Int → List S → Prop
  | _, [] => True
  | b, s :: r => b ≤ s.1 ∧ s.1 ≤ s.2 ∧ Rt (s.2 + 2) r
theorem Rt.weak {b b' : Int} : ∀ {l : List S}, Rt b l → b' ≤ b → Rt b' l
  | [], _, _ => trivial
  | s :: r, ⟨h1, h2, h3⟩, h => ⟨by omega, h2, h3⟩
theorem Rt.ge {n : Int} : ∀ {l : List S} {b : Int}, Rt b l → has l n → b ≤ n
  | [], b, _, h => by simp [has] at h
  | s :: r, b, ⟨h1, h2, h3⟩, h => by
    rcases (has_cons s r n).1 h with h | h
    · omega
    · have := h3.ge h; omega
theorem Rt.mem {s : S} : ∀ {l : List S} {b : Int}, Rt b l → s ∈ l → b ≤ s.1 ∧ s.1 ≤ s.2
  | [], b, _, h => by simp at h
  | x :: r, b, ⟨h1, h2, h3⟩, h => by
    rcases List.mem_cons.1 h with rfl | h
    · exact ⟨h1, h2⟩
    · have := h3.mem h; omega
theorem Rt.lo {s : S} {l : List S} {b : Int} (h : Rt b l) (hb : 0 ≤ b) (hs : s ∈ l) : has l s.1 := ⟨s, hs, by have := h.mem hs; omega⟩
theorem Rt.hi {s : S} {l : List S} {b : Int} (h : Rt b l) (hb : 0 ≤ b) (hs : s ∈ l) : has l s.2 := ⟨s, hs, by have := h.mem hs; omega⟩
theorem uniq : ∀ {l l' : List S} {b b' : Int}, Rt b l → Rt b' l' → 0 ≤ b → 0 ≤ b' → (∀ n, has l n ↔ has l' n) → l = l'
  | [], [], _, _, _, _, _, _, _ => rfl
  | [], y :: r, _, b', _, h', _, h0', h => absurd ((h y.1).2 (h'.lo h0' (by simp))) (by simp [has])
  | x :: r, [], b, _, h', _, h0', _, h => absurd ((h x.1).1 (h'.lo h0' (by simp))) (by simp [has])
  | (x1, x2) :: r, (y1, y2) :: q, b, b', hx, hy, hb, hb', h => by
    have e1 : has ((y1, y2) :: q) x1 := (h _).1 (hx.lo hb (s := (x1, x2)) (by simp))
    have e2 : has ((x1, x2) :: r) y1 := (h _).2 (hy.lo hb' (s := (y1, y2)) (by simp))
    obtain ⟨p1, p2, p3⟩ := hx
    obtain ⟨q1, q2, q3⟩ := hy
    simp only at p1 p2 p3 q1 q2 q3
    have g1 : y1 ≤ x1 := by
      rcases (has_cons _ _ _).1 e1 with e | e
      · exact e.2.1
      · have := q3.ge e; omega
    have g2 : x1 ≤ y1 := by
      rcases (has_cons _ _ _).1 e2 with e | e
      · exact e.2.1
      · have := p3.ge e; omega
    have g : x1 = y1 := by omega
    have k1 : ¬ x2 < y2 := fun hlt => by
      have e := (h (x2 + 1)).2 ((has_cons _ _ _).2 (.inl ⟨by omega, by show y1 ≤ _; omega, by show _ ≤ y2; omega⟩))
      rcases (has_cons _ _ _).1 e with e | e
      · have := e.2.2; simp only at this; omega
      · have := p3.ge e; omega
    have k2 : ¬ y2 < x2 := fun hlt => by
      have e := (h (y2 + 1)).1 ((has_cons _ _ _).2 (.inl ⟨by omega, by show x1 ≤ _; omega, by show _ ≤ x2; omega⟩))
      rcases (has_cons _ _ _).1 e with e | e
      · have := e.2.2; simp only at this; omega
      · have := q3.ge e; omega
    have k : x2 = y2 := by omega
    subst g; subst k
    have hr : ∀ n, has r n ↔ has q n := fun n => by
      constructor
      · intro hn
        rcases (has_cons _ _ _).1 ((h n).1 ((has_cons _ _ _).2 (.inr hn))) with e | e
        · have := p3.ge hn; have := e.2.2; simp only at this; omega
        · exact e
      · intro hn
        rcases (has_cons _ _ _).1 ((h n).2 ((has_cons _ _ _).2 (.inr hn))) with e | e
        · have := q3.ge hn; have := e.2.2; simp only at this; omega
        · exact e
    rw [uniq p3 q3 (by omega) (by omega) hr]

def ins : List S → S → List S
  | [], s => [s]
  | x :: r, s => if x.2 + 1 < s.1 then x :: ins r s else if s.2 + 1 < x.1 then s :: x :: r else ins r (min s.1 x.1, max s.2 x.2)
def put (acc : List S) (s : S) : List S := if max s.1 0 ≤ s.2 then ins acc (max s.1 0, s.2) else acc
def Ok (l : List S) : Prop := ∀ s ∈ l, (-9223372036854775808 ≤ s.1 ∧ s.1 ≤ 9223372036854775807) ∧ (-9223372036854775808 ≤ s.2 ∧ s.2 ≤ 9223372036854775807)
theorem Ok.has {l : List S} (h : Ok l) {n : Int} (hn : has l n) : n ≤ 9223372036854775807 := by obtain ⟨s, hs, h1, h2, h3⟩ := hn; have := (h s hs).2.2; omega
theorem Ok.app {a b : List S} (ha : Ok a) (hb : Ok b) : Ok (a ++ b) := fun s hs => (List.mem_append.1 hs).elim (ha s) (hb s)
theorem Ok.nil : Ok [] := fun s hs => by simp at hs
theorem Ok.at {l : List S} (h : Ok l) (i : Nat) : (-9223372036854775808 ≤ (l.getD i (0, 0)).1 ∧ (l.getD i (0, 0)).1 ≤ 9223372036854775807) ∧ (-9223372036854775808 ≤ (l.getD i (0, 0)).2 ∧ (l.getD i (0, 0)).2 ≤ 9223372036854775807) := by
  by_cases hi : i < l.length
  · rw [List.getD_eq_getElem?_getD, List.getElem?_eq_getElem hi]; exact h _ (List.getElem_mem hi)
  · rw [List.getD_eq_getElem?_getD, List.getElem?_eq_none (by omega)]; simp
theorem Rt.at {l : List S} {b : Int} (h : Rt b l) (i : Nat) (hi : i < l.length) : b ≤ (l.getD i (0, 0)).1 ∧ (l.getD i (0, 0)).1 ≤ (l.getD i (0, 0)).2 := by
  rw [List.getD_eq_getElem?_getD, List.getElem?_eq_getElem hi]; exact h.mem (List.getElem_mem hi)

def both (a b : List S) : List S :=
  match a, b with
  | [], _ => []
  | _ :: _, [] => []
  | x :: a, y :: b => (if max x.1 y.1 ≤ min x.2 y.2 then [(max x.1 y.1, min x.2 y.2)] else []) ++ if x.2 < y.2 then both a (y :: b) else both (x :: a) b
termination_by a.length + b.length
def restF (low : Int) : List S → List S
  | [] => [(low, 9223372036854775807)]
  | s :: r => (if low < s.1 then [(low, s.1 - 1)] else []) ++ if s.2 = 9223372036854775807 then [] else restF (s.2 + 1) r
def rest (l : List S) : List S := restF 0 l
end Gv.Sp
/- Spans as ghost values. -/
set_option linter.unusedVariables false
namespace Gv
end Gv
/- What some shapes read as. -/
set_option linter.unusedVariables false
namespace Gv
open Go
end Gv
/- OrderLong: from the readings. -/
set_option linter.unusedVariables false
namespace Gv.Try
open Go Gv Go.Proofs
theorem wLong {g0 : List GVal} (h0 : Den (.int .i64) g0) : GPure Try.prog 3 ([Sh.val (.int .i64) g0]) (.bool true) := by
  obtain ⟨a, rfl, wa⟩ := h0
  exact specLong a
end Gv.Try
