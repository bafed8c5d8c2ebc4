/- Contracts: graph's sorted, there's closure, IndexFunc. -/
import Derived.Test.YtomacbbghhabpaaP9
import Derived.Test.YtomacbbghhabpaaP6
import Derived.KernelRfl
set_option linter.defProp false
set_option linter.unusedSimpArgs false
set_option linter.unusedVariables false
set_option maxHeartbeats 4000000
set_option maxRecDepth 20000
namespace Gv.Try
open Go Gv Go.Proofs
open Nat (reduceEqDiff reduceAdd reduceSub reduceLeDiff reduceMul reduceLT)
def zbBLg10 := ai @hsG_len <| ai @toNat0 <| ai @Nat.sub_zero <| ai @true_imp_iff <| @v32
theorem gIndexF {F : FuncId} {caps : List GVal} {a b : GObj} (p : Hs → Bool) (hN : ∀ h : Hs, GCalls Try.prog F (.agg (bytesG h.1) :: caps) [a, b] (fun g O' => g = .bool (p h) ∧ O' = [a, b])) (ha : a.isClock = false)
 (l : List Hs) (v : Nat) (hl : l.length ≤ 1000000) :
 GCalls Try.prog 69 [.own 2 v 0 l.length, .func (.func F) [] caps] [a, b, .row v 32 (hsG l)] (fun g O' => g = .int .i64 (match l.findIdx? p with | some i => (i : Int) | none => -1) ∧ O' = [a, b, .row v 32 (hsG l)]) := by
 have hcl : ∀ Y, clockOf (a :: Y) = none := fun Y => by cases a <;> first | rfl | cases ha
 have hst : ∀ (r : List GObj) (K : Nat → Prop), stamp (a :: r) K = ∀ st, K st := fun r K => by unfold stamp; rw [hcl]
 have htk : ∀ r : List GObj, tickO (a :: r) = a :: r := fun r => tickO_none (hcl r)
 refine h69.ca ?_
 refine vq3 hst htk @hsG_len ?_
 refine vcSLoop_by (ι := { k : Nat // k ≤ l.length ∧ ∀ x ∈ l.take k, p x = false }) (fun k => ⟨[.own 2 v 0 l.length, .func (.func F) [] caps, .any, .any, .int .i64 0, .any, .own 2 v 0 l.length, .int .i64 l.length, .int .i64 (k.1 : Nat)] ++ List.replicate 10 .any, [a, b, .row v 32 (hsG l)]⟩) (fun k => l.length - k.1) ?_ ?_
 · exact Into.first ⟨0, by omega, by simp⟩ ⟨[], by simp⟩ (by simp [WL, leG_self, leG_any])
 · rintro ⟨k, hk, hp⟩
   change k ≤ l.length at hk
   have hp : ∀ x ∈ l.take k, p x = false := hp;by_cases h : k < l.length
   · have d0 : ((k : Int) < (l.length : Int)) = True := eq_true (by omega);have eS := hsG_at l k h;have eg : l.getD k h0 = l[k] := by simp [List.getD, h]
     rw [eg] at eS;have ht : l.take (k + 1) = l.take k ++ [l[k]] := List.take_succ_eq_append_getElem h;generalize l[k] = x at eS ht;have cN := hN x;by_cases hx : p x = true
     · rw [hx] at cN;have cN := cN.keep2 ha;have hf : l.findIdx? p = some k := by
        have e : l = l.take k ++ x :: l.drop (k + 1) := by
         have := List.take_append_drop (k + 1) l;rw [ht, List.append_assoc] at this;exact this.symm
        rw [e, List.findIdx?_append, List.findIdx?_eq_none_iff.2 hp, List.findIdx?_cons, hx];simp;omega
       rw [hf];refine vq5 hst htk d0 eS zbBLg10 ?_;refine ⟨by omega, by omega, by omega, (cN _).mono ?_⟩;rintro g O' ⟨rfl, rfl⟩;exact vd2 hst htk
     · have hx : p x = false := by simpa using hx
       rw [hx] at cN;have cN := cN.keep2 ha;refine vq5 hst htk d0 eS zbBLg10 ?_;refine ⟨by omega, by omega, by omega, (cN _).mono ?_⟩;rintro g O' ⟨rfl, rfl⟩;refine vq2 hst htk ?_;exact Into.at ⟨k + 1, by omega, by rw [ht]; intro y hy; rcases List.mem_append.1 hy with q | q; exact hp y q; rw [List.mem_singleton.1 q]; exact hx⟩ (by show l.length - (k + 1) < l.length - k; omega) ⟨[], by simp⟩ (by simp [WL, leG_self, leG_any, leG_int])
   · have d0 : ((k : Int) < (l.length : Int)) = False := eq_false (by omega);have hf : l.findIdx? p = none := by
      rw [List.findIdx?_eq_none_iff];rw [List.take_of_length_le (by omega)] at hp;exact hp
     rw [hf];exact vd4 hst htk @hsG_len d0
theorem drop32y (h : Hs) : List.drop 32 (bytesG h.1) = [] := List.drop_of_length_le (by rw [len32]; omega)
theorem gDeleteF {F : FuncId} {caps : List GVal} {a b : GObj} (p : Hs → Bool) (hN : ∀ h : Hs, GCalls Try.prog F (.agg (bytesG h.1) :: caps) [a, b] (fun g O' => g = .bool (p h) ∧ O' = [a, b])) (ha : a.isClock = false)
 (l : List Hs) (v : Nat) (hl : l.length ≤ 1000000) :
 GCalls Try.prog 56 [.own 2 v 0 l.length, .func (.func F) [] caps] [a, b, .row v 32 (hsG l)] (fun g O' => g = .own 2 v 0 (l.filter fun h => !p h).length ∧ O' = [a, b, .row v 32 (hsG (l.filter fun h => !p h))]) := by
 have hcl : ∀ Y, clockOf (a :: Y) = none := fun Y => by cases a <;> first | rfl | cases ha
 have hst : ∀ (r : List GObj) (K : Nat → Prop), stamp (a :: r) K = ∀ st, K st := fun r K => by unfold stamp; rw [hcl]
 have htk : ∀ r : List GObj, tickO (a :: r) = a :: r := fun r => tickO_none (hcl r)
 refine GCalls.dropTo ?_
 have cI := gIndexF p hN ha l v hl
 cases hf : l.findIdx? p with
 | none =>
  rw [hf] at cI;have hall : l.filter (fun h => !p h) = l := List.filter_eq_self.2 fun x hx => by rw [List.findIdx?_eq_none_iff.1 hf x hx]; rfl
  rw [hall];refine h56.ca ?_;refine vq2 hst htk ?_;refine cI.mono ?_;rintro g O' ⟨rfl, rfl⟩;refine vq2 hst htk ?_;exact ⟨_, [a, b, .row v 32 (hsG l)], [], rfl, leA_refl _, rfl, rfl⟩
 | some i =>
  rw [hf] at cI;have hi : i < l.length := (List.findIdx?_eq_some_iff_findIdx_eq.1 hf).1;have n1 : ((i : Int) = -1) = False := eq_false (by omega);refine h56.ca ?_;refine vq2 hst htk ?_;refine cI.mono ?_;rintro g O' ⟨rfl, rfl⟩;refine vq3 hst htk n1 ?_;have esp : l = l.take i ++ l[i] :: l.drop (i + 1) := by
   have := List.take_append_drop i l;rw [List.drop_eq_getElem_cons hi] at this;exact this.symm
  have hpi : p l[i] = true ∧ ∀ x ∈ l.take i, p x = false := by
   have := List.findIdx?_eq_some_iff_getElem.1 hf;obtain ⟨_, h1, h2⟩ := this;refine ⟨h1, fun x hx => ?_⟩;obtain ⟨j, hj, rfl⟩ := List.getElem_of_mem hx;rw [List.getElem_take];have := h2 j (by simp at hj; omega)
   simpa using this
  have hfl : l.take i ++ (l.drop (i + 1)).filter (fun h => !p h) = l.filter fun h => !p h := by
   conv => rhs; rw [esp]
   rw [List.filter_append, List.filter_cons, hpi.1];have : (l.take i).filter (fun h => !p h) = l.take i := List.filter_eq_self.2 fun x hx => by rw [hpi.2 x hx]; rfl
   rw [this]; rfl
  refine vcSLoop_by (ι := { q : (List Hs × List Hs) × (List Hs × Nat) // (q.1.2 ≠ [] ∧ q.1.1.length + q.1.2.length = q.2.2) ∧ q.2.2 + q.2.1.length = l.length ∧ q.1.1 ++ q.2.1.filter (fun h => !p h) = l.filter fun h => !p h }) (fun q => ⟨[.own 2 v 0 l.length, .func (.func F) [] caps, .any, .any, .any, .int .i64 (q.1.1.1.length : Nat), .int .i64 (q.1.2.2 : Nat)] ++ List.replicate 35 .any, [a, b, .row v 32 (hsG (q.1.1.1 ++ q.1.1.2 ++ q.1.2.1))]⟩) (fun q => q.1.2.1.length) ?_ ?_
  · have : min i l.length = i := by omega
    refine Into.first ⟨((l.take i, [l[i]]), (l.drop (i + 1), i + 1)), ⟨by simp, by simp [this]⟩, by simp; omega, hfl⟩ ⟨[], ?_⟩ ?_
    · rw [List.append_nil];show _ = [a, b, GObj.row v 32 (hsG (l.take i ++ [l[i]] ++ l.drop (i + 1)))];rw [List.append_assoc, List.singleton_append, ← esp]
    · simp [WL, leG_self, leG_any, leG_int, this]
  · rintro ⟨⟨⟨A, Z⟩, ⟨R, J⟩⟩, ⟨hZ, hJ⟩, hlen, hfil⟩
    change Z ≠ [] at hZ
    change A.length + Z.length = J at hJ
    change J + R.length = l.length at hlen
    change A ++ R.filter (fun h => !p h) = l.filter fun h => !p h at hfil
    obtain ⟨z, Z', rfl⟩ := List.exists_cons_of_ne_nil hZ;have hAJ : A.length < J := by rw [← hJ]; simp
    cases R with
    | nil =>
     have d0 : ((J : Int) < (l.length : Int)) = False := eq_false (by simp at hlen; omega);have hA : A = l.filter fun h => !p h := by simpa using hfil
     obtain ⟨W, hW⟩ : ∃ W, A ++ z :: Z' ++ [] = W := ⟨_, rfl⟩
     have hWl : W.length = l.length := by rw [← hW, ← hlen, ← hJ]; simp
     have hWt : (hsG W).take A.length = hsG A := by rw [← hW]; simp [hsG]
     have hAl : A.length ≤ l.length := by omega
     refine vq9 hst htk @hsG_len @toNat0 @Nat.sub_zero d0 hW hWl hWt ?_;exact ⟨by omega, by omega, by omega, by omega, by omega, by omega, _, [a, b, .row v 32 (hsG A)], [], rfl, leA_refl _, by rw [← hA], by rw [← hA]⟩
    | cons x R' =>
     have d0 : ((J : Int) < (l.length : Int)) = True := eq_true (by simp at hlen; omega);obtain ⟨W, hW⟩ : ∃ W, A ++ z :: Z' ++ x :: R' = W := ⟨_, rfl⟩
     have hWl : W.length = l.length := by rw [← hW, ← hlen, ← hJ]; simp; omega
     have eS : (hsG W).getD J [] = bytesG x.1 := by
      rw [hsG_at _ _ (by simp at hlen; omega)];have : W.getD J h0 = x := by
       rw [← hW, ← hJ];simp [List.getD, List.getElem?_append_right]
      rw [this]
     have eT : (hsG W).set A.length (bytesG x.1) = hsG (A ++ [x] ++ (Z' ++ [x]) ++ R') := by
      rw [← hW];simp [hsG, List.set_append]
     have eZ : (hsG W).getD A.length [] = bytesG z.1 := by
      rw [hsG_at _ _ (by simp at hlen; omega)];have : W.getD A.length h0 = z := by
       rw [← hW];simp [List.getD, List.getElem?_append_right]
      rw [this]
     have hl2 : J < l.length := by simp at hlen; omega
     have cN := hN x;by_cases hx : p x = true
     · rw [hx] at cN;have cN := cN.keep2 ha;refine vq7 hst htk d0 hW hWl eS zbBLg10 ?_;refine ⟨by omega, hl2, hl2, fun u => (cN _).mono ?_⟩;rintro g O' ⟨rfl, rfl⟩;refine vq2 hst htk ?_;refine Into.at ⟨((A, z :: Z' ++ [x]), (R', J + 1)), ⟨by simp, ?_⟩, ?_, ?_⟩ ?_ ⟨[.row u 32 [bytesG x.1]], ?_⟩ (by simp [WL, leG_self, leG_any, leG_int])
       · show A.length + (z :: Z' ++ [x]).length = J + 1
         rw [← hJ]; simp; omega
       · show J + 1 + R'.length = l.length;simp at hlen; omega
       · show A ++ R'.filter (fun h => !p h) = _
         rw [← hfil, List.filter_cons, hx]; rfl
       · show R'.length < (x :: R').length;simp
       · show _ = [a, b, GObj.row v 32 (hsG (A ++ (z :: Z' ++ [x]) ++ R'))] ++ [GObj.row u 32 [bytesG x.1]]
         rw [← hW]; simp
     · have hx : p x = false := by simpa using hx
       rw [hx] at cN;have cN := cN.keep2 ha;refine vq8 hst htk d0 hW hWl eS eT zbBLg10 ?_;refine ⟨by omega, hl2, hl2, fun u => (cN _).mono ?_⟩;rintro g O' ⟨rfl, rfl⟩;refine vq1 (ai hst <| ai htk <| ai @hsG_len <| ai @toNat0 <| ai hW <| ai hWl <| ai eZ <| ai eT <| ai @drop32y <| ai @List.append_nil.{0} <| @v32) ?_;refine ⟨by omega, by omega, by omega, by omega, ?_⟩;refine Into.at ⟨((A ++ [x], Z' ++ [x]), (R', J + 1)), ⟨by simp, ?_⟩, ?_, ?_⟩ ?_ ⟨[.row u 32 [bytesG x.1]], ?_⟩ (by simp [WL, leG_self, leG_any, leG_int])
       · show (A ++ [x]).length + (Z' ++ [x]).length = J + 1
         rw [← hJ]; simp; omega
       · show J + 1 + R'.length = l.length;simp at hlen; omega
       · show A ++ [x] ++ R'.filter (fun h => !p h) = _
         rw [← hfil, List.filter_cons, hx]; simp
       · show R'.length < (x :: R').length;simp
       · rfl
theorem parsM_some {m : GM} {h : Hs} {l : List Hs} (e : look m h = some l) : parsM m h = l := by rw [parsM, e]; rfl
theorem parsM_none {m : GM} {h : Hs} (e : look m h = none) : parsM m h = [] := by rw [parsM, e]; rfl
theorem gRound1 (a : GObj) (M : GM) (h : Hs) (s : Nat) (l : List Hs) (el : look M h = some l) : GCalls Try.prog 67 [.agg (bytesG h.1), .ref [.map 1 s]] [a, .map s (kvG encL M)] (fun g O' => g = .slice (hsG l) .none ∧ O' = [a, .map s (kvG encL M)]) := by
 obtain ⟨i, hi, hv, _⟩ := look_idx encL M h l el
 refine h67.ca ?_
 exact vd4 @kfind_h hi hv @v32
theorem gRound0 (a : GObj) (M : GM) (h : Hs) (s : Nat) (el : look M h = none) : GCalls Try.prog 67 [.agg (bytesG h.1), .ref [.map 1 s]] [a, .map s (kvG encL M)] (fun g O' => g = .slice [] .nil ∧ O' = [a, .map s (kvG encL M)]) := by
 obtain ⟨hi, _⟩ := look_none encL M h el
 refine h67.ca ?_
 exact vd3 @kfind_h hi @v32
theorem gRoundN (a : GObj) (M : GM) (h : Hs) (s : Nat) : GCalls Try.prog 67 [.agg (bytesG h.1), .ref [.map 1 s]] [a, .map s (kvG encL M)] (fun g O' => g = .slice (hsG (parsM M h)) .none ∧ O' = [a, .map s (kvG encL M)]) := by
 cases el : look M h with
 | some l => rw [parsM_some el]; exact gRound1 a M h s l el
 | none =>
  rw [parsM_none el];refine GCalls.into ((gRound0 a M h s el).mono ?_);rintro g O' ⟨rfl, rfl⟩;exact GInto.weak (O := [a, .map s (kvG encL M)]) (X := []) (by rw [leG_none]; rfl) (.here ⟨rfl, rfl⟩)
noncomputable def roundE (m M : GM) (c : Cm) : Er := by
 classical exact if (look m c.1).isSome then none else if Reach (parsM M) c.2 c.1 then some (some c.1, 12) else none
def hashesM (M : GM) : List Hs := M.map (·.1) ++ M.flatMap (·.2)
theorem parsM_mem {M : GM} {x y : Hs} (h : y ∈ parsM M x) : ∃ p ∈ M, p.1 = x ∧ y ∈ p.2 := by
 induction M with
 | nil => cases h
 | cons p r ih =>
  unfold parsM at h;rw [look] at h;by_cases e : x = p.1
  · rw [if_pos e] at h;exact ⟨p, by simp, e.symm, h⟩
  · rw [if_neg e] at h;obtain ⟨q, h1, h2, h3⟩ := ih h;exact ⟨q, by simp [h1], h2, h3⟩
theorem look_mem {M : GM} {x : Hs} {l : List Hs} (h : look M x = some l) : (x, l) ∈ M := by
 induction M with
 | nil => cases h
 | cons p r ih =>
  rw [look] at h;by_cases e : x = p.1
  · rw [if_pos e] at h;cases h;rw [e]; simp
  · rw [if_neg e] at h;simp [ih h]
structure GMOK (M : GM) : Prop where
 len : M.length ≤ 10000
 row : ∀ p ∈ M, p.2.length ≤ 4
theorem GMOK.pars {M : GM} (h : GMOK M) (x : Hs) : (parsM M x).length ≤ 4 := by
 cases e : look M x with
 | some l => rw [parsM_some e]; exact h.row _ (look_mem e)
 | none => rw [parsM_none e]; simp
theorem GMOK.hashes {M : GM} (h : GMOK M) : (hashesM M).length ≤ 50000 := by
 have : ∀ M : GM, (∀ p ∈ M, p.2.length ≤ 4) → (hashesM M).length ≤ 5 * M.length := by
  intro M;induction M with
  | nil => intro _; simp [hashesM]
  | cons p r ih =>
   intro h;have := ih fun q hq => h q (by simp [hq])
   have := h p (by simp);simp only [hashesM, List.map_cons, List.flatMap_cons, List.length_append, List.length_cons] at *;omega
 have := this M h.row
 have := h.len
 omega
theorem pars_in {M : GM} {x y : Hs} (h : y ∈ parsM M x) : y ∈ hashesM M := by
 obtain ⟨p, h1, _, h3⟩ := parsM_mem h
 exact List.mem_append_right _ (List.mem_flatMap.2 ⟨p, h1, h3⟩)
theorem gReachedM (M : GM) (hM : GMOK M) (l : List Hs) (t : Tag) (ht : t = .nil → l = []) (hl : l.length ≤ 10000) {O : List GObj} {i j : Nat} {a : GObj} {s : Nat} (hi : O[i]? = some a) (hj : O[j]? = some (.map s (kvG encL M))) (hij : i ≠ j) (hca : a.isClock = false) (hc : clockOf O = none) :
 GCalls Try.prog 66 [.slice (hsG l) t, .func (.func 67) [] [.ref [.map j s]]] O (fun g O' => ∃ st kv, g = .map O.length st ∧ O' = O ++ [.map st kv] ∧ ∃ S : List Hs, kv = kvG encB (setM S) ∧ S.Nodup ∧ (∀ x, x ∈ S ↔ Reach (parsM M) l x)) := by
 have h := gReached (caps := [.ref [.map 1 s]]) (parsM M) (fun h => gRoundN a M h s) hca l t ht (l ++ hashesM M) (fun x hx => List.mem_append_left _ hx) (fun x _ y hy => List.mem_append_right _ (pars_in hy)) 4 (fun x _ => hM.pars x) (by have := hM.hashes; rw [List.length_append]; omega) (by omega) (by omega)
 refine GCalls.on2new (R := fun st kv => ∃ S : List Hs, kv = kvG encB (setM S) ∧ S.Nodup ∧ (∀ x, x ∈ S ↔ Reach (parsM M) l x)) (h.mono ?_) i j hij hi hj ⟨GLe.refl _, GLe.func _ trivial ⟨GLe.ref ⟨GLe.map _ _ _, trivial⟩, trivial⟩, trivial⟩ hca hc
 rintro g O' ⟨st, S, rfl, rfl, h1, h2, _⟩
 exact ⟨st, _, rfl, rfl, S, rfl, h1, h2⟩
noncomputable def roundP (m M : GM) (cs : List Cm) : Er := cs.findSome? (roundE m M)
def zbBFg4 := ai @csG_len <| ai @hsG_len <| ai @comG.eq_1 <| ai @kfind_h <| ai @v33 <| @v32
theorem gRound (m M : GM) (cs : List Cm) (tc : Tag) (st s s2 : Nat) (hM : GMOK M) (hc : cs.length ≤ 1000000) (hp : ∀ c ∈ cs, c.2.length ≤ 10000) :
 GCalls Try.prog 52 [.ptr 0 st 0 0, .map 2 s2, .slice (csG cs) tc] (gObj st s m ++ [.map s2 (kvG encL M)]) (fun g O' => g = errV (roundP m M cs) ∧ O' = gObj st s m ++ [.map s2 (kvG encL M)]) := by
 refine GCalls.dropTo ?_
 refine h52.ca ?_
 refine vq1 @csG_len ?_
 refine vcSLoop_by (ι := { k : Nat // k ≤ cs.length ∧ cs.findSome? (roundE m M) = (cs.drop k).findSome? (roundE m M) }) (fun k => ⟨[.ptr 0 st 0 0, .any, .any, .any, .ref [.map 2 s2]] ++ List.replicate 6 .any ++ [.slice (csG cs) tc, .int .i64 cs.length, .int .i64 (k.1 : Nat)] ++ List.replicate 26 .any, [.row st 1 [[.map 1 s]], .map s (kvG encL m), .map s2 (kvG encL M)]⟩) (fun k => cs.length - k.1) ?_ ?_
 · exact Into.first ⟨0, by omega, by simp⟩ ⟨[], by simp⟩ (by simp [WL, leG_self, leG_any, leG_int])
 · rintro ⟨k, hk, hf⟩;by_cases h : k < cs.length
   · have d0 : ((k : Int) < (cs.length : Int)) = True := eq_true (by omega);have eS := csG_at cs k h;have hx := hp _ (memC h);rw [findC h] at hf;generalize cs.getD k default = x at *;obtain ⟨xh, xp⟩ := x
     change xp.length ≤ 10000 at hx
     cases el : look m xh with
     | some l =>
      obtain ⟨i, hi, hv, _⟩ := look_idx encL m xh l el;have en : roundE m M (xh, xp) = none := by unfold roundE; rw [el]; simp
      rw [en] at hf;refine vq5 d0 eS hi hv zbBFg4 ?_;refine ⟨by omega, fun u => ?_⟩;exact Into.at ⟨k + 1, by omega, hf⟩ (by show _ < _; simp; omega) ⟨_, rfl⟩ (by simp [WL, leG_self, leG_any, leG_int])
     | none =>
      obtain ⟨hi, _⟩ := look_none encL m xh el;refine vq4 d0 eS hi zbBFg4 ?_;refine ⟨by omega, fun u => ?_⟩;refine (gReachedM M hM xp .none (by simp) hx (i := 1) (j := 2) rfl rfl (by simp) rfl rfl).mono ?_;rintro g O' ⟨sr, kv, rfl, rfl, S, rfl, hS, hR⟩;by_cases hm : xh ∈ S
      · obtain ⟨i2, hi2, hv2, _⟩ := look_idx encB (setM S) xh true (by rw [look_set, if_pos hm]);have en : roundE m M (xh, xp) = some (some xh, 12) := by
         unfold roundE; rw [el]; simp [(hR xh).1 hm]
        rw [en] at hf;refine vq3 hi2 hv2 zbBFg4 ?_;refine ⟨⟨[_], rfl⟩, ?_⟩;refine (gOf xh 12).then ?_ (by rfl)
        refine vq0 ?_;unfold roundP;rw [hf];exact ⟨_, gObj st s m ++ [.map s2 (kvG encL M)], _, rfl, leA_refl _, rfl, rfl⟩
      · obtain ⟨hi2, _⟩ := look_none encB (setM S) xh (by rw [look_set, if_neg hm]);have en : roundE m M (xh, xp) = none := by
         have hnr : ¬ Reach (parsM M) xp xh := fun q => hm ((hR xh).2 q)
         unfold roundE; rw [el]; simp [hnr]
        rw [en] at hf;refine vq2 hi2 zbBFg4 ?_;refine ⟨⟨[_], rfl⟩, ?_⟩;exact Into.at ⟨k + 1, by omega, hf⟩ (by show _ < _; simp; omega) ⟨_, rfl⟩ (by simp [WL, leG_self, leG_any, leG_int])
   · have d0 : ((k : Int) < (cs.length : Int)) = False := eq_false (by omega);rw [List.drop_of_length_le (by omega)] at hf;refine vq2 d0 zbBFg4 ?_;unfold roundP;rw [hf];exact ⟨_, gObj st s m ++ [.map s2 (kvG encL M)], [], rfl, leA_refl _, rfl, rfl⟩
theorem errV_some (e : Option Hs × Int) : ∃ ty v, errV (some e) = .iface ty v := by
 obtain ⟨h, n⟩ := e
 cases h with
 | none => exact ⟨_, _, rfl⟩
 | some h => exact ⟨_, _, rfl⟩
theorem kvG_len {α : Type} (enc : α → GVal) (m : List (Hs × α)) : (kvG enc m).length = m.length := by simp [kvG]
structure GOK (m : GM) : Prop where
 len : m.length ≤ 1000
 row : ∀ p ∈ m, p.2.length ≤ 4
theorem sizesP_none {gr : Int} {nh : Nat} {cs : List Cm} (h : sizesP gr nh cs = none) : cs.length ≤ 200 ∧ nh ≤ 200 ∧ (gr = 1 ∨ gr = 2) ∧ ∀ c ∈ cs, c.2.length ≤ 4 ∧ twiceB c.2 = false := by
 unfold sizesP at h
 split at h
 · cases h
 · rename_i hb;unfold badReq at hb;refine ⟨by omega, by omega, by omega, fun c hc => ?_⟩;have := List.findSome?_eq_none_iff.1 h c hc;unfold sizeE at this;split at this
   · cases this
   · split at this
     · cases this
     · rename_i h1 h2; exact ⟨by omega, by simpa using h2⟩
theorem mset_mem {α : Type} {m : List (Hs × α)} {h : Hs} {v : α} {p : Hs × α} (hp : p ∈ mset m h v) : p ∈ m ∨ p = (h, v) := by
 induction m with
 | nil => simp [mset] at hp; exact .inr hp
 | cons q r ih =>
  rw [mset] at hp;split at hp
  · rcases List.mem_cons.1 hp with e | e
    · exact .inr e
    · exact .inl (List.mem_cons_of_mem _ e)
  · rcases List.mem_cons.1 hp with e | e
    · exact .inl (by rw [e]; simp)
    · exact (ih e).imp (List.mem_cons_of_mem _) id
theorem joinP_ok : ∀ {cs : List Cm} {m M : GM}, joinP m cs = .ok M → (∀ p ∈ m, p.2.length ≤ 4) → (∀ c ∈ cs, c.2.length ≤ 4) → M.length ≤ m.length + cs.length ∧ ∀ p ∈ M, p.2.length ≤ 4
 | [], m, M, h, hm, hc => by rw [joinP] at h; cases h; exact ⟨by simp, hm⟩
 | c :: r, m, M, h, hm, hc => by
  rw [joinP] at h;have hr : ∀ x ∈ r, x.2.length ≤ 4 := fun x hx => hc x (by simp [hx])
  have hx := hc c (by simp);unfold joinE at h;cases el : look m c.1 with
  | some l =>
   simp only [el] at h;split at h
   · rename_i m' e;split at e
     · cases e;obtain ⟨h1, h2⟩ := joinP_ok h hm hr;exact ⟨by simp only [List.length_cons]; omega, h2⟩
     · cases e
   · cases h
  | none =>
   simp only [el] at h;obtain ⟨h1, h2⟩ := joinP_ok h (fun p hp => by
    rcases mset_mem hp with q | q
    · exact hm p q
    · rw [q]; exact hx) hr
   have := mset_len m c.1 c.2;rw [el] at this;simp at this;exact ⟨by simp only [List.length_cons]; omega, h2⟩
noncomputable def joinedP (gr : Int) (m : GM) (cs : List Cm) (hs : List Hs) : Except (Option Hs × Int) GM := match sizesP gr hs.length cs with
 | some e => .error e
 | none => match joinP m cs with
  | .error (h, n) => .error (some h, n)
  | .ok M => match lackP M cs hs with
   | some e => .error e
   | none => match roundP m M cs with
    | some e => .error e
    | none => if 1000 < M.length then .error (none, 13) else .ok M
def jdV (st : Nat) : Except (Option Hs × Int) GM → GVal
 | .ok _ => .tuple [.map 2 st, .lit .nilIface]
 | .error e => .tuple [.lit (.map none), errV (some e)]
def jdO (st : Nat) : Except (Option Hs × Int) GM → List GObj
 | .ok M => [.map st (kvG encL M)]
 | .error _ => []
def zbBFg5 := ai @errV.eq_1 <| ai @errV.eq_2 <| @errV.eq_3
def zbBFg6 := ai @joinV.eq_1 <| ai @joinV.eq_2 <| ai @joinO.eq_1 <| @joinO.eq_2
theorem gJoinedBy (m : GM) (hm : GOK m) (cs : List Cm) (hs : List Hs) (th : Tag) (gr : Int) (st s : Nat) (hc : cs.length ≤ 1000000) (hh : hs.length ≤ 1000000) (hp : ∀ c ∈ cs, c.2.length ≤ 1000000) :
 GCalls Try.prog 30 [.ptr 0 st 0 0, .agg (reqG cs hs th gr)] (gObj st s m) (fun g O' => ∃ s2, g = jdV s2 (joinedP gr m cs hs) ∧ O' = gObj st s m ++ jdO s2 (joinedP gr m cs hs)) := by
 have c1 := gSizes cs hs th gr hc hh hp
 cases e1 : sizesP gr hs.length cs with
 | some e =>
  have ej : joinedP gr m cs hs = .error e := by unfold joinedP; rw [e1]
  rw [e1] at c1;obtain ⟨ty, v, ev⟩ := errV_some e;rw [ev] at c1;rw [ej];refine h30.ca ?_;refine vq0 ?_;refine c1.then ?_ (by rfl)
  refine vq1 Try.underlying56 ?_;exact ⟨0, by rw [jdV, ev], rfl⟩
 | none =>
  obtain ⟨n1, n2, n3, n4⟩ := sizesP_none e1;rw [e1] at c1;have c2 := gJoined m cs .none st s hc hp (fun h l e => by have := hm.row _ (look_mem e); simp only at this; omega);cases e2 : joinP m cs with
  | error x =>
   obtain ⟨xh, xn⟩ := x;have ej : joinedP gr m cs hs = .error (some xh, xn) := by unfold joinedP; rw [e1]; simp only [e2]
   rw [e2] at c2;rw [ej];refine h30.ca ?_;refine vq0 ?_;refine c1.then ?_ (by rfl)
   refine vq2 Try.underlying56 zbBFg5 ?_;refine c2.mono ?_;rintro g O' ⟨_, rfl, rfl⟩;refine vq2 Try.underlying56 zbBFg6 ?_;exact ⟨0, rfl, rfl⟩
  | ok M =>
   obtain ⟨m1, m2⟩ := joinP_ok e2 hm.row (fun c hc => (n4 c hc).1);have hM : GMOK M := ⟨by have := hm.len; omega, m2⟩
   have c3 := fun s2 => GCalls.keep1 (gLacking M cs hs th gr s2 hc hh hp) (O := gObj st s m ++ [.map s2 (kvG encL M)]) (args' := [.map 2 s2, .agg (reqG cs hs th gr)]) 2 rfl rfl rfl rfl
   rw [e2] at c2;cases e3 : lackP M cs hs with
   | some e =>
    have ej : joinedP gr m cs hs = .error e := by unfold joinedP; rw [e1]; simp only [e2, e3]
    rw [e3] at c3;obtain ⟨ty, v, ev⟩ := errV_some e;rw [ev] at c3;rw [ej];refine GCalls.dropTo ?_;refine h30.ca ?_;refine vq0 ?_;refine c1.then ?_ (by rfl)
    refine vq2 Try.underlying56 zbBFg5 ?_;refine c2.mono ?_;rintro g O' ⟨s2, rfl, rfl⟩;refine vq2 Try.underlying56 zbBFg6 ?_;refine (c3 s2).mono ?_;rintro g O' ⟨rfl, rfl⟩;refine vq1 Try.underlying56 ?_;exact ⟨_, gObj st s m, _, rfl, leA_refl _, 0, by rw [jdV, ev], rfl⟩
   | none =>
    have c4 := fun s2 => gRound m M cs .none st s s2 hM hc (fun c hc => by have := (n4 c hc).1; omega)
    rw [e3] at c3;cases e4 : roundP m M cs with
    | some e =>
     have ej : joinedP gr m cs hs = .error e := by unfold joinedP; rw [e1]; simp only [e2, e3, e4]
     rw [e4] at c4;obtain ⟨ty, v, ev⟩ := errV_some e;rw [ev] at c4;rw [ej];refine GCalls.dropTo ?_;refine h30.ca ?_;refine vq0 ?_;refine c1.then ?_ (by rfl)
     refine vq2 Try.underlying56 zbBFg5 ?_;refine c2.mono ?_;rintro g O' ⟨s2, rfl, rfl⟩;refine vq2 Try.underlying56 zbBFg6 ?_;refine (c3 s2).mono ?_;rintro g O' ⟨rfl, rfl⟩;refine vq2 Try.underlying56 zbBFg5 ?_;refine (c4 s2).mono ?_;rintro g O' ⟨rfl, rfl⟩;refine vq1 Try.underlying56 ?_;exact ⟨_, gObj st s m, _, rfl, leA_refl _, 0, by rw [jdV, ev], rfl⟩
    | none =>
     rw [e4] at c4;by_cases h5 : 1000 < M.length
     · have d5 : ((1000 : Int) < (M.length : Int)) = True := eq_true (by omega);have ej : joinedP gr m cs hs = .error (none, 13) := by unfold joinedP; rw [e1]; simp only [e2, e3, e4]; rw [if_pos h5]
       rw [ej];refine GCalls.dropTo ?_;refine h30.ca ?_;refine vq0 ?_;refine c1.then ?_ (by rfl)
       refine vq2 Try.underlying56 zbBFg5 ?_;refine c2.mono ?_;rintro g O' ⟨s2, rfl, rfl⟩;refine vq2 Try.underlying56 zbBFg6 ?_;refine (c3 s2).mono ?_;rintro g O' ⟨rfl, rfl⟩;refine vq2 Try.underlying56 zbBFg5 ?_;refine (c4 s2).mono ?_;rintro g O' ⟨rfl, rfl⟩;refine vq6 Try.underlying56 @errV.eq_1 @errV.eq_2 @errV.eq_3 @kvG_len d5 ?_;exact ⟨_, gObj st s m, _, rfl, leA_refl _, 0, rfl, rfl⟩
     · have d5 : ((1000 : Int) < (M.length : Int)) = False := eq_false (by omega);have ej : joinedP gr m cs hs = .ok M := by unfold joinedP; rw [e1]; simp only [e2, e3, e4]; rw [if_neg h5]
       rw [ej];refine h30.ca ?_;refine vq0 ?_;refine c1.then ?_ (by rfl)
       refine vq2 Try.underlying56 zbBFg5 ?_;refine c2.mono ?_;rintro g O' ⟨s2, rfl, rfl⟩;refine vq2 Try.underlying56 zbBFg6 ?_;refine (c3 s2).mono ?_;rintro g O' ⟨rfl, rfl⟩;refine vq2 Try.underlying56 zbBFg5 ?_;refine (c4 s2).mono ?_;rintro g O' ⟨rfl, rfl⟩;refine vq6 Try.underlying56 @errV.eq_1 @errV.eq_2 @errV.eq_3 @kvG_len d5 ?_;exact ⟨s2, rfl, rfl⟩
noncomputable def addedM (m : GM) (cs : List Cm) : GM := match joinedP 2 m cs [] with
 | .ok M => M
 | .error _ => m
noncomputable def addedE (m : GM) (cs : List Cm) : Er := match joinedP 2 m cs [] with
 | .ok _ => none
 | .error e => some e
theorem gAddRaw (m M : GM) (cs : List Cm) (st s : Nat) (c1 : GCalls Try.prog 30 [.ptr 0 st 0 0, .agg (reqG cs [] .nil 2)] (gObj st s m) (fun g O' => ∃ s2, g = jdV s2 (.ok M) ∧ O' = gObj st s m ++ jdO s2 (.ok M))) :
 GCalls Try.prog 14 [.ptr 0 st 0 0, .slice (csG cs) .none] (gObj st s m) (fun g O' => ∃ s2, g = .lit .nilIface ∧ O' = [.row st 1 [[.map 2 s2]], .map s (kvG encL m), .map s2 (kvG encL M)]) := by
 refine h14.ca ?_
 refine vq0 ?_
 refine c1.mono ?_
 rintro g O' ⟨s2, rfl, rfl⟩
 refine vq5 Try.underlying56 @jdV.eq_1 @jdV.eq_2 @jdO.eq_1 @jdO.eq_2 ?_
 exact ⟨_, rfl⟩
theorem gAddOk (m M : GM) (cs : List Cm) (st s : Nat) (c1 : GCalls Try.prog 30 [.ptr 0 st 0 0, .agg (reqG cs [] .nil 2)] (gObj st s m) (fun g O' => ∃ s2, g = jdV s2 (.ok M) ∧ O' = gObj st s m ++ jdO s2 (.ok M))) :
 GCalls Try.prog 14 [.ptr 0 st 0 0, .slice (csG cs) .none] (gObj st s m) (fun g O' => ∃ x' y', O' = [x', y'] ∧ (g = errV none ∧ ∃ s', x' = .row st 1 [[.map 1 s']] ∧ y' = .map s' (kvG encL M))) := by
 refine GCalls.frame (gAddRaw m M cs st s c1) [0, 1] ⟨⟨_, rfl, .refl _⟩, ⟨_, rfl, .refl _⟩, trivial⟩ (by simp) (GLes.refl _) rfl rfl ?_
 rintro g O' ⟨s2, rfl, rfl⟩
 exact ⟨_, [.row st 1 [[.map 1 s2]], .map s2 (kvG encL M)], [(false, 0), (false, 2)], ⟨_, _, rfl, rfl, s2, rfl, rfl⟩, GLe.refl _, ⟨⟨_, rfl, OLe.row ⟨⟨GLe.map _ _ _, trivial⟩, trivial⟩⟩, ⟨_, rfl, .refl _⟩, trivial⟩, by simp, rfl⟩
theorem gAdd (m : GM) (hm : GOK m) (cs : List Cm) (st s : Nat) (hc : cs.length ≤ 1000000) (hp : ∀ c ∈ cs, c.2.length ≤ 1000000) :
 GCalls Try.prog 14 [.ptr 0 st 0 0, .slice (csG cs) .none] (gObj st s m) (fun g O' => ∃ x' y', O' = [x', y'] ∧ (g = errV (addedE m cs) ∧ ∃ s', x' = .row st 1 [[.map 1 s']] ∧ y' = .map s' (kvG encL (addedM m cs)))) := by
 have c1 := gJoinedBy m hm cs [] .nil 2 st s hc (by simp) hp
 cases e1 : joinedP 2 m cs [] with
 | error e =>
  have ea : addedE m cs = some e := by unfold addedE; rw [e1]
  have em : addedM m cs = m := by unfold addedM; rw [e1]
  rw [e1] at c1;rw [ea, em];obtain ⟨ty, v, ev⟩ := errV_some e;refine h14.ca ?_;refine vq0 ?_;refine c1.mono ?_;rintro g O' ⟨s2, rfl, rfl⟩;refine vq6 Try.underlying56 @jdV.eq_1 @jdV.eq_2 @jdO.eq_1 @jdO.eq_2 ev ?_;exact ⟨_, _, rfl, s, rfl, rfl⟩
 | ok M =>
  have ea : addedE m cs = none := by unfold addedE; rw [e1]
  have em : addedM m cs = M := by unfold addedM; rw [e1]
  rw [e1] at c1;rw [ea, em];exact gAddOk m M cs st s c1
theorem gNewRaw : GCalls Try.prog 10 [] [] (fun g O' => ∃ st s, g = .ptr 1 st 0 0 ∧ O' = [.map s (kvG encL []), .row st 1 [[.map 0 s]]]) := by
 refine h10.ca ?_
 refine vq0 ?_
 exact fun s => ⟨rfl, fun st => ⟨_, _, rfl, rfl⟩⟩
theorem gNew : GCalls Try.prog 10 [] [] (fun g O' => ∃ st s, g = .ptr 0 st 0 0 ∧ O' = gObj st s []) := by
 refine GCalls.frame gNewRaw [] trivial (by simp) trivial rfl rfl ?_
 rintro g O' ⟨st, s, rfl, rfl⟩
 exact ⟨_, gObj st s [], [(false, 1), (false, 0)], ⟨st, s, rfl, rfl⟩, GLe.ptr _ _ _ _ _, ⟨⟨_, rfl, OLe.row ⟨⟨GLe.map _ _ _, trivial⟩, trivial⟩⟩, ⟨_, rfl, .refl _⟩, trivial⟩, by simp, rfl⟩
def meltTo (n : Nat) (K : GVal → List GObj → Prop) (g : GVal) (O' : List GObj) : Prop := (∃ g', leA g g' ∧ K g' O') ∨ ∃ t sz xs O1, g = .own O1.length t 0 xs.length ∧ O' = O1 ++ [.row t sz xs] ∧ frzLL (Gv.frz [.row t sz xs] n) xs = some xs ∧ K (.slice xs .none) O1
theorem GCalls.meltOr {P : Program} {f : FuncId} {args : List GVal} {O : List GObj} {K : GVal → List GObj → Prop} (n : Nat)
 (h : GCalls P f args O (meltTo n K)) : GCalls P f args O K := by
 refine ⟨h.1, fun E w vs hs ha => (h.2 E w vs hs ha).mono ?_⟩
 rintro e w' ⟨v, E', O', g, h1, h2, h3, h4, (⟨g', hl, hk⟩ | ⟨t, sz, xs, O1, rfl, rfl, hf, hk⟩)⟩
 · exact ⟨v, E', O', g', h1, h2, h3, hl.sound h4, hk⟩
 · obtain ⟨q0, q1, q2⟩ := h2.melt;have h5 : VR E' v (.own 0 t 0 xs.length) := by
    cases h4 with
    | own a len cap o st i l hl hcap ha => exact .own a _ cap 0 t 0 l hl hcap ha
   exact ⟨v, _, O1, _, h1, q1, h3.trans q2, frz_sound q0 (n + 1) v _ _ h5 (frz_own rfl rfl hf), hk⟩
theorem gIndexNil {F : FuncId} {caps : List GVal} (X : List GObj) : GCalls Try.prog 69 [.slice [] .nil, .func (.func F) [] caps] X (fun g O' => g = .int .i64 (-1) ∧ O' = X) := by
 refine h69.ca ?_
 refine vq0 ?_
 refine vcSLoop_by (ι := Unit) (fun _ => ⟨[.any, .any, .any, .any, .int .i64 0, .any, .any, .int .i64 0, .int .i64 0] ++ List.replicate 10 .any, X⟩) (fun _ => 0) ?_ ?_
 · exact Into.first () ⟨[], by simp⟩ (by simp [WL, leG_self, leG_any])
 · rintro ⟨⟩;refine vq0 ?_;exact fun h => absurd h (Int.lt_irrefl 0)
theorem gDeleteNil {F : FuncId} {caps : List GVal} (X : List GObj) : GCalls Try.prog 56 [.slice [] .nil, .func (.func F) [] caps] X (fun g O' => g = .slice [] .nil ∧ O' = X) := by
 have cI := gIndexNil (F := F) (caps := caps) X
 refine h56.ca ?_
 refine vq0 ?_
 refine cI.mono ?_
 rintro g O' ⟨rfl, rfl⟩
 exact vd0
def inM (m : GM) (l : List Hs) : List Hs := l.filter fun h => (look m h).isSome
abbrev rObj (rt : Nat) (L : GM) : List GObj := [.row rt 1 [[.slice (csG L) .none]]]
abbrev SSC (L : GM) : Prop := L.Pairwise fun a b => LT a.1 b.1
def findO (L : GM) (h : Hs) : Option Nat := L.findIdx? fun c => decide (c.1 = h)
def findZ (L : GM) (h : Hs) : Int := match findO L h with
 | some i => (i : Int)
 | none => -1
theorem find_look : ∀ (L : GM) (h : Hs), (∀ i, findO L h = some i → i < L.length ∧ look L h = some (L.getD i default).2 ∧ (L.getD i default).1 = h) ∧ (findO L h = none → look L h = none)
 | [], h => ⟨fun i e => by simp [findO] at e, fun _ => rfl⟩
 | c :: r, h => by
  unfold findO;rw [List.findIdx?_cons, look];by_cases e : c.1 = h
  · rw [decide_eq_true e, if_pos e.symm];exact ⟨fun i hi => by simp at hi; subst hi; exact ⟨by simp, by simp, by simpa using e⟩, fun q => by simp at q⟩
  · rw [decide_eq_false e, if_neg (c := h = c.1) (fun q => e q.symm)];obtain ⟨h1, h2⟩ := find_look r h;refine ⟨fun i hi => ?_, fun q => h2 (by unfold findO; simpa using q)⟩;cases hr : findO r h with
    | none => unfold findO at hr; rw [hr] at hi; simp at hi
    | some j =>
     have hr' := hr;unfold findO at hr';rw [hr'] at hi;simp at hi;subst hi;obtain ⟨a, b, c⟩ := h1 j hr;exact ⟨by simp; exact a, by simpa using b, by simpa using c⟩
theorem ssc_lt {L : GM} (h : SSC L) {i j : Nat} (h1 : i < j) (h2 : j < L.length) : LT (L.getD i default).1 (L.getD j default).1 := by
 have := (List.pairwise_iff_getElem.1 h) i j (by omega) h2 h1
 have e1 : L.getD i default = L[i] := by simp [List.getD, show i < L.length by omega]
 have e2 : L.getD j default = L[j] := by simp [List.getD, h2]
 rw [e1, e2]; exact this
theorem find_end {L : GM} (hL : SSC L) {h : Hs} {k : Nat} (hk : k ≤ L.length) (h1 : ∀ i, i < k → LT (L.getD i default).1 h) (h2 : ∀ i, k ≤ i → i < L.length → ¬ LT (L.getD i default).1 h) :
 (k < L.length → (L.getD k default).1 = h → findO L h = some k) ∧ ((k < L.length → (L.getD k default).1 ≠ h) → findO L h = none) := by
 have eg : ∀ i (q : i < L.length), L[i] = L.getD i default := fun i q => by simp [List.getD, q]
 refine ⟨fun a e => ?_, fun a => ?_⟩
 · unfold findO;rw [List.findIdx?_eq_some_iff_getElem];refine ⟨a, by rw [eg k a]; exact decide_eq_true e, fun j hj => ?_⟩;rw [eg j (by omega)];have := h1 j hj;simp only [decide_eq_true_eq];intro q;rw [q] at this;exact LT.irrefl _ this
 · unfold findO;rw [List.findIdx?_eq_none_iff];intro c hc;obtain ⟨j, hj, rfl⟩ := List.getElem_of_mem hc;rw [eg j hj];simp only [decide_eq_false_iff_not];intro q;rcases Nat.lt_trichotomy j k with q1 | q1 | q1
   · have := h1 j q1;rw [q] at this;exact LT.irrefl _ this
   · subst q1; exact a hj q
   · have hk2 : k < L.length := by omega
     have n1 := a hk2;have n2 := h2 k (Nat.le_refl _) hk2;have l1 : LT h (L.getD k default).1 := LT.total (by cases e : ltB (L.getD k default).1.1 h.1 with | true => exact absurd e n2 | false => rfl) n1;have l2 := ssc_lt hL q1 hj;rw [q] at l2;exact LT.irrefl _ (l1.trans l2)
theorem has_find (L : GM) (h : Hs) : decide (0 ≤ findZ L h) = (look L h).isSome := by
 obtain ⟨h1, h2⟩ := find_look L h
 unfold findZ
 cases e : findO L h with
 | none => rw [h2 e]; rfl
 | some i => rw [(h1 i e).2.1]; simp
def zbCDg17 := ai @csG_len <| ai @comG.eq_1 <| ai @v33 <| @v32
theorem rFind (L : GM) (hL : SSC L) (hl : L.length ≤ 1000000) (h : Hs) (rt : Nat) : GCalls Try.prog 59 [.ptr 0 rt 0 0, .agg (bytesG h.1)] (rObj rt L) (fun g O' => g = .int .i64 (findZ L h) ∧ O' = rObj rt L) := by
 refine h59.ca ?_
 refine vq2 @csG_len @v32 ?_
 refine vcSLoop_by (ι := { p : Nat × Nat // p.1 ≤ p.2 ∧ p.2 ≤ L.length ∧ (∀ i, i < p.1 → LT (L.getD i default).1 h) ∧ (∀ i, p.2 ≤ i → i < L.length → ¬ LT (L.getD i default).1 h) }) (fun p => ⟨[.ptr 0 rt 0 0, .any, .any, .ref (bytesG h.1), .any, .int .i64 (p.1.1 : Nat), .int .i64 (p.1.2 : Nat)] ++ List.replicate 46 .any, rObj rt L⟩) (fun p => p.1.2 - p.1.1) ?_ ?_
 · exact Into.first ⟨(0, L.length), Nat.zero_le _, Nat.le_refl _, fun i hi => by omega, fun i h1 h2 => by omega⟩ ⟨[], by simp⟩ (by simp [WL, leG_self, leG_any])
 · rintro ⟨⟨lo, hi⟩, hlh, hhl, ha, hb⟩
   change lo ≤ hi at hlh
   change hi ≤ L.length at hhl
   have ha : ∀ i, i < lo → LT (L.getD i default).1 h := ha;have hb : ∀ i, hi ≤ i → i < L.length → ¬ LT (L.getD i default).1 h := hb;by_cases hc : lo < hi
   · have d0 : ((lo : Int) < (hi : Int)) = True := eq_true (by omega);obtain ⟨m, hm⟩ : ∃ m, (lo + hi) / 2 = m := ⟨_, rfl⟩
     have em : ((lo : Int) + (hi : Int)).tdiv 2 = (m : Int) := by
      rw [show (lo : Int) + (hi : Int) = ((lo + hi : Nat) : Int) by omega, ← hm]; rfl
     have en : norm .i64 (m : Int) = (m : Int) := norm_i64 (by omega);have eS := csG_at L m (by omega);obtain ⟨xh, xp, hx⟩ : ∃ xh xp, L.getD m default = (xh, xp) := ⟨_, _, rfl⟩
     have hup : LT xh h → ∀ i, i < m + 1 → LT (L.getD i default).1 h := fun q i hi => by
      by_cases e : i = m
      · subst e; rw [hx]; exact q
      · have := ssc_lt hL (show i < m by omega) (by omega);rw [hx] at this;exact LT.trans this q
     have hdn : ¬ LT xh h → ∀ i, m ≤ i → i < L.length → ¬ LT (L.getD i default).1 h := fun q i h1 h2 => by
      by_cases e : i = m
      · subst e; rw [hx]; exact q
      · have := ssc_lt hL (show m < i by omega) h2;rw [hx] at this;exact fun r => q (LT.trans this r)
     rw [hx] at eS;have cL := hLessR xh.1 h.1 xh.2 h.2;cases el : ltB xh.1 h.1 with
     | true =>
      rw [el] at cL;refine vq5 d0 em en eS zbCDg17 ?_;refine ⟨by decide, by omega, by omega, ?_⟩;refine cL.then ?_ (by rfl)
      refine vq0 ?_;exact Into.at ⟨(m + 1, hi), by show m + 1 ≤ hi; omega, hhl, hup el, hb⟩ (by show hi - (m + 1) < hi - lo; omega) ⟨[], by simp⟩ (by simp [WL, leG_self, leG_any, leG_int])
     | false =>
      rw [el] at cL;refine vq5 d0 em en eS zbCDg17 ?_;refine ⟨by decide, by omega, by omega, ?_⟩;refine cL.then ?_ (by rfl)
      refine vq0 ?_;exact Into.at ⟨(lo, m), by show lo ≤ m; omega, by show m ≤ L.length; omega, ha, hdn (by unfold LT; rw [el]; simp)⟩ (by show m - lo < hi - lo; omega) ⟨[], by simp⟩ (by simp [WL, leG_self, leG_any, leG_int])
   · have d0 : ((lo : Int) < (hi : Int)) = False := eq_false (by omega);have e : hi = lo := by omega
     subst e;obtain ⟨f1, f2⟩ := find_end hL hhl ha hb;by_cases hk : hi < L.length
     · have d1 : ((hi : Int) < (L.length : Int)) = True := eq_true (by omega);have eS := csG_at L hi hk;obtain ⟨xh, xp, hx⟩ : ∃ xh xp, L.getD hi default = (xh, xp) := ⟨_, _, rfl⟩
       rw [hx] at eS f1 f2;by_cases e : xh = h
       · subst e;have eZ : findZ L xh = (hi : Int) := by unfold findZ; rw [f1 hk rfl]
         have ce := cellsEq_hs xh xh;rw [decide_eq_true rfl] at ce;rw [eZ];refine vq5 d0 d1 eS ce zbCDg17 ?_;omega
       · have eZ : findZ L h = -1 := by unfold findZ; rw [f2 fun _ => e]
         have ce := cellsEq_hs xh h;rw [decide_eq_false e] at ce;rw [eZ];refine vq5 d0 d1 eS ce zbCDg17 ?_;omega
     · have d1 : ((hi : Int) < (L.length : Int)) = False := eq_false (by omega);have eZ : findZ L h = -1 := by unfold findZ; rw [f2 fun q => absurd q hk]
       rw [eZ];exact vd3 d0 d1 @csG_len
theorem rHas (L : GM) (hL : SSC L) (hl : L.length ≤ 1000000) (h : Hs) (rt : Nat) : GCalls Try.prog 43 [.ptr 0 rt 0 0, .agg (bytesG h.1)] (rObj rt L) (fun g O' => g = .bool (look L h).isSome ∧ O' = rObj rt L) := by
 have cF := rFind L hL hl h rt
 have eh := has_find L h
 by_cases c : 0 ≤ findZ L h
 · have d : (0 ≤ findZ L h) = True := eq_true c;rw [decide_eq_true c] at eh
   rw [← eh];refine h43.ca ?_;refine vq1 @v32 ?_;refine cF.mono ?_;rintro g O' ⟨rfl, rfl⟩;exact vd1 d
 · have d : (0 ≤ findZ L h) = False := eq_false c;rw [decide_eq_false c] at eh
   rw [← eh];refine h43.ca ?_;refine vq1 @v32 ?_;refine cF.mono ?_;rintro g O' ⟨rfl, rfl⟩;refine vq1 d ?_;rfl
theorem rPar1 (L : GM) (hL : SSC L) (hl : L.length ≤ 1000000) (h : Hs) (rt : Nat) (i : Nat) (hi : i < L.length) (e : findZ L h = (i : Int)) (x : Cm) (hx : L.getD i default = x) : GCalls Try.prog 45 [.ptr 0 rt 0 0, .agg (bytesG h.1)] (rObj rt L) (fun g O' => g = .slice (hsG x.2) .none ∧ O' = rObj rt L) := by
 have cF := rFind L hL hl h rt
 rw [e] at cF
 have d : (0 ≤ (i : Int)) = True := eq_true (by omega)
 have eS := csG_at L i hi
 rw [hx] at eS
 obtain ⟨xh, xp⟩ := x
 refine h45.ca ?_
 refine vq1 @v32 ?_
 refine cF.mono ?_
 rintro g O' ⟨rfl, rfl⟩
 refine vq3 d eS zbCDg17 ?_
 omega
theorem rPar0 (L : GM) (hL : SSC L) (hl : L.length ≤ 1000000) (h : Hs) (rt : Nat) (e : findZ L h = -1) : GCalls Try.prog 45 [.ptr 0 rt 0 0, .agg (bytesG h.1)] (rObj rt L) (fun g O' => g = .slice [] .nil ∧ O' = rObj rt L) := by
 have cF := rFind L hL hl h rt
 rw [e] at cF
 have d : ((0 : Int) ≤ -1) = False := eq_false (by omega)
 refine h45.ca ?_
 refine vq1 @v32 ?_
 refine cF.mono ?_
 rintro g O' ⟨rfl, rfl⟩
 exact vd3 d @false_imp_iff @true_and
theorem rParents (L : GM) (hL : SSC L) (hl : L.length ≤ 1000000) (h : Hs) (rt : Nat) : GCalls Try.prog 45 [.ptr 0 rt 0 0, .agg (bytesG h.1)] (rObj rt L) (fun g O' => g = .slice (hsG (parsM L h)) .none ∧ O' = rObj rt L) := by
 obtain ⟨h1, h2⟩ := find_look L h
 cases e : findO L h with
 | some i =>
  obtain ⟨a, b, _⟩ := h1 i e;rw [parsM_some b];exact rPar1 L hL hl h rt i a (by unfold findZ; rw [e]) _ rfl
 | none =>
  rw [parsM_none (h2 e)];refine GCalls.into ((rPar0 L hL hl h rt (by unfold findZ; rw [e])).mono ?_);rintro g O' ⟨rfl, rfl⟩;exact GInto.weak (O := rObj rt L) (X := []) (by rw [leG_none]; rfl) (.here ⟨rfl, rfl⟩)
def idxC : GM → Hs → Nat
 | [], _ => 0
 | x :: r, h => if ltB x.1.1 h.1 = true then idxC r h + 1 else 0
def putC (L : GM) (c : Cm) : GM := if (look L c.1).isSome = true then L else L.take (idxC L c.1) ++ [c] ++ L.drop (idxC L c.1)
theorem idxC_at : ∀ (l : GM) (h : Hs) (k : Nat), k < l.length → idxC (l.drop k) h = if ltB (l.getD k default).1.1 h.1 = true then idxC (l.drop (k + 1)) h + 1 else 0 := fun l h k hk => by
 rw [dropC hk]; rfl
theorem take_csL (l : GM) (n : Nat) : (csG l).take n = csG (l.take n) := by simp [csG, List.map_take]
theorem drop_csL (l : GM) (n : Nat) : (csG l).drop n = csG (l.drop n) := by simp [csG, List.map_drop]
theorem takeAllC (l : GM) : List.take l.length (csG l) = csG l := List.take_of_length_le (by rw [csG_len]; exact Nat.le_refl _)
theorem rPut0 (L : GM) (hL : SSC L) (hl : L.length ≤ 1000000) (c : Cm) (hc : c.2.length ≤ 1000000) (rt : Nat) (e : (look L c.1).isSome = true) : GCalls Try.prog 46 [.ptr 0 rt 0 0, .agg (comG c)] (rObj rt L) (fun g O' => g = .tuple [] ∧ O' = rObj rt L) := by
 obtain ⟨ch, cp⟩ := c
 have cH := rHas L hL hl ch rt
 simp only at e
 rw [e] at cH
 refine h46.ca ?_
 refine vq3 @comG.eq_1 @v33 @v32 ?_
 refine cH.mono ?_
 rintro g O' ⟨rfl, rfl⟩
 exact vd0
def zbCDg18 := ai @csG_len <| ai @comG.eq_1 <| ai @all_csG <| ai @take_csL <| ai @drop_csL <| ai @takeAllC <| ai @toNat0 <| ai @List.drop_zero.{0} <| ai @hsG_len <| ai @all_hsG <| ai @v33 <| @v32
theorem rPutRaw (L : GM) (hL : SSC L) (hl : L.length ≤ 1000000) (c : Cm) (hc : c.2.length ≤ 1000000) (rt : Nat) (e : (look L c.1).isSome = false) : GCalls Try.prog 46 [.ptr 0 rt 0 0, .agg (comG c)] (rObj rt L) (fun g O' => ∃ u v, g = .tuple [] ∧ O' = [.row rt 1 [[.slice (csG (L.take (idxC L c.1)) ++ [bytesG c.1.1 ++ [.slice (hsG c.2) (.tok 2 u)]] ++ csG (L.drop (idxC L c.1))) (.tok 1 v)]], .tok v 33, .tok u 32]) := by
 obtain ⟨ch, cp⟩ := c
 change cp.length ≤ 1000000 at hc
 have cH := rHas L hL hl ch rt
 simp only at e ⊢
 rw [e] at cH
 refine h46.ca ?_
 refine vq3 @comG.eq_1 @v33 @v32 ?_
 refine cH.mono ?_
 rintro g O' ⟨rfl, rfl⟩
 refine vq0 ?_
 refine vcSLoop_by (ι := { k : Nat // k ≤ L.length ∧ idxC (L.drop k) ch + k = idxC L ch }) (fun k => ⟨[.ptr 0 rt 0 0, .any, .any, .ref (comG (ch, cp)), .int .i64 (k.1 : Nat)] ++ List.replicate 56 .any, rObj rt L⟩) (fun k => L.length - k.1) ?_ ?_
 · exact Into.first ⟨0, by omega, by simp⟩ ⟨[], by simp⟩ (by simp [WL, leG_self, leG_any, leG_int, comG])
 · rintro ⟨k, hk, he⟩;by_cases h' : k < L.length
   · have d0 : ((k : Int) < (L.length : Int)) = True := eq_true (by omega);have ea := csG_at L k h';rw [idxC_at L ch k h'] at he;obtain ⟨xh, xp, hx⟩ : ∃ xh xp, L.getD k default = (xh, xp) := ⟨_, _, rfl⟩
     rw [hx] at ea he;simp only at he
     have cL := hLessR xh.1 ch.1 xh.2 ch.2;cases el : ltB xh.1 ch.1 with
     | true =>
      rw [el, if_pos rfl] at he;rw [el] at cL;refine vq3 d0 ea zbCDg17 ?_;refine ⟨by omega, ?_⟩;refine cL.then ?_ (by rfl)
      refine vq0 ?_;exact Into.at ⟨k + 1, by omega, by omega⟩ (by show L.length - (k + 1) < L.length - k; omega) ⟨[], by simp⟩ (by simp [WL, leG_self, leG_any, leG_int, comG])
     | false =>
      rw [el, if_neg (by simp), Nat.zero_add] at he;rw [el] at cL;have tl : (List.take k L).length = k := by rw [List.length_take]; omega
      have tl3 : (List.drop k (List.take L.length L)).length = L.length - k := by rw [List.take_length, List.length_drop]
      refine vq3 d0 ea zbCDg17 ?_;refine ⟨by omega, ?_⟩;refine cL.then ?_ (by rfl)
      refine vq5 d0 ea tl tl3 zbCDg18 ?_;refine ⟨by omega, by omega, by omega, by omega, by omega, fun s1 => ⟨by omega, by omega, fun s2 => ⟨⟨[_], rfl⟩, by omega, by omega, fun s3 => ⟨by omega, by omega, by omega, ?_, ?_, fun s4 => ⟨s2, s4, ?_⟩⟩⟩⟩⟩
      · rw [List.length_append, csG_len, tl]; simp only [List.length_singleton]; omega
      · rw [List.length_append, csG_len, tl]; simp only [List.length_singleton]; omega
      · rw [List.take_length, he]
   · have d0 : ((k : Int) < (L.length : Int)) = False := eq_false (by omega);have he : k = idxC L ch := by
      rw [List.drop_of_length_le (by omega)] at he
      rw [← he]; simp [idxC]
     have tl : (List.take k L).length = k := by rw [List.length_take]; omega
     have tl3 : (List.drop k (List.take L.length L)).length = L.length - k := by rw [List.take_length, List.length_drop]
     refine vq4 d0 tl tl3 zbCDg18 ?_;refine ⟨by omega, by omega, by omega, by omega, by omega, fun s1 => ⟨by omega, by omega, fun s2 => ⟨⟨[_], rfl⟩, by omega, by omega, fun s3 => ⟨by omega, by omega, by omega, ?_, ?_, fun s4 => ⟨s2, s4, ?_⟩⟩⟩⟩⟩
     · rw [List.length_append, csG_len, tl]; simp only [List.length_singleton]; omega
     · rw [List.length_append, csG_len, tl]; simp only [List.length_singleton]; omega
     · rw [List.take_length, he]
theorem GLes_com (h : Hs) (l : List Hs) (t : Tag) : GLes (bytesG h.1 ++ [.slice (hsG l) t]) (comG (h, l)) := GLes.app (GLes.refl _) ⟨GLe.none, trivial⟩
theorem rPut1 (L : GM) (hL : SSC L) (hl : L.length ≤ 1000000) (c : Cm) (hc : c.2.length ≤ 1000000) (rt : Nat) (e : (look L c.1).isSome = false) : GCalls Try.prog 46 [.ptr 0 rt 0 0, .agg (comG c)] (rObj rt L) (fun g O' => g = .tuple [] ∧ O' = rObj rt (putC L c)) := by
 refine GCalls.frame (rPutRaw L hL hl c hc rt e) [0] ⟨⟨_, rfl, .refl _⟩, trivial⟩ (by simp) (GLes.refl _) rfl rfl ?_
 rintro g O' ⟨u, v, rfl, rfl⟩
 refine ⟨_, rObj rt (putC L c), [(false, 0)], ⟨rfl, rfl⟩, GLe.refl _, ⟨⟨_, rfl, OLe.row ⟨⟨GLe.trans GLe.none (GLe.slice ?_), trivial⟩, trivial⟩⟩, trivial⟩, by simp, rfl⟩
 unfold putC
 rw [if_neg (by rw [e]; simp), csG_app, csG_app]
 exact GLess.app (GLess.app (GLess.refl _) ⟨GLes_com _ _ _, trivial⟩) (GLess.refl _)
theorem rPut (L : GM) (hL : SSC L) (hl : L.length ≤ 1000000) (c : Cm) (hc : c.2.length ≤ 1000000) (rt : Nat) : GCalls Try.prog 46 [.ptr 0 rt 0 0, .agg (comG c)] (rObj rt L) (fun g O' => g = .tuple [] ∧ O' = rObj rt (putC L c)) := by
 cases e : (look L c.1).isSome with
 | true =>
  have := rPut0 L hL hl c hc rt e;unfold putC;rw [if_pos e];exact this
 | false => exact rPut1 L hL hl c hc rt e
end Gv.Try
namespace Gv
open Go
section
variable {st : GSt} {N : GSt → Prop}
theorem Into.cellRow (i c rsz : Nat) {t sz : Nat} {cs : List GVal} {tg : Tag} (hO : st.o[i]? = some (.row t sz [cs])) (hc : cs[c]? = some (.slice [] tg)) (htg : tg.cap = .full) (hcl : cs.length = sz)
 (h : stamp st.o fun u => Into ⟨st.s, ((tickO st.o) ++ [GObj.row u rsz []]).set i (.row t sz [cs.set c (.own st.o.length u 0 0)])⟩ N) : Into st N := by
 intro E a w hs ha
 obtain ⟨u, hk, ht, hnx, hs, hkeep⟩ := hs.stamp h
 rw [← tickO_len st.o] at hk
 obtain ⟨h1, h2⟩ := hs.objNil (.row u rsz []) (l := ⟨none, 0, rsz, 0⟩) ht hnx rfl ⟨_, Env.addLoc_self _ _ _, rfl, by simp, rfl⟩ (by simp [GObj.blk, Env.addLoc_self])
 have hO' : (tickO st.o ++ [GObj.row u rsz []])[i]? = some (.row t sz [cs]) := by
  have := tickO_get hO rfl;rw [List.getElem?_append_left (List.getElem?_eq_some_iff.1 this).1]; exact this
 obtain ⟨h3, h4⟩ := h1.cells hO' (ys := [cs.set c (.own (tickO st.o).length u 0 0)]) rfl (by simp [hcl]) (fun j g' hj => by
  simp only [List.flatten_cons, List.flatten_nil, List.append_nil] at hj ⊢;rw [List.getElem?_set] at hj;by_cases e : c = j
  · subst e;rw [if_pos rfl] at hj;split at hj
    · simp only [Option.some.injEq] at hj;subst hj;refine ⟨_, hc, fun v hv => ?_⟩;cases hv with
      | slice a len cap xs tag sz c hlen hcap hsz ha hc htag =>
       have htag := htag.cap hcap;rw [htg] at htag;have h0 : len = 0 := by simpa using hlen
       have h1 : cap = 0 := by rw [← h0]; exact htag
       subst h0;exact .own a 0 cap _ u 0 _ (Env.addLoc_self _ _ _) (Nat.zero_le _) (.inl h1)
    · cases hj
  · rw [if_neg e] at hj;exact ⟨g', hj, fun v hv => hv⟩)
 obtain ⟨st', E', q1, q2, q3, q4⟩ := hk _ a w h3 (ha.mono h2.ext)
 exact ⟨st', E', q1, q2, ((hkeep.trans h2).trans h4).trans q3, q4⟩
end
theorem setO_6 (a b c d e f g x : GObj) (r : List GObj) : (a :: b :: c :: d :: e :: f :: g :: r).set 6 x = a :: b :: c :: d :: e :: f :: x :: r := rfl
theorem setO_7 (a b c d e f g h x : GObj) (r : List GObj) : (a :: b :: c :: d :: e :: f :: g :: h :: r).set 7 x = a :: b :: c :: d :: e :: f :: g :: x :: r := rfl
theorem setO_8 (a b c d e f g h i x : GObj) (r : List GObj) : (a :: b :: c :: d :: e :: f :: g :: h :: i :: r).set 8 x = a :: b :: c :: d :: e :: f :: g :: h :: x :: r := rfl
theorem GCalls.tail {P : Program} {f : FuncId} {args : List GVal} {X : List GObj} {K : GVal → List GObj → Prop} (h : GCalls P f args X K) (hK : ∀ g O', K g O' → clockOf O' = none ∧ O' ≠ []) (hc : clockOf X = none) (hX : X ≠ []) (Y : List GObj) :
 GCalls P f args (X ++ Y) (fun g O'' => ∃ O', K g O' ∧ O'' = O' ++ Y) := by
 have hcl : ∀ A : List GObj, clockOf A = none → A ≠ [] → clockOf (A ++ Y) = none := fun A h1 h2 => by
  cases A with
  | nil => exact absurd rfl h2
  | cons a r => cases a <;> first | rfl | cases h1
 refine GCalls.frame h (List.range X.length) ?_ List.nodup_range (GLes.refl _) hc (hcl X hc hX) ?_
 · have : ∀ (A B : List GObj), Fits (A ++ B ++ Y) ((List.range B.length).map (· + A.length)) B := by
    intro A B;induction B generalizing A with
    | nil => trivial
    | cons b r ih =>
     rw [List.length_cons, List.range_succ_eq_map, List.map_cons, List.map_map];refine ⟨⟨b, by simp, .refl _⟩, ?_⟩;have := ih (A ++ [b]);simp only [List.length_append, List.length_singleton, List.append_assoc, List.singleton_append] at this ⊢;have e : ((fun x => x + A.length) ∘ Nat.succ) = (fun x => x + (A.length + 1)) := by funext x; simp; omega
     rw [e]; exact this
   have := this [] X
   simpa using this
 · intro g O' hk;obtain ⟨h1, h2⟩ := hK g O' hk;refine ⟨g, O' ++ Y, (List.range O'.length).map (fun k => (false, k)) ++ (List.range Y.length).map (fun k => (true, k + X.length)), ⟨O', hk, rfl⟩, GLe.refl g, Comes.of (by simp) fun k z x hz hx => ?_, ?_, hcl O' h1 h2⟩
   · by_cases hlt : k < O'.length
     · rw [List.getElem?_append_left hlt] at hz;rw [List.getElem?_append_left (by simpa using hlt)] at hx;simp only [List.getElem?_map, List.getElem?_range hlt, Option.map_some, Option.some.injEq] at hx;subst hx;exact ⟨z, hz, .refl _⟩
     · rw [List.getElem?_append_right (by omega)] at hz;rw [List.getElem?_append_right (by simpa using hlt)] at hx;have hk2 : k - O'.length < Y.length := (List.getElem?_eq_some_iff.1 hz).1;simp only [List.length_map, List.length_range, List.getElem?_map, List.getElem?_range hk2, Option.map_some, Option.some.injEq] at hx;subst hx;refine ⟨by simp, z, ?_, .refl _⟩;rw [List.getElem?_append_right (by omega), Nat.add_sub_cancel]; exact hz
   · rw [List.nodup_append];refine ⟨?_, ?_, ?_⟩
     · rw [List.nodup_iff_pairwise_ne, List.pairwise_map];exact List.Pairwise.imp (fun {a b} hab => by simp; omega) (List.pairwise_lt_range (n := O'.length))
     · rw [List.nodup_iff_pairwise_ne, List.pairwise_map];exact List.Pairwise.imp (fun {a b} hab => by simp; omega) (List.pairwise_lt_range (n := Y.length))
     · intro a ha b hb;obtain ⟨i, _, rfl⟩ := List.mem_map.1 ha;obtain ⟨j, _, rfl⟩ := List.mem_map.1 hb;simp
end Gv
namespace Gv.Try
open Go Gv Go.Proofs
theorem gParK (m : GM) (h : Hs) (st s : Nat) (hl : (parsM m h).length ≤ 4398046511104) (X : List GObj) : GCalls Try.prog 68 [.ptr 0 st 0 0, .agg (bytesG h.1)] (.row st 1 [[.map 1 s]] :: .map s (kvG encL m) :: X) (fun g O' => g = .tuple [.slice (hsG (parsM m h)) .none, .bool (look m h).isSome] ∧ O' = .row st 1 [[.map 1 s]] :: .map s (kvG encL m) :: X) :=
 GCalls.keep2 (gParents m h st s hl) rfl X
theorem take_csG (K Z : List Cm) : List.take K.length (csG (K ++ Z)) = csG K := by rw [csG_app]; exact List.take_left' (csG_len K)
inductive DoneG : GVal → (Hs → Bool) → Prop
 | nil : DoneG (.lit .nilFunc) (fun _ => false)
 | fn (F : FuncId) (caps : List GVal) (dn : Hs → Bool) : (∀ h : Hs, GPure Try.prog F (.agg (bytesG h.1) :: caps) (.bool (dn h))) → DoneG (.func (.func F) [] caps) dn
def pushed (m : GM) (dn : Hs → Bool) (S : List Hs) (h : Hs) : Bool := (look m h).isSome && !(decide (h ∈ S)) && !(dn h)
theorem ss_nodup {a : List Hs} (h : SS a) : a.Nodup := h.imp fun {x y} q e => by rw [e] at q; exact LT.irrefl _ q
abbrev WSt := List Hs × List Hs
inductive VisL (m : GM) (dn : Hs → Bool) : List Hs → WSt → WSt → Prop
 | nil (so : WSt) : VisL m dn [] so so
 | skip (p : Hs) (r : List Hs) (so T : WSt) : pushed m dn so.1 p = false → VisL m dn r so T → VisL m dn (p :: r) so T
 | go (p : Hs) (r : List Hs) (so so1 T : WSt) : pushed m dn so.1 p = true → VisL m dn (parsM m p) (so.1 ++ [p], so.2) so1 → VisL m dn r (so1.1, so1.2 ++ [p]) T → VisL m dn (p :: r) so T
theorem VisL.inv_skip {m : GM} {dn : Hs → Bool} {p : Hs} {r : List Hs} {so T : WSt} (h : VisL m dn (p :: r) so T) (hp : pushed m dn so.1 p = false) : VisL m dn r so T := by
 cases h with
 | skip _ _ _ _ _ h => exact h
 | go _ _ _ _ _ h1 => rw [h1] at hp; cases hp
theorem VisL.inv_go {m : GM} {dn : Hs → Bool} {p : Hs} {r : List Hs} {so T : WSt} (h : VisL m dn (p :: r) so T) (hp : pushed m dn so.1 p = true) : ∃ so1, VisL m dn (parsM m p) (so.1 ++ [p], so.2) so1 ∧ VisL m dn r (so1.1, so1.2 ++ [p]) T := by
 cases h with
 | skip _ _ _ _ h1 => rw [h1] at hp; cases hp
 | go _ _ _ so1 _ _ h2 h3 => exact ⟨so1, h2, h3⟩
theorem VisL.inv_nil {m : GM} {dn : Hs → Bool} {so T : WSt} (h : VisL m dn [] so T) : T = so := by cases h; rfl
def FinS (m : GM) (dn : Hs → Bool) : List Cm → WSt → WSt → Prop
 | [], so, T => T = so
 | (x, ps) :: r, so, T => ∃ so1, VisL m dn ps so so1 ∧ FinS m dn r (so1.1, so1.2 ++ [x]) T
structure SInv (m : GM) (S out : List Hs) (n : Nat) : Prop where
 nodup : S.Nodup
 keys : ∀ x ∈ S, (look m x).isSome = true
 len : out.length + n ≤ S.length
theorem look_key {α : Type} {m : List (Hs × α)} {x : Hs} (h : (look m x).isSome = true) : x ∈ m.map (·.1) := by
 induction m with
 | nil => cases h
 | cons p r ih =>
  rw [look] at h;by_cases e : x = p.1
  · simp [e]
  · rw [if_neg e] at h; simp [ih h]
theorem SInv.le {m : GM} {S out : List Hs} {n : Nat} (h : SInv m S out n) : S.length ≤ m.length := by
 have := nodup_lenH S (m.map (·.1)) h.nodup fun x hx => look_key (h.keys x hx)
 simpa using this
theorem pushed_iff {m : GM} {dn : Hs → Bool} {S : List Hs} {h : Hs} (hp : pushed m dn S h = true) : (look m h).isSome = true ∧ h ∉ S ∧ dn h = false := by
 unfold pushed at hp
 simp only [Bool.and_eq_true, Bool.not_eq_true', decide_eq_false_iff_not] at hp
 exact ⟨hp.1.1, hp.1.2, hp.2⟩
theorem SInv.push {m : GM} {S out : List Hs} {n : Nat} (h : SInv m S out n) {dn : Hs → Bool} {x : Hs} (hp : pushed m dn S x = true) : SInv m (S ++ [x]) out (n + 1) := by
 obtain ⟨h1, h2, _⟩ := pushed_iff hp
 refine ⟨?_, fun y hy => ?_, by have := h.len; rw [List.length_append, List.length_singleton]; omega⟩
 · rw [List.nodup_append];exact ⟨h.nodup, by simp, fun a ha b hb => by rw [List.mem_singleton.1 hb]; exact fun e => h2 (e ▸ ha)⟩
 · rcases List.mem_append.1 hy with q | q
   · exact h.keys y q
   · rw [List.mem_singleton.1 q]; exact h1
def wMu (m : GM) (S : List Hs) (K : List Cm) : Nat := 6 * (m.length - S.length) + (K.map fun c => c.2.length + 1).sum
structure Good (m : GM) : Prop where
 ok : GOK m
 keys : (m.map (·.1)).Nodup
 closed : ∀ x y, y ∈ parsM m x → (look m y).isSome = true
 acyc : ∀ x, ¬ Reach (parsM m) (parsM m x) x
theorem Good.gm {m : GM} (h : Good m) : GMOK m := ⟨by have := h.ok.len; omega, h.ok.row⟩
theorem Reach.trans {nx : Hs → List Hs} {l l' : List Hs} {x : Hs} (h : Reach nx l' x) (hl : ∀ y ∈ l', Reach nx l y) : Reach nx l x := by
 induction h with
 | base x hx => exact hl x hx
 | step x y _ hy ih => exact .step x y ih hy
theorem Reach.sub {nx : Hs → List Hs} {l l' : List Hs} {x : Hs} (h : Reach nx l' x) (hl : ∀ y ∈ l', y ∈ l) : Reach nx l x := h.trans fun y hy => .base y (hl y hy)
theorem Reach.nil {nx : Hs → List Hs} {x : Hs} (h : Reach nx [] x) : False := by
 induction h with
 | base x hx => cases hx
 | step _ _ _ _ ih => exact ih
theorem pars_there {m : GM} {x y : Hs} (h : y ∈ parsM m x) : (look m x).isSome = true := by
 cases e : look m x with
 | some l => rfl
 | none => rw [parsM_none e] at h; cases h
theorem Reach.inM {m : GM} {l : List Hs} {x : Hs} (h : Reach (parsM m) l x) (hx : (look m x).isSome = true) : Reach (parsM m) (inM m l) x := by
 induction h with
 | base x h => exact .base x (List.mem_filter.2 ⟨h, hx⟩)
 | step x y _ hy ih => exact .step x y (ih (pars_there hy)) hy
theorem visL_ex (m : GM) (dn : Hs → Bool) : ∀ (n : Nat) (r S out : List Hs), S.Nodup → (∀ x ∈ S, (look m x).isSome = true) → m.length < S.length + n → ∃ T, VisL m dn r (S, out) T ∧ T.1.Nodup ∧ (∀ x ∈ T.1, (look m x).isSome = true) ∧ S.length ≤ T.1.length := by
 intro n
 induction n with
 | zero =>
  intro r S out h1 h2 h3;have := nodup_lenH S (m.map (·.1)) h1 fun x hx => look_key (h2 x hx)
  rw [List.length_map] at this;omega
 | succ n ihn =>
  intro r;induction r with
  | nil => exact fun S out h1 h2 h3 => ⟨_, .nil _, h1, h2, Nat.le_refl _⟩
  | cons p r ih =>
   intro S out h1 h2 h3;cases hp : pushed m dn S p with
   | false =>
    obtain ⟨T, a, b⟩ := ih S out h1 h2 h3;exact ⟨T, .skip p r (S, out) T hp a, b⟩
   | true =>
    obtain ⟨p1, p2, _⟩ := pushed_iff hp;obtain ⟨⟨S1, o1⟩, a1, a2, a3, a4⟩ := ihn (parsM m p) (S ++ [p]) out (by
     rw [List.nodup_append];exact ⟨h1, by simp, fun a ha b hb => by rw [List.mem_singleton.1 hb]; exact fun e => p2 (e ▸ ha)⟩) (fun x hx => by
     rcases List.mem_append.1 hx with q | q
     · exact h2 x q
     · rw [List.mem_singleton.1 q]; exact p1) (by rw [List.length_append, List.length_singleton]; omega)
    simp only [List.length_append, List.length_singleton] at a2 a3 a4;obtain ⟨T, b1, b2, b3, b4⟩ := ih S1 (o1 ++ [p]) a2 a3 (by omega);exact ⟨T, .go p r (S, out) (S1, o1) T hp a1 b1, b2, b3, by omega⟩
theorem vis_spec {m : GM} {dn : Hs → Bool} (hg : ∀ x, ¬ Reach (parsM m) (parsM m x) x) {r : List Hs} {so T : WSt} (h : VisL m dn r so T) :
 (∀ x ∈ so.2, x ∈ so.1) → (∀ k ∈ so.1, k ∉ so.2 → ∀ p ∈ r, Reach (parsM m) (parsM m k) p) →
 ∃ new, T.2 = so.2 ++ new ∧ (∀ x, x ∈ T.1 ↔ x ∈ so.1 ∨ x ∈ new) ∧ new.Nodup ∧ (∀ x ∈ new, x ∉ so.1 ∧ (look m x).isSome = true ∧ dn x = false ∧ Reach (parsM m) r x) ∧
  (∀ p ∈ r, (look m p).isSome = true → dn p = false → p ∈ T.2) ∧ (∀ i x, new[i]? = some x → ∀ y ∈ parsM m x, (look m y).isSome = true → dn y = false → y ∈ so.2 ++ new.take i) := by
 induction h with
 | nil so => exact fun _ _ => ⟨[], by simp, by simp, List.nodup_nil, by simp, by simp, by simp⟩
 | skip p r so T hp _ ih =>
  intro hS hK;obtain ⟨new, h1, h2, h3, h4, h5, h6⟩ := ih hS fun k hk hn q hq => hK k hk hn q (by simp [hq]);refine ⟨new, h1, h2, h3, fun x hx => ?_, fun q hq hl hd => ?_, h6⟩
  · obtain ⟨a, b, c, d⟩ := h4 x hx;exact ⟨a, b, c, d.sub fun y hy => by simp [hy]⟩
  · rcases List.mem_cons.1 hq with e | e
    · subst e;have hin : q ∈ so.1 := by
       unfold pushed at hp;rw [hl, hd] at hp
       simpa using hp
      by_cases ho : q ∈ so.2
      · rw [h1]; exact List.mem_append_left _ ho
      · exact absurd (hK q hin ho q (by simp)) (hg q)
    · exact h5 q e hl hd
 | go p r so so1 T hp _ _ ih1 ih2 =>
  intro hS hK;obtain ⟨p1, p2, p3⟩ := pushed_iff hp;obtain ⟨n1, a1, a2, a3, a4, a5, a6⟩ := ih1 (fun x hx => List.mem_append_left _ (hS x hx)) (fun k hk hn y hy => by
   rcases List.mem_append.1 hk with q | q
   · exact .step p y (hK k q hn p (by simp)) hy
   · rw [List.mem_singleton.1 q]; exact .base y hy)
  simp only at a1 a2 a4 a5 a6
  have hso1 : ∀ x ∈ so1.2 ++ [p], x ∈ so1.1 := fun x hx => by
   rw [a2];rw [a1] at hx;simp only [List.mem_append, List.mem_singleton] at hx ⊢;rcases hx with (q | q) | q
   · exact .inl (.inl (hS x q))
   · exact .inr q
   · exact .inl (.inr q)
  obtain ⟨n2, b1, b2, b3, b4, b5, b6⟩ := ih2 hso1 (fun k hk hn q hq => by
   simp only at hk hn
   rw [a2] at hk;rw [a1] at hn;simp only [List.mem_append, List.mem_singleton, not_or] at hk hn;rcases hk with (e | e) | e
   · exact hK k e hn.1.1 q (by simp [hq])
   · exact absurd e hn.2
   · exact absurd e hn.1.2)
  simp only at b1 b2 b4 b5 b6
  have e2 : T.2 = so.2 ++ (n1 ++ [p] ++ n2) := by rw [b1, a1]; simp
  refine ⟨n1 ++ [p] ++ n2, e2, fun x => ?_, ?_, fun x hx => ?_, fun q hq hl hd => ?_, fun i x hi y hy hl hd => ?_⟩
  · rw [b2, a2];simp only [List.mem_append, List.mem_singleton];constructor
    · rintro (((h | h) | h) | h)
      · exact .inl h
      · exact .inr (.inl (.inr h))
      · exact .inr (.inl (.inl h))
      · exact .inr (.inr h)
    · rintro (h | (h | h) | h)
      · exact .inl (.inl (.inl h))
      · exact .inl (.inr h)
      · exact .inl (.inl (.inr h))
      · exact .inr h
  · rw [List.nodup_append, List.nodup_append];refine ⟨⟨a3, by simp, fun a ha b hb e => ?_⟩, b3, fun a ha b hb e => ?_⟩
    · rw [List.mem_singleton.1 hb] at e;exact (a4 a ha).1 (by rw [e]; simp)
    · refine (b4 b hb).1 (hso1 b ?_)
      rw [← e, a1];simp only [List.mem_append, List.mem_singleton] at ha ⊢;exact ha.imp .inr id
  · rcases List.mem_append.1 hx with q | q
    · rcases List.mem_append.1 q with q | q
      · obtain ⟨c1, c2, c3, c4⟩ := a4 x q;exact ⟨fun e => c1 (List.mem_append_left _ e), c2, c3, c4.trans fun y hy => .step p y (.base p (by simp)) hy⟩
      · rw [List.mem_singleton.1 q]; exact ⟨p2, p1, p3, .base p (by simp)⟩
    · obtain ⟨c1, c2, c3, c4⟩ := b4 x q;exact ⟨fun e => c1 (by rw [a2]; simp [e]), c2, c3, c4.sub fun y hy => by simp [hy]⟩
  · rcases List.mem_cons.1 hq with e | e
    · rw [e2, e]; simp
    · exact b5 q e hl hd
  · have hin : ∀ z, (z ∈ so.2 ++ n1 ++ [p] ∨ z ∈ so.2 ++ n1 ++ [p] ++ n2.take (i - n1.length - 1)) → n1.length < i → z ∈ so.2 ++ (n1 ++ [p] ++ n2).take i := fun z hz hi => by
     have et : (n1 ++ [p] ++ n2).take i = n1 ++ [p] ++ n2.take (i - n1.length - 1) := by
      rw [List.take_append, List.take_of_length_le (by simp; omega)]
      congr 2
      simp; omega
     rw [et];rcases hz with q | q
     · simp only [List.mem_append, List.mem_singleton] at q ⊢;rcases q with (q | q) | q
       · exact .inl q
       · exact .inr (.inl (.inl q))
       · exact .inr (.inl (.inr q))
     · simp only [List.mem_append, List.mem_singleton] at q ⊢;rcases q with ((q | q) | q) | q
       · exact .inl q
       · exact .inr (.inl (.inl q))
       · exact .inr (.inl (.inr q))
       · exact .inr (.inr q)
    by_cases h1 : i < n1.length
    · have e1 : n1[i]? = some x := by rw [List.append_assoc, List.getElem?_append_left h1] at hi; exact hi
      have := a6 i x e1 y hy hl hd;have et : (n1 ++ [p] ++ n2).take i = n1.take i := by rw [List.append_assoc, List.take_append_of_le_length (by omega)]
      rw [et]; exact this
    · by_cases h2 : i = n1.length
      · subst h2;have e1 : x = p := by
         rw [List.append_assoc, List.getElem?_append_right (Nat.le_refl _), Nat.sub_self] at hi
         simpa using hi.symm
        subst e1;have := a5 y hy hl hd;rw [a1] at this;have et : (n1 ++ [x] ++ n2).take n1.length = n1 := by rw [List.append_assoc]; exact List.take_left
        rw [et]; exact this
      · have e1 : n2[i - n1.length - 1]? = some x := by
         rw [List.append_assoc, List.getElem?_append_right (by omega), List.singleton_append] at hi;obtain ⟨j, hj⟩ : ∃ j, i - n1.length = j + 1 := ⟨i - n1.length - 1, by omega⟩
         rw [hj] at hi ⊢
         simpa using hi
        have := b6 _ x e1 y hy hl hd;rw [a1] at this;exact hin y (.inr this) (by omega)
theorem vis_spec0 {m : GM} {dn : Hs → Bool} (hg : ∀ x, ¬ Reach (parsM m) (parsM m x) x) {hs : List Hs} {T : WSt} (h : VisL m dn hs ([], []) T) :
 (∀ x, x ∈ T.1 ↔ x ∈ T.2) ∧ T.2.Nodup ∧ (∀ x ∈ T.2, (look m x).isSome = true ∧ dn x = false ∧ Reach (parsM m) hs x) ∧
  (∀ p ∈ hs, (look m p).isSome = true → dn p = false → p ∈ T.2) ∧ (∀ i x, T.2[i]? = some x → ∀ y ∈ parsM m x, (look m y).isSome = true → dn y = false → y ∈ T.2.take i) := by
 obtain ⟨new, h1, h2, h3, h4, h5, h6⟩ := vis_spec hg h (by simp) (by simp)
 simp only [List.nil_append] at h1 h6
 subst h1
 refine ⟨fun x => by rw [h2]; simp, h3, fun x hx => ?_, h5, h6⟩
 obtain ⟨_, b, c, d⟩ := h4 x hx
 exact ⟨b, c, d⟩
theorem nodup_at {l : List Hs} (h : l.Nodup) {i j : Nat} {x : Hs} (hi : l[i]? = some x) (hj : l[j]? = some x) : i = j := by
 obtain ⟨a, ha⟩ := List.getElem?_eq_some_iff.1 hi
 obtain ⟨b, hb⟩ := List.getElem?_eq_some_iff.1 hj
 exact (List.getElem_inj h).1 (by rw [ha, hb])
theorem vis_app {m : GM} {dn : Hs → Bool} {a b : List Hs} : ∀ {so T : WSt}, VisL m dn (a ++ b) so T → ∃ T1, VisL m dn a so T1 ∧ VisL m dn b T1 T := by
 induction a with
 | nil => exact fun h => ⟨_, .nil _, h⟩
 | cons p r ih =>
  intro so T h;rw [List.cons_append] at h;cases hp : pushed m dn so.1 p with
  | false =>
   obtain ⟨T1, h1, h2⟩ := ih (h.inv_skip hp);exact ⟨T1, .skip p r so T1 hp h1, h2⟩
  | true =>
   obtain ⟨so1, h1, h2⟩ := h.inv_go hp;obtain ⟨T1, h3, h4⟩ := ih h2;exact ⟨T1, .go p r so so1 T1 hp h1 h3, h4⟩
theorem good_nil : Good [] := ⟨⟨by simp, by simp⟩, by simp, fun x y h => by simp [parsM, look] at h, fun x h => by
 rw [show parsM [] x = [] from rfl] at h; exact h.nil⟩
theorem mset_keys {α : Type} (m : List (Hs × α)) (h : Hs) (v : α) : (mset m h v).map (·.1) = if (look m h).isSome = true then m.map (·.1) else m.map (·.1) ++ [h] := by
 induction m with
 | nil => simp [mset, look]
 | cons p r ih =>
  rw [mset, look];by_cases e : h = p.1
  · rw [if_pos e, if_pos e]; simp [e]
  · rw [if_neg e, if_neg e, List.map_cons, ih];split <;> simp
theorem key_look {α : Type} {m : List (Hs × α)} {x : Hs} (h : x ∈ m.map (·.1)) : (look m x).isSome = true := by
 induction m with
 | nil => cases h
 | cons p r ih =>
  rw [look];by_cases e : x = p.1
  · rw [if_pos e]; rfl
  · rw [if_neg e];rw [List.map_cons] at h;rcases List.mem_cons.1 h with q | q
    · exact absurd q e
    · exact ih q
theorem join_spec : ∀ {cs : List Cm} {m M : GM}, joinP m cs = .ok M → (m.map (·.1)).Nodup → (M.map (·.1)).Nodup ∧ (∀ h l, look m h = some l → look M h = some l) ∧ (∀ c ∈ cs, look M c.1 = some c.2) ∧ (∀ h l, look M h = some l → look m h = some l ∨ (h, l) ∈ cs)
 | [], m, M, h, hk => by
  rw [joinP] at h; cases h;exact ⟨hk, fun _ _ h => h, by simp, fun _ _ h => .inl h⟩
 | c :: r, m, M, h, hk => by
  rw [joinP] at h;unfold joinE at h;cases el : look m c.1 with
  | some l =>
   simp only [el] at h;split at h
   · rename_i m' e;split at e
     · rename_i e2;cases e;obtain ⟨h1, h2, h3, h4⟩ := join_spec h hk;refine ⟨h1, h2, fun d hd => ?_, fun x l hx => (h4 x l hx).imp id fun q => List.mem_cons_of_mem _ q⟩;rcases List.mem_cons.1 hd with q | q
       · rw [q, h2 _ _ el, e2]
       · exact h3 d q
     · cases e
   · cases h
  | none =>
   simp only [el] at h;have hk' : ((mset m c.1 c.2).map (·.1)).Nodup := by
    rw [mset_keys, el];simp only [Option.isSome_none, Bool.false_eq_true, if_false];rw [List.nodup_append];refine ⟨hk, by simp, fun a ha b hb e => ?_⟩;rw [List.mem_singleton.1 hb] at e;have := key_look ha;rw [e, el] at this; cases this
   obtain ⟨h1, h2, h3, h4⟩ := join_spec h hk';refine ⟨h1, fun x l hx => h2 x l ?_, fun d hd => ?_, fun x l hx => ?_⟩
   · rw [look_mset, if_neg (fun e => by rw [e, el] at hx; cases hx)]; exact hx
   · rcases List.mem_cons.1 hd with q | q
     · rw [q]; exact h2 _ _ (by rw [look_mset, if_pos rfl])
     · exact h3 d q
   · rcases h4 x l hx with q | q
     · rw [look_mset] at q;split at q
       · rename_i e;cases q;exact .inr (by rw [e]; simp)
       · exact .inl q
     · exact .inr (List.mem_cons_of_mem _ q)
theorem joined_ok {gr : Int} {m M : GM} {cs : List Cm} {hs : List Hs} (h : joinedP gr m cs hs = .ok M) : sizesP gr hs.length cs = none ∧ joinP m cs = .ok M ∧ lackP M cs hs = none ∧ roundP m M cs = none ∧ M.length ≤ 1000 := by
 unfold joinedP at h
 split at h
 · cases h
 · rename_i e1;split at h
   · cases h
   · rename_i M' e2;split at h
     · cases h
     · rename_i e3;split at h
       · cases h
       · rename_i e4;split at h
         · cases h
         · cases h;exact ⟨e1, e2, e3, e4, by omega⟩
theorem lack_none {M : GM} {cs : List Cm} {hs : List Hs} (h : lackP M cs hs = none) : (∀ c ∈ cs, ∀ y ∈ c.2, (look M y).isSome = true) ∧ ∀ y ∈ hs, (look M y).isSome = true := by
 unfold lackP at h
 have hn : ∀ n y, nowhere M n y = none → (look M y).isSome = true := fun n y q => by
  unfold nowhere at q;split at q
  · rename_i e; rw [e]; rfl
  · cases q
 split at h
 · cases h
 · rename_i e;refine ⟨fun c hc y hy => ?_, fun y hy => hn 11 y (List.findSome?_eq_none_iff.1 h y hy)⟩;exact hn 10 y (List.findSome?_eq_none_iff.1 (List.findSome?_eq_none_iff.1 e c hc) y hy)
theorem joined_good {gr : Int} {m M : GM} {cs : List Cm} {hs : List Hs} (hm : Good m) (h : joinedP gr m cs hs = .ok M) : Good M := by
 obtain ⟨e1, e2, e3, e4, e5⟩ := joined_ok h
 obtain ⟨_, _, _, n4⟩ := sizesP_none e1
 obtain ⟨_, r2⟩ := joinP_ok e2 hm.ok.row fun c hc => (n4 c hc).1
 obtain ⟨k1, k2, k3, k4⟩ := join_spec e2 hm.keys
 obtain ⟨l1, _⟩ := lack_none e3
 refine ⟨⟨e5, r2⟩, k1, fun x y hy => ?_, fun x hx => ?_⟩
 · cases el : look M x with
   | none => rw [parsM_none el] at hy; cases hy
   | some l =>
    rw [parsM_some el] at hy;rcases k4 x l el with q | q
    · have := hm.closed x y (by rw [parsM_some q]; exact hy);obtain ⟨z, hz⟩ := Option.isSome_iff_exists.1 this;rw [k2 y z hz]; rfl
    · exact l1 _ q y hy
 · cases el : look M x with
   | none => rw [parsM_none el] at hx; exact hx.nil
   | some l =>
    rw [parsM_some el] at hx;cases eo : look m x with
    | some l' =>
     have e : l' = l := by
      have := k2 x l' eo;rw [el] at this; cases this; rfl
     subst e;have : ∀ z, Reach (parsM M) l' z → Reach (parsM m) l' z ∧ (look m z).isSome = true := fun z hz => by
      induction hz with
      | base z hz => exact ⟨.base z hz, hm.closed x z (by rw [parsM_some eo]; exact hz)⟩
      | step z y _ hy ih =>
       obtain ⟨lz, hlz⟩ := Option.isSome_iff_exists.1 ih.2;rw [parsM_some (k2 z lz hlz)] at hy;have hy' : y ∈ parsM m z := by rw [parsM_some hlz]; exact hy
       exact ⟨.step z y ih.1 hy', hm.closed z y hy'⟩
     exact hm.acyc x (by rw [parsM_some eo]; exact (this x hx).1)
    | none =>
     rcases k4 x l el with q | q
     · rw [eo] at q; cases q
     · unfold roundP at e4;have := List.findSome?_eq_none_iff.1 e4 _ q;unfold roundE at this;rw [eo] at this;simp only [Option.isSome_none, Bool.false_eq_true, if_false] at this;split at this
       · cases this
       · rename_i hn; exact hn hx
def Alike (m m' : GM) : Prop := ∀ h, look m h = look m' h
theorem Alike.pars {m m' : GM} (h : Alike m m') : parsM m = parsM m' := funext fun x => by unfold parsM; rw [h x]
theorem Alike.len {m m' : GM} (h : Alike m m') (k : (m.map (·.1)).Nodup) (k' : (m'.map (·.1)).Nodup) : m.length = m'.length := by
 have a := nodup_lenH _ (m'.map (·.1)) k fun x hx => look_key (by rw [← h x]; exact key_look hx)
 have b := nodup_lenH _ (m.map (·.1)) k' fun x hx => look_key (by rw [h x]; exact key_look hx)
 simp only [List.length_map] at a b
 omega
theorem Alike.symm {m m' : GM} (h : Alike m m') : Alike m' m := fun x => (h x).symm
theorem join_alike : ∀ {cs : List Cm} {m m' : GM}, Alike m m' → (∃ e, joinP m cs = .error e ∧ joinP m' cs = .error e) ∨ ∃ M M', joinP m cs = .ok M ∧ joinP m' cs = .ok M' ∧ Alike M M'
 | [], m, m', h => .inr ⟨m, m', rfl, rfl, h⟩
 | c :: r, m, m', h => by
  rw [joinP, joinP];unfold joinE
  rw [← h c.1];cases el : look m c.1 with
  | some l =>
   simp only
   by_cases e : l = c.2
   · rw [if_pos e, if_pos e]; exact join_alike h
   · rw [if_neg e, if_neg e]; exact .inl ⟨_, rfl, rfl⟩
  | none =>
   simp only
   exact join_alike fun x => by rw [look_mset, look_mset, h x]
theorem lack_alike {M M' : GM} (h : Alike M M') (cs : List Cm) (hs : List Hs) : lackP M cs hs = lackP M' cs hs := by
 have : nowhere M = nowhere M' := funext fun n => funext fun y => by unfold nowhere; rw [h y]
 unfold lackP; rw [this]
theorem round_alike {m m' M M' : GM} (h : Alike m m') (H : Alike M M') (cs : List Cm) : roundP m M cs = roundP m' M' cs := by
 have : roundE m M = roundE m' M' := funext fun c => by unfold roundE; rw [h c.1, H.pars]
 unfold roundP; rw [this]
theorem joined_alike {m m' : GM} (h : Alike m m') (k : (m.map (·.1)).Nodup) (k' : (m'.map (·.1)).Nodup) (gr : Int) (cs : List Cm) (hs : List Hs) :
 (∃ e, joinedP gr m cs hs = .error e ∧ joinedP gr m' cs hs = .error e) ∨ ∃ M M', joinedP gr m cs hs = .ok M ∧ joinedP gr m' cs hs = .ok M' ∧ Alike M M' := by
 unfold joinedP
 cases sizesP gr hs.length cs with
 | some e => exact .inl ⟨e, rfl, rfl⟩
 | none =>
  simp only
  rcases join_alike (cs := cs) h with ⟨⟨x, n⟩, e1, e2⟩ | ⟨M, M', e1, e2, H⟩
  · rw [e1, e2]; exact .inl ⟨_, rfl, rfl⟩
  · rw [e1, e2];simp only
    rw [lack_alike H];cases lackP M' cs hs with
    | some e => exact .inl ⟨e, rfl, rfl⟩
    | none =>
     simp only
     rw [round_alike h H];cases roundP m' M' cs with
     | some e => exact .inl ⟨e, rfl, rfl⟩
     | none =>
      simp only
      rw [H.len (join_spec e1 k).1 (join_spec e2 k').1];split
      · exact .inl ⟨_, rfl, rfl⟩
      · exact .inr ⟨M, M', rfl, rfl, H⟩
theorem GCalls.args {P : Program} {f : FuncId} {args args' : List GVal} {O : List GObj} {K : GVal → List GObj → Prop} (h : GCalls P f args O K) (ha : GLes args' args) : GCalls P f args' O K :=
 ⟨h.1, fun E w vs hs hv => h.2 E w vs hs ⟨by rw [hv.1, ha.len], fun k g hg => by
  obtain ⟨x, hx, hle⟩ := ha.at_ k g hg;exact hle _ _ (hv.2 k x hx)⟩⟩
def hq (a b c : UInt8) : Hs := ⟨a :: b :: c :: List.replicate 29 0, rfl⟩
def q1 : Hs := hq 1 0 0
theorem qE1 : ([.int .u8 1, .int .u8 0, .int .u8 0, .int .u8 0, .int .u8 0, .int .u8 0, .int .u8 0, .int .u8 0, .int .u8 0, .int .u8 0, .int .u8 0, .int .u8 0, .int .u8 0, .int .u8 0, .int .u8 0, .int .u8 0, .int .u8 0, .int .u8 0, .int .u8 0, .int .u8 0, .int .u8 0, .int .u8 0, .int .u8 0, .int .u8 0, .int .u8 0, .int .u8 0, .int .u8 0, .int .u8 0, .int .u8 0, .int .u8 0, .int .u8 0, .int .u8 0] : List GVal) = bytesG q1.1 := rfl
theorem qR1 (x : GVal) : ([.int .u8 1, .int .u8 0, .int .u8 0, .int .u8 0, .int .u8 0, .int .u8 0, .int .u8 0, .int .u8 0, .int .u8 0, .int .u8 0, .int .u8 0, .int .u8 0, .int .u8 0, .int .u8 0, .int .u8 0, .int .u8 0, .int .u8 0, .int .u8 0, .int .u8 0, .int .u8 0, .int .u8 0, .int .u8 0, .int .u8 0, .int .u8 0, .int .u8 0, .int .u8 0, .int .u8 0, .int .u8 0, .int .u8 0, .int .u8 0, .int .u8 0, .int .u8 0, x] : List GVal) = bytesG q1.1 ++ [x] := rfl
def q2 : Hs := hq 2 0 0
theorem qE2 : ([.int .u8 2, .int .u8 0, .int .u8 0, .int .u8 0, .int .u8 0, .int .u8 0, .int .u8 0, .int .u8 0, .int .u8 0, .int .u8 0, .int .u8 0, .int .u8 0, .int .u8 0, .int .u8 0, .int .u8 0, .int .u8 0, .int .u8 0, .int .u8 0, .int .u8 0, .int .u8 0, .int .u8 0, .int .u8 0, .int .u8 0, .int .u8 0, .int .u8 0, .int .u8 0, .int .u8 0, .int .u8 0, .int .u8 0, .int .u8 0, .int .u8 0, .int .u8 0] : List GVal) = bytesG q2.1 := rfl
theorem qR2 (x : GVal) : ([.int .u8 2, .int .u8 0, .int .u8 0, .int .u8 0, .int .u8 0, .int .u8 0, .int .u8 0, .int .u8 0, .int .u8 0, .int .u8 0, .int .u8 0, .int .u8 0, .int .u8 0, .int .u8 0, .int .u8 0, .int .u8 0, .int .u8 0, .int .u8 0, .int .u8 0, .int .u8 0, .int .u8 0, .int .u8 0, .int .u8 0, .int .u8 0, .int .u8 0, .int .u8 0, .int .u8 0, .int .u8 0, .int .u8 0, .int .u8 0, .int .u8 0, .int .u8 0, x] : List GVal) = bytesG q2.1 ++ [x] := rfl
def q3 : Hs := hq 3 0 0
theorem qE3 : ([.int .u8 3, .int .u8 0, .int .u8 0, .int .u8 0, .int .u8 0, .int .u8 0, .int .u8 0, .int .u8 0, .int .u8 0, .int .u8 0, .int .u8 0, .int .u8 0, .int .u8 0, .int .u8 0, .int .u8 0, .int .u8 0, .int .u8 0, .int .u8 0, .int .u8 0, .int .u8 0, .int .u8 0, .int .u8 0, .int .u8 0, .int .u8 0, .int .u8 0, .int .u8 0, .int .u8 0, .int .u8 0, .int .u8 0, .int .u8 0, .int .u8 0, .int .u8 0] : List GVal) = bytesG q3.1 := rfl
theorem qR3 (x : GVal) : ([.int .u8 3, .int .u8 0, .int .u8 0, .int .u8 0, .int .u8 0, .int .u8 0, .int .u8 0, .int .u8 0, .int .u8 0, .int .u8 0, .int .u8 0, .int .u8 0, .int .u8 0, .int .u8 0, .int .u8 0, .int .u8 0, .int .u8 0, .int .u8 0, .int .u8 0, .int .u8 0, .int .u8 0, .int .u8 0, .int .u8 0, .int .u8 0, .int .u8 0, .int .u8 0, .int .u8 0, .int .u8 0, .int .u8 0, .int .u8 0, .int .u8 0, .int .u8 0, x] : List GVal) = bytesG q3.1 ++ [x] := rfl
def q4 : Hs := hq 4 0 0
theorem reach_rank {M : GM} (rk : Hs → Nat) (hr : ∀ p ∈ M, ∀ y ∈ p.2, rk y < rk p.1) {l : List Hs} {n : Nat} (hl : ∀ x ∈ l, rk x < n) {x : Hs} (h : Reach (parsM M) l x) : rk x < n := by
 induction h with
 | base x hx => exact hl x hx
 | step x y _ hy ih =>
  obtain ⟨p, h1, h2, h3⟩ := parsM_mem hy;have := hr p h1 y h3;rw [h2] at this;omega
theorem roundP_rank {m M : GM} {cs : List Cm} (rk : Hs → Nat) (hr : ∀ p ∈ M, ∀ y ∈ p.2, rk y < rk p.1) (hc : ∀ c ∈ cs, ∀ y ∈ c.2, rk y < rk c.1) : roundP m M cs = none := by
 unfold roundP
 rw [List.findSome?_eq_none_iff]
 intro c hcm
 unfold roundE
 split
 · rfl
 · rw [if_neg];intro h;have := reach_rank rk hr (hc c hcm) h;omega
def rkQ (h : Hs) : Nat := (h.1.headD 0).toNat
theorem fourG : GOK ([] : GM) := ⟨by simp, by simp⟩
def hL (k : Nat) : Hs := hq (UInt8.ofNat (k / 256)) (UInt8.ofNat k) 1
def cL (k : Nat) : Cm := (hL k, if k = 0 then [] else [hL (k - 1)])
def insC : GM → Cm → GM
 | [], c => [c]
 | x :: r, c => if ltB x.1.1 c.1.1 = true then x :: insC r c else c :: x :: r
theorem ins_eq : ∀ (L : GM) (c : Cm), L.take (idxC L c.1) ++ [c] ++ L.drop (idxC L c.1) = insC L c
 | [], c => rfl
 | x :: r, c => by
  unfold idxC insC;by_cases e : ltB x.1.1 c.1.1 = true
  · rw [if_pos e, if_pos e, List.take_succ_cons, List.drop_succ_cons, ← ins_eq r c]; rfl
  · rw [if_neg e, if_neg e]; rfl
theorem insC_mem : ∀ (L : GM) (c z : Cm), z ∈ insC L c ↔ z ∈ L ∨ z = c
 | [], c, z => by simp [insC]
 | x :: r, c, z => by
  unfold insC;split
  · simp only [List.mem_cons, insC_mem r c z, or_assoc]
  · simp only [List.mem_cons];constructor
    · rintro (h | h)
      · exact .inr h
      · exact .inl h
    · rintro (h | h)
      · exact .inr h
      · exact .inl h
theorem insC_len : ∀ (L : GM) (c : Cm), (insC L c).length = L.length + 1
 | [], c => rfl
 | x :: r, c => by
  unfold insC; split
  · rw [List.length_cons, insC_len r c, List.length_cons]
  · rfl
theorem look_none_mem {α : Type} {m : List (Hs × α)} {h : Hs} (e : look m h = none) : ∀ x ∈ m, x.1 ≠ h := fun x hx q => by
 have := key_look (m := m) (x := h) (List.mem_map.2 ⟨x, hx, q⟩)
 rw [e] at this; cases this
theorem insC_ss : ∀ {L : GM} (c : Cm), SSC L → (∀ x ∈ L, x.1 ≠ c.1) → SSC (insC L c)
 | [], c, _, _ => by simp [insC, SSC]
 | x :: r, c, hs, hn => by
  unfold insC;obtain ⟨h1, h2⟩ := List.pairwise_cons.1 hs;split
  · rename_i e;refine List.pairwise_cons.2 ⟨fun z hz => ?_, insC_ss c h2 fun y hy => hn y (by simp [hy])⟩;rcases (insC_mem r c z).1 hz with q | rfl
    · exact h1 z q
    · exact e
  · rename_i e;have hx : LT c.1 x.1 := LT.total (by cases q : ltB x.1.1 c.1.1 with | true => exact absurd q e | false => rfl) (hn x (by simp));refine List.pairwise_cons.2 ⟨fun z hz => ?_, hs⟩;rcases List.mem_cons.1 hz with rfl | q
    · exact hx
    · exact hx.trans (h1 z q)
theorem look_ins : ∀ (L : GM) (c : Cm) (h : Hs), look L c.1 = none → look (insC L c) h = if h = c.1 then some c.2 else look L h
 | [], c, h, _ => rfl
 | x :: r, c, h, e => by
  rw [look] at e;by_cases q : c.1 = x.1
  · rw [if_pos q] at e; cases e
  · rw [if_neg q] at e;unfold insC;split
    · rw [look, look_ins r c h e, look];by_cases p : h = x.1
      · rw [if_pos p, if_neg (c := h = c.1) (fun w => q (w.symm.trans p)), if_pos p]
      · rw [if_neg p, if_neg p]
    · rw [look]
theorem putC_new {L : GM} {c : Cm} (e : look L c.1 = none) : putC L c = insC L c := by
 unfold putC
 rw [e, if_neg (by simp), ins_eq]
theorem putC_old {L : GM} {c : Cm} {l : List Hs} (e : look L c.1 = some l) : putC L c = L := by
 unfold putC
 rw [if_pos (by rw [e]; rfl)]
theorem putC_ss {L : GM} (c : Cm) (h : SSC L) : SSC (putC L c) := by
 cases e : look L c.1 with
 | none => rw [putC_new e]; exact insC_ss c h (look_none_mem e)
 | some l => rw [putC_old e]; exact h
theorem putC_len (L : GM) (c : Cm) : (putC L c).length ≤ L.length + 1 := by
 cases e : look L c.1 with
 | none => rw [putC_new e, insC_len]; exact Nat.le_refl _
 | some l => rw [putC_old e]; omega
theorem look_putC (L : GM) (c : Cm) (h : Hs) : look (putC L c) h = if (look L c.1).isSome = true then look L h else if h = c.1 then some c.2 else look L h := by
 cases e : look L c.1 with
 | none => rw [putC_new e, look_ins L c h e]; rfl
 | some l => rw [putC_old e]; rfl
theorem putC_row {L : GM} {c : Cm} {n : Nat} (h : ∀ p ∈ L, p.2.length ≤ n) (hc : c.2.length ≤ n) : ∀ p ∈ putC L c, p.2.length ≤ n := fun p hp => by
 cases e : look L c.1 with
 | none =>
  rw [putC_new e] at hp;rcases (insC_mem L c p).1 hp with q | rfl
  · exact h p q
  · exact hc
 | some l => rw [putC_old e] at hp; exact h p hp
def putsC (L : GM) (cs : List Cm) : GM := cs.foldl putC L
theorem putsC_snoc (L : GM) (cs : List Cm) (k : Nat) (h : k < cs.length) : putsC L (cs.take (k + 1)) = putC (putsC L (cs.take k)) (cs.getD k default) := by
 unfold putsC
 rw [takeC h, List.foldl_append]; rfl
theorem putsC_ss : ∀ (cs : List Cm) {L : GM}, SSC L → SSC (putsC L cs)
 | [], L, h => h
 | c :: r, L, h => putsC_ss r (putC_ss c h)
theorem putsC_len : ∀ (cs : List Cm) (L : GM), (putsC L cs).length ≤ L.length + cs.length
 | [], L => by simp [putsC]
 | c :: r, L => by
  have := putsC_len r (putC L c);have := putC_len L c;show (putsC (putC L c) r).length ≤ _;rw [List.length_cons]; omega
theorem putsC_row {n : Nat} : ∀ (cs : List Cm) {L : GM}, (∀ p ∈ L, p.2.length ≤ n) → (∀ c ∈ cs, c.2.length ≤ n) → ∀ p ∈ putsC L cs, p.2.length ≤ n
 | [], L, h, _ => h
 | c :: r, L, h, hc => putsC_row r (putC_row h (hc c (by simp))) fun x hx => hc x (by simp [hx])
theorem ssc_keys {L : GM} (h : SSC L) : (L.map (·.1)).Nodup := by
 rw [List.nodup_iff_pairwise_ne, List.pairwise_map]
 exact h.imp fun q e => by rw [e] at q; exact LT.irrefl _ q
theorem join_put {m M X : GM} {c : Cm} (h : Alike m X) (e : joinE m c = .ok M) : Alike M (putC X c) := by
 unfold joinE at e
 intro x
 rw [look_putC, ← h c.1, ← h x]
 cases el : look m c.1 with
 | some l =>
  simp only [el] at e;split at e
  · cases e; rfl
  · cases e
 | none =>
  simp only [el] at e;cases e;rw [look_mset]; rfl
theorem join_puts : ∀ {cs : List Cm} {m M X : GM}, Alike m X → joinP m cs = .ok M → Alike M (putsC X cs)
 | [], m, M, X, h, e => by rw [joinP] at e; cases e; exact h
 | c :: r, m, M, X, h, e => by
  rw [joinP] at e;split at e
  · rename_i m' e1;exact join_puts (cs := r) (join_put h e1) e
  · cases e
theorem sortR_len_le (l : List Hs) : (sortR l).length ≤ l.length :=
 nodup_lenH _ _ (ss_nodup (sortR_ss l)) fun x hx => (sortR_mem l x).1 hx
theorem twice_iff (l : List Hs) : twiceB l = true ↔ ¬ l.Nodup := by
 unfold twiceB
 rw [decide_eq_true_eq]
 constructor
 · intro h n;have := nodup_lenH l (sortR l) n fun x hx => (sortR_mem l x).2 hx
   omega
 · intro h;refine Nat.lt_of_not_le fun q => h ?_;have hs := ss_nodup (sortR_ss l);have hle := sortR_len_le l;have key : ∀ (a b : List Hs), a.Nodup → (∀ x ∈ a, x ∈ b) → b.length ≤ a.length → b.Nodup := by
    intro a;induction a with
    | nil => intro b _ _ hb; have : b = [] := List.length_eq_zero_iff.1 (by simpa using hb); rw [this]; exact List.nodup_nil
    | cons x r ih =>
     intro b hn hs hb;obtain ⟨h1, h2⟩ := List.nodup_cons.1 hn;obtain ⟨p, q, rfl⟩ := List.append_of_mem (hs x (by simp));have h3 : (p ++ q).Nodup := ih (p ++ q) h2 (fun y hy => by
      have := hs y (by simp [hy]);have hne : y ≠ x := fun e => h1 (e ▸ hy)
      simp at this ⊢;rcases this with t | t | t
      · exact .inl t
      · exact absurd t hne
      · exact .inr t) (by simp at hb ⊢; omega)
     have hx : x ∉ p ++ q := fun hm => by
      have hlen : (x :: r).length ≤ (p ++ q).length := nodup_lenH _ _ hn fun y hy => by
       have := hs y hy;simp at this hm ⊢;rcases this with t | t | t
       · exact .inl t
       · rw [t]; exact hm
       · exact .inr t
      simp at hlen hb;omega
     rw [List.nodup_append] at h3;rw [List.nodup_append, List.nodup_cons];simp at hx;refine ⟨h3.1, ⟨hx.2, h3.2.1⟩, fun a ha b hb => ?_⟩;rcases List.mem_cons.1 hb with e | e
     · rw [e]; exact fun w => hx.1 (w ▸ ha)
     · exact h3.2.2 a ha b e
   exact key (sortR l) l hs (fun x hx => (sortR_mem l x).1 hx) q
open Nat (reduceEqDiff reduceAdd reduceSub reduceLeDiff reduceMul reduceLT)
noncomputable def roundB (L : GM) (h : Hs) : Bool := by classical exact if Reach (parsM L) (parsM L h) h then true else false
theorem roundB_yes {L : GM} {h : Hs} (e : Reach (parsM L) (parsM L h) h) : roundB L h = true := by unfold roundB; exact if_pos e
theorem roundB_no {L : GM} {h : Hs} (e : ¬ Reach (parsM L) (parsM L h) h) : roundB L h = false := by unfold roundB; exact if_neg e
theorem hIn (l : List Hs) (t : Tag) (h : Hs) (hl : l.length ≤ 4398046511104) : GPure Try.prog 42 [.slice (hsG l) t, .agg (bytesG h.1)] (.bool (decide (h ∈ l))) := by
 refine h42.pa ?_
 refine vq1 @v32 ?_
 refine vcSLoop_by (ι := { k : Nat // k ≤ l.length ∧ h ∉ l.take k }) (fun k => ⟨[.slice (hsG l) t, .any, .any, .ref (bytesG h.1), .any, .int .i64 (k.1 : Nat)] ++ List.replicate 12 .any, []⟩) (fun k => l.length - k.1) ?_ ?_
 · exact Into.first ⟨0, by omega, by simp⟩ ⟨[], by simp⟩ (by simp [WL, leG_self, leG_any, leG_int])
 · rintro ⟨k, hk, he⟩;by_cases h' : k < l.length
   · have d0 : ((k : Int) < (l.length : Int)) = True := eq_true (by omega);have ea := hsG_at l k h';obtain ⟨x, ex⟩ : ∃ x, l.getD k h0 = x := ⟨_, rfl⟩
     rw [ex] at ea;have ht := takeH h';rw [ex] at ht;have ce := cellsEq_hs x h;by_cases e : x = h
     · rw [decide_eq_true e] at ce;have em : h ∈ l := List.mem_of_mem_take (i := k + 1) (by rw [ht, e]; simp);rw [decide_eq_true em];refine vq5 d0 ea @hsG_len ce @v32 ?_;omega
     · rw [decide_eq_false e] at ce;refine vq5 d0 ea @hsG_len ce @v32 ?_;refine ⟨by omega, ?_⟩;refine Into.at ⟨k + 1, by omega, ?_⟩ (by show l.length - (k + 1) < l.length - k; omega) ⟨[], by simp⟩ (by simp [WL, leG_self, leG_any, leG_int]);rw [ht];intro q;rcases List.mem_append.1 q with q | q
       · exact he q
       · exact e (List.mem_singleton.1 q).symm
   · have d0 : ((k : Int) < (l.length : Int)) = False := eq_false (by omega);rw [List.take_of_length_le (by omega)] at he;rw [decide_eq_false he];exact vd2 d0 @hsG_len
theorem GCalls.keep1' {P : Program} {f : FuncId} {args args' : List GVal} {x : GObj} {r : GVal} (h : GCalls P f args [x] (fun g O' => g = r ∧ O' = [x])) {O : List GObj} (i : Nat) (hO : O[i]? = some x) (ha : args.map (GVal.place i) = args') (hx : x.isClock = false) (hc : clockOf O = none) :
 GCalls P f args' O (fun g O' => g = r ∧ O' = O) := GCalls.keep1 (h.mono (by rintro g O' ⟨rfl, rfl⟩; exact ⟨x, rfl, rfl, rfl⟩)) i hO ha hx hc
def zbCFg19 := ai @toNat0 <| ai @Nat.sub_zero <| ai @hsG_len <| ai @all_hsG <| ai @take_hs <| ai @List.length_append.{0} <| ai @List.length_singleton.{0} <| ai @List.length_cons.{0} <| ai @List.length_nil.{0} <| ai @true_imp_iff <| @v32
def zbCFg20 := ai @toNat0 <| ai @Nat.sub_zero <| ai @hsG_len <| ai @all_hsG <| ai @take_hs <| ai @if32 <| ai @one32 <| ai @List.length_append.{0} <| ai @List.length_singleton.{0} <| ai @List.length_cons.{0} <| ai @List.length_nil.{0} <| @v32
theorem rRound (L : GM) (hL : SSC L) (hm : GMOK L) (h : Hs) (rt : Nat) : GCalls Try.prog 47 [.ptr 0 rt 0 0, .agg (bytesG h.1)] (rObj rt L) (fun g O' => g = .bool (roundB L h) ∧ O' = rObj rt L) := by
 have hll := hm.len
 have hhl := hm.hashes
 have cP := fun x => rParents L hL (by omega) x rt
 have hp0 := hm.pars h
 refine GCalls.dropTo ?_
 refine h47.ca ?_
 refine vq1 @v32 ?_
 refine (cP h).mono ?_
 rintro g O' ⟨rfl, rfl⟩
 refine vq2 @hsG_len @all_hsG ?_
 refine ⟨by omega, by omega, fun s1 => ?_⟩
 have mu1 : ∀ u s n : Nat, rMu u 4 s n < rMu u 4 s (n + 1) := fun u s n => by unfold rMu; omega
 have mu2 : ∀ u s n m : Nat, s < u → m ≤ 4 → rMu u 4 (s + 1) (n + m) < rMu u 4 s (n + 1) := fun u s n m h1 h2 => by
  unfold rMu; omega
 obtain ⟨U, hU⟩ : ∃ U, parsM L h ++ hashesM L = U := ⟨_, rfl⟩
 have hUl : U.length ≤ 50004 := by rw [← hU, List.length_append]; omega
 have hU1 : ∀ x ∈ parsM L h, x ∈ U := fun x hx => by rw [← hU]; exact List.mem_append_left _ hx
 have hU2 : ∀ x y, y ∈ parsM L x → y ∈ U := fun x y hy => by rw [← hU]; exact List.mem_append_right _ (pars_in hy)
 refine vcSLoop_by (ι := { p : (List Hs × List Hs) × Nat // (RInv (parsM L) U (parsM L h) p.1.1 p.1.2 ∧ h ∉ p.1.1) ∧ p.1.2.length ≤ 4 + 4 * p.1.1.length }) (fun p => ⟨[.ptr 0 rt 0 0, .any, .any, .ref (bytesG h.1), .any, .slice (hsG p.1.1.1) (.tok 1 p.1.2), .slice (hsG p.1.1.2) .none] ++ List.replicate 37 .any, rObj rt L ++ [.tok p.1.2 32]⟩) (fun p => rMu U.length 4 p.1.1.1.length p.1.1.2.length) ?_ ?_
 · refine Into.slot 6 _ (.slice (hsG (parsM L h)) .none) rfl (fun E v q => GLe.none E v q) ?_;refine Into.drop (O := rObj rt L) (X := [.tok s1 32]) rfl ?_;refine Into.tok 5 32 [] rfl rfl ?_;refine vq0 ?_;intro ss;exact Into.first ⟨(([], parsM L h), ss), ⟨⟨List.nodup_nil, fun x hx => hU1 x (by simpa using hx), fun x hx => .inr hx, fun x hx => by simp at hx, fun x hx => .base x (by simpa using hx)⟩, by simp⟩, by show (parsM L h).length ≤ 4 + 4 * 0; omega⟩ ⟨[], by simp⟩ (by simp [WL, leG_self, leG_any, hsG])
 · rintro ⟨⟨⟨S, todo⟩, v⟩, ⟨inv, hnS⟩, hlen⟩
   change RInv (parsM L) U (parsM L h) S todo at inv
   have hnS : h ∉ S := hnS
   change todo.length ≤ 4 + 4 * S.length at hlen
   have hSl := inv.len;rcases List.eq_nil_or_concat todo with rfl | ⟨tt, x, e⟩
   · have hn : ¬ Reach (parsM L) (parsM L h) h := fun q => hnS ((inv.fin h).2 q)
     rw [roundB_no hn];refine vq6 @hsG_len @Int.lt_irrefl @false_imp_iff @true_and @List.length_nil.{0} @Int.natCast_zero ?_;exact ⟨_, rObj rt L, [.tok v 32], rfl, leA_refl _, rfl, rfl⟩
   · rw [List.concat_eq_append] at e;subst e;have d0 : ((0 : Int) < (tt.length : Int) + 1) = True := eq_true (by omega);have htl : tt.length + 1 ≤ 4 + 4 * S.length := by rw [List.length_append, List.length_singleton] at hlen; exact hlen
     have d1 : norm .i64 ((tt.length : Int) + 1 - 1) = (tt.length : Int) := by rw [norm_i64 (by omega)]; omega
     have d2 : ((tt.length : Int)).toNat = tt.length := by omega
     have eS : (hsG (tt ++ [x])).getD tt.length [] = bytesG x.1 := by
      rw [hsG_at _ _ (by simp)];simp [List.getD]
     have eT : List.take tt.length (tt ++ [x]) = tt := List.take_left;have ce := cellsEq_hs x h;by_cases ex : x = h
     · rw [decide_eq_true ex] at ce;have hy : Reach (parsM L) (parsM L h) h := by
        have := inv.sound x (.inr (by simp));rw [ex] at this; exact this
       rw [roundB_yes hy];refine vq7 d0 d1 d2 eS eT ce zbCFg19 ?_;exact ⟨by omega, by omega, fun st => ⟨by omega, by omega, by omega, _, rObj rt L, [.tok v 32, .row st 32 [bytesG x.1]], rfl, leA_refl _, rfl, rfl⟩⟩
     · rw [decide_eq_false ex] at ce;have cI := hIn S (.tok 1 v) x (by omega);by_cases hx : x ∈ S
       · rw [decide_eq_true hx] at cI;refine vq7 d0 d1 d2 eS eT ce zbCFg19 ?_;refine ⟨by omega, by omega, fun st => ⟨by omega, by omega, by omega, ?_⟩⟩;refine cI.then ?_ (by rfl)
         refine vq1 (ai @toNat0 <| ai @Nat.sub_zero <| ai @hsG_len <| ai d0 <| ai d1 <| ai d2 <| ai eS <| ai eT <| ai @all_hsG <| ai @take_hs <| ai ce <| @v32) ?_;exact Into.at ⟨((S, tt), v), ⟨inv.skip hx, hnS⟩, by show tt.length ≤ 4 + 4 * S.length; omega⟩ (mu1 _ _ _) ⟨[.row st 32 [bytesG x.1]], by simp⟩ (by simp [WL, leG_self, leG_any])
       · rw [decide_eq_false hx] at cI;have hkx := hm.pars x;have hgo := inv.go hx (fun y hy => hU2 x y hy);have hgl := hgo.len;rw [List.length_append, List.length_singleton] at hgl;refine vq7 d0 d1 d2 eS eT ce zbCFg19 ?_;refine ⟨by omega, by omega, fun st => ⟨by omega, by omega, by omega, ?_⟩⟩;refine cI.then ?_ (by rfl)
         refine vq1 zbCFg20 ?_;refine ⟨by omega, by omega, fun s2 => ⟨by omega, by omega, fun s3 => ⟨⟨[_], rfl⟩, ?_⟩⟩⟩;refine (GCalls.keep1' (cP x) (O := [.row rt 1 [[.slice (csG L) .none]], .tok s2 32, .row st 32 [bytesG x.1], .tok s3 32]) 0 rfl rfl rfl rfl).mono ?_;rintro g O' ⟨rfl, rfl⟩;refine vq1 zbCFg20 ?_;refine ⟨by omega, by omega, fun s4 => ?_⟩;refine Into.at ⟨((S ++ [x], tt ++ parsM L x), s2), ⟨hgo, fun q => ?_⟩, ?_⟩ ?_ ⟨[.row st 32 [bytesG x.1], .tok s4 32], by simp⟩ (by simp [WL, leG_self, leG_any, leG_none, hsG_app, hsG])
         · rcases List.mem_append.1 q with q | q
           · exact hnS q
           · exact ex (List.mem_singleton.1 q).symm
         · show (tt ++ parsM L x).length ≤ 4 + 4 * (S ++ [x]).length;rw [List.length_append, List.length_append, List.length_singleton]; omega
         · show rMu _ 4 (S ++ [x]).length (tt ++ parsM L x).length < rMu _ 4 S.length (tt.length + 1);rw [List.length_append, List.length_append, List.length_singleton];exact mu2 _ _ _ _ (by omega) hkx
inductive VisD (m : GM) (dn : Hs → Bool) : Nat → List Hs → List Hs → List Hs → Prop
 | nil (d : Nat) (o : List Hs) : VisD m dn d [] o o
 | skip (d : Nat) (p : Hs) (r o o' : List Hs) : (p ∈ o ∨ dn p = true) → VisD m dn d r o o' → VisD m dn d (p :: r) o o'
 | go (d : Nat) (p : Hs) (r o o1 o' : List Hs) : p ∉ o → dn p = false → VisD m dn d (parsM m p) o o1 → VisD m dn (d + 1) r (o1 ++ [p]) o' → VisD m dn (d + 1) (p :: r) o o'
theorem VisD.mono {m : GM} {dn : Hs → Bool} {d : Nat} {r o o' : List Hs} (h : VisD m dn d r o o') : ∀ {e : Nat}, d ≤ e → VisD m dn e r o o' := by
 induction h with
 | nil d o => exact fun _ => .nil _ _
 | skip d p r o o' h _ ih => exact fun he => .skip _ p r o o' h (ih he)
 | go d p r o o1 o' h1 h2 _ _ ih1 ih2 =>
  intro e he
  match e, he with
  | e + 1, he => exact .go e p r o o1 o' h1 h2 (ih1 (by omega)) (ih2 he)
theorem VisD.len {m : GM} {dn : Hs → Bool} {d : Nat} {r o o' : List Hs} (h : VisD m dn d r o o') : o.length ≤ o'.length := by
 induction h with
 | nil => exact Nat.le_refl _
 | skip _ _ _ _ _ _ _ ih => exact ih
 | go d p r o o1 o' _ _ _ _ ih1 ih2 => rw [List.length_append, List.length_singleton] at ih2; omega
theorem VisD.inv_nil {m : GM} {dn : Hs → Bool} {d : Nat} {o o' : List Hs} (h : VisD m dn d [] o o') : o' = o := by cases h; rfl
theorem VisD.cons {m : GM} {dn : Hs → Bool} {d : Nat} {p : Hs} {r o o' : List Hs} (h : VisD m dn d (p :: r) o o') : ∃ o1, VisD m dn d [p] o o1 ∧ VisD m dn d r o1 o' := by
 cases h with
 | skip _ _ _ _ _ h1 h2 => exact ⟨o, .skip _ _ _ _ _ h1 (.nil _ _), h2⟩
 | go d _ _ _ o1 _ h1 h2 h3 h4 => exact ⟨o1 ++ [p], .go _ _ _ _ o1 _ h1 h2 h3 (.nil _ _), h4⟩
theorem vis_d {m : GM} (hm : Good m) {dn : Hs → Bool} {r : List Hs} {so T : WSt} (h : VisL m dn r so T) : (∀ x ∈ so.2, x ∈ so.1) → (∀ k ∈ so.1, k ∉ so.2 → ∀ p ∈ r, Reach (parsM m) (parsM m k) p) → (∀ p ∈ r, (look m p).isSome = true) → ∃ d, VisD m dn d r so.2 T.2 := by
 induction h with
 | nil so => exact fun _ _ _ => ⟨0, .nil _ _⟩
 | skip p r so T hp _ ih =>
  intro hS hK hr;obtain ⟨d, hd⟩ := ih hS (fun k hk hn q hq => hK k hk hn q (by simp [hq])) (fun q hq => hr q (by simp [hq]));refine ⟨d, .skip d p r _ _ ?_ hd⟩;have hl := hr p (by simp);cases hb : dn p with
  | true => exact .inr rfl
  | false =>
   left;have hin : p ∈ so.1 := by
    unfold pushed at hp;rw [hl, hb] at hp
    simpa using hp
   exact Classical.byContradiction fun ho => hm.acyc p (hK p hin ho p (by simp))
 | go p r so so1 T hp h1 h2 ih1 ih2 =>
  intro hS hK hr;obtain ⟨p1, p2, p3⟩ := pushed_iff hp;have hK1 : ∀ k ∈ so.1 ++ [p], k ∉ so.2 → ∀ y ∈ parsM m p, Reach (parsM m) (parsM m k) y := fun k hk hn y hy => by
   rcases List.mem_append.1 hk with q | q
   · exact .step p y (hK k q hn p (by simp)) hy
   · rw [List.mem_singleton.1 q]; exact .base y hy
  have hS1 : ∀ x ∈ so.2, x ∈ so.1 ++ [p] := fun x hx => List.mem_append_left _ (hS x hx)
  obtain ⟨d1, hd1⟩ := ih1 hS1 hK1 (fun y hy => hm.closed p y hy);obtain ⟨n1, a1, a2, _⟩ := vis_spec hm.acyc h1 hS1 hK1;simp only at a1 a2
  obtain ⟨d2, hd2⟩ := ih2 (fun x hx => by
   rw [a2];simp only [a1, List.mem_append, List.mem_singleton] at hx ⊢;rcases hx with (q | q) | q
   · exact .inl (.inl (hS x q))
   · exact .inr q
   · exact .inl (.inr q)) (fun k hk hn q hq => by
   simp only [a1, a2, List.mem_append, List.mem_singleton, not_or] at hk hn;rcases hk with (e | e) | e
   · exact hK k e hn.1.1 q (by simp [hq])
   · exact absurd e hn.2
   · exact absurd e hn.1.2) (fun q hq => hr q (by simp [hq]))
  exact ⟨max d1 d2 + 1, .go _ p r _ so1.2 _ (fun q => p2 (hS p q)) p3 (hd1.mono (by omega)) (hd2.mono (by omega))⟩
end Gv.Try
