/- Contracts: graph's reached: all that next steps lead to. -/
import Derived.Test.YtnenmmdpclglhaaGreatDoorP8
import Derived.Test.YtnenmmdpclglhaaGreatDoorP6
import Derived.KernelRfl
import Derived.Maps.Range
import Derived.Sort.MapsRangeIn
import Derived.RangeFuncGives
import Derived.Test.YtnenmmdpclglhaaGreatDoorP7
import Derived.OpenShut
import Derived.Test.YtnenmmdpclglhaaGreatDoorP5
import Derived.ChangeArms
import Derived.Carry
import Derived.Shelf.SlIter.Collect
import Derived.Deep.RegionWith
import Derived.Test.YtnenmmdpclglhaaGreatDoorProg
set_option linter.defProp false
set_option linter.unusedSimpArgs false
set_option linter.unusedVariables false
set_option maxHeartbeats 4000000
set_option maxRecDepth 100000
namespace Gv.Tryz
open Go Gv Go.Proofs
open Nat (reduceEqDiff reduceAdd reduceSub reduceLeDiff reduceMul reduceLT)
inductive Reach (nx : Hs → List Hs) (l : List Hs) : Hs → Prop
 | base (x : Hs) : x ∈ l → Reach nx l x
 | step (x y : Hs) : Reach nx l x → y ∈ nx x → Reach nx l y
structure RInv (nx : Hs → List Hs) (U l S todo : List Hs) : Prop where
 nodup : S.Nodup
 inU : ∀ x, x ∈ S ∨ x ∈ todo → x ∈ U
 start : ∀ x ∈ l, x ∈ S ∨ x ∈ todo
 step : ∀ x ∈ S, ∀ y ∈ nx x, y ∈ S ∨ y ∈ todo
 sound : ∀ x, x ∈ S ∨ x ∈ todo → Reach nx l x
theorem Qaz : ∀ (l A : List Hs), l.Nodup → (∀ x ∈ l, x ∈ A) → l.length ≤ A.length
 | [], _, _, _ => by simp
 | x :: l, A, hn, h => by
  have hx := h x (by simp);obtain ⟨h1, h2⟩ := List.nodup_cons.1 hn;have := Qaz l (A.erase x) h2 fun y hy => (List.mem_erase_of_ne (fun e => h1 (by rw [← e]; exact hy))).2 (h y (by simp [hy]))
  rw [List.length_erase_of_mem hx] at this;have := List.length_pos_of_mem hx;simp only [List.length_cons]; omega
theorem RInv.len {nx : Hs → List Hs} {U l S todo : List Hs} (h : RInv nx U l S todo) : S.length ≤ U.length := Qaz S U h.nodup fun x hx => h.inU x (.inl hx)
theorem RInv.skip {nx : Hs → List Hs} {U l S t : List Hs} {x : Hs} (h : RInv nx U l S (t ++ [x])) (hx : x ∈ S) : RInv nx U l S t := by
 have hm : ∀ y, y ∈ S ∨ y ∈ t ++ [x] → y ∈ S ∨ y ∈ t := fun y hy => by
  rcases hy with q | q
  · exact .inl q
  · rcases List.mem_append.1 q with q | q
    · exact .inr q
    · rw [List.mem_singleton.1 q]; exact .inl hx
 have hb : ∀ y, y ∈ S ∨ y ∈ t → y ∈ S ∨ y ∈ t ++ [x] := fun y hy => hy.imp id fun q => List.mem_append_left _ q
 exact ⟨h.nodup, fun y hy => h.inU y (hb y hy), fun y hy => hm y (h.start y hy), fun y hy z hz => hm z (h.step y hy z hz), fun y hy => h.sound y (hb y hy)⟩
theorem RInv.go {nx : Hs → List Hs} {U l S t : List Hs} {x : Hs} (h : RInv nx U l S (t ++ [x])) (hx : x ∉ S) (hU : ∀ y ∈ nx x, y ∈ U) : RInv nx U l (S ++ [x]) (t ++ nx x) := by
 have hxU : x ∈ U := h.inU x (.inr (by simp))
 have hxR : Reach nx l x := h.sound x (.inr (by simp))
 have hm : ∀ y, y ∈ S ∨ y ∈ t ++ [x] → y ∈ S ++ [x] ∨ y ∈ t ++ nx x := fun y hy => by
  rcases hy with q | q
  · exact .inl (List.mem_append_left _ q)
  · rcases List.mem_append.1 q with q | q
    · exact .inr (List.mem_append_left _ q)
    · exact .inl (List.mem_append_right _ q)
 have hb : ∀ y, y ∈ S ++ [x] ∨ y ∈ t ++ nx x → y ∈ S ∨ y ∈ t ∨ y = x ∨ y ∈ nx x := fun y hy => by
  simp only [List.mem_append, List.mem_singleton] at hy;rcases hy with (q | q) | (q | q)
  · exact .inl q
  · exact .inr (.inr (.inl q))
  · exact .inr (.inl q)
  · exact .inr (.inr (.inr q))
 refine ⟨?_, fun y hy => ?_, fun y hy => hm y (h.start y hy), fun y hy z hz => ?_, fun y hy => ?_⟩
 · rw [List.nodup_append];exact ⟨h.nodup, by simp, fun a ha b hb => by rw [List.mem_singleton.1 hb]; exact fun e => hx (e ▸ ha)⟩
 · rcases hb y hy with q | q | q | q
   · exact h.inU y (.inl q)
   · exact h.inU y (.inr (List.mem_append_left _ q))
   · rw [q]; exact hxU
   · exact hU y q
 · rcases List.mem_append.1 hy with q | q
   · exact hm z (h.step y q z hz)
   · rw [List.mem_singleton.1 q] at hz;exact .inr (List.mem_append_right _ hz)
 · rcases hb y hy with q | q | q | q
   · exact h.sound y (.inl q)
   · exact h.sound y (.inr (List.mem_append_left _ q))
   · rw [q]; exact hxR
   · exact .step x y hxR q
theorem RInv.fin {nx : Hs → List Hs} {U l S : List Hs} (h : RInv nx U l S []) (x : Hs) : x ∈ S ↔ Reach nx l x := by
 constructor
 · exact fun hx => h.sound x (.inl hx)
 · intro hr;induction hr with
   | base x hx => exact (h.start x hx).resolve_right (by simp)
   | step x y _ hy ih => exact (h.step x ih y hy).resolve_right (by simp)
abbrev setM (S : List Hs) : List (Hs × Bool) := S.map fun h => (h, true)
theorem QaL (S : List Hs) (h : Hs) : look (setM S) h = if h ∈ S then some true else none := by
 induction S with
 | nil => rfl
 | cons a r ih =>
  rw [show setM (a :: r) = (a, true) :: setM r from rfl, look, ih];by_cases e : h = a
  · simp [e]
  · simp [e]
theorem Qdp (S : List Hs) (h : Hs) (hn : h ∉ S) : mset (setM S) h true = setM (S ++ [h]) := by
 induction S with
 | nil => rfl
 | cons a r ih =>
  rw [show setM (a :: r) = (a, true) :: setM r from rfl, mset, if_neg (fun e => hn (by simp [e])), ih fun q => hn (by simp [q])];rfl
def rMu (u k s t : Nat) : Nat := (u - s) * (k + 1) + t
def zb3 := ai @Qbr <| ai @Nat.sub_zero <| ai @hsG_len <| ai @List.length_append.{0} <| ai @List.length_singleton.{0} <| ai @List.length_cons.{0} <| ai @List.length_nil.{0} <| ai @true_imp_iff <| ai @kfind_h <| @v32
theorem gReached {F : FuncId} {caps : List GVal} {a b : GObj} (nx : Hs → List Hs) (hN : ∀ h : Hs, GCalls Tryz.prog F (.agg (bytesG h.1) :: caps) [a, b] (fun g O' => g = .slice (hsG (nx h)) .none ∧ O' = [a, b])) (ha : a.isClock = false)
 (l : List Hs) (t : Tag) (ht : t = .nil → l = []) (U : List Hs) (hU : ∀ x ∈ l, x ∈ U) (hnU : ∀ x ∈ U, ∀ y ∈ nx x, y ∈ U) (K : Nat) (hK : ∀ x ∈ U, (nx x).length ≤ K) (hUl : U.length ≤ 100000) (hKl : K ≤ 100000) (hl : l.length ≤ 1000000) :
 GCalls Tryz.prog 46 [.slice (hsG l) t, .func (.func F) [] caps] [a, b] (fun g O' => ∃ st S, g = .map 2 st ∧ O' = [a, b, .map st (kvG encB (setM S))] ∧ S.Nodup ∧ (∀ x, x ∈ S ↔ Reach nx l x) ∧ S.length ≤ U.length) := by
 have hcl : ∀ Y, Qad (a :: Y) = none := fun Y => by cases a <;> first | rfl | cases ha
 have hst : ∀ (r : List GObj) (K : Nat → Prop), stamp (a :: r) K = ∀ st, K st := fun r K => by unfold stamp; rw [hcl]
 have htk : ∀ r : List GObj, tickO (a :: r) = a :: r := fun r => Qck (hcl r)
 refine GCalls.dropTo ?_
 refine h46.ca ?_
 refine vq2 hst htk ?_
 intro sm
 refine (GCalls.newUp (Qfm l t (by omega) ht) (hcl _) (by rintro g O' (⟨_, rfl, rfl⟩ | ⟨st, rfl, rfl⟩) <;> rfl)).mono ?_
 rintro g O' ⟨g0, O1, hO, rfl, rfl⟩
 have inv0 : RInv nx U l [] l := ⟨List.nodup_nil, fun x hx => hU x (by simpa using hx), fun x hx => .inr hx, fun x hx => by simp at hx, fun x hx => .base x (by simpa using hx)⟩
 have mu1 : ∀ u s n : Nat, rMu u K s n < rMu u K s (n + 1) := fun u s n => by unfold rMu; omega
 have mu2 : ∀ u s n m : Nat, s < u → m ≤ K → rMu u K (s + 1) (n + m) < rMu u K s (n + 1) := fun u s n m h1 h2 => by
  unfold rMu;have : u - s = (u - (s + 1)) + 1 := by omega
  rw [this, Nat.add_mul]; omega
 refine vq2 hst htk ?_
 refine Qab (ι := { p : (List Hs × List Hs) × (List Hs × Nat) // RInv nx U l p.1.1 p.1.2 ∧ p.1.2.length ≤ l.length + K * p.1.1.length }) (fun p => ⟨[.any, .func (.func F) [] caps, .any, .any, .any, .map 2 sm, .own 3 p.1.2.2 0 p.1.1.2.length] ++ List.replicate 30 .any, [a, b, .map sm (kvG encB (setM p.1.1.1)), .row p.1.2.2 32 (hsG (p.1.1.2 ++ p.1.2.1))]⟩) (fun p => rMu U.length K p.1.1.1.length p.1.1.2.length) ?_ ?_
 · rcases hO with ⟨rfl, rfl, rfl⟩ | ⟨v0, rfl, rfl⟩
   · refine Into.row 6 32 rfl rfl ?_;refine vq2 hst htk ?_;intro v;exact Into.first ⟨(([], []), ([], v)), inv0, by simp⟩ ⟨[], rfl⟩ (by simp [WL, leG_self, leG_any])
   · exact Into.first ⟨(([], l), ([], v0)), inv0, by simp⟩ ⟨[], by simp [kvG]⟩ (by simp [WL, leG_self, leG_any, GVal.up])
 · rintro ⟨⟨⟨S, todo⟩, ⟨Z, v⟩⟩, inv, hlen⟩
   change RInv nx U l S todo at inv
   change todo.length ≤ l.length + K * S.length at hlen
   have hSl := inv.len;have hKS : K * S.length ≤ 100000 * 100000 := Nat.mul_le_mul hKl (by omega);rcases List.eq_nil_or_concat todo with rfl | ⟨tt, x, e⟩
   · refine vq7 hst htk @Int.lt_irrefl @false_imp_iff @true_and @List.length_nil.{0} @Int.natCast_zero ?_;exact ⟨_, [a, b, .map sm (kvG encB (setM S))], _, rfl, leA_refl _, sm, S, rfl, rfl, inv.nodup, inv.fin, inv.len⟩
   · rw [List.concat_eq_append] at e;subst e;have d0 : ((0 : Int) < (tt.length : Int) + 1) = True := eq_true (by omega);have d1 : ((tt.length : Int) + 1 - 1).toNat = tt.length := by omega
     have eS : (hsG (tt ++ [x] ++ Z)).getD tt.length [] = bytesG x.1 := by
      rw [hsG_at _ _ (by simp)];simp [List.getD]
     have hl2 : tt.length + 1 ≤ l.length + K * S.length := by rw [List.length_append, List.length_singleton] at hlen; exact hlen
     have hxU : x ∈ U := inv.inU x (.inr (by simp));by_cases hx : x ∈ S
     · obtain ⟨i, hi, hv, _⟩ := look_idx encB (setM S) x true (by rw [QaL, if_pos hx]);refine vq8 hst htk d0 d1 eS hi hv zb3 ?_;refine ⟨by omega, by omega, by omega, by omega, fun u => ⟨by omega, by omega, by omega, ?_⟩⟩;exact Into.at ⟨((S, tt), ([x] ++ Z, v)), inv.skip hx, by show tt.length ≤ l.length + K * S.length; omega⟩ (mu1 _ _ _) ⟨[.row u 32 [bytesG x.1]], by simp⟩ (by simp [WL, leG_self, leG_any])
     · obtain ⟨hi, hw⟩ := look_none encB (setM S) x (by rw [QaL, if_neg hx]);have hw := hw true;rw [Qdp S x hx] at hw;have cN := (hN x).keep2 ha;refine vq8 hst htk d0 d1 eS hi hw zb3 ?_;have hkx := hK x hxU;refine ⟨by omega, by omega, by omega, by omega, fun u => ⟨by omega, by omega, by omega, ?_⟩⟩;refine (cN _).mono ?_;rintro g O' ⟨rfl, rfl⟩;refine vq1 (ai hst <| ai htk <| ai @Qbr <| ai @Nat.sub_zero <| ai @hsG_len <| ai @all_hsG <| ai @List.length_append.{0} <| ai @List.length_singleton.{0} <| ai @List.length_cons.{0} <| ai @List.length_nil.{0} <| @true_imp_iff) ?_;refine ⟨by omega, by omega, by omega, fun v2 => ?_⟩;refine Into.at ⟨((S ++ [x], tt ++ nx x), ([], v2)), inv.go hx (hnU x hxU), ?_⟩ ?_ ⟨[.row u 32 [bytesG x.1]], ?_⟩ (by simp [WL, leG_self, leG_any])
       · show (tt ++ nx x).length ≤ l.length + K * (S ++ [x]).length;rw [List.length_append, List.length_append, List.length_singleton, Nat.mul_add, Nat.mul_one]; omega
       · show rMu _ K (S ++ [x]).length (tt ++ nx x).length < rMu _ K S.length (tt.length + 1);rw [List.length_append, List.length_append, List.length_singleton];refine mu2 _ _ _ _ ?_ hkx;have := (inv.go hx (hnU x hxU)).len;rw [List.length_append, List.length_singleton] at this;omega
       · show _ = [a, b, GObj.map sm (kvG encB (setM (S ++ [x]))), GObj.row v2 32 (hsG ((tt ++ nx x) ++ []))] ++ [GObj.row u 32 [bytesG x.1]];simp [hsG_app];exact List.take_left' (hsG_len tt)
theorem parsM_some {m : GM} {h : Hs} {l : List Hs} (e : look m h = some l) : parsM m h = l := by rw [parsM, e]; rfl
theorem parsM_none {m : GM} {h : Hs} (e : look m h = none) : parsM m h = [] := by rw [parsM, e]; rfl
theorem Qpg (a : GObj) (M : GM) (h : Hs) (s : Nat) (l : List Hs) (el : look M h = some l) : GCalls Tryz.prog 102 [.agg (bytesG h.1), .ref [.map 1 s]] [a, .map s (kvG encL M)] (fun g O' => g = .slice (hsG l) .none ∧ O' = [a, .map s (kvG encL M)]) := by
 obtain ⟨i, hi, hv, _⟩ := look_idx encL M h l el
 refine h102.ca ?_
 exact vd4 @kfind_h hi hv @v32
theorem Qph (a : GObj) (M : GM) (h : Hs) (s : Nat) (el : look M h = none) : GCalls Tryz.prog 102 [.agg (bytesG h.1), .ref [.map 1 s]] [a, .map s (kvG encL M)] (fun g O' => g = .slice [] .nil ∧ O' = [a, .map s (kvG encL M)]) := by
 obtain ⟨hi, _⟩ := look_none encL M h el
 refine h102.ca ?_
 exact vd3 @kfind_h hi @v32
theorem Qpi (a : GObj) (M : GM) (h : Hs) (s : Nat) : GCalls Tryz.prog 102 [.agg (bytesG h.1), .ref [.map 1 s]] [a, .map s (kvG encL M)] (fun g O' => g = .slice (hsG (parsM M h)) .none ∧ O' = [a, .map s (kvG encL M)]) := by
 cases el : look M h with
 | some l => rw [parsM_some el]; exact Qpg a M h s l el
 | none =>
  rw [parsM_none el];refine GCalls.into ((Qph a M h s el).mono ?_);rintro g O' ⟨rfl, rfl⟩;exact GInto.weak (O := [a, .map s (kvG encL M)]) (X := []) (by rw [leG_none]; rfl) (.here ⟨rfl, rfl⟩)
noncomputable def QbN (m M : GM) (c : Cm) : Er := by
 classical exact if (look m c.1).isSome then none else if Reach (parsM M) c.2 c.1 then some (some c.1, 12) else none
def hashesM (M : GM) : List Hs := M.map (·.1) ++ M.flatMap (·.2)
theorem Qdj {M : GM} {x y : Hs} (h : y ∈ parsM M x) : ∃ p ∈ M, p.1 = x ∧ y ∈ p.2 := by
 induction M with
 | nil => cases h
 | cons p r ih =>
  unfold parsM at h;rw [look] at h;by_cases e : x = p.1
  · rw [if_pos e] at h;exact ⟨p, by simp, e.symm, h⟩
  · rw [if_neg e] at h;obtain ⟨q, h1, h2, h3⟩ := ih h;exact ⟨q, by simp [h1], h2, h3⟩
theorem Qdn {M : GM} {x : Hs} {l : List Hs} (h : look M x = some l) : (x, l) ∈ M := by
 induction M with
 | nil => cases h
 | cons p r ih =>
  rw [look] at h;by_cases e : x = p.1
  · rw [if_pos e] at h;cases h;rw [e]; simp
  · rw [if_neg e] at h;simp [ih h]
structure GMOK (M : GM) : Prop where
 len : M.length ≤ 10000
 row : ∀ p ∈ M, p.2.length ≤ 4
theorem GMOK.pars {M : GM} (h : GMOK M) (x : Hs) : (parsM M x).length ≤ 4 := by
 cases e : look M x with
 | some l => rw [parsM_some e]; exact h.row _ (Qdn e)
 | none => rw [parsM_none e]; simp
theorem GMOK.hashes {M : GM} (h : GMOK M) : (hashesM M).length ≤ 50000 := by
 have : ∀ M : GM, (∀ p ∈ M, p.2.length ≤ 4) → (hashesM M).length ≤ 5 * M.length := by
  intro M;induction M with
  | nil => intro _; simp [hashesM]
  | cons p r ih =>
   intro h;have := ih fun q hq => h q (by simp [hq])
   have := h p (by simp);simp only [hashesM, List.map_cons, List.flatMap_cons, List.length_append, List.length_cons] at *;omega
 have := this M h.row
 have := h.len
 omega
theorem QjU {M : GM} {x y : Hs} (h : y ∈ parsM M x) : y ∈ hashesM M := by
 obtain ⟨p, h1, _, h3⟩ := Qdj h
 exact List.mem_append_right _ (List.mem_flatMap.2 ⟨p, h1, h3⟩)
theorem QkW (M : GM) (hM : GMOK M) (l : List Hs) (t : Tag) (ht : t = .nil → l = []) (hl : l.length ≤ 10000) {O : List GObj} {i j : Nat} {a : GObj} {s : Nat} (hi : O[i]? = some a) (hj : O[j]? = some (.map s (kvG encL M))) (hij : i ≠ j) (hca : a.isClock = false) (hc : Qad O = none) :
 GCalls Tryz.prog 46 [.slice (hsG l) t, .func (.func 102) [] [.ref [.map j s]]] O (fun g O' => ∃ st kv, g = .map O.length st ∧ O' = O ++ [.map st kv] ∧ ∃ S : List Hs, kv = kvG encB (setM S) ∧ S.Nodup ∧ (∀ x, x ∈ S ↔ Reach (parsM M) l x)) := by
 have h := gReached (caps := [.ref [.map 1 s]]) (parsM M) (fun h => Qpi a M h s) hca l t ht (l ++ hashesM M) (fun x hx => List.mem_append_left _ hx) (fun x _ y hy => List.mem_append_right _ (QjU hy)) 4 (fun x _ => hM.pars x) (by have := hM.hashes; rw [List.length_append]; omega) (by omega) (by omega)
 refine GCalls.on2new (R := fun st kv => ∃ S : List Hs, kv = kvG encB (setM S) ∧ S.Nodup ∧ (∀ x, x ∈ S ↔ Reach (parsM M) l x)) (h.mono ?_) i j hij hi hj ⟨GLe.refl _, GLe.func _ trivial ⟨GLe.ref ⟨GLe.map _ _ _, trivial⟩, trivial⟩, trivial⟩ hca hc
 rintro g O' ⟨st, S, rfl, rfl, h1, h2, _⟩
 exact ⟨st, _, rfl, rfl, S, rfl, h1, h2⟩
noncomputable def Qa9 (m M : GM) (cs : List Cm) : Er := cs.findSome? (QbN m M)
def zb4 := ai @Qae <| ai @hsG_len <| ai @comG.eq_1 <| ai @kfind_h <| ai @v33 <| @v32
theorem Qu1 (m M : GM) (cs : List Cm) (tc : Tag) (st s s2 : Nat) (hM : GMOK M) (hc : cs.length ≤ 1000000) (hp : ∀ c ∈ cs, c.2.length ≤ 10000) :
 GCalls Tryz.prog 72 [.ptr 0 st 0 0, .map 2 s2, .slice (csG cs) tc] (gObj st s m ++ [.map s2 (kvG encL M)]) (fun g O' => g = errV (Qa9 m M cs) ∧ O' = gObj st s m ++ [.map s2 (kvG encL M)]) := by
 refine GCalls.dropTo ?_
 refine h72.ca ?_
 refine vq1 @Qae ?_
 refine Qab (ι := { k : Nat // k ≤ cs.length ∧ cs.findSome? (QbN m M) = (cs.drop k).findSome? (QbN m M) }) (fun k => ⟨[.ptr 0 st 0 0, .any, .any, .any, .ref [.map 2 s2]] ++ List.replicate 6 .any ++ [.slice (csG cs) tc, .int .i64 cs.length, .int .i64 (k.1 : Nat)] ++ List.replicate 26 .any, [.row st 1 [[.map 1 s]], .map s (kvG encL m), .map s2 (kvG encL M)]⟩) (fun k => cs.length - k.1) ?_ ?_
 · exact Into.first ⟨0, by omega, by simp⟩ ⟨[], by simp⟩ (by simp [WL, leG_self, leG_any, Qaa])
 · rintro ⟨k, hk, hf⟩;by_cases h : k < cs.length
   · have d0 : ((k : Int) < (cs.length : Int)) = True := eq_true (by omega);have eS := Qa0 cs k h;have hx := hp _ (memC h);rw [Qkd h] at hf;generalize cs.getD k default = x at *;obtain ⟨xh, xp⟩ := x
     change xp.length ≤ 10000 at hx
     cases el : look m xh with
     | some l =>
      obtain ⟨i, hi, hv, _⟩ := look_idx encL m xh l el;have en : QbN m M (xh, xp) = none := by unfold QbN; rw [el]; simp
      rw [en] at hf;refine vq5 d0 eS hi hv zb4 ?_;refine ⟨by omega, fun u => ?_⟩;exact Into.at ⟨k + 1, by omega, hf⟩ (by show _ < _; simp; omega) ⟨_, rfl⟩ (by simp [WL, leG_self, leG_any, Qaa])
     | none =>
      obtain ⟨hi, _⟩ := look_none encL m xh el;refine vq4 d0 eS hi zb4 ?_;refine ⟨by omega, fun u => ?_⟩;refine (QkW M hM xp .none (by simp) hx (i := 1) (j := 2) rfl rfl (by simp) rfl rfl).mono ?_;rintro g O' ⟨sr, kv, rfl, rfl, S, rfl, hS, hR⟩;by_cases hm : xh ∈ S
      · obtain ⟨i2, hi2, hv2, _⟩ := look_idx encB (setM S) xh true (by rw [QaL, if_pos hm]);have en : QbN m M (xh, xp) = some (some xh, 12) := by
         unfold QbN; rw [el]; simp [(hR xh).1 hm]
        rw [en] at hf;refine vq3 hi2 hv2 zb4 ?_;refine ⟨⟨[_], rfl⟩, ?_⟩;refine (gOf xh 12).then ?_ (by rfl)
        refine vq0 ?_;unfold Qa9;rw [hf];exact ⟨_, gObj st s m ++ [.map s2 (kvG encL M)], _, rfl, leA_refl _, rfl, rfl⟩
      · obtain ⟨hi2, _⟩ := look_none encB (setM S) xh (by rw [QaL, if_neg hm]);have en : QbN m M (xh, xp) = none := by
         have hnr : ¬ Reach (parsM M) xp xh := fun q => hm ((hR xh).2 q)
         unfold QbN; rw [el]; simp [hnr]
        rw [en] at hf;refine vq2 hi2 zb4 ?_;refine ⟨⟨[_], rfl⟩, ?_⟩;exact Into.at ⟨k + 1, by omega, hf⟩ (by show _ < _; simp; omega) ⟨_, rfl⟩ (by simp [WL, leG_self, leG_any, Qaa])
   · have d0 : ((k : Int) < (cs.length : Int)) = False := eq_false (by omega);rw [List.drop_of_length_le (by omega)] at hf;refine vq2 d0 zb4 ?_;unfold Qa9;rw [hf];exact ⟨_, gObj st s m ++ [.map s2 (kvG encL M)], [], rfl, leA_refl _, rfl, rfl⟩
theorem Qdu (e : Option Hs × Int) : ∃ ty v, errV (some e) = .iface ty v := by
 obtain ⟨h, n⟩ := e
 cases h with
 | none => exact ⟨_, _, rfl⟩
 | some h => exact ⟨_, _, rfl⟩
theorem QkX {α : Type} (enc : α → GVal) (m : List (Hs × α)) : (kvG enc m).length = m.length := by simp [kvG]
structure GOK (m : GM) : Prop where
 len : m.length ≤ 1000
 row : ∀ p ∈ m, p.2.length ≤ 4
theorem Qcv {gr : Int} {nh : Nat} {cs : List Cm} (h : Qay gr nh cs = none) : cs.length ≤ 200 ∧ nh ≤ 200 ∧ (gr = 1 ∨ gr = 2) ∧ ∀ c ∈ cs, c.2.length ≤ 4 ∧ Qdv c.2 = false := by
 unfold Qay at h
 split at h
 · cases h
 · rename_i hb;unfold QcG at hb;refine ⟨by omega, by omega, by omega, fun c hc => ?_⟩;have := List.findSome?_eq_none_iff.1 h c hc;unfold Qbl at this;split at this
   · cases this
   · split at this
     · cases this
     · rename_i h1 h2; exact ⟨by omega, by simpa using h2⟩
theorem QmK {α : Type} {m : List (Hs × α)} {h : Hs} {v : α} {p : Hs × α} (hp : p ∈ mset m h v) : p ∈ m ∨ p = (h, v) := by
 induction m with
 | nil => simp [mset] at hp; exact .inr hp
 | cons q r ih =>
  rw [mset] at hp;split at hp
  · rcases List.mem_cons.1 hp with e | e
    · exact .inr e
    · exact .inl (List.mem_cons_of_mem _ e)
  · rcases List.mem_cons.1 hp with e | e
    · exact .inl (by rw [e]; simp)
    · exact (ih e).imp (List.mem_cons_of_mem _) id
theorem Qd5 : ∀ {cs : List Cm} {m M : GM}, QaI m cs = .ok M → (∀ p ∈ m, p.2.length ≤ 4) → (∀ c ∈ cs, c.2.length ≤ 4) → M.length ≤ m.length + cs.length ∧ ∀ p ∈ M, p.2.length ≤ 4
 | [], m, M, h, hm, hc => by rw [QaI] at h; cases h; exact ⟨by simp, hm⟩
 | c :: r, m, M, h, hm, hc => by
  rw [QaI] at h;have hr : ∀ x ∈ r, x.2.length ≤ 4 := fun x hx => hc x (by simp [hx])
  have hx := hc c (by simp);unfold Qcm at h;cases el : look m c.1 with
  | some l =>
   simp only [el] at h;split at h
   · rename_i m' e;split at e
     · cases e;obtain ⟨h1, h2⟩ := Qd5 h hm hr;exact ⟨by simp only [List.length_cons]; omega, h2⟩
     · cases e
   · cases h
  | none =>
   simp only [el] at h;obtain ⟨h1, h2⟩ := Qd5 h (fun p hp => by
    rcases QmK hp with q | q
    · exact hm p q
    · rw [q]; exact hx) hr
   have := QlJ m c.1 c.2;rw [el] at this;simp at this;exact ⟨by simp only [List.length_cons]; omega, h2⟩
noncomputable def Qaj (gr : Int) (m : GM) (cs : List Cm) (hs : List Hs) : Except (Option Hs × Int) GM := match Qay gr hs.length cs with
 | some e => .error e
 | none => match QaI m cs with
  | .error (h, n) => .error (some h, n)
  | .ok M => match Qby M cs hs with
   | some e => .error e
   | none => match Qa9 m M cs with
    | some e => .error e
    | none => if 1000 < M.length then .error (none, 13) else .ok M
def jdV (st : Nat) : Except (Option Hs × Int) GM → GVal
 | .ok _ => .tuple [.map 2 st, .lit .nilIface]
 | .error e => .tuple [.lit (.map none), errV (some e)]
def jdO (st : Nat) : Except (Option Hs × Int) GM → List GObj
 | .ok M => [.map st (kvG encL M)]
 | .error _ => []
def zb5 := ai @errV.eq_1 <| ai @errV.eq_2 <| @errV.eq_3
def zb6 := ai @QnQ.eq_1 <| ai @QnQ.eq_2 <| ai @QnR.eq_1 <| @QnR.eq_2
theorem QkY (m : GM) (hm : GOK m) (cs : List Cm) (hs : List Hs) (th : Tag) (gr : Int) (st s : Nat) (hc : cs.length ≤ 1000000) (hh : hs.length ≤ 1000000) (hp : ∀ c ∈ cs, c.2.length ≤ 1000000) :
 GCalls Tryz.prog 37 [.ptr 0 st 0 0, .agg (reqG cs hs th gr)] (gObj st s m) (fun g O' => ∃ s2, g = jdV s2 (Qaj gr m cs hs) ∧ O' = gObj st s m ++ jdO s2 (Qaj gr m cs hs)) := by
 have c1 := Qu2 cs hs th gr hc hh hp
 cases e1 : Qay gr hs.length cs with
 | some e =>
  have ej : Qaj gr m cs hs = .error e := by unfold Qaj; rw [e1]
  rw [e1] at c1;obtain ⟨ty, v, ev⟩ := Qdu e;rw [ev] at c1;rw [ej];refine h37.ca ?_;refine vq0 ?_;refine c1.then ?_ (by rfl)
  refine vq1 Tryz.underlying28 ?_;exact ⟨0, by rw [jdV, ev], rfl⟩
 | none =>
  obtain ⟨n1, n2, n3, n4⟩ := Qcv e1;rw [e1] at c1;have c2 := QnS m cs .none st s hc hp (fun h l e => by have := hm.row _ (Qdn e); simp only at this; omega);cases e2 : QaI m cs with
  | error x =>
   obtain ⟨xh, xn⟩ := x;have ej : Qaj gr m cs hs = .error (some xh, xn) := by unfold Qaj; rw [e1]; simp only [e2]
   rw [e2] at c2;rw [ej];refine h37.ca ?_;refine vq0 ?_;refine c1.then ?_ (by rfl)
   refine vq2 Tryz.underlying28 zb5 ?_;refine c2.mono ?_;rintro g O' ⟨_, rfl, rfl⟩;refine vq2 Tryz.underlying28 zb6 ?_;exact ⟨0, rfl, rfl⟩
  | ok M =>
   obtain ⟨m1, m2⟩ := Qd5 e2 hm.row (fun c hc => (n4 c hc).1);have hM : GMOK M := ⟨by have := hm.len; omega, m2⟩
   have c3 := fun s2 => GCalls.keep1 (QlN M cs hs th gr s2 hc hh hp) (O := gObj st s m ++ [.map s2 (kvG encL M)]) (args' := [.map 2 s2, .agg (reqG cs hs th gr)]) 2 rfl rfl rfl rfl
   rw [e2] at c2;cases e3 : Qby M cs hs with
   | some e =>
    have ej : Qaj gr m cs hs = .error e := by unfold Qaj; rw [e1]; simp only [e2, e3]
    rw [e3] at c3;obtain ⟨ty, v, ev⟩ := Qdu e;rw [ev] at c3;rw [ej];refine GCalls.dropTo ?_;refine h37.ca ?_;refine vq0 ?_;refine c1.then ?_ (by rfl)
    refine vq2 Tryz.underlying28 zb5 ?_;refine c2.mono ?_;rintro g O' ⟨s2, rfl, rfl⟩;refine vq2 Tryz.underlying28 zb6 ?_;refine (c3 s2).mono ?_;rintro g O' ⟨rfl, rfl⟩;refine vq1 Tryz.underlying28 ?_;exact ⟨_, gObj st s m, _, rfl, leA_refl _, 0, by rw [jdV, ev], rfl⟩
   | none =>
    have c4 := fun s2 => Qu1 m M cs .none st s s2 hM hc (fun c hc => by have := (n4 c hc).1; omega)
    rw [e3] at c3;cases e4 : Qa9 m M cs with
    | some e =>
     have ej : Qaj gr m cs hs = .error e := by unfold Qaj; rw [e1]; simp only [e2, e3, e4]
     rw [e4] at c4;obtain ⟨ty, v, ev⟩ := Qdu e;rw [ev] at c4;rw [ej];refine GCalls.dropTo ?_;refine h37.ca ?_;refine vq0 ?_;refine c1.then ?_ (by rfl)
     refine vq2 Tryz.underlying28 zb5 ?_;refine c2.mono ?_;rintro g O' ⟨s2, rfl, rfl⟩;refine vq2 Tryz.underlying28 zb6 ?_;refine (c3 s2).mono ?_;rintro g O' ⟨rfl, rfl⟩;refine vq2 Tryz.underlying28 zb5 ?_;refine (c4 s2).mono ?_;rintro g O' ⟨rfl, rfl⟩;refine vq1 Tryz.underlying28 ?_;exact ⟨_, gObj st s m, _, rfl, leA_refl _, 0, by rw [jdV, ev], rfl⟩
    | none =>
     rw [e4] at c4;by_cases h5 : 1000 < M.length
     · have d5 : ((1000 : Int) < (M.length : Int)) = True := eq_true (by omega);have ej : Qaj gr m cs hs = .error (none, 13) := by unfold Qaj; rw [e1]; simp only [e2, e3, e4]; rw [if_pos h5]
       rw [ej];refine GCalls.dropTo ?_;refine h37.ca ?_;refine vq0 ?_;refine c1.then ?_ (by rfl)
       refine vq2 Tryz.underlying28 zb5 ?_;refine c2.mono ?_;rintro g O' ⟨s2, rfl, rfl⟩;refine vq2 Tryz.underlying28 zb6 ?_;refine (c3 s2).mono ?_;rintro g O' ⟨rfl, rfl⟩;refine vq2 Tryz.underlying28 zb5 ?_;refine (c4 s2).mono ?_;rintro g O' ⟨rfl, rfl⟩;refine vq6 Tryz.underlying28 @errV.eq_1 @errV.eq_2 @errV.eq_3 @QkX d5 ?_;exact ⟨_, gObj st s m, _, rfl, leA_refl _, 0, rfl, rfl⟩
     · have d5 : ((1000 : Int) < (M.length : Int)) = False := eq_false (by omega);have ej : Qaj gr m cs hs = .ok M := by unfold Qaj; rw [e1]; simp only [e2, e3, e4]; rw [if_neg h5]
       rw [ej];refine h37.ca ?_;refine vq0 ?_;refine c1.then ?_ (by rfl)
       refine vq2 Tryz.underlying28 zb5 ?_;refine c2.mono ?_;rintro g O' ⟨s2, rfl, rfl⟩;refine vq2 Tryz.underlying28 zb6 ?_;refine (c3 s2).mono ?_;rintro g O' ⟨rfl, rfl⟩;refine vq2 Tryz.underlying28 zb5 ?_;refine (c4 s2).mono ?_;rintro g O' ⟨rfl, rfl⟩;refine vq6 Tryz.underlying28 @errV.eq_1 @errV.eq_2 @errV.eq_3 @QkX d5 ?_;exact ⟨s2, rfl, rfl⟩
noncomputable def Qds (m : GM) (cs : List Cm) : GM := match Qaj 2 m cs [] with
 | .ok M => M
 | .error _ => m
noncomputable def Qdr (m : GM) (cs : List Cm) : Er := match Qaj 2 m cs [] with
 | .ok _ => none
 | .error e => some e
theorem Qpj (m M : GM) (cs : List Cm) (st s : Nat) (c1 : GCalls Tryz.prog 37 [.ptr 0 st 0 0, .agg (reqG cs [] .nil 2)] (gObj st s m) (fun g O' => ∃ s2, g = jdV s2 (.ok M) ∧ O' = gObj st s m ++ jdO s2 (.ok M))) :
 GCalls Tryz.prog 11 [.ptr 0 st 0 0, .slice (csG cs) .none] (gObj st s m) (fun g O' => ∃ s2, g = .lit .nilIface ∧ O' = [.row st 1 [[.map 2 s2]], .map s (kvG encL m), .map s2 (kvG encL M)]) := by
 refine h11.ca ?_
 refine vq0 ?_
 refine c1.mono ?_
 rintro g O' ⟨s2, rfl, rfl⟩
 refine vq5 Tryz.underlying28 @jdV.eq_1 @jdV.eq_2 @jdO.eq_1 @jdO.eq_2 ?_
 exact ⟨_, rfl⟩
theorem Qu3 (m M : GM) (cs : List Cm) (st s : Nat) (c1 : GCalls Tryz.prog 37 [.ptr 0 st 0 0, .agg (reqG cs [] .nil 2)] (gObj st s m) (fun g O' => ∃ s2, g = jdV s2 (.ok M) ∧ O' = gObj st s m ++ jdO s2 (.ok M))) :
 GCalls Tryz.prog 11 [.ptr 0 st 0 0, .slice (csG cs) .none] (gObj st s m) (fun g O' => ∃ x' y', O' = [x', y'] ∧ (g = errV none ∧ ∃ s', x' = .row st 1 [[.map 1 s']] ∧ y' = .map s' (kvG encL M))) := by
 refine GCalls.frame (Qpj m M cs st s c1) [0, 1] ⟨⟨_, rfl, .refl _⟩, ⟨_, rfl, .refl _⟩, trivial⟩ (by simp) (GLes.refl _) rfl rfl ?_
 rintro g O' ⟨s2, rfl, rfl⟩
 exact ⟨_, [.row st 1 [[.map 1 s2]], .map s2 (kvG encL M)], [(false, 0), (false, 2)], ⟨_, _, rfl, rfl, s2, rfl, rfl⟩, GLe.refl _, ⟨⟨_, rfl, OLe.row ⟨⟨GLe.map _ _ _, trivial⟩, trivial⟩⟩, ⟨_, rfl, .refl _⟩, trivial⟩, by simp, rfl⟩
theorem gAdd (m : GM) (hm : GOK m) (cs : List Cm) (st s : Nat) (hc : cs.length ≤ 1000000) (hp : ∀ c ∈ cs, c.2.length ≤ 1000000) :
 GCalls Tryz.prog 11 [.ptr 0 st 0 0, .slice (csG cs) .none] (gObj st s m) (fun g O' => ∃ x' y', O' = [x', y'] ∧ (g = errV (Qdr m cs) ∧ ∃ s', x' = .row st 1 [[.map 1 s']] ∧ y' = .map s' (kvG encL (Qds m cs)))) := by
 have c1 := QkY m hm cs [] .nil 2 st s hc (by simp) hp
 cases e1 : Qaj 2 m cs [] with
 | error e =>
  have ea : Qdr m cs = some e := by unfold Qdr; rw [e1]
  have em : Qds m cs = m := by unfold Qds; rw [e1]
  rw [e1] at c1;rw [ea, em];obtain ⟨ty, v, ev⟩ := Qdu e;refine h11.ca ?_;refine vq0 ?_;refine c1.mono ?_;rintro g O' ⟨s2, rfl, rfl⟩;refine vq6 Tryz.underlying28 @jdV.eq_1 @jdV.eq_2 @jdO.eq_1 @jdO.eq_2 ev ?_;exact ⟨_, _, rfl, s, rfl, rfl⟩
 | ok M =>
  have ea : Qdr m cs = none := by unfold Qdr; rw [e1]
  have em : Qds m cs = M := by unfold Qds; rw [e1]
  rw [e1] at c1;rw [ea, em];exact Qu3 m M cs st s c1
theorem Qpk : GCalls Tryz.prog 6 [] [] (fun g O' => ∃ st s, g = .ptr 1 st 0 0 ∧ O' = [.map s (kvG encL []), .row st 1 [[.map 0 s]]]) := by
 refine h6.ca ?_
 refine vq0 ?_
 exact fun s => ⟨rfl, fun st => ⟨_, _, rfl, rfl⟩⟩
theorem gNew : GCalls Tryz.prog 6 [] [] (fun g O' => ∃ st s, g = .ptr 0 st 0 0 ∧ O' = gObj st s []) := by
 refine GCalls.frame Qpk [] trivial (by simp) trivial rfl rfl ?_
 rintro g O' ⟨st, s, rfl, rfl⟩
 exact ⟨_, gObj st s [], [(false, 1), (false, 0)], ⟨st, s, rfl, rfl⟩, GLe.ptr _ _ _ _ _, ⟨⟨_, rfl, OLe.row ⟨⟨GLe.map _ _ _, trivial⟩, trivial⟩⟩, ⟨_, rfl, .refl _⟩, trivial⟩, by simp, rfl⟩
end Gv.Tryz
namespace Gv
open Go
section
variable {st : GSt} {N : GSt → Prop}
theorem Into.cellRow (i c rsz : Nat) {t sz : Nat} {cs : List GVal} {tg : Tag} (hO : st.o[i]? = some (.row t sz [cs])) (hc : cs[c]? = some (.slice [] tg)) (htg : tg.cap = .full) (hcl : cs.length = sz)
 (h : stamp st.o fun u => Into ⟨st.s, ((tickO st.o) ++ [GObj.row u rsz []]).set i (.row t sz [cs.set c (.own st.o.length u 0 0)])⟩ N) : Into st N := by
 intro E a w hs ha
 obtain ⟨u, hk, ht, hnx, hs, hkeep⟩ := hs.stamp h
 rw [← Qbm st.o] at hk
 obtain ⟨h1, h2⟩ := hs.objNil (.row u rsz []) (l := ⟨none, 0, rsz, 0⟩) ht hnx rfl ⟨_, Env.addLoc_self _ _ _, rfl, by simp, rfl⟩ (by simp [GObj.blk, Env.addLoc_self])
 have hO' : (tickO st.o ++ [GObj.row u rsz []])[i]? = some (.row t sz [cs]) := by
  have := Qdg hO rfl;rw [List.getElem?_append_left (List.getElem?_eq_some_iff.1 this).1]; exact this
 obtain ⟨h3, h4⟩ := h1.cells hO' (ys := [cs.set c (.own (tickO st.o).length u 0 0)]) rfl (by simp [hcl]) (fun j g' hj => by
  simp only [List.flatten_cons, List.flatten_nil, List.append_nil] at hj ⊢;rw [List.getElem?_set] at hj;by_cases e : c = j
  · subst e;rw [if_pos rfl] at hj;split at hj
    · simp only [Option.some.injEq] at hj;subst hj;refine ⟨_, hc, fun v hv => ?_⟩;cases hv with
      | slice a len cap xs tag sz c hlen hcap hsz ha hc htag =>
       have htag := htag.cap hcap;rw [htg] at htag;have h0 : len = 0 := by simpa using hlen
       have h1 : cap = 0 := by rw [← h0]; exact htag
       subst h0;exact .own a 0 cap _ u 0 _ (Env.addLoc_self _ _ _) (Nat.zero_le _) (.inl h1)
    · cases hj
  · rw [if_neg e] at hj;exact ⟨g', hj, fun v hv => hv⟩)
 obtain ⟨st', E', q1, q2, q3, q4⟩ := hk _ a w h3 (ha.mono h2.ext)
 exact ⟨st', E', q1, q2, ((hkeep.trans h2).trans h4).trans q3, q4⟩
end
theorem Qbn (a b c d e f g x : GObj) (r : List GObj) : (a :: b :: c :: d :: e :: f :: g :: r).set 6 x = a :: b :: c :: d :: e :: f :: x :: r := rfl
theorem Qbo (a b c d e f g h x : GObj) (r : List GObj) : (a :: b :: c :: d :: e :: f :: g :: h :: r).set 7 x = a :: b :: c :: d :: e :: f :: g :: x :: r := rfl
theorem QcD (a b c d e f g h i x : GObj) (r : List GObj) : (a :: b :: c :: d :: e :: f :: g :: h :: i :: r).set 8 x = a :: b :: c :: d :: e :: f :: g :: h :: x :: r := rfl
theorem GCalls.tail {P : Program} {f : FuncId} {args : List GVal} {X : List GObj} {K : GVal → List GObj → Prop} (h : GCalls P f args X K) (hK : ∀ g O', K g O' → Qad O' = none ∧ O' ≠ []) (hc : Qad X = none) (hX : X ≠ []) (Y : List GObj) :
 GCalls P f args (X ++ Y) (fun g O'' => ∃ O', K g O' ∧ O'' = O' ++ Y) := by
 have hcl : ∀ A : List GObj, Qad A = none → A ≠ [] → Qad (A ++ Y) = none := fun A h1 h2 => by
  cases A with
  | nil => exact absurd rfl h2
  | cons a r => cases a <;> first | rfl | cases h1
 refine GCalls.frame h (List.range X.length) ?_ List.nodup_range (GLes.refl _) hc (hcl X hc hX) ?_
 · have : ∀ (A B : List GObj), Fits (A ++ B ++ Y) ((List.range B.length).map (· + A.length)) B := by
    intro A B;induction B generalizing A with
    | nil => trivial
    | cons b r ih =>
     rw [List.length_cons, List.range_succ_eq_map, List.map_cons, List.map_map];refine ⟨⟨b, by simp, .refl _⟩, ?_⟩;have := ih (A ++ [b]);simp only [List.length_append, List.length_singleton, List.append_assoc, List.singleton_append] at this ⊢;have e : ((fun x => x + A.length) ∘ Nat.succ) = (fun x => x + (A.length + 1)) := by funext x; simp; omega
     rw [e]; exact this
   have := this [] X
   simpa using this
 · intro g O' hk;obtain ⟨h1, h2⟩ := hK g O' hk;refine ⟨g, O' ++ Y, (List.range O'.length).map (fun k => (false, k)) ++ (List.range Y.length).map (fun k => (true, k + X.length)), ⟨O', hk, rfl⟩, GLe.refl g, QcI.of (by simp) fun k z x hz hx => ?_, ?_, hcl O' h1 h2⟩
   · by_cases hlt : k < O'.length
     · rw [List.getElem?_append_left hlt] at hz;rw [List.getElem?_append_left (by simpa using hlt)] at hx;simp only [List.getElem?_map, List.getElem?_range hlt, Option.map_some, Option.some.injEq] at hx;subst hx;exact ⟨z, hz, .refl _⟩
     · rw [List.getElem?_append_right (by omega)] at hz;rw [List.getElem?_append_right (by simpa using hlt)] at hx;have hk2 : k - O'.length < Y.length := (List.getElem?_eq_some_iff.1 hz).1;simp only [List.length_map, List.length_range, List.getElem?_map, List.getElem?_range hk2, Option.map_some, Option.some.injEq] at hx;subst hx;refine ⟨by simp, z, ?_, .refl _⟩;rw [List.getElem?_append_right (by omega), Nat.add_sub_cancel]; exact hz
   · rw [List.nodup_append];refine ⟨?_, ?_, ?_⟩
     · rw [List.nodup_iff_pairwise_ne, List.pairwise_map];exact List.Pairwise.imp (fun {a b} hab => by simp; omega) (List.pairwise_lt_range (n := O'.length))
     · rw [List.nodup_iff_pairwise_ne, List.pairwise_map];exact List.Pairwise.imp (fun {a b} hab => by simp; omega) (List.pairwise_lt_range (n := Y.length))
     · intro a ha b hb;obtain ⟨i, _, rfl⟩ := List.mem_map.1 ha;obtain ⟨j, _, rfl⟩ := List.mem_map.1 hb;simp
end Gv
namespace Gv.Tryz
open Go Gv Go.Proofs
theorem QmD (m : GM) (h : Hs) (st s : Nat) (hl : (parsM m h).length ≤ 4398046511104) (X : List GObj) : GCalls Tryz.prog 103 [.ptr 0 st 0 0, .agg (bytesG h.1)] (.row st 1 [[.map 1 s]] :: .map s (kvG encL m) :: X) (fun g O' => g = .tuple [.slice (hsG (parsM m h)) .none, .bool (look m h).isSome] ∧ O' = .row st 1 [[.map 1 s]] :: .map s (kvG encL m) :: X) :=
 GCalls.keep2 (QmR m h st s hl) rfl X
theorem QmE (K Z : List Cm) : List.take K.length (csG (K ++ Z)) = csG K := by rw [Qbg]; exact List.take_left' (Qae K)
inductive Qu6 : GVal → (Hs → Bool) → Prop
 | nil : Qu6 (.lit .nilFunc) (fun _ => false)
 | fn (F : FuncId) (caps : List GVal) (dn : Hs → Bool) : (∀ h : Hs, GPure Tryz.prog F (.agg (bytesG h.1) :: caps) (.bool (dn h))) → Qu6 (.func (.func F) [] caps) dn
def QaP (m : GM) (dn : Hs → Bool) (S : List Hs) (h : Hs) : Bool := (look m h).isSome && !(decide (h ∈ S)) && !(dn h)
abbrev WSt := List Hs × List Hs
inductive VisL (m : GM) (dn : Hs → Bool) : List Hs → WSt → WSt → Prop
 | nil (so : WSt) : VisL m dn [] so so
 | skip (p : Hs) (r : List Hs) (so T : WSt) : QaP m dn so.1 p = false → VisL m dn r so T → VisL m dn (p :: r) so T
 | go (p : Hs) (r : List Hs) (so so1 T : WSt) : QaP m dn so.1 p = true → VisL m dn (parsM m p) (so.1 ++ [p], so.2) so1 → VisL m dn r (so1.1, so1.2 ++ [p]) T → VisL m dn (p :: r) so T
theorem VisL.inv_skip {m : GM} {dn : Hs → Bool} {p : Hs} {r : List Hs} {so T : WSt} (h : VisL m dn (p :: r) so T) (hp : QaP m dn so.1 p = false) : VisL m dn r so T := by
 cases h with
 | skip _ _ _ _ _ h => exact h
 | go _ _ _ _ _ h1 => rw [h1] at hp; cases hp
theorem VisL.inv_go {m : GM} {dn : Hs → Bool} {p : Hs} {r : List Hs} {so T : WSt} (h : VisL m dn (p :: r) so T) (hp : QaP m dn so.1 p = true) : ∃ so1, VisL m dn (parsM m p) (so.1 ++ [p], so.2) so1 ∧ VisL m dn r (so1.1, so1.2 ++ [p]) T := by
 cases h with
 | skip _ _ _ _ h1 => rw [h1] at hp; cases hp
 | go _ _ _ so1 _ _ h2 h3 => exact ⟨so1, h2, h3⟩
theorem VisL.inv_nil {m : GM} {dn : Hs → Bool} {so T : WSt} (h : VisL m dn [] so T) : T = so := by cases h; rfl
def FinS (m : GM) (dn : Hs → Bool) : List Cm → WSt → WSt → Prop
 | [], so, T => T = so
 | (x, ps) :: r, so, T => ∃ so1, VisL m dn ps so so1 ∧ FinS m dn r (so1.1, so1.2 ++ [x]) T
structure SInv (m : GM) (S out : List Hs) (n : Nat) : Prop where
 nodup : S.Nodup
 keys : ∀ x ∈ S, (look m x).isSome = true
 len : out.length + n ≤ S.length
theorem QbF {α : Type} {m : List (Hs × α)} {x : Hs} (h : (look m x).isSome = true) : x ∈ m.map (·.1) := by
 induction m with
 | nil => cases h
 | cons p r ih =>
  rw [look] at h;by_cases e : x = p.1
  · simp [e]
  · rw [if_neg e] at h; simp [ih h]
theorem SInv.le {m : GM} {S out : List Hs} {n : Nat} (h : SInv m S out n) : S.length ≤ m.length := by
 have := Qaz S (m.map (·.1)) h.nodup fun x hx => QbF (h.keys x hx)
 simpa using this
theorem QcW {m : GM} {dn : Hs → Bool} {S : List Hs} {h : Hs} (hp : QaP m dn S h = true) : (look m h).isSome = true ∧ h ∉ S ∧ dn h = false := by
 unfold QaP at hp
 simp only [Bool.and_eq_true, Bool.not_eq_true', decide_eq_false_iff_not] at hp
 exact ⟨hp.1.1, hp.1.2, hp.2⟩
theorem SInv.push {m : GM} {S out : List Hs} {n : Nat} (h : SInv m S out n) {dn : Hs → Bool} {x : Hs} (hp : QaP m dn S x = true) : SInv m (S ++ [x]) out (n + 1) := by
 obtain ⟨h1, h2, _⟩ := QcW hp
 refine ⟨?_, fun y hy => ?_, by have := h.len; rw [List.length_append, List.length_singleton]; omega⟩
 · rw [List.nodup_append];exact ⟨h.nodup, by simp, fun a ha b hb => by rw [List.mem_singleton.1 hb]; exact fun e => h2 (e ▸ ha)⟩
 · rcases List.mem_append.1 hy with q | q
   · exact h.keys y q
   · rw [List.mem_singleton.1 q]; exact h1
def wMu (m : GM) (S : List Hs) (K : List Cm) : Nat := 6 * (m.length - S.length) + (K.map fun c => c.2.length + 1).sum
theorem GCalls.args {P : Program} {f : FuncId} {args args' : List GVal} {O : List GObj} {K : GVal → List GObj → Prop} (h : GCalls P f args O K) (ha : GLes args' args) : GCalls P f args' O K :=
 ⟨h.1, fun E w vs hs hv => h.2 E w vs hs ⟨by rw [hv.1, ha.len], fun k g hg => by
  obtain ⟨x, hx, hle⟩ := ha.at_ k g hg;exact hle _ _ (hv.2 k x hx)⟩⟩
def hq (a b c : UInt8) : Hs := ⟨a :: b :: c :: List.replicate 29 0, rfl⟩
def q1 : Hs := hq 1 0 0
theorem qE1 : ([.int .u8 1, .int .u8 0, .int .u8 0, .int .u8 0, .int .u8 0, .int .u8 0, .int .u8 0, .int .u8 0, .int .u8 0, .int .u8 0, .int .u8 0, .int .u8 0, .int .u8 0, .int .u8 0, .int .u8 0, .int .u8 0, .int .u8 0, .int .u8 0, .int .u8 0, .int .u8 0, .int .u8 0, .int .u8 0, .int .u8 0, .int .u8 0, .int .u8 0, .int .u8 0, .int .u8 0, .int .u8 0, .int .u8 0, .int .u8 0, .int .u8 0, .int .u8 0] : List GVal) = bytesG q1.1 := rfl
theorem qR1 (x : GVal) : ([.int .u8 1, .int .u8 0, .int .u8 0, .int .u8 0, .int .u8 0, .int .u8 0, .int .u8 0, .int .u8 0, .int .u8 0, .int .u8 0, .int .u8 0, .int .u8 0, .int .u8 0, .int .u8 0, .int .u8 0, .int .u8 0, .int .u8 0, .int .u8 0, .int .u8 0, .int .u8 0, .int .u8 0, .int .u8 0, .int .u8 0, .int .u8 0, .int .u8 0, .int .u8 0, .int .u8 0, .int .u8 0, .int .u8 0, .int .u8 0, .int .u8 0, .int .u8 0, x] : List GVal) = bytesG q1.1 ++ [x] := rfl
def q2 : Hs := hq 2 0 0
theorem qE2 : ([.int .u8 2, .int .u8 0, .int .u8 0, .int .u8 0, .int .u8 0, .int .u8 0, .int .u8 0, .int .u8 0, .int .u8 0, .int .u8 0, .int .u8 0, .int .u8 0, .int .u8 0, .int .u8 0, .int .u8 0, .int .u8 0, .int .u8 0, .int .u8 0, .int .u8 0, .int .u8 0, .int .u8 0, .int .u8 0, .int .u8 0, .int .u8 0, .int .u8 0, .int .u8 0, .int .u8 0, .int .u8 0, .int .u8 0, .int .u8 0, .int .u8 0, .int .u8 0] : List GVal) = bytesG q2.1 := rfl
theorem qR2 (x : GVal) : ([.int .u8 2, .int .u8 0, .int .u8 0, .int .u8 0, .int .u8 0, .int .u8 0, .int .u8 0, .int .u8 0, .int .u8 0, .int .u8 0, .int .u8 0, .int .u8 0, .int .u8 0, .int .u8 0, .int .u8 0, .int .u8 0, .int .u8 0, .int .u8 0, .int .u8 0, .int .u8 0, .int .u8 0, .int .u8 0, .int .u8 0, .int .u8 0, .int .u8 0, .int .u8 0, .int .u8 0, .int .u8 0, .int .u8 0, .int .u8 0, .int .u8 0, .int .u8 0, x] : List GVal) = bytesG q2.1 ++ [x] := rfl
def q3 : Hs := hq 3 0 0
def q4 : Hs := hq 4 0 0
theorem QjM {M : GM} (rk : Hs → Nat) (hr : ∀ p ∈ M, ∀ y ∈ p.2, rk y < rk p.1) {l : List Hs} {n : Nat} (hl : ∀ x ∈ l, rk x < n) {x : Hs} (h : Reach (parsM M) l x) : rk x < n := by
 induction h with
 | base x hx => exact hl x hx
 | step x y _ hy ih =>
  obtain ⟨p, h1, h2, h3⟩ := Qdj hy;have := hr p h1 y h3;rw [h2] at this;omega
theorem Qh8 {m M : GM} {cs : List Cm} (rk : Hs → Nat) (hr : ∀ p ∈ M, ∀ y ∈ p.2, rk y < rk p.1) (hc : ∀ c ∈ cs, ∀ y ∈ c.2, rk y < rk c.1) : Qa9 m M cs = none := by
 unfold Qa9
 rw [List.findSome?_eq_none_iff]
 intro c hcm
 unfold QbN
 split
 · rfl
 · rw [if_neg];intro h;have := QjM rk hr (hc c hcm) h;omega
def rkQ (h : Hs) : Nat := (h.1.headD 0).toNat
theorem fourG : GOK ([] : GM) := ⟨by simp, by simp⟩
open Nat (reduceEqDiff reduceAdd reduceSub reduceLeDiff reduceMul reduceLT)
def numK (l : List Hs) (b : Int) (a : List (Hs × Int)) : Nat → List (Hs × Int)
 | 0 => a
 | k + 1 => mset (numK l b a k) (l.getD k h0) (b + (k : Int))
abbrev splI : Int := 1099511627776
def ofM (M O : List Hs) : List (Hs × Int) := numK O splI (numK M 0 [] M.length) O.length
abbrev idO (ti so : Nat) (n : Int) (M O : List Hs) : List GObj := [.row ti 4 [[.int .i64 n, .slice (hsG M) .none, .slice (hsG O) .none, .map 1 so]], .map so (kvG encI (ofM M O))]
theorem mput (A : List (Hs × Int)) (x : Hs) (v : Int) : (∃ i, idxM A x = some i ∧ (∃ w, (kvG encI A)[i]? = some (.agg (bytesG x.1), encI w)) ∧ (kvG encI A).set i (.agg (bytesG x.1), .int .i64 v) = kvG encI (mset A x v)) ∨ (idxM A x = none ∧ kvG encI A ++ [(.agg (bytesG x.1), .int .i64 v)] = kvG encI (mset A x v)) := by
 cases e : look A x with
 | some w =>
  obtain ⟨i, hi, hv, hw⟩ := look_idx encI A x w e;exact .inl ⟨i, hi, ⟨w, hv⟩, hw v⟩
 | none =>
  obtain ⟨hi, hw⟩ := look_none encI A x e;exact .inr ⟨hi, hw v⟩
def zb24 := ai @hsG_len <| ai @all_hsG <| ai @kfind_h <| @v32
theorem Qhv (ti : Nat) (m0 x1 x2 x3 : GVal) (M O : List Hs) (hM : M.length ≤ 1000000) (hO : O.length ≤ 1000000) : GCalls Tryz.prog 42 [.ptr 0 ti 0 0, .slice (hsG M) .none, .slice (hsG O) .none] [.row ti 4 [[m0, x1, x2, x3]]]
 (fun g O' => ∃ so, g = .tuple [] ∧ O' = [.row ti 4 [[m0, .slice (hsG M) .none, .slice (hsG O) .none, .map 1 so]], .map so (kvG encI (ofM M O))]) := by
 refine GCalls.dropTo ?_
 refine h42.ca ?_
 refine vq0 ?_
 intro so
 refine Qab (ι := { k : Nat // k ≤ M.length }) (fun k => ⟨[.ptr 0 ti 0 0, .slice (hsG M) .none, .slice (hsG O) .none] ++ List.replicate 19 .any ++ [.slice (hsG M) .none, .int .i64 M.length, .int .i64 (k.1 : Nat)] ++ List.replicate 26 .any, [.row ti 4 [[m0, .slice (hsG M) .none, .slice (hsG O) .none, .map 1 so]], .map so (kvG encI (numK M 0 [] k.1))]⟩) (fun k => M.length - k.1) ?_ ?_
 · exact Into.first ⟨0, Nat.zero_le _⟩ ⟨[], by simp [kvG, numK]⟩ (by simp [WL, leG_self, leG_any, hsG_len])
 · rintro ⟨k, hk⟩
   change k ≤ M.length at hk
   by_cases h : k < M.length
   · have d0 : ((k : Int) < (M.length : Int)) = True := eq_true (by omega);have eS := hsG_at M k h;have eT : numK M 0 [] (k + 1) = mset (numK M 0 [] k) (M.getD k h0) (0 + (k : Int)) := rfl;rw [Int.zero_add] at eT;generalize M.getD k h0 = x at *;have eP := mput (numK M 0 [] k) x k
     rw [← eT] at eP;generalize numK M 0 [] k = A at *;rcases eP with ⟨i, hi, ⟨w, hv⟩, hw⟩ | ⟨hi, hw⟩
     · refine vq6 d0 eS hi hv hw zb24 ?_;refine ⟨by omega, fun sb => ?_⟩;exact Into.at ⟨k + 1, h⟩ (by show _ < _; simp; omega) ⟨[.row sb 32 [bytesG x.1]], by simp⟩ (by simp [WL, leG_self, leG_any, Qaa])
     · refine vq5 d0 eS hi hw zb24 ?_;refine ⟨by omega, fun sb => ?_⟩;exact Into.at ⟨k + 1, h⟩ (by show _ < _; simp; omega) ⟨[.row sb 32 [bytesG x.1]], by simp⟩ (by simp [WL, leG_self, leG_any, Qaa])
   · have d0 : ((k : Int) < (M.length : Int)) = False := eq_false (by omega);have ek : k = M.length := by omega
     subst ek;refine vq1 d0 ?_;refine Qab (ι := { k : Nat // k ≤ O.length }) (fun k => ⟨[.ptr 0 ti 0 0, .slice (hsG M) .none, .slice (hsG O) .none] ++ List.replicate 33 .any ++ [.slice (hsG O) .none, .int .i64 O.length, .int .i64 (k.1 : Nat)] ++ List.replicate 12 .any, [.row ti 4 [[m0, .slice (hsG M) .none, .slice (hsG O) .none, .map 1 so]], .map so (kvG encI (numK O splI (numK M 0 [] M.length) k.1))]⟩) (fun k => O.length - k.1) ?_ ?_
     · exact Into.first ⟨0, Nat.zero_le _⟩ ⟨[], by simp [numK]⟩ (by simp [WL, leG_self, leG_any, hsG_len])
     · rintro ⟨k, hk⟩
       change k ≤ O.length at hk
       by_cases h : k < O.length
       · have d0 : ((k : Int) < (O.length : Int)) = True := eq_true (by omega);have eS := hsG_at O k h;have eT : numK O splI (numK M 0 [] M.length) (k + 1) = mset (numK O splI (numK M 0 [] M.length) k) (O.getD k h0) (splI + (k : Int)) := rfl;generalize O.getD k h0 = x at *;have eP := mput (numK O splI (numK M 0 [] M.length) k) x (splI + k)
         rw [← eT] at eP;generalize numK O splI (numK M 0 [] M.length) k = A at *;rcases eP with ⟨i, hi, ⟨w, hv⟩, hw⟩ | ⟨hi, hw⟩
         · refine vq6 d0 eS hi hv hw zb24 ?_;refine ⟨by omega, fun sb => ?_⟩;exact Into.at ⟨k + 1, h⟩ (by show _ < _; simp; omega) ⟨[.row sb 32 [bytesG x.1]], by simp⟩ (by simp [WL, leG_self, leG_any, Qaa])
         · refine vq5 d0 eS hi hw zb24 ?_;refine ⟨by omega, fun sb => ?_⟩;exact Into.at ⟨k + 1, h⟩ (by show _ < _; simp; omega) ⟨[.row sb 32 [bytesG x.1]], by simp⟩ (by simp [WL, leG_self, leG_any, Qaa])
       · have d0 : ((k : Int) < (O.length : Int)) = False := eq_false (by omega);have ek : k = O.length := by omega
         subst ek;refine vq1 d0 ?_;exact ⟨.tuple [], _, [], (List.append_nil _).symm, leA_refl _, so, rfl, rfl⟩
theorem Qd4 (ti so : Nat) (n : Int) (M O : List Hs) : GCalls Tryz.prog 15 [.ptr 0 ti 0 0] (idO ti so n M O) (fun g O' => g = .int .i64 M.length ∧ O' = idO ti so n M O) := by
 refine h15.ca ?_
 exact vd1 @hsG_len
theorem QfO (ti so : Nat) (n : Int) (M O : List Hs) : GCalls Tryz.prog 26 [.ptr 0 ti 0 0] (idO ti so n M O) (fun g O' => g = .int .i64 O.length ∧ O' = idO ti so n M O) := by
 refine h26.ca ?_
 exact vd1 @hsG_len
def idV (m : List (Hs × Int)) (h : Hs) : GVal := .tuple [.int .i64 ((look m h).getD 0), .bool (look m h).isSome]
theorem iID (ti so : Nat) (n : Int) (M O : List Hs) (h : Hs) : GCalls Tryz.prog 17 [.ptr 0 ti 0 0, .agg (bytesG h.1)] (idO ti so n M O) (fun g O' => g = idV (ofM M O) h ∧ O' = idO ti so n M O) := by
 cases e : look (ofM M O) h with
 | some v =>
  obtain ⟨i, hi, hv, _⟩ := look_idx encI (ofM M O) h v e;have ev : idV (ofM M O) h = .tuple [.int .i64 v, .bool true] := by unfold idV; rw [e]; rfl
  rw [ev];refine h17.ca ?_;exact vd4 @kfind_h hi hv @v32
 | none =>
  obtain ⟨hi, _⟩ := look_none encI (ofM M O) h e;have ev : idV (ofM M O) h = .tuple [.int .i64 0, .bool false] := by unfold idV; rw [e]; rfl
  rw [ev];refine h17.ca ?_;exact vd3 @kfind_h hi @v32
def Qar (m : List (Hs × Int)) (h : Hs) : Bool := match look m h with
 | some v => decide (v < splI)
 | none => false
end Gv.Tryz
namespace Go
open Go.Maps Go.RowKit Go.MapKept
def WalkAt (w : World) (b r : Nat) (es : Array MapEntry) (clock : Nat) (seen : Array Nat) : Prop :=
 ∃ since c0, w.heap[b]? = some (.map es clock) ∧ w.heap[r]? = some (.mapIter (some b) since seen c0) ∧ (∀ x ∈ es.toList, x.born < since) ∧ since ≤ c0 ∧ since ≤ clock
theorem WalkAt.of_walks {w w' : World} {b r clock : Nat} {es : Array MapEntry} {seen : Array Nat} (h : WalkAt w b r es clock seen) (hk : KeepsWalks w w') : WalkAt w' b r es clock seen := by
 obtain ⟨since, c0, h1, h2, h3, h4, h5⟩ := h
 exact ⟨since, c0, hk.same b _ h1 rfl, hk.same r _ h2 rfl, h3, h4, h5⟩
theorem WalkAt.iter_walk {w : World} {b r clock : Nat} {es : Array MapEntry} {seen : Array Nat} (h : WalkAt w b r es clock seen) : ∃ o : Obj, w.heap[r]? = some o ∧ o.isWalk = true := by
 obtain ⟨since, c0, h1, h2, _⟩ := h
 exact ⟨_, h2, rfl⟩
theorem WalkAt.left_eq {w : World} {b r clock : Nat} {es : Array MapEntry} {seen : Array Nat} (h : WalkAt w b r es clock seen) : w.rangeLeft b r = (leftOf es seen).size := by
 obtain ⟨since, c0, h1, h2, _⟩ := h
 simp [World.rangeLeft, h1, h2]
theorem QfU {α : Type} : ∀ (l m : List α), l.Nodup → (∀ x ∈ l, x ∈ m) → l.length ≤ m.length
 | [], m, _, _ => by simp
 | a :: r, m, h, hs => by
  obtain ⟨p, q, rfl⟩ := List.append_of_mem (hs a (by simp));have h1 := List.nodup_cons.1 h;have := QfU r (p ++ q) h1.2 (fun x hx => by
   have h2 := hs x (by simp [hx]);have hne : x ≠ a := fun e => h1.1 (e ▸ hx)
   simp at h2 ⊢;rcases h2 with h2 | h2 | h2
   · exact .inl h2
   · exact absurd h2 hne
   · exact .inr h2)
  simp at this ⊢;omega
def Came (es : Array MapEntry) (seen : Array Nat) (xs : List MapEntry) : Prop := seen = (xs.map MapEntry.born).toArray ∧ xs.Nodup ∧ (∀ x ∈ xs, x ∈ es.toList)
theorem Came.nil (es : Array MapEntry) : Came es #[] [] := ⟨rfl, List.nodup_nil, by simp⟩
theorem Qco {F : Fence} {n : Nat} {P : Program} (w : World) {ops : Array Oper} {rest : List Oper} {o : Oper} {a : Act} {Q : Exit → Act → World → Prop} (hg : o.guard = none) (m : Operand) (t : TypeId) (hop : o.op = Op.range t m) (k e : TypeId) (ht : P.underlying t = some (.map k e)) (b clock : Nat) (es : Array MapEntry)
 (hm : a.eval m = .map (some b)) (hb : w.heap[b]? = some (.map es clock)) (hbo : Gv.BornOK es clock)
 (hK : ∀ w', WalkAt w' b w.heap.size es clock #[] → w.grownBy w' none → w'.heap.size = w.heap.size + 1 → wpListIn F n P ops Q rest (a.put o.dst (.pointer (some ⟨w.heap.size, 0, none⟩))) w') :
 wpListIn F n P ops Q (o :: rest) a w := by
 refine wpListIn_plain hg fun K' hK' => ?_
 have hrun := run_range_map w t k e b es clock ht hb
 have hlt := (Array.getElem?_eq_some_iff.1 hb).1
 unfold Oper.wpIn
 refine ⟨?_, ?_⟩
 · simp [Oper.about, hop]
 · rw [Oper.semAt_plain F _ _ (by rw [hop]; intro c hc'; cases hc')];simp [execOp, hop, hm, hrun, Result.andThen];exact hK' _ _ (hK _ ⟨clock, clock, ((MapKept.heap_alloc w _).2 b hlt).trans hb, (MapKept.heap_alloc w _).1, hbo.1, Nat.le_refl _, Nat.le_refl _⟩ (World.grownBy_alloc w _ none) (by simp))
theorem QcE {F : Fence} {n : Nat} {P : Program} (w : World) {ops : Array Oper} {rest : List Oper} {o : Oper} {a : Act} {Q : Exit → Act → World → Prop} (hg : o.guard = none) (it : Operand) (hop : o.op = Op.next it false) (b r clock : Nat) (es : Array MapEntry) (hbo : Gv.BornOK es clock) (seen : Array Nat) (xs : List MapEntry) (hx : Came es seen xs)
 (hit : a.eval it = .pointer (some ⟨r, 0, none⟩)) (h : WalkAt w b r es clock seen)
 (hDone : xs.Perm es.toList → wpListIn F n P ops Q rest (a.put o.dst (.tuple #[.bool false])) w)
 (hMore : ∀ (e : MapEntry) (w' : World), e ∈ es.toList → Came es (seen.push e.born) (xs ++ [e]) → xs.length < es.size → WalkAt w' b r es clock (seen.push e.born) → w'.rangeLeft b r < w.rangeLeft b r →
  w.grownBy w' (some r) → w'.heap.size = w.heap.size → (Instr.entry (.pointer (some ⟨r, 0, none⟩))).run P w' = .ok (.tuple #[e.key, e.val]) w' → wpListIn F n P ops Q rest (a.put o.dst (.tuple #[.bool true, e.key, e.val])) w') :
 wpListIn F n P ops Q (o :: rest) a w := by
 refine wpListIn_plain hg fun K' hK' => ?_
 unfold Oper.wpIn
 refine ⟨by simp [Oper.about, hop], ?_⟩
 rw [Oper.semAt_plain F _ _ (by rw [hop]; intro c hc'; cases hc')]
 have hle := h.left_eq
 obtain ⟨since, c0, hb, hr, hold, hsc, hsk⟩ := h
 obtain ⟨hse, hxn, hxm⟩ := hx
 have hne : r ≠ b := fun e => by rw [e, hb] at hr; cases hr
 have hnd : es.toList.Nodup := hbo.2.imp fun h e => h (congrArg _ e)
 have hbn : (es.toList.map (·.born)).Nodup := List.pairwise_map.2 hbo.2
 rcases run_next_at (P := P) w o.type r b since c0 seen es clock hr hb hold hsc with ⟨h0, hrun⟩ | ⟨e, he, w1, hal, hrun⟩
 · simp [execOp, hop, hit, hrun, Result.andThen];refine hK' _ _ (hDone ?_);refine (List.perm_ext_iff_of_nodup hxn hnd).2 fun x => ⟨fun q => hxm x q, fun q => ?_⟩
   have hs := all_seen es seen h0 x q;rw [hse] at hs;have hm : x.born ∈ xs.map MapEntry.born := by simpa using hs
   obtain ⟨y, hy, ey⟩ := List.mem_map.1 hm
   rwa [← born_inj hbn (hxm y hy) q ey]
 · simp [execOp, hop, hit, hrun, Result.andThen];have hr1 : w1.heap[r]? = some (.mapIter (some b) since seen c0) := by rcases hal with rfl | rfl <;> exact hr
   have hb1 : w1.heap[b]? = some (.map es clock) := by rcases hal with rfl | rfl <;> exact hb
   have hset := heap_set (o' := .mapIter (some b) since (seen.push e.born) clock) hr1;have hb' : (ChangeMaps.setBlock w1 r (.mapIter (some b) since (seen.push e.born) clock)).heap[b]? = some (.map es clock) := (hset.2 b (fun e1 => hne e1.symm)).trans hb1;obtain ⟨hem, hes⟩ := mem_left he;have hc : Came es (seen.push e.born) (xs ++ [e]) := by
    refine ⟨by rw [hse]; simp, List.nodup_append.2 ⟨hxn, by simp, fun y hy z hz => ?_⟩, fun y hy => ?_⟩
    · rw [List.mem_singleton.1 hz];intro q;have : e.born ∈ xs.map MapEntry.born := List.mem_map_of_mem (q ▸ hy);rw [hse] at hes;have h3 : (xs.map MapEntry.born).toArray.contains e.born = true := by simpa using this
      rw [h3] at hes; cases hes
    · rcases List.mem_append.1 hy with q | q
      · exact hxm y q
      · rw [List.mem_singleton.1 q]; exact hem
   have hlen : (xs ++ [e]).length ≤ es.toList.length := QfU _ _ hc.2.1 hc.2.2;have hw : WalkAt (ChangeMaps.setBlock w1 r (.mapIter (some b) since (seen.push e.born) clock)) b r es clock (seen.push e.born) := ⟨since, clock, hb', hset.1, hold, hsk, hsk⟩
   refine hK' _ _ (hMore e _ hem hc (by simp at hlen; omega) hw ?_ ?_ ?_ (run_entry_at _ r b since seen es clock e hset.1 hb' hem hbn))
   · rw [hle, hw.left_eq];exact left_shrinks es _ e he
   · rcases hal with rfl | rfl <;> exact ⟨rfl, rfl, rfl, by simp [ChangeMaps.setBlock], fun i _ hi => hset.2 i (fun e1 => hi (by rw [e1]))⟩
   · rcases hal with rfl | rfl <;> simp [ChangeMaps.setBlock]
section
variable {F : Fence} {n : Nat} {P : Program} {w w' : World} {ops : Array Oper} {rest : List Oper} {o : Oper} {a : Act} {Q : Exit → Act → World → Prop} {t : TypeId} {x y : Operand} {v : Value}
theorem Qcw (hg : o.guard = none) (hop : o.op = .load t x) (hr : (Instr.loadAt t (a.eval x)).run P w = .ok v w) (h : wpListIn F n P ops Q rest (a.put o.dst v) w) : wpListIn F n P ops Q (o :: rest) a w := by
 refine wpListIn_plain hg fun K' hK' => ?_
 unfold Oper.wpIn
 refine ⟨by simp [Oper.about, hop], ?_⟩
 rw [Oper.semAt_plain F _ _ (by rw [hop]; intro c hc'; cases hc')]
 unfold execOp
 simp only [hop, Sem.run_bind, Sem.run_pure, Result.andThen_ok, hr]
 exact hK' _ _ h
theorem Qcf (hg : o.guard = none) (hop : o.op = .alloc t) (hr : (Instr.alloc t true (.tuple #[])).run P w = .ok v w') (h : wpListIn F n P ops Q rest (a.put o.dst v) w') : wpListIn F n P ops Q (o :: rest) a w := by
 refine wpListIn_plain hg fun K' hK' => ?_
 unfold Oper.wpIn
 refine ⟨by simp [Oper.about, hop], ?_⟩
 rw [Oper.semAt_plain F _ _ (by rw [hop]; intro c hc'; cases hc')]
 unfold execOp
 simp only [hop, Sem.run_bind, Sem.run_pure, Result.andThen_ok, hr]
 exact hK' _ _ h
theorem Qcg (hg : o.guard = none) (hop : o.op = .store t x y) (hr : (Instr.storeAt t (a.eval x) (a.eval y)).run P w = .ok () w') (h : wpListIn F n P ops Q rest (a.put o.dst undef) w') : wpListIn F n P ops Q (o :: rest) a w := by
 refine wpListIn_plain hg fun K' hK' => ?_
 unfold Oper.wpIn
 refine ⟨by simp [Oper.about, hop], ?_⟩
 rw [Oper.semAt_plain F _ _ (by rw [hop]; intro c hc'; cases hc')]
 unfold execOp
 simp only [hop, Sem.run_bind, Sem.run_pure, Result.andThen_ok, hr]
 exact hK' _ _ h
theorem Qc1 (hg : o.guard = none) (hop : o.op = .buildSlice t 1 #[(0, x)]) (hr : (Instr.buildSlice t 1 #[(0, a.eval x)]).run P w = .ok v w') (h : wpListIn F n P ops Q rest (a.put o.dst v) w') : wpListIn F n P ops Q (o :: rest) a w := by
 refine wpListIn_plain hg fun K' hK' => ?_
 unfold Oper.wpIn
 refine ⟨by simp [Oper.about, hop], ?_⟩
 rw [Oper.semAt_plain F _ _ (by rw [hop]; intro c hc'; cases hc')]
 unfold execOp
 have he : (#[(0, x)] : Array (Nat × Operand)).map (fun p => (p.1, a.eval p.2)) = #[(0, a.eval x)] := by simp
 simp only [hop, Sem.run_bind, Sem.run_pure, Result.andThen_ok, he, hr]
 exact hK' _ _ h
end
end Go
namespace Gv
open Go
theorem HSim.belowSeal {E : Env} {O : List GObj} {w w' : World} (h : HSim E O w) (hb : RowKit.Below w.heap.size w w') {g n : Nat} {cur : Array Value} {el : TypeId} {fz : Nat × Nat} (hg : w.heap.size ≤ g) (hw : w'.heap[g]? = some (.cells cur el fz)) (h1 : ∀ (j : Nat) v, j < n → cur[j]? = some v → v.oneCell' = true) :
 HSim (E.sealTo g n cur) O w' ∧ Keep E O w (E.sealTo g n cur) O w' := by
 refine h.gen ⟨fun b o v hv => ?_, fun _ _ hs => hs⟩ h.fin hb.os ⟨hb.output, trivial⟩ hb.size (fun b => w.heap.size ≤ b) (fun b hb' => .inr hb') (fun k hk _ => hb.block k hk)
  (fun k o v hv => ?_) (fun k o v hk hv => ?_) (fun i obj ho => .inl ⟨ho, fun b hb' e => ?_⟩) (fun i j oi oj b hij hi hj hbi hbj e => ?_)
 · show (if b = g then (if o < n then cur[o]? else none) else E.snap b o) = some v;rw [if_neg (by have := h.lt hv; omega)]; exact hv
 · by_cases e : k = g
   · exact .inr (by omega)
   · left; simpa [Env.sealTo, e] using hv
 · have hv' : (if k = g then (if o < n then cur[o]? else none) else E.snap k o) = some v := hv;by_cases e : k = g
   · rw [if_pos e] at hv';by_cases hn : o < n
     · rw [if_pos hn] at hv';refine ⟨?_, h1 o v hn hv'⟩;rw [e];simp only [World.cell?, hw]
       simpa using hv'
     · rw [if_neg hn] at hv'; cases hv'
   · rw [if_neg e] at hv';have := h.lt hv'; omega
 · have := (h.real i obj ho).blk_lt hb'; omega
 · have e2 : oi.blk (E.sealTo g n cur) = oi.blk E := by cases oi <;> rfl
   rw [e2] at hbi;have := (h.real i oi hi).blk_lt hbi; omega
theorem HSim.belowO {E : Env} {O : List GObj} {w w' : World} (h : HSim E O w) (hb : RowKit.Below w.heap.size w w') : HSim E O w' ∧ Keep E O w E O w' :=
 h.gen (.refl E) h.fin hb.os ⟨hb.output, trivial⟩ hb.size (fun b => w.heap.size ≤ b) (fun b hb' => .inr hb') (fun k hk _ => hb.block k hk)
  (fun k o v hv => .inl hv) (fun k o v hk hv => absurd (h.lt hv) (by omega)) (fun i obj ho => .inl ⟨ho, fun b hb' e => by have := (h.real i obj ho).blk_lt hb'; omega⟩) (fun i j oi oj b hij hi hj hbi hbj e => by have := (h.real i oi hi).blk_lt hbi; omega)
open Go Go.RowKit Go.WideShapes Go.ChangeShapes
def Env.all (w : World) : Env := ⟨fun b o => match w.cell? ⟨b, o, none⟩ with
 | some v => if v.oneCell' = true then some v else none
 | none => none, fun _ => none⟩
theorem Env.all_at {w : World} {b o : Nat} {v : Value} (h : w.cell? ⟨b, o, none⟩ = some v) (hv : v.oneCell' = true) : (Env.all w).snap b o = some v := by
 simp [Env.all, h, hv]
def GlobsIn (w : World) : Prop := ∀ p ∈ globs, w.cell? ⟨p.1, p.2.1, none⟩ = some p.2.2 ∧ p.2.2.oneCell' = true
theorem globsIn_none {w : World} (h : globs = []) : GlobsIn w := fun p hp => by rw [h] at hp; cases hp
theorem HSim.all (w : World) (hg : GlobsIn w) : HSim (Env.all w) [] w := by
 have key : ∀ b o v, (Env.all w).snap b o = some v → w.cell? ⟨b, o, none⟩ = some v ∧ v.oneCell' = true := by
  intro b o v h;simp only [Env.all] at h;split at h
  · rename_i x hx;split at h
    · rename_i hv;simp only [Option.some.injEq] at h;subst h;exact ⟨hx, hv⟩
    · cases h
  · cases h
 exact ⟨⟨0, (fun c hc => by cases hc), fun _ _ => rfl⟩, fun b o v h => (key b o v h).1, fun b o v h => (key b o v h).2, fun i x hx => by simp at hx, fun i j oi oj b _ hi => by simp at hi, fun p hp => Env.all_at (hg p hp).1 (hg p hp).2⟩
inductive Sh where
 | int (k : IntKind)
 | bool
 | str
 | slice (e : Sh)
 | agg (l : List Sh)
mutual
def Sh.size : Sh → Nat
 | .agg l => Sh.sizes l
 | _ => 1
def Sh.sizes : List Sh → Nat
 | [] => 0
 | s :: r => s.size + Sh.sizes r
end
mutual
def shB (P : Program) : Sh → TypeId → Bool
 | .int k, t => match P.underlying t with
  | some (.int k') => k = k'
  | _ => false
 | .bool, t => match P.underlying t with
  | some .bool => true
  | _ => false
 | .str, t => match P.underlying t with
  | some .string => true
  | _ => false
 | .slice e, t => match P.underlying t with
  | some (.slice et) => shB P e et && P.cellsOf et == e.size && decide (0 < e.size)
  | _ => false
 | .agg l, t => match P.underlying t with
  | some (.struct fs) => shBs P l fs.toList 0 && P.cellsOf t == Sh.sizes l
  | some (.array n e) => l.length == n && (shAs P l e && P.cellsOf t == Sh.sizes l)
  | _ => false
def shAs (P : Program) : List Sh → TypeId → Bool
 | [], _ => true
 | s :: r, t => P.cellsOf t == s.size && (shB P s t && shAs P r t)
def shBs (P : Program) : List Sh → List Field → Nat → Bool
 | [], [], _ => true
 | s :: r, f :: fs, o => f.offset == o && P.cellsOf f.type == s.size && shB P s f.type && shBs P r fs (o + s.size)
 | _, _, _ => false
end
mutual
def Den : Sh → List GVal → Prop
 | .int k, gs => ∃ n, gs = [.int k n] ∧ (Lit.int k n).wf = true
 | .bool, gs => ∃ b, gs = [.bool b]
 | .str, gs => ∃ s, gs = [.str s] ∧ s.length ≤ maxLen
 | .slice e, gs => ∃ xs, gs = [.slice xs .none] ∧ xs.length ≤ maxLen ∧ ∀ x ∈ xs, Den e x
 | .agg l, gs => ∃ ps, gs = ps.flatten ∧ Dens l ps
def Dens : List Sh → List (List GVal) → Prop
 | [], ps => ps = []
 | s :: r, ps => ∃ p q, ps = p :: q ∧ Den s p ∧ Dens r q
end
def Qba (w : World) (cs : List Value) (gs : List GVal) : Prop :=
 cs.length = gs.length ∧ (∀ c ∈ cs, c.oneCell' = true) ∧ ∀ (j : Nat) c g, cs[j]? = some c → gs[j]? = some g → VR (Env.all w) c g
theorem Qba.one {w : World} {v : Value} {g : GVal} (hv : v.oneCell' = true) (h : VR (Env.all w) v g) : Qba w [v] [g] :=
 ⟨rfl, by simpa using hv, fun j c g' h1 h2 => by
  cases j with
  | zero => simp at h1 h2; subst h1; subst h2; exact h
  | succ j => simp at h1⟩
theorem Qba.append {w : World} {a b : List Value} {x y : List GVal} (h : Qba w a x) (k : Qba w b y) : Qba w (a ++ b) (x ++ y) := by
 refine ⟨by simp [h.1, k.1], fun c hc => ?_, fun j c g h1 h2 => ?_⟩
 · rcases List.mem_append.1 hc with hc | hc
   · exact h.2.1 c hc
   · exact k.2.1 c hc
 · by_cases hj : j < a.length
   · rw [List.getElem?_append_left hj] at h1;rw [List.getElem?_append_left (by rw [← h.1]; exact hj)] at h2;exact h.2.2 j c g h1 h2
   · rw [List.getElem?_append_right (by omega)] at h1;rw [List.getElem?_append_right (by rw [← h.1]; omega), ← h.1] at h2;exact k.2.2 _ c g h1 h2
section
variable {H : Type} {enc : TypeId × Value → H} {P : Program} {w : World} {spare : Nat → Bool} {held : Bool}
theorem Qit {base : Nat} {a : Addr} {n : Nat} {cs : List Value} (h : w.cells? base a n = some cs) : cs.length = n ∧ ∀ j, j < n → w.cell? (a.add j) = cs[j]? := by
 unfold World.cells? at h
 split at h
 · have hl := mapM_some_length h;refine ⟨by simpa using hl, fun j hj => ?_⟩;exact mapM_some_get h j j (by simp [hj])
 · cases h
theorem QfM {α : Type} {sz : Nat} : ∀ {xs : List (List α)}, (∀ x ∈ xs, x.length = sz) → xs.flatten.length = xs.length * sz
 | [], _ => by simp
 | x :: xs, h => by
  rw [List.flatten_cons, List.length_append, h x (by simp), QfM fun y hy => h y (by simp [hy])];simp [Nat.succ_mul, Nat.add_comm]
mutual
theorem rd : ∀ (S : Sh) (n : Nat) (t : TypeId) (cs : List Value) (x : DataW H × List MemPlace), shB P S t = true → DataW.trod enc P w 0 spare held n t cs = some x → ∃ gs, Qba w cs gs ∧ Den S gs ∧ cs.length = S.size
 | .int k, n, t, cs, x, hs, h => by
  unfold shB at hs;split at hs
  · rename_i k' hu;have hs : k = k' := by simpa using hs
    subst hs;obtain ⟨m, rfl, _, hwf⟩ := DataW.trod_int hu h;exact ⟨[.int k m], .one rfl (.int _ _), ⟨m, rfl, hwf⟩, rfl⟩
  · cases hs
 | .bool, n, t, cs, x, hs, h => by
  unfold shB at hs;split at hs
  · rename_i hu;obtain ⟨b, rfl, _⟩ := DataW.trod_bool hu h;exact ⟨[.bool b], .one rfl (.bool _), ⟨b, rfl⟩, rfl⟩
  · cases hs
 | .str, n, t, cs, x, hs, h => by
  unfold shB at hs;split at hs
  · rename_i hu;cases n with
    | zero => simp [DataW.trod] at h
    | succ n =>
     unfold DataW.trod at h;rw [hu] at h
     match cs, h with
     | [.string b], h =>
      simp only at h
      split at h
      · rename_i hl;refine ⟨[.str b.data.toList], .one rfl ?_, ⟨_, rfl, ?_⟩, rfl⟩
        · exact VR.str (E := Env.all w) b.data.toList
        · simpa using hl
      · cases h
  · cases hs
 | .slice e, n, t, cs, x, hs, h => by
  unfold shB at hs;split at hs
  · rename_i et hu;simp only [Bool.and_eq_true, beq_iff_eq] at hs;obtain ⟨⟨hs, hsz⟩, hpos⟩ := hs;have hpos : 0 < e.size := by simpa using hpos
    rcases DataW.trod_slice hu h with ⟨rfl, _⟩ | ⟨a, len, cap, elems, rest, m, rfl, rfl, _, _, hlc, hcm, hel, helem, _, _⟩
    · exact ⟨[.slice [] .none], .one rfl (.slice none 0 0 [] .none 0 (fun _ => .bool true) rfl (Nat.le_refl _) (by simp) (fun hx => absurd rfl hx) (by simp) trivial), ⟨[], rfl, by simp, by simp⟩, rfl⟩
    · have each : ∀ i : Nat, ∃ cs gs, i < len → (w.cells? 0 (a.add (i * P.cellsOf et)) (P.cellsOf et)) = some cs ∧ Qba w cs gs ∧ Den e gs ∧ cs.length = e.size := by
       intro i;by_cases hi : i < len
       · have := helem i hi
         rw [← hel] at hi;rw [List.getElem?_eq_getElem hi, Option.bind_eq_some_iff] at this;obtain ⟨cs, h1, h2⟩ := this;obtain ⟨gs, h3, h4, h5⟩ := rd e m et cs _ hs h2;exact ⟨cs, gs, fun _ => ⟨h1, h3, h4, h5⟩⟩
       · exact ⟨[], [], fun h => absurd h hi⟩
      obtain ⟨C, hC⟩ := Classical.axiomOfChoice each;obtain ⟨G, hCG⟩ := Classical.axiomOfChoice hC;refine ⟨[.slice ((List.range len).map G) .none], .one rfl ?_, ⟨_, rfl, by simp; omega, fun x hx => ?_⟩, rfl⟩
      · have hG : ∀ i, i < len → (G i).length = e.size := fun i hi => by rw [← (hCG i hi).2.1.1]; exact (hCG i hi).2.2.2
        have cell : ∀ i, i < len → ∀ j, j < e.size → w.cell? ((a.add (i * e.size)).add j) = (C i)[j]? := fun i hi j hj => by
         have := Qit (hCG i hi).1;rw [hsz] at this;exact this.2 j hj
        have dm : ∀ k, k < len * e.size → k / e.size < len ∧ k % e.size < e.size ∧ k / e.size * e.size + k % e.size = k := fun k hk =>
         ⟨(Nat.div_lt_iff_lt_mul hpos).2 hk, Nat.mod_lt _ hpos, by rw [Nat.mul_comm]; exact Nat.div_add_mod k e.size⟩
        have hszs : ∀ x ∈ (List.range len).map G, x.length = e.size := fun x hx => by
         obtain ⟨i, hi, rfl⟩ := List.mem_map.1 hx;exact hG i (by simpa using hi)
        refine .slice (some a) len cap _ .none e.size (fun k => ((C (k / e.size))[k % e.size]?).getD (.bool true)) (by simp) hlc hszs (fun hx => ?_) (fun k g hk => ?_) trivial
        · have hlen : 0 < len := by
           rcases Nat.eq_zero_or_pos len with h0 | h0
           · subst h0; simp at hx
           · exact h0
          have in_ : ∀ i, i < len → ∀ j, j < e.size → ∃ v, (C i)[j]? = some v ∧ v.oneCell' = true := fun i hi j hj => by
           have hl : j < (C i).length := by rw [(hCG i hi).2.2.2]; exact hj
           exact ⟨_, List.getElem?_eq_getElem hl, (hCG i hi).2.1.2.1 _ (List.getElem_mem hl)⟩
          obtain ⟨b, off, spot⟩ := a;have hspot : spot = none := by
           obtain ⟨v, hv, _⟩ := in_ 0 hlen 0 hpos;have := cell 0 hlen 0 hpos;rw [hv] at this
           simpa [Addr.add] using World.cell?_spot this
          subst hspot;refine ⟨b, off, rfl, fun k hk => ?_⟩;obtain ⟨d1, d2, d3⟩ := dm k hk;obtain ⟨v, hv, hv2⟩ := in_ _ d1 _ d2;have := cell _ d1 _ d2;rw [hv] at this;rw [hv];refine Env.all_at ?_ hv2;rw [Qbp, Qbp, Nat.add_assoc, d3] at this;exact this
        · have hk' : k < len * e.size := by
           have := (List.getElem?_eq_some_iff.1 hk).1;rw [QfM hszs] at this
           simpa using this
          obtain ⟨d1, d2, d3⟩ := dm k hk';have hx : ((List.range len).map G)[k / e.size]? = some (G (k / e.size)) := by simp [d1]
          have e1 := QbA _ hszs (k / e.size) (k % e.size) _ hx d2;rw [d3, hk] at e1;have hl : k % e.size < (C (k / e.size)).length := by rw [(hCG _ d1).2.2.2]; exact d2
          rw [List.getElem?_eq_getElem hl];exact (hCG _ d1).2.1.2.2 _ _ _ (List.getElem?_eq_getElem hl) e1.symm
      · obtain ⟨i, hi, rfl⟩ := List.mem_map.1 hx;exact (hCG i (by simpa using hi)).2.2.1
  · cases hs
 | .agg l, n, t, cs, x, hs, h => by
  unfold shB at hs;split at hs
  · rename_i fs hu;simp only [Bool.and_eq_true, beq_iff_eq] at hs;obtain ⟨hs, hsz⟩ := hs;obtain ⟨xs, m, rfl, rfl, hcl, hxl, hf⟩ := DataW.trod_struct hu h;obtain ⟨ps, h1, h2⟩ := rds l m fs.toList cs 0 hs (by simpa [hsz] using hcl) (fun f hf' => by
     obtain ⟨i, hi⟩ := List.getElem?_of_mem hf';have := hf i f (by simpa using hi);have hlt : i < xs.length := by rw [hxl]; simpa using (List.getElem?_eq_some_iff.1 hi).1
     rw [List.getElem?_eq_getElem hlt] at this;exact ⟨_, this⟩)
    exact ⟨ps.flatten, by simpa using h1, ⟨ps, rfl, h2⟩, by rw [hcl, hsz]; rfl⟩
  · rename_i k et hu;simp only [Bool.and_eq_true, beq_iff_eq] at hs;obtain ⟨hlk, hs, hsz⟩ := hs;obtain ⟨xs, m, rfl, rfl, hcl, hxl, hf⟩ := DataW.trod_array hu h;obtain ⟨ps, h1, h2⟩ := rda l m et cs hs (by simpa [hsz] using hcl) (fun i hi => by
     have := hf i (by omega);rw [List.getElem?_eq_getElem (by omega)] at this;exact ⟨_, this⟩)
    exact ⟨ps.flatten, h1, ⟨ps, rfl, h2⟩, by rw [hcl, hsz]; rfl⟩
  · cases hs
theorem rda : ∀ (l : List Sh) (n : Nat) (et : TypeId) (cs : List Value), shAs P l et = true → cs.length = Sh.sizes l →
 (∀ i, i < l.length → ∃ x, DataW.trod enc P w 0 spare held n et ((cs.drop (i * P.cellsOf et)).take (P.cellsOf et)) = some x) → ∃ ps, Qba w cs ps.flatten ∧ Dens l ps
 | [], n, et, cs, hs, hl, h => by
  have : cs = [] := List.length_eq_zero_iff.1 hl;subst this;exact ⟨[], ⟨rfl, by simp, fun j c g h1 => by simp at h1⟩, rfl⟩
 | s :: r, n, et, cs, hs, hl, h => by
  unfold shAs at hs;simp only [Bool.and_eq_true, beq_iff_eq] at hs;obtain ⟨h1, h2, h3⟩ := hs;obtain ⟨x, hx⟩ := h 0 (by simp);rw [Nat.zero_mul, List.drop_zero] at hx;obtain ⟨gs, q1, q2, q3⟩ := rd s n et _ _ h2 hx;simp only [Sh.sizes] at hl;obtain ⟨ps, k1, k2⟩ := rda r n et (cs.drop (P.cellsOf et)) h3 (by rw [List.length_drop, hl, h1]; omega) (fun i hi => by
   obtain ⟨y, hy⟩ := h (i + 1) (by simpa using hi);rw [List.drop_drop];have e : P.cellsOf et + i * P.cellsOf et = (i + 1) * P.cellsOf et := by rw [Nat.succ_mul, Nat.add_comm]
   rw [e]; exact ⟨y, hy⟩)
  refine ⟨gs :: ps, ?_, ⟨gs, ps, rfl, q2, k2⟩⟩;rw [List.flatten_cons];have := q1.append k1
  rwa [List.take_append_drop] at this
theorem rds : ∀ (l : List Sh) (n : Nat) (fs : List Field) (cs : List Value) (o : Nat), shBs P l fs o = true → cs.length = o + Sh.sizes l →
 (∀ f ∈ fs, ∃ x, DataW.trod enc P w 0 spare held n f.type ((cs.drop f.offset).take (P.cellsOf f.type)) = some x) → ∃ ps, Qba w (cs.drop o) ps.flatten ∧ Dens l ps
 | [], n, fs, cs, o, hs, hl, h => by
  refine ⟨[], ?_, rfl⟩;rw [List.drop_eq_nil_of_le (by rw [hl]; simp [Sh.sizes])];exact ⟨rfl, by simp, fun j c g h1 => by simp at h1⟩
 | s :: r, n, fs, cs, o, hs, hl, h => by
  match fs, hs, h with
  | f :: fs, hs, h =>
   unfold shBs at hs;simp only [Bool.and_eq_true, beq_iff_eq] at hs;obtain ⟨⟨⟨h1, h2⟩, h3⟩, h4⟩ := hs;obtain ⟨x, hx⟩ := h f (by simp);obtain ⟨gs, q1, q2, q3⟩ := rd s n f.type _ _ h3 hx;simp only [Sh.sizes] at hl;obtain ⟨ps, k1, k2⟩ := rds r n fs cs (o + s.size) h4 (by rw [hl]; omega) (fun f' hf' => h f' (by simp [hf']));refine ⟨gs :: ps, ?_, ⟨gs, ps, rfl, q2, k2⟩⟩;rw [List.flatten_cons];have e : cs.drop o = (cs.drop f.offset).take (P.cellsOf f.type) ++ cs.drop (o + s.size) := by
    rw [h1, h2, ← List.drop_drop]; exact (List.take_append_drop _ _).symm
   rw [e];exact q1.append k1
  | [], hs, h => simp [shBs] at hs
end
def Sh.val : Sh → List GVal → GVal
 | .agg _, gs => .agg gs
 | _, gs => gs.headD .any
theorem arg_read {S : Sh} {t : TypeId} {r : Reach} {base : Nat} {v : Value} {d : DataW H} {ps : List MemPlace} (hs : shB P S t = true) (hval : Value.okWide P w r base t v) (h : DataW.Trod enc P w 0 spare held t v d ps) :
 ∃ gs, Den S gs ∧ VR (Env.all w) v (S.val gs) := by
 obtain ⟨n, h⟩ := h
 obtain ⟨gs, h1, h2, h3⟩ := rd S n t _ _ hs h
 refine ⟨gs, h2, ?_⟩
 have single : ∀ x : Value, v = x → x.cells.toList = [x] → (∃ g, gs = [g]) → S.val gs = gs.headD .any → VR (Env.all w) v (S.val gs) := by
  intro x hx hc ⟨g, hg⟩ hv;subst hx; subst hg;rw [hv];rw [hc] at h1;exact h1.2.2 0 _ _ rfl rfl
 cases S with
 | int k =>
  unfold shB at hs;split at hs
  · rename_i k' hu;obtain ⟨n, rfl⟩ := okWide_int hu hval;obtain ⟨m, e, _⟩ := h2;exact single _ rfl rfl ⟨_, e⟩ rfl
  · cases hs
 | bool =>
  unfold shB at hs;split at hs
  · rename_i hu;obtain ⟨n, rfl⟩ := okWide_bool hu hval;obtain ⟨m, e⟩ := h2;exact single _ rfl rfl ⟨_, e⟩ rfl
  · cases hs
 | str =>
  unfold shB at hs;split at hs
  · rename_i hu;obtain ⟨n, rfl⟩ := okWide_string hu hval;obtain ⟨m, e, _⟩ := h2;exact single _ rfl rfl ⟨_, e⟩ rfl
  · cases hs
 | slice e =>
  unfold shB at hs;split at hs
  · rename_i et hu;obtain ⟨a, len, cap, rfl⟩ := okWide_slice hu hval;obtain ⟨m, e, _⟩ := h2;exact single _ rfl rfl ⟨_, e⟩ rfl
  · cases hs
 | agg l =>
  unfold shB at hs;split at hs
  · rename_i fs hu;obtain ⟨cs, rfl, _⟩ := okWide_struct hu hval;refine .agg cs gs (by have := h1.1; simpa [Value.cells] using this) (fun j g hj => ?_);have hl : j < cs.size := by
     have := (List.getElem?_eq_some_iff.1 hj).1
     rw [← h1.1] at this; simpa [Value.cells] using this
    have := h1.2.2 j cs[j] g (by simp [Value.cells, hl]) hj
    simpa [Array.getD, hl] using this
  · rename_i n e hu;obtain ⟨cs, rfl⟩ : ∃ cs : Array Value, v = .agg cs := by
     simp only [Value.okWide, hu] at hval;obtain ⟨cs, h1, _⟩ := hval;exact ⟨cs, h1⟩
    refine .agg cs gs (by have := h1.1; simpa [Value.cells] using this) (fun j g hj => ?_);have hl : j < cs.size := by
     have := (List.getElem?_eq_some_iff.1 hj).1
     rw [← h1.1] at this; simpa [Value.cells] using this
    have := h1.2.2 j cs[j] g (by simp [Value.cells, hl]) hj
    simpa [Array.getD, hl] using this
  · cases hs
theorem GPure.lawAt {P : Program} {f : FuncId} {args : Array Value} {gs : List GVal} {w : World} (h : GPure P f gs (.bool true)) (ha : ArgsR (Env.all w) args gs) (hg : GlobsIn w := by exact Gv.globsIn_none rfl) :
 Calls P f args w fun e w' => e = .returned (.bool true) ∧ Old w w' := by
 refine (h.2 (Env.all w) w args (HSim.all w hg) ha).mono ?_
 rintro e w' ⟨v, E', O', g, rfl, h1, h2, h3, rfl, rfl⟩
 cases h3
 exact ⟨rfl, h2.old⟩
theorem ArgsR.nil {E : Env} : ArgsR E #[] [] := ⟨rfl, fun i g h => by simp at h⟩
theorem ArgsR.one {E : Env} {v : Value} {g : GVal} (h : VR E v g) : ArgsR E #[v] [g] := ⟨rfl, fun i g' hg => by
 cases i with
 | zero => simp at hg; subst hg; exact h
 | succ i => simp at hg⟩
theorem Old.trod {W W' : World} {t : TypeId} {v : Value} {d : DataW H} {ps : List MemPlace} (hl : laidOutB P = true) (hr : P.readableRec t = true) (hrow : t < P.types.size) (hb : Old W W') {sp : Nat → Bool}
 (h : DataW.Trod enc P W 0 (fun _ => true) true t v d ps) (hlt : ∀ x ∈ ps, x.block < W.heap.size) (hs : ∀ x ∈ ps, sp x.block = true) : DataW.Trod enc P W' 0 sp true t v d ps :=
 WideElems.Trod_stays hl hr hrow h (fun x hx => by
  have hp := hlt x hx;cases x with
  | cell b o => exact World.cell?_of_block (w := W) (hb.block b hp)
  | map b => exact hb.block b hp) hs
end
end Gv
namespace Gv.Tryz
open Go Gv Go.Proofs Go.RowKit
def encV (l : List UInt8) : Value := .agg (Qah l).toArray
theorem Qcn (l : List UInt8) : (Qah l).length = l.length := by simp [Qah]
theorem QcV (l : List UInt8) : ∀ v ∈ Qah l, v.oneCell' = true := by
 intro v hv
 obtain ⟨c, _, rfl⟩ := List.mem_map.1 hv
 rfl
theorem Qi3 (l : List UInt8) : (Qah l).toArray.all (·.oneCell') = true := by
 rw [Array.all_eq_true_iff_forall_mem]
 intro v hv
 exact QcV l v (by simpa using hv)
def Qc3 : Array Value := #[.int .u8 0, .int .u8 0, .int .u8 0, .int .u8 0, .int .u8 0, .int .u8 0, .int .u8 0, .int .u8 0, .int .u8 0, .int .u8 0, .int .u8 0, .int .u8 0, .int .u8 0, .int .u8 0, .int .u8 0, .int .u8 0, .int .u8 0, .int .u8 0, .int .u8 0, .int .u8 0, .int .u8 0, .int .u8 0, .int .u8 0, .int .u8 0, .int .u8 0, .int .u8 0, .int .u8 0, .int .u8 0, .int .u8 0, .int .u8 0, .int .u8 0, .int .u8 0]
theorem Qhx (w : World) : (Instr.alloc 44 true (.tuple #[])).run Tryz.prog w = .ok (.pointer (some ⟨w.heap.size, 0, none⟩)) (w.alloc (.cells Qc3 44)) := by
 unfold Instr.alloc
 simp only [Sem.run_bind, Tryz.zeroValue44, Result.andThen_ok]
 rfl
theorem QpQ : (Tryz.prog.info? 44).map (·.size) = some 32 := by kernel_rfl
theorem Qhy {w : World} {b : Nat} {old : Array Value} {t : TypeId} {l : List UInt8} (hl : l.length = 32) (hb : w.heap[b]? = some (.cells old t (0, 0))) (ho : old.size = 32) :
 (Instr.storeAt 44 (.pointer (some ⟨b, 0, none⟩)) (encV l)).run Tryz.prog w = .ok () (w.setRow b (Qah l).toArray) := by
 have hs : (Qah l).toArray.size = 32 := by rw [List.size_toArray, Qcn, hl]
 unfold Instr.storeAt
 simp only [Instr.sureAddr, Sem.run_bind, Sem.run_pure, Result.andThen_ok]
 exact run_storeVar_row w b t _ old _ hb (by rw [QpQ, hs]) (by rw [hs, ho]) (Qi3 l)
theorem QjR {w : World} {b : Nat} {t : TypeId} {fz : Nat × Nat} {l : List UInt8} (hl : l.length = 32) (h : w.heap[b]? = some (.cells (Qah l).toArray t fz)) : (Instr.loadAt 44 (.pointer (some ⟨b, 0, none⟩))).run Tryz.prog w = .ok (encV l) w := by
 have ht : tab Tryz.prog 44 = some (32, true) := by kernel_rfl
 obtain ⟨v, h1, h2⟩ := QfQ (P := Tryz.prog) (w := w) (E := Env.all w) ht (by decide) (b := b) (off := 0) (cs := bytesG l) (fun j => .int .u8 (l.getD j 0).toNat) (by simp [bytesG, hl]) (fun j hj => by simp [World.cell?, h, Qah, hl, hj, List.getD]) (fun j g hj _ => by
  simp only [bytesG, List.getElem?_map] at hj;cases hq : l[j]? with
  | none => rw [hq] at hj; cases hj
  | some c => rw [hq] at hj; simp at hj; subst hj; simp [List.getD, hq]; exact .int _ _)
 rw [List.take_of_length_le (by simp [bytesG, hl])] at h2
 rw [h1]
 have := Qgz (E := Env.all w) (vs := #[v]) (l := l) ⟨rfl, fun i g hg => by
  match i with
  | 0 => simp at hg; subst hg; exact h2
  | i + 1 => simp at hg⟩
 have e : v = .agg (Qah l).toArray := by simpa using this
 rw [e]; rfl
abbrev HL := { l : List UInt8 // l.length = 32 }
def encH (h : HL) : Value := encV h.1
theorem Qnx (F : Fence) (n : Nat) (h69 : F.fn 109) (hro : F.round = none) (hn : 1 ≤ n) (l Bm off b clock : Nat) (es : Array MapEntry) (hbo : BornOK es clock) (hks : ∀ e ∈ es.toList, ∃ h : HL, e.key = encH h) (J : List HL → World → Prop)
 (hY : ∀ pre x W, J pre W → pre.length < es.size → YieldAt F (n - 1) Tryz.prog l #[encH x] W fun e W' => e = .returned (.bool true) ∧ J (pre ++ [x]) W' ∧ KeepsWalks W W')
 (W : World) (hJ : AbidesFrom W.heap.size J)
 (hm : W.cell? ⟨Bm, off, none⟩ = some (.map (some b))) (hb : W.heap[b]? = some (.map es clock)) (h0 : J [] W) :
 CallsIn F n Tryz.prog 109 #[.func (.yield l) #[] #[], .pointer (some ⟨Bm, off, none⟩)] W fun e W' => (∃ v, e = .returned v) ∧ ∃ hs : List HL, (hs.map encH).Perm (es.toList.map MapEntry.key) ∧ J hs W' := by
 refine callsIn_of_wp Tryz.func109 rfl h69 ?_ hro
 simp only [Tryz.ntmps109, List.size_toArray, List.length_cons, List.length_nil, Nat.reduceAdd, Nat.reduceSub, Array.replicate_succ, Array.replicate_zero, List.push_toArray, List.append_toArray, List.nil_append, List.cons_append]
 gi_wp2_with (first
  | (gi_at_range; refine Qco _ rfl _ _ rfl _ _ Tryz.underlying107 b clock es rfl hb hbo ?_; intro w0 hrg0 hg0 hs0)
  | gi_in)
 go_frame
 gi_loopw [3] (fun _ wr => ∃ (seen : Array Nat) (xs : List MapEntry) (hs : List HL), WalkAt wr b W.heap.size es clock seen ∧ Came es seen xs ∧ hs.map encH = xs.map MapEntry.key ∧ J hs wr)
  (fun _ wr => wr.rangeLeft b W.heap.size)
 case atStart =>
  exact ⟨#[], [], [], hrg0, Came.nil es, rfl, hJ [] W w0 none h0 hg0 (fun r e => by cases e)⟩
 case round =>
  obtain ⟨seen, xs, hs, hrg, hC, hsx, hJs⟩ := hrel
  gi_wp2_with (first
   | (refine QcE _ rfl _ rfl b W.heap.size clock es hbo seen xs hC rfl hrg ?_ ?_)
   | gi_in)
  · -- NOTHING IS LEFT
    intro hp
    gi_wp2
    go_end0
    exact ⟨⟨_, rfl⟩, hs, by rw [hsx]; exact hp.map _, hJs⟩
  · -- AN ENTRY HAS COME: yield(k)
    intro e w2 hem hC2 hlt hrg2 hmu hg2 hs2 hen;obtain ⟨x, ex⟩ := hks e (by simpa using hem);have hsx2 : (hs ++ [x]).map encH = (xs ++ [e]).map MapEntry.key := by rw [List.map_append, List.map_append, hsx]; simp [ex]
    have hlen : hs.length < es.size := by
     have := congrArg List.length hsx;rw [List.length_map, List.length_map] at this;omega
    rw [ex] at hen ⊢;have hal := World.alloc_heap_new w2 (.cells Qc3 44);have hst := Qhy x.2 hal rfl;obtain ⟨w3, hw3⟩ : ∃ w3, (w2.alloc (.cells Qc3 44)).setRow w2.heap.size (Qah x.1).toArray = w3 := ⟨_, rfl⟩
    rw [hw3] at hst;have hx3 : w3.heap[w2.heap.size]? = some (.cells (Qah x.1).toArray 44 (0, 0)) := by rw [← hw3]; exact setRow_heap _ _ _ _ _ _ hal
    have ho3 : ∀ k, k < w2.heap.size → w3.heap[k]? = w2.heap[k]? := fun k hk => by
     rw [← hw3, setRow_other _ _ _ _ (by omega)];exact Below.heap_alloc _ _ k hk
    have hs3 : w3.heap.size = w2.heap.size + 1 := by rw [← hw3]; simp
    have hk3 : KeepsWalks w2 w3 := ⟨by omega, fun k o hk ho => (ho3 k (Array.getElem?_eq_some_iff.1 hk).1).trans hk⟩
    have hg3 : w2.grownBy w3 none := ⟨by rw [← hw3]; rfl, by rw [← hw3]; rfl, by rw [← hw3]; rfl, by omega, fun k hk _ => ho3 k hk⟩
    have hlo := QjR x.2 hx3;have hJ3 : J hs w3 := hJ hs w2 w3 none (hJ hs wr w2 (some W.heap.size) hJs hg2 (fun r e => by cases e; exact ⟨Nat.le_refl _, hrg.iter_walk⟩)) hg3 (fun r e => by cases e);have hrg3 := hrg2.of_walks hk3;have hmu3 : w3.rangeLeft b W.heap.size < wr.rangeLeft b W.heap.size := by rw [hrg3.left_eq, ← hrg2.left_eq]; exact hmu
    obtain ⟨fn, tmps, assign, body, hy, hR⟩ := hY hs x w3 hJ3 hlen
    change (Instr.yield l #[encV x.1]).run Tryz.prog w3 = _ at hy
    clear hw3 hs2
    gi_wp2_with (first
     | (refine Qcf rfl rfl (Qhx _) ?_)
     | (refine Qcg rfl rfl hst ?_)
     | (refine Qcw rfl rfl hlo ?_)
     | gi_in)
    refine hR.mono ?_;rintro e' W4 ⟨rfl, hJ4, hk4⟩
    gi_wp2
    have hrg4 := hrg3.of_walks hk4
    go_roundw
    case rel => exact ⟨_, xs ++ [e], hs ++ [x], hrg4, hC2, hsx2, hJ4⟩
    case measure => rw [hrg4.left_eq, ← hrg3.left_eq]; exact hmu3
open Go Gv Go.Proofs Go.RowKit Go.Maps Go.Sort Go.Shelf
theorem Qex (F : Fence) (n : Nat) (h69 : F.fn 109) (hro : F.round = none) (hn : 1 ≤ n) (Bm off b clock : Nat) (es : Array MapEntry) (hbo : BornOK es clock) (hks : ∀ e ∈ es.toList, ∃ h : HL, e.key = encH h) (w : World) (hBm : Bm < w.heap.size)
 (hm : w.cell? ⟨Bm, off, none⟩ = some (.map (some b))) (hb : w.heap[b]? = some (.map es clock)) :
 SeqGives F n Tryz.prog 109 #[.pointer (some ⟨Bm, off, none⟩)] encH (fun hs : List HL => (hs.map encH).Perm (es.toList.map MapEntry.key)) es.size w := fun l J W hW hJ hY h0 =>
 Qnx F n h69 hro hn l Bm off b clock es hbo hks J hY W hJ ((hW.cell (p := ⟨Bm, off, none⟩) hBm).trans hm) ((hW.block b (Array.getElem?_eq_some_iff.1 hb).1).trans hb) h0
theorem Qfy : ∀ (xs : List Value) (k : Nat) (cs : Array Value), k + xs.length = cs.size → ((xs.zipIdx k).foldl (fun cs p => cs.setIfInBounds p.2 p.1) cs).toList = cs.toList.take k ++ xs
 | [], k, cs, h => by simp at h ⊢; rw [List.take_of_length_le (by simp [h])]
 | x :: r, k, cs, h => by
  simp only [List.zipIdx_cons, List.foldl_cons];rw [Qfy r (k + 1) _ (by simp at h ⊢; omega)];have hk : k < cs.toList.length := by simp at h ⊢; omega
  rw [Array.toList_setIfInBounds, List.take_succ_eq_append_getElem (by simpa using hk), List.getElem_set_self];rw [List.take_set_of_le (Nat.le_refl k)];simp
theorem QoC (w : World) {l : List UInt8} (hl : l.length = 32) : (Instr.buildSlice 33 1 #[(0, encV l)]).run Tryz.prog w = .ok (.slice (some ⟨w.heap.size, 0, none⟩) 1 1) (w.alloc (.cells (Qah l).toArray 44)) := by
 have hs : (Qah l).toArray.size = 32 := by rw [List.size_toArray, Qcn, hl]
 have hf : ∀ a : Array Value, a.size = 32 → Instr.fill (fun i => some (i * 32, 32)) a [(0, encV l)] = some (Qah l).toArray := by
  intro a ha;have hc : (encV l).cells = (Qah l).toArray := rfl;simp only [Instr.fill, hc, hs, ha, ne_eq, not_true_eq_false, decide_false, Bool.false_or, Nat.zero_mul, gt_iff_lt, Nat.lt_irrefl, if_false, Bool.false_eq_true, Nat.zero_add]
  congr 1
  rw [← Array.foldl_toList, Array.toList_zipIdx];apply Array.ext';have := Qfy (Qah l) 0 a (by rw [Qcn, hl, ha]);rw [List.take_zero, List.nil_append] at this;exact this
 unfold Instr.buildSlice
 simp only [Sem.run_bind, run_underlying Tryz.underlying33, Tryz.sizeOf44, Result.andThen_ok]
 rw [if_neg (by decide)]
 rw [if_neg (by decide)]
 simp only [Sem.run_bind, Tryz.zeroValue44, Result.andThen_ok, Sem.run_pure]
 rw [hf _ (by simp)]
 rfl
def Qf6 : Code := (Code.region 2 #[{ dst := some 5, op := Op.alloc 44, type := 0, pos := "iter.go:51", after := #[], guard := none }, { dst := none, op := Op.store 44 (Operand.tmp 5) (Operand.tmp 7), type := 0, pos := "iter.go:51", after := #[{ on := 0, ground := Ground.data }, { on := 0, ground := Ground.phase }], guard := none }] false)
def Qko : Code := (Code.block 1 (Code.region 3 #[{ dst := some 8, op := Op.load 33 (Operand.tmp 2), type := 33, pos := "iter.go:52", after := #[], guard := none }, { dst := some 9, op := Op.load 44 (Operand.tmp 5), type := 44, pos := "iter.go:52", after := #[], guard := none }, { dst := some 10, op := Op.buildSlice 33 1 #[(0, Operand.tmp 9)], type := 33, pos := "iter.go:52", after := #[{ on := 1, ground := Ground.data }], guard := none }, { dst := some 11, op := Op.call { callee := Callee.builtin Builtin.append, args := #[Operand.tmp 8, Operand.tmp 10], argTypes := #[33, 33] }, type := 33, pos := "iter.go:52", after := #[{ on := 0, ground := Ground.data }, { on := 2, ground := Ground.data }], guard := none }, { dst := none, op := Op.store 33 (Operand.tmp 2) (Operand.tmp 11), type := 0, pos := "iter.go:52", after := #[{ on := 3, ground := Ground.data }, { on := 3, ground := Ground.chain }, { on := 0, ground := Ground.phase }, { on := 1, ground := Ground.phase }, { on := 2, ground := Ground.phase }, { on := 3, ground := Ground.phase }], guard := none }] false))
def Qez (fn : FuncId) (sv : Value) (Bs D : Nat) (st : LoopState) (pend : Option Code) : Loop :=
 { state := st, pending := pend, fn, tmps := #[.slice none 0 0, sv, .pointer (some ⟨Bs, 0, none⟩), undef, .slice none 0 0, undef, sv, undef, undef, undef, undef, undef, undef], params := #[7], assign := Qf6, body := Qko, defers := D }
def Qca (hs : List HL) : List Value := hs.flatMap fun h => Qah h.1
theorem Qfw (hs : List HL) : (Qca hs).length = hs.length * 32 := by
 induction hs with
 | nil => rfl
 | cons h r ih => simp only [Qca, List.flatMap_cons, List.length_append, List.length_cons] at ih ⊢; rw [ih, Qcn, h.2]; omega
theorem QhO (hs : List HL) (h : HL) : Qca (hs ++ [h]) = Qca hs ++ Qah h.1 := by simp [Qca]
structure ApAt (w0 : World) (fn : FuncId) (sv : Value) (Bs l D : Nat) (ss : List HL) (W : World) : Prop where
 box : ∃ v, W.heap[Bs]? = some (.cells #[v] 33 (0, 0)) ∧ W.ownsRow w0.heap.size 44 32 v ss.length (Qca ss) ∧ (v = .slice none 0 0 ↔ ss = [])
 L : W.heap[l]? = some (.loop (Qez fn sv Bs D .ready none))
 K : W.heap[D]? = some (.deferred (some []))
 below : Below w0.heap.size w0 W
theorem Qkp (w0 : World) (fn : FuncId) (sv : Value) (Bs l D B : Nat) (hB : w0.heap.size ≤ B) : AbidesFrom B (ApAt w0 fn sv Bs l D) := fun s W W' row h hg hrow => by
 have hrow' : ∀ r, row = some r → ∃ o : Obj, W.heap[r]? = some o ∧ o.isWalk = true := fun r e => (hrow r e).2
 obtain ⟨v, hv, hr, hn⟩ := h.box
 exact ⟨⟨v, (grownBy_keeps hg hrow' hv rfl).trans hv, ownsRow_abides_a hr hg hrow', hn⟩, (grownBy_keeps hg hrow' h.L rfl).trans h.L, (grownBy_keeps hg hrow' h.K rfl).trans h.K,
  h.below.grown hg h.below.size (fun k e => Nat.le_trans hB (hrow k e).1)⟩
end Gv.Tryz
