/- A nil slice in a struct's cell is given a row of its own. -/
import Derived.Test.YtnenmmdpclglhaaGreatDoorP6
import Derived.Test.YtnenmmdpclglhaaGreatDoorP9
import Derived.KernelRfl
import Derived.Maps.Range
import Derived.Sort.MapsRangeIn
import Derived.RangeFuncGives
import Derived.OpenShut
import Derived.Test.YtnenmmdpclglhaaGreatDoorP5
import Derived.ChangeArms
import Derived.Carry
import Derived.Shelf.SlIter.Collect
import Derived.Deep.RegionWith
import Derived.Test.YtnenmmdpclglhaaGreatDoorProg
import Derived.Test.YtnenmmdpclglhaaGreatDoorP8
set_option linter.unusedVariables false
namespace Gv
open Go
section
variable {st : GSt} {N : GSt → Prop}
theorem Into.cellRow (i c rsz : Nat) {t sz : Nat} {cs : List GVal} {tg : Tag} (hO : st.o[i]? = some (.row t sz [cs])) (hc : cs[c]? = some (.slice [] tg)) (htg : tg.cap = .full) (hcl : cs.length = sz)
    (h : stamp st.o fun u => Into ⟨st.s, ((tickO st.o) ++ [GObj.row u rsz []]).set i (.row t sz [cs.set c (.own st.o.length u 0 0)])⟩ N) : Into st N := by
  intro E a w hs ha
  obtain ⟨u, hk, ht, hnx, hs, hkeep⟩ := hs.stamp h
  rw [← tickO_len st.o] at hk
  obtain ⟨h1, h2⟩ := hs.objNil (.row u rsz []) (l := ⟨none, 0, rsz, 0⟩) ht hnx rfl ⟨_, Env.addLoc_self _ _ _, rfl, by simp, rfl⟩ (by simp [GObj.blk, Env.addLoc_self])
  have hO' : (tickO st.o ++ [GObj.row u rsz []])[i]? = some (.row t sz [cs]) := by
    have := tickO_get hO rfl
    rw [List.getElem?_append_left (List.getElem?_eq_some_iff.1 this).1]; exact this
  obtain ⟨h3, h4⟩ := h1.cells hO' (ys := [cs.set c (.own (tickO st.o).length u 0 0)]) rfl (by simp [hcl]) (fun j g' hj => by
    simp only [List.flatten_cons, List.flatten_nil, List.append_nil] at hj ⊢
    rw [List.getElem?_set] at hj
    by_cases e : c = j
    · subst e
      rw [if_pos rfl] at hj
      split at hj
      · simp only [Option.some.injEq] at hj
        subst hj
        refine ⟨_, hc, fun v hv => ?_⟩
        cases hv with
        | slice a len cap xs tag sz c hlen hcap hsz ha hc htag =>
          have htag := htag.cap hcap
          rw [htg] at htag
          have h0 : len = 0 := by simpa using hlen
          have h1 : cap = 0 := by rw [← h0]; exact htag
          subst h0
          exact .own a 0 cap _ u 0 _ (Env.addLoc_self _ _ _) (Nat.zero_le _) (.inl h1)
      · cases hj
    · rw [if_neg e] at hj
      exact ⟨g', hj, fun v hv => hv⟩)
  obtain ⟨st', E', q1, q2, q3, q4⟩ := hk _ a w h3 (ha.mono h2.ext)
  exact ⟨st', E', q1, q2, ((hkeep.trans h2).trans h4).trans q3, q4⟩
end
theorem setO_6 (a b c d e f g x : GObj) (r : List GObj) : (a :: b :: c :: d :: e :: f :: g :: r).set 6 x = a :: b :: c :: d :: e :: f :: x :: r := rfl
theorem setO_7 (a b c d e f g h x : GObj) (r : List GObj) : (a :: b :: c :: d :: e :: f :: g :: h :: r).set 7 x = a :: b :: c :: d :: e :: f :: g :: x :: r := rfl
theorem setO_8 (a b c d e f g h i x : GObj) (r : List GObj) : (a :: b :: c :: d :: e :: f :: g :: h :: i :: r).set 8 x = a :: b :: c :: d :: e :: f :: g :: h :: x :: r := rfl
theorem GCalls.tail {P : Program} {f : FuncId} {args : List GVal} {X : List GObj} {K : GVal → List GObj → Prop} (h : GCalls P f args X K) (hK : ∀ g O', K g O' → clockOf O' = none ∧ O' ≠ []) (hc : clockOf X = none) (hX : X ≠ []) (Y : List GObj) :
    GCalls P f args (X ++ Y) (fun g O'' => ∃ O', K g O' ∧ O'' = O' ++ Y) := by
  have hcl : ∀ A : List GObj, clockOf A = none → A ≠ [] → clockOf (A ++ Y) = none := fun A h1 h2 => by
    cases A with
    | nil => exact absurd rfl h2
    | cons a r => cases a <;> first | rfl | cases h1
  refine GCalls.frame h (List.range X.length) ?_ List.nodup_range (GLes.refl _) hc (hcl X hc hX) ?_
  · have : ∀ (A B : List GObj), Fits (A ++ B ++ Y) ((List.range B.length).map (· + A.length)) B := by
      intro A B
      induction B generalizing A with
      | nil => trivial
      | cons b r ih =>
        rw [List.length_cons, List.range_succ_eq_map, List.map_cons, List.map_map]
        refine ⟨⟨b, by simp, .refl _⟩, ?_⟩
        have := ih (A ++ [b])
        simp only [List.length_append, List.length_singleton, List.append_assoc, List.singleton_append] at this ⊢
        have e : ((fun x => x + A.length) ∘ Nat.succ) = (fun x => x + (A.length + 1)) := by funext x; simp; omega
        rw [e]; exact this
    have := this [] X
    simpa using this
  · intro g O' hk
    obtain ⟨h1, h2⟩ := hK g O' hk
    refine ⟨g, O' ++ Y, (List.range O'.length).map (fun k => (false, k)) ++ (List.range Y.length).map (fun k => (true, k + X.length)), ⟨O', hk, rfl⟩, GLe.refl g, Comes.of (by simp) fun k z x hz hx => ?_, ?_, hcl O' h1 h2⟩
    · by_cases hlt : k < O'.length
      · rw [List.getElem?_append_left hlt] at hz
        rw [List.getElem?_append_left (by simpa using hlt)] at hx
        simp only [List.getElem?_map, List.getElem?_range hlt, Option.map_some, Option.some.injEq] at hx
        subst hx
        exact ⟨z, hz, .refl _⟩
      · rw [List.getElem?_append_right (by omega)] at hz
        rw [List.getElem?_append_right (by simpa using hlt)] at hx
        have hk2 : k - O'.length < Y.length := (List.getElem?_eq_some_iff.1 hz).1
        simp only [List.length_map, List.length_range, List.getElem?_map, List.getElem?_range hk2, Option.map_some, Option.some.injEq] at hx
        subst hx
        refine ⟨by simp, z, ?_, .refl _⟩
        rw [List.getElem?_append_right (by omega), Nat.add_sub_cancel]; exact hz
    · rw [List.nodup_append]
      refine ⟨?_, ?_, ?_⟩
      · rw [List.nodup_iff_pairwise_ne, List.pairwise_map]
        exact List.Pairwise.imp (fun {a b} hab => by simp; omega) (List.pairwise_lt_range (n := O'.length))
      · rw [List.nodup_iff_pairwise_ne, List.pairwise_map]
        exact List.Pairwise.imp (fun {a b} hab => by simp; omega) (List.pairwise_lt_range (n := Y.length))
      · intro a ha b hb
        obtain ⟨i, _, rfl⟩ := List.mem_map.1 ha
        obtain ⟨j, _, rfl⟩ := List.mem_map.1 hb
        simp
end Gv
/- Contracts: order's push and step. -/
set_option linter.unusedVariables false
set_option linter.unusedSimpArgs false
set_option maxRecDepth 20000
set_option maxHeartbeats 4000000
namespace Gv.Tryz
open Go Gv Go.Proofs
theorem gParK (m : GM) (h : Hs) (st s : Nat) (hl : (parsM m h).length ≤ 4398046511104) (X : List GObj) : GCalls Tryz.prog 103 [.ptr 0 st 0 0, .agg (bytesG h.1)] (.row st 1 [[.map 1 s]] :: .map s (kvG encL m) :: X) (fun g O' => g = .tuple [.slice (hsG (parsM m h)) .none, .bool (look m h).isSome] ∧ O' = .row st 1 [[.map 1 s]] :: .map s (kvG encL m) :: X) :=
  GCalls.keep2 (gParents m h st s hl) rfl X
theorem take_csG (K Z : List Cm) : List.take K.length (csG (K ++ Z)) = csG K := by rw [csG_app]; exact List.take_left' (csG_len K)
inductive DoneG : GVal → (Hs → Bool) → Prop
  | nil : DoneG (.lit .nilFunc) (fun _ => false)
  | fn (F : FuncId) (caps : List GVal) (dn : Hs → Bool) : (∀ h : Hs, GPure Tryz.prog F (.agg (bytesG h.1) :: caps) (.bool (dn h))) → DoneG (.func (.func F) [] caps) dn
def pushed (m : GM) (dn : Hs → Bool) (S : List Hs) (h : Hs) : Bool := (look m h).isSome && !(decide (h ∈ S)) && !(dn h)
end Gv.Tryz
/- Contracts: order's Walk. -/
set_option linter.unusedVariables false
set_option linter.unusedSimpArgs false
set_option maxRecDepth 20000
set_option maxHeartbeats 4000000
namespace Gv.Tryz
open Go Gv Go.Proofs
abbrev WSt := List Hs × List Hs
inductive VisL (m : GM) (dn : Hs → Bool) : List Hs → WSt → WSt → Prop
  | nil (so : WSt) : VisL m dn [] so so
  | skip (p : Hs) (r : List Hs) (so T : WSt) : pushed m dn so.1 p = false → VisL m dn r so T → VisL m dn (p :: r) so T
  | go (p : Hs) (r : List Hs) (so so1 T : WSt) : pushed m dn so.1 p = true → VisL m dn (parsM m p) (so.1 ++ [p], so.2) so1 → VisL m dn r (so1.1, so1.2 ++ [p]) T → VisL m dn (p :: r) so T
theorem VisL.inv_skip {m : GM} {dn : Hs → Bool} {p : Hs} {r : List Hs} {so T : WSt} (h : VisL m dn (p :: r) so T) (hp : pushed m dn so.1 p = false) : VisL m dn r so T := by
  cases h with
  | skip _ _ _ _ _ h => exact h
  | go _ _ _ _ _ h1 => rw [h1] at hp; cases hp
theorem VisL.inv_go {m : GM} {dn : Hs → Bool} {p : Hs} {r : List Hs} {so T : WSt} (h : VisL m dn (p :: r) so T) (hp : pushed m dn so.1 p = true) : ∃ so1, VisL m dn (parsM m p) (so.1 ++ [p], so.2) so1 ∧ VisL m dn r (so1.1, so1.2 ++ [p]) T := by
  cases h with
  | skip _ _ _ _ h1 => rw [h1] at hp; cases hp
  | go _ _ _ so1 _ _ h2 h3 => exact ⟨so1, h2, h3⟩
theorem VisL.inv_nil {m : GM} {dn : Hs → Bool} {so T : WSt} (h : VisL m dn [] so T) : T = so := by cases h; rfl
def FinS (m : GM) (dn : Hs → Bool) : List Cm → WSt → WSt → Prop
  | [], so, T => T = so
  | (x, ps) :: r, so, T => ∃ so1, VisL m dn ps so so1 ∧ FinS m dn r (so1.1, so1.2 ++ [x]) T
structure SInv (m : GM) (S out : List Hs) (n : Nat) : Prop where
  nodup : S.Nodup
  keys : ∀ x ∈ S, (look m x).isSome = true
  len : out.length + n ≤ S.length
theorem look_key {α : Type} {m : List (Hs × α)} {x : Hs} (h : (look m x).isSome = true) : x ∈ m.map (·.1) := by
  induction m with
  | nil => cases h
  | cons p r ih =>
    rw [look] at h
    by_cases e : x = p.1
    · simp [e]
    · rw [if_neg e] at h; simp [ih h]
theorem SInv.le {m : GM} {S out : List Hs} {n : Nat} (h : SInv m S out n) : S.length ≤ m.length := by
  have := nodup_lenH S (m.map (·.1)) h.nodup fun x hx => look_key (h.keys x hx)
  simpa using this
theorem pushed_iff {m : GM} {dn : Hs → Bool} {S : List Hs} {h : Hs} (hp : pushed m dn S h = true) : (look m h).isSome = true ∧ h ∉ S ∧ dn h = false := by
  unfold pushed at hp
  simp only [Bool.and_eq_true, Bool.not_eq_true', decide_eq_false_iff_not] at hp
  exact ⟨hp.1.1, hp.1.2, hp.2⟩
theorem SInv.push {m : GM} {S out : List Hs} {n : Nat} (h : SInv m S out n) {dn : Hs → Bool} {x : Hs} (hp : pushed m dn S x = true) : SInv m (S ++ [x]) out (n + 1) := by
  obtain ⟨h1, h2, _⟩ := pushed_iff hp
  refine ⟨?_, fun y hy => ?_, by have := h.len; rw [List.length_append, List.length_singleton]; omega⟩
  · rw [List.nodup_append]
    exact ⟨h.nodup, by simp, fun a ha b hb => by rw [List.mem_singleton.1 hb]; exact fun e => h2 (e ▸ ha)⟩
  · rcases List.mem_append.1 hy with q | q
    · exact h.keys y q
    · rw [List.mem_singleton.1 q]; exact h1
def wMu (m : GM) (S : List Hs) (K : List Cm) : Nat := 6 * (m.length - S.length) + (K.map fun c => c.2.length + 1).sum
end Gv.Tryz
/- Contracts: chapter 12's example. -/
set_option linter.unusedVariables false
set_option linter.unusedSimpArgs false
set_option maxRecDepth 20000
set_option maxHeartbeats 4000000
namespace Gv.Tryz
open Go Gv Go.Proofs
theorem GCalls.args {P : Program} {f : FuncId} {args args' : List GVal} {O : List GObj} {K : GVal → List GObj → Prop} (h : GCalls P f args O K) (ha : GLes args' args) : GCalls P f args' O K :=
  ⟨h.1, fun E w vs hs hv => h.2 E w vs hs ⟨by rw [hv.1, ha.len], fun k g hg => by
    obtain ⟨x, hx, hle⟩ := ha.at_ k g hg
    exact hle _ _ (hv.2 k x hx)⟩⟩
def hq (a b c : UInt8) : Hs := ⟨a :: b :: c :: List.replicate 29 0, rfl⟩
def q1 : Hs := hq 1 0 0
theorem qE1 : ([.int .u8 1, .int .u8 0, .int .u8 0, .int .u8 0, .int .u8 0, .int .u8 0, .int .u8 0, .int .u8 0, .int .u8 0, .int .u8 0, .int .u8 0, .int .u8 0, .int .u8 0, .int .u8 0, .int .u8 0, .int .u8 0, .int .u8 0, .int .u8 0, .int .u8 0, .int .u8 0, .int .u8 0, .int .u8 0, .int .u8 0, .int .u8 0, .int .u8 0, .int .u8 0, .int .u8 0, .int .u8 0, .int .u8 0, .int .u8 0, .int .u8 0, .int .u8 0] : List GVal) = bytesG q1.1 := rfl
theorem qR1 (x : GVal) : ([.int .u8 1, .int .u8 0, .int .u8 0, .int .u8 0, .int .u8 0, .int .u8 0, .int .u8 0, .int .u8 0, .int .u8 0, .int .u8 0, .int .u8 0, .int .u8 0, .int .u8 0, .int .u8 0, .int .u8 0, .int .u8 0, .int .u8 0, .int .u8 0, .int .u8 0, .int .u8 0, .int .u8 0, .int .u8 0, .int .u8 0, .int .u8 0, .int .u8 0, .int .u8 0, .int .u8 0, .int .u8 0, .int .u8 0, .int .u8 0, .int .u8 0, .int .u8 0, x] : List GVal) = bytesG q1.1 ++ [x] := rfl
def q2 : Hs := hq 2 0 0
theorem qE2 : ([.int .u8 2, .int .u8 0, .int .u8 0, .int .u8 0, .int .u8 0, .int .u8 0, .int .u8 0, .int .u8 0, .int .u8 0, .int .u8 0, .int .u8 0, .int .u8 0, .int .u8 0, .int .u8 0, .int .u8 0, .int .u8 0, .int .u8 0, .int .u8 0, .int .u8 0, .int .u8 0, .int .u8 0, .int .u8 0, .int .u8 0, .int .u8 0, .int .u8 0, .int .u8 0, .int .u8 0, .int .u8 0, .int .u8 0, .int .u8 0, .int .u8 0, .int .u8 0] : List GVal) = bytesG q2.1 := rfl
theorem qR2 (x : GVal) : ([.int .u8 2, .int .u8 0, .int .u8 0, .int .u8 0, .int .u8 0, .int .u8 0, .int .u8 0, .int .u8 0, .int .u8 0, .int .u8 0, .int .u8 0, .int .u8 0, .int .u8 0, .int .u8 0, .int .u8 0, .int .u8 0, .int .u8 0, .int .u8 0, .int .u8 0, .int .u8 0, .int .u8 0, .int .u8 0, .int .u8 0, .int .u8 0, .int .u8 0, .int .u8 0, .int .u8 0, .int .u8 0, .int .u8 0, .int .u8 0, .int .u8 0, .int .u8 0, x] : List GVal) = bytesG q2.1 ++ [x] := rfl
def q3 : Hs := hq 3 0 0
def q4 : Hs := hq 4 0 0
theorem reach_rank {M : GM} (rk : Hs → Nat) (hr : ∀ p ∈ M, ∀ y ∈ p.2, rk y < rk p.1) {l : List Hs} {n : Nat} (hl : ∀ x ∈ l, rk x < n) {x : Hs} (h : Reach (parsM M) l x) : rk x < n := by
  induction h with
  | base x hx => exact hl x hx
  | step x y _ hy ih =>
    obtain ⟨p, h1, h2, h3⟩ := parsM_mem hy
    have := hr p h1 y h3
    rw [h2] at this
    omega
theorem roundP_rank {m M : GM} {cs : List Cm} (rk : Hs → Nat) (hr : ∀ p ∈ M, ∀ y ∈ p.2, rk y < rk p.1) (hc : ∀ c ∈ cs, ∀ y ∈ c.2, rk y < rk c.1) : roundP m M cs = none := by
  unfold roundP
  rw [List.findSome?_eq_none_iff]
  intro c hcm
  unfold roundE
  split
  · rfl
  · rw [if_neg]
    intro h
    have := reach_rank rk hr (hc c hcm) h
    omega
def rkQ (h : Hs) : Nat := (h.1.headD 0).toNat
theorem fourG : GOK ([] : GM) := ⟨by simp, by simp⟩
end Gv.Tryz
/- Contracts: the numbers of commits (ids). -/
set_option linter.unusedVariables false
set_option linter.unusedSimpArgs false
set_option maxRecDepth 20000
set_option maxHeartbeats 4000000
namespace Gv.Tryz
open Go Gv Go.Proofs
open Nat (reduceEqDiff reduceAdd reduceSub reduceLeDiff reduceMul reduceLT)
def numK (l : List Hs) (b : Int) (a : List (Hs × Int)) : Nat → List (Hs × Int)
  | 0 => a
  | k + 1 => mset (numK l b a k) (l.getD k h0) (b + (k : Int))
abbrev splI : Int := 1099511627776
def ofM (M O : List Hs) : List (Hs × Int) := numK O splI (numK M 0 [] M.length) O.length
abbrev idO (ti so : Nat) (n : Int) (M O : List Hs) : List GObj := [.row ti 4 [[.int .i64 n, .slice (hsG M) .none, .slice (hsG O) .none, .map 1 so]], .map so (kvG encI (ofM M O))]
theorem mput (A : List (Hs × Int)) (x : Hs) (v : Int) : (∃ i, idxM A x = some i ∧ (∃ w, (kvG encI A)[i]? = some (.agg (bytesG x.1), encI w)) ∧ (kvG encI A).set i (.agg (bytesG x.1), .int .i64 v) = kvG encI (mset A x v)) ∨ (idxM A x = none ∧ kvG encI A ++ [(.agg (bytesG x.1), .int .i64 v)] = kvG encI (mset A x v)) := by
  cases e : look A x with
  | some w =>
    obtain ⟨i, hi, hv, hw⟩ := look_idx encI A x w e
    exact .inl ⟨i, hi, ⟨w, hv⟩, hw v⟩
  | none =>
    obtain ⟨hi, hw⟩ := look_none encI A x e
    exact .inr ⟨hi, hw v⟩
theorem iNumber (ti : Nat) (m0 x1 x2 x3 : GVal) (M O : List Hs) (hM : M.length ≤ 1000000) (hO : O.length ≤ 1000000) : GCalls Tryz.prog 42 [.ptr 0 ti 0 0, .slice (hsG M) .none, .slice (hsG O) .none] [.row ti 4 [[m0, x1, x2, x3]]]
    (fun g O' => ∃ so, g = .tuple [] ∧ O' = [.row ti 4 [[m0, .slice (hsG M) .none, .slice (hsG O) .none, .map 1 so]], .map so (kvG encI (ofM M O))]) := by
  refine GCalls.dropTo ?_
  refine h42.calls mixS (by simp) ?_
  simp only [gstart, s42, List.cons_append, List.nil_append, List.length_cons, List.length_nil, reduceAdd, reduceSub, List.replicate_succ, List.replicate_zero]
  simp +contextual -implicitDefEqProofs (maxSteps := 2000000) (disch := omega) only [drawC, drawK, keepT, ↓lenV, binV, ↓loadV, ↓storeV, ↓fieldAddrV, ↓indexAddrV, ↓allocV, ↓nilV, GVal.cells, GVal.ofConst, ↓resV, resG, ↓reduceIte, reduceEqDiff, reduceAdd, reduceSub, reduceLeDiff, reduceCtorEq, ↓mapUpdateV, ↓makeMapV, keyOk, keyCells, Tag.cap, GVal.solid, Nat.reduceBEq, reduceMul, reduceLT, vcA, ↓vcB, vcC, fbFy, e42, vcD]
  intro so
  refine vcSLoop_by (ι := { k : Nat // k ≤ M.length }) (fun k => ⟨[.ptr 0 ti 0 0, .slice (hsG M) .none, .slice (hsG O) .none] ++ List.replicate 19 .any ++ [.slice (hsG M) .none, .int .i64 M.length, .int .i64 (k.1 : Nat)] ++ List.replicate 26 .any, [.row ti 4 [[m0, .slice (hsG M) .none, .slice (hsG O) .none, .map 1 so]], .map so (kvG encI (numK M 0 [] k.1))]⟩) (fun k => M.length - k.1) ?_ ?_
  · exact Into.first ⟨0, Nat.zero_le _⟩ ⟨[], by simp [kvG, numK]⟩ (by simp [WL, leG_self, leG_any, hsG_len])
  · rintro ⟨k, hk⟩
    change k ≤ M.length at hk
    by_cases h : k < M.length
    · have d0 : ((k : Int) < (M.length : Int)) = True := eq_true (by omega)
      have eS := hsG_at M k h
      have eT : numK M 0 [] (k + 1) = mset (numK M 0 [] k) (M.getD k h0) (0 + (k : Int)) := rfl
      rw [Int.zero_add] at eT
      generalize M.getD k h0 = x at *
      have eP := mput (numK M 0 [] k) x k
      rw [← eT] at eP
      generalize numK M 0 [] k = A at *
      rcases eP with ⟨i, hi, ⟨w, hv⟩, hw⟩ | ⟨hi, hw⟩
      · simp +contextual -implicitDefEqProofs (maxSteps := 2000000) (disch := omega) only [drawC, drawK, keepT, ↓lenV, binV, ↓loadV, ↓storeV, ↓fieldAddrV, ↓indexAddrV, ↓allocV, ↓nilV, GVal.cells, GVal.ofConst, ↓resV, resG, ↓reduceIte, reduceEqDiff, reduceAdd, reduceSub, reduceLeDiff, reduceCtorEq, ↓mapUpdateV, ↓makeMapV, keyOk, keyCells, Tag.cap, GVal.solid, Nat.reduceBEq, reduceMul, reduceLT, vcA, ↓vcB, vcC, fbFy, e42, d0, eS, hsG_len, all_hsG, kfind_h, hi, hv, hw, vcD, v32]
        refine ⟨by omega, fun sb => ?_⟩
        exact Into.at ⟨k + 1, h⟩ (by show _ < _; simp; omega) ⟨[.row sb 32 [bytesG x.1]], by simp⟩ (by simp [WL, leG_self, leG_any, leG_int])
      · simp +contextual -implicitDefEqProofs (maxSteps := 2000000) (disch := omega) only [drawC, drawK, keepT, ↓lenV, binV, ↓loadV, ↓storeV, ↓fieldAddrV, ↓indexAddrV, ↓allocV, ↓nilV, GVal.cells, GVal.ofConst, ↓resV, resG, ↓reduceIte, reduceEqDiff, reduceAdd, reduceSub, reduceLeDiff, reduceCtorEq, ↓mapUpdateV, ↓makeMapV, keyOk, keyCells, Tag.cap, GVal.solid, Nat.reduceBEq, reduceMul, reduceLT, vcA, ↓vcB, vcC, fbFy, e42, d0, eS, hsG_len, all_hsG, kfind_h, hi, hw, vcD, v32]
        refine ⟨by omega, fun sb => ?_⟩
        exact Into.at ⟨k + 1, h⟩ (by show _ < _; simp; omega) ⟨[.row sb 32 [bytesG x.1]], by simp⟩ (by simp [WL, leG_self, leG_any, leG_int])
    · have d0 : ((k : Int) < (M.length : Int)) = False := eq_false (by omega)
      have ek : k = M.length := by omega
      subst ek
      simp +contextual -implicitDefEqProofs (maxSteps := 2000000) (disch := omega) only [drawC, drawK, keepT, ↓lenV, binV, ↓loadV, ↓storeV, ↓fieldAddrV, ↓indexAddrV, ↓allocV, ↓nilV, GVal.cells, GVal.ofConst, ↓resV, resG, ↓reduceIte, reduceEqDiff, reduceAdd, reduceSub, reduceLeDiff, reduceCtorEq, ↓mapUpdateV, ↓makeMapV, keyOk, keyCells, Tag.cap, GVal.solid, Nat.reduceBEq, reduceMul, reduceLT, vcA, ↓vcB, vcC, fbFy, e42, d0, vcD]
      refine vcSLoop_by (ι := { k : Nat // k ≤ O.length }) (fun k => ⟨[.ptr 0 ti 0 0, .slice (hsG M) .none, .slice (hsG O) .none] ++ List.replicate 33 .any ++ [.slice (hsG O) .none, .int .i64 O.length, .int .i64 (k.1 : Nat)] ++ List.replicate 12 .any, [.row ti 4 [[m0, .slice (hsG M) .none, .slice (hsG O) .none, .map 1 so]], .map so (kvG encI (numK O splI (numK M 0 [] M.length) k.1))]⟩) (fun k => O.length - k.1) ?_ ?_
      · exact Into.first ⟨0, Nat.zero_le _⟩ ⟨[], by simp [numK]⟩ (by simp [WL, leG_self, leG_any, hsG_len])
      · rintro ⟨k, hk⟩
        change k ≤ O.length at hk
        by_cases h : k < O.length
        · have d0 : ((k : Int) < (O.length : Int)) = True := eq_true (by omega)
          have eS := hsG_at O k h
          have eT : numK O splI (numK M 0 [] M.length) (k + 1) = mset (numK O splI (numK M 0 [] M.length) k) (O.getD k h0) (splI + (k : Int)) := rfl
          generalize O.getD k h0 = x at *
          have eP := mput (numK O splI (numK M 0 [] M.length) k) x (splI + k)
          rw [← eT] at eP
          generalize numK O splI (numK M 0 [] M.length) k = A at *
          rcases eP with ⟨i, hi, ⟨w, hv⟩, hw⟩ | ⟨hi, hw⟩
          · simp +contextual -implicitDefEqProofs (maxSteps := 2000000) (disch := omega) only [drawC, drawK, keepT, ↓lenV, binV, ↓loadV, ↓storeV, ↓fieldAddrV, ↓indexAddrV, ↓allocV, ↓nilV, GVal.cells, GVal.ofConst, ↓resV, resG, ↓reduceIte, reduceEqDiff, reduceAdd, reduceSub, reduceLeDiff, reduceCtorEq, ↓mapUpdateV, ↓makeMapV, keyOk, keyCells, Tag.cap, GVal.solid, Nat.reduceBEq, reduceMul, reduceLT, vcA, ↓vcB, vcC, fbFy, e42, d0, eS, hsG_len, all_hsG, kfind_h, hi, hv, hw, vcD, v32]
            refine ⟨by omega, fun sb => ?_⟩
            exact Into.at ⟨k + 1, h⟩ (by show _ < _; simp; omega) ⟨[.row sb 32 [bytesG x.1]], by simp⟩ (by simp [WL, leG_self, leG_any, leG_int])
          · simp +contextual -implicitDefEqProofs (maxSteps := 2000000) (disch := omega) only [drawC, drawK, keepT, ↓lenV, binV, ↓loadV, ↓storeV, ↓fieldAddrV, ↓indexAddrV, ↓allocV, ↓nilV, GVal.cells, GVal.ofConst, ↓resV, resG, ↓reduceIte, reduceEqDiff, reduceAdd, reduceSub, reduceLeDiff, reduceCtorEq, ↓mapUpdateV, ↓makeMapV, keyOk, keyCells, Tag.cap, GVal.solid, Nat.reduceBEq, reduceMul, reduceLT, vcA, ↓vcB, vcC, fbFy, e42, d0, eS, hsG_len, all_hsG, kfind_h, hi, hw, vcD, v32]
            refine ⟨by omega, fun sb => ?_⟩
            exact Into.at ⟨k + 1, h⟩ (by show _ < _; simp; omega) ⟨[.row sb 32 [bytesG x.1]], by simp⟩ (by simp [WL, leG_self, leG_any, leG_int])
        · have d0 : ((k : Int) < (O.length : Int)) = False := eq_false (by omega)
          have ek : k = O.length := by omega
          subst ek
          simp +contextual -implicitDefEqProofs (maxSteps := 2000000) (disch := omega) only [drawC, drawK, keepT, ↓lenV, binV, ↓loadV, ↓storeV, ↓fieldAddrV, ↓indexAddrV, ↓allocV, ↓nilV, GVal.cells, GVal.ofConst, ↓resV, resG, ↓reduceIte, reduceEqDiff, reduceAdd, reduceSub, reduceLeDiff, reduceCtorEq, ↓mapUpdateV, ↓makeMapV, keyOk, keyCells, Tag.cap, GVal.solid, Nat.reduceBEq, reduceMul, reduceLT, vcA, ↓vcB, vcC, fbFy, e42, d0, vcD]
          exact ⟨.tuple [], _, [], (List.append_nil _).symm, leA_refl _, so, rfl, rfl⟩
theorem iMasters (ti so : Nat) (n : Int) (M O : List Hs) : GCalls Tryz.prog 15 [.ptr 0 ti 0 0] (idO ti so n M O) (fun g O' => g = .int .i64 M.length ∧ O' = idO ti so n M O) := by
  refine h15.calls mixS (by simp) ?_
  simp only [gstart, s15, List.cons_append, List.nil_append, List.length_cons, List.length_nil, reduceAdd, reduceSub, List.replicate_succ, List.replicate_zero]
  simp +contextual -implicitDefEqProofs (maxSteps := 2000000) (disch := omega) only [↓lenV, ↓loadV, ↓fieldAddrV, ↓nilV, GVal.cells, GVal.ofConst, ↓resV, resG, ↓reduceIte, reduceEqDiff, reduceAdd, reduceSub, reduceLeDiff, reduceCtorEq, Tag.cap, GVal.solid, Nat.reduceBEq, reduceMul, reduceLT, vcA, ↓vcB, vcC, fbFy, e15, hsG_len, vcD]
theorem iOthers (ti so : Nat) (n : Int) (M O : List Hs) : GCalls Tryz.prog 26 [.ptr 0 ti 0 0] (idO ti so n M O) (fun g O' => g = .int .i64 O.length ∧ O' = idO ti so n M O) := by
  refine h26.calls mixS (by simp) ?_
  simp only [gstart, s26, List.cons_append, List.nil_append, List.length_cons, List.length_nil, reduceAdd, reduceSub, List.replicate_succ, List.replicate_zero]
  simp +contextual -implicitDefEqProofs (maxSteps := 2000000) (disch := omega) only [↓lenV, ↓loadV, ↓fieldAddrV, ↓nilV, GVal.cells, GVal.ofConst, ↓resV, resG, ↓reduceIte, reduceEqDiff, reduceAdd, reduceSub, reduceLeDiff, reduceCtorEq, Tag.cap, GVal.solid, Nat.reduceBEq, reduceMul, reduceLT, vcA, ↓vcB, vcC, fbFy, e26, hsG_len, vcD]
def idV (m : List (Hs × Int)) (h : Hs) : GVal := .tuple [.int .i64 ((look m h).getD 0), .bool (look m h).isSome]
theorem iID (ti so : Nat) (n : Int) (M O : List Hs) (h : Hs) : GCalls Tryz.prog 17 [.ptr 0 ti 0 0, .agg (bytesG h.1)] (idO ti so n M O) (fun g O' => g = idV (ofM M O) h ∧ O' = idO ti so n M O) := by
  cases e : look (ofM M O) h with
  | some v =>
    obtain ⟨i, hi, hv, _⟩ := look_idx encI (ofM M O) h v e
    have ev : idV (ofM M O) h = .tuple [.int .i64 v, .bool true] := by unfold idV; rw [e]; rfl
    rw [ev]
    refine h17.calls mixS (by simp) ?_
    simp only [gstart, s17, List.cons_append, List.nil_append, List.length_cons, List.length_nil, reduceAdd, reduceSub, List.replicate_succ, List.replicate_zero]
    simp +contextual -implicitDefEqProofs (maxSteps := 2000000) (disch := omega) only [drawC, drawK, keepT, ↓loadV, ↓fieldAddrV, ↓boxV, ↓nilV, GVal.cells, GVal.ofConst, ↓resV, resG, ↓reduceIte, reduceEqDiff, reduceAdd, reduceSub, reduceLeDiff, reduceCtorEq, ↓lookupV, keyOk, keyCells, pairG, Tag.cap, GVal.solid, Nat.reduceBEq, reduceMul, reduceLT, vcA, ↓vcB, vcC, fbFy, e17, kfind_h, hi, hv, vcD, v32]
  | none =>
    obtain ⟨hi, _⟩ := look_none encI (ofM M O) h e
    have ev : idV (ofM M O) h = .tuple [.int .i64 0, .bool false] := by unfold idV; rw [e]; rfl
    rw [ev]
    refine h17.calls mixS (by simp) ?_
    simp only [gstart, s17, List.cons_append, List.nil_append, List.length_cons, List.length_nil, reduceAdd, reduceSub, List.replicate_succ, List.replicate_zero]
    simp +contextual -implicitDefEqProofs (maxSteps := 2000000) (disch := omega) only [drawC, drawK, keepT, ↓loadV, ↓fieldAddrV, ↓boxV, ↓nilV, GVal.cells, GVal.ofConst, ↓resV, resG, ↓reduceIte, reduceEqDiff, reduceAdd, reduceSub, reduceLeDiff, reduceCtorEq, ↓lookupV, keyOk, keyCells, pairG, Tag.cap, GVal.solid, Nat.reduceBEq, reduceMul, reduceLT, vcA, ↓vcB, vcC, fbFy, e17, kfind_h, hi, vcD, v32]
def masterB (m : List (Hs × Int)) (h : Hs) : Bool := match look m h with
  | some v => decide (v < splI)
  | none => false
end Gv.Tryz
/- A range over a map whose entries are held one by one: no reading, no datum. -/
set_option linter.unusedVariables false
namespace Go
open Go.Maps Go.RowKit Go.MapKept
def WalkAt (w : World) (b r : Nat) (es : Array MapEntry) (clock : Nat) (seen : Array Nat) : Prop :=
  ∃ since c0, w.heap[b]? = some (.map es clock) ∧ w.heap[r]? = some (.mapIter (some b) since seen c0) ∧ (∀ x ∈ es.toList, x.born < since) ∧ since ≤ c0 ∧ since ≤ clock
theorem WalkAt.of_walks {w w' : World} {b r clock : Nat} {es : Array MapEntry} {seen : Array Nat} (h : WalkAt w b r es clock seen) (hk : KeepsWalks w w') : WalkAt w' b r es clock seen := by
  obtain ⟨since, c0, h1, h2, h3, h4, h5⟩ := h
  exact ⟨since, c0, hk.same b _ h1 rfl, hk.same r _ h2 rfl, h3, h4, h5⟩
theorem WalkAt.iter_walk {w : World} {b r clock : Nat} {es : Array MapEntry} {seen : Array Nat} (h : WalkAt w b r es clock seen) : ∃ o : Obj, w.heap[r]? = some o ∧ o.isWalk = true := by
  obtain ⟨since, c0, h1, h2, _⟩ := h
  exact ⟨_, h2, rfl⟩
theorem WalkAt.left_eq {w : World} {b r clock : Nat} {es : Array MapEntry} {seen : Array Nat} (h : WalkAt w b r es clock seen) : w.rangeLeft b r = (leftOf es seen).size := by
  obtain ⟨since, c0, h1, h2, _⟩ := h
  simp [World.rangeLeft, h1, h2]
theorem nodup_le {α : Type} : ∀ (l m : List α), l.Nodup → (∀ x ∈ l, x ∈ m) → l.length ≤ m.length
  | [], m, _, _ => by simp
  | a :: r, m, h, hs => by
    obtain ⟨p, q, rfl⟩ := List.append_of_mem (hs a (by simp))
    have h1 := List.nodup_cons.1 h
    have := nodup_le r (p ++ q) h1.2 (fun x hx => by
      have h2 := hs x (by simp [hx])
      have hne : x ≠ a := fun e => h1.1 (e ▸ hx)
      simp at h2 ⊢
      rcases h2 with h2 | h2 | h2
      · exact .inl h2
      · exact absurd h2 hne
      · exact .inr h2)
    simp at this ⊢
    omega
def Came (es : Array MapEntry) (seen : Array Nat) (xs : List MapEntry) : Prop := seen = (xs.map MapEntry.born).toArray ∧ xs.Nodup ∧ (∀ x ∈ xs, x ∈ es.toList)
theorem Came.nil (es : Array MapEntry) : Came es #[] [] := ⟨rfl, List.nodup_nil, by simp⟩
theorem wpListIn_range_at {F : Fence} {n : Nat} {P : Program} (w : World) {ops : Array Oper} {rest : List Oper} {o : Oper} {a : Act} {Q : Exit → Act → World → Prop} (hg : o.guard = none) (m : Operand) (t : TypeId) (hop : o.op = Op.range t m) (k e : TypeId) (ht : P.underlying t = some (.map k e)) (b clock : Nat) (es : Array MapEntry)
    (hm : a.eval m = .map (some b)) (hb : w.heap[b]? = some (.map es clock)) (hbo : Gv.BornOK es clock)
    (hK : ∀ w', WalkAt w' b w.heap.size es clock #[] → w.grownBy w' none → w'.heap.size = w.heap.size + 1 → wpListIn F n P ops Q rest (a.put o.dst (.pointer (some ⟨w.heap.size, 0, none⟩))) w') :
    wpListIn F n P ops Q (o :: rest) a w := by
  refine wpListIn_plain hg fun K' hK' => ?_
  have hrun := run_range_map w t k e b es clock ht hb
  have hlt := (Array.getElem?_eq_some_iff.1 hb).1
  unfold Oper.wpIn
  refine ⟨?_, ?_⟩
  · simp [Oper.about, hop]
  · rw [Oper.semAt_plain F _ _ (by rw [hop]; intro c hc'; cases hc')]
    simp [execOp, hop, hm, hrun, Result.andThen]
    exact hK' _ _ (hK _ ⟨clock, clock, ((MapKept.heap_alloc w _).2 b hlt).trans hb, (MapKept.heap_alloc w _).1, hbo.1, Nat.le_refl _, Nat.le_refl _⟩ (World.grownBy_alloc w _ none) (by simp))
theorem wpListIn_next_at {F : Fence} {n : Nat} {P : Program} (w : World) {ops : Array Oper} {rest : List Oper} {o : Oper} {a : Act} {Q : Exit → Act → World → Prop} (hg : o.guard = none) (it : Operand) (hop : o.op = Op.next it false) (b r clock : Nat) (es : Array MapEntry) (hbo : Gv.BornOK es clock) (seen : Array Nat) (xs : List MapEntry) (hx : Came es seen xs)
    (hit : a.eval it = .pointer (some ⟨r, 0, none⟩)) (h : WalkAt w b r es clock seen)
    (hDone : xs.Perm es.toList → wpListIn F n P ops Q rest (a.put o.dst (.tuple #[.bool false])) w)
    (hMore : ∀ (e : MapEntry) (w' : World), e ∈ es.toList → Came es (seen.push e.born) (xs ++ [e]) → xs.length < es.size → WalkAt w' b r es clock (seen.push e.born) → w'.rangeLeft b r < w.rangeLeft b r →
      w.grownBy w' (some r) → w'.heap.size = w.heap.size → (Instr.entry (.pointer (some ⟨r, 0, none⟩))).run P w' = .ok (.tuple #[e.key, e.val]) w' → wpListIn F n P ops Q rest (a.put o.dst (.tuple #[.bool true, e.key, e.val])) w') :
    wpListIn F n P ops Q (o :: rest) a w := by
  refine wpListIn_plain hg fun K' hK' => ?_
  unfold Oper.wpIn
  refine ⟨by simp [Oper.about, hop], ?_⟩
  rw [Oper.semAt_plain F _ _ (by rw [hop]; intro c hc'; cases hc')]
  have hle := h.left_eq
  obtain ⟨since, c0, hb, hr, hold, hsc, hsk⟩ := h
  obtain ⟨hse, hxn, hxm⟩ := hx
  have hne : r ≠ b := fun e => by rw [e, hb] at hr; cases hr
  have hnd : es.toList.Nodup := hbo.2.imp fun h e => h (congrArg _ e)
  have hbn : (es.toList.map (·.born)).Nodup := List.pairwise_map.2 hbo.2
  rcases run_next_at (P := P) w o.type r b since c0 seen es clock hr hb hold hsc with ⟨h0, hrun⟩ | ⟨e, he, w1, hal, hrun⟩
  · simp [execOp, hop, hit, hrun, Result.andThen]
    refine hK' _ _ (hDone ?_)
    refine (List.perm_ext_iff_of_nodup hxn hnd).2 fun x => ⟨fun q => hxm x q, fun q => ?_⟩
    have hs := all_seen es seen h0 x q
    rw [hse] at hs
    have hm : x.born ∈ xs.map MapEntry.born := by simpa using hs
    obtain ⟨y, hy, ey⟩ := List.mem_map.1 hm
    rwa [← born_inj hbn (hxm y hy) q ey]
  · simp [execOp, hop, hit, hrun, Result.andThen]
    have hr1 : w1.heap[r]? = some (.mapIter (some b) since seen c0) := by rcases hal with rfl | rfl <;> exact hr
    have hb1 : w1.heap[b]? = some (.map es clock) := by rcases hal with rfl | rfl <;> exact hb
    have hset := heap_set (o' := .mapIter (some b) since (seen.push e.born) clock) hr1
    have hb' : (ChangeMaps.setBlock w1 r (.mapIter (some b) since (seen.push e.born) clock)).heap[b]? = some (.map es clock) := (hset.2 b (fun e1 => hne e1.symm)).trans hb1
    obtain ⟨hem, hes⟩ := mem_left he
    have hc : Came es (seen.push e.born) (xs ++ [e]) := by
      refine ⟨by rw [hse]; simp, List.nodup_append.2 ⟨hxn, by simp, fun y hy z hz => ?_⟩, fun y hy => ?_⟩
      · rw [List.mem_singleton.1 hz]
        intro q
        have : e.born ∈ xs.map MapEntry.born := List.mem_map_of_mem (q ▸ hy)
        rw [hse] at hes
        have h3 : (xs.map MapEntry.born).toArray.contains e.born = true := by simpa using this
        rw [h3] at hes; cases hes
      · rcases List.mem_append.1 hy with q | q
        · exact hxm y q
        · rw [List.mem_singleton.1 q]; exact hem
    have hlen : (xs ++ [e]).length ≤ es.toList.length := nodup_le _ _ hc.2.1 hc.2.2
    have hw : WalkAt (ChangeMaps.setBlock w1 r (.mapIter (some b) since (seen.push e.born) clock)) b r es clock (seen.push e.born) := ⟨since, clock, hb', hset.1, hold, hsk, hsk⟩
    refine hK' _ _ (hMore e _ hem hc (by simp at hlen; omega) hw ?_ ?_ ?_ (run_entry_at _ r b since seen es clock e hset.1 hb' hem hbn))
    · rw [hle, hw.left_eq]
      exact left_shrinks es _ e he
    · rcases hal with rfl | rfl <;> exact ⟨rfl, rfl, rfl, by simp [ChangeMaps.setBlock], fun i _ hi => hset.2 i (fun e1 => hi (by rw [e1]))⟩
    · rcases hal with rfl | rfl <;> simp [ChangeMaps.setBlock]
section
variable {F : Fence} {n : Nat} {P : Program} {w w' : World} {ops : Array Oper} {rest : List Oper} {o : Oper} {a : Act} {Q : Exit → Act → World → Prop} {t : TypeId} {x y : Operand} {v : Value}
theorem wpListIn_load (hg : o.guard = none) (hop : o.op = .load t x) (hr : (Instr.loadAt t (a.eval x)).run P w = .ok v w) (h : wpListIn F n P ops Q rest (a.put o.dst v) w) : wpListIn F n P ops Q (o :: rest) a w := by
  refine wpListIn_plain hg fun K' hK' => ?_
  unfold Oper.wpIn
  refine ⟨by simp [Oper.about, hop], ?_⟩
  rw [Oper.semAt_plain F _ _ (by rw [hop]; intro c hc'; cases hc')]
  unfold execOp
  simp only [hop, Sem.run_bind, Sem.run_pure, Result.andThen_ok, hr]
  exact hK' _ _ h
theorem wpListIn_alloc (hg : o.guard = none) (hop : o.op = .alloc t) (hr : (Instr.alloc t true (.tuple #[])).run P w = .ok v w') (h : wpListIn F n P ops Q rest (a.put o.dst v) w') : wpListIn F n P ops Q (o :: rest) a w := by
  refine wpListIn_plain hg fun K' hK' => ?_
  unfold Oper.wpIn
  refine ⟨by simp [Oper.about, hop], ?_⟩
  rw [Oper.semAt_plain F _ _ (by rw [hop]; intro c hc'; cases hc')]
  unfold execOp
  simp only [hop, Sem.run_bind, Sem.run_pure, Result.andThen_ok, hr]
  exact hK' _ _ h
theorem wpListIn_store (hg : o.guard = none) (hop : o.op = .store t x y) (hr : (Instr.storeAt t (a.eval x) (a.eval y)).run P w = .ok () w') (h : wpListIn F n P ops Q rest (a.put o.dst undef) w') : wpListIn F n P ops Q (o :: rest) a w := by
  refine wpListIn_plain hg fun K' hK' => ?_
  unfold Oper.wpIn
  refine ⟨by simp [Oper.about, hop], ?_⟩
  rw [Oper.semAt_plain F _ _ (by rw [hop]; intro c hc'; cases hc')]
  unfold execOp
  simp only [hop, Sem.run_bind, Sem.run_pure, Result.andThen_ok, hr]
  exact hK' _ _ h
theorem wpListIn_buildSlice1 (hg : o.guard = none) (hop : o.op = .buildSlice t 1 #[(0, x)]) (hr : (Instr.buildSlice t 1 #[(0, a.eval x)]).run P w = .ok v w') (h : wpListIn F n P ops Q rest (a.put o.dst v) w') : wpListIn F n P ops Q (o :: rest) a w := by
  refine wpListIn_plain hg fun K' hK' => ?_
  unfold Oper.wpIn
  refine ⟨by simp [Oper.about, hop], ?_⟩
  rw [Oper.semAt_plain F _ _ (by rw [hop]; intro c hc'; cases hc')]
  unfold execOp
  have he : (#[(0, x)] : Array (Nat × Operand)).map (fun p => (p.1, a.eval p.2)) = #[(0, a.eval x)] := by simp
  simp only [hop, Sem.run_bind, Sem.run_pure, Result.andThen_ok, he, hr]
  exact hK' _ _ h
end
end Go
namespace Gv
open Go
theorem HSim.belowSeal {E : Env} {O : List GObj} {w w' : World} (h : HSim E O w) (hb : RowKit.Below w.heap.size w w') {g n : Nat} {cur : Array Value} {el : TypeId} {fz : Nat × Nat} (hg : w.heap.size ≤ g) (hw : w'.heap[g]? = some (.cells cur el fz)) (h1 : ∀ (j : Nat) v, j < n → cur[j]? = some v → v.oneCell' = true) :
    HSim (E.sealTo g n cur) O w' ∧ Keep E O w (E.sealTo g n cur) O w' := by
  refine h.gen ⟨fun b o v hv => ?_, fun _ _ hs => hs⟩ h.fin hb.os ⟨hb.output, trivial⟩ hb.size (fun b => w.heap.size ≤ b) (fun b hb' => .inr hb') (fun k hk _ => hb.block k hk)
    (fun k o v hv => ?_) (fun k o v hk hv => ?_) (fun i obj ho => .inl ⟨ho, fun b hb' e => ?_⟩) (fun i j oi oj b hij hi hj hbi hbj e => ?_)
  · show (if b = g then (if o < n then cur[o]? else none) else E.snap b o) = some v
    rw [if_neg (by have := h.lt hv; omega)]; exact hv
  · by_cases e : k = g
    · exact .inr (by omega)
    · left; simpa [Env.sealTo, e] using hv
  · have hv' : (if k = g then (if o < n then cur[o]? else none) else E.snap k o) = some v := hv
    by_cases e : k = g
    · rw [if_pos e] at hv'
      by_cases hn : o < n
      · rw [if_pos hn] at hv'
        refine ⟨?_, h1 o v hn hv'⟩
        rw [e]
        simp only [World.cell?, hw]
        simpa using hv'
      · rw [if_neg hn] at hv'; cases hv'
    · rw [if_neg e] at hv'
      have := h.lt hv'; omega
  · have := (h.real i obj ho).blk_lt hb'; omega
  · have e2 : oi.blk (E.sealTo g n cur) = oi.blk E := by cases oi <;> rfl
    rw [e2] at hbi
    have := (h.real i oi hi).blk_lt hbi; omega
theorem HSim.belowO {E : Env} {O : List GObj} {w w' : World} (h : HSim E O w) (hb : RowKit.Below w.heap.size w w') : HSim E O w' ∧ Keep E O w E O w' :=
  h.gen (.refl E) h.fin hb.os ⟨hb.output, trivial⟩ hb.size (fun b => w.heap.size ≤ b) (fun b hb' => .inr hb') (fun k hk _ => hb.block k hk)
    (fun k o v hv => .inl hv) (fun k o v hk hv => absurd (h.lt hv) (by omega)) (fun i obj ho => .inl ⟨ho, fun b hb' e => by have := (h.real i obj ho).blk_lt hb'; omega⟩) (fun i j oi oj b hij hi hj hbi hbj e => by have := (h.real i oi hi).blk_lt hbi; omega)
end Gv
/- From a reading of plain data (numbers, bools, strings, slices, structs) to what it is without memory. -/
set_option linter.unusedVariables false
namespace Gv
open Go Go.RowKit Go.WideShapes Go.ChangeShapes

def Env.all (w : World) : Env := ⟨fun b o => match w.cell? ⟨b, o, none⟩ with
  | some v => if v.oneCell' = true then some v else none
  | none => none, fun _ => none⟩
theorem Env.all_at {w : World} {b o : Nat} {v : Value} (h : w.cell? ⟨b, o, none⟩ = some v) (hv : v.oneCell' = true) : (Env.all w).snap b o = some v := by
  simp [Env.all, h, hv]
def GlobsIn (w : World) : Prop := ∀ p ∈ globs, w.cell? ⟨p.1, p.2.1, none⟩ = some p.2.2 ∧ p.2.2.oneCell' = true
theorem globsIn_none {w : World} (h : globs = []) : GlobsIn w := fun p hp => by rw [h] at hp; cases hp
theorem HSim.all (w : World) (hg : GlobsIn w) : HSim (Env.all w) [] w := by
  have key : ∀ b o v, (Env.all w).snap b o = some v → w.cell? ⟨b, o, none⟩ = some v ∧ v.oneCell' = true := by
    intro b o v h
    simp only [Env.all] at h
    split at h
    · rename_i x hx
      split at h
      · rename_i hv
        simp only [Option.some.injEq] at h
        subst h
        exact ⟨hx, hv⟩
      · cases h
    · cases h
  exact ⟨⟨0, (fun c hc => by cases hc), fun _ _ => rfl⟩, fun b o v h => (key b o v h).1, fun b o v h => (key b o v h).2, fun i x hx => by simp at hx, fun i j oi oj b _ hi => by simp at hi, fun p hp => Env.all_at (hg p hp).1 (hg p hp).2⟩

inductive Sh where
  | int (k : IntKind)
  | bool
  | str
  | slice (e : Sh)
  | agg (l : List Sh)
mutual
def Sh.size : Sh → Nat
  | .agg l => Sh.sizes l
  | _ => 1
def Sh.sizes : List Sh → Nat
  | [] => 0
  | s :: r => s.size + Sh.sizes r
end
mutual
def shB (P : Program) : Sh → TypeId → Bool
  | .int k, t => match P.underlying t with
    | some (.int k') => k = k'
    | _ => false
  | .bool, t => match P.underlying t with
    | some .bool => true
    | _ => false
  | .str, t => match P.underlying t with
    | some .string => true
    | _ => false
  | .slice e, t => match P.underlying t with
    | some (.slice et) => shB P e et && P.cellsOf et == e.size && decide (0 < e.size)
    | _ => false
  | .agg l, t => match P.underlying t with
    | some (.struct fs) => shBs P l fs.toList 0 && P.cellsOf t == Sh.sizes l
    | some (.array n e) => l.length == n && (shAs P l e && P.cellsOf t == Sh.sizes l)
    | _ => false
def shAs (P : Program) : List Sh → TypeId → Bool
  | [], _ => true
  | s :: r, t => P.cellsOf t == s.size && (shB P s t && shAs P r t)
def shBs (P : Program) : List Sh → List Field → Nat → Bool
  | [], [], _ => true
  | s :: r, f :: fs, o => f.offset == o && P.cellsOf f.type == s.size && shB P s f.type && shBs P r fs (o + s.size)
  | _, _, _ => false
end
mutual
def Den : Sh → List GVal → Prop
  | .int k, gs => ∃ n, gs = [.int k n] ∧ (Lit.int k n).wf = true
  | .bool, gs => ∃ b, gs = [.bool b]
  | .str, gs => ∃ s, gs = [.str s] ∧ s.length ≤ maxLen
  | .slice e, gs => ∃ xs, gs = [.slice xs .none] ∧ xs.length ≤ maxLen ∧ ∀ x ∈ xs, Den e x
  | .agg l, gs => ∃ ps, gs = ps.flatten ∧ Dens l ps
def Dens : List Sh → List (List GVal) → Prop
  | [], ps => ps = []
  | s :: r, ps => ∃ p q, ps = p :: q ∧ Den s p ∧ Dens r q
end

def CellsOK (w : World) (cs : List Value) (gs : List GVal) : Prop :=
  cs.length = gs.length ∧ (∀ c ∈ cs, c.oneCell' = true) ∧ ∀ (j : Nat) c g, cs[j]? = some c → gs[j]? = some g → VR (Env.all w) c g
theorem CellsOK.one {w : World} {v : Value} {g : GVal} (hv : v.oneCell' = true) (h : VR (Env.all w) v g) : CellsOK w [v] [g] :=
  ⟨rfl, by simpa using hv, fun j c g' h1 h2 => by
    cases j with
    | zero => simp at h1 h2; subst h1; subst h2; exact h
    | succ j => simp at h1⟩
theorem CellsOK.append {w : World} {a b : List Value} {x y : List GVal} (h : CellsOK w a x) (k : CellsOK w b y) : CellsOK w (a ++ b) (x ++ y) := by
  refine ⟨by simp [h.1, k.1], fun c hc => ?_, fun j c g h1 h2 => ?_⟩
  · rcases List.mem_append.1 hc with hc | hc
    · exact h.2.1 c hc
    · exact k.2.1 c hc
  · by_cases hj : j < a.length
    · rw [List.getElem?_append_left hj] at h1
      rw [List.getElem?_append_left (by rw [← h.1]; exact hj)] at h2
      exact h.2.2 j c g h1 h2
    · rw [List.getElem?_append_right (by omega)] at h1
      rw [List.getElem?_append_right (by rw [← h.1]; omega), ← h.1] at h2
      exact k.2.2 _ c g h1 h2

section
variable {H : Type} {enc : TypeId × Value → H} {P : Program} {w : World} {spare : Nat → Bool} {held : Bool}

theorem cells_at {base : Nat} {a : Addr} {n : Nat} {cs : List Value} (h : w.cells? base a n = some cs) : cs.length = n ∧ ∀ j, j < n → w.cell? (a.add j) = cs[j]? := by
  unfold World.cells? at h
  split at h
  · have hl := mapM_some_length h
    refine ⟨by simpa using hl, fun j hj => ?_⟩
    exact mapM_some_get h j j (by simp [hj])
  · cases h

theorem flat_len {α : Type} {sz : Nat} : ∀ {xs : List (List α)}, (∀ x ∈ xs, x.length = sz) → xs.flatten.length = xs.length * sz
  | [], _ => by simp
  | x :: xs, h => by
    rw [List.flatten_cons, List.length_append, h x (by simp), flat_len fun y hy => h y (by simp [hy])]
    simp [Nat.succ_mul, Nat.add_comm]

mutual
theorem rd : ∀ (S : Sh) (n : Nat) (t : TypeId) (cs : List Value) (x : DataW H × List MemPlace), shB P S t = true → DataW.trod enc P w 0 spare held n t cs = some x → ∃ gs, CellsOK w cs gs ∧ Den S gs ∧ cs.length = S.size
  | .int k, n, t, cs, x, hs, h => by
    unfold shB at hs
    split at hs
    · rename_i k' hu
      have hs : k = k' := by simpa using hs
      subst hs
      obtain ⟨m, rfl, _, hwf⟩ := DataW.trod_int hu h
      exact ⟨[.int k m], .one rfl (.int _ _), ⟨m, rfl, hwf⟩, rfl⟩
    · cases hs
  | .bool, n, t, cs, x, hs, h => by
    unfold shB at hs
    split at hs
    · rename_i hu
      obtain ⟨b, rfl, _⟩ := DataW.trod_bool hu h
      exact ⟨[.bool b], .one rfl (.bool _), ⟨b, rfl⟩, rfl⟩
    · cases hs
  | .str, n, t, cs, x, hs, h => by
    unfold shB at hs
    split at hs
    · rename_i hu
      cases n with
      | zero => simp [DataW.trod] at h
      | succ n =>
        unfold DataW.trod at h
        rw [hu] at h
        match cs, h with
        | [.string b], h =>
          simp only at h
          split at h
          · rename_i hl
            refine ⟨[.str b.data.toList], .one rfl ?_, ⟨_, rfl, ?_⟩, rfl⟩
            · exact VR.str (E := Env.all w) b.data.toList
            · simpa using hl
          · cases h
    · cases hs
  | .slice e, n, t, cs, x, hs, h => by
    unfold shB at hs
    split at hs
    · rename_i et hu
      simp only [Bool.and_eq_true, beq_iff_eq] at hs
      obtain ⟨⟨hs, hsz⟩, hpos⟩ := hs
      have hpos : 0 < e.size := by simpa using hpos
      rcases DataW.trod_slice hu h with ⟨rfl, _⟩ | ⟨a, len, cap, elems, rest, m, rfl, rfl, _, _, hlc, hcm, hel, helem, _, _⟩
      · exact ⟨[.slice [] .none], .one rfl (.slice none 0 0 [] .none 0 (fun _ => .bool true) rfl (Nat.le_refl _) (by simp) (fun hx => absurd rfl hx) (by simp) trivial), ⟨[], rfl, by simp, by simp⟩, rfl⟩
      · have each : ∀ i : Nat, ∃ cs gs, i < len → (w.cells? 0 (a.add (i * P.cellsOf et)) (P.cellsOf et)) = some cs ∧ CellsOK w cs gs ∧ Den e gs ∧ cs.length = e.size := by
          intro i
          by_cases hi : i < len
          · have := helem i hi
            rw [← hel] at hi
            rw [List.getElem?_eq_getElem hi, Option.bind_eq_some_iff] at this
            obtain ⟨cs, h1, h2⟩ := this
            obtain ⟨gs, h3, h4, h5⟩ := rd e m et cs _ hs h2
            exact ⟨cs, gs, fun _ => ⟨h1, h3, h4, h5⟩⟩
          · exact ⟨[], [], fun h => absurd h hi⟩
        obtain ⟨C, hC⟩ := Classical.axiomOfChoice each
        obtain ⟨G, hCG⟩ := Classical.axiomOfChoice hC
        refine ⟨[.slice ((List.range len).map G) .none], .one rfl ?_, ⟨_, rfl, by simp; omega, fun x hx => ?_⟩, rfl⟩
        · have hG : ∀ i, i < len → (G i).length = e.size := fun i hi => by rw [← (hCG i hi).2.1.1]; exact (hCG i hi).2.2.2
          have cell : ∀ i, i < len → ∀ j, j < e.size → w.cell? ((a.add (i * e.size)).add j) = (C i)[j]? := fun i hi j hj => by
            have := cells_at (hCG i hi).1
            rw [hsz] at this
            exact this.2 j hj
          have dm : ∀ k, k < len * e.size → k / e.size < len ∧ k % e.size < e.size ∧ k / e.size * e.size + k % e.size = k := fun k hk =>
            ⟨(Nat.div_lt_iff_lt_mul hpos).2 hk, Nat.mod_lt _ hpos, by rw [Nat.mul_comm]; exact Nat.div_add_mod k e.size⟩
          have hszs : ∀ x ∈ (List.range len).map G, x.length = e.size := fun x hx => by
            obtain ⟨i, hi, rfl⟩ := List.mem_map.1 hx
            exact hG i (by simpa using hi)
          refine .slice (some a) len cap _ .none e.size (fun k => ((C (k / e.size))[k % e.size]?).getD (.bool true)) (by simp) hlc hszs (fun hx => ?_) (fun k g hk => ?_) trivial
          · have hlen : 0 < len := by
              rcases Nat.eq_zero_or_pos len with h0 | h0
              · subst h0; simp at hx
              · exact h0
            have in_ : ∀ i, i < len → ∀ j, j < e.size → ∃ v, (C i)[j]? = some v ∧ v.oneCell' = true := fun i hi j hj => by
              have hl : j < (C i).length := by rw [(hCG i hi).2.2.2]; exact hj
              exact ⟨_, List.getElem?_eq_getElem hl, (hCG i hi).2.1.2.1 _ (List.getElem_mem hl)⟩
            obtain ⟨b, off, spot⟩ := a
            have hspot : spot = none := by
              obtain ⟨v, hv, _⟩ := in_ 0 hlen 0 hpos
              have := cell 0 hlen 0 hpos
              rw [hv] at this
              simpa [Addr.add] using World.cell?_spot this
            subst hspot
            refine ⟨b, off, rfl, fun k hk => ?_⟩
            obtain ⟨d1, d2, d3⟩ := dm k hk
            obtain ⟨v, hv, hv2⟩ := in_ _ d1 _ d2
            have := cell _ d1 _ d2
            rw [hv] at this
            rw [hv]
            refine Env.all_at ?_ hv2
            rw [add_at, add_at, Nat.add_assoc, d3] at this
            exact this
          · have hk' : k < len * e.size := by
              have := (List.getElem?_eq_some_iff.1 hk).1
              rw [flat_len hszs] at this
              simpa using this
            obtain ⟨d1, d2, d3⟩ := dm k hk'
            have hx : ((List.range len).map G)[k / e.size]? = some (G (k / e.size)) := by simp [d1]
            have e1 := flatten_at _ hszs (k / e.size) (k % e.size) _ hx d2
            rw [d3, hk] at e1
            have hl : k % e.size < (C (k / e.size)).length := by rw [(hCG _ d1).2.2.2]; exact d2
            rw [List.getElem?_eq_getElem hl]
            exact (hCG _ d1).2.1.2.2 _ _ _ (List.getElem?_eq_getElem hl) e1.symm
        · obtain ⟨i, hi, rfl⟩ := List.mem_map.1 hx
          exact (hCG i (by simpa using hi)).2.2.1
    · cases hs
  | .agg l, n, t, cs, x, hs, h => by
    unfold shB at hs
    split at hs
    · rename_i fs hu
      simp only [Bool.and_eq_true, beq_iff_eq] at hs
      obtain ⟨hs, hsz⟩ := hs
      obtain ⟨xs, m, rfl, rfl, hcl, hxl, hf⟩ := DataW.trod_struct hu h
      obtain ⟨ps, h1, h2⟩ := rds l m fs.toList cs 0 hs (by simpa [hsz] using hcl) (fun f hf' => by
        obtain ⟨i, hi⟩ := List.getElem?_of_mem hf'
        have := hf i f (by simpa using hi)
        have hlt : i < xs.length := by rw [hxl]; simpa using (List.getElem?_eq_some_iff.1 hi).1
        rw [List.getElem?_eq_getElem hlt] at this
        exact ⟨_, this⟩)
      exact ⟨ps.flatten, by simpa using h1, ⟨ps, rfl, h2⟩, by rw [hcl, hsz]; rfl⟩
    · rename_i k et hu
      simp only [Bool.and_eq_true, beq_iff_eq] at hs
      obtain ⟨hlk, hs, hsz⟩ := hs
      obtain ⟨xs, m, rfl, rfl, hcl, hxl, hf⟩ := DataW.trod_array hu h
      obtain ⟨ps, h1, h2⟩ := rda l m et cs hs (by simpa [hsz] using hcl) (fun i hi => by
        have := hf i (by omega)
        rw [List.getElem?_eq_getElem (by omega)] at this
        exact ⟨_, this⟩)
      exact ⟨ps.flatten, h1, ⟨ps, rfl, h2⟩, by rw [hcl, hsz]; rfl⟩
    · cases hs
theorem rda : ∀ (l : List Sh) (n : Nat) (et : TypeId) (cs : List Value), shAs P l et = true → cs.length = Sh.sizes l →
    (∀ i, i < l.length → ∃ x, DataW.trod enc P w 0 spare held n et ((cs.drop (i * P.cellsOf et)).take (P.cellsOf et)) = some x) → ∃ ps, CellsOK w cs ps.flatten ∧ Dens l ps
  | [], n, et, cs, hs, hl, h => by
    have : cs = [] := List.length_eq_zero_iff.1 hl
    subst this
    exact ⟨[], ⟨rfl, by simp, fun j c g h1 => by simp at h1⟩, rfl⟩
  | s :: r, n, et, cs, hs, hl, h => by
    unfold shAs at hs
    simp only [Bool.and_eq_true, beq_iff_eq] at hs
    obtain ⟨h1, h2, h3⟩ := hs
    obtain ⟨x, hx⟩ := h 0 (by simp)
    rw [Nat.zero_mul, List.drop_zero] at hx
    obtain ⟨gs, q1, q2, q3⟩ := rd s n et _ _ h2 hx
    simp only [Sh.sizes] at hl
    obtain ⟨ps, k1, k2⟩ := rda r n et (cs.drop (P.cellsOf et)) h3 (by rw [List.length_drop, hl, h1]; omega) (fun i hi => by
      obtain ⟨y, hy⟩ := h (i + 1) (by simpa using hi)
      rw [List.drop_drop]
      have e : P.cellsOf et + i * P.cellsOf et = (i + 1) * P.cellsOf et := by rw [Nat.succ_mul, Nat.add_comm]
      rw [e]; exact ⟨y, hy⟩)
    refine ⟨gs :: ps, ?_, ⟨gs, ps, rfl, q2, k2⟩⟩
    rw [List.flatten_cons]
    have := q1.append k1
    rwa [List.take_append_drop] at this
theorem rds : ∀ (l : List Sh) (n : Nat) (fs : List Field) (cs : List Value) (o : Nat), shBs P l fs o = true → cs.length = o + Sh.sizes l →
    (∀ f ∈ fs, ∃ x, DataW.trod enc P w 0 spare held n f.type ((cs.drop f.offset).take (P.cellsOf f.type)) = some x) → ∃ ps, CellsOK w (cs.drop o) ps.flatten ∧ Dens l ps
  | [], n, fs, cs, o, hs, hl, h => by
    refine ⟨[], ?_, rfl⟩
    rw [List.drop_eq_nil_of_le (by rw [hl]; simp [Sh.sizes])]
    exact ⟨rfl, by simp, fun j c g h1 => by simp at h1⟩
  | s :: r, n, fs, cs, o, hs, hl, h => by
    match fs, hs, h with
    | f :: fs, hs, h =>
      unfold shBs at hs
      simp only [Bool.and_eq_true, beq_iff_eq] at hs
      obtain ⟨⟨⟨h1, h2⟩, h3⟩, h4⟩ := hs
      obtain ⟨x, hx⟩ := h f (by simp)
      obtain ⟨gs, q1, q2, q3⟩ := rd s n f.type _ _ h3 hx
      simp only [Sh.sizes] at hl
      obtain ⟨ps, k1, k2⟩ := rds r n fs cs (o + s.size) h4 (by rw [hl]; omega) (fun f' hf' => h f' (by simp [hf']))
      refine ⟨gs :: ps, ?_, ⟨gs, ps, rfl, q2, k2⟩⟩
      rw [List.flatten_cons]
      have e : cs.drop o = (cs.drop f.offset).take (P.cellsOf f.type) ++ cs.drop (o + s.size) := by
        rw [h1, h2, ← List.drop_drop]; exact (List.take_append_drop _ _).symm
      rw [e]
      exact q1.append k1
    | [], hs, h => simp [shBs] at hs
end

def Sh.val : Sh → List GVal → GVal
  | .agg _, gs => .agg gs
  | _, gs => gs.headD .any

theorem arg_read {S : Sh} {t : TypeId} {r : Reach} {base : Nat} {v : Value} {d : DataW H} {ps : List MemPlace} (hs : shB P S t = true) (hval : Value.okWide P w r base t v) (h : DataW.Trod enc P w 0 spare held t v d ps) :
    ∃ gs, Den S gs ∧ VR (Env.all w) v (S.val gs) := by
  obtain ⟨n, h⟩ := h
  obtain ⟨gs, h1, h2, h3⟩ := rd S n t _ _ hs h
  refine ⟨gs, h2, ?_⟩
  have single : ∀ x : Value, v = x → x.cells.toList = [x] → (∃ g, gs = [g]) → S.val gs = gs.headD .any → VR (Env.all w) v (S.val gs) := by
    intro x hx hc ⟨g, hg⟩ hv
    subst hx; subst hg
    rw [hv]
    rw [hc] at h1
    exact h1.2.2 0 _ _ rfl rfl
  cases S with
  | int k =>
    unfold shB at hs
    split at hs
    · rename_i k' hu
      obtain ⟨n, rfl⟩ := okWide_int hu hval
      obtain ⟨m, e, _⟩ := h2
      exact single _ rfl rfl ⟨_, e⟩ rfl
    · cases hs
  | bool =>
    unfold shB at hs
    split at hs
    · rename_i hu
      obtain ⟨n, rfl⟩ := okWide_bool hu hval
      obtain ⟨m, e⟩ := h2
      exact single _ rfl rfl ⟨_, e⟩ rfl
    · cases hs
  | str =>
    unfold shB at hs
    split at hs
    · rename_i hu
      obtain ⟨n, rfl⟩ := okWide_string hu hval
      obtain ⟨m, e, _⟩ := h2
      exact single _ rfl rfl ⟨_, e⟩ rfl
    · cases hs
  | slice e =>
    unfold shB at hs
    split at hs
    · rename_i et hu
      obtain ⟨a, len, cap, rfl⟩ := okWide_slice hu hval
      obtain ⟨m, e, _⟩ := h2
      exact single _ rfl rfl ⟨_, e⟩ rfl
    · cases hs
  | agg l =>
    unfold shB at hs
    split at hs
    · rename_i fs hu
      obtain ⟨cs, rfl, _⟩ := okWide_struct hu hval
      refine .agg cs gs (by have := h1.1; simpa [Value.cells] using this) (fun j g hj => ?_)
      have hl : j < cs.size := by
        have := (List.getElem?_eq_some_iff.1 hj).1
        rw [← h1.1] at this; simpa [Value.cells] using this
      have := h1.2.2 j cs[j] g (by simp [Value.cells, hl]) hj
      simpa [Array.getD, hl] using this
    · rename_i n e hu
      obtain ⟨cs, rfl⟩ : ∃ cs : Array Value, v = .agg cs := by
        simp only [Value.okWide, hu] at hval
        obtain ⟨cs, h1, _⟩ := hval
        exact ⟨cs, h1⟩
      refine .agg cs gs (by have := h1.1; simpa [Value.cells] using this) (fun j g hj => ?_)
      have hl : j < cs.size := by
        have := (List.getElem?_eq_some_iff.1 hj).1
        rw [← h1.1] at this; simpa [Value.cells] using this
      have := h1.2.2 j cs[j] g (by simp [Value.cells, hl]) hj
      simpa [Array.getD, hl] using this
    · cases hs

theorem GPure.lawAt {P : Program} {f : FuncId} {args : Array Value} {gs : List GVal} {w : World} (h : GPure P f gs (.bool true)) (ha : ArgsR (Env.all w) args gs) (hg : GlobsIn w := by exact Gv.globsIn_none rfl) :
    Calls P f args w fun e w' => e = .returned (.bool true) ∧ Old w w' := by
  refine (h.2 (Env.all w) w args (HSim.all w hg) ha).mono ?_
  rintro e w' ⟨v, E', O', g, rfl, h1, h2, h3, rfl, rfl⟩
  cases h3
  exact ⟨rfl, h2.old⟩
theorem ArgsR.nil {E : Env} : ArgsR E #[] [] := ⟨rfl, fun i g h => by simp at h⟩
theorem ArgsR.one {E : Env} {v : Value} {g : GVal} (h : VR E v g) : ArgsR E #[v] [g] := ⟨rfl, fun i g' hg => by
  cases i with
  | zero => simp at hg; subst hg; exact h
  | succ i => simp at hg⟩

theorem Old.trod {W W' : World} {t : TypeId} {v : Value} {d : DataW H} {ps : List MemPlace} (hl : laidOutB P = true) (hr : P.readableRec t = true) (hrow : t < P.types.size) (hb : Old W W') {sp : Nat → Bool}
    (h : DataW.Trod enc P W 0 (fun _ => true) true t v d ps) (hlt : ∀ x ∈ ps, x.block < W.heap.size) (hs : ∀ x ∈ ps, sp x.block = true) : DataW.Trod enc P W' 0 sp true t v d ps :=
  WideElems.Trod_stays hl hr hrow h (fun x hx => by
    have hp := hlt x hx
    cases x with
    | cell b o => exact World.cell?_of_block (w := W) (hb.block b hp)
    | map b => exact hb.block b hp) hs
end
end Gv
/- maps.Keys of a set of hashes, and its iterator. -/
set_option linter.unusedVariables false
set_option maxRecDepth 100000
namespace Gv.Tryz
open Go Gv Go.Proofs Go.RowKit
def encV (l : List UInt8) : Value := .agg (bytesV l).toArray
theorem bytesV_len (l : List UInt8) : (bytesV l).length = l.length := by simp [bytesV]
theorem bytesV_one (l : List UInt8) : ∀ v ∈ bytesV l, v.oneCell' = true := by
  intro v hv
  obtain ⟨c, _, rfl⟩ := List.mem_map.1 hv
  rfl
theorem bytesV_all (l : List UInt8) : (bytesV l).toArray.all (·.oneCell') = true := by
  rw [Array.all_eq_true_iff_forall_mem]
  intro v hv
  exact bytesV_one l v (by simpa using hv)
def zero32 : Array Value := #[.int .u8 0, .int .u8 0, .int .u8 0, .int .u8 0, .int .u8 0, .int .u8 0, .int .u8 0, .int .u8 0, .int .u8 0, .int .u8 0, .int .u8 0, .int .u8 0, .int .u8 0, .int .u8 0, .int .u8 0, .int .u8 0, .int .u8 0, .int .u8 0, .int .u8 0, .int .u8 0, .int .u8 0, .int .u8 0, .int .u8 0, .int .u8 0, .int .u8 0, .int .u8 0, .int .u8 0, .int .u8 0, .int .u8 0, .int .u8 0, .int .u8 0, .int .u8 0]
theorem alloc_h (w : World) : (Instr.alloc 44 true (.tuple #[])).run Tryz.prog w = .ok (.pointer (some ⟨w.heap.size, 0, none⟩)) (w.alloc (.cells zero32 44)) := by
  unfold Instr.alloc
  simp only [Sem.run_bind, Tryz.zeroValue44, Result.andThen_ok]
  rfl
theorem info_h : (Tryz.prog.info? 44).map (·.size) = some 32 := by kernel_rfl
theorem store_h {w : World} {b : Nat} {old : Array Value} {t : TypeId} {l : List UInt8} (hl : l.length = 32) (hb : w.heap[b]? = some (.cells old t (0, 0))) (ho : old.size = 32) :
    (Instr.storeAt 44 (.pointer (some ⟨b, 0, none⟩)) (encV l)).run Tryz.prog w = .ok () (w.setRow b (bytesV l).toArray) := by
  have hs : (bytesV l).toArray.size = 32 := by rw [List.size_toArray, bytesV_len, hl]
  unfold Instr.storeAt
  simp only [Instr.sureAddr, Sem.run_bind, Sem.run_pure, Result.andThen_ok]
  exact run_storeVar_row w b t _ old _ hb (by rw [info_h, hs]) (by rw [hs, ho]) (bytesV_all l)
theorem load_h {w : World} {b : Nat} {t : TypeId} {fz : Nat × Nat} {l : List UInt8} (hl : l.length = 32) (h : w.heap[b]? = some (.cells (bytesV l).toArray t fz)) : (Instr.loadAt 44 (.pointer (some ⟨b, 0, none⟩))).run Tryz.prog w = .ok (encV l) w := by
  have ht : tab Tryz.prog 44 = some (32, true) := by kernel_rfl
  obtain ⟨v, h1, h2⟩ := load_run (P := Tryz.prog) (w := w) (E := Env.all w) ht (by decide) (b := b) (off := 0) (cs := bytesG l) (fun j => .int .u8 (l.getD j 0).toNat) (by simp [bytesG, hl]) (fun j hj => by simp [World.cell?, h, bytesV, hl, hj, List.getD]) (fun j g hj _ => by
    simp only [bytesG, List.getElem?_map] at hj
    cases hq : l[j]? with
    | none => rw [hq] at hj; cases hj
    | some c => rw [hq] at hj; simp at hj; subst hj; simp [List.getD, hq]; exact .int _ _)
  rw [List.take_of_length_le (by simp [bytesG, hl])] at h2
  rw [h1]
  have := argsR_agg (E := Env.all w) (vs := #[v]) (l := l) ⟨rfl, fun i g hg => by
    match i with
    | 0 => simp at hg; subst hg; exact h2
    | i + 1 => simp at hg⟩
  have e : v = .agg (bytesV l).toArray := by simpa using this
  rw [e]; rfl
abbrev HL := { l : List UInt8 // l.length = 32 }
def encH (h : HL) : Value := encV h.1
set_option maxHeartbeats 4000000 in
theorem keys1 (F : Fence) (n : Nat) (h69 : F.fn 109) (hro : F.round = none) (hn : 1 ≤ n) (l Bm off b clock : Nat) (es : Array MapEntry) (hbo : BornOK es clock) (hks : ∀ e ∈ es.toList, ∃ h : HL, e.key = encH h) (J : List HL → World → Prop)
    (hY : ∀ pre x W, J pre W → pre.length < es.size → YieldAt F (n - 1) Tryz.prog l #[encH x] W fun e W' => e = .returned (.bool true) ∧ J (pre ++ [x]) W' ∧ KeepsWalks W W')
    (W : World) (hJ : AbidesFrom W.heap.size J)
    (hm : W.cell? ⟨Bm, off, none⟩ = some (.map (some b))) (hb : W.heap[b]? = some (.map es clock)) (h0 : J [] W) :
    CallsIn F n Tryz.prog 109 #[.func (.yield l) #[] #[], .pointer (some ⟨Bm, off, none⟩)] W fun e W' => (∃ v, e = .returned v) ∧ ∃ hs : List HL, (hs.map encH).Perm (es.toList.map MapEntry.key) ∧ J hs W' := by
  refine callsIn_of_wp Tryz.func109 rfl h69 ?_ hro
  simp only [Tryz.ntmps109, List.size_toArray, List.length_cons, List.length_nil, Nat.reduceAdd, Nat.reduceSub, Array.replicate_succ, Array.replicate_zero, List.push_toArray, List.append_toArray, List.nil_append, List.cons_append]
  gi_wp2_with (first
    | (gi_at_range; refine wpListIn_range_at _ rfl _ _ rfl _ _ Tryz.underlying107 b clock es rfl hb hbo ?_; intro w0 hrg0 hg0 hs0)
    | gi_in)
  go_frame
  gi_loopw [3] (fun _ wr => ∃ (seen : Array Nat) (xs : List MapEntry) (hs : List HL), WalkAt wr b W.heap.size es clock seen ∧ Came es seen xs ∧ hs.map encH = xs.map MapEntry.key ∧ J hs wr)
    (fun _ wr => wr.rangeLeft b W.heap.size)
  case atStart =>
    exact ⟨#[], [], [], hrg0, Came.nil es, rfl, hJ [] W w0 none h0 hg0 (fun r e => by cases e)⟩
  case round =>
    obtain ⟨seen, xs, hs, hrg, hC, hsx, hJs⟩ := hrel
    gi_wp2_with (first
      | (refine wpListIn_next_at _ rfl _ rfl b W.heap.size clock es hbo seen xs hC rfl hrg ?_ ?_)
      | gi_in)
    · -- NOTHING IS LEFT
      intro hp
      gi_wp2
      go_end0
      exact ⟨⟨_, rfl⟩, hs, by rw [hsx]; exact hp.map _, hJs⟩
    · -- AN ENTRY HAS COME: yield(k)
      intro e w2 hem hC2 hlt hrg2 hmu hg2 hs2 hen
      obtain ⟨x, ex⟩ := hks e (by simpa using hem)
      have hsx2 : (hs ++ [x]).map encH = (xs ++ [e]).map MapEntry.key := by rw [List.map_append, List.map_append, hsx]; simp [ex]
      have hlen : hs.length < es.size := by
        have := congrArg List.length hsx
        rw [List.length_map, List.length_map] at this
        omega
      rw [ex] at hen ⊢
      have hal := World.alloc_heap_new w2 (.cells zero32 44)
      have hst := store_h x.2 hal rfl
      obtain ⟨w3, hw3⟩ : ∃ w3, (w2.alloc (.cells zero32 44)).setRow w2.heap.size (bytesV x.1).toArray = w3 := ⟨_, rfl⟩
      rw [hw3] at hst
      have hx3 : w3.heap[w2.heap.size]? = some (.cells (bytesV x.1).toArray 44 (0, 0)) := by rw [← hw3]; exact setRow_heap _ _ _ _ _ _ hal
      have ho3 : ∀ k, k < w2.heap.size → w3.heap[k]? = w2.heap[k]? := fun k hk => by
        rw [← hw3, setRow_other _ _ _ _ (by omega)]
        exact Below.heap_alloc _ _ k hk
      have hs3 : w3.heap.size = w2.heap.size + 1 := by rw [← hw3]; simp
      have hk3 : KeepsWalks w2 w3 := ⟨by omega, fun k o hk ho => (ho3 k (Array.getElem?_eq_some_iff.1 hk).1).trans hk⟩
      have hg3 : w2.grownBy w3 none := ⟨by rw [← hw3]; rfl, by rw [← hw3]; rfl, by rw [← hw3]; rfl, by omega, fun k hk _ => ho3 k hk⟩
      have hlo := load_h x.2 hx3
      have hJ3 : J hs w3 := hJ hs w2 w3 none (hJ hs wr w2 (some W.heap.size) hJs hg2 (fun r e => by cases e; exact ⟨Nat.le_refl _, hrg.iter_walk⟩)) hg3 (fun r e => by cases e)
      have hrg3 := hrg2.of_walks hk3
      have hmu3 : w3.rangeLeft b W.heap.size < wr.rangeLeft b W.heap.size := by rw [hrg3.left_eq, ← hrg2.left_eq]; exact hmu
      obtain ⟨fn, tmps, assign, body, hy, hR⟩ := hY hs x w3 hJ3 hlen
      change (Instr.yield l #[encV x.1]).run Tryz.prog w3 = _ at hy
      clear hw3 hs2
      gi_wp2_with (first
        | (refine wpListIn_alloc rfl rfl (alloc_h _) ?_)
        | (refine wpListIn_store rfl rfl hst ?_)
        | (refine wpListIn_load rfl rfl hlo ?_)
        | gi_in)
      refine hR.mono ?_
      rintro e' W4 ⟨rfl, hJ4, hk4⟩
      gi_wp2
      have hrg4 := hrg3.of_walks hk4
      go_roundw
      case rel => exact ⟨_, xs ++ [e], hs ++ [x], hrg4, hC2, hsx2, hJ4⟩
      case measure => rw [hrg4.left_eq, ← hrg3.left_eq]; exact hmu3
end Gv.Tryz
/- slices.Collect of an iterator of hashes. -/
set_option linter.unusedVariables false
set_option maxRecDepth 100000
namespace Gv.Tryz
open Go Gv Go.Proofs Go.RowKit Go.Maps Go.Sort Go.Shelf
theorem keysGives (F : Fence) (n : Nat) (h69 : F.fn 109) (hro : F.round = none) (hn : 1 ≤ n) (Bm off b clock : Nat) (es : Array MapEntry) (hbo : BornOK es clock) (hks : ∀ e ∈ es.toList, ∃ h : HL, e.key = encH h) (w : World) (hBm : Bm < w.heap.size)
    (hm : w.cell? ⟨Bm, off, none⟩ = some (.map (some b))) (hb : w.heap[b]? = some (.map es clock)) :
    SeqGives F n Tryz.prog 109 #[.pointer (some ⟨Bm, off, none⟩)] encH (fun hs : List HL => (hs.map encH).Perm (es.toList.map MapEntry.key)) es.size w := fun l J W hW hJ hY h0 =>
  keys1 F n h69 hro hn l Bm off b clock es hbo hks J hY W hJ ((hW.cell (p := ⟨Bm, off, none⟩) hBm).trans hm) ((hW.block b (Array.getElem?_eq_some_iff.1 hb).1).trans hb) h0
theorem foldl_fill : ∀ (xs : List Value) (k : Nat) (cs : Array Value), k + xs.length = cs.size → ((xs.zipIdx k).foldl (fun cs p => cs.setIfInBounds p.2 p.1) cs).toList = cs.toList.take k ++ xs
  | [], k, cs, h => by simp at h ⊢; rw [List.take_of_length_le (by simp [h])]
  | x :: r, k, cs, h => by
    simp only [List.zipIdx_cons, List.foldl_cons]
    rw [foldl_fill r (k + 1) _ (by simp at h ⊢; omega)]
    have hk : k < cs.toList.length := by simp at h ⊢; omega
    rw [Array.toList_setIfInBounds, List.take_succ_eq_append_getElem (by simpa using hk), List.getElem_set_self]
    rw [List.take_set_of_le (Nat.le_refl k)]
    simp
theorem build_h (w : World) {l : List UInt8} (hl : l.length = 32) : (Instr.buildSlice 33 1 #[(0, encV l)]).run Tryz.prog w = .ok (.slice (some ⟨w.heap.size, 0, none⟩) 1 1) (w.alloc (.cells (bytesV l).toArray 44)) := by
  have hs : (bytesV l).toArray.size = 32 := by rw [List.size_toArray, bytesV_len, hl]
  have hf : ∀ a : Array Value, a.size = 32 → Instr.fill (fun i => some (i * 32, 32)) a [(0, encV l)] = some (bytesV l).toArray := by
    intro a ha
    have hc : (encV l).cells = (bytesV l).toArray := rfl
    simp only [Instr.fill, hc, hs, ha, ne_eq, not_true_eq_false, decide_false, Bool.false_or, Nat.zero_mul, gt_iff_lt, Nat.lt_irrefl, if_false, Bool.false_eq_true, Nat.zero_add]
    congr 1
    rw [← Array.foldl_toList, Array.toList_zipIdx]
    apply Array.ext'
    have := foldl_fill (bytesV l) 0 a (by rw [bytesV_len, hl, ha])
    rw [List.take_zero, List.nil_append] at this
    exact this
  unfold Instr.buildSlice
  simp only [Sem.run_bind, run_underlying Tryz.underlying33, Tryz.sizeOf44, Result.andThen_ok]
  rw [if_neg (by decide)]
  rw [if_neg (by decide)]
  simp only [Sem.run_bind, Tryz.zeroValue44, Result.andThen_ok, Sem.run_pure]
  rw [hf _ (by simp)]
  rfl
def apAssign : Code := (Code.region 2 #[{ dst := some 5, op := Op.alloc 44, type := 0, pos := "iter.go:51", after := #[], guard := none }, { dst := none, op := Op.store 44 (Operand.tmp 5) (Operand.tmp 7), type := 0, pos := "iter.go:51", after := #[{ on := 0, ground := Ground.data }, { on := 0, ground := Ground.phase }], guard := none }] false)
def apBody : Code := (Code.block 1 (Code.region 3 #[{ dst := some 8, op := Op.load 33 (Operand.tmp 2), type := 33, pos := "iter.go:52", after := #[], guard := none }, { dst := some 9, op := Op.load 44 (Operand.tmp 5), type := 44, pos := "iter.go:52", after := #[], guard := none }, { dst := some 10, op := Op.buildSlice 33 1 #[(0, Operand.tmp 9)], type := 33, pos := "iter.go:52", after := #[{ on := 1, ground := Ground.data }], guard := none }, { dst := some 11, op := Op.call { callee := Callee.builtin Builtin.append, args := #[Operand.tmp 8, Operand.tmp 10], argTypes := #[33, 33] }, type := 33, pos := "iter.go:52", after := #[{ on := 0, ground := Ground.data }, { on := 2, ground := Ground.data }], guard := none }, { dst := none, op := Op.store 33 (Operand.tmp 2) (Operand.tmp 11), type := 0, pos := "iter.go:52", after := #[{ on := 3, ground := Ground.data }, { on := 3, ground := Ground.chain }, { on := 0, ground := Ground.phase }, { on := 1, ground := Ground.phase }, { on := 2, ground := Ground.phase }, { on := 3, ground := Ground.phase }], guard := none }] false))
def apRec (fn : FuncId) (sv : Value) (Bs D : Nat) (st : LoopState) (pend : Option Code) : Loop :=
  { state := st, pending := pend, fn, tmps := #[.slice none 0 0, sv, .pointer (some ⟨Bs, 0, none⟩), undef, .slice none 0 0, undef, sv, undef, undef, undef, undef, undef, undef], params := #[7], assign := apAssign, body := apBody, defers := D }
def cellsH (hs : List HL) : List Value := hs.flatMap fun h => bytesV h.1
theorem cellsH_len (hs : List HL) : (cellsH hs).length = hs.length * 32 := by
  induction hs with
  | nil => rfl
  | cons h r ih => simp only [cellsH, List.flatMap_cons, List.length_append, List.length_cons] at ih ⊢; rw [ih, bytesV_len, h.2]; omega
theorem cellsH_snoc (hs : List HL) (h : HL) : cellsH (hs ++ [h]) = cellsH hs ++ bytesV h.1 := by simp [cellsH]
structure ApAt (w0 : World) (fn : FuncId) (sv : Value) (Bs l D : Nat) (ss : List HL) (W : World) : Prop where
  box : ∃ v, W.heap[Bs]? = some (.cells #[v] 33 (0, 0)) ∧ W.ownsRow w0.heap.size 44 32 v ss.length (cellsH ss) ∧ (v = .slice none 0 0 ↔ ss = [])
  L : W.heap[l]? = some (.loop (apRec fn sv Bs D .ready none))
  K : W.heap[D]? = some (.deferred (some []))
  below : Below w0.heap.size w0 W
theorem ap_abides (w0 : World) (fn : FuncId) (sv : Value) (Bs l D B : Nat) (hB : w0.heap.size ≤ B) : AbidesFrom B (ApAt w0 fn sv Bs l D) := fun s W W' row h hg hrow => by
  have hrow' : ∀ r, row = some r → ∃ o : Obj, W.heap[r]? = some o ∧ o.isWalk = true := fun r e => (hrow r e).2
  obtain ⟨v, hv, hr, hn⟩ := h.box
  exact ⟨⟨v, (grownBy_keeps hg hrow' hv rfl).trans hv, ownsRow_abides_a hr hg hrow', hn⟩, (grownBy_keeps hg hrow' h.L rfl).trans h.L, (grownBy_keeps hg hrow' h.K rfl).trans h.K,
    h.below.grown hg h.below.size (fun k e => Nat.le_trans hB (hrow k e).1)⟩
end Gv.Tryz
/- slices.AppendSeq and slices.Collect of an iterator of hashes: the walk. -/
set_option linter.unusedVariables false
set_option maxRecDepth 100000
namespace Gv.Tryz
open Go Gv Go.Proofs Go.RowKit Go.Maps Go.Sort Go.Shelf
theorem info_hash : ∃ i : TypeInfo, Tryz.prog.info? 44 = some i ∧ i.zero = some (.agg zero32) ∧ i.size = 32 ∧ i.bytes = 32 := by
  cases h : Tryz.prog.info? 44 with
  | none =>
    have : (Tryz.prog.info? 44).isSome = true := by kernel_rfl
    rw [h] at this; cases this
  | some i =>
    have h1 : (Tryz.prog.info? 44).bind (·.zero) = some (.agg zero32) := by kernel_rfl
    have h2 : (Tryz.prog.info? 44).map (·.size) = some 32 := by kernel_rfl
    have h3 : (Tryz.prog.info? 44).map (·.bytes) = some 32 := by kernel_rfl
    rw [h] at h1 h2 h3
    exact ⟨i, rfl, h1, by simpa using h2, by simpa using h3⟩
set_option maxHeartbeats 800000 in
theorem apYield (F : Fence) (m : Nat) (w0 : World) (fn : FuncId) (hfn : F.fn fn) (sv : Value) (Bs l D : Nat) (hBl : Bs ≠ l) (hDl : D ≠ l) (hDB : D ≠ Bs) (h0B : w0.heap.size ≤ Bs) (h0l : w0.heap.size ≤ l)
    (N : Nat) (hN : N ≤ maxLen) (hNb : N * 32 ≤ 140737488355328) (ss : List HL) (x : HL) (W : World) (h : ApAt w0 fn sv Bs l D ss W) (hlen : ss.length < N) :
    YieldAt F m Tryz.prog l #[encH x] W fun e W' => e = .returned (.bool true) ∧ ApAt w0 fn sv Bs l D (ss ++ [x]) W' ∧ KeepsWalks W W' := by
  have hne : (33 : TypeId) ≠ 44 := by decide
  obtain ⟨i0, hi, hz0, hz1, hz2⟩ := info_hash
  obtain ⟨v, hv, hrow, _⟩ := h.box
  refine ⟨fn, #[.slice none 0 0, sv, .pointer (some ⟨Bs, 0, none⟩), undef, .slice none 0 0, undef, sv, encH x, undef, undef, undef, undef, undef], apAssign, apBody, by simpa [apRec] using run_yield (P := Tryz.prog) (args := #[encH x]) h.L rfl, roundIn_of_wpIn hfn ?_⟩
  have hl : l < W.heap.size := (Array.getElem?_eq_some_iff.1 h.L).1
  have hal := World.alloc_heap_new W (.cells zero32 44)
  have hst := store_h x.2 hal rfl
  obtain ⟨W1, hW1⟩ : ∃ w3, (W.alloc (.cells zero32 44)).setRow W.heap.size (bytesV x.1).toArray = w3 := ⟨_, rfl⟩
  rw [hW1] at hst
  have hx1 : W1.heap[W.heap.size]? = some (.cells (bytesV x.1).toArray 44 (0, 0)) := by rw [← hW1]; exact setRow_heap _ _ _ _ _ _ hal
  have ho1 : ∀ k, k < W.heap.size → W1.heap[k]? = W.heap[k]? := fun k hk => by
    rw [← hW1, setRow_other _ _ _ _ (by omega)]
    exact Below.heap_alloc _ _ k hk
  have hs1 : W1.heap.size = W.heap.size + 1 := by rw [← hW1]; simp
  have hg1 : W.grownBy W1 none := ⟨by rw [← hW1]; rfl, by rw [← hW1]; rfl, by rw [← hW1]; rfl, by omega, fun k hk _ => ho1 k hk⟩
  have hk1 : KeepsWalks W W1 := ⟨by omega, fun k o hk ho => (ho1 k (Array.getElem?_eq_some_iff.1 hk).1).trans hk⟩
  clear hW1
  have old : ∀ {k : Nat} {o : Obj}, W.heap[k]? = some o → W1.heap[k]? = some o := fun hk => (ho1 _ (Array.getElem?_eq_some_iff.1 hk).1).trans hk
  have hv1 := old hv
  have hK1 := old h.K
  have hL1 := old h.L
  have hob : v.ownBlock = none ∨ v.ownBlock ≠ none := by cases v.ownBlock <;> simp
  have hrow1 : W1.ownsRow w0.heap.size 44 32 v ss.length (cellsH ss) := hrow.kept hg1 hob
  have hb1 : Below w0.heap.size w0 W1 := h.below.grown hg1 h.below.size (fun k e => by cases e)
  have hl1 : l < W1.heap.size := by omega
  have hbr := run_beginRound (P := Tryz.prog) hL1 rfl
  obtain ⟨W2, hW2⟩ : ∃ W2, W1.putObj l (.loop { apRec fn sv Bs D .ready none with state := .busy }) = W2 := ⟨_, rfl⟩
  rw [hW2] at hbr
  have hg2 : W1.grownBy W2 (some l) := by rw [← hW2]; exact grownBy_putObj_a _ _ _
  have hk2 : KeepsWalks W W2 := hk1.trans (by rw [← hW2]; exact KeepsWalks.putObj _ hL1 rfl)
  have hv2 : W2.heap[Bs]? = some (.cells #[v] 33 (0, 0)) := by rw [← hW2]; exact (World.putObj_heap_other hBl).trans hv1
  have hK2 : W2.heap[D]? = some (.deferred (some [])) := by rw [← hW2]; exact (World.putObj_heap_other hDl).trans hK1
  have hL2 : W2.heap[l]? = some (.loop { apRec fn sv Bs D .ready none with state := .busy }) := by rw [← hW2]; exact World.putObj_heap_same hl1
  have hx2 : W2.heap[W.heap.size]? = some (.cells (bytesV x.1).toArray 44 (0, 0)) := by rw [← hW2]; exact (World.putObj_heap_other (by omega)).trans hx1
  have hrow2 : W2.ownsRow w0.heap.size 44 32 v ss.length (cellsH ss) := hrow1.kept hg2 (ownsRow_ne_a hrow1 hL1 (fun cur e => by first | cases e | exact hne (Obj.cells.inj e).2.1))
  have hb2 : Below w0.heap.size w0 W2 := hb1.grown hg2 hb1.size (fun k e => by cases e; exact h0l)
  have hlo := load_h x.2 hx2
  clear hW2
  obtain ⟨hc2, hf2⟩ := cell_of_box_a hv2
  have hBlt : Bs < W2.heap.size := (Array.getElem?_eq_some_iff.1 hv2).1
  have hl2 : l < W2.heap.size := (Array.getElem?_eq_some_iff.1 hL2).1
  have hDlt : D < W2.heap.size := (Array.getElem?_eq_some_iff.1 hK2).1
  have ne_of : ∀ {j : Nat} {o : Obj}, W2.heap[j]? = some o → (∀ cur, o ≠ .cells cur 44 (0, 0)) → some j ≠ v.ownBlock := fun hj hno => by
    rcases ownsRow_ne_a hrow2 hj hno with e | e
    · rw [e]; simp
    · exact fun e' => e e'.symm
  have hbd := build_h W2 x.2
  have h32 : (bytesV x.1).length = 32 := by rw [bytesV_len, x.2]
  obtain ⟨V, hV⟩ : ∃ V, W2.alloc (.cells (bytesV x.1).toArray 44) = V := ⟨_, rfl⟩
  rw [hV] at hbd
  have hcl : ∀ (j : Nat) (u : Value), (bytesV x.1)[j]? = some u → V.cell? (Addr.add ⟨W2.heap.size, 0, none⟩ j) = some u := fun j u hj => by
    have ha : Addr.add ⟨W2.heap.size, 0, none⟩ j = ⟨W2.heap.size, j, none⟩ := by unfold Addr.add; split <;> simp_all
    have := World.alloc_heap_new W2 (.cells (bytesV x.1).toArray 44)
    rw [ha, ← hV]
    simp only [World.cell?, this]
    simpa using hj
  have hrowV : V.ownsRow w0.heap.size 44 32 v ss.length (cellsH ss) := by rw [← hV]; exact hrow2.alloc _
  have hsV : V.heap.size = W2.heap.size + 1 := by rw [← hV]; simp
  have oldV : ∀ {k : Nat} {o : Obj}, W2.heap[k]? = some o → V.heap[k]? = some o := fun hk => by rw [← hV]; exact (Below.heap_alloc _ _ _ (Array.getElem?_eq_some_iff.1 hk).1).trans hk
  have hbV : Below w0.heap.size w0 V := by rw [← hV]; exact hb2.alloc hb2.size _
  have hkV : KeepsWalks W V := hk2.trans (by rw [← hV]; exact KeepsWalks.alloc _ _)
  have h0V := hbV.size
  clear hV
  unfold apAssign
  gi_wp2_with (first
    | (refine wpListIn_alloc (t := 44) rfl rfl (alloc_h _) ?_)
    | (refine wpListIn_store (t := 44) (x := .tmp 5) (y := .tmp 7) (w' := W1) rfl rfl ?_ ?_; exact hst)
    | gi_round_op_a)
  unfold apBody
  gi_wp2_with (first
    | (refine wpListIn_load (t := 44) (x := .tmp 5) (v := encV x.1) rfl rfl ?_ ?_; exact hlo)
    | (refine wpListIn_buildSlice1 (t := 33) (x := .tmp 9) (v := .slice (some ⟨W2.heap.size, 0, none⟩) 1 1) (w' := V) rfl rfl ?_ ?_; exact hbd)
    | (gi_at_builtin; refine wpListIn_append_own V rfl (.tmp 8) (.tmp 10) 33 rfl w0.heap.size 44 i0 (.agg zero32) 32 32 Tryz.underlying33 hi hz0 hz1 hz2 rfl (by decide) v _ _ rfl hrowV ⟨W2.heap.size, 0, none⟩ 1 1 (bytesV x.1) rfl (by rw [h32]) hcl (bytesV_one x.1) (by omega) (by omega) h0V ?_; intro v' w3 hown' hg3 hnil3
       have hv3 : w3.heap[Bs]? = some (.cells #[v] 33 (0, 0)) := (hg3.block Bs (by omega) (ne_of hv2 (fun cur e => by first | cases e | exact hne (Obj.cells.inj e).2.1))).trans (oldV hv2)
       obtain ⟨hc3, hf3⟩ := cell_of_box_a hv3
       obtain ⟨g', cap', cur', rfl, hbase', hgb', hr1, hr2, hr3, hr4⟩ : ∃ g' cap' cur', v' = .slice (some ⟨g', 0, none⟩) (ss.length + 1) cap' ∧ w0.heap.size ≤ g' ∧ w3.heap[g']? = some (.cells cur' 44 (0, 0)) ∧ ss.length + 1 ≤ cap' ∧ cap' ≤ maxLen ∧ cur'.size = cap' * 32 ∧ cur'.toList.take ((ss.length + 1) * 32) = cellsH ss ++ bytesV x.1 := by
         rcases hown'.2 with ⟨_, h0⟩ | h'
         · exact absurd h0 (by omega)
         · exact h'
       go_frame)
    | gi_round_op_a)
  have hL3 : w3.heap[l]? = some (.loop { apRec fn sv Bs D .ready none with state := .busy }) := (hg3.block l (by omega) (ne_of hL2 (fun cur e => by first | cases e | exact hne (Obj.cells.inj e).2.1))).trans (oldV hL2)
  have hK3 : w3.heap[D]? = some (.deferred (some [])) := (hg3.block D (by omega) (ne_of hK2 (fun cur e => by first | cases e | exact hne (Obj.cells.inj e).2.1))).trans (oldV hK2)
  obtain ⟨w4, hw4⟩ : ∃ w4, w3.setCell ⟨Bs, 0, none⟩ (.slice (some ⟨g', 0, none⟩) (ss.length + 1) cap') = w4 := ⟨_, rfl⟩
  rw [hw4]
  have hg4 : w3.grownBy w4 (some Bs) := by rw [← hw4]; exact grownBy_setCell0_a _ _ _
  have hv4 : w4.heap[Bs]? = some (.cells #[.slice (some ⟨g', 0, none⟩) (ss.length + 1) cap'] 33 (0, 0)) := by rw [← hw4]; exact heap_setCell_box_a _ hv3
  have hL4 : w4.heap[l]? = some (.loop { apRec fn sv Bs D .ready none with state := .busy }) := (hg4.block l (Array.getElem?_eq_some_iff.1 hL3).1 (fun e => hBl (by cases e; rfl))).trans hL3
  have hK4 : w4.heap[D]? = some (.deferred (some [])) := (hg4.block D (Array.getElem?_eq_some_iff.1 hK3).1 (fun e => hDB (by cases e; rfl))).trans hK3
  have hrow4 := hown'.kept hg4 (ownsRow_ne_a hown' hv3 (fun cur e => by first | cases e | exact hne (Obj.cells.inj e).2.1))
  have hl4 : l < w4.heap.size := (Array.getElem?_eq_some_iff.1 hL4).1
  have hb3 : Below w0.heap.size w0 w3 := hbV.grown hg3 h0V (fun k e => (hrow2.lt k e).1)
  have hb4 : Below w0.heap.size w0 w4 := hb3.grown hg4 hb3.size (fun k e => by cases e; exact h0B)
  have hk4 : KeepsWalks W w4 := (hkV.trans (KeepsWalks.of_grownBy hg3 (ownsRow_not_walk_a hrowV))).trans (by rw [← hw4]; exact KeepsWalks.setCell _ _ _)
  clear hw4
  refine ⟨_, _, run_endRound none hL4, rfl, ⟨⟨_, (World.putObj_heap_other hBl).trans hv4, ?_, by simp⟩, World.putObj_heap_same hl4, (World.putObj_heap_other hDl).trans hK4, hb4.grown (grownBy_putObj_a _ _ _) hb4.size (fun k e => by cases e; exact h0l)⟩, hk4.trans (KeepsWalks.putObj _ hL4 rfl)⟩
  have := hrow4.kept (grownBy_putObj_a w4 l (.loop { { apRec fn sv Bs D .ready none with state := .busy } with state := if (none : Option Code).isNone then .ready else .done, pending := none })) (ownsRow_ne_a hrow4 hL4 (fun cur e => by first | cases e | exact hne (Obj.cells.inj e).2.1))
  rw [cellsH_snoc, List.length_append]
  exact this
set_option maxHeartbeats 2000000 in
theorem appendSeq (F : Fence) (n : Nat) (h11 : F.fn 108) (hro : F.round = none) (hn : 2 ≤ n) (g : Nat) (lb : Array Value) (hFg : F.fn g) (eg : ∀ args w, (callFunc g args).run Tryz.prog w = .ok (.enter g args) w)
    (S : List HL → Prop) (N : Nat) (hN : N ≤ maxLen) (hNb : N * 32 ≤ 140737488355328) (w : World) (hseq : SeqGives F (n - 1) Tryz.prog g lb encH S N w) :
    CallsIn F n Tryz.prog 108 #[.slice none 0 0, .func (.func g) #[] lb] w fun e w' => ∃ (v : Value) (ss : List HL), e = .returned v ∧ S ss ∧ w'.ownsRow w.heap.size 44 32 v ss.length (cellsH ss) ∧ (v = .slice none 0 0 ↔ ss = []) ∧ Below w.heap.size w w' := by
  have h1 : 1 ≤ n := by omega
  have hne : (33 : TypeId) ≠ 44 := by decide
  refine callsIn_of_wp_marks Tryz.func108 rfl h11 ?_ hro
  simp only [Tryz.ntmps108, List.size_toArray, List.length_cons, List.length_nil, Nat.reduceAdd, Nat.reduceSub, Array.replicate_succ, Array.replicate_zero, List.push_toArray, List.append_toArray, List.nil_append, List.cons_append]
  gi_wp2
  refine wpIn_rangeFunc ?_
  intro fn hfn
  rw [hro]
  obtain ⟨W0, hW0⟩ : ∃ W0, w.alloc (.cells #[.slice none 0 0] 33) = W0 := ⟨_, rfl⟩
  have hs0 : W0.heap.size = w.heap.size + 1 := by rw [← hW0]; simp
  have hv0 : W0.heap[w.heap.size]? = some (.cells #[.slice none 0 0] 33 (0, 0)) := by rw [← hW0]; exact World.alloc_heap_new w _
  have hb0 : Below w.heap.size w W0 := by rw [← hW0]; exact (Below.refl _ w).alloc (Nat.le_refl _) _
  rw [hW0]
  obtain ⟨W1, hW1⟩ : ∃ W1, (W0.alloc (.deferred (some []))).alloc (.loop (apRec fn (.func (.func g) #[] lb) w.heap.size W0.heap.size .ready none)) = W1 := ⟨_, rfl⟩
  have hold : ∀ k, k < W0.heap.size → W1.heap[k]? = W0.heap[k]? := fun k hk => by
    rw [← hW1]; exact (Below.heap_alloc _ _ k (by simp; omega)).trans (Below.heap_alloc _ _ k hk)
  have hb1 : Below w.heap.size w W1 := by rw [← hW1]; exact (hb0.alloc hb0.size _).alloc (by have := hb0.size; simp; omega) _
  have hs1 : W1.heap.size = W0.heap.size + 2 := by rw [← hW1]; simp
  have hM : ApAt w fn (.func (.func g) #[] lb) w.heap.size (W0.heap.size + 1) W0.heap.size [] W1 :=
    ⟨⟨_, (hold w.heap.size (by omega)).trans hv0, ⟨rfl, .inl ⟨rfl, rfl⟩⟩, by simp⟩,
     by rw [← hW1]; have := World.alloc_heap_new (W0.alloc (.deferred (some []))) (.loop (apRec fn (.func (.func g) #[] lb) w.heap.size W0.heap.size .ready none)); rwa [World.size_alloc] at this,
     by rw [← hW1]; exact (Below.heap_alloc _ _ _ (by simp)).trans (World.alloc_heap_new W0 _), hb1⟩
  refine ⟨W0.heap.size + 1, [{ target := .collected W0.heap.size, args := #[] }], W1, { target := .fn (.func g) lb, args := #[.func (.yield (W0.heap.size + 1)) #[] #[]] }, W1, g,
    #[.func (.yield (W0.heap.size + 1)) #[] #[]] ++ lb, W1, ?_, ?_, ?_, ?_, fun _ => h1, ?_⟩
  · rw [← hW1]; exact run_enterLoop_outer _ _ _ _ _
  · simp [resolve, go_sem]
  · intro f' hf'; simp [Target.leads] at hf'; subst hf'; exact hFg
  · simp [invoke, go_sem, eg]
  · refine (hseq (W0.heap.size + 1) (ApAt w fn (.func (.func g) #[] lb) w.heap.size (W0.heap.size + 1) W0.heap.size) W1 hb1 (ap_abides _ _ _ _ _ _ _ hb1.size)
      (fun pre x W hJ hl => apYield F (n - 1 - 1) w fn hfn _ w.heap.size (W0.heap.size + 1) W0.heap.size (by omega) (by omega) (by omega) (Nat.le_refl _) (by omega) N hN hNb pre x W hJ hl) hM).mono ?_
    rintro e W2 ⟨⟨v0, rfl⟩, ss, hS, h2⟩
    obtain ⟨v, hv, hrow, hnil⟩ := h2.box
    have hend := run_endLoop (P := Tryz.prog) h2.L (by simp [apRec])
    obtain ⟨W3, hW3⟩ : ∃ W3, W2.putObj (W0.heap.size + 1) (.loop { apRec fn (.func (.func g) #[] lb) w.heap.size W0.heap.size .ready none with state := .exhausted }) = W3 := ⟨_, rfl⟩
    rw [hW3] at hend
    have hg3 : W2.grownBy W3 (some (W0.heap.size + 1)) := by rw [← hW3]; exact grownBy_putObj_a _ _ _
    have hv3 : W3.heap[w.heap.size]? = some (.cells #[v] 33 (0, 0)) := by rw [← hW3]; exact (World.putObj_heap_other (by omega)).trans hv
    have hK3 : W3.heap[W0.heap.size]? = some (.deferred (some [])) := by rw [← hW3]; exact (World.putObj_heap_other (by omega)).trans h2.K
    have hrow3 := hrow.kept hg3 (ownsRow_ne_a hrow h2.L (fun cur e => by first | cases e | exact hne (Obj.cells.inj e).2.1))
    have hb3 : Below w.heap.size w W3 := h2.below.grown hg3 h2.below.size (fun k e => by cases e; omega)
    obtain ⟨hc3, hf3⟩ := cell_of_box_a hv3
    clear hW3
    refine ⟨none, W3, hend, ?_⟩
    gi_wp2
    rw [← hs0]
    refine ⟨by simp, .inl ⟨_, _, rfl, run_takeDeferred hK3, ?_⟩⟩
    exact ⟨_, results_tmp rfl _ _ _, v, ss, rfl, hS, hrow3.kept (grownBy_putObj_a _ _ _) (ownsRow_ne_a hrow3 hK3 (fun cur e => by first | cases e | exact hne (Obj.cells.inj e).2.1)), hnil, hb3.grown (grownBy_putObj_a _ _ _) hb3.size (fun k e => by cases e; omega)⟩
set_option maxHeartbeats 1000000 in
theorem collect (F : Fence) (n : Nat) (h8 : F.fn 79) (h11 : F.fn 108) (hro : F.round = none) (hn : 3 ≤ n) (g : Nat) (lb : Array Value) (hFg : F.fn g) (eg : ∀ args w, (callFunc g args).run Tryz.prog w = .ok (.enter g args) w)
    (S : List HL → Prop) (N : Nat) (hN : N ≤ maxLen) (hNb : N * 32 ≤ 140737488355328) (w : World) (hseq : SeqGives F (n - 1 - 1) Tryz.prog g lb encH S N w) :
    CallsIn F n Tryz.prog 79 #[.func (.func g) #[] lb] w fun e w' => ∃ (v : Value) (ss : List HL), e = .returned v ∧ S ss ∧ w'.ownsRow w.heap.size 44 32 v ss.length (cellsH ss) ∧ (v = .slice none 0 0 ↔ ss = []) ∧ Below w.heap.size w w' := by
  have h1 : 1 ≤ n := by omega
  have e11 : ∀ args w, (callFunc 108 args).run Tryz.prog w = .ok (.enter 108 args) w := enters_of Tryz.func108 (by kernel_rfl) rfl
  refine callsIn_of_wp Tryz.func79 rfl h8 ?_ hro
  simp only [Tryz.ntmps79, List.size_toArray, List.length_cons, List.length_nil, Nat.reduceAdd, Nat.reduceSub, Array.replicate_succ, Array.replicate_zero, List.push_toArray, List.append_toArray, List.nil_append, List.cons_append]
  gi_wp2_with (gi_at_fn 108; refine (appendSeq F (n - 1) h11 hro (by omega) g lb hFg eg S N hN hNb _ hseq).mono ?_; rintro e w' ⟨v, ss, rfl, hS, hrow, hnil, hb⟩)
  go_ret
  exact ⟨v, ss, rfl, hS, hrow, hnil, hb⟩
end Gv.Tryz
/- slices.Collect(maps.Keys(set)): the set's hashes, in some order. -/
set_option linter.unusedVariables false
set_option linter.unusedSimpArgs false
set_option maxRecDepth 20000
set_option maxHeartbeats 4000000
namespace Gv.Tryz
open Go Gv Go.Proofs Go.RowKit
def hsB (l : List Hs) : List UInt8 := l.flatMap (·.1)
theorem cellsH_B (l : List Hs) : cellsH l = bytesV (hsB l) := by
  induction l with
  | nil => rfl
  | cons h r ih => simp only [cellsH, hsB, List.flatMap_cons, bytesV, List.map_append] at ih ⊢; rw [ih]
theorem hsG_B (l : List Hs) : (hsG l).flatten = bytesG (hsB l) := by
  induction l with
  | nil => rfl
  | cons h r ih => simp only [hsG, hsB, List.flatMap_cons, List.map_cons, List.flatten_cons, bytesG, List.map_append] at ih ⊢; rw [ih]
theorem vr_key {E : Env} {v : Value} {h : Hs} (hv : VR E v (.agg (bytesG h.1))) : v = encH h := by
  have := argsR_agg (E := E) (vs := #[v]) (l := h.1) ⟨rfl, fun i g hg => by
    match i with
    | 0 => simp at hg; subst hg; simpa using hv
    | i + 1 => simp at hg⟩
  have h2 : v = .agg (bytesV h.1).toArray := by simpa using this
  exact h2
theorem encH_inj {a b : Hs} (h : encH a = encH b) : a = b := by
  have h1 : (bytesV a.1).toArray = (bytesV b.1).toArray := by injection h
  have h2 : bytesV a.1 = bytesV b.1 := by simpa using h1
  refine Subtype.ext ?_
  have : ∀ (x y : List UInt8), bytesV x = bytesV y → x = y := by
    intro x
    induction x with
    | nil => intro y h; cases y with
      | nil => rfl
      | cons => cases h
    | cons c r ih =>
      intro y h
      cases y with
      | nil => cases h
      | cons d s =>
        simp only [bytesV, List.map_cons, List.cons.injEq, Value.int.injEq, true_and] at h
        rw [ih s h.2]
        have : c.toNat = d.toNat := by have := h.1; omega
        rw [UInt8.toNat_inj.1 this]
  exact this _ _ h2
theorem perm_of_map {α β : Type} {f : α → β} (hf : ∀ a b, f a = f b → a = b) {l m : List α} (h : (l.map f).Perm (m.map f)) : l.Perm m := by
  classical
  rw [List.perm_iff_count] at h ⊢
  intro a
  have := h (f a)
  have hc : ∀ x : List α, (x.map f).count (f a) = x.count a := by
    intro x
    induction x with
    | nil => rfl
    | cons b r ih =>
      rw [List.map_cons, List.count_cons, List.count_cons, ih]
      by_cases e : b = a
      · simp [e]
      · have : f b ≠ f a := fun q => e (hf _ _ q)
        simp [e, this]
  rwa [hc, hc] at this
theorem gCollect {α : Type} (enc : α → GVal) (m : List (Hs × α)) (hm : m.length ≤ 1000000000) {O : List GObj} {o st oc stc : Nat} (hO : O[o]? = some (.map st (kvG enc m))) (hOc : O[oc]? = some (.row stc 1 [[.map o st]])) :
    GCalls Tryz.prog 79 [.func (.func 109) [] [.ptr oc stc 0 0]] O (fun g O' => ∃ l : List Hs, l.Perm (m.map (·.1)) ∧ g = .slice (hsG l) .none ∧ O' = O) := by
  refine ⟨by kernel_rfl, fun E w vs hs ha => ?_⟩
  obtain ⟨hsz, hat⟩ := ha
  match vs, hsz with
  | ⟨[v]⟩, _ =>
    have hv := hat 0 _ rfl
    change VR E v _ at hv
    cases hv with
    | func fn fs cs gs ks hf hk hfs hcs =>
      obtain ⟨fs⟩ := fs
      obtain ⟨cs⟩ := cs
      match fs, hf with
      | [], _ =>
        match cs, hk with
        | [c], _ =>
          have hc := hcs 0 _ rfl
          change VR E c (.ptr oc stc 0 0) at hc
          cases hc with
          | ptr b off _ _ _ _ lc hlc hbc hoff =>
            have hre := hs.real _ _ hOc
            obtain ⟨lc2, hlc2, hsz2, _, hre⟩ := hre
            rw [hlc] at hlc2; cases hlc2
            rw [hbc] at hre
            obtain ⟨cur, el, hcw, hcs, hct, hrows, _⟩ := hre
            obtain ⟨q, h1, _, h2⟩ := hrows 0 (.map o st) rfl
            have hoff2 : off = lc.off := by rw [hoff]; omega
            have hcell : w.cell? ⟨b, off, none⟩ = some q := by
              simp only [World.cell?, hcw, hoff2]
              simpa using h1
            have hBm : b < w.heap.size := (Array.getElem?_eq_some_iff.1 hcw).1
            cases h2 with
            | map r o st l hl hb =>
              obtain ⟨b2, es, clock, e, hw, hes, hent, hloc, hsn2, hbo⟩ := map_block hs (VR.map r o st l hl hb) hO
              cases e
              have hln : es.size = m.length := by
                have : es.toList.length = (kvG enc m).length := hes
                rw [Array.length_toList] at this
                rw [this, kvG, List.length_map]
              have hkey : es.toList.map MapEntry.key = (m.map (·.1)).map encH := by
                refine List.ext_getElem? fun i => ?_
                rw [List.getElem?_map, List.getElem?_map, List.getElem?_map]
                cases hi : m[i]? with
                | none =>
                  have : es.toList[i]? = none := by
                    rw [List.getElem?_eq_none_iff] at hi ⊢
                    rw [Array.length_toList]; omega
                  rw [this]; rfl
                | some p =>
                  have hlt := (List.getElem?_eq_some_iff.1 hi).1
                  have hi2 : i < es.toList.length := by rw [Array.length_toList]; omega
                  have he : es.toList[i]? = some (es.toList[i]) := List.getElem?_eq_getElem hi2
                  have := (hent i _ (.agg (bytesG p.1.1), enc p.2) he (by simp [kvG, hi])).1
                  rw [he]
                  exact congrArg some (vr_key this)
              have hks : ∀ e ∈ es.toList, ∃ h : HL, e.key = encH h := by
                intro e he
                have : e.key ∈ es.toList.map MapEntry.key := List.mem_map_of_mem he
                rw [hkey] at this
                obtain ⟨h, _, eh⟩ := List.mem_map.1 this
                exact ⟨h, eh.symm⟩
              have hseq := keysGives Fence.wide 3 trivial rfl (by omega) b off r clock es hbo hks w hBm hcell hw
              have hc := collect Fence.wide 5 trivial trivial rfl (by omega) 109 #[.pointer (some ⟨b, off, none⟩)] trivial (enters_of Tryz.func109 (by kernel_rfl) rfl) _ es.size (by rw [hln]; exact Nat.le_trans hm (by decide)) (by omega) w hseq
              refine (callsIn_wide.1 hc).mono ?_
              rintro e' w' ⟨v, ss, rfl, hS, hrow, hnil, hbel⟩
              have hperm : ss.Perm (m.map (·.1)) := perm_of_map (fun _ _ => encH_inj) (by rw [← hkey]; exact hS)
              rcases hrow.2 with ⟨rfl, hz⟩ | ⟨g, cap, cur, rfl, hbase, hgb, r1, r2, r3, r4⟩
              · have hss : ss = [] := List.eq_nil_of_length_eq_zero hz
                subst hss
                obtain ⟨p1, p2⟩ := hs.belowO hbel
                exact ⟨_, E, O, .slice [] .none, rfl, p1, p2, .slice none 0 0 [] .none 32 (fun _ => undef) rfl (Nat.le_refl _) (by simp) (by simp) (by simp) trivial, [], hperm, rfl, rfl⟩
              · have hcur : ∀ j, j < ss.length * 32 → cur[j]? = (bytesV (hsB ss))[j]? := by
                  intro j hj
                  rw [← cellsH_B, ← r4, List.getElem?_take_of_lt hj, Array.getElem?_toList]
                have hbl : (bytesV (hsB ss)).length = ss.length * 32 := by rw [← cellsH_B, cellsH_len]
                obtain ⟨p1, p2⟩ := hs.belowSeal hbel (n := ss.length * 32) hbase hgb (fun j v hj hv => by
                  rw [hcur j hj] at hv
                  exact bytesV_one _ v (List.mem_of_getElem? hv))
                refine ⟨_, _, O, .slice (hsG ss) .none, rfl, p1, p2, .slice _ _ _ _ _ 32 (fun j => (bytesV (hsB ss)).getD j undef) (by rw [hsG_len]) r1 (fun x hx => by obtain ⟨h, _, rfl⟩ := List.mem_map.1 hx; exact len32 h) (fun _ => ⟨g, 0, rfl, fun j hj => ?_⟩) (fun j gv hj => ?_) trivial, ss, hperm, rfl, rfl⟩
                · show (if g = g then (if 0 + j < ss.length * 32 then cur[0 + j]? else none) else E.snap g (0 + j)) = _
                  rw [if_pos rfl, Nat.zero_add, if_pos hj, hcur j hj, List.getD_eq_getElem?_getD]
                  cases hq2 : (bytesV (hsB ss))[j]? with
                  | none => rw [List.getElem?_eq_none_iff] at hq2; omega
                  | some x => rfl
                · rw [hsG_B, bytesG, List.getElem?_map] at hj
                  rw [List.getD_eq_getElem?_getD, bytesV, List.getElem?_map]
                  cases hq2 : (hsB ss)[j]? with
                  | none => rw [hq2] at hj; cases hj
                  | some x =>
                    rw [hq2] at hj
                    cases hj
                    exact .int _ _
theorem gKeys {α : Type} (enc : α → GVal) (m : List (Hs × α)) {st : Nat} : GCalls Tryz.prog 80 [.map 0 st] [.map st (kvG enc m)] (fun g O' => ∃ stc, g = .func (.func 109) [] [.ptr 1 stc 0 0] ∧ O' = [.map st (kvG enc m), .row stc 1 [[.map 0 st]]]) := by
  refine h80.calls mixS (by simp) ?_
  simp only [gstart, s80, List.cons_append, List.nil_append, List.length_cons, List.length_nil, Nat.reduceAdd, Nat.reduceSub, List.replicate_succ, List.replicate_zero]
  simp +contextual -implicitDefEqProofs (maxSteps := 2000000) (disch := omega) only [↓boxV, GVal.cells, GVal.ofConst, ↓resV, resG, ↓reduceIte, Nat.reduceEqDiff, Nat.reduceAdd, Nat.reduceSub, Nat.reduceLeDiff, reduceCtorEq, Tag.cap, GVal.solid, Nat.reduceBEq, Nat.reduceMul, Nat.reduceLT, vcA, ↓vcB, vcC, fbFy, e80, vcD]
  exact fun s => ⟨s, rfl, rfl⟩
end Gv.Tryz
