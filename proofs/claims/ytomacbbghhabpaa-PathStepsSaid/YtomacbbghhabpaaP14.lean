/- Contracts: taproothand's Request: some request, within bounds. -/
import Derived.Test.YtomacbbghhabpaaP13
import Derived.Test.YtomacbbghhabpaaP10
import Derived.Test.YtomacbbghhabpaaP12
import Derived.Test.YtomacbbghhabpaaP6
import Derived.Test.YtomacbbghhabpaaP4
import Derived.Test.YtomacbbghhabpaaP5
set_option linter.defProp false
set_option linter.unusedSimpArgs false
set_option linter.unusedVariables false
set_option maxHeartbeats 8000000
set_option maxRecDepth 200000
namespace Gv.Try
open Go Gv Go.Proofs
open Nat (reduceEqDiff reduceAdd reduceSub reduceLeDiff reduceMul reduceLT)
abbrev RC := Int × Int × List Int
def rawC (r : RC) : List GVal := [.int .i64 r.1, .int .i64 r.2.1, .slice (ints r.2.2) .none]
def rawsG (l : List RC) : List (List GVal) := l.map rawC
instance : Inhabited RC := ⟨(0, 0, [])⟩
theorem rawsG_len (l : List RC) : (rawsG l).length = l.length := by simp [rawsG]
theorem rawsG_at (l : List RC) (i : Nat) (h : i < l.length) : (rawsG l).getD i [] = rawC (l.getD i default) := by simp [rawsG, List.getD, h]
structure RR where
 l : List RC
 hs : List Int
 g : Int
 how : Int
abbrev rrG (x : RR) : List GVal := [.slice (rawsG x.l) .none, .slice (ints x.hs) .none, .int .i64 x.g, .int .i64 x.how]
structure ReqOK (cs : List Cm) (hs : List Hs) : Prop where
 len : cs.length ≤ 72
 par : ∀ c ∈ cs, c.2.length ≤ 8
 hd : hs.length ≤ 5
theorem dropZ (y : GVal) : List.drop 33 ([.int .u8 0, .int .u8 0, .int .u8 0, .int .u8 0, .int .u8 0, .int .u8 0, .int .u8 0, .int .u8 0, .int .u8 0, .int .u8 0, .int .u8 0, .int .u8 0, .int .u8 0, .int .u8 0, .int .u8 0, .int .u8 0, .int .u8 0, .int .u8 0, .int .u8 0, .int .u8 0, .int .u8 0, .int .u8 0, .int .u8 0, .int .u8 0, .int .u8 0, .int .u8 0, .int .u8 0, .int .u8 0, .int .u8 0, .int .u8 0, .int .u8 0, .int .u8 0, y] : List GVal) = [] := rfl
theorem at33 (h : Hs) (y : GVal) : (bytesG h.1 ++ [y])[32]? = some y := by rw [List.getElem?_append_right (by rw [len32]; omega), len32]; rfl
theorem set33 (h : Hs) (y z : GVal) : (bytesG h.1 ++ [y]).set 32 z = bytesG h.1 ++ [z] := by rw [List.set_append_right _ _ (by rw [len32]; omega), len32]; rfl
theorem nineH : ([.int .u8 9, .int .u8 0, .int .u8 0, .int .u8 0, .int .u8 0, .int .u8 0, .int .u8 0, .int .u8 0, .int .u8 0, .int .u8 0, .int .u8 0, .int .u8 0, .int .u8 0, .int .u8 0, .int .u8 0, .int .u8 0, .int .u8 0, .int .u8 0, .int .u8 0, .int .u8 0, .int .u8 0, .int .u8 0, .int .u8 0, .int .u8 0, .int .u8 0, .int .u8 0, .int .u8 0, .int .u8 0, .int .u8 0, .int .u8 0, .int .u8 0, .int .u8 0] : List GVal) = bytesG (hq 9 0 0).1 := rfl
theorem nine_snoc (hs : List Hs) : hsG hs ++ [bytesG (hq 9 0 0).1] = hsG (hs ++ [hq 9 0 0]) := by simp [hsG]
theorem fin_le (cs : List Cm) (hs : List Hs) (a b : Tag) (gr : Int) : leA (.agg [.slice (csG cs) a, .slice (hsG hs) b, .int .i64 gr]) (.agg (reqG cs hs .none gr)) := by
 simp [leA, WL, leG_self, leG_none]
def bls (B : List Bool) : List GVal := B.map .bool
theorem bls_len (B : List Bool) : (bls B).length = B.length := by simp [bls]
theorem bls_set (B : List Bool) (k : Nat) (b : Bool) : (bls B).set k (.bool b) = bls (B.set k b) := by simp [bls, List.map_set]
theorem bls_at (B : List Bool) (k : Nat) (h : k < B.length) : List.take 1 (List.drop (k * 1) (bls B)) = [.bool (B.getD k false)] := by
 rw [Nat.mul_one]
 have e : (bls B).drop k = .bool (B.getD k false) :: (bls B).drop (k + 1) := by
  rw [List.drop_eq_getElem_cons (by rw [bls_len]; exact h)]; simp [bls, List.getD, h]
 rw [e]; rfl
theorem bls_put (B : List Bool) (m : Nat) (h : m < B.length) : List.take (m * 1) (bls B) ++ [.bool true] ++ List.drop (m * 1 + 1) (bls B) = bls (B.set m true) := by
 rw [Nat.mul_one, ← bls_set, List.set_eq_take_append_cons_drop, if_pos (by rw [bls_len]; exact h)]; simp
theorem count_set : ∀ (B : List Bool) (m : Nat), m < B.length → B.getD m false = false → (B.set m true).count false + 1 = B.count false
 | [], m, h, _ => by simp at h
 | b :: r, 0, h, e => by
  have : b = false := by simpa using e
  subst this; simp
 | b :: r, m + 1, h, e => by
  have := count_set r m (by simpa using h) (by simpa using e);rw [List.set_cons_succ, List.count_cons, List.count_cons]; omega
theorem take_ints (l : List Int) (n : Nat) : (ints l).take n = ints (l.take n) := by simp [ints, List.map_take]
abbrev rqZ : List GVal := [.slice [] .nil, .slice [] .nil, .int .i64 0]
def zbCCg11 := ai @dropZ <| ai @List.append_nil.{0} <| ai @drop32y <| ai @hsG_len <| ai @csG_len <| ai @rawsG_len <| ai @ints_len <| ai @all_hsG <| ai @all_csG <| ai @all_ints <| ai @if32 <| ai @one32 <| ai @set33 <| ai @setO_6 <| ai @setO_7 <| ai @vnT <| ai @v33 <| @v32
def zbCCg12 := ai @dropZ <| ai @List.append_nil.{0} <| ai @drop32y <| ai @hsG_len <| ai @csG_len <| ai @rawsG_len <| ai @ints_len <| ai @all_hsG <| ai @all_csG <| ai @all_ints <| ai @if32 <| ai @one32 <| ai @set33 <| ai @setO_6 <| ai @setO_7 <| ai @List.length_nil.{0} <| ai @Int.natCast_zero <| ai @Int.lt_irrefl <| ai @vnT <| ai @v33 <| @v32
def zbCCg13 := ai @dropZ <| ai @List.append_nil.{0} <| ai @drop32y <| ai @hsG_len <| ai @csG_len <| ai @rawsG_len <| ai @ints_len <| ai @all_hsG <| ai @all_csG <| ai @all_ints <| ai @if32 <| ai @one32 <| ai @set33 <| ai @setO_6 <| ai @setO_7 <| ai @toNat0 <| ai @List.length_cons.{0} <| ai @vnT <| ai @v33 <| @v32
def zbCCg14 := ai @dropZ <| ai @List.append_nil.{0} <| ai @drop32y <| ai @hsG_len <| ai @csG_len <| ai @rawsG_len <| ai @ints_len <| ai @all_hsG <| ai @all_csG <| ai @all_ints <| ai @if32 <| ai @one32 <| ai @set33 <| ai @setO_6 <| ai @setO_7 <| ai @rawC.eq_1 <| ai @vnT <| ai @v33 <| @v32
def zbCCg15 := ai @dropZ <| ai @List.append_nil.{0} <| ai @drop32y <| ai @hsG_len <| ai @csG_len <| ai @rawsG_len <| ai @ints_len <| ai @all_hsG <| ai @all_csG <| ai @all_ints <| ai @if32 <| ai @one32 <| ai @set33 <| ai @setO_6 <| ai @setO_7 <| ai @nineH <| ai @vnT <| ai @v33 <| @v32
def zbCCg16 := ai @dropZ <| ai @List.append_nil.{0} <| ai @drop32y <| ai @hsG_len <| ai @csG_len <| ai @rawsG_len <| ai @ints_len <| ai @all_hsG <| ai @all_csG <| ai @all_ints <| ai @if32 <| ai @one32 <| ai @set33 <| ai @setO_6 <| ai @setO_7 <| ai @List.length_cons.{0} <| ai @vnT <| ai @v33 <| @v32
theorem gRequest (x : RR) : GCalls Try.prog 12 [.agg (rrG x)] [] (fun g O' => ∃ cs hs gr, ReqOK cs hs ∧ g = .agg (reqG cs hs .none gr) ∧ O' = []) := by
 have g1 := Int.emod_nonneg x.g (by decide : (2 : Int) ≠ 0)
 have g2 := Int.emod_lt_of_pos x.g (by decide : (0 : Int) < 2)
 have cG := sPick x.g 2 (by omega) (by omega)
 refine GCalls.dropTo ?_
 refine h12.ca ?_
 refine vq0 ?_
 intro s2
 refine cG.then ?_ (by rfl)
 refine vq0 ?_
 intro s3
 obtain ⟨gr, hgr⟩ : ∃ gr, 1 + x.g % 2 = gr := ⟨_, rfl⟩
 rw [hgr]
 refine vcSLoop_by (ι := { p : (Nat × List Cm) × Nat // p.1.1 ≤ x.l.length ∧ p.1.1 ≤ 12 ∧ p.1.2.length ≤ p.1.1 ∧ ∀ c ∈ p.1.2, c.2.length ≤ 8 }) (fun p => ⟨[.any, .ref (rrG x), .ptr 0 s2 0 0, .ptr 1 s3 0 0, .int .i64 (p.1.1.1 : Nat)] ++ List.replicate 242 .any, [.row s2 3 [rqZ], .row s3 3 [[.slice (csG p.1.1.2) (.tok 2 p.1.2), .slice [] .nil, .int .i64 gr]], .tok p.1.2 33]⟩) (fun p => 12 - p.1.1.1) ?_ ?_
 · refine Into.cellTok 1 0 33 [] rfl rfl rfl rfl ?_;refine vq0 ?_;intro sc;exact Into.first ⟨((0, []), sc), Nat.zero_le _, by show 0 ≤ 12; omega, by simp, by simp⟩ ⟨[], rfl⟩ (by simp [WL, leG_self, leG_any])
 · rintro ⟨⟨⟨i, cs⟩, sc⟩, hil, hi, hcl, hcp⟩
   change i ≤ x.l.length at hil
   change i ≤ 12 at hi
   change cs.length ≤ i at hcl
   have hcp : ∀ c ∈ cs, c.2.length ≤ 8 := hcp;by_cases h : i < x.l.length ∧ i < 12
   · have hx12 := h;have d0 : ((i : Int) < (x.l.length : Int)) = True := eq_true (by omega);have d1 : ((i : Int) < 12) = True := eq_true (by omega);have eR := rawsG_at x.l i h.1;generalize x.l.getD i default = r at *;obtain ⟨rn, rh, rp⟩ := r;have n1 := Int.emod_nonneg rn (by decide : (60 : Int) ≠ 0);have n2 := Int.emod_lt_of_pos rn (by decide : (0 : Int) < 60);have cN := sPick rn 60 (by omega) (by omega);obtain ⟨n, hn⟩ : ∃ n, rn % 60 = n := ⟨_, rfl⟩
     rw [hn] at cN n1 n2;have cA := gAhead n n1 n2;have lA := aheadL_len n;obtain ⟨A, hA⟩ : ∃ A, aheadL n = A := ⟨_, rfl⟩
     rw [hA] at cA lA;obtain ⟨h, hh⟩ : ∃ h, hashF n = h := ⟨_, rfl⟩
     have cHn := hHashF n;rw [hh] at cHn;refine vq5 d0 d1 eR @rawC.eq_1 @rawsG_len ?_;have k10 : ((1 : Int) = 0) = False := eq_false (by decide);have k20 : ((2 : Int) = 0) = False := eq_false (by decide);have k21 : ((2 : Int) = 1) = False := eq_false (by decide);refine ⟨by omega, fun u => ?_⟩;refine cN.then ?_ (by rfl)
     refine vq0 ?_;refine cHn.then ?_ (by rfl)
     have q1' := Int.emod_nonneg rh (by decide : (60 : Int) ≠ 0);have q2' := Int.emod_lt_of_pos rh (by decide : (0 : Int) < 60);have cQ := sPick rh 60 (by omega) (by omega);obtain ⟨q, hq⟩ : ∃ q, rh % 60 = q := ⟨_, rfl⟩
     rw [hq] at cQ q1' q2';refine vq4 k10 k20 k21 zbCCg11 ?_;intro v;refine cA.then ?_ (by rfl)
     refine vq4 k10 k20 k21 zbCCg11 ?_;refine vcSLoop_by (ι := { p : (Nat × List Hs) × Nat // p.1.1 ≤ A.length ∧ p.1.2.length = p.1.1 }) (fun p => ⟨[.any, .ref (rrG x), .ptr 0 s2 0 0, .ptr 1 s3 0 0, .int .i64 (i : Nat), .ptr 3 u 0 0, .int .i64 n, .ptr 4 v 0 0, .slice (ints A) .none, .int .i64 (p.1.1.1 : Nat)] ++ List.replicate 237 .any, [.row s2 3 [rqZ], .row s3 3 [[.slice (csG cs) (.tok 2 sc), .slice [] .nil, .int .i64 gr]], .tok sc 33, .row u 3 [[.int .i64 rn, .int .i64 rh, .slice (ints rp) .none]], .row v 33 [bytesG h.1 ++ [.slice (hsG p.1.1.2) (.tok 5 p.1.2)]], .tok p.1.2 32]⟩) (fun p => A.length - p.1.1.1) ?_ ?_
     · refine Into.cellTok 4 32 32 [] (tg := .nil) rfl (at33 h _) rfl (len33 h _) ?_;refine vq0 ?_;intro sp;exact Into.first ⟨((0, []), sp), Nat.zero_le _, rfl⟩ ⟨[], by simp [set33, hsG]⟩ (by simp [WL, leG_self, leG_any])
     · rintro ⟨⟨⟨j, ps⟩, sp⟩, hj, hpl⟩
       change j ≤ A.length at hj
       change ps.length = j at hpl
       by_cases h' : j < A.length
       · have d2 : ((j : Int) < (A.length : Int)) = True := eq_true (by omega);have eA := ints_at A j h';generalize A.getD j 0 = a at *;have cHa := hHashF a;obtain ⟨y, hy⟩ : ∃ y, hashF a = y := ⟨_, rfl⟩
         rw [hy] at cHa;refine vq6 k10 k20 k21 d2 eA zbCCg11 ?_;refine ⟨by omega, ?_⟩;refine cHa.then ?_ (by rfl)
         refine vq4 k10 k20 k21 zbCCg11 ?_;refine ⟨⟨[], by simp⟩, by omega, by omega, fun sp' => ?_⟩;exact Into.at ⟨((j + 1, ps ++ [y]), sp'), by show j + 1 ≤ A.length; omega, by show (ps ++ [y]).length = j + 1; rw [List.length_append, List.length_singleton, hpl]⟩ (by show A.length - (j + 1) < A.length - j; omega) ⟨[], by simp [hsG_app, hsG]⟩ (by simp [WL, leG_self, leG_any, leG_int])
       · have d2 : ((j : Int) < (A.length : Int)) = False := eq_false (by omega);by_cases q0 : q = 0
         · subst q0;refine vq5 k10 k20 k21 d2 zbCCg11 ?_;refine cQ.then ?_ (by rfl)
           refine vq4 k10 k20 k21 zbCCg11 ?_;refine vcSLoop_by (ι := { p : (Nat × List Hs) × Nat // p.1.1 ≤ rp.length ∧ p.1.1 ≤ 6 ∧ p.1.2.length ≤ 2 + p.1.1 }) (fun p => ⟨[.any, .ref (rrG x), .ptr 0 s2 0 0, .ptr 1 s3 0 0, .int .i64 (i : Nat), .ptr 3 u 0 0, .int .i64 n, .ptr 4 v 0 0, .any, .any, .int .i64 (p.1.1.1 : Nat)] ++ List.replicate 236 .any, [.row s2 3 [rqZ], .row s3 3 [[.slice (csG cs) (.tok 2 sc), .slice [] .nil, .int .i64 gr]], .tok sc 33, .row u 3 [[.int .i64 rn, .int .i64 rh, .slice (ints rp) .none]], .row v 33 [bytesG h.1 ++ [.slice (hsG p.1.1.2) (.tok 5 p.1.2)]], .tok p.1.2 32]⟩) (fun p => 6 - p.1.1.1) ?_ ?_
           · exact Into.first ⟨((0, ps), sp), Nat.zero_le _, Nat.zero_le _, by show ps.length ≤ 2 + 0; omega⟩ ⟨[], by simp⟩ (by simp [WL, leG_self, leG_any])
           · rintro ⟨⟨⟨k, ps⟩, sp⟩, hk, hk6, hpl⟩
             change k ≤ rp.length at hk
             change k ≤ 6 at hk6
             change ps.length ≤ 2 + k at hpl
             by_cases hk' : k < rp.length ∧ k < 6
             · have d3 : ((k : Int) < (rp.length : Int)) = True := eq_true (by omega);have d4 : ((k : Int) < 6) = True := eq_true (by omega);have eB := ints_at rp k hk'.1;generalize rp.getD k 0 = a at *;have cHa := hHashF a;obtain ⟨y, hy⟩ : ∃ y, hashF a = y := ⟨_, rfl⟩
               rw [hy] at cHa;refine vq7 k10 k20 k21 d3 d4 eB zbCCg11 ?_;refine ⟨by omega, ?_⟩;refine cHa.then ?_ (by rfl)
               refine vq4 k10 k20 k21 zbCCg11 ?_;refine ⟨⟨[], by simp⟩, by omega, by omega, fun sp' => ?_⟩;exact Into.at ⟨((k + 1, ps ++ [y]), sp'), by show k + 1 ≤ rp.length; omega, by show k + 1 ≤ 6; omega, by show (ps ++ [y]).length ≤ 2 + (k + 1); rw [List.length_append, List.length_singleton]; omega⟩ (by show 6 - (k + 1) < 6 - k; omega) ⟨[], by simp [hsG_app, hsG]⟩ (by simp [WL, leG_self, leG_any, leG_int])
             · by_cases hk1 : k < rp.length
               · have d3 : ((k : Int) < (rp.length : Int)) = True := eq_true (by omega);have d4 : ((k : Int) < 6) = False := eq_false (by omega);refine vq6 k10 k20 k21 d3 d4 zbCCg11 ?_;refine ⟨by omega, by omega, fun st => ?_⟩;refine Into.rowLe (t := s3) (sz := 3) 1 [[.slice (csG cs ++ [bytesG h.1 ++ [.slice (hsG (ps)) (.tok 5 sp)]]) (.tok 2 st), .slice [] .nil, .int .i64 gr]] [[.slice (csG (cs ++ [(h, ps)])) (.tok 2 st), .slice [] .nil, .int .i64 gr]] (by simp [hsG_app, hsG]) ⟨⟨GLe.slice (by rw [csG_app]; exact GLess.app (GLess.refl _) ⟨GLes_com _ _ _, trivial⟩), GLe.refl _, GLe.refl _, trivial⟩, trivial⟩ ?_;refine Into.at ⟨((i + 1, cs ++ [(h, ps)]), st), by show i + 1 ≤ x.l.length; omega, by show i + 1 ≤ 12; omega, by show (cs ++ [(h, ps)]).length ≤ i + 1; rw [List.length_append, List.length_singleton]; omega, fun c hc => ?_⟩ (by show 12 - (i + 1) < 12 - i; omega) ⟨[.row u 3 [[.int .i64 rn, .int .i64 rh, .slice (ints rp) .none]], .row v 33 [bytesG h.1 ++ [.slice (hsG ps) (.tok 5 sp)]], .tok sp 32], rfl⟩ (by simp [WL, leG_self, leG_any, leG_int]);rcases List.mem_append.1 hc with q | q
                 · exact hcp c q
                 · rw [List.mem_singleton.1 q]; show ps.length ≤ 8; omega
               · have d3 : ((k : Int) < (rp.length : Int)) = False := eq_false (by omega);refine vq5 k10 k20 k21 d3 zbCCg11 ?_;refine ⟨by omega, by omega, fun st => ?_⟩;refine Into.rowLe (t := s3) (sz := 3) 1 [[.slice (csG cs ++ [bytesG h.1 ++ [.slice (hsG (ps)) (.tok 5 sp)]]) (.tok 2 st), .slice [] .nil, .int .i64 gr]] [[.slice (csG (cs ++ [(h, ps)])) (.tok 2 st), .slice [] .nil, .int .i64 gr]] (by simp [hsG_app, hsG]) ⟨⟨GLe.slice (by rw [csG_app]; exact GLess.app (GLess.refl _) ⟨GLes_com _ _ _, trivial⟩), GLe.refl _, GLe.refl _, trivial⟩, trivial⟩ ?_;refine Into.at ⟨((i + 1, cs ++ [(h, ps)]), st), by show i + 1 ≤ x.l.length; omega, by show i + 1 ≤ 12; omega, by show (cs ++ [(h, ps)]).length ≤ i + 1; rw [List.length_append, List.length_singleton]; omega, fun c hc => ?_⟩ (by show 12 - (i + 1) < 12 - i; omega) ⟨[.row u 3 [[.int .i64 rn, .int .i64 rh, .slice (ints rp) .none]], .row v 33 [bytesG h.1 ++ [.slice (hsG ps) (.tok 5 sp)]], .tok sp 32], rfl⟩ (by simp [WL, leG_self, leG_any, leG_int]);rcases List.mem_append.1 hc with q | q
                 · exact hcp c q
                 · rw [List.mem_singleton.1 q]; show ps.length ≤ 8; omega
         · have e0 : (q = 0) = False := eq_false q0;by_cases q1 : q = 1
           · subst q1
             match ps, hpl with
             | [], hpl =>
              refine vq5 k10 k20 k21 d2 zbCCg11 ?_;refine cQ.then ?_ (by rfl)
              refine vq4 k10 k20 k21 zbCCg12 ?_;refine ⟨by omega, by omega, fun st => ?_⟩;refine Into.rowLe (t := s3) (sz := 3) 1 [[.slice (csG cs ++ [bytesG h.1 ++ [.slice (hsG (([] : List Hs))) (.tok 5 sp)]]) (.tok 2 st), .slice [] .nil, .int .i64 gr]] [[.slice (csG (cs ++ [(h, ([] : List Hs))])) (.tok 2 st), .slice [] .nil, .int .i64 gr]] (by simp [hsG_app, hsG]) ⟨⟨GLe.slice (by rw [csG_app]; exact GLess.app (GLess.refl _) ⟨GLes_com _ _ _, trivial⟩), GLe.refl _, GLe.refl _, trivial⟩, trivial⟩ ?_;refine Into.at ⟨((i + 1, cs ++ [(h, ([] : List Hs))]), st), by show i + 1 ≤ x.l.length; omega, by show i + 1 ≤ 12; omega, by show (cs ++ [(h, ([] : List Hs))]).length ≤ i + 1; rw [List.length_append, List.length_singleton]; omega, fun c hc => ?_⟩ (by show 12 - (i + 1) < 12 - i; omega) ⟨[.row u 3 [[.int .i64 rn, .int .i64 rh, .slice (ints rp) .none]], .row v 33 [bytesG h.1 ++ [.slice (hsG []) (.tok 5 sp)]], .tok sp 32], rfl⟩ (by simp [WL, leG_self, leG_any, leG_int]);rcases List.mem_append.1 hc with q | q
              · exact hcp c q
              · rw [List.mem_singleton.1 q]; show 0 ≤ 8; omega
             | y :: pr, hpl =>
              have d3 : ((0 : Int) < ((y :: pr).length : Int)) = True := eq_true (by simp);have d4 : ((0 : Int) < (pr.length : Int) + 1) = True := eq_true (by omega);have eY : (hsG (y :: pr)).getD 0 [] = bytesG y.1 := rfl;have hpr : pr.length ≤ 1 := by simp at hpl; omega
              refine vq5 k10 k20 k21 d2 zbCCg11 ?_;refine cQ.then ?_ (by rfl)
              refine vq7 k10 k20 k21 d3 d4 eY zbCCg13 ?_;refine ⟨by omega, by omega, by omega, fun sp' => ?_⟩;refine ⟨by omega, by omega, fun st => ?_⟩;refine Into.rowLe (t := s3) (sz := 3) 1 [[.slice (csG cs ++ [bytesG h.1 ++ [.slice (hsG ((y :: pr) ++ [y])) (.tok 5 sp')]]) (.tok 2 st), .slice [] .nil, .int .i64 gr]] [[.slice (csG (cs ++ [(h, (y :: pr) ++ [y])])) (.tok 2 st), .slice [] .nil, .int .i64 gr]] (by simp [hsG_app, hsG]) ⟨⟨GLe.slice (by rw [csG_app]; exact GLess.app (GLess.refl _) ⟨GLes_com _ _ _, trivial⟩), GLe.refl _, GLe.refl _, trivial⟩, trivial⟩ ?_;refine Into.at ⟨((i + 1, cs ++ [(h, (y :: pr) ++ [y])]), st), by show i + 1 ≤ x.l.length; omega, by show i + 1 ≤ 12; omega, by show (cs ++ [(h, (y :: pr) ++ [y])]).length ≤ i + 1; rw [List.length_append, List.length_singleton]; omega, fun c hc => ?_⟩ (by show 12 - (i + 1) < 12 - i; omega) ⟨[.row u 3 [[.int .i64 rn, .int .i64 rh, .slice (ints rp) .none]], .row v 33 [bytesG h.1 ++ [.slice (hsG (y :: pr) ++ [bytesG y.1]) (.tok 5 sp')]], .tok sp' 32], rfl⟩ (by simp [WL, leG_self, leG_any, leG_int]);rcases List.mem_append.1 hc with q | q
              · exact hcp c q
              · rw [List.mem_singleton.1 q]; show ((y :: pr) ++ [y]).length ≤ 8; simp; omega
           · have e1 : (q = 1) = False := eq_false q1;by_cases q2 : q = 2
             · subst q2;refine vq5 k10 k20 k21 d2 zbCCg11 ?_;refine cQ.then ?_ (by rfl)
               refine vq4 k10 k20 k21 zbCCg11 ?_;have cH2 := hHashF (n + 1);obtain ⟨z, hz⟩ : ∃ z, hashF (n + 1) = z := ⟨_, rfl⟩
               rw [hz] at cH2;refine cH2.then ?_ (by rfl)
               refine vq4 k10 k20 k21 zbCCg11 ?_;refine ⟨by omega, by omega, fun st => ?_⟩;refine Into.rowLe (t := s3) (sz := 3) 1 [[.slice (csG cs ++ [bytesG h.1 ++ [.slice (hsG ([z])) .full]]) (.tok 2 st), .slice [] .nil, .int .i64 gr]] [[.slice (csG (cs ++ [(h, [z])])) (.tok 2 st), .slice [] .nil, .int .i64 gr]] (by simp [hsG_app, hsG]) ⟨⟨GLe.slice (by rw [csG_app]; exact GLess.app (GLess.refl _) ⟨GLes_com _ _ _, trivial⟩), GLe.refl _, GLe.refl _, trivial⟩, trivial⟩ ?_;refine Into.at ⟨((i + 1, cs ++ [(h, [z])]), st), by show i + 1 ≤ x.l.length; omega, by show i + 1 ≤ 12; omega, by show (cs ++ [(h, [z])]).length ≤ i + 1; rw [List.length_append, List.length_singleton]; omega, fun c hc => ?_⟩ (by show 12 - (i + 1) < 12 - i; omega) ⟨[.row u 3 [[.int .i64 rn, .int .i64 rh, .slice (ints rp) .none]], .row v 33 [bytesG h.1 ++ [.slice [bytesG z.1] .full]], .tok sp 32], rfl⟩ (by simp [WL, leG_self, leG_any, leG_int]);rcases List.mem_append.1 hc with q | q
               · exact hcp c q
               · rw [List.mem_singleton.1 q]; show 1 ≤ 8; omega
             · have e2 : (q = 2) = False := eq_false q2;refine vq5 k10 k20 k21 d2 zbCCg11 ?_;refine cQ.then ?_ (by rfl)
               refine vq7 k10 k20 k21 e0 e1 e2 zbCCg11 ?_;refine ⟨by omega, by omega, fun st => ?_⟩;refine Into.rowLe (t := s3) (sz := 3) 1 [[.slice (csG cs ++ [bytesG h.1 ++ [.slice (hsG (ps)) (.tok 5 sp)]]) (.tok 2 st), .slice [] .nil, .int .i64 gr]] [[.slice (csG (cs ++ [(h, ps)])) (.tok 2 st), .slice [] .nil, .int .i64 gr]] (by simp [hsG_app, hsG]) ⟨⟨GLe.slice (by rw [csG_app]; exact GLess.app (GLess.refl _) ⟨GLes_com _ _ _, trivial⟩), GLe.refl _, GLe.refl _, trivial⟩, trivial⟩ ?_;refine Into.at ⟨((i + 1, cs ++ [(h, ps)]), st), by show i + 1 ≤ x.l.length; omega, by show i + 1 ≤ 12; omega, by show (cs ++ [(h, ps)]).length ≤ i + 1; rw [List.length_append, List.length_singleton]; omega, fun c hc => ?_⟩ (by show 12 - (i + 1) < 12 - i; omega) ⟨[.row u 3 [[.int .i64 rn, .int .i64 rh, .slice (ints rp) .none]], .row v 33 [bytesG h.1 ++ [.slice (hsG ps) (.tok 5 sp)]], .tok sp 32], rfl⟩ (by simp [WL, leG_self, leG_any, leG_int]);rcases List.mem_append.1 hc with q | q
               · exact hcp c q
               · rw [List.mem_singleton.1 q]; show ps.length ≤ 8; omega
   · have hstop : True := trivial;have w1 := Int.emod_nonneg x.how (by decide : (50 : Int) ≠ 0);have w2 := Int.emod_lt_of_pos x.how (by decide : (0 : Int) < 50);have cV := sPick x.how 50 (by omega) (by omega);have m1 := Int.emod_nonneg (norm .i64 (x.how.tdiv 50)) (by decide : (4 : Int) ≠ 0);have m2 := Int.emod_lt_of_pos (norm .i64 (x.how.tdiv 50)) (by decide : (0 : Int) < 4);have cM := sPick (norm .i64 (x.how.tdiv 50)) 4 (by omega) (by omega);obtain ⟨w, hw⟩ : ∃ w, x.how % 50 = w := ⟨_, rfl⟩
     obtain ⟨q, hqv⟩ : ∃ q, norm .i64 (x.how.tdiv 50) % 4 = q := ⟨_, rfl⟩
     rw [hw] at cV w1 w2;rw [hqv] at cM m1 m2;have k10 : ((1 : Int) = 0) = False := eq_false (by decide);have k20 : ((2 : Int) = 0) = False := eq_false (by decide);have k21 : ((2 : Int) = 1) = False := eq_false (by decide);have h12 : cs.length ≤ 12 := by omega
     have hcase : (∀ k : Nat, k ≤ x.l.length → k ≤ 12 → ¬ (k < x.l.length ∧ k < 12) → ((k : Int) < (x.l.length : Int)) = True ∧ ((k : Int) < 12) = False) ∨ (∀ k : Nat, k ≤ x.l.length → k ≤ 12 → ¬ (k < x.l.length ∧ k < 12) → ((k : Int) < (x.l.length : Int)) = False ∧ (True = True)) := by
      by_cases hh : x.l.length ≤ 12
      · exact .inr fun k h1 h2 h3 => ⟨eq_false (by omega), rfl⟩
      · exact .inl fun k h1 h2 h3 => ⟨eq_true (by omega), eq_false (by omega)⟩
     rcases hcase with hexit | hexit
     all_goals
      obtain ⟨d0, d1⟩ := hexit i hil hi h;refine vq6 d0 d1 k10 k20 k21 zbCCg11 ?_;refine vcSLoop_by (ι := { p : (Nat × List Hs) × Nat // p.1.1 ≤ x.hs.length ∧ p.1.1 ≤ 4 ∧ p.1.2.length = p.1.1 }) (fun p => ⟨[.any, .ref (rrG x), .ptr 0 s2 0 0, .ptr 1 s3 0 0] ++ List.replicate 7 .any ++ [.int .i64 (p.1.1.1 : Nat)] ++ List.replicate 235 .any, [.row s2 3 [rqZ], .row s3 3 [[.slice (csG cs) (.tok 2 sc), .slice (hsG p.1.1.2) (.tok 3 p.1.2), .int .i64 gr]], .tok sc 33, .tok p.1.2 32]⟩) (fun p => 4 - p.1.1.1) ?_ ?_
      · refine Into.cellTok 1 1 32 [] rfl rfl rfl rfl ?_;refine vq0 ?_;intro sh;exact Into.first ⟨((0, []), sh), Nat.zero_le _, Nat.zero_le _, rfl⟩ ⟨[], rfl⟩ (by simp [WL, leG_self, leG_any])
      · rintro ⟨⟨⟨j, hs⟩, sh⟩, hj, hj4, hhl⟩
        change j ≤ x.hs.length at hj
        change j ≤ 4 at hj4
        change hs.length = j at hhl
        by_cases h' : j < x.hs.length ∧ j < 4
        · have d2 : ((j : Int) < (x.hs.length : Int)) = True := eq_true (by omega);have d3 : ((j : Int) < 4) = True := eq_true (by omega);have eA := ints_at x.hs j h'.1;generalize x.hs.getD j 0 = a at *;have cHa := hHashF a;obtain ⟨y, hy⟩ : ∃ y, hashF a = y := ⟨_, rfl⟩
          rw [hy] at cHa;refine vq7 k10 k20 k21 d2 d3 eA zbCCg11 ?_;refine ⟨by omega, ?_⟩;refine cHa.then ?_ (by rfl)
          refine vq4 k10 k20 k21 zbCCg11 ?_;refine ⟨⟨[], by simp⟩, by omega, by omega, fun sh' => ?_⟩;exact Into.at ⟨((j + 1, hs ++ [y]), sh'), by show j + 1 ≤ x.hs.length; omega, by show j + 1 ≤ 4; omega, by show (hs ++ [y]).length = j + 1; rw [List.length_append, List.length_singleton, hhl]⟩ (by show 4 - (j + 1) < 4 - j; omega) ⟨[], by simp [hsG_app, hsG]⟩ (by simp [WL, leG_self, leG_any, leG_int])
        · have hh5 : hs.length ≤ 4 := by omega
          have hcase : (((j : Int) < (x.hs.length : Int)) = True ∧ ((j : Int) < 4) = False) ∨ (((j : Int) < (x.hs.length : Int)) = False ∧ (True = True)) := by
           by_cases hh : j < x.hs.length
           · exact .inl ⟨eq_true (by omega), eq_false (by omega)⟩
           · exact .inr ⟨eq_false (by omega), rfl⟩
          rcases hcase with ⟨d2, d3⟩ | ⟨d2, d3⟩
          all_goals
           refine vq6 k10 k20 k21 d2 d3 zbCCg11 ?_;refine ⟨by decide, ?_⟩;refine cM.then ?_ (by rfl)
           by_cases hq0 : 0 < q
           · have dq : ((0 : Int) < q) = True := eq_true hq0;have eMin : (min (x.hs.length : Int) 4).toNat = min x.hs.length 4 := by omega
             have lT : (x.hs.take (min x.hs.length 4)).length ≤ 4 := by rw [List.length_take]; omega
             refine vq1 (ai @dropZ <| ai @List.append_nil.{0} <| ai @drop32y <| ai @hsG_len <| ai @csG_len <| ai @rawsG_len <| ai @ints_len <| ai @all_hsG <| ai @all_csG <| ai @all_ints <| ai @if32 <| ai @one32 <| ai @set33 <| ai k10 <| ai k20 <| ai k21 <| ai @setO_6 <| ai @setO_7 <| ai dq <| ai eMin <| ai @take_ints <| ai @toNat0 <| ai @List.drop_zero.{0} <| ai @vnT <| ai @v33 <| @v32) ?_;refine fun sb => ⟨by omega, by omega, by omega, ?_⟩
             obtain ⟨T0, hT0⟩ : ∃ T, x.hs.take (min x.hs.length 4) = T := ⟨_, rfl⟩
             rw [hT0] at lT ⊢;refine vcSLoop_by (ι := { p : Nat × (List Bool × List Int) // p.1 ≤ x.l.length ∧ p.1 ≤ 12 ∧ p.2.1.length = 60 ∧ p.2.2.length ≤ 4 + 2 * p.1 }) (fun p => ⟨[.any, .ref (rrG x), .ptr 0 s2 0 0, .ptr 1 s3 0 0] ++ List.replicate 8 .any ++ [.ptr 4 sb 0 0, .slice (ints p.1.2.2) .none, .int .i64 (p.1.1 : Nat)] ++ List.replicate 232 .any, [.row s2 3 [rqZ], .row s3 3 [[.slice (csG cs) (.tok 2 sc), .slice (hsG hs) (.tok 3 sh), .int .i64 gr]], .tok sc 33, .tok sh 32, .row sb 60 [bls p.1.2.1]]⟩) (fun p => 12 - p.1.1) ?_ ?_
             · exact Into.first ⟨(0, (List.replicate 60 false, T0)), Nat.zero_le _, Nat.zero_le _, by simp, by show T0.length ≤ 4 + 2 * 0; omega⟩ ⟨[], rfl⟩ (by simp [WL, leG_self, leG_any])
             · rintro ⟨⟨k, ⟨B, T⟩⟩, hkl, hk, hB, hT⟩
               change k ≤ x.l.length at hkl
               change k ≤ 12 at hk
               have hB : B.length = 60 := hB
               change T.length ≤ 4 + 2 * k at hT
               by_cases hk' : k < x.l.length ∧ k < 12
               · have d4 : ((k : Int) < (x.l.length : Int)) = True := eq_true (by omega);have d5 : ((k : Int) < 12) = True := eq_true (by omega);have eR := rawsG_at x.l k hk'.1;generalize x.l.getD k default = r at *;obtain ⟨rn, rh, rp⟩ := r;have n1 := Int.emod_nonneg rn (by decide : (60 : Int) ≠ 0);have n2 := Int.emod_lt_of_pos rn (by decide : (0 : Int) < 60);have cN := sPick rn 60 (by omega) (by omega);obtain ⟨n, hn⟩ : ∃ n, rn % 60 = n := ⟨_, rfl⟩
                 rw [hn] at cN n1 n2;have cA := gAhead n n1 n2;have lA := aheadL_len n;obtain ⟨A, hA⟩ : ∃ A, aheadL n = A := ⟨_, rfl⟩
                 rw [hA] at cA lA;refine vq7 k10 k20 k21 d4 d5 eR zbCCg14 ?_;refine ⟨by omega, ?_⟩;refine cN.then ?_ (by rfl)
                 obtain ⟨m, hm⟩ : ∃ m, n.toNat = m := ⟨_, rfl⟩
                 have hm60 : m < 60 := by omega
                 have eB := bls_put B m (by omega);refine vq7 k10 k20 k21 eR hm eB zbCCg14 ?_;refine ⟨by omega, by omega, by rw [bls_len]; omega, by omega, by omega, by omega, by omega, fun st => ⟨⟨[_], rfl⟩, ?_⟩⟩;refine cN.then ?_ (by rfl)
                 refine vq4 k10 k20 k21 zbCCg11 ?_;refine cA.then ?_ (by rfl)
                 refine vq4 k10 k20 k21 zbCCg11 ?_;refine ⟨by omega, by omega, fun st2 => ?_⟩;exact Into.at ⟨(k + 1, (B.set m true, T ++ A)), by show k + 1 ≤ x.l.length; omega, by show k + 1 ≤ 12; omega, by show (B.set m true).length = 60; rw [List.length_set]; exact hB, by show (T ++ A).length ≤ 4 + 2 * (k + 1); rw [List.length_append]; omega⟩ (by show 12 - (k + 1) < 12 - k; omega) ⟨[.tok st2 1], by simp⟩ (by simp [WL, leG_self, leG_any, leG_none, leG_int, ints])
               · obtain ⟨d4, d5⟩ := hexit k hkl hk hk';refine vq6 k10 k20 k21 d4 d5 zbCCg11 ?_;refine vcSLoop_by (ι := { p : (List Cm × Nat) × (List Bool × List Int) // p.2.1.length = 60 ∧ p.1.1.length + p.2.1.count false ≤ 72 ∧ (∀ c ∈ p.1.1, c.2.length ≤ 8) ∧ p.2.2.length + 2 * p.2.1.count false ≤ 200 }) (fun p => ⟨[.any, .ref (rrG x), .ptr 0 s2 0 0, .ptr 1 s3 0 0] ++ List.replicate 8 .any ++ [.ptr 4 sb 0 0, .slice (ints p.1.2.2) .none] ++ List.replicate 233 .any, [.row s2 3 [rqZ], .row s3 3 [[.slice (csG p.1.1.1) (.tok 2 p.1.1.2), .slice (hsG hs) (.tok 3 sh), .int .i64 gr]], .tok p.1.1.2 33, .tok sh 32, .row sb 60 [bls p.1.2.1]]⟩) (fun p => 3 * p.1.2.1.count false + p.1.2.2.length) ?_ ?_
                 · have hcB : B.count false ≤ 60 := by have := List.count_le_length (a := false) (l := B); omega
                   exact Into.first ⟨((cs, sc), (B, T)), hB, by show cs.length + B.count false ≤ 72; omega, hcp, by show T.length + 2 * B.count false ≤ 200; omega⟩ ⟨[], by simp⟩ (by simp [WL, leG_self, leG_any])
                 · clear hk' hT hB d4 d5 hkl hk h12 hcp hcl;rintro ⟨⟨⟨cs, sc⟩, ⟨B, T⟩⟩, hB, hcl, hcp, hT⟩;have hB : B.length = 60 := hB
                   change cs.length + B.count false ≤ 72 at hcl
                   have hcp : ∀ c ∈ cs, c.2.length ≤ 8 := hcp
                   change T.length + 2 * B.count false ≤ 200 at hT
                   match T, hT with
                   | [], hT =>
                    refine vq4 k10 k20 k21 zbCCg12 ?_;refine cV.then ?_ (by rfl)
                    by_cases v0 : w = 0
                    · subst v0;refine vq4 k10 k20 k21 zbCCg11 ?_;exact ⟨.agg (reqG cs hs .none x.g), [], _, rfl, fin_le _ _ _ _ _, cs, hs, x.g, ⟨by omega, hcp, by omega⟩, rfl, rfl⟩
                    · by_cases v1 : w = 1
                      · subst v1;refine vq4 k10 k20 k21 zbCCg15 ?_;refine ⟨by omega, by omega, fun st => ?_⟩;exact ⟨.agg (reqG cs (hs ++ [hq 9 0 0]) .none gr), [], _, rfl, by rw [nine_snoc]; exact fin_le _ _ _ _ _, cs, hs ++ [hq 9 0 0], gr, ⟨by omega, hcp, by rw [List.length_append, List.length_singleton]; omega⟩, rfl, rfl⟩
                      · have e0 : (w = 0) = False := eq_false v0;have e1 : (w = 1) = False := eq_false v1;refine vq6 k10 k20 k21 e0 e1 zbCCg11 ?_;exact ⟨.agg (reqG cs hs .none gr), [], _, rfl, fin_le _ _ _ _ _, cs, hs, gr, ⟨by omega, hcp, by omega⟩, rfl, rfl⟩
                   | a :: T', hT =>
                    have hT' : T'.length + 1 + 2 * B.count false ≤ 200 := by simpa using hT
                    have dT : ((0 : Int) < (T'.length : Int) + 1) = True := eq_true (by omega);have n1 := Int.emod_nonneg a (by decide : (60 : Int) ≠ 0);have n2 := Int.emod_lt_of_pos a (by decide : (0 : Int) < 60);have cN := sPick a 60 (by omega) (by omega);obtain ⟨n, hn⟩ : ∃ n, a % 60 = n := ⟨_, rfl⟩
                    rw [hn] at cN n1 n2;have cA := gAhead n n1 n2;have lA := aheadL_len n;obtain ⟨A, hA⟩ : ∃ A, aheadL n = A := ⟨_, rfl⟩
                    rw [hA] at cA lA;obtain ⟨h, hh⟩ : ∃ h, hashF n = h := ⟨_, rfl⟩
                    have cHn := hHashF n;rw [hh] at cHn;obtain ⟨m, hm⟩ : ∃ m, n.toNat = m := ⟨_, rfl⟩
                    have hm60 : m < 60 := by omega
                    have eB := bls_put B m (by omega);have eG := bls_at B m (by omega);have eT0 : (ints (a :: T')).getD 0 [] = [.int .i64 a] := rfl;have eT1 : (ints (a :: T')).drop 1 = ints T' := rfl;have tn1 : (Int.toNat 1) = 1 := rfl;have eTt : List.take ((T'.length : Int) + 1).toNat (ints (a :: T')) = ints (a :: T') := List.take_of_length_le (by rw [ints_len]; simp);refine vq6 k10 k20 k21 dT eT0 zbCCg13 ?_;refine ⟨by omega, ?_⟩;refine cN.then ?_ (by rfl)
                    cases eb : B.getD m false with
                    | true =>
                     rw [eb] at eG;refine vq9 k10 k20 k21 hm eG eTt eT1 tn1 zbCCg16 ?_;refine ⟨by omega, by omega, by omega, by omega, by omega, by rw [bls_len]; omega, ?_⟩;exact Into.at ⟨((cs, sc), (B, T')), hB, hcl, hcp, by show T'.length + 2 * B.count false ≤ 200; omega⟩ (by show 3 * B.count false + T'.length < 3 * B.count false + (T'.length + 1); omega) ⟨[], by simp⟩ (by simp [WL, leG_self, leG_any])
                    | false =>
                     rw [eb] at eG;have hcs := count_set B m (by omega) eb;refine vq10 k10 k20 k21 hm eG eB eTt eT1 tn1 zbCCg16 ?_;refine ⟨by omega, by omega, by omega, by omega, by omega, by rw [bls_len]; omega, by omega, by omega, by rw [bls_len]; omega, ?_⟩;obtain ⟨B', hB'⟩ : ∃ B', B.set m true = B' := ⟨_, rfl⟩
                     have hBl' : B'.length = 60 := by rw [← hB', List.length_set]; exact hB
                     rw [hB'] at hcs ⊢;refine cHn.then ?_ (by rfl)
                     refine vq4 k10 k20 k21 zbCCg11 ?_;intro v;refine cA.then ?_ (by rfl)
                     refine vq4 k10 k20 k21 zbCCg11 ?_;refine vcSLoop_by (ι := { p : (Nat × List Hs) × Nat // p.1.1 ≤ A.length ∧ p.1.2.length = p.1.1 }) (fun p => ⟨[.any, .ref (rrG x), .ptr 0 s2 0 0, .ptr 1 s3 0 0] ++ List.replicate 8 .any ++ [.ptr 4 sb 0 0, .slice (ints T') .none, .any, .int .i64 n, .ptr 5 v 0 0, .slice (ints A) .none, .int .i64 (p.1.1.1 : Nat)] ++ List.replicate 228 .any, [.row s2 3 [rqZ], .row s3 3 [[.slice (csG cs) (.tok 2 sc), .slice (hsG hs) (.tok 3 sh), .int .i64 gr]], .tok sc 33, .tok sh 32, .row sb 60 [bls B'], .row v 33 [bytesG h.1 ++ [.slice (hsG p.1.1.2) (.tok 6 p.1.2)]], .tok p.1.2 32]⟩) (fun p => A.length - p.1.1.1) ?_ ?_
                     · refine Into.cellTok 5 32 32 [] (tg := .nil) rfl (at33 h _) rfl (len33 h _) ?_;refine vq0 ?_;intro sp;exact Into.first ⟨((0, []), sp), Nat.zero_le _, rfl⟩ ⟨[], by simp [set33, hsG]⟩ (by simp [WL, leG_self, leG_any])
                     · rintro ⟨⟨⟨j, ps⟩, sp⟩, hj, hpl⟩
                       change j ≤ A.length at hj
                       change ps.length = j at hpl
                       by_cases h' : j < A.length
                       · have d2 : ((j : Int) < (A.length : Int)) = True := eq_true (by omega);have eA := ints_at A j h';generalize A.getD j 0 = a at *;have cHa := hHashF a;obtain ⟨y, hy⟩ : ∃ y, hashF a = y := ⟨_, rfl⟩
                         rw [hy] at cHa;refine vq6 k10 k20 k21 d2 eA zbCCg11 ?_;refine ⟨by omega, ?_⟩;refine cHa.then ?_ (by rfl)
                         refine vq4 k10 k20 k21 zbCCg11 ?_;refine ⟨⟨[], by simp⟩, by omega, by omega, fun sp' => ?_⟩;exact Into.at ⟨((j + 1, ps ++ [y]), sp'), by show j + 1 ≤ A.length; omega, by show (ps ++ [y]).length = j + 1; rw [List.length_append, List.length_singleton, hpl]⟩ (by show A.length - (j + 1) < A.length - j; omega) ⟨[], by simp [hsG_app, hsG]⟩ (by simp [WL, leG_self, leG_any, leG_int])
                       · have d2 : ((j : Int) < (A.length : Int)) = False := eq_false (by omega);refine vq5 k10 k20 k21 d2 zbCCg11 ?_;refine ⟨by omega, by omega, fun st => ⟨by omega, by omega, fun st2 => ⟨by omega, by omega, fun st3 => ?_⟩⟩⟩;refine Into.rowLe (t := s3) (sz := 3) 1 [[.slice (csG cs ++ [bytesG h.1 ++ [.slice (hsG ps) (.tok 6 sp)]]) (.tok 2 st), .slice (hsG hs) (.tok 3 sh), .int .i64 gr]] [[.slice (csG (cs ++ [(h, ps)])) (.tok 2 st), .slice (hsG hs) (.tok 3 sh), .int .i64 gr]] (by simp) ⟨⟨GLe.slice (by rw [csG_app]; exact GLess.app (GLess.refl _) ⟨GLes_com _ _ _, trivial⟩), GLe.refl _, GLe.refl _, trivial⟩, trivial⟩ ?_;refine Into.at ⟨((cs ++ [(h, ps)], st), (B', T' ++ A)), hBl', by show (cs ++ [(h, ps)]).length + B'.count false ≤ 72; rw [List.length_append, List.length_singleton]; omega, fun c hc => ?_, by show (T' ++ A).length + 2 * B'.count false ≤ 200; rw [List.length_append]; omega⟩ (by show 3 * B'.count false + (T' ++ A).length < 3 * B.count false + (T'.length + 1); rw [List.length_append]; omega) ⟨[.row v 33 [bytesG h.1 ++ [.slice (hsG ps) (.tok 6 sp)]], .tok sp 32, .tok st3 1], by simp⟩ (by simp [WL, leG_self, leG_any, leG_none, ints]);rcases List.mem_append.1 hc with q | q
                         · exact hcp c q
                         · rw [List.mem_singleton.1 q]; show ps.length ≤ 8; omega
           · have dq : ((0 : Int) < q) = False := eq_false hq0;refine vq5 k10 k20 k21 dq zbCCg11 ?_;refine cV.then ?_ (by rfl)
             by_cases v0 : w = 0
             · subst v0;refine vq4 k10 k20 k21 zbCCg11 ?_;exact ⟨.agg (reqG cs hs .none x.g), [], _, rfl, fin_le _ _ _ _ _, cs, hs, x.g, ⟨by omega, hcp, by omega⟩, rfl, rfl⟩
             · by_cases v1 : w = 1
               · subst v1;refine vq4 k10 k20 k21 zbCCg15 ?_;refine ⟨by omega, by omega, fun st => ?_⟩;exact ⟨.agg (reqG cs (hs ++ [hq 9 0 0]) .none gr), [], _, rfl, by rw [nine_snoc]; exact fin_le _ _ _ _ _, cs, hs ++ [hq 9 0 0], gr, ⟨by omega, hcp, by rw [List.length_append, List.length_singleton]; omega⟩, rfl, rfl⟩
               · have e0 : (w = 0) = False := eq_false v0;have e1 : (w = 1) = False := eq_false v1;refine vq6 k10 k20 k21 e0 e1 zbCCg11 ?_;exact ⟨.agg (reqG cs hs .none gr), [], _, rfl, fin_le _ _ _ _ _, cs, hs, gr, ⟨by omega, hcp, by omega⟩, rfl, rfl⟩
theorem look_of_mem {α : Type} : ∀ {m : List (Hs × α)} {p : Hs × α}, (m.map (·.1)).Nodup → p ∈ m → look m p.1 = some p.2
 | q :: r, p, hn, hp => by
  rw [List.map_cons, List.nodup_cons] at hn;rw [look];rcases List.mem_cons.1 hp with e | e
  · rw [e, if_pos rfl]
  · rw [if_neg (fun w => hn.1 (by rw [← w]; exact List.mem_map_of_mem e)), look_of_mem hn.2 e]
theorem GCalls.lift0 {P : Program} {f : FuncId} {args : List GVal} {R : GVal → Prop} (h : GCalls P f args [] (fun g O' => R g ∧ O' = [])) (O : List GObj) (hc : clockOf O = none) : GCalls P f args O (fun g O' => R g ∧ O' = O) := by
 refine GCalls.frame h [] trivial (by simp) (GLes.refl _) rfl hc ?_
 rintro g O' ⟨hr, rfl⟩
 refine ⟨g, O, (List.range O.length).map (fun k => (true, k)), ⟨hr, rfl⟩, GLe.refl g, Comes.of (by simp) fun k z s hz hs => ?_, ?_, hc⟩
 · have hk : k < O.length := (List.getElem?_eq_some_iff.1 hz).1;simp only [List.getElem?_map, List.getElem?_range hk, Option.map_some, Option.some.injEq] at hs;subst hs;exact ⟨by simp, z, hz, .refl _⟩
 · rw [List.nodup_iff_pairwise_ne, List.pairwise_map];refine List.Pairwise.imp ?_ (List.pairwise_lt_range (n := O.length));intro a b hab;simp; omega
def rrsG (l : List RR) : List (List GVal) := l.map rrG
instance : Inhabited RR := ⟨⟨[], [], 0, 0⟩⟩
theorem rrsG_len (l : List RR) : (rrsG l).length = l.length := by simp [rrsG]
theorem rrsG_at (l : List RR) (i : Nat) (h : i < l.length) : (rrsG l).getD i [] = rrG (l.getD i default) := by simp [rrsG, List.getD, h]
theorem gRequestO (x : RR) (O : List GObj) (hc : clockOf O = none) : GCalls Try.prog 12 [.agg (rrG x)] O (fun g O' => ∃ cs hs gr, ReqOK cs hs ∧ g = .agg (reqG cs hs .none gr) ∧ O' = O) := by
 refine (GCalls.lift0 (R := fun g => ∃ cs hs gr, ReqOK cs hs ∧ g = .agg (reqG cs hs .none gr)) ((gRequest x).mono ?_) O hc).mono ?_
 · rintro g O' ⟨cs, hs, gr, h1, h2, h3⟩;exact ⟨⟨cs, hs, gr, h1, h2⟩, h3⟩
 · rintro g O' ⟨⟨cs, hs, gr, h1, h2⟩, h3⟩;exact ⟨cs, hs, gr, h1, h2, h3⟩
theorem num_len {m : GM} {M O : List Hs} (h : NumOK m M O) (hk : (m.map (·.1)).Nodup) : (M ++ O).length = m.length := by
 have := same_len h.nd hk fun x => (h.all x).trans ⟨look_key, key_look⟩
 rw [List.length_map] at this
 exact this
theorem good_alike {m L : GM} (hm : Good m) (h : Alike m L) (hL : SSC L) : Good L := by
 have k := ssc_keys hL
 refine ⟨⟨?_, fun p hp => ?_⟩, k, fun x y hy => ?_, fun x hx => ?_⟩
 · rw [← h.len hm.keys k]; exact hm.ok.len
 · have := look_of_mem k hp
   rw [← h p.1] at this;exact hm.ok.row _ (look_mem this)
 · rw [← h.pars] at hy
   rw [← h y]; exact hm.closed x y hy
 · rw [← h.pars] at hx; exact hm.acyc x hx
theorem find_pos {α : Type} {f : α → Er} {l : List α} {e : Option Hs × Int} (h : l.findSome? f = some e) (hp : ∀ a x, f a = some x → x.2 ≠ 0) : e.2 ≠ 0 := by
 obtain ⟨a, _, ha⟩ := List.exists_of_findSome?_eq_some h
 exact hp a e ha
theorem nowhere_pos {M : GM} {n : Int} (hn : n ≠ 0) {p : Hs} {x : Option Hs × Int} (h : nowhere M n p = some x) : x.2 ≠ 0 := by
 unfold nowhere at h
 split at h
 · cases h
 · cases h; exact hn
theorem joinP_pos : ∀ {cs : List Cm} {m : GM} {e : Hs × Int}, joinP m cs = .error e → e.2 ≠ 0
 | [], m, e, h => by rw [joinP] at h; cases h
 | c :: r, m, e, h => by
  rw [joinP] at h;split at h
  · exact joinP_pos h
  · rename_i e1;unfold joinE at e1;split at e1
    · split at e1
      · cases e1
      · cases h; cases e1; show (9 : Int) ≠ 0; decide
    · cases e1
theorem err_pos {gr : Int} {m : GM} {cs : List Cm} {hs : List Hs} {e : Option Hs × Int} (h : joinedP gr m cs hs = .error e) : e.2 ≠ 0 := by
 unfold joinedP at h
 split at h
 · rename_i e1;cases h;unfold sizesP at e1;split at e1
   · cases e1; decide
   · refine find_pos e1 fun a x hx => ?_;unfold sizeE at hx;split at hx
     · cases hx; show (8 : Int) ≠ 0; decide
     · split at hx
       · cases hx; show (1 : Int) ≠ 0; decide
       · cases hx
 · split at h
   · rename_i e2;cases h;exact joinP_pos e2
   · split at h
     · rename_i e3;cases h;unfold lackP at e3;split at e3
       · rename_i e4;cases e3;exact find_pos e4 fun a x hx => find_pos hx fun b y hy => nowhere_pos (by decide) hy
       · exact find_pos e3 fun a x hx => nowhere_pos (by decide) hx
     · split at h
       · rename_i e5;cases h;unfold roundP at e5;refine find_pos e5 fun a x hx => ?_;unfold roundE at hx;split at hx
         · cases hx
         · split at hx
           · cases hx; show (12 : Int) ≠ 0; decide
           · cases hx
       · split at h
         · cases h; decide
         · cases h
end Gv.Try
namespace Gv
open Go
def GVal.re (p : Nat → Nat) : GVal → GVal
 | .ptr o st i j => .ptr (p o) st i j
 | .own o st i j => .own (p o) st i j
 | .map o st => .map (p o) st
 | g => g
theorem GLe.re (p : Nat → Nat) (g : GVal) : GLe g (g.re p) := by
 cases g <;> first | exact GLe.ptr _ _ _ _ _ | exact GLe.own _ _ _ _ _ | exact GLe.map _ _ _ | exact GLe.refl _
theorem Into.pick {st : GSt} {N : GSt → Prop} (pl : List Nat) (p : Nat → Nat) {X : List GObj} (hX : Fits st.o pl X) (hnd : pl.Nodup) (hc : clockOf X = none) (h : Into ⟨st.s.map (GVal.re p), X⟩ N) : Into st N := by
 intro E a w hs ha
 obtain ⟨h1, h2⟩ := hs.pick pl hX hnd hc
 obtain ⟨st', E', q1, q2, q3, q4⟩ := h E a w h1 ⟨by simp [ha.size], ha.defers, fun i g hg => by
  simp only [List.getElem?_map, Option.map_eq_some_iff] at hg;obtain ⟨x, hx, rfl⟩ := hg;exact GLe.re p x _ _ (ha.at_ i x hx)⟩
 exact ⟨st', E', q1, q2, h2.trans q3, q4⟩
end Gv
namespace Gv.Try
open Go Gv Go.Proofs
theorem gNewO (a b : GObj) (ha : a.isClock = false) : GCalls Try.prog 10 [] [a, b] (fun g O' => ∃ st s, g = .ptr 2 st 0 0 ∧ O' = [a, b, .row st 1 [[.map 3 s]], .map s []]) := by
 have hc : ∀ r, clockOf (a :: r) = none := fun r => by cases a <;> first | rfl | cases ha
 refine GCalls.frame gNew [] trivial (by simp) (GLes.refl _) rfl (hc _) ?_
 rintro g O' ⟨st, s, rfl, rfl⟩
 exact ⟨.ptr 2 st 0 0, _, [(true, 0), (true, 1), (false, 0), (false, 1)], ⟨st, s, rfl, rfl⟩, GLe.ptr _ _ _ _ _, ⟨⟨by simp, _, rfl, .refl _⟩, ⟨by simp, _, rfl, .refl _⟩, ⟨_, rfl, OLe.row ⟨⟨GLe.map _ _ _, trivial⟩, trivial⟩⟩, ⟨_, rfl, .refl _⟩, trivial⟩, by decide, hc _⟩
theorem iNewO (n : Int) (h1 : 1 ≤ n) (h2 : n ≤ 600) (a b c d : GObj) (ha : a.isClock = false) : GCalls Try.prog 11 [.int .i64 n] [a, b, c, d] (fun g O' => ∃ ti so, g = .tuple [.ptr 5 ti 0 0, .lit .nilIface] ∧ O' = [a, b, c, d, .map so [], .row ti 4 [[.int .i64 n, .slice [] .nil, .slice [] .nil, .map 4 so]]]) := by
 have hc : ∀ r, clockOf (a :: r) = none := fun r => by cases a <;> first | rfl | cases ha
 refine GCalls.frame (iNew n h1 h2) [] trivial (by simp) (GLes.refl _) rfl (hc _) ?_
 rintro g O' ⟨ti, so, rfl, rfl⟩
 exact ⟨.tuple [.ptr 5 ti 0 0, .lit .nilIface], _, [(true, 0), (true, 1), (true, 2), (true, 3), (false, 0), (false, 1)], ⟨ti, so, rfl, rfl⟩, GLe.tuple (xs := [.ptr 1 ti 0 0, .lit .nilIface]) (ys := [.ptr 5 ti 0 0, .lit .nilIface]) ⟨GLe.ptr _ _ _ _ _, GLe.refl _, trivial⟩, ⟨⟨by simp, _, rfl, .refl _⟩, ⟨by simp, _, rfl, .refl _⟩, ⟨by simp, _, rfl, .refl _⟩, ⟨by simp, _, rfl, .refl _⟩, ⟨_, rfl, .refl _⟩, ⟨_, rfl, OLe.row ⟨⟨GLe.refl _, GLe.refl _, GLe.refl _, GLe.map _ _ _, trivial⟩, trivial⟩⟩, trivial⟩, by decide, hc _⟩
theorem vis_cong {m L : GM} (hA : Alike m L) {dn dn' : Hs → Bool} (hd : ∀ x, dn x = dn' x) {r : List Hs} {s T : WSt} (h : VisL m dn r s T) : VisL L dn' r s T := by
 have e : dn = dn' := funext hd
 subst e
 induction h with
 | nil so => exact .nil so
 | skip p r so T hp _ ih => exact .skip p r so T (by rw [← hp]; unfold pushed; rw [hA p]) ih
 | go p r so so1 T hp _ _ ih1 ih2 => exact .go p r so so1 T (by rw [← hp]; unfold pushed; rw [hA p]) (by rw [← hA.pars]; exact ih1) ih2
theorem playStep {m : GM} {M O : List Hs} (hm : Good m) (hN : NumOK m M O) {gr : Int} {cs : List Cm} {hs : List Hs} {m1 L1 : GM} (hj : joinedP gr m cs hs = .ok m1) (hA1 : Alike m1 L1) (n : Int) :
 (gr = 1 ∧ ∃ T : WSt, VisL m1 (masterB (ofM M O)) hs ([], []) T ∧ VisL L1 (fun x => decide (x ∈ M)) hs ([], []) T ∧ n < (M.length : Int) + T.2.length ∧ T.2.length ≤ 1000) ∨
 ∃ M1 O1 T2, ((gr ≠ 1 ∧ M1 = M ∧ O1 = O) ∨ (gr = 1 ∧ ∃ T1 : WSt, VisL m1 (masterB (ofM M O)) hs ([], []) T1 ∧ M1 = M ++ T1.2 ∧ O1 = woL O T1.2 ∧ (M.length : Int) + T1.2.length ≤ n ∧ T1.2.length ≤ 100000)) ∧
  VisL m1 (fun h => (look (ofM M1 O1) h).isSome) (hs ++ cs.map (·.1)) ([], []) T2 ∧ NumOK m1 M1 (O1 ++ T2.2) ∧ M1.length ≤ 1000 ∧ O1.length + T2.2.length ≤ 1000 ∧ keepL O M1 = O1 ∧
  ((gr ≠ 1 ∧ M1 = M) ∨ (gr = 1 ∧ ∃ T : WSt, VisL L1 (fun x => decide (x ∈ M)) hs ([], []) T ∧ T.2.length ≤ 10000 ∧ M1 = M ++ T.2 ∧ (M.length : Int) + T.2.length ≤ n)) ∧
  VisL L1 (fun x => decide (x ∈ M1 ++ keepL O M1)) (hs ++ cs.map (·.1)) ([], []) T2 := by
 obtain ⟨e1, e2, e3, e4, e5⟩ := joined_ok hj
 obtain ⟨j1, j2, j3, j4⟩ := join_spec e2 hm.keys
 have hg1 := joined_good hm hj
 have hl1 := hg1.ok.len
 have hMO := num_len hN hm.keys
 rw [List.length_append] at hMO
 have hml := hm.ok.len
 have hext : ∀ x l, look m x = some l → look m1 x = some l := j2
 have hcs : ∀ x, (look m1 x).isSome = true → (look m x).isSome = true ∨ x ∈ cs.map (·.1) := fun x hx => by
  obtain ⟨l, hl⟩ := Option.isSome_iff_exists.1 hx;rcases j4 x l hl with q | q
  · exact .inl (by rw [q]; rfl)
  · exact .inr (List.mem_map.2 ⟨_, q, rfl⟩)
 have hdis : ∀ x ∈ O, x ∉ M := fun x hx hy => by
  have := List.nodup_append.1 hN.nd;exact this.2.2 x hy x hx rfl
 have hmas : ∀ x, masterB (ofM M O) x = decide (x ∈ M) := id_master hN.nd (by omega)
 have key : ∃ M1 O1, ((gr ≠ 1 ∧ M1 = M ∧ O1 = O) ∨ (gr = 1 ∧ ∃ T1 : WSt, VisL m1 (masterB (ofM M O)) hs ([], []) T1 ∧ M1 = M ++ T1.2 ∧ O1 = woL O T1.2)) := by
  by_cases hg : gr = 1
  · obtain ⟨T1, h1, _⟩ := visL_ex m1 (masterB (ofM M O)) (m1.length + 1) hs [] [] List.nodup_nil (by simp) (by simp);exact ⟨_, _, .inr ⟨hg, T1, h1, rfl, rfl⟩⟩
  · exact ⟨M, O, .inl ⟨hg, rfl, rfl⟩⟩
 obtain ⟨M1, O1, hcase⟩ := key
 obtain ⟨T2, hT2, _⟩ := visL_ex m1 (fun h => (look (ofM M1 O1) h).isSome) (m1.length + 1) (hs ++ cs.map (·.1)) [] [] List.nodup_nil (by simp) (by simp)
 obtain ⟨hN1, hM1⟩ := num_step hN hg1 hext hcs (by omega) hcase hT2
 have hMO1 := num_len hN1 hg1.keys
 rw [List.length_append, List.length_append] at hMO1
 have hk : keepL O M1 = O1 := by
  rcases hcase with ⟨_, rfl, rfl⟩ | ⟨_, T1, _, rfl, rfl⟩
  · exact List.filter_eq_self.2 fun x hx => by simp [hdis x hx]
  · refine List.filter_congr fun x hx => ?_;rw [decide_eq_decide.2 (show x ∈ M ++ T1.2 ↔ x ∈ T1.2 by rw [List.mem_append]; exact ⟨fun q => q.resolve_left (hdis x hx), .inr⟩)]
 have hnd : (M1 ++ O1).Nodup := by
  have := hN1.nd
  rw [← List.append_assoc] at this;exact (List.nodup_append.1 this).1
 have hv2 : VisL L1 (fun x => decide (x ∈ M1 ++ keepL O M1)) (hs ++ cs.map (·.1)) ([], []) T2 := vis_cong hA1 (fun x => by rw [hk, id_some hnd]) hT2
 rcases hcase with ⟨q, rfl, rfl⟩ | ⟨q, T1, h1, h2, h3⟩
 · exact .inr ⟨_, _, T2, .inl ⟨q, rfl, rfl⟩, hT2, hN1, by omega, by omega, hk, .inl ⟨q, rfl⟩, hv2⟩
 · have hlen : M1.length = M.length + T1.2.length := by rw [h2, List.length_append]
   have hv1 := vis_cong hA1 hmas h1;by_cases hf : n < (M.length : Int) + T1.2.length
   · exact .inl ⟨q, T1, h1, hv1, hf, by omega⟩
   · exact .inr ⟨M1, O1, T2, .inr ⟨q, T1, h1, h2, h3, by omega, by omega⟩, hT2, hN1, by omega, by omega, hk, .inr ⟨q, T1, hv1, by omega, h2, by omega⟩, hv2⟩
open Nat (reduceEqDiff reduceAdd reduceSub reduceLeDiff reduceMul reduceLT)
abbrev z31 : List GVal := [.slice [] .nil, .int .i64 0, .slice [] .nil, .slice [] .nil]
theorem num_nilP : NumOK [] [] [] := ⟨by simp, by simp [look], trivial⟩
def zbPKg31 := ai @setO_3 <| ai @setO_4 <| ai @setO_5 <| ai @setO_6 <| ai @setO_7 <| @setO_8
theorem pBoth (l : List RR) : GCalls Try.prog 4 [.slice (rrsG l) .none] [] (fun g O' => ∃ st s ti so m L M O, (Good m ∧ SSC L ∧ Alike m L ∧ NumOK m M O) ∧ g = .tuple [.ptr 2 ti 0 0, .agg (mdG L 600 M O), .bool true] ∧ O' = gObj st s m ++ idO2 ti so 600 M O) := by
 refine GCalls.dropTo ?_
 refine h4.ca ?_
 refine vq0 ?_
 intro s3
 refine (mNew 600).then ?_ (by rfl)
 refine vq0 ?_
 intro s5
 refine (gNewO _ _ rfl).mono ?_
 rintro g O' ⟨st, s, rfl, rfl⟩
 refine vq0 ?_
 refine (iNewO 600 (by decide) (by decide) _ _ _ _ rfl).mono ?_
 rintro g O' ⟨ti, so, rfl, rfl⟩
 refine vq1 Try.underlying56 ?_
 refine vcSLoop_by (ι := { p : (Nat × (Nat × Nat)) × ((GM × GM) × (List Hs × List Hs)) // (p.1.1 ≤ l.length ∧ p.1.1 ≤ 6) ∧ (Good p.2.1.1 ∧ SSC p.2.1.2 ∧ Alike p.2.1.1 p.2.1.2 ∧ NumOK p.2.1.1 p.2.2.1 p.2.2.2) }) (fun p => ⟨[.slice (rrsG l) .none, .any, .any, .ptr 5 s3 0 0, .bool false, .ptr 4 s5 0 0, .ptr 0 st 0 0, .ptr 2 ti 0 0, .any, .int .i64 (p.1.1.1 : Nat)] ++ List.replicate 63 .any, gObj st p.1.1.2.1 p.1.2.1.1 ++ (idO2 ti p.1.1.2.2 600 p.1.2.2.1 p.1.2.2.2 ++ [.row s5 4 [mdG p.1.2.1.2 600 p.1.2.2.1 p.1.2.2.2], .row s3 4 [z31]])⟩) (fun p => 6 - p.1.1.1) ?_ ?_
 · refine Into.pick [2, 3, 5, 4, 1, 0] (fun o => [5, 4, 0, 1, 3, 2].getD o 0) (X := [.row st 1 [[.map 1 s]], .map s (kvG encL []), .row ti 4 [[.int .i64 600, .slice (hsG []) .none, .slice (hsG []) .none, .map 3 so]], .map so (kvG encI (ofM [] [])), .row s5 4 [mdG [] 600 [] []], .row s3 4 [z31]]) ⟨⟨_, rfl, OLe.row ⟨⟨GLe.map _ _ _, trivial⟩, trivial⟩⟩, ⟨_, rfl, .refl _⟩, ⟨_, rfl, OLe.row ⟨⟨GLe.refl _, GLe.none, GLe.none, GLe.map _ _ _, trivial⟩, trivial⟩⟩, ⟨_, rfl, .refl _⟩, ⟨_, rfl, .refl _⟩, ⟨_, rfl, .refl _⟩, trivial⟩ (by decide) rfl ?_;exact Into.first ⟨((0, (s, so)), (([], []), ([], []))), ⟨Nat.zero_le _, Nat.zero_le _⟩, good_nil, List.Pairwise.nil, fun _ => rfl, num_nilP⟩ ⟨[], by simp⟩ (by simp [WL, leG_self, leG_any, GVal.re])
 · rintro ⟨⟨⟨i, ⟨s, so⟩⟩, ⟨⟨m, L⟩, ⟨M, O⟩⟩⟩, ⟨hil, hi6⟩, hm, hL, hA, hN⟩
   change i ≤ l.length at hil
   change i ≤ 6 at hi6
   have hm : Good m := hm;have hL : SSC L := hL;have hA : Alike m L := hA;have hN : NumOK m M O := hN;have hgL := good_alike hm hA hL;have hMO := num_len hN hm.keys;rw [List.length_append] at hMO;have hml := hm.ok.len;by_cases h : i < l.length ∧ i < 6
   · have d0 : ((i : Int) < (l.length : Int)) = True := eq_true (by omega);have d1 : ((i : Int) < 6) = True := eq_true (by omega);have eR := rrsG_at l i h.1;generalize l.getD i default = x at *;refine vq4 d0 d1 eR @rrsG_len ?_;refine ⟨by omega, ?_⟩;refine (gRequestO x (gObj st s m ++ (idO2 ti so 600 M O ++ [.row s5 4 [mdG L 600 M O], .row s3 4 [z31]])) rfl).mono ?_;rintro g O' ⟨cs, hs, gr, hr, rfl, rfl⟩;have hcl := hr.len;have hhl := hr.hd;rcases joined_alike hA hm.keys (ssc_keys hL) gr cs hs with ⟨e, e1, e2⟩ | ⟨m1, M', e1, e2, H⟩
     · have ec : checkE gr L cs hs = some e := by unfold checkE; rw [e2]
       have ep := err_pos e2;obtain ⟨eh, en⟩ := e;have dn : (en = 0) = False := eq_false ep;have cM := mAdd1 L hL hgL 600 M O cs hs gr (by omega) (by omega) (fun c hc => by have := hr.par c hc; omega) eh en ep ec;generalize eh.getD h0 = y at *;refine vq1 zbPKg31 ?_;intro sr;refine cM.then ?_ (by rfl)
       refine vq10 dn @drop32y @List.append_nil.{0} @setO_3 @setO_4 @setO_5 @setO_6 @setO_7 @setO_8 @v32 ?_;intro s8 s9;exact Into.at ⟨((i + 1, (s, so)), ((m, L), (M, O))), ⟨by show i + 1 ≤ l.length; omega, by show i + 1 ≤ 6; omega⟩, hm, hL, hA, hN⟩ (by show 6 - (i + 1) < 6 - i; omega) ⟨_, rfl⟩ (by simp [WL, leG_self, leG_any, leG_int])
     · have ec : checkE gr L cs hs = none := by unfold checkE; rw [e2]
       have hm1 := joined_good hm e1;have hL1 := putsC_ss cs hL;have hA1 := join_puts hA (joined_ok e1).2.1;have hg1 := good_alike hm1 hA1 hL1;have hl1 := hm1.ok.len;have hpl : ∀ c ∈ cs, c.2.length ≤ 100000 := fun c hc => by have := hr.par c hc; omega
       have hpm : ∀ c ∈ cs, c.2.length ≤ 1000000 := fun c hc => by have := hr.par c hc; omega
       rcases playStep hm hN e1 hA1 600 with ⟨g1, T, v1, v2, hf, hTl⟩ | ⟨M1, O1, T2, hcase, hT2, hN1, hM1, hO1, hk, hgr, hv2⟩
       · subst g1;have cM := mAdd2 L hL hgL 600 M O (by omega) cs hs (by omega) (by omega) hpl ec hL1 hg1 T v2 (by omega) hf;have dn : ((13 : Int) = 0) = False := eq_false (by decide);generalize h0 = y at *;refine vq1 zbPKg31 ?_;intro sr;refine cM.then ?_ (by rfl)
         refine vq10 dn @drop32y @List.append_nil.{0} @setO_3 @setO_4 @setO_5 @setO_6 @setO_7 @setO_8 @v32 ?_;intro s8 s9;exact Into.at ⟨((i + 1, (s, so)), ((m, L), (M, O))), ⟨by show i + 1 ≤ l.length; omega, by show i + 1 ≤ 6; omega⟩, hm, hL, hA, hN⟩ (by show 6 - (i + 1) < 6 - i; omega) ⟨_, rfl⟩ (by simp [WL, leG_self, leG_any, leG_int])
       · have cM := mAdd3 L hL hgL 600 M O (by omega) (by omega) cs hs gr (by omega) (by omega) hpl ec hL1 hg1 M1 T2 hgr hv2 (by omega);rw [hk] at cM;have cA := fun X => iAdd m m1 hm.ok cs none (by unfold addedE; rw [joined_add e1]) (by unfold addedM; rw [joined_add e1]) st s (by omega) hpm X (GLes.refl _)
         have cI := fun s' X => iUpdT (iUpdate m1 hm1.gm ti st s' so cs hs .none (by simp) gr 600 M O M1 O1 hcase T2 hT2 (by omega) (by omega) (by omega) (by omega) (by omega) (by omega)) (GLes.refl _) X
         have hin : (Good m1 ∧ SSC (putsC L cs) ∧ Alike m1 (putsC L cs) ∧ NumOK m1 M1 (O1 ++ T2.2)) := ⟨hm1, hL1, hA1, hN1⟩
         generalize putsC L cs = L1 at *;generalize O1 ++ T2.2 = O2 at *;obtain ⟨y, hy⟩ : ∃ y, h0 = y := ⟨_, rfl⟩
         rw [hy] at cM;refine vq1 zbPKg31 ?_;intro sr;refine cM.then ?_ (by rfl)
         refine vq10 @drop32y @List.append_nil.{0} @setO_3 @setO_4 @setO_5 @setO_6 @setO_7 @setO_8 @vnT @v32 ?_;intro s8 s9;refine (cA _).mono ?_;rintro g O' ⟨s', rfl, rfl⟩;refine vq1 (ai @errV.eq_1 <| ai @errV.eq_2 <| ai @errV.eq_3 <| ai Try.underlying56 <| ai @drop32y <| ai @List.append_nil.{0} <| ai @setO_3 <| ai @setO_4 <| ai @setO_5 <| ai @setO_6 <| ai @setO_7 <| ai @setO_8 <| ai @vnT <| @v32) ?_;refine (cI s' _).mono ?_;rintro g O' ⟨so', rfl, rfl⟩;refine vq1 (ai Try.underlying56 <| ai @drop32y <| ai @List.append_nil.{0} <| ai @setO_3 <| ai @setO_4 <| ai @setO_5 <| ai @setO_6 <| ai @setO_7 <| ai @setO_8 <| ai @vnT <| @v32) ?_
         trace_state
         exact Into.at ⟨((i + 1, (s', so')), ((m1, L1), (M1, O2))), ⟨by show i + 1 ≤ l.length; omega, by show i + 1 ≤ 6; omega⟩, hin⟩ (by show 6 - (i + 1) < 6 - i; omega) ⟨_, rfl⟩ (by simp [WL, leG_self, leG_any, leG_int])
   · have hcase : (((i : Int) < (l.length : Int)) = True ∧ ((i : Int) < 6) = False) ∨ (((i : Int) < (l.length : Int)) = False ∧ (True = True)) := by
      by_cases hh : i < l.length
      · exact .inl ⟨eq_true (by omega), eq_false (by omega)⟩
      · exact .inr ⟨eq_false (by omega), rfl⟩
     rcases hcase with ⟨d0, d1⟩ | ⟨d0, d1⟩
     all_goals
      refine vq3 d0 d1 @rrsG_len ?_;exact ⟨_, gObj st s m ++ idO2 ti so 600 M O, [_, _], rfl, leA_refl _, st, s, ti, so, m, L, M, O, ⟨hm, hL, hA, hN⟩, rfl, rfl⟩
def idN (M O : List Hs) (h : Hs) : Int := (look (ofM M O) h).getD 0
def parN (L : GM) (M O : List Hs) (h : Hs) : List Int := (parsM L h).map (idN M O)
theorem ints_snocE (l : List Int) (x : Int) : ints l ++ [[.int .i64 x]] = ints (l ++ [x]) := by simp [ints]
theorem mParents (L : GM) (hL : SSC L) (hl : L.length ≤ 1000000) (rt : Nat) (n : Int) (M O : List Hs) (hn : (M ++ O).Nodup) (hM : M.length ≤ 1000000) (hO : O.length ≤ 1000000) (h : Hs) (hp : (parsM L h).length ≤ 1000) :
 GCalls Try.prog 39 [.ptr 0 rt 0 1, .ptr 0 rt 0 0, .agg (bytesG h.1)] (mdObj rt L n M O) (fun g O' => g = .slice (ints (parN L M O h)) .none ∧ O' = mdObj rt L n M O) := by
 have cP := rParentsM (.int .i64 n) (.slice (hsG M) .none) (.slice (hsG O) .none) L hL hl h rt
 have cI := fun (y : Hs) (X : List GObj) => GCalls.keep1' (mID L rt n M O hn hM hO y) (O := mdObj rt L n M O ++ X) 0 rfl rfl rfl rfl
 unfold parN
 generalize parsM L h = ps at *
 refine GCalls.dropTo ?_
 refine h39.ca ?_
 refine vq2 @hsG_len @v32 ?_
 refine cP.mono ?_
 rintro g O' ⟨rfl, rfl⟩
 refine vq2 @hsG_len @v32 ?_
 refine vcSLoop_by (ι := { p : Nat × Nat // p.1 ≤ ps.length }) (fun p => ⟨[.ptr 0 rt 0 1, .ptr 0 rt 0 0, .any, .any, .any, .any, .any, .slice (ints ((ps.take p.1.1).map (idN M O))) (.tok 1 p.1.2), .slice (hsG ps) .none, .int .i64 (p.1.1 : Nat)] ++ List.replicate 25 .any, mdObj rt L n M O ++ [.tok p.1.2 1]⟩) (fun p => ps.length - p.1.1) ?_ ?_
 · refine Into.tok 7 1 [] rfl rfl ?_;refine vq0 ?_;intro so;exact Into.first ⟨(0, so), Nat.zero_le _⟩ ⟨[], by simp⟩ (by simp [WL, leG_self, leG_any, leG_none, ints])
 · rintro ⟨⟨k, so⟩, hk⟩
   change k ≤ ps.length at hk
   by_cases hc : k < ps.length
   · have d0 : ((k : Int) < (ps.length : Int)) = True := eq_true (by omega);have eS := hsG_at ps k hc;have ht := takeH hc;generalize ps.getD k h0 = y at *;have cIy := fun X => cI y X
     unfold idV at cIy;have e2 : ints ((ps.take (k + 1)).map (idN M O)) = ints ((ps.take k).map (idN M O)) ++ [[.int .i64 ((look (ofM M O) y).getD 0)]] := by rw [ht, ints_snocE]; simp [idN]
     have e3 : ints (List.take (k + 1) (ps.map (idN M O))) = ints (List.take k (ps.map (idN M O))) ++ [[.int .i64 ((look (ofM M O) y).getD 0)]] := by rw [← List.map_take, ← List.map_take]; exact e2
     have el : (ps.take k).length = k := by rw [List.length_take]; omega
     refine vq5 d0 eS @hsG_len @all_hsG @v32 ?_;refine ⟨by omega, ?_⟩;refine (cIy _).mono ?_;rintro g O' ⟨rfl, rfl⟩;refine vq4 @hsG_len @ints_length @all_ints el ?_
     repeat (refine ⟨by omega, ?_⟩)
     intro so';exact Into.at ⟨(k + 1, so'), hc⟩ (by show ps.length - (k + 1) < ps.length - k; omega) ⟨[], by simp⟩ (by simp [WL, leG_self, leG_any, leG_int, e2, e3])
   · have d0 : ((k : Int) < (ps.length : Int)) = False := eq_false (by omega);have e1 : ps.take k = ps := List.take_of_length_le (by omega);refine vq3 d0 @hsG_len e1 ?_;exact ⟨.slice (ints (ps.map (idN M O))) .none, mdObj rt L n M O, [.tok so 1], rfl, by rw [leA_slice], rfl, rfl⟩
abbrev tN (L : GM) (M O l : List Hs) : List (List Int) := l.map (parN L M O)
theorem tN_len (L : GM) (M O l : List Hs) (k : Nat) (h : k < l.length) : (tabG (tN L M O (l.take k))).length = k := by rw [tabG_length, List.length_map, List.length_take]; omega
theorem all_tabN (l : List (List Int)) : (∀ x ∈ tabG l, x.length = 1) = True := by simp [tabG]
theorem tN_snoc (L : GM) (M O l : List Hs) (k : Nat) (h : k < l.length) {y : Hs} (hy : l.getD k h0 = y) : tabG (tN L M O (l.take k)) ++ [[.slice (ints (parN L M O y)) .none]] = tabG (tN L M O (l.take (k + 1))) := by
 rw [takeH h, hy]; simp [tabG]
theorem mTableOf (L : GM) (hL : SSC L) (hl : L.length ≤ 1000000) (rt : Nat) (n : Int) (M O : List Hs) (hn : (M ++ O).Nodup) (hM : M.length ≤ 1000000) (hO : O.length ≤ 1000000) (hp : ∀ h, (parsM L h).length ≤ 1000) :
 GCalls Try.prog 21 [.ptr 0 rt 0 1, .ptr 0 rt 0 0] (mdObj rt L n M O) (fun g O' => g = .agg [.slice (tabG (tN L M O M)) .none, .slice (tabG (tN L M O O)) .none] ∧ O' = mdObj rt L n M O) := by
 have cP := fun (y : Hs) (X : List GObj) => GCalls.keep1' (mParents L hL hl rt n M O hn hM hO y (hp y)) (O := mdObj rt L n M O ++ X) 0 rfl rfl rfl rfl
 refine GCalls.dropTo ?_
 refine h21.ca ?_
 refine vq0 ?_
 intro s4 s5
 refine vcSLoop_by (ι := { p : Nat × Nat // p.1 ≤ M.length }) (fun p => ⟨[.ptr 0 rt 0 1, .ptr 0 rt 0 0, .any, .any, .ptr 1 s4 0 0, .ptr 2 s5 0 0, .int .i64 (p.1.1 : Nat)] ++ List.replicate 50 .any, mdObj rt L n M O ++ [.row s4 2 [[.slice [] .nil, .slice [] .nil]], .row s5 2 [[.slice (tabG (tN L M O (M.take p.1.1))) (.tok 3 p.1.2), .slice [] .nil]], .tok p.1.2 1]⟩) (fun p => M.length - p.1.1) ?_ ?_
 · refine Into.cellTok 2 0 1 [] (tg := .nil) rfl rfl rfl rfl ?_;refine vq0 ?_;intro u;exact Into.first ⟨(0, u), Nat.zero_le _⟩ ⟨[], by simp [tabG]⟩ (by simp [WL, leG_self, leG_any])
 · rintro ⟨⟨k, u⟩, hk⟩
   change k ≤ M.length at hk
   by_cases hc : k < M.length
   · have d0 : ((k : Int) < (M.length : Int)) = True := eq_true (by omega);have eS := hsG_at M k hc;have el := tN_len L M O M k hc;obtain ⟨y, hy⟩ : ∃ y, M.getD k h0 = y := ⟨_, rfl⟩
     have e2 := tN_snoc L M O M k hc hy;rw [hy] at eS;have cPy := fun X => cP y X
     obtain ⟨A, hA⟩ : ∃ A, tabG (tN L M O (M.take k)) = A := ⟨_, rfl⟩
     have ha : (∀ x ∈ A, x.length = 1) = True := by rw [← hA]; exact all_tabN _
     rw [hA] at el e2;rw [hA];generalize parN L M O y = q at *;refine vq5 d0 eS @hsG_len @all_hsG @v32 ?_;refine ⟨by omega, ?_⟩;refine (cPy _).mono ?_;rintro g O' ⟨rfl, rfl⟩;refine vq2 el ha ?_;refine ⟨⟨[], (List.append_nil _).symm⟩, by omega, by omega, fun u' => ?_⟩;exact Into.at ⟨(k + 1, u'), hc⟩ (by show M.length - (k + 1) < M.length - k; omega) ⟨[], by simp [e2]⟩ (by simp [WL, leG_self, leG_any, leG_int])
   · have d0 : ((k : Int) < (M.length : Int)) = False := eq_false (by omega);have e1 : M.take k = M := List.take_of_length_le (by omega);rw [e1];refine vq2 d0 @hsG_len ?_;refine vcSLoop_by (ι := { p : Nat × Nat // p.1 ≤ O.length }) (fun p => ⟨[.ptr 0 rt 0 1, .ptr 0 rt 0 0, .any, .any, .ptr 1 s4 0 0, .ptr 2 s5 0 0, .any, .int .i64 (p.1.1 : Nat)] ++ List.replicate 49 .any, mdObj rt L n M O ++ [.row s4 2 [[.slice [] .nil, .slice [] .nil]], .row s5 2 [[.slice (tabG (tN L M O M)) (.tok 3 u), .slice (tabG (tN L M O (O.take p.1.1))) (.tok 4 p.1.2)]], .tok u 1, .tok p.1.2 1]⟩) (fun p => O.length - p.1.1) ?_ ?_
     · refine Into.cellTok 2 1 1 [] (tg := .nil) rfl rfl rfl rfl ?_;refine vq0 ?_;intro v;exact Into.first ⟨(0, v), Nat.zero_le _⟩ ⟨[], by simp [tabG]⟩ (by simp [WL, leG_self, leG_any])
     · rintro ⟨⟨k, v⟩, hk⟩
       change k ≤ O.length at hk
       by_cases hc : k < O.length
       · have d0 : ((k : Int) < (O.length : Int)) = True := eq_true (by omega);have eS := hsG_at O k hc;have el := tN_len L M O O k hc;obtain ⟨y, hy⟩ : ∃ y, O.getD k h0 = y := ⟨_, rfl⟩
         have e2 := tN_snoc L M O O k hc hy;rw [hy] at eS;have cPy := fun X => cP y X
         obtain ⟨A, hA⟩ : ∃ A, tabG (tN L M O (O.take k)) = A := ⟨_, rfl⟩
         have ha : (∀ x ∈ A, x.length = 1) = True := by rw [← hA]; exact all_tabN _
         rw [hA] at el e2;rw [hA];generalize parN L M O y = q at *;refine vq5 d0 eS @hsG_len @all_hsG @v32 ?_;refine ⟨by omega, ?_⟩;refine (cPy _).mono ?_;rintro g O' ⟨rfl, rfl⟩;refine vq2 el ha ?_;refine ⟨⟨[], (List.append_nil _).symm⟩, by omega, by omega, fun u' => ?_⟩;exact Into.at ⟨(k + 1, u'), hc⟩ (by show O.length - (k + 1) < O.length - k; omega) ⟨[], by simp [e2]⟩ (by simp [WL, leG_self, leG_any, leG_int])
       · have d0 : ((k : Int) < (O.length : Int)) = False := eq_false (by omega);have e1 : O.take k = O := List.take_of_length_le (by omega);rw [e1];refine vq2 d0 @hsG_len ?_;exact ⟨.agg [.slice (tabG (tN L M O M)) .none, .slice (tabG (tN L M O O)) .none], mdObj rt L n M O, [_, _, _, _], rfl, by simp [leA, WL, leG_none], rfl, rfl⟩
theorem mTable (L : GM) (hL : SSC L) (hl : L.length ≤ 1000000) (n : Int) (M O : List Hs) (hn : (M ++ O).Nodup) (hM : M.length ≤ 1000000) (hO : O.length ≤ 1000000) (hp : ∀ h, (parsM L h).length ≤ 1000) :
 GPure Try.prog 7 [.agg (mdG L n M O)] (.agg [.slice (tabG (tN L M O M)) .none, .slice (tabG (tN L M O O)) .none]) := by
 have cT := fun (s : Nat) (X : List GObj) => GCalls.keep1' (mTableOf L hL hl s n M O hn hM hO hp) (O := mdObj s L n M O ++ X) 0 rfl rfl rfl rfl
 refine h7.pa ?_
 simp +contextual -implicitDefEqProofs (maxSteps := 2000000) (disch := omega) only [↓storeV, ↓allocV, ↓boxV, GVal.cells, GVal.ofConst, ↓resV, resG, ↓reduceIte, reduceEqDiff, reduceAdd, reduceSub, reduceLeDiff, reduceCtorEq, Tag.cap, GVal.solid, Nat.reduceBEq, reduceMul, reduceLT, vcA, ↓vcB, vcC, fbFg, ↓fa31_0, ↓fa31_1, vcD]
 intro s1 s2
 refine (cT _ _).mono ?_
 rintro g O' ⟨rfl, rfl⟩
 simp +contextual -implicitDefEqProofs (maxSteps := 2000000) (disch := omega) only [↓storeV, ↓allocV, ↓boxV, GVal.cells, GVal.ofConst, ↓resV, resG, ↓reduceIte, reduceEqDiff, reduceAdd, reduceSub, reduceLeDiff, reduceCtorEq, Tag.cap, GVal.solid, Nat.reduceBEq, reduceMul, reduceLT, vcA, ↓vcB, vcC, fbFg, ↓fa31_0, ↓fa31_1, ↓loadV, tabG, vcD]
 trace_state
theorem hAt_look {M O : List Hs} (hn : (M ++ O).Nodup) (hM : M.length ≤ 1000000) {v : Int} (hv : v ∈ allI M.length O.length) : look (ofM M O) (hAt M O v) = some v := by
 have hs : split = 1099511627776 := rfl
 unfold allI ups at hv
 rcases List.mem_append.1 hv with q | q
 · obtain ⟨j, hj, rfl⟩ := List.mem_map.1 q;rw [List.mem_range] at hj;by_cases hb : (1099511627776 : Int) ≤ 0 + (j : Int)
   · omega
   · have e : hAt M O (0 + (j : Int)) = M.getD j h0 := by unfold hAt; rw [if_neg hb]; congr 1; omega
     rw [e, id_m hn (by rw [List.getD_eq_getElem?_getD, List.getElem?_eq_getElem hj]; rfl : M[j]? = some (M.getD j h0)), Int.zero_add]
 · obtain ⟨j, hj, rfl⟩ := List.mem_map.1 q;rw [List.mem_range] at hj;have e : hAt M O (split + (j : Int)) = O.getD j h0 := by unfold hAt; rw [if_pos (by omega)]; congr 1; omega
   rw [e, id_o hn (by rw [List.getD_eq_getElem?_getD, List.getElem?_eq_getElem hj]; rfl : O[j]? = some (O.getD j h0)), hs]
def pS (M O : List Hs) (s : Seg) : List (Hs × Int) := (ups s.lo (s.hi + 1 - s.lo).toNat).map fun v => (hAt M O s.hi, s.hi - v)
def hadP (M O : List Hs) (u : List Seg) (k j : Nat) : List (Hs × Int) := (u.take k).flatMap (pS M O) ++ (pS M O (u.getD k default)).take j
theorem pS_len (M O : List Hs) (s : Seg) : (pS M O s).length = (s.hi + 1 - s.lo).toNat := by simp [pS, ups]
theorem pS_at (M O : List Hs) (s : Seg) (j : Nat) (h : j < (s.hi + 1 - s.lo).toNat) : (pS M O s)[j]? = some (hAt M O s.hi, s.hi - (s.lo + j)) := by
 simp [pS, ups, h]
theorem had_next {M O : List Hs} {u : List Seg} {k j : Nat} {s : Seg} (hs : u.getD k default = s) (h : j < (s.hi + 1 - s.lo).toNat) : hadP M O u k (j + 1) = hadP M O u k j ++ [(hAt M O s.hi, s.hi - (s.lo + j))] := by
 unfold hadP
 rw [hs, List.take_add_one, pS_at M O s j h, ← List.append_assoc]; rfl
theorem had_seg {M O : List Hs} {u : List Seg} {k : Nat} {s : Seg} (hk : k < u.length) (hs : u.getD k default = s) : hadP M O u k (s.hi + 1 - s.lo).toNat = hadP M O u (k + 1) 0 := by
 unfold hadP
 rw [hs, ← pS_len M O s, List.take_length, List.take_zero, List.append_nil, List.take_add_one, List.getElem?_eq_getElem hk]
 have : u[k] = s := by rw [← hs]; simp [List.getD, hk]
 simp [this]
theorem had_zero (M O : List Hs) (u : List Seg) : hadP M O u 0 0 = [] := by simp [hadP]
theorem sum_ids : ∀ u : List Seg, (u.flatMap (fun s => ups s.lo (s.hi + 1 - s.lo).toNat)) = idsS u
 | [] => rfl
 | s :: r => by
  have := sum_ids r;unfold idsS spansOf at this ⊢;simp only [List.flatMap_cons, List.map_cons, this]
theorem had_end {M O : List Hs} {u : List Seg} (hu : idsS u = allI M.length O.length) : (hadP M O u u.length 0).length = M.length + O.length := by
 unfold hadP
 rw [List.take_length, List.take_zero, List.append_nil]
 have e : (u.flatMap (pS M O)).length = (idsS u).length := by
  rw [← sum_ids];simp [List.length_flatMap, pS, Function.comp_def]
 rw [e, hu, allI_len]
theorem had_len_le {M O : List Hs} {u : List Seg} (hu : idsS u = allI M.length O.length) {k j : Nat} {s : Seg} (hk : k < u.length) (hs : u.getD k default = s) (hj : j ≤ (s.hi + 1 - s.lo).toNat) : (hadP M O u k j).length ≤ M.length + O.length := by
 rw [← had_end hu]
 unfold hadP
 rw [List.take_length, List.take_zero, List.append_nil, hs]
 have e : u.flatMap (pS M O) = (u.take k).flatMap (pS M O) ++ (pS M O s ++ (u.drop (k + 1)).flatMap (pS M O)) := by
  have : u[k] = s := by rw [← hs]; simp [List.getD, hk]
  conv => lhs; rw [← List.take_append_drop k u, List.drop_eq_getElem_cons hk, this]
  rw [List.flatMap_append, List.flatMap_cons]
 rw [e]
 simp only [List.length_append, List.length_take]
 omega
theorem seg_in {u : List Seg} {k : Nat} {s : Seg} (hk : k < u.length) (hs : u.getD k default = s) : s ∈ u := by
 rw [← hs, List.getD_eq_getElem?_getD, List.getElem?_eq_getElem hk]; exact List.getElem_mem hk
theorem hi_in {u : List Seg} (hu : SegsOK u) {s : Seg} (hs : s ∈ u) : s.hi ∈ idsS u := by
 have h1 := hu.1 (s.lo, s.hi) (List.mem_map.2 ⟨s, hs, rfl⟩)
 unfold okP at h1
 simp only at h1
 rw [← sum_ids, List.mem_flatMap]
 refine ⟨s, hs, ?_⟩
 unfold ups
 rw [List.mem_map]
 exact ⟨(s.hi - s.lo).toNat, by rw [List.mem_range]; omega, by omega⟩
theorem had_new {M O : List Hs} (hn : (M ++ O).Nodup) (hM : M.length ≤ 1000000) {u : List Seg} (hok : SegsOK u) (hu : idsS u = allI M.length O.length) {k j : Nat} {s : Seg} (hk : k < u.length) (hs : u.getD k default = s) (hj : j < (s.hi + 1 - s.lo).toNat) : (hAt M O s.hi, s.hi - (s.lo + j)) ∉ hadP M O u k j := by
 intro hm
 unfold hadP at hm
 rw [hs] at hm
 rcases List.mem_append.1 hm with q | q
 · obtain ⟨t, ht, hq⟩ := List.mem_flatMap.1 q;unfold pS at hq;obtain ⟨v, hv, e⟩ := List.mem_map.1 hq;have e1 : hAt M O t.hi = hAt M O s.hi := congrArg Prod.fst e;have htu : t ∈ u := List.mem_of_mem_take ht;have a := hAt_look hn hM (hu ▸ hi_in hok htu);have b := hAt_look hn hM (hu ▸ hi_in hok (seg_in hk hs));rw [e1, b] at a;have hh : s.hi = t.hi := Option.some.inj a;obtain ⟨i, hi, rfl⟩ := List.getElem_of_mem ht;rw [List.length_take] at hi;have hp := (List.pairwise_iff_getElem.1 hok.2) i k (by simp [spansOf]; omega) (by simp [spansOf]; omega) (by omega);have ok := hok.1 (s.lo, s.hi) (List.mem_map.2 ⟨s, seg_in hk hs, rfl⟩);have es : u[k] = s := by rw [← hs]; simp [List.getD, hk]
   simp only [spansOf, List.getElem_map, es, List.getElem_take] at hp hh;unfold okP at ok;simp only at ok
   omega
 · obtain ⟨i, hi, e⟩ := List.getElem_of_mem q;rw [List.length_take, pS_len] at hi;rw [List.getElem_take] at e;have := pS_at M O s i (by omega);rw [List.getElem?_eq_getElem (by rw [pS_len]; omega), e] at this;have := congrArg Prod.snd (Option.some.inj this);simp only at this
   omega
theorem par4 {L : GM} (hg : GMOK L) (M O : List Hs) (x : Int) : (parI (tN L M O M) (tN L M O O) x).length ≤ 4 := by
 have h : ∀ (l : List Hs) (i : Nat), ((tN L M O l).getD i []).length ≤ 4 := fun l i => by
  rw [List.getD_eq_getElem?_getD, List.getElem?_map];cases l[i]? with
  | none => simp
  | some y => simp only [Option.map_some, Option.getD_some, parN, List.length_map]; exact hg.pars y
 unfold parI
 split
 · exact h _ _
 · split
   · exact h _ _
   · simp
abbrev pthG (p : Hs × Int) : List GVal := bytesG p.1.1 ++ [.int .i64 p.2]
def psG (l : List (Hs × Int)) : List (List GVal) := l.map pthG
theorem psG_len (l : List (Hs × Int)) : (psG l).length = l.length := by simp [psG]
theorem psG_at {l : List (Hs × Int)} {i : Nat} {p : Hs × Int} (h : l[i]? = some p) : (psG l).getD i [] = pthG p := by simp [psG, List.getD, h]
theorem all_psG (l : List (Hs × Int)) : (∀ x ∈ psG l, x.length = 33) = True := eq_true fun x hx => by
 obtain ⟨p, _, rfl⟩ := List.mem_map.1 hx
 exact len33 _ _
theorem psG_snoc (l : List (Hs × Int)) (p : Hs × Int) : psG l ++ [bytesG p.1.1 ++ [.int .i64 p.2]] = psG (l ++ [p]) := by simp [psG]
def zbPMg32 := ai @segsG_length <| @segG.eq_1
theorem specSteps (l : List RR) : GPure Try.prog 3 [.slice (rrsG l) .none] (.bool true) := by
 refine GCalls.toPure ?_
 refine h3.ca ?_
 refine vq0 ?_
 refine (pBoth l).mono ?_
 rintro g O' ⟨st, s, ti, so, m, L, M, O, ⟨hm, hL, hA, hN⟩, rfl, rfl⟩
 have hgL := good_alike hm hA hL
 have hMO := num_len hN hm.keys
 rw [List.length_append] at hMO
 have hml := hm.ok.len
 have hlen := hA.len hm.keys (ssc_keys hL)
 have cT := mTable L hL (by omega) 600 M O hN.nd (by omega) (by omega) (fun h => Nat.le_trans (hgL.gm.pars h) (by omega))
 have cF := relFlat (tN L M O M) (tN L M O O) (by rw [List.length_map, List.length_map]; omega) (par4 hgL.gm M O)
 rw [List.length_map, List.length_map] at cF
 refine vq0 ?_
 intro s4
 refine pKnown.then ?_ (by rfl)
 refine vq0 ?_
 refine cT.then ?_ (by rfl)
 refine vq0 ?_
 refine cF.then ?_
 rintro g ⟨u, rfl, hok, hids, hsum, hul⟩
 have hul : u.length ≤ 1000 := by omega
 refine vq0 ?_
 refine vcSLoop_by (ι := { p : Nat × Nat // p.1 ≤ u.length }) (fun p => ⟨[.any, .any, .any, .ptr 2 ti 0 0, .ptr 4 s4 0 0, .any, .slice (segsG u) .none, .slice (psG (hadP M O u p.1.1 0)) (.tok 5 p.1.2), .int .i64 (p.1.1 : Nat)] ++ List.replicate 117 .any, gObj st s m ++ (idO2 ti so 600 M O ++ [.row s4 4 [mdG L 600 M O], .tok p.1.2 33])⟩) (fun p => u.length - p.1.1) ?_ ?_
 · refine Into.tok 7 33 [] rfl rfl ?_;refine vq0 ?_;intro v;exact Into.first ⟨(0, v), Nat.zero_le _⟩ ⟨[], by simp⟩ (by simp [WL, leG_self, leG_any, had_zero, psG])
 · rintro ⟨⟨k, v⟩, hk⟩
   change k ≤ u.length at hk
   by_cases h : k < u.length
   · have d0 : ((k : Int) < (u.length : Int)) = True := eq_true (by omega);have eS := segsG_at u k h;obtain ⟨sg, hsg⟩ : ∃ sg, u.getD k default = sg := ⟨_, rfl⟩
     have hb := hok.1 (sg.lo, sg.hi) (List.mem_map.2 ⟨sg, seg_in h hsg, rfl⟩);unfold okP at hb;simp only at hb
     obtain ⟨b1, b2, b3, -⟩ := hb;have hspl : split = 1099511627776 := rfl;rw [hsg] at eS;refine vq3 d0 eS zbPMg32 ?_;refine ⟨by omega, ?_⟩;refine vcSLoop_by (ι := { p : Nat × Nat // p.1 ≤ (sg.hi + 1 - sg.lo).toNat }) (fun p => ⟨[.any, .any, .any, .ptr 2 ti 0 0, .ptr 4 s4 0 0, .any, .slice (segsG u) .none, .slice (psG (hadP M O u k p.1.1)) (.tok 5 p.1.2), .int .i64 (k : Nat), .int .i64 (sg.lo + (p.1.1 : Nat))] ++ List.replicate 116 .any, gObj st s m ++ (idO2 ti so 600 M O ++ [.row s4 4 [mdG L 600 M O], .tok p.1.2 33])⟩) (fun p => (sg.hi + 1 - sg.lo).toNat - p.1.1) ?_ ?_
     · exact Into.first ⟨(0, v), Nat.zero_le _⟩ ⟨[], by simp⟩ (by simp [WL, leG_self, leG_any])
     · rintro ⟨⟨j, v⟩, hj⟩
       change j ≤ (sg.hi + 1 - sg.lo).toNat at hj
       by_cases hc : j < (sg.hi + 1 - sg.lo).toNat
       · have d1 : (sg.lo + (j : Int) ≤ sg.hi) = True := eq_true (by omega);have hv := hi_in hok (seg_in h hsg);rw [hids] at hv;have cTo := fun (X : List GObj) => pToAt u hok hul ti so 600 M O (by omega) (by omega) k h (sg.lo + (j : Int)) (by rw [hsg]; omega) (by rw [hsg]; omega) (by rw [hsg]; exact hv) (.row st 1 [[.map 1 s]]) (.map s (kvG encL m)) rfl X
         rw [hsg] at cTo;have hnew := had_new hN.nd (by omega) hok hids h hsg hc;have hnext := had_next (M := M) (O := O) hsg hc;have hle := had_len_le hids h hsg hj;have en : norm .i64 (sg.hi - (sg.lo + (j : Int))) = sg.hi - (sg.lo + (j : Int)) := norm_i64 (by omega);obtain ⟨hx, ehx⟩ : ∃ hx, hAt M O sg.hi = hx := ⟨_, rfl⟩
         rw [ehx] at cTo hnew hnext;have ceS := cellsEq_hs hx hx;rw [decide_eq_true rfl] at ceS;have hpos : 0 < j → 1 ≤ (hadP M O u k j).length ∧ (psG (hadP M O u k j)).getD ((hadP M O u k j).length - 1) [] = pthG (hx, sg.hi - (sg.lo + ((j - 1 : Nat) : Int))) := fun h0 => by
          have hp := had_next (M := M) (O := O) (j := j - 1) hsg (by omega);rw [show j - 1 + 1 = j by omega, ehx] at hp;rw [hp];refine ⟨by simp, psG_at ?_⟩;simp
         have hl1 : (hadP M O u k j).length ≤ 1000 := by omega
         obtain ⟨A, eA⟩ : ∃ A, hadP M O u k j = A := ⟨_, rfl⟩
         rw [eA] at hnew hnext hpos hl1;rcases Nat.eq_zero_or_pos j with ej | ej
         case' inl =>
          have d2 : (sg.lo < sg.lo + (j : Int)) = False := eq_false (by omega);refine vq5 d0 d1 eS eA zbPMg32 ?_;refine ⟨by omega, ?_⟩;refine (cTo _).mono ?_;rintro g O' ⟨rfl, rfl⟩;refine vq1 (ai @segsG_length <| ai d0 <| ai d1 <| ai d2 <| ai eS <| ai @segG.eq_1 <| ai en <| ai @setO_3 <| ai @setO_4 <| ai @setO_5 <| ai @setO_6 <| ai @bne_self_eq_false.{0} <| ai @v33 <| @v32) ?_;refine fun s10 => ⟨by omega, by omega, ?_⟩
         case' inr =>
          have d2 : (sg.lo < sg.lo + (j : Int)) = True := eq_true (by omega);obtain ⟨q1, q2⟩ := hpos ej;have q3 : norm .i64 ((A.length : Int) - 1) = ((A.length - 1 : Nat) : Int) := by rw [norm_i64 (by omega)]; omega
          have q4 : norm .i64 (sg.hi - (sg.lo + ((j - 1 : Nat) : Int)) - 1) = sg.hi - (sg.lo + (j : Int)) := by rw [norm_i64 (by omega)]; omega
          refine vq5 d0 d1 eS eA zbPMg32 ?_;refine ⟨by omega, ?_⟩;refine (cTo _).mono ?_;rintro g O' ⟨rfl, rfl⟩;refine vq1 (ai @segsG_length <| ai d0 <| ai d1 <| ai d2 <| ai eS <| ai @segG.eq_1 <| ai en <| ai @setO_3 <| ai @setO_4 <| ai @setO_5 <| ai @setO_6 <| ai @bne_self_eq_false.{0} <| ai @psG_len <| ai q3 <| ai q2 <| ai q4 <| ai ceS <| ai @v33 <| @v32) ?_;refine fun s10 => ⟨by omega, by omega, by omega, by omega, by omega, by omega, ?_⟩
         all_goals
          refine vcSLoop_by (ι := { i : Nat // i ≤ A.length }) (fun i => ⟨[.any, .any, .any, .ptr 2 ti 0 0, .ptr 4 s4 0 0, .any, .slice (segsG u) .none, .slice (psG A) (.tok 5 v), .int .i64 (k : Nat), .int .i64 (sg.lo + (j : Nat)), .ptr 6 s10 0 0, .any, .int .i64 (i.1 : Nat)] ++ List.replicate 113 .any, gObj st s m ++ (idO2 ti so 600 M O ++ [.row s4 4 [mdG L 600 M O], .tok v 33, .row s10 33 [bytesG hx.1 ++ [.int .i64 (sg.hi - (sg.lo + (j : Int)))]]])⟩) (fun i => A.length - i.1) ?_ ?_
          · exact Into.first ⟨0, Nat.zero_le _⟩ ⟨[], by simp⟩ (by simp [WL, leG_self, leG_any])
          · rintro ⟨i, hi⟩;by_cases h3 : i < A.length
            · have d3 : ((i : Int) < (A.length : Int)) = True := eq_true (by omega);have ha : A[i]? = some A[i] := List.getElem?_eq_getElem h3;have hm := List.getElem_mem h3;have eP := psG_at ha;generalize A[i] = q at *;have ce := cellsEq_path q.1 hx q.2 (sg.hi - (sg.lo + (j : Int)));have cf : (decide (q.1 = hx) && decide (q.2 = sg.hi - (sg.lo + (j : Int)))) = false := by
               rw [Bool.and_eq_false_iff];by_cases e1 : q.1 = hx
               · refine .inr (decide_eq_false fun e2 => hnew ?_)
                 rw [← e1, ← e2]; exact hm
               · exact .inl (decide_eq_false e1)
              rw [cf] at ce;refine vq6 d3 @psG_len eP ce @len32 @v33 ?_;exact ⟨by omega, Into.at ⟨i + 1, h3⟩ (by show A.length - (i + 1) < A.length - i; omega) ⟨[], by simp⟩ (by simp [WL, leG_self, leG_any, leG_int])⟩
            · have d3 : ((i : Int) < (A.length : Int)) = False := eq_false (by omega);have e9 : psG (hadP M O u k (j + 1)) = psG A ++ [bytesG hx.1 ++ [.int .i64 (sg.hi - (sg.lo + (j : Int)))]] := by rw [hnext]; exact (psG_snoc A (hx, sg.hi - (sg.lo + (j : Int)))).symm
              have e10 : sg.lo + ((j + 1 : Nat) : Int) = sg.lo + (j : Int) + 1 := by omega
              refine vq5 d3 @psG_len @all_psG @len32 @v33 ?_;refine ⟨by omega, by omega, fun v' => ?_⟩;exact Into.at ⟨(j + 1, v'), hc⟩ (by show (sg.hi + 1 - sg.lo).toNat - (j + 1) < (sg.hi + 1 - sg.lo).toNat - j; omega) ⟨[.row s10 33 [bytesG hx.1 ++ [.int .i64 (sg.hi - (sg.lo + (j : Int)))]]], by simp⟩ (by simp only [e9, e10]; simp [WL, leG_self, leG_any, leG_int])
       · have d1 : (sg.lo + (j : Int) ≤ sg.hi) = False := eq_false (by omega);have ej : j = (sg.hi + 1 - sg.lo).toNat := by omega
         have e2 := had_seg (M := M) (O := O) h hsg
         rw [← ej] at e2;refine vq4 d0 d1 eS zbPMg32 ?_;exact ⟨by omega, Into.at ⟨(k + 1, v), h⟩ (by show u.length - (k + 1) < u.length - k; omega) ⟨[], by simp⟩ (by simp [WL, leG_self, leG_any, leG_int, e2])⟩
   · have d0 : ((k : Int) < (u.length : Int)) = False := eq_false (by omega);have e1 := had_end hids;have ek : k = u.length := by omega
     have e5 : (((psG (hadP M O u k 0)).length : Int) == ((csG L).length : Int)) = true := by rw [psG_len, csG_len, ek, e1, hMO, hlen, beq_self_eq_true]
     refine vq2 @segsG_length d0 ?_;rw [e5];exact ⟨1, .bool true, rfl, by rw [leA_bool]⟩
end Gv.Try
namespace Gv.Sp
open Gv
abbrev S := Int × Int
def has (l : List S) (n : Int) : Prop := ∃ s ∈ l, 0 ≤ n ∧ s.1 ≤ n ∧ n ≤ s.2
theorem has_cons (s : S) (l : List S) (n : Int) : has (s :: l) n ↔ (0 ≤ n ∧ s.1 ≤ n ∧ n ≤ s.2) ∨ has l n := by simp [has]
def Rt : Int → List S → Prop
 | _, [] => True
 | b, s :: r => b ≤ s.1 ∧ s.1 ≤ s.2 ∧ Rt (s.2 + 2) r
theorem Rt.weak {b b' : Int} : ∀ {l : List S}, Rt b l → b' ≤ b → Rt b' l
 | [], _, _ => trivial
 | s :: r, ⟨h1, h2, h3⟩, h => ⟨by omega, h2, h3⟩
theorem Rt.ge {n : Int} : ∀ {l : List S} {b : Int}, Rt b l → has l n → b ≤ n
 | [], b, _, h => by simp [has] at h
 | s :: r, b, ⟨h1, h2, h3⟩, h => by
  rcases (has_cons s r n).1 h with h | h
  · omega
  · have := h3.ge h; omega
theorem Rt.mem {s : S} : ∀ {l : List S} {b : Int}, Rt b l → s ∈ l → b ≤ s.1 ∧ s.1 ≤ s.2
 | [], b, _, h => by simp at h
 | x :: r, b, ⟨h1, h2, h3⟩, h => by
  rcases List.mem_cons.1 h with rfl | h
  · exact ⟨h1, h2⟩
  · have := h3.mem h; omega
theorem Rt.lo {s : S} {l : List S} {b : Int} (h : Rt b l) (hb : 0 ≤ b) (hs : s ∈ l) : has l s.1 := ⟨s, hs, by have := h.mem hs; omega⟩
theorem Rt.hi {s : S} {l : List S} {b : Int} (h : Rt b l) (hb : 0 ≤ b) (hs : s ∈ l) : has l s.2 := ⟨s, hs, by have := h.mem hs; omega⟩
theorem uniq : ∀ {l l' : List S} {b b' : Int}, Rt b l → Rt b' l' → 0 ≤ b → 0 ≤ b' → (∀ n, has l n ↔ has l' n) → l = l'
 | [], [], _, _, _, _, _, _, _ => rfl
 | [], y :: r, _, b', _, h', _, h0', h => absurd ((h y.1).2 (h'.lo h0' (by simp))) (by simp [has])
 | x :: r, [], b, _, h', _, h0', _, h => absurd ((h x.1).1 (h'.lo h0' (by simp))) (by simp [has])
 | (x1, x2) :: r, (y1, y2) :: q, b, b', hx, hy, hb, hb', h => by
  have e1 : has ((y1, y2) :: q) x1 := (h _).1 (hx.lo hb (s := (x1, x2)) (by simp));have e2 : has ((x1, x2) :: r) y1 := (h _).2 (hy.lo hb' (s := (y1, y2)) (by simp));obtain ⟨p1, p2, p3⟩ := hx;obtain ⟨q1, q2, q3⟩ := hy;simp only at p1 p2 p3 q1 q2 q3
  have g1 : y1 ≤ x1 := by
   rcases (has_cons _ _ _).1 e1 with e | e
   · exact e.2.1
   · have := q3.ge e; omega
  have g2 : x1 ≤ y1 := by
   rcases (has_cons _ _ _).1 e2 with e | e
   · exact e.2.1
   · have := p3.ge e; omega
  have g : x1 = y1 := by omega
  have k1 : ¬ x2 < y2 := fun hlt => by
   have e := (h (x2 + 1)).2 ((has_cons _ _ _).2 (.inl ⟨by omega, by show y1 ≤ _; omega, by show _ ≤ y2; omega⟩));rcases (has_cons _ _ _).1 e with e | e
   · have := e.2.2; simp only at this; omega
   · have := p3.ge e; omega
  have k2 : ¬ y2 < x2 := fun hlt => by
   have e := (h (y2 + 1)).1 ((has_cons _ _ _).2 (.inl ⟨by omega, by show x1 ≤ _; omega, by show _ ≤ x2; omega⟩));rcases (has_cons _ _ _).1 e with e | e
   · have := e.2.2; simp only at this; omega
   · have := q3.ge e; omega
  have k : x2 = y2 := by omega
  subst g; subst k;have hr : ∀ n, has r n ↔ has q n := fun n => by
   constructor
   · intro hn;rcases (has_cons _ _ _).1 ((h n).1 ((has_cons _ _ _).2 (.inr hn))) with e | e
     · have := p3.ge hn; have := e.2.2; simp only at this; omega
     · exact e
   · intro hn;rcases (has_cons _ _ _).1 ((h n).2 ((has_cons _ _ _).2 (.inr hn))) with e | e
     · have := q3.ge hn; have := e.2.2; simp only at this; omega
     · exact e
  rw [uniq p3 q3 (by omega) (by omega) hr]
def ins : List S → S → List S
 | [], s => [s]
 | x :: r, s => if x.2 + 1 < s.1 then x :: ins r s else if s.2 + 1 < x.1 then s :: x :: r else ins r (min s.1 x.1, max s.2 x.2)
def put (acc : List S) (s : S) : List S := if max s.1 0 ≤ s.2 then ins acc (max s.1 0, s.2) else acc
def Ok (l : List S) : Prop := ∀ s ∈ l, (-9223372036854775808 ≤ s.1 ∧ s.1 ≤ 9223372036854775807) ∧ (-9223372036854775808 ≤ s.2 ∧ s.2 ≤ 9223372036854775807)
theorem Ok.has {l : List S} (h : Ok l) {n : Int} (hn : has l n) : n ≤ 9223372036854775807 := by obtain ⟨s, hs, h1, h2, h3⟩ := hn; have := (h s hs).2.2; omega
theorem Ok.app {a b : List S} (ha : Ok a) (hb : Ok b) : Ok (a ++ b) := fun s hs => (List.mem_append.1 hs).elim (ha s) (hb s)
theorem Ok.nil : Ok [] := fun s hs => by simp at hs
theorem Ok.at {l : List S} (h : Ok l) (i : Nat) : (-9223372036854775808 ≤ (l.getD i (0, 0)).1 ∧ (l.getD i (0, 0)).1 ≤ 9223372036854775807) ∧ (-9223372036854775808 ≤ (l.getD i (0, 0)).2 ∧ (l.getD i (0, 0)).2 ≤ 9223372036854775807) := by
 by_cases hi : i < l.length
 · rw [List.getD_eq_getElem?_getD, List.getElem?_eq_getElem hi]; exact h _ (List.getElem_mem hi)
 · rw [List.getD_eq_getElem?_getD, List.getElem?_eq_none (by omega)]; simp
theorem Rt.at {l : List S} {b : Int} (h : Rt b l) (i : Nat) (hi : i < l.length) : b ≤ (l.getD i (0, 0)).1 ∧ (l.getD i (0, 0)).1 ≤ (l.getD i (0, 0)).2 := by
 rw [List.getD_eq_getElem?_getD, List.getElem?_eq_getElem hi]; exact h.mem (List.getElem_mem hi)
def both (a b : List S) : List S :=
 match a, b with
 | [], _ => []
 | _ :: _, [] => []
 | x :: a, y :: b => (if max x.1 y.1 ≤ min x.2 y.2 then [(max x.1 y.1, min x.2 y.2)] else []) ++ if x.2 < y.2 then both a (y :: b) else both (x :: a) b
termination_by a.length + b.length
def restF (low : Int) : List S → List S
 | [] => [(low, 9223372036854775807)]
 | s :: r => (if low < s.1 then [(low, s.1 - 1)] else []) ++ if s.2 = 9223372036854775807 then [] else restF (s.2 + 1) r
def rest (l : List S) : List S := restF 0 l
end Gv.Sp
namespace Gv
open Go
theorem den_slice {α : Type} {e : Sh} (enc : α → List GVal) (ok : α → Prop) (he : ∀ {x}, Den e x → ∃ a, x = enc a ∧ ok a) {gs : List GVal} (h : Den (.slice e) gs) : ∃ l : List α, gs = [.slice (l.map enc) .none] ∧ l.length ≤ maxLen ∧ ∀ a ∈ l, ok a := by
 obtain ⟨xs, rfl, hl, hx⟩ := h
 have : ∀ xs : List (List GVal), (∀ x ∈ xs, Den e x) → ∃ l : List α, xs = l.map enc ∧ ∀ a ∈ l, ok a := by
  intro xs;induction xs with
  | nil => exact fun _ => ⟨[], rfl, by simp⟩
  | cons a r ih =>
   intro h;obtain ⟨l, rfl, hl⟩ := ih fun x hx => h x (by simp [hx]);obtain ⟨n, rfl, hn⟩ := he (h a (by simp));exact ⟨n :: l, rfl, by simpa using ⟨hn, hl⟩⟩
 obtain ⟨l, rfl, h2⟩ := this xs hx
 exact ⟨l, rfl, by simpa using hl, h2⟩
end Gv
namespace Gv.Try
open Go Gv Go.Proofs
abbrev rawS : Sh := .agg [.int .i64, .int .i64, .slice (.int .i64)]
abbrev rrS : Sh := .agg [.slice rawS, .slice (.int .i64), .int .i64, .int .i64]
theorem den_ints {gs : List GVal} (h : Den (.slice (.int .i64)) gs) : ∃ l : List Int, gs = [.slice (ints l) .none] := by
 obtain ⟨l, rfl, _⟩ := den_slice (fun n : Int => [.int .i64 n]) (fun n => (Lit.int .i64 n).wf = true) (fun {x} (h : Den (.int .i64) x) => h) h
 exact ⟨l, rfl⟩
theorem den_raw {gs : List GVal} (h : Den rawS gs) : ∃ r : RC, gs = rawC r ∧ True := by
 obtain ⟨ps, rfl, p, q, rfl, ⟨a, rfl, _⟩, p2, q2, rfl, ⟨b, rfl, _⟩, p3, q3, rfl, h3, rfl⟩ := h
 obtain ⟨l, rfl⟩ := den_ints h3
 exact ⟨(a, b, l), rfl, trivial⟩
theorem den_rr {gs : List GVal} (h : Den rrS gs) : ∃ r : RR, gs = rrG r ∧ True := by
 obtain ⟨ps, rfl, p, q, rfl, h1, p2, q2, rfl, h2, p3, q3, rfl, ⟨c, rfl, _⟩, p4, q4, rfl, ⟨d, rfl, _⟩, rfl⟩ := h
 obtain ⟨l, rfl, _, _⟩ := den_slice rawC (fun _ => True) (fun {x} h => den_raw h) h1
 obtain ⟨hs, rfl⟩ := den_ints h2
 exact ⟨⟨l, hs, c, d⟩, rfl, trivial⟩
theorem den_rrs {gs : List GVal} (h : Den (.slice rrS) gs) : ∃ l : List RR, gs = [.slice (rrsG l) .none] := by
 obtain ⟨l, rfl, _, _⟩ := den_slice rrG (fun _ => True) (fun {x} h => den_rr h) h
 exact ⟨l, rfl⟩
theorem wSteps22 {g0 : List GVal} (h0 : Den (.slice rrS) g0) : GPure Try.prog 3 ([Sh.val (.slice rrS) g0]) (.bool true) := by
 obtain ⟨l, rfl⟩ := den_rrs h0
 exact specSteps l
end Gv.Try
