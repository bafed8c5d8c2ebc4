/- Contracts: taproothand's Request: some request, within bounds. -/
import Derived.Test.YtnenmmdpclglhaaGreatDoorP12
import Derived.Test.YtnenmmdpclglhaaGreatDoorP11
import Derived.Test.YtnenmmdpclglhaaGreatDoorP10
set_option linter.defProp false
set_option linter.unusedSimpArgs false
set_option linter.unusedVariables false
set_option maxHeartbeats 8000000
set_option maxRecDepth 200000
namespace Gv.Tryz
open Go Gv Go.Proofs
open Nat (reduceEqDiff reduceAdd reduceSub reduceLeDiff reduceMul reduceLT)
abbrev RC := Int × Int × List Int
def rawC (r : RC) : List GVal := [.int .i64 r.1, .int .i64 r.2.1, .slice (ints r.2.2) .none]
def QkJ (l : List RC) : List (List GVal) := l.map rawC
instance : Inhabited RC := ⟨(0, 0, [])⟩
theorem QbK (l : List RC) : (QkJ l).length = l.length := by simp [QkJ]
theorem QiF (l : List RC) (i : Nat) (h : i < l.length) : (QkJ l).getD i [] = rawC (l.getD i default) := by simp [QkJ, List.getD, h]
structure RR where
 l : List RC
 hs : List Int
 g : Int
 how : Int
abbrev rrG (x : RR) : List GVal := [.slice (QkJ x.l) .none, .slice (ints x.hs) .none, .int .i64 x.g, .int .i64 x.how]
structure QnA (cs : List Cm) (hs : List Hs) : Prop where
 len : cs.length ≤ 72
 par : ∀ c ∈ cs, c.2.length ≤ 8
 hd : hs.length ≤ 5
theorem Qh3 (y : GVal) : List.drop 33 ([.int .u8 0, .int .u8 0, .int .u8 0, .int .u8 0, .int .u8 0, .int .u8 0, .int .u8 0, .int .u8 0, .int .u8 0, .int .u8 0, .int .u8 0, .int .u8 0, .int .u8 0, .int .u8 0, .int .u8 0, .int .u8 0, .int .u8 0, .int .u8 0, .int .u8 0, .int .u8 0, .int .u8 0, .int .u8 0, .int .u8 0, .int .u8 0, .int .u8 0, .int .u8 0, .int .u8 0, .int .u8 0, .int .u8 0, .int .u8 0, .int .u8 0, .int .u8 0, y] : List GVal) = [] := rfl
theorem at33 (h : Hs) (y : GVal) : (bytesG h.1 ++ [y])[32]? = some y := by rw [List.getElem?_append_right (by rw [len32]; omega), len32]; rfl
theorem Qgc (h : Hs) (y z : GVal) : (bytesG h.1 ++ [y]).set 32 z = bytesG h.1 ++ [z] := by rw [List.set_append_right _ _ (by rw [len32]; omega), len32]; rfl
theorem nineH : ([.int .u8 9, .int .u8 0, .int .u8 0, .int .u8 0, .int .u8 0, .int .u8 0, .int .u8 0, .int .u8 0, .int .u8 0, .int .u8 0, .int .u8 0, .int .u8 0, .int .u8 0, .int .u8 0, .int .u8 0, .int .u8 0, .int .u8 0, .int .u8 0, .int .u8 0, .int .u8 0, .int .u8 0, .int .u8 0, .int .u8 0, .int .u8 0, .int .u8 0, .int .u8 0, .int .u8 0, .int .u8 0, .int .u8 0, .int .u8 0, .int .u8 0, .int .u8 0] : List GVal) = bytesG (hq 9 0 0).1 := rfl
theorem Qg4 (hs : List Hs) : hsG hs ++ [bytesG (hq 9 0 0).1] = hsG (hs ++ [hq 9 0 0]) := by simp [hsG]
theorem QfB (cs : List Cm) (hs : List Hs) (a b : Tag) (gr : Int) : leA (.agg [.slice (csG cs) a, .slice (hsG hs) b, .int .i64 gr]) (.agg (reqG cs hs .none gr)) := by
 simp [leA, WL, leG_self, leG_none]
def bls (B : List Bool) : List GVal := B.map .bool
theorem QdH (B : List Bool) : (bls B).length = B.length := by simp [bls]
theorem QoY (B : List Bool) (k : Nat) (b : Bool) : (bls B).set k (.bool b) = bls (B.set k b) := by simp [bls, List.map_set]
theorem QuR (B : List Bool) (k : Nat) (h : k < B.length) : List.take 1 (List.drop (k * 1) (bls B)) = [.bool (B.getD k false)] := by
 rw [Nat.mul_one]
 have e : (bls B).drop k = .bool (B.getD k false) :: (bls B).drop (k + 1) := by
  rw [List.drop_eq_getElem_cons (by rw [QdH]; exact h)]; simp [bls, List.getD, h]
 rw [e]; rfl
theorem QkK (B : List Bool) (m : Nat) (h : m < B.length) : List.take (m * 1) (bls B) ++ [.bool true] ++ List.drop (m * 1 + 1) (bls B) = bls (B.set m true) := by
 rw [Nat.mul_one, ← QoY, List.set_eq_take_append_cons_drop, if_pos (by rw [QdH]; exact h)]; simp
theorem Qg5 : ∀ (B : List Bool) (m : Nat), m < B.length → B.getD m false = false → (B.set m true).count false + 1 = B.count false
 | [], m, h, _ => by simp at h
 | b :: r, 0, h, e => by
  have : b = false := by simpa using e
  subst this; simp
 | b :: r, m + 1, h, e => by
  have := Qg5 r m (by simpa using h) (by simpa using e);rw [List.set_cons_succ, List.count_cons, List.count_cons]; omega
theorem QkL (l : List Int) (n : Nat) : (ints l).take n = ints (l.take n) := by simp [ints, List.map_take]
abbrev rqZ : List GVal := [.slice [] .nil, .slice [] .nil, .int .i64 0]
def zb11 := ai @Qh3 <| ai @List.append_nil.{0} <| ai @QaC <| ai @hsG_len <| ai @Qae <| ai @QbK <| ai @Qbu <| ai @all_hsG <| ai @Qa7 <| ai @QbT <| ai @if32 <| ai @Qfd <| ai @Qgc <| ai @Qbn <| ai @Qbo <| ai @vnT <| ai @v33 <| @v32
def zb12 := ai @Qh3 <| ai @List.append_nil.{0} <| ai @QaC <| ai @hsG_len <| ai @Qae <| ai @QbK <| ai @Qbu <| ai @all_hsG <| ai @Qa7 <| ai @QbT <| ai @if32 <| ai @Qfd <| ai @Qgc <| ai @Qbn <| ai @Qbo <| ai @List.length_nil.{0} <| ai @Int.natCast_zero <| ai @Int.lt_irrefl <| ai @vnT <| ai @v33 <| @v32
def zb13 := ai @Qh3 <| ai @List.append_nil.{0} <| ai @QaC <| ai @hsG_len <| ai @Qae <| ai @QbK <| ai @Qbu <| ai @all_hsG <| ai @Qa7 <| ai @QbT <| ai @if32 <| ai @Qfd <| ai @Qgc <| ai @Qbn <| ai @Qbo <| ai @Qbr <| ai @List.length_cons.{0} <| ai @vnT <| ai @v33 <| @v32
def zb14 := ai @Qh3 <| ai @List.append_nil.{0} <| ai @QaC <| ai @hsG_len <| ai @Qae <| ai @QbK <| ai @Qbu <| ai @all_hsG <| ai @Qa7 <| ai @QbT <| ai @if32 <| ai @Qfd <| ai @Qgc <| ai @Qbn <| ai @Qbo <| ai @rawC.eq_1 <| ai @vnT <| ai @v33 <| @v32
def zb15 := ai @Qh3 <| ai @List.append_nil.{0} <| ai @QaC <| ai @hsG_len <| ai @Qae <| ai @QbK <| ai @Qbu <| ai @all_hsG <| ai @Qa7 <| ai @QbT <| ai @if32 <| ai @Qfd <| ai @Qgc <| ai @Qbn <| ai @Qbo <| ai @nineH <| ai @vnT <| ai @v33 <| @v32
def zb16 := ai @Qh3 <| ai @List.append_nil.{0} <| ai @QaC <| ai @hsG_len <| ai @Qae <| ai @QbK <| ai @Qbu <| ai @all_hsG <| ai @Qa7 <| ai @QbT <| ai @if32 <| ai @Qfd <| ai @Qgc <| ai @Qbn <| ai @Qbo <| ai @List.length_cons.{0} <| ai @vnT <| ai @v33 <| @v32
theorem QlE (x : RR) : GCalls Tryz.prog 9 [.agg (rrG x)] [] (fun g O' => ∃ cs hs gr, QnA cs hs ∧ g = .agg (reqG cs hs .none gr) ∧ O' = []) := by
 have g1 := Int.emod_nonneg x.g (by decide : (2 : Int) ≠ 0)
 have g2 := Int.emod_lt_of_pos x.g (by decide : (0 : Int) < 2)
 have cG := Qf1 x.g 2 (by omega) (by omega)
 refine GCalls.dropTo ?_
 refine h9.ca ?_
 refine vq0 ?_
 intro s2
 refine cG.then ?_ (by rfl)
 refine vq0 ?_
 intro s3
 obtain ⟨gr, hgr⟩ : ∃ gr, 1 + x.g % 2 = gr := ⟨_, rfl⟩
 rw [hgr]
 refine Qab (ι := { p : (Nat × List Cm) × Nat // p.1.1 ≤ x.l.length ∧ p.1.1 ≤ 12 ∧ p.1.2.length ≤ p.1.1 ∧ ∀ c ∈ p.1.2, c.2.length ≤ 8 }) (fun p => ⟨[.any, .ref (rrG x), .ptr 0 s2 0 0, .ptr 1 s3 0 0, .int .i64 (p.1.1.1 : Nat)] ++ List.replicate 242 .any, [.row s2 3 [rqZ], .row s3 3 [[.slice (csG p.1.1.2) (.tok 2 p.1.2), .slice [] .nil, .int .i64 gr]], .tok p.1.2 33]⟩) (fun p => 12 - p.1.1.1) ?_ ?_
 · refine Into.cellTok 1 0 33 [] rfl rfl rfl rfl ?_;refine vq0 ?_;intro sc;exact Into.first ⟨((0, []), sc), Nat.zero_le _, by show 0 ≤ 12; omega, by simp, by simp⟩ ⟨[], rfl⟩ (by simp [WL, leG_self, leG_any])
 · rintro ⟨⟨⟨i, cs⟩, sc⟩, hil, hi, hcl, hcp⟩
   change i ≤ x.l.length at hil
   change i ≤ 12 at hi
   change cs.length ≤ i at hcl
   have hcp : ∀ c ∈ cs, c.2.length ≤ 8 := hcp;by_cases h : i < x.l.length ∧ i < 12
   · have hx12 := h;have d0 : ((i : Int) < (x.l.length : Int)) = True := eq_true (by omega);have d1 : ((i : Int) < 12) = True := eq_true (by omega);have eR := QiF x.l i h.1;generalize x.l.getD i default = r at *;obtain ⟨rn, rh, rp⟩ := r;have n1 := Int.emod_nonneg rn (by decide : (60 : Int) ≠ 0);have n2 := Int.emod_lt_of_pos rn (by decide : (0 : Int) < 60);have cN := Qf1 rn 60 (by omega) (by omega);obtain ⟨n, hn⟩ : ∃ n, rn % 60 = n := ⟨_, rfl⟩
     rw [hn] at cN n1 n2;have cA := QkM n n1 n2;have lA := QdI n;obtain ⟨A, hA⟩ : ∃ A, Qc6 n = A := ⟨_, rfl⟩
     rw [hA] at cA lA;obtain ⟨h, hh⟩ : ∃ h, Qfe n = h := ⟨_, rfl⟩
     have cHn := QdR n;rw [hh] at cHn;refine vq5 d0 d1 eR @rawC.eq_1 @QbK ?_;have k10 : ((1 : Int) = 0) = False := eq_false (by decide);have k20 : ((2 : Int) = 0) = False := eq_false (by decide);have k21 : ((2 : Int) = 1) = False := eq_false (by decide);refine ⟨by omega, fun u => ?_⟩;refine cN.then ?_ (by rfl)
     refine vq0 ?_;refine cHn.then ?_ (by rfl)
     have q1' := Int.emod_nonneg rh (by decide : (60 : Int) ≠ 0);have q2' := Int.emod_lt_of_pos rh (by decide : (0 : Int) < 60);have cQ := Qf1 rh 60 (by omega) (by omega);obtain ⟨q, hq⟩ : ∃ q, rh % 60 = q := ⟨_, rfl⟩
     rw [hq] at cQ q1' q2';refine vq4 k10 k20 k21 zb11 ?_;intro v;refine cA.then ?_ (by rfl)
     refine vq4 k10 k20 k21 zb11 ?_;refine Qab (ι := { p : (Nat × List Hs) × Nat // p.1.1 ≤ A.length ∧ p.1.2.length = p.1.1 }) (fun p => ⟨[.any, .ref (rrG x), .ptr 0 s2 0 0, .ptr 1 s3 0 0, .int .i64 (i : Nat), .ptr 3 u 0 0, .int .i64 n, .ptr 4 v 0 0, .slice (ints A) .none, .int .i64 (p.1.1.1 : Nat)] ++ List.replicate 237 .any, [.row s2 3 [rqZ], .row s3 3 [[.slice (csG cs) (.tok 2 sc), .slice [] .nil, .int .i64 gr]], .tok sc 33, .row u 3 [[.int .i64 rn, .int .i64 rh, .slice (ints rp) .none]], .row v 33 [bytesG h.1 ++ [.slice (hsG p.1.1.2) (.tok 5 p.1.2)]], .tok p.1.2 32]⟩) (fun p => A.length - p.1.1.1) ?_ ?_
     · refine Into.cellTok 4 32 32 [] (tg := .nil) rfl (at33 h _) rfl (Qi9 h _) ?_;refine vq0 ?_;intro sp;exact Into.first ⟨((0, []), sp), Nat.zero_le _, rfl⟩ ⟨[], by simp [Qgc, hsG]⟩ (by simp [WL, leG_self, leG_any])
     · rintro ⟨⟨⟨j, ps⟩, sp⟩, hj, hpl⟩
       change j ≤ A.length at hj
       change ps.length = j at hpl
       by_cases h' : j < A.length
       · have d2 : ((j : Int) < (A.length : Int)) = True := eq_true (by omega);have eA := Qdb A j h';generalize A.getD j 0 = a at *;have cHa := QdR a;obtain ⟨y, hy⟩ : ∃ y, Qfe a = y := ⟨_, rfl⟩
         rw [hy] at cHa;refine vq6 k10 k20 k21 d2 eA zb11 ?_;refine ⟨by omega, ?_⟩;refine cHa.then ?_ (by rfl)
         refine vq4 k10 k20 k21 zb11 ?_;refine ⟨⟨[], by simp⟩, by omega, by omega, fun sp' => ?_⟩;exact Into.at ⟨((j + 1, ps ++ [y]), sp'), by show j + 1 ≤ A.length; omega, by show (ps ++ [y]).length = j + 1; rw [List.length_append, List.length_singleton, hpl]⟩ (by show A.length - (j + 1) < A.length - j; omega) ⟨[], by simp [hsG_app, hsG]⟩ (by simp [WL, leG_self, leG_any, Qaa])
       · have d2 : ((j : Int) < (A.length : Int)) = False := eq_false (by omega);by_cases q0 : q = 0
         · subst q0;refine vq5 k10 k20 k21 d2 zb11 ?_;refine cQ.then ?_ (by rfl)
           refine vq4 k10 k20 k21 zb11 ?_;refine Qab (ι := { p : (Nat × List Hs) × Nat // p.1.1 ≤ rp.length ∧ p.1.1 ≤ 6 ∧ p.1.2.length ≤ 2 + p.1.1 }) (fun p => ⟨[.any, .ref (rrG x), .ptr 0 s2 0 0, .ptr 1 s3 0 0, .int .i64 (i : Nat), .ptr 3 u 0 0, .int .i64 n, .ptr 4 v 0 0, .any, .any, .int .i64 (p.1.1.1 : Nat)] ++ List.replicate 236 .any, [.row s2 3 [rqZ], .row s3 3 [[.slice (csG cs) (.tok 2 sc), .slice [] .nil, .int .i64 gr]], .tok sc 33, .row u 3 [[.int .i64 rn, .int .i64 rh, .slice (ints rp) .none]], .row v 33 [bytesG h.1 ++ [.slice (hsG p.1.1.2) (.tok 5 p.1.2)]], .tok p.1.2 32]⟩) (fun p => 6 - p.1.1.1) ?_ ?_
           · exact Into.first ⟨((0, ps), sp), Nat.zero_le _, Nat.zero_le _, by show ps.length ≤ 2 + 0; omega⟩ ⟨[], by simp⟩ (by simp [WL, leG_self, leG_any])
           · rintro ⟨⟨⟨k, ps⟩, sp⟩, hk, hk6, hpl⟩
             change k ≤ rp.length at hk
             change k ≤ 6 at hk6
             change ps.length ≤ 2 + k at hpl
             by_cases hk' : k < rp.length ∧ k < 6
             · have d3 : ((k : Int) < (rp.length : Int)) = True := eq_true (by omega);have d4 : ((k : Int) < 6) = True := eq_true (by omega);have eB := Qdb rp k hk'.1;generalize rp.getD k 0 = a at *;have cHa := QdR a;obtain ⟨y, hy⟩ : ∃ y, Qfe a = y := ⟨_, rfl⟩
               rw [hy] at cHa;refine vq7 k10 k20 k21 d3 d4 eB zb11 ?_;refine ⟨by omega, ?_⟩;refine cHa.then ?_ (by rfl)
               refine vq4 k10 k20 k21 zb11 ?_;refine ⟨⟨[], by simp⟩, by omega, by omega, fun sp' => ?_⟩;exact Into.at ⟨((k + 1, ps ++ [y]), sp'), by show k + 1 ≤ rp.length; omega, by show k + 1 ≤ 6; omega, by show (ps ++ [y]).length ≤ 2 + (k + 1); rw [List.length_append, List.length_singleton]; omega⟩ (by show 6 - (k + 1) < 6 - k; omega) ⟨[], by simp [hsG_app, hsG]⟩ (by simp [WL, leG_self, leG_any, Qaa])
             · by_cases hk1 : k < rp.length
               · have d3 : ((k : Int) < (rp.length : Int)) = True := eq_true (by omega);have d4 : ((k : Int) < 6) = False := eq_false (by omega);refine vq6 k10 k20 k21 d3 d4 zb11 ?_;refine ⟨by omega, by omega, fun st => ?_⟩;refine Into.rowLe (t := s3) (sz := 3) 1 [[.slice (csG cs ++ [bytesG h.1 ++ [.slice (hsG (ps)) (.tok 5 sp)]]) (.tok 2 st), .slice [] .nil, .int .i64 gr]] [[.slice (csG (cs ++ [(h, ps)])) (.tok 2 st), .slice [] .nil, .int .i64 gr]] (by simp [hsG_app, hsG]) ⟨⟨GLe.slice (by rw [Qbg]; exact QaS.app (QaS.refl _) ⟨Qcc _ _ _, trivial⟩), GLe.refl _, GLe.refl _, trivial⟩, trivial⟩ ?_;refine Into.at ⟨((i + 1, cs ++ [(h, ps)]), st), by show i + 1 ≤ x.l.length; omega, by show i + 1 ≤ 12; omega, by show (cs ++ [(h, ps)]).length ≤ i + 1; rw [List.length_append, List.length_singleton]; omega, fun c hc => ?_⟩ (by show 12 - (i + 1) < 12 - i; omega) ⟨[.row u 3 [[.int .i64 rn, .int .i64 rh, .slice (ints rp) .none]], .row v 33 [bytesG h.1 ++ [.slice (hsG ps) (.tok 5 sp)]], .tok sp 32], rfl⟩ (by simp [WL, leG_self, leG_any, Qaa]);rcases List.mem_append.1 hc with q | q
                 · exact hcp c q
                 · rw [List.mem_singleton.1 q]; show ps.length ≤ 8; omega
               · have d3 : ((k : Int) < (rp.length : Int)) = False := eq_false (by omega);refine vq5 k10 k20 k21 d3 zb11 ?_;refine ⟨by omega, by omega, fun st => ?_⟩;refine Into.rowLe (t := s3) (sz := 3) 1 [[.slice (csG cs ++ [bytesG h.1 ++ [.slice (hsG (ps)) (.tok 5 sp)]]) (.tok 2 st), .slice [] .nil, .int .i64 gr]] [[.slice (csG (cs ++ [(h, ps)])) (.tok 2 st), .slice [] .nil, .int .i64 gr]] (by simp [hsG_app, hsG]) ⟨⟨GLe.slice (by rw [Qbg]; exact QaS.app (QaS.refl _) ⟨Qcc _ _ _, trivial⟩), GLe.refl _, GLe.refl _, trivial⟩, trivial⟩ ?_;refine Into.at ⟨((i + 1, cs ++ [(h, ps)]), st), by show i + 1 ≤ x.l.length; omega, by show i + 1 ≤ 12; omega, by show (cs ++ [(h, ps)]).length ≤ i + 1; rw [List.length_append, List.length_singleton]; omega, fun c hc => ?_⟩ (by show 12 - (i + 1) < 12 - i; omega) ⟨[.row u 3 [[.int .i64 rn, .int .i64 rh, .slice (ints rp) .none]], .row v 33 [bytesG h.1 ++ [.slice (hsG ps) (.tok 5 sp)]], .tok sp 32], rfl⟩ (by simp [WL, leG_self, leG_any, Qaa]);rcases List.mem_append.1 hc with q | q
                 · exact hcp c q
                 · rw [List.mem_singleton.1 q]; show ps.length ≤ 8; omega
         · have e0 : (q = 0) = False := eq_false q0;by_cases q1 : q = 1
           · subst q1
             match ps, hpl with
             | [], hpl =>
              refine vq5 k10 k20 k21 d2 zb11 ?_;refine cQ.then ?_ (by rfl)
              refine vq4 k10 k20 k21 zb12 ?_;refine ⟨by omega, by omega, fun st => ?_⟩;refine Into.rowLe (t := s3) (sz := 3) 1 [[.slice (csG cs ++ [bytesG h.1 ++ [.slice (hsG (([] : List Hs))) (.tok 5 sp)]]) (.tok 2 st), .slice [] .nil, .int .i64 gr]] [[.slice (csG (cs ++ [(h, ([] : List Hs))])) (.tok 2 st), .slice [] .nil, .int .i64 gr]] (by simp [hsG_app, hsG]) ⟨⟨GLe.slice (by rw [Qbg]; exact QaS.app (QaS.refl _) ⟨Qcc _ _ _, trivial⟩), GLe.refl _, GLe.refl _, trivial⟩, trivial⟩ ?_;refine Into.at ⟨((i + 1, cs ++ [(h, ([] : List Hs))]), st), by show i + 1 ≤ x.l.length; omega, by show i + 1 ≤ 12; omega, by show (cs ++ [(h, ([] : List Hs))]).length ≤ i + 1; rw [List.length_append, List.length_singleton]; omega, fun c hc => ?_⟩ (by show 12 - (i + 1) < 12 - i; omega) ⟨[.row u 3 [[.int .i64 rn, .int .i64 rh, .slice (ints rp) .none]], .row v 33 [bytesG h.1 ++ [.slice (hsG []) (.tok 5 sp)]], .tok sp 32], rfl⟩ (by simp [WL, leG_self, leG_any, Qaa]);rcases List.mem_append.1 hc with q | q
              · exact hcp c q
              · rw [List.mem_singleton.1 q]; show 0 ≤ 8; omega
             | y :: pr, hpl =>
              have d3 : ((0 : Int) < ((y :: pr).length : Int)) = True := eq_true (by simp);have d4 : ((0 : Int) < (pr.length : Int) + 1) = True := eq_true (by omega);have eY : (hsG (y :: pr)).getD 0 [] = bytesG y.1 := rfl;have hpr : pr.length ≤ 1 := by simp at hpl; omega
              refine vq5 k10 k20 k21 d2 zb11 ?_;refine cQ.then ?_ (by rfl)
              refine vq7 k10 k20 k21 d3 d4 eY zb13 ?_;refine ⟨by omega, by omega, by omega, fun sp' => ?_⟩;refine ⟨by omega, by omega, fun st => ?_⟩;refine Into.rowLe (t := s3) (sz := 3) 1 [[.slice (csG cs ++ [bytesG h.1 ++ [.slice (hsG ((y :: pr) ++ [y])) (.tok 5 sp')]]) (.tok 2 st), .slice [] .nil, .int .i64 gr]] [[.slice (csG (cs ++ [(h, (y :: pr) ++ [y])])) (.tok 2 st), .slice [] .nil, .int .i64 gr]] (by simp [hsG_app, hsG]) ⟨⟨GLe.slice (by rw [Qbg]; exact QaS.app (QaS.refl _) ⟨Qcc _ _ _, trivial⟩), GLe.refl _, GLe.refl _, trivial⟩, trivial⟩ ?_;refine Into.at ⟨((i + 1, cs ++ [(h, (y :: pr) ++ [y])]), st), by show i + 1 ≤ x.l.length; omega, by show i + 1 ≤ 12; omega, by show (cs ++ [(h, (y :: pr) ++ [y])]).length ≤ i + 1; rw [List.length_append, List.length_singleton]; omega, fun c hc => ?_⟩ (by show 12 - (i + 1) < 12 - i; omega) ⟨[.row u 3 [[.int .i64 rn, .int .i64 rh, .slice (ints rp) .none]], .row v 33 [bytesG h.1 ++ [.slice (hsG (y :: pr) ++ [bytesG y.1]) (.tok 5 sp')]], .tok sp' 32], rfl⟩ (by simp [WL, leG_self, leG_any, Qaa]);rcases List.mem_append.1 hc with q | q
              · exact hcp c q
              · rw [List.mem_singleton.1 q]; show ((y :: pr) ++ [y]).length ≤ 8; simp; omega
           · have e1 : (q = 1) = False := eq_false q1;by_cases q2 : q = 2
             · subst q2;refine vq5 k10 k20 k21 d2 zb11 ?_;refine cQ.then ?_ (by rfl)
               refine vq4 k10 k20 k21 zb11 ?_;have cH2 := QdR (n + 1);obtain ⟨z, hz⟩ : ∃ z, Qfe (n + 1) = z := ⟨_, rfl⟩
               rw [hz] at cH2;refine cH2.then ?_ (by rfl)
               refine vq4 k10 k20 k21 zb11 ?_;refine ⟨by omega, by omega, fun st => ?_⟩;refine Into.rowLe (t := s3) (sz := 3) 1 [[.slice (csG cs ++ [bytesG h.1 ++ [.slice (hsG ([z])) .full]]) (.tok 2 st), .slice [] .nil, .int .i64 gr]] [[.slice (csG (cs ++ [(h, [z])])) (.tok 2 st), .slice [] .nil, .int .i64 gr]] (by simp [hsG_app, hsG]) ⟨⟨GLe.slice (by rw [Qbg]; exact QaS.app (QaS.refl _) ⟨Qcc _ _ _, trivial⟩), GLe.refl _, GLe.refl _, trivial⟩, trivial⟩ ?_;refine Into.at ⟨((i + 1, cs ++ [(h, [z])]), st), by show i + 1 ≤ x.l.length; omega, by show i + 1 ≤ 12; omega, by show (cs ++ [(h, [z])]).length ≤ i + 1; rw [List.length_append, List.length_singleton]; omega, fun c hc => ?_⟩ (by show 12 - (i + 1) < 12 - i; omega) ⟨[.row u 3 [[.int .i64 rn, .int .i64 rh, .slice (ints rp) .none]], .row v 33 [bytesG h.1 ++ [.slice [bytesG z.1] .full]], .tok sp 32], rfl⟩ (by simp [WL, leG_self, leG_any, Qaa]);rcases List.mem_append.1 hc with q | q
               · exact hcp c q
               · rw [List.mem_singleton.1 q]; show 1 ≤ 8; omega
             · have e2 : (q = 2) = False := eq_false q2;refine vq5 k10 k20 k21 d2 zb11 ?_;refine cQ.then ?_ (by rfl)
               refine vq7 k10 k20 k21 e0 e1 e2 zb11 ?_;refine ⟨by omega, by omega, fun st => ?_⟩;refine Into.rowLe (t := s3) (sz := 3) 1 [[.slice (csG cs ++ [bytesG h.1 ++ [.slice (hsG (ps)) (.tok 5 sp)]]) (.tok 2 st), .slice [] .nil, .int .i64 gr]] [[.slice (csG (cs ++ [(h, ps)])) (.tok 2 st), .slice [] .nil, .int .i64 gr]] (by simp [hsG_app, hsG]) ⟨⟨GLe.slice (by rw [Qbg]; exact QaS.app (QaS.refl _) ⟨Qcc _ _ _, trivial⟩), GLe.refl _, GLe.refl _, trivial⟩, trivial⟩ ?_;refine Into.at ⟨((i + 1, cs ++ [(h, ps)]), st), by show i + 1 ≤ x.l.length; omega, by show i + 1 ≤ 12; omega, by show (cs ++ [(h, ps)]).length ≤ i + 1; rw [List.length_append, List.length_singleton]; omega, fun c hc => ?_⟩ (by show 12 - (i + 1) < 12 - i; omega) ⟨[.row u 3 [[.int .i64 rn, .int .i64 rh, .slice (ints rp) .none]], .row v 33 [bytesG h.1 ++ [.slice (hsG ps) (.tok 5 sp)]], .tok sp 32], rfl⟩ (by simp [WL, leG_self, leG_any, Qaa]);rcases List.mem_append.1 hc with q | q
               · exact hcp c q
               · rw [List.mem_singleton.1 q]; show ps.length ≤ 8; omega
   · have hstop : True := trivial;have w1 := Int.emod_nonneg x.how (by decide : (50 : Int) ≠ 0);have w2 := Int.emod_lt_of_pos x.how (by decide : (0 : Int) < 50);have cV := Qf1 x.how 50 (by omega) (by omega);have m1 := Int.emod_nonneg (norm .i64 (x.how.tdiv 50)) (by decide : (4 : Int) ≠ 0);have m2 := Int.emod_lt_of_pos (norm .i64 (x.how.tdiv 50)) (by decide : (0 : Int) < 4);have cM := Qf1 (norm .i64 (x.how.tdiv 50)) 4 (by omega) (by omega);obtain ⟨w, hw⟩ : ∃ w, x.how % 50 = w := ⟨_, rfl⟩
     obtain ⟨q, hqv⟩ : ∃ q, norm .i64 (x.how.tdiv 50) % 4 = q := ⟨_, rfl⟩
     rw [hw] at cV w1 w2;rw [hqv] at cM m1 m2;have k10 : ((1 : Int) = 0) = False := eq_false (by decide);have k20 : ((2 : Int) = 0) = False := eq_false (by decide);have k21 : ((2 : Int) = 1) = False := eq_false (by decide);have h12 : cs.length ≤ 12 := by omega
     have hcase : (∀ k : Nat, k ≤ x.l.length → k ≤ 12 → ¬ (k < x.l.length ∧ k < 12) → ((k : Int) < (x.l.length : Int)) = True ∧ ((k : Int) < 12) = False) ∨ (∀ k : Nat, k ≤ x.l.length → k ≤ 12 → ¬ (k < x.l.length ∧ k < 12) → ((k : Int) < (x.l.length : Int)) = False ∧ (True = True)) := by
      by_cases hh : x.l.length ≤ 12
      · exact .inr fun k h1 h2 h3 => ⟨eq_false (by omega), rfl⟩
      · exact .inl fun k h1 h2 h3 => ⟨eq_true (by omega), eq_false (by omega)⟩
     rcases hcase with hexit | hexit
     all_goals
      obtain ⟨d0, d1⟩ := hexit i hil hi h;refine vq6 d0 d1 k10 k20 k21 zb11 ?_;refine Qab (ι := { p : (Nat × List Hs) × Nat // p.1.1 ≤ x.hs.length ∧ p.1.1 ≤ 4 ∧ p.1.2.length = p.1.1 }) (fun p => ⟨[.any, .ref (rrG x), .ptr 0 s2 0 0, .ptr 1 s3 0 0] ++ List.replicate 7 .any ++ [.int .i64 (p.1.1.1 : Nat)] ++ List.replicate 235 .any, [.row s2 3 [rqZ], .row s3 3 [[.slice (csG cs) (.tok 2 sc), .slice (hsG p.1.1.2) (.tok 3 p.1.2), .int .i64 gr]], .tok sc 33, .tok p.1.2 32]⟩) (fun p => 4 - p.1.1.1) ?_ ?_
      · refine Into.cellTok 1 1 32 [] rfl rfl rfl rfl ?_;refine vq0 ?_;intro sh;exact Into.first ⟨((0, []), sh), Nat.zero_le _, Nat.zero_le _, rfl⟩ ⟨[], rfl⟩ (by simp [WL, leG_self, leG_any])
      · rintro ⟨⟨⟨j, hs⟩, sh⟩, hj, hj4, hhl⟩
        change j ≤ x.hs.length at hj
        change j ≤ 4 at hj4
        change hs.length = j at hhl
        by_cases h' : j < x.hs.length ∧ j < 4
        · have d2 : ((j : Int) < (x.hs.length : Int)) = True := eq_true (by omega);have d3 : ((j : Int) < 4) = True := eq_true (by omega);have eA := Qdb x.hs j h'.1;generalize x.hs.getD j 0 = a at *;have cHa := QdR a;obtain ⟨y, hy⟩ : ∃ y, Qfe a = y := ⟨_, rfl⟩
          rw [hy] at cHa;refine vq7 k10 k20 k21 d2 d3 eA zb11 ?_;refine ⟨by omega, ?_⟩;refine cHa.then ?_ (by rfl)
          refine vq4 k10 k20 k21 zb11 ?_;refine ⟨⟨[], by simp⟩, by omega, by omega, fun sh' => ?_⟩;exact Into.at ⟨((j + 1, hs ++ [y]), sh'), by show j + 1 ≤ x.hs.length; omega, by show j + 1 ≤ 4; omega, by show (hs ++ [y]).length = j + 1; rw [List.length_append, List.length_singleton, hhl]⟩ (by show 4 - (j + 1) < 4 - j; omega) ⟨[], by simp [hsG_app, hsG]⟩ (by simp [WL, leG_self, leG_any, Qaa])
        · have hh5 : hs.length ≤ 4 := by omega
          have hcase : (((j : Int) < (x.hs.length : Int)) = True ∧ ((j : Int) < 4) = False) ∨ (((j : Int) < (x.hs.length : Int)) = False ∧ (True = True)) := by
           by_cases hh : j < x.hs.length
           · exact .inl ⟨eq_true (by omega), eq_false (by omega)⟩
           · exact .inr ⟨eq_false (by omega), rfl⟩
          rcases hcase with ⟨d2, d3⟩ | ⟨d2, d3⟩
          all_goals
           refine vq6 k10 k20 k21 d2 d3 zb11 ?_;refine ⟨by decide, ?_⟩;refine cM.then ?_ (by rfl)
           by_cases hq0 : 0 < q
           · have dq : ((0 : Int) < q) = True := eq_true hq0;have eMin : (min (x.hs.length : Int) 4).toNat = min x.hs.length 4 := by omega
             have lT : (x.hs.take (min x.hs.length 4)).length ≤ 4 := by rw [List.length_take]; omega
             refine vq1 (ai @Qh3 <| ai @List.append_nil.{0} <| ai @QaC <| ai @hsG_len <| ai @Qae <| ai @QbK <| ai @Qbu <| ai @all_hsG <| ai @Qa7 <| ai @QbT <| ai @if32 <| ai @Qfd <| ai @Qgc <| ai k10 <| ai k20 <| ai k21 <| ai @Qbn <| ai @Qbo <| ai dq <| ai eMin <| ai @QkL <| ai @Qbr <| ai @List.drop_zero.{0} <| ai @vnT <| ai @v33 <| @v32) ?_;refine fun sb => ⟨by omega, by omega, by omega, ?_⟩
             obtain ⟨T0, hT0⟩ : ∃ T, x.hs.take (min x.hs.length 4) = T := ⟨_, rfl⟩
             rw [hT0] at lT ⊢;refine Qab (ι := { p : Nat × (List Bool × List Int) // p.1 ≤ x.l.length ∧ p.1 ≤ 12 ∧ p.2.1.length = 60 ∧ p.2.2.length ≤ 4 + 2 * p.1 }) (fun p => ⟨[.any, .ref (rrG x), .ptr 0 s2 0 0, .ptr 1 s3 0 0] ++ List.replicate 8 .any ++ [.ptr 4 sb 0 0, .slice (ints p.1.2.2) .none, .int .i64 (p.1.1 : Nat)] ++ List.replicate 232 .any, [.row s2 3 [rqZ], .row s3 3 [[.slice (csG cs) (.tok 2 sc), .slice (hsG hs) (.tok 3 sh), .int .i64 gr]], .tok sc 33, .tok sh 32, .row sb 60 [bls p.1.2.1]]⟩) (fun p => 12 - p.1.1) ?_ ?_
             · exact Into.first ⟨(0, (List.replicate 60 false, T0)), Nat.zero_le _, Nat.zero_le _, by simp, by show T0.length ≤ 4 + 2 * 0; omega⟩ ⟨[], rfl⟩ (by simp [WL, leG_self, leG_any])
             · rintro ⟨⟨k, ⟨B, T⟩⟩, hkl, hk, hB, hT⟩
               change k ≤ x.l.length at hkl
               change k ≤ 12 at hk
               have hB : B.length = 60 := hB
               change T.length ≤ 4 + 2 * k at hT
               by_cases hk' : k < x.l.length ∧ k < 12
               · have d4 : ((k : Int) < (x.l.length : Int)) = True := eq_true (by omega);have d5 : ((k : Int) < 12) = True := eq_true (by omega);have eR := QiF x.l k hk'.1;generalize x.l.getD k default = r at *;obtain ⟨rn, rh, rp⟩ := r;have n1 := Int.emod_nonneg rn (by decide : (60 : Int) ≠ 0);have n2 := Int.emod_lt_of_pos rn (by decide : (0 : Int) < 60);have cN := Qf1 rn 60 (by omega) (by omega);obtain ⟨n, hn⟩ : ∃ n, rn % 60 = n := ⟨_, rfl⟩
                 rw [hn] at cN n1 n2;have cA := QkM n n1 n2;have lA := QdI n;obtain ⟨A, hA⟩ : ∃ A, Qc6 n = A := ⟨_, rfl⟩
                 rw [hA] at cA lA;refine vq7 k10 k20 k21 d4 d5 eR zb14 ?_;refine ⟨by omega, ?_⟩;refine cN.then ?_ (by rfl)
                 obtain ⟨m, hm⟩ : ∃ m, n.toNat = m := ⟨_, rfl⟩
                 have hm60 : m < 60 := by omega
                 have eB := QkK B m (by omega);refine vq7 k10 k20 k21 eR hm eB zb14 ?_;refine ⟨by omega, by omega, by rw [QdH]; omega, by omega, by omega, by omega, by omega, fun st => ⟨⟨[_], rfl⟩, ?_⟩⟩;refine cN.then ?_ (by rfl)
                 refine vq4 k10 k20 k21 zb11 ?_;refine cA.then ?_ (by rfl)
                 refine vq4 k10 k20 k21 zb11 ?_;refine ⟨by omega, by omega, fun st2 => ?_⟩;exact Into.at ⟨(k + 1, (B.set m true, T ++ A)), by show k + 1 ≤ x.l.length; omega, by show k + 1 ≤ 12; omega, by show (B.set m true).length = 60; rw [List.length_set]; exact hB, by show (T ++ A).length ≤ 4 + 2 * (k + 1); rw [List.length_append]; omega⟩ (by show 12 - (k + 1) < 12 - k; omega) ⟨[.tok st2 1], by simp⟩ (by simp [WL, leG_self, leG_any, leG_none, Qaa, ints])
               · obtain ⟨d4, d5⟩ := hexit k hkl hk hk';refine vq6 k10 k20 k21 d4 d5 zb11 ?_;refine Qab (ι := { p : (List Cm × Nat) × (List Bool × List Int) // p.2.1.length = 60 ∧ p.1.1.length + p.2.1.count false ≤ 72 ∧ (∀ c ∈ p.1.1, c.2.length ≤ 8) ∧ p.2.2.length + 2 * p.2.1.count false ≤ 200 }) (fun p => ⟨[.any, .ref (rrG x), .ptr 0 s2 0 0, .ptr 1 s3 0 0] ++ List.replicate 8 .any ++ [.ptr 4 sb 0 0, .slice (ints p.1.2.2) .none] ++ List.replicate 233 .any, [.row s2 3 [rqZ], .row s3 3 [[.slice (csG p.1.1.1) (.tok 2 p.1.1.2), .slice (hsG hs) (.tok 3 sh), .int .i64 gr]], .tok p.1.1.2 33, .tok sh 32, .row sb 60 [bls p.1.2.1]]⟩) (fun p => 3 * p.1.2.1.count false + p.1.2.2.length) ?_ ?_
                 · have hcB : B.count false ≤ 60 := by have := List.count_le_length (a := false) (l := B); omega
                   exact Into.first ⟨((cs, sc), (B, T)), hB, by show cs.length + B.count false ≤ 72; omega, hcp, by show T.length + 2 * B.count false ≤ 200; omega⟩ ⟨[], by simp⟩ (by simp [WL, leG_self, leG_any])
                 · clear hk' hT hB d4 d5 hkl hk h12 hcp hcl;rintro ⟨⟨⟨cs, sc⟩, ⟨B, T⟩⟩, hB, hcl, hcp, hT⟩;have hB : B.length = 60 := hB
                   change cs.length + B.count false ≤ 72 at hcl
                   have hcp : ∀ c ∈ cs, c.2.length ≤ 8 := hcp
                   change T.length + 2 * B.count false ≤ 200 at hT
                   match T, hT with
                   | [], hT =>
                    refine vq4 k10 k20 k21 zb12 ?_;refine cV.then ?_ (by rfl)
                    by_cases v0 : w = 0
                    · subst v0;refine vq4 k10 k20 k21 zb11 ?_;exact ⟨.agg (reqG cs hs .none x.g), [], _, rfl, QfB _ _ _ _ _, cs, hs, x.g, ⟨by omega, hcp, by omega⟩, rfl, rfl⟩
                    · by_cases v1 : w = 1
                      · subst v1;refine vq4 k10 k20 k21 zb15 ?_;refine ⟨by omega, by omega, fun st => ?_⟩;exact ⟨.agg (reqG cs (hs ++ [hq 9 0 0]) .none gr), [], _, rfl, by rw [Qg4]; exact QfB _ _ _ _ _, cs, hs ++ [hq 9 0 0], gr, ⟨by omega, hcp, by rw [List.length_append, List.length_singleton]; omega⟩, rfl, rfl⟩
                      · have e0 : (w = 0) = False := eq_false v0;have e1 : (w = 1) = False := eq_false v1;refine vq6 k10 k20 k21 e0 e1 zb11 ?_;exact ⟨.agg (reqG cs hs .none gr), [], _, rfl, QfB _ _ _ _ _, cs, hs, gr, ⟨by omega, hcp, by omega⟩, rfl, rfl⟩
                   | a :: T', hT =>
                    have hT' : T'.length + 1 + 2 * B.count false ≤ 200 := by simpa using hT
                    have dT : ((0 : Int) < (T'.length : Int) + 1) = True := eq_true (by omega);have n1 := Int.emod_nonneg a (by decide : (60 : Int) ≠ 0);have n2 := Int.emod_lt_of_pos a (by decide : (0 : Int) < 60);have cN := Qf1 a 60 (by omega) (by omega);obtain ⟨n, hn⟩ : ∃ n, a % 60 = n := ⟨_, rfl⟩
                    rw [hn] at cN n1 n2;have cA := QkM n n1 n2;have lA := QdI n;obtain ⟨A, hA⟩ : ∃ A, Qc6 n = A := ⟨_, rfl⟩
                    rw [hA] at cA lA;obtain ⟨h, hh⟩ : ∃ h, Qfe n = h := ⟨_, rfl⟩
                    have cHn := QdR n;rw [hh] at cHn;obtain ⟨m, hm⟩ : ∃ m, n.toNat = m := ⟨_, rfl⟩
                    have hm60 : m < 60 := by omega
                    have eB := QkK B m (by omega);have eG := QuR B m (by omega);have eT0 : (ints (a :: T')).getD 0 [] = [.int .i64 a] := rfl;have eT1 : (ints (a :: T')).drop 1 = ints T' := rfl;have tn1 : (Int.toNat 1) = 1 := rfl;have eTt : List.take ((T'.length : Int) + 1).toNat (ints (a :: T')) = ints (a :: T') := List.take_of_length_le (by rw [Qbu]; simp);refine vq6 k10 k20 k21 dT eT0 zb13 ?_;refine ⟨by omega, ?_⟩;refine cN.then ?_ (by rfl)
                    cases eb : B.getD m false with
                    | true =>
                     rw [eb] at eG;refine vq9 k10 k20 k21 hm eG eTt eT1 tn1 zb16 ?_;refine ⟨by omega, by omega, by omega, by omega, by omega, by rw [QdH]; omega, ?_⟩;exact Into.at ⟨((cs, sc), (B, T')), hB, hcl, hcp, by show T'.length + 2 * B.count false ≤ 200; omega⟩ (by show 3 * B.count false + T'.length < 3 * B.count false + (T'.length + 1); omega) ⟨[], by simp⟩ (by simp [WL, leG_self, leG_any])
                    | false =>
                     rw [eb] at eG;have hcs := Qg5 B m (by omega) eb;refine vq10 k10 k20 k21 hm eG eB eTt eT1 tn1 zb16 ?_;refine ⟨by omega, by omega, by omega, by omega, by omega, by rw [QdH]; omega, by omega, by omega, by rw [QdH]; omega, ?_⟩;obtain ⟨B', hB'⟩ : ∃ B', B.set m true = B' := ⟨_, rfl⟩
                     have hBl' : B'.length = 60 := by rw [← hB', List.length_set]; exact hB
                     rw [hB'] at hcs ⊢;refine cHn.then ?_ (by rfl)
                     refine vq4 k10 k20 k21 zb11 ?_;intro v;refine cA.then ?_ (by rfl)
                     refine vq4 k10 k20 k21 zb11 ?_;refine Qab (ι := { p : (Nat × List Hs) × Nat // p.1.1 ≤ A.length ∧ p.1.2.length = p.1.1 }) (fun p => ⟨[.any, .ref (rrG x), .ptr 0 s2 0 0, .ptr 1 s3 0 0] ++ List.replicate 8 .any ++ [.ptr 4 sb 0 0, .slice (ints T') .none, .any, .int .i64 n, .ptr 5 v 0 0, .slice (ints A) .none, .int .i64 (p.1.1.1 : Nat)] ++ List.replicate 228 .any, [.row s2 3 [rqZ], .row s3 3 [[.slice (csG cs) (.tok 2 sc), .slice (hsG hs) (.tok 3 sh), .int .i64 gr]], .tok sc 33, .tok sh 32, .row sb 60 [bls B'], .row v 33 [bytesG h.1 ++ [.slice (hsG p.1.1.2) (.tok 6 p.1.2)]], .tok p.1.2 32]⟩) (fun p => A.length - p.1.1.1) ?_ ?_
                     · refine Into.cellTok 5 32 32 [] (tg := .nil) rfl (at33 h _) rfl (Qi9 h _) ?_;refine vq0 ?_;intro sp;exact Into.first ⟨((0, []), sp), Nat.zero_le _, rfl⟩ ⟨[], by simp [Qgc, hsG]⟩ (by simp [WL, leG_self, leG_any])
                     · rintro ⟨⟨⟨j, ps⟩, sp⟩, hj, hpl⟩
                       change j ≤ A.length at hj
                       change ps.length = j at hpl
                       by_cases h' : j < A.length
                       · have d2 : ((j : Int) < (A.length : Int)) = True := eq_true (by omega);have eA := Qdb A j h';generalize A.getD j 0 = a at *;have cHa := QdR a;obtain ⟨y, hy⟩ : ∃ y, Qfe a = y := ⟨_, rfl⟩
                         rw [hy] at cHa;refine vq6 k10 k20 k21 d2 eA zb11 ?_;refine ⟨by omega, ?_⟩;refine cHa.then ?_ (by rfl)
                         refine vq4 k10 k20 k21 zb11 ?_;refine ⟨⟨[], by simp⟩, by omega, by omega, fun sp' => ?_⟩;exact Into.at ⟨((j + 1, ps ++ [y]), sp'), by show j + 1 ≤ A.length; omega, by show (ps ++ [y]).length = j + 1; rw [List.length_append, List.length_singleton, hpl]⟩ (by show A.length - (j + 1) < A.length - j; omega) ⟨[], by simp [hsG_app, hsG]⟩ (by simp [WL, leG_self, leG_any, Qaa])
                       · have d2 : ((j : Int) < (A.length : Int)) = False := eq_false (by omega);refine vq5 k10 k20 k21 d2 zb11 ?_;refine ⟨by omega, by omega, fun st => ⟨by omega, by omega, fun st2 => ⟨by omega, by omega, fun st3 => ?_⟩⟩⟩;refine Into.rowLe (t := s3) (sz := 3) 1 [[.slice (csG cs ++ [bytesG h.1 ++ [.slice (hsG ps) (.tok 6 sp)]]) (.tok 2 st), .slice (hsG hs) (.tok 3 sh), .int .i64 gr]] [[.slice (csG (cs ++ [(h, ps)])) (.tok 2 st), .slice (hsG hs) (.tok 3 sh), .int .i64 gr]] (by simp) ⟨⟨GLe.slice (by rw [Qbg]; exact QaS.app (QaS.refl _) ⟨Qcc _ _ _, trivial⟩), GLe.refl _, GLe.refl _, trivial⟩, trivial⟩ ?_;refine Into.at ⟨((cs ++ [(h, ps)], st), (B', T' ++ A)), hBl', by show (cs ++ [(h, ps)]).length + B'.count false ≤ 72; rw [List.length_append, List.length_singleton]; omega, fun c hc => ?_, by show (T' ++ A).length + 2 * B'.count false ≤ 200; rw [List.length_append]; omega⟩ (by show 3 * B'.count false + (T' ++ A).length < 3 * B.count false + (T'.length + 1); rw [List.length_append]; omega) ⟨[.row v 33 [bytesG h.1 ++ [.slice (hsG ps) (.tok 6 sp)]], .tok sp 32, .tok st3 1], by simp⟩ (by simp [WL, leG_self, leG_any, leG_none, ints]);rcases List.mem_append.1 hc with q | q
                         · exact hcp c q
                         · rw [List.mem_singleton.1 q]; show ps.length ≤ 8; omega
           · have dq : ((0 : Int) < q) = False := eq_false hq0;refine vq5 k10 k20 k21 dq zb11 ?_;refine cV.then ?_ (by rfl)
             by_cases v0 : w = 0
             · subst v0;refine vq4 k10 k20 k21 zb11 ?_;exact ⟨.agg (reqG cs hs .none x.g), [], _, rfl, QfB _ _ _ _ _, cs, hs, x.g, ⟨by omega, hcp, by omega⟩, rfl, rfl⟩
             · by_cases v1 : w = 1
               · subst v1;refine vq4 k10 k20 k21 zb15 ?_;refine ⟨by omega, by omega, fun st => ?_⟩;exact ⟨.agg (reqG cs (hs ++ [hq 9 0 0]) .none gr), [], _, rfl, by rw [Qg4]; exact QfB _ _ _ _ _, cs, hs ++ [hq 9 0 0], gr, ⟨by omega, hcp, by rw [List.length_append, List.length_singleton]; omega⟩, rfl, rfl⟩
               · have e0 : (w = 0) = False := eq_false v0;have e1 : (w = 1) = False := eq_false v1;refine vq6 k10 k20 k21 e0 e1 zb11 ?_;exact ⟨.agg (reqG cs hs .none gr), [], _, rfl, QfB _ _ _ _ _, cs, hs, gr, ⟨by omega, hcp, by omega⟩, rfl, rfl⟩
theorem Qa1 {α : Type} : ∀ {m : List (Hs × α)} {p : Hs × α}, (m.map (·.1)).Nodup → p ∈ m → look m p.1 = some p.2
 | q :: r, p, hn, hp => by
  rw [List.map_cons, List.nodup_cons] at hn;rw [look];rcases List.mem_cons.1 hp with e | e
  · rw [e, if_pos rfl]
  · rw [if_neg (fun w => hn.1 (by rw [← w]; exact List.mem_map_of_mem e)), Qa1 hn.2 e]
theorem GCalls.lift0 {P : Program} {f : FuncId} {args : List GVal} {R : GVal → Prop} (h : GCalls P f args [] (fun g O' => R g ∧ O' = [])) (O : List GObj) (hc : Qad O = none) : GCalls P f args O (fun g O' => R g ∧ O' = O) := by
 refine GCalls.frame h [] trivial (by simp) (GLes.refl _) rfl hc ?_
 rintro g O' ⟨hr, rfl⟩
 refine ⟨g, O, (List.range O.length).map (fun k => (true, k)), ⟨hr, rfl⟩, GLe.refl g, QcI.of (by simp) fun k z s hz hs => ?_, ?_, hc⟩
 · have hk : k < O.length := (List.getElem?_eq_some_iff.1 hz).1;simp only [List.getElem?_map, List.getElem?_range hk, Option.map_some, Option.some.injEq] at hs;subst hs;exact ⟨by simp, z, hz, .refl _⟩
 · rw [List.nodup_iff_pairwise_ne, List.pairwise_map];refine List.Pairwise.imp ?_ (List.pairwise_lt_range (n := O.length));intro a b hab;simp; omega
instance : Inhabited RR := ⟨⟨[], [], 0, 0⟩⟩
theorem QjT (x : RR) (O : List GObj) (hc : Qad O = none) : GCalls Tryz.prog 9 [.agg (rrG x)] O (fun g O' => ∃ cs hs gr, QnA cs hs ∧ g = .agg (reqG cs hs .none gr) ∧ O' = O) := by
 refine (GCalls.lift0 (R := fun g => ∃ cs hs gr, QnA cs hs ∧ g = .agg (reqG cs hs .none gr)) ((QlE x).mono ?_) O hc).mono ?_
 · rintro g O' ⟨cs, hs, gr, h1, h2, h3⟩;exact ⟨⟨cs, hs, gr, h1, h2⟩, h3⟩
 · rintro g O' ⟨⟨cs, hs, gr, h1, h2⟩, h3⟩;exact ⟨cs, hs, gr, h1, h2, h3⟩
theorem QbY {m L : GM} (hm : Good m) (h : QaX m L) (hL : SSC L) : Good L := by
 have k := QcA hL
 refine ⟨⟨?_, fun p hp => ?_⟩, k, fun x y hy => ?_, fun x hx => ?_⟩
 · rw [← h.len hm.keys k]; exact hm.ok.len
 · have := Qa1 k hp
   rw [← h p.1] at this;exact hm.ok.row _ (Qdn this)
 · rw [← h.pars] at hy
   rw [← h y]; exact hm.closed x y hy
 · rw [← h.pars] at hx; exact hm.acyc x hx
theorem Qdo {α : Type} {f : α → Er} {l : List α} {e : Option Hs × Int} (h : l.findSome? f = some e) (hp : ∀ a x, f a = some x → x.2 ≠ 0) : e.2 ≠ 0 := by
 obtain ⟨a, _, ha⟩ := List.exists_of_findSome?_eq_some h
 exact hp a e ha
theorem QeA {M : GM} {n : Int} (hn : n ≠ 0) {p : Hs} {x : Option Hs × Int} (h : Qak M n p = some x) : x.2 ≠ 0 := by
 unfold Qak at h
 split at h
 · cases h
 · cases h; exact hn
theorem QgT : ∀ {cs : List Cm} {m : GM} {e : Hs × Int}, QaI m cs = .error e → e.2 ≠ 0
 | [], m, e, h => by rw [QaI] at h; cases h
 | c :: r, m, e, h => by
  rw [QaI] at h;split at h
  · exact QgT h
  · rename_i e1;unfold Qcm at e1;split at e1
    · split at e1
      · cases e1
      · cases h; cases e1; show (9 : Int) ≠ 0; decide
    · cases e1
theorem QoD {gr : Int} {m : GM} {cs : List Cm} {hs : List Hs} {e : Option Hs × Int} (h : Qaj gr m cs hs = .error e) : e.2 ≠ 0 := by
 unfold Qaj at h
 split at h
 · rename_i e1;cases h;unfold Qay at e1;split at e1
   · cases e1; decide
   · refine Qdo e1 fun a x hx => ?_;unfold Qbl at hx;split at hx
     · cases hx; show (8 : Int) ≠ 0; decide
     · split at hx
       · cases hx; show (1 : Int) ≠ 0; decide
       · cases hx
 · split at h
   · rename_i e2;cases h;exact QgT e2
   · split at h
     · rename_i e3;cases h;unfold Qby at e3;split at e3
       · rename_i e4;cases e3;exact Qdo e4 fun a x hx => Qdo hx fun b y hy => QeA (by decide) hy
       · exact Qdo e3 fun a x hx => QeA (by decide) hx
     · split at h
       · rename_i e5;cases h;unfold Qa9 at e5;refine Qdo e5 fun a x hx => ?_;unfold QbN at hx;split at hx
         · cases hx
         · split at hx
           · cases hx; show (12 : Int) ≠ 0; decide
           · cases hx
       · split at h
         · cases h; decide
         · cases h
def blr (B : List Bool) : List (List GVal) := B.map fun b => [.bool b]
theorem QdJ (B : List Bool) : (blr B).length = B.length := by simp [blr]
theorem QiL (B : List Bool) (i : Nat) (h : i < B.length) : (blr B).getD i [] = [.bool (B.getD i false)] := by simp [blr, List.getD, h]
theorem Qpf (B : List Bool) (i : Nat) (b : Bool) : (blr B).set i [.bool b] = blr (B.set i b) := by simp [blr, List.map_set]
def Qbw : GM → List Bool → List Hs
 | c :: r, b :: B => if b = true then c.1 :: Qbw r B else Qbw r B
 | _, _ => []
theorem QfG : ∀ (L : GM) (B : List Bool) (k : Nat), k < L.length → k < B.length → Qbw (L.take (k + 1)) (B.take (k + 1)) = Qbw (L.take k) (B.take k) ++ if B.getD k false = true then [(L.getD k default).1] else []
 | c :: r, b :: B, 0, _, _ => by simp [Qbw]
 | c :: r, b :: B, k + 1, h1, h2 => by
  have := QfG r B k (by simpa using h1) (by simpa using h2);rw [List.take_succ_cons, List.take_succ_cons, List.take_succ_cons, List.take_succ_cons, Qbw, Qbw, this, List.getD_cons_succ, List.getD_cons_succ];by_cases e : b = true
  · rw [if_pos e, if_pos e]; rfl
  · rw [if_neg e, if_neg e]
 | [], B, k, h, _ => by simp at h
 | c :: r, [], k, _, h => by simp at h
theorem Qhg : ∀ (L : GM) (B : List Bool), (Qbw L B).length ≤ L.length
 | [], B => by simp [Qbw]
 | c :: r, [] => by simp [Qbw]
 | c :: r, b :: B => by
  have := Qhg r B;rw [Qbw]; split <;> simp <;> omega
theorem Qhh : ∀ (L : GM) (B : List Bool) (x : Hs), B.length = L.length → (x ∈ Qbw L B ↔ ∃ i, i < L.length ∧ B.getD i false = true ∧ (L.getD i default).1 = x)
 | [], B, x, _ => by simp [Qbw]
 | c :: r, [], x, h => by simp at h
 | c :: r, b :: B, x, h => by
  have ih := Qhh r B x (by simpa using h);rw [Qbw];constructor
  · intro hx;have : (b = true ∧ x = c.1) ∨ x ∈ Qbw r B := by
     split at hx
     · rename_i e;rcases List.mem_cons.1 hx with q | q
       · exact .inl ⟨e, q⟩
       · exact .inr q
     · exact .inr hx
    rcases this with ⟨e, rfl⟩ | q
    · exact ⟨0, by simp, by simpa using e, by simp⟩
    · obtain ⟨i, h1, h2, h3⟩ := ih.1 q;exact ⟨i + 1, by simpa using h1, by simpa using h2, by simpa using h3⟩
  · rintro ⟨i, h1, h2, h3⟩;cases i with
    | zero =>
     have e : b = true := by simpa using h2
     rw [if_pos e];have : c.1 = x := by simpa using h3
     rw [this]; simp
    | succ i =>
     have := ih.2 ⟨i, by simpa using h1, by simpa using h2, by simpa using h3⟩;split
     · exact List.mem_cons_of_mem _ this
     · exact this
theorem QiM : ∀ (L : GM) (B : List Bool), SSC L → SS (Qbw L B)
 | [], B, _ => by simp [Qbw]
 | c :: r, [], _ => by simp [Qbw]
 | c :: r, b :: B, h => by
  obtain ⟨h1, h2⟩ := List.pairwise_cons.1 h;have ih := QiM r B h2;rw [Qbw];split
  · refine List.pairwise_cons.2 ⟨fun y hy => ?_, ih⟩;have : ∀ (L : GM) (B : List Bool), ∀ y ∈ Qbw L B, ∃ q ∈ L, q.1 = y := by
     intro L;induction L with
     | nil => intro B y hy; simp [Qbw] at hy
     | cons c r ih =>
      intro B y hy;cases B with
      | nil => simp [Qbw] at hy
      | cons b B =>
       rw [Qbw] at hy;split at hy
       · rcases List.mem_cons.1 hy with e | e
         · exact ⟨c, by simp, e.symm⟩
         · obtain ⟨q, q1, q2⟩ := ih B y e;exact ⟨q, by simp [q1], q2⟩
       · obtain ⟨q, q1, q2⟩ := ih B y hy;exact ⟨q, by simp [q1], q2⟩
    obtain ⟨q, q1, rfl⟩ := this r B y hy;exact h1 q q1
  · exact ih
theorem rSome (L : GM) (hl : L.length ≤ 100000) (B : List Bool) (hB : B.length = L.length) (rt sb : Nat) :
 GCalls Tryz.prog 93 [.ptr 0 rt 0 0, .own 1 sb 0 L.length] (rObj rt L ++ [.row sb 1 (blr B)]) (fun g O' => g = .slice (hsG (Qbw L B)) .none ∧ O' = rObj rt L ++ [.row sb 1 (blr B)]) := by
 refine GCalls.dropTo ?_
 refine h93.ca ?_
 refine vq0 ?_
 refine Qab (ι := { p : Nat × Nat // p.1 ≤ L.length }) (fun p => ⟨[.ptr 0 rt 0 0, .own 1 sb 0 L.length, .any, .any, .any, .slice (hsG (Qbw (L.take p.1.1) (B.take p.1.1))) (.tok 2 p.1.2), .int .i64 (p.1.1 : Nat)] ++ List.replicate 22 .any, rObj rt L ++ [.row sb 1 (blr B), .tok p.1.2 32]⟩) (fun p => L.length - p.1.1) ?_ ?_
 · refine Into.tok 5 32 [] rfl rfl ?_;refine vq0 ?_;intro so;exact Into.first ⟨(0, so), Nat.zero_le _⟩ ⟨[], by simp⟩ (by simp [WL, leG_self, leG_any, Qbw, hsG])
 · rintro ⟨⟨k, so⟩, hk⟩
   change k ≤ L.length at hk
   have hsl := Qhg (L.take k) (B.take k);rw [List.length_take] at hsl;have hsl : (Qbw (L.take k) (B.take k)).length ≤ 100000 := by omega
   by_cases h : k < L.length
   · have d0 : ((k : Int) < (L.length : Int)) = True := eq_true (by omega);have eB := QiL B k (by omega);have eS := Qa0 L k h;have hst := QfG L B k h (by omega);obtain ⟨xh, xp, hx⟩ : ∃ xh xp, L.getD k default = (xh, xp) := ⟨_, _, rfl⟩
     rw [hx] at eS hst;cases eb : B.getD k false with
     | true =>
      rw [eb, if_pos rfl] at hst;rw [eb] at eB;refine vq1 (ai d0 <| ai eB <| ai eS <| ai @QdJ <| ai hB <| ai @Qbr <| ai @Nat.sub_zero <| ai @Nat.zero_add <| ai @true_imp_iff <| ai @Qae <| ai @comG.eq_1 <| ai @hsG_len <| ai @all_hsG <| ai @if32 <| ai @Qfd <| ai @v33 <| @v32) ?_;refine ⟨by omega, h, h, by omega, by omega, by omega, fun st => ?_⟩;exact Into.at ⟨(k + 1, st), by show k + 1 ≤ L.length; omega⟩ (by show L.length - (k + 1) < L.length - k; omega) ⟨[], by simp⟩ (by simp [WL, leG_self, leG_any, Qaa, hst, hsG])
     | false =>
      rw [eb, if_neg (by simp), List.append_nil] at hst;rw [eb] at eB;refine vq10 d0 eB eS @QdJ hB @Qbr @Nat.sub_zero @Nat.zero_add @true_imp_iff @Qae ?_;refine ⟨by omega, h, h, ?_⟩;exact Into.at ⟨(k + 1, so), by show k + 1 ≤ L.length; omega⟩ (by show L.length - (k + 1) < L.length - k; omega) ⟨[], by simp⟩ (by simp [WL, leG_self, leG_any, Qaa, hst])
   · have d0 : ((k : Int) < (L.length : Int)) = False := eq_false (by omega);have e1 : L.take k = L := List.take_of_length_le (by omega);have e2 : B.take k = B := List.take_of_length_le (by omega);refine vq5 d0 @QdJ hB e1 e2 ?_;exact ⟨.slice (hsG (Qbw L B)) .none, rObj rt L ++ [.row sb 1 (blr B)], [.tok so 32], rfl, by rw [Qax], rfl, rfl⟩
abbrev hdL (L : GM) (k : Nat) : Hs := (L.getD k default).1
abbrev dS (p0 p1 x5 x6 x7 x9 x15 x21 x22 x23 : GVal) : List GVal := [p0, p1, .any, .any, .any, x5, x6, x7, .any, x9, .any, .any, .any, .any, .any, x15, .any, .any, .any, .any, .any, x21, x22, x23, .any, .any, .any, .any, .any, .any, .any, .any, .any, .any, .any, .any, .any, .any, .any, .any, .any, .any]
theorem dR0 (p0 p1 : GVal) (O : List GObj) : vcS Tryz.prog [] s16_0 (vcN (NW (dS p0 p1 .any .any .any .any .any .any .any .any) O)) (gstart 42 [p0, p1] O) := by
 simp only [gstart, List.cons_append, List.nil_append, List.length_cons, List.length_nil, reduceAdd, reduceSub, List.replicate_succ, List.replicate_zero]
 exact vd7 @vcN.eq_1 @vcN.eq_2 @NW.eq_1 @leG_any @leG_self @and_true @true_and
 try trivial
def zb34 := ai @vcN.eq_1 <| ai @vcN.eq_2 <| ai @NW.eq_1 <| ai @leG_any <| ai @leG_self <| ai @and_true <| ai @true_and <| @dS.eq_1
theorem dR1 (p0 p1 : GVal) (r0 : GObj) (hst : ∀ (r : List GObj) (K : Nat → Prop), stamp (r0 :: r) K = ∀ st, K st) (htk : ∀ r : List GObj, tickO (r0 :: r) = r0 :: r) : vcS Tryz.prog [] s16_1 (vcN fun st' => ∃ stC stb, NW (dS p0 p1 (.ptr 3 stb 0 0) .any .any .any .any .any .any .any) ([r0, .dead, .map stC [], .row stb 1 [[.map 2 stC]]]) st') ⟨dS p0 p1 .any .any .any .any .any .any .any .any, [r0, .dead]⟩ := by
 refine vq3 hst htk zb34 ?_
 exact fun stC => ⟨rfl, fun stb => ⟨stC, stb, rfl, by simp [leG_self]⟩⟩
def zb35 := ai @NW.eq_1 <| ai @leG_any <| ai @leG_self <| ai @and_true <| ai @true_and <| @dS.eq_1
theorem dR2 (p1 x5 : GVal) (st s : Nat) (X : List GObj) : opsS Tryz.prog [] [(.mk (some 11) (.move (.tmp 0)) none), (.mk (some 12) (.nilCheck (.tmp 11)) none), (.mk (some 13) (.fieldAddr 90 (.tmp 12) 0) none), (.mk (some 14) (.load 88 (.tmp 13)) none)]
 (NW ((dS (.ptr 0 st 0 0) p1 x5 .any .any .any .any .any .any .any).set 14 (.map 1 s)) (.row st 1 [[.map 1 s]] :: X)) ⟨dS (.ptr 0 st 0 0) p1 x5 .any .any .any .any .any .any .any, .row st 1 [[.map 1 s]] :: X⟩ := by
 exact vd1 zb35
 try trivial
theorem dR3 (p0 p1 x5 x15 : GVal) (b : Bool) (k v : GVal) (O : List GObj) : opsS Tryz.prog [] [(.mk (some 17) (.extract (.tmp 16) 0) none)]
 (NW ((dS p0 p1 x5 .any .any .any x15 .any .any .any).set 17 (.bool b)) O) ⟨(dS p0 p1 x5 .any .any .any x15 .any .any .any).set 16 (.tuple [.bool b, k, v]), O⟩ := by
 exact vd1 zb35
 try trivial
theorem dR3' (p0 p1 x5 x15 : GVal) (b : Bool) (O : List GObj) : opsS Tryz.prog [] [(.mk (some 17) (.extract (.tmp 16) 0) none)]
 (NW ((dS p0 p1 x5 .any .any .any x15 .any .any .any).set 17 (.bool b)) O) ⟨(dS p0 p1 x5 .any .any .any x15 .any .any .any).set 16 (.tuple [.bool b]), O⟩ := by
 exact vd1 zb35
 try trivial
def zb36 := ai @NW.eq_1 <| ai @leG_any <| ai @leG_self <| ai @and_true <| ai @true_and <| ai @dS.eq_1 <| @v32
theorem dR4 (p0 p1 x5 x15 : GVal) (h : Hs) (ps : List Hs) (O : List GObj) (hst : ∀ K : Nat → Prop, stamp O K = ∀ st, K st) (htk : tickO O = O) : opsS Tryz.prog [] [(.mk (some 19) (.extract (.tmp 18) 0) none), (.mk (some 20) (.extract (.tmp 18) 1) none), (.mk (some 6) (.alloc 44) none), (.mk none (.store 44 (.tmp 6) (.tmp 19)) none), (.mk (some 7) (.assign (.tmp 20)) none)]
 (fun st' => ∃ v, NW (dS p0 p1 x5 (.ptr O.length v 0 0) (.slice (hsG ps) .none) .any x15 .any .any .any) (O ++ [.row v 32 [bytesG h.1]]) st') ⟨(dS p0 p1 x5 .any .any .any x15 .any .any .any).set 18 (.tuple [.agg (bytesG h.1), .slice (hsG ps) .none]), O⟩ := by
 have hO : ∀ x : GObj, (O ++ [x])[O.length]? = some x := fun x => by simp
 have hS : ∀ x y : GObj, (O ++ [x]).set O.length y = O ++ [y] := fun x y => by simp
 refine vq5 hst htk hO hS zb36 ?_
 first
  | exact fun v => ⟨v, rfl, by simp [leG_self]⟩
  | exact fun v => ⟨v, rfl⟩
theorem dR5 (p0 p1 x5 x6 x15 : GVal) (ps : List Hs) (O : List GObj) : vcS Tryz.prog [] s16_5 (vcN (NW (dS p0 p1 x5 x6 .any .any x15 (.slice (hsG ps) .none) (.int .i64 ps.length) (.int .i64 0)) O)) ⟨dS p0 p1 x5 x6 (.slice (hsG ps) .none) .any x15 .any .any .any, O⟩ := by
 exact vd9 @vcN.eq_1 @vcN.eq_2 @NW.eq_1 @leG_any @leG_self @and_true @true_and @dS.eq_1 @hsG_len
 try trivial
theorem dR6 (p0 p1 x5 x6 x15 x21 : GVal) (k n : Nat) (O : List GObj) : vcS Tryz.prog [] s16_6 (vcN (NW ((dS p0 p1 x5 x6 .any .any x15 x21 (.int .i64 n) (.int .i64 k)).set 24 (.bool (decide (k < n)))) O)) ⟨dS p0 p1 x5 x6 .any .any x15 x21 (.int .i64 n) (.int .i64 k), O⟩ := by
 have d0 : decide ((k : Int) < (n : Int)) = decide (k < n) := by simp
 exact vd2 d0 zb34
 try trivial
theorem dR7 (p0 p1 x5 x6 x15 x22 : GVal) (ps : List Hs) (k : Nat) (hk : k < ps.length) (p : Hs) (hp : ps.getD k h0 = p) (O : List GObj) (hst : ∀ K : Nat → Prop, stamp O K = ∀ st, K st) (htk : tickO O = O) : vcS Tryz.prog [] s16_7
 (vcN fun st' => ∃ v, NW (dS p0 p1 x5 x6 .any (.ptr O.length v 0 0) x15 (.slice (hsG ps) .none) x22 (.int .i64 k)) (O ++ [.row v 32 [bytesG p.1]]) st') ⟨dS p0 p1 x5 x6 .any .any x15 (.slice (hsG ps) .none) x22 (.int .i64 k), O⟩ := by
 have hO : ∀ x : GObj, (O ++ [x])[O.length]? = some x := fun x => by simp
 have hS : ∀ x y : GObj, (O ++ [x]).set O.length y = O ++ [y] := fun x y => by simp
 have ea := hsG_at ps k hk
 rw [hp] at ea
 refine vq1 (ai @vcN.eq_1 <| ai @vcN.eq_2 <| ai @NW.eq_1 <| ai @leG_any <| ai @leG_self <| ai @and_true <| ai @true_and <| ai @dS.eq_1 <| ai hst <| ai htk <| ai hO <| ai hS <| ai @hsG_len <| ai ea <| ai @all_hsG <| @v32) ?_
 refine ⟨by omega, by omega, ?_⟩
 exact fun v => ⟨v, rfl, by rw [leG_self]; trivial⟩
theorem dR8a (p0 p1 x15 x21 x22 x23 : GVal) (h p : Hs) (stb stC : Nat) (r0 r1 r2 : GObj) (X : List GObj) : opsS Tryz.prog [] [(.mk (some 27) (.load 88 (.tmp 5)) none), (.mk (some 28) (.load 44 (.tmp 9)) none), (.mk (some 30) (.load 44 (.tmp 6)) none), (.mk (some 31) (.buildSlice 33 1 #[(0, (.tmp 30))]) none)]
 (NW ((((dS p0 p1 (.ptr 3 stb 0 0) (.ref (bytesG h.1)) .any .any x15 x21 x22 x23).set 27 (.map 2 stC)).set 28 (.agg (bytesG p.1))).set 31 (.slice [bytesG h.1] .full)) (r0 :: r1 :: r2 :: .row stb 1 [[.map 2 stC]] :: X)) ⟨dS p0 p1 (.ptr 3 stb 0 0) (.ref (bytesG h.1)) .any (.ref (bytesG p.1)) x15 x21 x22 x23, r0 :: r1 :: r2 :: .row stb 1 [[.map 2 stC]] :: X⟩ := by
 exact vd1 zb36
 try trivial
theorem dR8n (p0 p1 x5 x6 x15 x21 x22 x23 x27 : GVal) (h : Hs) (stamp_ : Nat) (O : List GObj) (hst : ∀ K : Nat → Prop, stamp O K = ∀ st, K st) (htk : tickO O = O) : opsS Tryz.prog [] [(.mk (some 29) (.extract (.tmp 32) 0) none), (.mk (some 33) (.call (.mk (.builtin (.append)) #[(.tmp 29), (.tmp 31)] #[33, 33])) none), (.mk (some 34) (.extract (.tmp 32) 1) none)]
 (fun st' => ∃ v, NW ((((dS p0 p1 x5 x6 .any .any x15 x21 x22 x23).set 27 x27).set 33 (.slice (hsG [h]) (.tok O.length v))).set 34 (.int .i64 stamp_)) (O ++ [.tok v 32]) st')
 ⟨(((dS p0 p1 x5 x6 .any .any x15 x21 x22 x23).set 27 x27).set 31 (.slice [bytesG h.1] .full)).set 32 (.tuple [.slice [] .nil, .int .i64 stamp_]), O⟩ := by
 refine vq3 hst htk zb36 ?_
 first
  | exact fun v => ⟨v, rfl, by simp [leG_self, hsG]⟩
  | exact fun v => ⟨v, rfl⟩
theorem dR8s (p0 p1 x5 x6 x15 x21 x22 x23 x27 : GVal) (h : Hs) (l : List Hs) (hl : l.length ≤ 1000000) (stamp_ o t : Nat) (O : List GObj) (hO : O[o]? = some (.tok t 32)) (hst : ∀ K : Nat → Prop, stamp O K = ∀ st, K st) (htk : tickO O = O) : opsS Tryz.prog [] [(.mk (some 29) (.extract (.tmp 32) 0) none), (.mk (some 33) (.call (.mk (.builtin (.append)) #[(.tmp 29), (.tmp 31)] #[33, 33])) none), (.mk (some 34) (.extract (.tmp 32) 1) none)]
 (fun st' => ∃ v, NW ((((dS p0 p1 x5 x6 .any .any x15 x21 x22 x23).set 27 x27).set 33 (.slice (hsG (l ++ [h])) (.tok o v))).set 34 (.int .i64 stamp_)) (O.set o (.tok v 32)) st')
 ⟨(((dS p0 p1 x5 x6 .any .any x15 x21 x22 x23).set 27 x27).set 31 (.slice [bytesG h.1] .full)).set 32 (.tuple [.slice (hsG l) (.tok o t), .int .i64 stamp_]), O⟩ := by
 refine vq1 (ai @NW.eq_1 <| ai @leG_any <| ai @leG_self <| ai @and_true <| ai @true_and <| ai @dS.eq_1 <| ai hst <| ai htk <| ai hO <| ai @hsG_len <| ai @all_hsG <| @v32) ?_
 refine ⟨by omega, by omega, ?_⟩
 exact fun v => ⟨v, rfl, by rw [hsG_app]; exact (leG_self _).mpr trivial⟩
theorem dR9 (p0 p1 x5 x6 x15 x21 x22 : GVal) (k : Nat) (hk : k ≤ 1000000000) (O : List GObj) : vcS Tryz.prog [] s16_9 (vcN (NW (dS p0 p1 x5 x6 .any .any x15 x21 x22 (.int .i64 (k + 1 : Nat))) O)) ⟨dS p0 p1 x5 x6 .any .any x15 x21 x22 (.int .i64 k), O⟩ := by
 exact vd1 zb34
def kidPut (ch : GM) (p h : Hs) : GM := mset ch p ((look ch p).getD [] ++ [h])
def kidRow (ch : GM) (h : Hs) (ps : List Hs) : GM := ps.foldl (fun c p => kidPut c p h) ch
def kidAll (pre : GM) : GM := pre.foldl (fun c q => kidRow c q.1 q.2) []
abbrev CT := List ((Hs × List Hs) × Nat)
def ctM (ct : CT) : GM := ct.map (·.1)
def kvT (ct : CT) : List (GVal × GVal) := ct.zipIdx.map fun q => (.agg (bytesG q.1.1.1.1), .slice (hsG q.1.1.2) (.tok (q.2 + 4) q.1.2))
def obs (st s stC stb : Nat) (ct : CT) : List GObj := .row st 1 [[.map 1 s]] :: .dead :: .dead :: .row stb 1 [[.map 2 stC]] :: ct.map fun q => .tok q.2 32
theorem kvT_at (ct : CT) (i : Nat) : (kvT ct)[i]? = (ct[i]?).map fun q => (.agg (bytesG q.1.1.1), .slice (hsG q.1.2) (.tok (i + 4) q.2)) := by
 unfold kvT
 rw [List.getElem?_map, List.getElem?_zipIdx]
 cases ct[i]? <;> simp
theorem kvT_len (ct : CT) : (kvT ct).length = ct.length := by simp [kvT]
theorem kvT_set (ct : CT) (i : Nat) (q : (Hs × List Hs) × Nat) : (kvT ct).set i (.agg (bytesG q.1.1.1), .slice (hsG q.1.2) (.tok (i + 4) q.2)) = kvT (ct.set i q) := by
 refine List.ext_getElem? fun j => ?_
 rw [kvT_at, List.getElem?_set, List.getElem?_set, kvT_at, kvT_len]
 by_cases e : i = j
 · subst e;simp only [if_true];split <;> rfl
 · simp only [if_neg e]
theorem kvT_app (ct : CT) (q : (Hs × List Hs) × Nat) : kvT ct ++ [(.agg (bytesG q.1.1.1), .slice (hsG q.1.2) (.tok (ct.length + 4) q.2))] = kvT (ct ++ [q]) := by
 simp [kvT, List.zipIdx_append]
theorem obs_len (st s stC stb : Nat) (ct : CT) : (obs st s stC stb ct).length = ct.length + 4 := by simp [obs]
theorem obs_at (st s stC stb : Nat) (ct : CT) (i : Nat) : (obs st s stC stb ct)[i + 4]? = (ct[i]?).map fun q => .tok q.2 32 := by simp [obs]
theorem obs_set (st s stC stb : Nat) (ct : CT) (i : Nat) (q : (Hs × List Hs) × Nat) : (obs st s stC stb ct).set (i + 4) (.tok q.2 32) = obs st s stC stb (ct.set i q) := by simp [obs, List.map_set]
theorem obs_app (st s stC stb : Nat) (ct : CT) (q : (Hs × List Hs) × Nat) : obs st s stC stb ct ++ [.tok q.2 32] = obs st s stC stb (ct ++ [q]) := by simp [obs]
theorem kfind_keys {k : KT} {x : GVal} : ∀ {kv kv' : List (GVal × GVal)}, kv.map (·.1) = kv'.map (·.1) → kfind k x kv = kfind k x kv'
 | [], [], _ => rfl
 | [], q :: r, h => by simp at h
 | p :: r, [], h => by simp at h
 | p :: r, q :: r', h => by
  simp only [List.map_cons, List.cons.injEq] at h;rw [kfind, kfind, h.1, kfind_keys h.2]
theorem kfind_T (ct : CT) (p : Hs) : kfind hkT (.agg (bytesG p.1)) (kvT ct) = some (idxM (ctM ct) p) := by
 rw [← kfind_h encL p (ctM ct)]
 refine kfind_keys (List.ext_getElem? fun i => ?_)
 rw [List.getElem?_map, List.getElem?_map, kvT_at, kvG, ctM, List.getElem?_map, List.getElem?_map]
 cases ct[i]? <;> rfl
theorem idx_at {α : Type} : ∀ (m : List (Hs × α)) (h : Hs) (v : α), look m h = some v → ∃ i, idxM m h = some i ∧ m[i]? = some (h, v) ∧ ∀ w, m.set i (h, w) = mset m h w
 | [], h, v, e => by cases e
 | p :: r, h, v, e => by
  rw [look] at e;by_cases hp : h = p.1
  · rw [if_pos hp] at e;cases e;refine ⟨0, by rw [idxM, if_pos hp], by simp [hp], fun w => by simp [mset, hp]⟩
  · rw [if_neg hp] at e;obtain ⟨i, h1, h2, h3⟩ := idx_at r h v e;exact ⟨i + 1, by rw [idxM, if_neg hp, h1]; rfl, by simpa using h2, fun w => by rw [mset, if_neg hp, ← h3 w]; rfl⟩
theorem idx_no {α : Type} : ∀ (m : List (Hs × α)) (h : Hs), look m h = none → idxM m h = none ∧ ∀ w, m ++ [(h, w)] = mset m h w
 | [], h, e => ⟨rfl, fun w => rfl⟩
 | p :: r, h, e => by
  rw [look] at e;by_cases hp : h = p.1
  · rw [if_pos hp] at e; cases e
  · rw [if_neg hp] at e;obtain ⟨h1, h2⟩ := idx_no r h e;exact ⟨by rw [idxM, if_neg hp, h1]; rfl, fun w => by rw [mset, if_neg hp, ← h2 w]; rfl⟩
structure DD where
 (st s stC stb b r bC : Nat)
 m : GM
 es : Array MapEntry
 clock : Nat
 E0 : Env
 w0 : World
 lC : GLoc
structure DOK (D : DD) : Prop where
 hl : D.lC.block = some D.bC
 h0 : D.w0.heap.size ≤ D.bC
 hr0 : D.w0.heap.size ≤ D.r
 nb : D.bC ≠ D.b
 nr : D.bC ≠ D.r
 nrb : D.r ≠ D.b
 born : BornOK D.es D.clock
abbrev DD.o (D : DD) (ct : CT) : List GObj := obs D.st D.s D.stC D.stb ct
structure AtW (D : DD) (seen : Array Nat) (E : Env) (O : List GObj) (w : World) : Prop where
 sim : HSim E O w
 keep : Keep D.E0 [.row D.st 1 [[.map 1 D.s]], .dead] D.w0 E O w
 walk : WalkAt w D.b D.r D.es D.clock seen
 hb : Hid E O w D.b
 hr : Hid E O w D.r
 hC : Hid E O w D.bC
 loc : E.loc D.stC = some D.lC
def Ent (D : DD) (ct : CT) (E : Env) (w : World) : Prop := ∃ esC cC, MapAt E w D.bC esC cC (kvT ct)
theorem walk_same {w w' : World} {b r clock : Nat} {es : Array MapEntry} {seen : Array Nat} (h : WalkAt w b r es clock seen) (hb : w'.heap[b]? = w.heap[b]?) (hr : w'.heap[r]? = w.heap[r]?) : WalkAt w' b r es clock seen := by
 obtain ⟨since, c0, h1, h2, h3, h4, h5⟩ := h
 exact ⟨since, c0, hb.trans h1, hr.trans h2, h3, h4, h5⟩
theorem AtW.step {D : DD} {seen : Array Nat} {E E' : Env} {O O' : List GObj} {w w' : World} (h : AtW D seen E O w) (h' : HSim E' O' w') (k : Keep E O w E' O' w') : AtW D seen E' O' w' :=
 ⟨h', h.keep.trans k, walk_same h.walk (h.hb.keep k).2 (h.hr.keep k).2, (h.hb.keep k).1, (h.hr.keep k).1, (h.hC.keep k).1, k.ext.loc _ _ h.loc⟩
theorem Ent.step {D : DD} {ct : CT} {seen : Array Nat} {E E' : Env} {O O' : List GObj} {w w' : World} (h : Ent D ct E w) (hA : AtW D seen E O w) (k : Keep E O w E' O' w') : Ent D ct E' w' := by
 obtain ⟨esC, cC, hm⟩ := h
 exact ⟨esC, cC, hm.ext k.ext (hA.hC.keep k).2⟩
theorem AtW.poke {D : DD} (hD : DOK D) {seen : Array Nat} {E : Env} {O : List GObj} {w w' : World} (h : AtW D seen E O w) (g : w.grownBy w' (some D.bC)) : AtW D seen E O w' :=
  ⟨h.sim.grown g (fun r e => by cases e; exact ⟨h.hC.obj, h.hC.snap⟩), h.keep.grown g (fun r e => by cases e; exact hD.h0),
   walk_same h.walk (g.block _ h.hb.lt (fun e => hD.nb (Option.some.inj e).symm)) (g.block _ h.hr.lt (fun e => hD.nr (Option.some.inj e).symm)), h.hb.grown g, h.hr.grown g, h.hC.grown g, h.loc⟩
theorem obs_stamp (st s stC stb : Nat) (ct : CT) (K : Nat → Prop) : stamp (obs st s stC stb ct) K = ∀ st, K st := rfl
theorem obs_tick (st s stC stb : Nat) (ct : CT) : tickO (obs st s stC stb ct) = obs st s stC stb ct := rfl
theorem dR8 {all : Array Oper} {QQ : Exit → Act → World → Prop} (D : DD) (hD : DOK D) {ct : CT} {seen : Array Nat} {E : Env} {a : Act} {w : World} (hA : AtW D seen E (D.o ct) w) (hE : Ent D ct E w) {p0 p1 x15 x21 x22 x23 : GVal} {h p : Hs}
 (ha : SlotsR E a (dS p0 p1 (.ptr 3 D.stb 0 0) (.ref (bytesG h.1)) .any (.ref (bytesG p.1)) x15 x21 x22 x23)) (hlen : ∀ q ∈ ct, q.1.2.length ≤ 1000000) {o1 o2 o3 o4 o5 o6 o7 o8 o9 : Oper}
 (hA4 : [o1, o2, o3, o4].map (fun o => (⟨o.dst, o.op, none⟩ : SOp)) = [(.mk (some 27) (.load 88 (.tmp 5)) none), (.mk (some 28) (.load 44 (.tmp 9)) none), (.mk (some 30) (.load 44 (.tmp 6)) none), (.mk (some 31) (.buildSlice 33 1 #[(0, (.tmp 30))]) none)])
 (gA4 : [o1, o2, o3, o4].all (fun o => o.guard.isNone) = true)
 (h5 : o5.op = .mapEntry 88 (.tmp 27) (.tmp 28)) (g5 : o5.guard = none) (d5 : o5.dst = some 32)
 (hB3 : [o6, o7, o8].map (fun o => (⟨o.dst, o.op, none⟩ : SOp)) = [(.mk (some 29) (.extract (.tmp 32) 0) none), (.mk (some 33) (.call (.mk (.builtin (.append)) #[(.tmp 29), (.tmp 31)] #[33, 33])) none), (.mk (some 34) (.extract (.tmp 32) 1) none)])
 (gB3 : [o6, o7, o8].all (fun o => o.guard.isNone) = true)
 (h9 : o9.op = .entryStore 88 (.tmp 27) (.tmp 34) (.tmp 33)) (g9 : o9.guard = none) (d9 : o9.dst = none)
 (hq : ∀ ct' E' a' w', ctM ct' = kidPut (ctM ct) p h → AtW D seen E' (D.o ct') w' → Ent D ct' E' w' → SlotsR E' a' (dS p0 p1 (.ptr 3 D.stb 0 0) (.ref (bytesG h.1)) .any .any x15 x21 x22 x23) → QQ .normal a' w') :
 wpList Tryz.prog all QQ [o1, o2, o3, o4, o5, o6, o7, o8, o9] a w := by
 refine ops_seg (st := ⟨_, D.o ct⟩) 4 hA4 gA4 hA.sim ha (dR8a p0 p1 x15 x21 x22 x23 h p D.stb D.stC _ _ _ _) ?_
 rintro ⟨s1, O1⟩ E1 a1 w1 q1 k1 s1R ⟨e1, hw1⟩
 change O1 = D.o ct at e1
 subst e1
 have s1 := s1R.weak hw1
 have hA1 := hA.step q1 k1
 obtain ⟨esC, cC, hm1⟩ := hE.step hA k1
 have v27 : a1.eval (.tmp 27) = .map (some D.bC) := map_val (SlotsR.ev (st := ⟨_, []⟩) s1 (.tmp 27)) hA1.loc hD.hl
 have v28 : VR E1 (a1.eval (.tmp 28)) (.agg (bytesG p.1)) := SlotsR.ev (st := ⟨_, []⟩) s1 (.tmp 28)
 have hkt : keyT Tryz.prog 88 = some (hkT, 33) := by kernel_rfl
 have hz : zeroG Tryz.prog 33 = some (.slice [] .nil) := by kernel_rfl
 have hko : keyOk hkT (.agg (bytesG p.1)) := by simp [keyOk, keyCells, len32]
 obtain ⟨rv0, stN, es1, clock1, w2, hrun, hg2, hb2, hv0, hstore⟩ := mapEntry_hid hkt hz hko v28 hm1 (kfind_T ct p)
 show wpList _ _ _ (o5 :: [o6, o7, o8, o9]) a1 w1
 refine mapEntry_step g5 h5 (by rw [v27]; exact hrun) ?_
 have hA2 := hA1.poke hD hg2
 rw [d5]
 have fin : ∀ (ct' : CT) (oldg newg : GVal) (O3 : List GObj), VR E1 rv0 oldg → putAt (kvT ct) (.agg (bytesG p.1)) newg (idxM (ctM ct) p) = kvT ct' → ctM ct' = kidPut (ctM ct) p h → O3 = D.o ct' →
  ∀ (st3 : GSt) E3 a3 w3, HSim E3 st3.o w3 → Keep E1 (D.o ct) w2 E3 st3.o w3 → SlotsR E3 a3 st3.s → NW ((((dS p0 p1 (.ptr 3 D.stb 0 0) (.ref (bytesG h.1)) .any .any x15 x21 x22 x23).set 27 (.map 2 D.stC)).set 33 newg).set 34 (.int .i64 stN)) O3 st3 →
  wpList Tryz.prog all QQ [o9] a3 w3 := by
  rintro ct' oldg newg O3 ho hput hct rfl ⟨s3, O3⟩ E3 a3 w3 q3 k3 s3R ⟨e3, hw3⟩
  change O3 = D.o ct' at e3
  subst e3;have s3 := s3R.weak hw3;have hA3 := hA2.step q3 k3;have v27' : a3.eval (.tmp 27) = .map (some D.bC) := map_val (SlotsR.ev (st := ⟨_, []⟩) s3 (.tmp 27)) hA3.loc hD.hl;have v33 : VR E3 (a3.eval (.tmp 33)) newg := SlotsR.ev (st := ⟨_, []⟩) s3 (.tmp 33);have v34 : a3.eval (.tmp 34) = goInt stN := by
   have : VR E3 (a3.eval (.tmp 34)) (.int .i64 stN) := SlotsR.ev (st := ⟨_, []⟩) s3 (.tmp 34);generalize a3.eval (.tmp 34) = v at this;cases this; rfl
  obtain ⟨w4, es4, c4, hrun4, hg4, hm4⟩ := hstore E3 w3 (a3.eval (.tmp 33)) newg k3.ext (((hA2.hC.keep k3).2).trans hb2) v33;refine entryStore_step g9 h9 (by rw [v27', v34]; exact hrun4) (wpList_nil ?_);rw [hput] at hm4;refine hq ct' E3 _ w4 hct (hA3.poke hD hg4) ⟨es4, c4, hm4⟩ ?_;rw [d9];exact s3.weak (by simp [WL, leG_self, leG_any])
 have s2 : ∀ oldg, VR E1 rv0 oldg → SlotsR E1 (a1.put (some 32) (.tuple #[rv0, goInt stN])) ((((dS p0 p1 (.ptr 3 D.stb 0 0) (.ref (bytesG h.1)) .any .any x15 x21 x22 x23).set 27 (.map 2 D.stC)).set 31 (.slice [bytesG h.1] .full)).set 32 (.tuple [oldg, .int .i64 stN])) := fun oldg ho => by
  have hvt : VR E1 (.tuple #[rv0, goInt stN]) (.tuple [oldg, .int .i64 stN]) := .tuple _ _ rfl (fun j g hj => by
   match j with
   | 0 => cases hj; exact ho
   | 1 => cases hj; exact .int _ _
   | j + 2 => simp at hj)
  exact (SlotsR.put (st := ⟨_, []⟩) s1 (.refl E1) (d := some 32) hvt []).weak (by simp [GSt.put, WL, leG_self, leG_any])
 show wpList _ _ _ (o6 :: o7 :: o8 :: [o9]) _ _
 cases hlk : look (ctM ct) p with
 | none =>
  obtain ⟨i1, i2⟩ := idx_no _ _ hlk;rw [i1] at hv0;refine ops_seg (st := ⟨((((dS p0 p1 (.ptr 3 D.stb 0 0) (.ref (bytesG h.1)) .any .any x15 x21 x22 x23).set 27 (.map 2 D.stC)).set 31 (.slice [bytesG h.1] .full)).set 32 (.tuple [.slice [] .nil, .int .i64 stN])), D.o ct⟩) 3 hB3 gB3 hA2.sim (s2 (.slice [] .nil) hv0) (dR8n p0 p1 _ _ x15 x21 x22 x23 _ h stN (D.o ct) (obs_stamp _ _ _ _ _) (obs_tick _ _ _ _ _)) ?_;rintro st3 E3 a3 w3 q3 k3 s3R ⟨v, hN⟩;refine fin (ct ++ [((p, [h]), v)]) _ (.slice (hsG [h]) (.tok (D.o ct).length v)) _ hv0 ?_ ?_ rfl st3 E3 a3 w3 q3 k3 s3R ?_
  · rw [i1, obs_len];exact kvT_app ct ((p, [h]), v)
  · rw [kidPut, hlk, ← i2];simp [ctM]
  · have := obs_app D.st D.s D.stC D.stb ct ((p, [h]), v);show NW _ (obs D.st D.s D.stC D.stb _) st3
    rw [← this];exact hN
 | some l =>
  obtain ⟨i, i1, i2, i3⟩ := idx_at _ _ _ hlk;obtain ⟨q, hqi, eq⟩ : ∃ q, ct[i]? = some q ∧ q.1 = (p, l) := by
   rw [ctM, List.getElem?_map] at i2;cases hc : ct[i]? with
   | none => rw [hc] at i2; cases i2
   | some q => rw [hc] at i2; exact ⟨q, rfl, by simpa using i2⟩
  obtain ⟨q1', t⟩ := q
  change q1' = (p, l) at eq
  subst eq;have hv : VR E1 rv0 (.slice (hsG l) (.tok (i + 4) t)) := by
   rw [i1] at hv0
   simpa [oldAt, kvT_at, hqi] using hv0
  refine ops_seg (st := ⟨((((dS p0 p1 (.ptr 3 D.stb 0 0) (.ref (bytesG h.1)) .any .any x15 x21 x22 x23).set 27 (.map 2 D.stC)).set 31 (.slice [bytesG h.1] .full)).set 32 (.tuple [.slice (hsG l) (.tok (i + 4) t), .int .i64 stN])), D.o ct⟩) 3 hB3 gB3 hA2.sim (s2 _ hv) (dR8s p0 p1 _ _ x15 x21 x22 x23 _ h l (hlen _ (List.mem_of_getElem? hqi)) stN (i + 4) t (D.o ct) (by rw [obs_at, hqi]; rfl) (obs_stamp _ _ _ _ _) (obs_tick _ _ _ _ _)) ?_;rintro st3 E3 a3 w3 q3 k3 s3R ⟨v, hN⟩;refine fin (ct.set i ((p, l ++ [h]), v)) _ (.slice (hsG (l ++ [h])) (.tok (i + 4) v)) _ hv ?_ ?_ rfl st3 E3 a3 w3 q3 k3 s3R ?_
  · rw [i1];exact kvT_set ct i ((p, l ++ [h]), v)
  · rw [kidPut, hlk, Option.getD_some, ← i3];simp [ctM, List.map_set]
  · have := obs_set D.st D.s D.stC D.stb ct i ((p, l ++ [h]), v);show NW _ (obs D.st D.s D.stC D.stb _) st3
    rw [← this];exact hN
theorem frzL_hs (O : List GObj) (n : Nat) (h : Hs) : frzL (Gv.frz O (n + 1)) (bytesG h.1) = some (bytesG h.1) := by
 have := frz_hs O n [h]
 simp only [hsG, List.map_cons, List.map_nil, frzLL] at this
 cases e : frzL (Gv.frz O (n + 1)) (bytesG h.1) with
 | none => rw [e] at this; cases this
 | some x => rw [e] at this; simpa using this
def Kb (N : Nat) (ch : GM) : Prop := ∀ q ∈ ch, q.2.length ≤ N
theorem look_memG : ∀ {m : GM} {h : Hs} {l : List Hs}, look m h = some l → (h, l) ∈ m
 | [], h, l, e => by cases e
 | p :: r, h, l, e => by
  rw [look] at e;by_cases hp : h = p.1
  · rw [if_pos hp] at e; cases e; rw [hp]; simp
  · rw [if_neg hp] at e; exact List.mem_cons_of_mem _ (look_memG e)
theorem mem_mset {m : GM} {h : Hs} {v : List Hs} {q : Hs × List Hs} (hq : q ∈ mset m h v) : q ∈ m ∨ q = (h, v) := by
 induction m with
 | nil => rw [mset] at hq; exact .inr (by simpa using hq)
 | cons p r ih =>
  rw [mset] at hq;split at hq
  · rcases List.mem_cons.1 hq with e | e
    · exact .inr e
    · exact .inl (List.mem_cons_of_mem _ e)
  · rcases List.mem_cons.1 hq with e | e
    · exact .inl (by rw [e]; simp)
    · rcases ih e with e | e
      · exact .inl (List.mem_cons_of_mem _ e)
      · exact .inr e
theorem Kb.put {N : Nat} {ch : GM} (h : Kb N ch) (p x : Hs) : Kb (N + 1) (kidPut ch p x) := by
 intro q hq
 rcases mem_mset hq with e | e
 · have := h q e; omega
 · rw [e];show ((look ch p).getD [] ++ [x]).length ≤ N + 1;rw [List.length_append, List.length_singleton];cases hl : look ch p with
   | none => simp
   | some l => have := h _ (look_memG hl); simp at this ⊢; omega
theorem kidRow_snoc (ch : GM) (h : Hs) (a : List Hs) (p : Hs) : kidRow ch h (a ++ [p]) = kidPut (kidRow ch h a) p h := by simp [kidRow]
theorem Kb.row {N : Nat} {ch : GM} (h : Kb N ch) (x : Hs) : ∀ ps : List Hs, Kb (N + ps.length) (kidRow ch x ps) := by
 intro ps
 induction ps generalizing N ch with
 | nil => exact h
 | cons p r ih =>
  have := ih (h.put p x);rw [List.length_cons, show N + (r.length + 1) = N + 1 + r.length by omega];exact this
theorem kidAll_snoc (a : GM) (q : Hs × List Hs) : kidAll (a ++ [q]) = kidRow (kidAll a) q.1 q.2 := by simp [kidAll]
theorem Kb.foldl : ∀ (pre ch : GM) (N : Nat), Kb N ch → (∀ q ∈ pre, q.2.length ≤ 4) → Kb (N + 4 * pre.length) (pre.foldl (fun c q => kidRow c q.1 q.2) ch)
 | [], ch, N, h, _ => h
 | q :: r, ch, N, h, hq => by
  have h1 := h.row q.1 q.2;have h2 := hq q (by simp);have := Kb.foldl r _ (N + 4) (fun x hx => by have := h1 x hx; omega) (fun y hy => hq y (by simp [hy]));rw [List.length_cons, show N + 4 * (r.length + 1) = N + 4 + 4 * r.length by omega];exact this
theorem Kb.all (pre : GM) (h : ∀ q ∈ pre, q.2.length ≤ 4) : Kb (4 * pre.length) (kidAll pre) := by
 have := Kb.foldl pre [] 0 (fun q hq => by cases hq) h
 rw [Nat.zero_add] at this
 exact this
abbrev l8a : List SOp := [(.mk (some 27) (.load 88 (.tmp 5)) none), (.mk (some 28) (.load 44 (.tmp 9)) none), (.mk (some 30) (.load 44 (.tmp 6)) none), (.mk (some 31) (.buildSlice 33 1 #[(0, (.tmp 30))]) none)]
abbrev l8b : List SOp := [(.mk (some 29) (.extract (.tmp 32) 0) none), (.mk (some 33) (.call (.mk (.builtin (.append)) #[(.tmp 29), (.tmp 31)] #[33, 33])) none), (.mk (some 34) (.extract (.tmp 32) 1) none)]
structure R8 (o1 o2 o3 o4 o5 o6 o7 o8 o9 : Oper) : Prop where
 a4 : [o1, o2, o3, o4].map (fun o => (⟨o.dst, o.op, none⟩ : SOp)) = l8a
 ga : [o1, o2, o3, o4].all (fun o => o.guard.isNone) = true
 h5 : o5.op = .mapEntry 88 (.tmp 27) (.tmp 28) ∧ o5.guard = none ∧ o5.dst = some 32
 b3 : [o6, o7, o8].map (fun o => (⟨o.dst, o.op, none⟩ : SOp)) = l8b
 gb : [o6, o7, o8].all (fun o => o.guard.isNone) = true
 h9 : o9.op = .entryStore 88 (.tmp 27) (.tmp 34) (.tmp 33) ∧ o9.guard = none ∧ o9.dst = none
abbrev C0 : Cfg := ⟨[], []⟩
theorem dInner {Q : Exit → Act → World → Prop} (D : DD) (hD : DOK D) {c6 c7 c9 : Code} {id8 : Nat} {o1 o2 o3 o4 o5 o6 o7 o8 o9 : Oper} (s6 : slim C0 c6 = some s16_6) (k6 : codeOk C0 c6 = true) (s7 : slim C0 c7 = some s16_7) (k7 : codeOk C0 c7 = true)
 (s9 : slim C0 c9 = some s16_9) (k9 : codeOk C0 c9 = true) (r8 : R8 o1 o2 o3 o4 o5 o6 o7 o8 o9)
 {ct0 : CT} {seen : Array Nat} {E : Env} {a : Act} {w : World} (hA : AtW D seen E (D.o ct0) w) (hE : Ent D ct0 E w) {p0 p1 x15 : GVal} {h : Hs} {ps : List Hs} {N : Nat} (hKb : Kb N (ctM ct0)) (hN : N + ps.length ≤ 1000000)
 (ha : SlotsR E a (dS p0 p1 (.ptr 3 D.stb 0 0) (.ref (bytesG h.1)) .any .any x15 (.slice (hsG ps) .none) (.int .i64 ps.length) (.int .i64 0)))
 (hq : ∀ ct' E' a' w', ctM ct' = kidRow (ctM ct0) h ps → AtW D seen E' (D.o ct') w' → Ent D ct' E' w' → SlotsR E' a' (dS p0 p1 (.ptr 3 D.stb 0 0) .any .any .any x15 .any .any .any) → Q (.exit 2) a' w') :
 (Code.loop (c6.seq ((Code.cond (.tmp 24) .skip (.exit 2)).seq ((Code.block 3 (c7.seq (Code.region id8 #[o1, o2, o3, o4, o5, o6, o7, o8, o9] false))).seq c9)))).wp Tryz.prog Q a w := by
 refine wp_loop_ghost (fun n a w => ∃ ct k E, k ≤ ps.length ∧ ps.length - k = n ∧ ctM ct = kidRow (ctM ct0) h (ps.take k) ∧ AtW D seen E (D.o ct) w ∧ Ent D ct E w ∧ SlotsR E a (dS p0 p1 (.ptr 3 D.stb 0 0) (.ref (bytesG h.1)) .any .any x15 (.slice (hsG ps) .none) (.int .i64 ps.length) (.int .i64 k))) ps.length ⟨ct0, 0, E, Nat.zero_le _, rfl, rfl, hA, hE, ha⟩ ?_
 rintro n a1 w1 ⟨ct, k, E1, hk, rfl, hct, hA1, hE1, s1⟩
 refine wp_seq (wp_part (st := ⟨_, D.o ct⟩) mixS s6 k6 hA1.sim s1 (dR6 p0 p1 _ _ x15 _ k ps.length (D.o ct)) ?_)
 rintro ⟨t2, O2⟩ E2 a2 w2 q2 k2 s2R ⟨e2, hw2⟩
 change O2 = D.o ct at e2
 subst e2
 have s2 := s2R.weak hw2
 have hA2 := hA1.step q2 k2
 have hE2 := hE1.step hA1 k2
 have hc : a2.eval (.tmp 24) = .bool (decide (k < ps.length)) := by
  have : VR E2 (a2.eval (.tmp 24)) (.bool (decide (k < ps.length))) := SlotsR.ev (st := ⟨_, []⟩) s2 (.tmp 24);generalize a2.eval (.tmp 24) = v at this;cases this; rfl
 show (Code.seq _ _).wp _ _ _ _
 refine wp_seq (wp_cond_split hc (fun ht => wp_skip ?_) (fun hf => wp_exit ?_))
 · have hlt : k < ps.length := of_decide_eq_true ht;obtain ⟨p, hp⟩ : ∃ p, ps.getD k h0 = p := ⟨_, rfl⟩
   show (Code.seq _ _).wp _ _ _ _;refine wp_seq (wp_block (wp_seq (wp_part (st := ⟨dS p0 p1 (.ptr 3 D.stb 0 0) (.ref (bytesG h.1)) .any .any x15 (.slice (hsG ps) .none) (.int .i64 ps.length) (.int .i64 k), D.o ct⟩) mixS s7 k7 hA2.sim (s2.weak (by simp [WL, leG_self, leG_any])) (dR7 p0 p1 _ _ x15 _ ps k hlt p hp (D.o ct) (obs_stamp _ _ _ _ _) (obs_tick _ _ _ _ _)) ?_)));rintro ⟨t3, O3⟩ E3 a3 w3 q3 k3 s3R ⟨v, e3, hw3⟩
   change O3 = D.o ct ++ [.row v 32 [bytesG p.1]] at e3
   subst e3;have s3 := s3R.weak hw3;obtain ⟨m1, m2, m3⟩ := q3.meltBox s3 9 1 rfl (by rw [len32]) (frzL_hs _ 0 p) (by intro e; have := len32 p; rw [e] at this; cases this);have kk := k3.trans m2;have hA3 := hA2.step m1 kk;have hE3 := hE2.step hA2 kk;refine wp_region_lit (dR8 D hD hA3 hE3 (p0 := p0) (p1 := p1) (x15 := x15) (x21 := .slice (hsG ps) .none) (x22 := .int .i64 ps.length) (x23 := .int .i64 k) (h := h) (p := p) (m3.weak (by simp [WL, leG_self, leG_any])) ?_ r8.a4 r8.ga r8.h5.1 r8.h5.2.1 r8.h5.2.2 r8.b3 r8.gb r8.h9.1 r8.h9.2.1 r8.h9.2.2 ?_)
   · intro q hq;have hb := hKb.row h (ps.take k)
     rw [← hct] at hb;have h1 := hb q.1 (List.mem_map_of_mem hq);rw [List.length_take] at h1;omega
   · intro ct' E4 a4 w4 hct' hA4 hE4 s4;refine wp_part (st := ⟨_, D.o ct'⟩) mixS s9 k9 hA4.sim s4 (dR9 p0 p1 _ _ x15 _ _ k (by omega) (D.o ct')) ?_;rintro ⟨t5, O5⟩ E5 a5 w5 q5 k5 s5R ⟨e5, hw5⟩
     change O5 = D.o ct' at e5
     subst e5;refine ⟨ps.length - (k + 1), by omega, ct', k + 1, E5, hlt, rfl, ?_, hA4.step q5 k5, hE4.step hA4 k5, s5R.weak hw5⟩;rw [hct', hct, takeH hlt, hp, kidRow_snoc]
 · have hnl : ¬ k < ps.length := of_decide_eq_false hf;have : k = ps.length := by omega
   subst this;rw [List.take_length] at hct;exact hq ct E2 a2 w2 hct hA2 hE2 (s2.weak (by simp [WL, leG_self, leG_any]))
theorem AtW.pokeR {D : DD} (hD : DOK D) {seen seen' : Array Nat} {E : Env} {O : List GObj} {w w' : World} (h : AtW D seen E O w) (g : w.grownBy w' (some D.r)) (hw : WalkAt w' D.b D.r D.es D.clock seen') : AtW D seen' E O w' :=
 ⟨h.sim.grown g (fun r e => by cases e; exact ⟨h.hr.obj, h.hr.snap⟩), h.keep.grown g (fun r e => by cases e; exact hD.hr0), hw, h.hb.grown g, h.hr.grown g, h.hC.grown g, h.loc⟩
theorem inBlock_self {id : Nat} {Q : Exit → Act → World → Prop} {a : Act} {w : World} (h : Q .normal a w) : Exit.inBlock id Q (.exit id) a w := by simp only [Exit.inBlock, if_true]; exact h
abbrev l4 : List SOp := [(.mk (some 19) (.extract (.tmp 18) 0) none), (.mk (some 20) (.extract (.tmp 18) 1) none), (.mk (some 6) (.alloc 44) none), (.mk none (.store 44 (.tmp 6) (.tmp 19)) none), (.mk (some 7) (.assign (.tmp 20)) none)]
theorem dOuter {Q : Exit → Act → World → Prop} (D : DD) (hD : DOK D) (hm : GMOK D.m) (f : MapEntry → Hs × List Hs) (hf : D.es.toList.map f = D.m) (hfe : ∀ e ∈ D.es.toList, EntryOK D.E0 e (.agg (bytesG (f e).1.1), encL (f e).2))
 {c5 c6 c7 c9 : Code} {id3 id4 id8 : Nat} {n1 n2 e1 e2 e3 e4 e5 e6 o1 o2 o3 o4 o5 o6 o7 o8 o9 : Oper}
 (hn1 : n1.op = .next (.tmp 15) false ∧ n1.guard = none ∧ n1.dst = some 16) (hn2 : [n2].map (fun o => (⟨o.dst, o.op, none⟩ : SOp)) = [(.mk (some 17) (.extract (.tmp 16) 0) none)]) (gn2 : [n2].all (fun o => o.guard.isNone) = true)
 (he1 : e1.op = .entry (.tmp 15) ∧ e1.guard = none ∧ e1.dst = some 18) (he2 : [e2, e3, e4, e5, e6].map (fun o => (⟨o.dst, o.op, none⟩ : SOp)) = l4) (ge2 : [e2, e3, e4, e5, e6].all (fun o => o.guard.isNone) = true)
 (s5 : slim C0 c5 = some s16_5) (k5 : codeOk C0 c5 = true) (s6 : slim C0 c6 = some s16_6) (k6 : codeOk C0 c6 = true) (s7 : slim C0 c7 = some s16_7) (k7 : codeOk C0 c7 = true)
 (s9 : slim C0 c9 = some s16_9) (k9 : codeOk C0 c9 = true) (r8 : R8 o1 o2 o3 o4 o5 o6 o7 o8 o9)
 {E : Env} {a : Act} {w : World} (hA : AtW D #[] E (D.o []) w) (hE : Ent D [] E w) {p0 p1 : GVal}
 (ha : SlotsR E a (dS p0 p1 (.ptr 3 D.stb 0 0) .any .any .any (.lit (.pointer (some ⟨D.r, 0, none⟩))) .any .any .any))
 (hq : ∀ ct' pre seen E' a' w', pre.Perm D.m → ctM ct' = kidAll pre → AtW D seen E' (D.o ct') w' → Ent D ct' E' w' → SlotsR E' a' (dS p0 p1 (.ptr 3 D.stb 0 0) .any .any .any .any .any .any .any) → Q (.exit 0) a' w') :
 (Code.loop ((Code.region id3 #[n1, n2] false).seq ((Code.cond (.tmp 17) .skip (.exit 0)).seq (Code.block 1 ((Code.region id4 #[e1, e2, e3, e4, e5, e6] false).seq (c5.seq (Code.block 2
  (Code.loop (c6.seq ((Code.cond (.tmp 24) .skip (.exit 2)).seq ((Code.block 3 (c7.seq (Code.region id8 #[o1, o2, o3, o4, o5, o6, o7, o8, o9] false))).seq c9))))))))))).wp Tryz.prog Q a w := by
 obtain ⟨x15, e15⟩ : ∃ x : GVal, .lit (.pointer (some ⟨D.r, 0, none⟩)) = x := ⟨_, rfl⟩
 have lit15 : ∀ {E : Env} {a : Act} {S : List GVal}, SlotsR E a S → S.getD 15 .any = x15 → a.eval (.tmp 15) = .pointer (some ⟨D.r, 0, none⟩) := by
  intro E a S h hx;have := SlotsR.ev (st := ⟨S, []⟩) h (.tmp 15)
  change VR E _ (S.getD 15 .any) at this
  rw [hx, ← e15] at this;generalize a.eval (.tmp 15) = v at this;cases this; rfl
 rw [e15] at ha
 refine wp_loop_ghost (fun n a w => ∃ ct seen xs E, Came D.es seen xs ∧ w.rangeLeft D.b D.r = n ∧ ctM ct = kidAll (xs.map f) ∧ AtW D seen E (D.o ct) w ∧ Ent D ct E w ∧ SlotsR E a (dS p0 p1 (.ptr 3 D.stb 0 0) .any .any .any x15 .any .any .any)) _ ⟨[], #[], [], E, Came.nil _, rfl, rfl, hA, hE, ha⟩ ?_
 rintro n a1 w1 ⟨ct, seen, xs, E1, hC, rfl, hct, hA1, hE1, s1⟩
 refine wp_seq (wp_region_lit (next_step hn1.2.1 hn1.1 hD.born hC (lit15 s1 rfl) hA1.walk ?_ ?_))
 · -- nothing is left
   intro hp;rw [hn1.2.2];have hvt : VR E1 (.tuple #[.bool false]) (.tuple [.bool false]) := .tuple _ _ rfl (fun j g hj => by
    match j with
    | 0 => cases hj; exact .bool _
    | j + 1 => simp at hj)
   have s2 := (SlotsR.put (st := ⟨_, []⟩) s1 (.refl E1) (d := some 16) hvt [])
   refine ops_seg (st := ⟨(dS p0 p1 (.ptr 3 D.stb 0 0) .any .any .any x15 .any .any .any).set 16 (.tuple [.bool false]), D.o ct⟩) 1 hn2 gn2 hA1.sim s2 (dR3' p0 p1 _ x15 false (D.o ct)) ?_;rintro ⟨t2, O2⟩ E2 a2 w2 q2 k2 s2R ⟨e2, hw2⟩
   change O2 = D.o ct at e2
   subst e2;have s3 := s2R.weak hw2;have hc : a2.eval (.tmp 17) = .bool false := by
    have : VR E2 (a2.eval (.tmp 17)) (.bool false) := SlotsR.ev (st := ⟨_, []⟩) s3 (.tmp 17);generalize a2.eval (.tmp 17) = v at this;cases this; rfl
   refine wpList_nil ?_;show (Code.seq _ _).wp _ _ _ _;refine wp_seq (wp_cond_split hc (fun ht => by cases ht) (fun _ => wp_exit ?_));refine hq ct (xs.map f) seen E2 a2 w2 ?_ hct (hA1.step q2 k2) (hE1.step hA1 k2) (s3.weak (by simp [WL, leG_self, leG_any]))
   rw [← hf];exact hp.map f
 · intro e w' hem hC2 hlt hwk hmu hg hent;rw [hn1.2.2];have hA' := hA1.pokeR hD hg hwk;have hE' : Ent D ct E1 w' := by
    obtain ⟨esC, cC, hmC⟩ := hE1;exact ⟨esC, cC, hmC.ext (.refl _) (hg.block _ hA1.hC.lt (fun e => hD.nr (Option.some.inj e)))⟩
   have hvt : VR E1 (.tuple #[.bool true, e.key, e.val]) (.tuple [.bool true, .any, .any]) := .tuple _ _ rfl (fun j g hj => by
    match j with
    | 0 => cases hj; exact .bool _
    | 1 => cases hj; exact .any _
    | 2 => cases hj; exact .any _
    | j + 3 => simp at hj)
   have s2 := (SlotsR.put (st := ⟨_, []⟩) s1 (.refl E1) (d := some 16) hvt [])
   refine ops_seg (st := ⟨(dS p0 p1 (.ptr 3 D.stb 0 0) .any .any .any x15 .any .any .any).set 16 (.tuple [.bool true, .any, .any]), D.o ct⟩) 1 hn2 gn2 hA'.sim s2 (dR3 p0 p1 _ x15 true .any .any (D.o ct)) ?_;rintro ⟨t2, O2⟩ E2 a2 w2 q2 k2 s2R ⟨e2', hw2⟩
   change O2 = D.o ct at e2'
   subst e2';have s3 := s2R.weak hw2;have hc : a2.eval (.tmp 17) = .bool true := by
    have : VR E2 (a2.eval (.tmp 17)) (.bool true) := SlotsR.ev (st := ⟨_, []⟩) s3 (.tmp 17);generalize a2.eval (.tmp 17) = v at this;cases this; rfl
   have hA2 := hA'.step q2 k2;have hE2 := hE'.step hA' k2;have hent2 := hent w2 (hA'.hb.keep k2).2 (hA'.hr.keep k2).2;refine wpList_nil ?_;show (Code.seq _ _).wp _ _ _ _;refine wp_seq (wp_cond_split hc (fun ht => wp_skip ?_) (fun hf => by cases hf));show (Code.block _ _).wp _ _ _ _;refine wp_block (wp_seq (wp_region_lit (entry_step he1.2.1 he1.1 (lit15 s3 rfl) hent2 ?_)));rw [he1.2.2];obtain ⟨hv1, hv2⟩ := hfe e hem;obtain ⟨q, eq⟩ : ∃ q, f e = q := ⟨_, rfl⟩
   have hqm : q ∈ D.m := by rw [← eq, ← hf]; exact List.mem_map_of_mem hem
   rw [eq] at hv1 hv2;obtain ⟨h, ps⟩ := q;have hvt2 : VR E2 (.tuple #[e.key, e.val]) (.tuple [.agg (bytesG h.1), .slice (hsG ps) .none]) := .tuple _ _ rfl (fun j g hj => by
    match j with
    | 0 => cases hj; exact hv1.mono hA2.keep.ext
    | 1 => cases hj; exact hv2.mono hA2.keep.ext
    | j + 2 => simp at hj)
   have s4 := (SlotsR.put (st := ⟨_, []⟩) s3 (.refl E2) (d := some 18) hvt2 []).weak (s' := (dS p0 p1 (.ptr 3 D.stb 0 0) .any .any .any x15 .any .any .any).set 18 (.tuple [.agg (bytesG h.1), .slice (hsG ps) .none])) (by simp [GSt.put, WL, leG_self, leG_any]);refine ops_seg (st := ⟨(dS p0 p1 (.ptr 3 D.stb 0 0) .any .any .any x15 .any .any .any).set 18 (.tuple [.agg (bytesG h.1), .slice (hsG ps) .none]), D.o ct⟩) 5 he2 ge2 hA2.sim s4 (dR4 p0 p1 _ x15 h ps (D.o ct) (obs_stamp _ _ _ _ _) (obs_tick _ _ _ _ _)) ?_;rintro ⟨t3, O3⟩ E3 a3 w3 q3 k3 s3R ⟨v, e3', hw3⟩
   change O3 = D.o ct ++ [.row v 32 [bytesG h.1]] at e3'
   subst e3';have s5' := s3R.weak hw3;obtain ⟨m1, m2, m3⟩ := q3.meltBox s5' 6 1 rfl (by rw [len32]) (frzL_hs _ 0 h) (by intro e; have := len32 h; rw [e] at this; cases this);have kk := k3.trans m2;have hA3 := hA2.step m1 kk;have hE3 := hE2.step hA2 kk;refine wpList_nil ?_;show (Code.seq _ _).wp _ _ _ _;refine wp_seq (wp_part (st := ⟨dS p0 p1 (.ptr 3 D.stb 0 0) (.ref (bytesG h.1)) (.slice (hsG ps) .none) .any x15 .any .any .any, D.o ct⟩) mixS s5 k5 hA3.sim (m3.weak (by simp [WL, leG_self, leG_any])) (dR5 p0 p1 _ _ x15 ps (D.o ct)) ?_);rintro ⟨t4, O4⟩ E4 a4 w4 q4 k4 s4R ⟨e4', hw4⟩
   change O4 = D.o ct at e4'
   subst e4';have hps : ps.length ≤ 4 := hm.row _ hqm;have hle : xs.length ≤ D.m.length := by
    have : D.es.toList.length = D.m.length := by rw [← hf, List.length_map]
    have h2 : D.es.toList.length = D.es.size := Array.length_toList;omega
   have hml := hm.len;have hKb := Kb.all (xs.map f) (fun q hq => by
    obtain ⟨y, hy, rfl⟩ := List.mem_map.1 hq;exact hm.row _ (by rw [← hf]; exact List.mem_map_of_mem (hC.2.2 y hy)))
   rw [← hct, List.length_map] at hKb;show (Code.block _ _).wp _ _ _ _;refine wp_block (dInner D hD s6 k6 s7 k7 s9 k9 r8 (hA3.step q4 k4) (hE3.step hA3 k4) hKb (by omega) (s4R.weak hw4) ?_);intro ct' E5 a5 w5 hct' hA5 hE5 s6';refine inBlock_self ?_;refine ⟨w5.rangeLeft D.b D.r, ?_, ct', _, xs ++ [e], E5, hC2, rfl, ?_, hA5, hE5, s6'⟩
   · rw [hA5.walk.left_eq, ← hwk.left_eq]; exact hmu
   · rw [List.map_append, List.map_cons, List.map_nil, kidAll_snoc, eq, hct', hct]
def kidsM (m : GM) (x : Hs) : List Hs := (m.filter fun q => decide (x ∈ q.2)).map (·.1)
theorem kidsM_mem {m : GM} {x y : Hs} : y ∈ kidsM m x ↔ ∃ q ∈ m, x ∈ q.2 ∧ y = q.1 := by
 unfold kidsM
 rw [List.mem_map]
 constructor
 · rintro ⟨q, hq, rfl⟩;obtain ⟨h1, h2⟩ := List.mem_filter.1 hq;exact ⟨q, h1, of_decide_eq_true h2, rfl⟩
 · rintro ⟨q, h1, h2, rfl⟩;exact ⟨q, List.mem_filter.2 ⟨h1, decide_eq_true h2⟩, rfl⟩
theorem parsM_put (ch : GM) (p h x : Hs) : parsM (kidPut ch p h) x = if x = p then parsM ch x ++ [h] else parsM ch x := by
 unfold parsM kidPut
 rw [look_mset]
 by_cases e : x = p
 · rw [if_pos e, if_pos e, e]; rfl
 · rw [if_neg e, if_neg e]
theorem parsM_row (h x y : Hs) : ∀ (ps : List Hs) (ch : GM), y ∈ parsM (kidRow ch h ps) x ↔ y ∈ parsM ch x ∨ (x ∈ ps ∧ y = h)
 | [], ch => by simp [kidRow]
 | p :: r, ch => by
  have := parsM_row h x y r (kidPut ch p h);rw [show kidRow ch h (p :: r) = kidRow (kidPut ch p h) h r from rfl, this, parsM_put];by_cases e : x = p
  · rw [if_pos e]; simp [e]; exact fun _ q => .inr q
  · rw [if_neg e]; simp [e]
theorem parsM_all (x y : Hs) : ∀ (pre ch : GM), y ∈ parsM (pre.foldl (fun c q => kidRow c q.1 q.2) ch) x ↔ y ∈ parsM ch x ∨ ∃ q ∈ pre, x ∈ q.2 ∧ y = q.1
 | [], ch => by simp
 | q :: r, ch => by
  rw [List.foldl_cons, parsM_all x y r, parsM_row];constructor
  · rintro ((h | h) | ⟨z, h1, h2⟩)
    · exact .inl h
    · exact .inr ⟨q, by simp, h⟩
    · exact .inr ⟨z, by simp [h1], h2⟩
  · rintro (h | ⟨z, h1, h2⟩)
    · exact .inl (.inl h)
    · rcases List.mem_cons.1 h1 with e | e
      · rw [e] at h2; exact .inl (.inr h2)
      · exact .inr ⟨z, e, h2⟩
theorem kids_of_perm {pre m : GM} (hp : pre.Perm m) (x y : Hs) : y ∈ parsM (kidAll pre) x ↔ y ∈ kidsM m x := by
 unfold kidAll
 rw [parsM_all, kidsM_mem]
 constructor
 · rintro (h | ⟨q, h1, h2⟩)
   · cases h
   · exact ⟨q, hp.mem_iff.1 h1, h2⟩
 · rintro ⟨q, h1, h2⟩;exact .inr ⟨q, hp.mem_iff.2 h1, h2⟩
theorem reach_iff {n1 n2 : Hs → List Hs} (h : ∀ x y, y ∈ n1 x ↔ y ∈ n2 x) (l : List Hs) (z : Hs) : Reach n1 l z ↔ Reach n2 l z := by
 constructor
 · intro r;induction r with
   | base x hx => exact .base x hx
   | step x y _ hy ih => exact .step x y ih ((h x y).1 hy)
 · intro r;induction r with
   | base x hx => exact .base x hx
   | step x y _ hy ih => exact .step x y ih ((h x y).2 hy)
noncomputable def desL (m : GM) (l : List Hs) : List Hs := by
 classical exact sortR ((l ++ hashesM m).filter fun x => decide (Reach (kidsM m) (inM m l) x))
theorem desL_ss (m : GM) (l : List Hs) : SS (desL m l) := sortR_ss _
theorem kids_in {m : GM} {x y : Hs} (h : y ∈ kidsM m x) : y ∈ hashesM m := by
 obtain ⟨q, h1, _, rfl⟩ := kidsM_mem.1 h
 exact List.mem_append_left _ (List.mem_map_of_mem h1)
theorem desL_mem (m : GM) (l : List Hs) (x : Hs) : x ∈ desL m l ↔ Reach (kidsM m) (inM m l) x := by
 classical
 unfold desL
 rw [sortR_mem, List.mem_filter, decide_eq_true_eq]
 refine ⟨fun h => h.2, fun h => ⟨?_, h⟩⟩
 cases h with
 | base x hx => exact List.mem_append_left _ (List.mem_filter.1 hx).1
 | step x y _ hy => exact List.mem_append_right _ (kids_in hy)
theorem gDes1 (a : GObj) (M : GM) (h : Hs) (s : Nat) (l : List Hs) (el : look M h = some l) : GCalls Tryz.prog 48 [.agg (bytesG h.1), .ref [.map 1 s]] [a, .map s (kvG encL M)] (fun g O' => g = .slice (hsG l) .none ∧ O' = [a, .map s (kvG encL M)]) := by
 obtain ⟨i, hi, hv, _⟩ := look_idx encL M h l el
 refine h48.ca ?_
 exact vd4 @kfind_h hi hv @v32
theorem gDes0 (a : GObj) (M : GM) (h : Hs) (s : Nat) (el : look M h = none) : GCalls Tryz.prog 48 [.agg (bytesG h.1), .ref [.map 1 s]] [a, .map s (kvG encL M)] (fun g O' => g = .slice [] .nil ∧ O' = [a, .map s (kvG encL M)]) := by
 obtain ⟨hi, _⟩ := look_none encL M h el
 refine h48.ca ?_
 exact vd3 @kfind_h hi @v32
theorem gDesN (a : GObj) (M : GM) (h : Hs) (s : Nat) : GCalls Tryz.prog 48 [.agg (bytesG h.1), .ref [.map 1 s]] [a, .map s (kvG encL M)] (fun g O' => g = .slice (hsG (parsM M h)) .none ∧ O' = [a, .map s (kvG encL M)]) := by
 cases el : look M h with
 | some l => rw [parsM_some el]; exact gDes1 a M h s l el
 | none =>
  rw [parsM_none el];refine GCalls.into ((gDes0 a M h s el).mono ?_);rintro g O' ⟨rfl, rfl⟩;exact GInto.weak (O := [a, .map s (kvG encL M)]) (X := []) (by rw [leG_none]; rfl) (.here ⟨rfl, rfl⟩)
theorem dHalf (m : GM) (hm : GMOK m) (st s stC : Nat) (l : List Hs) (t : Tag) (ht : t = .nil → l = []) (hl : l.length ≤ 10000) (ch : GM) (hch : ∀ x y, y ∈ parsM ch x ↔ y ∈ kidsM m x) (hKb : Kb 40000 ch) :
 vcS Tryz.prog [] (.seq s16_15 .ret) (retQ Tryz.prog [.tmp 4] (dropTo fun g O' => g = .slice (hsG (desL m l)) .none ∧ O' = gObj st s m)) ⟨dS (.ptr 0 st 0 0) (.slice (hsG l) t) (.ref [.map 2 stC]) .any .any .any .any .any .any .any, gObj st s m ++ [.map stC (kvG encL ch)]⟩ := by
 have hfl : (inM m l).length ≤ l.length := List.length_filter_le _ _
 have cT := (gThere m st s l t ht (by omega)).keep2 rfl [.map stC (kvG encL ch)]
 have hkl : ∀ x, (parsM ch x).length ≤ 40000 := fun x => by
  cases e : look ch x with
  | some r => rw [parsM_some e]; exact hKb _ (look_memG e)
  | none => rw [parsM_none e]; simp
 have cR0 := gReached (caps := [.ref [.map 1 stC]]) (parsM ch) (fun h => gDesN (.row st 1 [[.map 1 s]]) ch h stC) rfl (inM m l) .none (by simp) (inM m l ++ hashesM m) (fun x hx => List.mem_append_left _ hx) (fun x _ y hy => List.mem_append_right _ (kids_in ((hch x y).1 hy))) 40000 (fun x _ => hkl x) (by have := hm.hashes; rw [List.length_append]; omega) (by omega) (by omega)
 have cR := GCalls.on2new (O := gObj st s m ++ [.map stC (kvG encL ch)]) (args' := [.slice (hsG (inM m l)) .none, .func (.func 48) [] [.ref [.map 2 stC]]]) (R := fun st kv => ∃ S : List Hs, kv = kvG encB (setM S) ∧ S.Nodup ∧ (∀ x, x ∈ S ↔ Reach (parsM ch) (inM m l) x) ∧ S.length ≤ (inM m l ++ hashesM m).length) (cR0.mono (by
  rintro g O' ⟨st, S, rfl, rfl, h1, h2, h3⟩;exact ⟨st, _, rfl, rfl, S, rfl, h1, h2, h3⟩)) 0 2 (by omega) rfl rfl ⟨GLe.refl _, GLe.func _ trivial ⟨GLe.ref ⟨GLe.map _ _ _, trivial⟩, trivial⟩, trivial⟩ rfl rfl
 refine vq1 @dS.eq_1 ?_
 refine cT.mono ?_
 rintro g O' ⟨rfl, rfl⟩
 refine vq0 ?_
 refine cR.mono ?_
 rintro g O' ⟨s2, kv, rfl, rfl, S, rfl, hS, hR, hSl⟩
 have hh := hm.hashes
 rw [List.length_append] at hSl
 have eA : sortR ((setM S).map (·.1)) = desL m l := ss_eq (sortR_ss _) (desL_ss m l) fun z => by
  rw [sortR_mem, desL_mem, ← reach_iff hch, ← hR z]; simp [setM]
 have cS := gSorted encB (setM S) (by simp [setM]; omega) s2
 rw [eA] at cS
 have cS2 : GCalls Tryz.prog 45 [.map 0 s2] [.map s2 (kvG encB (setM S))] (fun g O' => ∃ x', O' = [x'] ∧ (g = .slice (hsG (desL m l)) .none ∧ x' = .map s2 (kvG encB (setM S)))) := cS.mono (by rintro g O' ⟨rfl, rfl⟩; exact ⟨_, rfl, rfl, rfl⟩)
 have cS3 := GCalls.keep1 (args' := [.map 3 s2]) cS2 (O := gObj st s m ++ [.map stC (kvG encL ch)] ++ [.map s2 (kvG encB (setM S))]) 3 rfl rfl rfl rfl
 refine vq0 ?_
 refine cS3.mono ?_
 rintro g O' ⟨rfl, rfl⟩
 refine vq0 ?_
 exact ⟨_, gObj st s m, [.map stC (kvG encL ch), .map s2 (kvG encB (setM S))], rfl, leA_refl _, rfl, rfl⟩
end Gv.Tryz
