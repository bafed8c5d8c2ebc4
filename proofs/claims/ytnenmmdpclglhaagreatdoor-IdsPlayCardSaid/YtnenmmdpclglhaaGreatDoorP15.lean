/- ids' Strip. -/
import Derived.Test.YtnenmmdpclglhaaGreatDoorP14
import Derived.Test.YtnenmmdpclglhaaGreatDoorP12
import Derived.Shelf.SlMaps.Clone
import Derived.KernelRfl
import Derived.Test.YtnenmmdpclglhaaGreatDoorP6
import Derived.Test.YtnenmmdpclglhaaGreatDoorP11
import Derived.Test.YtnenmmdpclglhaaGreatDoorP13
import Derived.Test.YtnenmmdpclglhaaGreatDoorP10
import Derived.Test.YtnenmmdpclglhaaGreatDoorP9
set_option linter.defProp false
set_option linter.unusedSimpArgs false
set_option linter.unusedVariables false
set_option maxHeartbeats 4000000
set_option maxRecDepth 100000
namespace Gv.Tryz
open Go Gv Go.Proofs
open Nat (reduceEqDiff reduceAdd reduceSub reduceLeDiff reduceMul reduceLT)
def zb30 := ai @hsG_len <| ai @all_hsG <| ai @Qb8 <| ai @Qb9 <| @v32
theorem QnJ (m : GM) (hm : GMOK m) (ti st s so : Nat) (n : Int) (M O l : List Hs) (t : Tag) (ht : t = .nil → l = []) (hl : l.length ≤ 10000) (hD : (desL m l).length ≤ 100000) (A B : List Hs) (h : Hs) (eL : l ++ desL m l = A ++ h :: B) (hA : ∀ x ∈ A, Qar (ofM M O) x = false) (hh : Qar (ofM M O) h = true) :
 GCalls Tryz.prog 18 [.ptr 2 ti 0 0, .ptr 0 st 0 0, .slice (hsG l) t] (gObj st s m ++ idO2 ti so n M O) (fun g O' => g = QgE h 19 ∧ O' = gObj st s m ++ idO2 ti so n M O) := by
 have cD := (gDescendants m hm st s l t ht hl).keep2 rfl (idO2 ti so n M O)
 have cC := QfY l (desL m l) t .none .full (by omega)
 have lL : (l ++ desL m l).length ≤ 110000 := by rw [List.length_append]; omega
 rw [eL] at cC lL
 clear eL
 refine GCalls.dropTo ?_
 refine h18.ca ?_
 refine vq0 ?_
 refine cD.mono ?_
 rintro g O' ⟨rfl, rfl⟩
 refine vq0 ?_
 refine cC.then ?_ (by rfl)
 refine vq1 @hsG_len ?_
 obtain ⟨L, eL⟩ : ∃ L, A ++ h :: B = L := ⟨_, rfl⟩
 rw [eL] at lL
 have hAl : A.length < L.length := by rw [← eL]; simp
 have hat : ∀ k, k ≤ A.length → (k < A.length ∧ Qar (ofM M O) (L.getD k h0) = false) ∨ (k = A.length ∧ L.getD k h0 = h) := fun k hk => by
  by_cases q : k < A.length
  · refine .inl ⟨q, ?_⟩;have : L.getD k h0 = A.getD k h0 := by rw [← eL, List.getD_eq_getElem?_getD, List.getD_eq_getElem?_getD, List.getElem?_append_left q]
    rw [this];exact hA _ (by rw [List.getD_eq_getElem?_getD, List.getElem?_eq_getElem q]; exact List.getElem_mem q)
  · have e : k = A.length := by omega
    subst e;exact .inr ⟨rfl, by rw [← eL, List.getD_eq_getElem?_getD, List.getElem?_append_right (Nat.le_refl _), Nat.sub_self]; rfl⟩
 refine Qab (ι := { k : Nat // k ≤ A.length }) (fun k => ⟨[.ptr 2 ti 0 0, .ptr 0 st 0 0, .any, .any, .any, .any, .any, .any, .any, .any, .any, .any, .any, .any, .any, .any, .any, .slice (hsG (A ++ h :: B)) .none, .int .i64 (A ++ h :: B).length, .int .i64 (k.1 : Nat)] ++ List.replicate 27 .any, gObj st s m ++ idO2 ti so n M O⟩) (fun k => A.length - k.1) ?_ ?_
 · exact Into.first ⟨0, Nat.zero_le _⟩ ⟨[], by simp⟩ (by simp [WL, leG_self, leG_any, hsG_len])
 · rintro ⟨k, hk⟩
   change k ≤ A.length at hk
   have d0 : ((k : Int) < (L.length : Int)) = True := eq_true (by omega);have eS := hsG_at L k (by omega);have hk2 := hat k hk;clear hat;simp only [eL];generalize L.getD k h0 = x at *;have cM := fun X => QfZ (.row st 1 [[.map 1 s]]) (.map s (kvG encL m)) X ti so n M O x
   rcases hk2 with ⟨q1, q2⟩ | ⟨q1, q2⟩
   · rw [q2] at cM;refine vq3 d0 eS zb30 ?_;refine ⟨by omega, fun sb => ?_⟩;refine (cM _).mono ?_;rintro g O' ⟨rfl, rfl⟩;refine vq0 ?_;exact Into.at ⟨k + 1, q1⟩ (by show _ < _; simp; omega) ⟨[.row sb 32 [bytesG x.1]], by simp⟩ (by simp [WL, leG_self, leG_any, Qaa])
   · subst q2;rw [hh] at cM;refine vq3 d0 eS zb30 ?_;refine ⟨by omega, fun sb => ?_⟩;refine (cM _).mono ?_;rintro g O' ⟨rfl, rfl⟩;refine vq3 @hsG_len @all_hsG @v32 ?_;refine (gOf x 19).then ?_ (by rfl)
     refine vq0 ?_;exact ⟨_, gObj st s m ++ idO2 ti so n M O, [.row sb 32 [bytesG x.1]], by simp, leA_refl _, rfl, rfl⟩
theorem Qj5 (m : GM) (hm : GMOK m) (ti st s so : Nat) (n : Int) (M O l : List Hs) (t : Tag) (ht : t = .nil → l = []) (hl : l.length ≤ 10000) (hD : (desL m l).length ≤ 100000) (hM : M.length ≤ 1000000) (hO : O.length ≤ 1000000) (hA : ∀ x ∈ l ++ desL m l, Qar (ofM M O) x = false) :
 GCalls Tryz.prog 18 [.ptr 2 ti 0 0, .ptr 0 st 0 0, .slice (hsG l) t] (gObj st s m ++ idO2 ti so n M O) (fun g O' => ∃ so', g = .lit .nilIface ∧ O' = (gObj st s m ++ idO2 ti so n M O).set 2 (.row ti 4 [[.int .i64 n, .slice (hsG M) .none, .slice (hsG (woL O (l ++ desL m l))) .none, .map 4 so']]) ++ [.map so' (kvG encI (ofM M (woL O (l ++ desL m l))))]) := by
 have cD := (gDescendants m hm st s l t ht hl).keep2 rfl (idO2 ti so n M O)
 have cC := QfY l (desL m l) t .none .full (by omega)
 have lL : (l ++ desL m l).length ≤ 110000 := by rw [List.length_append]; omega
 have cW := Qix O (l ++ desL m l) hO (by omega)
 have wl : (woL O (l ++ desL m l)).length ≤ O.length := List.length_filter_le _ _
 have cN := GCalls.oneNew (z1 := fun so' => .row ti 4 [[.int .i64 n, .slice (hsG M) .none, .slice (hsG (woL O (l ++ desL m l))) .none, .map 4 so']]) (args' := [.ptr 2 ti 0 0, .slice (hsG M) .none, .slice (hsG (woL O (l ++ desL m l))) .none]) (Qhv ti (.int .i64 n) (.slice (hsG M) .none) (.slice (hsG O) .none) (.map 3 so) M (woL O (l ++ desL m l)) hM (by omega)) (O := gObj st s m ++ idO2 ti so n M O) 2 rfl (.refl _) (fun so => OLe.row ⟨⟨GLe.refl _, GLe.refl _, GLe.refl _, GLe.map _ _ _, trivial⟩, trivial⟩) ⟨GLe.ptr _ _ _ _ _, GLe.refl _, GLe.refl _, trivial⟩ rfl rfl (fun _ => rfl) (fun _ => rfl)
 generalize woL O (l ++ desL m l) = W at *
 refine h18.ca ?_
 refine vq0 ?_
 refine cD.mono ?_
 rintro g O' ⟨rfl, rfl⟩
 refine vq0 ?_
 refine cC.then ?_ (by rfl)
 refine vq1 @hsG_len ?_
 refine Qab (ι := { k : Nat // k ≤ (l ++ desL m l).length }) (fun k => ⟨[.ptr 2 ti 0 0, .ptr 0 st 0 0, .slice (hsG l) t, .any, .any, .any, .any, .any, .any, .any, .any, .any, .any, .any, .any, .any, .any, .slice (hsG (l ++ desL m l)) .none, .int .i64 (l ++ desL m l).length, .int .i64 (k.1 : Nat)] ++ List.replicate 27 .any, gObj st s m ++ idO2 ti so n M O⟩) (fun k => (l ++ desL m l).length - k.1) ?_ ?_
 · exact Into.first ⟨0, Nat.zero_le _⟩ ⟨[], by simp⟩ (by simp [WL, leG_self, leG_any, hsG_len])
 · rintro ⟨k, hk⟩
   change k ≤ (l ++ desL m l).length at hk
   obtain ⟨L, eL⟩ : ∃ L, l ++ desL m l = L := ⟨_, rfl⟩
   simp only [eL] at cC lL cW hA hk ⊢;by_cases h : k < L.length
   · have d0 : ((k : Int) < (L.length : Int)) = True := eq_true (by omega);have eS := hsG_at L k h;have hx := hA (L.getD k h0) (by rw [List.getD_eq_getElem?_getD, List.getElem?_eq_getElem h]; exact List.getElem_mem h);generalize L.getD k h0 = x at *;have cM := fun X => QfZ (.row st 1 [[.map 1 s]]) (.map s (kvG encL m)) X ti so n M O x
     rw [hx] at cM;refine vq3 d0 eS zb30 ?_;refine ⟨by omega, fun sb => ?_⟩;refine (cM _).mono ?_;rintro g O' ⟨rfl, rfl⟩;refine vq0 ?_;exact Into.at ⟨k + 1, by rw [eL]; exact h⟩ (by show _ < _; simp; omega) ⟨[.row sb 32 [bytesG x.1]], by simp⟩ (by simp [WL, leG_self, leG_any, Qaa])
   · have d0 : ((k : Int) < (L.length : Int)) = False := eq_false (by omega);refine vq1 d0 ?_;refine cD.mono ?_;rintro g O' ⟨rfl, rfl⟩;refine vq0 ?_;refine ⟨⟨[], by simp⟩, ?_⟩;refine cC.then ?_ (by rfl)
     refine vq0 ?_;refine ⟨⟨[], by simp⟩, ?_⟩;refine cW.then ?_ (by rfl)
     refine vq0 ?_;refine ⟨⟨[], by simp⟩, ?_⟩;refine cN.mono ?_;rintro g O' ⟨so', rfl, rfl⟩;refine vq0 ?_;exact ⟨so', rfl⟩
theorem QlK (m : GM) (hm : GMOK m) (ti st s so : Nat) (n : Int) (M O l : List Hs) (t : Tag) (ht : t = .nil → l = []) (hl : l.length ≤ 10000) (hD : (desL m l).length ≤ 100000) (hM : M.length ≤ 1000000) (hO : O.length ≤ 1000000) (hA : ∀ x ∈ l ++ desL m l, Qar (ofM M O) x = false) :
 GCalls Tryz.prog 18 [.ptr 2 ti 0 0, .ptr 0 st 0 0, .slice (hsG l) t] (gObj st s m ++ idO2 ti so n M O) (fun g O' => ∃ so', g = .lit .nilIface ∧ O' = gObj st s m ++ idO2 ti so' n M (woL O (l ++ desL m l))) := by
 refine GCalls.into ((Qj5 m hm ti st s so n M O l t ht hl hD hM hO hA).mono ?_)
 rintro g O' ⟨so', rfl, rfl⟩
 exact GInto.pick (X := gObj st s m ++ idO2 ti so' n M (woL O (l ++ desL m l))) [0, 1, 2, 4] ⟨⟨_, rfl, .refl _⟩, ⟨_, rfl, .refl _⟩, ⟨_, rfl, OLe.row ⟨⟨GLe.refl _, GLe.refl _, GLe.refl _, GLe.map _ _ _, trivial⟩, trivial⟩⟩, ⟨_, rfl, .refl _⟩, trivial⟩ (by decide) rfl ⟨so', rfl, rfl⟩
theorem QmP (m : GM) (hm : GMOK m) (ti st s so : Nat) (cs : List Cm) (hs : List Hs) (th : Tag) (n : Int) (M O : List Hs) (T : WSt) (hT : VisL m (Qar (ofM M O)) hs ([], []) T) (hl : hs.length ≤ 1000000) (hM : M.length ≤ 1000000) (hTl : T.2.length ≤ 1000000) (hn : n < (M.length : Int) + T.2.length) :
 GCalls Tryz.prog 12 [.ptr 2 ti 0 0, .ptr 0 st 0 0, .agg (reqG cs hs th 1)] (gObj st s m ++ idO2 ti so n M O) (fun g O' => g = errG 13 ∧ O' = gObj st s m ++ idO2 ti so n M O) := by
 have cW := Qnq m hm hs th st s ti so n M O T hT hl
 have d0 : (n < (M.length : Int) + T.2.length) = True := eq_true hn
 have en : norm .i64 ((M.length : Int) + T.2.length) = (M.length : Int) + T.2.length := QaZ (by omega)
 refine GCalls.dropTo ?_
 refine h12.ca ?_
 refine vq3 @QcM @QfX @len32 ?_
 refine cW.mono ?_
 rintro g O' ⟨rfl, rfl⟩
 refine vq3 @hsG_len en d0 ?_
 exact ⟨_, gObj st s m ++ idO2 ti so n M O, [], by simp, leA_refl _, rfl, rfl⟩
theorem ok1 (a b : Int) (h1 : -9223372036854775808 ≤ a ∧ a ≤ 9223372036854775807) (h2 : -9223372036854775808 ≤ b ∧ b ≤ 9223372036854775807) : Sp.Ok [(a, b)] := by
 intro s hs
 rw [List.mem_singleton] at hs
 subst hs
 exact ⟨h1, h2⟩
theorem QiJ (ti so : Nat) (n : Int) (M O : List Hs) (hM : M.length ≤ 1000000) : GCalls Tryz.prog 25 [.ptr 0 ti 0 0] (idO ti so n M O) (fun g O' => g = .slice (Gv.spl (Sp.nf [(0, (M.length : Int) - 1)])) .none ∧ O' = idO ti so n M O) := by
 have c := Qux [(0, (M.length : Int) - 1)] .full (by simp) (ok1 _ _ (by omega) (by omega))
 refine h25.ca ?_
 refine vq1 @hsG_len ?_
 refine c.then ?_ (by rfl)
 exact vd0
theorem iAllS (ti so : Nat) (n : Int) (M O : List Hs) (hM : M.length ≤ 1000000) (hO : O.length ≤ 1000000) : GCalls Tryz.prog 24 [.ptr 0 ti 0 0] (idO ti so n M O) (fun g O' => g = .slice (Gv.spl (Sp.uni (Sp.nf [(0, (M.length : Int) - 1)]) [(1099511627776, 1099511627776 + (O.length : Int) - 1)])) .none ∧ O' = idO ti so n M O) := by
 have c := QiJ ti so n M O hM
 have l1 : (Sp.nf [(0, (M.length : Int) - 1)]).length ≤ 1 := Sp.nf_len _
 have k1 : Sp.Ok (Sp.nf [(0, (M.length : Int) - 1)]) := Sp.nf_ok (ok1 _ _ (by omega) (by omega))
 have u := Quw (Sp.nf [(0, (M.length : Int) - 1)]) [(1099511627776, 1099511627776 + (O.length : Int) - 1)] .none .full (by simp; omega) k1 (ok1 _ _ (by omega) (by omega))
 refine h24.ca ?_
 refine vq1 @hsG_len ?_
 refine c.mono ?_
 rintro g O' ⟨rfl, rfl⟩
 refine vq1 @hsG_len ?_
 refine ⟨⟨[], by simp⟩, ?_⟩
 refine u.then ?_ (by rfl)
 exact vd0
theorem QuU (a b : Sp.S) : Sp.uni (Sp.nf [a]) [b] = Sp.nf [a, b] := by
 unfold Sp.uni
 refine Sp.nf_congr fun n => ?_
 have h1 := Sp.nf_has [a] n
 rw [Sp.has_app, h1, show [a, b] = [a] ++ [b] from rfl, Sp.has_app]
abbrev pO (st s ti so rt nt : Nat) (m L : GM) (n : Int) (M O : List Hs) : List GObj := gObj st s m ++ (idO2 ti so n M O ++ (rObj rt L ++ nObj nt n M O))
theorem QiI (st s ti so rt nt : Nat) (m L : GM) (n : Int) (M O : List Hs) (hn : (M ++ O).Nodup) (hM : M.length ≤ 100000) (hO : O.length ≤ 100000) (hl : L.length ≤ 100000) :
 GCalls Tryz.prog 35 [.ptr 2 ti 0 0, .ptr 5 nt 0 0, .ptr 4 rt 0 0] (pO st s ti so rt nt m L n M O) (fun g O' => g = .bool true ∧ O' = pO st s ti so rt nt m L n M O) := by
 have cMs := fun X => iAt2 (args := []) (Qd4 ti so n M O) (.row st 1 [[.map 1 s]]) (.map s (kvG encL m)) rfl X
 have cOs := fun X => iAt2 (args := []) (QfO ti so n M O) (.row st 1 [[.map 1 s]]) (.map s (kvG encL m)) rfl X
 have cAl := fun X => iAt2 (args := []) (iAllS ti so n M O (by omega) (by omega)) (.row st 1 [[.map 1 s]]) (.map s (kvG encL m)) rfl X
 have cMa := fun X => iAt2 (args := []) (QiJ ti so n M O (by omega)) (.row st 1 [[.map 1 s]]) (.map s (kvG encL m)) rfl X
 have cID := fun x X => iAt2 (iID ti so n M O x) (.row st 1 [[.map 1 s]]) (.map s (kvG encL m)) rfl X
 have cHM := fun j hj X => iAt2 (QuV ti so n M O j hj (by omega)) (.row st 1 [[.map 1 s]]) (.map s (kvG encL m)) rfl X
 have cHO := fun j hj X => iAt2 (QuW ti so n M O j hj (by omega)) (.row st 1 [[.map 1 s]]) (.map s (kvG encL m)) rfl X
 have rAl := fun (X : List GObj) => GCalls.keep1' (rAllS nt n M O (by omega) (by omega)) (O := pO st s ti so rt nt m L n M O ++ X) (args' := [.ptr 5 nt 0 0]) 5 rfl rfl rfl rfl
 have rMa := fun (X : List GObj) => GCalls.keep1' (QmG nt n M O (by omega)) (O := pO st s ti so rt nt m L n M O ++ X) (args' := [.ptr 5 nt 0 0]) 5 rfl rfl rfl rfl
 have rId := fun x (X : List GObj) => GCalls.keep1' (rID nt n M O hn (by omega) (by omega) x) (O := pO st s ti so rt nt m L n M O ++ X) (args' := [.ptr 5 nt 0 0, .agg (bytesG x.1)]) 5 rfl rfl rfl rfl
 have rHM := fun (j : Nat) hj (X : List GObj) => GCalls.keep1' (QuX nt n M O j hj (by omega) (by omega)) (O := pO st s ti so rt nt m L n M O ++ X) (args' := [.ptr 5 nt 0 0, .int .i64 (j : Int)]) 5 rfl rfl rfl rfl
 have rHO := fun (j : Nat) hj (X : List GObj) => GCalls.keep1' (QuY nt n M O j hj (by omega) (by omega)) (O := pO st s ti so rt nt m L n M O ++ X) (args' := [.ptr 5 nt 0 0, .int .i64 (1099511627776 + (j : Int))]) 5 rfl rfl rfl rfl
 rw [QuU] at cAl
 have sA := Qfj (Sp.nf [(0, (M.length : Int) - 1), (1099511627776, 1099511627776 + (O.length : Int) - 1)]) (Sp.nf [(0, (M.length : Int) - 1), (1099511627776, 1099511627776 + (O.length : Int) - 1)]) .none .none (Nat.le_trans (Sp.nf_len _) (by simp))
 have sM := Qfj (Sp.nf [(0, (M.length : Int) - 1)]) (Sp.nf [(0, (M.length : Int) - 1)]) .none .none (Nat.le_trans (Sp.nf_len _) (by simp))
 rw [decide_eq_true rfl] at sA sM
 refine GCalls.dropTo ?_
 refine h35.ca ?_
 refine vq0 ?_
 refine (cMs _).mono ?_
 rintro g O' ⟨rfl, rfl⟩
 refine vq1 @hsG_len ?_
 refine ⟨⟨[], by simp⟩, fun h => absurd trivial h, ?_⟩
 refine (cOs _).mono ?_
 rintro g O' ⟨rfl, rfl⟩
 refine vq1 @hsG_len ?_
 refine ⟨⟨[], by simp⟩, fun h => absurd trivial h, ?_⟩
 refine (cAl _).mono ?_
 rintro g O' ⟨rfl, rfl⟩
 refine vq0 ?_
 refine (rAl []).mono ?_
 rintro g O' ⟨rfl, rfl⟩
 refine vq0 ?_
 refine sA.then ?_ (by rfl)
 refine vq0 ?_
 refine (cMa _).mono ?_
 rintro g O' ⟨rfl, rfl⟩
 refine vq0 ?_
 refine (rMa []).mono ?_
 rintro g O' ⟨rfl, rfl⟩
 refine vq0 ?_
 refine sM.then ?_ (by rfl)
 refine vq0 ?_
 refine Qab (ι := { k : Nat // k ≤ L.length }) (fun k => ⟨[.ptr 2 ti 0 0, .ptr 5 nt 0 0, .ptr 4 rt 0 0, .any, .any, .any, .any, .int .i64 (k.1 : Nat)] ++ List.replicate 151 .any, pO st s ti so rt nt m L n M O⟩) (fun k => L.length - k.1) ?_ ?_
 · exact Into.first ⟨0, Nat.zero_le _⟩ ⟨[], by simp⟩ (by simp [WL, leG_self, leG_any])
 · rintro ⟨k, hk⟩
   change k ≤ L.length at hk
   by_cases h : k < L.length
   · have d0 : ((k : Int) < (L.length : Int)) = True := eq_true (by omega);have eS := Qa0 L k h;obtain ⟨x, hx⟩ : ∃ x, L.getD k default = x := ⟨_, rfl⟩
     rw [hx] at eS;obtain ⟨xh, ps⟩ := x;obtain ⟨a, b, ei⟩ : ∃ a b, idV (ofM M O) xh = .tuple [.int .i64 a, .bool b] := ⟨_, _, rfl⟩
     have c1 := cID xh;have c2 := rId xh;rw [ei] at c1 c2;cases b
     all_goals
      refine vq6 d0 eS @Qae @comG.eq_1 @v33 @v32 ?_;refine ⟨by omega, ?_⟩;refine (c1 _).mono ?_;rintro g O' ⟨rfl, rfl⟩;refine vq6 d0 eS @Qae @comG.eq_1 @v33 @v32 ?_;refine ⟨by omega, ?_⟩;refine (c2 []).mono ?_;rintro g O' ⟨rfl, rfl⟩;refine vq0 ?_;refine ⟨fun h => absurd trivial h, ?_⟩;exact Into.at ⟨k + 1, h⟩ (by show L.length - (k + 1) < L.length - k; omega) ⟨[], by simp⟩ (by simp [WL, leG_self, leG_any, Qaa])
   · have d0 : ((k : Int) < (L.length : Int)) = False := eq_false (by omega);refine vq2 d0 @Qae ?_;refine Qab (ι := { k : Nat // k ≤ M.length + 1 }) (fun k => ⟨[.ptr 2 ti 0 0, .ptr 5 nt 0 0, .ptr 4 rt 0 0] ++ List.replicate 9 .any ++ [.int .i64 (k.1 : Nat)] ++ List.replicate 146 .any, pO st s ti so rt nt m L n M O⟩) (fun k => M.length + 1 - k.1) ?_ ?_
     · exact Into.first ⟨0, Nat.zero_le _⟩ ⟨[], by simp⟩ (by simp [WL, leG_self, leG_any])
     · clear hk d0;rintro ⟨k, hk⟩
       change k ≤ M.length + 1 at hk
       by_cases h : k ≤ M.length
       · have d0 : ((k : Int) ≤ (M.length : Int)) = True := eq_true (by omega);have c1 := cHM k (by omega);have c2 := rHM k (by omega);generalize M.getD k h0 = y at *;generalize decide (k < M.length) = b at *;have ce := QaA y y;rw [decide_eq_true rfl] at ce;cases b
         all_goals
          refine vq2 d0 @hsG_len ?_;refine (c1 _).mono ?_;rintro g O' ⟨rfl, rfl⟩;refine vq1 @v32 ?_;intro s13;refine (c2 [.row s13 32 [bytesG y.1]]).mono ?_;rintro g O' ⟨rfl, rfl⟩;refine vq5 ce @List.set.eq_1.{0} @List.set.eq_2.{0} @List.set.eq_3.{0} @v32 ?_;exact fun s15 => Into.at ⟨k + 1, by omega⟩ (by show M.length + 1 - (k + 1) < M.length + 1 - k; omega) ⟨_, rfl⟩ (by simp [WL, leG_self, leG_any, Qaa])
       · have d0 : ((k : Int) ≤ (M.length : Int)) = False := eq_false (by omega);refine vq2 d0 @hsG_len ?_;refine Qab (ι := { k : Nat // k ≤ O.length + 1 }) (fun k => ⟨[.ptr 2 ti 0 0, .ptr 5 nt 0 0, .ptr 4 rt 0 0] ++ List.replicate 14 .any ++ [.int .i64 (k.1 : Nat)] ++ List.replicate 141 .any, pO st s ti so rt nt m L n M O⟩) (fun k => O.length + 1 - k.1) ?_ ?_
         · exact Into.first ⟨0, Nat.zero_le _⟩ ⟨[], by simp⟩ (by simp [WL, leG_self, leG_any])
         · clear hk d0;rintro ⟨k, hk⟩
           change k ≤ O.length + 1 at hk
           by_cases h : k ≤ O.length
           · have d0 : ((k : Int) ≤ (O.length : Int)) = True := eq_true (by omega);have c1 := cHO k (by omega);have c2 := rHO k (by omega);generalize O.getD k h0 = y at *;generalize decide (k < O.length) = b at *;have ce := QaA y y;rw [decide_eq_true rfl] at ce;have eK : norm .i64 (1099511627776 + (k : Int)) = 1099511627776 + (k : Int) := QaZ (by omega);cases b
             all_goals
              refine vq3 d0 @hsG_len eK ?_;refine (c1 _).mono ?_;rintro g O' ⟨rfl, rfl⟩;refine vq2 eK @v32 ?_;intro s13;refine (c2 [.row s13 32 [bytesG y.1]]).mono ?_;rintro g O' ⟨rfl, rfl⟩;refine vq5 ce @List.set.eq_1.{0} @List.set.eq_2.{0} @List.set.eq_3.{0} @v32 ?_;exact fun s15 => Into.at ⟨k + 1, by omega⟩ (by show O.length + 1 - (k + 1) < O.length + 1 - k; omega) ⟨_, rfl⟩ (by simp [WL, leG_self, leG_any, Qaa])
           · have d0 : ((k : Int) ≤ (O.length : Int)) = False := eq_false (by omega);refine vq2 d0 @hsG_len ?_;exact ⟨_, pO st s ti so rt nt m L n M O, [], by simp, leA_refl _, rfl, rfl⟩
end Gv.Tryz
namespace Go.Proofs
open Go.Shelf
def Tryz.mci_ren : Go.Shelf.Ren := ⟨fun | 5 => 62 | 7 => 96 | n => n, fun | 4 => 4 | 20 => 20 | 23 => 91 | 25 => 44 | 3 => 3 | n => n, fun | n => n⟩
theorem Tryz.mci : Go.Proofs.SlLaysW.n5 Tryz.prog Tryz.mci_ren := {
 mixed := by kernel_rfl
 f5 := ⟨Tryz.f62.name, by decide, Tryz.func62.trans (congrArg some (by kernel_rfl))⟩
 f7 := Tryz.func96.trans (congrArg some (by kernel_rfl))
 t4 := Tryz.underlying4
 a4 := Tryz.isAgg4
 z4 := Tryz.sizeOf4
 v4 := Tryz.zeroValue4
 t20 := Tryz.underlying20
 a20 := Tryz.isAgg20
 z20 := Tryz.sizeOf20
 v20 := Tryz.zeroValue20
 t23 := Tryz.underlying91
 a23 := Tryz.isAgg91
 z23 := Tryz.sizeOf91
 v23 := Tryz.zeroValue91 }
end Go.Proofs
namespace Gv.Tryz
open Go Gv Go.Proofs
theorem Qjd {O : List GObj} {o st : Nat} {kv : List (GVal × GVal)} (hO : O[o]? = some (.map st kv)) (hc : Qad O = none) :
 GCalls Tryz.prog 62 [.map o st] O (fun g O' => ∃ st', g = .map O.length st' ∧ O' = O ++ [.map st' kv]) :=
 QdQ (by kernel_rfl) (fun b es clock w hb => AnyW.maps_Clone Tryz.mci b es clock w hb) hO hc
def zb42 := ai @Qp0.eq_1 <| ai @Qp1.eq_1 <| ai @Qp2.eq_1 <| ai @Qp3.eq_1 <| ai @Qp4.eq_1 <| ai @List.set.eq_1.{0} <| ai @List.set.eq_2.{0} <| @List.set.eq_3.{0}
theorem Qp5 (st s ti so rt nt : Nat) (m L : GM) (n : Int) (M O : List Hs) (sx zx sw zw : Nat) (cx cw : List (List GVal)) : GCalls Tryz.prog 33 [.ptr 2 ti 0 0] (pO st s ti so rt nt m L n M O ++ [.row sx zx cx, .row sw zw cw]) (fun g O' => ∃ tc sc, g = .ptr 8 tc 0 0 ∧ O' = pO st s ti so rt nt m L n M O ++ [.row sx zx cx, .row sw zw cw, .row tc 4 [[.int .i64 n, .slice (hsG M) .none, .slice (hsG O) .none, .map 9 sc]], .map sc (kvG encI (ofM M O))]) := by
 have cC := fun (st1 : Nat) (c1 : List (List GVal)) => Qjd (O := pO st s ti so rt nt m L n M O ++ [.row sx zx cx, .row sw zw cw, .row st1 4 c1]) (o := 3) (st := so) (kv := kvG encI (ofM M O)) rfl rfl
 refine h33.ca ?_
 refine vq1 zb42 ?_
 refine ⟨rfl, fun tc => ?_⟩
 refine (cC tc _).mono ?_
 rintro g O' ⟨sc, rfl, rfl⟩
 refine vq1 zb42 ?_
 exact ⟨tc, sc, rfl, rfl⟩
theorem QhB {m : GM} (hm : Good m) (x y : Hs) : y ∈ kidsM m x ↔ x ∈ parsM m y := by
 rw [kidsM_mem]
 constructor
 · rintro ⟨q, h1, h2, rfl⟩;rw [parsM_some (Qa1 hm.keys h1)];exact h2
 · intro h;obtain ⟨p, h1, h2, h3⟩ := Qdj h;exact ⟨p, h1, h3, h2.symm⟩
theorem Qfp {m : GM} {x y : Hs} (h : y ∈ kidsM m x) : (look m y).isSome = true := by
 obtain ⟨q, h1, _, rfl⟩ := kidsM_mem.1 h
 exact QbE (List.mem_map_of_mem h1)
theorem QjX {m : GM} {l : List Hs} {x : Hs} : x ∈ inM m l ↔ x ∈ l ∧ (look m x).isSome = true := by unfold inM; exact List.mem_filter
open Nat (reduceEqDiff reduceAdd reduceSub reduceLeDiff reduceMul reduceLT)
theorem findD {f : Cm → Option Hs} {L : GM} {k : Nat} (h : k < L.length) : (L.drop k).findSome? f = match f (L.getD k default) with
 | some b => some b
 | none => (L.drop (k + 1)).findSome? f := by rw [Qjc h, List.findSome?_cons]; cases f (L.getD k default) <;> rfl
def rRmF (l : List Hs) (c : Cm) : Option Hs := if c.1 ∈ l then none else if c.2.any (fun p => decide (p ∈ l)) = true then some c.1 else none
def rRmE (L : GM) (l : List Hs) : Option Hs := L.findSome? (rRmF l)
def rRmM (L : GM) (l : List Hs) : GM := L.filter fun c => !decide (c.1 ∈ l)
def rRmV : Option Hs → GVal
 | some h => .tuple [.int .i64 10, .agg (bytesG h.1)]
 | none => .tuple [.int .i64 0, .agg (bytesG h0.1)]
def rRmN (L : GM) (l : List Hs) : GM := if (rRmE L l).isSome = true then L else rRmM L l
def zb41 := ai @Qae <| ai @comG.eq_1 <| ai @v33 <| @v32
theorem QjL (L : GM) (hg : Good L) (l : List Hs) (t : Tag) (hll : l.length ≤ 100000) (rt : Nat) :
 GCalls Tryz.prog 29 [.ptr 0 rt 0 0, .slice (hsG l) t] (rObj rt L) (fun g O' => g = rRmV (rRmE L l) ∧ ∃ tag X, O' = .row rt 1 [[.slice (csG (rRmN L l)) tag]] :: X) := by
 have hml := hg.ok.len
 have hrow := hg.ok.row
 have cI := fun x => hIn l t x (by omega)
 obtain ⟨n, hn⟩ : ∃ n, L.length = n := ⟨_, rfl⟩
 refine h29.ca ?_
 refine vqd (ai @QgA <| ai @QaC <| ai @QaK <| ai @List.append_nil.{0} <| ai @vnT <| @v32) @solA ?_
 intro s5
 refine Qab (ι := { k : Nat // k ≤ n ∧ rRmE L l = (L.drop k).findSome? (rRmF l) }) (fun k => ⟨[.ptr 0 rt 0 0, .slice (hsG l) t, .any, .any, .any, .ptr 1 s5 0 0, .int .i64 (k.1 : Nat)] ++ List.replicate 91 .any, rObj rt L ++ [.row s5 32 [bytesG h0.1]]⟩) (fun k => n - k.1) ?_ ?_
 · exact Into.first ⟨0, Nat.zero_le _, rfl⟩ ⟨[], by simp⟩ (by simp [WL, leG_self, leG_any])
 · rintro ⟨i, hi, hE⟩
   change i ≤ n at hi
   by_cases h : i < n
   · have d0 : ((i : Int) < (n : Int)) = True := eq_true (by omega);have eC := Qa0 L i (by omega);rw [findD (show i < L.length by omega)] at hE;have hx4 := hrow _ (memC (show i < L.length by omega));generalize L.getD i default = x at *;obtain ⟨xh, ps⟩ := x
     change ps.length ≤ 4 at hx4
     have cIx := cI xh;by_cases hm : xh ∈ l
     · rw [decide_eq_true hm] at cIx;have e1 : rRmF l (xh, ps) = none := by rw [rRmF, if_pos hm]
       rw [e1] at hE;refine vq4 d0 eC hn zb41 ?_;refine ⟨by omega, ?_⟩;refine cIx.then ?_ (by rfl)
       refine vq0 ?_;exact Into.at ⟨i + 1, by omega, hE⟩ (by show n - (i + 1) < n - i; omega) ⟨[], by simp⟩ (by simp [WL, leG_self, leG_any, Qaa])
     · rw [decide_eq_false hm] at cIx;refine vq4 d0 eC hn zb41 ?_;refine ⟨by omega, ?_⟩;refine cIx.then ?_ (by rfl)
       refine vq0 ?_;refine Qab (ι := { j : Nat // j ≤ ps.length ∧ (ps.take j).any (fun p => decide (p ∈ l)) = false }) (fun j => ⟨[.ptr 0 rt 0 0, .slice (hsG l) t, .any, .any, .any, .ptr 1 s5 0 0, .int .i64 (i : Nat), .int .i64 (j.1 : Nat)] ++ List.replicate 90 .any, rObj rt L ++ [.row s5 32 [bytesG h0.1]]⟩) (fun j => ps.length - j.1) ?_ ?_
       · exact Into.first ⟨0, Nat.zero_le _, by simp⟩ ⟨[], by simp⟩ (by simp [WL, leG_self, leG_any])
       · rintro ⟨j, hj, hno⟩
         change j ≤ ps.length at hj
         by_cases h' : j < ps.length
         · have d2 : ((j : Int) < (ps.length : Int)) = True := eq_true (by omega);have ej : norm .i64 ((j : Int) + 1) = (j : Int) + 1 := QaZ (by omega);have eP := hsG_at ps j h';have hym : ps.getD j h0 ∈ ps := by
            rw [List.getD_eq_getElem?_getD, List.getElem?_eq_getElem h']; exact List.getElem_mem h'
           have htp := takeH h';generalize ps.getD j h0 = y at *;have cIy := cI y;by_cases hy : y ∈ l
           · rw [decide_eq_true hy] at cIy;have e1 : rRmF l (xh, ps) = some xh := by rw [rRmF, if_neg hm, if_pos (List.any_eq_true.2 ⟨y, hym, decide_eq_true hy⟩)]
             rw [e1] at hE;refine vq10 d2 eC eP @Qae @comG.eq_1 @hsG_len @all_hsG hn @v33 @v32 ?_;refine ⟨by omega, by omega, by omega, by omega, by omega, ?_⟩;refine cIy.then ?_ (by rfl)
             refine vqd (ai eC <| ai @Qae <| ai @comG.eq_1 <| ai hn <| ai @QaC <| ai @QaK <| ai @List.append_nil.{0} <| ai @v33 <| @v32) @solA ?_;exact ⟨by omega, by omega, by rw [hE]; rfl, .none, [.row s5 32 [bytesG xh.1]], by rw [rRmN, if_pos (by rw [hE]; rfl)]⟩
           · rw [decide_eq_false hy] at cIy;refine vq10 d2 eC eP @Qae @comG.eq_1 @hsG_len @all_hsG hn @v33 @v32 ?_;refine ⟨by omega, by omega, by omega, by omega, by omega, ?_⟩;refine cIy.then ?_ (by rfl)
             refine vq1 ej ?_;refine Into.at ⟨j + 1, h', ?_⟩ (by show ps.length - (j + 1) < ps.length - j; omega) ⟨[], by simp⟩ (by simp [WL, leG_self, leG_any, Qaa]);rw [htp, List.any_append, hno]; simpa using hy
         · have d2 : ((j : Int) < (ps.length : Int)) = False := eq_false (by omega);rw [List.take_of_length_le (by omega)] at hno;have e1 : rRmF l (xh, ps) = none := by rw [rRmF, if_neg hm, if_neg (by rw [hno]; simp)]
           rw [e1] at hE;refine vq8 d2 eC @Qae @comG.eq_1 @hsG_len hn @v33 @v32 ?_;refine ⟨by omega, by omega, ?_⟩;exact Into.at ⟨i + 1, by omega, hE⟩ (by show n - (i + 1) < n - i; omega) ⟨[], by simp⟩ (by simp [WL, leG_self, leG_any, Qaa])
   · have d0 : ((i : Int) < (n : Int)) = False := eq_false (by omega);rw [List.drop_of_length_le (by omega)] at hE;have hE : rRmE L l = none := hE;have hN : rRmN L l = rRmM L l := by rw [rRmN, if_neg (by rw [hE]; simp)]
     refine vq3 d0 @Qae hn ?_;refine Qab (ι := { p : Nat × Nat // p.1 ≤ n }) (fun p => ⟨[.ptr 0 rt 0 0, .slice (hsG l) t, .any, .any, .any, .ptr 1 s5 0 0, .any, .any, .slice (csG (rRmM (L.take p.1.1) l)) (.tok 2 p.1.2), .int .i64 (p.1.1 : Nat)] ++ List.replicate 88 .any, rObj rt L ++ [.row s5 32 [bytesG h0.1], .tok p.1.2 33]⟩) (fun p => n - p.1.1) ?_ ?_
     · refine Into.tok 8 33 [] rfl rfl ?_;refine vq0 ?_;intro so;exact Into.first ⟨(0, so), Nat.zero_le _⟩ ⟨[], by simp⟩ (by simp [WL, leG_self, leG_any, rRmM, csG])
     · rintro ⟨⟨k, so⟩, hk⟩
       change k ≤ n at hk
       have hfl : (rRmM (L.take k) l).length ≤ k := by
        unfold rRmM; refine Nat.le_trans (List.length_filter_le _ _) ?_; rw [List.length_take]; omega
       by_cases h : k < n
       · have d0 : ((k : Int) < (n : Int)) = True := eq_true (by omega);have eC := Qa0 L k (by omega);have ht := Qo7 (show k < L.length by omega);obtain ⟨x, hx⟩ : ∃ x, L.getD k default = x := ⟨_, rfl⟩
         rw [hx] at eC ht;obtain ⟨xh, ps⟩ := x;have cIx := cI xh;by_cases hm : xh ∈ l
         · rw [decide_eq_true hm] at cIx;have e2 : rRmM (L.take (k + 1)) l = rRmM (L.take k) l := by rw [ht, rRmM, List.filter_append]; simp [hm, rRmM]
           refine vq4 d0 eC hn zb41 ?_;refine ⟨by omega, ?_⟩;refine cIx.then ?_ (by rfl)
           refine vq0 ?_;exact Into.at ⟨(k + 1, so), h⟩ (by show n - (k + 1) < n - k; omega) ⟨[], by simp⟩ (by simp [WL, leG_self, leG_any, Qaa, e2])
         · rw [decide_eq_false hm] at cIx;have e2 : rRmM (L.take (k + 1)) l = rRmM (L.take k) l ++ [(xh, ps)] := by rw [ht, rRmM, List.filter_append]; simp [hm, rRmM]
           refine vq4 d0 eC hn zb41 ?_;refine ⟨by omega, ?_⟩;refine cIx.then ?_ (by rfl)
           refine vq7 eC @Qae hn @comG.eq_1 @Qa7 @v33 @v32 ?_;refine ⟨by omega, by omega, by omega, by omega, fun so' => ?_⟩;exact Into.at ⟨(k + 1, so'), h⟩ (by show n - (k + 1) < n - k; omega) ⟨[], by simp⟩ (by simp [WL, leG_self, leG_any, Qaa, e2, csG, comG])
       · have d0 : ((k : Int) < (n : Int)) = False := eq_false (by omega);have e1 : L.take k = L := List.take_of_length_le (by omega);refine vqd (ai d0 <| ai @Qae <| ai hn <| ai e1 <| ai @QgA <| ai @QaC <| ai @QaK <| ai @List.append_nil.{0} <| ai @vnT <| @v32) @solA ?_;exact ⟨by rw [hE]; rfl, .tok 2 so, [.row s5 32 [bytesG h0.1], .tok so 33], by rw [rRmN, if_neg (by rw [hE]; simp)]⟩
theorem Qpn (L : GM) (hg : Good L) (l : List Hs) (t : Tag) (hll : l.length ≤ 100000) (rt : Nat) :
 GCalls Tryz.prog 29 [.ptr 0 rt 0 0, .slice (hsG l) t] (rObj rt L) (fun g O' => g = rRmV (rRmE L l) ∧ O' = rObj rt (rRmN L l)) := by
 refine GCalls.frame (QjL L hg l t hll rt) [0] ⟨⟨_, rfl, .refl _⟩, trivial⟩ (by simp) (GLes.refl _) rfl rfl ?_
 rintro g O' ⟨rfl, tag, X, rfl⟩
 exact ⟨_, rObj rt (rRmN L l), [(false, 0)], ⟨rfl, rfl⟩, GLe.refl _, ⟨⟨_, rfl, OLe.row ⟨⟨GLe.none, trivial⟩, trivial⟩⟩, trivial⟩, by simp, rfl⟩
end Gv.Tryz
namespace Gv.Tryz.L
open Go Gv Gv.Tryz Go.Proofs Go.RowKit Go.Maps Go.Sort Go.Shelf
open Nat (reduceEqDiff reduceAdd reduceSub reduceLeDiff reduceMul reduceLT)
theorem Qnx (F : Fence) (n : Nat) (h69 : F.fn 117) (hro : F.round = none) (hn : 1 ≤ n) (l Bm off b clock : Nat) (es : Array MapEntry) (hbo : BornOK es clock) (hks : ∀ e ∈ es.toList, ∃ h : HL, e.key = encH h) (J : List HL → World → Prop)
 (hY : ∀ pre x W, J pre W → pre.length < es.size → YieldAt F (n - 1) Tryz.prog l #[encH x] W fun e W' => e = .returned (.bool true) ∧ J (pre ++ [x]) W' ∧ KeepsWalks W W')
 (W : World) (hJ : AbidesFrom W.heap.size J)
 (hm : W.cell? ⟨Bm, off, none⟩ = some (.map (some b))) (hb : W.heap[b]? = some (.map es clock)) (h0 : J [] W) :
 CallsIn F n Tryz.prog 117 #[.func (.yield l) #[] #[], .pointer (some ⟨Bm, off, none⟩)] W fun e W' => (∃ v, e = .returned v) ∧ ∃ hs : List HL, (hs.map encH).Perm (es.toList.map MapEntry.key) ∧ J hs W' := by
 refine callsIn_of_wp Tryz.func117 rfl h69 ?_ hro
 simp only [Tryz.ntmps117, List.size_toArray, List.length_cons, List.length_nil, reduceAdd, reduceSub, Array.replicate_succ, Array.replicate_zero, List.push_toArray, List.append_toArray, List.nil_append, List.cons_append]
 gi_wp2_with (first
  | (gi_at_range; refine Qco _ rfl _ _ rfl _ _ Tryz.underlying88 b clock es rfl hb hbo ?_; intro w0 hrg0 hg0 hs0)
  | gi_in)
 go_frame
 gi_loopw [3] (fun _ wr => ∃ (seen : Array Nat) (xs : List MapEntry) (hs : List HL), WalkAt wr b W.heap.size es clock seen ∧ Came es seen xs ∧ hs.map encH = xs.map MapEntry.key ∧ J hs wr)
  (fun _ wr => wr.rangeLeft b W.heap.size)
 case atStart =>
  exact ⟨#[], [], [], hrg0, Came.nil es, rfl, hJ [] W w0 none h0 hg0 (fun r e => by cases e)⟩
 case round =>
  obtain ⟨seen, xs, hs, hrg, hC, hsx, hJs⟩ := hrel
  gi_wp2_with (first
   | (refine QcE _ rfl _ rfl b W.heap.size clock es hbo seen xs hC rfl hrg ?_ ?_)
   | gi_in)
  · -- NOTHING IS LEFT
    intro hp
    gi_wp2
    go_end0
    exact ⟨⟨_, rfl⟩, hs, by rw [hsx]; exact hp.map _, hJs⟩
  · -- AN ENTRY HAS COME: yield(k)
    intro e w2 hem hC2 hlt hrg2 hmu hg2 hs2 hen;obtain ⟨x, ex⟩ := hks e (by simpa using hem);have hsx2 : (hs ++ [x]).map encH = (xs ++ [e]).map MapEntry.key := by rw [List.map_append, List.map_append, hsx]; simp [ex]
    have hlen : hs.length < es.size := by
     have := congrArg List.length hsx;rw [List.length_map, List.length_map] at this;omega
    rw [ex] at hen ⊢;have hal := World.alloc_heap_new w2 (.cells Qc3 44);have hst := Qhy x.2 hal rfl;obtain ⟨w3, hw3⟩ : ∃ w3, (w2.alloc (.cells Qc3 44)).setRow w2.heap.size (Qah x.1).toArray = w3 := ⟨_, rfl⟩
    rw [hw3] at hst;have hx3 : w3.heap[w2.heap.size]? = some (.cells (Qah x.1).toArray 44 (0, 0)) := by rw [← hw3]; exact setRow_heap _ _ _ _ _ _ hal
    have ho3 : ∀ k, k < w2.heap.size → w3.heap[k]? = w2.heap[k]? := fun k hk => by
     rw [← hw3, setRow_other _ _ _ _ (by omega)];exact Below.heap_alloc _ _ k hk
    have hs3 : w3.heap.size = w2.heap.size + 1 := by rw [← hw3]; simp
    have hk3 : KeepsWalks w2 w3 := ⟨by omega, fun k o hk ho => (ho3 k (Array.getElem?_eq_some_iff.1 hk).1).trans hk⟩
    have hg3 : w2.grownBy w3 none := ⟨by rw [← hw3]; rfl, by rw [← hw3]; rfl, by rw [← hw3]; rfl, by omega, fun k hk _ => ho3 k hk⟩
    have hlo := QjR x.2 hx3;have hJ3 : J hs w3 := hJ hs w2 w3 none (hJ hs wr w2 (some W.heap.size) hJs hg2 (fun r e => by cases e; exact ⟨Nat.le_refl _, hrg.iter_walk⟩)) hg3 (fun r e => by cases e);have hrg3 := hrg2.of_walks hk3;have hmu3 : w3.rangeLeft b W.heap.size < wr.rangeLeft b W.heap.size := by rw [hrg3.left_eq, ← hrg2.left_eq]; exact hmu
    obtain ⟨fn, tmps, assign, body, hy, hR⟩ := hY hs x w3 hJ3 hlen
    change (Instr.yield l #[encV x.1]).run Tryz.prog w3 = _ at hy
    clear hw3 hs2
    gi_wp2_with (first
     | (refine Qcf rfl rfl (Qhx _) ?_)
     | (refine Qcg rfl rfl hst ?_)
     | (refine Qcw rfl rfl hlo ?_)
     | gi_in)
    refine hR.mono ?_;rintro e' W4 ⟨rfl, hJ4, hk4⟩
    gi_wp2
    have hrg4 := hrg3.of_walks hk4
    go_roundw
    case rel => exact ⟨_, xs ++ [e], hs ++ [x], hrg4, hC2, hsx2, hJ4⟩
    case measure => rw [hrg4.left_eq, ← hrg3.left_eq]; exact hmu3
theorem Qex (F : Fence) (n : Nat) (h69 : F.fn 117) (hro : F.round = none) (hn : 1 ≤ n) (Bm off b clock : Nat) (es : Array MapEntry) (hbo : BornOK es clock) (hks : ∀ e ∈ es.toList, ∃ h : HL, e.key = encH h) (w : World) (hBm : Bm < w.heap.size)
 (hm : w.cell? ⟨Bm, off, none⟩ = some (.map (some b))) (hb : w.heap[b]? = some (.map es clock)) :
 SeqGives F n Tryz.prog 117 #[.pointer (some ⟨Bm, off, none⟩)] encH (fun hs : List HL => (hs.map encH).Perm (es.toList.map MapEntry.key)) es.size w := fun l J W hW hJ hY h0 =>
 Qnx F n h69 hro hn l Bm off b clock es hbo hks J hY W hJ ((hW.cell (p := ⟨Bm, off, none⟩) hBm).trans hm) ((hW.block b (Array.getElem?_eq_some_iff.1 hb).1).trans hb) h0
theorem Qf4 {α : Type} (enc : α → GVal) (m : List (Hs × α)) (hm : m.length ≤ 1000000000) {O : List GObj} {o st oc stc : Nat} (hO : O[o]? = some (.map st (kvG enc m))) (hOc : O[oc]? = some (.row stc 1 [[.map o st]])) :
 GCalls Tryz.prog 79 [.func (.func 117) [] [.ptr oc stc 0 0]] O (fun g O' => ∃ l : List Hs, l.Perm (m.map (·.1)) ∧ g = .slice (hsG l) .none ∧ O' = O) := by
 refine ⟨by kernel_rfl, fun E w vs hs ha => ?_⟩
 obtain ⟨hsz, hat⟩ := ha
 match vs, hsz with
 | ⟨[v]⟩, _ =>
  have hv := hat 0 _ rfl
  change VR E v _ at hv
  cases hv with
  | func fn fs cs gs ks hf hk hfs hcs =>
   obtain ⟨fs⟩ := fs;obtain ⟨cs⟩ := cs
   match fs, hf with
   | [], _ =>
    match cs, hk with
    | [c], _ =>
     have hc := hcs 0 _ rfl
     change VR E c (.ptr oc stc 0 0) at hc
     cases hc with
     | ptr b off _ _ _ _ lc hlc hbc hoff =>
      have hre := hs.real _ _ hOc;obtain ⟨lc2, hlc2, hsz2, _, hre⟩ := hre;rw [hlc] at hlc2; cases hlc2;rw [hbc] at hre;obtain ⟨cur, el, hcw, hcs, hct, hrows, _⟩ := hre;obtain ⟨q, h1, _, h2⟩ := hrows 0 (.map o st) rfl;have hoff2 : off = lc.off := by rw [hoff]; omega
      have hcell : w.cell? ⟨b, off, none⟩ = some q := by
       simp only [World.cell?, hcw, hoff2]
       simpa using h1
      have hBm : b < w.heap.size := (Array.getElem?_eq_some_iff.1 hcw).1;cases h2 with
      | map r o st l hl hb =>
       obtain ⟨b2, es, clock, e, hw, hes, hent, hloc, hsn2, hbo⟩ := Qcl hs (VR.map r o st l hl hb) hO;cases e;have hln : es.size = m.length := by
        have : es.toList.length = (kvG enc m).length := hes;rw [Array.length_toList] at this;rw [this, kvG, List.length_map]
       have hkey : es.toList.map MapEntry.key = (m.map (·.1)).map encH := by
        refine List.ext_getElem? fun i => ?_;rw [List.getElem?_map, List.getElem?_map, List.getElem?_map];cases hi : m[i]? with
        | none =>
         have : es.toList[i]? = none := by
          rw [List.getElem?_eq_none_iff] at hi ⊢;rw [Array.length_toList]; omega
         rw [this]; rfl
        | some p =>
         have hlt := (List.getElem?_eq_some_iff.1 hi).1;have hi2 : i < es.toList.length := by rw [Array.length_toList]; omega
         have he : es.toList[i]? = some (es.toList[i]) := List.getElem?_eq_getElem hi2;have := (hent i _ (.agg (bytesG p.1.1), enc p.2) he (by simp [kvG, hi])).1;rw [he];exact congrArg some (Qnh this)
       have hks : ∀ e ∈ es.toList, ∃ h : HL, e.key = encH h := by
        intro e he;have : e.key ∈ es.toList.map MapEntry.key := List.mem_map_of_mem he;rw [hkey] at this;obtain ⟨h, _, eh⟩ := List.mem_map.1 this;exact ⟨h, eh.symm⟩
       have hseq := Qex Fence.wide 3 trivial rfl (by omega) b off r clock es hbo hks w hBm hcell hw;have hc := Qkg Fence.wide 5 trivial trivial rfl (by omega) 117 #[.pointer (some ⟨b, off, none⟩)] trivial (enters_of Tryz.func117 (by kernel_rfl) rfl) _ es.size (by rw [hln]; exact Nat.le_trans hm (by decide)) (by omega) w hseq;refine (callsIn_wide.1 hc).mono ?_;rintro e' w' ⟨v, ss, rfl, hS, hrow, hnil, hbel⟩;have hperm : ss.Perm (m.map (·.1)) := Qey (fun _ _ => Qiz) (by rw [← hkey]; exact hS);rcases hrow.2 with ⟨rfl, hz⟩ | ⟨g, cap, cur, rfl, hbase, hgb, r1, r2, r3, r4⟩
       · have hss : ss = [] := List.eq_nil_of_length_eq_zero hz;subst hss;obtain ⟨p1, p2⟩ := hs.belowO hbel;exact ⟨_, E, O, .slice [] .none, rfl, p1, p2, .slice none 0 0 [] .none 32 (fun _ => undef) rfl (Nat.le_refl _) (by simp) (by simp) (by simp) trivial, [], hperm, rfl, rfl⟩
       · have hcur : ∀ j, j < ss.length * 32 → cur[j]? = (Qah (hsB ss))[j]? := by
          intro j hj
          rw [← Qd7, ← r4, List.getElem?_take_of_lt hj, Array.getElem?_toList]
         have hbl : (Qah (hsB ss)).length = ss.length * 32 := by rw [← Qd7, Qfw]
         obtain ⟨p1, p2⟩ := hs.belowSeal hbel (n := ss.length * 32) hbase hgb (fun j v hj hv => by
          rw [hcur j hj] at hv;exact QcV _ v (List.mem_of_getElem? hv))
         refine ⟨_, _, O, .slice (hsG ss) .none, rfl, p1, p2, .slice _ _ _ _ _ 32 (fun j => (Qah (hsB ss)).getD j undef) (by rw [hsG_len]) r1 (fun x hx => by obtain ⟨h, _, rfl⟩ := List.mem_map.1 hx; exact len32 h) (fun _ => ⟨g, 0, rfl, fun j hj => ?_⟩) (fun j gv hj => ?_) trivial, ss, hperm, rfl, rfl⟩
         · show (if g = g then (if 0 + j < ss.length * 32 then cur[0 + j]? else none) else E.snap g (0 + j)) = _;rw [if_pos rfl, Nat.zero_add, if_pos hj, hcur j hj, List.getD_eq_getElem?_getD];cases hq2 : (Qah (hsB ss))[j]? with
           | none => rw [List.getElem?_eq_none_iff] at hq2; omega
           | some x => rfl
         · rw [Qp6, bytesG, List.getElem?_map] at hj;rw [List.getD_eq_getElem?_getD, Qah, List.getElem?_map];cases hq2 : (hsB ss)[j]? with
           | none => rw [hq2] at hj; cases hj
           | some x =>
            rw [hq2] at hj;cases hj;exact .int _ _
theorem QnX {α : Type} (enc : α → GVal) (m : List (Hs × α)) {st sa : Nat} : GCalls Tryz.prog 94 [.map 1 st] [.row sa 1 [[.map 1 st]], .map st (kvG enc m)] (fun g O' => ∃ stc, g = .func (.func 117) [] [.ptr 2 stc 0 0] ∧ O' = [.row sa 1 [[.map 1 st]], .map st (kvG enc m), .row stc 1 [[.map 1 st]]]) := by
 refine h94.ca ?_
 refine vq0 ?_
 exact fun s => ⟨s, rfl, rfl⟩
theorem gHashes11 (m : GM) (hm : m.length ≤ 1000000000) (st s : Nat) : GCalls Tryz.prog 54 [.ptr 0 st 0 0] (gObj st s m) (fun g O' => g = .slice (hsG (sortR (m.map (·.1)))) .none ∧ O' = gObj st s m) := by
 refine GCalls.dropTo ?_
 refine h54.ca ?_
 refine vq0 ?_
 refine (QnX encL m (sa := st)).mono ?_
 rintro g O' ⟨stc, rfl, rfl⟩
 refine vq0 ?_
 refine (Qf4 encL m hm (O := [.row st 1 [[.map 1 s]], .map s (kvG encL m), .row stc 1 [[.map 1 s]]]) (o := 1) (oc := 2) rfl rfl).mono ?_
 rintro g O' ⟨l, hl, rfl, rfl⟩
 have hll : l.length = m.length := by rw [hl.length_eq, List.length_map]
 have cS := QnY l .none (by omega) (by simp)
 rw [Qfx hl] at cS
 refine vq0 ?_
 refine cS.then ?_ (by rfl)
 refine vq0 ?_
 exact ⟨_, gObj st s m, [.row stc 1 [[.map 1 s]]], rfl, leA_refl _, rfl, rfl⟩
end Gv.Tryz.L
namespace Gv.Tryz
open Go Gv Go.Proofs
open Nat (reduceEqDiff reduceAdd reduceSub reduceLeDiff reduceMul reduceLT)
abbrev rS (p0 p1 x5 x14 x15 x16 x24 x25 x26 x57 : GVal) : List GVal := [p0, p1, .any, .any, .any, x5, .any, .any, .any, .any, .any, .any, .any, .any, x14, x15, x16, .any, .any, .any, .any, .any, .any, .any, x24, x25, x26, .any, .any, .any, .any, .any, .any, .any, .any, .any, .any, .any, .any, .any, .any, .any, .any, .any, .any, .any, .any, .any, .any, .any, .any, .any, .any, .any, .any, .any, .any, x57, .any, .any, .any, .any, .any, .any, .any, .any, .any]
theorem QnT {F : FuncId} {caps : List GVal} (O : List GObj) (hc : Qad O = none) (p : Hs → Bool) (hN : ∀ h : Hs, GCalls Tryz.prog F (.agg (bytesG h.1) :: caps) O (fun g O' => g = .bool (p h) ∧ O' = O))
 (l : List Hs) (t : Tag) (hl : l.length ≤ 1000000) :
 GCalls Tryz.prog 95 [.slice (hsG l) t, .func (.func F) [] caps] O (fun g O' => g = .int .i64 (match l.findIdx? p with | some i => (i : Int) | none => -1) ∧ O' = O) := by
 have hst : ∀ (K : Nat → Prop), stamp O K = ∀ st, K st := fun K => by unfold stamp; rw [hc]
 have htk : tickO O = O := Qck hc
 refine h95.ca ?_
 refine vq3 hst htk @hsG_len ?_
 refine Qab (ι := { k : Nat // k ≤ l.length ∧ ∀ x ∈ l.take k, p x = false }) (fun k => ⟨[.slice (hsG l) t, .func (.func F) [] caps, .any, .any, .int .i64 0, .any, .slice (hsG l) t, .int .i64 l.length, .int .i64 (k.1 : Nat)] ++ List.replicate 10 .any, O⟩) (fun k => l.length - k.1) ?_ ?_
 · exact Into.first ⟨0, by omega, by simp⟩ ⟨[], by simp⟩ (by simp [WL, leG_self, leG_any])
 · rintro ⟨k, hk, hp⟩
   change k ≤ l.length at hk
   have hp : ∀ x ∈ l.take k, p x = false := hp;by_cases h : k < l.length
   · have d0 : ((k : Int) < (l.length : Int)) = True := eq_true (by omega);have eS := hsG_at l k h;have eg : l.getD k h0 = l[k] := by simp [List.getD, h]
     rw [eg] at eS;have ht : l.take (k + 1) = l.take k ++ [l[k]] := List.take_succ_eq_append_getElem h;generalize l[k] = x at eS ht;have cN := hN x;by_cases hx : p x = true
     · rw [hx] at cN;have hf : l.findIdx? p = some k := by
        have e : l = l.take k ++ x :: l.drop (k + 1) := by
         have := List.take_append_drop (k + 1) l;rw [ht] at this
         simpa using this.symm
        rw [e, List.findIdx?_append];have : (l.take k).findIdx? p = none := by rw [List.findIdx?_eq_none_iff]; exact hp
        rw [this];simp [List.findIdx?_cons, hx, List.length_take]; omega
       refine vq9 hst htk @hsG_len d0 eS @all_hsG @QcM @len32 hf ?_;refine ⟨by omega, ?_⟩;refine cN.mono ?_;rintro g O' ⟨rfl, rfl⟩;exact vd1 hf
     · have hx : p x = false := by simpa using hx
       rw [hx] at cN;refine vq8 hst htk @hsG_len d0 eS @all_hsG @QcM @len32 ?_;refine ⟨by omega, ?_⟩;refine cN.mono ?_;rintro g O' ⟨rfl, rfl⟩;refine vq0 ?_;refine Into.at ⟨k + 1, by omega, fun y hy => ?_⟩ (by show _ < _; simp; omega) ⟨[], by simp⟩ (by simp [WL, leG_self, leG_any, Qaa]);have hy : y ∈ l.take (k + 1) := hy;rw [ht] at hy;rcases List.mem_append.1 hy with q | q
       · exact hp y q
       · rw [List.mem_singleton.1 q]; exact hx
   · have d0 : ((k : Int) < (l.length : Int)) = False := eq_false (by omega);have hf : l.findIdx? p = none := by
      rw [List.findIdx?_eq_none_iff];rw [List.take_of_length_le (by omega)] at hp;exact hp
     exact vd5 hst htk @hsG_len d0 hf
theorem QpZ {F : FuncId} {caps : List GVal} (O : List GObj) (hc : Qad O = none) (p : Hs → Bool) (hN : ∀ h : Hs, GCalls Tryz.prog F (.agg (bytesG h.1) :: caps) O (fun g O' => g = .bool (p h) ∧ O' = O))
 (l : List Hs) (t : Tag) (hl : l.length ≤ 1000000) :
 GCalls Tryz.prog 55 [.slice (hsG l) t, .func (.func F) [] caps] O (fun g O' => g = .bool (l.any p) ∧ O' = O) := by
 have cI := QnT O hc p hN l t hl
 cases hf : l.findIdx? p with
 | none =>
  rw [hf] at cI;have e : l.any p = false := by
   rw [List.findIdx?_eq_none_iff] at hf;rw [List.any_eq_false];intro x hx;rw [hf x hx]; simp
  rw [e];refine h55.ca ?_;refine vq0 ?_;refine cI.mono ?_;rintro g O' ⟨rfl, rfl⟩;refine vq0 ?_;rfl
 | some i =>
  rw [hf] at cI;have e : l.any p = true := by
   obtain ⟨h1, h2, _⟩ := List.findIdx?_eq_some_iff_getElem.1 hf;exact List.any_eq_true.2 ⟨_, List.getElem_mem h1, h2⟩
  have d0 : ((0 : Int) ≤ (i : Int)) = True := eq_true (by omega);rw [e];refine h55.ca ?_;refine vq0 ?_;refine cI.mono ?_;rintro g O' ⟨rfl, rfl⟩;exact vd1 d0
theorem gRm1 (a c : GObj) (X : List GObj) (S : List Hs) (h : Hs) (s : Nat) : GCalls Tryz.prog 56 [.agg (bytesG h.1), .ref [.map 2 s]] (a :: c :: .map s (kvG encB (setM S)) :: X) (fun g O' => g = .bool (decide (h ∈ S)) ∧ O' = (a :: c :: .map s (kvG encB (setM S)) :: X)) := by
 by_cases hx : h ∈ S
 · obtain ⟨i, hi, hv, _⟩ := look_idx encB (setM S) h true (by rw [QaL, if_pos hx]);rw [decide_eq_true hx];refine h56.ca ?_;exact vd4 @kfind_h hi hv @v32
 · obtain ⟨hi, _⟩ := look_none encB (setM S) h (by rw [QaL, if_neg hx]);rw [decide_eq_false hx];refine h56.ca ?_;exact vd3 @kfind_h hi @v32
def Qbi (S : List Hs) (h : Hs) : List Hs := if h ∈ S then S else S ++ [h]
def Qan (l : List Hs) : List Hs := l.foldl Qbi []
theorem Qib (S : List Hs) (h x : Hs) : x ∈ Qbi S h ↔ x ∈ S ∨ x = h := by
 unfold Qbi
 split
 · rename_i hm;exact ⟨.inl, fun q => q.elim id fun e => e ▸ hm⟩
 · simp
theorem QkZ {S : List Hs} (h : Hs) (hn : S.Nodup) : (Qbi S h).Nodup := by
 unfold Qbi
 split
 · exact hn
 · rename_i hm;exact List.nodup_append.2 ⟨hn, by simp, fun a ha b hb e => hm (by rw [List.mem_singleton.1 hb] at e; exact e ▸ ha)⟩
theorem Qic : ∀ (l S : List Hs), S.Nodup → (l.foldl Qbi S).Nodup ∧ (∀ x, x ∈ l.foldl Qbi S ↔ x ∈ S ∨ x ∈ l) ∧ (l.foldl Qbi S).length ≤ S.length + l.length
 | [], S, h => ⟨h, by simp, by simp⟩
 | a :: r, S, h => by
  obtain ⟨h1, h2, h3⟩ := Qic r (Qbi S a) (QkZ a h);refine ⟨h1, fun x => ?_, ?_⟩
  · rw [List.foldl_cons, h2, Qib]; simp [or_assoc]
  · rw [List.foldl_cons];have : (Qbi S a).length ≤ S.length + 1 := by unfold Qbi; split <;> simp
    simp only [List.length_cons]; omega
theorem QeV (l : List Hs) (x : Hs) : x ∈ Qan l ↔ x ∈ l := by rw [Qan, (Qic l [] List.nodup_nil).2.1]; simp
theorem Qjy (l : List Hs) : (Qan l).length ≤ l.length := by have := (Qic l [] List.nodup_nil).2.2; rw [List.length_nil, Nat.zero_add] at this; exact this
theorem Qhi (l : List Hs) (h : Hs) : Qan (l ++ [h]) = Qbi (Qan l) h := by simp [Qan]
theorem QiN : ∀ {S : List Hs} {h : Hs}, h ∈ S → mset (setM S) h true = setM S
 | [], h, hm => by cases hm
 | a :: r, h, hm => by
  rw [show setM (a :: r) = (a, true) :: setM r from rfl, mset];by_cases e : h = a
  · rw [if_pos e, e]
  · rw [if_neg e, QiN ((List.mem_cons.1 hm).resolve_left e)]
theorem Qk0 (S : List Hs) (h : Hs) : mset (setM S) h true = setM (Qbi S h) := by
 unfold Qbi
 split
 · exact QiN (by assumption)
 · exact Qdp S h (by assumption)
theorem rR0 (p0 p1 : GVal) (O : List GObj) : vcS Tryz.prog [] QnZ (vcN (NW (rS p0 p1 .any .any .any .any .any .any .any .any) O)) (gstart 67 [p0, p1] O) := by
 simp only [gstart, List.cons_append, List.nil_append, List.length_cons, List.length_nil, reduceAdd, reduceSub, List.replicate_succ, List.replicate_zero]
 exact vd7 @vcN.eq_1 @vcN.eq_2 @NW.eq_1 @leG_any @leG_self @and_true @true_and
theorem rR1 (p0 p1 : GVal) (st s : Nat) (m : GM) : vcS Tryz.prog [] Qn0 (vcN fun st' => ∃ sg sb, NW (rS p0 p1 (.ptr 3 sb 0 0) .any .any .any .any .any .any .any) (gObj st s m ++ [.map sg [], .row sb 1 [[.map 2 sg]]]) st') ⟨rS p0 p1 .any .any .any .any .any .any .any .any, gObj st s m⟩ := by
 refine vq8 @vcN.eq_1 @vcN.eq_2 @NW.eq_1 @leG_any @leG_self @and_true @true_and @rS.eq_1 ?_
 exact fun sg => ⟨rfl, fun sb => ⟨sg, sb, rfl, by simp [leG_self]⟩⟩
theorem rL1 (m : GM) (st s sg : Nat) (l : List Hs) (t : Tag) (ht : t = .nil → l = []) (hl : l.length ≤ 10000) : vcS Tryz.prog [] Qn1 (vcN (NW (rS (.ptr 0 st 0 0) .any (.ref [.map 2 sg]) .any .any .any .any .any .any .any) (gObj st s m ++ [.map sg (kvG encB (setM (Qan (inM m l))))]))) ⟨rS (.ptr 0 st 0 0) (.slice (hsG l) t) (.ref [.map 2 sg]) .any .any .any .any .any .any .any, gObj st s m ++ [.map sg []]⟩ := by
 have hfl : (inM m l).length ≤ l.length := List.length_filter_le _ _
 have cT := (gThere m st s l t ht (by omega)).keep2 rfl [.map sg []]
 rw [show (l.filter fun h => (look m h).isSome) = inM m l from rfl] at cT
 generalize inM m l = L at *
 refine vq1 @rS.eq_1 ?_
 refine cT.mono ?_
 rintro g O' ⟨rfl, rfl⟩
 refine vq1 @hsG_len ?_
 refine Qab (ι := { k : Nat // k ≤ L.length }) (fun k => ⟨rS (.ptr 0 st 0 0) .any (.ref [.map 2 sg]) (.slice (hsG L) .none) (.int .i64 L.length) (.int .i64 (k.1 : Nat)) .any .any .any .any, gObj st s m ++ [.map sg (kvG encB (setM (Qan (L.take k.1))))]⟩) (fun k => L.length - k.1) ?_ ?_
 · exact Into.first ⟨0, Nat.zero_le _⟩ ⟨[], by simp [kvG, Qan]⟩ (by simp [WL, leG_self, leG_any])
 · rintro ⟨k, hk⟩
   change k ≤ L.length at hk
   by_cases h : k < L.length
   · have d0 : ((k : Int) < (L.length : Int)) = True := eq_true (by omega);have eS := hsG_at L k h;have eT : Qan (L.take (k + 1)) = Qbi (Qan (L.take k)) (L.getD k h0) := by rw [takeH h, Qhi]
     generalize L.getD k h0 = x at *;generalize Qan (L.take k) = S at *;have em := Qk0 S x
     rw [← eT] at em;by_cases hx : x ∈ S
     · obtain ⟨i, hi, hv, hw⟩ := look_idx encB (setM S) x true (by rw [QaL, if_pos hx]);have hw := hw true;rw [em] at hw;refine vq10 @rS.eq_1 d0 eS @hsG_len @all_hsG @kfind_h hi hv hw @v32 ?_;refine ⟨by omega, fun sb => ?_⟩;exact Into.at ⟨k + 1, h⟩ (by show _ < _; simp; omega) ⟨[.row sb 32 [bytesG x.1]], by simp⟩ (by simp [WL, leG_self, leG_any, Qaa])
     · obtain ⟨hi, hw⟩ := look_none encB (setM S) x (by rw [QaL, if_neg hx]);have hw := hw true;rw [em] at hw;refine vq9 @rS.eq_1 d0 eS @hsG_len @all_hsG @kfind_h hi hw @v32 ?_;refine ⟨by omega, fun sb => ?_⟩;exact Into.at ⟨k + 1, h⟩ (by show _ < _; simp; omega) ⟨[.row sb 32 [bytesG x.1]], by simp⟩ (by simp [WL, leG_self, leG_any, Qaa])
   · have d0 : ((k : Int) < (L.length : Int)) = False := eq_false (by omega);rw [List.take_of_length_le (show L.length ≤ k by omega)];exact vd9 @rS.eq_1 d0 @vcN.eq_1 @vcN.eq_2 @NW.eq_1 @leG_any @leG_self @and_true @true_and
def rmF (m : GM) (S : List Hs) (h : Hs) : Er := if h ∈ S then none else if (parsM m h).any (fun p => decide (p ∈ S)) = true then some (some h, 10) else none
def QbM (m : GM) (S : List Hs) : Er := (QeL m).findSome? (rmF m S)
def rmQ (E : Er) (S : List GVal) (O : List GObj) : Ex → GSt → Prop
 | .normal, st' => E = none ∧ NW S O st'
 | .ret, st' => ∃ X, E ≠ none ∧ st'.o = O ++ X ∧ sget st'.s 4 = errV E
 | .exit _, _ => False
theorem Qg8 {l : List Hs} {k : Nat} (h : k < l.length) : l.drop k = l.getD k h0 :: l.drop (k + 1) := by
 rw [List.drop_eq_getElem_cons h]
 simp [List.getD, h]
def zb37 := ai @rS.eq_1 <| ai @hsG_len <| ai @all_hsG <| ai @kfind_h <| @v32
theorem rL2 (m : GM) (hm : GMOK m) (hk0 : (m.map (·.1)).Nodup) (st s sg : Nat) (S : List Hs) (hS : S.length ≤ 100000) : vcS Tryz.prog [] Qnj (rmQ (QbM m S) (rS (.ptr 0 st 0 0) .any (.ref [.map 2 sg]) .any .any .any .any .any .any .any) (gObj st s m ++ [.map sg (kvG encB (setM S))])) ⟨rS (.ptr 0 st 0 0) .any (.ref [.map 2 sg]) .any .any .any .any .any .any .any, gObj st s m ++ [.map sg (kvG encB (setM S))]⟩ := by
 have hml := hm.len
 have cH := (L.gHashes11 m (by omega) st s).keep2 rfl [.map sg (kvG encB (setM S))]
 rw [show sortR (m.map (·.1)) = QeL m from rfl] at cH
 have hKl := QkP hk0
 obtain ⟨K, eK⟩ : ∃ K, QeL m = K := ⟨_, rfl⟩
 have hKm : ∀ h ∈ K, (look m h).isSome = true := fun h hh => (QeM m h).1 (by rw [eK]; exact hh)
 rw [eK] at cH hKl
 have eR : QbM m S = K.findSome? (rmF m S) := by unfold QbM; rw [eK]
 rw [eR]
 clear eR eK
 refine vq1 @rS.eq_1 ?_
 refine cH.mono ?_
 rintro g O' ⟨rfl, rfl⟩
 refine vq1 @hsG_len ?_
 refine Qab (ι := { k : Nat // k ≤ K.length ∧ K.findSome? (rmF m S) = (K.drop k).findSome? (rmF m S) }) (fun k => ⟨rS (.ptr 0 st 0 0) .any (.ref [.map 2 sg]) .any .any .any (.slice (hsG K) .none) (.int .i64 K.length) (.int .i64 (k.1 : Nat)) .any, gObj st s m ++ [.map sg (kvG encB (setM S))]⟩) (fun k => K.length - k.1) ?_ ?_
 · exact Into.first ⟨0, Nat.zero_le _, by simp⟩ ⟨[], by simp⟩ (by simp [WL, leG_self, leG_any])
 · rintro ⟨k, hk, hf⟩
   change k ≤ K.length at hk
   change K.findSome? (rmF m S) = (K.drop k).findSome? (rmF m S) at hf
   by_cases h : k < K.length
   · have d0 : ((k : Int) < (K.length : Int)) = True := eq_true (by omega);have eS := hsG_at K k h;have eD := Qg8 h;have hin : K.getD k h0 ∈ K := by rw [List.getD_eq_getElem?_getD, List.getElem?_eq_getElem h]; exact List.getElem_mem h
     generalize K.getD k h0 = x at *;rw [eD, List.findSome?_cons] at hf;obtain ⟨ps, hps⟩ := Option.isSome_iff_exists.1 (hKm x hin);by_cases hx : x ∈ S
     · obtain ⟨i, hi, hv, _⟩ := look_idx encB (setM S) x true (by rw [QaL, if_pos hx]);have eF : rmF m S x = none := if_pos hx;rw [eF] at hf;refine vq5 d0 eS hi hv zb37 ?_;refine ⟨by omega, fun sb => ?_⟩;exact Into.at ⟨k + 1, h, hf⟩ (by show _ < _; simp; omega) ⟨[.row sb 32 [bytesG x.1]], by simp⟩ (by simp [WL, leG_self, leG_any, Qaa])
     · obtain ⟨hi, _⟩ := look_none encB (setM S) x (by rw [QaL, if_neg hx]);obtain ⟨j, hj, hjv, _⟩ := look_idx encL m x ps hps;have hpl : ps.length ≤ 4 := hm.row _ (Qdn hps);have cF := fun X => QpZ (caps := [.ref [.map 2 sg]]) (gObj st s m ++ .map sg (kvG encB (setM S)) :: X) rfl (fun p => decide (p ∈ S)) (fun p => gRm1 _ _ X S p sg) ps .none (by omega)
       have ep : parsM m x = ps := by rw [parsM, hps]; rfl
       have eF : rmF m S x = if ps.any (fun p => decide (p ∈ S)) = true then some (some x, 10) else none := by unfold rmF; rw [if_neg hx, ep]
       rw [eF] at hf;generalize ps.any (fun p => decide (p ∈ S)) = bb at *;cases bb with
       | false =>
        rw [if_neg (by decide)] at hf;refine vq6 d0 eS hi hj hjv zb37 ?_;refine ⟨by omega, fun sb => ?_⟩;refine (cF [.row sb 32 [bytesG x.1]]).mono ?_;rintro g O' ⟨rfl, rfl⟩;refine vq0 ?_;exact Into.at ⟨k + 1, h, hf⟩ (by show _ < _; simp; omega) ⟨[.row sb 32 [bytesG x.1]], by simp⟩ (by simp [WL, leG_self, leG_any, Qaa])
       | true =>
        rw [if_pos rfl] at hf;refine vq6 d0 eS hi hj hjv zb37 ?_;refine ⟨by omega, fun sb => ?_⟩;refine (cF [.row sb 32 [bytesG x.1]]).mono ?_;rintro g O' ⟨rfl, rfl⟩;refine vq3 @hsG_len @all_hsG @v32 ?_;refine (gOf x 10).then ?_ (by rfl)
        refine vq3 @rmQ.eq_1 @rmQ.eq_2 @rmQ.eq_3 ?_;exact ⟨[.row sb 32 [bytesG x.1]], by rw [hf]; simp, rfl, by rw [hf]; rfl⟩
   · have d0 : ((k : Int) < (K.length : Int)) = False := eq_false (by omega);rw [List.drop_of_length_le (show K.length ≤ k by omega)] at hf;refine vq10 @rS.eq_1 d0 @rmQ.eq_1 @rmQ.eq_2 @rmQ.eq_3 @NW.eq_1 @leG_any @leG_self @and_true @true_and ?_;exact hf
def mdel : GM → Hs → GM
 | [], _ => []
 | p :: r, h => if h = p.1 then r else p :: mdel r h
theorem QkN : ∀ (M : GM) (h : Hs) (i : Nat), idxM M h = some i → (kvG encL M).eraseIdx i = kvG encL (mdel M h)
 | [], h, i, e => by cases e
 | p :: r, h, i, e => by
  rw [idxM] at e;rw [mdel];by_cases hp : h = p.1
  · rw [if_pos hp] at e ⊢;cases e;rfl
  · rw [if_neg hp] at e ⊢;cases hi : idxM r h with
    | none => rw [hi] at e; cases e
    | some j =>
     rw [hi] at e;cases e;have := QkN r h j hi;simp only [kvG, List.map_cons, List.eraseIdx_cons_succ] at this ⊢;rw [this]
theorem QkO : ∀ (M : GM) (h : Hs), idxM M h = none → mdel M h = M
 | [], h, e => rfl
 | p :: r, h, e => by
  rw [idxM] at e;rw [mdel];by_cases hp : h = p.1
  · rw [if_pos hp] at e; cases e
  · rw [if_neg hp] at e ⊢;cases hi : idxM r h with
    | none => rw [QkO r h hi]
    | some j => rw [hi] at e; cases e
theorem QeK : ∀ (M : GM) (h : Hs), (M.map (·.1)).Nodup → mdel M h = M.filter fun p => !decide (p.1 = h)
 | [], h, _ => rfl
 | p :: r, h, hn => by
  rw [List.map_cons, List.nodup_cons] at hn;rw [mdel];by_cases hp : h = p.1
  · have : (r.filter fun q => !decide (q.1 = h)) = r := List.filter_eq_self.2 fun q hq => by
     have : q.1 ≠ h := fun e => hn.1 (by rw [← hp, ← e]; exact List.mem_map_of_mem hq)
     simp [this]
    rw [if_pos hp, List.filter_cons, this];simp [hp]
  · have hp' : ¬ p.1 = h := fun e => hp e.symm
    rw [if_neg hp, QeK r h hn.2, List.filter_cons];simp [hp']
def Qdc (m : GM) (S : List Hs) : GM := m.filter fun p => !decide (p.1 ∈ S)
theorem Qmw {m : GM} (h : (m.map (·.1)).Nodup) (S : List Hs) : ((Qdc m S).map (·.1)).Nodup := h.sublist (List.Sublist.map _ List.filter_sublist)
theorem Qjs {m : GM} (hm : (m.map (·.1)).Nodup) (S : List Hs) (h : Hs) : mdel (Qdc m S) h = Qdc m (S ++ [h]) := by
 rw [QeK _ _ (Qmw hm S), Qdc, Qdc, List.filter_filter]
 refine List.filter_congr fun p _ => ?_
 by_cases a : p.1 = h <;> by_cases b : p.1 ∈ S <;> simp [a, b]
theorem Qjt {m : GM} {S T : List Hs} (h : ∀ x, x ∈ S ↔ x ∈ T) : Qdc m S = Qdc m T := List.filter_congr fun p _ => by rw [decide_eq_decide.2 (h p.1)]
def QbL (m : GM) (S : List Hs) : GM := match QbM m S with
 | some _ => m
 | none => Qdc m S
abbrev C23 : Cfg := QuS h30
theorem rR20 (m : GM) (st s sg : Nat) (kv : List (GVal × GVal)) : VCs Tryz.prog [] Qkh (vcN fun st' => ∃ s', NW (rS (.ptr 0 st 0 0) .any (.ref [.map 2 sg]) .any .any .any .any .any .any .any) [.row st 1 [[.map 3 s']], .map s (kvG encL m), .map sg kv, .map s' (kvG encL m)] st') ⟨rS (.ptr 0 st 0 0) .any (.ref [.map 2 sg]) .any .any .any .any .any .any .any, gObj st s m ++ [.map sg kv]⟩ := by
 refine ⟨?_⟩
 have cC := QgI (O := gObj st s m ++ [.map sg kv]) (o := 1) (st := s) (kv := kvG encL m) rfl rfl
 refine vq1 @rS.eq_1 ?_
 refine cC.mono ?_
 rintro g O' ⟨s', rfl, rfl⟩
 refine vq7 @vcN.eq_1 @vcN.eq_2 @NW.eq_1 @leG_any @leG_self @and_true @true_and ?_
 exact ⟨s', rfl⟩
theorem rR21 (p0 p1 : GVal) (sg : Nat) (O : List GObj) : opsS Tryz.prog [] [(.mk (some 56) (.load 107 (.tmp 5)) none)] (NW ((rS p0 p1 .any .any .any .any .any .any .any .any).set 56 (.map 2 sg)) O) ⟨rS p0 p1 (.ref [.map 2 sg]) .any .any .any .any .any .any .any, O⟩ := by
 exact vd6 @rS.eq_1 @NW.eq_1 @leG_any @leG_self @and_true @true_and
theorem rR22 (p0 p1 x57 : GVal) (b : Bool) (r : List GVal) (O : List GObj) : opsS Tryz.prog [] [(.mk (some 59) (.extract (.tmp 58) 0) none)] (NW ((rS p0 p1 .any .any .any .any .any .any .any x57).set 59 (.bool b)) O) ⟨(rS p0 p1 .any .any .any .any .any .any .any x57).set 58 (.tuple (.bool b :: r)), O⟩ := by
 exact vd6 @rS.eq_1 @NW.eq_1 @leG_any @leG_self @and_true @true_and
theorem rR23 (p0 p1 x57 y : GVal) (h : Hs) (O : List GObj) (hst : ∀ K : Nat → Prop, stamp O K = ∀ st, K st) (htk : tickO O = O) : opsS Tryz.prog [] [(.mk (some 61) (.extract (.tmp 60) 0) none), (.mk (some 10) (.alloc 44) none), (.mk none (.store 44 (.tmp 10) (.tmp 61)) none)]
 (fun st' => ∃ v, NW ((rS p0 p1 .any .any .any .any .any .any .any x57).set 10 (.ptr O.length v 0 0)) (O ++ [.row v 32 [bytesG h.1]]) st') ⟨(rS p0 p1 .any .any .any .any .any .any .any x57).set 60 (.tuple [.agg (bytesG h.1), y]), O⟩ := by
 have hO : ∀ x : GObj, (O ++ [x])[O.length]? = some x := fun x => by simp
 have hS : ∀ x y : GObj, (O ++ [x]).set O.length y = O ++ [y] := fun x y => by simp
 refine vq1 (ai @NW.eq_1 <| ai @leG_any <| ai @leG_self <| ai @and_true <| ai @true_and <| ai @rS.eq_1 <| ai hst <| ai htk <| ai hO <| ai hS <| @v32) ?_
 first
  | exact fun v => ⟨v, rfl, by rw [leG_self]; trivial⟩
  | exact fun v => ⟨v, rfl⟩
theorem rR24 (p1 x57 : GVal) (h : Hs) (st v s' : Nat) (r1 : GObj) (M : GM) : vcS Tryz.prog [] Qki (vcN (NW (rS (.ptr 0 st 0 0) p1 .any .any .any .any .any .any .any x57) [.row st 1 [[.map 3 s']], r1, .dead, .map s' (kvG encL (mdel M h)), .row v 32 [bytesG h.1]])) ⟨(rS (.ptr 0 st 0 0) p1 .any .any .any .any .any .any .any x57).set 10 (.ptr 4 v 0 0), [.row st 1 [[.map 3 s']], r1, .dead, .map s' (kvG encL M), .row v 32 [bytesG h.1]]⟩ := by
 cases hi : idxM M h with
 | some i =>
  have e := QkN M h i hi;exact vd1 (ai @vcN.eq_1 <| ai @vcN.eq_2 <| ai @NW.eq_1 <| ai @leG_any <| ai @leG_self <| ai @and_true <| ai @true_and <| ai @rS.eq_1 <| ai @kfind_h <| ai hi <| ai e <| @v32)
 | none =>
  have e := QkO M h hi;rw [e];exact vd1 (ai @vcN.eq_1 <| ai @vcN.eq_2 <| ai @NW.eq_1 <| ai @leG_any <| ai @leG_self <| ai @and_true <| ai @true_and <| ai @rS.eq_1 <| ai @kfind_h <| ai hi <| @v32)
structure RW where
 (b r : Nat)
 es : Array MapEntry
 clock : Nat
 E0 : Env
 O0 : List GObj
 w0 : World
structure AtR (D : RW) (seen : Array Nat) (E : Env) (O : List GObj) (w : World) : Prop where
 sim : HSim E O w
 keep : Keep D.E0 D.O0 D.w0 E O w
 walk : WalkAt w D.b D.r D.es D.clock seen
 hb : Hid E O w D.b
 hr : Hid E O w D.r
theorem AtR.step {D : RW} {seen : Array Nat} {E E' : Env} {O O' : List GObj} {w w' : World} (h : AtR D seen E O w) (h' : HSim E' O' w') (k : Keep E O w E' O' w') : AtR D seen E' O' w' :=
 ⟨h', h.keep.trans k, walk_same h.walk (h.hb.keep k).2 (h.hr.keep k).2, (h.hb.keep k).1, (h.hr.keep k).1⟩
theorem AtR.poke {D : RW} (hr0 : D.w0.heap.size ≤ D.r) {seen seen' : Array Nat} {E : Env} {O : List GObj} {w w' : World} (h : AtR D seen E O w) (g : w.grownBy w' (some D.r)) (hw : WalkAt w' D.b D.r D.es D.clock seen') : AtR D seen' E O w' :=
 ⟨h.sim.grown g (fun r e => by cases e; exact ⟨h.hr.obj, h.hr.snap⟩), h.keep.grown g (fun r e => by cases e; exact hr0), hw, h.hb.grown g, h.hr.grown g⟩
abbrev rmO (st s s' : Nat) (m M : GM) : List GObj := [.row st 1 [[.map 3 s']], .map s (kvG encL m), .dead, .map s' (kvG encL M)]
theorem rLoop {Q : Exit → Act → World → Prop} (D : RW) (hD : BornOK D.es D.clock) (hr0 : D.w0.heap.size ≤ D.r) (m : GM) (hm : (m.map (·.1)).Nodup) (S : List Hs) (st s s' : Nat) (f : MapEntry → Hs × Bool) (hf : D.es.toList.map f = setM S) (hfe : ∀ e ∈ D.es.toList, EntryOK D.E0 e (.agg (bytesG (f e).1.1), encB (f e).2))
 {c24 : Code} {id22 id23 : Nat} {n1 n2 e1 e2 e3 e4 : Oper}
 (hn1 : n1.op = .next (.tmp 57) false ∧ n1.guard = none ∧ n1.dst = some 58) (hn2 : [n2].map (fun o => (⟨o.dst, o.op, none⟩ : SOp)) = [(.mk (some 59) (.extract (.tmp 58) 0) none)]) (gn2 : [n2].all (fun o => o.guard.isNone) = true)
 (he1 : e1.op = .entry (.tmp 57) ∧ e1.guard = none ∧ e1.dst = some 60) (he2 : [e2, e3, e4].map (fun o => (⟨o.dst, o.op, none⟩ : SOp)) = [(.mk (some 61) (.extract (.tmp 60) 0) none), (.mk (some 10) (.alloc 44) none), (.mk none (.store 44 (.tmp 10) (.tmp 61)) none)]) (ge2 : [e2, e3, e4].all (fun o => o.guard.isNone) = true)
 {CC : Cfg} (hro : CC.ro = []) (s24 : slim CC c24 = some Qki) (k24 : codeOk CC c24 = true)
 {E : Env} {a : Act} {w : World} (hA : AtR D #[] E (rmO st s s' m m) w) {p1 : GVal}
 (ha : SlotsR E a (rS (.ptr 0 st 0 0) p1 .any .any .any .any .any .any .any (.lit (.pointer (some ⟨D.r, 0, none⟩)))))
 (hq : ∀ seen T E' a' w', (∀ x, x ∈ T ↔ x ∈ S) → AtR D seen E' (rmO st s s' m (Qdc m T)) w' → SlotsR E' a' (rS (.ptr 0 st 0 0) p1 .any .any .any .any .any .any .any .any) → Q (.exit 4) a' w') :
 (Code.loop ((Code.region id22 #[n1, n2] false).seq ((Code.cond (.tmp 59) .skip (.exit 4)).seq (Code.block 5 ((Code.region id23 #[e1, e2, e3, e4] false).seq c24))))).wp Tryz.prog Q a w := by
 obtain ⟨x57, e57⟩ : ∃ x : GVal, .lit (.pointer (some ⟨D.r, 0, none⟩)) = x := ⟨_, rfl⟩
 have lit57 : ∀ {E : Env} {a : Act} {S : List GVal}, SlotsR E a S → S.getD 57 .any = x57 → a.eval (.tmp 57) = .pointer (some ⟨D.r, 0, none⟩) := by
  intro E a S h hx;have := SlotsR.ev (st := ⟨S, []⟩) h (.tmp 57)
  change VR E _ (S.getD 57 .any) at this
  rw [hx, ← e57] at this;generalize a.eval (.tmp 57) = v at this;cases this; rfl
 rw [e57] at ha
 refine wp_loop_ghost (fun n a w => ∃ seen xs E, Came D.es seen xs ∧ w.rangeLeft D.b D.r = n ∧ AtR D seen E (rmO st s s' m (Qdc m (xs.map fun e => (f e).1))) w ∧ SlotsR E a (rS (.ptr 0 st 0 0) p1 .any .any .any .any .any .any .any x57)) _ ⟨#[], [], E, Came.nil _, rfl, by
  have : Qdc m ([].map fun e => (f e).1) = m := List.filter_eq_self.2 fun p _ => by simp
  rw [this]; exact hA, ha⟩ ?_
 rintro n a1 w1 ⟨seen, xs, E1, hC, rfl, hA1, s1⟩
 obtain ⟨M, eM⟩ : ∃ M, Qdc m (xs.map fun e => (f e).1) = M := ⟨_, rfl⟩
 rw [eM] at hA1
 refine wp_seq (wp_region_lit (next_step hn1.2.1 hn1.1 hD hC (lit57 s1 rfl) hA1.walk ?_ ?_))
 · intro hp;rw [hn1.2.2];have hvt : VR E1 (.tuple #[.bool false]) (.tuple [.bool false]) := .tuple _ _ rfl (fun j g hj => by
    match j with
    | 0 => cases hj; exact .bool _
    | j + 1 => simp at hj)
   have s2 := (SlotsR.put (st := ⟨_, []⟩) s1 (.refl E1) (d := some 58) hvt [])
   refine ops_seg (st := ⟨(rS (.ptr 0 st 0 0) p1 .any .any .any .any .any .any .any x57).set 58 (.tuple [.bool false]), rmO st s s' m M⟩) 1 hn2 gn2 hA1.sim s2 (rR22 _ p1 x57 false [] _) ?_;rintro ⟨t2, O2⟩ E2 a2 w2 q2 k2 s2R ⟨e2', hw2⟩
   change O2 = rmO st s s' m M at e2'
   subst e2';have s3 := s2R.weak hw2;have hc : a2.eval (.tmp 59) = .bool false := by
    have : VR E2 (a2.eval (.tmp 59)) (.bool false) := SlotsR.ev (st := ⟨_, []⟩) s3 (.tmp 59);generalize a2.eval (.tmp 59) = v at this;cases this; rfl
   refine wpList_nil ?_;show (Code.seq _ _).wp _ _ _ _;refine wp_seq (wp_cond_split hc (fun ht => by cases ht) (fun _ => wp_exit ?_));refine hq seen (xs.map fun e => (f e).1) E2 a2 w2 ?_ (by rw [eM]; exact hA1.step q2 k2) (s3.weak (by simp [WL, leG_self, leG_any]));intro x;have h1 : (xs.map fun e => (f e).1).Perm S := by
    have h2 := (hp.map f).map (·.1);rw [hf, List.map_map] at h2
    simpa [setM, Function.comp_def] using h2
   exact h1.mem_iff
 · intro e w' hem hC2 hlt hwk hmu hg hent;rw [hn1.2.2];have hA' := hA1.poke hr0 hg hwk;have hvt : VR E1 (.tuple #[.bool true, e.key, e.val]) (.tuple [.bool true, .any, .any]) := .tuple _ _ rfl (fun j g hj => by
    match j with
    | 0 => cases hj; exact .bool _
    | 1 => cases hj; exact .any _
    | 2 => cases hj; exact .any _
    | j + 3 => simp at hj)
   have s2 := (SlotsR.put (st := ⟨_, []⟩) s1 (.refl E1) (d := some 58) hvt [])
   refine ops_seg (st := ⟨(rS (.ptr 0 st 0 0) p1 .any .any .any .any .any .any .any x57).set 58 (.tuple [.bool true, .any, .any]), rmO st s s' m M⟩) 1 hn2 gn2 hA'.sim s2 (rR22 _ p1 x57 true [.any, .any] _) ?_;rintro ⟨t2, O2⟩ E2 a2 w2 q2 k2 s2R ⟨e2', hw2⟩
   change O2 = rmO st s s' m M at e2'
   subst e2';have s3 := s2R.weak hw2;have hc : a2.eval (.tmp 59) = .bool true := by
    have : VR E2 (a2.eval (.tmp 59)) (.bool true) := SlotsR.ev (st := ⟨_, []⟩) s3 (.tmp 59);generalize a2.eval (.tmp 59) = v at this;cases this; rfl
   have hA2 := hA'.step q2 k2;have hent2 := hent w2 (hA'.hb.keep k2).2 (hA'.hr.keep k2).2;refine wpList_nil ?_;show (Code.seq _ _).wp _ _ _ _;refine wp_seq (wp_cond_split hc (fun ht => wp_skip ?_) (fun hf => by cases hf));show (Code.block _ _).wp _ _ _ _;refine wp_block (wp_seq (wp_region_lit (entry_step he1.2.1 he1.1 (lit57 s3 rfl) hent2 ?_)));rw [he1.2.2];obtain ⟨hv1, hv2⟩ := hfe e hem;obtain ⟨h, eh⟩ : ∃ h, (f e).1 = h := ⟨_, rfl⟩
   rw [eh] at hv1;have hvt2 : VR E2 (.tuple #[e.key, e.val]) (.tuple [.agg (bytesG h.1), .any]) := .tuple _ _ rfl (fun j g hj => by
    match j with
    | 0 => cases hj; exact hv1.mono hA2.keep.ext
    | 1 => cases hj; exact .any _
    | j + 2 => simp at hj)
   have s4 := (SlotsR.put (st := ⟨_, []⟩) s3 (.refl E2) (d := some 60) hvt2 []).weak (s' := (rS (.ptr 0 st 0 0) p1 .any .any .any .any .any .any .any x57).set 60 (.tuple [.agg (bytesG h.1), .any])) (by simp [GSt.put, WL, leG_self, leG_any]);refine ops_seg (st := ⟨(rS (.ptr 0 st 0 0) p1 .any .any .any .any .any .any .any x57).set 60 (.tuple [.agg (bytesG h.1), .any]), rmO st s s' m M⟩) 3 he2 ge2 hA2.sim s4 (rR23 _ p1 x57 .any h _ (fun _ => rfl) rfl) ?_;rintro ⟨t3, O3⟩ E3 a3 w3 q3 k3 s3R ⟨v, e3', hw3⟩
   change O3 = rmO st s s' m M ++ [.row v 32 [bytesG h.1]] at e3'
   subst e3';have s5 := s3R.weak hw3;refine wpList_nil ?_;refine wp_part (C := CC) (st := ⟨(rS (.ptr 0 st 0 0) p1 .any .any .any .any .any .any .any x57).set 10 (.ptr 4 v 0 0), [.row st 1 [[.map 3 s']], .map s (kvG encL m), .dead, .map s' (kvG encL M), .row v 32 [bytesG h.1]]⟩) mixS s24 k24 q3 s5 (by rw [hro]; exact rR24 p1 x57 h st v s' _ M) ?_;rintro ⟨t4, O4⟩ E4 a4 w4 q4 k4 s4R ⟨e4', hw4⟩
   change O4 = rmO st s s' m (mdel M h) ++ [.row v 32 [bytesG h.1]] at e4'
   subst e4';obtain ⟨q5, k5⟩ := q4.drop;have hA5 := hA2.step q5 ((k3.trans k4).trans k5);refine ⟨w4.rangeLeft D.b D.r, ?_, _, xs ++ [e], E4, hC2, rfl, ?_, s4R.weak hw4⟩
   · rw [hA5.walk.left_eq, ← hwk.left_eq]; exact hmu
   · rw [List.map_append, List.map_cons, List.map_nil, ← Qjs hm, eM, eh];exact hA5
theorem rEnd (p0 p1 : GVal) (O : List GObj) (K : GVal → List GObj → Prop) (h : K (.lit .nilIface) O) : vcS Tryz.prog [] (.seq Qnk .ret) (retQ Tryz.prog [.tmp 4] K) ⟨rS p0 p1 .any .any .any .any .any .any .any .any, O⟩ := by
 refine vq1 @rS.eq_1 ?_
 exact h
theorem Qpl (m : GM) (hm : GMOK m) (hk : (m.map (·.1)).Nodup) (st s : Nat) (l : List Hs) (t : Tag) (ht : t = .nil → l = []) (hl : l.length ≤ 10000) : GCalls Tryz.prog 30 [.ptr 0 st 0 0, .slice (hsG l) t] (gObj st s m) (fun g O' => g = errV (QbM m (Qan (inM m l))) ∧ ∃ s', O' = gObj st s' (QbL m (Qan (inM m l)))) := by
  have hSl : (Qan (inM m l)).length ≤ 100000 := by
    have h1 := Qjy (inM m l);have h2 : (inM m l).length ≤ l.length := List.length_filter_le _ _;omega
  have cL1 := fun sg => rL1 m st s sg l t ht hl
  generalize Qan (inM m l) = S at *;have cL2 := fun sg => rL2 m hm hk st s sg S hSl
  refine GCalls.dropTo ?_;refine gcalls_of_wp (hf := Tryz.func30) (hb := rfl) (hn := Tryz.ntmps30) (hr := Tryz.results30) (hen := by kernel_rfl) (hargs := by simp) ?_;intro E a w hs ha;refine wp_seq (wp_part (st := ⟨(gstart 67 [.ptr 0 st 0 0, .slice (hsG l) t] []).s, gObj st s m⟩) mixS (s := QnZ) (C := C0) (by kernel_rfl) (by kernel_rfl) hs ha (rR0 _ _ _) ?_);rintro ⟨t1, O1⟩ E1 a1 w1 q1 k1 s1R ⟨e1, hw1⟩
  change O1 = gObj st s m at e1
  subst e1;have s1 := s1R.weak hw1;show (Code.seq _ _).wp _ _ _ _;refine wp_seq (wp_part (st := ⟨rS (.ptr 0 st 0 0) (.slice (hsG l) t) .any .any .any .any .any .any .any .any, gObj st s m⟩) mixS (s := Qn0) (C := C0) (by kernel_rfl) (by kernel_rfl) q1 s1 (rR1 _ _ _ _ _) ?_);rintro ⟨t2, O2⟩ E2 a2 w2 q2 k2 s2R ⟨sg, sb, e2, hw2⟩
  change O2 = (gObj st s m ++ [.map sg []]) ++ [.row sb 1 [[.map 2 sg]]] at e2
  subst e2;obtain ⟨q3, k3, s3⟩ := q2.meltBox1 (s2R.weak hw2) 5 rfl rfl;have k03 := (k1.trans k2).trans k3;show (Code.seq _ _).wp _ _ _ _;refine wp_seq (wp_part (st := ⟨rS (.ptr 0 st 0 0) (.slice (hsG l) t) (.ref [.map 2 sg]) .any .any .any .any .any .any .any, gObj st s m ++ [.map sg []]⟩) mixS (s := Qn1) (C := C0) (by kernel_rfl) (by kernel_rfl) q3 (s3.weak (by simp [WL, leG_self, leG_any])) (cL1 sg) ?_);rintro ⟨t4, O4⟩ E4 a4 w4 q4 k4 s4R ⟨e4, hw4⟩
  change O4 = gObj st s m ++ [.map sg (kvG encB (setM S))] at e4
  subst e4;have s4 := s4R.weak hw4;have k04 := k03.trans k4;show (Code.seq _ _).wp _ _ _ _;refine wp_seq (wp_mono (vc_sound mixS (C := C23) _ (rmQ (QbM m S) (rS (.ptr 0 st 0 0) .any (.ref [.map 2 sg]) .any .any .any .any .any .any .any) (gObj st s m ++ [.map sg (kvG encB (setM S))])) ⟨rS (.ptr 0 st 0 0) .any (.ref [.map 2 sg]) .any .any .any .any .any .any .any, gObj st s m ++ [.map sg (kvG encB (setM S))]⟩ E4 a4 w4 (by kernel_rfl) q4 s4 (vcS_ok (C := C23) _ _ _ _ _ (by kernel_rfl) (fun _ _ h => h) (cL2 sg))) ?_);rintro e a5 w5 ⟨ex, ⟨t5, O5⟩, E5, hx, q5, k5, s5R, h5⟩;cases e <;> cases ex <;> first | exact hx.elim | exact h5.elim | skip
  · -- they may
    obtain ⟨eE, e5, hw5⟩ := h5
    change O5 = gObj st s m ++ [.map sg (kvG encB (setM S))] at e5
    subst e5;have s5 := s5R.weak hw5;have k05 := k04.trans k5;show (Code.seq _ _).wp _ _ _ _;refine wp_seq (QbS (st := ⟨rS (.ptr 0 st 0 0) .any (.ref [.map 2 sg]) .any .any .any .any .any .any .any, gObj st s m ++ [.map sg (kvG encB (setM S))]⟩) mixS (s := Qkh) (C := C0) (by kernel_rfl) (by kernel_rfl) q5 s5 (rR20 m st s sg (kvG encB (setM S))) ?_);rintro ⟨t6, O6⟩ E6 a6 w6 q6 k6 s6R ⟨s', e6, hw6⟩
    change O6 = [.row st 1 [[.map 3 s']], .map s (kvG encL m), .map sg (kvG encB (setM S)), .map s' (kvG encL m)] at e6
    subst e6;have s6 := s6R.weak hw6;have k06 := k05.trans k6;show (Code.seq _ _).wp _ _ _ _;refine wp_seq (wp_seq (wp_region_lit (ops_seg (st := ⟨rS (.ptr 0 st 0 0) .any (.ref [.map 2 sg]) .any .any .any .any .any .any .any, [.row st 1 [[.map 3 s']], .map s (kvG encL m), .map sg (kvG encB (setM S)), .map s' (kvG encL m)]⟩) 1 rfl rfl q6 s6 (rR21 _ _ _ _) ?_)));rintro ⟨t7, O7⟩ E7 a7 w7 q7 k7 s7R ⟨e7, hw7⟩
    change O7 = [.row st 1 [[.map 3 s']], .map s (kvG encL m), .map sg (kvG encB (setM S)), .map s' (kvG encL m)] at e7
    subst e7;have s7 := s7R.weak hw7;obtain ⟨lg, b, es, clock, hlg, hbg, hMg, q8, k8, hid8, hin8⟩ := q7.hideMap (i := 2) rfl
    change HSim E7 (rmO st s s' m m) w7 at q8
    change Keep E7 _ w7 E7 (rmO st s s' m m) w7 at k8
    change Hid E7 (rmO st s s' m m) w7 b at hid8
    have k08 := (k06.trans k7).trans k8;obtain ⟨f, hf, hfe⟩ := ent_fn (fun e (p : Hs × Bool) => EntryOK E7 e (.agg (bytesG p.1.1), encB p.2)) es.toList (setM S) (hMg.born.2.imp fun h e => h (congrArg _ e)) (by rw [Array.length_toList, hMg.size, kvG, List.length_map]) (fun i e p he hp => hMg.ent i e _ (by simpa using he) (by rw [kvG, List.getElem?_map, hp]; rfl)) ⟨(h0, true)⟩;have v56 : a7.eval (.tmp 56) = .map (some b) := map_val (SlotsR.ev (st := ⟨_, []⟩) s7 (.tmp 56)) hlg hbg;refine range_step (t := 107) (k := 44) (e := 4) (m := .tmp 56) rfl rfl (by kernel_rfl) v56 hMg.at_ hMg.born ?_;intro w9 hwk hg hsz;have hA : AtR ⟨b, w7.heap.size, es, clock, E7, rmO st s s' m m, w7⟩ #[] E7 (rmO st s s' m m) w9 :=
      ⟨q8.grown hg (fun r e => by cases e), (Keep.refl _ _ _).grown hg (fun r e => by cases e), hwk, hid8.grown hg,
       ⟨fun ⟨i, x, hx, hb⟩ => absurd ((q8.real i x hx).blk_lt hb) (Nat.lt_irrefl _), fun o => by
          cases hv : E7.snap w7.heap.size o with
          | none => rfl
          | some v => exact absurd (q8.lt hv) (Nat.lt_irrefl _), by show w7.heap.size < w9.heap.size; omega⟩⟩
    have hvl : VR E7 (.pointer (some ⟨w7.heap.size, 0, none⟩)) (.lit (.pointer (some ⟨w7.heap.size, 0, none⟩))) := .lit _;have s9 := (SlotsR.put (st := ⟨_, []⟩) s7 (.refl E7) (d := some 57) hvl []).weak (s' := rS (.ptr 0 st 0 0) .any .any .any .any .any .any .any .any (.lit (.pointer (some ⟨w7.heap.size, 0, none⟩)))) (by simp [GSt.put, WL, leG_self, leG_any]);refine wpList_nil ?_;show (Code.block _ _).wp _ _ _ _;refine wp_block (rLoop ⟨b, w7.heap.size, es, clock, E7, rmO st s s' m m, w7⟩ hMg.born (Nat.le_refl _) m hk S st s s' f hf hfe ⟨rfl, rfl, rfl⟩ rfl rfl ⟨rfl, rfl, rfl⟩ rfl rfl (CC := C23) rfl (by kernel_rfl) (by kernel_rfl) hA s9 ?_);intro seen T Ex ax wx hT hAx sx;refine inBlock_self ?_;obtain ⟨qp, kp⟩ := hAx.sim.pick (X := gObj st s' (Qdc m T)) [0, 3] ⟨⟨_, rfl, OLe.row ⟨⟨GLe.map _ _ _, trivial⟩, trivial⟩⟩, ⟨_, rfl, .refl _⟩, trivial⟩ (by simp) rfl;have K9 := (k08.trans hAx.keep).trans kp;have eM : QbL m S = Qdc m T := by
      unfold QbL;rw [eE];exact (Qjt hT).symm
    show (Code.seq _ _).wp _ _ _ _;refine wp_mono (vc_sound mixS _ (retQ Tryz.prog [.tmp 4] _) ⟨_, _⟩ _ ax wx (C := C0) (by kernel_rfl) qp sx (vcS_ok (C := C0) _ _ _ _ _ (by kernel_rfl) (fun _ _ h => h) (rEnd _ _ _ _ ?_))) (fun e a' w' hpost => Post.trans K9 hpost);refine ⟨_, gObj st s' (Qdc m T), [], by simp, leA_refl _, by rw [eE]; rfl, s', by rw [eM]⟩
  · -- one stays that stands on one that goes
    obtain ⟨X, hne, e5, h4⟩ := h5
    change O5 = (gObj st s m ++ [.map sg (kvG encB (setM S))]) ++ X at e5
    subst e5;refine ⟨.ret, ⟨t5, _⟩, E5, trivial, q5, k04.trans k5, s5R, ?_⟩;show dropTo _ (sget t5 4) _;refine ⟨errV (QbM m S), gObj st s m, [.map sg (kvG encB (setM S))] ++ X, by simp, ?_, rfl, s, ?_⟩
    · have h4' : sget t5 4 = errV (QbM m S) := h4;rw [h4']; exact leA_refl _
    · unfold QbL;cases hE : QbM m S with
      | none => exact absurd hE hne
      | some e => rfl
def Qk8 (L : GM) : List Hs := L.map (·.1)
theorem Qpo {m L : GM} (hm : Good m) (hL : SSC L) (hA : QaX m L) : QeL m = Qk8 L := by
 have hs : SS (Qk8 L) := by
  unfold SS Qk8;rw [List.pairwise_map];exact hL
 refine ss_eq (sortR_ss _) hs fun x => ?_
 show x ∈ QeL m ↔ x ∈ Qk8 L
 rw [QeM, hA x]
 exact ⟨QbF, QbE⟩
theorem Qk9 {m L : GM} (hA : QaX m L) (l : List Hs) : inM m l = inM L l := by
 unfold inM
 exact List.filter_congr fun x _ => by rw [hA x]
theorem Qde {n1 n2 : Hs → List Hs} (h : ∀ x y, y ∈ n1 x → y ∈ n2 x) {l : List Hs} {x : Hs} (hr : Reach n1 l x) : Reach n2 l x := by
 induction hr with
 | base x hx => exact .base x hx
 | step x y _ hy ih => exact .step x y ih (h x y hy)
theorem Qhl {m L : GM} (hm : Good m) (hg : Good L) (hA : QaX m L) (l : List Hs) : desL m l = desL L l := ss_eq (desL_ss _ _) (desL_ss _ _) fun x => by
 have hk : ∀ x y, y ∈ kidsM m x ↔ y ∈ kidsM L x := fun x y => by rw [QhB hm, QhB hg, hA.pars]
 rw [desL_mem, desL_mem, Qk9 hA]
 exact ⟨Qde fun x y => (hk x y).1, Qde fun x y => (hk x y).2⟩
theorem Qla {m : GM} {l : List Hs} (hn : l.Nodup) (h : ∀ x ∈ l, (look m x).isSome = true) : l.length ≤ m.length := by
 have := Qaz l (m.map (·.1)) hn fun x hx => QbF (h x hx)
 simpa using this
theorem QmN {m : GM} (hm : Good m) (l : List Hs) : (desL m l).length ≤ 1000 := by
 have := Qla (m := m) (Qgl (desL_ss m l)) fun x hx => by
  cases (desL_mem m l x).1 hx with
  | base _ h => exact (List.mem_filter.1 h).2
  | step y _ _ h => exact Qfp h
 have := hm.ok.len
 omega
def outM (m : GM) (S : List Hs) : GM := m.filter fun p => !decide (p.1 ∈ S)
theorem QcZ : ∀ (m : GM) (S : List Hs) (x : Hs), look (outM m S) x = if x ∈ S then none else look m x
 | [], S, x => by simp [outM, look]
 | p :: r, S, x => by
  have ih := QcZ r S x;unfold outM at ih ⊢;rw [List.filter_cons];by_cases hp : p.1 ∈ S
  · rw [if_neg (by simp [hp]), ih];by_cases hx : x ∈ S
    · rw [if_pos hx, if_pos hx]
    · rw [if_neg hx, if_neg hx, look, if_neg (fun e => hx (by rw [e]; exact hp))]
  · rw [if_pos (by simp [hp]), look, ih];by_cases e : x = p.1
    · rw [if_pos e, if_neg (by rw [e]; exact hp), look, if_pos e]
    · rw [if_neg e];by_cases hx : x ∈ S
      · rw [if_pos hx, if_pos hx]
      · rw [if_neg hx, if_neg hx, look, if_neg e]
theorem Qed {m : GM} {S : List Hs} {x y : Hs} (h : y ∈ parsM (outM m S) x) : x ∉ S ∧ y ∈ parsM m x := by
 unfold parsM at h ⊢
 rw [QcZ] at h
 by_cases hx : x ∈ S
 · rw [if_pos hx] at h; cases h
 · rw [if_neg hx] at h; exact ⟨hx, h⟩
theorem QmS {m : GM} (hm : Good m) {S : List Hs} (hS : ∀ x, x ∉ S → ∀ y ∈ parsM m x, y ∉ S) : Good (outM m S) := by
 have sub : (outM m S).Sublist m := List.filter_sublist
 refine ⟨⟨Nat.le_trans sub.length_le hm.ok.len, fun p hp => hm.ok.row p (sub.subset hp)⟩, hm.keys.sublist (sub.map _), fun x y hy => ?_, fun x hx => ?_⟩
 · obtain ⟨h1, h2⟩ := Qed hy;rw [QcZ, if_neg (hS x h1 y h2)];exact hm.closed x y h2
 · refine hm.acyc x ?_;have := Qde (n2 := parsM m) (fun a b h => (Qed h).2) hx;exact this.trans fun y hy => .base y (Qed hy).2
theorem Qlb {m L : GM} (hA : QaX m L) {S T : List Hs} (h : ∀ x, (look m x).isSome = true → (x ∈ S ↔ x ∈ T)) : QaX (outM m S) (outM L T) := fun x => by
 rw [QcZ, QcZ, hA x]
 cases e : look L x with
 | none => split <;> split <;> rfl
 | some v =>
  have := h x (by rw [hA x, e]; rfl);by_cases hx : x ∈ S
  · rw [if_pos hx, if_pos (this.1 hx)]
  · rw [if_neg hx, if_neg fun q => hx (this.2 q)]
theorem QeY {m : GM} {l : List Hs} {x : Hs} (h : (look m x).isSome = true) : x ∈ Qan (inM m l) ↔ x ∈ l := by
 rw [QeV, QjX]
 exact ⟨fun q => q.1, fun q => ⟨q, h⟩⟩
theorem QiR {α β γ : Type} (f : β → Option γ) (g : α → β) : ∀ l : List α, (l.map g).findSome? f = l.findSome? fun a => f (g a)
 | [] => rfl
 | a :: r => by rw [List.map_cons, List.findSome?_cons, List.findSome?_cons, QiR f g r]
theorem QiS {α β γ : Type} (f : α → Option β) (g : β → γ) : ∀ l : List α, (l.findSome? fun a => (f a).map g) = (l.findSome? f).map g
 | [] => rfl
 | a :: r => by rw [List.findSome?_cons, List.findSome?_cons, QiS f g r]; cases f a <;> rfl
theorem Qie {m L : GM} (hm : Good m) (hL : SSC L) (hA : QaX m L) (l : List Hs) : QbM m (Qan (inM m l)) = (rRmE L l).map fun h => (some h, 10) := by
 have hg := QbY hm hA hL
 unfold QbM rRmE
 rw [Qpo hm hL hA, Qk8, QiR, ← QiS]
 refine Qch fun c hc => ?_
 have hl := Qa1 (QcA hL) hc
 have hp : parsM m c.1 = c.2 := by rw [hA.pars, parsM_some hl]
 have h1 : c.1 ∈ Qan (inM m l) ↔ c.1 ∈ l := QeY (by rw [hA c.1, hl]; rfl)
 have h2 : c.2.any (fun p => decide (p ∈ Qan (inM m l))) = c.2.any (fun p => decide (p ∈ l)) := by
  have hh : ∀ p ∈ c.2, (p ∈ Qan (inM m l) ↔ p ∈ l) := fun p hp' => QeY (hm.closed c.1 p (by rw [hp]; exact hp'))
  rw [Bool.eq_iff_iff, List.any_eq_true, List.any_eq_true];exact ⟨fun ⟨p, a, b⟩ => ⟨p, a, decide_eq_true ((hh p a).1 (of_decide_eq_true b))⟩, fun ⟨p, a, b⟩ => ⟨p, a, decide_eq_true ((hh p a).2 (of_decide_eq_true b))⟩⟩
 unfold rmF rRmF
 rw [hp, h2]
 by_cases a : c.1 ∈ l
 · rw [if_pos (h1.2 a), if_pos a]; rfl
 · rw [if_neg fun q => a (h1.1 q), if_neg a];split <;> rfl
theorem Qk6 {m L : GM} (hm : Good m) (hL : SSC L) (hA : QaX m L) (l : List Hs) : Good (QbL m (Qan (inM m l))) ∧ SSC (rRmN L l) ∧ QaX (QbL m (Qan (inM m l))) (rRmN L l) := by
 have hs := Qie hm hL hA l
 unfold QbL rRmN
 cases e : rRmE L l with
 | some h =>
  rw [e] at hs;simp only [hs, Option.map_some];exact ⟨hm, hL, hA⟩
 | none =>
  rw [e] at hs;simp only [hs, Option.map_none];have hS : ∀ x, x ∉ Qan (inM m l) → ∀ y ∈ parsM m x, y ∉ Qan (inM m l) := fun x hx y hy q => by
   obtain ⟨p, h1, h2, h3⟩ := Qdj hy;have hk : x ∈ QeL m := by rw [QeM, ← h2]; exact QbE (List.mem_map_of_mem h1)
   have := List.findSome?_eq_none_iff.1 (show (QeL m).findSome? (rmF m (Qan (inM m l))) = none from hs) x hk;unfold rmF at this;rw [if_neg hx, if_pos (List.any_eq_true.2 ⟨y, hy, decide_eq_true q⟩)] at this;cases this
  refine ⟨QmS hm hS, ?_, Qlb (T := l) hA fun x hx => QeY hx⟩;exact hL.sublist List.filter_sublist
theorem iAdd (m M : GM) (hG : GOK m) (cs : List Cm) (e : Er) (he : Qdr m cs = e) (hM : Qds m cs = M) (st s : Nat) (hc : cs.length ≤ 1000000) (hp : ∀ c ∈ cs, c.2.length ≤ 1000000) (X : List GObj) {args' : List GVal} (ha : GLes args' [.ptr 0 st 0 0, .slice (csG cs) .none]) :
 GCalls Tryz.prog 11 args' (gObj st s m ++ X) (fun g O' => ∃ s', g = errV e ∧ O' = gObj st s' M ++ X) := by
 refine (GCalls.on2 (R := fun g x' y' => g = errV (Qdr m cs) ∧ ∃ s', x' = .row st 1 [[.map 1 s']] ∧ y' = .map s' (kvG encL (Qds m cs))) (gAdd m hG cs st s hc hp) (O := gObj st s m ++ X) 0 1 (by omega) rfl rfl (.refl _) ha rfl rfl (by rintro g x' y' ⟨_, s', rfl, rfl⟩; exact ⟨rfl, rfl⟩) rfl).mono ?_
 rintro g O' ⟨x', y', ⟨rfl, s', rfl, rfl⟩, rfl⟩
 exact ⟨s', by rw [he], by rw [hM]; rfl⟩
theorem Qpa {m : GM} {ti st s so : Nat} {n : Int} {M O M1 O2 : List Hs} {args args' : List GVal} (h : GCalls Tryz.prog 12 args (gObj st s m ++ idO2 ti so n M O) (fun g O' => ∃ so', g = .lit .nilIface ∧ O' = gObj st s m ++ idO2 ti so' n M1 O2)) (ha : GLes args' args) (X : List GObj) :
 GCalls Tryz.prog 12 args' (gObj st s m ++ (idO2 ti so n M O ++ X)) (fun g O' => ∃ so', g = .lit .nilIface ∧ O' = gObj st s m ++ (idO2 ti so' n M1 O2 ++ X)) := by
 refine ((GCalls.args h ha).tail (by rintro g O' ⟨so', rfl, rfl⟩; exact ⟨rfl, by simp⟩) rfl (by simp) X).mono ?_
 rintro g O' ⟨O1, ⟨so', rfl, rfl⟩, rfl⟩
 exact ⟨so', rfl, rfl⟩
def iM : GM := [(q1, []), (q2, [q1])]
theorem iMok : Qaj 2 [] [(q1, []), (q2, [q1])] [] = .ok iM := by
 have h1 : Qay 2 0 [(q1, []), (q2, [q1])] = none := by kernel_rfl
 have h2 : QaI [] [(q1, []), (q2, [q1])] = .ok iM := by kernel_rfl
 have h3 : Qby iM [(q1, []), (q2, [q1])] [] = none := by kernel_rfl
 have h4 : Qa9 [] iM [(q1, []), (q2, [q1])] = none := Qh8 rkQ (by decide) (by decide)
 unfold Qaj
 simp only [List.length_nil, h1, h2, h3, h4]
 rfl
theorem iMgm : GMOK iM := ⟨by decide, by decide⟩
theorem iV1 : VisL iM (fun h => (look (ofM [] []) h).isSome) [q1, q2] ([], []) ([q1, q2], [q1, q2]) := by
 have e1 : parsM iM q1 = [] := by kernel_rfl
 have e2 : parsM iM q2 = [q1] := by kernel_rfl
 refine .go q1 [q2] ([], []) ([q1], []) _ (by kernel_rfl) (by rw [e1]; exact .nil _) ?_
 exact .go q2 [] ([q1], [q1]) ([q1, q2], [q1]) _ (by kernel_rfl) (by rw [e2]; exact .skip q1 [] _ _ (by kernel_rfl) (.nil _)) (.nil _)
theorem iV2 : VisL iM (Qar (ofM [] [q1, q2])) [q1] ([], []) ([q1], [q1]) := by
 have e1 : parsM iM q1 = [] := by kernel_rfl
 exact .go q1 [] ([], []) ([q1], []) _ (by kernel_rfl) (by rw [e1]; exact .nil _) (.nil _)
theorem iV3 : VisL iM (fun h => (look (ofM [q1] [q2]) h).isSome) [q1] ([], []) ([], []) := .skip q1 [] _ _ (by kernel_rfl) (.nil _)
def zb28 := ai @qE1 <| ai @qE2 <| ai @qR1 <| ai @qR2 <| ai @v33 <| @v32
def zb29 := ai @qE1 <| ai @qE2 <| ai @qR1 <| ai @qR2 <| ai @errV.eq_1 <| ai @errV.eq_2 <| ai @errV.eq_3 <| ai @v33 <| @v32
theorem QuZ : GPure Tryz.prog 8 [] (.bool true) := by
 have cA := fun st s X => iAdd [] iM fourG [(q1, []), (q2, [q1])] none (by unfold Qdr; rw [iMok]) (by unfold Qds; rw [iMok]) st s (by decide) (by decide) X (args' := [.ptr 0 st 0 0, .slice [bytesG q1.1 ++ [.slice [] .nil], bytesG q2.1 ++ [.slice [bytesG q1.1] .full]] .full]) ⟨GLe.refl _, GLe.trans GLe.none (GLe.slice ⟨GLes.app (GLes.refl _) ⟨GLe.none, trivial⟩, GLes.app (GLes.refl _) ⟨GLe.none, trivial⟩, trivial⟩), trivial⟩
 have cU1 := fun ti st s so X => Qpa (args' := [.ptr 2 ti 0 0, .ptr 0 st 0 0, .agg [.slice [bytesG q1.1 ++ [.slice [] .nil], bytesG q2.1 ++ [.slice [bytesG q1.1] .full]] .full, .slice [] .nil, .int .i64 2]]) (QhJ iM iMgm ti st s so [(q1, []), (q2, [q1])] [] .nil (fun _ => rfl) 2 5 [] [] [] [] (.inl ⟨by decide, rfl, rfl⟩) _ iV1 (by decide) (by decide) (by decide) (by decide) (by decide) (by decide)) ⟨GLe.refl _, GLe.refl _, GLe.agg ⟨GLe.trans GLe.none (GLe.slice ⟨GLes.app (GLes.refl _) ⟨GLe.none, trivial⟩, GLes.app (GLes.refl _) ⟨GLe.none, trivial⟩, trivial⟩), GLe.refl _, GLe.refl _, trivial⟩, trivial⟩ X
 have cU2 := fun ti st s so X => Qpa (args' := [.ptr 2 ti 0 0, .ptr 0 st 0 0, .agg [.slice [] .nil, .slice [bytesG q1.1] .full, .int .i64 1]]) (QhJ iM iMgm ti st s so [] [q1] .full (by simp) 1 5 [] [q1, q2] [q1] [q2] (.inr ⟨rfl, _, iV2, rfl, rfl, by decide, by decide⟩) _ iV3 (by decide) (by decide) (by decide) (by decide) (by decide) (by decide)) ⟨GLe.refl _, GLe.refl _, GLe.agg ⟨GLe.none, GLe.refl _, GLe.refl _, trivial⟩, trivial⟩ X
 have e1 : idV (ofM [q1] [q2]) q1 = .tuple [.int .i64 0, .bool true] := by kernel_rfl
 have e2 : idV (ofM [q1] [q2]) q2 = .tuple [.int .i64 1099511627776, .bool true] := by kernel_rfl
 have c1 := fun ti so g1 g2 hg X => iAt2 (iID ti so 5 [q1] [q2] q1) g1 g2 hg X
 have c2 := fun ti so g1 g2 hg X => iAt2 (iID ti so 5 [q1] [q2] q2) g1 g2 hg X
 rw [e1] at c1
 rw [e2] at c2
 have c3 := fun ti so g1 g2 hg X => iAt2 (args := []) (Qd4 ti so 5 [q1] [q2]) g1 g2 hg X
 have c4 := fun ti so g1 g2 hg X => iAt2 (args := []) (QfO ti so 5 [q1] [q2]) g1 g2 hg X
 refine GCalls.toPure ?_
 refine h8.ca ?_
 refine vq0 ?_
 refine gNew.mono ?_
 rintro g O' ⟨st, s, rfl, rfl⟩
 refine vq0 ?_
 refine (Quy [] st s 5 (by decide) (by decide)).mono ?_
 rintro g O' ⟨ti, so, rfl, rfl⟩
 refine vq2 Tryz.underlying28 zb28 ?_
 intro sr
 refine (cA st s _).mono ?_
 rintro g O' ⟨s', rfl, rfl⟩
 refine vq2 Tryz.underlying28 zb29 ?_
 refine (cU1 ti st s' so _).mono ?_
 rintro g O' ⟨so2, rfl, rfl⟩
 refine vq2 Tryz.underlying28 zb29 ?_
 refine (cU2 ti st s' so2 _).mono ?_
 rintro g O' ⟨so3, rfl, rfl⟩
 refine vq2 Tryz.underlying28 zb29 ?_
 refine (c1 ti so3 _ _ rfl _).mono ?_
 rintro g O' ⟨rfl, rfl⟩
 refine vq1 zb28 ?_
 refine (c2 ti so3 _ _ rfl _).mono ?_
 rintro g O' ⟨rfl, rfl⟩
 refine vq1 zb28 ?_
 refine (c3 ti so3 _ _ rfl _).mono ?_
 rintro g O' ⟨rfl, rfl⟩
 refine vq1 zb28 ?_
 refine (c4 ti so3 _ _ rfl _).mono ?_
 rintro g O' ⟨rfl, rfl⟩
 refine vq1 zb28 ?_
 exact ⟨1, .bool true, rfl, by rw [Qea]⟩
theorem Qh6 {m : GM} {M O : List Hs} (h : Qgh m M O) (hk : (m.map (·.1)).Nodup) : (M ++ O).length = m.length := by
 have := Qmh h.nd hk fun x => (h.all x).trans ⟨QbF, QbE⟩
 rw [List.length_map] at this
 exact this
theorem QmT {m : GM} (hm : Good m) {x y : Hs} (h : y ∈ kidsM m x) : x ∈ parsM m y := by
 obtain ⟨q, h1, h2, rfl⟩ := kidsM_mem.1 h
 rw [parsM_some (Qa1 hm.keys h1)]
 exact h2
theorem QfH {m : GM} (hm : Good m) {M O : List Hs} (h : Qgh m M O) {hs : List Hs} (hh : ∀ x ∈ hs, x ∉ M) {x : Hs} (hx : x ∈ desL m hs) : x ∉ M := by
 have upM := ((UpL.app M O []).1 h.up).1
 rw [desL_mem] at hx
 induction hx with
 | base x hx => exact hh x (List.mem_filter.1 hx).1
 | step z y _ hy ih => exact fun q => ih (QfF upM q (QmT hm hy))
theorem QiP {p : Hs → Bool} : ∀ {L : List Hs}, (∃ x ∈ L, p x = true) → ∃ A h B, L = A ++ h :: B ∧ (∀ x ∈ A, p x = false) ∧ p h = true
 | [], ⟨x, hx, _⟩ => by cases hx
 | y :: r, h => by
  cases hp : p y with
  | true => exact ⟨[], y, r, rfl, by simp, hp⟩
  | false =>
   obtain ⟨A, z, B, e, h1, h2⟩ := QiP (L := r) (by
    obtain ⟨x, hx, hq⟩ := h;rcases List.mem_cons.1 hx with q | q
    · rw [q, hp] at hq; cases hq
    · exact ⟨x, q, hq⟩)
   exact ⟨y :: A, z, B, by rw [e]; rfl, fun x hx => by
    rcases List.mem_cons.1 hx with q | q
    · rw [q]; exact hp
    · exact h1 x q, h2⟩
theorem QiT {m L : GM} (hA : QaX m L) {dn dn' : Hs → Bool} (hd : ∀ x, dn x = dn' x) {r : List Hs} {s T : WSt} (h : VisL m dn r s T) : VisL L dn' r s T := by
 have e : dn = dn' := funext hd
 subst e
 induction h with
 | nil so => exact .nil so
 | skip p r so T hp _ ih => exact .skip p r so T (by rw [← hp]; unfold QaP; rw [hA p]) ih
 | go p r so so1 T hp _ _ ih1 ih2 => exact .go p r so so1 T (by rw [← hp]; unfold QaP; rw [hA p]) (by rw [← hA.pars]; exact ih1) ih2
theorem QmO {m : GM} {M O : List Hs} (hm : Good m) (hN : Qgh m M O) {gr : Int} {cs : List Cm} {hs : List Hs} {m1 L1 : GM} (hj : Qaj gr m cs hs = .ok m1) (hA1 : QaX m1 L1) (n : Int) :
 (gr = 1 ∧ ∃ T : WSt, VisL m1 (Qar (ofM M O)) hs ([], []) T ∧ VisL L1 (fun x => decide (x ∈ M)) hs ([], []) T ∧ n < (M.length : Int) + T.2.length ∧ T.2.length ≤ 1000) ∨
 ∃ M1 O1 T2, ((gr ≠ 1 ∧ M1 = M ∧ O1 = O) ∨ (gr = 1 ∧ ∃ T1 : WSt, VisL m1 (Qar (ofM M O)) hs ([], []) T1 ∧ M1 = M ++ T1.2 ∧ O1 = woL O T1.2 ∧ (M.length : Int) + T1.2.length ≤ n ∧ T1.2.length ≤ 100000)) ∧
  VisL m1 (fun h => (look (ofM M1 O1) h).isSome) (hs ++ cs.map (·.1)) ([], []) T2 ∧ Qgh m1 M1 (O1 ++ T2.2) ∧ M1.length ≤ 1000 ∧ O1.length + T2.2.length ≤ 1000 ∧ Qat O M1 = O1 ∧
  ((gr ≠ 1 ∧ M1 = M) ∨ (gr = 1 ∧ ∃ T : WSt, VisL L1 (fun x => decide (x ∈ M)) hs ([], []) T ∧ T.2.length ≤ 10000 ∧ M1 = M ++ T.2 ∧ (M.length : Int) + T.2.length ≤ n)) ∧
  VisL L1 (fun x => decide (x ∈ M1 ++ Qat O M1)) (hs ++ cs.map (·.1)) ([], []) T2 := by
 obtain ⟨e1, e2, e3, e4, e5⟩ := Qdh hj
 obtain ⟨j1, j2, j3, j4⟩ := Qbq e2 hm.keys
 have hg1 := Qek hm hj
 have hl1 := hg1.ok.len
 have hMO := Qh6 hN hm.keys
 rw [List.length_append] at hMO
 have hml := hm.ok.len
 have hext : ∀ x l, look m x = some l → look m1 x = some l := j2
 have hcs : ∀ x, (look m1 x).isSome = true → (look m x).isSome = true ∨ x ∈ cs.map (·.1) := fun x hx => by
  obtain ⟨l, hl⟩ := Option.isSome_iff_exists.1 hx;rcases j4 x l hl with q | q
  · exact .inl (by rw [q]; rfl)
  · exact .inr (List.mem_map.2 ⟨_, q, rfl⟩)
 have hdis : ∀ x ∈ O, x ∉ M := fun x hx hy => by
  have := List.nodup_append.1 hN.nd;exact this.2.2 x hy x hx rfl
 have hmas : ∀ x, Qar (ofM M O) x = decide (x ∈ M) := Qdt hN.nd (by omega)
 have key : ∃ M1 O1, ((gr ≠ 1 ∧ M1 = M ∧ O1 = O) ∨ (gr = 1 ∧ ∃ T1 : WSt, VisL m1 (Qar (ofM M O)) hs ([], []) T1 ∧ M1 = M ++ T1.2 ∧ O1 = woL O T1.2)) := by
  by_cases hg : gr = 1
  · obtain ⟨T1, h1, _⟩ := QkQ m1 (Qar (ofM M O)) (m1.length + 1) hs [] [] List.nodup_nil (by simp) (by simp);exact ⟨_, _, .inr ⟨hg, T1, h1, rfl, rfl⟩⟩
  · exact ⟨M, O, .inl ⟨hg, rfl, rfl⟩⟩
 obtain ⟨M1, O1, hcase⟩ := key
 obtain ⟨T2, hT2, _⟩ := QkQ m1 (fun h => (look (ofM M1 O1) h).isSome) (m1.length + 1) (hs ++ cs.map (·.1)) [] [] List.nodup_nil (by simp) (by simp)
 obtain ⟨hN1, hM1⟩ := QmJ hN hg1 hext hcs (by omega) hcase hT2
 have hMO1 := Qh6 hN1 hg1.keys
 rw [List.length_append, List.length_append] at hMO1
 have hk : Qat O M1 = O1 := by
  rcases hcase with ⟨_, rfl, rfl⟩ | ⟨_, T1, _, rfl, rfl⟩
  · exact List.filter_eq_self.2 fun x hx => by simp [hdis x hx]
  · refine List.filter_congr fun x hx => ?_;rw [decide_eq_decide.2 (show x ∈ M ++ T1.2 ↔ x ∈ T1.2 by rw [List.mem_append]; exact ⟨fun q => q.resolve_left (hdis x hx), .inr⟩)]
 have hnd : (M1 ++ O1).Nodup := by
  have := hN1.nd
  rw [← List.append_assoc] at this;exact (List.nodup_append.1 this).1
 have hv2 : VisL L1 (fun x => decide (x ∈ M1 ++ Qat O M1)) (hs ++ cs.map (·.1)) ([], []) T2 := QiT hA1 (fun x => by rw [hk, QkT hnd]) hT2
 rcases hcase with ⟨q, rfl, rfl⟩ | ⟨q, T1, h1, h2, h3⟩
 · exact .inr ⟨_, _, T2, .inl ⟨q, rfl, rfl⟩, hT2, hN1, by omega, by omega, hk, .inl ⟨q, rfl⟩, hv2⟩
 · have hlen : M1.length = M.length + T1.2.length := by rw [h2, List.length_append]
   have hv1 := QiT hA1 hmas h1;by_cases hf : n < (M.length : Int) + T1.2.length
   · exact .inl ⟨q, T1, h1, hv1, hf, by omega⟩
   · exact .inr ⟨M1, O1, T2, .inr ⟨q, T1, h1, h2, h3, by omega, by omega⟩, hT2, hN1, by omega, by omega, hk, .inr ⟨q, T1, hv1, by omega, h2, by omega⟩, hv2⟩
theorem UpL.out {m m1 : GM} {S : List Hs} (hp : ∀ x, x ∉ S → ∀ y ∈ parsM m1 x, y ∈ parsM m x ∧ y ∉ S) : ∀ (l acc : List Hs), UpL m acc l → UpL m1 (Qat acc S) (Qat l S)
 | [], _, _ => trivial
 | x :: r, acc, h => by
  have ih := UpL.out hp r (acc ++ [x]) h.2;unfold Qat at ih ⊢;rw [List.filter_append] at ih;by_cases hx : x ∈ S
  · rw [List.filter_cons, if_neg (by simp [hx])];rw [List.filter_cons, if_neg (by simp [hx]), List.filter_nil, List.append_nil] at ih;exact ih
  · rw [List.filter_cons, if_pos (by simp [hx])];rw [List.filter_cons, if_pos (by simp [hx]), List.filter_nil] at ih;refine ⟨fun y hy => ?_, ih⟩;obtain ⟨h1, h2⟩ := hp x hx y hy;exact List.mem_filter.2 ⟨h.1 y h1, by simp [h2]⟩
theorem Qhm {m L : GM} (hm : Good m) (hL : SSC L) (hA : QaX m L) (l : List Hs) : rRmE L (desL L l) = none := by
 have hg := QbY hm hA hL
 unfold rRmE
 rw [List.findSome?_eq_none_iff]
 intro c hc
 unfold rRmF
 by_cases h : c.1 ∈ desL L l
 · rw [if_pos h]
 · rw [if_neg h, if_neg];intro q;obtain ⟨p, p1, p2⟩ := List.any_eq_true.1 q;refine h ((desL_mem L l c.1).2 (.step p c.1 ((desL_mem L l p).1 (of_decide_eq_true p2)) (kidsM_mem.2 ⟨c, hc, p1, rfl⟩)))
theorem QjA {m L : GM} (hm : Good m) (hL : SSC L) (hA : QaX m L) {M O : List Hs} (hN : Qgh m M O) {l : List Hs} (hl : ∀ x ∈ l, x ∉ M) :
 woL O (l ++ desL m l) = Qat O (desL L l) ∧ Qgh (QbL m (Qan (inM m (desL L l)))) M (Qat O (desL L l)) := by
 have hg := QbY hm hA hL
 have eD := Qhl hm hg hA l
 have hfree : ∀ x ∈ desL L l, x ∉ M := fun x hx => QfH hm hN hl (by rw [eD]; exact hx)
 have hE := Qie hm hL hA (desL L l)
 rw [Qhm hm hL hA, Option.map_none] at hE
 have hth : ∀ x ∈ M ++ O, (look m x).isSome = true := fun x hx => (hN.all x).1 hx
 have hdes : ∀ x ∈ desL L l, (look m x).isSome = true := fun x hx => by
  rw [hA x];cases (desL_mem L l x).1 hx with
  | base _ h => exact (List.mem_filter.1 h).2
  | step y _ _ h => exact Qfp h
 refine ⟨?_, ?_⟩
 · refine List.filter_congr fun x hx => ?_;rw [decide_eq_decide.2];rw [List.mem_append, eD];refine ⟨fun q => q.elim (fun q => ?_) id, .inr⟩;exact (desL_mem L l x).2 (.base x (List.mem_filter.2 ⟨q, by rw [← hA x]; exact hth x (List.mem_append_right _ hx)⟩))
 · have er : QbL m (Qan (inM m (desL L l))) = outM m (Qan (inM m (desL L l))) := by unfold QbL; rw [hE]; rfl
   rw [er];generalize hS : Qan (inM m (desL L l)) = S at *;have hSm : ∀ x, x ∈ S ↔ x ∈ desL L l := fun x => by
    rw [← hS, QeV, QjX];exact ⟨fun q => q.1, fun q => ⟨q, hdes x q⟩⟩
   have hsub : (M ++ Qat O (desL L l)).Sublist (M ++ O) := (List.Sublist.refl M).append List.filter_sublist;have hkM : Qat M S = M := List.filter_eq_self.2 fun x hx => by
    have : x ∉ S := fun q => hfree x ((hSm x).1 q) hx
    simp [this]
   have hkO : Qat O S = Qat O (desL L l) := List.filter_congr fun x _ => by rw [decide_eq_decide.2 (hSm x)]
   refine ⟨hN.nd.sublist hsub, fun x => ?_, ?_⟩
   · rw [QcZ];by_cases hx : x ∈ S
     · rw [if_pos hx];refine ⟨fun q => ?_, fun q => by cases q⟩;rcases List.mem_append.1 q with q | q
       · exact absurd q (hfree x ((hSm x).1 hx))
       · have := (List.mem_filter.1 q).2;simp [(hSm x).1 hx] at this
     · rw [if_neg hx, ← hN.all, List.mem_append, List.mem_append];have hx' : x ∉ desL L l := fun q => hx ((hSm x).2 q)
       unfold Qat;rw [List.mem_filter];simp [hx']
   · have := UpL.out (m1 := outM m S) (S := S) (fun x hx y hy => by
      obtain ⟨_, h2⟩ := Qed hy;refine ⟨h2, fun q => hx ((hSm x).2 ?_)⟩;have hr := (desL_mem L l y).1 ((hSm y).1 q);refine (desL_mem L l x).2 (.step y x hr ?_);rw [QhB hg, ← hA.pars]; exact h2) (M ++ O) [] hN.up
     unfold Qat at this hkM hkO ⊢;rw [List.filter_append, hkM, hkO] at this;exact this
end Gv.Tryz
