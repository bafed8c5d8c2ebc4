/- Contracts: the reference's Descendants. -/
import Derived.Test.YtnenmmdpclglhaaGreatDoorP13
import Derived.Test.YtnenmmdpclglhaaGreatDoorP12
import Derived.Test.YtnenmmdpclglhaaGreatDoorP11
set_option linter.defProp false
set_option linter.unusedSimpArgs false
set_option linter.unusedVariables false
set_option maxHeartbeats 8000000
set_option maxRecDepth 20000
namespace Gv.Tryz
open Go Gv Go.Proofs
open Nat (reduceEqDiff reduceAdd reduceSub reduceLeDiff reduceMul reduceLT)
theorem Qk1 : ∀ (B : List Bool) (i : Nat), i < B.length → B.getD i false = false → (B.set i true).count true = B.count true + 1
 | [], i, h, _ => by simp at h
 | b :: r, 0, _, e => by
  simp at e; subst e; simp [List.count_cons]
 | b :: r, i + 1, h, e => by
  have := Qk1 r i (by simpa using h) (by simpa using e);rw [List.set_cons_succ, List.count_cons, List.count_cons, this]; omega
theorem QdK (B : List Bool) (i q : Nat) (b : Bool) (h : i < B.length) : (B.set i b).getD q false = if i = q then b else B.getD q false := by
 rw [List.getD_eq_getElem?_getD, List.getElem?_set]
 by_cases e : i = q
 · rw [if_pos e, if_pos e, if_pos h]; rfl
 · rw [if_neg e, if_neg e, List.getD_eq_getElem?_getD]
def Qhj (L : GM) (B : List Bool) (i : Nat) : Prop := B.getD i false = true ∨ ∀ y ∈ (L.getD i default).2, ∀ j, Qb4 L y = some j → B.getD j false = false
theorem Qpm {L : GM} (hL : SSC L) (hg : Good L) {l : List Hs} {B : List Bool} (hB : B.length = L.length) (hs : ∀ q, q < L.length → B.getD q false = true → Reach (kidsM L) (inM L l) (hdL L q)) (hb : ∀ q, q < L.length → hdL L q ∈ l → B.getD q false = true) (hc : ∀ i, i < L.length → Qhj L B i) : Qbw L B = desL L l := by
 have hf := fun x => QcQ L x
 have hfi : ∀ x, (look L x).isSome = true → ∃ j, Qb4 L x = some j ∧ j < L.length ∧ hdL L j = x := fun x hx => by
  cases e : Qb4 L x with
  | none => rw [(hf x).2 e] at hx; cases hx
  | some j => exact ⟨j, rfl, ((hf x).1 j e).1, ((hf x).1 j e).2.2⟩
 have inj : ∀ a b, a < L.length → b < L.length → hdL L a = hdL L b → a = b := fun a b ha hb e => by
  rcases Nat.lt_trichotomy a b with q | q | q
  · have := Qg6 hL q (by omega);rw [show (L.getD a default).1 = (L.getD b default).1 from e] at this;exact absurd this (LT.irrefl _)
  · exact q
  · have := Qg6 hL q (by omega);rw [show (L.getD b default).1 = (L.getD a default).1 from e.symm] at this;exact absurd this (LT.irrefl _)
 refine ss_eq (QiM L B hL) (desL_ss L l) fun x => ?_
 rw [Qhh L B x hB, desL_mem]
 constructor
 · rintro ⟨i, h1, h2, h3⟩
   rw [← h3]; exact hs i h1 h2
 · intro hx;have key : ∀ z, Reach (kidsM L) (inM L l) z → ∀ j, Qb4 L z = some j → B.getD j false = true := by
    intro z hz;induction hz with
    | base z h =>
     intro j hj;obtain ⟨a1, a2, a3⟩ := (hf z).1 j hj;exact hb j a1 (by rw [show hdL L j = z from a3]; exact (List.mem_filter.1 h).1)
    | step x z _ hy ih =>
     intro j hj;obtain ⟨a1, a2, a3⟩ := (hf z).1 j hj;obtain ⟨q, q1, q2, rfl⟩ := kidsM_mem.1 hy;have hlq := Qa1 (QcA hL) q1;rw [hlq] at a2;have eq : (L.getD j default).2 = q.2 := by injection a2 with a2; exact a2.symm
     have hx1 : (look L x).isSome = true := hg.closed q.1 x (by rw [parsM_some hlq]; exact q2);obtain ⟨k, k1, k2, k3⟩ := hfi x hx1;have hk := ih k k1;rcases hc j a1 with h | h
     · exact h
     · have := h x (by rw [eq]; exact q2) k k1;rw [hk] at this; cases this
   have hth : (look L x).isSome = true := by
    cases hx with
    | base x hx => exact (List.mem_filter.1 hx).2
    | step _ _ _ hy =>
     obtain ⟨q, h1, _, rfl⟩ := kidsM_mem.1 hy;exact QbE (List.mem_map_of_mem h1)
   obtain ⟨j, j1, j2, j3⟩ := hfi x hth;exact ⟨j, j2, key x hx j j1, j3⟩
def zb39 := ai @Qbr <| ai @Nat.sub_zero <| ai @Nat.zero_add <| ai @QdJ <| ai @Qpf <| @true_imp_iff
def zb40 := ai @Qae <| ai @comG.eq_1 <| ai @hsG_len <| ai @all_hsG <| ai @QdJ <| ai @Qbr <| ai @Nat.sub_zero <| ai @Nat.zero_add <| ai @true_imp_iff <| ai @v33 <| @v32
theorem QgB (L : GM) (hL : SSC L) (hg : Good L) (l : List Hs) (t : Tag) (hll : l.length ≤ 100000) (rt : Nat) :
 GCalls Tryz.prog 53 [.ptr 0 rt 0 0, .slice (hsG l) t] (rObj rt L) (fun g O' => g = .slice (hsG (desL L l)) .none ∧ O' = rObj rt L) := by
 have hml := hg.ok.len
 have hf := fun x => QcQ L x
 have hend := fun B => @Qpm L hL hg l B
 refine GCalls.dropTo ?_
 refine h53.ca ?_
 refine vqd @Qae (ai @QgN <| @QaV.eq_1) ?_
 refine ⟨by omega, by omega, by omega, fun sb => ?_⟩
 have eI : List.replicate L.length [GVal.bool false] = blr (List.replicate L.length false) := by simp [blr]
 rw [eI]
 obtain ⟨n, hn⟩ : ∃ n, L.length = n := ⟨_, rfl⟩
 rw [hn] at hend
 have hfi : ∀ x, (look L x).isSome = true → ∃ j, Qb4 L x = some j ∧ j < n ∧ hdL L j = x := fun x hx => by
  cases e : Qb4 L x with
  | none => rw [(hf x).2 e] at hx; cases hx
  | some j => exact ⟨j, rfl, by rw [← hn]; exact ((hf x).1 j e).1, ((hf x).1 j e).2.2⟩
 have hpk : ∀ k, k < n → L.getD k default ∈ L := fun k hk => by
  rw [List.getD_eq_getElem?_getD, List.getElem?_eq_getElem (by omega)];exact List.getElem_mem (by omega)
 have cF := fun x (X : List GObj) => GCalls.keep1' (Qmz L hL (by omega) x rt) (O := rObj rt L ++ X) 0 rfl rfl rfl rfl
 have cI := fun x => hIn l t x (by omega)
 refine Qab (ι := { p : Nat × List Bool // p.1 ≤ n ∧ p.2.length = n ∧ ∀ q, q < n → (p.2.getD q false = true ↔ q < p.1 ∧ hdL L q ∈ l) }) (fun p => ⟨[.ptr 0 rt 0 0, .slice (hsG l) t, .any, .any, .any, .own 1 sb 0 n, .int .i64 (p.1.1 : Nat)] ++ List.replicate 83 .any, rObj rt L ++ [.row sb 1 (blr p.1.2)]⟩) (fun p => n - p.1.1) ?_ ?_
 · exact Into.first ⟨(0, List.replicate n false), Nat.zero_le _, by simp, fun q hq => by rw [List.getD_eq_getElem?_getD, List.getElem?_replicate, if_pos hq]; simp⟩ ⟨[], by simp [hn]⟩ (by simp [WL, leG_self, leG_any, hn])
 · rintro ⟨⟨i, B⟩, hi, hB, hBq⟩
   change i ≤ n at hi
   have hB : B.length = n := hB;have hBq : ∀ q, q < n → (B.getD q false = true ↔ q < i ∧ hdL L q ∈ l) := hBq;by_cases h : i < n
   · have d0 : ((i : Int) < (n : Int)) = True := eq_true (by omega);have eC := Qa0 L i (by omega);obtain ⟨xh, ps, hx⟩ : ∃ xh xp, L.getD i default = (xh, xp) := ⟨_, _, rfl⟩
     have hxh : hdL L i = xh := by show (L.getD i default).1 = xh; rw [hx]
     rw [hx] at eC;have cIx := cI xh;refine vq7 d0 eC @Qae @comG.eq_1 hn @v33 @v32 ?_;refine ⟨by omega, ?_⟩;refine cIx.then ?_ (by rfl)
     have eB := QiL B i (by omega);refine vq3 hB eB zb39 ?_;refine ⟨by omega, by omega, h, h, ?_⟩;refine Into.at ⟨(i + 1, B.set i (decide (xh ∈ l))), by show i + 1 ≤ n; omega, by show (B.set i (decide (xh ∈ l))).length = n; rw [List.length_set]; exact hB, fun q hq => ?_⟩ (by show n - (i + 1) < n - i; omega) ⟨[], by simp⟩ (by simp [WL, leG_self, leG_any, Qaa]);show (B.set i (decide (xh ∈ l))).getD q false = true ↔ q < i + 1 ∧ hdL L q ∈ l;rw [QdK B i q _ (by omega)];by_cases e : i = q
     · subst e;rw [if_pos rfl, hxh, decide_eq_true_eq];exact ⟨fun w => ⟨by omega, w⟩, fun w => w.2⟩
     · rw [if_neg e, hBq q hq];exact ⟨fun w => ⟨by omega, w.2⟩, fun w => ⟨by omega, w.2⟩⟩
   · have d0 : ((i : Int) < (n : Int)) = False := eq_false (by omega);obtain rfl : n = i := by omega
     refine vq3 d0 @Qae hn ?_;refine Qab (ι := { p : Bool × List Bool // p.2.length = n ∧ (∀ q, q < n → p.2.getD q false = true → Reach (kidsM L) (inM L l) (hdL L q)) ∧ (∀ q, q < n → hdL L q ∈ l → p.2.getD q false = true) ∧ (p.1 = false → ∀ k, k < n → Qhj L p.2 k) }) (fun p => ⟨[.ptr 0 rt 0 0, .slice (hsG l) t, .any, .any, .any, .own 1 sb 0 n, .any, .bool p.1.1] ++ List.replicate 82 .any, rObj rt L ++ [.row sb 1 (blr p.1.2)]⟩) (fun p => (n - p.1.2.count true) + if p.1.1 = true then 1 else 0) ?_ ?_
     · refine Into.first ⟨(true, B), hB, fun q hq hb => ?_, fun q hq hm => ?_, by simp⟩ ⟨[], by simp⟩ (by simp [WL, leG_self, leG_any])
       · exact .base _ (List.mem_filter.2 ⟨((hBq q hq).1 hb).2, by
          have := hpk q hq;rw [show hdL L q = (L.getD q default).1 from rfl, Qa1 (QcA hL) this]; rfl⟩)
       · exact (hBq q hq).2 ⟨hq, hm⟩
     · clear hBq hB h d0 hi;rintro ⟨⟨a, B⟩, hB, hS, hBs, hC⟩;have hB : B.length = n := hB;have hS : ∀ q, q < n → B.getD q false = true → Reach (kidsM L) (inM L l) (hdL L q) := hS;have hBs : ∀ q, q < n → hdL L q ∈ l → B.getD q false = true := hBs;have hC : a = false → ∀ k, k < n → Qhj L B k := hC;have cS := fun (B : List Bool) (hB : B.length = n) => rSome L (by omega) B (by rw [hB, hn]) rt sb
       cases a with
       | false =>
        have cSB := cS B hB;rw [hend B hB hS hBs (hC rfl), hn] at cSB;refine vq0 ?_;refine cSB.mono ?_;rintro g O' ⟨rfl, rfl⟩;refine vq0 ?_;exact ⟨_, rObj rt L, [.row sb 1 (blr B)], rfl, leA_refl _, rfl, rfl⟩
       | true =>
        refine vq0 ?_;refine Qab (ι := { p : (Nat × Bool) × List Bool // p.1.1 ≤ n ∧ p.2.length = n ∧ (∀ q, q < n → p.2.getD q false = true → Reach (kidsM L) (inM L l) (hdL L q)) ∧ (∀ q, q < n → hdL L q ∈ l → p.2.getD q false = true) ∧ ((p.1.2 = false ∧ p.2 = B ∧ ∀ k, k < p.1.1 → Qhj L B k) ∨ (p.1.2 = true ∧ B.count true < p.2.count true)) }) (fun p => ⟨[.ptr 0 rt 0 0, .slice (hsG l) t, .any, .any, .any, .own 1 sb 0 n, .any, .bool p.1.1.2, .int .i64 (p.1.1.1 : Nat)] ++ List.replicate 81 .any, rObj rt L ++ [.row sb 1 (blr p.1.2)]⟩) (fun p => n - p.1.1.1) ?_ ?_
        · exact Into.first ⟨((0, false), B), Nat.zero_le _, hB, hS, hBs, .inl ⟨rfl, rfl, fun k hk => absurd hk (Nat.not_lt_zero _)⟩⟩ ⟨[], by simp⟩ (by simp [WL, leG_self, leG_any])
        · rintro ⟨⟨⟨i, a⟩, B1⟩, hi, hB1, hS1, hBs1, hC1⟩
          change i ≤ n at hi
          have hB1 : B1.length = n := hB1;have hS1 : ∀ q, q < n → B1.getD q false = true → Reach (kidsM L) (inM L l) (hdL L q) := hS1;have hBs1 : ∀ q, q < n → hdL L q ∈ l → B1.getD q false = true := hBs1;have hC1 : (a = false ∧ B1 = B ∧ ∀ k, k < i → Qhj L B k) ∨ (a = true ∧ B.count true < B1.count true) := hC1;by_cases h : i < n
          · have d0 : ((i : Int) < (n : Int)) = True := eq_true (by omega);have eC := Qa0 L i (by omega);have hmem := hpk i h;obtain ⟨xh, ps, hx⟩ : ∃ xh xp, L.getD i default = (xh, xp) := ⟨_, _, rfl⟩
            have hxh : hdL L i = xh := by show (L.getD i default).1 = xh; rw [hx]
            rw [hx] at eC hmem;have hlk := Qa1 (QcA hL) hmem;have hclo : ∀ y ∈ ps, (look L y).isSome = true := fun y hy => hg.closed xh y (by rw [parsM_some hlk]; exact hy)
            have hp4 : ps.length ≤ 4 := hg.ok.row _ hmem;refine vq3 d0 @Qae hn ?_;refine Qab (ι := { p : (Nat × Bool) × List Bool // p.1.1 ≤ ps.length ∧ p.2.length = n ∧ (∀ q, q < n → p.2.getD q false = true → Reach (kidsM L) (inM L l) (hdL L q)) ∧ (∀ q, q < n → hdL L q ∈ l → p.2.getD q false = true) ∧ ((p.1.2 = false ∧ p.2 = B ∧ (∀ k, k < i → Qhj L B k) ∧ ∀ j, j < p.1.1 → ∀ q, Qb4 L (ps.getD j h0) = some q → B.getD q false = false) ∨ (p.1.2 = true ∧ B.count true < p.2.count true)) }) (fun p => ⟨[.ptr 0 rt 0 0, .slice (hsG l) t, .any, .any, .any, .own 1 sb 0 n, .any, .bool p.1.1.2, .int .i64 (i : Nat), .int .i64 (p.1.1.1 : Nat)] ++ List.replicate 80 .any, rObj rt L ++ [.row sb 1 (blr p.1.2)]⟩) (fun p => ps.length - p.1.1.1) ?_ ?_
            · refine Into.first ⟨((0, a), B1), Nat.zero_le _, hB1, hS1, hBs1, ?_⟩ ⟨[], by simp⟩ (by simp [WL, leG_self, leG_any])
              rcases hC1 with ⟨q1, q2, q3⟩ | q
              · exact .inl ⟨q1, q2, q3, fun j hj => absurd hj (Nat.not_lt_zero _)⟩
              · exact .inr q
            · clear hC1 hBs1 hS1 hB1;rintro ⟨⟨⟨j, a⟩, B1⟩, hj, hB1, hS1, hBs1, hC1⟩
              change j ≤ ps.length at hj
              have hB1 : B1.length = n := hB1;have hS1 : ∀ q, q < n → B1.getD q false = true → Reach (kidsM L) (inM L l) (hdL L q) := hS1;have hBs1 : ∀ q, q < n → hdL L q ∈ l → B1.getD q false = true := hBs1;have hC1 : (a = false ∧ B1 = B ∧ (∀ k, k < i → Qhj L B k) ∧ ∀ j', j' < j → ∀ q, Qb4 L (ps.getD j' h0) = some q → B.getD q false = false) ∨ (a = true ∧ B.count true < B1.count true) := hC1;have eB := QiL B1 i (by omega);have out : (B1.getD i false = true ∨ ps.length ≤ j) → (a = false ∧ B1 = B ∧ ∀ k, k < i + 1 → Qhj L B k) ∨ (a = true ∧ B.count true < B1.count true) := fun w => by
               rcases hC1 with ⟨w1, rfl, w3, w4⟩ | w1
               · refine .inl ⟨w1, rfl, fun k hk => ?_⟩;by_cases e : k = i
                 · subst e;rcases w with w | w
                   · exact .inl w
                   · refine .inr fun y hy q hq => ?_;rw [hx] at hy;obtain ⟨j', hj', rfl⟩ := List.getElem_of_mem hy;refine w4 j' (by have : j' < ps.length := hj'; omega) q ?_;rw [List.getD_eq_getElem?_getD, List.getElem?_eq_getElem hj']; exact hq
                 · exact w3 k (by omega)
               · exact .inr w1
              by_cases h' : j < ps.length
              · have d2 : ((j : Int) < (ps.length : Int)) = True := eq_true (by omega);cases eb : B1.getD i false with
                | true =>
                 rw [eb] at eB;refine vq1 (ai d2 <| ai eC <| ai @Qae <| ai @comG.eq_1 <| ai @hsG_len <| ai hn <| ai @QdJ <| ai hB1 <| ai eB <| ai @Qbr <| ai @Nat.sub_zero <| ai @Nat.zero_add <| ai @true_imp_iff <| ai @v33 <| @v32) ?_;refine ⟨by omega, by omega, by omega, by omega, h, h, ?_⟩;exact Into.at ⟨((i + 1, a), B1), by show i + 1 ≤ n; omega, hB1, hS1, hBs1, out (.inl eb)⟩ (by show n - (i + 1) < n - i; omega) ⟨[], by simp⟩ (by simp [WL, leG_self, leG_any, Qaa, QcB])
                | false =>
                 rw [eb] at eB;have eP := hsG_at ps j h';have ej : norm .i64 ((j : Int) + 1) = (j : Int) + 1 := QaZ (by omega);have hym : ps.getD j h0 ∈ ps := by
                  rw [List.getD_eq_getElem?_getD, List.getElem?_eq_getElem h']; exact List.getElem_mem h'
                 obtain ⟨y, hy⟩ : ∃ y, ps.getD j h0 = y := ⟨_, rfl⟩
                 rw [hy] at eP hym;obtain ⟨q, q1, q2, q3⟩ := hfi y (hclo y hym);have cFy := cF y [.row sb 1 (blr B1)];have ez : QcJ L y = (q : Int) := by unfold QcJ; rw [q1]
                 rw [ez] at cFy;have eQ := QiL B1 q (by omega);cases eq : B1.getD q false with
                 | true =>
                  rw [eq] at eQ;refine vq7 d2 eC eP hn hB1 eB zb40 ?_;refine ⟨by omega, by omega, by omega, by omega, h, h, by omega, by omega, by omega, cFy.mono ?_⟩;rintro g O' ⟨rfl, rfl⟩;refine vq5 hB1 eQ eB ej zb39 ?_;have hcs := Qk1 B1 i (by omega) eb;refine ⟨by omega, by omega, q2, q2, by omega, by omega, h, h, ?_⟩;refine Into.at ⟨((j + 1, true), B1.set i true), by show j + 1 ≤ ps.length; omega, by show (B1.set i true).length = n; rw [List.length_set]; exact hB1, fun k hk hb => ?_, fun k hk hm => ?_, .inr ⟨rfl, ?_⟩⟩ (by show ps.length - (j + 1) < ps.length - j; omega) ⟨[], by simp⟩ (by simp [WL, leG_self, leG_any, Qaa, QcB])
                  · have hb : (B1.set i true).getD k false = true := hb;rw [QdK B1 i k _ (by omega)] at hb;by_cases e : i = k
                    · subst e;rw [hxh];refine .step y xh ?_ (kidsM_mem.2 ⟨(xh, ps), hmem, hym, rfl⟩);have := hS1 q q2 eq;rw [q3] at this; exact this
                    · rw [if_neg e] at hb;exact hS1 k hk hb
                  · show (B1.set i true).getD k false = true;rw [QdK B1 i k _ (by omega)];by_cases e : i = k
                    · rw [if_pos e]
                    · rw [if_neg e]; exact hBs1 k hk hm
                  · show B.count true < (B1.set i true).count true;rw [hcs];rcases hC1 with ⟨_, rfl, _⟩ | ⟨_, w⟩
                    · omega
                    · omega
                 | false =>
                  rw [eq] at eQ;refine vq7 d2 eC eP hn hB1 eB zb40 ?_;refine ⟨by omega, by omega, by omega, by omega, h, h, by omega, by omega, by omega, cFy.mono ?_⟩;rintro g O' ⟨rfl, rfl⟩;refine vq5 hB1 eQ eB ej zb39 ?_;refine ⟨by omega, by omega, q2, q2, ?_⟩;refine Into.at ⟨((j + 1, a), B1), by show j + 1 ≤ ps.length; omega, hB1, hS1, hBs1, ?_⟩ (by show ps.length - (j + 1) < ps.length - j; omega) ⟨[], by simp⟩ (by simp [WL, leG_self, leG_any, Qaa, QcB]);rcases hC1 with ⟨w1, w2, w3, w4⟩ | w1
                  · refine .inl ⟨w1, w2, w3, fun j' hj' q' hq' => ?_⟩;by_cases e : j' = j
                    · subst e;rw [hy, q1] at hq';injection hq' with hq'
                      subst hq'
                      rw [← show B1 = B from w2]; exact eq
                    · exact w4 j' (by have : j' < j + 1 := hj'; omega) q' hq'
                  · exact .inr w1
              · have d2 : ((j : Int) < (ps.length : Int)) = False := eq_false (by omega);refine vq8 d2 eC @Qae @comG.eq_1 @hsG_len hn @v33 @v32 ?_;refine ⟨by omega, by omega, ?_⟩;exact Into.at ⟨((i + 1, a), B1), by show i + 1 ≤ n; omega, hB1, hS1, hBs1, out (.inr (by omega))⟩ (by show n - (i + 1) < n - i; omega) ⟨[], by simp⟩ (by simp [WL, leG_self, leG_any, Qaa, QcB])
          · have d0 : ((i : Int) < (n : Int)) = False := eq_false (by omega);refine vq3 d0 @Qae hn ?_;have hcn : B1.count true ≤ n := by rw [← hB1]; exact List.count_le_length
            refine Into.at ⟨(a, B1), hB1, hS1, hBs1, fun ha k hk => ?_⟩ ?_ ⟨[], by simp⟩ (by simp [WL, leG_self, leG_any, Qaa, QcB])
            · rcases hC1 with ⟨w1, rfl, w3⟩ | ⟨w1, _⟩
              · exact w3 k (by omega)
              · rw [w1] at ha; cases ha
            · show (n - B1.count true + if a = true then 1 else 0) < n - B.count true + 1;rcases hC1 with ⟨rfl, rfl, _⟩ | ⟨rfl, w⟩
              · simp
              · rw [if_pos rfl]; omega
def chkV : Er → GVal
 | none => .tuple [.int .i64 0, .agg (bytesG h0.1), .bool false]
 | some (none, n) => .tuple [.int .i64 n, .agg (bytesG h0.1), .bool false]
 | some (some h, n) => .tuple [.int .i64 n, .agg (bytesG h.1), .bool true]
noncomputable def Qbk (gr : Int) (L : GM) (cs : List Cm) (hs : List Hs) : Er := match Qaj gr L cs hs with
 | .error e => some e
 | .ok _ => none
theorem QgA : ([.int .u8 0, .int .u8 0, .int .u8 0, .int .u8 0, .int .u8 0, .int .u8 0, .int .u8 0, .int .u8 0, .int .u8 0, .int .u8 0, .int .u8 0, .int .u8 0, .int .u8 0, .int .u8 0, .int .u8 0, .int .u8 0, .int .u8 0, .int .u8 0, .int .u8 0, .int .u8 0, .int .u8 0, .int .u8 0, .int .u8 0, .int .u8 0, .int .u8 0, .int .u8 0, .int .u8 0, .int .u8 0, .int .u8 0, .int .u8 0, .int .u8 0, .int .u8 0] : List GVal) = bytesG h0.1 := rfl
section
variable {gr : Int} {L M : GM} {cs : List Cm} {hs : List Hs}
theorem Qli (h : QcG gr cs.length hs.length) : Qbk gr L cs hs = some (none, 1) := by
 unfold Qbk Qaj Qay
 rw [if_pos h]
theorem Qlj {e : Option Hs × Int} (h : ¬ QcG gr cs.length hs.length) (h1 : cs.findSome? Qbl = some e) : Qbk gr L cs hs = some e := by
 unfold Qbk Qaj Qay
 rw [if_neg h, h1]
theorem Qpt {x : Hs} {n : Int} (h1 : Qay gr hs.length cs = none) (h2 : QaI L cs = .error (x, n)) : Qbk gr L cs hs = some (some x, n) := by
 unfold Qbk Qaj
 rw [h1]
 simp only [h2]
theorem Qlk {e : Option Hs × Int} (h1 : Qay gr hs.length cs = none) (h2 : QaI L cs = .ok M) (h3 : Qby M cs hs = some e) : Qbk gr L cs hs = some e := by
 unfold Qbk Qaj
 rw [h1]
 simp only [h2, h3]
theorem QmV {e : Option Hs × Int} (h1 : Qay gr hs.length cs = none) (h2 : QaI L cs = .ok M) (h3 : Qby M cs hs = none) (h4 : Qa9 L M cs = some e) : Qbk gr L cs hs = some e := by
 unfold Qbk Qaj
 rw [h1]
 simp only [h2, h3, h4]
theorem Qpu (h1 : Qay gr hs.length cs = none) (h2 : QaI L cs = .ok M) (h3 : Qby M cs hs = none) (h4 : Qa9 L M cs = none) (h5 : 1000 < M.length) : Qbk gr L cs hs = some (none, 13) := by
 unfold Qbk Qaj
 rw [h1]
 simp only [h2, h3, h4, if_pos h5]
theorem ck_ok (h1 : Qay gr hs.length cs = none) (h2 : QaI L cs = .ok M) (h3 : Qby M cs hs = none) (h4 : Qa9 L M cs = none) (h5 : ¬ 1000 < M.length) : Qbk gr L cs hs = none := by
 unfold Qbk Qaj
 rw [h1]
 simp only [h2, h3, h4, if_neg h5]
end
theorem QmW {m M : GM} {cs : List Cm} (hm : Good m) (h : QaI m cs = .ok M) {x : Hs} (hx : (look m x).isSome = true) : ¬ Reach (parsM M) (parsM M x) x := by
 obtain ⟨_, k2, _, _⟩ := Qbq h hm.keys
 obtain ⟨l, eo⟩ := Option.isSome_iff_exists.1 hx
 rw [parsM_some (k2 x l eo)]
 intro hr
 have : ∀ z, Reach (parsM M) l z → Reach (parsM m) l z ∧ (look m z).isSome = true := fun z hz => by
  induction hz with
  | base z hz => exact ⟨.base z hz, hm.closed x z (by rw [parsM_some eo]; exact hz)⟩
  | step z y _ hy ih =>
   obtain ⟨lz, hlz⟩ := Option.isSome_iff_exists.1 ih.2;rw [parsM_some (k2 z lz hlz)] at hy;have hy' : y ∈ parsM m z := by rw [parsM_some hlz]; exact hy
   exact ⟨.step z y ih.1 hy', hm.closed z y hy'⟩
 exact hm.acyc x (by rw [parsM_some eo]; exact (this x hr).1)
noncomputable def refE (X : GM) (c : Cm) : Er := if Qc4 X c.1 = true then some (some c.1, 12) else none
theorem Qch {α β : Type} {f g : α → Option β} : ∀ {l : List α}, (∀ c ∈ l, f c = g c) → l.findSome? f = l.findSome? g
 | [], _ => rfl
 | c :: r, h => by
  rw [List.findSome?_cons, List.findSome?_cons, h c (by simp), Qch fun x hx => h x (by simp [hx])]
theorem Qll {L M X : GM} {cs : List Cm} (hg : Good L) (h : QaI L cs = .ok M) (ha : QaX M X) : cs.findSome? (refE X) = Qa9 L M cs := by
 obtain ⟨_, k2, k3, _⟩ := Qbq h hg.keys
 unfold Qa9
 refine Qch fun c hc => ?_
 have e3 := k3 c hc
 have hr : Qc4 X c.1 = Qc4 M c.1 := by unfold Qc4; rw [ha.pars]
 unfold refE QbN
 rw [hr]
 cases ho : (look L c.1).isSome with
 | true => rw [Qeo (QmW hg h ho)]; simp
 | false =>
  simp only [Bool.false_eq_true, if_false];by_cases q : Reach (parsM M) c.2 c.1
  · rw [Qfo (by rw [parsM_some e3]; exact q), if_pos q]; rfl
  · rw [Qeo (by rw [parsM_some e3]; exact q), if_neg q]; rfl
theorem solA (l : List UInt8) : (∀ c ∈ bytesG l, c.solid = true) = True := by
 rw [Qbb]; exact QaK l
theorem GCalls.own1' {P : Program} {f : FuncId} {args args' : List GVal} {x y : GObj} {r : GVal} (h : GCalls P f args [x] (fun g O' => g = r ∧ O' = [y])) {O O2 : List GObj} (i : Nat) (hO : O[i]? = some x) (ha : args.map (GVal.place i) = args') (hx : x.isClock = false) (hy : y.isClock = false) (hc : Qad O = none) (h2 : O.set i y = O2) :
 GCalls P f args' O (fun g O' => g = r ∧ O' = O2) := by
 subst ha h2
 refine (GCalls.ownFrame (R := fun g x' => g = r ∧ x' = y) (h.mono (by rintro g O' ⟨rfl, rfl⟩; exact ⟨y, rfl, rfl, rfl⟩)) i hO hc (fun g x' q => by rw [q.2]; exact hy) hx).mono ?_
 rintro g O' ⟨x', rfl, rfl, rfl⟩
 exact ⟨rfl, rfl⟩
theorem Qvb (l : List Hs) (k : Nat) : List.take k (hsG l) = hsG (l.take k) := Qep l k
theorem QmX {l : List Hs} {k : Nat} (h : k < l.length) (hn : (l.take k).Nodup) : (l.getD k h0 ∈ l.take k → Qdv l = true) ∧ (l.getD k h0 ∉ l.take k → (l.take (k + 1)).Nodup) := by
 have ht := takeH h
 constructor
 · intro hm;rw [Qhp];intro q;have h2 : (l.take (k + 1)).Nodup := q.sublist (List.take_sublist _ _);rw [ht, List.nodup_append] at h2;exact h2.2.2 _ hm _ (by simp) rfl
 · intro hm;rw [ht, List.nodup_append];exact ⟨hn, by simp, fun a ha b hb => by rw [List.mem_singleton.1 hb]; exact fun e => hm (e ▸ ha)⟩
def zb21 := ai @Qae <| ai @all_hsG <| ai @Qa7 <| ai @hsG_len <| ai @QgA <| ai @QaC <| ai @QaK <| ai @List.append_nil.{0} <| ai @comG.eq_1 <| ai @vnT <| ai @v33 <| @v32
def zb22 := ai @Qae <| ai @all_hsG <| ai @Qa7 <| ai @hsG_len <| ai @QgA <| ai @QaC <| ai @QaK <| ai @List.append_nil.{0} <| ai @comG.eq_1 <| ai @v33 <| @v32
def zb23 := ai @Qae <| ai @all_hsG <| ai @Qa7 <| ai @hsG_len <| ai @QgA <| ai @QaC <| ai @QaK <| ai @List.append_nil.{0} <| ai @comG.eq_1 <| ai @Qvb <| ai @Qbr <| ai @List.drop_zero.{0} <| ai @v33 <| @v32
theorem QiV (L : GM) (hL : SSC L) (hg : Good L) (cs : List Cm) (hs : List Hs) (th : Tag) (gr : Int) (rt : Nat) (hc : cs.length ≤ 1000000) (hh : hs.length ≤ 1000000) (hp : ∀ c ∈ cs, c.2.length ≤ 1000000) (hgr : gr = 1 ∨ gr = 2) :
 GCalls Tryz.prog 31 [.ptr 0 rt 0 0, .agg (reqG cs hs th gr)] (rObj rt L) (fun g O' => g = chkV (Qbk gr L cs hs) ∧ O' = rObj rt L) := by
 have hd : ((gr = 1) = True ∧ (gr = 2) = False) ∨ ((gr = 1) = False ∧ (gr = 2) = True) := by
  rcases hgr with rfl | rfl
  · exact .inl ⟨eq_true rfl, eq_false (by decide)⟩
  · exact .inr ⟨eq_false (by decide), eq_true rfl⟩
 rcases hd with ⟨d1, dd⟩ | ⟨d1, dd⟩
 all_goals
  refine GCalls.dropTo ?_;by_cases h2 : 200 < cs.length
  · rw [Qli (.inr (.inl h2))];have d2 : ((200 : Int) < (cs.length : Int)) = True := eq_true (by omega);clear h2 hgr;refine h31.ca ?_;refine vqd (ai d1 <| ai dd <| ai d2 <| zb21) @solA ?_;exact fun s5 s7 => ⟨_, rObj rt L, [.row s5 32 [bytesG h0.1], .row s7 32 [bytesG h0.1]], rfl, leA_refl _, rfl, rfl⟩
  · have d2 : ((200 : Int) < (cs.length : Int)) = False := eq_false (by omega);by_cases h3 : 200 < hs.length
    · rw [Qli (.inr (.inr h3))];have d3 : ((200 : Int) < (hs.length : Int)) = True := eq_true (by omega);clear h2 h3 hgr;refine h31.ca ?_;refine vqd (ai d1 <| ai dd <| ai d2 <| ai d3 <| zb21) @solA ?_;exact fun s5 s7 => ⟨_, rObj rt L, [.row s5 32 [bytesG h0.1], .row s7 32 [bytesG h0.1]], rfl, leA_refl _, rfl, rfl⟩
    · have d3 : ((200 : Int) < (hs.length : Int)) = False := eq_false (by omega);have nbad : ¬ QcG gr cs.length hs.length := by
       rintro (q | q | q)
       · omega
       · exact h2 q
       · exact h3 q
      have hLl := hg.ok.len;refine h31.ca ?_;refine vqd (ai d1 <| ai dd <| ai d2 <| ai d3 <| zb21) @solA ?_;intro s5 s7;refine Qab (ι := { k : Nat // k ≤ cs.length ∧ cs.findSome? Qbl = (cs.drop k).findSome? Qbl }) (fun k => ⟨[.ptr 0 rt 0 0, .any, .any, .ref (reqG cs hs th gr), .any, .ptr 1 s5 0 0, .any, .ptr 2 s7 0 0, .int .i64 (k.1 : Nat)] ++ List.replicate 187 .any, [.row rt 1 [[.slice (csG L) .none]], .row s5 32 [bytesG h0.1], .row s7 32 [bytesG h0.1]]⟩) (fun k => cs.length - k.1) ?_ ?_
      · exact Into.first ⟨0, by omega, by simp⟩ ⟨[], by simp⟩ (by simp [WL, leG_self, leG_any, Qaa])
      · rintro ⟨k, hk, hf⟩;by_cases h : k < cs.length
        · have d0 : ((k : Int) < (cs.length : Int)) = True := eq_true (by omega);have eS := Qa0 cs k h;have hx := hp _ (memC h);rw [Qkd h] at hf;generalize cs.getD k default = x at *;obtain ⟨xh, xp⟩ := x
          change xp.length ≤ 1000000 at hx
          by_cases c4 : 4 < xp.length
          · have d4 : ((4 : Int) < (xp.length : Int)) = True := eq_true (by omega);have e1 : Qbl (xh, xp) = some (some xh, 8) := by rw [Qbl, if_pos c4]
            rw [e1] at hf;refine vqd (ai d0 <| ai eS <| ai d4 <| zb22) @solA ?_;refine ⟨by omega, fun u => ?_⟩;rw [Qlj nbad hf];exact ⟨_, rObj rt L, [.row s5 32 [bytesG xh.1], .row s7 32 [bytesG h0.1], .row u 33 [comG (xh, xp)]], rfl, leA_refl _, rfl, rfl⟩
          · have d4 : ((4 : Int) < (xp.length : Int)) = False := eq_false (by omega);refine vqd (ai d0 <| ai eS <| ai d4 <| zb22) @solA ?_;refine ⟨by omega, fun u => ?_⟩;refine Qab (ι := { j : Nat // j ≤ xp.length ∧ (xp.take j).Nodup }) (fun j => ⟨[.ptr 0 rt 0 0, .any, .any, .ref (reqG cs hs th gr), .any, .ptr 1 s5 0 0, .any, .ptr 2 s7 0 0, .int .i64 (k : Nat), .ptr 3 u 0 0, .int .i64 (j.1 : Nat)] ++ List.replicate 185 .any, [.row rt 1 [[.slice (csG L) .none]], .row s5 32 [bytesG h0.1], .row s7 32 [bytesG h0.1]] ++ [.row u 33 [comG (xh, xp)]]⟩) (fun j => xp.length - j.1) ?_ ?_
            · exact Into.first ⟨0, by omega, by simp⟩ ⟨[], by simp [comG]⟩ (by simp [WL, leG_self, leG_any, Qaa])
            · rintro ⟨j, hj, hnd⟩;by_cases h' : j < xp.length
              · have d5 : ((j : Int) < (xp.length : Int)) = True := eq_true (by omega);have eP := hsG_at xp j h';have tw := QmX h' hnd;generalize xp.getD j h0 = y at *;have cI := hIn (xp.take j) .none y (by rw [List.length_take]; omega);by_cases hy : y ∈ xp.take j
                · rw [decide_eq_true hy] at cI;have e1 : Qbl (xh, xp) = some (some xh, 1) := by rw [Qbl, if_neg c4, if_pos (tw.1 hy)]
                  rw [e1] at hf;refine vqd (ai d5 <| ai eP <| zb23) @solA ?_;refine ⟨by omega, by omega, by omega, by omega, ?_⟩;refine cI.then ?_ (by rfl)
                  refine vqd zb22 @solA ?_;rw [Qlj nbad hf];exact ⟨_, rObj rt L, [.row s5 32 [bytesG xh.1], .row s7 32 [bytesG h0.1], .row u 33 [comG (xh, xp)]], rfl, leA_refl _, rfl, rfl⟩
                · rw [decide_eq_false hy] at cI;refine vqd (ai d5 <| ai eP <| zb23) @solA ?_;refine ⟨by omega, by omega, by omega, by omega, ?_⟩;refine cI.then ?_ (by rfl)
                  refine vqd zb22 @solA ?_;exact Into.at ⟨j + 1, by omega, tw.2 hy⟩ (by show xp.length - (j + 1) < xp.length - j; omega) ⟨[], by simp [comG]⟩ (by simp [WL, leG_self, leG_any, Qaa])
              · have d5 : ((j : Int) < (xp.length : Int)) = False := eq_false (by omega);have e1 : Qbl (xh, xp) = none := by
                 rw [Qbl, if_neg c4, if_neg];rw [Qhp];rw [List.take_of_length_le (by omega)] at hnd;exact fun q => q hnd
                rw [e1] at hf;refine vqd (ai d5 <| zb22) @solA ?_;exact Into.at ⟨k + 1, by omega, hf⟩ (by show cs.length - (k + 1) < cs.length - k; omega) ⟨[.row u 33 [comG (xh, xp)]], by simp [comG]⟩ (by simp [WL, leG_self, leG_any, Qaa])
        · have d0 : ((k : Int) < (cs.length : Int)) = False := eq_false (by omega);rw [List.drop_of_length_le (by omega)] at hf;have e1 : Qay gr hs.length cs = none := by unfold Qay; rw [if_neg nbad, hf]; rfl
          refine vqd (ai d0 <| zb22) @solA ?_;intro sx;obtain ⟨n1, n2, _, n4⟩ := Qcv e1;refine Qab (ι := { p : Nat × GM // p.1 ≤ cs.length ∧ QaI L cs = QaI p.2 (cs.drop p.1) ∧ QaX p.2 (QbW L (cs.take p.1)) }) (fun p => ⟨[.ptr 0 rt 0 0, .any, .any, .ref (reqG cs hs th gr), .any, .ptr 1 s5 0 0, .any, .ptr 2 s7 0 0, .any, .any, .any, .ptr 3 sx 0 0, .int .i64 (p.1.1 : Nat)] ++ List.replicate 183 .any, [.row rt 1 [[.slice (csG L) .none]], .row s5 32 [bytesG h0.1], .row s7 32 [bytesG h0.1], .row sx 1 [[.slice (csG (QbW L (cs.take p.1.1))) .none]]]⟩) (fun p => cs.length - p.1.1) ?_ ?_
          · exact Into.first ⟨(0, L), by show 0 ≤ cs.length; omega, by simp, by simp [QbW]; exact fun _ => rfl⟩ ⟨[], by simp [QbW]⟩ (by simp [WL, leG_self, leG_any, Qaa])
          · rintro ⟨⟨k, M⟩, hk, hf, hA⟩
            change k ≤ cs.length at hk
            change QaI L cs = QaI M (cs.drop k) at hf
            change QaX M (QbW L (cs.take k)) at hA
            have hXs := Qec (cs.take k) hL;have hXl := QeS (cs.take k) L;rw [List.length_take] at hXl;by_cases h : k < cs.length
            · have d0 : ((k : Int) < (cs.length : Int)) = True := eq_true (by omega);have eS := Qa0 cs k h;have hx := n4 _ (memC h);have hsn := QfD L cs k h;rw [Qfu _ _ _ h] at hf;generalize cs.getD k default = x at *;obtain ⟨xh, xp⟩ := x;obtain ⟨X, hX⟩ : ∃ X, QbW L (cs.take k) = X := ⟨_, rfl⟩
              rw [hX] at hA hXs hXl hsn;have hx4 : xp.length ≤ 4 := hx.1;have cH := rHas X hXs (by omega) xh sx;have cP := QfS X hXs (by omega) xh sx;have cPut := rPut X hXs (by omega) (xh, xp) (by show xp.length ≤ 1000000; omega) sx;cases el : look X xh with
              | some l =>
               have elM : look M xh = some l := by rw [hA]; exact el
               rw [el] at cH;rw [parsM_some el] at cP;by_cases e : l = xp
               · have ej : Qcm M (xh, xp) = .ok M := by unfold Qcm; simp only [elM]; rw [if_pos e]
                 rw [ej] at hf;have cS := QpX l xp .none .none (by rw [e]; omega);rw [decide_eq_true e] at cS;refine vqd (ai d0 <| ai eS <| ai hX <| zb22) @solA ?_;refine ⟨by omega, fun u => ?_⟩;refine (GCalls.keep1' cH (O := [.row rt 1 [[.slice (csG L) .none]], .row s5 32 [bytesG h0.1], .row s7 32 [bytesG h0.1], .row sx 1 [[.slice (csG X) .none]], .row u 33 [comG (xh, xp)]]) 3 rfl rfl rfl rfl).mono ?_;rintro g O' ⟨rfl, rfl⟩;refine vqd zb22 @solA ?_;refine (GCalls.keep1' cP (O := [.row rt 1 [[.slice (csG L) .none]], .row s5 32 [bytesG h0.1], .row s7 32 [bytesG h0.1], .row sx 1 [[.slice (csG X) .none]], .row u 33 [comG (xh, xp)]]) 3 rfl rfl rfl rfl).mono ?_;rintro g O' ⟨rfl, rfl⟩;refine vqd zb22 @solA ?_;refine ⟨⟨[], by simp [comG]⟩, ?_⟩;refine cS.then ?_ (by rfl)
                 refine vqd zb22 @solA ?_;refine (GCalls.own1' cPut (O := [.row rt 1 [[.slice (csG L) .none]], .row s5 32 [bytesG h0.1], .row s7 32 [bytesG h0.1], .row sx 1 [[.slice (csG X) .none]], .row u 33 [comG (xh, xp)]]) (O2 := [.row rt 1 [[.slice (csG L) .none]], .row s5 32 [bytesG h0.1], .row s7 32 [bytesG h0.1], .row sx 1 [[.slice (csG (putC X (xh, xp))) .none]], .row u 33 [comG (xh, xp)]]) 3 rfl rfl rfl rfl rfl rfl).mono ?_;rintro g O' ⟨rfl, rfl⟩;refine vqd zb22 @solA ?_;exact Into.at ⟨(k + 1, M), by show k + 1 ≤ cs.length; omega, hf, by show QaX M (QbW L (cs.take (k + 1))); rw [hsn]; exact Qgn hA ej⟩ (by show cs.length - (k + 1) < cs.length - k; omega) ⟨[.row u 33 [comG (xh, xp)]], by simp [comG, hsn]⟩ (by simp [WL, leG_self, leG_any, Qaa])
               · have ej : Qcm M (xh, xp) = .error (xh, 9) := by unfold Qcm; simp only [elM]; rw [if_neg e]
                 rw [ej] at hf;have hXr : l.length ≤ 1000000 := by
                  have := Qe2 (n := 4) (cs.take k) (L := L) hg.ok.row (fun c hc => (n4 c (List.mem_of_mem_take hc)).1) (xh, l) (by rw [hX]; exact Qdn el);simp only at this; omega
                 have cS := QpX l xp .none .none (by omega);rw [decide_eq_false e] at cS;refine vqd (ai d0 <| ai eS <| ai hX <| zb22) @solA ?_;refine ⟨by omega, fun u => ?_⟩;refine (GCalls.keep1' cH (O := [.row rt 1 [[.slice (csG L) .none]], .row s5 32 [bytesG h0.1], .row s7 32 [bytesG h0.1], .row sx 1 [[.slice (csG X) .none]], .row u 33 [comG (xh, xp)]]) 3 rfl rfl rfl rfl).mono ?_;rintro g O' ⟨rfl, rfl⟩;refine vqd zb22 @solA ?_;refine (GCalls.keep1' cP (O := [.row rt 1 [[.slice (csG L) .none]], .row s5 32 [bytesG h0.1], .row s7 32 [bytesG h0.1], .row sx 1 [[.slice (csG X) .none]], .row u 33 [comG (xh, xp)]]) 3 rfl rfl rfl rfl).mono ?_;rintro g O' ⟨rfl, rfl⟩;refine vqd zb22 @solA ?_;refine ⟨⟨[], by simp [comG]⟩, ?_⟩;refine cS.then ?_ (by rfl)
                 refine vqd zb22 @solA ?_;rw [Qpt e1 hf];exact ⟨_, rObj rt L, [.row s5 32 [bytesG xh.1], .row s7 32 [bytesG h0.1], .row sx 1 [[.slice (csG X) .none]], .row u 33 [comG (xh, xp)]], rfl, leA_refl _, rfl, rfl⟩
              | none =>
               have elM : look M xh = none := by rw [hA]; exact el
               have ej : Qcm M (xh, xp) = .ok (mset M xh xp) := by unfold Qcm; simp only [elM]
               rw [ej] at hf;rw [el] at cH;refine vqd (ai d0 <| ai eS <| ai hX <| zb22) @solA ?_;refine ⟨by omega, fun u => ?_⟩;refine (GCalls.keep1' cH (O := [.row rt 1 [[.slice (csG L) .none]], .row s5 32 [bytesG h0.1], .row s7 32 [bytesG h0.1], .row sx 1 [[.slice (csG X) .none]], .row u 33 [comG (xh, xp)]]) 3 rfl rfl rfl rfl).mono ?_;rintro g O' ⟨rfl, rfl⟩;refine vqd zb22 @solA ?_;refine (GCalls.own1' cPut (O := [.row rt 1 [[.slice (csG L) .none]], .row s5 32 [bytesG h0.1], .row s7 32 [bytesG h0.1], .row sx 1 [[.slice (csG X) .none]], .row u 33 [comG (xh, xp)]]) (O2 := [.row rt 1 [[.slice (csG L) .none]], .row s5 32 [bytesG h0.1], .row s7 32 [bytesG h0.1], .row sx 1 [[.slice (csG (putC X (xh, xp))) .none]], .row u 33 [comG (xh, xp)]]) 3 rfl rfl rfl rfl rfl rfl).mono ?_;rintro g O' ⟨rfl, rfl⟩;refine vqd zb22 @solA ?_;exact Into.at ⟨(k + 1, mset M xh xp), by show k + 1 ≤ cs.length; omega, hf, by show QaX (mset M xh xp) (QbW L (cs.take (k + 1))); rw [hsn]; exact Qgn hA ej⟩ (by show cs.length - (k + 1) < cs.length - k; omega) ⟨[.row u 33 [comG (xh, xp)]], by simp [comG, hsn]⟩ (by simp [WL, leG_self, leG_any, Qaa])
            · have d0 : ((k : Int) < (cs.length : Int)) = False := eq_false (by omega);rw [List.drop_of_length_le (by omega), QaI] at hf;rw [List.take_of_length_le (by omega)] at hA hXs hXl;obtain ⟨X, hX⟩ : ∃ X, QbW L cs = X := ⟨_, rfl⟩
              have hXt : QbW L (cs.take k) = X := by rw [List.take_of_length_le (by omega)]; exact hX
              rw [hX] at hA hXs;have hXr := Qe2 (n := 4) cs (L := L) hg.ok.row (fun c hc => (n4 c hc).1);rw [hX] at hXr hXl;have hXm : GMOK X := ⟨by omega, hXr⟩
              have hML := hA.len (Qbq hf hg.keys).1 (QcA hXs);have hLk : ∀ cs' hs', Qby M cs' hs' = Qby X cs' hs' := Qfn hA;have hRd := Qll hg hf hA;refine vqd (ai d0 <| ai hXt <| zb22) @solA ?_;have cH := fun y => rHas X hXs (by omega) y sx
              have cR := fun y => QpT X hXs hXm y sx
              refine Qab (ι := { k : Nat // k ≤ cs.length ∧ cs.findSome? (fun c => c.2.findSome? (Qak X 10)) = (cs.drop k).findSome? (fun c => c.2.findSome? (Qak X 10)) }) (fun k => ⟨[.ptr 0 rt 0 0, .any, .any, .ref (reqG cs hs th gr), .any, .ptr 1 s5 0 0, .any, .ptr 2 s7 0 0, .any, .any, .any, .ptr 3 sx 0 0, .any, .any, .int .i64 (k.1 : Nat)] ++ List.replicate 181 .any, [.row rt 1 [[.slice (csG L) .none]], .row s5 32 [bytesG h0.1], .row s7 32 [bytesG h0.1], .row sx 1 [[.slice (csG X) .none]]]⟩) (fun k => cs.length - k.1) ?_ ?_
              · exact Into.first ⟨0, by omega, by simp⟩ ⟨[], by simp⟩ (by simp [WL, leG_self, leG_any, Qaa])
              · rintro ⟨k, hk, hf3⟩;by_cases h : k < cs.length
                · have d0 : ((k : Int) < (cs.length : Int)) = True := eq_true (by omega);have eS := Qa0 cs k h;have hx := hp _ (memC h);rw [Qkd h] at hf3;generalize cs.getD k default = x at *;obtain ⟨xh, xp⟩ := x
                  change xp.length ≤ 1000000 at hx
                  simp only at hf3
                  refine vqd (ai d0 <| zb22) @solA ?_;refine Qab (ι := { j : Nat // j ≤ xp.length ∧ xp.findSome? (Qak X 10) = (xp.drop j).findSome? (Qak X 10) }) (fun j => ⟨[.ptr 0 rt 0 0, .any, .any, .ref (reqG cs hs th gr), .any, .ptr 1 s5 0 0, .any, .ptr 2 s7 0 0, .any, .any, .any, .ptr 3 sx 0 0, .any, .any, .int .i64 (k : Nat), .int .i64 (j.1 : Nat)] ++ List.replicate 180 .any, [.row rt 1 [[.slice (csG L) .none]], .row s5 32 [bytesG h0.1], .row s7 32 [bytesG h0.1], .row sx 1 [[.slice (csG X) .none]]]⟩) (fun j => xp.length - j.1) ?_ ?_
                  · exact Into.first ⟨0, by omega, by simp⟩ ⟨[], by simp⟩ (by simp [WL, leG_self, leG_any, Qaa])
                  · rintro ⟨j, hj, hf2⟩;by_cases h' : j < xp.length
                    · have d1' : ((j : Int) < (xp.length : Int)) = True := eq_true (by omega);have eP := hsG_at xp j h';rw [QlM h'] at hf2;generalize xp.getD j h0 = p at *;have cHp := cH p;cases el : look X p with
                      | some l =>
                       have en : Qak X 10 p = none := by unfold Qak; rw [el]
                       rw [en] at hf2;simp only [el, Option.isSome_some, Option.isSome_none] at cHp;refine vqd (ai d1' <| ai eS <| ai eP <| zb22) @solA ?_;refine ⟨by omega, by omega, by omega, by omega, by omega, fun u => ?_⟩;refine (GCalls.keep1' cHp (O := [.row rt 1 [[.slice (csG L) .none]], .row s5 32 [bytesG h0.1], .row s7 32 [bytesG h0.1], .row sx 1 [[.slice (csG X) .none]]] ++ [.row u 32 [bytesG p.1]]) 3 rfl rfl rfl rfl).mono ?_;rintro g O' ⟨rfl, rfl⟩;refine vqd zb22 @solA ?_;exact Into.at ⟨j + 1, by omega, hf2⟩ (by show xp.length - (j + 1) < xp.length - j; omega) ⟨[.row u 32 [bytesG p.1]], by simp⟩ (by simp [WL, leG_self, leG_any, Qaa])
                      | none =>
                       have en : Qak X 10 p = some (some p, 10) := by unfold Qak; rw [el]
                       rw [en] at hf2;rw [hf2] at hf3;simp only [el, Option.isSome_some, Option.isSome_none] at cHp;refine vqd (ai d1' <| ai eS <| ai eP <| zb22) @solA ?_;refine ⟨by omega, by omega, by omega, by omega, by omega, fun u => ?_⟩;refine (GCalls.keep1' cHp (O := [.row rt 1 [[.slice (csG L) .none]], .row s5 32 [bytesG h0.1], .row s7 32 [bytesG h0.1], .row sx 1 [[.slice (csG X) .none]]] ++ [.row u 32 [bytesG p.1]]) 3 rfl rfl rfl rfl).mono ?_;rintro g O' ⟨rfl, rfl⟩;refine vqd zb22 @solA ?_;have e : Qby M cs hs = some (some p, 10) := by rw [hLk]; unfold Qby; rw [hf3]
                       rw [Qlk e1 hf e];exact ⟨_, rObj rt L, [.row s5 32 [bytesG p.1], .row s7 32 [bytesG h0.1], .row sx 1 [[.slice (csG X) .none]], .row u 32 [bytesG p.1]], rfl, leA_refl _, rfl, rfl⟩
                    · have d1' : ((j : Int) < (xp.length : Int)) = False := eq_false (by omega);rw [List.drop_of_length_le (by omega)] at hf2;rw [hf2] at hf3;refine vqd (ai d1' <| ai eS <| zb22) @solA ?_;refine ⟨by omega, by omega, ?_⟩;exact Into.at ⟨k + 1, by omega, hf3⟩ (by show cs.length - (k + 1) < cs.length - k; omega) ⟨[], by simp⟩ (by simp [WL, leG_self, leG_any, Qaa])
                · have d0 : ((k : Int) < (cs.length : Int)) = False := eq_false (by omega);rw [List.drop_of_length_le (by omega)] at hf3;have eL : Qby M cs hs = hs.findSome? (Qak X 11) := by rw [hLk]; unfold Qby; rw [hf3]; rfl
                  refine vqd (ai d0 <| zb22) @solA ?_;refine Qab (ι := { j : Nat // j ≤ hs.length ∧ hs.findSome? (Qak X 11) = (hs.drop j).findSome? (Qak X 11) }) (fun j => ⟨[.ptr 0 rt 0 0, .any, .any, .ref (reqG cs hs th gr), .any, .ptr 1 s5 0 0, .any, .ptr 2 s7 0 0, .any, .any, .any, .ptr 3 sx 0 0, .any, .any, .any, .any, .any, .int .i64 (j.1 : Nat)] ++ List.replicate 178 .any, [.row rt 1 [[.slice (csG L) .none]], .row s5 32 [bytesG h0.1], .row s7 32 [bytesG h0.1], .row sx 1 [[.slice (csG X) .none]]]⟩) (fun j => hs.length - j.1) ?_ ?_
                  · exact Into.first ⟨0, by omega, by simp⟩ ⟨[], by simp⟩ (by simp [WL, leG_self, leG_any, Qaa])
                  · rintro ⟨j, hj, hf2⟩;by_cases h' : j < hs.length
                    · have d1' : ((j : Int) < (hs.length : Int)) = True := eq_true (by omega);have eP := hsG_at hs j h';rw [QlM h'] at hf2;generalize hs.getD j h0 = p at *;have cHp := cH p;cases el : look X p with
                      | some l =>
                       have en : Qak X 11 p = none := by unfold Qak; rw [el]
                       rw [en] at hf2;simp only [el, Option.isSome_some, Option.isSome_none] at cHp;refine vqd (ai d1' <| ai eP <| zb22) @solA ?_;refine ⟨by omega, ?_⟩;refine (GCalls.keep1' cHp (O := [.row rt 1 [[.slice (csG L) .none]], .row s5 32 [bytesG h0.1], .row s7 32 [bytesG h0.1], .row sx 1 [[.slice (csG X) .none]]]) 3 rfl rfl rfl rfl).mono ?_;rintro g O' ⟨rfl, rfl⟩;refine vqd zb22 @solA ?_;exact Into.at ⟨j + 1, by omega, hf2⟩ (by show hs.length - (j + 1) < hs.length - j; omega) ⟨[], by simp⟩ (by simp [WL, leG_self, leG_any, Qaa])
                      | none =>
                       have en : Qak X 11 p = some (some p, 11) := by unfold Qak; rw [el]
                       rw [en] at hf2;rw [hf2] at eL;simp only [el, Option.isSome_some, Option.isSome_none] at cHp;refine vqd (ai d1' <| ai eP <| zb22) @solA ?_;refine ⟨by omega, ?_⟩;refine (GCalls.keep1' cHp (O := [.row rt 1 [[.slice (csG L) .none]], .row s5 32 [bytesG h0.1], .row s7 32 [bytesG h0.1], .row sx 1 [[.slice (csG X) .none]]]) 3 rfl rfl rfl rfl).mono ?_;rintro g O' ⟨rfl, rfl⟩;refine vqd (ai eP <| zb22) @solA ?_;rw [Qlk e1 hf eL];exact ⟨by omega, by omega, _, rObj rt L, [.row s5 32 [bytesG p.1], .row s7 32 [bytesG h0.1], .row sx 1 [[.slice (csG X) .none]]], rfl, leA_refl _, rfl, rfl⟩
                    · have d1' : ((j : Int) < (hs.length : Int)) = False := eq_false (by omega);rw [List.drop_of_length_le (by omega)] at hf2;rw [hf2] at eL;refine vqd (ai d1' <| zb22) @solA ?_;refine Qab (ι := { k : Nat // k ≤ cs.length ∧ cs.findSome? (refE X) = (cs.drop k).findSome? (refE X) }) (fun k => ⟨[.ptr 0 rt 0 0, .any, .any, .ref (reqG cs hs th gr), .any, .ptr 1 s5 0 0, .any, .ptr 2 s7 0 0, .any, .any, .any, .ptr 3 sx 0 0, .any, .any, .any, .any, .any, .any, .int .i64 (k.1 : Nat)] ++ List.replicate 177 .any, [.row rt 1 [[.slice (csG L) .none]], .row s5 32 [bytesG h0.1], .row s7 32 [bytesG h0.1], .row sx 1 [[.slice (csG X) .none]]]⟩) (fun k => cs.length - k.1) ?_ ?_
                      · exact Into.first ⟨0, by omega, by simp⟩ ⟨[], by simp⟩ (by simp [WL, leG_self, leG_any, Qaa])
                      · rintro ⟨k, hk, hf5⟩;by_cases h : k < cs.length
                        · have d0 : ((k : Int) < (cs.length : Int)) = True := eq_true (by omega);have eS := Qa0 cs k h;rw [Qkd h] at hf5;generalize cs.getD k default = x at *;obtain ⟨xh, xp⟩ := x;have cRx := cR xh;cases er : Qc4 X xh with
                          | true =>
                           have en : refE X (xh, xp) = some (some xh, 12) := by unfold refE; rw [er]; rfl
                           rw [en] at hf5;rw [hf5] at hRd;rw [er] at cRx;refine vqd (ai d0 <| ai eS <| zb22) @solA ?_;refine ⟨by omega, ?_⟩;refine (GCalls.keep1' cRx (O := [.row rt 1 [[.slice (csG L) .none]], .row s5 32 [bytesG h0.1], .row s7 32 [bytesG h0.1], .row sx 1 [[.slice (csG X) .none]]]) 3 rfl rfl rfl rfl).mono ?_;rintro g O' ⟨rfl, rfl⟩;refine vqd (ai eS <| zb22) @solA ?_;rw [QmV e1 hf eL hRd.symm];exact ⟨by omega, by omega, _, rObj rt L, [.row s5 32 [bytesG xh.1], .row s7 32 [bytesG h0.1], .row sx 1 [[.slice (csG X) .none]]], rfl, leA_refl _, rfl, rfl⟩
                          | false =>
                           have en : refE X (xh, xp) = none := by unfold refE; rw [er]; rfl
                           rw [en] at hf5;rw [er] at cRx;refine vqd (ai d0 <| ai eS <| zb22) @solA ?_;refine ⟨by omega, ?_⟩;refine (GCalls.keep1' cRx (O := [.row rt 1 [[.slice (csG L) .none]], .row s5 32 [bytesG h0.1], .row s7 32 [bytesG h0.1], .row sx 1 [[.slice (csG X) .none]]]) 3 rfl rfl rfl rfl).mono ?_;rintro g O' ⟨rfl, rfl⟩;refine vqd zb22 @solA ?_;exact Into.at ⟨k + 1, by omega, hf5⟩ (by show cs.length - (k + 1) < cs.length - k; omega) ⟨[], by simp⟩ (by simp [WL, leG_self, leG_any, Qaa])
                        · have d0 : ((k : Int) < (cs.length : Int)) = False := eq_false (by omega);rw [List.drop_of_length_le (by omega)] at hf5;have eR : Qa9 L M cs = none := by rw [← hRd, hf5]; rfl
                          by_cases h5 : 1000 < X.length
                          · have d5 : ((1000 : Int) < (X.length : Int)) = True := eq_true (by omega);refine vqd (ai d0 <| ai d5 <| zb22) @solA ?_;rw [Qpu e1 hf eL eR (by omega)];exact ⟨_, rObj rt L, [.row s5 32 [bytesG h0.1], .row s7 32 [bytesG h0.1], .row sx 1 [[.slice (csG X) .none]]], rfl, leA_refl _, rfl, rfl⟩
                          · have d5 : ((1000 : Int) < (X.length : Int)) = False := eq_false (by omega);refine vqd (ai d0 <| ai d5 <| zb22) @solA ?_;rw [ck_ok e1 hf eL eR (by omega)];exact ⟨_, rObj rt L, [.row s5 32 [bytesG h0.1], .row s7 32 [bytesG h0.1], .row sx 1 [[.slice (csG X) .none]]], rfl, leA_refl _, rfl, rfl⟩
theorem Qu5 (L : GM) (hL : SSC L) (hg : Good L) (cs : List Cm) (hs : List Hs) (th : Tag) (gr : Int) (rt : Nat) (hc : cs.length ≤ 1000000) (hh : hs.length ≤ 1000000) (hp : ∀ c ∈ cs, c.2.length ≤ 1000000) :
 GCalls Tryz.prog 31 [.ptr 0 rt 0 0, .agg (reqG cs hs th gr)] (rObj rt L) (fun g O' => g = chkV (Qbk gr L cs hs) ∧ O' = rObj rt L) := by
 by_cases h1 : gr = 1
 · exact QiV L hL hg cs hs th gr rt hc hh hp (.inl h1)
 · by_cases h2 : gr = 2
   · exact QiV L hL hg cs hs th gr rt hc hh hp (.inr h2)
   · rw [Qli (.inl ⟨h1, h2⟩)];have d1 : (gr = 1) = False := eq_false h1;have dd : (gr = 2) = False := eq_false h2;refine GCalls.dropTo ?_;refine h31.ca ?_;refine vqd (ai d1 <| ai dd <| zb21) @solA ?_;exact fun s5 s7 => ⟨_, rObj rt L, [.row s5 32 [bytesG h0.1], .row s7 32 [bytesG h0.1]], rfl, leA_refl _, rfl, rfl⟩
end Gv.Tryz
namespace Gv.Tryz
open Go Gv Go.Proofs
open Nat (reduceEqDiff reduceAdd reduceSub reduceLeDiff reduceMul reduceLT)
theorem QnD (L : GM) (nt rt : Nat) (n : Int) (M O : List Hs) (hM : M.length ≤ 1000000) (l : List Hs) (t : Tag) (hl : l.length ≤ 1000000) (A B : List Hs) (x : Hs) (el : l = A ++ x :: B) (hA : ∀ a ∈ A, a ∉ M) (hx : x ∈ M) :
 GCalls Tryz.prog 28 [.ptr 0 nt 0 0, .ptr 1 rt 0 0, .slice (hsG l) t] (nObj nt n M O ++ rObj rt L) (fun g O' => g = .tuple [.slice [] .nil, .int .i64 19, .agg (bytesG x.1)] ∧ O' = nObj nt n M O ++ rObj rt L) := by
 have cI := fun y => hIn M .none y (by omega)
 have hAl : A.length < l.length := by rw [el]; simp
 have hat : ∀ k, k ≤ A.length → (k < A.length ∧ l.getD k h0 ∉ M) ∨ (k = A.length ∧ l.getD k h0 = x) := fun k hk => by
  by_cases q : k < A.length
  · refine .inl ⟨q, ?_⟩;have : l.getD k h0 = A.getD k h0 := by rw [el, List.getD_eq_getElem?_getD, List.getD_eq_getElem?_getD, List.getElem?_append_left q]
    rw [this];exact hA _ (by rw [List.getD_eq_getElem?_getD, List.getElem?_eq_getElem q]; exact List.getElem_mem q)
  · have e : k = A.length := by omega
    subst e;exact .inr ⟨rfl, by rw [el, List.getD_eq_getElem?_getD, List.getElem?_append_right (Nat.le_refl _), Nat.sub_self]; rfl⟩
 clear hA el
 refine GCalls.dropTo ?_
 refine h28.ca ?_
 refine vqd (ai @QgA <| ai @QaC <| ai @QaK <| ai @List.append_nil.{0} <| ai @vnT <| @v32) @solA ?_
 intro s8
 refine Qab (ι := { k : Nat // k ≤ A.length }) (fun k => ⟨[.ptr 0 nt 0 0, .ptr 1 rt 0 0, .slice (hsG l) t, .any, .any, .any, .any, .any, .ptr 2 s8 0 0, .int .i64 (k.1 : Nat)] ++ List.replicate 60 .any, nObj nt n M O ++ rObj rt L ++ [.row s8 32 [bytesG h0.1]]⟩) (fun k => A.length - k.1) ?_ ?_
 · exact Into.first ⟨0, Nat.zero_le _⟩ ⟨[], by simp⟩ (by simp [WL, leG_self, leG_any])
 · rintro ⟨k, hk⟩
   change k ≤ A.length at hk
   have d0 : ((k : Int) < (l.length : Int)) = True := eq_true (by omega);have eS := hsG_at l k (by omega);have hk2 := hat k hk;clear hat;generalize l.getD k h0 = y at *;have cIy := cI y;rcases hk2 with ⟨q1, q2⟩ | ⟨q1, q2⟩
   · rw [decide_eq_false q2] at cIy;refine vq5 d0 eS @hsG_len @all_hsG @v32 ?_;refine ⟨by omega, ?_⟩;refine cIy.then ?_ (by rfl)
     refine vq0 ?_;exact Into.at ⟨k + 1, q1⟩ (by show _ < _; simp; omega) ⟨[], by simp⟩ (by simp [WL, leG_self, leG_any, Qaa])
   · subst q2;rw [decide_eq_true hx] at cIy;refine vq5 d0 eS @hsG_len @all_hsG @v32 ?_;refine ⟨by omega, ?_⟩;refine cIy.then ?_ (by rfl)
     refine vqd (ai eS <| ai @hsG_len <| ai @all_hsG <| ai @QaC <| ai @QaK <| ai @List.append_nil.{0} <| @v32) @solA ?_;exact ⟨by omega, by omega, _, nObj nt n M O ++ rObj rt L, [.row s8 32 [bytesG y.1]], rfl, leA_refl _, rfl, rfl⟩
def Qat (O gone : List Hs) : List Hs := O.filter fun x => !decide (x ∈ gone)
theorem QjW (L : GM) (hL : SSC L) (hg : Good L) (nt rt : Nat) (n : Int) (M O : List Hs) (hM : M.length ≤ 1000000) (hO : O.length ≤ 1000000) (l : List Hs) (t : Tag) (hl : l.length ≤ 100000) (hA : ∀ a ∈ l, a ∉ M) (hD : (desL L l).length ≤ 1000000) :
 GCalls Tryz.prog 28 [.ptr 0 nt 0 0, .ptr 1 rt 0 0, .slice (hsG l) t] (nObj nt n M O ++ rObj rt L) (fun g O' => g = .tuple [.slice (hsG (desL L l)) .none, .int .i64 0, .agg (bytesG h0.1)] ∧ ∃ tag X, O' = .row nt 3 [[.int .i64 n, .slice (hsG M) .none, .slice (hsG (Qat O (desL L l))) tag]] :: .row rt 1 [[.slice (csG L) .none]] :: X) := by
 have cI := fun y => hIn M .none y (by omega)
 have cG := fun y => hIn (desL L l) .none y (by omega)
 have cD := fun (X : List GObj) => GCalls.keep1' (QgB L hL hg l t hl rt) (O := nObj nt n M O ++ rObj rt L ++ X) (args' := [.ptr 1 rt 0 0, .slice (hsG l) t]) 1 rfl rfl rfl rfl
 generalize desL L l = G at *
 refine h28.ca ?_
 refine vqd (ai @QgA <| ai @QaC <| ai @QaK <| ai @List.append_nil.{0} <| ai @vnT <| @v32) @solA ?_
 intro s8
 refine Qab (ι := { k : Nat // k ≤ l.length }) (fun k => ⟨[.ptr 0 nt 0 0, .ptr 1 rt 0 0, .slice (hsG l) t, .any, .any, .any, .any, .any, .ptr 2 s8 0 0, .int .i64 (k.1 : Nat)] ++ List.replicate 60 .any, nObj nt n M O ++ rObj rt L ++ [.row s8 32 [bytesG h0.1]]⟩) (fun k => l.length - k.1) ?_ ?_
 · exact Into.first ⟨0, Nat.zero_le _⟩ ⟨[], by simp⟩ (by simp [WL, leG_self, leG_any])
 · rintro ⟨k, hk⟩
   change k ≤ l.length at hk
   by_cases h : k < l.length
   · have d0 : ((k : Int) < (l.length : Int)) = True := eq_true (by omega);have eS := hsG_at l k h;have hx := hA (l.getD k h0) (by rw [List.getD_eq_getElem?_getD, List.getElem?_eq_getElem h]; exact List.getElem_mem h);generalize l.getD k h0 = y at *;have cIy := cI y;rw [decide_eq_false hx] at cIy;refine vq5 d0 eS @hsG_len @all_hsG @v32 ?_;refine ⟨by omega, ?_⟩;refine cIy.then ?_ (by rfl)
     refine vq0 ?_;exact Into.at ⟨k + 1, h⟩ (by show _ < _; simp; omega) ⟨[], by simp⟩ (by simp [WL, leG_self, leG_any, Qaa])
   · have d0 : ((k : Int) < (l.length : Int)) = False := eq_false (by omega);refine vq2 d0 @hsG_len ?_;refine (cD _).mono ?_;rintro g O' ⟨rfl, rfl⟩;refine vq0 ?_;refine Qab (ι := { p : Nat × Nat // p.1 ≤ O.length }) (fun p => ⟨[.ptr 0 nt 0 0, .ptr 1 rt 0 0, .slice (hsG l) t, .any, .any, .any, .any, .any, .ptr 2 s8 0 0, .any, .slice (hsG G) .none, .slice (hsG (Qat (O.take p.1.1) G)) (.tok 3 p.1.2), .int .i64 (p.1.1 : Nat)] ++ List.replicate 57 .any, nObj nt n M O ++ rObj rt L ++ [.row s8 32 [bytesG h0.1], .tok p.1.2 32]⟩) (fun p => O.length - p.1.1) ?_ ?_
     · refine Into.tok 11 32 [] rfl rfl ?_;refine vq0 ?_;intro so;exact Into.first ⟨(0, so), Nat.zero_le _⟩ ⟨[], by simp⟩ (by simp [WL, leG_self, leG_any, Qat, hsG])
     · rintro ⟨⟨k, so⟩, hk⟩
       change k ≤ O.length at hk
       have hfl : (Qat (O.take k) G).length ≤ k := by
        unfold Qat; refine Nat.le_trans (List.length_filter_le _ _) ?_; rw [List.length_take]; omega
       by_cases h : k < O.length
       · have d0 : ((k : Int) < (O.length : Int)) = True := eq_true (by omega);have eS := hsG_at O k h;have ht := takeH h;generalize O.getD k h0 = y at *;have cGy := cG y;by_cases hm : y ∈ G
         · rw [decide_eq_true hm] at cGy;have e2 : Qat (O.take (k + 1)) G = Qat (O.take k) G := by rw [ht, Qat, List.filter_append]; simp [hm, Qat]
           refine vq5 d0 eS @hsG_len @all_hsG @v32 ?_;refine ⟨by omega, ?_⟩;refine cGy.then ?_ (by rfl)
           refine vq0 ?_;exact Into.at ⟨(k + 1, so), h⟩ (by show O.length - (k + 1) < O.length - k; omega) ⟨[], by simp⟩ (by simp [WL, leG_self, leG_any, Qaa, e2])
         · rw [decide_eq_false hm] at cGy;have e2 : Qat (O.take (k + 1)) G = Qat (O.take k) G ++ [y] := by rw [ht, Qat, List.filter_append]; simp [hm, Qat]
           refine vq5 d0 eS @hsG_len @all_hsG @v32 ?_;refine ⟨by omega, ?_⟩;refine cGy.then ?_ (by rfl)
           refine vq4 eS @hsG_len @all_hsG @v32 ?_;refine ⟨by omega, by omega, by omega, by omega, fun so' => ?_⟩;exact Into.at ⟨(k + 1, so'), h⟩ (by show O.length - (k + 1) < O.length - k; omega) ⟨[], by simp⟩ (by simp [WL, leG_self, leG_any, Qaa, e2, hsG])
       · have d0 : ((k : Int) < (O.length : Int)) = False := eq_false (by omega);have e1 : O.take k = O := List.take_of_length_le (by omega);refine vqd (ai d0 <| ai @hsG_len <| ai e1 <| ai @QgA <| ai @QaC <| ai @QaK <| ai @List.append_nil.{0} <| ai @vnT <| @v32) @solA ?_;exact ⟨.tok 3 so, [.row s8 32 [bytesG h0.1], .tok so 32], rfl⟩
theorem QnE (L : GM) (hL : SSC L) (hg : Good L) (nt rt : Nat) (n : Int) (M O : List Hs) (hM : M.length ≤ 1000000) (hO : O.length ≤ 1000000) (l : List Hs) (t : Tag) (hl : l.length ≤ 100000) (hA : ∀ a ∈ l, a ∉ M) (hD : (desL L l).length ≤ 1000000) :
 GCalls Tryz.prog 28 [.ptr 0 nt 0 0, .ptr 1 rt 0 0, .slice (hsG l) t] (nObj nt n M O ++ rObj rt L) (fun g O' => g = .tuple [.slice (hsG (desL L l)) .none, .int .i64 0, .agg (bytesG h0.1)] ∧ O' = nObj nt n M (Qat O (desL L l)) ++ rObj rt L) := by
 refine GCalls.frame (QjW L hL hg nt rt n M O hM hO l t hl hA hD) [0, 1] ⟨⟨_, rfl, .refl _⟩, ⟨_, rfl, .refl _⟩, trivial⟩ (by decide) (GLes.refl _) rfl rfl ?_
 rintro g O' ⟨rfl, tag, X, rfl⟩
 exact ⟨_, nObj nt n M (Qat O (desL L l)) ++ rObj rt L, [(false, 0), (false, 1)], ⟨rfl, rfl⟩, GLe.refl _, ⟨⟨_, rfl, OLe.row ⟨⟨GLe.refl _, GLe.refl _, GLe.none, trivial⟩, trivial⟩⟩, ⟨_, rfl, .refl _⟩, trivial⟩, by decide, rfl⟩
inductive VisD (m : GM) (dn : Hs → Bool) : Nat → List Hs → List Hs → List Hs → Prop
 | nil (d : Nat) (o : List Hs) : VisD m dn d [] o o
 | skip (d : Nat) (p : Hs) (r o o' : List Hs) : (p ∈ o ∨ dn p = true) → VisD m dn d r o o' → VisD m dn d (p :: r) o o'
 | go (d : Nat) (p : Hs) (r o o1 o' : List Hs) : p ∉ o → dn p = false → VisD m dn d (parsM m p) o o1 → VisD m dn (d + 1) r (o1 ++ [p]) o' → VisD m dn (d + 1) (p :: r) o o'
theorem VisD.mono {m : GM} {dn : Hs → Bool} {d : Nat} {r o o' : List Hs} (h : VisD m dn d r o o') : ∀ {e : Nat}, d ≤ e → VisD m dn e r o o' := by
 induction h with
 | nil d o => exact fun _ => .nil _ _
 | skip d p r o o' h _ ih => exact fun he => .skip _ p r o o' h (ih he)
 | go d p r o o1 o' h1 h2 _ _ ih1 ih2 =>
  intro e he
  match e, he with
  | e + 1, he => exact .go e p r o o1 o' h1 h2 (ih1 (by omega)) (ih2 he)
theorem VisD.len {m : GM} {dn : Hs → Bool} {d : Nat} {r o o' : List Hs} (h : VisD m dn d r o o') : o.length ≤ o'.length := by
 induction h with
 | nil => exact Nat.le_refl _
 | skip _ _ _ _ _ _ _ ih => exact ih
 | go d p r o o1 o' _ _ _ _ ih1 ih2 => rw [List.length_append, List.length_singleton] at ih2; omega
theorem VisD.inv_nil {m : GM} {dn : Hs → Bool} {d : Nat} {o o' : List Hs} (h : VisD m dn d [] o o') : o' = o := by cases h; rfl
theorem VisD.cons {m : GM} {dn : Hs → Bool} {d : Nat} {p : Hs} {r o o' : List Hs} (h : VisD m dn d (p :: r) o o') : ∃ o1, VisD m dn d [p] o o1 ∧ VisD m dn d r o1 o' := by
 cases h with
 | skip _ _ _ _ _ h1 h2 => exact ⟨o, .skip _ _ _ _ _ h1 (.nil _ _), h2⟩
 | go d _ _ _ o1 _ h1 h2 h3 h4 => exact ⟨o1 ++ [p], .go _ _ _ _ o1 _ h1 h2 h3 (.nil _ _), h4⟩
theorem vis_d {m : GM} (hm : Good m) {dn : Hs → Bool} {r : List Hs} {so T : WSt} (h : VisL m dn r so T) : (∀ x ∈ so.2, x ∈ so.1) → (∀ k ∈ so.1, k ∉ so.2 → ∀ p ∈ r, Reach (parsM m) (parsM m k) p) → (∀ p ∈ r, (look m p).isSome = true) → ∃ d, VisD m dn d r so.2 T.2 := by
 induction h with
 | nil so => exact fun _ _ _ => ⟨0, .nil _ _⟩
 | skip p r so T hp _ ih =>
  intro hS hK hr;obtain ⟨d, hd⟩ := ih hS (fun k hk hn q hq => hK k hk hn q (by simp [hq])) (fun q hq => hr q (by simp [hq]));refine ⟨d, .skip d p r _ _ ?_ hd⟩;have hl := hr p (by simp);cases hb : dn p with
  | true => exact .inr rfl
  | false =>
   left;have hin : p ∈ so.1 := by
    unfold QaP at hp;rw [hl, hb] at hp
    simpa using hp
   exact Classical.byContradiction fun ho => hm.acyc p (hK p hin ho p (by simp))
 | go p r so so1 T hp h1 h2 ih1 ih2 =>
  intro hS hK hr;obtain ⟨p1, p2, p3⟩ := QcW hp;have hK1 : ∀ k ∈ so.1 ++ [p], k ∉ so.2 → ∀ y ∈ parsM m p, Reach (parsM m) (parsM m k) y := fun k hk hn y hy => by
   rcases List.mem_append.1 hk with q | q
   · exact .step p y (hK k q hn p (by simp)) hy
   · rw [List.mem_singleton.1 q]; exact .base y hy
  have hS1 : ∀ x ∈ so.2, x ∈ so.1 ++ [p] := fun x hx => List.mem_append_left _ (hS x hx)
  obtain ⟨d1, hd1⟩ := ih1 hS1 hK1 (fun y hy => hm.closed p y hy);obtain ⟨n1, a1, a2, _⟩ := QfR hm.acyc h1 hS1 hK1;simp only at a1 a2
  obtain ⟨d2, hd2⟩ := ih2 (fun x hx => by
   rw [a2];simp only [a1, List.mem_append, List.mem_singleton] at hx ⊢;rcases hx with (q | q) | q
   · exact .inl (.inl (hS x q))
   · exact .inr q
   · exact .inl (.inr q)) (fun k hk hn q hq => by
   simp only [a1, a2, List.mem_append, List.mem_singleton, not_or] at hk hn;rcases hk with (e | e) | e
   · exact hK k e hn.1.1 q (by simp [hq])
   · exact absurd e hn.2
   · exact absurd e hn.1.2) (fun q hq => hr q (by simp [hq]))
  exact ⟨max d1 d2 + 1, .go _ p r _ so1.2 _ (fun q => p2 (hS p q)) p3 (hd1.mono (by omega)) (hd2.mono (by omega))⟩
theorem QjS (L : GM) (done : List Hs) (td : Tag) (hdl : done.length ≤ 100000) (rt : Nat) (h : Hs) (o : List Hs) (so : Nat) (hs : h ∈ o ∨ h ∈ done) (hl : o.length ≤ 100000) :
 GCalls Tryz.prog 98 [.ptr 0 rt 0 0, .slice (hsG o) (.tok 1 so), .agg (bytesG h.1), .slice (hsG done) td] (rObj rt L ++ [.tok so 32]) (fun g O' => ∃ so', g = .slice (hsG o) (.tok 1 so') ∧ O' = rObj rt L ++ [.tok so' 32]) := by
 have cO := hIn o (.tok 1 so) h (by omega)
 by_cases ho : h ∈ o
 · rw [decide_eq_true ho] at cO;refine h98.ca ?_;refine vq1 @v32 ?_;refine cO.then ?_ (by rfl)
   refine vq0 ?_;exact ⟨so, rfl, rfl⟩
 · rw [decide_eq_false ho] at cO;have cD := hIn done td h (by omega);rw [decide_eq_true (hs.resolve_left ho)] at cD;refine h98.ca ?_;refine vq1 @v32 ?_;refine cO.then ?_ (by rfl)
   refine vq1 @v32 ?_;refine cD.then ?_ (by rfl)
   refine vq0 ?_;exact ⟨so, rfl, rfl⟩
theorem QpR (L : GM) (hL : SSC L) (hm : GMOK L) (done : List Hs) (td : Tag) (hdl : done.length ≤ 100000) (rt : Nat) : ∀ (d : Nat) (h : Hs) (o o' : List Hs) (so : Nat), VisD L (fun x => decide (x ∈ done)) d [h] o o' → o'.length ≤ 100000 →
 GCalls Tryz.prog 98 [.ptr 0 rt 0 0, .slice (hsG o) (.tok 1 so), .agg (bytesG h.1), .slice (hsG done) td] (rObj rt L ++ [.tok so 32]) (fun g O' => ∃ so', g = .slice (hsG o') (.tok 1 so') ∧ O' = rObj rt L ++ [.tok so' 32]) := by
 have hml := hm.len
 intro d
 induction d with
 | zero =>
  intro h o o' so hv hl;cases hv with
  | skip _ _ _ _ _ h1 h2 =>
   have e := h2.inv_nil;subst e;exact QjS L done td hdl rt h _ so (by simpa using h1) hl
 | succ d ih =>
  intro h o o' so hv hl;cases hv with
  | skip _ _ _ _ _ h1 h2 =>
   have e := h2.inv_nil;subst e;exact QjS L done td hdl rt h _ so (by simpa using h1) hl
  | go _ _ _ _ o1 _ h1 h2 h3 h4 =>
   have e := h4.inv_nil;subst e;rw [List.length_append, List.length_singleton] at hl;have hol := h3.len;have hpl := hm.pars h;have cO := hIn o (.tok 1 so) h (by omega);rw [decide_eq_false h1] at cO;have cD := hIn done td h (by omega);rw [decide_eq_false (by simpa using h2)] at cD;have cP := GCalls.keep1' (QfS L hL (by omega) h rt) (O := rObj rt L ++ [.tok so 32]) 0 rfl rfl rfl rfl;obtain ⟨ps, hps⟩ : ∃ ps, parsM L h = ps := ⟨_, rfl⟩
   rw [hps] at cP h3 hpl;refine h98.ca ?_;refine vq1 @v32 ?_;refine cO.then ?_ (by rfl)
   refine vq1 @v32 ?_;refine cD.then ?_ (by rfl)
   refine vq1 @v32 ?_;refine cP.mono ?_;rintro g O' ⟨rfl, rfl⟩;refine vq1 @v32 ?_;refine Qab (ι := { p : (Nat × List Hs) × Nat // p.1.1 ≤ ps.length ∧ VisD L (fun x => decide (x ∈ done)) d (ps.drop p.1.1) p.1.2 o1 }) (fun p => ⟨[.ptr 0 rt 0 0, .slice (hsG p.1.1.2) (.tok 1 p.1.2), .any, .slice (hsG done) td, .any, .any, .ref (bytesG h.1), .any, .any, .slice (hsG ps) .none, .int .i64 (p.1.1.1 : Nat)] ++ List.replicate 30 .any, rObj rt L ++ [.tok p.1.2 32]⟩) (fun p => ps.length - p.1.1.1) ?_ ?_
   · exact Into.first ⟨((0, o), so), Nat.zero_le _, by simpa using h3⟩ ⟨[], by simp⟩ (by simp [WL, leG_self, leG_any])
   · rintro ⟨⟨⟨j, oj⟩, sj⟩, hj, hv⟩
     change j ≤ ps.length at hj
     have hv : VisD L (fun x => decide (x ∈ done)) d (ps.drop j) oj o1 := hv;by_cases h' : j < ps.length
     · have d0 : ((j : Int) < (ps.length : Int)) = True := eq_true (by omega);have eX := hsG_at ps j h';rw [Qi4 h'] at hv;generalize ps.getD j h0 = y at *;obtain ⟨o2, v1, v2⟩ := hv.cons;have l2 := v2.len;have cV := ih y oj o2 sj v1 (by omega);refine vq4 d0 eX @hsG_len @v32 ?_;refine ⟨by omega, cV.mono ?_⟩;rintro g O' ⟨s2, rfl, rfl⟩;refine vq0 ?_;exact Into.at ⟨((j + 1, o2), s2), by show j + 1 ≤ ps.length; omega, v2⟩ (by show ps.length - (j + 1) < ps.length - j; omega) ⟨[], by simp⟩ (by simp [WL, leG_self, leG_any, Qaa])
     · have d0 : ((j : Int) < (ps.length : Int)) = False := eq_false (by omega);rw [List.drop_of_length_le (by omega)] at hv;have e := hv.inv_nil;subst e;refine vq6 d0 @hsG_len @all_hsG @if32 @Qfd @v32 ?_;refine ⟨by omega, by omega, fun s2 => ⟨s2, ?_, rfl⟩⟩;rw [hsG_app]; rfl
theorem Qny (L : GM) (hL : SSC L) (hm : Good L) (hs : List Hs) (th : Tag) (hhl : hs.length ≤ 100000) (done : List Hs) (td : Tag) (hdl : done.length ≤ 100000) (rt : Nat) (T : WSt) (hT : VisL L (fun x => decide (x ∈ done)) hs ([], []) T) :
 GCalls Tryz.prog 63 [.ptr 0 rt 0 0, .slice (hsG hs) th, .slice (hsG done) td] (rObj rt L) (fun g O' => g = .slice (hsG T.2) .none ∧ O' = rObj rt L) := by
 have hml := hm.ok.len
 refine GCalls.dropTo ?_
 refine h63.ca ?_
 refine vq0 ?_
 refine Qab (ι := { p : (Nat × WSt) × Nat // (p.1.1 ≤ hs.length ∧ VisL L (fun x => decide (x ∈ done)) (hs.drop p.1.1) p.1.2 T) ∧ (∀ x, x ∈ p.1.2.1 ↔ x ∈ p.1.2.2) ∧ p.1.2.2.Nodup ∧ ∀ x ∈ p.1.2.2, (look L x).isSome = true }) (fun p => ⟨[.ptr 0 rt 0 0, .slice (hsG hs) th, .slice (hsG done) td, .any, .any, .any, .any, .slice (hsG p.1.1.2.2) (.tok 1 p.1.2), .int .i64 (p.1.1.1 : Nat)] ++ List.replicate 21 .any, rObj rt L ++ [.tok p.1.2 32]⟩) (fun p => hs.length - p.1.1.1) ?_ ?_
 · refine Into.tok 7 32 [] rfl rfl ?_;refine vq0 ?_;intro so;exact Into.first ⟨((0, ([], [])), so), ⟨Nat.zero_le _, by simpa using hT⟩, by simp, List.nodup_nil, by simp⟩ ⟨[], by simp⟩ (by simp [WL, leG_self, leG_any, hsG])
 · rintro ⟨⟨⟨k, ⟨S, o⟩⟩, so⟩, ⟨hk, hV⟩, hSo, hnd, hth⟩
   change k ≤ hs.length at hk
   have hV : VisL L (fun x => decide (x ∈ done)) (hs.drop k) (S, o) T := hV;have hSo : ∀ x, x ∈ S ↔ x ∈ o := hSo;have hnd : o.Nodup := hnd;have hth : ∀ x ∈ o, (look L x).isSome = true := hth;have hol := Qaz o (L.map (·.1)) hnd fun x hx => QbF (hth x hx)
   rw [List.length_map] at hol;by_cases h : k < hs.length
   · have d0 : ((k : Int) < (hs.length : Int)) = True := eq_true (by omega);have eX := hsG_at hs k h;rw [Qi4 h] at hV;generalize hs.getD k h0 = x at *;have cH := GCalls.keep1' (rHas L hL (by omega) x rt) (O := rObj rt L ++ [.tok so 32]) 0 rfl rfl rfl rfl;cases hx : (look L x).isSome with
     | false =>
      rw [hx] at cH;have hV2 := hV.inv_skip (by unfold QaP; rw [hx]; rfl);refine vq4 d0 eX @hsG_len @v32 ?_;refine ⟨by omega, cH.mono ?_⟩;rintro g O' ⟨rfl, rfl⟩;refine vq0 ?_;exact Into.at ⟨((k + 1, (S, o)), so), ⟨by show k + 1 ≤ hs.length; omega, hV2⟩, hSo, hnd, hth⟩ (by show hs.length - (k + 1) < hs.length - k; omega) ⟨[], by simp⟩ (by simp [WL, leG_self, leG_any, Qaa])
     | true =>
      rw [hx] at cH;obtain ⟨⟨S1, o1⟩, v1, v2⟩ := Qnz (a := [x]) hV;have hS : ∀ y ∈ o, y ∈ S := fun y hy => (hSo y).2 hy
      have hK : ∀ y ∈ S, y ∉ o → ∀ p ∈ [x], Reach (parsM L) (parsM L y) p := fun y hy hn => absurd ((hSo y).1 hy) hn
      obtain ⟨d, hd⟩ := vis_d hm v1 hS hK (by simp [hx]);obtain ⟨n1, a1, a2, a3, a4, _, _⟩ := QfR hm.acyc v1 hS hK;simp only at hd a1 a2 a4
      have hnd1 : o1.Nodup := by
       rw [a1, List.nodup_append];exact ⟨hnd, a3, fun a ha b hb e => (a4 b hb).1 (hS b (e ▸ ha))⟩
      have hth1 : ∀ y ∈ o1, (look L y).isSome = true := fun y hy => by
       rw [a1] at hy;rcases List.mem_append.1 hy with q | q
       · exact hth y q
       · exact (a4 y q).2.1
      have hol1 := Qaz o1 (L.map (·.1)) hnd1 fun y hy => QbF (hth1 y hy)
      rw [List.length_map] at hol1;have cV := QpR L hL hm.gm done td hdl rt d x o o1 so hd (by omega);refine vq4 d0 eX @hsG_len @v32 ?_;refine ⟨by omega, cH.mono ?_⟩;rintro g O' ⟨rfl, rfl⟩;refine vq4 d0 eX @hsG_len @v32 ?_;refine ⟨by omega, cV.mono ?_⟩;rintro g O' ⟨s2, rfl, rfl⟩;refine vq0 ?_;refine Into.at ⟨((k + 1, (S1, o1)), s2), ⟨by show k + 1 ≤ hs.length; omega, v2⟩, fun y => ?_, hnd1, hth1⟩ (by show hs.length - (k + 1) < hs.length - k; omega) ⟨[], by simp⟩ (by simp [WL, leG_self, leG_any, Qaa]);show y ∈ S1 ↔ y ∈ o1;rw [a2, a1, List.mem_append, hSo]
   · have d0 : ((k : Int) < (hs.length : Int)) = False := eq_false (by omega);rw [List.drop_of_length_le (by omega)] at hV;have e := hV.inv_nil;subst e;refine vq2 d0 @hsG_len ?_;exact ⟨.slice (hsG o) .none, rObj rt L, [.tok so 32], rfl, by rw [Qax], rfl, rfl⟩
theorem QiG (a b : List Hs) : hsG a ++ hsG b = hsG (a ++ b) := by simp [hsG]
theorem QmF (L : GM) (hL : SSC L) (hg : Good L) (nt rt : Nat) (n : Int) (M O : List Hs) (hM : M.length ≤ 10000) (cs : List Cm) (hs : List Hs) (th : Tag) (hh : hs.length ≤ 10000) (T : WSt) (hT : VisL L (fun x => decide (x ∈ M)) hs ([], []) T) (hTl : T.2.length ≤ 10000) (hn : n < (M.length : Int) + T.2.length) :
 GCalls Tryz.prog 34 [.ptr 0 nt 0 0, .ptr 1 rt 0 0, .agg (reqG cs hs th 1)] (nObj nt n M O ++ rObj rt L) (fun g O' => g = .int .i64 13 ∧ O' = nObj nt n M O ++ rObj rt L) := by
 have cW := fun (X : List GObj) => GCalls.keep1' (Qny L hL hg hs th (by omega) M .none (by omega) rt T hT) (O := nObj nt n M O ++ rObj rt L ++ X) (args' := [.ptr 1 rt 0 0, .slice (hsG hs) th, .slice (hsG M) .none]) 1 rfl rfl rfl rfl
 have d0 : (n < (M.length : Int) + T.2.length) = True := eq_true hn
 have eL : (((hsG M ++ hsG T.2).length : Nat) : Int) = (M.length : Int) + T.2.length := by rw [List.length_append, hsG_len, hsG_len]; omega
 refine GCalls.dropTo ?_
 refine h34.ca ?_
 refine vq2 @hsG_len @all_hsG ?_
 refine ⟨by omega, by omega, fun s1 => ⟨⟨[_], rfl⟩, ?_⟩⟩
 refine (cW _).mono ?_
 rintro g O' ⟨rfl, rfl⟩
 refine vq4 @hsG_len @all_hsG d0 eL ?_
 exact ⟨by omega, by omega, fun s2 => ⟨_, nObj nt n M O ++ rObj rt L, [.tok s2 32], rfl, leA_refl _, rfl, rfl⟩⟩
theorem Qo6 (L : GM) (hL : SSC L) (hg : Good L) (nt rt : Nat) (n : Int) (M O : List Hs) (hM : M.length ≤ 10000) (hO : O.length ≤ 10000) (cs : List Cm) (hs : List Hs) (th : Tag) (hh : hs.length ≤ 10000) (hc : cs.length ≤ 10000) (gr : Int) (M1 : List Hs) (T2 : WSt)
 (hgr : (gr ≠ 1 ∧ M1 = M) ∨ (gr = 1 ∧ ∃ T : WSt, VisL L (fun x => decide (x ∈ M)) hs ([], []) T ∧ T.2.length ≤ 10000 ∧ M1 = M ++ T.2 ∧ (M.length : Int) + T.2.length ≤ n))
 (hT2 : VisL L (fun x => decide (x ∈ M1 ++ Qat O M1)) (hs ++ cs.map (·.1)) ([], []) T2) (hT2l : T2.2.length ≤ 10000) :
 GCalls Tryz.prog 34 [.ptr 0 nt 0 0, .ptr 1 rt 0 0, .agg (reqG cs hs th gr)] (nObj nt n M O ++ rObj rt L) (fun g O' => g = .int .i64 0 ∧ ∃ t1 t2 X, O' = .row nt 3 [[.int .i64 n, .slice (hsG M1) t1, .slice (hsG (Qat O M1 ++ T2.2)) t2]] :: .row rt 1 [[.slice (csG L) .none]] :: X) := by
 have hM1 : M1.length ≤ 20000 := by
  rcases hgr with ⟨_, rfl⟩ | ⟨_, T, _, h2, rfl, _⟩
  · omega
  · rw [List.length_append]; omega
 have hfl : ∀ k, (Qat (O.take k) M1).length ≤ k := fun k => by
  unfold Qat; refine Nat.le_trans (List.length_filter_le _ _) ?_; rw [List.length_take]; omega
 have hfO : (Qat O M1).length ≤ O.length := List.length_filter_le _ _
 have cI := fun y => hIn M1 .none y (by omega)
 have cW2 := fun (X : List GObj) th2 td2 => GCalls.keep1' (Qny L hL hg (hs ++ cs.map (·.1)) th2 (by rw [List.length_append, List.length_map]; omega) (M1 ++ Qat O M1) td2 (by rw [List.length_append]; omega) rt T2 hT2) (O := nObj nt n M O ++ rObj rt L ++ X) (args' := [.ptr 1 rt 0 0, .slice (hsG (hs ++ cs.map (·.1))) th2, .slice (hsG (M1 ++ Qat O M1)) td2]) 1 rfl rfl rfl rfl
 rcases hgr with ⟨g1, g2⟩ | ⟨g1, T, hT, hTl, g2, hn⟩
 case' inl =>
  have d1 : (gr = 1) = False := eq_false g1;refine h34.calls mixS (by simp) ?_;simp only [gs0, s34, reduceAdd, reduceSub];simp +contextual -implicitDefEqProofs (maxSteps := 2000000) (disch := omega) only [Qbz, Qct, QbU, ↓lenV, binV, ↓unV, optV, ↓QaH, ↓QaM, ↓Qag, ↓Qac, ↓boxV, ↓Qaf, ↓Qao, ↓Qa5, ↓Qa6, ↓Qal, ↓srcV, QaG, Qaq, Qbe, QbV, GVal.cells, GVal.ofConst, ↓resV, resG, ↓reduceIte, reduceEqDiff, reduceAdd, reduceSub, reduceLeDiff, reduceCtorEq, ↓QaY, aggV, Tag.cap, GVal.solid, Nat.reduceBEq, reduceMul, reduceLT, vcA, ↓vcB, vcC, fbFy, hsG_len, all_hsG, d1, vcD]
 case' inr =>
  have d1 : (gr = 1) = True := eq_true g1;have d0 : (n < (M.length : Int) + T.2.length) = False := eq_false (by omega);have eL : (((hsG M ++ hsG T.2).length : Nat) : Int) = (M.length : Int) + T.2.length := by rw [List.length_append, hsG_len, hsG_len]; omega
  have cW := fun (X : List GObj) => GCalls.keep1' (Qny L hL hg hs th (by omega) M .none (by omega) rt T hT) (O := nObj nt n M O ++ rObj rt L ++ X) (args' := [.ptr 1 rt 0 0, .slice (hsG hs) th, .slice (hsG M) .none]) 1 rfl rfl rfl rfl
  refine h34.calls mixS (by simp) ?_;simp only [gs0, s34, reduceAdd, reduceSub];simp +contextual -implicitDefEqProofs (maxSteps := 2000000) (disch := omega) only [Qbz, Qct, QbU, ↓lenV, binV, ↓unV, optV, ↓QaH, ↓QaM, ↓Qag, ↓Qac, ↓boxV, ↓Qaf, ↓Qao, ↓Qa5, ↓Qa6, ↓Qal, ↓srcV, QaG, Qaq, Qbe, QbV, GVal.cells, GVal.ofConst, ↓resV, resG, ↓reduceIte, reduceEqDiff, reduceAdd, reduceSub, reduceLeDiff, reduceCtorEq, ↓QaY, aggV, Tag.cap, GVal.solid, Nat.reduceBEq, reduceMul, reduceLT, vcA, ↓vcB, vcC, fbFy, hsG_len, all_hsG, d1, vcD, vnT]
  refine ⟨by omega, by omega, fun s1 => ⟨⟨[_], rfl⟩, ?_⟩⟩;refine (cW _).mono ?_;rintro g O' ⟨rfl, rfl⟩;simp +contextual -implicitDefEqProofs (maxSteps := 2000000) (disch := omega) only [Qbz, Qct, QbU, ↓lenV, binV, ↓unV, optV, ↓QaH, ↓QaM, ↓Qag, ↓Qac, ↓boxV, ↓Qaf, ↓Qao, ↓Qa5, ↓Qa6, ↓Qal, ↓srcV, QaG, Qaq, Qbe, QbV, GVal.cells, GVal.ofConst, ↓resV, resG, ↓reduceIte, reduceEqDiff, reduceAdd, reduceSub, reduceLeDiff, reduceCtorEq, ↓QaY, aggV, Tag.cap, GVal.solid, Nat.reduceBEq, reduceMul, reduceLT, vcA, ↓vcB, vcC, fbFy, hsG_len, all_hsG, d0, eL, vcD, vnT]
  refine ⟨by omega, by omega, fun s2 => ?_⟩
 all_goals
  refine Qab (ι := { p : Nat × Nat // p.1 ≤ O.length }) (fun p => ⟨[.ptr 0 nt 0 0, .ptr 1 rt 0 0, .any, .any, .any, .ref (reqG cs hs th gr), .any, .slice (hsG M1) .none, .slice (hsG (Qat (O.take p.1.1) M1)) (.tok 2 p.1.2), .int .i64 (p.1.1 : Nat)] ++ List.replicate 98 .any, nObj nt n M O ++ rObj rt L ++ [.tok p.1.2 32]⟩) (fun p => O.length - p.1.1) ?_ ?_
  · first
     | refine Into.drop (O := nObj nt n M O ++ rObj rt L) (X := [.tok _ 32]) rfl ?_
     | skip
    refine Into.tok 8 32 [] rfl rfl ?_;simp +contextual -implicitDefEqProofs (maxSteps := 2000000) (disch := omega) only [Qbz, Qct, QbU, ↓lenV, binV, ↓unV, optV, ↓QaH, ↓QaM, ↓Qag, ↓Qac, ↓boxV, ↓Qaf, ↓Qao, ↓Qa5, ↓Qa6, ↓Qal, ↓srcV, QaG, Qaq, Qbe, QbV, GVal.cells, GVal.ofConst, ↓resV, resG, ↓reduceIte, reduceEqDiff, reduceAdd, reduceSub, reduceLeDiff, reduceCtorEq, ↓QaY, aggV, Tag.cap, GVal.solid, Nat.reduceBEq, reduceMul, reduceLT, vcA, ↓vcB, vcC, fbFy, vcD]
    intro so;exact Into.first ⟨(0, so), Nat.zero_le _⟩ ⟨[], by simp⟩ (by simp [WL, leG_self, leG_any, leG_none, Qat, hsG, g2])
  · rintro ⟨⟨k, so⟩, hk⟩
    change k ≤ O.length at hk
    have hfk := hfl k;by_cases h : k < O.length
    · have d0 : ((k : Int) < (O.length : Int)) = True := eq_true (by omega);have eS := hsG_at O k h;have ht := takeH h;generalize O.getD k h0 = y at *;have cIy := cI y;by_cases hm : y ∈ M1
      · rw [decide_eq_true hm] at cIy;have e2 : Qat (O.take (k + 1)) M1 = Qat (O.take k) M1 := by rw [ht, Qat, List.filter_append]; simp [hm, Qat]
        simp +contextual -implicitDefEqProofs (maxSteps := 2000000) (disch := omega) only [Qbz, Qct, QbU, ↓lenV, binV, ↓unV, optV, ↓QaH, ↓QaM, ↓Qag, ↓Qac, ↓boxV, ↓Qaf, ↓Qao, ↓Qa5, ↓Qa6, ↓Qal, ↓srcV, QaG, Qaq, Qbe, QbV, GVal.cells, GVal.ofConst, ↓resV, resG, ↓reduceIte, reduceEqDiff, reduceAdd, reduceSub, reduceLeDiff, reduceCtorEq, ↓QaY, aggV, Tag.cap, GVal.solid, Nat.reduceBEq, reduceMul, reduceLT, vcA, ↓vcB, vcC, fbFy, d0, eS, hsG_len, all_hsG, vcD, v32]
        refine ⟨by omega, ?_⟩;refine cIy.then ?_ (by rfl)
        simp +contextual -implicitDefEqProofs (maxSteps := 2000000) (disch := omega) only [Qbz, Qct, QbU, ↓lenV, binV, ↓unV, optV, ↓QaH, ↓QaM, ↓Qag, ↓Qac, ↓boxV, ↓Qaf, ↓Qao, ↓Qa5, ↓Qa6, ↓Qal, ↓srcV, QaG, Qaq, Qbe, QbV, GVal.cells, GVal.ofConst, ↓resV, resG, ↓reduceIte, reduceEqDiff, reduceAdd, reduceSub, reduceLeDiff, reduceCtorEq, ↓QaY, aggV, Tag.cap, GVal.solid, Nat.reduceBEq, reduceMul, reduceLT, vcA, ↓vcB, vcC, fbFy, vcD]
        exact Into.at ⟨(k + 1, so), h⟩ (by show O.length - (k + 1) < O.length - k; omega) ⟨[], by simp⟩ (by simp [WL, leG_self, leG_any, Qaa, e2])
      · rw [decide_eq_false hm] at cIy;have e2 : Qat (O.take (k + 1)) M1 = Qat (O.take k) M1 ++ [y] := by rw [ht, Qat, List.filter_append]; simp [hm, Qat]
        simp +contextual -implicitDefEqProofs (maxSteps := 2000000) (disch := omega) only [Qbz, Qct, QbU, ↓lenV, binV, ↓unV, optV, ↓QaH, ↓QaM, ↓Qag, ↓Qac, ↓boxV, ↓Qaf, ↓Qao, ↓Qa5, ↓Qa6, ↓Qal, ↓srcV, QaG, Qaq, Qbe, QbV, GVal.cells, GVal.ofConst, ↓resV, resG, ↓reduceIte, reduceEqDiff, reduceAdd, reduceSub, reduceLeDiff, reduceCtorEq, ↓QaY, aggV, Tag.cap, GVal.solid, Nat.reduceBEq, reduceMul, reduceLT, vcA, ↓vcB, vcC, fbFy, d0, eS, hsG_len, all_hsG, vcD, v32]
        refine ⟨by omega, ?_⟩;refine cIy.then ?_ (by rfl)
        simp +contextual -implicitDefEqProofs (maxSteps := 2000000) (disch := omega) only [Qbz, Qct, QbU, ↓lenV, binV, ↓unV, optV, ↓QaH, ↓QaM, ↓Qag, ↓Qac, ↓boxV, ↓Qaf, ↓Qao, ↓Qa5, ↓Qa6, ↓Qal, ↓srcV, QaG, Qaq, Qbe, QbV, GVal.cells, GVal.ofConst, ↓resV, resG, ↓reduceIte, reduceEqDiff, reduceAdd, reduceSub, reduceLeDiff, reduceCtorEq, ↓QaY, aggV, Tag.cap, GVal.solid, Nat.reduceBEq, reduceMul, reduceLT, vcA, ↓vcB, vcC, fbFy, eS, hsG_len, all_hsG, vcD, v32]
        refine ⟨by omega, by omega, by omega, by omega, fun so' => ?_⟩;exact Into.at ⟨(k + 1, so'), h⟩ (by show O.length - (k + 1) < O.length - k; omega) ⟨[], by simp⟩ (by simp [WL, leG_self, leG_any, Qaa, e2, hsG])
    · have d0 : ((k : Int) < (O.length : Int)) = False := eq_false (by omega);have e1 : O.take k = O := List.take_of_length_le (by omega);simp +contextual -implicitDefEqProofs (maxSteps := 2000000) (disch := omega) only [Qbz, Qct, QbU, ↓lenV, binV, ↓unV, optV, ↓QaH, ↓QaM, ↓Qag, ↓Qac, ↓boxV, ↓Qaf, ↓Qao, ↓Qa5, ↓Qa6, ↓Qal, ↓srcV, QaG, Qaq, Qbe, QbV, GVal.cells, GVal.ofConst, ↓resV, resG, ↓reduceIte, reduceEqDiff, reduceAdd, reduceSub, reduceLeDiff, reduceCtorEq, ↓QaY, aggV, Tag.cap, GVal.solid, Nat.reduceBEq, reduceMul, reduceLT, vcA, ↓vcB, vcC, fbFy, d0, hsG_len, all_hsG, e1, vcD]
      refine ⟨by omega, by omega, fun sh0 => ?_⟩;refine Qab (ι := { p : Nat × Nat // p.1 ≤ cs.length }) (fun p => ⟨[.ptr 0 nt 0 0, .ptr 1 rt 0 0, .any, .any, .any, .ref (reqG cs hs th gr), .any, .slice (hsG M1) .none, .slice (hsG (Qat O M1)) (.tok 2 so), .any, .slice (hsG (hs ++ (cs.take p.1.1).map (·.1))) (.tok 3 p.1.2), .int .i64 (p.1.1 : Nat)] ++ List.replicate 96 .any, nObj nt n M O ++ rObj rt L ++ [.tok so 32, .tok p.1.2 32]⟩) (fun p => cs.length - p.1.1) ?_ ?_
      · exact Into.first ⟨(0, sh0), Nat.zero_le _⟩ ⟨[], by simp⟩ (by simp [WL, leG_self, leG_any])
      · clear h d0 hk hfk;rintro ⟨⟨k, sh⟩, hk⟩
        change k ≤ cs.length at hk
        by_cases h : k < cs.length
        · have d0 : ((k : Int) < (cs.length : Int)) = True := eq_true (by omega);have eS := Qa0 cs k h;have ht := Qo7 h;obtain ⟨x, hx⟩ : ∃ x, cs.getD k default = x := ⟨_, rfl⟩
          rw [hx] at eS ht;obtain ⟨xh, ps⟩ := x;have e2 : hsG (hs ++ (cs.take (k + 1)).map (·.1)) = hsG (hs ++ (cs.take k).map (·.1)) ++ [bytesG xh.1] := by rw [ht]; simp [hsG]
          have hl : (hs ++ (cs.take k).map (·.1)).length = hs.length + k := by rw [List.length_append, List.length_map, List.length_take]; omega
          simp +contextual -implicitDefEqProofs (maxSteps := 2000000) (disch := omega) only [Qbz, Qct, QbU, ↓lenV, binV, ↓unV, optV, ↓QaH, ↓QaM, ↓Qag, ↓Qac, ↓boxV, ↓Qaf, ↓Qao, ↓Qa5, ↓Qa6, ↓Qal, ↓srcV, QaG, Qaq, Qbe, QbV, GVal.cells, GVal.ofConst, ↓resV, resG, ↓reduceIte, reduceEqDiff, reduceAdd, reduceSub, reduceLeDiff, reduceCtorEq, ↓QaY, aggV, Tag.cap, GVal.solid, Nat.reduceBEq, reduceMul, reduceLT, vcA, ↓vcB, vcC, fbFy, d0, eS, Qae, comG, hsG_len, all_hsG, hl, vcD, v33, v32]
          refine ⟨by omega, by omega, by omega, fun sh' => ?_⟩
          rw [← e2];exact Into.at ⟨(k + 1, sh'), h⟩ (by show cs.length - (k + 1) < cs.length - k; omega) ⟨[], by simp⟩ (by simp [WL, leG_self, leG_any, Qaa])
        · have d0 : ((k : Int) < (cs.length : Int)) = False := eq_false (by omega);have e1 : cs.take k = cs := List.take_of_length_le (by omega);simp +contextual -implicitDefEqProofs (maxSteps := 2000000) (disch := omega) only [Qbz, Qct, QbU, ↓lenV, binV, ↓unV, optV, ↓QaH, ↓QaM, ↓Qag, ↓Qac, ↓boxV, ↓Qaf, ↓Qao, ↓Qa5, ↓Qa6, ↓Qal, ↓srcV, QaG, Qaq, Qbe, QbV, GVal.cells, GVal.ofConst, ↓resV, resG, ↓reduceIte, reduceEqDiff, reduceAdd, reduceSub, reduceLeDiff, reduceCtorEq, ↓QaY, aggV, Tag.cap, GVal.solid, Nat.reduceBEq, reduceMul, reduceLT, vcA, ↓vcB, vcC, fbFy, d0, Qae, hsG_len, all_hsG, e1, vcD]
          refine ⟨by omega, by omega, fun s4 => ⟨by omega, by omega, fun s5 => ?_⟩⟩;rw [QiG];refine (cW2 [.tok so 32, .tok sh 32, .tok s5 32] (.tok 3 sh) (.tok 4 s5)).mono ?_;rintro g O' ⟨rfl, rfl⟩;simp +contextual -implicitDefEqProofs (maxSteps := 2000000) (disch := omega) only [Qbz, Qct, QbU, ↓lenV, binV, ↓unV, optV, ↓QaH, ↓QaM, ↓Qag, ↓Qac, ↓boxV, ↓Qaf, ↓Qao, ↓Qa5, ↓Qa6, ↓Qal, ↓srcV, QaG, Qaq, Qbe, QbV, GVal.cells, GVal.ofConst, ↓resV, resG, ↓reduceIte, reduceEqDiff, reduceAdd, reduceSub, reduceLeDiff, reduceCtorEq, ↓QaY, aggV, Tag.cap, GVal.solid, Nat.reduceBEq, reduceMul, reduceLT, vcA, ↓vcB, vcC, fbFy, hsG_len, all_hsG, vcD]
          trace_state
          refine ⟨by omega, by omega, fun s6 => ⟨.none, .tok 2 s6, _, by rw [QiG]⟩⟩
theorem rUpd (L : GM) (hL : SSC L) (hg : Good L) (nt rt : Nat) (n : Int) (M O : List Hs) (hM : M.length ≤ 10000) (hO : O.length ≤ 10000) (cs : List Cm) (hs : List Hs) (th : Tag) (hh : hs.length ≤ 10000) (hc : cs.length ≤ 10000) (gr : Int) (M1 : List Hs) (T2 : WSt)
 (hgr : (gr ≠ 1 ∧ M1 = M) ∨ (gr = 1 ∧ ∃ T : WSt, VisL L (fun x => decide (x ∈ M)) hs ([], []) T ∧ T.2.length ≤ 10000 ∧ M1 = M ++ T.2 ∧ (M.length : Int) + T.2.length ≤ n))
 (hT2 : VisL L (fun x => decide (x ∈ M1 ++ Qat O M1)) (hs ++ cs.map (·.1)) ([], []) T2) (hT2l : T2.2.length ≤ 10000) :
 GCalls Tryz.prog 34 [.ptr 0 nt 0 0, .ptr 1 rt 0 0, .agg (reqG cs hs th gr)] (nObj nt n M O ++ rObj rt L) (fun g O' => g = .int .i64 0 ∧ O' = nObj nt n M1 (Qat O M1 ++ T2.2) ++ rObj rt L) := by
 refine GCalls.frame (Qo6 L hL hg nt rt n M O hM hO cs hs th hh hc gr M1 T2 hgr hT2 hT2l) [0, 1] ⟨⟨_, rfl, .refl _⟩, ⟨_, rfl, .refl _⟩, trivial⟩ (by decide) (GLes.refl _) rfl rfl ?_
 rintro g O' ⟨rfl, t1, t2, X, rfl⟩
 exact ⟨_, nObj nt n M1 (Qat O M1 ++ T2.2) ++ rObj rt L, [(false, 0), (false, 1)], ⟨rfl, rfl⟩, GLe.refl _, ⟨⟨_, rfl, OLe.row ⟨⟨GLe.refl _, GLe.none, GLe.none, trivial⟩, trivial⟩⟩, ⟨_, rfl, .refl _⟩, trivial⟩, by decide, rfl⟩
theorem Qmh {a b : List Hs} (ha : a.Nodup) (hb : b.Nodup) (h : ∀ x, x ∈ a ↔ x ∈ b) : a.length = b.length :=
 Nat.le_antisymm (Qaz a b ha fun x hx => (h x).1 hx) (Qaz b a hb fun x hx => (h x).2 hx)
theorem Qjp {gr : Int} {m M : GM} {cs : List Cm} {hs : List Hs} (h : Qaj gr m cs hs = .ok M) : Qaj 2 m cs [] = .ok M := by
 obtain ⟨e1, e2, e3, e4, e5⟩ := Qdh h
 obtain ⟨n1, n2, n3, n4⟩ := Qcv e1
 have h1 : Qay 2 0 cs = none := by
  unfold Qay at e1 ⊢;split at e1
  · cases e1
  · rw [if_neg (by unfold QcG; omega)];exact e1
 have h3 : Qby M cs [] = none := by
  unfold Qby at e3 ⊢;cases hc : cs.findSome? (fun c => c.2.findSome? (Qak M 10)) with
  | some e => rw [hc] at e3; cases e3
  | none => rfl
 unfold Qaj
 simp only [List.length_nil, h1, e2, h3, e4]
 rw [if_neg (by omega)]
theorem Quy (m : GM) (st s : Nat) (n : Int) (h1 : 1 ≤ n) (h2 : n ≤ 600) : GCalls Tryz.prog 7 [.int .i64 n] (gObj st s m) (fun g O' => ∃ ti so, g = .tuple [.ptr 2 ti 0 0, .lit .nilIface] ∧ O' = gObj st s m ++ idO2 ti so n [] []) := by
 have d0 : (n < 1) = False := eq_false (by omega)
 have d1 : ((600 : Int) < n) = False := eq_false (by omega)
 have raw : GCalls Tryz.prog 7 [.int .i64 n] (gObj st s m) (fun g O' => ∃ ti so, g = .tuple [.ptr 3 ti 0 0, .lit .nilIface] ∧ O' = gObj st s m ++ [.map so [], .row ti 4 [[.int .i64 n, .slice [] .nil, .slice [] .nil, .map 2 so]]]) := by
  refine h7.ca ?_;refine vq2 d0 d1 ?_;exact fun so => ⟨rfl, fun ti => ⟨ti, so, rfl, rfl⟩⟩
 refine GCalls.into (raw.mono ?_)
 rintro g O' ⟨ti, so, rfl, rfl⟩ E v w hs hv
 obtain ⟨p1, p2⟩ := hs.pick (X := gObj st s m ++ idO2 ti so n [] []) [0, 1, 3, 2] ⟨⟨_, rfl, .refl _⟩, ⟨_, rfl, .refl _⟩, ⟨_, rfl, OLe.row ⟨⟨GLe.refl _, GLe.none, GLe.none, GLe.map _ _ _, trivial⟩, trivial⟩⟩, ⟨_, rfl, .refl _⟩, trivial⟩ (by decide) rfl
 exact ⟨.tuple [.ptr 2 ti 0 0, .lit .nilIface], _, E, ⟨ti, so, rfl, rfl⟩, p1, p2, GLe.tuple (xs := [.ptr 3 ti 0 0, .lit .nilIface]) (ys := [.ptr 2 ti 0 0, .lit .nilIface]) ⟨GLe.ptr _ _ _ _ _, GLe.refl _, trivial⟩ _ _ hv⟩
section
variable {f : FuncId} {args args' : List GVal} {r : GVal} {ti so : Nat} {n : Int} {M O : List Hs}
theorem iAt2 (h : GCalls Tryz.prog f (.ptr 0 ti 0 0 :: args) (idO ti so n M O) (fun g O' => g = r ∧ O' = idO ti so n M O)) (g1 g2 : GObj) (h1 : g1.isClock = false) (X : List GObj) : GCalls Tryz.prog f (.ptr 2 ti 0 0 :: args) (g1 :: g2 :: (idO2 ti so n M O ++ X)) (fun g O' => g = r ∧ O' = g1 :: g2 :: (idO2 ti so n M O ++ X)) :=
 GCalls.readAt h [2, 3] ⟨⟨_, rfl, OLe.row ⟨⟨GLe.refl _, GLe.refl _, GLe.refl _, GLe.map _ _ _, trivial⟩, trivial⟩⟩, ⟨_, rfl, .refl _⟩, trivial⟩ ⟨⟨_, rfl, OLe.row ⟨⟨GLe.refl _, GLe.refl _, GLe.refl _, GLe.map _ _ _, trivial⟩, trivial⟩⟩, ⟨_, rfl, .refl _⟩, trivial⟩ (by decide) ⟨GLe.ptr _ _ _ _ _, GLes.refl _⟩ rfl (by cases g1 <;> first | rfl | cases h1)
end
end Gv.Tryz
namespace Gv.Tryz
open Go Gv Go.Proofs
theorem ent_fn {β : Type} (R : MapEntry → β → Prop) : ∀ (l : List MapEntry) (m : List β), l.Nodup → l.length = m.length → (∀ (i : Nat) e p, l[i]? = some e → m[i]? = some p → R e p) → (hβ : Nonempty β) → ∃ f : MapEntry → β, l.map f = m ∧ ∀ e ∈ l, R e (f e)
 | [], [], _, _, _, ⟨b⟩ => ⟨fun _ => b, rfl, by simp⟩
 | [], _ :: _, _, h, _, _ => by simp at h
 | _ :: _, [], _, h, _, _ => by simp at h
 | e :: l, p :: m, hn, hl, hR, hb => by
  classical
  obtain ⟨h1, h2⟩ := List.nodup_cons.1 hn;obtain ⟨f, hf, hr⟩ := ent_fn R l m h2 (by simpa using hl) (fun i x y hx hy => hR (i + 1) x y (by simpa using hx) (by simpa using hy)) hb;refine ⟨fun x => if x = e then p else f x, ?_, fun x hx => ?_⟩
  · rw [List.map_cons, if_pos rfl, ← hf]
    congr 1
    refine List.map_congr_left fun x hx => ?_;have hne : x ≠ e := fun q => h1 (by rw [← q]; exact hx)
    show (if x = e then p else f x) = f x;rw [if_neg hne]
  · rcases List.mem_cons.1 hx with rfl | hx
    · show R x (if x = x then p else f x);rw [if_pos rfl]; exact hR 0 _ _ rfl rfl
    · have hne : x ≠ e := fun q => h1 (by rw [← q]; exact hx)
      show R x (if x = e then p else f x);rw [if_neg hne]; exact hr x hx
theorem hid_set {E : Env} {O : List GObj} {w : World} {b : Nat} (h : Hid E O w b) (i : Nat) (x : GObj) (hx : x.blk E ≠ some b) : Hid E (O.set i x) w b :=
 ⟨fun ⟨j, y, hy, hb⟩ => by
  rw [List.getElem?_set] at hy;by_cases e : i = j
  · rw [if_pos e] at hy;split at hy
    · cases hy; exact hx hb
    · cases hy
  · rw [if_neg e] at hy; exact h.obj ⟨j, y, hy, hb⟩, h.snap, h.lt⟩
theorem gDescendants (m : GM) (hm : GMOK m) (st s : Nat) (l : List Hs) (t : Tag) (ht : t = .nil → l = []) (hl : l.length ≤ 10000) : GCalls Tryz.prog 16 [.ptr 0 st 0 0, .slice (hsG l) t] (gObj st s m) (fun g O' => g = .slice (hsG (desL m l)) .none ∧ O' = gObj st s m) := by
  refine GCalls.dropTo ?_;refine gcalls_of_wp (hf := Tryz.func16) (hb := rfl) (hn := Tryz.ntmps16) (hr := Tryz.results16) (hen := by kernel_rfl) (hargs := by simp) ?_;intro E a w hs ha;obtain ⟨lg, b, es, clock, hlg, hbg, hMg, hs0, k0, hid0, hin0⟩ := hs.hideMap (i := 1) rfl
  change HSim E [.row st 1 [[.map 1 s]], .dead] w at hs0
  change Keep E (gObj st s m) w E [.row st 1 [[.map 1 s]], .dead] w at k0
  change Hid E [.row st 1 [[.map 1 s]], .dead] w b at hid0
  obtain ⟨f, hf, hfe⟩ := ent_fn (fun e (p : Hs × List Hs) => EntryOK E e (.agg (bytesG p.1.1), encL p.2)) es.toList m (hMg.born.2.imp fun h e => h (congrArg _ e)) (by rw [Array.length_toList, hMg.size, kvG, List.length_map]) (fun i e p he hp => hMg.ent i e _ (by simpa using he) (by rw [kvG, List.getElem?_map, hp]; rfl)) ⟨(h0, [])⟩;have hml : m.length ≤ 10000 := hm.len;refine wp_seq (wp_part (st := ⟨(gstart 42 [.ptr 0 st 0 0, .slice (hsG l) t] []).s, [.row st 1 [[.map 1 s]], .dead]⟩) mixS (s := s16_0) (C := C0) (by kernel_rfl) (by kernel_rfl) hs0 ha (dR0 _ _ _) ?_);rintro ⟨t1, O1⟩ E1 a1 w1 q1 k1 s1R ⟨e1, hw1⟩
  change O1 = [.row st 1 [[.map 1 s]], .dead] at e1
  subst e1;have s1 := s1R.weak hw1;show (Code.seq _ _).wp _ _ _ _;refine wp_seq (wp_part (st := ⟨dS (.ptr 0 st 0 0) (.slice (hsG l) t) .any .any .any .any .any .any .any .any, [.row st 1 [[.map 1 s]], .dead]⟩) mixS (s := s16_1) (C := C0) (by kernel_rfl) (by kernel_rfl) q1 s1 (dR1 _ _ _ (fun _ _ => rfl) (fun _ => rfl)) ?_);rintro ⟨t2, O2⟩ E2 a2 w2 q2 k2 s2R ⟨stC, stb, e2, hw2⟩
  change O2 = [.row st 1 [[.map 1 s]], .dead, .map stC [], .row stb 1 [[.map 2 stC]]] at e2
  subst e2;have s2 := s2R.weak hw2;have k02 := k1.trans k2;obtain ⟨lC, bC, esC, cC, hlC, hbC, hMC, h3, k3, hidC, hinC⟩ := q2.hideMap (i := 2) rfl;have hC0 : w.heap.size ≤ bC := by
    rcases k02.objs bC hinC with ⟨i, x, hx, hb⟩ | h
    · match i with
      | 0 =>
        cases hx;have : (GObj.row st 1 [[.map 1 s]]).blk E2 = some bC := by rw [GObj.blk_mono k02.ext (hs0.real 0 _ rfl)]; exact hb
        exact absurd (by simp [GObj.blk, hlC, hbC]) (q2.sep 0 2 _ (.map stC []) bC (by omega) rfl rfl this)
      | 1 => cases hx; cases hb
      | i + 2 => simp at hx
    · exact h
  change HSim E2 (obs st s stC stb []) w2 at h3
  change Keep E2 _ w2 E2 (obs st s stC stb []) w2 at k3
  change Hid E2 (obs st s stC stb []) w2 bC at hidC
  have hid2 := (hid0.keep (k02.trans k3)).1;have hb2 := (hid0.keep (k02.trans k3)).2;have hnb : bC ≠ b := fun e => by have := hid0.lt; omega
  show (Code.seq _ _).wp _ _ _ _;refine wp_seq (wp_seq (wp_region_lit (ops_seg (st := ⟨dS (.ptr 0 st 0 0) (.slice (hsG l) t) (.ptr 3 stb 0 0) .any .any .any .any .any .any .any, obs st s stC stb []⟩) 4 rfl rfl h3 s2 (dR2 _ _ st s _) ?_)));rintro ⟨t3, O3⟩ E3 a3 w3 q3 k3' s3R ⟨e3, hw3⟩
  change O3 = obs st s stC stb [] at e3
  subst e3;have s3 := s3R.weak hw3;have k03 := (k02.trans k3).trans k3';have hb3 : w3.heap[b]? = some (.map es clock) := ((hid2.keep k3').2.trans hb2).trans hMg.at_;have hid3 := (hid2.keep k3').1;have hidC3 := (hidC.keep k3').1;have hC3 := (hidC.keep k3').2;have v14 : a3.eval (.tmp 14) = .map (some b) := map_val (SlotsR.ev (st := ⟨_, []⟩) s3 (.tmp 14)) (k03.ext.loc _ _ hlg) hbg;refine range_step (t := 88) (k := 44) (e := 33) (m := .tmp 14) rfl rfl (by kernel_rfl) v14 hb3 hMg.born ?_;intro w4 hwk hg hsz;have hDok : DOK ⟨st, s, stC, stb, b, w3.heap.size, bC, m, es, clock, E, w, lC⟩ := ⟨hbC, hC0, k03.size, hnb, fun e => by have h1 := hidC3.lt; change bC = w3.heap.size at e; omega, fun e => by have h1 := hid3.lt; change w3.heap.size = b at e; omega, hMg.born⟩
  have hA : AtW ⟨st, s, stC, stb, b, w3.heap.size, bC, m, es, clock, E, w, lC⟩ #[] E3 (obs st s stC stb []) w4 :=
    ⟨q3.grown hg (fun r e => by cases e), k03.grown hg (fun r e => by cases e), hwk, hid3.grown hg,
     ⟨fun ⟨i, x, hx, hb⟩ => absurd ((q3.real i x hx).blk_lt hb) (Nat.lt_irrefl _), fun o => by
        cases hv : E3.snap w3.heap.size o with
        | none => rfl
        | some v => exact absurd (q3.lt hv) (Nat.lt_irrefl _), by show w3.heap.size < w4.heap.size; omega⟩, hidC3.grown hg, k3'.ext.loc _ _ hlC⟩
  have hE : Ent ⟨st, s, stC, stb, b, w3.heap.size, bC, m, es, clock, E, w, lC⟩ [] E3 w4 := ⟨esC, cC, hMC.ext k3'.ext ((hg.block _ hidC3.lt (fun e => by cases e)).trans hC3)⟩
  have hvl : VR E3 (.pointer (some ⟨w3.heap.size, 0, none⟩)) (.lit (.pointer (some ⟨w3.heap.size, 0, none⟩))) := .lit _;have s4 := (SlotsR.put (st := ⟨_, []⟩) s3 (.refl E3) (d := some 15) hvl []).weak (s' := dS (.ptr 0 st 0 0) (.slice (hsG l) t) (.ptr 3 stb 0 0) .any .any .any (.lit (.pointer (some ⟨w3.heap.size, 0, none⟩))) .any .any .any) (by simp [GSt.put, WL, leG_self, leG_any]);refine wpList_nil ?_;show (Code.block _ _).wp _ _ _ _;refine wp_block (dOuter ⟨st, s, stC, stb, b, w3.heap.size, bC, m, es, clock, E, w, lC⟩ hDok hm f hf hfe ⟨rfl, rfl, rfl⟩ rfl rfl ⟨rfl, rfl, rfl⟩ rfl rfl (by kernel_rfl) (by kernel_rfl) (by kernel_rfl) (by kernel_rfl) (by kernel_rfl) (by kernel_rfl) (by kernel_rfl) (by kernel_rfl) ⟨rfl, rfl, ⟨rfl, rfl, rfl⟩, rfl, rfl, ⟨rfl, rfl, rfl⟩⟩ hA hE s4 ?_);intro ct' pre seen E5 a5 w5 hp hct hA5 hE5 s5;refine inBlock_self ?_;obtain ⟨es5, c5, hM5⟩ := hE5;have hM5' : MapAt E5 w5 bC es5 c5 (kvG encL (ctM ct')) := ⟨hM5.at_, by rw [hM5.size, kvT_len]; simp [kvG, ctM], fun i e p he hp => by
    rw [kvG, ctM, List.map_map, List.getElem?_map] at hp;cases hq : ct'[i]? with
    | none => rw [hq] at hp; cases hp
    | some q =>
      rw [hq] at hp;cases hp;have := hM5.ent i e _ he (by rw [kvT_at, hq]; rfl);exact ⟨this.1, leG.sound (x := .slice (hsG q.1.2) (.tok (i + 4) q.2)) (y := .slice (hsG q.1.2) .none) (by rw [leG_none]) this.2⟩, hM5.born⟩
  have hMg5 : MapAt E5 w5 b es clock (kvG encL m) := by
    obtain ⟨since, c0, e1, _⟩ := hA5.walk;exact ⟨e1, hMg.size, fun i e p he hp => ⟨(hMg.ent i e p he hp).1.mono hA5.keep.ext, (hMg.ent i e p he hp).2.mono hA5.keep.ext⟩, hMg.born⟩
  obtain ⟨q6, kf6⟩ := hA5.sim.showMap (i := 2) (st := stC) rfl hA5.loc hbC hM5' hA5.hC;have k6 := kf6 _ _ _ hA5.keep (.inr hC0);have hid6 : Hid E5 ((obs st s stC stb ct').set 2 (.map stC (kvG encL (ctM ct')))) w5 b := hid_set hA5.hb 2 _ (by
    have : (GObj.map stC (kvG encL (ctM ct'))).blk E5 = some bC := by
      have hl := hA5.loc
      change E5.loc stC = some lC at hl
      simp [GObj.blk, hl, hbC]
    rw [this];exact fun e => hnb (Option.some.inj e))
  obtain ⟨q7, kf7⟩ := q6.showMap (i := 1) (st := s) rfl (hA5.keep.ext.loc _ _ hlg) hbg hMg5 hid6;have k7 := kf7 _ _ _ (k0.trans k6) (.inl hin0)
  change HSim E5 (((gObj st s m ++ [.map stC (kvG encL (ctM ct'))]) ++ [.row stb 1 [[.map 2 stC]]]) ++ ct'.map fun q => .tok q.2 32) w5 at q7
  change Keep E (gObj st s m) w E5 (((gObj st s m ++ [.map stC (kvG encL (ctM ct'))]) ++ [.row stb 1 [[.map 2 stC]]]) ++ ct'.map fun q => .tok q.2 32) w5 at k7
  obtain ⟨q8, k8⟩ := q7.drop;obtain ⟨q9, k9, s9⟩ := q8.meltBox1 s5 5 rfl rfl;have K9 := (k7.trans k8).trans k9;have hKb : Kb 40000 (ctM ct') := by
    have := Kb.all pre (fun q hq => hm.row q (hp.mem_iff.1 hq))
    rw [← hct] at this;intro q hq;have h1 := this q hq;have h2 := hp.length_eq
    change pre.length = m.length at h2
    omega
  show (Code.seq _ _).wp _ _ _ _;refine wp_mono (vc_sound mixS _ (retQ Tryz.prog [.tmp 4] _) ⟨_, _⟩ _ a5 w5 (C := C0) (by kernel_rfl) q9 (s9.weak ?_) (vcS_ok (C := C0) _ _ _ _ _ (by kernel_rfl) (fun _ _ h => h) (dHalf m hm st s stC l t ht hl (ctM ct') (fun x y => by rw [hct]; exact kids_of_perm hp x y) hKb))) (fun e a' w' hpost => Post.trans K9 hpost);simp [WL, leG_self, leG_any]
end Gv.Tryz
