import Derived.Test.YtomacbbghhabpaaP7
import Derived.Test.YtomacbbghhabpaaP6
import Derived.Test.YtomacbbghhabpaaP5
import Derived.Test.YtomacbbghhabpaaP12
import Derived.Test.YtomacbbghhabpaaP8
import Derived.Test.YtomacbbghhabpaaP10
set_option linter.defProp false
set_option linter.unusedSimpArgs false
set_option linter.unusedVariables false
set_option maxHeartbeats 8000000
set_option maxRecDepth 20000
namespace Gv.Try
open Go Gv Go.Proofs
open Nat (reduceEqDiff reduceAdd reduceSub reduceLeDiff reduceMul reduceLT)
def split : Int := 1099511627776
def ups (a : Int) (k : Nat) : List Int := (List.range k).map fun i : Nat => a + (i : Int)
theorem ups_length (a : Int) (k : Nat) : (ups a k).length = k := by simp [ups]
theorem ups_succ (a : Int) (k : Nat) : ups a (k + 1) = ups a k ++ [a + (k : Int)] := by simp [ups, List.range_succ]
theorem ups_zero (a : Int) : ups a 0 = [] := rfl
def allI (m o : Nat) : List Int := ups 0 m ++ ups split o
theorem spec14 (m o : List (List Int)) (tm to : Tag) (hm : m.length ≤ 1000) (ho : o.length ≤ 1000) :
 GPure Try.prog 18 [.agg [.slice (tabG m) tm, .slice (tabG o) to]] (.slice (ints (allI m.length o.length)) .none) := by
 refine h18.pa ?_
 refine vq0 ?_
 refine vcSLoop_by (ι := { p : Nat × Nat // p.1 ≤ m.length }) (fun p => ⟨[.any, .ref [.slice (tabG m) tm, .slice (tabG o) to], .any, .slice (ints (ups 0 p.1.1)) (.tok 0 p.1.2), .int .i64 (p.1.1 : Nat)] ++ List.replicate 25 .any, [.tok p.1.2 1]⟩) (fun p => m.length - p.1.1) ?_ ?_
 · refine Into.tok 3 1 [] rfl rfl ?_;refine vq0 ?_;intro t;exact Into.first ⟨(0, t), by omega⟩ ⟨[], by simp⟩ (by simp [WL, leG_self, leG_any, ints, ups_zero])
 · rintro ⟨⟨k, t⟩, hk⟩;refine vq1 @ups_length ?_;refine ⟨fun h => ⟨by omega, by omega, fun st => ?_⟩, fun h => ?_⟩
   · exact Into.at ⟨(k + 1, st), by show k + 1 ≤ _; omega⟩ (by show _ < _; simp; omega) ⟨[], by simp⟩ (by simp [WL, leG_self, leG_any, leG_tok, leG_int, ups_succ, ints_append, ints_one])
   · have hk' : k = m.length := by simp at hk; omega
     subst hk';refine vcSLoop_by (ι := { p : Nat × Nat // p.1 ≤ o.length }) (fun p => ⟨[.any, .ref [.slice (tabG m) tm, .slice (tabG o) to], .any, .slice (ints (allI m.length p.1.1)) (.tok 0 p.1.2), .any, .int .i64 (p.1.1 : Nat)] ++ List.replicate 24 .any, [.tok p.1.2 1]⟩) (fun p => o.length - p.1.1) ?_ ?_
     · exact Into.first ⟨(0, t), by omega⟩ ⟨[], by simp⟩ (by simp [WL, leG_self, leG_any, leG_tok, allI, ups_zero])
     · rintro ⟨⟨k, t⟩, hk⟩;have hl : (allI m.length k).length = m.length + k := by simp [allI, ups_length]
       refine vq1 hl ?_;refine ⟨fun h => ⟨by omega, by omega, fun st => ?_⟩, fun h => ?_⟩
       · exact Into.at ⟨(k + 1, st), by show k + 1 ≤ _; omega⟩ (by show _ < _; simp; omega) ⟨[], by simp⟩ (by simp [WL, leG_self, leG_any, leG_tok, leG_int, ups_succ, ints_append, ints_one, allI, split])
       · have hk' : k = o.length := by simp at hk; omega
         subst hk';rfl
def parI (m o : List (List Int)) (id : Int) : List Int :=
 if 0 ≤ id ∧ id < m.length then m.getD id.toNat [] else if split ≤ id ∧ id < split + o.length then o.getD (id - split).toNat [] else []
def hasI (m o : Nat) (id : Int) : Bool := decide ((0 ≤ id ∧ id < m) ∨ (split ≤ id ∧ id < split + o))
theorem ints_congr {a b : List Int} (h : a = b) (t : Tag) : leG (.slice (ints a) t) (.slice (ints b) .none) := by rw [leG_none, h]
theorem spec16 (m o : List (List Int)) (tm to : Tag) (id : Int) (hm : m.length ≤ 1000) (ho : o.length ≤ 1000) :
 GPure Try.prog 19 [.agg [.slice (tabG m) tm, .slice (tabG o) to], .int .i64 id] (.tuple [.slice (ints (parI m o id)) .none, .bool (hasI m.length o.length id)]) := by
 refine h19.pa ?_
 refine vq0 ?_
 have e : ∀ b : Bool, ((0 ≤ id ∧ id < m.length) ∨ (split ≤ id ∧ id < split + o.length) ↔ b = true) → b = hasI m.length o.length id := by
  intro b hb;rw [Bool.eq_iff_iff, ← hb]; simp [hasI]
 have n1 : ∀ l : List Int, l = parI m o id → leG (.slice (ints l) .none) (.slice (ints (parI m o id)) .none) := fun l h => ints_congr h _
 have n2 : [] = parI m o id → leG (.slice [] .nil) (.slice (ints (parI m o id)) .none) := fun h => ints_congr (a := []) h _
 refine ⟨fun h0 => ⟨fun h1 => ⟨n1 _ ?_, e _ (by simp; omega)⟩, fun h1 => ⟨fun h2 => ⟨fun h3 => ⟨by omega, by omega, n1 _ ?_, e _ (by simp [split]; omega)⟩, fun h3 => ⟨n2 ?_, e _ (by simp [split]; omega)⟩⟩, fun h2 => ⟨n2 ?_, e _ (by simp [split]; omega)⟩⟩⟩,
  fun h0 => ⟨fun h2 => by omega, fun h2 => ⟨n2 ?_, e _ (by simp [split]; omega)⟩⟩⟩
 · rw [parI, if_pos ⟨h0, h1⟩]
 · rw [parI, if_neg (by omega), if_pos (by simp only [split]; omega)]; rfl
 · rw [parI, if_neg (by omega), if_neg (by simp only [split]; omega)]
 · rw [parI, if_neg (by omega), if_neg (by simp only [split]; omega)]
 · rw [parI, if_neg (by omega), if_neg (by simp only [split]; omega)]
def atI (n k : Int) (ids : List Int) : Int := ids.getD ((norm .i64 (n.tdiv k)) % (ids.length : Int)).toNat 0
def lastI (ids : List Int) : Int := ids.getD ((ids.length : Int) - 1).toNat 0
def par (n : Int) (ids : List Int) : List Int :=
 if ids.length = 0 then [] else
 if n % 12 = 0 then [] else
 if n % 12 = 1 then [atI n 12 ids] else
 if n % 12 = 2 then [atI n 12 ids] else
 if n % 12 = 3 ∨ n % 12 = 4 then (if atI n 12 ids = atI n 144 ids then [atI n 12 ids] else [atI n 12 ids, atI n 144 ids]) else
 if n % 12 = 5 then (if atI n 12 ids = lastI ids then [atI n 12 ids] else [atI n 12 ids, lastI ids]) else [lastI ids]
theorem ints_take (l : List Int) (i : Nat) : (ints l).take i = ints (l.take i) := by simp [ints]
structure Seg where
 lo : Int
 hi : Int
 par : List Int
 root : Bool
 head : Bool
deriving DecidableEq, Inhabited
def segG (s : Seg) : List GVal := [.int .i64 s.lo, .int .i64 s.hi, .slice (ints s.par) .none, .bool s.root, .bool s.head]
def segsG (l : List Seg) : List (List GVal) := l.map segG
theorem segsG_length (l : List Seg) : (segsG l).length = l.length := by simp [segsG]
theorem segsG_at (l : List Seg) (i : Nat) (h : i < l.length) : (segsG l).getD i [] = segG (l.getD i default) := by simp [segsG, List.getD, h]
theorem segsG_append (a b : List Seg) : segsG (a ++ b) = segsG a ++ segsG b := by simp [segsG]
theorem segsG_one (s : Seg) : segsG [s] = [segG s] := rfl
theorem all_segsG (l : List Seg) : (∀ x ∈ segsG l, x.length = 5) = True := by simp [segsG, segG]
theorem segsG_set (l : List Seg) (i : Nat) (s : Seg) : (segsG l).set i (segG s) = segsG (l.set i s) := by simp [segsG, List.map_set]
theorem frz_segs (O : List GObj) (n : Nat) (l : List Seg) : frzLL (Gv.frz O (n + 2)) (segsG l) = some (segsG l) :=
 frzLL_same fun x hx => by
  obtain ⟨s, _, rfl⟩ := List.mem_map.1 hx;simp only [segG, frzL, frz_intsS, Tag.frz];simp [Gv.frz]
theorem cast_beq_zero (n : Nat) : ((n : Int) == 0) = decide (n = 0) := by
 rw [Bool.eq_iff_iff, beq_iff_eq, decide_eq_true_iff]; omega
structure LSt where
 out : List Seg
 hs : List Int
theorem allI_len (m o : Nat) : (allI m o).length = m + o := by simp [allI, ups_length]
theorem ups_mem (a : Int) (k : Nat) (x : Int) : x ∈ ups a k ↔ a ≤ x ∧ x < a + k := by
 simp only [ups, List.mem_map, List.mem_range]
 constructor
 · rintro ⟨i, h, rfl⟩; omega
 · rintro ⟨h1, h2⟩; exact ⟨(x - a).toNat, by omega, by omega⟩
theorem allI_mem (m o : Nat) (x : Int) : x ∈ allI m o ↔ (0 ≤ x ∧ x < m) ∨ (split ≤ x ∧ x < split + o) := by
 simp only [allI, List.mem_append, ups_mem]; simp
theorem allI_hasI (m o : Nat) (x : Int) : x ∈ allI m o ↔ hasI m o x = true := by rw [allI_mem, hasI, decide_eq_true_iff]
theorem getD_mem {l : List Int} {i : Nat} (h : i < l.length) : l.getD i 0 ∈ l := by simp [List.getD, h]
def chain (frm : Int) (l : List (List Int)) : Int → List Seg → Int → Prop
 | a, [], b => a = b
 | a, s :: r, b => s.lo = a ∧ s.lo ≤ s.hi ∧ (∀ d : Int, s.lo < d → d ≤ s.hi → l.getD (d - frm).toNat [] = [d - 1]) ∧ l.getD (s.lo - frm).toNat [] = s.par ∧ s.root = decide (s.par.length = 0) ∧
  (frm < s.lo → s.par ≠ [s.lo - 1]) ∧ chain frm l (s.hi + 1) r b
theorem set_last {α : Type} (l : List α) (h : l ≠ []) (d x : α) : l = l.dropLast ++ [l.getD (l.length - 1) d] ∧ l.set (l.length - 1) x = l.dropLast ++ [x] := by
 have h1 := List.dropLast_concat_getLast h
 have h2 : 0 < l.length := List.length_pos_iff.2 h
 have e : l.getD (l.length - 1) d = l.getLast h := by
  rw [List.getLast_eq_getElem]; simp [List.getD, List.getElem?_eq_getElem (by omega : l.length - 1 < l.length)]
 refine ⟨by rw [e, h1], ?_⟩
 conv => lhs; rw [← h1]
 rw [List.set_append_right _ _ (by simp)]
 simp
theorem ups_getD (a : Int) (k i : Nat) (h : i < k) : (ups a k).getD i 0 = a + i := by simp [ups, List.getD, h]
theorem allI_getD1 (m o i : Nat) (h : i < m) : (allI m o).getD i 0 = i := by
 rw [List.getD_eq_getElem?_getD, allI, List.getElem?_append_left (by rw [ups_length]; exact h), ← List.getD_eq_getElem?_getD, ups_getD _ _ _ h]; omega
theorem allI_getD2 (m o i : Nat) (h : m ≤ i) (h2 : i < m + o) : (allI m o).getD i 0 = split + ((i - m : Nat) : Int) := by
 rw [List.getD_eq_getElem?_getD, allI, List.getElem?_append_right (by rw [ups_length]; exact h), ups_length, ← List.getD_eq_getElem?_getD, ups_getD _ _ _ (by omega)]
def anyP (h : Int) (l : List Seg) : Bool := l.any fun x => decide (h ∈ x.par)
def headsN : List Seg → Nat
 | [] => 0
 | s :: r => (if anyP s.hi r = true then 0 else 1) + headsN r
theorem spec62 (l : List Int) (t : Tag) (x : Int) (hl : l.length ≤ 17592186044416) : GPure Try.prog 38 [.slice (ints l) t, .int .i64 x] (.bool (decide (x ∈ l))) := by
 refine h38.pa ?_
 refine vq0 ?_
 refine vcSLoop_by (ι := { k : Nat // k ≤ l.length ∧ x ∉ l.take k }) (fun k => ⟨[.slice (ints l) t, .int .i64 x, .any, .any, .any, .int .i64 (k.1 : Nat)] ++ List.replicate 12 .any, []⟩) (fun k => l.length - k.1) ?_ ?_
 · exact Into.first ⟨0, by omega, by simp⟩ ⟨[], by simp⟩ (by simp [WL, leG_self, leG_any])
 · rintro ⟨k, hk, hx⟩;refine vq0 ?_;refine ⟨fun h => ⟨by omega, fun h2 => ?_, fun h2 => ?_⟩, fun h => ?_⟩
   · have : x ∈ l := by rw [← h2]; exact getD_mem (by omega)
     simp [this]
   · refine Into.at ⟨k + 1, by omega, ?_⟩ (by show _ < _; simp; omega) ⟨[], by simp⟩ (by simp [WL, leG_self, leG_any, leG_int]);rw [List.take_add_one, List.mem_append];intro h3;rcases h3 with h3 | h3
     · exact hx h3
     · rw [List.getElem?_eq_getElem (by omega)] at h3;simp [List.getD, List.getElem?_eq_getElem (by omega : k < l.length)] at h2 h3;exact h2 h3.symm
   · rw [List.take_of_length_le (by omega)] at hx;simp [hx]
def sameG (a b : Seg) : Bool := decide (a.lo < 1099511627776) == decide (b.lo < 1099511627776)
def runOK (l : List Seg) (size : Int) (n : Nat) : Prop := 1 ≤ n ∧ (n : Int) ≤ size ∧ n ≤ l.length ∧ ∀ i, i < n → sameG (l.getD i default) (l.getD 0 default) = true
def jpar (lo : Int) : List Int → List Int → List Int
 | acc, [] => acc
 | acc, p :: r => jpar lo (if p < lo ∧ p ∉ acc then acc ++ [p] else acc) r
theorem jpar_len (lo : Int) : ∀ (a acc : List Int), (jpar lo acc a).length ≤ acc.length + a.length
 | [], acc => by simp [jpar]
 | p :: a, acc => by
  have := jpar_len lo a (if p < lo ∧ p ∉ acc then acc ++ [p] else acc);rw [jpar];have h2 : (if p < lo ∧ p ∉ acc then acc ++ [p] else acc).length ≤ acc.length + 1 := by split <;> simp
  simp only [List.length_cons];omega
def jall (lo : Int) (l : List Seg) : List Int := l.foldl (fun acc s => jpar lo acc s.par) []
def sumP : List Seg → Nat
 | [] => 0
 | s :: r => s.par.length + sumP r
theorem sumP_app (a b : List Seg) : sumP (a ++ b) = sumP a + sumP b := by
 induction a with
 | nil => simp [sumP]
 | cons s r ih => simp [sumP, ih, Nat.add_assoc]
theorem take_succ' (l : List Seg) (k : Nat) (h : k < l.length) : l.take (k + 1) = l.take k ++ [l.getD k default] := by
 rw [List.take_add_one]; simp [List.getElem?_eq_getElem h, List.getD]
theorem jall_take (lo : Int) (l : List Seg) (k : Nat) (h : k < l.length) : jall lo (l.take (k + 1)) = jpar lo (jall lo (l.take k)) (l.getD k default).par := by
 rw [take_succ' l k h, jall, List.foldl_append]; rfl
theorem jall_len (lo : Int) (l : List Seg) : ∀ k, (jall lo (l.take k)).length ≤ sumP (l.take k)
 | 0 => by simp [jall]
 | k + 1 => by
  by_cases h : k < l.length
  · rw [jall_take lo l k h, take_succ' l k h, sumP_app];have h1 := jpar_len lo (l.getD k default).par (jall lo (l.take k));have h2 := jall_len lo l k;simp only [sumP]; omega
  · rw [List.take_of_length_le (by omega), ← List.take_of_length_le (l := l) (i := k) (by omega)];exact jall_len lo l k
def anyR (l : List Seg) : Bool := l.any (·.root)
def joinI (l : List Seg) : Seg := ⟨(l.getD 0 default).lo, (l.getD (l.length - 1) default).hi, jall (l.getD 0 default).lo l, anyR l, (l.getD (l.length - 1) default).head⟩
inductive UpOK (size : Int) : List Seg → List Seg → Prop
 | nil : UpOK size [] []
 | cons (l u : List Seg) (n : Nat) : runOK l size n → (n = 1 ∨ headsN (l.take n) = 1) → UpOK size (l.drop n) u → UpOK size l (joinI (l.take n) :: u)
theorem joinI_par (l : List Seg) : (joinI l).par.length ≤ sumP l := by
 have := jall_len (l.getD 0 default).lo l l.length
 rw [List.take_of_length_le (Nat.le_refl _)] at this
 exact this
theorem UpOK.bound {size : Int} {l u : List Seg} (h : UpOK size l u) : u.length ≤ l.length ∧ sumP u ≤ sumP l := by
 induction h with
 | nil => simp
 | cons l u n h1 h2 h3 ih =>
  obtain ⟨a, b, c, d⟩ := h1;have e := sumP_app (l.take n) (l.drop n);rw [List.take_append_drop] at e;have := joinI_par (l.take n);simp only [List.length_cons, sumP];rw [List.length_drop] at ih;omega
def LevOK (size : Int) (l : List Seg) (L : List (List Seg)) : Prop :=
 1 ≤ L.length ∧ L.length ≤ 4 ∧ L.getD 0 [] = l ∧ (∀ i, i + 1 < L.length → UpOK size (L.getD i []) (L.getD (i + 1) []) ∧ (L.getD (i + 1) []).length < (L.getD i []).length) ∧ ∀ i, (L.getD i []).length ≤ 1000 ∧ sumP (L.getD i []) ≤ 100000
theorem LevOK.more {size : Int} {l : List Seg} {L : List (List Seg)} (h : LevOK size l L) {u : List Seg} (hl : L.length < 4) (hu : UpOK size (L.getD (L.length - 1) []) u) (hlt : u.length < (L.getD (L.length - 1) []).length) : LevOK size l (L ++ [u]) := by
 obtain ⟨h1, h2, h3, h4, h5⟩ := h
 have hb := hu.bound
 have at_ : ∀ i, (L ++ [u]).getD i [] = if i < L.length then L.getD i [] else if i = L.length then u else [] := by
  intro i;split
  · rename_i h; rw [List.getD_eq_getElem?_getD, List.getD_eq_getElem?_getD, List.getElem?_append_left h]
  · split
    · rename_i h; subst h; simp [List.getD]
    · rw [List.getD_eq_getElem?_getD, List.getElem?_eq_none (by simp; omega)]; rfl
 refine ⟨by simp, by simp; omega, by rw [at_, if_pos (by omega)]; exact h3, fun i hi => ?_, fun i => ?_⟩
 · simp at hi;rw [at_, at_, if_pos (by omega)];by_cases e : i + 1 < L.length
   · rw [if_pos e]; exact h4 i e
   · have : i = L.length - 1 := by omega
     rw [if_neg e, if_pos (by omega), this];exact ⟨hu, hlt⟩
 · rw [at_];split
   · exact h5 i
   · split
     · have := h5 (L.length - 1); omega
     · simp [sumP]
theorem nodup_len : ∀ (l A : List Int), l.Nodup → (∀ x ∈ l, x ∈ A) → l.length ≤ A.length
 | [], A, _, _ => by simp
 | a :: r, A, hn, h => by
  rw [List.nodup_cons] at hn;have ha := h a (by simp);have := nodup_len r (A.erase a) hn.2 fun x hx => (List.mem_erase_of_ne (fun e => hn.1 (by rw [← e]; exact hx))).2 (h x (by simp [hx]))
  rw [List.length_erase_of_mem ha] at this;have h2 : 0 < A.length := List.length_pos_of_mem ha;simp only [List.length_cons]; omega
structure UpInv (m o : List (List Int)) (ids out todo : List Int) : Prop where
 nodup : out.Nodup
 has : ∀ x ∈ out, hasI m.length o.length x = true
 start : ∀ x ∈ ids, hasI m.length o.length x = true → x ∈ out ∨ x ∈ todo
 step : ∀ x ∈ out, ∀ p ∈ parI m o x, hasI m.length o.length p = true → p ∈ out ∨ p ∈ todo
 least : ∀ S : Int → Prop, (∀ x ∈ ids, S x) → (∀ x, S x → ∀ p ∈ parI m o x, S p) → ∀ x, x ∈ out ∨ x ∈ todo → S x
 len : todo.length ≤ ids.length + 4 * out.length
theorem UpInv.out_len {m o : List (List Int)} {ids out todo : List Int} (h : UpInv m o ids out todo) : out.length ≤ m.length + o.length := by
 have := nodup_len out (allI m.length o.length) h.nodup fun x hx => (allI_hasI _ _ _).2 (h.has x hx)
 rwa [allI_len] at this
theorem UpInv.skip {m o : List (List Int)} {ids out t : List Int} {x : Int} (h : UpInv m o ids out (t ++ [x])) (hx : hasI m.length o.length x = false ∨ x ∈ out) : UpInv m o ids out t := by
 have key : ∀ y, hasI m.length o.length y = true → y ∈ out ∨ y ∈ t ++ [x] → y ∈ out ∨ y ∈ t := fun y hy hh => by
  rcases hh with hh | hh
  · exact .inl hh
  · rcases List.mem_append.1 hh with hh | hh
    · exact .inr hh
    · simp at hh; subst hh;rcases hx with hx | hx
      · rw [hy] at hx; cases hx
      · exact .inl hx
 refine ⟨h.nodup, h.has, fun y hy hh => key y hh (h.start y hy hh), fun y hy p hp hh => key p hh (h.step y hy p hp hh), fun S h1 h2 y hy => h.least S h1 h2 y (hy.imp id fun hy => by simp [hy]), ?_⟩
 have := h.len; simp at this; omega
theorem UpInv.go {m o : List (List Int)} {ids out t : List Int} {x : Int} (h : UpInv m o ids out (t ++ [x])) (hx : hasI m.length o.length x = true) (hn : x ∉ out) (hp : (parI m o x).length ≤ 4) : UpInv m o ids (out ++ [x]) (t ++ parI m o x) := by
 have key : ∀ y, y ∈ out ∨ y ∈ t ++ [x] → y ∈ out ++ [x] ∨ y ∈ t ++ parI m o x := fun y hh => by
  rcases hh with hh | hh
  · exact .inl (by simp [hh])
  · rcases List.mem_append.1 hh with hh | hh
    · exact .inr (by simp [hh])
    · simp at hh; exact .inl (by simp [hh])
 refine ⟨?_, fun y hy => ?_, fun y hy hh => key y (h.start y hy hh), fun y hy p hp hh => ?_, fun S h1 h2 y hy => ?_, ?_⟩
 · rw [List.nodup_append];exact ⟨h.nodup, by simp, fun a ha b hb => by simp at hb; subst hb; exact fun e => hn (by rw [← e]; exact ha)⟩
 · rcases List.mem_append.1 hy with hy | hy
   · exact h.has y hy
   · simp at hy; rw [hy]; exact hx
 · rcases List.mem_append.1 hy with hy | hy
   · exact key p (h.step y hy p hp hh)
   · simp at hy; subst hy; exact .inr (List.mem_append_right _ (by assumption))
 · have hSx : S x := h.least S h1 h2 x (.inr (by simp));rcases hy with hy | hy
   · rcases List.mem_append.1 hy with hy | hy
     · exact h.least S h1 h2 y (.inl hy)
     · simp at hy; rw [hy]; exact hSx
   · rcases List.mem_append.1 hy with hy | hy
     · exact h.least S h1 h2 y (.inr (by simp [hy]))
     · exact h2 x hSx y hy
 · have := h.len; simp at this ⊢; omega
def UpSet (m o : List (List Int)) (ids l : List Int) : Prop := UpInv m o ids l []
def upMu (N : Nat) (out todo : List Int) : Nat := 5 * (N - out.length) + todo.length
theorem rel48 (m o : List (List Int)) (tm to ti : Tag) (ids : List Int) (hm : m.length ≤ 1000) (ho : o.length ≤ 1000) (hi : ids.length ≤ 100000) (hr : ∀ x, (parI m o x).length ≤ 4) :
 GRel Try.prog 20 [.agg [.slice (tabG m) tm, .slice (tabG o) to], .slice (ints ids) ti] (fun g => ∃ l, g = .slice (ints l) .none ∧ UpSet m o ids l) := by
 refine h20.rel mixS (by simp) ?_
 simp only [gs0, s20, reduceAdd, reduceSub]
 simp +contextual -implicitDefEqProofs (maxSteps := 2000000) (disch := omega) only [↓lenV, binV, ↓unV, optV, ↓loadV, ↓indexAddrV, ↓boxV, ↓buildSliceV, ↓sliceV, ↓appendV, ↓srcV, bound, cutTag, hiTag, fillE, GVal.cells, GVal.ofConst, ↓resV, resG, ↓reduceIte, reduceEqDiff, reduceAdd, reduceSub, reduceLeDiff, reduceCtorEq, ↓asrcV, Tag.cap, GVal.solid, Nat.reduceBEq, reduceMul, reduceLT, vcA, ↓vcB, vcC, fbFg, vcD]
 refine ⟨by omega, by omega, fun a => ?_⟩
 refine vcSLoop_by (ι := { p : List Int × List Int × Nat // UpInv m o ids p.1 p.2.1 }) (fun p => ⟨[.any, .any, .ref [.slice (tabG m) tm, .slice (tabG o) to], .any, .any, .slice (ints p.1.1) (.tok 1 p.1.2.2), .slice (ints p.1.2.1) .none] ++ List.replicate 43 .any, [.tok a 1, .tok p.1.2.2 1]⟩) (fun p => upMu (m.length + o.length) p.1.1 p.1.2.1) ?_ ?_
 · refine Into.tok 5 1 [] rfl rfl ?_;simp +contextual -implicitDefEqProofs (maxSteps := 2000000) (disch := omega) only [↓lenV, binV, ↓unV, optV, ↓loadV, ↓indexAddrV, ↓boxV, ↓buildSliceV, ↓sliceV, ↓appendV, ↓srcV, bound, cutTag, hiTag, fillE, GVal.cells, GVal.ofConst, ↓resV, resG, ↓reduceIte, reduceEqDiff, reduceAdd, reduceSub, reduceLeDiff, reduceCtorEq, ↓asrcV, Tag.cap, GVal.solid, Nat.reduceBEq, reduceMul, reduceLT, vcA, ↓vcB, vcC, fbFg, vcD]
   intro t;exact Into.first ⟨([], ids, t), by simp, by simp, fun x hx _ => .inr hx, by simp, fun S h1 h2 x hx => h1 x (by simpa using hx), by simp⟩ ⟨[], by simp⟩ (by simp [WL, leG_self, leG_any, ints_nil, leG_none])
 · rintro ⟨⟨out, todo, v⟩, inv⟩
   change UpInv m o ids out todo at inv
   have hol := inv.out_len;have htl := inv.len;have fin : todo = [] → ∃ r, frzTo r (.slice (ints out) (.tok 1 v)) [.tok a 1, .tok v 1] ∧ ∃ l, r = .slice (ints l) .none ∧ UpSet m o ids l := fun e => by
    subst e;exact ⟨_, ⟨2, _, frz_intsS _ 0 _ _, by rw [Tag.frz, leA_slice]⟩, out, rfl, inv⟩
   simp +contextual -implicitDefEqProofs (maxSteps := 2000000) (disch := omega) only [↓lenV, binV, ↓unV, optV, ↓loadV, ↓indexAddrV, ↓boxV, ↓buildSliceV, ↓sliceV, ↓appendV, ↓srcV, bound, cutTag, hiTag, fillE, GVal.cells, GVal.ofConst, ↓resV, resG, ↓reduceIte, reduceEqDiff, reduceAdd, reduceSub, reduceLeDiff, reduceCtorEq, ↓asrcV, Tag.cap, GVal.solid, Nat.reduceBEq, reduceMul, reduceLT, vcA, ↓vcB, vcC, fbFg, toNat_pred, ints_take, Int.toNat_zero, vcD]
   refine ⟨fun h => ⟨by omega, by omega, by omega, by omega, by omega, ?_⟩, fun h => fin (List.length_eq_zero_iff.1 (by omega))⟩;have hlast : todo = todo.take (todo.length - 1) ++ [todo.getD (todo.length - 1) 0] := by
    have h1 : todo.length - 1 < todo.length := by omega
    have := List.take_add_one (l := todo) (i := todo.length - 1);rw [List.take_of_length_le (by omega), List.getElem?_eq_getElem h1] at this
    simpa [List.getD, h1] using this
   have hl2 : (todo.take (todo.length - 1)).length = todo.length - 1 := by rw [List.length_take]; omega
   generalize todo.getD (todo.length - 1) 0 = x at *;generalize todo.take (todo.length - 1) = t at *;rw [hlast] at inv;have c16 := spec16 m o tm to x hm ho;have hp := hr x;cases hh : hasI m.length o.length x
   · rw [hh] at c16;refine c16.then ?_
     simp +contextual -implicitDefEqProofs (maxSteps := 2000000) (disch := omega) only [↓lenV, binV, ↓unV, optV, ↓loadV, ↓indexAddrV, ↓boxV, ↓buildSliceV, ↓sliceV, ↓appendV, ↓srcV, bound, cutTag, hiTag, fillE, GVal.cells, GVal.ofConst, ↓resV, resG, ↓reduceIte, reduceEqDiff, reduceAdd, reduceSub, reduceLeDiff, reduceCtorEq, ↓asrcV, Tag.cap, GVal.solid, Nat.reduceBEq, reduceMul, reduceLT, vcA, ↓vcB, vcC, fbFg, vcD]
     exact Into.at ⟨(out, t, v), inv.skip (.inl hh)⟩ (by show upMu _ out t < upMu _ out todo; unfold upMu; omega) ⟨[], by simp⟩ (by simp [WL, leG_self, leG_any])
   · rw [hh] at c16;refine c16.then ?_
     simp +contextual -implicitDefEqProofs (maxSteps := 2000000) (disch := omega) only [↓lenV, binV, ↓unV, optV, ↓loadV, ↓indexAddrV, ↓boxV, ↓buildSliceV, ↓sliceV, ↓appendV, ↓srcV, bound, cutTag, hiTag, fillE, GVal.cells, GVal.ofConst, ↓resV, resG, ↓reduceIte, reduceEqDiff, reduceAdd, reduceSub, reduceLeDiff, reduceCtorEq, ↓asrcV, Tag.cap, GVal.solid, Nat.reduceBEq, reduceMul, reduceLT, vcA, ↓vcB, vcC, fbFg, vcD]
     have c62 := spec62 out (.tok 1 v) x (by omega);by_cases hm2 : x ∈ out
     · rw [decide_eq_true hm2] at c62;refine c62.then ?_
       simp +contextual -implicitDefEqProofs (maxSteps := 2000000) (disch := omega) only [↓lenV, binV, ↓unV, optV, ↓loadV, ↓indexAddrV, ↓boxV, ↓buildSliceV, ↓sliceV, ↓appendV, ↓srcV, bound, cutTag, hiTag, fillE, GVal.cells, GVal.ofConst, ↓resV, resG, ↓reduceIte, reduceEqDiff, reduceAdd, reduceSub, reduceLeDiff, reduceCtorEq, ↓asrcV, Tag.cap, GVal.solid, Nat.reduceBEq, reduceMul, reduceLT, vcA, ↓vcB, vcC, fbFg, vcD]
       exact Into.at ⟨(out, t, v), inv.skip (.inr hm2)⟩ (by show upMu _ out t < upMu _ out todo; unfold upMu; omega) ⟨[], by simp⟩ (by simp [WL, leG_self, leG_any])
     · rw [decide_eq_false hm2] at c62;refine c62.then ?_
       have inv2 := inv.go hh hm2 hp;have hol2 := inv2.out_len;simp only [List.length_append, List.length_singleton] at hol2;simp +contextual -implicitDefEqProofs (maxSteps := 2000000) (disch := omega) only [↓lenV, binV, ↓unV, optV, ↓loadV, ↓indexAddrV, ↓boxV, ↓buildSliceV, ↓sliceV, ↓appendV, ↓srcV, bound, cutTag, hiTag, fillE, GVal.cells, GVal.ofConst, ↓resV, resG, ↓reduceIte, reduceEqDiff, reduceAdd, reduceSub, reduceLeDiff, reduceCtorEq, ↓asrcV, Tag.cap, GVal.solid, Nat.reduceBEq, reduceMul, reduceLT, vcA, ↓vcB, vcC, fbFg, vcD]
       have ht : t.length + 1 = todo.length := by omega
       refine ⟨by omega, by omega, fun st1 => ⟨by omega, by omega, fun st2 => ⟨by omega, by omega, fun st3 => ?_⟩⟩⟩;exact Into.at ⟨(out ++ [x], t ++ parI m o x, st1), inv2⟩ (by show upMu _ (out ++ [x]) (t ++ parI m o x) < upMu _ out todo; unfold upMu; simp only [List.length_append, List.length_singleton]; omega) ⟨[.tok st3 1], by simp⟩ (by simp [WL, leG_self, leG_any, ints_append, ints_one, leG_none])
def spansOf (l : List Seg) : List (Int × Int) := l.map fun s => (s.lo, s.hi)
def okP (p : Int × Int) : Prop := 0 ≤ p.1 ∧ p.1 ≤ p.2 ∧ p.2 ≤ split + 1000 ∧ (p.1 < split ↔ p.2 < split)
def SegsOK (l : List Seg) : Prop := (∀ p ∈ spansOf l, okP p) ∧ (spansOf l).Pairwise (fun a b => a.2 < b.1)
theorem spansOf_set (l : List Seg) (i : Nat) (s : Seg) (h : s.lo = (l.getD i default).lo ∧ s.hi = (l.getD i default).hi) : spansOf (l.set i s) = spansOf l := by
 by_cases hi : i < l.length
 · apply List.ext_getElem (by simp [spansOf]);intro j h1 h2;simp only [spansOf, List.getElem_map, List.getElem_set];split
   · rename_i e; subst e; rw [h.1, h.2]; simp [List.getD, hi]
   · rfl
 · rw [List.set_eq_of_length_le (by omega)]
theorem sumP_set : ∀ (l : List Seg) (i : Nat) (s : Seg), s.par = (l.getD i default).par → sumP (l.set i s) = sumP l
 | [], i, s, h => rfl
 | a :: l, 0, s, h => by simp at h; simp [sumP, h]
 | a :: l, i + 1, s, h => by
  simp only [List.getD_cons_succ] at h;simp [sumP, sumP_set l i s h]
theorem SegsOK_head (u : List Seg) (i : Nat) (b : Bool) (h : SegsOK u) : SegsOK (u.set i { u.getD i default with head := b }) := by
 have := spansOf_set u i { u.getD i default with head := b } ⟨rfl, rfl⟩
 unfold SegsOK
 rw [this]; exact h
theorem sumP_head (u : List Seg) (i : Nat) (b : Bool) : sumP (u.set i { u.getD i default with head := b }) = sumP u := sumP_set u i _ rfl
theorem SegsOK.snoc {l : List Seg} {s : Seg} (h : SegsOK l) (hs : okP (s.lo, s.hi)) (hl : ∀ x ∈ l, x.hi < s.lo) : SegsOK (l ++ [s]) := by
 obtain ⟨h1, h2⟩ := h
 refine ⟨fun p hp => ?_, ?_⟩
 · simp only [spansOf, List.map_append, List.map_cons, List.map_nil, List.mem_append, List.mem_singleton] at hp;rcases hp with hp | rfl
   · exact h1 p hp
   · exact hs
 · simp only [spansOf, List.map_append, List.map_cons, List.map_nil, List.pairwise_append];refine ⟨h2, by simp, fun a ha b hb => ?_⟩;simp at hb;subst hb;obtain ⟨x, hx, rfl⟩ := List.mem_map.1 ha;exact hl x hx
theorem SegsOK.init {l : List Seg} {s : Seg} (h : SegsOK (l ++ [s])) : SegsOK l ∧ okP (s.lo, s.hi) ∧ ∀ x ∈ l, x.hi < s.lo := by
 obtain ⟨h1, h2⟩ := h
 simp only [spansOf, List.map_append, List.map_cons, List.map_nil, List.pairwise_append] at h1 h2
 refine ⟨⟨fun p hp => h1 p (by simp only [List.mem_append]; exact .inl hp), h2.1⟩, h1 _ (by simp), fun x hx => ?_⟩
 exact h2.2.2 (x.lo, x.hi) (List.mem_map.2 ⟨x, hx, rfl⟩) (s.lo, s.hi) (by simp)
structure FlatInv (m o : List (List Int)) (k : Nat) (out : List Seg) : Prop where
 ok : SegsOK out
 mem : ∀ s ∈ out, ∃ j, j < k ∧ s.hi = (allI m.length o.length).getD j 0
 len : out.length ≤ k
 sum : sumP out ≤ 4 * k
theorem allI_at (m o k : Nat) (h : k < m + o) : (allI m o).getD k 0 = if k < m then (k : Int) else split + ((k - m : Nat) : Int) := by
 split
 · rename_i e; exact allI_getD1 m o k e
 · exact allI_getD2 m o k (by omega) h
theorem FlatInv.new {m o : List (List Int)} {k : Nat} {out : List Seg} (h : FlatInv m o k out) (hm : m.length + o.length ≤ 500) (hk : k < m.length + o.length) {p : List Int} (hp : p.length ≤ 4) {r b : Bool} :
 FlatInv m o (k + 1) (out ++ [⟨(allI m.length o.length).getD k 0, (allI m.length o.length).getD k 0, p, r, b⟩]) := by
 have hs : split = 1099511627776 := rfl
 have ek := allI_at m.length o.length k hk
 refine ⟨h.ok.snoc ?_ fun x hx => ?_, fun s hs => ?_, ?_, ?_⟩
 · show okP ((allI m.length o.length).getD k 0, (allI m.length o.length).getD k 0);unfold okP;refine ⟨?_, ?_, ?_, Iff.rfl⟩ <;> simp only <;> split at ek <;> omega
 · obtain ⟨j, hj, e⟩ := h.mem x hx;have ej := allI_at m.length o.length j (by omega);show x.hi < (allI m.length o.length).getD k 0;split at ek <;> split at ej <;> omega
 · rcases List.mem_append.1 hs with hs | hs
   · obtain ⟨j, hj, e⟩ := h.mem s hs;exact ⟨j, by omega, e⟩
   · simp at hs; subst hs; exact ⟨k, by omega, rfl⟩
 · have := h.len; simp; omega
 · have := h.sum; rw [sumP_app]; simp only [sumP]; omega
theorem FlatInv.more {m o : List (List Int)} {k : Nat} {out : List Seg} (h : FlatInv m o k out) (hm : m.length + o.length ≤ 500) (hk : k < m.length + o.length) (hne : out ≠ []) (he : (out.getD (out.length - 1) default).hi = (allI m.length o.length).getD k 0 - 1) :
 FlatInv m o (k + 1) (out.set (out.length - 1) { out.getD (out.length - 1) default with hi := (allI m.length o.length).getD k 0 }) := by
 have hs : split = 1099511627776 := rfl
 have ek := allI_at m.length o.length k hk
 obtain ⟨e1, e2⟩ := set_last out hne default { out.getD (out.length - 1) default with hi := (allI m.length o.length).getD k 0 }
 have hlast : out.getD (out.length - 1) default ∈ out := by
  have : out.length - 1 < out.length := by have := List.length_pos_iff.2 hne; omega
  rw [List.getD_eq_getElem?_getD, List.getElem?_eq_getElem this]; exact List.getElem_mem this
 obtain ⟨j, hj, ej⟩ := h.mem _ hlast
 have ej2 := allI_at m.length o.length j (by omega)
 have hsum := sumP_set out (out.length - 1) { out.getD (out.length - 1) default with hi := (allI m.length o.length).getD k 0 } rfl
 have hok := h.ok
 rw [e1] at hok
 obtain ⟨i1, i2, i3⟩ := hok.init
 refine ⟨?_, fun s hs => ?_, ?_, ?_⟩
 · rw [e2];refine i1.snoc ?_ i3;show okP ((out.getD (out.length - 1) default).lo, (allI m.length o.length).getD k 0);unfold okP at i2 ⊢;simp only at i2 ⊢
   split at ek <;> split at ej2 <;> omega
 · rw [e2] at hs;rcases List.mem_append.1 hs with hs | hs
   · obtain ⟨j, hj, e⟩ := h.mem s (by rw [e1]; exact List.mem_append_left _ hs);exact ⟨j, by omega, e⟩
   · simp at hs; subst hs; exact ⟨k, by omega, rfl⟩
 · have := h.len; rw [List.length_set]; omega
 · have := h.sum; rw [hsum]; omega
def idsS (l : List Seg) : List Int := (spansOf l).flatMap fun p => ups p.1 (p.2 + 1 - p.1).toNat
theorem FlatInv.newP {m o : List (List Int)} {k : Nat} {out : List Seg} (h : FlatInv m o k out) (hm : m.length + o.length ≤ 1000) (hk : k < m.length + o.length) {p : List Int} (hp : p.length ≤ 4) {r b : Bool} :
 FlatInv m o (k + 1) (out ++ [⟨(allI m.length o.length).getD k 0, (allI m.length o.length).getD k 0, p, r, b⟩]) := by
 have hs : split = 1099511627776 := rfl
 have ek := allI_at m.length o.length k hk
 refine ⟨h.ok.snoc ?_ fun x hx => ?_, fun s hs => ?_, ?_, ?_⟩
 · show okP ((allI m.length o.length).getD k 0, (allI m.length o.length).getD k 0);unfold okP;refine ⟨?_, ?_, ?_, Iff.rfl⟩ <;> simp only <;> split at ek <;> omega
 · obtain ⟨j, hj, e⟩ := h.mem x hx;have ej := allI_at m.length o.length j (by omega);show x.hi < (allI m.length o.length).getD k 0;split at ek <;> split at ej <;> omega
 · rcases List.mem_append.1 hs with hs | hs
   · obtain ⟨j, hj, e⟩ := h.mem s hs;exact ⟨j, by omega, e⟩
   · simp at hs; subst hs; exact ⟨k, by omega, rfl⟩
 · have := h.len; simp; omega
 · have := h.sum; rw [sumP_app]; simp only [sumP]; omega
theorem FlatInv.moreP {m o : List (List Int)} {k : Nat} {out : List Seg} (h : FlatInv m o k out) (hm : m.length + o.length ≤ 1000) (hk : k < m.length + o.length) (hne : out ≠ []) (he : (out.getD (out.length - 1) default).hi = (allI m.length o.length).getD k 0 - 1) :
 FlatInv m o (k + 1) (out.set (out.length - 1) { out.getD (out.length - 1) default with hi := (allI m.length o.length).getD k 0 }) := by
 have hs : split = 1099511627776 := rfl
 have ek := allI_at m.length o.length k hk
 obtain ⟨e1, e2⟩ := set_last out hne default { out.getD (out.length - 1) default with hi := (allI m.length o.length).getD k 0 }
 have hlast : out.getD (out.length - 1) default ∈ out := by
  have : out.length - 1 < out.length := by have := List.length_pos_iff.2 hne; omega
  rw [List.getD_eq_getElem?_getD, List.getElem?_eq_getElem this]; exact List.getElem_mem this
 obtain ⟨j, hj, ej⟩ := h.mem _ hlast
 have ej2 := allI_at m.length o.length j (by omega)
 have hsum := sumP_set out (out.length - 1) { out.getD (out.length - 1) default with hi := (allI m.length o.length).getD k 0 } rfl
 have hok := h.ok
 rw [e1] at hok
 obtain ⟨i1, i2, i3⟩ := hok.init
 refine ⟨?_, fun s hs => ?_, ?_, ?_⟩
 · rw [e2];refine i1.snoc ?_ i3;show okP ((out.getD (out.length - 1) default).lo, (allI m.length o.length).getD k 0);unfold okP at i2 ⊢;simp only at i2 ⊢
   split at ek <;> split at ej2 <;> omega
 · rw [e2] at hs;rcases List.mem_append.1 hs with hs | hs
   · obtain ⟨j, hj, e⟩ := h.mem s (by rw [e1]; exact List.mem_append_left _ hs);exact ⟨j, by omega, e⟩
   · simp at hs; subst hs; exact ⟨k, by omega, rfl⟩
 · have := h.len; rw [List.length_set]; omega
 · have := h.sum; rw [hsum]; omega
structure FlatC (m o : List (List Int)) (k : Nat) (out : List Seg) : Prop where
 inv : FlatInv m o k out
 cov : idsS out = (allI m.length o.length).take k
theorem take_allI {m o k : Nat} (h : k < m + o) : (allI m o).take (k + 1) = (allI m o).take k ++ [(allI m o).getD k 0] := by
 rw [List.take_succ_eq_append_getElem (by rw [allI_len]; exact h), List.getD_eq_getElem?_getD, List.getElem?_eq_getElem (by rw [allI_len]; exact h)]; rfl
theorem FlatC.new {m o : List (List Int)} {k : Nat} {out : List Seg} (h : FlatC m o k out) (hm : m.length + o.length ≤ 1000) (hk : k < m.length + o.length) {p : List Int} (hp : p.length ≤ 4) {r b : Bool} :
 FlatC m o (k + 1) (out ++ [⟨(allI m.length o.length).getD k 0, (allI m.length o.length).getD k 0, p, r, b⟩]) := by
 refine ⟨h.inv.newP hm hk hp, ?_⟩
 rw [take_allI hk, ← h.cov]
 have e : ∀ x : Int, ups x (x + 1 - x).toNat = [x] := fun x => by
  rw [show (x + 1 - x).toNat = 0 + 1 by omega, ups_succ]; simp [ups]
 simp only [idsS, spansOf, List.map_append, List.flatMap_append, List.map_cons, List.map_nil, List.flatMap_cons, List.flatMap_nil, List.append_nil, e]
theorem FlatC.more {m o : List (List Int)} {k : Nat} {out : List Seg} (h : FlatC m o k out) (hm : m.length + o.length ≤ 1000) (hk : k < m.length + o.length) (hne : out ≠ []) (he : (out.getD (out.length - 1) default).hi = (allI m.length o.length).getD k 0 - 1) :
 FlatC m o (k + 1) (out.set (out.length - 1) { out.getD (out.length - 1) default with hi := (allI m.length o.length).getD k 0 }) := by
 refine ⟨h.inv.moreP hm hk hne he, ?_⟩
 rw [take_allI hk, ← h.cov]
 have hok := h.inv.ok.1
 obtain ⟨a, x, rfl⟩ : ∃ a x, out = a ++ [x] := ⟨out.dropLast, out.getLast hne, (List.dropLast_concat_getLast hne).symm⟩
 have e0 : (a ++ [x]).getD ((a ++ [x]).length - 1) default = x := by simp [List.getD]
 have e2 : ∀ y : Seg, (a ++ [x]).set ((a ++ [x]).length - 1) y = a ++ [y] := fun y => by simp
 rw [e0] at he ⊢
 rw [e2]
 have hx := hok (x.lo, x.hi) (by simp [spansOf])
 unfold okP at hx
 simp only at hx
 generalize (allI m.length o.length).getD k 0 = id at *
 have e3 : (id + 1 - x.lo).toNat = (x.hi + 1 - x.lo).toNat + 1 := by omega
 have e4 : x.lo + ((x.hi + 1 - x.lo).toNat : Int) = id := by omega
 simp only [idsS, spansOf, List.map_append, List.flatMap_append, List.map_cons, List.map_nil, List.flatMap_cons, List.flatMap_nil, List.append_nil, e3, ups_succ, e4, List.append_assoc]
def SegsC (m o : List (List Int)) (l : List Seg) : Prop := SegsOK l ∧ idsS l = allI m.length o.length
theorem SegsC_head {m o : List (List Int)} (u : List Seg) (i : Nat) (b : Bool) (h : SegsC m o u) : SegsC m o (u.set i { u.getD i default with head := b }) := by
 refine ⟨SegsOK_head u i b h.1, ?_⟩
 rw [← h.2]
 unfold idsS
 rw [spansOf_set u i { u.getD i default with head := b } ⟨rfl, rfl⟩]
def zbPFg30 := ai @segsG_length <| ai @segsG_at <| ai @segG.eq_1 <| @ints_one
theorem relFlat (m o : List (List Int)) (hm : m.length + o.length ≤ 1000) (hr : ∀ x, (parI m o x).length ≤ 4) :
 GRel Try.prog 6 [.agg [.slice (tabG m) .none, .slice (tabG o) .none]] (fun g => ∃ u, g = .slice (segsG u) .none ∧ SegsOK u ∧ idsS u = allI m.length o.length ∧ sumP u ≤ 4000 ∧ u.length ≤ 1000) := by
 have hA : (allI m.length o.length).length = m.length + o.length := allI_len _ _
 refine h6.ra ?_
 refine vq0 ?_
 refine (spec14 m o .none .none (by omega) (by omega)).then ?_
 refine vq0 ?_
 refine vcSLoop_by (ι := { p : Nat × List Seg × Nat // p.1 ≤ m.length + o.length ∧ FlatC m o p.1 p.2.1 }) (fun p => ⟨[.any, .ref [.slice (tabG m) .none, .slice (tabG o) .none], .any, .own 0 p.1.2.2 0 p.1.2.1.length, .slice (ints (allI m.length o.length)) .none, .int .i64 (p.1.1 : Nat)] ++ List.replicate 135 .any, [.row p.1.2.2 5 (segsG p.1.2.1)]⟩) (fun p => m.length + o.length - p.1.1) ?_ ?_
 · refine Into.row 3 5 rfl rfl ?_;refine vq0 ?_;intro t;exact Into.first ⟨(0, [], t), by omega, ⟨⟨by simp [SegsOK, spansOf], by simp, by simp, by simp [sumP]⟩, by simp [idsS, spansOf]⟩⟩ ⟨[], by simp [segsG]⟩ (by simp [WL, leG_self, leG_any])
 · rintro ⟨⟨k, out, v⟩, hk, inv⟩
   change k ≤ m.length + o.length at hk
   change FlatC m o k out at inv
   have hol := inv.inv.len;refine vq0 ?_;refine ⟨fun h => ⟨by omega, ?_⟩, fun h => ?_⟩
   · have hkm : k < m.length + o.length := by omega
     have hpos : 0 < out.length → out ≠ [] := fun h e => by subst e; simp at h
     have hp4 := hr ((allI m.length o.length).getD k 0);have ek := allI_at m.length o.length k hkm;have hs : split = 1099511627776 := rfl;have hid : 0 ≤ (allI m.length o.length).getD k 0 ∧ (allI m.length o.length).getD k 0 ≤ split + 1000 := by split at ek <;> omega
     have more := fun a b => inv.more hm hkm a b
     have new := fun r b => inv.new (p := parI m o ((allI m.length o.length).getD k 0)) hm hkm hp4 (r := r) (b := b)
     refine (spec16 m o .none .none ((allI m.length o.length).getD k 0) (by omega) (by omega)).then ?_
     clear ek;generalize hidq : (allI m.length o.length).getD k 0 = id at *;generalize parI m o id = p at *;simp +contextual -implicitDefEqProofs (maxSteps := 2000000) (disch := omega) only [drawC, drawK, keepT, ↓lenV, binV, optV, ↓loadV, ↓storeV, ↓fieldAddrV, ↓indexAddrV, ↓boxV, ↓buildV, ↓buildSliceV, ↓sliceV, ↓appendV, ↓srcV, bound, cutTag, hiTag, fillG, fillE, place, GVal.cells, GVal.ofConst, ↓resV, resG, ↓reduceIte, reduceEqDiff, reduceAdd, reduceSub, reduceLeDiff, reduceCtorEq, ↓asrcV, aggV, Tag.cap, GVal.solid, Nat.reduceBEq, reduceMul, reduceLT, vcA, ↓vcB, vcC, fbFg, segsG_length, segsG_at, segG, toNat_pred, Int.toNat_zero, all_segsG, cast_beq_zero, hidq, vcD]
     refine ⟨fun h1 => ⟨by omega, by omega, by omega, by omega, by omega, by omega, fun h2 => ⟨fun h3 => ⟨by omega, by omega, by omega, by omega, fun h4 => ?_, fun h4 => ?_⟩, fun h3 => ?_⟩, fun h2 => ?_⟩, fun h1 => ?_⟩
     · refine ⟨by omega, by omega, by omega, by omega, by omega, by omega, ?_⟩;refine Into.at ⟨(k + 1, out.set (out.length - 1) { out.getD (out.length - 1) default with hi := id }, v), by show k + 1 ≤ _; omega, more (hpos (by omega)) h2⟩ (by show _ < _; simp; omega) ⟨[], ?_⟩ (by simp [WL, leG_self, leG_any, leG_int]);simp only [List.append_nil, ← segsG_set]; rfl
     all_goals
      refine ⟨by omega, by omega, by omega, by omega, by omega, by omega, fun a => ⟨⟨[.tok a 1], rfl⟩, by omega, by omega, by omega, fun b => ?_⟩⟩;rw [List.take_of_length_le (by rw [segsG_length]; omega)];refine Into.rowLast 0 (segsG out) _ (segG ⟨id, id, p, decide (p.length = 0), false⟩) rfl (fun x hx => by have := all_segsG out; simp only [eq_iff_iff, iff_true] at this; exact this x hx) rfl (by simp [WL, segG, leG_self, leG_none, leG_bool] <;> (intro e; subst e; simp at h3)) ?_;refine Into.at ⟨(k + 1, out ++ [⟨id, id, p, decide (p.length = 0), false⟩], b), by show k + 1 ≤ _; omega, new _ _⟩ (by show _ < _; simp; omega) ⟨[.tok a 1], by simp [segsG_append, segsG_one]⟩ (by simp [WL, leG_self, leG_any, leG_int])
   · have hk2 : k = m.length + o.length := by omega
     have len0 : out.length ≤ 1000 := by have := inv.inv.len; omega
     have sum0 : sumP out ≤ 4000 := by have := inv.inv.sum; omega
     have ok0 : SegsC m o out := ⟨inv.inv.ok, by rw [inv.cov, hk2, List.take_of_length_le (by rw [hA]; omega)]⟩
     refine vcSLoop_by (ι := { p : Nat × List Seg // p.1 ≤ out.length ∧ p.2.length = out.length ∧ SegsC m o p.2 ∧ sumP p.2 ≤ 4000 }) (fun p => ⟨[.any, .ref [.slice (tabG m) .none, .slice (tabG o) .none], .any, .own 0 v 0 out.length, .any, .any, .any, .any, .any, .int .i64 (p.1.1 : Nat)] ++ List.replicate 131 .any, [.row v 5 (segsG p.1.2)]⟩) (fun p => out.length - p.1.1) ?_ ?_
     · exact Into.first ⟨(0, out), by omega, rfl, ok0, sum0⟩ ⟨[], by simp⟩ (by simp [WL, leG_self, leG_any])
     · rintro ⟨⟨i, u⟩, hi, hu, ok1, sum1⟩
       change i ≤ out.length at hi
       change u.length = out.length at hu
       change SegsC m o u at ok1
       change sumP u ≤ 4000 at sum1
       have hok := ok1.1.1;refine vq1 zbPFg30 ?_;refine ⟨fun h1 => ⟨by omega, by omega, by omega, fun h2 => ⟨by omega, by omega, by omega, ?_⟩, fun h2 => ⟨by omega, by omega, by omega, ?_⟩⟩, fun h1 => ?_⟩
       · skip
         refine (rel48 m o .none .none .full [(u.getD i default).hi] (by omega) (by omega) (by simp) hr).then ?_
         rintro g ⟨l, rfl, hl⟩;have hll := hl.out_len;refine vq0 ?_;refine vcSLoop_by (ι := { q : Nat × Nat // q.1 ≤ l.length ∧ q.2 ≤ q.1 }) (fun q => ⟨[.any, .ref [.slice (tabG m) .none, .slice (tabG o) .none], .any, .own 0 v 0 out.length, .any, .any, .any, .any, .any, .int .i64 (i : Nat), .int .i64 1099511627776, .slice (ints l) .none, .int .i64 (q.1.2 : Nat), .int .i64 (q.1.1 : Nat)] ++ List.replicate 127 .any, [.row v 5 (segsG u)]⟩) (fun q => l.length - q.1.1) ?_ ?_
         · exact Into.first ⟨(0, 0), by omega, by omega⟩ ⟨[], by simp⟩ (by simp [WL, leG_self, leG_any])
         · rintro ⟨⟨j, n⟩, hj, hn⟩
           change j ≤ l.length at hj
           change n ≤ j at hn
           refine vq1 zbPFg30 ?_;refine ⟨fun h3 => ⟨by omega, fun h4 => ?_, fun h4 => ?_⟩, fun h3 => ?_⟩
           · exact Into.at ⟨(j + 1, n + 1), by show j + 1 ≤ _; omega, by show n + 1 ≤ j + 1; omega⟩ (by show _ < _; simp; omega) ⟨[], by simp⟩ (by simp [WL, leG_self, leG_any, leG_int])
           · exact Into.at ⟨(j + 1, n), by show j + 1 ≤ _; omega, by show n ≤ j + 1; omega⟩ (by show _ < _; simp; omega) ⟨[], by simp⟩ (by simp [WL, leG_self, leG_any, leG_int])
           · refine ⟨by omega, by omega, by omega, by omega, by omega, by omega, by omega, by omega, ?_⟩;refine Into.at ⟨(i + 1, u.set i { u.getD i default with head := ((n : Int) == norm .i64 (norm .i64 ((u.getD i default).hi - 1099511627776) + 1)) }), by show i + 1 ≤ _; omega, by show (u.set i _).length = _; rw [List.length_set]; exact hu, ?_, ?_⟩ (by show out.length - (i + 1) < out.length - i; omega) ⟨[], ?_⟩ (by simp [WL, leG_self, leG_any, leG_int])
             · show SegsC m o (u.set i _);exact SegsC_head u i _ ok1
             · show sumP (u.set i _) ≤ 4000;exact Nat.le_trans (Nat.le_of_eq (sumP_head u i _)) sum1
             · simp only [List.append_nil, ← segsG_set]; rfl
       · skip
         refine (rel48 m o .none .none .full [(u.getD i default).hi] (by omega) (by omega) (by simp) hr).then ?_
         rintro g ⟨l, rfl, hl⟩;have hll := hl.out_len;refine vq0 ?_;refine vcSLoop_by (ι := { q : Nat × Nat // q.1 ≤ l.length ∧ q.2 ≤ q.1 }) (fun q => ⟨[.any, .ref [.slice (tabG m) .none, .slice (tabG o) .none], .any, .own 0 v 0 out.length, .any, .any, .any, .any, .any, .int .i64 (i : Nat), .int .i64 0, .slice (ints l) .none, .int .i64 (q.1.2 : Nat), .int .i64 (q.1.1 : Nat)] ++ List.replicate 127 .any, [.row v 5 (segsG u)]⟩) (fun q => l.length - q.1.1) ?_ ?_
         · exact Into.first ⟨(0, 0), by omega, by omega⟩ ⟨[], by simp⟩ (by simp [WL, leG_self, leG_any])
         · rintro ⟨⟨j, n⟩, hj, hn⟩
           change j ≤ l.length at hj
           change n ≤ j at hn
           refine vq1 zbPFg30 ?_;refine ⟨fun h3 => ⟨by omega, fun h4 => ?_, fun h4 => ?_⟩, fun h3 => ?_⟩
           · exact Into.at ⟨(j + 1, n + 1), by show j + 1 ≤ _; omega, by show n + 1 ≤ j + 1; omega⟩ (by show _ < _; simp; omega) ⟨[], by simp⟩ (by simp [WL, leG_self, leG_any, leG_int])
           · exact Into.at ⟨(j + 1, n), by show j + 1 ≤ _; omega, by show n ≤ j + 1; omega⟩ (by show _ < _; simp; omega) ⟨[], by simp⟩ (by simp [WL, leG_self, leG_any, leG_int])
           · refine ⟨by omega, by omega, by omega, by omega, by omega, by omega, by omega, by omega, ?_⟩;refine Into.at ⟨(i + 1, u.set i { u.getD i default with head := ((n : Int) == norm .i64 (norm .i64 ((u.getD i default).hi - 0) + 1)) }), by show i + 1 ≤ _; omega, by show (u.set i _).length = _; rw [List.length_set]; exact hu, ?_, ?_⟩ (by show out.length - (i + 1) < out.length - i; omega) ⟨[], ?_⟩ (by simp [WL, leG_self, leG_any, leG_int])
             · show SegsC m o (u.set i _);exact SegsC_head u i _ ok1
             · show sumP (u.set i _) ≤ 4000;exact Nat.le_trans (Nat.le_of_eq (sumP_head u i _)) sum1
             · simp only [List.append_nil, ← segsG_set]; rfl
       · rw [← hu];exact ⟨_, ⟨4, _, frz_own rfl (segsG_length _).symm (frz_segs _ 1 _), by rw [leA_slice]⟩, u, rfl, ok1.1, ok1.2, sum1, by omega⟩
theorem same_len {a b : List Hs} (ha : a.Nodup) (hb : b.Nodup) (h : ∀ x, x ∈ a ↔ x ∈ b) : a.length = b.length :=
 Nat.le_antisymm (nodup_lenH a b ha fun x hx => (h x).1 hx) (nodup_lenH b a hb fun x hx => (h x).2 hx)
theorem joined_add {gr : Int} {m M : GM} {cs : List Cm} {hs : List Hs} (h : joinedP gr m cs hs = .ok M) : joinedP 2 m cs [] = .ok M := by
 obtain ⟨e1, e2, e3, e4, e5⟩ := joined_ok h
 obtain ⟨n1, n2, n3, n4⟩ := sizesP_none e1
 have h1 : sizesP 2 0 cs = none := by
  unfold sizesP at e1 ⊢;split at e1
  · cases e1
  · rw [if_neg (by unfold badReq; omega)];exact e1
 have h3 : lackP M cs [] = none := by
  unfold lackP at e3 ⊢;cases hc : cs.findSome? (fun c => c.2.findSome? (nowhere M 10)) with
  | some e => rw [hc] at e3; cases e3
  | none => rfl
 unfold joinedP
 simp only [List.length_nil, h1, e2, h3, e4]
 rw [if_neg (by omega)]
theorem iNew2 (m : GM) (st s : Nat) (n : Int) (h1 : 1 ≤ n) (h2 : n ≤ 600) : GCalls Try.prog 11 [.int .i64 n] (gObj st s m) (fun g O' => ∃ ti so, g = .tuple [.ptr 2 ti 0 0, .lit .nilIface] ∧ O' = gObj st s m ++ idO2 ti so n [] []) := by
 have d0 : (n < 1) = False := eq_false (by omega)
 have d1 : ((600 : Int) < n) = False := eq_false (by omega)
 have raw : GCalls Try.prog 11 [.int .i64 n] (gObj st s m) (fun g O' => ∃ ti so, g = .tuple [.ptr 3 ti 0 0, .lit .nilIface] ∧ O' = gObj st s m ++ [.map so [], .row ti 4 [[.int .i64 n, .slice [] .nil, .slice [] .nil, .map 2 so]]]) := by
  refine h11.ca ?_;refine vq2 d0 d1 ?_;exact fun so => ⟨rfl, fun ti => ⟨ti, so, rfl, rfl⟩⟩
 refine GCalls.into (raw.mono ?_)
 rintro g O' ⟨ti, so, rfl, rfl⟩ E v w hs hv
 obtain ⟨p1, p2⟩ := hs.pick (X := gObj st s m ++ idO2 ti so n [] []) [0, 1, 3, 2] ⟨⟨_, rfl, .refl _⟩, ⟨_, rfl, .refl _⟩, ⟨_, rfl, OLe.row ⟨⟨GLe.refl _, GLe.none, GLe.none, GLe.map _ _ _, trivial⟩, trivial⟩⟩, ⟨_, rfl, .refl _⟩, trivial⟩ (by decide) rfl
 exact ⟨.tuple [.ptr 2 ti 0 0, .lit .nilIface], _, E, ⟨ti, so, rfl, rfl⟩, p1, p2, GLe.tuple (xs := [.ptr 3 ti 0 0, .lit .nilIface]) (ys := [.ptr 2 ti 0 0, .lit .nilIface]) ⟨GLe.ptr _ _ _ _ _, GLe.refl _, trivial⟩ _ _ hv⟩
section
variable {f : FuncId} {args args' : List GVal} {r : GVal} {ti so : Nat} {n : Int} {M O : List Hs}
end
end Gv.Try
namespace Gv.Try
open Go Gv Go.Proofs
open Nat (reduceEqDiff reduceAdd reduceSub reduceLeDiff reduceMul reduceLT)
theorem c56 (l : List Seg) (t : Tag) (id : Int) (k : Nat) (s1 s2 : Nat) (hk : k < l.length) :
 GCalls Try.prog 41 [.int .i64 (k : Nat), .ptr 0 s1 0 0, .ptr 1 s2 0 0] [.row s1 1 [[.slice (segsG l) t]], .row s2 1 [[.int .i64 id]]] (fun g O' => g = .bool (decide (id ≤ (l.getD k default).hi)) ∧ O' = [.row s1 1 [[.slice (segsG l) t]], .row s2 1 [[.int .i64 id]]]) := by
 have eS : (segsG l).getD k [] = segG (l.getD k default) := segsG_at l k hk
 generalize l.getD k default = s at *
 refine h41.ca ?_
 refine vq3 @segsG_length eS @segG.eq_1 ?_
 omega
def Ends (l : List Seg) (id : Int) (k : Nat) : Prop := k ≤ l.length ∧ (0 < k → (l.getD (k - 1) default).hi < id) ∧ (k < l.length → id ≤ (l.getD k default).hi)
theorem c55 (l : List Seg) (t : Tag) (id : Int) (s1 s2 : Nat) (hl : l.length ≤ 17592186044416) :
 GCalls Try.prog 40 [.int .i64 (l.length : Nat), .func (.func 41) [] [.ptr 0 s1 0 0, .ptr 1 s2 0 0]] [.row s1 1 [[.slice (segsG l) t]], .row s2 1 [[.int .i64 id]]] (fun g O' => (∃ k : Nat, g = .int .i64 k ∧ Ends l id k) ∧ O' = [.row s1 1 [[.slice (segsG l) t]], .row s2 1 [[.int .i64 id]]]) := by
 have q1 := fun (a : Int) K => conv_int Try.prog 3 133 .i64 .u64 a K und3 und133
 have q2 := fun (a : Int) K => conv_int Try.prog 133 3 .u64 .i64 a K und133 und3
 refine h40.ca ?_
 refine vq0 ?_
 refine vcSLoop_by (ι := { p : Nat × Nat // p.1 ≤ p.2 ∧ p.2 ≤ l.length ∧ (0 < p.1 → (l.getD (p.1 - 1) default).hi < id) ∧ (p.2 < l.length → id ≤ (l.getD p.2 default).hi) }) (fun p => ⟨[.int .i64 (l.length : Nat), .func (.func 41) [] [.ptr 0 s1 0 0, .ptr 1 s2 0 0], .any, .any, .any, .int .i64 (p.1.1 : Nat), .int .i64 (p.1.2 : Nat)] ++ List.replicate 19 .any, [.row s1 1 [[.slice (segsG l) t]], .row s2 1 [[.int .i64 id]]]⟩) (fun p => p.1.2 - p.1.1) ?_ ?_
 · exact Into.first ⟨(0, l.length), by omega, by omega, by simp, by simp⟩ ⟨[], by simp⟩ (by simp [WL, leG_self, leG_any])
 · rintro ⟨⟨i, j⟩, h1, h2, h3, h4⟩
   change i ≤ j at h1
   change j ≤ l.length at h2
   change 0 < i → (l.getD (i - 1) default).hi < id at h3
   change j < l.length → id ≤ (l.getD j default).hi at h4
   by_cases hij : i < j
   · have d0 : decide ((i : Int) < (j : Int)) = true := decide_eq_true (by omega);have hm : ((i : Int) + j) / 2 = ((i + j) / 2 : Nat) := by omega
     have e1 : norm .u64 ((i : Int) + j) = (i : Int) + j := norm_u64 (by omega);have e2 : norm .i64 (((i + j) / 2 : Nat) : Int) = ((i + j) / 2 : Nat) := norm_i64 (by omega);refine vqd (ai d0 <| ai e1 <| ai hm <| e2) (ai q1 <| ai q2 <| @ibin_shr1) ?_;have hb : (i + j) / 2 < l.length := by omega
     have c := c56 l t id ((i + j) / 2) s1 s2 hb;have hlo : i ≤ (i + j) / 2 := by omega
     have hhi : (i + j) / 2 < j := by omega
     have e3 : norm .i64 (((i : Int) + j) / 2 ^ Int.toNat 1) = ((i + j) / 2 : Nat) := by rw [show (2 : Int) ^ Int.toNat 1 = 2 from rfl, hm, e2]
     clear e1 e2 hm;generalize (i + j) / 2 = h at *;refine ⟨by omega, by decide, ?_⟩;rw [e3];refine c.mono ?_;rintro g O' ⟨rfl, rfl⟩;by_cases hq : id ≤ (l.getD h default).hi
     · rw [decide_eq_true hq];refine vq0 ?_;exact Into.at ⟨(i, h), by show i ≤ h; omega, by show h ≤ _; omega, h3, fun _ => hq⟩ (by show h - i < j - i; omega) ⟨_, rfl⟩ (by simp [WL, leG_self, leG_any, leG_int])
     · rw [decide_eq_false hq];refine vq0 ?_;exact Into.at ⟨(h + 1, j), by show h + 1 ≤ j; omega, h2, fun _ => by show (l.getD (h + 1 - 1) default).hi < id; rw [Nat.add_sub_cancel]; omega, h4⟩ (by show j - (h + 1) < j - i; omega) ⟨_, rfl⟩ (by simp [WL, leG_self, leG_any, leG_int])
   · have d0 : decide ((i : Int) < (j : Int)) = false := decide_eq_false (by omega);refine vq1 d0 ?_;have e : i = j := by omega
     subst e;exact ⟨i, rfl, h2, h3, h4⟩
def endAt (l : List Seg) (id : Int) (k : Nat) : Int × Bool := if k = l.length ∨ id < (l.getD k default).lo then (0, false) else ((k : Int), true)
theorem spec33 (l : List Seg) (t : Tag) (id : Int) (r : Int × Bool) (hl : l.length ≤ 17592186044416) (hr : ∀ k, Ends l id k → endAt l id k = r) :
 GPure Try.prog 22 [.slice (segsG l) t, .int .i64 id] (.tuple [.int .i64 r.1, .bool r.2]) := by
 refine h22.pa ?_
 refine vq1 @segsG_length ?_
 intro s1 s2
 repeat (refine ⟨by omega, ?_⟩)
 refine (c55 l t id s1 s2 hl).mono ?_
 rintro g O' ⟨⟨k, rfl, hk⟩, rfl⟩
 have hh := hr k hk
 have hk2 := hk.1
 by_cases he : k = l.length
 · have d0 : ((k : Int) == (l.length : Int)) = true := by rw [beq_iff_eq]; omega
   rw [endAt, if_pos (.inl he)] at hh;refine vq2 @segsG_length d0 ?_;subst hh;exact ⟨rfl, rfl⟩
 · have d0 : ((k : Int) == (l.length : Int)) = false := by rw [beq_eq_false_iff_ne]; omega
   have eS : (segsG l).getD k [] = segG (l.getD k default) := segsG_at l k (by omega);unfold endAt at hh;generalize l.getD k default = s at *;refine vq4 @segsG_length eS @segG.eq_1 d0 ?_;refine ⟨by omega, by omega, fun h1 => ?_, fun h1 => ?_⟩
   · rw [if_pos (.inr h1)] at hh;subst hh; exact ⟨rfl, rfl⟩
   · rw [if_neg (by omega)] at hh;subst hh; exact ⟨rfl, rfl⟩
theorem ends_at {u : List Seg} (hu : SegsOK u) {k : Nat} (hk : k < u.length) {id : Int} (h1 : (u.getD k default).lo ≤ id) (h2 : id ≤ (u.getD k default).hi) (j : Nat) (hj : Ends u id j) : endAt u id j = ((k : Int), true) := by
 have lt : ∀ a b : Nat, a < b → b < u.length → (u.getD a default).hi < (u.getD b default).lo := fun a b hab hb => by
  have := (List.pairwise_iff_getElem.1 hu.2) a b (by simp [spansOf]; omega) (by simp [spansOf]; omega) hab;simp only [spansOf, List.getElem_map] at this;have ea : u.getD a default = u[a] := by simp [List.getD, show a < u.length by omega]
  have eb : u.getD b default = u[b] := by simp [List.getD, hb]
  rw [ea, eb]; exact this
 have ok : ∀ a, a < u.length → (u.getD a default).lo ≤ (u.getD a default).hi := fun a ha => by
  have := hu.1 ((u.getD a default).lo, (u.getD a default).hi) (by
   rw [spansOf, List.mem_map];exact ⟨u.getD a default, by rw [List.getD_eq_getElem?_getD, List.getElem?_eq_getElem ha]; exact List.getElem_mem ha, rfl⟩)
  exact this.2.1
 obtain ⟨e1, e2, e3⟩ := hj
 have hjk : j = k := by
  rcases Nat.lt_trichotomy j k with q | q | q
  · have := e3 (by omega);have := lt j k q hk;omega
  · exact q
  · have := e2 (by omega);by_cases hq : k = j - 1
    · rw [← hq] at this; omega
    · have := lt k (j - 1) (by omega) (by omega);have := ok (j - 1) (by omega);omega
 subst hjk
 unfold endAt
 rw [if_neg (by omega)]
theorem pTo0 (u : List Seg) (hu : SegsOK u) (hul : u.length ≤ 1000) (ti so : Nat) (n : Int) (M O : List Hs) (k : Nat) (hk : k < u.length) (id : Int) (h1 : (u.getD k default).lo ≤ id) (h2 : id ≤ (u.getD k default).hi) (x : Hs)
 (cH : GCalls Try.prog 23 [.ptr 0 ti 0 0, .int .i64 (u.getD k default).hi] (idO ti so n M O) (fun g O' => g = .tuple [.agg (bytesG x.1), .bool true] ∧ O' = idO ti so n M O)) :
 GCalls Try.prog 8 [.slice (segsG u) .none, .ptr 0 ti 0 0, .int .i64 id] (idO ti so n M O) (fun g O' => g = .tuple [.agg (bytesG x.1 ++ [.int .i64 ((u.getD k default).hi - id)]), .bool true] ∧ O' = idO ti so n M O) := by
 have cF := spec33 u .none id ((k : Int), true) (by omega) (fun j hj => ends_at hu hk h1 h2 j hj)
 have eS : (segsG u).getD k [] = segG (u.getD k default) := segsG_at u k hk
 have hb : 0 ≤ (u.getD k default).lo ∧ (u.getD k default).hi ≤ 1099511627776 + 1000 := by
  have := hu.1 ((u.getD k default).lo, (u.getD k default).hi) (by
   rw [spansOf, List.mem_map];exact ⟨u.getD k default, by rw [List.getD_eq_getElem?_getD, List.getElem?_eq_getElem hk]; exact List.getElem_mem hk, rfl⟩)
  exact ⟨this.1, this.2.2.1⟩
 have cHX := fun X => GCalls.keep2 cH rfl X
 generalize u.getD k default = s at *
 have s33 : allSolid (bytesG x.1 ++ [.int .i64 (s.hi - id)]) = True := by rw [solid33]; exact eq_true rfl
 have en : norm .i64 (s.hi - id) = s.hi - id := norm_i64 (by omega)
 have t32 : ∀ g : GVal, List.take 32 (bytesG x.1 ++ [g]) = bytesG x.1 := fun g => List.take_left' (len32 x)
 refine GCalls.dropTo ?_
 refine h8.ca ?_
 refine vq0 ?_
 intro s6
 refine cF.then ?_ (by rfl)
 refine vq3 @segsG_length eS @segG.eq_1 ?_
 refine ⟨by omega, by omega, ?_⟩
 refine (cHX _).mono ?_
 rintro g O' ⟨rfl, rfl⟩
 refine vq1 (ai @segsG_length <| ai eS <| ai @segG.eq_1 <| ai @take32a <| ai @all_hsG <| ai @len33 <| ai @drop33a <| ai @take33a <| ai s33 <| ai en <| @v32) ?_
 exact fun s10 => ⟨by omega, by omega, _, idO ti so n M O, [_, _], rfl, leA_refl _, rfl, rfl⟩
def hAt (M O : List Hs) (v : Int) : Hs := if 1099511627776 ≤ v then O.getD (v - 1099511627776).toNat h0 else M.getD v.toNat h0
theorem iHash (ti so : Nat) (n : Int) (M O : List Hs) (hM : M.length ≤ 1000000) (hO : O.length ≤ 1000000) (v : Int) (hv : v ∈ allI M.length O.length) : GCalls Try.prog 23 [.ptr 0 ti 0 0, .int .i64 v] (idO ti so n M O) (fun g O' => g = .tuple [.agg (bytesG (hAt M O v).1), .bool true] ∧ O' = idO ti so n M O) := by
 unfold allI ups at hv
 have hs : split = 1099511627776 := rfl
 rcases List.mem_append.1 hv with q | q
 · obtain ⟨j, hj, rfl⟩ := List.mem_map.1 q;rw [List.mem_range] at hj;have c := iHashM ti so n M O j (by omega) hM;have e : hAt M O (0 + (j : Int)) = M.getD j h0 := by unfold hAt; rw [if_neg (by omega)]; congr 1; omega
   rw [e, Int.zero_add];rw [decide_eq_true hj] at c;exact c
 · obtain ⟨j, hj, rfl⟩ := List.mem_map.1 q;rw [List.mem_range] at hj;have c := iHashO ti so n M O j (by omega) hO;have e : hAt M O (split + (j : Int)) = O.getD j h0 := by unfold hAt; rw [if_pos (by omega)]; congr 1; omega
   rw [e, hs];rw [decide_eq_true hj] at c;exact c
theorem pToAt (u : List Seg) (hu : SegsOK u) (hul : u.length ≤ 1000) (ti so : Nat) (n : Int) (M O : List Hs) (hM : M.length ≤ 1000000) (hO : O.length ≤ 1000000) (k : Nat) (hk : k < u.length) (id : Int) (h1 : (u.getD k default).lo ≤ id) (h2 : id ≤ (u.getD k default).hi)
 (hv : (u.getD k default).hi ∈ allI M.length O.length) (g1 g2 : GObj) (hc : g1.isClock = false) (X : List GObj) :
 GCalls Try.prog 8 [.slice (segsG u) .none, .ptr 2 ti 0 0, .int .i64 id] (g1 :: g2 :: (idO2 ti so n M O ++ X)) (fun g O' => g = .tuple [.agg (bytesG (hAt M O (u.getD k default).hi).1 ++ [.int .i64 ((u.getD k default).hi - id)]), .bool true] ∧ O' = g1 :: g2 :: (idO2 ti so n M O ++ X)) :=
 GCalls.readAt (pTo0 u hu hul ti so n M O k hk id h1 h2 _ (iHash ti so n M O hM hO _ hv)) [2, 3] ⟨⟨_, rfl, OLe.row ⟨⟨GLe.refl _, GLe.refl _, GLe.refl _, GLe.map _ _ _, trivial⟩, trivial⟩⟩, ⟨_, rfl, .refl _⟩, trivial⟩ ⟨⟨_, rfl, OLe.row ⟨⟨GLe.refl _, GLe.refl _, GLe.refl _, GLe.map _ _ _, trivial⟩, trivial⟩⟩, ⟨_, rfl, .refl _⟩, trivial⟩ (by decide) ⟨GLe.refl _, GLe.ptr _ _ _ _ _, GLe.refl _, trivial⟩ rfl (by cases g1 <;> first | rfl | cases hc)
theorem iAdd (m M : GM) (hG : GOK m) (cs : List Cm) (e : Er) (he : addedE m cs = e) (hM : addedM m cs = M) (st s : Nat) (hc : cs.length ≤ 1000000) (hp : ∀ c ∈ cs, c.2.length ≤ 1000000) (X : List GObj) {args' : List GVal} (ha : GLes args' [.ptr 0 st 0 0, .slice (csG cs) .none]) :
 GCalls Try.prog 14 args' (gObj st s m ++ X) (fun g O' => ∃ s', g = errV e ∧ O' = gObj st s' M ++ X) := by
 refine (GCalls.on2 (R := fun g x' y' => g = errV (addedE m cs) ∧ ∃ s', x' = .row st 1 [[.map 1 s']] ∧ y' = .map s' (kvG encL (addedM m cs))) (gAdd m hG cs st s hc hp) (O := gObj st s m ++ X) 0 1 (by omega) rfl rfl (.refl _) ha rfl rfl (by rintro g x' y' ⟨_, s', rfl, rfl⟩; exact ⟨rfl, rfl⟩) rfl).mono ?_
 rintro g O' ⟨x', y', ⟨rfl, s', rfl, rfl⟩, rfl⟩
 exact ⟨s', by rw [he], by rw [hM]; rfl⟩
theorem iUpdT {m : GM} {ti st s so : Nat} {n : Int} {M O M1 O2 : List Hs} {args args' : List GVal} (h : GCalls Try.prog 15 args (gObj st s m ++ idO2 ti so n M O) (fun g O' => ∃ so', g = .lit .nilIface ∧ O' = gObj st s m ++ idO2 ti so' n M1 O2)) (ha : GLes args' args) (X : List GObj) :
 GCalls Try.prog 15 args' (gObj st s m ++ (idO2 ti so n M O ++ X)) (fun g O' => ∃ so', g = .lit .nilIface ∧ O' = gObj st s m ++ (idO2 ti so' n M1 O2 ++ X)) := by
 refine ((GCalls.args h ha).tail (by rintro g O' ⟨so', rfl, rfl⟩; exact ⟨rfl, by simp⟩) rfl (by simp) X).mono ?_
 rintro g O' ⟨O1, ⟨so', rfl, rfl⟩, rfl⟩
 exact ⟨so', rfl, rfl⟩
def lM : GM := [(q1, []), (q2, [q1]), (q3, [q2])]
theorem lMok : joinedP 2 [] [(q1, []), (q2, [q1]), (q3, [q2])] [] = .ok lM := by
 have h1 : sizesP 2 0 [(q1, []), (q2, [q1]), (q3, [q2])] = none := by kernel_rfl
 have h2 : joinP [] [(q1, []), (q2, [q1]), (q3, [q2])] = .ok lM := by kernel_rfl
 have h3 : lackP lM [(q1, []), (q2, [q1]), (q3, [q2])] [] = none := by kernel_rfl
 have h4 : roundP [] lM [(q1, []), (q2, [q1]), (q3, [q2])] = none := roundP_rank rkQ (by decide) (by decide)
 unfold joinedP
 simp only [List.length_nil, h1, h2, h3, h4]
 rfl
theorem lGm : GMOK lM := ⟨by decide, by decide⟩
theorem lV1 : VisL lM (masterB (ofM [] [])) [q3] ([], []) ([q3, q2, q1], [q1, q2, q3]) := by
 have p3 : parsM lM q3 = [q2] := by kernel_rfl
 have p2 : parsM lM q2 = [q1] := by kernel_rfl
 have p1 : parsM lM q1 = [] := by kernel_rfl
 have w1 : VisL lM (masterB (ofM [] [])) [q1] ([q3, q2], []) ([q3, q2, q1], [q1]) := .go q1 [] _ ([q3, q2, q1], []) _ (by kernel_rfl) (by rw [p1]; exact .nil _) (.nil _)
 have w2 : VisL lM (masterB (ofM [] [])) [q2] ([q3], []) ([q3, q2, q1], [q1, q2]) := .go q2 [] _ ([q3, q2, q1], [q1]) _ (by kernel_rfl) (by rw [p2]; exact w1) (.nil _)
 exact .go q3 [] _ ([q3, q2, q1], [q1, q2]) _ (by kernel_rfl) (by rw [p3]; exact w2) (.nil _)
theorem lV2 : VisL lM (fun h => (look (ofM [q1, q2, q3] []) h).isSome) [q3, q1, q2, q3] ([], []) ([], []) :=
 .skip q3 _ _ _ (by kernel_rfl) (.skip q1 _ _ _ (by kernel_rfl) (.skip q2 _ _ _ (by kernel_rfl) (.skip q3 _ _ _ (by kernel_rfl) (.nil _))))
def lSeg : List Seg := [⟨0, 2, [], true, true⟩]
theorem pLine : GCalls Try.prog 16 [] [] (fun g O' => ∃ st s ti so, g = .tuple [.ptr 2 ti 0 0, .slice (segsG lSeg) .none] ∧ O' = gObj st s lM ++ idO2 ti so 9 [q1, q2, q3] []) := by
 have cA := fun st s X => iAdd [] lM fourG [(q1, []), (q2, [q1]), (q3, [q2])] none (by unfold addedE; rw [lMok]) (by unfold addedM; rw [lMok]) st s (by decide) (by decide) X (args' := [.ptr 0 st 0 0, .slice [bytesG q1.1 ++ [.slice [] .nil], bytesG q2.1 ++ [.slice [bytesG q1.1] .full], bytesG q3.1 ++ [.slice [bytesG q2.1] .full]] .full]) ⟨GLe.refl _, GLe.trans GLe.none (GLe.slice ⟨GLes.app (GLes.refl _) ⟨GLe.none, trivial⟩, GLes.app (GLes.refl _) ⟨GLe.none, trivial⟩, GLes.app (GLes.refl _) ⟨GLe.none, trivial⟩, trivial⟩), trivial⟩
 have cU := fun ti st s so X => iUpdT (args' := [.ptr 2 ti 0 0, .ptr 0 st 0 0, .agg [.slice [bytesG q1.1 ++ [.slice [] .nil], bytesG q2.1 ++ [.slice [bytesG q1.1] .full], bytesG q3.1 ++ [.slice [bytesG q2.1] .full]] .full, .slice [bytesG q3.1] .full, .int .i64 1]]) (iUpdate lM lGm ti st s so [(q1, []), (q2, [q1]), (q3, [q2])] [q3] .full (by simp) 1 9 [] [] [q1, q2, q3] [] (.inr ⟨rfl, _, lV1, rfl, rfl, by decide, by decide⟩) _ lV2 (by decide) (by decide) (by decide) (by decide) (by decide) (by decide)) ⟨GLe.refl _, GLe.refl _, GLe.agg ⟨GLe.trans GLe.none (GLe.slice ⟨GLes.app (GLes.refl _) ⟨GLe.none, trivial⟩, GLes.app (GLes.refl _) ⟨GLe.none, trivial⟩, GLes.app (GLes.refl _) ⟨GLe.none, trivial⟩, trivial⟩), GLe.refl _, GLe.refl _, trivial⟩, trivial⟩ X
 have raw : GCalls Try.prog 16 [] [] (fun g O' => ∃ st s ti so X, g = .tuple [.ptr 2 ti 0 0, .slice [[.int .i64 0, .int .i64 2, .slice [] .nil, .bool true, .bool true]] .full] ∧ O' = gObj st s lM ++ (idO2 ti so 9 [q1, q2, q3] [] ++ X)) := by
  refine h16.ca ?_;refine vq0 ?_;refine gNew.mono ?_;rintro g O' ⟨st, s, rfl, rfl⟩;refine vq0 ?_;refine (iNew2 [] st s 9 (by decide) (by decide)).mono ?_;rintro g O' ⟨ti, so, rfl, rfl⟩;refine vq9 @qE1 @qE2 @qE3 @qR1 @qR2 @qR3 Try.underlying56 @v33 @v32 ?_;intro sr;refine (cA st s _).mono ?_;rintro g O' ⟨s', rfl, rfl⟩;refine vq1 (ai @qE1 <| ai @qE2 <| ai @qE3 <| ai @qR1 <| ai @qR2 <| ai @qR3 <| ai @errV.eq_1 <| ai @errV.eq_2 <| ai @errV.eq_3 <| ai Try.underlying56 <| ai @v33 <| @v32) ?_;refine (cU ti st s' so _).mono ?_;rintro g O' ⟨so2, rfl, rfl⟩;refine vq1 (ai @qE1 <| ai @qE2 <| ai @qE3 <| ai @qR1 <| ai @qR2 <| ai @qR3 <| ai @errV.eq_1 <| ai @errV.eq_2 <| ai @errV.eq_3 <| ai Try.underlying56 <| ai @v33 <| @v32) ?_;exact ⟨st, s', ti, so2, _, rfl, rfl⟩
 refine GCalls.into (raw.mono ?_)
 rintro g O' ⟨st, s, ti, so, X, rfl, rfl⟩ E v w hs hv
 obtain ⟨h1, h2⟩ := HSim.drop (O := gObj st s lM ++ idO2 ti so 9 [q1, q2, q3] []) (X := X) (by simpa using hs)
 exact ⟨.tuple [.ptr 2 ti 0 0, .slice (segsG lSeg) .none], _, E, ⟨st, s, ti, so, rfl, rfl⟩, h1, by simpa using h2, GLe.tuple (xs := [.ptr 2 ti 0 0, .slice [[.int .i64 0, .int .i64 2, .slice [] .nil, .bool true, .bool true]] .full]) (ys := [.ptr 2 ti 0 0, .slice (segsG lSeg) .none]) ⟨GLe.refl _, GLe.trans GLe.none (GLe.slice ⟨⟨GLe.refl _, GLe.refl _, GLe.none, GLe.refl _, GLe.refl _, trivial⟩, trivial⟩), trivial⟩ _ _ hv⟩
theorem ints_snocP (l : List Int) (x : Int) : ints l ++ [[.int .i64 x]] = ints (l ++ [x]) := by simp [ints]
theorem pUni (u : List Seg) (hu : u.length ≤ 1000) : GPure Try.prog 17 [.slice (segsG u) .none] (.slice (ints (u.map (·.hi))) .none) := by
 refine h17.pa ?_
 refine vq1 @segsG_length ?_
 refine vcSLoop_by (ι := { p : Nat × Nat // p.1 ≤ u.length }) (fun p => ⟨[.any, .any, .any, .slice (ints ((u.map (·.hi)).take p.1.1)) (.tok 0 p.1.2), .any, .any, .slice (segsG u) .none, .int .i64 u.length, .int .i64 (p.1.1 : Nat)] ++ List.replicate 10 .any, [.tok p.1.2 1]⟩) (fun p => u.length - p.1.1) ?_ ?_
 · refine Into.tok 3 1 [] rfl rfl ?_;refine vq0 ?_;intro so;exact Into.first ⟨(0, so), Nat.zero_le _⟩ ⟨[], by simp⟩ (by simp [WL, leG_self, leG_any, ints, segsG_length])
 · rintro ⟨⟨k, so⟩, hk⟩
   change k ≤ u.length at hk
   by_cases h : k < u.length
   · have d0 : ((k : Int) < (u.length : Int)) = True := eq_true (by omega);have eS := segsG_at u k h;have e2 : (u.map (·.hi)).take (k + 1) = (u.map (·.hi)).take k ++ [(u.getD k default).hi] := by
      rw [List.take_succ_eq_append_getElem (by simpa using h)]; simp [List.getD, h]
     have el : ((u.map (·.hi)).take k).length = k := by rw [List.length_take, List.length_map]; omega
     generalize u.getD k default = s at *;obtain ⟨A, hA⟩ : ∃ A, (u.map (·.hi)).take k = A := ⟨_, rfl⟩
     rw [hA] at e2 el;rw [hA];refine vq7 @segsG_length d0 eS @segG.eq_1 @ints_length @all_ints el ?_;refine ⟨by omega, fun s5 => ⟨by omega, by omega, fun so' => ?_⟩⟩;exact Into.at ⟨(k + 1, so'), h⟩ (by show u.length - (k + 1) < u.length - k; omega) ⟨[.row s5 5 [[.int .i64 s.lo, .int .i64 s.hi, .slice (ints s.par) .none, .bool s.root, .bool s.head]]], by simp⟩ (by simp [WL, leG_self, leG_any, leG_int, e2, ← ints_snocP])
   · have d0 : ((k : Int) < (u.length : Int)) = False := eq_false (by omega);have e1 : (u.map (·.hi)).take k = u.map (·.hi) := List.take_of_length_le (by rw [List.length_map]; omega);rw [e1];exact vd1 d0
theorem cellsEq_snoc : ∀ (ss : List Sk) (xs ys : List GVal) (s : Sk) (x y : GVal) (a b : Bool), cellsEq ss xs ys = some a → ceq s x y = some b → cellsEq (ss ++ [s]) (xs ++ [x]) (ys ++ [y]) = some (a && b)
 | [], [], [], s, x, y, a, b, h, hb => by
  simp only [cellsEq, Option.some.injEq] at h;subst h;simp [cellsEq, hb]
 | s :: ss, x :: xs, y :: ys, s', x', y', a, b, h, hb => by
  simp only [cellsEq] at h;split at h
  · rename_i p q hp hq;simp only [Option.some.injEq] at h;subst h;simp only [List.cons_append, cellsEq, hp, cellsEq_snoc ss xs ys s' x' y' q b hq hb, Bool.and_assoc]
  · cases h
 | [], _ :: _, _, _, _, _, _, _, h, _ => by simp [cellsEq] at h
 | [], [], _ :: _, _, _, _, _, _, h, _ => by simp [cellsEq] at h
 | _ :: _, [], _, _, _, _, _, _, h, _ => by simp [cellsEq] at h
 | _ :: _, _ :: _, [], _, _, _, _, _, h, _ => by simp [cellsEq] at h
theorem cellsEq_path (a b : Hs) (x y : Int) : cellsEq [Sk.int, Sk.int, Sk.int, Sk.int, Sk.int, Sk.int, Sk.int, Sk.int, Sk.int, Sk.int, Sk.int, Sk.int, Sk.int, Sk.int, Sk.int, Sk.int, Sk.int, Sk.int, Sk.int, Sk.int, Sk.int, Sk.int, Sk.int, Sk.int, Sk.int, Sk.int, Sk.int, Sk.int, Sk.int, Sk.int, Sk.int, Sk.int, Sk.int] (bytesG a.1 ++ [.int .i64 x]) (bytesG b.1 ++ [.int .i64 y]) = some (decide (a = b) && decide (x = y)) :=
 cellsEq_snoc _ _ _ .int _ _ _ _ (cellsEq_hs a b) (by simp only [ceq, if_true]; rfl)
theorem pKnown : GPure Try.prog 5 [] (.bool true) := by
 have hu : SegsOK lSeg := by
  refine ⟨fun p hp => ?_, by simp [spansOf, lSeg]⟩;simp [spansOf, lSeg] at hp;subst hp;unfold okP
  decide
 have cT : ∀ ti so g1 g2 (hg : g1.isClock = false) X, GCalls Try.prog 8 [.slice (segsG lSeg) .none, .ptr 2 ti 0 0, .int .i64 0] (g1 :: g2 :: (idO2 ti so 9 [q1, q2, q3] [] ++ X)) (fun g O' => g = .tuple [.agg (bytesG q3.1 ++ [.int .i64 2]), .bool true] ∧ O' = g1 :: g2 :: (idO2 ti so 9 [q1, q2, q3] [] ++ X)) :=
  fun ti so g1 g2 hg X => pToAt lSeg hu (by decide) ti so 9 [q1, q2, q3] [] (by decide) (by decide) 0 (by decide) 0 (by decide) (by decide) (by decide) g1 g2 hg X
 have cU := pUni lSeg (by decide)
 have eU : ints (lSeg.map (·.hi)) = [[.int .i64 2]] := rfl
 rw [eU] at cU
 have cE := cellsEq_path q3 q3 2 2
 rw [decide_eq_true rfl, decide_eq_true rfl, Bool.and_self] at cE
 refine GCalls.toPure ?_
 refine h5.ca ?_
 refine vq0 ?_
 refine pLine.mono ?_
 rintro g O' ⟨st, s, ti, so, rfl, rfl⟩
 refine vq0 ?_
 refine (cT ti so _ _ rfl _).mono ?_
 rintro g O' ⟨rfl, rfl⟩
 refine vq5 @qE3 @qR3 cE @v33 @v32 ?_
 intro s3
 refine cU.then ?_ (by rfl)
 refine vq0 ?_
 refine cU.then ?_ (by rfl)
 refine vq4 (show Int.toNat 0 = 0 from rfl) @List.getD_cons_zero.{0} @List.take_succ_cons.{0} @List.take_zero.{0} ?_
 exact ⟨by decide, by decide, 1, .bool true, rfl, by rw [leA_bool]⟩
noncomputable def hashF (n : Int) : Hs := Classical.choose (hHash n)
theorem hHashF (n : Int) : GPure Try.prog 25 [.int .i64 n] (.agg (bytesG (hashF n).1)) := Classical.choose_spec (hHash n)
theorem ints_snoc (l : List Int) (x : Int) : ints l ++ [[.int .i64 x]] = ints (l ++ [x]) := by simp [ints]
theorem ints_len (l : List Int) : (ints l).length = l.length := by simp [ints]
theorem all_ints (l : List Int) : (∀ x ∈ ints l, x.length = 1) = True := eq_true fun x hx => by obtain ⟨s, _, rfl⟩ := List.mem_map.1 hx; rfl
theorem frz_ints (O : List GObj) (n : Nat) (l : List Int) : frzLL (Gv.frz O (n + 1)) (ints l) = some (ints l) :=
 frzLL_same fun x hx => by
  obtain ⟨s, _, rfl⟩ := List.mem_map.1 hx;exact frzL_same fun y hy => by rw [List.mem_singleton.1 hy]; simp only [Gv.frz]
theorem ints_at (l : List Int) (i : Nat) (h : i < l.length) : (ints l).getD i [] = [.int .i64 (l.getD i 0)] := by simp [ints, List.getD, h]
theorem nrm {x : Int} (h : -9223372036854775808 ≤ x) (k : x ≤ 9223372036854775807) : norm .i64 x = x := norm_i64 ⟨h, k⟩
def ahP (n : Int) (j : Nat) : Int := if n.tmod 7 = 2 then n.tdiv 2 else n - 1 - j * (2 + n.tmod 5)
def ahStep (n : Int) (l : List Int) (j : Nat) : List Int := if 0 ≤ ahP n j ∧ ahP n j < n ∧ (l = [] ∨ l.getD 0 0 ≠ ahP n j) then l ++ [ahP n j] else l
def ahL (n : Int) (k : Nat) : List Int := (List.range k).foldl (ahStep n) []
theorem ahL_succ (n : Int) (k : Nat) : ahL n (k + 1) = ahStep n (ahL n k) k := by simp [ahL, List.range_succ]
theorem ahL_len (n : Int) : ∀ k : Nat, (ahL n k).length ≤ k
 | 0 => by simp [ahL]
 | k + 1 => by
  rw [ahL_succ];have := ahL_len n k;unfold ahStep;split
  · rw [List.length_append, List.length_singleton]; omega
  · omega
def ahK (n : Int) : Nat := if n = 0 ∨ n.tmod 11 = 5 then 0 else if n.tmod 4 = 3 then 2 else 1
def aheadL (n : Int) : List Int := ahL n (ahK n)
theorem aheadL_len (n : Int) : (aheadL n).length ≤ 2 := by
 have := ahL_len n (ahK n)
 unfold aheadL
 have : ahK n ≤ 2 := by unfold ahK; split <;> (try split) <;> omega
 omega
theorem gAhead (n : Int) (h0 : 0 ≤ n) (h1 : n < 60) : GPure Try.prog 26 [.int .i64 n] (.slice (ints (aheadL n)) .none) := by
  have m5 := Int.tmod_nonneg 5 h0;have m5' := Int.tmod_lt_of_pos n (by decide : (0 : Int) < 5);have q2 : 0 ≤ n.tdiv 2 := Int.tdiv_nonneg h0 (by decide);have q2' : n.tdiv 2 ≤ n := Int.tdiv_le_self 2 h0;have hP : ∀ j : Nat, ahP n j = if n.tmod 7 = 2 then n.tdiv 2 else n - 1 - j * (2 + n.tmod 5) := fun j => rfl
  refine GCalls.toPure ?_;by_cases e0 : n = 0
  · have d0 : (n = 0) = True := eq_true e0;have ek : ahK n = 0 := by unfold ahK; rw [if_pos (.inl e0)]
    refine h26.ca ?_;refine vq2 d0 @vnT ?_;refine vcSLoop_by (ι := Unit) (fun p => ⟨[.int .i64 n, .any, .any, .slice [] .nil, .int .i64 0, .int .i64 0] ++ List.replicate 55 .any, []⟩) (fun p => 0) ?_ ?_
    · exact Into.first () ⟨[], by simp⟩ (by simp [WL, leG_self, leG_any])
    · rintro ⟨⟩;refine vq3 @Int.lt_irrefl @false_imp_iff @true_and ?_;exact ⟨2, .slice [] .nil, by rw [Gv.frz]; rfl, by rw [leA_slice]; unfold aheadL; rw [ek]; rfl⟩
  · have d0 : (n = 0) = False := eq_false e0;by_cases e1 : n.tmod 11 = 5
    · have d1 : (n.tmod 11 = 5) = True := eq_true e1;have ek : ahK n = 0 := by unfold ahK; rw [if_pos (.inr e1)]
      refine h26.ca ?_;refine vq3 d0 d1 @vnT ?_;refine ⟨by decide, ?_⟩;refine vcSLoop_by (ι := Unit) (fun p => ⟨[.int .i64 n, .any, .any, .slice [] .nil, .int .i64 0, .int .i64 0] ++ List.replicate 55 .any, []⟩) (fun p => 0) ?_ ?_
      · exact Into.first () ⟨[], by simp⟩ (by simp [WL, leG_self, leG_any])
      · rintro ⟨⟩;refine vq3 @Int.lt_irrefl @false_imp_iff @true_and ?_;exact ⟨2, .slice [] .nil, by rw [Gv.frz]; rfl, by rw [leA_slice]; unfold aheadL; rw [ek]; rfl⟩
    · have d1 : (n.tmod 11 = 5) = False := eq_false e1;by_cases e2 : n.tmod 4 = 3
      · have d2 : (n.tmod 4 = 3) = True := eq_true e2;have ek : ahK n = 2 := by unfold ahK; rw [if_neg (by simp [e0, e1]), if_pos e2]
        refine h26.ca ?_;refine vq4 d0 d1 d2 @vnT ?_;refine ⟨by decide, by decide, ?_⟩;refine vcSLoop_by (ι := { p : Nat × Nat // p.1 ≤ 2 }) (fun p => ⟨[.int .i64 n, .any, .any, .slice (ints (ahL n p.1.1)) (.tok 0 p.1.2), .int .i64 2, .int .i64 (p.1.1 : Nat)] ++ List.replicate 55 .any, [.tok p.1.2 1]⟩) (fun p => 2 - p.1.1) ?_ ?_
        · refine Into.tok 3 1 [] rfl rfl ?_;refine vq0 ?_;intro t0;exact Into.first ⟨(0, t0), by show 0 ≤ 2; omega⟩ ⟨[], by simp⟩ (by simp [WL, leG_self, leG_any, ahL, ints])
        · rintro ⟨⟨j, v⟩, hj⟩
          change j ≤ 2 at hj
          have hll := ahL_len n j;by_cases h : j < 2
          · have dj : ((j : Int) < 2) = True := eq_true (by omega);have j01 : (j : Int) = 0 ∨ (j : Int) = 1 := by omega
            have mj : (j : Int) * (2 + n.tmod 5) ≤ 12 ∧ 0 ≤ (j : Int) * (2 + n.tmod 5) := by rcases j01 with e | e <;> rw [e] <;> omega
            have nm1 : norm .i64 ((j : Int) * (2 + n.tmod 5)) = (j : Int) * (2 + n.tmod 5) := nrm (by omega) (by omega);have nm2 : norm .i64 (n - 1 - (j : Int) * (2 + n.tmod 5)) = n - 1 - (j : Int) * (2 + n.tmod 5) := nrm (by omega) (by omega);refine vq3 dj nm1 nm2 ?_;exact ⟨by decide, by decide, fun e7 => ⟨by decide, fun c1 => ⟨fun c2 => ⟨fun c3 => ⟨by omega, by omega, fun st => by
                        have hE : ahL n (j + 1) = ahL n j ++ [n.tdiv 2] := by rw [ahL_succ]; unfold ahStep; rw [hP, if_pos e7]; exact if_pos ⟨c1, c2, .inl (List.length_eq_zero_iff.1 (by omega))⟩
                        exact Into.at ⟨(j + 1, st), by show j + 1 ≤ 2; omega⟩ (by show 2 - (j + 1) < 2 - j; omega) ⟨[], by simp⟩ (by simp [WL, leG_self, leG_any, leG_int, hE, ints_snoc])⟩, fun c3 => ⟨by omega, by omega, fun c4 => ⟨by omega, by omega, fun st => by
                        have hE : ahL n (j + 1) = ahL n j ++ [n.tdiv 2] := by rw [ahL_succ]; unfold ahStep; rw [hP, if_pos e7]; exact if_pos ⟨c1, c2, .inr c4⟩
                        exact Into.at ⟨(j + 1, st), by show j + 1 ≤ 2; omega⟩ (by show 2 - (j + 1) < 2 - j; omega) ⟨[], by simp⟩ (by simp [WL, leG_self, leG_any, leG_int, hE, ints_snoc])⟩, fun c4 => by
                        have hE : ahL n (j + 1) = ahL n j := by rw [ahL_succ]; unfold ahStep; rw [hP, if_pos e7]; exact if_neg (by rintro ⟨_, _, q | q⟩; exact c3 (by rw [q]; rfl); exact q c4)
                        exact Into.at ⟨(j + 1, v), by show j + 1 ≤ 2; omega⟩ (by show 2 - (j + 1) < 2 - j; omega) ⟨[], by simp⟩ (by simp [WL, leG_self, leG_any, leG_int, hE, ints_snoc])⟩⟩, fun c2 => by
                        have hE : ahL n (j + 1) = ahL n j := by rw [ahL_succ]; unfold ahStep; rw [hP, if_pos e7]; exact if_neg (fun q => by omega)
                        exact Into.at ⟨(j + 1, v), by show j + 1 ≤ 2; omega⟩ (by show 2 - (j + 1) < 2 - j; omega) ⟨[], by simp⟩ (by simp [WL, leG_self, leG_any, leG_int, hE, ints_snoc])⟩, fun c1 => by
                        have hE : ahL n (j + 1) = ahL n j := by rw [ahL_succ]; unfold ahStep; rw [hP, if_pos e7]; exact if_neg (fun q => by omega)
                        exact Into.at ⟨(j + 1, v), by show j + 1 ≤ 2; omega⟩ (by show 2 - (j + 1) < 2 - j; omega) ⟨[], by simp⟩ (by simp [WL, leG_self, leG_any, leG_int, hE, ints_snoc])⟩, fun e7 => ⟨fun c1 => ⟨fun c2 => ⟨fun c3 => ⟨by omega, by omega, fun st => by
                        have hE : ahL n (j + 1) = ahL n j ++ [(n - 1 - (j : Int) * (2 + n.tmod 5))] := by rw [ahL_succ]; unfold ahStep; rw [hP, if_neg e7]; exact if_pos ⟨c1, c2, .inl (List.length_eq_zero_iff.1 (by omega))⟩
                        exact Into.at ⟨(j + 1, st), by show j + 1 ≤ 2; omega⟩ (by show 2 - (j + 1) < 2 - j; omega) ⟨[], by simp⟩ (by simp [WL, leG_self, leG_any, leG_int, hE, ints_snoc])⟩, fun c3 => ⟨by omega, by omega, fun c4 => ⟨by omega, by omega, fun st => by
                        have hE : ahL n (j + 1) = ahL n j ++ [(n - 1 - (j : Int) * (2 + n.tmod 5))] := by rw [ahL_succ]; unfold ahStep; rw [hP, if_neg e7]; exact if_pos ⟨c1, c2, .inr c4⟩
                        exact Into.at ⟨(j + 1, st), by show j + 1 ≤ 2; omega⟩ (by show 2 - (j + 1) < 2 - j; omega) ⟨[], by simp⟩ (by simp [WL, leG_self, leG_any, leG_int, hE, ints_snoc])⟩, fun c4 => by
                        have hE : ahL n (j + 1) = ahL n j := by rw [ahL_succ]; unfold ahStep; rw [hP, if_neg e7]; exact if_neg (by rintro ⟨_, _, q | q⟩; exact c3 (by rw [q]; rfl); exact q c4)
                        exact Into.at ⟨(j + 1, v), by show j + 1 ≤ 2; omega⟩ (by show 2 - (j + 1) < 2 - j; omega) ⟨[], by simp⟩ (by simp [WL, leG_self, leG_any, leG_int, hE, ints_snoc])⟩⟩, fun c2 => by
                        have hE : ahL n (j + 1) = ahL n j := by rw [ahL_succ]; unfold ahStep; rw [hP, if_neg e7]; exact if_neg (fun q => by omega)
                        exact Into.at ⟨(j + 1, v), by show j + 1 ≤ 2; omega⟩ (by show 2 - (j + 1) < 2 - j; omega) ⟨[], by simp⟩ (by simp [WL, leG_self, leG_any, leG_int, hE, ints_snoc])⟩, fun c1 => by
                        have hE : ahL n (j + 1) = ahL n j := by rw [ahL_succ]; unfold ahStep; rw [hP, if_neg e7]; exact if_neg (fun q => by omega)
                        exact Into.at ⟨(j + 1, v), by show j + 1 ≤ 2; omega⟩ (by show 2 - (j + 1) < 2 - j; omega) ⟨[], by simp⟩ (by simp [WL, leG_self, leG_any, leG_int, hE, ints_snoc])⟩⟩
          · have dj : ((j : Int) < 2) = False := eq_false (by omega);have e : ahL n j = ahL n 2 := by rw [show j = 2 by omega]
            refine vq2 dj e ?_;exact ⟨2, .slice (ints (ahL n 2)) (Tag.frz (.tok 0 v)), by rw [Gv.frz, frz_ints], by rw [leA_slice]; unfold aheadL; rw [ek]⟩
      · have d2 : (n.tmod 4 = 3) = False := eq_false e2;have ek : ahK n = 1 := by unfold ahK; rw [if_neg (by simp [e0, e1]), if_neg e2]
        refine h26.ca ?_;refine vq4 d0 d1 d2 @vnT ?_;refine ⟨by decide, by decide, ?_⟩;refine vcSLoop_by (ι := { p : Nat × Nat // p.1 ≤ 1 }) (fun p => ⟨[.int .i64 n, .any, .any, .slice (ints (ahL n p.1.1)) (.tok 0 p.1.2), .int .i64 1, .int .i64 (p.1.1 : Nat)] ++ List.replicate 55 .any, [.tok p.1.2 1]⟩) (fun p => 1 - p.1.1) ?_ ?_
        · refine Into.tok 3 1 [] rfl rfl ?_;refine vq0 ?_;intro t0;exact Into.first ⟨(0, t0), by show 0 ≤ 1; omega⟩ ⟨[], by simp⟩ (by simp [WL, leG_self, leG_any, ahL, ints])
        · rintro ⟨⟨j, v⟩, hj⟩
          change j ≤ 1 at hj
          have hll := ahL_len n j;by_cases h : j < 1
          · have dj : ((j : Int) < 1) = True := eq_true (by omega);have j01 : (j : Int) = 0 ∨ (j : Int) = 1 := by omega
            have mj : (j : Int) * (2 + n.tmod 5) ≤ 12 ∧ 0 ≤ (j : Int) * (2 + n.tmod 5) := by rcases j01 with e | e <;> rw [e] <;> omega
            have nm1 : norm .i64 ((j : Int) * (2 + n.tmod 5)) = (j : Int) * (2 + n.tmod 5) := nrm (by omega) (by omega);have nm2 : norm .i64 (n - 1 - (j : Int) * (2 + n.tmod 5)) = n - 1 - (j : Int) * (2 + n.tmod 5) := nrm (by omega) (by omega);refine vq3 dj nm1 nm2 ?_;exact ⟨by decide, by decide, fun e7 => ⟨by decide, fun c1 => ⟨fun c2 => ⟨fun c3 => ⟨by omega, by omega, fun st => by
                        have hE : ahL n (j + 1) = ahL n j ++ [n.tdiv 2] := by rw [ahL_succ]; unfold ahStep; rw [hP, if_pos e7]; exact if_pos ⟨c1, c2, .inl (List.length_eq_zero_iff.1 (by omega))⟩
                        exact Into.at ⟨(j + 1, st), by show j + 1 ≤ 1; omega⟩ (by show 1 - (j + 1) < 1 - j; omega) ⟨[], by simp⟩ (by simp [WL, leG_self, leG_any, leG_int, hE, ints_snoc])⟩, fun c3 => (c3 (by omega)).elim⟩, fun c2 => by
                        have hE : ahL n (j + 1) = ahL n j := by rw [ahL_succ]; unfold ahStep; rw [hP, if_pos e7]; exact if_neg (fun q => by omega)
                        exact Into.at ⟨(j + 1, v), by show j + 1 ≤ 1; omega⟩ (by show 1 - (j + 1) < 1 - j; omega) ⟨[], by simp⟩ (by simp [WL, leG_self, leG_any, leG_int, hE, ints_snoc])⟩, fun c1 => by
                        have hE : ahL n (j + 1) = ahL n j := by rw [ahL_succ]; unfold ahStep; rw [hP, if_pos e7]; exact if_neg (fun q => by omega)
                        exact Into.at ⟨(j + 1, v), by show j + 1 ≤ 1; omega⟩ (by show 1 - (j + 1) < 1 - j; omega) ⟨[], by simp⟩ (by simp [WL, leG_self, leG_any, leG_int, hE, ints_snoc])⟩, fun e7 => ⟨fun c1 => ⟨fun c2 => ⟨fun c3 => ⟨by omega, by omega, fun st => by
                        have hE : ahL n (j + 1) = ahL n j ++ [(n - 1 - (j : Int) * (2 + n.tmod 5))] := by rw [ahL_succ]; unfold ahStep; rw [hP, if_neg e7]; exact if_pos ⟨c1, c2, .inl (List.length_eq_zero_iff.1 (by omega))⟩
                        exact Into.at ⟨(j + 1, st), by show j + 1 ≤ 1; omega⟩ (by show 1 - (j + 1) < 1 - j; omega) ⟨[], by simp⟩ (by simp [WL, leG_self, leG_any, leG_int, hE, ints_snoc])⟩, fun c3 => (c3 (by omega)).elim⟩, fun c2 => by
                        have hE : ahL n (j + 1) = ahL n j := by rw [ahL_succ]; unfold ahStep; rw [hP, if_neg e7]; exact if_neg (fun q => by omega)
                        exact Into.at ⟨(j + 1, v), by show j + 1 ≤ 1; omega⟩ (by show 1 - (j + 1) < 1 - j; omega) ⟨[], by simp⟩ (by simp [WL, leG_self, leG_any, leG_int, hE, ints_snoc])⟩, fun c1 => by
                        have hE : ahL n (j + 1) = ahL n j := by rw [ahL_succ]; unfold ahStep; rw [hP, if_neg e7]; exact if_neg (fun q => by omega)
                        exact Into.at ⟨(j + 1, v), by show j + 1 ≤ 1; omega⟩ (by show 1 - (j + 1) < 1 - j; omega) ⟨[], by simp⟩ (by simp [WL, leG_self, leG_any, leG_int, hE, ints_snoc])⟩⟩
          · have dj : ((j : Int) < 1) = False := eq_false (by omega);have e : ahL n j = ahL n 1 := by rw [show j = 1 by omega]
            refine vq2 dj e ?_;exact ⟨2, .slice (ints (ahL n 1)) (Tag.frz (.tok 0 v)), by rw [Gv.frz, frz_ints], by rw [leA_slice]; unfold aheadL; rw [ek]⟩
end Gv.Try
namespace Gv
open Go
theorem Into.rowLe {st : GSt} {N : GSt → Prop} (i : Nat) {t sz : Nat} (xs ys : List (List GVal)) (hO : st.o[i]? = some (.row t sz xs)) (hw : GLess xs ys) (h : Into ⟨st.s, st.o.set i (.row t sz ys)⟩ N) : Into st N := by
 intro E a w hs' ha
 obtain ⟨h1, h2, h3⟩ := hw.flat
 obtain ⟨l, _, _, hz, _⟩ := hs'.real i _ hO
 obtain ⟨q1, q2⟩ := hs'.cells hO (ys := ys) h2.symm (fun y hy => h3 sz hz y hy) (fun j g' hj => by
  obtain ⟨g, hg, hl⟩ := h1.at_ j g' hj;exact ⟨g, hg, fun v hv => hl _ _ hv⟩)
 obtain ⟨st', E', r1, r2, r3, r4⟩ := h E a w q1 ha
 exact ⟨st', E', r1, r2, q2.trans r3, r4⟩
end Gv
