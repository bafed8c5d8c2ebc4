/- Objects that are set aside for a while: a map whose entries are held one by one. -/
import Derived.Test.YtgkglnjmiobdmaaGreatDoorP9
import Derived.Test.YtgkglnjmiobdmaaGreatDoorP5
import Derived.Test.YtgkglnjmiobdmaaGreatDoorP11
import Derived.Test.YtgkglnjmiobdmaaGreatDoorP13
set_option linter.unusedVariables false
namespace Gv
open Go Go.MapKept Go.ChangeMaps
variable {P : Program}
structure Hid (E : Env) (O : List GObj) (w : World) (b : Nat) : Prop where
  obj : ¬ InO E O b
  snap : ∀ o, E.snap b o = none
  lt : b < w.heap.size
theorem Hid.keep {E E' : Env} {O O' : List GObj} {w w' : World} {b : Nat} (h : Hid E O w b) (k : Keep E O w E' O' w') : Hid E' O' w' b ∧ w'.heap[b]? = w.heap[b]? := by
  refine ⟨⟨fun hb => ?_, fun o => ?_, Nat.lt_of_lt_of_le h.lt k.size⟩, k.heap b h.lt h.obj⟩
  · rcases k.objs b hb with h1 | h1
    · exact h.obj h1
    · have := h.lt; omega
  · cases hv : E'.snap b o with
    | none => rfl
    | some v =>
      rcases k.snap b o v hv with h1 | h1 | h1
      · rw [h.snap] at h1; cases h1
      · have := h.lt; omega
      · exact absurd h1 h.obj
theorem HSim.grown {E : Env} {O : List GObj} {w w' : World} (h : HSim E O w) {row : Option Nat} (g : w.grownBy w' row) (hr : ∀ r, row = some r → ¬ InO E O r ∧ ∀ o, E.snap r o = none) : HSim E O w' := by
  have hne : ∀ b, InO E O b → some b ≠ row := fun b hb e => (hr b e.symm).1 hb
  refine ⟨h.fin, fun b o v hv => ?_, h.one, fun i obj ho => ?_, h.sep, h.glob⟩
  · have hb : some b ≠ row := fun e => by rw [(hr b e.symm).2 o] at hv; cases hv
    rw [Go.World.cell?_of_block (w := w) (w' := w') (a := ⟨b, o, none⟩) (g.block b (h.lt hv) hb)]
    exact h.sealed _ _ _ hv
  · refine (h.real i obj ho).keep (.refl E) (fun b hb => g.block b ((h.real i obj ho).blk_lt hb) (hne b ⟨i, obj, ho, hb⟩)) (fun b o v hb hv => ?_)
    exact hv
theorem Keep.grown {E0 E : Env} {O0 O : List GObj} {w0 w w' : World} (k : Keep E0 O0 w0 E O w) {row : Option Nat} (g : w.grownBy w' row) (hr : ∀ r, row = some r → w0.heap.size ≤ r) : Keep E0 O0 w0 E O w' :=
  ⟨k.ext, g.os.trans k.os, g.output.trans k.out, Nat.le_trans k.size g.size, fun b hb hn => (g.block b (Nat.lt_of_lt_of_le hb k.size) (fun e => by have := hr b e.symm; omega)).trans (k.heap b hb hn), k.snap, k.objs, trivial⟩
theorem Hid.grown {E : Env} {O : List GObj} {w w' : World} {b : Nat} {row : Option Nat} (h : Hid E O w b) (g : w.grownBy w' row) : Hid E O w' b := ⟨h.obj, h.snap, Nat.lt_of_lt_of_le h.lt g.size⟩
theorem HSim.hide {E : Env} {O : List GObj} {w : World} (h : HSim E O w) (i : Nat) (x : GObj) (hO : O[i]? = some x) (hx : x.isClock = false) : HSim E (O.set i .dead) w ∧ Keep E O w E (O.set i .dead) w := by
  have split : ∀ (j : Nat) y, (O.set i .dead)[j]? = some y → (j = i ∧ y = .dead) ∨ O[j]? = some y := by
    intro j y hy
    rw [List.getElem?_set] at hy
    by_cases e : i = j
    · rw [if_pos e] at hy
      split at hy
      · exact .inl ⟨e.symm, (Option.some.inj hy).symm⟩
      · cases hy
    · rw [if_neg e] at hy; exact .inr hy
  have hc : clockOf (O.set i .dead) = clockOf O := by
    match O, i with
    | [], _ => rfl
    | y :: r, 0 => simp at hO; subst hO; cases y <;> first | rfl | cases hx
    | y :: r, k + 1 => cases y <;> rfl
  refine ⟨⟨by unfold Fin'; rw [hc]; exact h.fin, h.sealed, h.one, fun j y hy => ?_, fun j k oj ok b hjk hj hk hbj hbk => ?_, h.glob⟩, ⟨.refl E, rfl, rfl, Nat.le_refl _, fun _ _ _ => rfl, fun _ _ _ h => .inl h, fun b ⟨j, y, hy, hb⟩ => ?_, trivial⟩⟩
  · rcases split j y hy with ⟨_, rfl⟩ | h1
    · trivial
    · exact h.real j y h1
  · rcases split j oj hj with ⟨_, rfl⟩ | h1
    · cases hbj
    · rcases split k ok hk with ⟨_, rfl⟩ | h2
      · cases hbk
      · exact h.sep j k oj ok b hjk h1 h2 hbj hbk
  · rcases split j y hy with ⟨_, rfl⟩ | h1
    · cases hb
    · exact .inl ⟨j, y, h1, hb⟩
structure MapAt (E : Env) (w : World) (b : Nat) (es : Array MapEntry) (clock : Nat) (kv : List (GVal × GVal)) : Prop where
  at_ : w.heap[b]? = some (.map es clock)
  size : es.size = kv.length
  ent : ∀ (i : Nat) e p, es[i]? = some e → kv[i]? = some p → EntryOK E e p
  born : BornOK es clock
theorem MapAt.ext {E E' : Env} {w w' : World} {b : Nat} {es : Array MapEntry} {clock : Nat} {kv : List (GVal × GVal)} (h : MapAt E w b es clock kv) (hE : E.le E') (hw : w'.heap[b]? = w.heap[b]?) : MapAt E' w' b es clock kv :=
  ⟨hw.trans h.at_, h.size, fun i e p he hp => ⟨(h.ent i e p he hp).1.mono hE, (h.ent i e p he hp).2.mono hE⟩, h.born⟩
theorem HSim.hideMap {E : Env} {O : List GObj} {w : World} (h : HSim E O w) {i st : Nat} {kv : List (GVal × GVal)} (hO : O[i]? = some (.map st kv)) :
    ∃ l b es clock, E.loc st = some l ∧ l.block = some b ∧ MapAt E w b es clock kv ∧ HSim E (O.set i .dead) w ∧ Keep E O w E (O.set i .dead) w ∧ Hid E (O.set i .dead) w b ∧ InO E O b := by
  obtain ⟨l, b, es, clock, hl, hb, hw, hs, he, hbo, hsn⟩ := h.real i _ hO
  obtain ⟨h1, h2⟩ := h.hide i _ hO rfl
  refine ⟨l, b, es, clock, hl, hb, ⟨hw, hs, he, hbo⟩, h1, h2, ⟨fun hi => ?_, hsn, (Array.getElem?_eq_some_iff.1 hw).1⟩, ⟨i, _, hO, by simp [GObj.blk, hl, hb]⟩⟩
  obtain ⟨j, y, hy, hyb⟩ := hi
  rw [List.getElem?_set] at hy
  by_cases e : i = j
  · rw [if_pos e] at hy
    split at hy
    · cases hy; cases hyb
    · cases hy
  · rw [if_neg e] at hy
    exact h.sep i j _ _ b e hO hy (by simp [GObj.blk, hl, hb]) hyb
theorem HSim.showMap {E : Env} {O : List GObj} {w : World} (h : HSim E O w) {i st b clock : Nat} {l : GLoc} {es : Array MapEntry} {kv : List (GVal × GVal)} (hO : O[i]? = some .dead) (hl : E.loc st = some l) (hb : l.block = some b)
    (hm : MapAt E w b es clock kv) (hh : Hid E O w b) : HSim E (O.set i (.map st kv)) w ∧ ∀ E0 O0 w0, Keep E0 O0 w0 E O w → (InO E0 O0 b ∨ w0.heap.size ≤ b) → Keep E0 O0 w0 E (O.set i (.map st kv)) w := by
  have hblk : (GObj.map st kv).blk E = some b := by simp [GObj.blk, hl, hb]
  have split : ∀ (j : Nat) y, (O.set i (.map st kv))[j]? = some y → (j = i ∧ y = .map st kv) ∨ (j ≠ i ∧ O[j]? = some y) := by
    intro j y hy
    rw [List.getElem?_set] at hy
    by_cases e : i = j
    · rw [if_pos e] at hy
      split at hy
      · exact .inl ⟨e.symm, (Option.some.inj hy).symm⟩
      · cases hy
    · rw [if_neg e] at hy; exact .inr ⟨fun q => e q.symm, hy⟩
  have hc : clockOf (O.set i (.map st kv)) = clockOf O := by
    match O, i with
    | [], _ => rfl
    | y :: r, 0 => simp at hO; subst hO; rfl
    | y :: r, k + 1 => cases y <;> rfl
  refine ⟨⟨by unfold Fin'; rw [hc]; exact h.fin, h.sealed, h.one, fun j y hy => ?_, fun j k oj ok b' hjk hj hk hbj hbk => ?_, h.glob⟩, fun E0 O0 w0 K hbn => ⟨K.ext, K.os, K.out, K.size, K.heap, K.snap, fun b' ⟨j, y, hy, hyb⟩ => ?_, trivial⟩⟩
  · rcases split j y hy with ⟨_, rfl⟩ | ⟨_, h1⟩
    · exact ⟨l, b, es, clock, hl, hb, hm.at_, hm.size, hm.ent, hm.born, hh.snap⟩
    · exact h.real j y h1
  · rcases split j oj hj with ⟨e1, rfl⟩ | ⟨e1, h1⟩
    · rcases split k ok hk with ⟨e2, rfl⟩ | ⟨e2, h2⟩
      · exact hjk (e1.trans e2.symm)
      · rw [hblk] at hbj; cases hbj
        exact hh.obj ⟨k, ok, h2, hbk⟩
    · rcases split k ok hk with ⟨e2, rfl⟩ | ⟨e2, h2⟩
      · rw [hblk] at hbk; cases hbk
        exact hh.obj ⟨j, oj, h1, hbj⟩
      · exact h.sep j k oj ok b' hjk h1 h2 hbj hbk
  · rcases split j y hy with ⟨_, rfl⟩ | ⟨_, h1⟩
    · rw [hblk] at hyb; cases hyb; exact hbn
    · exact K.objs b' ⟨j, y, h1, hyb⟩
end Gv
/- `m[k] = f(m[k])`: a map's entry found, and written later. -/
set_option linter.unusedVariables false
namespace Gv
open Go Go.MapKept Go.ChangeMaps
variable {P : Program} {E : Env} {O : List GObj} {w : World}
theorem bornIdx : ∀ {es : List MapEntry} {i : Nat} {e : MapEntry}, es.Pairwise (fun x y => x.born ≠ y.born) → es[i]? = some e → es.findIdx? (fun x => ((x.born : Nat) : Int) == ((e.born : Nat) : Int)) = some i
  | [], i, e, _, h => by cases h
  | a :: r, 0, e, _, h => by cases h; simp [List.findIdx?_cons]
  | a :: r, i + 1, e, hp, h => by
    have h1 : r[i]? = some e := by simpa using h
    have h2 := (List.pairwise_cons.1 hp).1 e (List.mem_of_getElem? h1)
    have h3 : (((a.born : Nat) : Int) == ((e.born : Nat) : Int)) = false := by rw [beq_eq_false_iff_ne]; omega
    rw [List.findIdx?_cons, h3, bornIdx (List.pairwise_cons.1 hp).2 h1]
    rfl
theorem bornIdxA {es : Array MapEntry} {clock i : Nat} {e : MapEntry} (h : BornOK es clock) (hi : es.toList[i]? = some e) : es.findIdx? (fun x => ((x.born : Nat) : Int) == ((e.born : Nat) : Int)) = some i := by
  have : es.findIdx? (fun x => ((x.born : Nat) : Int) == ((e.born : Nat) : Int)) = es.toList.findIdx? (fun x => ((x.born : Nat) : Int) == ((e.born : Nat) : Int)) := by cases es; simp
  rw [this]; exact bornIdx h.2 hi
def oldAt (kv : List (GVal × GVal)) (z : GVal) : Option Nat → GVal
  | some i => match kv[i]? with
    | some p => p.2
    | none => .any
  | none => z
def putAt (kv : List (GVal × GVal)) (x v : GVal) : Option Nat → List (GVal × GVal)
  | some i => kv.set i (x, v)
  | none => kv ++ [(x, v)]
theorem grown_set {w : World} {b : Nat} {es : Array MapEntry} {clock : Nat} (hw : w.heap[b]? = some (.map es clock)) (es' : Array MapEntry) (clock' : Nat) :
    w.grownBy { w with heap := w.heap.setIfInBounds b (.map es' clock') } (some b) ∧ { w with heap := w.heap.setIfInBounds b (.map es' clock') }.heap[b]? = some (.map es' clock') ∧ { w with heap := w.heap.setIfInBounds b (.map es' clock') }.heap.size = w.heap.size := by
  have hlt := (Array.getElem?_eq_some_iff.1 hw).1
  refine ⟨⟨rfl, rfl, rfl, by simp, fun k _ hk => ?_⟩, ?_, by simp⟩
  · show (w.heap.setIfInBounds b _)[k]? = _
    rw [Array.getElem?_setIfInBounds, if_neg (fun e => hk (by rw [e]))]
  · show (w.heap.setIfInBounds b _)[b]? = _
    rw [Array.getElem?_setIfInBounds, if_pos rfl, if_pos hlt]
theorem mapEntry_hid {t : TypeId} {k : KT} {et : TypeId} {z x : GVal} {rx : Value} {r : Option Nat} {b clock : Nat} {es : Array MapEntry} {kv : List (GVal × GVal)} (hkt : keyT P t = some (k, et)) (hz : zeroG P et = some z) (hko : keyOk k x) (hx : VR E rx x)
    (hm : MapAt E w b es clock kv) (hr : kfind k x kv = some r) :
    ∃ (rv0 : Value) (stamp : Nat) (es1 : Array MapEntry) (clock1 : Nat) (w1 : World), (Instr.mapEntry t (.map (some b)) rx).run P w = .ok (.tuple #[rv0, goInt stamp]) w1 ∧ w.grownBy w1 (some b) ∧ w1.heap[b]? = some (.map es1 clock1) ∧ VR E rv0 (oldAt kv z r) ∧
      ∀ (E2 : Env) (w2 : World) (rv : Value) (gv : GVal), E.le E2 → w2.heap[b]? = some (.map es1 clock1) → VR E2 rv gv →
        ∃ (w3 : World) (es3 : Array MapEntry) (clock3 : Nat), (Instr.entryStore t (.map (some b)) (goInt stamp) rv).run P w2 = .ok () w3 ∧ w2.grownBy w3 (some b) ∧ MapAt E2 w3 b es3 clock3 (putAt kv x gv r) := by
  obtain ⟨kt, hu, hf, ht, hn⟩ := keyT_spec hkt
  have hchk : ∀ em, (Instr.checkKey em 10000 kt rx).run P w = .ok () w := fun em => by
    unfold keyOk at hko
    split at hko
    · rename_i cs hcs; exact checkKey_run hf ht hx hcs hko
    · exact hko.elim
  obtain ⟨hw, hl, he, hbo⟩ := hm
  have hl' : es.toList.length = kv.length := by simpa using hl
  have he' : ∀ (i : Nat) e p, es.toList[i]? = some e → kv[i]? = some p → EntryOK E e p := fun i e p h1 h2 => he i e p (by simpa using h1) h2
  have hfk := findKey_run (P := P) (w := w) hf ht hn hx hl' he' hr
  cases r with
  | some i =>
    obtain ⟨p, hp, hpe⟩ := kfind_eq hr
    have hlt : i < es.toList.length := by rw [hl']; exact (List.getElem?_eq_some_iff.1 hp).1
    have hei : es.toList[i]? = some (es.toList[i]) := List.getElem?_eq_getElem hlt
    obtain ⟨e, ee⟩ : ∃ e, es.toList[i] = e := ⟨_, rfl⟩
    rw [ee] at hei
    have hkey : (Instr.keyThatStays e.key rx).run P w = .ok rx w := by
      have h2 := (he' i _ p hei hp).1
      have h3 := keyEq_rigid hn hx h2 hpe
      have h4 : Instr.sameBits 10000 e.key rx = true := by
        have := sameBits_key hn hx h2 hpe
        rw [← h3] at this ⊢; exact this
      unfold Instr.keyThatStays
      rw [if_pos h4]; simp
    have hei' : es[i]? = some e := by simpa using hei
    obtain ⟨g1, g2, _⟩ := grown_set hw (es.modify i fun e => { e with key := rx }) clock
    have hb1 : BornOK (es.modify i fun e => { e with key := rx }) clock := hbo.modify i _ fun _ => rfl
    refine ⟨e.val, e.born, _, _, _, ?_, g1, g2, ?_, ?_⟩
    · unfold Instr.mapEntry
      simp only [Sem.run_bind, run_underlying hu, Result.andThen_ok, getMap hw, hchk, hfk, At, hei, Nat.zero_add, hei', Option.map_some, Option.getD_some, hkey]
      rw [setMap _ hw]
      rfl
    · simp only [oldAt, hp]
      exact (he' i _ p hei hp).2
    · intro E2 w2 rv gv hE hw2 hrv
      obtain ⟨g3, g4, _⟩ := grown_set hw2 ((es.modify i fun e => { e with key := rx }).modify i fun e => { e with val := rv }) clock
      have hidx : (es.modify i fun e => { e with key := rx }).findIdx? (fun e' => ((e'.born : Nat) : Int) == ((e.born : Nat) : Int)) = some i := by
        refine bornIdxA (e := { e with key := rx }) hb1 ?_
        rw [Array.getElem?_toList, Array.getElem?_modify, if_pos rfl, hei']
        rfl
      refine ⟨_, _, _, ?_, g3, g4, by simpa [putAt] using hl, fun j e' p' he2 hp' => ?_, hb1.modify i _ fun _ => rfl⟩
      · simp [Instr.entryStore, MapKept.run_getObj_map hw2, asInt, asIntOf, goInt, hidx, MapKept.run_setObj_map _ hw2, Result.andThen]
      · simp only [putAt] at hp'
        rw [Array.getElem?_modify] at he2
        rw [List.getElem?_set] at hp'
        by_cases hij : i = j
        · subst hij
          rw [if_pos rfl, Array.getElem?_modify, if_pos rfl, hei'] at he2
          simp only [Option.map_some, Option.some.injEq] at he2
          rw [if_pos rfl, if_pos (by rw [← hl']; exact hlt)] at hp'
          simp only [Option.some.injEq] at hp'
          subst he2; subst hp'
          exact ⟨hx.mono hE, hrv⟩
        · rw [if_neg hij] at he2 hp'
          rw [Array.getElem?_modify, if_neg hij] at he2
          exact ⟨(he j e' p' he2 hp').1.mono hE, (he j e' p' he2 hp').2.mono hE⟩
  | none =>
    obtain ⟨v0, hv0, hvz⟩ := zeroG_run hz w E
    have hv0' : ∀ u : World, (zeroValue et).run P u = .ok v0 u → True := fun _ _ => trivial
    obtain ⟨g1, g2, _⟩ := grown_set hw (es.push { key := rx, val := v0, born := clock }) (clock + 1)
    have hb1 : BornOK (es.push { key := rx, val := v0, born := clock }) (clock + 1) := hbo.push _ rfl
    refine ⟨v0, clock, _, _, _, ?_, g1, g2, hvz, ?_⟩
    · unfold Instr.mapEntry
      simp only [Sem.run_bind, run_underlying hu, Result.andThen_ok, getMap hw, hchk, hfk, At, hv0]
      rw [setMap _ hw]
      rfl
    · intro E2 w2 rv gv hE hw2 hrv
      obtain ⟨g3, g4, _⟩ := grown_set hw2 ((es.push { key := rx, val := v0, born := clock }).modify es.size fun e => { e with val := rv }) (clock + 1)
      have hidx : (es.push { key := rx, val := v0, born := clock }).findIdx? (fun e' => ((e'.born : Nat) : Int) == ((clock : Nat) : Int)) = some es.size := by
        exact bornIdxA (e := { key := rx, val := v0, born := clock }) hb1 (by simp)
      refine ⟨_, _, _, ?_, g3, g4, by simpa [putAt] using hl, fun j e' p' he2 hp' => ?_, hb1.modify _ _ fun _ => rfl⟩
      · simp [Instr.entryStore, MapKept.run_getObj_map hw2, asInt, asIntOf, goInt, hidx, MapKept.run_setObj_map _ hw2, Result.andThen]
      · simp only [putAt] at hp'
        rw [Array.getElem?_modify, Array.getElem?_push] at he2
        by_cases hj : j = es.size
        · subst hj
          rw [if_pos rfl, if_pos rfl] at he2
          simp only [Option.map_some, Option.some.injEq] at he2
          rw [List.getElem?_append_right (by omega)] at hp'
          rw [show es.size - kv.length = 0 by omega] at hp'
          simp at hp'
          subst he2; subst hp'
          exact ⟨hx.mono hE, hrv⟩
        · rw [if_neg (fun e => hj e.symm), if_neg hj] at he2
          have hjlt := (Array.getElem?_eq_some_iff.1 he2).1
          rw [List.getElem?_append_left (by omega)] at hp'
          exact ⟨(he j e' p' he2 hp').1.mono hE, (he j e' p' he2 hp').2.mono hE⟩
end Gv
/- A walk in parts: some by conditions, some by hand. -/
set_option linter.unusedVariables false
namespace Gv
open Go Go.MapKept Go.ChangeMaps Go.Maps
variable {P : Program} {all : Array Oper} {QQ : Exit → Act → World → Prop} {E : Env} {st : GSt} {a : Act} {w : World} {o : Oper} {rest : List Oper}
@[reducible] def cfgOf {P : Program} {f : FuncId} {C : Cfg} {n : Nat} {rs : List ResultVar} {s : SCode} (_ : FnS P f C n rs s) : Cfg := C
def vcN (N : GSt → Prop) : Ex → GSt → Prop
  | .normal, s => N s
  | _, _ => False
def NW (s : List GVal) (O : List GObj) (st : GSt) : Prop := st.o = O ∧ WL st.s s
theorem wp_part {C : Cfg} (hmix : P.follows .mixedOrders = true) {c : Code} {s : SCode} (hs : slim C c = some s) (hc : codeOk C c = true) (h : HSim E st.o w) (ha : SlotsR E a st.s) {N : GSt → Prop} (hv : vcS P C.ro s (vcN N) st) {Q : Exit → Act → World → Prop}
    (hn : ∀ st' E' a' w', HSim E' st'.o w' → Keep E st.o w E' st'.o w' → SlotsR E' a' st'.s → N st' → Q .normal a' w') : c.wp P Q a w := by
  refine wp_mono (vc_sound hmix c (vcN N) st E a w hc h ha (vcS_ok c s (vcN N) (vcN N) st hs (fun _ _ h => h) hv)) ?_
  rintro e a' w' ⟨ex, st', E', hx, h1, h2, h3, h4⟩
  cases e <;> cases ex <;> first
    | exact hx.elim
    | exact h4.elim
    | exact hn st' E' a' w' h1 h2 h3 h4
theorem Post.trans {E0 E : Env} {O0 O : List GObj} {w0 w : World} {Q : Ex → GSt → Prop} {e : Exit} {a' : Act} {w' : World} (k : Keep E0 O0 w0 E O w) (h : Post E O w Q e a' w') : Post E0 O0 w0 Q e a' w' := by
  obtain ⟨ex, st', E', hx, h1, h2, h3, h4⟩ := h
  exact ⟨ex, st', E', hx, h1, k.trans h2, h3, h4⟩
theorem wpList_run (hg : o.guard = none) {v : Value} {w' : World} (hr : (execOp a.eval o).run P w = .ok (.value v) w') (h : wpList P all QQ rest (a.put o.dst v) w') : wpList P all QQ (o :: rest) a w :=
  wpList_plain hg fun K' hK' => by
    unfold Oper.wp
    rw [hr]
    simp only [Oper.upon_value]
    exact hK' _ _ h
theorem wpList_skip (hg : o.guard = none) {w' : World} (hr : (execOp a.eval o).run P w = .ok .skip w') (h : wpList P all QQ rest (a.put o.dst undef) w') : wpList P all QQ (o :: rest) a w :=
  wpList_plain hg fun K' hK' => by
    unfold Oper.wp
    rw [hr]
    exact hK' _ _ h
theorem op_step (hg : o.guard = none) (h : HSim E st.o w) (ha : SlotsR E a st.s) {R : List Nat} {N : GSt → Prop} (hk : opv P R st o (fun g O' => N (st.put o.dst g O')))
    (hq : ∀ st' E' a' w', HSim E' st'.o w' → Keep E st.o w E' st'.o w' → SlotsR E' a' st'.s → N st' → wpList P all QQ rest a' w') : wpList P all QQ (o :: rest) a w :=
  wpList_plain hg fun K' hK' => Oper.wp_mono (fun a w h => hK' a w h) (op_sound h ha hk (fun v w' E' O' g h1 h2 h3 h4 =>
    hq (st.put o.dst g O') E' _ w' (by rw [GSt.put_o]; exact h1) (by rw [GSt.put_o]; exact h2) (ha.put h2.ext h3 O') h4))
theorem ops_seg {R : List Nat} : ∀ (k : Nat) {ops : List Oper} {l : List SOp} {st : GSt} {E : Env} {a : Act} {w : World} (hl : (ops.take k).map (fun o => (⟨o.dst, o.op, none⟩ : SOp)) = l) (hg : (ops.take k).all (fun o => o.guard.isNone) = true)
    (h : HSim E st.o w) (ha : SlotsR E a st.s) {N : GSt → Prop} (hv : opsS P R l N st)
    (hq : ∀ st' E' a' w', HSim E' st'.o w' → Keep E st.o w E' st'.o w' → SlotsR E' a' st'.s → N st' → wpList P all QQ (ops.drop k) a' w'), wpList P all QQ ops a w
  | 0, ops, l, st, E, a, w, hl, hg, h, ha, N, hv, hq => by
    simp only [List.take_zero, List.map_nil] at hl
    subst hl
    rw [opsS_nil] at hv
    exact hq st E a w h (.refl _ _ _) ha hv
  | k + 1, [], l, st, E, a, w, hl, hg, h, ha, N, hv, hq => by
    simp only [List.take_nil, List.map_nil] at hl
    subst hl
    rw [opsS_nil] at hv
    exact hq st E a w h (.refl _ _ _) ha hv
  | k + 1, o :: r, l, st, E, a, w, hl, hg, h, ha, N, hv, hq => by
    simp only [List.take_succ_cons, List.map_cons] at hl
    subst hl
    simp only [List.take_succ_cons, List.all_cons, Bool.and_eq_true, Option.isNone_iff_eq_none] at hg
    rw [opsS_one, ← opS_eq] at hv
    refine op_step (N := fun s => opsS P R ((r.take k).map (fun o => (⟨o.dst, o.op, none⟩ : SOp))) N s) hg.1 h ha hv (fun st' E' a' w' h1 h2 h3 h4 => ?_)
    exact ops_seg k rfl hg.2 h1 h3 h4 (fun st2 E2 a2 w2 q1 q2 q3 q4 => hq st2 E2 a2 w2 q1 (h2.trans q2) q3 q4)
theorem range_step (hg : o.guard = none) {m : Operand} {t k e : TypeId} (hop : o.op = Op.range t m) (ht : P.underlying t = some (.map k e)) {b clock : Nat} {es : Array MapEntry}
    (hm : a.eval m = .map (some b)) (hb : w.heap[b]? = some (.map es clock)) (hbo : Gv.BornOK es clock)
    (hK : ∀ w', WalkAt w' b w.heap.size es clock #[] → w.grownBy w' none → w'.heap.size = w.heap.size + 1 → wpList P all QQ rest (a.put o.dst (.pointer (some ⟨w.heap.size, 0, none⟩))) w') :
    wpList P all QQ (o :: rest) a w := by
  have hrun := run_range_map w t k e b es clock ht hb
  have hlt := (Array.getElem?_eq_some_iff.1 hb).1
  refine wpList_run (v := .pointer (some ⟨w.heap.size, 0, none⟩)) (w' := w.alloc (.mapIter (some b) clock #[] clock)) hg (by simp [execOp, hop, hm, hrun, Result.andThen]) ?_
  exact hK _ ⟨clock, clock, ((MapKept.heap_alloc w _).2 b hlt).trans hb, (MapKept.heap_alloc w _).1, hbo.1, Nat.le_refl _, Nat.le_refl _⟩ (World.grownBy_alloc w _ none) (by simp)
theorem next_step (hg : o.guard = none) {it : Operand} (hop : o.op = Op.next it false) {b r clock : Nat} {es : Array MapEntry} (hbo : Gv.BornOK es clock) {seen : Array Nat} {xs : List MapEntry} (hx : Came es seen xs)
    (hit : a.eval it = .pointer (some ⟨r, 0, none⟩)) (h : WalkAt w b r es clock seen)
    (hDone : xs.Perm es.toList → wpList P all QQ rest (a.put o.dst (.tuple #[.bool false])) w)
    (hMore : ∀ (e : MapEntry) (w' : World), e ∈ es.toList → Came es (seen.push e.born) (xs ++ [e]) → xs.length < es.size → WalkAt w' b r es clock (seen.push e.born) → w'.rangeLeft b r < w.rangeLeft b r →
      w.grownBy w' (some r) → (∀ w2 : World, w2.heap[b]? = w'.heap[b]? → w2.heap[r]? = w'.heap[r]? → (Instr.entry (.pointer (some ⟨r, 0, none⟩))).run P w2 = .ok (.tuple #[e.key, e.val]) w2) → wpList P all QQ rest (a.put o.dst (.tuple #[.bool true, e.key, e.val])) w') :
    wpList P all QQ (o :: rest) a w := by
  have hle := h.left_eq
  obtain ⟨since, c0, hb, hr, hold, hsc, hsk⟩ := h
  obtain ⟨hse, hxn, hxm⟩ := hx
  have hne : r ≠ b := fun e => by rw [e, hb] at hr; cases hr
  have hnd : es.toList.Nodup := hbo.2.imp fun h e => h (congrArg _ e)
  have hbn : (es.toList.map (·.born)).Nodup := List.pairwise_map.2 hbo.2
  rcases run_next_at (P := P) w o.type r b since c0 seen es clock hr hb hold hsc with ⟨h0, hrun⟩ | ⟨e, he, w1, hal, hrun⟩
  · refine wpList_run hg (by simp [execOp, hop, hit, hrun, Result.andThen]) (hDone ?_)
    refine (List.perm_ext_iff_of_nodup hxn hnd).2 fun x => ⟨fun q => hxm x q, fun q => ?_⟩
    have hs := all_seen es seen h0 x q
    rw [hse] at hs
    have hm : x.born ∈ xs.map MapEntry.born := by simpa using hs
    obtain ⟨y, hy, ey⟩ := List.mem_map.1 hm
    rwa [← born_inj hbn (hxm y hy) q ey]
  · have hr1 : w1.heap[r]? = some (.mapIter (some b) since seen c0) := by rcases hal with rfl | rfl <;> exact hr
    have hb1 : w1.heap[b]? = some (.map es clock) := by rcases hal with rfl | rfl <;> exact hb
    have hset := heap_set (o' := .mapIter (some b) since (seen.push e.born) clock) hr1
    have hb' : (ChangeMaps.setBlock w1 r (.mapIter (some b) since (seen.push e.born) clock)).heap[b]? = some (.map es clock) := (hset.2 b (fun e1 => hne e1.symm)).trans hb1
    obtain ⟨hem, hes⟩ := mem_left he
    have hc : Came es (seen.push e.born) (xs ++ [e]) := by
      refine ⟨by rw [hse]; simp, List.nodup_append.2 ⟨hxn, by simp, fun y hy z hz => ?_⟩, fun y hy => ?_⟩
      · rw [List.mem_singleton.1 hz]
        intro q
        have : e.born ∈ xs.map MapEntry.born := List.mem_map_of_mem (q ▸ hy)
        rw [hse] at hes
        have h3 : (xs.map MapEntry.born).toArray.contains e.born = true := by simpa using this
        rw [h3] at hes; cases hes
      · rcases List.mem_append.1 hy with q | q
        · exact hxm y q
        · rw [List.mem_singleton.1 q]; exact hem
    have hlen : (xs ++ [e]).length ≤ es.toList.length := nodup_le _ _ hc.2.1 hc.2.2
    have hw : WalkAt (ChangeMaps.setBlock w1 r (.mapIter (some b) since (seen.push e.born) clock)) b r es clock (seen.push e.born) := ⟨since, clock, hb', hset.1, hold, hsk, hsk⟩
    refine wpList_run hg (by simp [execOp, hop, hit, hrun, Result.andThen]) (hMore e _ hem hc (by simp at hlen; omega) hw ?_ ?_ (fun w2 e1 e2 => run_entry_at w2 r b since seen es clock e (e2.trans hset.1) (e1.trans hb') hem hbn))
    · rw [hle, hw.left_eq]
      exact left_shrinks es _ e he
    · rcases hal with rfl | rfl <;> exact ⟨rfl, rfl, rfl, by simp [ChangeMaps.setBlock], fun i _ hi => hset.2 i (fun e1 => hi (by rw [e1]))⟩
theorem entry_step (hg : o.guard = none) {it : Operand} (hop : o.op = Op.entry it) {r : Nat} {v : Value} (hit : a.eval it = .pointer (some ⟨r, 0, none⟩)) (he : (Instr.entry (.pointer (some ⟨r, 0, none⟩))).run P w = .ok v w)
    (h : wpList P all QQ rest (a.put o.dst v) w) : wpList P all QQ (o :: rest) a w :=
  wpList_run hg (by simp [execOp, hop, hit, he, Result.andThen]) h
theorem mapEntry_step (hg : o.guard = none) {m x : Operand} {t : TypeId} (hop : o.op = Op.mapEntry t m x) {v : Value} {w' : World} (hr : (Instr.mapEntry t (a.eval m) (a.eval x)).run P w = .ok v w')
    (h : wpList P all QQ rest (a.put o.dst v) w') : wpList P all QQ (o :: rest) a w :=
  wpList_run hg (by simp [execOp, hop, hr, Result.andThen]) h
theorem entryStore_step (hg : o.guard = none) {m x y : Operand} {t : TypeId} (hop : o.op = Op.entryStore t m x y) {w' : World} (hr : (Instr.entryStore t (a.eval m) (a.eval x) (a.eval y)).run P w = .ok () w')
    (h : wpList P all QQ rest (a.put o.dst undef) w') : wpList P all QQ (o :: rest) a w :=
  wpList_skip hg (by simp [execOp, hop, hr, Result.andThen]) h
theorem map_val {v : Value} {i s b : Nat} {l : GLoc} (h : VR E v (.map i s)) (hl : E.loc s = some l) (hb : l.block = some b) : v = .map (some b) := by
  cases h with
  | map r o st l' hl' hb' =>
    rw [hl] at hl'; cases hl'
    rw [hb] at hb'; cases hb'
    rfl
theorem HSim.meltBox {O : List GObj} {t sz : Nat} {cs cs' : List GVal} (h : HSim E (O ++ [.row t sz [cs]]) w) {s : List GVal} (ha : SlotsR E a s) (i n : Nat) (hx : s.getD i .any = .ptr O.length t 0 0) (hsz : cs.length = sz)
    (hf : frzL (Gv.frz [.row t sz [cs]] n) cs = some cs') (hne : cs ≠ []) :
    HSim (E.frz [.row t sz [cs]] w) O w ∧ Keep E (O ++ [.row t sz [cs]]) w (E.frz [.row t sz [cs]] w) O w ∧ SlotsR (E.frz [.row t sz [cs]] w) a (s.set i (.ref cs')) := by
  obtain ⟨h0, h1, h2⟩ := h.melt
  refine ⟨h1, h2, by simp [ha.size], ha.defers, fun k g hg => ?_⟩
  rw [List.getElem?_set] at hg
  by_cases hk : i = k
  · subst hk
    rw [if_pos rfl] at hg
    split at hg
    · rename_i hlt
      simp only [Option.some.injEq] at hg
      subst hg
      have := ha.at_ i _ (getD_of (d := GVal.any) hlt)
      rw [hx] at this
      revert this
      generalize a.tmps.getD i undef = tv
      intro this
      cases this with
      | ptr b off o st i j l hl hb ho =>
        have hreal := h0.real 0 _ rfl
        obtain ⟨l', hl', hsz', hxs, hr⟩ := hreal
        rw [hl] at hl'; cases hl'
        rw [hb] at hr
        obtain ⟨cur, el, hcw, hcs, hct, hrows, hsn⟩ := hr
        have hrow : ∀ j g, [cs].flatten[j]? = some g → ∃ v, (E.frz [.row t sz [cs]] w).snap b (off + j) = some v ∧ VR E v g := fun j g hj => by
          have := row_frz h0 (i := 0) rfl hl hb hj
          obtain ⟨v, hv1, hv2⟩ := this
          refine ⟨v, ?_, ?_⟩
          · rw [ho]; simpa using hv1
          · first | exact hv2 | exact hv2.2 | exact hv2.1
        have hl2 := frzL_len hf
        refine .ref b off cs' (fun j => ((E.frz [.row t sz [cs]] w).snap b (off + j)).getD undef) (fun j hj => ?_) (fun j g hg => ?_)
        · obtain ⟨v, hv, _⟩ := hrow j (cs[j]'(by omega)) (by simp)
          rw [hv]; rfl
        · obtain ⟨x, hx1, hx2⟩ := frzL_at hf j g hg
          obtain ⟨v, hv, hvr⟩ := hrow j x (by simpa using hx1)
          rw [hv]
          exact frz_sound h0 n _ _ _ hvr hx2
    · cases hg
  · rw [if_neg hk] at hg
    exact (ha.at_ k g hg).mono h2.ext
theorem HSim.meltBox1 {O : List GObj} {t sz : Nat} {cs : List GVal} (h : HSim E (O ++ [.row t sz [cs]]) w) {s : List GVal} (ha : SlotsR E a s) (i : Nat) (hx : s.getD i .any = .ptr O.length t 0 0) (hsz : cs.length = sz) :
    HSim (E.frz [.row t sz [cs]] w) O w ∧ Keep E (O ++ [.row t sz [cs]]) w (E.frz [.row t sz [cs]] w) O w ∧ SlotsR (E.frz [.row t sz [cs]] w) a (s.set i (.ref cs)) := by
  obtain ⟨h0, h1, h2⟩ := h.melt
  refine ⟨h1, h2, by simp [ha.size], ha.defers, fun k g hg => ?_⟩
  rw [List.getElem?_set] at hg
  by_cases hk : i = k
  · subst hk
    rw [if_pos rfl] at hg
    split at hg
    · rename_i hlt
      simp only [Option.some.injEq] at hg
      subst hg
      have := ha.at_ i _ (getD_of (d := GVal.any) hlt)
      rw [hx] at this
      revert this
      generalize a.tmps.getD i undef = tv
      intro this
      cases this with
      | ptr b off o st i j l hl hb ho =>
        have hreal := h0.real 0 _ rfl
        obtain ⟨l', hl', hsz', hxs, hr⟩ := hreal
        rw [hl] at hl'; cases hl'
        rw [hb] at hr
        obtain ⟨cur, el, hcw, hcs, hct, hrows, hsn⟩ := hr
        have hrow : ∀ j g, [cs].flatten[j]? = some g → ∃ v, (E.frz [.row t sz [cs]] w).snap b (off + j) = some v ∧ VR E v g := fun j g hj => by
          have := row_frz h0 (i := 0) rfl hl hb hj
          obtain ⟨v, hv1, hv2⟩ := this
          refine ⟨v, ?_, ?_⟩
          · rw [ho]; simpa using hv1
          · first | exact hv2 | exact hv2.2 | exact hv2.1
        refine .ref b off cs (fun j => ((E.frz [.row t sz [cs]] w).snap b (off + j)).getD undef) (fun j hj => ?_) (fun j g hg => ?_)
        · obtain ⟨v, hv, _⟩ := hrow j (cs[j]'(by omega)) (by simp)
          rw [hv]; rfl
        · obtain ⟨v, hv, hvr⟩ := hrow j g (by simpa using hg)
          rw [hv]
          exact hvr.mono h2.ext
    · cases hg
  · rw [if_neg hk] at hg
    exact (ha.at_ k g hg).mono h2.ext
end Gv
/- graph.Descendants, the ghost parts of its walk. -/
set_option linter.unusedVariables false
set_option linter.unusedSimpArgs false
set_option maxRecDepth 20000
set_option maxHeartbeats 4000000
namespace Gv.Tryz
open Go Gv Go.Proofs
open Nat (reduceEqDiff reduceAdd reduceSub reduceLeDiff reduceMul reduceLT)
abbrev dS (p0 p1 x5 x6 x7 x9 x15 x21 x22 x23 : GVal) : List GVal := [p0, p1, .any, .any, .any, x5, x6, x7, .any, x9, .any, .any, .any, .any, .any, x15, .any, .any, .any, .any, .any, x21, x22, x23, .any, .any, .any, .any, .any, .any, .any, .any, .any, .any, .any, .any, .any, .any, .any, .any, .any, .any]
theorem dR0 (p0 p1 : GVal) (O : List GObj) : vcS Tryz.prog [] s24_0 (vcN (NW (dS p0 p1 .any .any .any .any .any .any .any .any) O)) (gstart 42 [p0, p1] O) := by
  simp only [gstart, List.cons_append, List.nil_append, List.length_cons, List.length_nil, reduceAdd, reduceSub, List.replicate_succ, List.replicate_zero]
  skip
  simp +contextual -implicitDefEqProofs (maxSteps := 2000000) (disch := omega) only [GVal.ofConst, vcA, ↓vcB, vcC, e24, vcN, NW, leG_any]
  try trivial
theorem dR1 (p0 p1 : GVal) (r0 : GObj) (hst : ∀ (r : List GObj) (K : Nat → Prop), stamp (r0 :: r) K = ∀ st, K st) (htk : ∀ r : List GObj, tickO (r0 :: r) = r0 :: r) : vcS Tryz.prog [] s24_1 (vcN fun st' => ∃ stC stb, NW (dS p0 p1 (.ptr 3 stb 0 0) .any .any .any .any .any .any .any) ([r0, .dead, .map stC [], .row stb 1 [[.map 2 stC]]]) st') ⟨dS p0 p1 .any .any .any .any .any .any .any .any, [r0, .dead]⟩ := by
  skip
  simp +contextual -implicitDefEqProofs (maxSteps := 2000000) (disch := omega) only [↓storeV, ↓allocV, GVal.cells, List.take, List.drop, reduceAdd, reduceLeDiff, ↓makeMapV, allSolid, GVal.solid, splice, vcA, ↓vcB, vcC, fbFw, e24, hst, htk, vcN, NW, leG_any, dS]
  exact fun stC => ⟨rfl, fun stb => ⟨stC, stb, rfl, by simp [leG_self]⟩⟩
theorem dR2 (p1 x5 : GVal) (st s : Nat) (X : List GObj) : opsS Tryz.prog [] [(.mk (some 11) (.move (.tmp 0)) none), (.mk (some 12) (.nilCheck (.tmp 11)) none), (.mk (some 13) (.fieldAddr 66 (.tmp 12) 0) none), (.mk (some 14) (.load 64 (.tmp 13)) none)]
    (NW ((dS (.ptr 0 st 0 0) p1 x5 .any .any .any .any .any .any .any).set 14 (.map 1 s)) (.row st 1 [[.map 1 s]] :: X)) ⟨dS (.ptr 0 st 0 0) p1 x5 .any .any .any .any .any .any .any, .row st 1 [[.map 1 s]] :: X⟩ := by
  skip
  simp +contextual -implicitDefEqProofs (maxSteps := 2000000) (disch := omega) only [↓loadV, ↓fieldAddrV, ↓nilV, grp, List.headD, List.take, List.drop, reduceLeDiff, implies_true, vcA, ↓vcB, vcC, fbFw, NW, leG_any, dS]
  try trivial
theorem dR3 (p0 p1 x5 x15 : GVal) (b : Bool) (k v : GVal) (O : List GObj) : opsS Tryz.prog [] [(.mk (some 17) (.extract (.tmp 16) 0) none)]
    (NW ((dS p0 p1 x5 .any .any .any x15 .any .any .any).set 17 (.bool b)) O) ⟨(dS p0 p1 x5 .any .any .any x15 .any .any .any).set 16 (.tuple [.bool b, k, v]), O⟩ := by
  skip
  simp +contextual -implicitDefEqProofs (maxSteps := 2000000) (disch := omega) only [vcA, ↓vcB, vcC, NW, leG_any, dS]
  try trivial
theorem dR3' (p0 p1 x5 x15 : GVal) (b : Bool) (O : List GObj) : opsS Tryz.prog [] [(.mk (some 17) (.extract (.tmp 16) 0) none)]
    (NW ((dS p0 p1 x5 .any .any .any x15 .any .any .any).set 17 (.bool b)) O) ⟨(dS p0 p1 x5 .any .any .any x15 .any .any .any).set 16 (.tuple [.bool b]), O⟩ := by
  skip
  simp +contextual -implicitDefEqProofs (maxSteps := 2000000) (disch := omega) only [vcA, ↓vcB, vcC, NW, leG_any, dS]
  try trivial
theorem dR4 (p0 p1 x5 x15 : GVal) (h : Hs) (ps : List Hs) (O : List GObj) (hst : ∀ K : Nat → Prop, stamp O K = ∀ st, K st) (htk : tickO O = O) : opsS Tryz.prog [] [(.mk (some 19) (.extract (.tmp 18) 0) none), (.mk (some 20) (.extract (.tmp 18) 1) none), (.mk (some 6) (.alloc 40) none), (.mk none (.store 40 (.tmp 6) (.tmp 19)) none), (.mk (some 7) (.assign (.tmp 20)) none)]
    (fun st' => ∃ v, NW (dS p0 p1 x5 (.ptr O.length v 0 0) (.slice (hsG ps) .none) .any x15 .any .any .any) (O ++ [.row v 32 [bytesG h.1]]) st') ⟨(dS p0 p1 x5 .any .any .any x15 .any .any .any).set 18 (.tuple [.agg (bytesG h.1), .slice (hsG ps) .none]), O⟩ := by
  have hO : ∀ x : GObj, (O ++ [x])[O.length]? = some x := fun x => by simp
  have hS : ∀ x y : GObj, (O ++ [x]).set O.length y = O ++ [y] := fun x y => by simp
  skip
  simp +contextual -implicitDefEqProofs (maxSteps := 2000000) (disch := omega) only [↓storeV, ↓allocV, GVal.cells, List.take, List.drop, reduceAdd, reduceLeDiff, GVal.solid, splice, vcA, ↓vcB, vcC, fbFw, NW, leG_any, dS, hst, htk, hO, hS, len32, solidH]
  first
    | exact fun v => ⟨v, rfl, by simp [leG_self]⟩
    | exact fun v => ⟨v, rfl⟩
theorem dR5 (p0 p1 x5 x6 x15 : GVal) (ps : List Hs) (O : List GObj) : vcS Tryz.prog [] s24_5 (vcN (NW (dS p0 p1 x5 x6 .any .any x15 (.slice (hsG ps) .none) (.int .i64 ps.length) (.int .i64 0)) O)) ⟨dS p0 p1 x5 x6 (.slice (hsG ps) .none) .any x15 .any .any .any, O⟩ := by
  skip
  simp +contextual -implicitDefEqProofs (maxSteps := 2000000) (disch := omega) only [↓lenV, GVal.ofConst, vcA, ↓vcB, vcC, fbFw, e24, vcN, NW, leG_any, dS, hsG_len]
  try trivial
theorem dR6 (p0 p1 x5 x6 x15 x21 : GVal) (k n : Nat) (O : List GObj) : vcS Tryz.prog [] s24_6 (vcN (NW ((dS p0 p1 x5 x6 .any .any x15 x21 (.int .i64 n) (.int .i64 k)).set 24 (.bool (decide (k < n)))) O)) ⟨dS p0 p1 x5 x6 .any .any x15 x21 (.int .i64 n) (.int .i64 k), O⟩ := by
  have d0 : decide ((k : Int) < (n : Int)) = decide (k < n) := by simp
  skip
  simp +contextual -implicitDefEqProofs (maxSteps := 2000000) (disch := omega) only [binV, vcA, ↓vcB, vcC, e24, vcN, NW, dS, d0]
  try trivial
theorem dR7 (p0 p1 x5 x6 x15 x22 : GVal) (ps : List Hs) (k : Nat) (hk : k < ps.length) (p : Hs) (hp : ps.getD k h0 = p) (O : List GObj) (hst : ∀ K : Nat → Prop, stamp O K = ∀ st, K st) (htk : tickO O = O) : vcS Tryz.prog [] s24_7
    (vcN fun st' => ∃ v, NW (dS p0 p1 x5 x6 .any (.ptr O.length v 0 0) x15 (.slice (hsG ps) .none) x22 (.int .i64 k)) (O ++ [.row v 32 [bytesG p.1]]) st') ⟨dS p0 p1 x5 x6 .any .any x15 (.slice (hsG ps) .none) x22 (.int .i64 k), O⟩ := by
  have hO : ∀ x : GObj, (O ++ [x])[O.length]? = some x := fun x => by simp
  have hS : ∀ x y : GObj, (O ++ [x]).set O.length y = O ++ [y] := fun x y => by simp
  have ea := hsG_at ps k hk
  rw [hp] at ea
  skip
  simp +contextual -implicitDefEqProofs (maxSteps := 2000000) (disch := omega) only [↓loadV, ↓storeV, ↓indexAddrV, ↓allocV, GVal.cells, grp, List.take, List.drop, reduceEqDiff, reduceAdd, reduceLeDiff, reduceCtorEq, GVal.solid, splice, vcA, ↓vcB, vcC, fbFw, e24, vcN, NW, leG_any, dS, hst, htk, hO, hS, hsG_len, ea, v32]
  refine ⟨by omega, by omega, ?_⟩
  exact fun v => ⟨v, rfl, by rw [leG_self]; trivial⟩
theorem dR8a (p0 p1 x15 x21 x22 x23 : GVal) (h p : Hs) (stb stC : Nat) (r0 r1 r2 : GObj) (X : List GObj) : opsS Tryz.prog [] [(.mk (some 27) (.load 64 (.tmp 5)) none), (.mk (some 28) (.load 40 (.tmp 9)) none), (.mk (some 30) (.load 40 (.tmp 6)) none), (.mk (some 31) (.buildSlice 31 1 #[(0, (.tmp 30))]) none)]
    (NW ((((dS p0 p1 (.ptr 3 stb 0 0) (.ref (bytesG h.1)) .any .any x15 x21 x22 x23).set 27 (.map 2 stC)).set 28 (.agg (bytesG p.1))).set 31 (.slice [bytesG h.1] .full)) (r0 :: r1 :: r2 :: .row stb 1 [[.map 2 stC]] :: X)) ⟨dS p0 p1 (.ptr 3 stb 0 0) (.ref (bytesG h.1)) .any (.ref (bytesG p.1)) x15 x21 x22 x23, r0 :: r1 :: r2 :: .row stb 1 [[.map 2 stC]] :: X⟩ := by
  skip
  simp +contextual -implicitDefEqProofs (maxSteps := 2000000) (disch := omega) only [↓loadV, ↓buildSliceV, fillE, GVal.cells, grp, List.map, List.headD, List.take, List.drop, ↓reduceIte, reduceEqDiff, reduceLeDiff, reduceCtorEq, implies_true, List.replicate, GVal.solid, reduceMul, vcA, ↓vcB, vcC, fbFw, NW, leG_any, dS, v32]
  try trivial
theorem dR8n (p0 p1 x5 x6 x15 x21 x22 x23 x27 : GVal) (h : Hs) (stamp_ : Nat) (O : List GObj) (hst : ∀ K : Nat → Prop, stamp O K = ∀ st, K st) (htk : tickO O = O) : opsS Tryz.prog [] [(.mk (some 29) (.extract (.tmp 32) 0) none), (.mk (some 33) (.call (.mk (.builtin (.append)) #[(.tmp 29), (.tmp 31)] #[31, 31])) none), (.mk (some 34) (.extract (.tmp 32) 1) none)]
    (fun st' => ∃ v, NW ((((dS p0 p1 x5 x6 .any .any x15 x21 x22 x23).set 27 x27).set 33 (.slice (hsG [h]) (.tok O.length v))).set 34 (.int .i64 stamp_)) (O ++ [.tok v 32]) st')
    ⟨(((dS p0 p1 x5 x6 .any .any x15 x21 x22 x23).set 27 x27).set 31 (.slice [bytesG h.1] .full)).set 32 (.tuple [.slice [] .nil, .int .i64 stamp_]), O⟩ := by
  skip
  simp +contextual -implicitDefEqProofs (maxSteps := 2000000) (disch := omega) only [↓appendV, ↓srcV, reduceLeDiff, ↓asrcV, Tag.cap, reduceMul, vcA, ↓vcB, vcC, fbFw, NW, leG_any, dS, hst, htk, len32]
  first
    | exact fun v => ⟨v, rfl, by simp [leG_self, hsG]⟩
    | exact fun v => ⟨v, rfl⟩
theorem dR8s (p0 p1 x5 x6 x15 x21 x22 x23 x27 : GVal) (h : Hs) (l : List Hs) (hl : l.length ≤ 1000000) (stamp_ o t : Nat) (O : List GObj) (hO : O[o]? = some (.tok t 32)) (hst : ∀ K : Nat → Prop, stamp O K = ∀ st, K st) (htk : tickO O = O) : opsS Tryz.prog [] [(.mk (some 29) (.extract (.tmp 32) 0) none), (.mk (some 33) (.call (.mk (.builtin (.append)) #[(.tmp 29), (.tmp 31)] #[31, 31])) none), (.mk (some 34) (.extract (.tmp 32) 1) none)]
    (fun st' => ∃ v, NW ((((dS p0 p1 x5 x6 .any .any x15 x21 x22 x23).set 27 x27).set 33 (.slice (hsG (l ++ [h])) (.tok o v))).set 34 (.int .i64 stamp_)) (O.set o (.tok v 32)) st')
    ⟨(((dS p0 p1 x5 x6 .any .any x15 x21 x22 x23).set 27 x27).set 31 (.slice [bytesG h.1] .full)).set 32 (.tuple [.slice (hsG l) (.tok o t), .int .i64 stamp_]), O⟩ := by
  skip
  simp +contextual -implicitDefEqProofs (maxSteps := 2000000) (disch := omega) only [↓appendV, ↓srcV, reduceLeDiff, ↓asrcV, Tag.cap, vcA, ↓vcB, vcC, fbFw, NW, leG_any, dS, hst, htk, hO, len32, hsG_len, all_hsG]
  refine ⟨by omega, by omega, ?_⟩
  exact fun v => ⟨v, rfl, by rw [hsG_app]; exact (leG_self _).mpr trivial⟩
theorem dR9 (p0 p1 x5 x6 x15 x21 x22 : GVal) (k : Nat) (hk : k ≤ 1000000000) (O : List GObj) : vcS Tryz.prog [] s24_9 (vcN (NW (dS p0 p1 x5 x6 .any .any x15 x21 x22 (.int .i64 (k + 1 : Nat))) O)) ⟨dS p0 p1 x5 x6 .any .any x15 x21 x22 (.int .i64 k), O⟩ := by
  skip
  simp +contextual -implicitDefEqProofs (maxSteps := 2000000) (disch := omega) only [binV, GVal.ofConst, vcA, ↓vcB, vcC, e24, vcN, NW, leG_any, dS]
end Gv.Tryz
/- graph.Descendants: the map of children grows. -/
set_option linter.unusedVariables false
set_option linter.unusedSimpArgs false
set_option maxRecDepth 20000
set_option maxHeartbeats 4000000
namespace Gv.Tryz
open Go Gv Go.Proofs
def kidPut (ch : GM) (p h : Hs) : GM := mset ch p ((look ch p).getD [] ++ [h])
def kidRow (ch : GM) (h : Hs) (ps : List Hs) : GM := ps.foldl (fun c p => kidPut c p h) ch
def kidAll (pre : GM) : GM := pre.foldl (fun c q => kidRow c q.1 q.2) []
abbrev CT := List ((Hs × List Hs) × Nat)
def ctM (ct : CT) : GM := ct.map (·.1)
def kvT (ct : CT) : List (GVal × GVal) := ct.zipIdx.map fun q => (.agg (bytesG q.1.1.1.1), .slice (hsG q.1.1.2) (.tok (q.2 + 4) q.1.2))
def obs (st s stC stb : Nat) (ct : CT) : List GObj := .row st 1 [[.map 1 s]] :: .dead :: .dead :: .row stb 1 [[.map 2 stC]] :: ct.map fun q => .tok q.2 32
theorem kvT_at (ct : CT) (i : Nat) : (kvT ct)[i]? = (ct[i]?).map fun q => (.agg (bytesG q.1.1.1), .slice (hsG q.1.2) (.tok (i + 4) q.2)) := by
  unfold kvT
  rw [List.getElem?_map, List.getElem?_zipIdx]
  cases ct[i]? <;> simp
theorem kvT_len (ct : CT) : (kvT ct).length = ct.length := by simp [kvT]
theorem kvT_set (ct : CT) (i : Nat) (q : (Hs × List Hs) × Nat) : (kvT ct).set i (.agg (bytesG q.1.1.1), .slice (hsG q.1.2) (.tok (i + 4) q.2)) = kvT (ct.set i q) := by
  refine List.ext_getElem? fun j => ?_
  rw [kvT_at, List.getElem?_set, List.getElem?_set, kvT_at, kvT_len]
  by_cases e : i = j
  · subst e
    simp only [if_true]
    split <;> rfl
  · simp only [if_neg e]
theorem kvT_app (ct : CT) (q : (Hs × List Hs) × Nat) : kvT ct ++ [(.agg (bytesG q.1.1.1), .slice (hsG q.1.2) (.tok (ct.length + 4) q.2))] = kvT (ct ++ [q]) := by
  simp [kvT, List.zipIdx_append]
theorem obs_len (st s stC stb : Nat) (ct : CT) : (obs st s stC stb ct).length = ct.length + 4 := by simp [obs]
theorem obs_at (st s stC stb : Nat) (ct : CT) (i : Nat) : (obs st s stC stb ct)[i + 4]? = (ct[i]?).map fun q => .tok q.2 32 := by simp [obs]
theorem obs_set (st s stC stb : Nat) (ct : CT) (i : Nat) (q : (Hs × List Hs) × Nat) : (obs st s stC stb ct).set (i + 4) (.tok q.2 32) = obs st s stC stb (ct.set i q) := by simp [obs, List.map_set]
theorem obs_app (st s stC stb : Nat) (ct : CT) (q : (Hs × List Hs) × Nat) : obs st s stC stb ct ++ [.tok q.2 32] = obs st s stC stb (ct ++ [q]) := by simp [obs]
theorem kfind_keys {k : KT} {x : GVal} : ∀ {kv kv' : List (GVal × GVal)}, kv.map (·.1) = kv'.map (·.1) → kfind k x kv = kfind k x kv'
  | [], [], _ => rfl
  | [], q :: r, h => by simp at h
  | p :: r, [], h => by simp at h
  | p :: r, q :: r', h => by
    simp only [List.map_cons, List.cons.injEq] at h
    rw [kfind, kfind, h.1, kfind_keys h.2]
theorem kfind_T (ct : CT) (p : Hs) : kfind hkT (.agg (bytesG p.1)) (kvT ct) = some (idxM (ctM ct) p) := by
  rw [← kfind_h encL p (ctM ct)]
  refine kfind_keys (List.ext_getElem? fun i => ?_)
  rw [List.getElem?_map, List.getElem?_map, kvT_at, kvG, ctM, List.getElem?_map, List.getElem?_map]
  cases ct[i]? <;> rfl
theorem idx_at {α : Type} : ∀ (m : List (Hs × α)) (h : Hs) (v : α), look m h = some v → ∃ i, idxM m h = some i ∧ m[i]? = some (h, v) ∧ ∀ w, m.set i (h, w) = mset m h w
  | [], h, v, e => by cases e
  | p :: r, h, v, e => by
    rw [look] at e
    by_cases hp : h = p.1
    · rw [if_pos hp] at e
      cases e
      refine ⟨0, by rw [idxM, if_pos hp], by simp [hp], fun w => by simp [mset, hp]⟩
    · rw [if_neg hp] at e
      obtain ⟨i, h1, h2, h3⟩ := idx_at r h v e
      exact ⟨i + 1, by rw [idxM, if_neg hp, h1]; rfl, by simpa using h2, fun w => by rw [mset, if_neg hp, ← h3 w]; rfl⟩
theorem idx_no {α : Type} : ∀ (m : List (Hs × α)) (h : Hs), look m h = none → idxM m h = none ∧ ∀ w, m ++ [(h, w)] = mset m h w
  | [], h, e => ⟨rfl, fun w => rfl⟩
  | p :: r, h, e => by
    rw [look] at e
    by_cases hp : h = p.1
    · rw [if_pos hp] at e; cases e
    · rw [if_neg hp] at e
      obtain ⟨h1, h2⟩ := idx_no r h e
      exact ⟨by rw [idxM, if_neg hp, h1]; rfl, fun w => by rw [mset, if_neg hp, ← h2 w]; rfl⟩
structure DD where
  (st s stC stb b r bC : Nat)
  m : GM
  es : Array MapEntry
  clock : Nat
  E0 : Env
  w0 : World
  lC : GLoc
structure DOK (D : DD) : Prop where
  hl : D.lC.block = some D.bC
  h0 : D.w0.heap.size ≤ D.bC
  hr0 : D.w0.heap.size ≤ D.r
  nb : D.bC ≠ D.b
  nr : D.bC ≠ D.r
  nrb : D.r ≠ D.b
  born : BornOK D.es D.clock
abbrev DD.o (D : DD) (ct : CT) : List GObj := obs D.st D.s D.stC D.stb ct
structure AtW (D : DD) (seen : Array Nat) (E : Env) (O : List GObj) (w : World) : Prop where
  sim : HSim E O w
  keep : Keep D.E0 [.row D.st 1 [[.map 1 D.s]], .dead] D.w0 E O w
  walk : WalkAt w D.b D.r D.es D.clock seen
  hb : Hid E O w D.b
  hr : Hid E O w D.r
  hC : Hid E O w D.bC
  loc : E.loc D.stC = some D.lC
def Ent (D : DD) (ct : CT) (E : Env) (w : World) : Prop := ∃ esC cC, MapAt E w D.bC esC cC (kvT ct)
theorem walk_same {w w' : World} {b r clock : Nat} {es : Array MapEntry} {seen : Array Nat} (h : WalkAt w b r es clock seen) (hb : w'.heap[b]? = w.heap[b]?) (hr : w'.heap[r]? = w.heap[r]?) : WalkAt w' b r es clock seen := by
  obtain ⟨since, c0, h1, h2, h3, h4, h5⟩ := h
  exact ⟨since, c0, hb.trans h1, hr.trans h2, h3, h4, h5⟩
theorem AtW.step {D : DD} {seen : Array Nat} {E E' : Env} {O O' : List GObj} {w w' : World} (h : AtW D seen E O w) (h' : HSim E' O' w') (k : Keep E O w E' O' w') : AtW D seen E' O' w' :=
  ⟨h', h.keep.trans k, walk_same h.walk (h.hb.keep k).2 (h.hr.keep k).2, (h.hb.keep k).1, (h.hr.keep k).1, (h.hC.keep k).1, k.ext.loc _ _ h.loc⟩
theorem Ent.step {D : DD} {ct : CT} {seen : Array Nat} {E E' : Env} {O O' : List GObj} {w w' : World} (h : Ent D ct E w) (hA : AtW D seen E O w) (k : Keep E O w E' O' w') : Ent D ct E' w' := by
  obtain ⟨esC, cC, hm⟩ := h
  exact ⟨esC, cC, hm.ext k.ext (hA.hC.keep k).2⟩
theorem AtW.poke {D : DD} (hD : DOK D) {seen : Array Nat} {E : Env} {O : List GObj} {w w' : World} (h : AtW D seen E O w) (g : w.grownBy w' (some D.bC)) : AtW D seen E O w' :=
  ⟨h.sim.grown g (fun r e => by cases e; exact ⟨h.hC.obj, h.hC.snap⟩), h.keep.grown g (fun r e => by cases e; exact hD.h0),
   walk_same h.walk (g.block _ h.hb.lt (fun e => hD.nb (Option.some.inj e).symm)) (g.block _ h.hr.lt (fun e => hD.nr (Option.some.inj e).symm)), h.hb.grown g, h.hr.grown g, h.hC.grown g, h.loc⟩
theorem obs_stamp (st s stC stb : Nat) (ct : CT) (K : Nat → Prop) : stamp (obs st s stC stb ct) K = ∀ st, K st := rfl
theorem obs_tick (st s stC stb : Nat) (ct : CT) : tickO (obs st s stC stb ct) = obs st s stC stb ct := rfl
theorem dR8 {all : Array Oper} {QQ : Exit → Act → World → Prop} (D : DD) (hD : DOK D) {ct : CT} {seen : Array Nat} {E : Env} {a : Act} {w : World} (hA : AtW D seen E (D.o ct) w) (hE : Ent D ct E w) {p0 p1 x15 x21 x22 x23 : GVal} {h p : Hs}
    (ha : SlotsR E a (dS p0 p1 (.ptr 3 D.stb 0 0) (.ref (bytesG h.1)) .any (.ref (bytesG p.1)) x15 x21 x22 x23)) (hlen : ∀ q ∈ ct, q.1.2.length ≤ 1000000) {o1 o2 o3 o4 o5 o6 o7 o8 o9 : Oper}
    (hA4 : [o1, o2, o3, o4].map (fun o => (⟨o.dst, o.op, none⟩ : SOp)) = [(.mk (some 27) (.load 64 (.tmp 5)) none), (.mk (some 28) (.load 40 (.tmp 9)) none), (.mk (some 30) (.load 40 (.tmp 6)) none), (.mk (some 31) (.buildSlice 31 1 #[(0, (.tmp 30))]) none)])
    (gA4 : [o1, o2, o3, o4].all (fun o => o.guard.isNone) = true)
    (h5 : o5.op = .mapEntry 64 (.tmp 27) (.tmp 28)) (g5 : o5.guard = none) (d5 : o5.dst = some 32)
    (hB3 : [o6, o7, o8].map (fun o => (⟨o.dst, o.op, none⟩ : SOp)) = [(.mk (some 29) (.extract (.tmp 32) 0) none), (.mk (some 33) (.call (.mk (.builtin (.append)) #[(.tmp 29), (.tmp 31)] #[31, 31])) none), (.mk (some 34) (.extract (.tmp 32) 1) none)])
    (gB3 : [o6, o7, o8].all (fun o => o.guard.isNone) = true)
    (h9 : o9.op = .entryStore 64 (.tmp 27) (.tmp 34) (.tmp 33)) (g9 : o9.guard = none) (d9 : o9.dst = none)
    (hq : ∀ ct' E' a' w', ctM ct' = kidPut (ctM ct) p h → AtW D seen E' (D.o ct') w' → Ent D ct' E' w' → SlotsR E' a' (dS p0 p1 (.ptr 3 D.stb 0 0) (.ref (bytesG h.1)) .any .any x15 x21 x22 x23) → QQ .normal a' w') :
    wpList Tryz.prog all QQ [o1, o2, o3, o4, o5, o6, o7, o8, o9] a w := by
  refine ops_seg (st := ⟨_, D.o ct⟩) 4 hA4 gA4 hA.sim ha (dR8a p0 p1 x15 x21 x22 x23 h p D.stb D.stC _ _ _ _) ?_
  rintro ⟨s1, O1⟩ E1 a1 w1 q1 k1 s1R ⟨e1, hw1⟩
  change O1 = D.o ct at e1
  subst e1
  have s1 := s1R.weak hw1
  have hA1 := hA.step q1 k1
  obtain ⟨esC, cC, hm1⟩ := hE.step hA k1
  have v27 : a1.eval (.tmp 27) = .map (some D.bC) := map_val (SlotsR.ev (st := ⟨_, []⟩) s1 (.tmp 27)) hA1.loc hD.hl
  have v28 : VR E1 (a1.eval (.tmp 28)) (.agg (bytesG p.1)) := SlotsR.ev (st := ⟨_, []⟩) s1 (.tmp 28)
  have hkt : keyT Tryz.prog 64 = some (hkT, 31) := by kernel_rfl
  have hz : zeroG Tryz.prog 31 = some (.slice [] .nil) := by kernel_rfl
  have hko : keyOk hkT (.agg (bytesG p.1)) := by simp [keyOk, keyCells, len32]
  obtain ⟨rv0, stN, es1, clock1, w2, hrun, hg2, hb2, hv0, hstore⟩ := mapEntry_hid hkt hz hko v28 hm1 (kfind_T ct p)
  show wpList _ _ _ (o5 :: [o6, o7, o8, o9]) a1 w1
  refine mapEntry_step g5 h5 (by rw [v27]; exact hrun) ?_
  have hA2 := hA1.poke hD hg2
  rw [d5]
  have fin : ∀ (ct' : CT) (oldg newg : GVal) (O3 : List GObj), VR E1 rv0 oldg → putAt (kvT ct) (.agg (bytesG p.1)) newg (idxM (ctM ct) p) = kvT ct' → ctM ct' = kidPut (ctM ct) p h → O3 = D.o ct' →
      ∀ (st3 : GSt) E3 a3 w3, HSim E3 st3.o w3 → Keep E1 (D.o ct) w2 E3 st3.o w3 → SlotsR E3 a3 st3.s → NW ((((dS p0 p1 (.ptr 3 D.stb 0 0) (.ref (bytesG h.1)) .any .any x15 x21 x22 x23).set 27 (.map 2 D.stC)).set 33 newg).set 34 (.int .i64 stN)) O3 st3 →
      wpList Tryz.prog all QQ [o9] a3 w3 := by
    rintro ct' oldg newg O3 ho hput hct rfl ⟨s3, O3⟩ E3 a3 w3 q3 k3 s3R ⟨e3, hw3⟩
    change O3 = D.o ct' at e3
    subst e3
    have s3 := s3R.weak hw3
    have hA3 := hA2.step q3 k3
    have v27' : a3.eval (.tmp 27) = .map (some D.bC) := map_val (SlotsR.ev (st := ⟨_, []⟩) s3 (.tmp 27)) hA3.loc hD.hl
    have v33 : VR E3 (a3.eval (.tmp 33)) newg := SlotsR.ev (st := ⟨_, []⟩) s3 (.tmp 33)
    have v34 : a3.eval (.tmp 34) = goInt stN := by
      have : VR E3 (a3.eval (.tmp 34)) (.int .i64 stN) := SlotsR.ev (st := ⟨_, []⟩) s3 (.tmp 34)
      generalize a3.eval (.tmp 34) = v at this
      cases this; rfl
    obtain ⟨w4, es4, c4, hrun4, hg4, hm4⟩ := hstore E3 w3 (a3.eval (.tmp 33)) newg k3.ext (((hA2.hC.keep k3).2).trans hb2) v33
    refine entryStore_step g9 h9 (by rw [v27', v34]; exact hrun4) (wpList_nil ?_)
    rw [hput] at hm4
    refine hq ct' E3 _ w4 hct (hA3.poke hD hg4) ⟨es4, c4, hm4⟩ ?_
    rw [d9]
    exact s3.weak (by simp [WL, leG_self, leG_any])
  have s2 : ∀ oldg, VR E1 rv0 oldg → SlotsR E1 (a1.put (some 32) (.tuple #[rv0, goInt stN])) ((((dS p0 p1 (.ptr 3 D.stb 0 0) (.ref (bytesG h.1)) .any .any x15 x21 x22 x23).set 27 (.map 2 D.stC)).set 31 (.slice [bytesG h.1] .full)).set 32 (.tuple [oldg, .int .i64 stN])) := fun oldg ho => by
    have hvt : VR E1 (.tuple #[rv0, goInt stN]) (.tuple [oldg, .int .i64 stN]) := .tuple _ _ rfl (fun j g hj => by
      match j with
      | 0 => cases hj; exact ho
      | 1 => cases hj; exact .int _ _
      | j + 2 => simp at hj)
    exact (SlotsR.put (st := ⟨_, []⟩) s1 (.refl E1) (d := some 32) hvt []).weak (by simp [GSt.put, WL, leG_self, leG_any])
  show wpList _ _ _ (o6 :: o7 :: o8 :: [o9]) _ _
  cases hlk : look (ctM ct) p with
  | none =>
    obtain ⟨i1, i2⟩ := idx_no _ _ hlk
    rw [i1] at hv0
    refine ops_seg (st := ⟨((((dS p0 p1 (.ptr 3 D.stb 0 0) (.ref (bytesG h.1)) .any .any x15 x21 x22 x23).set 27 (.map 2 D.stC)).set 31 (.slice [bytesG h.1] .full)).set 32 (.tuple [.slice [] .nil, .int .i64 stN])), D.o ct⟩) 3 hB3 gB3 hA2.sim (s2 (.slice [] .nil) hv0) (dR8n p0 p1 _ _ x15 x21 x22 x23 _ h stN (D.o ct) (obs_stamp _ _ _ _ _) (obs_tick _ _ _ _ _)) ?_
    rintro st3 E3 a3 w3 q3 k3 s3R ⟨v, hN⟩
    refine fin (ct ++ [((p, [h]), v)]) _ (.slice (hsG [h]) (.tok (D.o ct).length v)) _ hv0 ?_ ?_ rfl st3 E3 a3 w3 q3 k3 s3R ?_
    · rw [i1, obs_len]
      exact kvT_app ct ((p, [h]), v)
    · rw [kidPut, hlk, ← i2]
      simp [ctM]
    · have := obs_app D.st D.s D.stC D.stb ct ((p, [h]), v)
      show NW _ (obs D.st D.s D.stC D.stb _) st3
      rw [← this]
      exact hN
  | some l =>
    obtain ⟨i, i1, i2, i3⟩ := idx_at _ _ _ hlk
    obtain ⟨q, hqi, eq⟩ : ∃ q, ct[i]? = some q ∧ q.1 = (p, l) := by
      rw [ctM, List.getElem?_map] at i2
      cases hc : ct[i]? with
      | none => rw [hc] at i2; cases i2
      | some q => rw [hc] at i2; exact ⟨q, rfl, by simpa using i2⟩
    obtain ⟨q1', t⟩ := q
    change q1' = (p, l) at eq
    subst eq
    have hv : VR E1 rv0 (.slice (hsG l) (.tok (i + 4) t)) := by
      rw [i1] at hv0
      simpa [oldAt, kvT_at, hqi] using hv0
    refine ops_seg (st := ⟨((((dS p0 p1 (.ptr 3 D.stb 0 0) (.ref (bytesG h.1)) .any .any x15 x21 x22 x23).set 27 (.map 2 D.stC)).set 31 (.slice [bytesG h.1] .full)).set 32 (.tuple [.slice (hsG l) (.tok (i + 4) t), .int .i64 stN])), D.o ct⟩) 3 hB3 gB3 hA2.sim (s2 _ hv) (dR8s p0 p1 _ _ x15 x21 x22 x23 _ h l (hlen _ (List.mem_of_getElem? hqi)) stN (i + 4) t (D.o ct) (by rw [obs_at, hqi]; rfl) (obs_stamp _ _ _ _ _) (obs_tick _ _ _ _ _)) ?_
    rintro st3 E3 a3 w3 q3 k3 s3R ⟨v, hN⟩
    refine fin (ct.set i ((p, l ++ [h]), v)) _ (.slice (hsG (l ++ [h])) (.tok (i + 4) v)) _ hv ?_ ?_ rfl st3 E3 a3 w3 q3 k3 s3R ?_
    · rw [i1]
      exact kvT_set ct i ((p, l ++ [h]), v)
    · rw [kidPut, hlk, Option.getD_some, ← i3]
      simp [ctM, List.map_set]
    · have := obs_set D.st D.s D.stC D.stb ct i ((p, l ++ [h]), v)
      show NW _ (obs D.st D.s D.stC D.stb _) st3
      rw [← this]
      exact hN
end Gv.Tryz
/- graph.Descendants: its two loops. -/
set_option linter.unusedVariables false
set_option linter.unusedSimpArgs false
set_option maxRecDepth 20000
set_option maxHeartbeats 4000000
namespace Gv.Tryz
open Go Gv Go.Proofs
theorem frzL_hs (O : List GObj) (n : Nat) (h : Hs) : frzL (Gv.frz O (n + 1)) (bytesG h.1) = some (bytesG h.1) := by
  have := frz_hs O n [h]
  simp only [hsG, List.map_cons, List.map_nil, frzLL] at this
  cases e : frzL (Gv.frz O (n + 1)) (bytesG h.1) with
  | none => rw [e] at this; cases this
  | some x => rw [e] at this; simpa using this
def Kb (N : Nat) (ch : GM) : Prop := ∀ q ∈ ch, q.2.length ≤ N
theorem look_memG : ∀ {m : GM} {h : Hs} {l : List Hs}, look m h = some l → (h, l) ∈ m
  | [], h, l, e => by cases e
  | p :: r, h, l, e => by
    rw [look] at e
    by_cases hp : h = p.1
    · rw [if_pos hp] at e; cases e; rw [hp]; simp
    · rw [if_neg hp] at e; exact List.mem_cons_of_mem _ (look_memG e)
theorem mem_mset {m : GM} {h : Hs} {v : List Hs} {q : Hs × List Hs} (hq : q ∈ mset m h v) : q ∈ m ∨ q = (h, v) := by
  induction m with
  | nil => rw [mset] at hq; exact .inr (by simpa using hq)
  | cons p r ih =>
    rw [mset] at hq
    split at hq
    · rcases List.mem_cons.1 hq with e | e
      · exact .inr e
      · exact .inl (List.mem_cons_of_mem _ e)
    · rcases List.mem_cons.1 hq with e | e
      · exact .inl (by rw [e]; simp)
      · rcases ih e with e | e
        · exact .inl (List.mem_cons_of_mem _ e)
        · exact .inr e
theorem Kb.put {N : Nat} {ch : GM} (h : Kb N ch) (p x : Hs) : Kb (N + 1) (kidPut ch p x) := by
  intro q hq
  rcases mem_mset hq with e | e
  · have := h q e; omega
  · rw [e]
    show ((look ch p).getD [] ++ [x]).length ≤ N + 1
    rw [List.length_append, List.length_singleton]
    cases hl : look ch p with
    | none => simp
    | some l => have := h _ (look_memG hl); simp at this ⊢; omega
theorem kidRow_snoc (ch : GM) (h : Hs) (a : List Hs) (p : Hs) : kidRow ch h (a ++ [p]) = kidPut (kidRow ch h a) p h := by simp [kidRow]
theorem Kb.row {N : Nat} {ch : GM} (h : Kb N ch) (x : Hs) : ∀ ps : List Hs, Kb (N + ps.length) (kidRow ch x ps) := by
  intro ps
  induction ps generalizing N ch with
  | nil => exact h
  | cons p r ih =>
    have := ih (h.put p x)
    rw [List.length_cons, show N + (r.length + 1) = N + 1 + r.length by omega]
    exact this
theorem kidAll_snoc (a : GM) (q : Hs × List Hs) : kidAll (a ++ [q]) = kidRow (kidAll a) q.1 q.2 := by simp [kidAll]
theorem Kb.foldl : ∀ (pre ch : GM) (N : Nat), Kb N ch → (∀ q ∈ pre, q.2.length ≤ 4) → Kb (N + 4 * pre.length) (pre.foldl (fun c q => kidRow c q.1 q.2) ch)
  | [], ch, N, h, _ => h
  | q :: r, ch, N, h, hq => by
    have h1 := h.row q.1 q.2
    have h2 := hq q (by simp)
    have := Kb.foldl r _ (N + 4) (fun x hx => by have := h1 x hx; omega) (fun y hy => hq y (by simp [hy]))
    rw [List.length_cons, show N + 4 * (r.length + 1) = N + 4 + 4 * r.length by omega]
    exact this
theorem Kb.all (pre : GM) (h : ∀ q ∈ pre, q.2.length ≤ 4) : Kb (4 * pre.length) (kidAll pre) := by
  have := Kb.foldl pre [] 0 (fun q hq => by cases hq) h
  rw [Nat.zero_add] at this
  exact this
abbrev l8a : List SOp := [(.mk (some 27) (.load 64 (.tmp 5)) none), (.mk (some 28) (.load 40 (.tmp 9)) none), (.mk (some 30) (.load 40 (.tmp 6)) none), (.mk (some 31) (.buildSlice 31 1 #[(0, (.tmp 30))]) none)]
abbrev l8b : List SOp := [(.mk (some 29) (.extract (.tmp 32) 0) none), (.mk (some 33) (.call (.mk (.builtin (.append)) #[(.tmp 29), (.tmp 31)] #[31, 31])) none), (.mk (some 34) (.extract (.tmp 32) 1) none)]
structure R8 (o1 o2 o3 o4 o5 o6 o7 o8 o9 : Oper) : Prop where
  a4 : [o1, o2, o3, o4].map (fun o => (⟨o.dst, o.op, none⟩ : SOp)) = l8a
  ga : [o1, o2, o3, o4].all (fun o => o.guard.isNone) = true
  h5 : o5.op = .mapEntry 64 (.tmp 27) (.tmp 28) ∧ o5.guard = none ∧ o5.dst = some 32
  b3 : [o6, o7, o8].map (fun o => (⟨o.dst, o.op, none⟩ : SOp)) = l8b
  gb : [o6, o7, o8].all (fun o => o.guard.isNone) = true
  h9 : o9.op = .entryStore 64 (.tmp 27) (.tmp 34) (.tmp 33) ∧ o9.guard = none ∧ o9.dst = none
abbrev C0 : Cfg := ⟨[], []⟩
theorem dInner {Q : Exit → Act → World → Prop} (D : DD) (hD : DOK D) {c6 c7 c9 : Code} {id8 : Nat} {o1 o2 o3 o4 o5 o6 o7 o8 o9 : Oper} (s6 : slim C0 c6 = some s24_6) (k6 : codeOk C0 c6 = true) (s7 : slim C0 c7 = some s24_7) (k7 : codeOk C0 c7 = true)
    (s9 : slim C0 c9 = some s24_9) (k9 : codeOk C0 c9 = true) (r8 : R8 o1 o2 o3 o4 o5 o6 o7 o8 o9)
    {ct0 : CT} {seen : Array Nat} {E : Env} {a : Act} {w : World} (hA : AtW D seen E (D.o ct0) w) (hE : Ent D ct0 E w) {p0 p1 x15 : GVal} {h : Hs} {ps : List Hs} {N : Nat} (hKb : Kb N (ctM ct0)) (hN : N + ps.length ≤ 1000000)
    (ha : SlotsR E a (dS p0 p1 (.ptr 3 D.stb 0 0) (.ref (bytesG h.1)) .any .any x15 (.slice (hsG ps) .none) (.int .i64 ps.length) (.int .i64 0)))
    (hq : ∀ ct' E' a' w', ctM ct' = kidRow (ctM ct0) h ps → AtW D seen E' (D.o ct') w' → Ent D ct' E' w' → SlotsR E' a' (dS p0 p1 (.ptr 3 D.stb 0 0) .any .any .any x15 .any .any .any) → Q (.exit 2) a' w') :
    (Code.loop (c6.seq ((Code.cond (.tmp 24) .skip (.exit 2)).seq ((Code.block 3 (c7.seq (Code.region id8 #[o1, o2, o3, o4, o5, o6, o7, o8, o9] false))).seq c9)))).wp Tryz.prog Q a w := by
  refine wp_loop_ghost (fun n a w => ∃ ct k E, k ≤ ps.length ∧ ps.length - k = n ∧ ctM ct = kidRow (ctM ct0) h (ps.take k) ∧ AtW D seen E (D.o ct) w ∧ Ent D ct E w ∧ SlotsR E a (dS p0 p1 (.ptr 3 D.stb 0 0) (.ref (bytesG h.1)) .any .any x15 (.slice (hsG ps) .none) (.int .i64 ps.length) (.int .i64 k))) ps.length ⟨ct0, 0, E, Nat.zero_le _, rfl, rfl, hA, hE, ha⟩ ?_
  rintro n a1 w1 ⟨ct, k, E1, hk, rfl, hct, hA1, hE1, s1⟩
  refine wp_seq (wp_part (st := ⟨_, D.o ct⟩) mixS s6 k6 hA1.sim s1 (dR6 p0 p1 _ _ x15 _ k ps.length (D.o ct)) ?_)
  rintro ⟨t2, O2⟩ E2 a2 w2 q2 k2 s2R ⟨e2, hw2⟩
  change O2 = D.o ct at e2
  subst e2
  have s2 := s2R.weak hw2
  have hA2 := hA1.step q2 k2
  have hE2 := hE1.step hA1 k2
  have hc : a2.eval (.tmp 24) = .bool (decide (k < ps.length)) := by
    have : VR E2 (a2.eval (.tmp 24)) (.bool (decide (k < ps.length))) := SlotsR.ev (st := ⟨_, []⟩) s2 (.tmp 24)
    generalize a2.eval (.tmp 24) = v at this
    cases this; rfl
  show (Code.seq _ _).wp _ _ _ _
  refine wp_seq (wp_cond_split hc (fun ht => wp_skip ?_) (fun hf => wp_exit ?_))
  · have hlt : k < ps.length := of_decide_eq_true ht
    obtain ⟨p, hp⟩ : ∃ p, ps.getD k h0 = p := ⟨_, rfl⟩
    show (Code.seq _ _).wp _ _ _ _
    refine wp_seq (wp_block (wp_seq (wp_part (st := ⟨dS p0 p1 (.ptr 3 D.stb 0 0) (.ref (bytesG h.1)) .any .any x15 (.slice (hsG ps) .none) (.int .i64 ps.length) (.int .i64 k), D.o ct⟩) mixS s7 k7 hA2.sim (s2.weak (by simp [WL, leG_self, leG_any])) (dR7 p0 p1 _ _ x15 _ ps k hlt p hp (D.o ct) (obs_stamp _ _ _ _ _) (obs_tick _ _ _ _ _)) ?_)))
    rintro ⟨t3, O3⟩ E3 a3 w3 q3 k3 s3R ⟨v, e3, hw3⟩
    change O3 = D.o ct ++ [.row v 32 [bytesG p.1]] at e3
    subst e3
    have s3 := s3R.weak hw3
    obtain ⟨m1, m2, m3⟩ := q3.meltBox s3 9 1 rfl (by rw [len32]) (frzL_hs _ 0 p) (by intro e; have := len32 p; rw [e] at this; cases this)
    have kk := k3.trans m2
    have hA3 := hA2.step m1 kk
    have hE3 := hE2.step hA2 kk
    refine wp_region_lit (dR8 D hD hA3 hE3 (p0 := p0) (p1 := p1) (x15 := x15) (x21 := .slice (hsG ps) .none) (x22 := .int .i64 ps.length) (x23 := .int .i64 k) (h := h) (p := p) (m3.weak (by simp [WL, leG_self])) ?_ r8.a4 r8.ga r8.h5.1 r8.h5.2.1 r8.h5.2.2 r8.b3 r8.gb r8.h9.1 r8.h9.2.1 r8.h9.2.2 ?_)
    · intro q hq
      have hb := hKb.row h (ps.take k)
      rw [← hct] at hb
      have h1 := hb q.1 (List.mem_map_of_mem hq)
      rw [List.length_take] at h1
      omega
    · intro ct' E4 a4 w4 hct' hA4 hE4 s4
      refine wp_part (st := ⟨_, D.o ct'⟩) mixS s9 k9 hA4.sim s4 (dR9 p0 p1 _ _ x15 _ _ k (by omega) (D.o ct')) ?_
      rintro ⟨t5, O5⟩ E5 a5 w5 q5 k5 s5R ⟨e5, hw5⟩
      change O5 = D.o ct' at e5
      subst e5
      refine ⟨ps.length - (k + 1), by omega, ct', k + 1, E5, hlt, rfl, ?_, hA4.step q5 k5, hE4.step hA4 k5, s5R.weak hw5⟩
      rw [hct', hct, takeH hlt, hp, kidRow_snoc]
  · have hnl : ¬ k < ps.length := of_decide_eq_false hf
    have : k = ps.length := by omega
    subst this
    rw [List.take_length] at hct
    exact hq ct E2 a2 w2 hct hA2 hE2 (s2.weak (by simp [WL, leG_self, leG_any]))
end Gv.Tryz
/- graph.Descendants: its outer loop. -/
set_option linter.unusedVariables false
set_option linter.unusedSimpArgs false
set_option maxRecDepth 20000
set_option maxHeartbeats 4000000
namespace Gv.Tryz
open Go Gv Go.Proofs
theorem AtW.pokeR {D : DD} (hD : DOK D) {seen seen' : Array Nat} {E : Env} {O : List GObj} {w w' : World} (h : AtW D seen E O w) (g : w.grownBy w' (some D.r)) (hw : WalkAt w' D.b D.r D.es D.clock seen') : AtW D seen' E O w' :=
  ⟨h.sim.grown g (fun r e => by cases e; exact ⟨h.hr.obj, h.hr.snap⟩), h.keep.grown g (fun r e => by cases e; exact hD.hr0), hw, h.hb.grown g, h.hr.grown g, h.hC.grown g, h.loc⟩
theorem inBlock_self {id : Nat} {Q : Exit → Act → World → Prop} {a : Act} {w : World} (h : Q .normal a w) : Exit.inBlock id Q (.exit id) a w := by simp only [Exit.inBlock, if_true]; exact h
abbrev l4 : List SOp := [(.mk (some 19) (.extract (.tmp 18) 0) none), (.mk (some 20) (.extract (.tmp 18) 1) none), (.mk (some 6) (.alloc 40) none), (.mk none (.store 40 (.tmp 6) (.tmp 19)) none), (.mk (some 7) (.assign (.tmp 20)) none)]
theorem dOuter {Q : Exit → Act → World → Prop} (D : DD) (hD : DOK D) (hm : GMOK D.m) (f : MapEntry → Hs × List Hs) (hf : D.es.toList.map f = D.m) (hfe : ∀ e ∈ D.es.toList, EntryOK D.E0 e (.agg (bytesG (f e).1.1), encL (f e).2))
    {c5 c6 c7 c9 : Code} {id3 id4 id8 : Nat} {n1 n2 e1 e2 e3 e4 e5 e6 o1 o2 o3 o4 o5 o6 o7 o8 o9 : Oper}
    (hn1 : n1.op = .next (.tmp 15) false ∧ n1.guard = none ∧ n1.dst = some 16) (hn2 : [n2].map (fun o => (⟨o.dst, o.op, none⟩ : SOp)) = [(.mk (some 17) (.extract (.tmp 16) 0) none)]) (gn2 : [n2].all (fun o => o.guard.isNone) = true)
    (he1 : e1.op = .entry (.tmp 15) ∧ e1.guard = none ∧ e1.dst = some 18) (he2 : [e2, e3, e4, e5, e6].map (fun o => (⟨o.dst, o.op, none⟩ : SOp)) = l4) (ge2 : [e2, e3, e4, e5, e6].all (fun o => o.guard.isNone) = true)
    (s5 : slim C0 c5 = some s24_5) (k5 : codeOk C0 c5 = true) (s6 : slim C0 c6 = some s24_6) (k6 : codeOk C0 c6 = true) (s7 : slim C0 c7 = some s24_7) (k7 : codeOk C0 c7 = true)
    (s9 : slim C0 c9 = some s24_9) (k9 : codeOk C0 c9 = true) (r8 : R8 o1 o2 o3 o4 o5 o6 o7 o8 o9)
    {E : Env} {a : Act} {w : World} (hA : AtW D #[] E (D.o []) w) (hE : Ent D [] E w) {p0 p1 : GVal}
    (ha : SlotsR E a (dS p0 p1 (.ptr 3 D.stb 0 0) .any .any .any (.lit (.pointer (some ⟨D.r, 0, none⟩))) .any .any .any))
    (hq : ∀ ct' pre seen E' a' w', pre.Perm D.m → ctM ct' = kidAll pre → AtW D seen E' (D.o ct') w' → Ent D ct' E' w' → SlotsR E' a' (dS p0 p1 (.ptr 3 D.stb 0 0) .any .any .any .any .any .any .any) → Q (.exit 0) a' w') :
    (Code.loop ((Code.region id3 #[n1, n2] false).seq ((Code.cond (.tmp 17) .skip (.exit 0)).seq (Code.block 1 ((Code.region id4 #[e1, e2, e3, e4, e5, e6] false).seq (c5.seq (Code.block 2
      (Code.loop (c6.seq ((Code.cond (.tmp 24) .skip (.exit 2)).seq ((Code.block 3 (c7.seq (Code.region id8 #[o1, o2, o3, o4, o5, o6, o7, o8, o9] false))).seq c9))))))))))).wp Tryz.prog Q a w := by
  obtain ⟨x15, e15⟩ : ∃ x : GVal, .lit (.pointer (some ⟨D.r, 0, none⟩)) = x := ⟨_, rfl⟩
  have lit15 : ∀ {E : Env} {a : Act} {S : List GVal}, SlotsR E a S → S.getD 15 .any = x15 → a.eval (.tmp 15) = .pointer (some ⟨D.r, 0, none⟩) := by
    intro E a S h hx
    have := SlotsR.ev (st := ⟨S, []⟩) h (.tmp 15)
    change VR E _ (S.getD 15 .any) at this
    rw [hx, ← e15] at this
    generalize a.eval (.tmp 15) = v at this
    cases this; rfl
  rw [e15] at ha
  refine wp_loop_ghost (fun n a w => ∃ ct seen xs E, Came D.es seen xs ∧ w.rangeLeft D.b D.r = n ∧ ctM ct = kidAll (xs.map f) ∧ AtW D seen E (D.o ct) w ∧ Ent D ct E w ∧ SlotsR E a (dS p0 p1 (.ptr 3 D.stb 0 0) .any .any .any x15 .any .any .any)) _ ⟨[], #[], [], E, Came.nil _, rfl, rfl, hA, hE, ha⟩ ?_
  rintro n a1 w1 ⟨ct, seen, xs, E1, hC, rfl, hct, hA1, hE1, s1⟩
  refine wp_seq (wp_region_lit (next_step hn1.2.1 hn1.1 hD.born hC (lit15 s1 rfl) hA1.walk ?_ ?_))
  · -- nothing is left
    intro hp
    rw [hn1.2.2]
    have hvt : VR E1 (.tuple #[.bool false]) (.tuple [.bool false]) := .tuple _ _ rfl (fun j g hj => by
      match j with
      | 0 => cases hj; exact .bool _
      | j + 1 => simp at hj)
    have s2 := (SlotsR.put (st := ⟨_, []⟩) s1 (.refl E1) (d := some 16) hvt [])
    refine ops_seg (st := ⟨(dS p0 p1 (.ptr 3 D.stb 0 0) .any .any .any x15 .any .any .any).set 16 (.tuple [.bool false]), D.o ct⟩) 1 hn2 gn2 hA1.sim s2 (dR3' p0 p1 _ x15 false (D.o ct)) ?_
    rintro ⟨t2, O2⟩ E2 a2 w2 q2 k2 s2R ⟨e2, hw2⟩
    change O2 = D.o ct at e2
    subst e2
    have s3 := s2R.weak hw2
    have hc : a2.eval (.tmp 17) = .bool false := by
      have : VR E2 (a2.eval (.tmp 17)) (.bool false) := SlotsR.ev (st := ⟨_, []⟩) s3 (.tmp 17)
      generalize a2.eval (.tmp 17) = v at this
      cases this; rfl
    refine wpList_nil ?_
    show (Code.seq _ _).wp _ _ _ _
    refine wp_seq (wp_cond_split hc (fun ht => by cases ht) (fun _ => wp_exit ?_))
    refine hq ct (xs.map f) seen E2 a2 w2 ?_ hct (hA1.step q2 k2) (hE1.step hA1 k2) (s3.weak (by simp [WL, leG_self, leG_any]))
    rw [← hf]
    exact hp.map f
  · intro e w' hem hC2 hlt hwk hmu hg hent
    rw [hn1.2.2]
    have hA' := hA1.pokeR hD hg hwk
    have hE' : Ent D ct E1 w' := by
      obtain ⟨esC, cC, hmC⟩ := hE1
      exact ⟨esC, cC, hmC.ext (.refl _) (hg.block _ hA1.hC.lt (fun e => hD.nr (Option.some.inj e)))⟩
    have hvt : VR E1 (.tuple #[.bool true, e.key, e.val]) (.tuple [.bool true, .any, .any]) := .tuple _ _ rfl (fun j g hj => by
      match j with
      | 0 => cases hj; exact .bool _
      | 1 => cases hj; exact .any _
      | 2 => cases hj; exact .any _
      | j + 3 => simp at hj)
    have s2 := (SlotsR.put (st := ⟨_, []⟩) s1 (.refl E1) (d := some 16) hvt [])
    refine ops_seg (st := ⟨(dS p0 p1 (.ptr 3 D.stb 0 0) .any .any .any x15 .any .any .any).set 16 (.tuple [.bool true, .any, .any]), D.o ct⟩) 1 hn2 gn2 hA'.sim s2 (dR3 p0 p1 _ x15 true .any .any (D.o ct)) ?_
    rintro ⟨t2, O2⟩ E2 a2 w2 q2 k2 s2R ⟨e2', hw2⟩
    change O2 = D.o ct at e2'
    subst e2'
    have s3 := s2R.weak hw2
    have hc : a2.eval (.tmp 17) = .bool true := by
      have : VR E2 (a2.eval (.tmp 17)) (.bool true) := SlotsR.ev (st := ⟨_, []⟩) s3 (.tmp 17)
      generalize a2.eval (.tmp 17) = v at this
      cases this; rfl
    have hA2 := hA'.step q2 k2
    have hE2 := hE'.step hA' k2
    have hent2 := hent w2 (hA'.hb.keep k2).2 (hA'.hr.keep k2).2
    refine wpList_nil ?_
    show (Code.seq _ _).wp _ _ _ _
    refine wp_seq (wp_cond_split hc (fun ht => wp_skip ?_) (fun hf => by cases hf))
    show (Code.block _ _).wp _ _ _ _
    refine wp_block (wp_seq (wp_region_lit (entry_step he1.2.1 he1.1 (lit15 s3 rfl) hent2 ?_)))
    rw [he1.2.2]
    obtain ⟨hv1, hv2⟩ := hfe e hem
    obtain ⟨q, eq⟩ : ∃ q, f e = q := ⟨_, rfl⟩
    have hqm : q ∈ D.m := by rw [← eq, ← hf]; exact List.mem_map_of_mem hem
    rw [eq] at hv1 hv2
    obtain ⟨h, ps⟩ := q
    have hvt2 : VR E2 (.tuple #[e.key, e.val]) (.tuple [.agg (bytesG h.1), .slice (hsG ps) .none]) := .tuple _ _ rfl (fun j g hj => by
      match j with
      | 0 => cases hj; exact hv1.mono hA2.keep.ext
      | 1 => cases hj; exact hv2.mono hA2.keep.ext
      | j + 2 => simp at hj)
    have s4 := (SlotsR.put (st := ⟨_, []⟩) s3 (.refl E2) (d := some 18) hvt2 []).weak (s' := (dS p0 p1 (.ptr 3 D.stb 0 0) .any .any .any x15 .any .any .any).set 18 (.tuple [.agg (bytesG h.1), .slice (hsG ps) .none])) (by simp [GSt.put, WL, leG_self, leG_any])
    refine ops_seg (st := ⟨(dS p0 p1 (.ptr 3 D.stb 0 0) .any .any .any x15 .any .any .any).set 18 (.tuple [.agg (bytesG h.1), .slice (hsG ps) .none]), D.o ct⟩) 5 he2 ge2 hA2.sim s4 (dR4 p0 p1 _ x15 h ps (D.o ct) (obs_stamp _ _ _ _ _) (obs_tick _ _ _ _ _)) ?_
    rintro ⟨t3, O3⟩ E3 a3 w3 q3 k3 s3R ⟨v, e3', hw3⟩
    change O3 = D.o ct ++ [.row v 32 [bytesG h.1]] at e3'
    subst e3'
    have s5' := s3R.weak hw3
    obtain ⟨m1, m2, m3⟩ := q3.meltBox s5' 6 1 rfl (by rw [len32]) (frzL_hs _ 0 h) (by intro e; have := len32 h; rw [e] at this; cases this)
    have kk := k3.trans m2
    have hA3 := hA2.step m1 kk
    have hE3 := hE2.step hA2 kk
    refine wpList_nil ?_
    show (Code.seq _ _).wp _ _ _ _
    refine wp_seq (wp_part (st := ⟨dS p0 p1 (.ptr 3 D.stb 0 0) (.ref (bytesG h.1)) (.slice (hsG ps) .none) .any x15 .any .any .any, D.o ct⟩) mixS s5 k5 hA3.sim (m3.weak (by simp [WL, leG_self])) (dR5 p0 p1 _ _ x15 ps (D.o ct)) ?_)
    rintro ⟨t4, O4⟩ E4 a4 w4 q4 k4 s4R ⟨e4', hw4⟩
    change O4 = D.o ct at e4'
    subst e4'
    have hps : ps.length ≤ 4 := hm.row _ hqm
    have hle : xs.length ≤ D.m.length := by
      have : D.es.toList.length = D.m.length := by rw [← hf, List.length_map]
      have h2 : D.es.toList.length = D.es.size := Array.length_toList
      omega
    have hml := hm.len
    have hKb := Kb.all (xs.map f) (fun q hq => by
      obtain ⟨y, hy, rfl⟩ := List.mem_map.1 hq
      exact hm.row _ (by rw [← hf]; exact List.mem_map_of_mem (hC.2.2 y hy)))
    rw [← hct, List.length_map] at hKb
    show (Code.block _ _).wp _ _ _ _
    refine wp_block (dInner D hD s6 k6 s7 k7 s9 k9 r8 (hA3.step q4 k4) (hE3.step hA3 k4) hKb (by omega) (s4R.weak hw4) ?_)
    intro ct' E5 a5 w5 hct' hA5 hE5 s6'
    refine inBlock_self ?_
    refine ⟨w5.rangeLeft D.b D.r, ?_, ct', _, xs ++ [e], E5, hC2, rfl, ?_, hA5, hE5, s6'⟩
    · rw [hA5.walk.left_eq, ← hwk.left_eq]; exact hmu
    · rw [List.map_append, List.map_cons, List.map_nil, kidAll_snoc, eq, hct', hct]
end Gv.Tryz
/- graph.Descendants: the contract. -/
set_option linter.unusedVariables false
set_option linter.unusedSimpArgs false
set_option maxRecDepth 20000
set_option maxHeartbeats 4000000
namespace Gv.Tryz
open Go Gv Go.Proofs
open Nat (reduceEqDiff reduceAdd reduceSub reduceLeDiff reduceMul reduceLT)
def kidsM (m : GM) (x : Hs) : List Hs := (m.filter fun q => decide (x ∈ q.2)).map (·.1)
theorem kidsM_mem {m : GM} {x y : Hs} : y ∈ kidsM m x ↔ ∃ q ∈ m, x ∈ q.2 ∧ y = q.1 := by
  unfold kidsM
  rw [List.mem_map]
  constructor
  · rintro ⟨q, hq, rfl⟩
    obtain ⟨h1, h2⟩ := List.mem_filter.1 hq
    exact ⟨q, h1, of_decide_eq_true h2, rfl⟩
  · rintro ⟨q, h1, h2, rfl⟩
    exact ⟨q, List.mem_filter.2 ⟨h1, decide_eq_true h2⟩, rfl⟩
theorem parsM_put (ch : GM) (p h x : Hs) : parsM (kidPut ch p h) x = if x = p then parsM ch x ++ [h] else parsM ch x := by
  unfold parsM kidPut
  rw [look_mset]
  by_cases e : x = p
  · rw [if_pos e, if_pos e, e]; rfl
  · rw [if_neg e, if_neg e]
theorem parsM_row (h x y : Hs) : ∀ (ps : List Hs) (ch : GM), y ∈ parsM (kidRow ch h ps) x ↔ y ∈ parsM ch x ∨ (x ∈ ps ∧ y = h)
  | [], ch => by simp [kidRow]
  | p :: r, ch => by
    have := parsM_row h x y r (kidPut ch p h)
    rw [show kidRow ch h (p :: r) = kidRow (kidPut ch p h) h r from rfl, this, parsM_put]
    by_cases e : x = p
    · rw [if_pos e]; simp [e]; exact fun _ q => .inr q
    · rw [if_neg e]; simp [e]
theorem parsM_all (x y : Hs) : ∀ (pre ch : GM), y ∈ parsM (pre.foldl (fun c q => kidRow c q.1 q.2) ch) x ↔ y ∈ parsM ch x ∨ ∃ q ∈ pre, x ∈ q.2 ∧ y = q.1
  | [], ch => by simp
  | q :: r, ch => by
    rw [List.foldl_cons, parsM_all x y r, parsM_row]
    constructor
    · rintro ((h | h) | ⟨z, h1, h2⟩)
      · exact .inl h
      · exact .inr ⟨q, by simp, h⟩
      · exact .inr ⟨z, by simp [h1], h2⟩
    · rintro (h | ⟨z, h1, h2⟩)
      · exact .inl (.inl h)
      · rcases List.mem_cons.1 h1 with e | e
        · rw [e] at h2; exact .inl (.inr h2)
        · exact .inr ⟨z, e, h2⟩
theorem kids_of_perm {pre m : GM} (hp : pre.Perm m) (x y : Hs) : y ∈ parsM (kidAll pre) x ↔ y ∈ kidsM m x := by
  unfold kidAll
  rw [parsM_all, kidsM_mem]
  constructor
  · rintro (h | ⟨q, h1, h2⟩)
    · cases h
    · exact ⟨q, hp.mem_iff.1 h1, h2⟩
  · rintro ⟨q, h1, h2⟩
    exact .inr ⟨q, hp.mem_iff.2 h1, h2⟩
theorem reach_iff {n1 n2 : Hs → List Hs} (h : ∀ x y, y ∈ n1 x ↔ y ∈ n2 x) (l : List Hs) (z : Hs) : Reach n1 l z ↔ Reach n2 l z := by
  constructor
  · intro r
    induction r with
    | base x hx => exact .base x hx
    | step x y _ hy ih => exact .step x y ih ((h x y).1 hy)
  · intro r
    induction r with
    | base x hx => exact .base x hx
    | step x y _ hy ih => exact .step x y ih ((h x y).2 hy)
noncomputable def desL (m : GM) (l : List Hs) : List Hs := by
  classical exact sortR ((l ++ hashesM m).filter fun x => decide (Reach (kidsM m) (inM m l) x))
theorem desL_ss (m : GM) (l : List Hs) : SS (desL m l) := sortR_ss _
theorem kids_in {m : GM} {x y : Hs} (h : y ∈ kidsM m x) : y ∈ hashesM m := by
  obtain ⟨q, h1, _, rfl⟩ := kidsM_mem.1 h
  exact List.mem_append_left _ (List.mem_map_of_mem h1)
theorem desL_mem (m : GM) (l : List Hs) (x : Hs) : x ∈ desL m l ↔ Reach (kidsM m) (inM m l) x := by
  classical
  unfold desL
  rw [sortR_mem, List.mem_filter, decide_eq_true_eq]
  refine ⟨fun h => h.2, fun h => ⟨?_, h⟩⟩
  cases h with
  | base x hx => exact List.mem_append_left _ (List.mem_filter.1 hx).1
  | step x y _ hy => exact List.mem_append_right _ (kids_in hy)
theorem gDes1 (a : GObj) (M : GM) (h : Hs) (s : Nat) (l : List Hs) (el : look M h = some l) : GCalls Tryz.prog 47 [.agg (bytesG h.1), .ref [.map 1 s]] [a, .map s (kvG encL M)] (fun g O' => g = .slice (hsG l) .none ∧ O' = [a, .map s (kvG encL M)]) := by
  obtain ⟨i, hi, hv, _⟩ := look_idx encL M h l el
  refine h47.calls mixS (by simp) ?_
  simp only [gstart, s47, List.cons_append, List.nil_append, List.length_cons, List.length_nil, reduceAdd, reduceSub, List.replicate_succ, List.replicate_zero]
  simp +contextual -implicitDefEqProofs (maxSteps := 2000000) (disch := omega) only [↓loadV, ↓boxV, GVal.cells, grp, GVal.ofConst, ↓resV, resG, List.headD, List.take, reduceEqDiff, reduceAdd, reduceLeDiff, reduceCtorEq, implies_true, ↓lookupV, keyOk, keyCells, pairG, vcA, ↓vcB, vcC, fbFw, e47, kfind_h, hi, hv, v32]
theorem gDes0 (a : GObj) (M : GM) (h : Hs) (s : Nat) (el : look M h = none) : GCalls Tryz.prog 47 [.agg (bytesG h.1), .ref [.map 1 s]] [a, .map s (kvG encL M)] (fun g O' => g = .slice [] .nil ∧ O' = [a, .map s (kvG encL M)]) := by
  obtain ⟨hi, _⟩ := look_none encL M h el
  refine h47.calls mixS (by simp) ?_
  simp only [gstart, s47, List.cons_append, List.nil_append, List.length_cons, List.length_nil, reduceAdd, reduceSub, List.replicate_succ, List.replicate_zero]
  simp +contextual -implicitDefEqProofs (maxSteps := 2000000) (disch := omega) only [↓loadV, ↓boxV, GVal.cells, grp, GVal.ofConst, ↓resV, resG, List.headD, List.take, reduceEqDiff, reduceAdd, reduceLeDiff, reduceCtorEq, implies_true, ↓lookupV, keyOk, keyCells, pairG, vcA, ↓vcB, vcC, fbFw, e47, kfind_h, hi, v32]
theorem gDesN (a : GObj) (M : GM) (h : Hs) (s : Nat) : GCalls Tryz.prog 47 [.agg (bytesG h.1), .ref [.map 1 s]] [a, .map s (kvG encL M)] (fun g O' => g = .slice (hsG (parsM M h)) .none ∧ O' = [a, .map s (kvG encL M)]) := by
  cases el : look M h with
  | some l => rw [parsM_some el]; exact gDes1 a M h s l el
  | none =>
    rw [parsM_none el]
    refine GCalls.into ((gDes0 a M h s el).mono ?_)
    rintro g O' ⟨rfl, rfl⟩
    exact GInto.weak (O := [a, .map s (kvG encL M)]) (X := []) (by rw [leG_none]; rfl) (.here ⟨rfl, rfl⟩)
theorem dHalf (m : GM) (hm : GMOK m) (st s stC : Nat) (l : List Hs) (t : Tag) (ht : t = .nil → l = []) (hl : l.length ≤ 10000) (ch : GM) (hch : ∀ x y, y ∈ parsM ch x ↔ y ∈ kidsM m x) (hKb : Kb 40000 ch) :
    vcS Tryz.prog [] (.seq s24_15 .ret) (retQ Tryz.prog [.tmp 4] (dropTo fun g O' => g = .slice (hsG (desL m l)) .none ∧ O' = gObj st s m)) ⟨dS (.ptr 0 st 0 0) (.slice (hsG l) t) (.ref [.map 2 stC]) .any .any .any .any .any .any .any, gObj st s m ++ [.map stC (kvG encL ch)]⟩ := by
  have hfl : (inM m l).length ≤ l.length := List.length_filter_le _ _
  have cT := (gThere m st s l t ht (by omega)).keep2 rfl [.map stC (kvG encL ch)]
  have hkl : ∀ x, (parsM ch x).length ≤ 40000 := fun x => by
    cases e : look ch x with
    | some r => rw [parsM_some e]; exact hKb _ (look_memG e)
    | none => rw [parsM_none e]; simp
  have cR0 := gReached (caps := [.ref [.map 1 stC]]) (parsM ch) (fun h => gDesN (.row st 1 [[.map 1 s]]) ch h stC) rfl (inM m l) .none (by simp) (inM m l ++ hashesM m) (fun x hx => List.mem_append_left _ hx) (fun x _ y hy => List.mem_append_right _ (kids_in ((hch x y).1 hy))) 40000 (fun x _ => hkl x) (by have := hm.hashes; rw [List.length_append]; omega) (by omega) (by omega)
  have cR := GCalls.on2new (O := gObj st s m ++ [.map stC (kvG encL ch)]) (args' := [.slice (hsG (inM m l)) .none, .func (.func 47) [] [.ref [.map 2 stC]]]) (R := fun st kv => ∃ S : List Hs, kv = kvG encB (setM S) ∧ S.Nodup ∧ (∀ x, x ∈ S ↔ Reach (parsM ch) (inM m l) x) ∧ S.length ≤ (inM m l ++ hashesM m).length) (cR0.mono (by
    rintro g O' ⟨st, S, rfl, rfl, h1, h2, h3⟩
    exact ⟨st, _, rfl, rfl, S, rfl, h1, h2, h3⟩)) 0 2 (by omega) rfl rfl ⟨GLe.refl _, GLe.func _ trivial ⟨GLe.ref ⟨GLe.map _ _ _, trivial⟩, trivial⟩, trivial⟩ rfl rfl
  skip
  simp +contextual -implicitDefEqProofs (maxSteps := 2000000) (disch := omega) only [List.map, vcA, ↓vcB, vcC, e24, dS]
  refine cT.mono ?_
  rintro g O' ⟨rfl, rfl⟩
  simp +contextual -implicitDefEqProofs (maxSteps := 2000000) (disch := omega) only [List.map, vcA, ↓vcB]
  refine cR.mono ?_
  rintro g O' ⟨s2, kv, rfl, rfl, S, rfl, hS, hR, hSl⟩
  have hh := hm.hashes
  rw [List.length_append] at hSl
  have eA : sortR ((setM S).map (·.1)) = desL m l := ss_eq (sortR_ss _) (desL_ss m l) fun z => by
    rw [sortR_mem, desL_mem, ← reach_iff hch, ← hR z]; simp [setM]
  have cS := gSorted encB (setM S) (by simp [setM]; omega) s2
  rw [eA] at cS
  have cS2 : GCalls Tryz.prog 42 [.map 0 s2] [.map s2 (kvG encB (setM S))] (fun g O' => ∃ x', O' = [x'] ∧ (g = .slice (hsG (desL m l)) .none ∧ x' = .map s2 (kvG encB (setM S)))) := cS.mono (by rintro g O' ⟨rfl, rfl⟩; exact ⟨_, rfl, rfl, rfl⟩)
  have cS3 := GCalls.keep1 (args' := [.map 3 s2]) cS2 (O := gObj st s m ++ [.map stC (kvG encL ch)] ++ [.map s2 (kvG encB (setM S))]) 3 rfl rfl rfl rfl
  simp +contextual -implicitDefEqProofs (maxSteps := 2000000) (disch := omega) only [List.map, reduceAdd, vcA, ↓vcB, vcC]
  refine cS3.mono ?_
  rintro g O' ⟨rfl, rfl⟩
  simp +contextual -implicitDefEqProofs (maxSteps := 2000000) (disch := omega) only [↓resV, resG, vcA, ↓vcB, vcC]
  exact ⟨_, gObj st s m, [.map stC (kvG encL ch), .map s2 (kvG encB (setM S))], rfl, leA_refl _, rfl, rfl⟩
end Gv.Tryz
/- Contracts: the reference's Descendants. -/
set_option linter.unusedVariables false
set_option linter.unusedSimpArgs false
set_option maxRecDepth 20000
set_option maxHeartbeats 4000000
namespace Gv.Tryz
open Go Gv Go.Proofs
theorem cnt_set : ∀ (B : List Bool) (i : Nat), i < B.length → B.getD i false = false → (B.set i true).count true = B.count true + 1
  | [], i, h, _ => by simp at h
  | b :: r, 0, _, e => by
    simp at e; subst e; simp []
  | b :: r, i + 1, h, e => by
    have := cnt_set r i (by simpa using h) (by simpa using e)
    rw [List.set_cons_succ, List.count_cons, List.count_cons, this]; omega
theorem getD_set_b (B : List Bool) (i q : Nat) (b : Bool) (h : i < B.length) : (B.set i b).getD q false = if i = q then b else B.getD q false := by
  rw [List.getD_eq_getElem?_getD, List.getElem?_set]
  by_cases e : i = q
  · rw [if_pos e, if_pos e, if_pos h]; rfl
  · rw [if_neg e, if_neg e, List.getD_eq_getElem?_getD]
def CloAt (L : GM) (B : List Bool) (i : Nat) : Prop := B.getD i false = true ∨ ∀ y ∈ (L.getD i default).2, ∀ j, findO L y = some j → B.getD j false = false
theorem des_end {L : GM} (hL : SSC L) (hg : Good L) {l : List Hs} {B : List Bool} (hB : B.length = L.length) (hs : ∀ q, q < L.length → B.getD q false = true → Reach (kidsM L) (inM L l) (hdL L q)) (hb : ∀ q, q < L.length → hdL L q ∈ l → B.getD q false = true) (hc : ∀ i, i < L.length → CloAt L B i) : someL L B = desL L l := by
  have hf := fun x => find_look L x
  have hfi : ∀ x, (look L x).isSome = true → ∃ j, findO L x = some j ∧ j < L.length ∧ hdL L j = x := fun x hx => by
    cases e : findO L x with
    | none => rw [(hf x).2 e] at hx; cases hx
    | some j => exact ⟨j, rfl, ((hf x).1 j e).1, ((hf x).1 j e).2.2⟩
  have inj : ∀ a b, a < L.length → b < L.length → hdL L a = hdL L b → a = b := fun a b ha hb e => by
    rcases Nat.lt_trichotomy a b with q | q | q
    · have := ssc_lt hL q (by omega)
      rw [show (L.getD a default).1 = (L.getD b default).1 from e] at this
      exact absurd this (LT.irrefl _)
    · exact q
    · have := ssc_lt hL q (by omega)
      rw [show (L.getD b default).1 = (L.getD a default).1 from e.symm] at this
      exact absurd this (LT.irrefl _)
  refine ss_eq (someL_ss L B hL) (desL_ss L l) fun x => ?_
  rw [someL_mem L B x hB, desL_mem]
  constructor
  · rintro ⟨i, h1, h2, h3⟩
    rw [← h3]; exact hs i h1 h2
  · intro hx
    have key : ∀ z, Reach (kidsM L) (inM L l) z → ∀ j, findO L z = some j → B.getD j false = true := by
      intro z hz
      induction hz with
      | base z h =>
        intro j hj
        obtain ⟨a1, a2, a3⟩ := (hf z).1 j hj
        exact hb j a1 (by rw [show hdL L j = z from a3]; exact (List.mem_filter.1 h).1)
      | step x z _ hy ih =>
        intro j hj
        obtain ⟨a1, a2, a3⟩ := (hf z).1 j hj
        obtain ⟨q, q1, q2, rfl⟩ := kidsM_mem.1 hy
        have hlq := look_of_mem (ssc_keys hL) q1
        rw [hlq] at a2
        have eq : (L.getD j default).2 = q.2 := by injection a2 with a2; exact a2.symm
        have hx1 : (look L x).isSome = true := hg.closed q.1 x (by rw [parsM_some hlq]; exact q2)
        obtain ⟨k, k1, k2, k3⟩ := hfi x hx1
        have hk := ih k k1
        rcases hc j a1 with h | h
        · exact h
        · have := h x (by rw [eq]; exact q2) k k1
          rw [hk] at this; cases this
    have hth : (look L x).isSome = true := by
      cases hx with
      | base x hx => exact (List.mem_filter.1 hx).2
      | step _ _ _ hy =>
        obtain ⟨q, h1, _, rfl⟩ := kidsM_mem.1 hy
        exact key_look (List.mem_map_of_mem h1)
    obtain ⟨j, j1, j2, j3⟩ := hfi x hth
    exact ⟨j, j2, key x hx j j1, j3⟩
theorem rDescendants (L : GM) (hL : SSC L) (hg : Good L) (l : List Hs) (t : Tag) (hll : l.length ≤ 100000) (rt : Nat) :
    GCalls Tryz.prog 25 [.ptr 0 rt 0 0, .slice (hsG l) t] (rObj rt L) (fun g O' => g = .slice (hsG (desL L l)) .none ∧ O' = rObj rt L) := by
  have hml := hg.ok.len
  have hf := fun x => find_look L x
  have hend := fun B => @des_end L hL hg l B
  refine GCalls.dropTo ?_
  refine h25.calls mixS (by simp) ?_
  simp only [gstart, s25, List.cons_append, List.nil_append, List.length_cons, List.length_nil, Nat.reduceAdd, Nat.reduceSub, List.replicate_succ, List.replicate_zero]
  simp +contextual -implicitDefEqProofs (maxSteps := 2000000) (disch := omega) only [↓lenV, ↓loadV, ↓fieldAddrV, ↓nilV, grp, GVal.ofConst, List.headD, List.take, List.drop, Nat.reduceLeDiff, implies_true, GVal.solid, vcA, ↓vcB, vcC, fbFw, e25, csG_len, ↓op_makeSlice, ↓makeSliceV]
  refine ⟨by omega, by omega, by omega, fun sb => ?_⟩
  have eI : List.replicate L.length [GVal.bool false] = blr (List.replicate L.length false) := by simp [blr]
  rw [eI]
  obtain ⟨n, hn⟩ : ∃ n, L.length = n := ⟨_, rfl⟩
  rw [hn] at hend
  have hfi : ∀ x, (look L x).isSome = true → ∃ j, findO L x = some j ∧ j < n ∧ hdL L j = x := fun x hx => by
    cases e : findO L x with
    | none => rw [(hf x).2 e] at hx; cases hx
    | some j => exact ⟨j, rfl, by rw [← hn]; exact ((hf x).1 j e).1, ((hf x).1 j e).2.2⟩
  have hpk : ∀ k, k < n → L.getD k default ∈ L := fun k hk => by
    rw [List.getD_eq_getElem?_getD, List.getElem?_eq_getElem (by omega)]
    exact List.getElem_mem (by omega)
  have cF := fun x (X : List GObj) => GCalls.keep1' (rFind L hL (by omega) x rt) (O := rObj rt L ++ X) 0 rfl rfl rfl rfl
  have cI := fun x => hIn l t x (by omega)
  refine vcSLoop_by (ι := { p : Nat × List Bool // p.1 ≤ n ∧ p.2.length = n ∧ ∀ q, q < n → (p.2.getD q false = true ↔ q < p.1 ∧ hdL L q ∈ l) }) (fun p => ⟨[.ptr 0 rt 0 0, .slice (hsG l) t, .any, .any, .any, .own 1 sb 0 n, .int .i64 (p.1.1 : Nat)] ++ List.replicate 83 .any, rObj rt L ++ [.row sb 1 (blr p.1.2)]⟩) (fun p => n - p.1.1) ?_ ?_
  · exact Into.first ⟨(0, List.replicate n false), Nat.zero_le _, by simp, fun q hq => by rw [List.getD_eq_getElem?_getD, List.getElem?_replicate, if_pos hq]; simp⟩ ⟨[], by simp [hn]⟩ (by simp [WL, leG_self, leG_any, hn])
  · rintro ⟨⟨i, B⟩, hi, hB, hBq⟩
    change i ≤ n at hi
    have hB : B.length = n := hB
    have hBq : ∀ q, q < n → (B.getD q false = true ↔ q < i ∧ hdL L q ∈ l) := hBq
    by_cases h : i < n
    · have d0 : ((i : Int) < (n : Int)) = True := eq_true (by omega)
      have eC := csG_at L i (by omega)
      obtain ⟨xh, ps, hx⟩ : ∃ xh xp, L.getD i default = (xh, xp) := ⟨_, _, rfl⟩
      have hxh : hdL L i = xh := by show (L.getD i default).1 = xh; rw [hx]
      rw [hx] at eC
      have cIx := cI xh
      simp +contextual -implicitDefEqProofs (maxSteps := 2000000) (disch := omega) only [↓lenV, binV, ↓loadV, ↓fieldAddrV, ↓indexAddrV, ↓nilV, grp, List.map, List.headD, List.take, List.drop, Nat.reduceEqDiff, Nat.reduceLeDiff, reduceCtorEq, implies_true, List.replicate, vcA, ↓vcB, vcC, fbFw, d0, eC, csG_len, comG, take32a, len33, hn]
      refine ⟨by omega, ?_⟩
      refine cIx.then ?_ (by rfl)
      have eB := blr_at B i (by omega)
      simp +contextual -implicitDefEqProofs (maxSteps := 2000000) (disch := omega) only [binV, ↓storeV, ↓indexAddrV, GVal.cells, GVal.ofConst, List.take, List.drop, Nat.reduceLeDiff, allSolid, GVal.solid, splice, vcA, ↓vcB, vcC, fbFw, blr_len, blr_set, hB, eB]
      refine ⟨by omega, by omega, h, h, ?_⟩
      refine Into.at ⟨(i + 1, B.set i (decide (xh ∈ l))), by show i + 1 ≤ n; omega, by show (B.set i (decide (xh ∈ l))).length = n; rw [List.length_set]; exact hB, fun q hq => ?_⟩ (by show n - (i + 1) < n - i; omega) ⟨[], by simp⟩ (by simp [WL, leG_self, leG_any])
      show (B.set i (decide (xh ∈ l))).getD q false = true ↔ q < i + 1 ∧ hdL L q ∈ l
      rw [getD_set_b B i q _ (by omega)]
      by_cases e : i = q
      · subst e
        rw [if_pos rfl, hxh, decide_eq_true_eq]
        exact ⟨fun w => ⟨by omega, w⟩, fun w => w.2⟩
      · rw [if_neg e, hBq q hq]
        exact ⟨fun w => ⟨by omega, w.2⟩, fun w => ⟨by omega, w.2⟩⟩
    · have d0 : ((i : Int) < (n : Int)) = False := eq_false (by omega)
      obtain rfl : n = i := by omega
      simp +contextual -implicitDefEqProofs (maxSteps := 2000000) (disch := omega) only [↓lenV, binV, ↓loadV, ↓fieldAddrV, ↓indexAddrV, ↓nilV, grp, GVal.ofConst, List.map, List.headD, List.take, List.drop, ↓reduceIte, Nat.reduceEqDiff, Nat.reduceLeDiff, reduceCtorEq, implies_true, List.replicate, vcA, ↓vcB, vcC, fbFw, d0, csG_len, hn]
      refine vcSLoop_by (ι := { p : Bool × List Bool // p.2.length = n ∧ (∀ q, q < n → p.2.getD q false = true → Reach (kidsM L) (inM L l) (hdL L q)) ∧ (∀ q, q < n → hdL L q ∈ l → p.2.getD q false = true) ∧ (p.1 = false → ∀ k, k < n → CloAt L p.2 k) }) (fun p => ⟨[.ptr 0 rt 0 0, .slice (hsG l) t, .any, .any, .any, .own 1 sb 0 n, .any, .bool p.1.1] ++ List.replicate 82 .any, rObj rt L ++ [.row sb 1 (blr p.1.2)]⟩) (fun p => (n - p.1.2.count true) + if p.1.1 = true then 1 else 0) ?_ ?_
      · refine Into.first ⟨(true, B), hB, fun q hq hb => ?_, fun q hq hm => ?_, by simp⟩ ⟨[], by simp⟩ (by simp [WL, leG_self, leG_any])
        · exact .base _ (List.mem_filter.2 ⟨((hBq q hq).1 hb).2, by
            have := hpk q hq
            rw [show hdL L q = (L.getD q default).1 from rfl, look_of_mem (ssc_keys hL) this]; rfl⟩)
        · exact (hBq q hq).2 ⟨hq, hm⟩
      · clear hBq hB h d0 hi
        rintro ⟨⟨a, B⟩, hB, hS, hBs, hC⟩
        have hB : B.length = n := hB
        have hS : ∀ q, q < n → B.getD q false = true → Reach (kidsM L) (inM L l) (hdL L q) := hS
        have hBs : ∀ q, q < n → hdL L q ∈ l → B.getD q false = true := hBs
        have hC : a = false → ∀ k, k < n → CloAt L B k := hC
        have cS := fun (B : List Bool) (hB : B.length = n) => rSome L (by omega) B (by rw [hB, hn]) rt sb
        cases a with
        | false =>
          have cSB := cS B hB
          rw [hend B hB hS hBs (hC rfl), hn] at cSB
          simp +contextual -implicitDefEqProofs (maxSteps := 2000000) (disch := omega) only [List.map, ↓reduceIte, reduceCtorEq, List.replicate, vcA, ↓vcB, vcC]
          refine cSB.mono ?_
          rintro g O' ⟨rfl, rfl⟩
          simp +contextual -implicitDefEqProofs (maxSteps := 2000000) (disch := omega) only [↓resV, resG, vcA, ↓vcB, vcC]
          exact ⟨_, rObj rt L, [.row sb 1 (blr B)], rfl, leA_refl _, rfl, rfl⟩
        | true =>
          simp +contextual -implicitDefEqProofs (maxSteps := 2000000) (disch := omega) only [GVal.ofConst, ↓reduceIte, List.replicate, vcA, ↓vcB, vcC]
          refine vcSLoop_by (ι := { p : (Nat × Bool) × List Bool // p.1.1 ≤ n ∧ p.2.length = n ∧ (∀ q, q < n → p.2.getD q false = true → Reach (kidsM L) (inM L l) (hdL L q)) ∧ (∀ q, q < n → hdL L q ∈ l → p.2.getD q false = true) ∧ ((p.1.2 = false ∧ p.2 = B ∧ ∀ k, k < p.1.1 → CloAt L B k) ∨ (p.1.2 = true ∧ B.count true < p.2.count true)) }) (fun p => ⟨[.ptr 0 rt 0 0, .slice (hsG l) t, .any, .any, .any, .own 1 sb 0 n, .any, .bool p.1.1.2, .int .i64 (p.1.1.1 : Nat)] ++ List.replicate 81 .any, rObj rt L ++ [.row sb 1 (blr p.1.2)]⟩) (fun p => n - p.1.1.1) ?_ ?_
          · exact Into.first ⟨((0, false), B), Nat.zero_le _, hB, hS, hBs, .inl ⟨rfl, rfl, fun k hk => absurd hk (Nat.not_lt_zero _)⟩⟩ ⟨[], by simp⟩ (by simp [WL, leG_self, leG_any])
          · rintro ⟨⟨⟨i, a⟩, B1⟩, hi, hB1, hS1, hBs1, hC1⟩
            change i ≤ n at hi
            have hB1 : B1.length = n := hB1
            have hS1 : ∀ q, q < n → B1.getD q false = true → Reach (kidsM L) (inM L l) (hdL L q) := hS1
            have hBs1 : ∀ q, q < n → hdL L q ∈ l → B1.getD q false = true := hBs1
            have hC1 : (a = false ∧ B1 = B ∧ ∀ k, k < i → CloAt L B k) ∨ (a = true ∧ B.count true < B1.count true) := hC1
            by_cases h : i < n
            · have d0 : ((i : Int) < (n : Int)) = True := eq_true (by omega)
              have eC := csG_at L i (by omega)
              have hmem := hpk i h
              obtain ⟨xh, ps, hx⟩ : ∃ xh xp, L.getD i default = (xh, xp) := ⟨_, _, rfl⟩
              have hxh : hdL L i = xh := by show (L.getD i default).1 = xh; rw [hx]
              rw [hx] at eC hmem
              have hlk := look_of_mem (ssc_keys hL) hmem
              have hclo : ∀ y ∈ ps, (look L y).isSome = true := fun y hy => hg.closed xh y (by rw [parsM_some hlk]; exact hy)
              have hp4 : ps.length ≤ 4 := hg.ok.row _ hmem
              simp +contextual -implicitDefEqProofs (maxSteps := 2000000) (disch := omega) only [↓lenV, binV, ↓loadV, ↓fieldAddrV, ↓nilV, grp, GVal.ofConst, List.headD, List.take, List.drop, Nat.reduceLeDiff, implies_true, List.replicate, vcA, ↓vcB, vcC, fbFw, d0, csG_len, hn]
              refine vcSLoop_by (ι := { p : (Nat × Bool) × List Bool // p.1.1 ≤ ps.length ∧ p.2.length = n ∧ (∀ q, q < n → p.2.getD q false = true → Reach (kidsM L) (inM L l) (hdL L q)) ∧ (∀ q, q < n → hdL L q ∈ l → p.2.getD q false = true) ∧ ((p.1.2 = false ∧ p.2 = B ∧ (∀ k, k < i → CloAt L B k) ∧ ∀ j, j < p.1.1 → ∀ q, findO L (ps.getD j h0) = some q → B.getD q false = false) ∨ (p.1.2 = true ∧ B.count true < p.2.count true)) }) (fun p => ⟨[.ptr 0 rt 0 0, .slice (hsG l) t, .any, .any, .any, .own 1 sb 0 n, .any, .bool p.1.1.2, .int .i64 (i : Nat), .int .i64 (p.1.1.1 : Nat)] ++ List.replicate 80 .any, rObj rt L ++ [.row sb 1 (blr p.1.2)]⟩) (fun p => ps.length - p.1.1.1) ?_ ?_
              · refine Into.first ⟨((0, a), B1), Nat.zero_le _, hB1, hS1, hBs1, ?_⟩ ⟨[], by simp⟩ (by simp [WL, leG_self, leG_any])
                rcases hC1 with ⟨q1, q2, q3⟩ | q
                · exact .inl ⟨q1, q2, q3, fun j hj => absurd hj (Nat.not_lt_zero _)⟩
                · exact .inr q
              · clear hC1 hBs1 hS1 hB1
                rintro ⟨⟨⟨j, a⟩, B1⟩, hj, hB1, hS1, hBs1, hC1⟩
                change j ≤ ps.length at hj
                have hB1 : B1.length = n := hB1
                have hS1 : ∀ q, q < n → B1.getD q false = true → Reach (kidsM L) (inM L l) (hdL L q) := hS1
                have hBs1 : ∀ q, q < n → hdL L q ∈ l → B1.getD q false = true := hBs1
                have hC1 : (a = false ∧ B1 = B ∧ (∀ k, k < i → CloAt L B k) ∧ ∀ j', j' < j → ∀ q, findO L (ps.getD j' h0) = some q → B.getD q false = false) ∨ (a = true ∧ B.count true < B1.count true) := hC1
                have eB := blr_at B1 i (by omega)
                have out : (B1.getD i false = true ∨ ps.length ≤ j) → (a = false ∧ B1 = B ∧ ∀ k, k < i + 1 → CloAt L B k) ∨ (a = true ∧ B.count true < B1.count true) := fun w => by
                  rcases hC1 with ⟨w1, rfl, w3, w4⟩ | w1
                  · refine .inl ⟨w1, rfl, fun k hk => ?_⟩
                    by_cases e : k = i
                    · subst e
                      rcases w with w | w
                      · exact .inl w
                      · refine .inr fun y hy q hq => ?_
                        rw [hx] at hy
                        obtain ⟨j', hj', rfl⟩ := List.getElem_of_mem hy
                        refine w4 j' (by have : j' < ps.length := hj'; omega) q ?_
                        rw [List.getD_eq_getElem?_getD, List.getElem?_eq_getElem hj']; exact hq
                    · exact w3 k (by omega)
                  · exact .inr w1
                by_cases h' : j < ps.length
                · have d2 : ((j : Int) < (ps.length : Int)) = True := eq_true (by omega)
                  cases eb : B1.getD i false with
                  | true =>
                    rw [eb] at eB
                    simp +contextual -implicitDefEqProofs (maxSteps := 2000000) (disch := omega) only [↓lenV, binV, ↓unV, ↓loadV, ↓fieldAddrV, ↓indexAddrV, ↓nilV, grp, GVal.ofConst, List.headD, List.take, List.drop, ↓reduceIte, Nat.reduceLeDiff, implies_true, List.replicate, vcA, ↓vcB, vcC, fbFw, d2, eC, csG_len, comG, drop32a, len33, hsG_len, hn, blr_len, hB1, eB]
                    refine ⟨by omega, by omega, by omega, by omega, h, h, ?_⟩
                    exact Into.at ⟨((i + 1, a), B1), by show i + 1 ≤ n; omega, hB1, hS1, hBs1, out (.inl eb)⟩ (by show n - (i + 1) < n - i; omega) ⟨[], by simp⟩ (by simp [WL, leG_self, leG_any])
                  | false =>
                    rw [eb] at eB
                    have eP := hsG_at ps j h'
                    have ej : norm .i64 ((j : Int) + 1) = (j : Int) + 1 := norm_i64 (by omega)
                    have hym : ps.getD j h0 ∈ ps := by
                      rw [List.getD_eq_getElem?_getD, List.getElem?_eq_getElem h']; exact List.getElem_mem h'
                    obtain ⟨y, hy⟩ : ∃ y, ps.getD j h0 = y := ⟨_, rfl⟩
                    rw [hy] at eP hym
                    obtain ⟨q, q1, q2, q3⟩ := hfi y (hclo y hym)
                    have cFy := cF y [.row sb 1 (blr B1)]
                    have ez : findZ L y = (q : Int) := by unfold findZ; rw [q1]
                    rw [ez] at cFy
                    have eQ := blr_at B1 q (by omega)
                    cases eq : B1.getD q false with
                    | true =>
                      rw [eq] at eQ
                      simp +contextual -implicitDefEqProofs (maxSteps := 2000000) (disch := omega) only [↓lenV, binV, ↓unV, ↓loadV, ↓fieldAddrV, ↓indexAddrV, ↓nilV, grp, List.map, List.headD, List.take, List.drop, Nat.reduceEqDiff, Nat.reduceLeDiff, reduceCtorEq, implies_true, List.replicate, vcA, ↓vcB, vcC, fbFw, d2, eC, eP, csG_len, comG, drop32a, len33, len32, take32, hsG_len, hn, blr_len, hB1, eB]
                      refine ⟨by omega, by omega, by omega, by omega, h, h, by omega, by omega, by omega, cFy.mono ?_⟩
                      rintro g O' ⟨rfl, rfl⟩
                      simp +contextual -implicitDefEqProofs (maxSteps := 2000000) (disch := omega) only [binV, ↓loadV, ↓storeV, ↓indexAddrV, GVal.cells, grp, GVal.ofConst, List.headD, List.take, List.drop, Nat.reduceLeDiff, implies_true, allSolid, GVal.solid, splice, vcA, ↓vcB, vcC, fbFw, blr_len, hB1, eQ, blr_set, eB, ej]
                      have hcs := cnt_set B1 i (by omega) eb
                      refine ⟨by omega, by omega, q2, q2, by omega, by omega, h, h, ?_⟩
                      refine Into.at ⟨((j + 1, true), B1.set i true), by show j + 1 ≤ ps.length; omega, by show (B1.set i true).length = n; rw [List.length_set]; exact hB1, fun k hk hb => ?_, fun k hk hm => ?_, .inr ⟨rfl, ?_⟩⟩ (by show ps.length - (j + 1) < ps.length - j; omega) ⟨[], by simp⟩ (by simp [WL, leG_self, leG_any])
                      · have hb : (B1.set i true).getD k false = true := hb
                        rw [getD_set_b B1 i k _ (by omega)] at hb
                        by_cases e : i = k
                        · subst e
                          rw [hxh]
                          refine .step y xh ?_ (kidsM_mem.2 ⟨(xh, ps), hmem, hym, rfl⟩)
                          have := hS1 q q2 eq
                          rw [q3] at this; exact this
                        · rw [if_neg e] at hb
                          exact hS1 k hk hb
                      · show (B1.set i true).getD k false = true
                        rw [getD_set_b B1 i k _ (by omega)]
                        by_cases e : i = k
                        · rw [if_pos e]
                        · rw [if_neg e]; exact hBs1 k hk hm
                      · show B.count true < (B1.set i true).count true
                        rw [hcs]
                        rcases hC1 with ⟨_, rfl, _⟩ | ⟨_, w⟩
                        · omega
                        · omega
                    | false =>
                      rw [eq] at eQ
                      simp +contextual -implicitDefEqProofs (maxSteps := 2000000) (disch := omega) only [↓lenV, binV, ↓unV, ↓loadV, ↓fieldAddrV, ↓indexAddrV, ↓nilV, grp, List.map, List.headD, List.take, List.drop, Nat.reduceEqDiff, Nat.reduceLeDiff, reduceCtorEq, implies_true, List.replicate, vcA, ↓vcB, vcC, fbFw, d2, eC, eP, csG_len, comG, drop32a, len33, len32, take32, hsG_len, hn, blr_len, hB1, eB]
                      refine ⟨by omega, by omega, by omega, by omega, h, h, by omega, by omega, by omega, cFy.mono ?_⟩
                      rintro g O' ⟨rfl, rfl⟩
                      simp +contextual -implicitDefEqProofs (maxSteps := 2000000) (disch := omega) only [binV, ↓loadV, ↓indexAddrV, grp, GVal.ofConst, List.headD, List.take, List.drop, Nat.reduceLeDiff, implies_true, vcA, ↓vcB, vcC, fbFw, blr_len, hB1, eQ, ej]
                      refine ⟨by omega, by omega, q2, q2, ?_⟩
                      refine Into.at ⟨((j + 1, a), B1), by show j + 1 ≤ ps.length; omega, hB1, hS1, hBs1, ?_⟩ (by show ps.length - (j + 1) < ps.length - j; omega) ⟨[], by simp⟩ (by simp [WL, leG_self, leG_any])
                      rcases hC1 with ⟨w1, w2, w3, w4⟩ | w1
                      · refine .inl ⟨w1, w2, w3, fun j' hj' q' hq' => ?_⟩
                        by_cases e : j' = j
                        · subst e
                          rw [hy, q1] at hq'
                          injection hq' with hq'
                          subst hq'
                          rw [← show B1 = B from w2]; exact eq
                        · exact w4 j' (by have : j' < j + 1 := hj'; omega) q' hq'
                      · exact .inr w1
                · have d2 : ((j : Int) < (ps.length : Int)) = False := eq_false (by omega)
                  simp +contextual -implicitDefEqProofs (maxSteps := 2000000) (disch := omega) only [↓lenV, binV, ↓unV, ↓loadV, ↓fieldAddrV, ↓indexAddrV, ↓nilV, grp, GVal.ofConst, List.map, List.headD, List.take, List.drop, ↓reduceIte, Nat.reduceEqDiff, Nat.reduceLeDiff, reduceCtorEq, implies_true, List.replicate, vcA, ↓vcB, vcC, fbFw, d2, eC, csG_len, comG, drop32a, len33, hsG_len, hn]
                  refine ⟨by omega, by omega, ?_⟩
                  exact Into.at ⟨((i + 1, a), B1), by show i + 1 ≤ n; omega, hB1, hS1, hBs1, out (.inr (by omega))⟩ (by show n - (i + 1) < n - i; omega) ⟨[], by simp⟩ (by simp [WL, leG_self, leG_any])
            · have d0 : ((i : Int) < (n : Int)) = False := eq_false (by omega)
              simp +contextual -implicitDefEqProofs (maxSteps := 2000000) (disch := omega) only [↓lenV, binV, ↓loadV, ↓fieldAddrV, ↓nilV, grp, GVal.ofConst, List.headD, List.take, List.drop, ↓reduceIte, Nat.reduceLeDiff, implies_true, List.replicate, vcA, ↓vcB, vcC, fbFw, d0, csG_len, hn]
              have hcn : B1.count true ≤ n := by rw [← hB1]; exact List.count_le_length
              refine Into.at ⟨(a, B1), hB1, hS1, hBs1, fun ha k hk => ?_⟩ ?_ ⟨[], by simp⟩ (by simp [WL, leG_self, leG_any])
              · rcases hC1 with ⟨w1, rfl, w3⟩ | ⟨w1, _⟩
                · exact w3 k (by omega)
                · rw [w1] at ha; cases ha
              · show (n - B1.count true + if a = true then 1 else 0) < n - B.count true + 1
                rcases hC1 with ⟨rfl, rfl, _⟩ | ⟨rfl, w⟩
                · simp
                · rw [if_pos rfl]; omega
end Gv.Tryz
