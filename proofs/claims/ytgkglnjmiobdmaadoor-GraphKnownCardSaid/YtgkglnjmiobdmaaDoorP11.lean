/- A walk in parts: some by conditions, some by hand. -/
import Derived.Test.YtgkglnjmiobdmaaDoorP10
import Derived.Test.YtgkglnjmiobdmaaDoorP5
import Derived.Test.YtgkglnjmiobdmaaDoorP8
import Derived.Test.YtgkglnjmiobdmaaDoorP6
set_option linter.unusedVariables false
namespace Gv
open Go Go.MapKept Go.ChangeMaps Go.Maps
variable {P : Program} {all : Array Oper} {QQ : Exit → Act → World → Prop} {E : Env} {st : GSt} {a : Act} {w : World} {o : Oper} {rest : List Oper}
@[reducible] def cfgOf {P : Program} {f : FuncId} {C : Cfg} {n : Nat} {rs : List ResultVar} {s : SCode} (_ : FnS P f C n rs s) : Cfg := C
def vcN (N : GSt → Prop) : Ex → GSt → Prop
  | .normal, s => N s
  | _, _ => False
def NW (s : List GVal) (O : List GObj) (st : GSt) : Prop := st.o = O ∧ WL st.s s
theorem wp_part {C : Cfg} (hmix : P.follows .mixedOrders = true) {c : Code} {s : SCode} (hs : slim C c = some s) (hc : codeOk C c = true) (h : HSim E st.o w) (ha : SlotsR E a st.s) {N : GSt → Prop} (hv : vcS P C.ro s (vcN N) st) {Q : Exit → Act → World → Prop}
    (hn : ∀ st' E' a' w', HSim E' st'.o w' → Keep E st.o w E' st'.o w' → SlotsR E' a' st'.s → N st' → Q .normal a' w') : c.wp P Q a w := by
  refine wp_mono (vc_sound hmix c (vcN N) st E a w hc h ha (vcS_ok c s (vcN N) (vcN N) st hs (fun _ _ h => h) hv)) ?_
  rintro e a' w' ⟨ex, st', E', hx, h1, h2, h3, h4⟩
  cases e <;> cases ex <;> first
    | exact hx.elim
    | exact h4.elim
    | exact hn st' E' a' w' h1 h2 h3 h4
theorem Post.trans {E0 E : Env} {O0 O : List GObj} {w0 w : World} {Q : Ex → GSt → Prop} {e : Exit} {a' : Act} {w' : World} (k : Keep E0 O0 w0 E O w) (h : Post E O w Q e a' w') : Post E0 O0 w0 Q e a' w' := by
  obtain ⟨ex, st', E', hx, h1, h2, h3, h4⟩ := h
  exact ⟨ex, st', E', hx, h1, k.trans h2, h3, h4⟩
theorem wpList_run (hg : o.guard = none) {v : Value} {w' : World} (hr : (execOp a.eval o).run P w = .ok (.value v) w') (h : wpList P all QQ rest (a.put o.dst v) w') : wpList P all QQ (o :: rest) a w :=
  wpList_plain hg fun K' hK' => by
    unfold Oper.wp
    rw [hr]
    simp only [Oper.upon_value]
    exact hK' _ _ h
theorem wpList_skip (hg : o.guard = none) {w' : World} (hr : (execOp a.eval o).run P w = .ok .skip w') (h : wpList P all QQ rest (a.put o.dst undef) w') : wpList P all QQ (o :: rest) a w :=
  wpList_plain hg fun K' hK' => by
    unfold Oper.wp
    rw [hr]
    exact hK' _ _ h
theorem op_step (hg : o.guard = none) (h : HSim E st.o w) (ha : SlotsR E a st.s) {R : List Nat} {N : GSt → Prop} (hk : opv P R st o (fun g O' => N (st.put o.dst g O')))
    (hq : ∀ st' E' a' w', HSim E' st'.o w' → Keep E st.o w E' st'.o w' → SlotsR E' a' st'.s → N st' → wpList P all QQ rest a' w') : wpList P all QQ (o :: rest) a w :=
  wpList_plain hg fun K' hK' => Oper.wp_mono (fun a w h => hK' a w h) (op_sound h ha hk (fun v w' E' O' g h1 h2 h3 h4 =>
    hq (st.put o.dst g O') E' _ w' (by rw [GSt.put_o]; exact h1) (by rw [GSt.put_o]; exact h2) (ha.put h2.ext h3 O') h4))
theorem ops_seg {R : List Nat} : ∀ (k : Nat) {ops : List Oper} {l : List SOp} {st : GSt} {E : Env} {a : Act} {w : World} (hl : (ops.take k).map (fun o => (⟨o.dst, o.op, none⟩ : SOp)) = l) (hg : (ops.take k).all (fun o => o.guard.isNone) = true)
    (h : HSim E st.o w) (ha : SlotsR E a st.s) {N : GSt → Prop} (hv : opsS P R l N st)
    (hq : ∀ st' E' a' w', HSim E' st'.o w' → Keep E st.o w E' st'.o w' → SlotsR E' a' st'.s → N st' → wpList P all QQ (ops.drop k) a' w'), wpList P all QQ ops a w
  | 0, ops, l, st, E, a, w, hl, hg, h, ha, N, hv, hq => by
    simp only [List.take_zero, List.map_nil] at hl
    subst hl
    rw [opsS_nil] at hv
    exact hq st E a w h (.refl _ _ _) ha hv
  | k + 1, [], l, st, E, a, w, hl, hg, h, ha, N, hv, hq => by
    simp only [List.take_nil, List.map_nil] at hl
    subst hl
    rw [opsS_nil] at hv
    exact hq st E a w h (.refl _ _ _) ha hv
  | k + 1, o :: r, l, st, E, a, w, hl, hg, h, ha, N, hv, hq => by
    simp only [List.take_succ_cons, List.map_cons] at hl
    subst hl
    simp only [List.take_succ_cons, List.all_cons, Bool.and_eq_true, Option.isNone_iff_eq_none] at hg
    rw [opsS_one, ← opS_eq] at hv
    refine op_step (N := fun s => opsS P R ((r.take k).map (fun o => (⟨o.dst, o.op, none⟩ : SOp))) N s) hg.1 h ha hv (fun st' E' a' w' h1 h2 h3 h4 => ?_)
    exact ops_seg k rfl hg.2 h1 h3 h4 (fun st2 E2 a2 w2 q1 q2 q3 q4 => hq st2 E2 a2 w2 q1 (h2.trans q2) q3 q4)
theorem range_step (hg : o.guard = none) {m : Operand} {t k e : TypeId} (hop : o.op = Op.range t m) (ht : P.underlying t = some (.map k e)) {b clock : Nat} {es : Array MapEntry}
    (hm : a.eval m = .map (some b)) (hb : w.heap[b]? = some (.map es clock)) (hbo : Gv.BornOK es clock)
    (hK : ∀ w', WalkAt w' b w.heap.size es clock #[] → w.grownBy w' none → w'.heap.size = w.heap.size + 1 → wpList P all QQ rest (a.put o.dst (.pointer (some ⟨w.heap.size, 0, none⟩))) w') :
    wpList P all QQ (o :: rest) a w := by
  have hrun := run_range_map w t k e b es clock ht hb
  have hlt := (Array.getElem?_eq_some_iff.1 hb).1
  refine wpList_run (v := .pointer (some ⟨w.heap.size, 0, none⟩)) (w' := w.alloc (.mapIter (some b) clock #[] clock)) hg (by simp [execOp, hop, hm, hrun, Result.andThen]) ?_
  exact hK _ ⟨clock, clock, ((MapKept.heap_alloc w _).2 b hlt).trans hb, (MapKept.heap_alloc w _).1, hbo.1, Nat.le_refl _, Nat.le_refl _⟩ (World.grownBy_alloc w _ none) (by simp)
theorem next_step (hg : o.guard = none) {it : Operand} (hop : o.op = Op.next it false) {b r clock : Nat} {es : Array MapEntry} (hbo : Gv.BornOK es clock) {seen : Array Nat} {xs : List MapEntry} (hx : Came es seen xs)
    (hit : a.eval it = .pointer (some ⟨r, 0, none⟩)) (h : WalkAt w b r es clock seen)
    (hDone : xs.Perm es.toList → wpList P all QQ rest (a.put o.dst (.tuple #[.bool false])) w)
    (hMore : ∀ (e : MapEntry) (w' : World), e ∈ es.toList → Came es (seen.push e.born) (xs ++ [e]) → xs.length < es.size → WalkAt w' b r es clock (seen.push e.born) → w'.rangeLeft b r < w.rangeLeft b r →
      w.grownBy w' (some r) → (∀ w2 : World, w2.heap[b]? = w'.heap[b]? → w2.heap[r]? = w'.heap[r]? → (Instr.entry (.pointer (some ⟨r, 0, none⟩))).run P w2 = .ok (.tuple #[e.key, e.val]) w2) → wpList P all QQ rest (a.put o.dst (.tuple #[.bool true, e.key, e.val])) w') :
    wpList P all QQ (o :: rest) a w := by
  have hle := h.left_eq
  obtain ⟨since, c0, hb, hr, hold, hsc, hsk⟩ := h
  obtain ⟨hse, hxn, hxm⟩ := hx
  have hne : r ≠ b := fun e => by rw [e, hb] at hr; cases hr
  have hnd : es.toList.Nodup := hbo.2.imp fun h e => h (congrArg _ e)
  have hbn : (es.toList.map (·.born)).Nodup := List.pairwise_map.2 hbo.2
  rcases run_next_at (P := P) w o.type r b since c0 seen es clock hr hb hold hsc with ⟨h0, hrun⟩ | ⟨e, he, w1, hal, hrun⟩
  · refine wpList_run hg (by simp [execOp, hop, hit, hrun, Result.andThen]) (hDone ?_)
    refine (List.perm_ext_iff_of_nodup hxn hnd).2 fun x => ⟨fun q => hxm x q, fun q => ?_⟩
    have hs := all_seen es seen h0 x q
    rw [hse] at hs
    have hm : x.born ∈ xs.map MapEntry.born := by simpa using hs
    obtain ⟨y, hy, ey⟩ := List.mem_map.1 hm
    rwa [← born_inj hbn (hxm y hy) q ey]
  · have hr1 : w1.heap[r]? = some (.mapIter (some b) since seen c0) := by rcases hal with rfl | rfl <;> exact hr
    have hb1 : w1.heap[b]? = some (.map es clock) := by rcases hal with rfl | rfl <;> exact hb
    have hset := heap_set (o' := .mapIter (some b) since (seen.push e.born) clock) hr1
    have hb' : (ChangeMaps.setBlock w1 r (.mapIter (some b) since (seen.push e.born) clock)).heap[b]? = some (.map es clock) := (hset.2 b (fun e1 => hne e1.symm)).trans hb1
    obtain ⟨hem, hes⟩ := mem_left he
    have hc : Came es (seen.push e.born) (xs ++ [e]) := by
      refine ⟨by rw [hse]; simp, List.nodup_append.2 ⟨hxn, by simp, fun y hy z hz => ?_⟩, fun y hy => ?_⟩
      · rw [List.mem_singleton.1 hz]
        intro q
        have : e.born ∈ xs.map MapEntry.born := List.mem_map_of_mem (q ▸ hy)
        rw [hse] at hes
        have h3 : (xs.map MapEntry.born).toArray.contains e.born = true := by simpa using this
        rw [h3] at hes; cases hes
      · rcases List.mem_append.1 hy with q | q
        · exact hxm y q
        · rw [List.mem_singleton.1 q]; exact hem
    have hlen : (xs ++ [e]).length ≤ es.toList.length := nodup_le _ _ hc.2.1 hc.2.2
    have hw : WalkAt (ChangeMaps.setBlock w1 r (.mapIter (some b) since (seen.push e.born) clock)) b r es clock (seen.push e.born) := ⟨since, clock, hb', hset.1, hold, hsk, hsk⟩
    refine wpList_run hg (by simp [execOp, hop, hit, hrun, Result.andThen]) (hMore e _ hem hc (by simp at hlen; omega) hw ?_ ?_ (fun w2 e1 e2 => run_entry_at w2 r b since seen es clock e (e2.trans hset.1) (e1.trans hb') hem hbn))
    · rw [hle, hw.left_eq]
      exact left_shrinks es _ e he
    · rcases hal with rfl | rfl <;> exact ⟨rfl, rfl, rfl, by simp [ChangeMaps.setBlock], fun i _ hi => hset.2 i (fun e1 => hi (by rw [e1]))⟩
theorem entry_step (hg : o.guard = none) {it : Operand} (hop : o.op = Op.entry it) {r : Nat} {v : Value} (hit : a.eval it = .pointer (some ⟨r, 0, none⟩)) (he : (Instr.entry (.pointer (some ⟨r, 0, none⟩))).run P w = .ok v w)
    (h : wpList P all QQ rest (a.put o.dst v) w) : wpList P all QQ (o :: rest) a w :=
  wpList_run hg (by simp [execOp, hop, hit, he, Result.andThen]) h
theorem mapEntry_step (hg : o.guard = none) {m x : Operand} {t : TypeId} (hop : o.op = Op.mapEntry t m x) {v : Value} {w' : World} (hr : (Instr.mapEntry t (a.eval m) (a.eval x)).run P w = .ok v w')
    (h : wpList P all QQ rest (a.put o.dst v) w') : wpList P all QQ (o :: rest) a w :=
  wpList_run hg (by simp [execOp, hop, hr, Result.andThen]) h
theorem entryStore_step (hg : o.guard = none) {m x y : Operand} {t : TypeId} (hop : o.op = Op.entryStore t m x y) {w' : World} (hr : (Instr.entryStore t (a.eval m) (a.eval x) (a.eval y)).run P w = .ok () w')
    (h : wpList P all QQ rest (a.put o.dst undef) w') : wpList P all QQ (o :: rest) a w :=
  wpList_skip hg (by simp [execOp, hop, hr, Result.andThen]) h
theorem map_val {v : Value} {i s b : Nat} {l : GLoc} (h : VR E v (.map i s)) (hl : E.loc s = some l) (hb : l.block = some b) : v = .map (some b) := by
  cases h with
  | map r o st l' hl' hb' =>
    rw [hl] at hl'; cases hl'
    rw [hb] at hb'; cases hb'
    rfl
theorem HSim.meltBox {O : List GObj} {t sz : Nat} {cs cs' : List GVal} (h : HSim E (O ++ [.row t sz [cs]]) w) {s : List GVal} (ha : SlotsR E a s) (i n : Nat) (hx : s.getD i .any = .ptr O.length t 0 0) (hsz : cs.length = sz)
    (hf : frzL (Gv.frz [.row t sz [cs]] n) cs = some cs') (hne : cs ≠ []) :
    HSim (E.frz [.row t sz [cs]] w) O w ∧ Keep E (O ++ [.row t sz [cs]]) w (E.frz [.row t sz [cs]] w) O w ∧ SlotsR (E.frz [.row t sz [cs]] w) a (s.set i (.ref cs')) := by
  obtain ⟨h0, h1, h2⟩ := h.melt
  refine ⟨h1, h2, by simp [ha.size], ha.defers, fun k g hg => ?_⟩
  rw [List.getElem?_set] at hg
  by_cases hk : i = k
  · subst hk
    rw [if_pos rfl] at hg
    split at hg
    · rename_i hlt
      simp only [Option.some.injEq] at hg
      subst hg
      have := ha.at_ i _ (getD_of (d := GVal.any) hlt)
      rw [hx] at this
      revert this
      generalize a.tmps.getD i undef = tv
      intro this
      cases this with
      | ptr b off o st i j l hl hb ho =>
        have hreal := h0.real 0 _ rfl
        obtain ⟨l', hl', hsz', hxs, hr⟩ := hreal
        rw [hl] at hl'; cases hl'
        rw [hb] at hr
        obtain ⟨cur, el, hcw, hcs, hct, hrows, hsn⟩ := hr
        have hrow : ∀ j g, [cs].flatten[j]? = some g → ∃ v, (E.frz [.row t sz [cs]] w).snap b (off + j) = some v ∧ VR E v g := fun j g hj => by
          have := row_frz h0 (i := 0) rfl hl hb hj
          obtain ⟨v, hv1, hv2⟩ := this
          refine ⟨v, ?_, ?_⟩
          · rw [ho]; simpa using hv1
          · first | exact hv2 | exact hv2.2 | exact hv2.1
        have hl2 := frzL_len hf
        refine .ref b off cs' (fun j => ((E.frz [.row t sz [cs]] w).snap b (off + j)).getD undef) (fun j hj => ?_) (fun j g hg => ?_)
        · obtain ⟨v, hv, _⟩ := hrow j (cs[j]'(by omega)) (by simp)
          rw [hv]; rfl
        · obtain ⟨x, hx1, hx2⟩ := frzL_at hf j g hg
          obtain ⟨v, hv, hvr⟩ := hrow j x (by simpa using hx1)
          rw [hv]
          exact frz_sound h0 n _ _ _ hvr hx2
    · cases hg
  · rw [if_neg hk] at hg
    exact (ha.at_ k g hg).mono h2.ext
theorem HSim.meltBox1 {O : List GObj} {t sz : Nat} {cs : List GVal} (h : HSim E (O ++ [.row t sz [cs]]) w) {s : List GVal} (ha : SlotsR E a s) (i : Nat) (hx : s.getD i .any = .ptr O.length t 0 0) (hsz : cs.length = sz) :
    HSim (E.frz [.row t sz [cs]] w) O w ∧ Keep E (O ++ [.row t sz [cs]]) w (E.frz [.row t sz [cs]] w) O w ∧ SlotsR (E.frz [.row t sz [cs]] w) a (s.set i (.ref cs)) := by
  obtain ⟨h0, h1, h2⟩ := h.melt
  refine ⟨h1, h2, by simp [ha.size], ha.defers, fun k g hg => ?_⟩
  rw [List.getElem?_set] at hg
  by_cases hk : i = k
  · subst hk
    rw [if_pos rfl] at hg
    split at hg
    · rename_i hlt
      simp only [Option.some.injEq] at hg
      subst hg
      have := ha.at_ i _ (getD_of (d := GVal.any) hlt)
      rw [hx] at this
      revert this
      generalize a.tmps.getD i undef = tv
      intro this
      cases this with
      | ptr b off o st i j l hl hb ho =>
        have hreal := h0.real 0 _ rfl
        obtain ⟨l', hl', hsz', hxs, hr⟩ := hreal
        rw [hl] at hl'; cases hl'
        rw [hb] at hr
        obtain ⟨cur, el, hcw, hcs, hct, hrows, hsn⟩ := hr
        have hrow : ∀ j g, [cs].flatten[j]? = some g → ∃ v, (E.frz [.row t sz [cs]] w).snap b (off + j) = some v ∧ VR E v g := fun j g hj => by
          have := row_frz h0 (i := 0) rfl hl hb hj
          obtain ⟨v, hv1, hv2⟩ := this
          refine ⟨v, ?_, ?_⟩
          · rw [ho]; simpa using hv1
          · first | exact hv2 | exact hv2.2 | exact hv2.1
        refine .ref b off cs (fun j => ((E.frz [.row t sz [cs]] w).snap b (off + j)).getD undef) (fun j hj => ?_) (fun j g hg => ?_)
        · obtain ⟨v, hv, _⟩ := hrow j (cs[j]'(by omega)) (by simp)
          rw [hv]; rfl
        · obtain ⟨v, hv, hvr⟩ := hrow j g (by simpa using hg)
          rw [hv]
          exact hvr.mono h2.ext
    · cases hg
  · rw [if_neg hk] at hg
    exact (ha.at_ k g hg).mono h2.ext
end Gv
/- graph.Remove: the ghost parts. -/
set_option linter.unusedVariables false
set_option linter.unusedSimpArgs false
set_option maxRecDepth 20000
set_option maxHeartbeats 4000000
namespace Gv.Tryd
open Go Gv Go.Proofs
abbrev rS (p0 p1 x5 x14 x15 x16 x24 x25 x26 x57 : GVal) : List GVal := [p0, p1, .any, .any, .any, x5, .any, .any, .any, .any, .any, .any, .any, .any, x14, x15, x16, .any, .any, .any, .any, .any, .any, .any, x24, x25, x26, .any, .any, .any, .any, .any, .any, .any, .any, .any, .any, .any, .any, .any, .any, .any, .any, .any, .any, .any, .any, .any, .any, .any, .any, .any, .any, .any, .any, .any, .any, x57, .any, .any, .any, .any, .any, .any, .any, .any, .any]
theorem gIndexP {F : FuncId} {caps : List GVal} (O : List GObj) (hc : clockOf O = none) (p : Hs → Bool) (hN : ∀ h : Hs, GCalls Tryd.prog F (.agg (bytesG h.1) :: caps) O (fun g O' => g = .bool (p h) ∧ O' = O))
    (l : List Hs) (t : Tag) (hl : l.length ≤ 1000000) :
    GCalls Tryd.prog 57 [.slice (hsG l) t, .func (.func F) [] caps] O (fun g O' => g = .int .i64 (match l.findIdx? p with | some i => (i : Int) | none => -1) ∧ O' = O) := by
  have hst : ∀ (K : Nat → Prop), stamp O K = ∀ st, K st := fun K => by unfold stamp; rw [hc]
  have htk : tickO O = O := tickO_none hc
  refine h57.calls mixS (by simp) ?_
  simp only [gstart, s57, List.cons_append, List.nil_append, List.length_cons, List.length_nil, Nat.reduceAdd, Nat.reduceSub, List.replicate_succ, List.replicate_zero]
  simp +contextual -implicitDefEqProofs (maxSteps := 2000000) (disch := omega) only [↓lenV, binV, ↓loadV, ↓indexAddrV, GVal.cells, grp, GVal.ofConst, ↓resV, resG, List.map, List.headD, List.take, List.drop, ↓reduceIte, Nat.reduceEqDiff, Nat.reduceAdd, Nat.reduceSub, Nat.reduceLeDiff, reduceCtorEq, implies_true, ne_eq, Tag.cap, List.replicate, allSolid, GVal.solid, Nat.reduceBEq, Nat.reduceMul, Nat.reduceLT, List.length_map, List.length_range, splice, vcA, ↓vcB, vcC, fbFu, e57, hst, htk, hsG_len]
  refine vcSLoop_by (ι := { k : Nat // k ≤ l.length ∧ ∀ x ∈ l.take k, p x = false }) (fun k => ⟨[.slice (hsG l) t, .func (.func F) [] caps, .any, .any, .int .i64 0, .any, .slice (hsG l) t, .int .i64 l.length, .int .i64 (k.1 : Nat)] ++ List.replicate 10 .any, O⟩) (fun k => l.length - k.1) ?_ ?_
  · exact Into.first ⟨0, by omega, by simp⟩ ⟨[], by simp⟩ (by simp [WL, leG_self, leG_any])
  · rintro ⟨k, hk, hp⟩
    change k ≤ l.length at hk
    have hp : ∀ x ∈ l.take k, p x = false := hp
    by_cases h : k < l.length
    · have d0 : ((k : Int) < (l.length : Int)) = True := eq_true (by omega)
      have eS := hsG_at l k h
      have eg : l.getD k h0 = l[k] := by simp [List.getD, h]
      rw [eg] at eS
      have ht : l.take (k + 1) = l.take k ++ [l[k]] := List.take_succ_eq_append_getElem h
      generalize l[k] = x at eS ht
      have cN := hN x
      by_cases hx : p x = true
      · rw [hx] at cN
        have hf : l.findIdx? p = some k := by
          have e : l = l.take k ++ x :: l.drop (k + 1) := by
            have := List.take_append_drop (k + 1) l
            rw [ht] at this
            simpa using this.symm
          rw [e, List.findIdx?_append]
          have : (l.take k).findIdx? p = none := by rw [List.findIdx?_eq_none_iff]; exact hp
          rw [this]
          simp [List.findIdx?_cons, hx, List.length_take]; omega
        simp +contextual -implicitDefEqProofs (maxSteps := 2000000) (disch := omega) only [↓lenV, binV, ↓loadV, ↓indexAddrV, GVal.cells, grp, GVal.ofConst, ↓resV, resG, List.map, List.headD, List.take, List.drop, ↓reduceIte, Nat.reduceEqDiff, Nat.reduceAdd, Nat.reduceSub, Nat.reduceLeDiff, reduceCtorEq, implies_true, ne_eq, Tag.cap, List.replicate, allSolid, GVal.solid, Nat.reduceBEq, Nat.reduceMul, Nat.reduceLT, List.length_map, List.length_range, splice, vcA, ↓vcB, vcC, fbFu, e57, hst, htk, hsG_len, d0, eS, all_hsG, take32, len32, hf]
        refine ⟨by omega, ?_⟩
        refine cN.mono ?_
        rintro g O' ⟨rfl, rfl⟩
        simp +contextual -implicitDefEqProofs (maxSteps := 2000000) (disch := omega) only [↓lenV, binV, ↓loadV, ↓indexAddrV, GVal.cells, grp, GVal.ofConst, ↓resV, resG, List.map, List.headD, List.take, List.drop, ↓reduceIte, Nat.reduceEqDiff, Nat.reduceAdd, Nat.reduceSub, Nat.reduceLeDiff, reduceCtorEq, implies_true, ne_eq, Tag.cap, List.replicate, allSolid, GVal.solid, Nat.reduceBEq, Nat.reduceMul, Nat.reduceLT, List.length_map, List.length_range, splice, vcA, ↓vcB, vcC, fbFu, e57, hf]
      · have hx : p x = false := by simpa using hx
        rw [hx] at cN
        simp +contextual -implicitDefEqProofs (maxSteps := 2000000) (disch := omega) only [↓lenV, binV, ↓loadV, ↓indexAddrV, GVal.cells, grp, GVal.ofConst, ↓resV, resG, List.map, List.headD, List.take, List.drop, ↓reduceIte, Nat.reduceEqDiff, Nat.reduceAdd, Nat.reduceSub, Nat.reduceLeDiff, reduceCtorEq, implies_true, ne_eq, Tag.cap, List.replicate, allSolid, GVal.solid, Nat.reduceBEq, Nat.reduceMul, Nat.reduceLT, List.length_map, List.length_range, splice, vcA, ↓vcB, vcC, fbFu, e57, hst, htk, hsG_len, d0, eS, all_hsG, take32, len32]
        refine ⟨by omega, ?_⟩
        refine cN.mono ?_
        rintro g O' ⟨rfl, rfl⟩
        simp +contextual -implicitDefEqProofs (maxSteps := 2000000) (disch := omega) only [↓lenV, binV, ↓loadV, ↓indexAddrV, GVal.cells, grp, GVal.ofConst, ↓resV, resG, List.map, List.headD, List.take, List.drop, ↓reduceIte, Nat.reduceEqDiff, Nat.reduceAdd, Nat.reduceSub, Nat.reduceLeDiff, reduceCtorEq, implies_true, ne_eq, Tag.cap, List.replicate, allSolid, GVal.solid, Nat.reduceBEq, Nat.reduceMul, Nat.reduceLT, List.length_map, List.length_range, splice, vcA, ↓vcB, vcC, fbFu, e57]
        refine Into.at ⟨k + 1, by omega, fun y hy => ?_⟩ (by show _ < _; simp; omega) ⟨[], by simp⟩ (by simp [WL, leG_self, leG_any, leG_int])
        have hy : y ∈ l.take (k + 1) := hy
        rw [ht] at hy
        rcases List.mem_append.1 hy with q | q
        · exact hp y q
        · rw [List.mem_singleton.1 q]; exact hx
    · have d0 : ((k : Int) < (l.length : Int)) = False := eq_false (by omega)
      have hf : l.findIdx? p = none := by
        rw [List.findIdx?_eq_none_iff]
        rw [List.take_of_length_le (by omega)] at hp
        exact hp
      simp +contextual -implicitDefEqProofs (maxSteps := 2000000) (disch := omega) only [↓lenV, binV, ↓loadV, ↓indexAddrV, GVal.cells, grp, GVal.ofConst, ↓resV, resG, List.map, List.headD, List.take, List.drop, ↓reduceIte, Nat.reduceEqDiff, Nat.reduceAdd, Nat.reduceSub, Nat.reduceLeDiff, reduceCtorEq, implies_true, ne_eq, Tag.cap, List.replicate, allSolid, GVal.solid, Nat.reduceBEq, Nat.reduceMul, Nat.reduceLT, List.length_map, List.length_range, splice, vcA, ↓vcB, vcC, fbFu, e57, hst, htk, hsG_len, d0, hf]
theorem gContF {F : FuncId} {caps : List GVal} (O : List GObj) (hc : clockOf O = none) (p : Hs → Bool) (hN : ∀ h : Hs, GCalls Tryd.prog F (.agg (bytesG h.1) :: caps) O (fun g O' => g = .bool (p h) ∧ O' = O))
    (l : List Hs) (t : Tag) (hl : l.length ≤ 1000000) :
    GCalls Tryd.prog 39 [.slice (hsG l) t, .func (.func F) [] caps] O (fun g O' => g = .bool (l.any p) ∧ O' = O) := by
  have cI := gIndexP O hc p hN l t hl
  cases hf : l.findIdx? p with
  | none =>
    rw [hf] at cI
    have e : l.any p = false := by
      rw [List.findIdx?_eq_none_iff] at hf
      rw [List.any_eq_false]
      intro x hx
      rw [hf x hx]; simp
    rw [e]
    refine h39.calls mixS (by simp) ?_
    simp only [gstart, s39, List.cons_append, List.nil_append, List.length_cons, List.length_nil, Nat.reduceAdd, Nat.reduceSub, List.replicate_succ, List.replicate_zero]
    simp +contextual -implicitDefEqProofs (maxSteps := 2000000) (disch := omega) only [binV, GVal.cells, grp, GVal.ofConst, ↓resV, resG, List.map, List.headD, List.take, List.drop, ↓reduceIte, Nat.reduceEqDiff, Nat.reduceAdd, Nat.reduceSub, Nat.reduceLeDiff, reduceCtorEq, implies_true, ne_eq, Tag.cap, List.replicate, allSolid, GVal.solid, Nat.reduceBEq, Nat.reduceMul, Nat.reduceLT, List.length_map, List.length_range, splice, vcA, ↓vcB, vcC, fbFu, e39]
    refine cI.mono ?_
    rintro g O' ⟨rfl, rfl⟩
    simp +contextual -implicitDefEqProofs (maxSteps := 2000000) (disch := omega) only [binV, GVal.cells, grp, GVal.ofConst, ↓resV, resG, List.map, List.headD, List.take, List.drop, ↓reduceIte, Nat.reduceEqDiff, Nat.reduceAdd, Nat.reduceSub, Nat.reduceLeDiff, reduceCtorEq, implies_true, ne_eq, Tag.cap, List.replicate, allSolid, GVal.solid, Nat.reduceBEq, Nat.reduceMul, Nat.reduceLT, List.length_map, List.length_range, splice, vcA, ↓vcB, vcC, fbFu, e39]
    rfl
  | some i =>
    rw [hf] at cI
    have e : l.any p = true := by
      obtain ⟨h1, h2, _⟩ := List.findIdx?_eq_some_iff_getElem.1 hf
      exact List.any_eq_true.2 ⟨_, List.getElem_mem h1, h2⟩
    have d0 : ((0 : Int) ≤ (i : Int)) = True := eq_true (by omega)
    rw [e]
    refine h39.calls mixS (by simp) ?_
    simp only [gstart, s39, List.cons_append, List.nil_append, List.length_cons, List.length_nil, Nat.reduceAdd, Nat.reduceSub, List.replicate_succ, List.replicate_zero]
    simp +contextual -implicitDefEqProofs (maxSteps := 2000000) (disch := omega) only [binV, GVal.cells, grp, GVal.ofConst, ↓resV, resG, List.map, List.headD, List.take, List.drop, ↓reduceIte, Nat.reduceEqDiff, Nat.reduceAdd, Nat.reduceSub, Nat.reduceLeDiff, reduceCtorEq, implies_true, ne_eq, Tag.cap, List.replicate, allSolid, GVal.solid, Nat.reduceBEq, Nat.reduceMul, Nat.reduceLT, List.length_map, List.length_range, splice, vcA, ↓vcB, vcC, fbFu, e39]
    refine cI.mono ?_
    rintro g O' ⟨rfl, rfl⟩
    simp +contextual -implicitDefEqProofs (maxSteps := 2000000) (disch := omega) only [binV, GVal.cells, grp, GVal.ofConst, ↓resV, resG, List.map, List.headD, List.take, List.drop, ↓reduceIte, Nat.reduceEqDiff, Nat.reduceAdd, Nat.reduceSub, Nat.reduceLeDiff, reduceCtorEq, implies_true, ne_eq, Tag.cap, List.replicate, allSolid, GVal.solid, Nat.reduceBEq, Nat.reduceMul, Nat.reduceLT, List.length_map, List.length_range, splice, vcA, ↓vcB, vcC, fbFu, e39, d0]
theorem gRm1 (a c : GObj) (X : List GObj) (S : List Hs) (h : Hs) (s : Nat) : GCalls Tryd.prog 40 [.agg (bytesG h.1), .ref [.map 2 s]] (a :: c :: .map s (kvG encB (setM S)) :: X) (fun g O' => g = .bool (decide (h ∈ S)) ∧ O' = (a :: c :: .map s (kvG encB (setM S)) :: X)) := by
  by_cases hx : h ∈ S
  · obtain ⟨i, hi, hv, _⟩ := look_idx encB (setM S) h true (by rw [look_set, if_pos hx])
    rw [decide_eq_true hx]
    refine h40.calls mixS (by simp) ?_
    simp only [gstart, s40, List.cons_append, List.nil_append, List.length_cons, List.length_nil, Nat.reduceAdd, Nat.reduceSub, List.replicate_succ, List.replicate_zero]
    simp +contextual -implicitDefEqProofs (maxSteps := 2000000) (disch := omega) only [↓loadV, ↓boxV, GVal.cells, grp, GVal.ofConst, ↓resV, resG, List.map, List.headD, List.take, List.drop, ↓reduceIte, Nat.reduceEqDiff, Nat.reduceAdd, Nat.reduceSub, Nat.reduceLeDiff, reduceCtorEq, implies_true, ne_eq, ↓lookupV, keyOk, keyCells, pairG, Tag.cap, List.replicate, allSolid, GVal.solid, Nat.reduceBEq, Nat.reduceMul, Nat.reduceLT, List.length_map, List.length_range, splice, vcA, ↓vcB, vcC, fbFu, e40, kfind_h, hi, hv, solidH, len32, take32]
  · obtain ⟨hi, _⟩ := look_none encB (setM S) h (by rw [look_set, if_neg hx])
    rw [decide_eq_false hx]
    refine h40.calls mixS (by simp) ?_
    simp only [gstart, s40, List.cons_append, List.nil_append, List.length_cons, List.length_nil, Nat.reduceAdd, Nat.reduceSub, List.replicate_succ, List.replicate_zero]
    simp +contextual -implicitDefEqProofs (maxSteps := 2000000) (disch := omega) only [↓loadV, ↓boxV, GVal.cells, grp, GVal.ofConst, ↓resV, resG, List.map, List.headD, List.take, List.drop, ↓reduceIte, Nat.reduceEqDiff, Nat.reduceAdd, Nat.reduceSub, Nat.reduceLeDiff, reduceCtorEq, implies_true, ne_eq, ↓lookupV, keyOk, keyCells, pairG, Tag.cap, List.replicate, allSolid, GVal.solid, Nat.reduceBEq, Nat.reduceMul, Nat.reduceLT, List.length_map, List.length_range, splice, vcA, ↓vcB, vcC, fbFu, e40, kfind_h, hi, solidH, len32, take32]
end Gv.Tryd
/- graph.Remove: its first two loops. -/
set_option linter.unusedVariables false
set_option linter.unusedSimpArgs false
set_option maxRecDepth 20000
set_option maxHeartbeats 4000000
namespace Gv.Tryd
open Go Gv Go.Proofs
def setAdd (S : List Hs) (h : Hs) : List Hs := if h ∈ S then S else S ++ [h]
def setAll (l : List Hs) : List Hs := l.foldl setAdd []
theorem setAdd_mem (S : List Hs) (h x : Hs) : x ∈ setAdd S h ↔ x ∈ S ∨ x = h := by
  unfold setAdd
  split
  · rename_i hm
    exact ⟨.inl, fun q => q.elim id fun e => e ▸ hm⟩
  · simp
theorem setAdd_nd {S : List Hs} (h : Hs) (hn : S.Nodup) : (setAdd S h).Nodup := by
  unfold setAdd
  split
  · exact hn
  · rename_i hm
    exact List.nodup_append.2 ⟨hn, by simp, fun a ha b hb e => hm (by rw [List.mem_singleton.1 hb] at e; exact e ▸ ha)⟩
theorem setFold : ∀ (l S : List Hs), S.Nodup → (l.foldl setAdd S).Nodup ∧ (∀ x, x ∈ l.foldl setAdd S ↔ x ∈ S ∨ x ∈ l) ∧ (l.foldl setAdd S).length ≤ S.length + l.length
  | [], S, h => ⟨h, by simp, by simp⟩
  | a :: r, S, h => by
    obtain ⟨h1, h2, h3⟩ := setFold r (setAdd S a) (setAdd_nd a h)
    refine ⟨h1, fun x => ?_, ?_⟩
    · rw [List.foldl_cons, h2, setAdd_mem]; simp [or_assoc]
    · rw [List.foldl_cons]
      have : (setAdd S a).length ≤ S.length + 1 := by unfold setAdd; split <;> simp
      simp only [List.length_cons]; omega
theorem setAll_len (l : List Hs) : (setAll l).length ≤ l.length := by have := (setFold l [] List.nodup_nil).2.2; rw [List.length_nil, Nat.zero_add] at this; exact this
theorem setAll_snoc (l : List Hs) (h : Hs) : setAll (l ++ [h]) = setAdd (setAll l) h := by simp [setAll]
theorem mset_in : ∀ {S : List Hs} {h : Hs}, h ∈ S → mset (setM S) h true = setM S
  | [], h, hm => by cases hm
  | a :: r, h, hm => by
    rw [show setM (a :: r) = (a, true) :: setM r from rfl, mset]
    by_cases e : h = a
    · rw [if_pos e, e]
    · rw [if_neg e, mset_in ((List.mem_cons.1 hm).resolve_left e)]
theorem mset_add (S : List Hs) (h : Hs) : mset (setM S) h true = setM (setAdd S h) := by
  unfold setAdd
  split
  · exact mset_in (by assumption)
  · exact mset_set S h (by assumption)
theorem rR0 (p0 p1 : GVal) (O : List GObj) : vcS Tryd.prog [] s23_0 (vcN (NW (rS p0 p1 .any .any .any .any .any .any .any .any) O)) (gstart 67 [p0, p1] O) := by
  simp only [gstart, List.cons_append, List.nil_append, List.length_cons, List.length_nil, Nat.reduceAdd, Nat.reduceSub, List.replicate_succ, List.replicate_zero]
  skip
  simp +contextual -implicitDefEqProofs (maxSteps := 2000000) (disch := omega) only [drawC, drawK, keepT, ↓lenV, binV, ↓unV, ↓loadV, ↓storeV, ↓fieldAddrV, ↓indexAddrV, ↓allocV, ↓nilV, ↓ifaceV, GVal.cells, grp, GVal.ofConst, ↓resV, resG, List.map, List.headD, List.take, List.drop, ↓reduceIte, Nat.reduceEqDiff, Nat.reduceAdd, Nat.reduceSub, Nat.reduceLeDiff, reduceCtorEq, implies_true, ne_eq, ↓lookupV, ↓mapUpdateV, ↓deleteV, ↓makeMapV, keyOk, keyCells, pairG, Tag.cap, List.replicate, allSolid, GVal.solid, Nat.reduceBEq, Nat.reduceMul, Nat.reduceLT, List.length_map, List.length_range, splice, vcA, ↓vcB, vcC, fbFu, e23, vcN, NW, leG_any, leG_self, and_true, true_and]
theorem rR1 (p0 p1 : GVal) (st s : Nat) (m : GM) : vcS Tryd.prog [] s23_1 (vcN fun st' => ∃ sg sb, NW (rS p0 p1 (.ptr 3 sb 0 0) .any .any .any .any .any .any .any) (gObj st s m ++ [.map sg [], .row sb 1 [[.map 2 sg]]]) st') ⟨rS p0 p1 .any .any .any .any .any .any .any .any, gObj st s m⟩ := by
  skip
  simp +contextual -implicitDefEqProofs (maxSteps := 2000000) (disch := omega) only [drawC, drawK, keepT, ↓lenV, binV, ↓unV, ↓loadV, ↓storeV, ↓fieldAddrV, ↓indexAddrV, ↓allocV, ↓nilV, ↓ifaceV, GVal.cells, grp, GVal.ofConst, ↓resV, resG, List.map, List.headD, List.take, List.drop, ↓reduceIte, Nat.reduceEqDiff, Nat.reduceAdd, Nat.reduceSub, Nat.reduceLeDiff, reduceCtorEq, implies_true, ne_eq, ↓lookupV, ↓mapUpdateV, ↓deleteV, ↓makeMapV, keyOk, keyCells, pairG, Tag.cap, List.replicate, allSolid, GVal.solid, Nat.reduceBEq, Nat.reduceMul, Nat.reduceLT, List.length_map, List.length_range, splice, vcA, ↓vcB, vcC, fbFu, e23, vcN, NW, leG_any, leG_self, and_true, true_and, rS]
  exact fun sg => ⟨rfl, fun sb => ⟨sg, sb, rfl, by simp [leG_self]⟩⟩
theorem rL1 (m : GM) (st s sg : Nat) (l : List Hs) (t : Tag) (ht : t = .nil → l = []) (hl : l.length ≤ 10000) : vcS Tryd.prog [] s23_9 (vcN (NW (rS (.ptr 0 st 0 0) .any (.ref [.map 2 sg]) .any .any .any .any .any .any .any) (gObj st s m ++ [.map sg (kvG encB (setM (setAll (inM m l))))]))) ⟨rS (.ptr 0 st 0 0) (.slice (hsG l) t) (.ref [.map 2 sg]) .any .any .any .any .any .any .any, gObj st s m ++ [.map sg []]⟩ := by
  have hfl : (inM m l).length ≤ l.length := List.length_filter_le _ _
  have cT := (gThere m st s l t ht (by omega)).keep2 rfl [.map sg []]
  rw [show (l.filter fun h => (look m h).isSome) = inM m l from rfl] at cT
  generalize inM m l = L at *
  skip
  simp +contextual -implicitDefEqProofs (maxSteps := 2000000) (disch := omega) only [drawC, drawK, keepT, ↓lenV, binV, ↓unV, ↓loadV, ↓storeV, ↓fieldAddrV, ↓indexAddrV, ↓allocV, ↓nilV, ↓ifaceV, GVal.cells, grp, GVal.ofConst, ↓resV, resG, List.map, List.headD, List.take, List.drop, ↓reduceIte, Nat.reduceEqDiff, Nat.reduceAdd, Nat.reduceSub, Nat.reduceLeDiff, reduceCtorEq, implies_true, ne_eq, ↓lookupV, ↓mapUpdateV, ↓deleteV, ↓makeMapV, keyOk, keyCells, pairG, Tag.cap, List.replicate, allSolid, GVal.solid, Nat.reduceBEq, Nat.reduceMul, Nat.reduceLT, List.length_map, List.length_range, splice, vcA, ↓vcB, vcC, fbFu, e23, rS]
  refine cT.mono ?_
  rintro g O' ⟨rfl, rfl⟩
  simp +contextual -implicitDefEqProofs (maxSteps := 2000000) (disch := omega) only [drawC, drawK, keepT, ↓lenV, binV, ↓unV, ↓loadV, ↓storeV, ↓fieldAddrV, ↓indexAddrV, ↓allocV, ↓nilV, ↓ifaceV, GVal.cells, grp, GVal.ofConst, ↓resV, resG, List.map, List.headD, List.take, List.drop, ↓reduceIte, Nat.reduceEqDiff, Nat.reduceAdd, Nat.reduceSub, Nat.reduceLeDiff, reduceCtorEq, implies_true, ne_eq, ↓lookupV, ↓mapUpdateV, ↓deleteV, ↓makeMapV, keyOk, keyCells, pairG, Tag.cap, List.replicate, allSolid, GVal.solid, Nat.reduceBEq, Nat.reduceMul, Nat.reduceLT, List.length_map, List.length_range, splice, vcA, ↓vcB, vcC, fbFu, e23, hsG_len]
  refine vcSLoop_by (ι := { k : Nat // k ≤ L.length }) (fun k => ⟨rS (.ptr 0 st 0 0) .any (.ref [.map 2 sg]) (.slice (hsG L) .none) (.int .i64 L.length) (.int .i64 (k.1 : Nat)) .any .any .any .any, gObj st s m ++ [.map sg (kvG encB (setM (setAll (L.take k.1))))]⟩) (fun k => L.length - k.1) ?_ ?_
  · exact Into.first ⟨0, Nat.zero_le _⟩ ⟨[], by simp [kvG, setAll]⟩ (by simp [WL, leG_self, leG_any])
  · rintro ⟨k, hk⟩
    change k ≤ L.length at hk
    by_cases h : k < L.length
    · have d0 : ((k : Int) < (L.length : Int)) = True := eq_true (by omega)
      have eS := hsG_at L k h
      have eT : setAll (L.take (k + 1)) = setAdd (setAll (L.take k)) (L.getD k h0) := by rw [takeH h, setAll_snoc]
      generalize L.getD k h0 = x at *
      generalize setAll (L.take k) = S at *
      have em := mset_add S x
      rw [← eT] at em
      by_cases hx : x ∈ S
      · obtain ⟨i, hi, hv, hw⟩ := look_idx encB (setM S) x true (by rw [look_set, if_pos hx])
        have hw := hw true
        rw [em] at hw
        simp +contextual -implicitDefEqProofs (maxSteps := 2000000) (disch := omega) only [drawC, drawK, keepT, ↓lenV, binV, ↓unV, ↓loadV, ↓storeV, ↓fieldAddrV, ↓indexAddrV, ↓allocV, ↓nilV, ↓ifaceV, GVal.cells, grp, GVal.ofConst, ↓resV, resG, List.map, List.headD, List.take, List.drop, ↓reduceIte, Nat.reduceEqDiff, Nat.reduceAdd, Nat.reduceSub, Nat.reduceLeDiff, reduceCtorEq, implies_true, ne_eq, ↓lookupV, ↓mapUpdateV, ↓deleteV, ↓makeMapV, keyOk, keyCells, pairG, Tag.cap, List.replicate, allSolid, GVal.solid, Nat.reduceBEq, Nat.reduceMul, Nat.reduceLT, List.length_map, List.length_range, splice, vcA, ↓vcB, vcC, fbFu, e23, rS, d0, eS, hsG_len, all_hsG, take32, len32, solidH, kfind_h, hi, hv, hw]
        refine ⟨by omega, fun sb => ?_⟩
        exact Into.at ⟨k + 1, h⟩ (by show _ < _; simp; omega) ⟨[.row sb 32 [bytesG x.1]], by simp⟩ (by simp [WL, leG_self, leG_any, leG_int])
      · obtain ⟨hi, hw⟩ := look_none encB (setM S) x (by rw [look_set, if_neg hx])
        have hw := hw true
        rw [em] at hw
        simp +contextual -implicitDefEqProofs (maxSteps := 2000000) (disch := omega) only [drawC, drawK, keepT, ↓lenV, binV, ↓unV, ↓loadV, ↓storeV, ↓fieldAddrV, ↓indexAddrV, ↓allocV, ↓nilV, ↓ifaceV, GVal.cells, grp, GVal.ofConst, ↓resV, resG, List.map, List.headD, List.take, List.drop, ↓reduceIte, Nat.reduceEqDiff, Nat.reduceAdd, Nat.reduceSub, Nat.reduceLeDiff, reduceCtorEq, implies_true, ne_eq, ↓lookupV, ↓mapUpdateV, ↓deleteV, ↓makeMapV, keyOk, keyCells, pairG, Tag.cap, List.replicate, allSolid, GVal.solid, Nat.reduceBEq, Nat.reduceMul, Nat.reduceLT, List.length_map, List.length_range, splice, vcA, ↓vcB, vcC, fbFu, e23, rS, d0, eS, hsG_len, all_hsG, take32, len32, solidH, kfind_h, hi, hw]
        refine ⟨by omega, fun sb => ?_⟩
        exact Into.at ⟨k + 1, h⟩ (by show _ < _; simp; omega) ⟨[.row sb 32 [bytesG x.1]], by simp⟩ (by simp [WL, leG_self, leG_any, leG_int])
    · have d0 : ((k : Int) < (L.length : Int)) = False := eq_false (by omega)
      rw [List.take_of_length_le (show L.length ≤ k by omega)]
      simp +contextual -implicitDefEqProofs (maxSteps := 2000000) (disch := omega) only [drawC, drawK, keepT, ↓lenV, binV, ↓unV, ↓loadV, ↓storeV, ↓fieldAddrV, ↓indexAddrV, ↓allocV, ↓nilV, ↓ifaceV, GVal.cells, grp, GVal.ofConst, ↓resV, resG, List.map, List.headD, List.take, List.drop, ↓reduceIte, Nat.reduceEqDiff, Nat.reduceAdd, Nat.reduceSub, Nat.reduceLeDiff, reduceCtorEq, implies_true, ne_eq, ↓lookupV, ↓mapUpdateV, ↓deleteV, ↓makeMapV, keyOk, keyCells, pairG, Tag.cap, List.replicate, allSolid, GVal.solid, Nat.reduceBEq, Nat.reduceMul, Nat.reduceLT, List.length_map, List.length_range, splice, vcA, ↓vcB, vcC, fbFu, e23, rS, d0, vcN, NW, leG_any, leG_self, and_true, true_and]
end Gv.Tryd
/- OrderLong: a line of commits: plain laws. -/
set_option linter.unusedVariables false
set_option linter.unusedSimpArgs false
set_option maxRecDepth 20000
namespace Gv.Tryd
open Go Gv Go.Proofs
def hL (k : Nat) : Hs := hq (UInt8.ofNat (k / 256)) (UInt8.ofNat k) 1
def cL (k : Nat) : Cm := (hL k, if k = 0 then [] else [hL (k - 1)])
def seg (a j : Nat) : List Cm := (List.range j).map fun i => cL (a + i)
abbrev chain (n : Nat) : GM := seg 0 n
end Gv.Tryd
/- Commits put into a sorted list; a list with a hash twice. -/
set_option linter.unusedVariables false
set_option linter.unusedSimpArgs false
set_option maxRecDepth 20000
namespace Gv.Tryd
open Go Gv Go.Proofs
theorem sortR_len_le (l : List Hs) : (sortR l).length ≤ l.length :=
  nodup_lenH _ _ (ss_nodup (sortR_ss l)) fun x hx => (sortR_mem l x).1 hx
end Gv.Tryd
/- Plain laws of GraphUnion. -/
set_option linter.unusedVariables false
set_option linter.unusedSimpArgs false
namespace Gv.Tryd
open Go Gv Go.Proofs
def keysS (m : GM) : List Hs := sortR (m.map (·.1))
theorem keysS_mem (m : GM) (z : Hs) : z ∈ keysS m ↔ (look m z).isSome = true := by
  unfold keysS
  rw [sortR_mem]
  exact ⟨key_look, look_key⟩
theorem keysS_len {m : GM} (h : (m.map (·.1)).Nodup) : (keysS m).length ≤ m.length := by
  unfold keysS
  have := sortR_len_le (m.map (·.1))
  rw [List.length_map] at this
  exact this
end Gv.Tryd
/- graph.Remove: may they go? -/
set_option linter.unusedVariables false
set_option linter.unusedSimpArgs false
set_option maxRecDepth 20000
set_option maxHeartbeats 4000000
namespace Gv.Tryd
open Go Gv Go.Proofs
def rmF (m : GM) (S : List Hs) (h : Hs) : Er := if h ∈ S then none else if (parsM m h).any (fun p => decide (p ∈ S)) = true then some (some h, 10) else none
def removeE (m : GM) (S : List Hs) : Er := (keysS m).findSome? (rmF m S)
def rmQ (E : Er) (S : List GVal) (O : List GObj) : Ex → GSt → Prop
  | .normal, st' => E = none ∧ NW S O st'
  | .ret, st' => ∃ X, E ≠ none ∧ st'.o = O ++ X ∧ sget st'.s 4 = errV E
  | .exit _, _ => False
theorem drop_cons_at {l : List Hs} {k : Nat} (h : k < l.length) : l.drop k = l.getD k h0 :: l.drop (k + 1) := by
  rw [List.drop_eq_getElem_cons h]
  simp [List.getD, h]
theorem rL2 (m : GM) (hm : GMOK m) (hk0 : (m.map (·.1)).Nodup) (st s sg : Nat) (S : List Hs) (hS : S.length ≤ 100000) : vcS Tryd.prog [] s23_19 (rmQ (removeE m S) (rS (.ptr 0 st 0 0) .any (.ref [.map 2 sg]) .any .any .any .any .any .any .any) (gObj st s m ++ [.map sg (kvG encB (setM S))])) ⟨rS (.ptr 0 st 0 0) .any (.ref [.map 2 sg]) .any .any .any .any .any .any .any, gObj st s m ++ [.map sg (kvG encB (setM S))]⟩ := by
  have hml := hm.len
  have cH := (L.gHashes11 m (by omega) st s).keep2 rfl [.map sg (kvG encB (setM S))]
  rw [show sortR (m.map (·.1)) = keysS m from rfl] at cH
  have hKl := keysS_len hk0
  obtain ⟨K, eK⟩ : ∃ K, keysS m = K := ⟨_, rfl⟩
  have hKm : ∀ h ∈ K, (look m h).isSome = true := fun h hh => (keysS_mem m h).1 (by rw [eK]; exact hh)
  rw [eK] at cH hKl
  have eR : removeE m S = K.findSome? (rmF m S) := by unfold removeE; rw [eK]
  rw [eR]
  clear eR eK
  skip
  simp +contextual -implicitDefEqProofs (maxSteps := 2000000) (disch := omega) only [drawC, drawK, keepT, ↓lenV, binV, ↓unV, ↓loadV, ↓storeV, ↓fieldAddrV, ↓indexAddrV, ↓allocV, ↓nilV, ↓ifaceV, GVal.cells, grp, GVal.ofConst, ↓resV, resG, List.map, List.headD, List.take, List.drop, ↓reduceIte, Nat.reduceEqDiff, Nat.reduceAdd, Nat.reduceSub, Nat.reduceLeDiff, reduceCtorEq, implies_true, ne_eq, ↓lookupV, ↓mapUpdateV, ↓deleteV, ↓makeMapV, keyOk, keyCells, pairG, Tag.cap, List.replicate, allSolid, GVal.solid, Nat.reduceBEq, Nat.reduceMul, Nat.reduceLT, List.length_map, List.length_range, splice, vcA, ↓vcB, vcC, fbFu, e23, rS]
  refine cH.mono ?_
  rintro g O' ⟨rfl, rfl⟩
  simp +contextual -implicitDefEqProofs (maxSteps := 2000000) (disch := omega) only [drawC, drawK, keepT, ↓lenV, binV, ↓unV, ↓loadV, ↓storeV, ↓fieldAddrV, ↓indexAddrV, ↓allocV, ↓nilV, ↓ifaceV, GVal.cells, grp, GVal.ofConst, ↓resV, resG, List.map, List.headD, List.take, List.drop, ↓reduceIte, Nat.reduceEqDiff, Nat.reduceAdd, Nat.reduceSub, Nat.reduceLeDiff, reduceCtorEq, implies_true, ne_eq, ↓lookupV, ↓mapUpdateV, ↓deleteV, ↓makeMapV, keyOk, keyCells, pairG, Tag.cap, List.replicate, allSolid, GVal.solid, Nat.reduceBEq, Nat.reduceMul, Nat.reduceLT, List.length_map, List.length_range, splice, vcA, ↓vcB, vcC, fbFu, e23, hsG_len]
  refine vcSLoop_by (ι := { k : Nat // k ≤ K.length ∧ K.findSome? (rmF m S) = (K.drop k).findSome? (rmF m S) }) (fun k => ⟨rS (.ptr 0 st 0 0) .any (.ref [.map 2 sg]) .any .any .any (.slice (hsG K) .none) (.int .i64 K.length) (.int .i64 (k.1 : Nat)) .any, gObj st s m ++ [.map sg (kvG encB (setM S))]⟩) (fun k => K.length - k.1) ?_ ?_
  · exact Into.first ⟨0, Nat.zero_le _, by simp⟩ ⟨[], by simp⟩ (by simp [WL, leG_self, leG_any])
  · rintro ⟨k, hk, hf⟩
    change k ≤ K.length at hk
    change K.findSome? (rmF m S) = (K.drop k).findSome? (rmF m S) at hf
    by_cases h : k < K.length
    · have d0 : ((k : Int) < (K.length : Int)) = True := eq_true (by omega)
      have eS := hsG_at K k h
      have eD := drop_cons_at h
      have hin : K.getD k h0 ∈ K := by rw [List.getD_eq_getElem?_getD, List.getElem?_eq_getElem h]; exact List.getElem_mem h
      generalize K.getD k h0 = x at *
      rw [eD, List.findSome?_cons] at hf
      obtain ⟨ps, hps⟩ := Option.isSome_iff_exists.1 (hKm x hin)
      by_cases hx : x ∈ S
      · obtain ⟨i, hi, hv, _⟩ := look_idx encB (setM S) x true (by rw [look_set, if_pos hx])
        have eF : rmF m S x = none := if_pos hx
        rw [eF] at hf
        simp +contextual -implicitDefEqProofs (maxSteps := 2000000) (disch := omega) only [drawC, drawK, keepT, ↓lenV, binV, ↓unV, ↓loadV, ↓storeV, ↓fieldAddrV, ↓indexAddrV, ↓allocV, ↓nilV, ↓ifaceV, GVal.cells, grp, GVal.ofConst, ↓resV, resG, List.map, List.headD, List.take, List.drop, ↓reduceIte, Nat.reduceEqDiff, Nat.reduceAdd, Nat.reduceSub, Nat.reduceLeDiff, reduceCtorEq, implies_true, ne_eq, ↓lookupV, ↓mapUpdateV, ↓deleteV, ↓makeMapV, keyOk, keyCells, pairG, Tag.cap, List.replicate, allSolid, GVal.solid, Nat.reduceBEq, Nat.reduceMul, Nat.reduceLT, List.length_map, List.length_range, splice, vcA, ↓vcB, vcC, fbFu, e23, rS, d0, eS, hsG_len, all_hsG, take32, len32, solidH, kfind_h, hi, hv]
        refine ⟨by omega, fun sb => ?_⟩
        exact Into.at ⟨k + 1, h, hf⟩ (by show _ < _; simp; omega) ⟨[.row sb 32 [bytesG x.1]], by simp⟩ (by simp [WL, leG_self, leG_any, leG_int])
      · obtain ⟨hi, _⟩ := look_none encB (setM S) x (by rw [look_set, if_neg hx])
        obtain ⟨j, hj, hjv, _⟩ := look_idx encL m x ps hps
        have hpl : ps.length ≤ 4 := hm.row _ (look_mem hps)
        have cF := fun X => gContF (caps := [.ref [.map 2 sg]]) (gObj st s m ++ .map sg (kvG encB (setM S)) :: X) rfl (fun p => decide (p ∈ S)) (fun p => gRm1 _ _ X S p sg) ps .none (by omega)
        have ep : parsM m x = ps := by rw [parsM, hps]; rfl
        have eF : rmF m S x = if ps.any (fun p => decide (p ∈ S)) = true then some (some x, 10) else none := by unfold rmF; rw [if_neg hx, ep]
        rw [eF] at hf
        generalize ps.any (fun p => decide (p ∈ S)) = bb at *
        cases bb with
        | false =>
          rw [if_neg (by decide)] at hf
          simp +contextual -implicitDefEqProofs (maxSteps := 2000000) (disch := omega) only [drawC, drawK, keepT, ↓lenV, binV, ↓unV, ↓loadV, ↓storeV, ↓fieldAddrV, ↓indexAddrV, ↓allocV, ↓nilV, ↓ifaceV, GVal.cells, grp, GVal.ofConst, ↓resV, resG, List.map, List.headD, List.take, List.drop, ↓reduceIte, Nat.reduceEqDiff, Nat.reduceAdd, Nat.reduceSub, Nat.reduceLeDiff, reduceCtorEq, implies_true, ne_eq, ↓lookupV, ↓mapUpdateV, ↓deleteV, ↓makeMapV, keyOk, keyCells, pairG, Tag.cap, List.replicate, allSolid, GVal.solid, Nat.reduceBEq, Nat.reduceMul, Nat.reduceLT, List.length_map, List.length_range, splice, vcA, ↓vcB, vcC, fbFu, e23, rS, d0, eS, hsG_len, all_hsG, take32, len32, solidH, kfind_h, hi, hj, hjv]
          refine ⟨by omega, fun sb => ?_⟩
          refine (cF [.row sb 32 [bytesG x.1]]).mono ?_
          rintro g O' ⟨rfl, rfl⟩
          simp +contextual -implicitDefEqProofs (maxSteps := 2000000) (disch := omega) only [drawC, drawK, keepT, ↓lenV, binV, ↓unV, ↓loadV, ↓storeV, ↓fieldAddrV, ↓indexAddrV, ↓allocV, ↓nilV, ↓ifaceV, GVal.cells, grp, GVal.ofConst, ↓resV, resG, List.map, List.headD, List.take, List.drop, ↓reduceIte, Nat.reduceEqDiff, Nat.reduceAdd, Nat.reduceSub, Nat.reduceLeDiff, reduceCtorEq, implies_true, ne_eq, ↓lookupV, ↓mapUpdateV, ↓deleteV, ↓makeMapV, keyOk, keyCells, pairG, Tag.cap, List.replicate, allSolid, GVal.solid, Nat.reduceBEq, Nat.reduceMul, Nat.reduceLT, List.length_map, List.length_range, splice, vcA, ↓vcB, vcC, fbFu, e23]
          exact Into.at ⟨k + 1, h, hf⟩ (by show _ < _; simp; omega) ⟨[.row sb 32 [bytesG x.1]], by simp⟩ (by simp [WL, leG_self, leG_any, leG_int])
        | true =>
          rw [if_pos rfl] at hf
          simp +contextual -implicitDefEqProofs (maxSteps := 2000000) (disch := omega) only [drawC, drawK, keepT, ↓lenV, binV, ↓unV, ↓loadV, ↓storeV, ↓fieldAddrV, ↓indexAddrV, ↓allocV, ↓nilV, ↓ifaceV, GVal.cells, grp, GVal.ofConst, ↓resV, resG, List.map, List.headD, List.take, List.drop, ↓reduceIte, Nat.reduceEqDiff, Nat.reduceAdd, Nat.reduceSub, Nat.reduceLeDiff, reduceCtorEq, implies_true, ne_eq, ↓lookupV, ↓mapUpdateV, ↓deleteV, ↓makeMapV, keyOk, keyCells, pairG, Tag.cap, List.replicate, allSolid, GVal.solid, Nat.reduceBEq, Nat.reduceMul, Nat.reduceLT, List.length_map, List.length_range, splice, vcA, ↓vcB, vcC, fbFu, e23, rS, d0, eS, hsG_len, all_hsG, take32, len32, solidH, kfind_h, hi, hj, hjv]
          refine ⟨by omega, fun sb => ?_⟩
          refine (cF [.row sb 32 [bytesG x.1]]).mono ?_
          rintro g O' ⟨rfl, rfl⟩
          simp +contextual -implicitDefEqProofs (maxSteps := 2000000) (disch := omega) only [drawC, drawK, keepT, ↓lenV, binV, ↓unV, ↓loadV, ↓storeV, ↓fieldAddrV, ↓indexAddrV, ↓allocV, ↓nilV, ↓ifaceV, GVal.cells, grp, GVal.ofConst, ↓resV, resG, List.map, List.headD, List.take, List.drop, ↓reduceIte, Nat.reduceEqDiff, Nat.reduceAdd, Nat.reduceSub, Nat.reduceLeDiff, reduceCtorEq, implies_true, ne_eq, ↓lookupV, ↓mapUpdateV, ↓deleteV, ↓makeMapV, keyOk, keyCells, pairG, Tag.cap, List.replicate, allSolid, GVal.solid, Nat.reduceBEq, Nat.reduceMul, Nat.reduceLT, List.length_map, List.length_range, splice, vcA, ↓vcB, vcC, fbFu, e23, hsG_len, all_hsG, take32, len32, solidH]
          refine (gOf x 10).then ?_ (by rfl)
          simp +contextual -implicitDefEqProofs (maxSteps := 2000000) (disch := omega) only [drawC, drawK, keepT, ↓lenV, binV, ↓unV, ↓loadV, ↓storeV, ↓fieldAddrV, ↓indexAddrV, ↓allocV, ↓nilV, ↓ifaceV, GVal.cells, grp, GVal.ofConst, ↓resV, resG, List.map, List.headD, List.take, List.drop, ↓reduceIte, Nat.reduceEqDiff, Nat.reduceAdd, Nat.reduceSub, Nat.reduceLeDiff, reduceCtorEq, implies_true, ne_eq, ↓lookupV, ↓mapUpdateV, ↓deleteV, ↓makeMapV, keyOk, keyCells, pairG, Tag.cap, List.replicate, allSolid, GVal.solid, Nat.reduceBEq, Nat.reduceMul, Nat.reduceLT, List.length_map, List.length_range, splice, vcA, ↓vcB, vcC, fbFu, e23, rmQ]
          exact ⟨[.row sb 32 [bytesG x.1]], by rw [hf]; simp, rfl, by rw [hf]; rfl⟩
    · have d0 : ((k : Int) < (K.length : Int)) = False := eq_false (by omega)
      rw [List.drop_of_length_le (show K.length ≤ k by omega)] at hf
      simp +contextual -implicitDefEqProofs (maxSteps := 2000000) (disch := omega) only [drawC, drawK, keepT, ↓lenV, binV, ↓unV, ↓loadV, ↓storeV, ↓fieldAddrV, ↓indexAddrV, ↓allocV, ↓nilV, ↓ifaceV, GVal.cells, grp, GVal.ofConst, ↓resV, resG, List.map, List.headD, List.take, List.drop, ↓reduceIte, Nat.reduceEqDiff, Nat.reduceAdd, Nat.reduceSub, Nat.reduceLeDiff, reduceCtorEq, implies_true, ne_eq, ↓lookupV, ↓mapUpdateV, ↓deleteV, ↓makeMapV, keyOk, keyCells, pairG, Tag.cap, List.replicate, allSolid, GVal.solid, Nat.reduceBEq, Nat.reduceMul, Nat.reduceLT, List.length_map, List.length_range, splice, vcA, ↓vcB, vcC, fbFu, e23, rS, d0, rmQ, NW, leG_any, leG_self, and_true, true_and]
      exact hf
end Gv.Tryd
/- Some of the objects, in another order. -/
set_option linter.unusedVariables false
namespace Gv
open Go
theorem HSim.pick {E : Env} {O X : List GObj} {w : World} (h : HSim E O w) (pl : List Nat) (hX : Fits O pl X) (hnd : pl.Nodup) (hc : clockOf X = none) : HSim E X w ∧ Keep E O w E X w := by
  have hpl : ∀ {i j k : Nat}, pl[i]? = some k → pl[j]? = some k → i = j := fun {i j k} hi hj => by
    obtain ⟨h1, e1⟩ := List.getElem?_eq_some_iff.1 hi
    obtain ⟨h2, e2⟩ := List.getElem?_eq_some_iff.1 hj
    have hp := List.pairwise_iff_getElem.1 hnd
    rcases Nat.lt_trichotomy i j with q | q | q
    · exact absurd (e1.trans e2.symm) (hp i j h1 h2 q)
    · exact q
    · exact absurd (e2.trans e1.symm) (hp j i h2 h1 q)
  refine ⟨⟨?_, h.sealed, h.one, fun i x hx => ?_, fun i j oi oj b hij hi hj hbi hbj => ?_, h.glob⟩, ⟨.refl E, rfl, rfl, Nat.le_refl _, fun _ _ _ => rfl, fun _ _ _ hv => .inl hv, fun b ⟨i, x, hx, hb⟩ => ?_, trivial⟩⟩
  · obtain ⟨n, _, q⟩ := h.fin
    exact ⟨n, (fun c e => by rw [hc] at e; cases e), q⟩
  · obtain ⟨j, y, _, hy, hle⟩ := hX.at_ i x hx
    exact hle.real E w (h.real j y hy)
  · obtain ⟨i', yi, pi, hyi, li⟩ := hX.at_ i oi hi
    obtain ⟨j', yj, pj, hyj, lj⟩ := hX.at_ j oj hj
    rw [li.blk] at hbi
    rw [lj.blk] at hbj
    refine h.sep i' j' yi yj b (fun e => hij ?_) hyi hyj hbi hbj
    rw [e] at pi
    exact hpl pi pj
  · obtain ⟨j, y, _, hy, hle⟩ := hX.at_ i x hx
    exact .inl ⟨j, y, hy, by rw [← hle.blk]; exact hb⟩
end Gv
/- graph.Remove: the contract. -/
set_option linter.unusedVariables false
set_option linter.unusedSimpArgs false
set_option maxRecDepth 20000
set_option maxHeartbeats 4000000
namespace Gv.Tryd
open Go Gv Go.Proofs
def mdel : GM → Hs → GM
  | [], _ => []
  | p :: r, h => if h = p.1 then r else p :: mdel r h
theorem mdel_at : ∀ (M : GM) (h : Hs) (i : Nat), idxM M h = some i → (kvG encL M).eraseIdx i = kvG encL (mdel M h)
  | [], h, i, e => by cases e
  | p :: r, h, i, e => by
    rw [idxM] at e
    rw [mdel]
    by_cases hp : h = p.1
    · rw [if_pos hp] at e ⊢
      cases e
      rfl
    · rw [if_neg hp] at e ⊢
      cases hi : idxM r h with
      | none => rw [hi] at e; cases e
      | some j =>
        rw [hi] at e
        cases e
        have := mdel_at r h j hi
        simp only [kvG, List.map_cons, List.eraseIdx_cons_succ] at this ⊢
        rw [this]
theorem mdel_no : ∀ (M : GM) (h : Hs), idxM M h = none → mdel M h = M
  | [], h, e => rfl
  | p :: r, h, e => by
    rw [idxM] at e
    rw [mdel]
    by_cases hp : h = p.1
    · rw [if_pos hp] at e; cases e
    · rw [if_neg hp] at e ⊢
      cases hi : idxM r h with
      | none => rw [mdel_no r h hi]
      | some j => rw [hi] at e; cases e
theorem mdel_filter : ∀ (M : GM) (h : Hs), (M.map (·.1)).Nodup → mdel M h = M.filter fun p => !decide (p.1 = h)
  | [], h, _ => rfl
  | p :: r, h, hn => by
    rw [List.map_cons, List.nodup_cons] at hn
    rw [mdel]
    by_cases hp : h = p.1
    · have : (r.filter fun q => !decide (q.1 = h)) = r := List.filter_eq_self.2 fun q hq => by
        have : q.1 ≠ h := fun e => hn.1 (by rw [← hp, ← e]; exact List.mem_map_of_mem hq)
        simp [this]
      rw [if_pos hp, List.filter_cons, this]
      simp [hp]
    · have hp' : ¬ p.1 = h := fun e => hp e.symm
      rw [if_neg hp, mdel_filter r h hn.2, List.filter_cons]
      simp [hp']
def dropM (m : GM) (S : List Hs) : GM := m.filter fun p => !decide (p.1 ∈ S)
theorem dropM_nd {m : GM} (h : (m.map (·.1)).Nodup) (S : List Hs) : ((dropM m S).map (·.1)).Nodup := h.sublist (List.Sublist.map _ List.filter_sublist)
theorem dropM_snoc {m : GM} (hm : (m.map (·.1)).Nodup) (S : List Hs) (h : Hs) : mdel (dropM m S) h = dropM m (S ++ [h]) := by
  rw [mdel_filter _ _ (dropM_nd hm S), dropM, dropM, List.filter_filter]
  refine List.filter_congr fun p _ => ?_
  by_cases a : p.1 = h <;> by_cases b : p.1 ∈ S <;> simp [a, b]
theorem dropM_perm {m : GM} {S T : List Hs} (h : ∀ x, x ∈ S ↔ x ∈ T) : dropM m S = dropM m T := List.filter_congr fun p _ => by rw [decide_eq_decide.2 (h p.1)]
def removeM (m : GM) (S : List Hs) : GM := match removeE m S with
  | some _ => m
  | none => dropM m S
abbrev C23 : Cfg := cfgOf h23
structure VCs (P : Program) (R : List Nat) (s : SCode) (Q : Ex → GSt → Prop) (st : GSt) : Prop where
  ok : vcS P R s Q st
theorem wp_partV {P : Program} {E : Env} {st : GSt} {a : Act} {w : World} {C : Cfg} (hmix : P.follows .mixedOrders = true) {c : Code} {s : SCode} (hs : slim C c = some s) (hc : codeOk C c = true) (h : HSim E st.o w) (ha : SlotsR E a st.s) {N : GSt → Prop} (hv : VCs P C.ro s (vcN N) st) {Q : Exit → Act → World → Prop}
    (hn : ∀ st' E' a' w', HSim E' st'.o w' → Keep E st.o w E' st'.o w' → SlotsR E' a' st'.s → N st' → Q .normal a' w') : c.wp P Q a w := wp_part hmix hs hc h ha hv.ok hn
theorem rR20 (m : GM) (st s sg : Nat) (kv : List (GVal × GVal)) : VCs Tryd.prog [] s23_20 (vcN fun st' => ∃ s', NW (rS (.ptr 0 st 0 0) .any (.ref [.map 2 sg]) .any .any .any .any .any .any .any) [.row st 1 [[.map 3 s']], .map s (kvG encL m), .map sg kv, .map s' (kvG encL m)] st') ⟨rS (.ptr 0 st 0 0) .any (.ref [.map 2 sg]) .any .any .any .any .any .any .any, gObj st s m ++ [.map sg kv]⟩ := by
  refine ⟨?_⟩
  have cC := cMapClone (O := gObj st s m ++ [.map sg kv]) (o := 1) (st := s) (kv := kvG encL m) rfl rfl
  skip
  simp +contextual -implicitDefEqProofs (maxSteps := 2000000) (disch := omega) only [drawC, drawK, keepT, ↓lenV, binV, ↓unV, ↓loadV, ↓storeV, ↓fieldAddrV, ↓indexAddrV, ↓allocV, ↓nilV, ↓ifaceV, GVal.cells, grp, GVal.ofConst, ↓resV, resG, List.map, List.headD, List.take, List.drop, ↓reduceIte, Nat.reduceEqDiff, Nat.reduceAdd, Nat.reduceSub, Nat.reduceLeDiff, reduceCtorEq, implies_true, ne_eq, ↓lookupV, ↓mapUpdateV, ↓deleteV, ↓makeMapV, keyOk, keyCells, pairG, Tag.cap, List.replicate, allSolid, GVal.solid, Nat.reduceBEq, Nat.reduceMul, Nat.reduceLT, List.length_map, List.length_range, splice, vcA, ↓vcB, vcC, fbFu, e23, rS]
  refine cC.mono ?_
  rintro g O' ⟨s', rfl, rfl⟩
  simp +contextual -implicitDefEqProofs (maxSteps := 2000000) (disch := omega) only [drawC, drawK, keepT, ↓lenV, binV, ↓unV, ↓loadV, ↓storeV, ↓fieldAddrV, ↓indexAddrV, ↓allocV, ↓nilV, ↓ifaceV, GVal.cells, grp, GVal.ofConst, ↓resV, resG, List.map, List.headD, List.take, List.drop, ↓reduceIte, Nat.reduceEqDiff, Nat.reduceAdd, Nat.reduceSub, Nat.reduceLeDiff, reduceCtorEq, implies_true, ne_eq, ↓lookupV, ↓mapUpdateV, ↓deleteV, ↓makeMapV, keyOk, keyCells, pairG, Tag.cap, List.replicate, allSolid, GVal.solid, Nat.reduceBEq, Nat.reduceMul, Nat.reduceLT, List.length_map, List.length_range, splice, vcA, ↓vcB, vcC, fbFu, e23, vcN, NW, leG_any, leG_self, and_true, true_and]
  exact ⟨s', rfl⟩
theorem rR21 (p0 p1 : GVal) (sg : Nat) (O : List GObj) : opsS Tryd.prog [] [(.mk (some 56) (.load 77 (.tmp 5)) none)] (NW ((rS p0 p1 .any .any .any .any .any .any .any .any).set 56 (.map 2 sg)) O) ⟨rS p0 p1 (.ref [.map 2 sg]) .any .any .any .any .any .any .any, O⟩ := by
  skip
  simp +contextual -implicitDefEqProofs (maxSteps := 2000000) (disch := omega) only [drawC, drawK, keepT, ↓lenV, binV, ↓unV, ↓loadV, ↓storeV, ↓fieldAddrV, ↓indexAddrV, ↓allocV, ↓nilV, ↓ifaceV, GVal.cells, grp, GVal.ofConst, ↓resV, resG, List.map, List.headD, List.take, List.drop, ↓reduceIte, Nat.reduceEqDiff, Nat.reduceAdd, Nat.reduceSub, Nat.reduceLeDiff, reduceCtorEq, implies_true, ne_eq, ↓lookupV, ↓mapUpdateV, ↓deleteV, ↓makeMapV, keyOk, keyCells, pairG, Tag.cap, List.replicate, allSolid, GVal.solid, Nat.reduceBEq, Nat.reduceMul, Nat.reduceLT, List.length_map, List.length_range, splice, vcA, ↓vcB, vcC, fbFu, e23, rS, NW, leG_any, leG_self, and_true, true_and]
theorem rR22 (p0 p1 x57 : GVal) (b : Bool) (r : List GVal) (O : List GObj) : opsS Tryd.prog [] [(.mk (some 59) (.extract (.tmp 58) 0) none)] (NW ((rS p0 p1 .any .any .any .any .any .any .any x57).set 59 (.bool b)) O) ⟨(rS p0 p1 .any .any .any .any .any .any .any x57).set 58 (.tuple (.bool b :: r)), O⟩ := by
  skip
  simp +contextual -implicitDefEqProofs (maxSteps := 2000000) (disch := omega) only [drawC, drawK, keepT, ↓lenV, binV, ↓unV, ↓loadV, ↓storeV, ↓fieldAddrV, ↓indexAddrV, ↓allocV, ↓nilV, ↓ifaceV, GVal.cells, grp, GVal.ofConst, ↓resV, resG, List.map, List.headD, List.take, List.drop, ↓reduceIte, Nat.reduceEqDiff, Nat.reduceAdd, Nat.reduceSub, Nat.reduceLeDiff, reduceCtorEq, implies_true, ne_eq, ↓lookupV, ↓mapUpdateV, ↓deleteV, ↓makeMapV, keyOk, keyCells, pairG, Tag.cap, List.replicate, allSolid, GVal.solid, Nat.reduceBEq, Nat.reduceMul, Nat.reduceLT, List.length_map, List.length_range, splice, vcA, ↓vcB, vcC, fbFu, e23, rS, NW, leG_any, leG_self, and_true, true_and]
theorem rR23 (p0 p1 x57 y : GVal) (h : Hs) (O : List GObj) (hst : ∀ K : Nat → Prop, stamp O K = ∀ st, K st) (htk : tickO O = O) : opsS Tryd.prog [] [(.mk (some 61) (.extract (.tmp 60) 0) none), (.mk (some 10) (.alloc 40) none), (.mk none (.store 40 (.tmp 10) (.tmp 61)) none)]
    (fun st' => ∃ v, NW ((rS p0 p1 .any .any .any .any .any .any .any x57).set 10 (.ptr O.length v 0 0)) (O ++ [.row v 32 [bytesG h.1]]) st') ⟨(rS p0 p1 .any .any .any .any .any .any .any x57).set 60 (.tuple [.agg (bytesG h.1), y]), O⟩ := by
  have hO : ∀ x : GObj, (O ++ [x])[O.length]? = some x := fun x => by simp
  have hS : ∀ x y : GObj, (O ++ [x]).set O.length y = O ++ [y] := fun x y => by simp
  skip
  simp +contextual -implicitDefEqProofs (maxSteps := 2000000) (disch := omega) only [drawC, drawK, keepT, ↓lenV, binV, ↓unV, ↓loadV, ↓storeV, ↓fieldAddrV, ↓indexAddrV, ↓allocV, ↓nilV, ↓ifaceV, GVal.cells, grp, GVal.ofConst, ↓resV, resG, List.map, List.headD, List.take, List.drop, ↓reduceIte, Nat.reduceEqDiff, Nat.reduceAdd, Nat.reduceSub, Nat.reduceLeDiff, reduceCtorEq, implies_true, ne_eq, ↓lookupV, ↓mapUpdateV, ↓deleteV, ↓makeMapV, keyOk, keyCells, pairG, Tag.cap, List.replicate, allSolid, GVal.solid, Nat.reduceBEq, Nat.reduceMul, Nat.reduceLT, List.length_map, List.length_range, splice, vcA, ↓vcB, vcC, fbFu, e23, NW, leG_any, leG_self, and_true, true_and, rS, hst, htk, hO, hS, len32, take32, solidH]
  first
    | exact fun v => ⟨v, rfl, by rw [leG_self]; trivial⟩
    | exact fun v => ⟨v, rfl⟩
theorem rR24 (p1 x57 : GVal) (h : Hs) (st v s' : Nat) (r1 : GObj) (M : GM) : vcS Tryd.prog [] s23_24 (vcN (NW (rS (.ptr 0 st 0 0) p1 .any .any .any .any .any .any .any x57) [.row st 1 [[.map 3 s']], r1, .dead, .map s' (kvG encL (mdel M h)), .row v 32 [bytesG h.1]])) ⟨(rS (.ptr 0 st 0 0) p1 .any .any .any .any .any .any .any x57).set 10 (.ptr 4 v 0 0), [.row st 1 [[.map 3 s']], r1, .dead, .map s' (kvG encL M), .row v 32 [bytesG h.1]]⟩ := by
  cases hi : idxM M h with
  | some i =>
    have e := mdel_at M h i hi
    skip
    simp +contextual -implicitDefEqProofs (maxSteps := 2000000) (disch := omega) only [drawC, drawK, keepT, ↓lenV, binV, ↓unV, ↓loadV, ↓storeV, ↓fieldAddrV, ↓indexAddrV, ↓allocV, ↓nilV, ↓ifaceV, GVal.cells, grp, GVal.ofConst, ↓resV, resG, List.map, List.headD, List.take, List.drop, ↓reduceIte, Nat.reduceEqDiff, Nat.reduceAdd, Nat.reduceSub, Nat.reduceLeDiff, reduceCtorEq, implies_true, ne_eq, ↓lookupV, ↓mapUpdateV, ↓deleteV, ↓makeMapV, keyOk, keyCells, pairG, Tag.cap, List.replicate, allSolid, GVal.solid, Nat.reduceBEq, Nat.reduceMul, Nat.reduceLT, List.length_map, List.length_range, splice, vcA, ↓vcB, vcC, fbFu, e23, vcN, NW, leG_any, leG_self, and_true, true_and, rS, len32, take32, solidH, kfind_h, hi, e]
  | none =>
    have e := mdel_no M h hi
    rw [e]
    skip
    simp +contextual -implicitDefEqProofs (maxSteps := 2000000) (disch := omega) only [drawC, drawK, keepT, ↓lenV, binV, ↓unV, ↓loadV, ↓storeV, ↓fieldAddrV, ↓indexAddrV, ↓allocV, ↓nilV, ↓ifaceV, GVal.cells, grp, GVal.ofConst, ↓resV, resG, List.map, List.headD, List.take, List.drop, ↓reduceIte, Nat.reduceEqDiff, Nat.reduceAdd, Nat.reduceSub, Nat.reduceLeDiff, reduceCtorEq, implies_true, ne_eq, ↓lookupV, ↓mapUpdateV, ↓deleteV, ↓makeMapV, keyOk, keyCells, pairG, Tag.cap, List.replicate, allSolid, GVal.solid, Nat.reduceBEq, Nat.reduceMul, Nat.reduceLT, List.length_map, List.length_range, splice, vcA, ↓vcB, vcC, fbFu, e23, vcN, NW, leG_any, leG_self, and_true, true_and, rS, len32, take32, solidH, kfind_h, hi]
end Gv.Tryd
/- graph.Descendants, the ghost parts of its walk. -/
set_option linter.unusedVariables false
set_option linter.unusedSimpArgs false
set_option maxRecDepth 20000
set_option maxHeartbeats 4000000
namespace Gv.Tryd
open Go Gv Go.Proofs
abbrev dS (p0 p1 x5 x6 x7 x9 x15 x21 x22 x23 : GVal) : List GVal := [p0, p1, .any, .any, .any, x5, x6, x7, .any, x9, .any, .any, .any, .any, .any, x15, .any, .any, .any, .any, .any, x21, x22, x23, .any, .any, .any, .any, .any, .any, .any, .any, .any, .any, .any, .any, .any, .any, .any, .any, .any, .any]
theorem dR0 (p0 p1 : GVal) (O : List GObj) : vcS Tryd.prog [] s21_0 (vcN (NW (dS p0 p1 .any .any .any .any .any .any .any .any) O)) (gstart 42 [p0, p1] O) := by
  simp only [gstart, List.cons_append, List.nil_append, List.length_cons, List.length_nil, Nat.reduceAdd, Nat.reduceSub, List.replicate_succ, List.replicate_zero]
  skip
  simp +contextual -implicitDefEqProofs (maxSteps := 2000000) (disch := omega) only [↓lenV, binV, optV, ↓loadV, ↓storeV, ↓fieldAddrV, ↓indexAddrV, ↓allocV, ↓buildSliceV, ↓sliceV, ↓nilV, ↓appendV, ↓srcV, bound, cutTag, hiTag, fillE, GVal.cells, grp, GVal.ofConst, ↓resV, resG, List.map, List.headD, List.take, List.drop, ↓reduceIte, Nat.reduceEqDiff, Nat.reduceAdd, Nat.reduceSub, Nat.reduceLeDiff, reduceCtorEq, implies_true, ne_eq, ↓asrcV, ↓makeMapV, Tag.cap, List.replicate, allSolid, GVal.solid, Nat.reduceBEq, Nat.reduceMul, Nat.reduceLT, List.length_map, List.length_range, splice, vcA, ↓vcB, vcC, fbFu, e21, vcN, NW, leG_any, leG_self, and_true, true_and]
  try trivial
theorem dR1 (p0 p1 : GVal) (r0 : GObj) (hst : ∀ (r : List GObj) (K : Nat → Prop), stamp (r0 :: r) K = ∀ st, K st) (htk : ∀ r : List GObj, tickO (r0 :: r) = r0 :: r) : vcS Tryd.prog [] s21_1 (vcN fun st' => ∃ stC stb, NW (dS p0 p1 (.ptr 3 stb 0 0) .any .any .any .any .any .any .any) ([r0, .dead, .map stC [], .row stb 1 [[.map 2 stC]]]) st') ⟨dS p0 p1 .any .any .any .any .any .any .any .any, [r0, .dead]⟩ := by
  skip
  simp +contextual -implicitDefEqProofs (maxSteps := 2000000) (disch := omega) only [↓lenV, binV, optV, ↓loadV, ↓storeV, ↓fieldAddrV, ↓indexAddrV, ↓allocV, ↓buildSliceV, ↓sliceV, ↓nilV, ↓appendV, ↓srcV, bound, cutTag, hiTag, fillE, GVal.cells, grp, GVal.ofConst, ↓resV, resG, List.map, List.headD, List.take, List.drop, ↓reduceIte, Nat.reduceEqDiff, Nat.reduceAdd, Nat.reduceSub, Nat.reduceLeDiff, reduceCtorEq, implies_true, ne_eq, ↓asrcV, ↓makeMapV, Tag.cap, List.replicate, allSolid, GVal.solid, Nat.reduceBEq, Nat.reduceMul, Nat.reduceLT, List.length_map, List.length_range, splice, vcA, ↓vcB, vcC, fbFu, e21, hst, htk, vcN, NW, leG_any, leG_self, and_true, true_and, dS]
  exact fun stC => ⟨rfl, fun stb => ⟨stC, stb, rfl, by simp [leG_self]⟩⟩
theorem dR2 (p1 x5 : GVal) (st s : Nat) (X : List GObj) : opsS Tryd.prog [] [(.mk (some 11) (.move (.tmp 0)) none), (.mk (some 12) (.nilCheck (.tmp 11)) none), (.mk (some 13) (.fieldAddr 64 (.tmp 12) 0) none), (.mk (some 14) (.load 62 (.tmp 13)) none)]
    (NW ((dS (.ptr 0 st 0 0) p1 x5 .any .any .any .any .any .any .any).set 14 (.map 1 s)) (.row st 1 [[.map 1 s]] :: X)) ⟨dS (.ptr 0 st 0 0) p1 x5 .any .any .any .any .any .any .any, .row st 1 [[.map 1 s]] :: X⟩ := by
  skip
  simp +contextual -implicitDefEqProofs (maxSteps := 2000000) (disch := omega) only [↓lenV, binV, optV, ↓loadV, ↓storeV, ↓fieldAddrV, ↓indexAddrV, ↓allocV, ↓buildSliceV, ↓sliceV, ↓nilV, ↓appendV, ↓srcV, bound, cutTag, hiTag, fillE, GVal.cells, grp, GVal.ofConst, ↓resV, resG, List.map, List.headD, List.take, List.drop, ↓reduceIte, Nat.reduceEqDiff, Nat.reduceAdd, Nat.reduceSub, Nat.reduceLeDiff, reduceCtorEq, implies_true, ne_eq, ↓asrcV, ↓makeMapV, Tag.cap, List.replicate, allSolid, GVal.solid, Nat.reduceBEq, Nat.reduceMul, Nat.reduceLT, List.length_map, List.length_range, splice, vcA, ↓vcB, vcC, fbFu, e21, NW, leG_any, leG_self, and_true, true_and, dS]
  try trivial
theorem dR3 (p0 p1 x5 x15 : GVal) (b : Bool) (k v : GVal) (O : List GObj) : opsS Tryd.prog [] [(.mk (some 17) (.extract (.tmp 16) 0) none)]
    (NW ((dS p0 p1 x5 .any .any .any x15 .any .any .any).set 17 (.bool b)) O) ⟨(dS p0 p1 x5 .any .any .any x15 .any .any .any).set 16 (.tuple [.bool b, k, v]), O⟩ := by
  skip
  simp +contextual -implicitDefEqProofs (maxSteps := 2000000) (disch := omega) only [↓lenV, binV, optV, ↓loadV, ↓storeV, ↓fieldAddrV, ↓indexAddrV, ↓allocV, ↓buildSliceV, ↓sliceV, ↓nilV, ↓appendV, ↓srcV, bound, cutTag, hiTag, fillE, GVal.cells, grp, GVal.ofConst, ↓resV, resG, List.map, List.headD, List.take, List.drop, ↓reduceIte, Nat.reduceEqDiff, Nat.reduceAdd, Nat.reduceSub, Nat.reduceLeDiff, reduceCtorEq, implies_true, ne_eq, ↓asrcV, ↓makeMapV, Tag.cap, List.replicate, allSolid, GVal.solid, Nat.reduceBEq, Nat.reduceMul, Nat.reduceLT, List.length_map, List.length_range, splice, vcA, ↓vcB, vcC, fbFu, e21, NW, leG_any, leG_self, and_true, true_and, dS]
  try trivial
theorem dR3' (p0 p1 x5 x15 : GVal) (b : Bool) (O : List GObj) : opsS Tryd.prog [] [(.mk (some 17) (.extract (.tmp 16) 0) none)]
    (NW ((dS p0 p1 x5 .any .any .any x15 .any .any .any).set 17 (.bool b)) O) ⟨(dS p0 p1 x5 .any .any .any x15 .any .any .any).set 16 (.tuple [.bool b]), O⟩ := by
  skip
  simp +contextual -implicitDefEqProofs (maxSteps := 2000000) (disch := omega) only [↓lenV, binV, optV, ↓loadV, ↓storeV, ↓fieldAddrV, ↓indexAddrV, ↓allocV, ↓buildSliceV, ↓sliceV, ↓nilV, ↓appendV, ↓srcV, bound, cutTag, hiTag, fillE, GVal.cells, grp, GVal.ofConst, ↓resV, resG, List.map, List.headD, List.take, List.drop, ↓reduceIte, Nat.reduceEqDiff, Nat.reduceAdd, Nat.reduceSub, Nat.reduceLeDiff, reduceCtorEq, implies_true, ne_eq, ↓asrcV, ↓makeMapV, Tag.cap, List.replicate, allSolid, GVal.solid, Nat.reduceBEq, Nat.reduceMul, Nat.reduceLT, List.length_map, List.length_range, splice, vcA, ↓vcB, vcC, fbFu, e21, NW, leG_any, leG_self, and_true, true_and, dS]
  try trivial
theorem dR4 (p0 p1 x5 x15 : GVal) (h : Hs) (ps : List Hs) (O : List GObj) (hst : ∀ K : Nat → Prop, stamp O K = ∀ st, K st) (htk : tickO O = O) : opsS Tryd.prog [] [(.mk (some 19) (.extract (.tmp 18) 0) none), (.mk (some 20) (.extract (.tmp 18) 1) none), (.mk (some 6) (.alloc 40) none), (.mk none (.store 40 (.tmp 6) (.tmp 19)) none), (.mk (some 7) (.assign (.tmp 20)) none)]
    (fun st' => ∃ v, NW (dS p0 p1 x5 (.ptr O.length v 0 0) (.slice (hsG ps) .none) .any x15 .any .any .any) (O ++ [.row v 32 [bytesG h.1]]) st') ⟨(dS p0 p1 x5 .any .any .any x15 .any .any .any).set 18 (.tuple [.agg (bytesG h.1), .slice (hsG ps) .none]), O⟩ := by
  have hO : ∀ x : GObj, (O ++ [x])[O.length]? = some x := fun x => by simp
  have hS : ∀ x y : GObj, (O ++ [x]).set O.length y = O ++ [y] := fun x y => by simp
  skip
  simp +contextual -implicitDefEqProofs (maxSteps := 2000000) (disch := omega) only [↓lenV, binV, optV, ↓loadV, ↓storeV, ↓fieldAddrV, ↓indexAddrV, ↓allocV, ↓buildSliceV, ↓sliceV, ↓nilV, ↓appendV, ↓srcV, bound, cutTag, hiTag, fillE, GVal.cells, grp, GVal.ofConst, ↓resV, resG, List.map, List.headD, List.take, List.drop, ↓reduceIte, Nat.reduceEqDiff, Nat.reduceAdd, Nat.reduceSub, Nat.reduceLeDiff, reduceCtorEq, implies_true, ne_eq, ↓asrcV, ↓makeMapV, Tag.cap, List.replicate, allSolid, GVal.solid, Nat.reduceBEq, Nat.reduceMul, Nat.reduceLT, List.length_map, List.length_range, splice, vcA, ↓vcB, vcC, fbFu, e21, NW, leG_any, leG_self, and_true, true_and, dS, hst, htk, hO, hS, len32, take32, solidH]
  first
    | exact fun v => ⟨v, rfl, by simp [leG_self]⟩
    | exact fun v => ⟨v, rfl⟩
theorem dR5 (p0 p1 x5 x6 x15 : GVal) (ps : List Hs) (O : List GObj) : vcS Tryd.prog [] s21_5 (vcN (NW (dS p0 p1 x5 x6 .any .any x15 (.slice (hsG ps) .none) (.int .i64 ps.length) (.int .i64 0)) O)) ⟨dS p0 p1 x5 x6 (.slice (hsG ps) .none) .any x15 .any .any .any, O⟩ := by
  skip
  simp +contextual -implicitDefEqProofs (maxSteps := 2000000) (disch := omega) only [↓lenV, binV, optV, ↓loadV, ↓storeV, ↓fieldAddrV, ↓indexAddrV, ↓allocV, ↓buildSliceV, ↓sliceV, ↓nilV, ↓appendV, ↓srcV, bound, cutTag, hiTag, fillE, GVal.cells, grp, GVal.ofConst, ↓resV, resG, List.map, List.headD, List.take, List.drop, ↓reduceIte, Nat.reduceEqDiff, Nat.reduceAdd, Nat.reduceSub, Nat.reduceLeDiff, reduceCtorEq, implies_true, ne_eq, ↓asrcV, ↓makeMapV, Tag.cap, List.replicate, allSolid, GVal.solid, Nat.reduceBEq, Nat.reduceMul, Nat.reduceLT, List.length_map, List.length_range, splice, vcA, ↓vcB, vcC, fbFu, e21, vcN, NW, leG_any, leG_self, and_true, true_and, dS, hsG_len]
  try trivial
theorem dR6 (p0 p1 x5 x6 x15 x21 : GVal) (k n : Nat) (O : List GObj) : vcS Tryd.prog [] s21_6 (vcN (NW ((dS p0 p1 x5 x6 .any .any x15 x21 (.int .i64 n) (.int .i64 k)).set 24 (.bool (decide (k < n)))) O)) ⟨dS p0 p1 x5 x6 .any .any x15 x21 (.int .i64 n) (.int .i64 k), O⟩ := by
  have d0 : decide ((k : Int) < (n : Int)) = decide (k < n) := by simp
  skip
  simp +contextual -implicitDefEqProofs (maxSteps := 2000000) (disch := omega) only [↓lenV, binV, optV, ↓loadV, ↓storeV, ↓fieldAddrV, ↓indexAddrV, ↓allocV, ↓buildSliceV, ↓sliceV, ↓nilV, ↓appendV, ↓srcV, bound, cutTag, hiTag, fillE, GVal.cells, grp, GVal.ofConst, ↓resV, resG, List.map, List.headD, List.take, List.drop, ↓reduceIte, Nat.reduceEqDiff, Nat.reduceAdd, Nat.reduceSub, Nat.reduceLeDiff, reduceCtorEq, implies_true, ne_eq, ↓asrcV, ↓makeMapV, Tag.cap, List.replicate, allSolid, GVal.solid, Nat.reduceBEq, Nat.reduceMul, Nat.reduceLT, List.length_map, List.length_range, splice, vcA, ↓vcB, vcC, fbFu, e21, vcN, NW, leG_any, leG_self, and_true, true_and, dS, d0]
  try trivial
theorem dR7 (p0 p1 x5 x6 x15 x22 : GVal) (ps : List Hs) (k : Nat) (hk : k < ps.length) (p : Hs) (hp : ps.getD k h0 = p) (O : List GObj) (hst : ∀ K : Nat → Prop, stamp O K = ∀ st, K st) (htk : tickO O = O) : vcS Tryd.prog [] s21_7
    (vcN fun st' => ∃ v, NW (dS p0 p1 x5 x6 .any (.ptr O.length v 0 0) x15 (.slice (hsG ps) .none) x22 (.int .i64 k)) (O ++ [.row v 32 [bytesG p.1]]) st') ⟨dS p0 p1 x5 x6 .any .any x15 (.slice (hsG ps) .none) x22 (.int .i64 k), O⟩ := by
  have hO : ∀ x : GObj, (O ++ [x])[O.length]? = some x := fun x => by simp
  have hS : ∀ x y : GObj, (O ++ [x]).set O.length y = O ++ [y] := fun x y => by simp
  have ea := hsG_at ps k hk
  rw [hp] at ea
  skip
  simp +contextual -implicitDefEqProofs (maxSteps := 2000000) (disch := omega) only [↓lenV, binV, optV, ↓loadV, ↓storeV, ↓fieldAddrV, ↓indexAddrV, ↓allocV, ↓buildSliceV, ↓sliceV, ↓nilV, ↓appendV, ↓srcV, bound, cutTag, hiTag, fillE, GVal.cells, grp, GVal.ofConst, ↓resV, resG, List.map, List.headD, List.take, List.drop, ↓reduceIte, Nat.reduceEqDiff, Nat.reduceAdd, Nat.reduceSub, Nat.reduceLeDiff, reduceCtorEq, implies_true, ne_eq, ↓asrcV, ↓makeMapV, Tag.cap, List.replicate, allSolid, GVal.solid, Nat.reduceBEq, Nat.reduceMul, Nat.reduceLT, List.length_map, List.length_range, splice, vcA, ↓vcB, vcC, fbFu, e21, vcN, NW, leG_any, leG_self, and_true, true_and, dS, hst, htk, hO, hS, len32, take32, solidH, hsG_len, ea, all_hsG]
  refine ⟨by omega, by omega, ?_⟩
  exact fun v => ⟨v, rfl, by rw [leG_self]; trivial⟩
theorem dR8a (p0 p1 x15 x21 x22 x23 : GVal) (h p : Hs) (stb stC : Nat) (r0 r1 r2 : GObj) (X : List GObj) : opsS Tryd.prog [] [(.mk (some 27) (.load 62 (.tmp 5)) none), (.mk (some 28) (.load 40 (.tmp 9)) none), (.mk (some 30) (.load 40 (.tmp 6)) none), (.mk (some 31) (.buildSlice 30 1 #[(0, (.tmp 30))]) none)]
    (NW ((((dS p0 p1 (.ptr 3 stb 0 0) (.ref (bytesG h.1)) .any .any x15 x21 x22 x23).set 27 (.map 2 stC)).set 28 (.agg (bytesG p.1))).set 31 (.slice [bytesG h.1] .full)) (r0 :: r1 :: r2 :: .row stb 1 [[.map 2 stC]] :: X)) ⟨dS p0 p1 (.ptr 3 stb 0 0) (.ref (bytesG h.1)) .any (.ref (bytesG p.1)) x15 x21 x22 x23, r0 :: r1 :: r2 :: .row stb 1 [[.map 2 stC]] :: X⟩ := by
  skip
  simp +contextual -implicitDefEqProofs (maxSteps := 2000000) (disch := omega) only [↓lenV, binV, optV, ↓loadV, ↓storeV, ↓fieldAddrV, ↓indexAddrV, ↓allocV, ↓buildSliceV, ↓sliceV, ↓nilV, ↓appendV, ↓srcV, bound, cutTag, hiTag, fillE, GVal.cells, grp, GVal.ofConst, ↓resV, resG, List.map, List.headD, List.take, List.drop, ↓reduceIte, Nat.reduceEqDiff, Nat.reduceAdd, Nat.reduceSub, Nat.reduceLeDiff, reduceCtorEq, implies_true, ne_eq, ↓asrcV, ↓makeMapV, Tag.cap, List.replicate, allSolid, GVal.solid, Nat.reduceBEq, Nat.reduceMul, Nat.reduceLT, List.length_map, List.length_range, splice, vcA, ↓vcB, vcC, fbFu, e21, NW, leG_any, leG_self, and_true, true_and, dS, len32, take32, solidH]
  try trivial
theorem dR8n (p0 p1 x5 x6 x15 x21 x22 x23 x27 : GVal) (h : Hs) (stamp_ : Nat) (O : List GObj) (hst : ∀ K : Nat → Prop, stamp O K = ∀ st, K st) (htk : tickO O = O) : opsS Tryd.prog [] [(.mk (some 29) (.extract (.tmp 32) 0) none), (.mk (some 33) (.call (.mk (.builtin (.append)) #[(.tmp 29), (.tmp 31)] #[30, 30])) none), (.mk (some 34) (.extract (.tmp 32) 1) none)]
    (fun st' => ∃ v, NW ((((dS p0 p1 x5 x6 .any .any x15 x21 x22 x23).set 27 x27).set 33 (.slice (hsG [h]) (.tok O.length v))).set 34 (.int .i64 stamp_)) (O ++ [.tok v 32]) st')
    ⟨(((dS p0 p1 x5 x6 .any .any x15 x21 x22 x23).set 27 x27).set 31 (.slice [bytesG h.1] .full)).set 32 (.tuple [.slice [] .nil, .int .i64 stamp_]), O⟩ := by
  skip
  simp +contextual -implicitDefEqProofs (maxSteps := 2000000) (disch := omega) only [↓lenV, binV, optV, ↓loadV, ↓storeV, ↓fieldAddrV, ↓indexAddrV, ↓allocV, ↓buildSliceV, ↓sliceV, ↓nilV, ↓appendV, ↓srcV, bound, cutTag, hiTag, fillE, GVal.cells, grp, GVal.ofConst, ↓resV, resG, List.map, List.headD, List.take, List.drop, ↓reduceIte, Nat.reduceEqDiff, Nat.reduceAdd, Nat.reduceSub, Nat.reduceLeDiff, reduceCtorEq, implies_true, ne_eq, ↓asrcV, ↓makeMapV, Tag.cap, List.replicate, allSolid, GVal.solid, Nat.reduceBEq, Nat.reduceMul, Nat.reduceLT, List.length_map, List.length_range, splice, vcA, ↓vcB, vcC, fbFu, e21, NW, leG_any, leG_self, and_true, true_and, dS, hst, htk, len32, take32, solidH]
  first
    | exact fun v => ⟨v, rfl, by simp [leG_self, hsG]⟩
    | exact fun v => ⟨v, rfl⟩
theorem dR8s (p0 p1 x5 x6 x15 x21 x22 x23 x27 : GVal) (h : Hs) (l : List Hs) (hl : l.length ≤ 1000000) (stamp_ o t : Nat) (O : List GObj) (hO : O[o]? = some (.tok t 32)) (hst : ∀ K : Nat → Prop, stamp O K = ∀ st, K st) (htk : tickO O = O) : opsS Tryd.prog [] [(.mk (some 29) (.extract (.tmp 32) 0) none), (.mk (some 33) (.call (.mk (.builtin (.append)) #[(.tmp 29), (.tmp 31)] #[30, 30])) none), (.mk (some 34) (.extract (.tmp 32) 1) none)]
    (fun st' => ∃ v, NW ((((dS p0 p1 x5 x6 .any .any x15 x21 x22 x23).set 27 x27).set 33 (.slice (hsG (l ++ [h])) (.tok o v))).set 34 (.int .i64 stamp_)) (O.set o (.tok v 32)) st')
    ⟨(((dS p0 p1 x5 x6 .any .any x15 x21 x22 x23).set 27 x27).set 31 (.slice [bytesG h.1] .full)).set 32 (.tuple [.slice (hsG l) (.tok o t), .int .i64 stamp_]), O⟩ := by
  skip
  simp +contextual -implicitDefEqProofs (maxSteps := 2000000) (disch := omega) only [↓lenV, binV, optV, ↓loadV, ↓storeV, ↓fieldAddrV, ↓indexAddrV, ↓allocV, ↓buildSliceV, ↓sliceV, ↓nilV, ↓appendV, ↓srcV, bound, cutTag, hiTag, fillE, GVal.cells, grp, GVal.ofConst, ↓resV, resG, List.map, List.headD, List.take, List.drop, ↓reduceIte, Nat.reduceEqDiff, Nat.reduceAdd, Nat.reduceSub, Nat.reduceLeDiff, reduceCtorEq, implies_true, ne_eq, ↓asrcV, ↓makeMapV, Tag.cap, List.replicate, allSolid, GVal.solid, Nat.reduceBEq, Nat.reduceMul, Nat.reduceLT, List.length_map, List.length_range, splice, vcA, ↓vcB, vcC, fbFu, e21, NW, leG_any, leG_self, and_true, true_and, dS, hst, htk, hO, len32, take32, solidH, hsG_len, all_hsG]
  refine ⟨by omega, by omega, ?_⟩
  exact fun v => ⟨v, rfl, by rw [hsG_app]; exact (leG_self _).mpr trivial⟩
theorem dR9 (p0 p1 x5 x6 x15 x21 x22 : GVal) (k : Nat) (hk : k ≤ 1000000000) (O : List GObj) : vcS Tryd.prog [] s21_9 (vcN (NW (dS p0 p1 x5 x6 .any .any x15 x21 x22 (.int .i64 (k + 1 : Nat))) O)) ⟨dS p0 p1 x5 x6 .any .any x15 x21 x22 (.int .i64 k), O⟩ := by
  skip
  simp +contextual -implicitDefEqProofs (maxSteps := 2000000) (disch := omega) only [↓lenV, binV, optV, ↓loadV, ↓storeV, ↓fieldAddrV, ↓indexAddrV, ↓allocV, ↓buildSliceV, ↓sliceV, ↓nilV, ↓appendV, ↓srcV, bound, cutTag, hiTag, fillE, GVal.cells, grp, GVal.ofConst, ↓resV, resG, List.map, List.headD, List.take, List.drop, ↓reduceIte, Nat.reduceEqDiff, Nat.reduceAdd, Nat.reduceSub, Nat.reduceLeDiff, reduceCtorEq, implies_true, ne_eq, ↓asrcV, ↓makeMapV, Tag.cap, List.replicate, allSolid, GVal.solid, Nat.reduceBEq, Nat.reduceMul, Nat.reduceLT, List.length_map, List.length_range, splice, vcA, ↓vcB, vcC, fbFu, e21, vcN, NW, leG_any, leG_self, and_true, true_and, dS]
end Gv.Tryd
/- graph.Descendants: the map of children grows. -/
set_option linter.unusedVariables false
set_option linter.unusedSimpArgs false
set_option maxRecDepth 20000
set_option maxHeartbeats 4000000
namespace Gv.Tryd
open Go Gv Go.Proofs
def kidPut (ch : GM) (p h : Hs) : GM := mset ch p ((look ch p).getD [] ++ [h])
def kidRow (ch : GM) (h : Hs) (ps : List Hs) : GM := ps.foldl (fun c p => kidPut c p h) ch
def kidAll (pre : GM) : GM := pre.foldl (fun c q => kidRow c q.1 q.2) []
abbrev CT := List ((Hs × List Hs) × Nat)
def ctM (ct : CT) : GM := ct.map (·.1)
def kvT (ct : CT) : List (GVal × GVal) := ct.zipIdx.map fun q => (.agg (bytesG q.1.1.1.1), .slice (hsG q.1.1.2) (.tok (q.2 + 4) q.1.2))
def obs (st s stC stb : Nat) (ct : CT) : List GObj := .row st 1 [[.map 1 s]] :: .dead :: .dead :: .row stb 1 [[.map 2 stC]] :: ct.map fun q => .tok q.2 32
theorem kvT_at (ct : CT) (i : Nat) : (kvT ct)[i]? = (ct[i]?).map fun q => (.agg (bytesG q.1.1.1), .slice (hsG q.1.2) (.tok (i + 4) q.2)) := by
  unfold kvT
  rw [List.getElem?_map, List.getElem?_zipIdx]
  cases ct[i]? <;> simp
theorem kvT_len (ct : CT) : (kvT ct).length = ct.length := by simp [kvT]
theorem kvT_set (ct : CT) (i : Nat) (q : (Hs × List Hs) × Nat) : (kvT ct).set i (.agg (bytesG q.1.1.1), .slice (hsG q.1.2) (.tok (i + 4) q.2)) = kvT (ct.set i q) := by
  refine List.ext_getElem? fun j => ?_
  rw [kvT_at, List.getElem?_set, List.getElem?_set, kvT_at, kvT_len]
  by_cases e : i = j
  · subst e
    simp only [if_true]
    split <;> rfl
  · simp only [if_neg e]
theorem kvT_app (ct : CT) (q : (Hs × List Hs) × Nat) : kvT ct ++ [(.agg (bytesG q.1.1.1), .slice (hsG q.1.2) (.tok (ct.length + 4) q.2))] = kvT (ct ++ [q]) := by
  simp [kvT, List.zipIdx_append]
theorem obs_len (st s stC stb : Nat) (ct : CT) : (obs st s stC stb ct).length = ct.length + 4 := by simp [obs]
theorem obs_at (st s stC stb : Nat) (ct : CT) (i : Nat) : (obs st s stC stb ct)[i + 4]? = (ct[i]?).map fun q => .tok q.2 32 := by simp [obs]
theorem obs_set (st s stC stb : Nat) (ct : CT) (i : Nat) (q : (Hs × List Hs) × Nat) : (obs st s stC stb ct).set (i + 4) (.tok q.2 32) = obs st s stC stb (ct.set i q) := by simp [obs, List.map_set]
theorem obs_app (st s stC stb : Nat) (ct : CT) (q : (Hs × List Hs) × Nat) : obs st s stC stb ct ++ [.tok q.2 32] = obs st s stC stb (ct ++ [q]) := by simp [obs]
theorem kfind_keys {k : KT} {x : GVal} : ∀ {kv kv' : List (GVal × GVal)}, kv.map (·.1) = kv'.map (·.1) → kfind k x kv = kfind k x kv'
  | [], [], _ => rfl
  | [], q :: r, h => by simp at h
  | p :: r, [], h => by simp at h
  | p :: r, q :: r', h => by
    simp only [List.map_cons, List.cons.injEq] at h
    rw [kfind, kfind, h.1, kfind_keys h.2]
theorem kfind_T (ct : CT) (p : Hs) : kfind hkT (.agg (bytesG p.1)) (kvT ct) = some (idxM (ctM ct) p) := by
  rw [← kfind_h encL p (ctM ct)]
  refine kfind_keys (List.ext_getElem? fun i => ?_)
  rw [List.getElem?_map, List.getElem?_map, kvT_at, kvG, ctM, List.getElem?_map, List.getElem?_map]
  cases ct[i]? <;> rfl
theorem idx_at {α : Type} : ∀ (m : List (Hs × α)) (h : Hs) (v : α), look m h = some v → ∃ i, idxM m h = some i ∧ m[i]? = some (h, v) ∧ ∀ w, m.set i (h, w) = mset m h w
  | [], h, v, e => by cases e
  | p :: r, h, v, e => by
    rw [look] at e
    by_cases hp : h = p.1
    · rw [if_pos hp] at e
      cases e
      refine ⟨0, by rw [idxM, if_pos hp], by simp [hp], fun w => by simp [mset, hp]⟩
    · rw [if_neg hp] at e
      obtain ⟨i, h1, h2, h3⟩ := idx_at r h v e
      exact ⟨i + 1, by rw [idxM, if_neg hp, h1]; rfl, by simpa using h2, fun w => by rw [mset, if_neg hp, ← h3 w]; rfl⟩
theorem idx_no {α : Type} : ∀ (m : List (Hs × α)) (h : Hs), look m h = none → idxM m h = none ∧ ∀ w, m ++ [(h, w)] = mset m h w
  | [], h, e => ⟨rfl, fun w => rfl⟩
  | p :: r, h, e => by
    rw [look] at e
    by_cases hp : h = p.1
    · rw [if_pos hp] at e; cases e
    · rw [if_neg hp] at e
      obtain ⟨h1, h2⟩ := idx_no r h e
      exact ⟨by rw [idxM, if_neg hp, h1]; rfl, fun w => by rw [mset, if_neg hp, ← h2 w]; rfl⟩
structure DD where
  (st s stC stb b r bC : Nat)
  m : GM
  es : Array MapEntry
  clock : Nat
  E0 : Env
  w0 : World
  lC : GLoc
structure DOK (D : DD) : Prop where
  hl : D.lC.block = some D.bC
  h0 : D.w0.heap.size ≤ D.bC
  hr0 : D.w0.heap.size ≤ D.r
  nb : D.bC ≠ D.b
  nr : D.bC ≠ D.r
  nrb : D.r ≠ D.b
  born : BornOK D.es D.clock
abbrev DD.o (D : DD) (ct : CT) : List GObj := obs D.st D.s D.stC D.stb ct
structure AtW (D : DD) (seen : Array Nat) (E : Env) (O : List GObj) (w : World) : Prop where
  sim : HSim E O w
  keep : Keep D.E0 [.row D.st 1 [[.map 1 D.s]], .dead] D.w0 E O w
  walk : WalkAt w D.b D.r D.es D.clock seen
  hb : Hid E O w D.b
  hr : Hid E O w D.r
  hC : Hid E O w D.bC
  loc : E.loc D.stC = some D.lC
def Ent (D : DD) (ct : CT) (E : Env) (w : World) : Prop := ∃ esC cC, MapAt E w D.bC esC cC (kvT ct)
theorem walk_same {w w' : World} {b r clock : Nat} {es : Array MapEntry} {seen : Array Nat} (h : WalkAt w b r es clock seen) (hb : w'.heap[b]? = w.heap[b]?) (hr : w'.heap[r]? = w.heap[r]?) : WalkAt w' b r es clock seen := by
  obtain ⟨since, c0, h1, h2, h3, h4, h5⟩ := h
  exact ⟨since, c0, hb.trans h1, hr.trans h2, h3, h4, h5⟩
theorem AtW.step {D : DD} {seen : Array Nat} {E E' : Env} {O O' : List GObj} {w w' : World} (h : AtW D seen E O w) (h' : HSim E' O' w') (k : Keep E O w E' O' w') : AtW D seen E' O' w' :=
  ⟨h', h.keep.trans k, walk_same h.walk (h.hb.keep k).2 (h.hr.keep k).2, (h.hb.keep k).1, (h.hr.keep k).1, (h.hC.keep k).1, k.ext.loc _ _ h.loc⟩
theorem Ent.step {D : DD} {ct : CT} {seen : Array Nat} {E E' : Env} {O O' : List GObj} {w w' : World} (h : Ent D ct E w) (hA : AtW D seen E O w) (k : Keep E O w E' O' w') : Ent D ct E' w' := by
  obtain ⟨esC, cC, hm⟩ := h
  exact ⟨esC, cC, hm.ext k.ext (hA.hC.keep k).2⟩
theorem AtW.poke {D : DD} (hD : DOK D) {seen : Array Nat} {E : Env} {O : List GObj} {w w' : World} (h : AtW D seen E O w) (g : w.grownBy w' (some D.bC)) : AtW D seen E O w' :=
  ⟨h.sim.grown g (fun r e => by cases e; exact ⟨h.hC.obj, h.hC.snap⟩), h.keep.grown g (fun r e => by cases e; exact hD.h0),
   walk_same h.walk (g.block _ h.hb.lt (fun e => hD.nb (Option.some.inj e).symm)) (g.block _ h.hr.lt (fun e => hD.nr (Option.some.inj e).symm)), h.hb.grown g, h.hr.grown g, h.hC.grown g, h.loc⟩
theorem obs_stamp (st s stC stb : Nat) (ct : CT) (K : Nat → Prop) : stamp (obs st s stC stb ct) K = ∀ st, K st := rfl
theorem obs_tick (st s stC stb : Nat) (ct : CT) : tickO (obs st s stC stb ct) = obs st s stC stb ct := rfl
theorem dR8 {all : Array Oper} {QQ : Exit → Act → World → Prop} (D : DD) (hD : DOK D) {ct : CT} {seen : Array Nat} {E : Env} {a : Act} {w : World} (hA : AtW D seen E (D.o ct) w) (hE : Ent D ct E w) {p0 p1 x15 x21 x22 x23 : GVal} {h p : Hs}
    (ha : SlotsR E a (dS p0 p1 (.ptr 3 D.stb 0 0) (.ref (bytesG h.1)) .any (.ref (bytesG p.1)) x15 x21 x22 x23)) (hlen : ∀ q ∈ ct, q.1.2.length ≤ 1000000) {o1 o2 o3 o4 o5 o6 o7 o8 o9 : Oper}
    (hA4 : [o1, o2, o3, o4].map (fun o => (⟨o.dst, o.op, none⟩ : SOp)) = [(.mk (some 27) (.load 62 (.tmp 5)) none), (.mk (some 28) (.load 40 (.tmp 9)) none), (.mk (some 30) (.load 40 (.tmp 6)) none), (.mk (some 31) (.buildSlice 30 1 #[(0, (.tmp 30))]) none)])
    (gA4 : [o1, o2, o3, o4].all (fun o => o.guard.isNone) = true)
    (h5 : o5.op = .mapEntry 62 (.tmp 27) (.tmp 28)) (g5 : o5.guard = none) (d5 : o5.dst = some 32)
    (hB3 : [o6, o7, o8].map (fun o => (⟨o.dst, o.op, none⟩ : SOp)) = [(.mk (some 29) (.extract (.tmp 32) 0) none), (.mk (some 33) (.call (.mk (.builtin (.append)) #[(.tmp 29), (.tmp 31)] #[30, 30])) none), (.mk (some 34) (.extract (.tmp 32) 1) none)])
    (gB3 : [o6, o7, o8].all (fun o => o.guard.isNone) = true)
    (h9 : o9.op = .entryStore 62 (.tmp 27) (.tmp 34) (.tmp 33)) (g9 : o9.guard = none) (d9 : o9.dst = none)
    (hq : ∀ ct' E' a' w', ctM ct' = kidPut (ctM ct) p h → AtW D seen E' (D.o ct') w' → Ent D ct' E' w' → SlotsR E' a' (dS p0 p1 (.ptr 3 D.stb 0 0) (.ref (bytesG h.1)) .any .any x15 x21 x22 x23) → QQ .normal a' w') :
    wpList Tryd.prog all QQ [o1, o2, o3, o4, o5, o6, o7, o8, o9] a w := by
  refine ops_seg (st := ⟨_, D.o ct⟩) 4 hA4 gA4 hA.sim ha (dR8a p0 p1 x15 x21 x22 x23 h p D.stb D.stC _ _ _ _) ?_
  rintro ⟨s1, O1⟩ E1 a1 w1 q1 k1 s1R ⟨e1, hw1⟩
  change O1 = D.o ct at e1
  subst e1
  have s1 := s1R.weak hw1
  have hA1 := hA.step q1 k1
  obtain ⟨esC, cC, hm1⟩ := hE.step hA k1
  have v27 : a1.eval (.tmp 27) = .map (some D.bC) := map_val (SlotsR.ev (st := ⟨_, []⟩) s1 (.tmp 27)) hA1.loc hD.hl
  have v28 : VR E1 (a1.eval (.tmp 28)) (.agg (bytesG p.1)) := SlotsR.ev (st := ⟨_, []⟩) s1 (.tmp 28)
  have hkt : keyT Tryd.prog 62 = some (hkT, 30) := by kernel_rfl
  have hz : zeroG Tryd.prog 30 = some (.slice [] .nil) := by kernel_rfl
  have hko : keyOk hkT (.agg (bytesG p.1)) := by simp [keyOk, keyCells, len32]
  obtain ⟨rv0, stN, es1, clock1, w2, hrun, hg2, hb2, hv0, hstore⟩ := mapEntry_hid hkt hz hko v28 hm1 (kfind_T ct p)
  show wpList _ _ _ (o5 :: [o6, o7, o8, o9]) a1 w1
  refine mapEntry_step g5 h5 (by rw [v27]; exact hrun) ?_
  have hA2 := hA1.poke hD hg2
  rw [d5]
  have fin : ∀ (ct' : CT) (oldg newg : GVal) (O3 : List GObj), VR E1 rv0 oldg → putAt (kvT ct) (.agg (bytesG p.1)) newg (idxM (ctM ct) p) = kvT ct' → ctM ct' = kidPut (ctM ct) p h → O3 = D.o ct' →
      ∀ (st3 : GSt) E3 a3 w3, HSim E3 st3.o w3 → Keep E1 (D.o ct) w2 E3 st3.o w3 → SlotsR E3 a3 st3.s → NW ((((dS p0 p1 (.ptr 3 D.stb 0 0) (.ref (bytesG h.1)) .any .any x15 x21 x22 x23).set 27 (.map 2 D.stC)).set 33 newg).set 34 (.int .i64 stN)) O3 st3 →
      wpList Tryd.prog all QQ [o9] a3 w3 := by
    rintro ct' oldg newg O3 ho hput hct rfl ⟨s3, O3⟩ E3 a3 w3 q3 k3 s3R ⟨e3, hw3⟩
    change O3 = D.o ct' at e3
    subst e3
    have s3 := s3R.weak hw3
    have hA3 := hA2.step q3 k3
    have v27' : a3.eval (.tmp 27) = .map (some D.bC) := map_val (SlotsR.ev (st := ⟨_, []⟩) s3 (.tmp 27)) hA3.loc hD.hl
    have v33 : VR E3 (a3.eval (.tmp 33)) newg := SlotsR.ev (st := ⟨_, []⟩) s3 (.tmp 33)
    have v34 : a3.eval (.tmp 34) = goInt stN := by
      have : VR E3 (a3.eval (.tmp 34)) (.int .i64 stN) := SlotsR.ev (st := ⟨_, []⟩) s3 (.tmp 34)
      generalize a3.eval (.tmp 34) = v at this
      cases this; rfl
    obtain ⟨w4, es4, c4, hrun4, hg4, hm4⟩ := hstore E3 w3 (a3.eval (.tmp 33)) newg k3.ext (((hA2.hC.keep k3).2).trans hb2) v33
    refine entryStore_step g9 h9 (by rw [v27', v34]; exact hrun4) (wpList_nil ?_)
    rw [hput] at hm4
    refine hq ct' E3 _ w4 hct (hA3.poke hD hg4) ⟨es4, c4, hm4⟩ ?_
    rw [d9]
    exact s3.weak (by simp [WL, leG_self, leG_any])
  have s2 : ∀ oldg, VR E1 rv0 oldg → SlotsR E1 (a1.put (some 32) (.tuple #[rv0, goInt stN])) ((((dS p0 p1 (.ptr 3 D.stb 0 0) (.ref (bytesG h.1)) .any .any x15 x21 x22 x23).set 27 (.map 2 D.stC)).set 31 (.slice [bytesG h.1] .full)).set 32 (.tuple [oldg, .int .i64 stN])) := fun oldg ho => by
    have hvt : VR E1 (.tuple #[rv0, goInt stN]) (.tuple [oldg, .int .i64 stN]) := .tuple _ _ rfl (fun j g hj => by
      match j with
      | 0 => cases hj; exact ho
      | 1 => cases hj; exact .int _ _
      | j + 2 => simp at hj)
    exact (SlotsR.put (st := ⟨_, []⟩) s1 (.refl E1) (d := some 32) hvt []).weak (by simp [GSt.put, WL, leG_self, leG_any])
  show wpList _ _ _ (o6 :: o7 :: o8 :: [o9]) _ _
  cases hlk : look (ctM ct) p with
  | none =>
    obtain ⟨i1, i2⟩ := idx_no _ _ hlk
    rw [i1] at hv0
    refine ops_seg (st := ⟨((((dS p0 p1 (.ptr 3 D.stb 0 0) (.ref (bytesG h.1)) .any .any x15 x21 x22 x23).set 27 (.map 2 D.stC)).set 31 (.slice [bytesG h.1] .full)).set 32 (.tuple [.slice [] .nil, .int .i64 stN])), D.o ct⟩) 3 hB3 gB3 hA2.sim (s2 (.slice [] .nil) hv0) (dR8n p0 p1 _ _ x15 x21 x22 x23 _ h stN (D.o ct) (obs_stamp _ _ _ _ _) (obs_tick _ _ _ _ _)) ?_
    rintro st3 E3 a3 w3 q3 k3 s3R ⟨v, hN⟩
    refine fin (ct ++ [((p, [h]), v)]) _ (.slice (hsG [h]) (.tok (D.o ct).length v)) _ hv0 ?_ ?_ rfl st3 E3 a3 w3 q3 k3 s3R ?_
    · rw [i1, obs_len]
      exact kvT_app ct ((p, [h]), v)
    · rw [kidPut, hlk, ← i2]
      simp [ctM]
    · have := obs_app D.st D.s D.stC D.stb ct ((p, [h]), v)
      show NW _ (obs D.st D.s D.stC D.stb _) st3
      rw [← this]
      exact hN
  | some l =>
    obtain ⟨i, i1, i2, i3⟩ := idx_at _ _ _ hlk
    obtain ⟨q, hqi, eq⟩ : ∃ q, ct[i]? = some q ∧ q.1 = (p, l) := by
      rw [ctM, List.getElem?_map] at i2
      cases hc : ct[i]? with
      | none => rw [hc] at i2; cases i2
      | some q => rw [hc] at i2; exact ⟨q, rfl, by simpa using i2⟩
    obtain ⟨q1', t⟩ := q
    change q1' = (p, l) at eq
    subst eq
    have hv : VR E1 rv0 (.slice (hsG l) (.tok (i + 4) t)) := by
      rw [i1] at hv0
      simpa [oldAt, kvT_at, hqi] using hv0
    refine ops_seg (st := ⟨((((dS p0 p1 (.ptr 3 D.stb 0 0) (.ref (bytesG h.1)) .any .any x15 x21 x22 x23).set 27 (.map 2 D.stC)).set 31 (.slice [bytesG h.1] .full)).set 32 (.tuple [.slice (hsG l) (.tok (i + 4) t), .int .i64 stN])), D.o ct⟩) 3 hB3 gB3 hA2.sim (s2 _ hv) (dR8s p0 p1 _ _ x15 x21 x22 x23 _ h l (hlen _ (List.mem_of_getElem? hqi)) stN (i + 4) t (D.o ct) (by rw [obs_at, hqi]; rfl) (obs_stamp _ _ _ _ _) (obs_tick _ _ _ _ _)) ?_
    rintro st3 E3 a3 w3 q3 k3 s3R ⟨v, hN⟩
    refine fin (ct.set i ((p, l ++ [h]), v)) _ (.slice (hsG (l ++ [h])) (.tok (i + 4) v)) _ hv ?_ ?_ rfl st3 E3 a3 w3 q3 k3 s3R ?_
    · rw [i1]
      exact kvT_set ct i ((p, l ++ [h]), v)
    · rw [kidPut, hlk, Option.getD_some, ← i3]
      simp [ctM, List.map_set]
    · have := obs_set D.st D.s D.stC D.stb ct i ((p, l ++ [h]), v)
      show NW _ (obs D.st D.s D.stC D.stb _) st3
      rw [← this]
      exact hN
end Gv.Tryd
/- graph.Descendants: its two loops. -/
set_option linter.unusedVariables false
set_option linter.unusedSimpArgs false
set_option maxRecDepth 20000
set_option maxHeartbeats 4000000
namespace Gv.Tryd
open Go Gv Go.Proofs
theorem frzL_hs (O : List GObj) (n : Nat) (h : Hs) : frzL (Gv.frz O (n + 1)) (bytesG h.1) = some (bytesG h.1) := by
  have := frz_hs O n [h]
  simp only [hsG, List.map_cons, List.map_nil, frzLL] at this
  cases e : frzL (Gv.frz O (n + 1)) (bytesG h.1) with
  | none => rw [e] at this; cases this
  | some x => rw [e] at this; simpa using this
def Kb (N : Nat) (ch : GM) : Prop := ∀ q ∈ ch, q.2.length ≤ N
theorem look_memG : ∀ {m : GM} {h : Hs} {l : List Hs}, look m h = some l → (h, l) ∈ m
  | [], h, l, e => by cases e
  | p :: r, h, l, e => by
    rw [look] at e
    by_cases hp : h = p.1
    · rw [if_pos hp] at e; cases e; rw [hp]; simp
    · rw [if_neg hp] at e; exact List.mem_cons_of_mem _ (look_memG e)
theorem mem_mset {m : GM} {h : Hs} {v : List Hs} {q : Hs × List Hs} (hq : q ∈ mset m h v) : q ∈ m ∨ q = (h, v) := by
  induction m with
  | nil => rw [mset] at hq; exact .inr (by simpa using hq)
  | cons p r ih =>
    rw [mset] at hq
    split at hq
    · rcases List.mem_cons.1 hq with e | e
      · exact .inr e
      · exact .inl (List.mem_cons_of_mem _ e)
    · rcases List.mem_cons.1 hq with e | e
      · exact .inl (by rw [e]; simp)
      · rcases ih e with e | e
        · exact .inl (List.mem_cons_of_mem _ e)
        · exact .inr e
theorem Kb.put {N : Nat} {ch : GM} (h : Kb N ch) (p x : Hs) : Kb (N + 1) (kidPut ch p x) := by
  intro q hq
  rcases mem_mset hq with e | e
  · have := h q e; omega
  · rw [e]
    show ((look ch p).getD [] ++ [x]).length ≤ N + 1
    rw [List.length_append, List.length_singleton]
    cases hl : look ch p with
    | none => simp
    | some l => have := h _ (look_memG hl); simp at this ⊢; omega
theorem kidRow_snoc (ch : GM) (h : Hs) (a : List Hs) (p : Hs) : kidRow ch h (a ++ [p]) = kidPut (kidRow ch h a) p h := by simp [kidRow]
theorem Kb.row {N : Nat} {ch : GM} (h : Kb N ch) (x : Hs) : ∀ ps : List Hs, Kb (N + ps.length) (kidRow ch x ps) := by
  intro ps
  induction ps generalizing N ch with
  | nil => exact h
  | cons p r ih =>
    have := ih (h.put p x)
    rw [List.length_cons, show N + (r.length + 1) = N + 1 + r.length by omega]
    exact this
theorem kidAll_snoc (a : GM) (q : Hs × List Hs) : kidAll (a ++ [q]) = kidRow (kidAll a) q.1 q.2 := by simp [kidAll]
theorem Kb.foldl : ∀ (pre ch : GM) (N : Nat), Kb N ch → (∀ q ∈ pre, q.2.length ≤ 4) → Kb (N + 4 * pre.length) (pre.foldl (fun c q => kidRow c q.1 q.2) ch)
  | [], ch, N, h, _ => h
  | q :: r, ch, N, h, hq => by
    have h1 := h.row q.1 q.2
    have h2 := hq q (by simp)
    have := Kb.foldl r _ (N + 4) (fun x hx => by have := h1 x hx; omega) (fun y hy => hq y (by simp [hy]))
    rw [List.length_cons, show N + 4 * (r.length + 1) = N + 4 + 4 * r.length by omega]
    exact this
theorem Kb.all (pre : GM) (h : ∀ q ∈ pre, q.2.length ≤ 4) : Kb (4 * pre.length) (kidAll pre) := by
  have := Kb.foldl pre [] 0 (fun q hq => by cases hq) h
  rw [Nat.zero_add] at this
  exact this
abbrev l8a : List SOp := [(.mk (some 27) (.load 62 (.tmp 5)) none), (.mk (some 28) (.load 40 (.tmp 9)) none), (.mk (some 30) (.load 40 (.tmp 6)) none), (.mk (some 31) (.buildSlice 30 1 #[(0, (.tmp 30))]) none)]
abbrev l8b : List SOp := [(.mk (some 29) (.extract (.tmp 32) 0) none), (.mk (some 33) (.call (.mk (.builtin (.append)) #[(.tmp 29), (.tmp 31)] #[30, 30])) none), (.mk (some 34) (.extract (.tmp 32) 1) none)]
structure R8 (o1 o2 o3 o4 o5 o6 o7 o8 o9 : Oper) : Prop where
  a4 : [o1, o2, o3, o4].map (fun o => (⟨o.dst, o.op, none⟩ : SOp)) = l8a
  ga : [o1, o2, o3, o4].all (fun o => o.guard.isNone) = true
  h5 : o5.op = .mapEntry 62 (.tmp 27) (.tmp 28) ∧ o5.guard = none ∧ o5.dst = some 32
  b3 : [o6, o7, o8].map (fun o => (⟨o.dst, o.op, none⟩ : SOp)) = l8b
  gb : [o6, o7, o8].all (fun o => o.guard.isNone) = true
  h9 : o9.op = .entryStore 62 (.tmp 27) (.tmp 34) (.tmp 33) ∧ o9.guard = none ∧ o9.dst = none
abbrev C0 : Cfg := ⟨[], []⟩
theorem dInner {Q : Exit → Act → World → Prop} (D : DD) (hD : DOK D) {c6 c7 c9 : Code} {id8 : Nat} {o1 o2 o3 o4 o5 o6 o7 o8 o9 : Oper} (s6 : slim C0 c6 = some s21_6) (k6 : codeOk C0 c6 = true) (s7 : slim C0 c7 = some s21_7) (k7 : codeOk C0 c7 = true)
    (s9 : slim C0 c9 = some s21_9) (k9 : codeOk C0 c9 = true) (r8 : R8 o1 o2 o3 o4 o5 o6 o7 o8 o9)
    {ct0 : CT} {seen : Array Nat} {E : Env} {a : Act} {w : World} (hA : AtW D seen E (D.o ct0) w) (hE : Ent D ct0 E w) {p0 p1 x15 : GVal} {h : Hs} {ps : List Hs} {N : Nat} (hKb : Kb N (ctM ct0)) (hN : N + ps.length ≤ 1000000)
    (ha : SlotsR E a (dS p0 p1 (.ptr 3 D.stb 0 0) (.ref (bytesG h.1)) .any .any x15 (.slice (hsG ps) .none) (.int .i64 ps.length) (.int .i64 0)))
    (hq : ∀ ct' E' a' w', ctM ct' = kidRow (ctM ct0) h ps → AtW D seen E' (D.o ct') w' → Ent D ct' E' w' → SlotsR E' a' (dS p0 p1 (.ptr 3 D.stb 0 0) .any .any .any x15 .any .any .any) → Q (.exit 2) a' w') :
    (Code.loop (c6.seq ((Code.cond (.tmp 24) .skip (.exit 2)).seq ((Code.block 3 (c7.seq (Code.region id8 #[o1, o2, o3, o4, o5, o6, o7, o8, o9] false))).seq c9)))).wp Tryd.prog Q a w := by
  refine wp_loop_ghost (fun n a w => ∃ ct k E, k ≤ ps.length ∧ ps.length - k = n ∧ ctM ct = kidRow (ctM ct0) h (ps.take k) ∧ AtW D seen E (D.o ct) w ∧ Ent D ct E w ∧ SlotsR E a (dS p0 p1 (.ptr 3 D.stb 0 0) (.ref (bytesG h.1)) .any .any x15 (.slice (hsG ps) .none) (.int .i64 ps.length) (.int .i64 k))) ps.length ⟨ct0, 0, E, Nat.zero_le _, rfl, rfl, hA, hE, ha⟩ ?_
  rintro n a1 w1 ⟨ct, k, E1, hk, rfl, hct, hA1, hE1, s1⟩
  refine wp_seq (wp_part (st := ⟨_, D.o ct⟩) mixS s6 k6 hA1.sim s1 (dR6 p0 p1 _ _ x15 _ k ps.length (D.o ct)) ?_)
  rintro ⟨t2, O2⟩ E2 a2 w2 q2 k2 s2R ⟨e2, hw2⟩
  change O2 = D.o ct at e2
  subst e2
  have s2 := s2R.weak hw2
  have hA2 := hA1.step q2 k2
  have hE2 := hE1.step hA1 k2
  have hc : a2.eval (.tmp 24) = .bool (decide (k < ps.length)) := by
    have : VR E2 (a2.eval (.tmp 24)) (.bool (decide (k < ps.length))) := SlotsR.ev (st := ⟨_, []⟩) s2 (.tmp 24)
    generalize a2.eval (.tmp 24) = v at this
    cases this; rfl
  show (Code.seq _ _).wp _ _ _ _
  refine wp_seq (wp_cond_split hc (fun ht => wp_skip ?_) (fun hf => wp_exit ?_))
  · have hlt : k < ps.length := of_decide_eq_true ht
    obtain ⟨p, hp⟩ : ∃ p, ps.getD k h0 = p := ⟨_, rfl⟩
    show (Code.seq _ _).wp _ _ _ _
    refine wp_seq (wp_block (wp_seq (wp_part (st := ⟨dS p0 p1 (.ptr 3 D.stb 0 0) (.ref (bytesG h.1)) .any .any x15 (.slice (hsG ps) .none) (.int .i64 ps.length) (.int .i64 k), D.o ct⟩) mixS s7 k7 hA2.sim (s2.weak (by simp [WL, leG_self, leG_any])) (dR7 p0 p1 _ _ x15 _ ps k hlt p hp (D.o ct) (obs_stamp _ _ _ _ _) (obs_tick _ _ _ _ _)) ?_)))
    rintro ⟨t3, O3⟩ E3 a3 w3 q3 k3 s3R ⟨v, e3, hw3⟩
    change O3 = D.o ct ++ [.row v 32 [bytesG p.1]] at e3
    subst e3
    have s3 := s3R.weak hw3
    obtain ⟨m1, m2, m3⟩ := q3.meltBox s3 9 1 rfl (by rw [len32]) (frzL_hs _ 0 p) (by intro e; have := len32 p; rw [e] at this; cases this)
    have kk := k3.trans m2
    have hA3 := hA2.step m1 kk
    have hE3 := hE2.step hA2 kk
    refine wp_region_lit (dR8 D hD hA3 hE3 (p0 := p0) (p1 := p1) (x15 := x15) (x21 := .slice (hsG ps) .none) (x22 := .int .i64 ps.length) (x23 := .int .i64 k) (h := h) (p := p) (m3.weak (by simp [WL, leG_self, leG_any])) ?_ r8.a4 r8.ga r8.h5.1 r8.h5.2.1 r8.h5.2.2 r8.b3 r8.gb r8.h9.1 r8.h9.2.1 r8.h9.2.2 ?_)
    · intro q hq
      have hb := hKb.row h (ps.take k)
      rw [← hct] at hb
      have h1 := hb q.1 (List.mem_map_of_mem hq)
      rw [List.length_take] at h1
      omega
    · intro ct' E4 a4 w4 hct' hA4 hE4 s4
      refine wp_part (st := ⟨_, D.o ct'⟩) mixS s9 k9 hA4.sim s4 (dR9 p0 p1 _ _ x15 _ _ k (by omega) (D.o ct')) ?_
      rintro ⟨t5, O5⟩ E5 a5 w5 q5 k5 s5R ⟨e5, hw5⟩
      change O5 = D.o ct' at e5
      subst e5
      refine ⟨ps.length - (k + 1), by omega, ct', k + 1, E5, hlt, rfl, ?_, hA4.step q5 k5, hE4.step hA4 k5, s5R.weak hw5⟩
      rw [hct', hct, takeH hlt, hp, kidRow_snoc]
  · have hnl : ¬ k < ps.length := of_decide_eq_false hf
    have : k = ps.length := by omega
    subst this
    rw [List.take_length] at hct
    exact hq ct E2 a2 w2 hct hA2 hE2 (s2.weak (by simp [WL, leG_self, leG_any]))
end Gv.Tryd
