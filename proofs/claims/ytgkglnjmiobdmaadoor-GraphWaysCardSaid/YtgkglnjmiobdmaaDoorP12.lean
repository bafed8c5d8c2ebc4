/- A walk in parts: some by conditions, some by hand. -/
import Derived.Test.YtgkglnjmiobdmaaDoorP11
import Derived.Test.YtgkglnjmiobdmaaDoorP5
import Derived.Test.YtgkglnjmiobdmaaDoorP10
import Derived.Test.YtgkglnjmiobdmaaDoorP9
import Derived.Test.YtgkglnjmiobdmaaDoorP6
set_option linter.unusedVariables false
namespace Gv
open Go Go.MapKept Go.ChangeMaps Go.Maps
variable {P : Program} {all : Array Oper} {QQ : Exit → Act → World → Prop} {E : Env} {st : GSt} {a : Act} {w : World} {o : Oper} {rest : List Oper}
@[reducible] def cfgOf {P : Program} {f : FuncId} {C : Cfg} {n : Nat} {rs : List ResultVar} {s : SCode} (_ : FnS P f C n rs s) : Cfg := C
def vcN (N : GSt → Prop) : Ex → GSt → Prop
  | .normal, s => N s
  | _, _ => False
def NW (s : List GVal) (O : List GObj) (st : GSt) : Prop := st.o = O ∧ WL st.s s
theorem wp_part {C : Cfg} (hmix : P.follows .mixedOrders = true) {c : Code} {s : SCode} (hs : slim C c = some s) (hc : codeOk C c = true) (h : HSim E st.o w) (ha : SlotsR E a st.s) {N : GSt → Prop} (hv : vcS P C.ro s (vcN N) st) {Q : Exit → Act → World → Prop}
    (hn : ∀ st' E' a' w', HSim E' st'.o w' → Keep E st.o w E' st'.o w' → SlotsR E' a' st'.s → N st' → Q .normal a' w') : c.wp P Q a w := by
  refine wp_mono (vc_sound hmix c (vcN N) st E a w hc h ha (vcS_ok c s (vcN N) (vcN N) st hs (fun _ _ h => h) hv)) ?_
  rintro e a' w' ⟨ex, st', E', hx, h1, h2, h3, h4⟩
  cases e <;> cases ex <;> first
    | exact hx.elim
    | exact h4.elim
    | exact hn st' E' a' w' h1 h2 h3 h4
theorem Post.trans {E0 E : Env} {O0 O : List GObj} {w0 w : World} {Q : Ex → GSt → Prop} {e : Exit} {a' : Act} {w' : World} (k : Keep E0 O0 w0 E O w) (h : Post E O w Q e a' w') : Post E0 O0 w0 Q e a' w' := by
  obtain ⟨ex, st', E', hx, h1, h2, h3, h4⟩ := h
  exact ⟨ex, st', E', hx, h1, k.trans h2, h3, h4⟩
theorem wpList_run (hg : o.guard = none) {v : Value} {w' : World} (hr : (execOp a.eval o).run P w = .ok (.value v) w') (h : wpList P all QQ rest (a.put o.dst v) w') : wpList P all QQ (o :: rest) a w :=
  wpList_plain hg fun K' hK' => by
    unfold Oper.wp
    rw [hr]
    simp only [Oper.upon_value]
    exact hK' _ _ h
theorem wpList_skip (hg : o.guard = none) {w' : World} (hr : (execOp a.eval o).run P w = .ok .skip w') (h : wpList P all QQ rest (a.put o.dst undef) w') : wpList P all QQ (o :: rest) a w :=
  wpList_plain hg fun K' hK' => by
    unfold Oper.wp
    rw [hr]
    exact hK' _ _ h
theorem op_step (hg : o.guard = none) (h : HSim E st.o w) (ha : SlotsR E a st.s) {R : List Nat} {N : GSt → Prop} (hk : opv P R st o (fun g O' => N (st.put o.dst g O')))
    (hq : ∀ st' E' a' w', HSim E' st'.o w' → Keep E st.o w E' st'.o w' → SlotsR E' a' st'.s → N st' → wpList P all QQ rest a' w') : wpList P all QQ (o :: rest) a w :=
  wpList_plain hg fun K' hK' => Oper.wp_mono (fun a w h => hK' a w h) (op_sound h ha hk (fun v w' E' O' g h1 h2 h3 h4 =>
    hq (st.put o.dst g O') E' _ w' (by rw [GSt.put_o]; exact h1) (by rw [GSt.put_o]; exact h2) (ha.put h2.ext h3 O') h4))
theorem ops_seg {R : List Nat} : ∀ (k : Nat) {ops : List Oper} {l : List SOp} {st : GSt} {E : Env} {a : Act} {w : World} (hl : (ops.take k).map (fun o => (⟨o.dst, o.op, none⟩ : SOp)) = l) (hg : (ops.take k).all (fun o => o.guard.isNone) = true)
    (h : HSim E st.o w) (ha : SlotsR E a st.s) {N : GSt → Prop} (hv : opsS P R l N st)
    (hq : ∀ st' E' a' w', HSim E' st'.o w' → Keep E st.o w E' st'.o w' → SlotsR E' a' st'.s → N st' → wpList P all QQ (ops.drop k) a' w'), wpList P all QQ ops a w
  | 0, ops, l, st, E, a, w, hl, hg, h, ha, N, hv, hq => by
    simp only [List.take_zero, List.map_nil] at hl
    subst hl
    rw [opsS_nil] at hv
    exact hq st E a w h (.refl _ _ _) ha hv
  | k + 1, [], l, st, E, a, w, hl, hg, h, ha, N, hv, hq => by
    simp only [List.take_nil, List.map_nil] at hl
    subst hl
    rw [opsS_nil] at hv
    exact hq st E a w h (.refl _ _ _) ha hv
  | k + 1, o :: r, l, st, E, a, w, hl, hg, h, ha, N, hv, hq => by
    simp only [List.take_succ_cons, List.map_cons] at hl
    subst hl
    simp only [List.take_succ_cons, List.all_cons, Bool.and_eq_true, Option.isNone_iff_eq_none] at hg
    rw [opsS_one, ← opS_eq] at hv
    refine op_step (N := fun s => opsS P R ((r.take k).map (fun o => (⟨o.dst, o.op, none⟩ : SOp))) N s) hg.1 h ha hv (fun st' E' a' w' h1 h2 h3 h4 => ?_)
    exact ops_seg k rfl hg.2 h1 h3 h4 (fun st2 E2 a2 w2 q1 q2 q3 q4 => hq st2 E2 a2 w2 q1 (h2.trans q2) q3 q4)
theorem range_step (hg : o.guard = none) {m : Operand} {t k e : TypeId} (hop : o.op = Op.range t m) (ht : P.underlying t = some (.map k e)) {b clock : Nat} {es : Array MapEntry}
    (hm : a.eval m = .map (some b)) (hb : w.heap[b]? = some (.map es clock)) (hbo : Gv.BornOK es clock)
    (hK : ∀ w', WalkAt w' b w.heap.size es clock #[] → w.grownBy w' none → w'.heap.size = w.heap.size + 1 → wpList P all QQ rest (a.put o.dst (.pointer (some ⟨w.heap.size, 0, none⟩))) w') :
    wpList P all QQ (o :: rest) a w := by
  have hrun := run_range_map w t k e b es clock ht hb
  have hlt := (Array.getElem?_eq_some_iff.1 hb).1
  refine wpList_run (v := .pointer (some ⟨w.heap.size, 0, none⟩)) (w' := w.alloc (.mapIter (some b) clock #[] clock)) hg (by simp [execOp, hop, hm, hrun, Result.andThen]) ?_
  exact hK _ ⟨clock, clock, ((MapKept.heap_alloc w _).2 b hlt).trans hb, (MapKept.heap_alloc w _).1, hbo.1, Nat.le_refl _, Nat.le_refl _⟩ (World.grownBy_alloc w _ none) (by simp)
theorem next_step (hg : o.guard = none) {it : Operand} (hop : o.op = Op.next it false) {b r clock : Nat} {es : Array MapEntry} (hbo : Gv.BornOK es clock) {seen : Array Nat} {xs : List MapEntry} (hx : Came es seen xs)
    (hit : a.eval it = .pointer (some ⟨r, 0, none⟩)) (h : WalkAt w b r es clock seen)
    (hDone : xs.Perm es.toList → wpList P all QQ rest (a.put o.dst (.tuple #[.bool false])) w)
    (hMore : ∀ (e : MapEntry) (w' : World), e ∈ es.toList → Came es (seen.push e.born) (xs ++ [e]) → xs.length < es.size → WalkAt w' b r es clock (seen.push e.born) → w'.rangeLeft b r < w.rangeLeft b r →
      w.grownBy w' (some r) → (∀ w2 : World, w2.heap[b]? = w'.heap[b]? → w2.heap[r]? = w'.heap[r]? → (Instr.entry (.pointer (some ⟨r, 0, none⟩))).run P w2 = .ok (.tuple #[e.key, e.val]) w2) → wpList P all QQ rest (a.put o.dst (.tuple #[.bool true, e.key, e.val])) w') :
    wpList P all QQ (o :: rest) a w := by
  have hle := h.left_eq
  obtain ⟨since, c0, hb, hr, hold, hsc, hsk⟩ := h
  obtain ⟨hse, hxn, hxm⟩ := hx
  have hne : r ≠ b := fun e => by rw [e, hb] at hr; cases hr
  have hnd : es.toList.Nodup := hbo.2.imp fun h e => h (congrArg _ e)
  have hbn : (es.toList.map (·.born)).Nodup := List.pairwise_map.2 hbo.2
  rcases run_next_at (P := P) w o.type r b since c0 seen es clock hr hb hold hsc with ⟨h0, hrun⟩ | ⟨e, he, w1, hal, hrun⟩
  · refine wpList_run hg (by simp [execOp, hop, hit, hrun, Result.andThen]) (hDone ?_)
    refine (List.perm_ext_iff_of_nodup hxn hnd).2 fun x => ⟨fun q => hxm x q, fun q => ?_⟩
    have hs := all_seen es seen h0 x q
    rw [hse] at hs
    have hm : x.born ∈ xs.map MapEntry.born := by simpa using hs
    obtain ⟨y, hy, ey⟩ := List.mem_map.1 hm
    rwa [← born_inj hbn (hxm y hy) q ey]
  · have hr1 : w1.heap[r]? = some (.mapIter (some b) since seen c0) := by rcases hal with rfl | rfl <;> exact hr
    have hb1 : w1.heap[b]? = some (.map es clock) := by rcases hal with rfl | rfl <;> exact hb
    have hset := heap_set (o' := .mapIter (some b) since (seen.push e.born) clock) hr1
    have hb' : (ChangeMaps.setBlock w1 r (.mapIter (some b) since (seen.push e.born) clock)).heap[b]? = some (.map es clock) := (hset.2 b (fun e1 => hne e1.symm)).trans hb1
    obtain ⟨hem, hes⟩ := mem_left he
    have hc : Came es (seen.push e.born) (xs ++ [e]) := by
      refine ⟨by rw [hse]; simp, List.nodup_append.2 ⟨hxn, by simp, fun y hy z hz => ?_⟩, fun y hy => ?_⟩
      · rw [List.mem_singleton.1 hz]
        intro q
        have : e.born ∈ xs.map MapEntry.born := List.mem_map_of_mem (q ▸ hy)
        rw [hse] at hes
        have h3 : (xs.map MapEntry.born).toArray.contains e.born = true := by simpa using this
        rw [h3] at hes; cases hes
      · rcases List.mem_append.1 hy with q | q
        · exact hxm y q
        · rw [List.mem_singleton.1 q]; exact hem
    have hlen : (xs ++ [e]).length ≤ es.toList.length := nodup_le _ _ hc.2.1 hc.2.2
    have hw : WalkAt (ChangeMaps.setBlock w1 r (.mapIter (some b) since (seen.push e.born) clock)) b r es clock (seen.push e.born) := ⟨since, clock, hb', hset.1, hold, hsk, hsk⟩
    refine wpList_run hg (by simp [execOp, hop, hit, hrun, Result.andThen]) (hMore e _ hem hc (by simp at hlen; omega) hw ?_ ?_ (fun w2 e1 e2 => run_entry_at w2 r b since seen es clock e (e2.trans hset.1) (e1.trans hb') hem hbn))
    · rw [hle, hw.left_eq]
      exact left_shrinks es _ e he
    · rcases hal with rfl | rfl <;> exact ⟨rfl, rfl, rfl, by simp [ChangeMaps.setBlock], fun i _ hi => hset.2 i (fun e1 => hi (by rw [e1]))⟩
theorem entry_step (hg : o.guard = none) {it : Operand} (hop : o.op = Op.entry it) {r : Nat} {v : Value} (hit : a.eval it = .pointer (some ⟨r, 0, none⟩)) (he : (Instr.entry (.pointer (some ⟨r, 0, none⟩))).run P w = .ok v w)
    (h : wpList P all QQ rest (a.put o.dst v) w) : wpList P all QQ (o :: rest) a w :=
  wpList_run hg (by simp [execOp, hop, hit, he, Result.andThen]) h
theorem mapEntry_step (hg : o.guard = none) {m x : Operand} {t : TypeId} (hop : o.op = Op.mapEntry t m x) {v : Value} {w' : World} (hr : (Instr.mapEntry t (a.eval m) (a.eval x)).run P w = .ok v w')
    (h : wpList P all QQ rest (a.put o.dst v) w') : wpList P all QQ (o :: rest) a w :=
  wpList_run hg (by simp [execOp, hop, hr, Result.andThen]) h
theorem entryStore_step (hg : o.guard = none) {m x y : Operand} {t : TypeId} (hop : o.op = Op.entryStore t m x y) {w' : World} (hr : (Instr.entryStore t (a.eval m) (a.eval x) (a.eval y)).run P w = .ok () w')
    (h : wpList P all QQ rest (a.put o.dst undef) w') : wpList P all QQ (o :: rest) a w :=
  wpList_skip hg (by simp [execOp, hop, hr, Result.andThen]) h
theorem map_val {v : Value} {i s b : Nat} {l : GLoc} (h : VR E v (.map i s)) (hl : E.loc s = some l) (hb : l.block = some b) : v = .map (some b) := by
  cases h with
  | map r o st l' hl' hb' =>
    rw [hl] at hl'; cases hl'
    rw [hb] at hb'; cases hb'
    rfl
theorem HSim.meltBox {O : List GObj} {t sz : Nat} {cs cs' : List GVal} (h : HSim E (O ++ [.row t sz [cs]]) w) {s : List GVal} (ha : SlotsR E a s) (i n : Nat) (hx : s.getD i .any = .ptr O.length t 0 0) (hsz : cs.length = sz)
    (hf : frzL (Gv.frz [.row t sz [cs]] n) cs = some cs') (hne : cs ≠ []) :
    HSim (E.frz [.row t sz [cs]] w) O w ∧ Keep E (O ++ [.row t sz [cs]]) w (E.frz [.row t sz [cs]] w) O w ∧ SlotsR (E.frz [.row t sz [cs]] w) a (s.set i (.ref cs')) := by
  obtain ⟨h0, h1, h2⟩ := h.melt
  refine ⟨h1, h2, by simp [ha.size], ha.defers, fun k g hg => ?_⟩
  rw [List.getElem?_set] at hg
  by_cases hk : i = k
  · subst hk
    rw [if_pos rfl] at hg
    split at hg
    · rename_i hlt
      simp only [Option.some.injEq] at hg
      subst hg
      have := ha.at_ i _ (getD_of (d := GVal.any) hlt)
      rw [hx] at this
      revert this
      generalize a.tmps.getD i undef = tv
      intro this
      cases this with
      | ptr b off o st i j l hl hb ho =>
        have hreal := h0.real 0 _ rfl
        obtain ⟨l', hl', hsz', hxs, hr⟩ := hreal
        rw [hl] at hl'; cases hl'
        rw [hb] at hr
        obtain ⟨cur, el, hcw, hcs, hct, hrows, hsn⟩ := hr
        have hrow : ∀ j g, [cs].flatten[j]? = some g → ∃ v, (E.frz [.row t sz [cs]] w).snap b (off + j) = some v ∧ VR E v g := fun j g hj => by
          have := row_frz h0 (i := 0) rfl hl hb hj
          obtain ⟨v, hv1, hv2⟩ := this
          refine ⟨v, ?_, ?_⟩
          · rw [ho]; simpa using hv1
          · first | exact hv2 | exact hv2.2 | exact hv2.1
        have hl2 := frzL_len hf
        refine .ref b off cs' (fun j => ((E.frz [.row t sz [cs]] w).snap b (off + j)).getD undef) (fun j hj => ?_) (fun j g hg => ?_)
        · obtain ⟨v, hv, _⟩ := hrow j (cs[j]'(by omega)) (by simp)
          rw [hv]; rfl
        · obtain ⟨x, hx1, hx2⟩ := frzL_at hf j g hg
          obtain ⟨v, hv, hvr⟩ := hrow j x (by simpa using hx1)
          rw [hv]
          exact frz_sound h0 n _ _ _ hvr hx2
    · cases hg
  · rw [if_neg hk] at hg
    exact (ha.at_ k g hg).mono h2.ext
theorem HSim.meltBox1 {O : List GObj} {t sz : Nat} {cs : List GVal} (h : HSim E (O ++ [.row t sz [cs]]) w) {s : List GVal} (ha : SlotsR E a s) (i : Nat) (hx : s.getD i .any = .ptr O.length t 0 0) (hsz : cs.length = sz) :
    HSim (E.frz [.row t sz [cs]] w) O w ∧ Keep E (O ++ [.row t sz [cs]]) w (E.frz [.row t sz [cs]] w) O w ∧ SlotsR (E.frz [.row t sz [cs]] w) a (s.set i (.ref cs)) := by
  obtain ⟨h0, h1, h2⟩ := h.melt
  refine ⟨h1, h2, by simp [ha.size], ha.defers, fun k g hg => ?_⟩
  rw [List.getElem?_set] at hg
  by_cases hk : i = k
  · subst hk
    rw [if_pos rfl] at hg
    split at hg
    · rename_i hlt
      simp only [Option.some.injEq] at hg
      subst hg
      have := ha.at_ i _ (getD_of (d := GVal.any) hlt)
      rw [hx] at this
      revert this
      generalize a.tmps.getD i undef = tv
      intro this
      cases this with
      | ptr b off o st i j l hl hb ho =>
        have hreal := h0.real 0 _ rfl
        obtain ⟨l', hl', hsz', hxs, hr⟩ := hreal
        rw [hl] at hl'; cases hl'
        rw [hb] at hr
        obtain ⟨cur, el, hcw, hcs, hct, hrows, hsn⟩ := hr
        have hrow : ∀ j g, [cs].flatten[j]? = some g → ∃ v, (E.frz [.row t sz [cs]] w).snap b (off + j) = some v ∧ VR E v g := fun j g hj => by
          have := row_frz h0 (i := 0) rfl hl hb hj
          obtain ⟨v, hv1, hv2⟩ := this
          refine ⟨v, ?_, ?_⟩
          · rw [ho]; simpa using hv1
          · first | exact hv2 | exact hv2.2 | exact hv2.1
        refine .ref b off cs (fun j => ((E.frz [.row t sz [cs]] w).snap b (off + j)).getD undef) (fun j hj => ?_) (fun j g hg => ?_)
        · obtain ⟨v, hv, _⟩ := hrow j (cs[j]'(by omega)) (by simp)
          rw [hv]; rfl
        · obtain ⟨v, hv, hvr⟩ := hrow j g (by simpa using hg)
          rw [hv]
          exact hvr.mono h2.ext
    · cases hg
  · rw [if_neg hk] at hg
    exact (ha.at_ k g hg).mono h2.ext
end Gv
/- graph.Descendants, the ghost parts of its walk. -/
set_option linter.unusedVariables false
set_option linter.unusedSimpArgs false
set_option maxRecDepth 20000
set_option maxHeartbeats 4000000
namespace Gv.Tryd
open Go Gv Go.Proofs
abbrev dS (p0 p1 x5 x6 x7 x9 x15 x21 x22 x23 : GVal) : List GVal := [p0, p1, .any, .any, .any, x5, x6, x7, .any, x9, .any, .any, .any, .any, .any, x15, .any, .any, .any, .any, .any, x21, x22, x23, .any, .any, .any, .any, .any, .any, .any, .any, .any, .any, .any, .any, .any, .any, .any, .any, .any, .any]
theorem dR0 (p0 p1 : GVal) (O : List GObj) : vcS Tryd.prog [] s21_0 (vcN (NW (dS p0 p1 .any .any .any .any .any .any .any .any) O)) (gstart 42 [p0, p1] O) := by
  simp only [gstart, List.cons_append, List.nil_append, List.length_cons, List.length_nil, Nat.reduceAdd, Nat.reduceSub, List.replicate_succ, List.replicate_zero]
  skip
  simp +contextual -implicitDefEqProofs (maxSteps := 2000000) (disch := omega) only [↓lenV, binV, optV, ↓loadV, ↓storeV, ↓fieldAddrV, ↓indexAddrV, ↓allocV, ↓buildSliceV, ↓sliceV, ↓nilV, ↓appendV, ↓srcV, bound, cutTag, hiTag, fillE, GVal.cells, grp, GVal.ofConst, ↓resV, resG, List.map, List.headD, List.take, List.drop, ↓reduceIte, Nat.reduceEqDiff, Nat.reduceAdd, Nat.reduceSub, Nat.reduceLeDiff, reduceCtorEq, implies_true, ne_eq, ↓asrcV, ↓makeMapV, Tag.cap, List.replicate, allSolid, GVal.solid, Nat.reduceBEq, Nat.reduceMul, Nat.reduceLT, List.length_map, List.length_range, splice, vcA, ↓vcB, vcC, fbFu, e21, vcN, NW, leG_any, leG_self, and_true, true_and]
  try trivial
theorem dR1 (p0 p1 : GVal) (r0 : GObj) (hst : ∀ (r : List GObj) (K : Nat → Prop), stamp (r0 :: r) K = ∀ st, K st) (htk : ∀ r : List GObj, tickO (r0 :: r) = r0 :: r) : vcS Tryd.prog [] s21_1 (vcN fun st' => ∃ stC stb, NW (dS p0 p1 (.ptr 3 stb 0 0) .any .any .any .any .any .any .any) ([r0, .dead, .map stC [], .row stb 1 [[.map 2 stC]]]) st') ⟨dS p0 p1 .any .any .any .any .any .any .any .any, [r0, .dead]⟩ := by
  skip
  simp +contextual -implicitDefEqProofs (maxSteps := 2000000) (disch := omega) only [↓lenV, binV, optV, ↓loadV, ↓storeV, ↓fieldAddrV, ↓indexAddrV, ↓allocV, ↓buildSliceV, ↓sliceV, ↓nilV, ↓appendV, ↓srcV, bound, cutTag, hiTag, fillE, GVal.cells, grp, GVal.ofConst, ↓resV, resG, List.map, List.headD, List.take, List.drop, ↓reduceIte, Nat.reduceEqDiff, Nat.reduceAdd, Nat.reduceSub, Nat.reduceLeDiff, reduceCtorEq, implies_true, ne_eq, ↓asrcV, ↓makeMapV, Tag.cap, List.replicate, allSolid, GVal.solid, Nat.reduceBEq, Nat.reduceMul, Nat.reduceLT, List.length_map, List.length_range, splice, vcA, ↓vcB, vcC, fbFu, e21, hst, htk, vcN, NW, leG_any, leG_self, and_true, true_and, dS]
  exact fun stC => ⟨rfl, fun stb => ⟨stC, stb, rfl, by simp [leG_self]⟩⟩
theorem dR2 (p1 x5 : GVal) (st s : Nat) (X : List GObj) : opsS Tryd.prog [] [(.mk (some 11) (.move (.tmp 0)) none), (.mk (some 12) (.nilCheck (.tmp 11)) none), (.mk (some 13) (.fieldAddr 64 (.tmp 12) 0) none), (.mk (some 14) (.load 62 (.tmp 13)) none)]
    (NW ((dS (.ptr 0 st 0 0) p1 x5 .any .any .any .any .any .any .any).set 14 (.map 1 s)) (.row st 1 [[.map 1 s]] :: X)) ⟨dS (.ptr 0 st 0 0) p1 x5 .any .any .any .any .any .any .any, .row st 1 [[.map 1 s]] :: X⟩ := by
  skip
  simp +contextual -implicitDefEqProofs (maxSteps := 2000000) (disch := omega) only [↓lenV, binV, optV, ↓loadV, ↓storeV, ↓fieldAddrV, ↓indexAddrV, ↓allocV, ↓buildSliceV, ↓sliceV, ↓nilV, ↓appendV, ↓srcV, bound, cutTag, hiTag, fillE, GVal.cells, grp, GVal.ofConst, ↓resV, resG, List.map, List.headD, List.take, List.drop, ↓reduceIte, Nat.reduceEqDiff, Nat.reduceAdd, Nat.reduceSub, Nat.reduceLeDiff, reduceCtorEq, implies_true, ne_eq, ↓asrcV, ↓makeMapV, Tag.cap, List.replicate, allSolid, GVal.solid, Nat.reduceBEq, Nat.reduceMul, Nat.reduceLT, List.length_map, List.length_range, splice, vcA, ↓vcB, vcC, fbFu, e21, NW, leG_any, leG_self, and_true, true_and, dS]
  try trivial
theorem dR3 (p0 p1 x5 x15 : GVal) (b : Bool) (k v : GVal) (O : List GObj) : opsS Tryd.prog [] [(.mk (some 17) (.extract (.tmp 16) 0) none)]
    (NW ((dS p0 p1 x5 .any .any .any x15 .any .any .any).set 17 (.bool b)) O) ⟨(dS p0 p1 x5 .any .any .any x15 .any .any .any).set 16 (.tuple [.bool b, k, v]), O⟩ := by
  skip
  simp +contextual -implicitDefEqProofs (maxSteps := 2000000) (disch := omega) only [↓lenV, binV, optV, ↓loadV, ↓storeV, ↓fieldAddrV, ↓indexAddrV, ↓allocV, ↓buildSliceV, ↓sliceV, ↓nilV, ↓appendV, ↓srcV, bound, cutTag, hiTag, fillE, GVal.cells, grp, GVal.ofConst, ↓resV, resG, List.map, List.headD, List.take, List.drop, ↓reduceIte, Nat.reduceEqDiff, Nat.reduceAdd, Nat.reduceSub, Nat.reduceLeDiff, reduceCtorEq, implies_true, ne_eq, ↓asrcV, ↓makeMapV, Tag.cap, List.replicate, allSolid, GVal.solid, Nat.reduceBEq, Nat.reduceMul, Nat.reduceLT, List.length_map, List.length_range, splice, vcA, ↓vcB, vcC, fbFu, e21, NW, leG_any, leG_self, and_true, true_and, dS]
  try trivial
theorem dR3' (p0 p1 x5 x15 : GVal) (b : Bool) (O : List GObj) : opsS Tryd.prog [] [(.mk (some 17) (.extract (.tmp 16) 0) none)]
    (NW ((dS p0 p1 x5 .any .any .any x15 .any .any .any).set 17 (.bool b)) O) ⟨(dS p0 p1 x5 .any .any .any x15 .any .any .any).set 16 (.tuple [.bool b]), O⟩ := by
  skip
  simp +contextual -implicitDefEqProofs (maxSteps := 2000000) (disch := omega) only [↓lenV, binV, optV, ↓loadV, ↓storeV, ↓fieldAddrV, ↓indexAddrV, ↓allocV, ↓buildSliceV, ↓sliceV, ↓nilV, ↓appendV, ↓srcV, bound, cutTag, hiTag, fillE, GVal.cells, grp, GVal.ofConst, ↓resV, resG, List.map, List.headD, List.take, List.drop, ↓reduceIte, Nat.reduceEqDiff, Nat.reduceAdd, Nat.reduceSub, Nat.reduceLeDiff, reduceCtorEq, implies_true, ne_eq, ↓asrcV, ↓makeMapV, Tag.cap, List.replicate, allSolid, GVal.solid, Nat.reduceBEq, Nat.reduceMul, Nat.reduceLT, List.length_map, List.length_range, splice, vcA, ↓vcB, vcC, fbFu, e21, NW, leG_any, leG_self, and_true, true_and, dS]
  try trivial
theorem dR4 (p0 p1 x5 x15 : GVal) (h : Hs) (ps : List Hs) (O : List GObj) (hst : ∀ K : Nat → Prop, stamp O K = ∀ st, K st) (htk : tickO O = O) : opsS Tryd.prog [] [(.mk (some 19) (.extract (.tmp 18) 0) none), (.mk (some 20) (.extract (.tmp 18) 1) none), (.mk (some 6) (.alloc 40) none), (.mk none (.store 40 (.tmp 6) (.tmp 19)) none), (.mk (some 7) (.assign (.tmp 20)) none)]
    (fun st' => ∃ v, NW (dS p0 p1 x5 (.ptr O.length v 0 0) (.slice (hsG ps) .none) .any x15 .any .any .any) (O ++ [.row v 32 [bytesG h.1]]) st') ⟨(dS p0 p1 x5 .any .any .any x15 .any .any .any).set 18 (.tuple [.agg (bytesG h.1), .slice (hsG ps) .none]), O⟩ := by
  have hO : ∀ x : GObj, (O ++ [x])[O.length]? = some x := fun x => by simp
  have hS : ∀ x y : GObj, (O ++ [x]).set O.length y = O ++ [y] := fun x y => by simp
  skip
  simp +contextual -implicitDefEqProofs (maxSteps := 2000000) (disch := omega) only [↓lenV, binV, optV, ↓loadV, ↓storeV, ↓fieldAddrV, ↓indexAddrV, ↓allocV, ↓buildSliceV, ↓sliceV, ↓nilV, ↓appendV, ↓srcV, bound, cutTag, hiTag, fillE, GVal.cells, grp, GVal.ofConst, ↓resV, resG, List.map, List.headD, List.take, List.drop, ↓reduceIte, Nat.reduceEqDiff, Nat.reduceAdd, Nat.reduceSub, Nat.reduceLeDiff, reduceCtorEq, implies_true, ne_eq, ↓asrcV, ↓makeMapV, Tag.cap, List.replicate, allSolid, GVal.solid, Nat.reduceBEq, Nat.reduceMul, Nat.reduceLT, List.length_map, List.length_range, splice, vcA, ↓vcB, vcC, fbFu, e21, NW, leG_any, leG_self, and_true, true_and, dS, hst, htk, hO, hS, len32, take32, solidH]
  first
    | exact fun v => ⟨v, rfl, by simp [leG_self]⟩
    | exact fun v => ⟨v, rfl⟩
theorem dR5 (p0 p1 x5 x6 x15 : GVal) (ps : List Hs) (O : List GObj) : vcS Tryd.prog [] s21_5 (vcN (NW (dS p0 p1 x5 x6 .any .any x15 (.slice (hsG ps) .none) (.int .i64 ps.length) (.int .i64 0)) O)) ⟨dS p0 p1 x5 x6 (.slice (hsG ps) .none) .any x15 .any .any .any, O⟩ := by
  skip
  simp +contextual -implicitDefEqProofs (maxSteps := 2000000) (disch := omega) only [↓lenV, binV, optV, ↓loadV, ↓storeV, ↓fieldAddrV, ↓indexAddrV, ↓allocV, ↓buildSliceV, ↓sliceV, ↓nilV, ↓appendV, ↓srcV, bound, cutTag, hiTag, fillE, GVal.cells, grp, GVal.ofConst, ↓resV, resG, List.map, List.headD, List.take, List.drop, ↓reduceIte, Nat.reduceEqDiff, Nat.reduceAdd, Nat.reduceSub, Nat.reduceLeDiff, reduceCtorEq, implies_true, ne_eq, ↓asrcV, ↓makeMapV, Tag.cap, List.replicate, allSolid, GVal.solid, Nat.reduceBEq, Nat.reduceMul, Nat.reduceLT, List.length_map, List.length_range, splice, vcA, ↓vcB, vcC, fbFu, e21, vcN, NW, leG_any, leG_self, and_true, true_and, dS, hsG_len]
  try trivial
theorem dR6 (p0 p1 x5 x6 x15 x21 : GVal) (k n : Nat) (O : List GObj) : vcS Tryd.prog [] s21_6 (vcN (NW ((dS p0 p1 x5 x6 .any .any x15 x21 (.int .i64 n) (.int .i64 k)).set 24 (.bool (decide (k < n)))) O)) ⟨dS p0 p1 x5 x6 .any .any x15 x21 (.int .i64 n) (.int .i64 k), O⟩ := by
  have d0 : decide ((k : Int) < (n : Int)) = decide (k < n) := by simp
  skip
  simp +contextual -implicitDefEqProofs (maxSteps := 2000000) (disch := omega) only [↓lenV, binV, optV, ↓loadV, ↓storeV, ↓fieldAddrV, ↓indexAddrV, ↓allocV, ↓buildSliceV, ↓sliceV, ↓nilV, ↓appendV, ↓srcV, bound, cutTag, hiTag, fillE, GVal.cells, grp, GVal.ofConst, ↓resV, resG, List.map, List.headD, List.take, List.drop, ↓reduceIte, Nat.reduceEqDiff, Nat.reduceAdd, Nat.reduceSub, Nat.reduceLeDiff, reduceCtorEq, implies_true, ne_eq, ↓asrcV, ↓makeMapV, Tag.cap, List.replicate, allSolid, GVal.solid, Nat.reduceBEq, Nat.reduceMul, Nat.reduceLT, List.length_map, List.length_range, splice, vcA, ↓vcB, vcC, fbFu, e21, vcN, NW, leG_any, leG_self, and_true, true_and, dS, d0]
  try trivial
theorem dR7 (p0 p1 x5 x6 x15 x22 : GVal) (ps : List Hs) (k : Nat) (hk : k < ps.length) (p : Hs) (hp : ps.getD k h0 = p) (O : List GObj) (hst : ∀ K : Nat → Prop, stamp O K = ∀ st, K st) (htk : tickO O = O) : vcS Tryd.prog [] s21_7
    (vcN fun st' => ∃ v, NW (dS p0 p1 x5 x6 .any (.ptr O.length v 0 0) x15 (.slice (hsG ps) .none) x22 (.int .i64 k)) (O ++ [.row v 32 [bytesG p.1]]) st') ⟨dS p0 p1 x5 x6 .any .any x15 (.slice (hsG ps) .none) x22 (.int .i64 k), O⟩ := by
  have hO : ∀ x : GObj, (O ++ [x])[O.length]? = some x := fun x => by simp
  have hS : ∀ x y : GObj, (O ++ [x]).set O.length y = O ++ [y] := fun x y => by simp
  have ea := hsG_at ps k hk
  rw [hp] at ea
  skip
  simp +contextual -implicitDefEqProofs (maxSteps := 2000000) (disch := omega) only [↓lenV, binV, optV, ↓loadV, ↓storeV, ↓fieldAddrV, ↓indexAddrV, ↓allocV, ↓buildSliceV, ↓sliceV, ↓nilV, ↓appendV, ↓srcV, bound, cutTag, hiTag, fillE, GVal.cells, grp, GVal.ofConst, ↓resV, resG, List.map, List.headD, List.take, List.drop, ↓reduceIte, Nat.reduceEqDiff, Nat.reduceAdd, Nat.reduceSub, Nat.reduceLeDiff, reduceCtorEq, implies_true, ne_eq, ↓asrcV, ↓makeMapV, Tag.cap, List.replicate, allSolid, GVal.solid, Nat.reduceBEq, Nat.reduceMul, Nat.reduceLT, List.length_map, List.length_range, splice, vcA, ↓vcB, vcC, fbFu, e21, vcN, NW, leG_any, leG_self, and_true, true_and, dS, hst, htk, hO, hS, len32, take32, solidH, hsG_len, ea, all_hsG]
  refine ⟨by omega, by omega, ?_⟩
  exact fun v => ⟨v, rfl, by rw [leG_self]; trivial⟩
theorem dR8a (p0 p1 x15 x21 x22 x23 : GVal) (h p : Hs) (stb stC : Nat) (r0 r1 r2 : GObj) (X : List GObj) : opsS Tryd.prog [] [(.mk (some 27) (.load 62 (.tmp 5)) none), (.mk (some 28) (.load 40 (.tmp 9)) none), (.mk (some 30) (.load 40 (.tmp 6)) none), (.mk (some 31) (.buildSlice 30 1 #[(0, (.tmp 30))]) none)]
    (NW ((((dS p0 p1 (.ptr 3 stb 0 0) (.ref (bytesG h.1)) .any .any x15 x21 x22 x23).set 27 (.map 2 stC)).set 28 (.agg (bytesG p.1))).set 31 (.slice [bytesG h.1] .full)) (r0 :: r1 :: r2 :: .row stb 1 [[.map 2 stC]] :: X)) ⟨dS p0 p1 (.ptr 3 stb 0 0) (.ref (bytesG h.1)) .any (.ref (bytesG p.1)) x15 x21 x22 x23, r0 :: r1 :: r2 :: .row stb 1 [[.map 2 stC]] :: X⟩ := by
  skip
  simp +contextual -implicitDefEqProofs (maxSteps := 2000000) (disch := omega) only [↓lenV, binV, optV, ↓loadV, ↓storeV, ↓fieldAddrV, ↓indexAddrV, ↓allocV, ↓buildSliceV, ↓sliceV, ↓nilV, ↓appendV, ↓srcV, bound, cutTag, hiTag, fillE, GVal.cells, grp, GVal.ofConst, ↓resV, resG, List.map, List.headD, List.take, List.drop, ↓reduceIte, Nat.reduceEqDiff, Nat.reduceAdd, Nat.reduceSub, Nat.reduceLeDiff, reduceCtorEq, implies_true, ne_eq, ↓asrcV, ↓makeMapV, Tag.cap, List.replicate, allSolid, GVal.solid, Nat.reduceBEq, Nat.reduceMul, Nat.reduceLT, List.length_map, List.length_range, splice, vcA, ↓vcB, vcC, fbFu, e21, NW, leG_any, leG_self, and_true, true_and, dS, len32, take32, solidH]
  try trivial
theorem dR8n (p0 p1 x5 x6 x15 x21 x22 x23 x27 : GVal) (h : Hs) (stamp_ : Nat) (O : List GObj) (hst : ∀ K : Nat → Prop, stamp O K = ∀ st, K st) (htk : tickO O = O) : opsS Tryd.prog [] [(.mk (some 29) (.extract (.tmp 32) 0) none), (.mk (some 33) (.call (.mk (.builtin (.append)) #[(.tmp 29), (.tmp 31)] #[30, 30])) none), (.mk (some 34) (.extract (.tmp 32) 1) none)]
    (fun st' => ∃ v, NW ((((dS p0 p1 x5 x6 .any .any x15 x21 x22 x23).set 27 x27).set 33 (.slice (hsG [h]) (.tok O.length v))).set 34 (.int .i64 stamp_)) (O ++ [.tok v 32]) st')
    ⟨(((dS p0 p1 x5 x6 .any .any x15 x21 x22 x23).set 27 x27).set 31 (.slice [bytesG h.1] .full)).set 32 (.tuple [.slice [] .nil, .int .i64 stamp_]), O⟩ := by
  skip
  simp +contextual -implicitDefEqProofs (maxSteps := 2000000) (disch := omega) only [↓lenV, binV, optV, ↓loadV, ↓storeV, ↓fieldAddrV, ↓indexAddrV, ↓allocV, ↓buildSliceV, ↓sliceV, ↓nilV, ↓appendV, ↓srcV, bound, cutTag, hiTag, fillE, GVal.cells, grp, GVal.ofConst, ↓resV, resG, List.map, List.headD, List.take, List.drop, ↓reduceIte, Nat.reduceEqDiff, Nat.reduceAdd, Nat.reduceSub, Nat.reduceLeDiff, reduceCtorEq, implies_true, ne_eq, ↓asrcV, ↓makeMapV, Tag.cap, List.replicate, allSolid, GVal.solid, Nat.reduceBEq, Nat.reduceMul, Nat.reduceLT, List.length_map, List.length_range, splice, vcA, ↓vcB, vcC, fbFu, e21, NW, leG_any, leG_self, and_true, true_and, dS, hst, htk, len32, take32, solidH]
  first
    | exact fun v => ⟨v, rfl, by simp [leG_self, hsG]⟩
    | exact fun v => ⟨v, rfl⟩
theorem dR8s (p0 p1 x5 x6 x15 x21 x22 x23 x27 : GVal) (h : Hs) (l : List Hs) (hl : l.length ≤ 1000000) (stamp_ o t : Nat) (O : List GObj) (hO : O[o]? = some (.tok t 32)) (hst : ∀ K : Nat → Prop, stamp O K = ∀ st, K st) (htk : tickO O = O) : opsS Tryd.prog [] [(.mk (some 29) (.extract (.tmp 32) 0) none), (.mk (some 33) (.call (.mk (.builtin (.append)) #[(.tmp 29), (.tmp 31)] #[30, 30])) none), (.mk (some 34) (.extract (.tmp 32) 1) none)]
    (fun st' => ∃ v, NW ((((dS p0 p1 x5 x6 .any .any x15 x21 x22 x23).set 27 x27).set 33 (.slice (hsG (l ++ [h])) (.tok o v))).set 34 (.int .i64 stamp_)) (O.set o (.tok v 32)) st')
    ⟨(((dS p0 p1 x5 x6 .any .any x15 x21 x22 x23).set 27 x27).set 31 (.slice [bytesG h.1] .full)).set 32 (.tuple [.slice (hsG l) (.tok o t), .int .i64 stamp_]), O⟩ := by
  skip
  simp +contextual -implicitDefEqProofs (maxSteps := 2000000) (disch := omega) only [↓lenV, binV, optV, ↓loadV, ↓storeV, ↓fieldAddrV, ↓indexAddrV, ↓allocV, ↓buildSliceV, ↓sliceV, ↓nilV, ↓appendV, ↓srcV, bound, cutTag, hiTag, fillE, GVal.cells, grp, GVal.ofConst, ↓resV, resG, List.map, List.headD, List.take, List.drop, ↓reduceIte, Nat.reduceEqDiff, Nat.reduceAdd, Nat.reduceSub, Nat.reduceLeDiff, reduceCtorEq, implies_true, ne_eq, ↓asrcV, ↓makeMapV, Tag.cap, List.replicate, allSolid, GVal.solid, Nat.reduceBEq, Nat.reduceMul, Nat.reduceLT, List.length_map, List.length_range, splice, vcA, ↓vcB, vcC, fbFu, e21, NW, leG_any, leG_self, and_true, true_and, dS, hst, htk, hO, len32, take32, solidH, hsG_len, all_hsG]
  refine ⟨by omega, by omega, ?_⟩
  exact fun v => ⟨v, rfl, by rw [hsG_app]; exact (leG_self _).mpr trivial⟩
theorem dR9 (p0 p1 x5 x6 x15 x21 x22 : GVal) (k : Nat) (hk : k ≤ 1000000000) (O : List GObj) : vcS Tryd.prog [] s21_9 (vcN (NW (dS p0 p1 x5 x6 .any .any x15 x21 x22 (.int .i64 (k + 1 : Nat))) O)) ⟨dS p0 p1 x5 x6 .any .any x15 x21 x22 (.int .i64 k), O⟩ := by
  skip
  simp +contextual -implicitDefEqProofs (maxSteps := 2000000) (disch := omega) only [↓lenV, binV, optV, ↓loadV, ↓storeV, ↓fieldAddrV, ↓indexAddrV, ↓allocV, ↓buildSliceV, ↓sliceV, ↓nilV, ↓appendV, ↓srcV, bound, cutTag, hiTag, fillE, GVal.cells, grp, GVal.ofConst, ↓resV, resG, List.map, List.headD, List.take, List.drop, ↓reduceIte, Nat.reduceEqDiff, Nat.reduceAdd, Nat.reduceSub, Nat.reduceLeDiff, reduceCtorEq, implies_true, ne_eq, ↓asrcV, ↓makeMapV, Tag.cap, List.replicate, allSolid, GVal.solid, Nat.reduceBEq, Nat.reduceMul, Nat.reduceLT, List.length_map, List.length_range, splice, vcA, ↓vcB, vcC, fbFu, e21, vcN, NW, leG_any, leG_self, and_true, true_and, dS]
end Gv.Tryd
/- graph.Descendants: the map of children grows. -/
set_option linter.unusedVariables false
set_option linter.unusedSimpArgs false
set_option maxRecDepth 20000
set_option maxHeartbeats 4000000
namespace Gv.Tryd
open Go Gv Go.Proofs
def kidPut (ch : GM) (p h : Hs) : GM := mset ch p ((look ch p).getD [] ++ [h])
def kidRow (ch : GM) (h : Hs) (ps : List Hs) : GM := ps.foldl (fun c p => kidPut c p h) ch
def kidAll (pre : GM) : GM := pre.foldl (fun c q => kidRow c q.1 q.2) []
abbrev CT := List ((Hs × List Hs) × Nat)
def ctM (ct : CT) : GM := ct.map (·.1)
def kvT (ct : CT) : List (GVal × GVal) := ct.zipIdx.map fun q => (.agg (bytesG q.1.1.1.1), .slice (hsG q.1.1.2) (.tok (q.2 + 4) q.1.2))
def obs (st s stC stb : Nat) (ct : CT) : List GObj := .row st 1 [[.map 1 s]] :: .dead :: .dead :: .row stb 1 [[.map 2 stC]] :: ct.map fun q => .tok q.2 32
theorem kvT_at (ct : CT) (i : Nat) : (kvT ct)[i]? = (ct[i]?).map fun q => (.agg (bytesG q.1.1.1), .slice (hsG q.1.2) (.tok (i + 4) q.2)) := by
  unfold kvT
  rw [List.getElem?_map, List.getElem?_zipIdx]
  cases ct[i]? <;> simp
theorem kvT_len (ct : CT) : (kvT ct).length = ct.length := by simp [kvT]
theorem kvT_set (ct : CT) (i : Nat) (q : (Hs × List Hs) × Nat) : (kvT ct).set i (.agg (bytesG q.1.1.1), .slice (hsG q.1.2) (.tok (i + 4) q.2)) = kvT (ct.set i q) := by
  refine List.ext_getElem? fun j => ?_
  rw [kvT_at, List.getElem?_set, List.getElem?_set, kvT_at, kvT_len]
  by_cases e : i = j
  · subst e
    simp only [if_true]
    split <;> rfl
  · simp only [if_neg e]
theorem kvT_app (ct : CT) (q : (Hs × List Hs) × Nat) : kvT ct ++ [(.agg (bytesG q.1.1.1), .slice (hsG q.1.2) (.tok (ct.length + 4) q.2))] = kvT (ct ++ [q]) := by
  simp [kvT, List.zipIdx_append]
theorem obs_len (st s stC stb : Nat) (ct : CT) : (obs st s stC stb ct).length = ct.length + 4 := by simp [obs]
theorem obs_at (st s stC stb : Nat) (ct : CT) (i : Nat) : (obs st s stC stb ct)[i + 4]? = (ct[i]?).map fun q => .tok q.2 32 := by simp [obs]
theorem obs_set (st s stC stb : Nat) (ct : CT) (i : Nat) (q : (Hs × List Hs) × Nat) : (obs st s stC stb ct).set (i + 4) (.tok q.2 32) = obs st s stC stb (ct.set i q) := by simp [obs, List.map_set]
theorem obs_app (st s stC stb : Nat) (ct : CT) (q : (Hs × List Hs) × Nat) : obs st s stC stb ct ++ [.tok q.2 32] = obs st s stC stb (ct ++ [q]) := by simp [obs]
theorem kfind_keys {k : KT} {x : GVal} : ∀ {kv kv' : List (GVal × GVal)}, kv.map (·.1) = kv'.map (·.1) → kfind k x kv = kfind k x kv'
  | [], [], _ => rfl
  | [], q :: r, h => by simp at h
  | p :: r, [], h => by simp at h
  | p :: r, q :: r', h => by
    simp only [List.map_cons, List.cons.injEq] at h
    rw [kfind, kfind, h.1, kfind_keys h.2]
theorem kfind_T (ct : CT) (p : Hs) : kfind hkT (.agg (bytesG p.1)) (kvT ct) = some (idxM (ctM ct) p) := by
  rw [← kfind_h encL p (ctM ct)]
  refine kfind_keys (List.ext_getElem? fun i => ?_)
  rw [List.getElem?_map, List.getElem?_map, kvT_at, kvG, ctM, List.getElem?_map, List.getElem?_map]
  cases ct[i]? <;> rfl
theorem idx_at {α : Type} : ∀ (m : List (Hs × α)) (h : Hs) (v : α), look m h = some v → ∃ i, idxM m h = some i ∧ m[i]? = some (h, v) ∧ ∀ w, m.set i (h, w) = mset m h w
  | [], h, v, e => by cases e
  | p :: r, h, v, e => by
    rw [look] at e
    by_cases hp : h = p.1
    · rw [if_pos hp] at e
      cases e
      refine ⟨0, by rw [idxM, if_pos hp], by simp [hp], fun w => by simp [mset, hp]⟩
    · rw [if_neg hp] at e
      obtain ⟨i, h1, h2, h3⟩ := idx_at r h v e
      exact ⟨i + 1, by rw [idxM, if_neg hp, h1]; rfl, by simpa using h2, fun w => by rw [mset, if_neg hp, ← h3 w]; rfl⟩
theorem idx_no {α : Type} : ∀ (m : List (Hs × α)) (h : Hs), look m h = none → idxM m h = none ∧ ∀ w, m ++ [(h, w)] = mset m h w
  | [], h, e => ⟨rfl, fun w => rfl⟩
  | p :: r, h, e => by
    rw [look] at e
    by_cases hp : h = p.1
    · rw [if_pos hp] at e; cases e
    · rw [if_neg hp] at e
      obtain ⟨h1, h2⟩ := idx_no r h e
      exact ⟨by rw [idxM, if_neg hp, h1]; rfl, fun w => by rw [mset, if_neg hp, ← h2 w]; rfl⟩
structure DD where
  (st s stC stb b r bC : Nat)
  m : GM
  es : Array MapEntry
  clock : Nat
  E0 : Env
  w0 : World
  lC : GLoc
structure DOK (D : DD) : Prop where
  hl : D.lC.block = some D.bC
  h0 : D.w0.heap.size ≤ D.bC
  hr0 : D.w0.heap.size ≤ D.r
  nb : D.bC ≠ D.b
  nr : D.bC ≠ D.r
  nrb : D.r ≠ D.b
  born : BornOK D.es D.clock
abbrev DD.o (D : DD) (ct : CT) : List GObj := obs D.st D.s D.stC D.stb ct
structure AtW (D : DD) (seen : Array Nat) (E : Env) (O : List GObj) (w : World) : Prop where
  sim : HSim E O w
  keep : Keep D.E0 [.row D.st 1 [[.map 1 D.s]], .dead] D.w0 E O w
  walk : WalkAt w D.b D.r D.es D.clock seen
  hb : Hid E O w D.b
  hr : Hid E O w D.r
  hC : Hid E O w D.bC
  loc : E.loc D.stC = some D.lC
def Ent (D : DD) (ct : CT) (E : Env) (w : World) : Prop := ∃ esC cC, MapAt E w D.bC esC cC (kvT ct)
theorem walk_same {w w' : World} {b r clock : Nat} {es : Array MapEntry} {seen : Array Nat} (h : WalkAt w b r es clock seen) (hb : w'.heap[b]? = w.heap[b]?) (hr : w'.heap[r]? = w.heap[r]?) : WalkAt w' b r es clock seen := by
  obtain ⟨since, c0, h1, h2, h3, h4, h5⟩ := h
  exact ⟨since, c0, hb.trans h1, hr.trans h2, h3, h4, h5⟩
theorem AtW.step {D : DD} {seen : Array Nat} {E E' : Env} {O O' : List GObj} {w w' : World} (h : AtW D seen E O w) (h' : HSim E' O' w') (k : Keep E O w E' O' w') : AtW D seen E' O' w' :=
  ⟨h', h.keep.trans k, walk_same h.walk (h.hb.keep k).2 (h.hr.keep k).2, (h.hb.keep k).1, (h.hr.keep k).1, (h.hC.keep k).1, k.ext.loc _ _ h.loc⟩
theorem Ent.step {D : DD} {ct : CT} {seen : Array Nat} {E E' : Env} {O O' : List GObj} {w w' : World} (h : Ent D ct E w) (hA : AtW D seen E O w) (k : Keep E O w E' O' w') : Ent D ct E' w' := by
  obtain ⟨esC, cC, hm⟩ := h
  exact ⟨esC, cC, hm.ext k.ext (hA.hC.keep k).2⟩
theorem AtW.poke {D : DD} (hD : DOK D) {seen : Array Nat} {E : Env} {O : List GObj} {w w' : World} (h : AtW D seen E O w) (g : w.grownBy w' (some D.bC)) : AtW D seen E O w' :=
  ⟨h.sim.grown g (fun r e => by cases e; exact ⟨h.hC.obj, h.hC.snap⟩), h.keep.grown g (fun r e => by cases e; exact hD.h0),
   walk_same h.walk (g.block _ h.hb.lt (fun e => hD.nb (Option.some.inj e).symm)) (g.block _ h.hr.lt (fun e => hD.nr (Option.some.inj e).symm)), h.hb.grown g, h.hr.grown g, h.hC.grown g, h.loc⟩
theorem obs_stamp (st s stC stb : Nat) (ct : CT) (K : Nat → Prop) : stamp (obs st s stC stb ct) K = ∀ st, K st := rfl
theorem obs_tick (st s stC stb : Nat) (ct : CT) : tickO (obs st s stC stb ct) = obs st s stC stb ct := rfl
theorem dR8 {all : Array Oper} {QQ : Exit → Act → World → Prop} (D : DD) (hD : DOK D) {ct : CT} {seen : Array Nat} {E : Env} {a : Act} {w : World} (hA : AtW D seen E (D.o ct) w) (hE : Ent D ct E w) {p0 p1 x15 x21 x22 x23 : GVal} {h p : Hs}
    (ha : SlotsR E a (dS p0 p1 (.ptr 3 D.stb 0 0) (.ref (bytesG h.1)) .any (.ref (bytesG p.1)) x15 x21 x22 x23)) (hlen : ∀ q ∈ ct, q.1.2.length ≤ 1000000) {o1 o2 o3 o4 o5 o6 o7 o8 o9 : Oper}
    (hA4 : [o1, o2, o3, o4].map (fun o => (⟨o.dst, o.op, none⟩ : SOp)) = [(.mk (some 27) (.load 62 (.tmp 5)) none), (.mk (some 28) (.load 40 (.tmp 9)) none), (.mk (some 30) (.load 40 (.tmp 6)) none), (.mk (some 31) (.buildSlice 30 1 #[(0, (.tmp 30))]) none)])
    (gA4 : [o1, o2, o3, o4].all (fun o => o.guard.isNone) = true)
    (h5 : o5.op = .mapEntry 62 (.tmp 27) (.tmp 28)) (g5 : o5.guard = none) (d5 : o5.dst = some 32)
    (hB3 : [o6, o7, o8].map (fun o => (⟨o.dst, o.op, none⟩ : SOp)) = [(.mk (some 29) (.extract (.tmp 32) 0) none), (.mk (some 33) (.call (.mk (.builtin (.append)) #[(.tmp 29), (.tmp 31)] #[30, 30])) none), (.mk (some 34) (.extract (.tmp 32) 1) none)])
    (gB3 : [o6, o7, o8].all (fun o => o.guard.isNone) = true)
    (h9 : o9.op = .entryStore 62 (.tmp 27) (.tmp 34) (.tmp 33)) (g9 : o9.guard = none) (d9 : o9.dst = none)
    (hq : ∀ ct' E' a' w', ctM ct' = kidPut (ctM ct) p h → AtW D seen E' (D.o ct') w' → Ent D ct' E' w' → SlotsR E' a' (dS p0 p1 (.ptr 3 D.stb 0 0) (.ref (bytesG h.1)) .any .any x15 x21 x22 x23) → QQ .normal a' w') :
    wpList Tryd.prog all QQ [o1, o2, o3, o4, o5, o6, o7, o8, o9] a w := by
  refine ops_seg (st := ⟨_, D.o ct⟩) 4 hA4 gA4 hA.sim ha (dR8a p0 p1 x15 x21 x22 x23 h p D.stb D.stC _ _ _ _) ?_
  rintro ⟨s1, O1⟩ E1 a1 w1 q1 k1 s1R ⟨e1, hw1⟩
  change O1 = D.o ct at e1
  subst e1
  have s1 := s1R.weak hw1
  have hA1 := hA.step q1 k1
  obtain ⟨esC, cC, hm1⟩ := hE.step hA k1
  have v27 : a1.eval (.tmp 27) = .map (some D.bC) := map_val (SlotsR.ev (st := ⟨_, []⟩) s1 (.tmp 27)) hA1.loc hD.hl
  have v28 : VR E1 (a1.eval (.tmp 28)) (.agg (bytesG p.1)) := SlotsR.ev (st := ⟨_, []⟩) s1 (.tmp 28)
  have hkt : keyT Tryd.prog 62 = some (hkT, 30) := by kernel_rfl
  have hz : zeroG Tryd.prog 30 = some (.slice [] .nil) := by kernel_rfl
  have hko : keyOk hkT (.agg (bytesG p.1)) := by simp [keyOk, keyCells, len32]
  obtain ⟨rv0, stN, es1, clock1, w2, hrun, hg2, hb2, hv0, hstore⟩ := mapEntry_hid hkt hz hko v28 hm1 (kfind_T ct p)
  show wpList _ _ _ (o5 :: [o6, o7, o8, o9]) a1 w1
  refine mapEntry_step g5 h5 (by rw [v27]; exact hrun) ?_
  have hA2 := hA1.poke hD hg2
  rw [d5]
  have fin : ∀ (ct' : CT) (oldg newg : GVal) (O3 : List GObj), VR E1 rv0 oldg → putAt (kvT ct) (.agg (bytesG p.1)) newg (idxM (ctM ct) p) = kvT ct' → ctM ct' = kidPut (ctM ct) p h → O3 = D.o ct' →
      ∀ (st3 : GSt) E3 a3 w3, HSim E3 st3.o w3 → Keep E1 (D.o ct) w2 E3 st3.o w3 → SlotsR E3 a3 st3.s → NW ((((dS p0 p1 (.ptr 3 D.stb 0 0) (.ref (bytesG h.1)) .any .any x15 x21 x22 x23).set 27 (.map 2 D.stC)).set 33 newg).set 34 (.int .i64 stN)) O3 st3 →
      wpList Tryd.prog all QQ [o9] a3 w3 := by
    rintro ct' oldg newg O3 ho hput hct rfl ⟨s3, O3⟩ E3 a3 w3 q3 k3 s3R ⟨e3, hw3⟩
    change O3 = D.o ct' at e3
    subst e3
    have s3 := s3R.weak hw3
    have hA3 := hA2.step q3 k3
    have v27' : a3.eval (.tmp 27) = .map (some D.bC) := map_val (SlotsR.ev (st := ⟨_, []⟩) s3 (.tmp 27)) hA3.loc hD.hl
    have v33 : VR E3 (a3.eval (.tmp 33)) newg := SlotsR.ev (st := ⟨_, []⟩) s3 (.tmp 33)
    have v34 : a3.eval (.tmp 34) = goInt stN := by
      have : VR E3 (a3.eval (.tmp 34)) (.int .i64 stN) := SlotsR.ev (st := ⟨_, []⟩) s3 (.tmp 34)
      generalize a3.eval (.tmp 34) = v at this
      cases this; rfl
    obtain ⟨w4, es4, c4, hrun4, hg4, hm4⟩ := hstore E3 w3 (a3.eval (.tmp 33)) newg k3.ext (((hA2.hC.keep k3).2).trans hb2) v33
    refine entryStore_step g9 h9 (by rw [v27', v34]; exact hrun4) (wpList_nil ?_)
    rw [hput] at hm4
    refine hq ct' E3 _ w4 hct (hA3.poke hD hg4) ⟨es4, c4, hm4⟩ ?_
    rw [d9]
    exact s3.weak (by simp [WL, leG_self, leG_any])
  have s2 : ∀ oldg, VR E1 rv0 oldg → SlotsR E1 (a1.put (some 32) (.tuple #[rv0, goInt stN])) ((((dS p0 p1 (.ptr 3 D.stb 0 0) (.ref (bytesG h.1)) .any .any x15 x21 x22 x23).set 27 (.map 2 D.stC)).set 31 (.slice [bytesG h.1] .full)).set 32 (.tuple [oldg, .int .i64 stN])) := fun oldg ho => by
    have hvt : VR E1 (.tuple #[rv0, goInt stN]) (.tuple [oldg, .int .i64 stN]) := .tuple _ _ rfl (fun j g hj => by
      match j with
      | 0 => cases hj; exact ho
      | 1 => cases hj; exact .int _ _
      | j + 2 => simp at hj)
    exact (SlotsR.put (st := ⟨_, []⟩) s1 (.refl E1) (d := some 32) hvt []).weak (by simp [GSt.put, WL, leG_self, leG_any])
  show wpList _ _ _ (o6 :: o7 :: o8 :: [o9]) _ _
  cases hlk : look (ctM ct) p with
  | none =>
    obtain ⟨i1, i2⟩ := idx_no _ _ hlk
    rw [i1] at hv0
    refine ops_seg (st := ⟨((((dS p0 p1 (.ptr 3 D.stb 0 0) (.ref (bytesG h.1)) .any .any x15 x21 x22 x23).set 27 (.map 2 D.stC)).set 31 (.slice [bytesG h.1] .full)).set 32 (.tuple [.slice [] .nil, .int .i64 stN])), D.o ct⟩) 3 hB3 gB3 hA2.sim (s2 (.slice [] .nil) hv0) (dR8n p0 p1 _ _ x15 x21 x22 x23 _ h stN (D.o ct) (obs_stamp _ _ _ _ _) (obs_tick _ _ _ _ _)) ?_
    rintro st3 E3 a3 w3 q3 k3 s3R ⟨v, hN⟩
    refine fin (ct ++ [((p, [h]), v)]) _ (.slice (hsG [h]) (.tok (D.o ct).length v)) _ hv0 ?_ ?_ rfl st3 E3 a3 w3 q3 k3 s3R ?_
    · rw [i1, obs_len]
      exact kvT_app ct ((p, [h]), v)
    · rw [kidPut, hlk, ← i2]
      simp [ctM]
    · have := obs_app D.st D.s D.stC D.stb ct ((p, [h]), v)
      show NW _ (obs D.st D.s D.stC D.stb _) st3
      rw [← this]
      exact hN
  | some l =>
    obtain ⟨i, i1, i2, i3⟩ := idx_at _ _ _ hlk
    obtain ⟨q, hqi, eq⟩ : ∃ q, ct[i]? = some q ∧ q.1 = (p, l) := by
      rw [ctM, List.getElem?_map] at i2
      cases hc : ct[i]? with
      | none => rw [hc] at i2; cases i2
      | some q => rw [hc] at i2; exact ⟨q, rfl, by simpa using i2⟩
    obtain ⟨q1', t⟩ := q
    change q1' = (p, l) at eq
    subst eq
    have hv : VR E1 rv0 (.slice (hsG l) (.tok (i + 4) t)) := by
      rw [i1] at hv0
      simpa [oldAt, kvT_at, hqi] using hv0
    refine ops_seg (st := ⟨((((dS p0 p1 (.ptr 3 D.stb 0 0) (.ref (bytesG h.1)) .any .any x15 x21 x22 x23).set 27 (.map 2 D.stC)).set 31 (.slice [bytesG h.1] .full)).set 32 (.tuple [.slice (hsG l) (.tok (i + 4) t), .int .i64 stN])), D.o ct⟩) 3 hB3 gB3 hA2.sim (s2 _ hv) (dR8s p0 p1 _ _ x15 x21 x22 x23 _ h l (hlen _ (List.mem_of_getElem? hqi)) stN (i + 4) t (D.o ct) (by rw [obs_at, hqi]; rfl) (obs_stamp _ _ _ _ _) (obs_tick _ _ _ _ _)) ?_
    rintro st3 E3 a3 w3 q3 k3 s3R ⟨v, hN⟩
    refine fin (ct.set i ((p, l ++ [h]), v)) _ (.slice (hsG (l ++ [h])) (.tok (i + 4) v)) _ hv ?_ ?_ rfl st3 E3 a3 w3 q3 k3 s3R ?_
    · rw [i1]
      exact kvT_set ct i ((p, l ++ [h]), v)
    · rw [kidPut, hlk, Option.getD_some, ← i3]
      simp [ctM, List.map_set]
    · have := obs_set D.st D.s D.stC D.stb ct i ((p, l ++ [h]), v)
      show NW _ (obs D.st D.s D.stC D.stb _) st3
      rw [← this]
      exact hN
end Gv.Tryd
/- graph.Descendants: its two loops. -/
set_option linter.unusedVariables false
set_option linter.unusedSimpArgs false
set_option maxRecDepth 20000
set_option maxHeartbeats 4000000
namespace Gv.Tryd
open Go Gv Go.Proofs
theorem frzL_hs (O : List GObj) (n : Nat) (h : Hs) : frzL (Gv.frz O (n + 1)) (bytesG h.1) = some (bytesG h.1) := by
  have := frz_hs O n [h]
  simp only [hsG, List.map_cons, List.map_nil, frzLL] at this
  cases e : frzL (Gv.frz O (n + 1)) (bytesG h.1) with
  | none => rw [e] at this; cases this
  | some x => rw [e] at this; simpa using this
def Kb (N : Nat) (ch : GM) : Prop := ∀ q ∈ ch, q.2.length ≤ N
theorem look_memG : ∀ {m : GM} {h : Hs} {l : List Hs}, look m h = some l → (h, l) ∈ m
  | [], h, l, e => by cases e
  | p :: r, h, l, e => by
    rw [look] at e
    by_cases hp : h = p.1
    · rw [if_pos hp] at e; cases e; rw [hp]; simp
    · rw [if_neg hp] at e; exact List.mem_cons_of_mem _ (look_memG e)
theorem mem_mset {m : GM} {h : Hs} {v : List Hs} {q : Hs × List Hs} (hq : q ∈ mset m h v) : q ∈ m ∨ q = (h, v) := by
  induction m with
  | nil => rw [mset] at hq; exact .inr (by simpa using hq)
  | cons p r ih =>
    rw [mset] at hq
    split at hq
    · rcases List.mem_cons.1 hq with e | e
      · exact .inr e
      · exact .inl (List.mem_cons_of_mem _ e)
    · rcases List.mem_cons.1 hq with e | e
      · exact .inl (by rw [e]; simp)
      · rcases ih e with e | e
        · exact .inl (List.mem_cons_of_mem _ e)
        · exact .inr e
theorem Kb.put {N : Nat} {ch : GM} (h : Kb N ch) (p x : Hs) : Kb (N + 1) (kidPut ch p x) := by
  intro q hq
  rcases mem_mset hq with e | e
  · have := h q e; omega
  · rw [e]
    show ((look ch p).getD [] ++ [x]).length ≤ N + 1
    rw [List.length_append, List.length_singleton]
    cases hl : look ch p with
    | none => simp
    | some l => have := h _ (look_memG hl); simp at this ⊢; omega
theorem kidRow_snoc (ch : GM) (h : Hs) (a : List Hs) (p : Hs) : kidRow ch h (a ++ [p]) = kidPut (kidRow ch h a) p h := by simp [kidRow]
theorem Kb.row {N : Nat} {ch : GM} (h : Kb N ch) (x : Hs) : ∀ ps : List Hs, Kb (N + ps.length) (kidRow ch x ps) := by
  intro ps
  induction ps generalizing N ch with
  | nil => exact h
  | cons p r ih =>
    have := ih (h.put p x)
    rw [List.length_cons, show N + (r.length + 1) = N + 1 + r.length by omega]
    exact this
theorem kidAll_snoc (a : GM) (q : Hs × List Hs) : kidAll (a ++ [q]) = kidRow (kidAll a) q.1 q.2 := by simp [kidAll]
theorem Kb.foldl : ∀ (pre ch : GM) (N : Nat), Kb N ch → (∀ q ∈ pre, q.2.length ≤ 4) → Kb (N + 4 * pre.length) (pre.foldl (fun c q => kidRow c q.1 q.2) ch)
  | [], ch, N, h, _ => h
  | q :: r, ch, N, h, hq => by
    have h1 := h.row q.1 q.2
    have h2 := hq q (by simp)
    have := Kb.foldl r _ (N + 4) (fun x hx => by have := h1 x hx; omega) (fun y hy => hq y (by simp [hy]))
    rw [List.length_cons, show N + 4 * (r.length + 1) = N + 4 + 4 * r.length by omega]
    exact this
theorem Kb.all (pre : GM) (h : ∀ q ∈ pre, q.2.length ≤ 4) : Kb (4 * pre.length) (kidAll pre) := by
  have := Kb.foldl pre [] 0 (fun q hq => by cases hq) h
  rw [Nat.zero_add] at this
  exact this
abbrev l8a : List SOp := [(.mk (some 27) (.load 62 (.tmp 5)) none), (.mk (some 28) (.load 40 (.tmp 9)) none), (.mk (some 30) (.load 40 (.tmp 6)) none), (.mk (some 31) (.buildSlice 30 1 #[(0, (.tmp 30))]) none)]
abbrev l8b : List SOp := [(.mk (some 29) (.extract (.tmp 32) 0) none), (.mk (some 33) (.call (.mk (.builtin (.append)) #[(.tmp 29), (.tmp 31)] #[30, 30])) none), (.mk (some 34) (.extract (.tmp 32) 1) none)]
structure R8 (o1 o2 o3 o4 o5 o6 o7 o8 o9 : Oper) : Prop where
  a4 : [o1, o2, o3, o4].map (fun o => (⟨o.dst, o.op, none⟩ : SOp)) = l8a
  ga : [o1, o2, o3, o4].all (fun o => o.guard.isNone) = true
  h5 : o5.op = .mapEntry 62 (.tmp 27) (.tmp 28) ∧ o5.guard = none ∧ o5.dst = some 32
  b3 : [o6, o7, o8].map (fun o => (⟨o.dst, o.op, none⟩ : SOp)) = l8b
  gb : [o6, o7, o8].all (fun o => o.guard.isNone) = true
  h9 : o9.op = .entryStore 62 (.tmp 27) (.tmp 34) (.tmp 33) ∧ o9.guard = none ∧ o9.dst = none
abbrev C0 : Cfg := ⟨[], []⟩
theorem dInner {Q : Exit → Act → World → Prop} (D : DD) (hD : DOK D) {c6 c7 c9 : Code} {id8 : Nat} {o1 o2 o3 o4 o5 o6 o7 o8 o9 : Oper} (s6 : slim C0 c6 = some s21_6) (k6 : codeOk C0 c6 = true) (s7 : slim C0 c7 = some s21_7) (k7 : codeOk C0 c7 = true)
    (s9 : slim C0 c9 = some s21_9) (k9 : codeOk C0 c9 = true) (r8 : R8 o1 o2 o3 o4 o5 o6 o7 o8 o9)
    {ct0 : CT} {seen : Array Nat} {E : Env} {a : Act} {w : World} (hA : AtW D seen E (D.o ct0) w) (hE : Ent D ct0 E w) {p0 p1 x15 : GVal} {h : Hs} {ps : List Hs} {N : Nat} (hKb : Kb N (ctM ct0)) (hN : N + ps.length ≤ 1000000)
    (ha : SlotsR E a (dS p0 p1 (.ptr 3 D.stb 0 0) (.ref (bytesG h.1)) .any .any x15 (.slice (hsG ps) .none) (.int .i64 ps.length) (.int .i64 0)))
    (hq : ∀ ct' E' a' w', ctM ct' = kidRow (ctM ct0) h ps → AtW D seen E' (D.o ct') w' → Ent D ct' E' w' → SlotsR E' a' (dS p0 p1 (.ptr 3 D.stb 0 0) .any .any .any x15 .any .any .any) → Q (.exit 2) a' w') :
    (Code.loop (c6.seq ((Code.cond (.tmp 24) .skip (.exit 2)).seq ((Code.block 3 (c7.seq (Code.region id8 #[o1, o2, o3, o4, o5, o6, o7, o8, o9] false))).seq c9)))).wp Tryd.prog Q a w := by
  refine wp_loop_ghost (fun n a w => ∃ ct k E, k ≤ ps.length ∧ ps.length - k = n ∧ ctM ct = kidRow (ctM ct0) h (ps.take k) ∧ AtW D seen E (D.o ct) w ∧ Ent D ct E w ∧ SlotsR E a (dS p0 p1 (.ptr 3 D.stb 0 0) (.ref (bytesG h.1)) .any .any x15 (.slice (hsG ps) .none) (.int .i64 ps.length) (.int .i64 k))) ps.length ⟨ct0, 0, E, Nat.zero_le _, rfl, rfl, hA, hE, ha⟩ ?_
  rintro n a1 w1 ⟨ct, k, E1, hk, rfl, hct, hA1, hE1, s1⟩
  refine wp_seq (wp_part (st := ⟨_, D.o ct⟩) mixS s6 k6 hA1.sim s1 (dR6 p0 p1 _ _ x15 _ k ps.length (D.o ct)) ?_)
  rintro ⟨t2, O2⟩ E2 a2 w2 q2 k2 s2R ⟨e2, hw2⟩
  change O2 = D.o ct at e2
  subst e2
  have s2 := s2R.weak hw2
  have hA2 := hA1.step q2 k2
  have hE2 := hE1.step hA1 k2
  have hc : a2.eval (.tmp 24) = .bool (decide (k < ps.length)) := by
    have : VR E2 (a2.eval (.tmp 24)) (.bool (decide (k < ps.length))) := SlotsR.ev (st := ⟨_, []⟩) s2 (.tmp 24)
    generalize a2.eval (.tmp 24) = v at this
    cases this; rfl
  show (Code.seq _ _).wp _ _ _ _
  refine wp_seq (wp_cond_split hc (fun ht => wp_skip ?_) (fun hf => wp_exit ?_))
  · have hlt : k < ps.length := of_decide_eq_true ht
    obtain ⟨p, hp⟩ : ∃ p, ps.getD k h0 = p := ⟨_, rfl⟩
    show (Code.seq _ _).wp _ _ _ _
    refine wp_seq (wp_block (wp_seq (wp_part (st := ⟨dS p0 p1 (.ptr 3 D.stb 0 0) (.ref (bytesG h.1)) .any .any x15 (.slice (hsG ps) .none) (.int .i64 ps.length) (.int .i64 k), D.o ct⟩) mixS s7 k7 hA2.sim (s2.weak (by simp [WL, leG_self, leG_any])) (dR7 p0 p1 _ _ x15 _ ps k hlt p hp (D.o ct) (obs_stamp _ _ _ _ _) (obs_tick _ _ _ _ _)) ?_)))
    rintro ⟨t3, O3⟩ E3 a3 w3 q3 k3 s3R ⟨v, e3, hw3⟩
    change O3 = D.o ct ++ [.row v 32 [bytesG p.1]] at e3
    subst e3
    have s3 := s3R.weak hw3
    obtain ⟨m1, m2, m3⟩ := q3.meltBox s3 9 1 rfl (by rw [len32]) (frzL_hs _ 0 p) (by intro e; have := len32 p; rw [e] at this; cases this)
    have kk := k3.trans m2
    have hA3 := hA2.step m1 kk
    have hE3 := hE2.step hA2 kk
    refine wp_region_lit (dR8 D hD hA3 hE3 (p0 := p0) (p1 := p1) (x15 := x15) (x21 := .slice (hsG ps) .none) (x22 := .int .i64 ps.length) (x23 := .int .i64 k) (h := h) (p := p) (m3.weak (by simp [WL, leG_self, leG_any])) ?_ r8.a4 r8.ga r8.h5.1 r8.h5.2.1 r8.h5.2.2 r8.b3 r8.gb r8.h9.1 r8.h9.2.1 r8.h9.2.2 ?_)
    · intro q hq
      have hb := hKb.row h (ps.take k)
      rw [← hct] at hb
      have h1 := hb q.1 (List.mem_map_of_mem hq)
      rw [List.length_take] at h1
      omega
    · intro ct' E4 a4 w4 hct' hA4 hE4 s4
      refine wp_part (st := ⟨_, D.o ct'⟩) mixS s9 k9 hA4.sim s4 (dR9 p0 p1 _ _ x15 _ _ k (by omega) (D.o ct')) ?_
      rintro ⟨t5, O5⟩ E5 a5 w5 q5 k5 s5R ⟨e5, hw5⟩
      change O5 = D.o ct' at e5
      subst e5
      refine ⟨ps.length - (k + 1), by omega, ct', k + 1, E5, hlt, rfl, ?_, hA4.step q5 k5, hE4.step hA4 k5, s5R.weak hw5⟩
      rw [hct', hct, takeH hlt, hp, kidRow_snoc]
  · have hnl : ¬ k < ps.length := of_decide_eq_false hf
    have : k = ps.length := by omega
    subst this
    rw [List.take_length] at hct
    exact hq ct E2 a2 w2 hct hA2 hE2 (s2.weak (by simp [WL, leG_self, leG_any]))
end Gv.Tryd
/- graph.Descendants: its outer loop. -/
set_option linter.unusedVariables false
set_option linter.unusedSimpArgs false
set_option maxRecDepth 20000
set_option maxHeartbeats 4000000
namespace Gv.Tryd
open Go Gv Go.Proofs
theorem AtW.pokeR {D : DD} (hD : DOK D) {seen seen' : Array Nat} {E : Env} {O : List GObj} {w w' : World} (h : AtW D seen E O w) (g : w.grownBy w' (some D.r)) (hw : WalkAt w' D.b D.r D.es D.clock seen') : AtW D seen' E O w' :=
  ⟨h.sim.grown g (fun r e => by cases e; exact ⟨h.hr.obj, h.hr.snap⟩), h.keep.grown g (fun r e => by cases e; exact hD.hr0), hw, h.hb.grown g, h.hr.grown g, h.hC.grown g, h.loc⟩
theorem inBlock_self {id : Nat} {Q : Exit → Act → World → Prop} {a : Act} {w : World} (h : Q .normal a w) : Exit.inBlock id Q (.exit id) a w := by simp only [Exit.inBlock, if_true]; exact h
abbrev l4 : List SOp := [(.mk (some 19) (.extract (.tmp 18) 0) none), (.mk (some 20) (.extract (.tmp 18) 1) none), (.mk (some 6) (.alloc 40) none), (.mk none (.store 40 (.tmp 6) (.tmp 19)) none), (.mk (some 7) (.assign (.tmp 20)) none)]
theorem dOuter {Q : Exit → Act → World → Prop} (D : DD) (hD : DOK D) (hm : GMOK D.m) (f : MapEntry → Hs × List Hs) (hf : D.es.toList.map f = D.m) (hfe : ∀ e ∈ D.es.toList, EntryOK D.E0 e (.agg (bytesG (f e).1.1), encL (f e).2))
    {c5 c6 c7 c9 : Code} {id3 id4 id8 : Nat} {n1 n2 e1 e2 e3 e4 e5 e6 o1 o2 o3 o4 o5 o6 o7 o8 o9 : Oper}
    (hn1 : n1.op = .next (.tmp 15) false ∧ n1.guard = none ∧ n1.dst = some 16) (hn2 : [n2].map (fun o => (⟨o.dst, o.op, none⟩ : SOp)) = [(.mk (some 17) (.extract (.tmp 16) 0) none)]) (gn2 : [n2].all (fun o => o.guard.isNone) = true)
    (he1 : e1.op = .entry (.tmp 15) ∧ e1.guard = none ∧ e1.dst = some 18) (he2 : [e2, e3, e4, e5, e6].map (fun o => (⟨o.dst, o.op, none⟩ : SOp)) = l4) (ge2 : [e2, e3, e4, e5, e6].all (fun o => o.guard.isNone) = true)
    (s5 : slim C0 c5 = some s21_5) (k5 : codeOk C0 c5 = true) (s6 : slim C0 c6 = some s21_6) (k6 : codeOk C0 c6 = true) (s7 : slim C0 c7 = some s21_7) (k7 : codeOk C0 c7 = true)
    (s9 : slim C0 c9 = some s21_9) (k9 : codeOk C0 c9 = true) (r8 : R8 o1 o2 o3 o4 o5 o6 o7 o8 o9)
    {E : Env} {a : Act} {w : World} (hA : AtW D #[] E (D.o []) w) (hE : Ent D [] E w) {p0 p1 : GVal}
    (ha : SlotsR E a (dS p0 p1 (.ptr 3 D.stb 0 0) .any .any .any (.lit (.pointer (some ⟨D.r, 0, none⟩))) .any .any .any))
    (hq : ∀ ct' pre seen E' a' w', pre.Perm D.m → ctM ct' = kidAll pre → AtW D seen E' (D.o ct') w' → Ent D ct' E' w' → SlotsR E' a' (dS p0 p1 (.ptr 3 D.stb 0 0) .any .any .any .any .any .any .any) → Q (.exit 0) a' w') :
    (Code.loop ((Code.region id3 #[n1, n2] false).seq ((Code.cond (.tmp 17) .skip (.exit 0)).seq (Code.block 1 ((Code.region id4 #[e1, e2, e3, e4, e5, e6] false).seq (c5.seq (Code.block 2
      (Code.loop (c6.seq ((Code.cond (.tmp 24) .skip (.exit 2)).seq ((Code.block 3 (c7.seq (Code.region id8 #[o1, o2, o3, o4, o5, o6, o7, o8, o9] false))).seq c9))))))))))).wp Tryd.prog Q a w := by
  obtain ⟨x15, e15⟩ : ∃ x : GVal, .lit (.pointer (some ⟨D.r, 0, none⟩)) = x := ⟨_, rfl⟩
  have lit15 : ∀ {E : Env} {a : Act} {S : List GVal}, SlotsR E a S → S.getD 15 .any = x15 → a.eval (.tmp 15) = .pointer (some ⟨D.r, 0, none⟩) := by
    intro E a S h hx
    have := SlotsR.ev (st := ⟨S, []⟩) h (.tmp 15)
    change VR E _ (S.getD 15 .any) at this
    rw [hx, ← e15] at this
    generalize a.eval (.tmp 15) = v at this
    cases this; rfl
  rw [e15] at ha
  refine wp_loop_ghost (fun n a w => ∃ ct seen xs E, Came D.es seen xs ∧ w.rangeLeft D.b D.r = n ∧ ctM ct = kidAll (xs.map f) ∧ AtW D seen E (D.o ct) w ∧ Ent D ct E w ∧ SlotsR E a (dS p0 p1 (.ptr 3 D.stb 0 0) .any .any .any x15 .any .any .any)) _ ⟨[], #[], [], E, Came.nil _, rfl, rfl, hA, hE, ha⟩ ?_
  rintro n a1 w1 ⟨ct, seen, xs, E1, hC, rfl, hct, hA1, hE1, s1⟩
  refine wp_seq (wp_region_lit (next_step hn1.2.1 hn1.1 hD.born hC (lit15 s1 rfl) hA1.walk ?_ ?_))
  · -- nothing is left
    intro hp
    rw [hn1.2.2]
    have hvt : VR E1 (.tuple #[.bool false]) (.tuple [.bool false]) := .tuple _ _ rfl (fun j g hj => by
      match j with
      | 0 => cases hj; exact .bool _
      | j + 1 => simp at hj)
    have s2 := (SlotsR.put (st := ⟨_, []⟩) s1 (.refl E1) (d := some 16) hvt [])
    refine ops_seg (st := ⟨(dS p0 p1 (.ptr 3 D.stb 0 0) .any .any .any x15 .any .any .any).set 16 (.tuple [.bool false]), D.o ct⟩) 1 hn2 gn2 hA1.sim s2 (dR3' p0 p1 _ x15 false (D.o ct)) ?_
    rintro ⟨t2, O2⟩ E2 a2 w2 q2 k2 s2R ⟨e2, hw2⟩
    change O2 = D.o ct at e2
    subst e2
    have s3 := s2R.weak hw2
    have hc : a2.eval (.tmp 17) = .bool false := by
      have : VR E2 (a2.eval (.tmp 17)) (.bool false) := SlotsR.ev (st := ⟨_, []⟩) s3 (.tmp 17)
      generalize a2.eval (.tmp 17) = v at this
      cases this; rfl
    refine wpList_nil ?_
    show (Code.seq _ _).wp _ _ _ _
    refine wp_seq (wp_cond_split hc (fun ht => by cases ht) (fun _ => wp_exit ?_))
    refine hq ct (xs.map f) seen E2 a2 w2 ?_ hct (hA1.step q2 k2) (hE1.step hA1 k2) (s3.weak (by simp [WL, leG_self, leG_any]))
    rw [← hf]
    exact hp.map f
  · intro e w' hem hC2 hlt hwk hmu hg hent
    rw [hn1.2.2]
    have hA' := hA1.pokeR hD hg hwk
    have hE' : Ent D ct E1 w' := by
      obtain ⟨esC, cC, hmC⟩ := hE1
      exact ⟨esC, cC, hmC.ext (.refl _) (hg.block _ hA1.hC.lt (fun e => hD.nr (Option.some.inj e)))⟩
    have hvt : VR E1 (.tuple #[.bool true, e.key, e.val]) (.tuple [.bool true, .any, .any]) := .tuple _ _ rfl (fun j g hj => by
      match j with
      | 0 => cases hj; exact .bool _
      | 1 => cases hj; exact .any _
      | 2 => cases hj; exact .any _
      | j + 3 => simp at hj)
    have s2 := (SlotsR.put (st := ⟨_, []⟩) s1 (.refl E1) (d := some 16) hvt [])
    refine ops_seg (st := ⟨(dS p0 p1 (.ptr 3 D.stb 0 0) .any .any .any x15 .any .any .any).set 16 (.tuple [.bool true, .any, .any]), D.o ct⟩) 1 hn2 gn2 hA'.sim s2 (dR3 p0 p1 _ x15 true .any .any (D.o ct)) ?_
    rintro ⟨t2, O2⟩ E2 a2 w2 q2 k2 s2R ⟨e2', hw2⟩
    change O2 = D.o ct at e2'
    subst e2'
    have s3 := s2R.weak hw2
    have hc : a2.eval (.tmp 17) = .bool true := by
      have : VR E2 (a2.eval (.tmp 17)) (.bool true) := SlotsR.ev (st := ⟨_, []⟩) s3 (.tmp 17)
      generalize a2.eval (.tmp 17) = v at this
      cases this; rfl
    have hA2 := hA'.step q2 k2
    have hE2 := hE'.step hA' k2
    have hent2 := hent w2 (hA'.hb.keep k2).2 (hA'.hr.keep k2).2
    refine wpList_nil ?_
    show (Code.seq _ _).wp _ _ _ _
    refine wp_seq (wp_cond_split hc (fun ht => wp_skip ?_) (fun hf => by cases hf))
    show (Code.block _ _).wp _ _ _ _
    refine wp_block (wp_seq (wp_region_lit (entry_step he1.2.1 he1.1 (lit15 s3 rfl) hent2 ?_)))
    rw [he1.2.2]
    obtain ⟨hv1, hv2⟩ := hfe e hem
    obtain ⟨q, eq⟩ : ∃ q, f e = q := ⟨_, rfl⟩
    have hqm : q ∈ D.m := by rw [← eq, ← hf]; exact List.mem_map_of_mem hem
    rw [eq] at hv1 hv2
    obtain ⟨h, ps⟩ := q
    have hvt2 : VR E2 (.tuple #[e.key, e.val]) (.tuple [.agg (bytesG h.1), .slice (hsG ps) .none]) := .tuple _ _ rfl (fun j g hj => by
      match j with
      | 0 => cases hj; exact hv1.mono hA2.keep.ext
      | 1 => cases hj; exact hv2.mono hA2.keep.ext
      | j + 2 => simp at hj)
    have s4 := (SlotsR.put (st := ⟨_, []⟩) s3 (.refl E2) (d := some 18) hvt2 []).weak (s' := (dS p0 p1 (.ptr 3 D.stb 0 0) .any .any .any x15 .any .any .any).set 18 (.tuple [.agg (bytesG h.1), .slice (hsG ps) .none])) (by simp [GSt.put, WL, leG_self, leG_any])
    refine ops_seg (st := ⟨(dS p0 p1 (.ptr 3 D.stb 0 0) .any .any .any x15 .any .any .any).set 18 (.tuple [.agg (bytesG h.1), .slice (hsG ps) .none]), D.o ct⟩) 5 he2 ge2 hA2.sim s4 (dR4 p0 p1 _ x15 h ps (D.o ct) (obs_stamp _ _ _ _ _) (obs_tick _ _ _ _ _)) ?_
    rintro ⟨t3, O3⟩ E3 a3 w3 q3 k3 s3R ⟨v, e3', hw3⟩
    change O3 = D.o ct ++ [.row v 32 [bytesG h.1]] at e3'
    subst e3'
    have s5' := s3R.weak hw3
    obtain ⟨m1, m2, m3⟩ := q3.meltBox s5' 6 1 rfl (by rw [len32]) (frzL_hs _ 0 h) (by intro e; have := len32 h; rw [e] at this; cases this)
    have kk := k3.trans m2
    have hA3 := hA2.step m1 kk
    have hE3 := hE2.step hA2 kk
    refine wpList_nil ?_
    show (Code.seq _ _).wp _ _ _ _
    refine wp_seq (wp_part (st := ⟨dS p0 p1 (.ptr 3 D.stb 0 0) (.ref (bytesG h.1)) (.slice (hsG ps) .none) .any x15 .any .any .any, D.o ct⟩) mixS s5 k5 hA3.sim (m3.weak (by simp [WL, leG_self, leG_any])) (dR5 p0 p1 _ _ x15 ps (D.o ct)) ?_)
    rintro ⟨t4, O4⟩ E4 a4 w4 q4 k4 s4R ⟨e4', hw4⟩
    change O4 = D.o ct at e4'
    subst e4'
    have hps : ps.length ≤ 4 := hm.row _ hqm
    have hle : xs.length ≤ D.m.length := by
      have : D.es.toList.length = D.m.length := by rw [← hf, List.length_map]
      have h2 : D.es.toList.length = D.es.size := Array.length_toList
      omega
    have hml := hm.len
    have hKb := Kb.all (xs.map f) (fun q hq => by
      obtain ⟨y, hy, rfl⟩ := List.mem_map.1 hq
      exact hm.row _ (by rw [← hf]; exact List.mem_map_of_mem (hC.2.2 y hy)))
    rw [← hct, List.length_map] at hKb
    show (Code.block _ _).wp _ _ _ _
    refine wp_block (dInner D hD s6 k6 s7 k7 s9 k9 r8 (hA3.step q4 k4) (hE3.step hA3 k4) hKb (by omega) (s4R.weak hw4) ?_)
    intro ct' E5 a5 w5 hct' hA5 hE5 s6'
    refine inBlock_self ?_
    refine ⟨w5.rangeLeft D.b D.r, ?_, ct', _, xs ++ [e], E5, hC2, rfl, ?_, hA5, hE5, s6'⟩
    · rw [hA5.walk.left_eq, ← hwk.left_eq]; exact hmu
    · rw [List.map_append, List.map_cons, List.map_nil, kidAll_snoc, eq, hct', hct]
end Gv.Tryd
/- graph.Descendants: the contract. -/
set_option linter.unusedVariables false
set_option linter.unusedSimpArgs false
set_option maxRecDepth 20000
set_option maxHeartbeats 4000000
namespace Gv.Tryd
open Go Gv Go.Proofs
def kidsM (m : GM) (x : Hs) : List Hs := (m.filter fun q => decide (x ∈ q.2)).map (·.1)
theorem kidsM_mem {m : GM} {x y : Hs} : y ∈ kidsM m x ↔ ∃ q ∈ m, x ∈ q.2 ∧ y = q.1 := by
  unfold kidsM
  rw [List.mem_map]
  constructor
  · rintro ⟨q, hq, rfl⟩
    obtain ⟨h1, h2⟩ := List.mem_filter.1 hq
    exact ⟨q, h1, of_decide_eq_true h2, rfl⟩
  · rintro ⟨q, h1, h2, rfl⟩
    exact ⟨q, List.mem_filter.2 ⟨h1, decide_eq_true h2⟩, rfl⟩
theorem parsM_put (ch : GM) (p h x : Hs) : parsM (kidPut ch p h) x = if x = p then parsM ch x ++ [h] else parsM ch x := by
  unfold parsM kidPut
  rw [look_mset]
  by_cases e : x = p
  · rw [if_pos e, if_pos e, e]; rfl
  · rw [if_neg e, if_neg e]
theorem parsM_row (h x y : Hs) : ∀ (ps : List Hs) (ch : GM), y ∈ parsM (kidRow ch h ps) x ↔ y ∈ parsM ch x ∨ (x ∈ ps ∧ y = h)
  | [], ch => by simp [kidRow]
  | p :: r, ch => by
    have := parsM_row h x y r (kidPut ch p h)
    rw [show kidRow ch h (p :: r) = kidRow (kidPut ch p h) h r from rfl, this, parsM_put]
    by_cases e : x = p
    · rw [if_pos e]; simp [e]; exact fun _ q => .inr q
    · rw [if_neg e]; simp [e]
theorem parsM_all (x y : Hs) : ∀ (pre ch : GM), y ∈ parsM (pre.foldl (fun c q => kidRow c q.1 q.2) ch) x ↔ y ∈ parsM ch x ∨ ∃ q ∈ pre, x ∈ q.2 ∧ y = q.1
  | [], ch => by simp
  | q :: r, ch => by
    rw [List.foldl_cons, parsM_all x y r, parsM_row]
    constructor
    · rintro ((h | h) | ⟨z, h1, h2⟩)
      · exact .inl h
      · exact .inr ⟨q, by simp, h⟩
      · exact .inr ⟨z, by simp [h1], h2⟩
    · rintro (h | ⟨z, h1, h2⟩)
      · exact .inl (.inl h)
      · rcases List.mem_cons.1 h1 with e | e
        · rw [e] at h2; exact .inl (.inr h2)
        · exact .inr ⟨z, e, h2⟩
theorem kids_of_perm {pre m : GM} (hp : pre.Perm m) (x y : Hs) : y ∈ parsM (kidAll pre) x ↔ y ∈ kidsM m x := by
  unfold kidAll
  rw [parsM_all, kidsM_mem]
  constructor
  · rintro (h | ⟨q, h1, h2⟩)
    · cases h
    · exact ⟨q, hp.mem_iff.1 h1, h2⟩
  · rintro ⟨q, h1, h2⟩
    exact .inr ⟨q, hp.mem_iff.2 h1, h2⟩
theorem reach_iff {n1 n2 : Hs → List Hs} (h : ∀ x y, y ∈ n1 x ↔ y ∈ n2 x) (l : List Hs) (z : Hs) : Reach n1 l z ↔ Reach n2 l z := by
  constructor
  · intro r
    induction r with
    | base x hx => exact .base x hx
    | step x y _ hy ih => exact .step x y ih ((h x y).1 hy)
  · intro r
    induction r with
    | base x hx => exact .base x hx
    | step x y _ hy ih => exact .step x y ih ((h x y).2 hy)
noncomputable def desL (m : GM) (l : List Hs) : List Hs := by
  classical exact sortR ((l ++ hashesM m).filter fun x => decide (Reach (kidsM m) (inM m l) x))
theorem desL_ss (m : GM) (l : List Hs) : SS (desL m l) := sortR_ss _
theorem kids_in {m : GM} {x y : Hs} (h : y ∈ kidsM m x) : y ∈ hashesM m := by
  obtain ⟨q, h1, _, rfl⟩ := kidsM_mem.1 h
  exact List.mem_append_left _ (List.mem_map_of_mem h1)
theorem desL_mem (m : GM) (l : List Hs) (x : Hs) : x ∈ desL m l ↔ Reach (kidsM m) (inM m l) x := by
  classical
  unfold desL
  rw [sortR_mem, List.mem_filter, decide_eq_true_eq]
  refine ⟨fun h => h.2, fun h => ⟨?_, h⟩⟩
  cases h with
  | base x hx => exact List.mem_append_left _ (List.mem_filter.1 hx).1
  | step x y _ hy => exact List.mem_append_right _ (kids_in hy)
theorem gDes1 (a : GObj) (M : GM) (h : Hs) (s : Nat) (l : List Hs) (el : look M h = some l) : GCalls Tryd.prog 38 [.agg (bytesG h.1), .ref [.map 1 s]] [a, .map s (kvG encL M)] (fun g O' => g = .slice (hsG l) .none ∧ O' = [a, .map s (kvG encL M)]) := by
  obtain ⟨i, hi, hv, _⟩ := look_idx encL M h l el
  refine h38.calls mixS (by simp) ?_
  simp only [gstart, s38, List.cons_append, List.nil_append, List.length_cons, List.length_nil, Nat.reduceAdd, Nat.reduceSub, List.replicate_succ, List.replicate_zero]
  simp +contextual -implicitDefEqProofs (maxSteps := 2000000) (disch := omega) only [optV, ↓loadV, ↓boxV, ↓sliceV, bound, cutTag, hiTag, GVal.cells, grp, GVal.ofConst, ↓resV, resG, List.map, List.headD, List.take, List.drop, ↓reduceIte, Nat.reduceEqDiff, Nat.reduceAdd, Nat.reduceSub, Nat.reduceLeDiff, reduceCtorEq, implies_true, ne_eq, ↓lookupV, keyOk, keyCells, pairG, Tag.cap, List.replicate, allSolid, GVal.solid, Nat.reduceBEq, Nat.reduceMul, Nat.reduceLT, List.length_map, List.length_range, splice, vcA, ↓vcB, vcC, fbFu, e38, kfind_h, hi, hv, solidH, len32, take32]
theorem gDes0 (a : GObj) (M : GM) (h : Hs) (s : Nat) (el : look M h = none) : GCalls Tryd.prog 38 [.agg (bytesG h.1), .ref [.map 1 s]] [a, .map s (kvG encL M)] (fun g O' => g = .slice [] .nil ∧ O' = [a, .map s (kvG encL M)]) := by
  obtain ⟨hi, _⟩ := look_none encL M h el
  refine h38.calls mixS (by simp) ?_
  simp only [gstart, s38, List.cons_append, List.nil_append, List.length_cons, List.length_nil, Nat.reduceAdd, Nat.reduceSub, List.replicate_succ, List.replicate_zero]
  simp +contextual -implicitDefEqProofs (maxSteps := 2000000) (disch := omega) only [optV, ↓loadV, ↓boxV, ↓sliceV, bound, cutTag, hiTag, GVal.cells, grp, GVal.ofConst, ↓resV, resG, List.map, List.headD, List.take, List.drop, ↓reduceIte, Nat.reduceEqDiff, Nat.reduceAdd, Nat.reduceSub, Nat.reduceLeDiff, reduceCtorEq, implies_true, ne_eq, ↓lookupV, keyOk, keyCells, pairG, Tag.cap, List.replicate, allSolid, GVal.solid, Nat.reduceBEq, Nat.reduceMul, Nat.reduceLT, List.length_map, List.length_range, splice, vcA, ↓vcB, vcC, fbFu, e38, kfind_h, hi, solidH, len32, take32]
theorem gDesN (a : GObj) (M : GM) (h : Hs) (s : Nat) : GCalls Tryd.prog 38 [.agg (bytesG h.1), .ref [.map 1 s]] [a, .map s (kvG encL M)] (fun g O' => g = .slice (hsG (parsM M h)) .none ∧ O' = [a, .map s (kvG encL M)]) := by
  cases el : look M h with
  | some l => rw [parsM_some el]; exact gDes1 a M h s l el
  | none =>
    rw [parsM_none el]
    refine GCalls.into ((gDes0 a M h s el).mono ?_)
    rintro g O' ⟨rfl, rfl⟩
    exact GInto.weak (O := [a, .map s (kvG encL M)]) (X := []) (by rw [leG_none]; rfl) (.here ⟨rfl, rfl⟩)
theorem dHalf (m : GM) (hm : GMOK m) (st s stC : Nat) (l : List Hs) (t : Tag) (ht : t = .nil → l = []) (hl : l.length ≤ 10000) (ch : GM) (hch : ∀ x y, y ∈ parsM ch x ↔ y ∈ kidsM m x) (hKb : Kb 40000 ch) :
    vcS Tryd.prog [] (.seq s21_15 .ret) (retQ Tryd.prog [.tmp 4] (dropTo fun g O' => g = .slice (hsG (desL m l)) .none ∧ O' = gObj st s m)) ⟨dS (.ptr 0 st 0 0) (.slice (hsG l) t) (.ref [.map 2 stC]) .any .any .any .any .any .any .any, gObj st s m ++ [.map stC (kvG encL ch)]⟩ := by
  have hfl : (inM m l).length ≤ l.length := List.length_filter_le _ _
  have cT := (gThere m st s l t ht (by omega)).keep2 rfl [.map stC (kvG encL ch)]
  have hkl : ∀ x, (parsM ch x).length ≤ 40000 := fun x => by
    cases e : look ch x with
    | some r => rw [parsM_some e]; exact hKb _ (look_memG e)
    | none => rw [parsM_none e]; simp
  have cR0 := gReached (caps := [.ref [.map 1 stC]]) (parsM ch) (fun h => gDesN (.row st 1 [[.map 1 s]]) ch h stC) rfl (inM m l) .none (by simp) (inM m l ++ hashesM m) (fun x hx => List.mem_append_left _ hx) (fun x _ y hy => List.mem_append_right _ (kids_in ((hch x y).1 hy))) 40000 (fun x _ => hkl x) (by have := hm.hashes; rw [List.length_append]; omega) (by omega) (by omega)
  have cR := GCalls.on2new (O := gObj st s m ++ [.map stC (kvG encL ch)]) (args' := [.slice (hsG (inM m l)) .none, .func (.func 38) [] [.ref [.map 2 stC]]]) (R := fun st kv => ∃ S : List Hs, kv = kvG encB (setM S) ∧ S.Nodup ∧ (∀ x, x ∈ S ↔ Reach (parsM ch) (inM m l) x) ∧ S.length ≤ (inM m l ++ hashesM m).length) (cR0.mono (by
    rintro g O' ⟨st, S, rfl, rfl, h1, h2, h3⟩
    exact ⟨st, _, rfl, rfl, S, rfl, h1, h2, h3⟩)) 0 2 (by omega) rfl rfl ⟨GLe.refl _, GLe.func _ trivial ⟨GLe.ref ⟨GLe.map _ _ _, trivial⟩, trivial⟩, trivial⟩ rfl rfl
  skip
  simp +contextual -implicitDefEqProofs (maxSteps := 2000000) (disch := omega) only [↓lenV, binV, optV, ↓loadV, ↓storeV, ↓fieldAddrV, ↓indexAddrV, ↓allocV, ↓buildSliceV, ↓sliceV, ↓nilV, ↓appendV, ↓srcV, bound, cutTag, hiTag, fillE, GVal.cells, grp, GVal.ofConst, ↓resV, resG, List.map, List.headD, List.take, List.drop, ↓reduceIte, Nat.reduceEqDiff, Nat.reduceAdd, Nat.reduceSub, Nat.reduceLeDiff, reduceCtorEq, implies_true, ne_eq, ↓asrcV, ↓makeMapV, Tag.cap, List.replicate, allSolid, GVal.solid, Nat.reduceBEq, Nat.reduceMul, Nat.reduceLT, List.length_map, List.length_range, splice, vcA, ↓vcB, vcC, fbFu, e21, dS]
  refine cT.mono ?_
  rintro g O' ⟨rfl, rfl⟩
  simp +contextual -implicitDefEqProofs (maxSteps := 2000000) (disch := omega) only [↓lenV, binV, optV, ↓loadV, ↓storeV, ↓fieldAddrV, ↓indexAddrV, ↓allocV, ↓buildSliceV, ↓sliceV, ↓nilV, ↓appendV, ↓srcV, bound, cutTag, hiTag, fillE, GVal.cells, grp, GVal.ofConst, ↓resV, resG, List.map, List.headD, List.take, List.drop, ↓reduceIte, Nat.reduceEqDiff, Nat.reduceAdd, Nat.reduceSub, Nat.reduceLeDiff, reduceCtorEq, implies_true, ne_eq, ↓asrcV, ↓makeMapV, Tag.cap, List.replicate, allSolid, GVal.solid, Nat.reduceBEq, Nat.reduceMul, Nat.reduceLT, List.length_map, List.length_range, splice, vcA, ↓vcB, vcC, fbFu, e21]
  refine cR.mono ?_
  rintro g O' ⟨s2, kv, rfl, rfl, S, rfl, hS, hR, hSl⟩
  have hh := hm.hashes
  rw [List.length_append] at hSl
  have eA : sortR ((setM S).map (·.1)) = desL m l := ss_eq (sortR_ss _) (desL_ss m l) fun z => by
    rw [sortR_mem, desL_mem, ← reach_iff hch, ← hR z]; simp [setM]
  have cS := gSorted encB (setM S) (by simp [setM]; omega) s2
  rw [eA] at cS
  have cS2 : GCalls Tryd.prog 34 [.map 0 s2] [.map s2 (kvG encB (setM S))] (fun g O' => ∃ x', O' = [x'] ∧ (g = .slice (hsG (desL m l)) .none ∧ x' = .map s2 (kvG encB (setM S)))) := cS.mono (by rintro g O' ⟨rfl, rfl⟩; exact ⟨_, rfl, rfl, rfl⟩)
  have cS3 := GCalls.keep1 (args' := [.map 3 s2]) cS2 (O := gObj st s m ++ [.map stC (kvG encL ch)] ++ [.map s2 (kvG encB (setM S))]) 3 rfl rfl rfl rfl
  simp +contextual -implicitDefEqProofs (maxSteps := 2000000) (disch := omega) only [↓lenV, binV, optV, ↓loadV, ↓storeV, ↓fieldAddrV, ↓indexAddrV, ↓allocV, ↓buildSliceV, ↓sliceV, ↓nilV, ↓appendV, ↓srcV, bound, cutTag, hiTag, fillE, GVal.cells, grp, GVal.ofConst, ↓resV, resG, List.map, List.headD, List.take, List.drop, ↓reduceIte, Nat.reduceEqDiff, Nat.reduceAdd, Nat.reduceSub, Nat.reduceLeDiff, reduceCtorEq, implies_true, ne_eq, ↓asrcV, ↓makeMapV, Tag.cap, List.replicate, allSolid, GVal.solid, Nat.reduceBEq, Nat.reduceMul, Nat.reduceLT, List.length_map, List.length_range, splice, vcA, ↓vcB, vcC, fbFu, e21]
  refine cS3.mono ?_
  rintro g O' ⟨rfl, rfl⟩
  simp +contextual -implicitDefEqProofs (maxSteps := 2000000) (disch := omega) only [↓lenV, binV, optV, ↓loadV, ↓storeV, ↓fieldAddrV, ↓indexAddrV, ↓allocV, ↓buildSliceV, ↓sliceV, ↓nilV, ↓appendV, ↓srcV, bound, cutTag, hiTag, fillE, GVal.cells, grp, GVal.ofConst, ↓resV, resG, List.map, List.headD, List.take, List.drop, ↓reduceIte, Nat.reduceEqDiff, Nat.reduceAdd, Nat.reduceSub, Nat.reduceLeDiff, reduceCtorEq, implies_true, ne_eq, ↓asrcV, ↓makeMapV, Tag.cap, List.replicate, allSolid, GVal.solid, Nat.reduceBEq, Nat.reduceMul, Nat.reduceLT, List.length_map, List.length_range, splice, vcA, ↓vcB, vcC, fbFu, e21]
  exact ⟨_, gObj st s m, [.map stC (kvG encL ch), .map s2 (kvG encB (setM S))], rfl, leA_refl _, rfl, rfl⟩
end Gv.Tryd
/- graph.Descendants: put together. -/
set_option linter.unusedVariables false
set_option linter.unusedSimpArgs false
set_option maxRecDepth 20000
set_option maxHeartbeats 4000000
namespace Gv.Tryd
open Go Gv Go.Proofs
theorem ent_fn {β : Type} (R : MapEntry → β → Prop) : ∀ (l : List MapEntry) (m : List β), l.Nodup → l.length = m.length → (∀ (i : Nat) e p, l[i]? = some e → m[i]? = some p → R e p) → (hβ : Nonempty β) → ∃ f : MapEntry → β, l.map f = m ∧ ∀ e ∈ l, R e (f e)
  | [], [], _, _, _, ⟨b⟩ => ⟨fun _ => b, rfl, by simp⟩
  | [], _ :: _, _, h, _, _ => by simp at h
  | _ :: _, [], _, h, _, _ => by simp at h
  | e :: l, p :: m, hn, hl, hR, hb => by
    classical
    obtain ⟨h1, h2⟩ := List.nodup_cons.1 hn
    obtain ⟨f, hf, hr⟩ := ent_fn R l m h2 (by simpa using hl) (fun i x y hx hy => hR (i + 1) x y (by simpa using hx) (by simpa using hy)) hb
    refine ⟨fun x => if x = e then p else f x, ?_, fun x hx => ?_⟩
    · rw [List.map_cons, if_pos rfl, ← hf]
      congr 1
      refine List.map_congr_left fun x hx => ?_
      have hne : x ≠ e := fun q => h1 (by rw [← q]; exact hx)
      show (if x = e then p else f x) = f x
      rw [if_neg hne]
    · rcases List.mem_cons.1 hx with rfl | hx
      · show R x (if x = x then p else f x)
        rw [if_pos rfl]; exact hR 0 _ _ rfl rfl
      · have hne : x ≠ e := fun q => h1 (by rw [← q]; exact hx)
        show R x (if x = e then p else f x)
        rw [if_neg hne]; exact hr x hx
theorem hid_set {E : Env} {O : List GObj} {w : World} {b : Nat} (h : Hid E O w b) (i : Nat) (x : GObj) (hx : x.blk E ≠ some b) : Hid E (O.set i x) w b :=
  ⟨fun ⟨j, y, hy, hb⟩ => by
    rw [List.getElem?_set] at hy
    by_cases e : i = j
    · rw [if_pos e] at hy
      split at hy
      · cases hy; exact hx hb
      · cases hy
    · rw [if_neg e] at hy; exact h.obj ⟨j, y, hy, hb⟩, h.snap, h.lt⟩
theorem gDescendants (m : GM) (hm : GMOK m) (st s : Nat) (l : List Hs) (t : Tag) (ht : t = .nil → l = []) (hl : l.length ≤ 10000) : GCalls Tryd.prog 21 [.ptr 0 st 0 0, .slice (hsG l) t] (gObj st s m) (fun g O' => g = .slice (hsG (desL m l)) .none ∧ O' = gObj st s m) := by
  refine GCalls.dropTo ?_
  refine gcalls_of_wp (hf := Tryd.func21) (hb := rfl) (hn := Tryd.ntmps21) (hr := Tryd.results21) (hen := by kernel_rfl) (hargs := by simp) ?_
  intro E a w hs ha
  obtain ⟨lg, b, es, clock, hlg, hbg, hMg, hs0, k0, hid0, hin0⟩ := hs.hideMap (i := 1) rfl
  change HSim E [.row st 1 [[.map 1 s]], .dead] w at hs0
  change Keep E (gObj st s m) w E [.row st 1 [[.map 1 s]], .dead] w at k0
  change Hid E [.row st 1 [[.map 1 s]], .dead] w b at hid0
  obtain ⟨f, hf, hfe⟩ := ent_fn (fun e (p : Hs × List Hs) => EntryOK E e (.agg (bytesG p.1.1), encL p.2)) es.toList m (hMg.born.2.imp fun h e => h (congrArg _ e)) (by rw [Array.length_toList, hMg.size, kvG, List.length_map]) (fun i e p he hp => hMg.ent i e _ (by simpa using he) (by rw [kvG, List.getElem?_map, hp]; rfl)) ⟨(h0, [])⟩
  have hml : m.length ≤ 10000 := hm.len
  refine wp_seq (wp_part (st := ⟨(gstart 42 [.ptr 0 st 0 0, .slice (hsG l) t] []).s, [.row st 1 [[.map 1 s]], .dead]⟩) mixS (s := s21_0) (C := C0) (by kernel_rfl) (by kernel_rfl) hs0 ha (dR0 _ _ _) ?_)
  rintro ⟨t1, O1⟩ E1 a1 w1 q1 k1 s1R ⟨e1, hw1⟩
  change O1 = [.row st 1 [[.map 1 s]], .dead] at e1
  subst e1
  have s1 := s1R.weak hw1
  show (Code.seq _ _).wp _ _ _ _
  refine wp_seq (wp_part (st := ⟨dS (.ptr 0 st 0 0) (.slice (hsG l) t) .any .any .any .any .any .any .any .any, [.row st 1 [[.map 1 s]], .dead]⟩) mixS (s := s21_1) (C := C0) (by kernel_rfl) (by kernel_rfl) q1 s1 (dR1 _ _ _ (fun _ _ => rfl) (fun _ => rfl)) ?_)
  rintro ⟨t2, O2⟩ E2 a2 w2 q2 k2 s2R ⟨stC, stb, e2, hw2⟩
  change O2 = [.row st 1 [[.map 1 s]], .dead, .map stC [], .row stb 1 [[.map 2 stC]]] at e2
  subst e2
  have s2 := s2R.weak hw2
  have k02 := k1.trans k2
  obtain ⟨lC, bC, esC, cC, hlC, hbC, hMC, h3, k3, hidC, hinC⟩ := q2.hideMap (i := 2) rfl
  have hC0 : w.heap.size ≤ bC := by
    rcases k02.objs bC hinC with ⟨i, x, hx, hb⟩ | h
    · match i with
      | 0 =>
        cases hx
        have : (GObj.row st 1 [[.map 1 s]]).blk E2 = some bC := by rw [GObj.blk_mono k02.ext (hs0.real 0 _ rfl)]; exact hb
        exact absurd (by simp [GObj.blk, hlC, hbC]) (q2.sep 0 2 _ (.map stC []) bC (by omega) rfl rfl this)
      | 1 => cases hx; cases hb
      | i + 2 => simp at hx
    · exact h
  change HSim E2 (obs st s stC stb []) w2 at h3
  change Keep E2 _ w2 E2 (obs st s stC stb []) w2 at k3
  change Hid E2 (obs st s stC stb []) w2 bC at hidC
  have hid2 := (hid0.keep (k02.trans k3)).1
  have hb2 := (hid0.keep (k02.trans k3)).2
  have hnb : bC ≠ b := fun e => by have := hid0.lt; omega
  show (Code.seq _ _).wp _ _ _ _
  refine wp_seq (wp_seq (wp_region_lit (ops_seg (st := ⟨dS (.ptr 0 st 0 0) (.slice (hsG l) t) (.ptr 3 stb 0 0) .any .any .any .any .any .any .any, obs st s stC stb []⟩) 4 rfl rfl h3 s2 (dR2 _ _ st s _) ?_)))
  rintro ⟨t3, O3⟩ E3 a3 w3 q3 k3' s3R ⟨e3, hw3⟩
  change O3 = obs st s stC stb [] at e3
  subst e3
  have s3 := s3R.weak hw3
  have k03 := (k02.trans k3).trans k3'
  have hb3 : w3.heap[b]? = some (.map es clock) := ((hid2.keep k3').2.trans hb2).trans hMg.at_
  have hid3 := (hid2.keep k3').1
  have hidC3 := (hidC.keep k3').1
  have hC3 := (hidC.keep k3').2
  have v14 : a3.eval (.tmp 14) = .map (some b) := map_val (SlotsR.ev (st := ⟨_, []⟩) s3 (.tmp 14)) (k03.ext.loc _ _ hlg) hbg
  refine range_step (t := 62) (k := 40) (e := 30) (m := .tmp 14) rfl rfl (by kernel_rfl) v14 hb3 hMg.born ?_
  intro w4 hwk hg hsz
  have hDok : DOK ⟨st, s, stC, stb, b, w3.heap.size, bC, m, es, clock, E, w, lC⟩ := ⟨hbC, hC0, k03.size, hnb, fun e => by have h1 := hidC3.lt; change bC = w3.heap.size at e; omega, fun e => by have h1 := hid3.lt; change w3.heap.size = b at e; omega, hMg.born⟩
  have hA : AtW ⟨st, s, stC, stb, b, w3.heap.size, bC, m, es, clock, E, w, lC⟩ #[] E3 (obs st s stC stb []) w4 :=
    ⟨q3.grown hg (fun r e => by cases e), k03.grown hg (fun r e => by cases e), hwk, hid3.grown hg,
     ⟨fun ⟨i, x, hx, hb⟩ => absurd ((q3.real i x hx).blk_lt hb) (Nat.lt_irrefl _), fun o => by
        cases hv : E3.snap w3.heap.size o with
        | none => rfl
        | some v => exact absurd (q3.lt hv) (Nat.lt_irrefl _), by show w3.heap.size < w4.heap.size; omega⟩, hidC3.grown hg, k3'.ext.loc _ _ hlC⟩
  have hE : Ent ⟨st, s, stC, stb, b, w3.heap.size, bC, m, es, clock, E, w, lC⟩ [] E3 w4 := ⟨esC, cC, hMC.ext k3'.ext ((hg.block _ hidC3.lt (fun e => by cases e)).trans hC3)⟩
  have hvl : VR E3 (.pointer (some ⟨w3.heap.size, 0, none⟩)) (.lit (.pointer (some ⟨w3.heap.size, 0, none⟩))) := .lit _
  have s4 := (SlotsR.put (st := ⟨_, []⟩) s3 (.refl E3) (d := some 15) hvl []).weak (s' := dS (.ptr 0 st 0 0) (.slice (hsG l) t) (.ptr 3 stb 0 0) .any .any .any (.lit (.pointer (some ⟨w3.heap.size, 0, none⟩))) .any .any .any) (by simp [GSt.put, WL, leG_self, leG_any])
  refine wpList_nil ?_
  show (Code.block _ _).wp _ _ _ _
  refine wp_block (dOuter ⟨st, s, stC, stb, b, w3.heap.size, bC, m, es, clock, E, w, lC⟩ hDok hm f hf hfe ⟨rfl, rfl, rfl⟩ rfl rfl ⟨rfl, rfl, rfl⟩ rfl rfl (by kernel_rfl) (by kernel_rfl) (by kernel_rfl) (by kernel_rfl) (by kernel_rfl) (by kernel_rfl) (by kernel_rfl) (by kernel_rfl) ⟨rfl, rfl, ⟨rfl, rfl, rfl⟩, rfl, rfl, ⟨rfl, rfl, rfl⟩⟩ hA hE s4 ?_)
  intro ct' pre seen E5 a5 w5 hp hct hA5 hE5 s5
  refine inBlock_self ?_
  obtain ⟨es5, c5, hM5⟩ := hE5
  have hM5' : MapAt E5 w5 bC es5 c5 (kvG encL (ctM ct')) := ⟨hM5.at_, by rw [hM5.size, kvT_len]; simp [kvG, ctM], fun i e p he hp => by
    rw [kvG, ctM, List.map_map, List.getElem?_map] at hp
    cases hq : ct'[i]? with
    | none => rw [hq] at hp; cases hp
    | some q =>
      rw [hq] at hp
      cases hp
      have := hM5.ent i e _ he (by rw [kvT_at, hq]; rfl)
      exact ⟨this.1, leG.sound (x := .slice (hsG q.1.2) (.tok (i + 4) q.2)) (y := .slice (hsG q.1.2) .none) (by rw [leG_none]) this.2⟩, hM5.born⟩
  have hMg5 : MapAt E5 w5 b es clock (kvG encL m) := by
    obtain ⟨since, c0, e1, _⟩ := hA5.walk
    exact ⟨e1, hMg.size, fun i e p he hp => ⟨(hMg.ent i e p he hp).1.mono hA5.keep.ext, (hMg.ent i e p he hp).2.mono hA5.keep.ext⟩, hMg.born⟩
  obtain ⟨q6, kf6⟩ := hA5.sim.showMap (i := 2) (st := stC) rfl hA5.loc hbC hM5' hA5.hC
  have k6 := kf6 _ _ _ hA5.keep (.inr hC0)
  have hid6 : Hid E5 ((obs st s stC stb ct').set 2 (.map stC (kvG encL (ctM ct')))) w5 b := hid_set hA5.hb 2 _ (by
    have : (GObj.map stC (kvG encL (ctM ct'))).blk E5 = some bC := by
      have hl := hA5.loc
      change E5.loc stC = some lC at hl
      simp [GObj.blk, hl, hbC]
    rw [this]
    exact fun e => hnb (Option.some.inj e))
  obtain ⟨q7, kf7⟩ := q6.showMap (i := 1) (st := s) rfl (hA5.keep.ext.loc _ _ hlg) hbg hMg5 hid6
  have k7 := kf7 _ _ _ (k0.trans k6) (.inl hin0)
  change HSim E5 (((gObj st s m ++ [.map stC (kvG encL (ctM ct'))]) ++ [.row stb 1 [[.map 2 stC]]]) ++ ct'.map fun q => .tok q.2 32) w5 at q7
  change Keep E (gObj st s m) w E5 (((gObj st s m ++ [.map stC (kvG encL (ctM ct'))]) ++ [.row stb 1 [[.map 2 stC]]]) ++ ct'.map fun q => .tok q.2 32) w5 at k7
  obtain ⟨q8, k8⟩ := q7.drop
  obtain ⟨q9, k9, s9⟩ := q8.meltBox1 s5 5 rfl rfl
  have K9 := (k7.trans k8).trans k9
  have hKb : Kb 40000 (ctM ct') := by
    have := Kb.all pre (fun q hq => hm.row q (hp.mem_iff.1 hq))
    rw [← hct] at this
    intro q hq
    have h1 := this q hq
    have h2 := hp.length_eq
    change pre.length = m.length at h2
    omega
  show (Code.seq _ _).wp _ _ _ _
  refine wp_mono (vc_sound mixS _ (retQ Tryd.prog [.tmp 4] _) ⟨_, _⟩ _ a5 w5 (C := C0) (by kernel_rfl) q9 (s9.weak ?_) (vcS_ok (C := C0) _ _ _ _ _ (by kernel_rfl) (fun _ _ h => h) (dHalf m hm st s stC l t ht hl (ctM ct') (fun x y => by rw [hct]; exact kids_of_perm hp x y) hKb))) (fun e a' w' hpost => Post.trans K9 hpost)
  simp [WL, leG_self, leG_any]
end Gv.Tryd
/- Ancestors and descendants: plain laws. -/
set_option linter.unusedVariables false
set_option linter.unusedSimpArgs false
namespace Gv.Tryd
open Go Gv Go.Proofs
theorem kid_par {m : GM} (hm : Good m) (x y : Hs) : y ∈ kidsM m x ↔ x ∈ parsM m y := by
  rw [kidsM_mem]
  constructor
  · rintro ⟨q, h1, h2, rfl⟩
    rw [parsM_some (look_of_mem hm.keys h1)]
    exact h2
  · intro h
    obtain ⟨p, h1, h2, h3⟩ := parsM_mem h
    exact ⟨p, h1, h3, h2.symm⟩
theorem reach_rev {n1 n2 : Hs → List Hs} (h : ∀ x y, y ∈ n1 x → x ∈ n2 y) {x y : Hs} (hr : Reach n1 [x] y) : Reach n2 [y] x := by
  induction hr with
  | base z hz => rw [List.mem_singleton.1 hz]; exact .base _ (by simp)
  | step z w _ hw ih =>
    refine ih.trans fun u hu => ?_
    rw [List.mem_singleton.1 hu]
    exact .step w z (.base _ (by simp)) (h z w hw)
theorem kids_there {m : GM} {x y : Hs} (h : y ∈ kidsM m x) : (look m y).isSome = true := by
  obtain ⟨q, h1, _, rfl⟩ := kidsM_mem.1 h
  exact key_look (List.mem_map_of_mem h1)
theorem inM_mem {m : GM} {l : List Hs} {x : Hs} : x ∈ inM m l ↔ x ∈ l ∧ (look m x).isSome = true := by unfold inM; exact List.mem_filter
theorem reach_there {m : GM} {nx : Hs → List Hs} (hn : ∀ x y, y ∈ nx x → (look m y).isSome = true) {l : List Hs} {x : Hs} (h : Reach nx (inM m l) x) : (look m x).isSome = true := by
  cases h with
  | base x hx => exact (inM_mem.1 hx).2
  | step z x _ hx => exact hn z x hx
theorem reach_start {m : GM} {nx : Hs → List Hs} {x y : Hs} (h : Reach nx (inM m [x]) y) : (look m x).isSome = true ∧ Reach nx [x] y := by
  constructor
  · cases hx : (look m x).isSome with
    | true => rfl
    | false =>
      have e : inM m [x] = [] := by unfold inM; simp [hx]
      rw [e] at h
      exact h.nil.elim
  · exact h.sub fun z hz => (inM_mem.1 hz).1
theorem reach_one {m : GM} {nx : Hs → List Hs} {x y : Hs} (hx : (look m x).isSome = true) (h : Reach nx [x] y) : Reach nx (inM m [x]) y := h.sub fun z hz => by
  rw [List.mem_singleton.1 hz]
  exact inM_mem.2 ⟨by simp, hx⟩
theorem ways {m : GM} (hm : Good m) (x y : Hs) : y ∈ ancL m [x] ↔ x ∈ desL m [y] := by
  rw [ancL_mem, desL_mem]
  constructor
  · intro h
    have hy := reach_there hm.closed h
    obtain ⟨hx, h⟩ := reach_start h
    exact reach_one hy (reach_rev (fun a b hb => (kid_par hm b a).2 hb) h)
  · intro h
    have hx := reach_there (fun _ _ q => kids_there q) h
    obtain ⟨hy, h⟩ := reach_start h
    exact reach_one hx (reach_rev (fun a b hb => (kid_par hm a b).1 hb) h)
theorem anc_anc {m : GM} (hm : Good m) (l : List Hs) : ancL m (ancL m l) = ancL m l := ss_eq (ancL_ss _ _) (ancL_ss _ _) fun z => by
  rw [ancL_mem, ancL_mem]
  constructor
  · intro h
    exact h.trans fun y hy => (ancL_mem m l y).1 (inM_mem.1 hy).1
  · intro h
    exact .base _ (inM_mem.2 ⟨(ancL_mem m l z).2 h, reach_there hm.closed h⟩)
theorem des_des (m : GM) (l : List Hs) : desL m (desL m l) = desL m l := ss_eq (desL_ss _ _) (desL_ss _ _) fun z => by
  rw [desL_mem, desL_mem]
  constructor
  · intro h
    exact h.trans fun y hy => (desL_mem m l y).1 (inM_mem.1 hy).1
  · intro h
    exact .base _ (inM_mem.2 ⟨(desL_mem m l z).2 h, reach_there (fun _ _ q => kids_there q) h⟩)
theorem anc_self (m : GM) (hm : Good m) (x : Hs) : decide (x ∈ ancL m [x]) = (look m x).isSome := by
  cases hx : (look m x).isSome with
  | true => exact decide_eq_true ((ancL_mem m [x] x).2 (.base _ (inM_mem.2 ⟨by simp, hx⟩)))
  | false =>
    refine decide_eq_false fun h => ?_
    have := reach_there hm.closed ((ancL_mem m [x] x).1 h)
    rw [hx] at this; cases this
theorem keysS_full {m : GM} (h : (m.map (·.1)).Nodup) : (keysS m).length = m.length := by
  have h1 := keysS_len h
  have h2 := nodup_lenH (m.map (·.1)) (keysS m) h fun x hx => by unfold keysS; exact (sortR_mem _ _).2 hx
  rw [List.length_map] at h2
  omega
theorem anc_all {m : GM} (hm : Good m) : ancL m (keysS m) = keysS m := ss_eq (ancL_ss _ _) (sortR_ss _) fun z => by
  rw [ancL_mem]
  show _ ↔ z ∈ keysS m
  constructor
  · intro h
    exact (keysS_mem m z).2 (reach_there hm.closed h)
  · intro h
    exact .base _ (inM_mem.2 ⟨h, (keysS_mem m z).1 h⟩)
theorem anc_len {m : GM} (hm : Good m) (l : List Hs) : (ancL m l).length ≤ m.length := by
  have := nodup_lenH (ancL m l) (keysS m) (ss_nodup (ancL_ss m l)) fun x hx => (keysS_mem m x).2 (reach_there hm.closed ((ancL_mem m l x).1 hx))
  rw [keysS_full hm.keys] at this
  exact this
theorem des_len {m : GM} (hm : Good m) (l : List Hs) : (desL m l).length ≤ m.length := by
  have := nodup_lenH (desL m l) (keysS m) (ss_nodup (desL_ss m l)) fun x hx => (keysS_mem m x).2 (reach_there (fun _ _ q => kids_there q) ((desL_mem m l x).1 hx))
  rw [keysS_full hm.keys] at this
  exact this
end Gv.Tryd
/- Contracts: the reference's round. -/
set_option linter.unusedVariables false
set_option linter.unusedSimpArgs false
set_option maxRecDepth 20000
set_option maxHeartbeats 4000000
namespace Gv.Tryd
open Go Gv Go.Proofs
theorem hIn (l : List Hs) (t : Tag) (h : Hs) (hl : l.length ≤ 4398046511104) : GPure Tryd.prog 18 [.slice (hsG l) t, .agg (bytesG h.1)] (.bool (decide (h ∈ l))) := by
  refine h18.pure mixS (by simp) ?_
  simp only [gstart, s18, List.cons_append, List.nil_append, List.length_cons, List.length_nil, Nat.reduceAdd, Nat.reduceSub, List.replicate_succ, List.replicate_zero]
  simp +contextual -implicitDefEqProofs (maxSteps := 2000000) (disch := omega) only [drawC, drawK, keepT, ↓lenV, binV, ↓loadV, ↓indexAddrV, ↓boxV, GVal.cells, grp, GVal.ofConst, ↓resV, resG, List.map, List.headD, List.take, List.drop, ↓reduceIte, Nat.reduceEqDiff, Nat.reduceAdd, Nat.reduceSub, Nat.reduceLeDiff, reduceCtorEq, implies_true, ne_eq, aggV, Tag.cap, List.replicate, allSolid, GVal.solid, Nat.reduceBEq, Nat.reduceMul, Nat.reduceLT, List.length_map, List.length_range, splice, vcA, ↓vcB, vcC, fbFu, e18, take32, len32, solidH]
  refine vcSLoop_by (ι := { k : Nat // k ≤ l.length ∧ h ∉ l.take k }) (fun k => ⟨[.slice (hsG l) t, .any, .any, .ref (bytesG h.1), .any, .int .i64 (k.1 : Nat)] ++ List.replicate 12 .any, []⟩) (fun k => l.length - k.1) ?_ ?_
  · exact Into.first ⟨0, by omega, by simp⟩ ⟨[], by simp⟩ (by simp [WL, leG_self, leG_any, leG_int])
  · rintro ⟨k, hk, he⟩
    by_cases h' : k < l.length
    · have d0 : ((k : Int) < (l.length : Int)) = True := eq_true (by omega)
      have ea := hsG_at l k h'
      obtain ⟨x, ex⟩ : ∃ x, l.getD k h0 = x := ⟨_, rfl⟩
      rw [ex] at ea
      have ht := takeH h'
      rw [ex] at ht
      have ce := cellsEq_hs x h
      by_cases e : x = h
      · rw [decide_eq_true e] at ce
        have em : h ∈ l := List.mem_of_mem_take (i := k + 1) (by rw [ht, e]; simp)
        rw [decide_eq_true em]
        simp +contextual -implicitDefEqProofs (maxSteps := 2000000) (disch := omega) only [drawC, drawK, keepT, ↓lenV, binV, ↓loadV, ↓indexAddrV, ↓boxV, GVal.cells, grp, GVal.ofConst, ↓resV, resG, List.map, List.headD, List.take, List.drop, ↓reduceIte, Nat.reduceEqDiff, Nat.reduceAdd, Nat.reduceSub, Nat.reduceLeDiff, reduceCtorEq, implies_true, ne_eq, aggV, Tag.cap, List.replicate, allSolid, GVal.solid, Nat.reduceBEq, Nat.reduceMul, Nat.reduceLT, List.length_map, List.length_range, splice, vcA, ↓vcB, vcC, fbFu, e18, d0, ea, hsG_len, take32, len32, solidH, ce]
        omega
      · rw [decide_eq_false e] at ce
        simp +contextual -implicitDefEqProofs (maxSteps := 2000000) (disch := omega) only [drawC, drawK, keepT, ↓lenV, binV, ↓loadV, ↓indexAddrV, ↓boxV, GVal.cells, grp, GVal.ofConst, ↓resV, resG, List.map, List.headD, List.take, List.drop, ↓reduceIte, Nat.reduceEqDiff, Nat.reduceAdd, Nat.reduceSub, Nat.reduceLeDiff, reduceCtorEq, implies_true, ne_eq, aggV, Tag.cap, List.replicate, allSolid, GVal.solid, Nat.reduceBEq, Nat.reduceMul, Nat.reduceLT, List.length_map, List.length_range, splice, vcA, ↓vcB, vcC, fbFu, e18, d0, ea, hsG_len, take32, len32, solidH, ce]
        refine ⟨by omega, ?_⟩
        refine Into.at ⟨k + 1, by omega, ?_⟩ (by show l.length - (k + 1) < l.length - k; omega) ⟨[], by simp⟩ (by simp [WL, leG_self, leG_any, leG_int])
        rw [ht]
        intro q
        rcases List.mem_append.1 q with q | q
        · exact he q
        · exact e (List.mem_singleton.1 q).symm
    · have d0 : ((k : Int) < (l.length : Int)) = False := eq_false (by omega)
      rw [List.take_of_length_le (by omega)] at he
      rw [decide_eq_false he]
      simp +contextual -implicitDefEqProofs (maxSteps := 2000000) (disch := omega) only [drawC, drawK, keepT, ↓lenV, binV, ↓loadV, ↓indexAddrV, ↓boxV, GVal.cells, grp, GVal.ofConst, ↓resV, resG, List.map, List.headD, List.take, List.drop, ↓reduceIte, Nat.reduceEqDiff, Nat.reduceAdd, Nat.reduceSub, Nat.reduceLeDiff, reduceCtorEq, implies_true, ne_eq, aggV, Tag.cap, List.replicate, allSolid, GVal.solid, Nat.reduceBEq, Nat.reduceMul, Nat.reduceLT, List.length_map, List.length_range, splice, vcA, ↓vcB, vcC, fbFu, e18, d0, hsG_len]
end Gv.Tryd
/- maps.Keys of the graph's own map, as an iterator; Collect of it (printed by mkko.py out of KK, KL, KN); the graph's Hashes. -/
set_option linter.unusedVariables false
set_option linter.unusedSimpArgs false
set_option maxRecDepth 100000
set_option maxHeartbeats 4000000
namespace Gv.Tryd.L
open Go Gv Gv.Tryd Go.Proofs Go.RowKit Go.Maps Go.Sort Go.Shelf
theorem keys1 (F : Fence) (n : Nat) (h69 : F.fn 53) (hro : F.round = none) (hn : 1 ≤ n) (l Bm off b clock : Nat) (es : Array MapEntry) (hbo : BornOK es clock) (hks : ∀ e ∈ es.toList, ∃ h : HL, e.key = encH h) (J : List HL → World → Prop)
    (hY : ∀ pre x W, J pre W → pre.length < es.size → YieldAt F (n - 1) Tryd.prog l #[encH x] W fun e W' => e = .returned (.bool true) ∧ J (pre ++ [x]) W' ∧ KeepsWalks W W')
    (W : World) (hJ : AbidesFrom W.heap.size J)
    (hm : W.cell? ⟨Bm, off, none⟩ = some (.map (some b))) (hb : W.heap[b]? = some (.map es clock)) (h0 : J [] W) :
    CallsIn F n Tryd.prog 53 #[.func (.yield l) #[] #[], .pointer (some ⟨Bm, off, none⟩)] W fun e W' => (∃ v, e = .returned v) ∧ ∃ hs : List HL, (hs.map encH).Perm (es.toList.map MapEntry.key) ∧ J hs W' := by
  refine callsIn_of_wp Tryd.func53 rfl h69 ?_ hro
  simp only [Tryd.ntmps53, List.size_toArray, List.length_cons, List.length_nil, Nat.reduceAdd, Nat.reduceSub, Array.replicate_succ, Array.replicate_zero, List.push_toArray, List.append_toArray, List.nil_append, List.cons_append]
  gi_wp2_with (first
    | (gi_at_range; refine wpListIn_range_at _ rfl _ _ rfl _ _ Tryd.underlying62 b clock es rfl hb hbo ?_; intro w0 hrg0 hg0 hs0)
    | gi_in)
  go_frame
  gi_loopw [3] (fun _ wr => ∃ (seen : Array Nat) (xs : List MapEntry) (hs : List HL), WalkAt wr b W.heap.size es clock seen ∧ Came es seen xs ∧ hs.map encH = xs.map MapEntry.key ∧ J hs wr)
    (fun _ wr => wr.rangeLeft b W.heap.size)
  case atStart =>
    exact ⟨#[], [], [], hrg0, Came.nil es, rfl, hJ [] W w0 none h0 hg0 (fun r e => by cases e)⟩
  case round =>
    obtain ⟨seen, xs, hs, hrg, hC, hsx, hJs⟩ := hrel
    gi_wp2_with (first
      | (refine wpListIn_next_at _ rfl _ rfl b W.heap.size clock es hbo seen xs hC rfl hrg ?_ ?_)
      | gi_in)
    · -- NOTHING IS LEFT
      intro hp
      gi_wp2
      go_end0
      exact ⟨⟨_, rfl⟩, hs, by rw [hsx]; exact hp.map _, hJs⟩
    · -- AN ENTRY HAS COME: yield(k)
      intro e w2 hem hC2 hlt hrg2 hmu hg2 hs2 hen
      obtain ⟨x, ex⟩ := hks e (by simpa using hem)
      have hsx2 : (hs ++ [x]).map encH = (xs ++ [e]).map MapEntry.key := by rw [List.map_append, List.map_append, hsx]; simp [ex]
      have hlen : hs.length < es.size := by
        have := congrArg List.length hsx
        rw [List.length_map, List.length_map] at this
        omega
      rw [ex] at hen ⊢
      have hal := World.alloc_heap_new w2 (.cells zero32 40)
      have hst := store_h x.2 hal rfl
      obtain ⟨w3, hw3⟩ : ∃ w3, (w2.alloc (.cells zero32 40)).setRow w2.heap.size (bytesV x.1).toArray = w3 := ⟨_, rfl⟩
      rw [hw3] at hst
      have hx3 : w3.heap[w2.heap.size]? = some (.cells (bytesV x.1).toArray 40 (0, 0)) := by rw [← hw3]; exact setRow_heap _ _ _ _ _ _ hal
      have ho3 : ∀ k, k < w2.heap.size → w3.heap[k]? = w2.heap[k]? := fun k hk => by
        rw [← hw3, setRow_other _ _ _ _ (by omega)]
        exact Below.heap_alloc _ _ k hk
      have hs3 : w3.heap.size = w2.heap.size + 1 := by rw [← hw3]; simp
      have hk3 : KeepsWalks w2 w3 := ⟨by omega, fun k o hk ho => (ho3 k (Array.getElem?_eq_some_iff.1 hk).1).trans hk⟩
      have hg3 : w2.grownBy w3 none := ⟨by rw [← hw3]; rfl, by rw [← hw3]; rfl, by rw [← hw3]; rfl, by omega, fun k hk _ => ho3 k hk⟩
      have hlo := load_h x.2 hx3
      have hJ3 : J hs w3 := hJ hs w2 w3 none (hJ hs wr w2 (some W.heap.size) hJs hg2 (fun r e => by cases e; exact ⟨Nat.le_refl _, hrg.iter_walk⟩)) hg3 (fun r e => by cases e)
      have hrg3 := hrg2.of_walks hk3
      have hmu3 : w3.rangeLeft b W.heap.size < wr.rangeLeft b W.heap.size := by rw [hrg3.left_eq, ← hrg2.left_eq]; exact hmu
      obtain ⟨fn, tmps, assign, body, hy, hR⟩ := hY hs x w3 hJ3 hlen
      change (Instr.yield l #[encV x.1]).run Tryd.prog w3 = _ at hy
      clear hw3 hs2
      gi_wp2_with (first
        | (refine wpListIn_alloc rfl rfl (alloc_h _) ?_)
        | (refine wpListIn_store rfl rfl hst ?_)
        | (refine wpListIn_load rfl rfl hlo ?_)
        | gi_in)
      refine hR.mono ?_
      rintro e' W4 ⟨rfl, hJ4, hk4⟩
      gi_wp2
      have hrg4 := hrg3.of_walks hk4
      go_roundw
      case rel => exact ⟨_, xs ++ [e], hs ++ [x], hrg4, hC2, hsx2, hJ4⟩
      case measure => rw [hrg4.left_eq, ← hrg3.left_eq]; exact hmu3
theorem keysGives (F : Fence) (n : Nat) (h69 : F.fn 53) (hro : F.round = none) (hn : 1 ≤ n) (Bm off b clock : Nat) (es : Array MapEntry) (hbo : BornOK es clock) (hks : ∀ e ∈ es.toList, ∃ h : HL, e.key = encH h) (w : World) (hBm : Bm < w.heap.size)
    (hm : w.cell? ⟨Bm, off, none⟩ = some (.map (some b))) (hb : w.heap[b]? = some (.map es clock)) :
    SeqGives F n Tryd.prog 53 #[.pointer (some ⟨Bm, off, none⟩)] encH (fun hs : List HL => (hs.map encH).Perm (es.toList.map MapEntry.key)) es.size w := fun l J W hW hJ hY h0 =>
  keys1 F n h69 hro hn l Bm off b clock es hbo hks J hY W hJ ((hW.cell (p := ⟨Bm, off, none⟩) hBm).trans hm) ((hW.block b (Array.getElem?_eq_some_iff.1 hb).1).trans hb) h0
theorem gCollect {α : Type} (enc : α → GVal) (m : List (Hs × α)) (hm : m.length ≤ 1000000000) {O : List GObj} {o st oc stc : Nat} (hO : O[o]? = some (.map st (kvG enc m))) (hOc : O[oc]? = some (.row stc 1 [[.map o st]])) :
    GCalls Tryd.prog 30 [.func (.func 53) [] [.ptr oc stc 0 0]] O (fun g O' => ∃ l : List Hs, l.Perm (m.map (·.1)) ∧ g = .slice (hsG l) .none ∧ O' = O) := by
  refine ⟨by kernel_rfl, fun E w vs hs ha => ?_⟩
  obtain ⟨hsz, hat⟩ := ha
  match vs, hsz with
  | ⟨[v]⟩, _ =>
    have hv := hat 0 _ rfl
    change VR E v _ at hv
    cases hv with
    | func fn fs cs gs ks hf hk hfs hcs =>
      obtain ⟨fs⟩ := fs
      obtain ⟨cs⟩ := cs
      match fs, hf with
      | [], _ =>
        match cs, hk with
        | [c], _ =>
          have hc := hcs 0 _ rfl
          change VR E c (.ptr oc stc 0 0) at hc
          cases hc with
          | ptr b off _ _ _ _ lc hlc hbc hoff =>
            have hre := hs.real _ _ hOc
            obtain ⟨lc2, hlc2, hsz2, _, hre⟩ := hre
            rw [hlc] at hlc2; cases hlc2
            rw [hbc] at hre
            obtain ⟨cur, el, hcw, hcs, hct, hrows, _⟩ := hre
            obtain ⟨q, h1, _, h2⟩ := hrows 0 (.map o st) rfl
            have hoff2 : off = lc.off := by rw [hoff]; omega
            have hcell : w.cell? ⟨b, off, none⟩ = some q := by
              simp only [World.cell?, hcw, hoff2]
              simpa using h1
            have hBm : b < w.heap.size := (Array.getElem?_eq_some_iff.1 hcw).1
            cases h2 with
            | map r o st l hl hb =>
              obtain ⟨b2, es, clock, e, hw, hes, hent, hloc, hsn2, hbo⟩ := map_block hs (VR.map r o st l hl hb) hO
              cases e
              have hln : es.size = m.length := by
                have : es.toList.length = (kvG enc m).length := hes
                rw [Array.length_toList] at this
                rw [this, kvG, List.length_map]
              have hkey : es.toList.map MapEntry.key = (m.map (·.1)).map encH := by
                refine List.ext_getElem? fun i => ?_
                rw [List.getElem?_map, List.getElem?_map, List.getElem?_map]
                cases hi : m[i]? with
                | none =>
                  have : es.toList[i]? = none := by
                    rw [List.getElem?_eq_none_iff] at hi ⊢
                    rw [Array.length_toList]; omega
                  rw [this]; rfl
                | some p =>
                  have hlt := (List.getElem?_eq_some_iff.1 hi).1
                  have hi2 : i < es.toList.length := by rw [Array.length_toList]; omega
                  have he : es.toList[i]? = some (es.toList[i]) := List.getElem?_eq_getElem hi2
                  have := (hent i _ (.agg (bytesG p.1.1), enc p.2) he (by simp [kvG, hi])).1
                  rw [he]
                  exact congrArg some (vr_key this)
              have hks : ∀ e ∈ es.toList, ∃ h : HL, e.key = encH h := by
                intro e he
                have : e.key ∈ es.toList.map MapEntry.key := List.mem_map_of_mem he
                rw [hkey] at this
                obtain ⟨h, _, eh⟩ := List.mem_map.1 this
                exact ⟨h, eh.symm⟩
              have hseq := keysGives Fence.wide 3 trivial rfl (by omega) b off r clock es hbo hks w hBm hcell hw
              have hc := collect Fence.wide 5 trivial trivial rfl (by omega) 53 #[.pointer (some ⟨b, off, none⟩)] trivial (enters_of Tryd.func53 (by kernel_rfl) rfl) _ es.size (by rw [hln]; exact Nat.le_trans hm (by decide)) (by omega) w hseq
              refine (callsIn_wide.1 hc).mono ?_
              rintro e' w' ⟨v, ss, rfl, hS, hrow, hnil, hbel⟩
              have hperm : ss.Perm (m.map (·.1)) := perm_of_map (fun _ _ => encH_inj) (by rw [← hkey]; exact hS)
              rcases hrow.2 with ⟨rfl, hz⟩ | ⟨g, cap, cur, rfl, hbase, hgb, r1, r2, r3, r4⟩
              · have hss : ss = [] := List.eq_nil_of_length_eq_zero hz
                subst hss
                obtain ⟨p1, p2⟩ := hs.belowO hbel
                exact ⟨_, E, O, .slice [] .none, rfl, p1, p2, .slice none 0 0 [] .none 32 (fun _ => undef) rfl (Nat.le_refl _) (by simp) (by simp) (by simp) trivial, [], hperm, rfl, rfl⟩
              · have hcur : ∀ j, j < ss.length * 32 → cur[j]? = (bytesV (hsB ss))[j]? := by
                  intro j hj
                  rw [← cellsH_B, ← r4, List.getElem?_take_of_lt hj, Array.getElem?_toList]
                have hbl : (bytesV (hsB ss)).length = ss.length * 32 := by rw [← cellsH_B, cellsH_len]
                obtain ⟨p1, p2⟩ := hs.belowSeal hbel (n := ss.length * 32) hbase hgb (fun j v hj hv => by
                  rw [hcur j hj] at hv
                  exact bytesV_one _ v (List.mem_of_getElem? hv))
                refine ⟨_, _, O, .slice (hsG ss) .none, rfl, p1, p2, .slice _ _ _ _ _ 32 (fun j => (bytesV (hsB ss)).getD j undef) (by rw [hsG_len]) r1 (fun x hx => by obtain ⟨h, _, rfl⟩ := List.mem_map.1 hx; exact len32 h) (fun _ => ⟨g, 0, rfl, fun j hj => ?_⟩) (fun j gv hj => ?_) trivial, ss, hperm, rfl, rfl⟩
                · show (if g = g then (if 0 + j < ss.length * 32 then cur[0 + j]? else none) else E.snap g (0 + j)) = _
                  rw [if_pos rfl, Nat.zero_add, if_pos hj, hcur j hj, List.getD_eq_getElem?_getD]
                  cases hq2 : (bytesV (hsB ss))[j]? with
                  | none => rw [List.getElem?_eq_none_iff] at hq2; omega
                  | some x => rfl
                · rw [hsG_B, bytesG, List.getElem?_map] at hj
                  rw [List.getD_eq_getElem?_getD, bytesV, List.getElem?_map]
                  cases hq2 : (hsB ss)[j]? with
                  | none => rw [hq2] at hj; cases hj
                  | some x =>
                    rw [hq2] at hj
                    cases hj
                    exact .int _ _
theorem gKeys {α : Type} (enc : α → GVal) (m : List (Hs × α)) {st sa : Nat} : GCalls Tryd.prog 31 [.map 1 st] [.row sa 1 [[.map 1 st]], .map st (kvG enc m)] (fun g O' => ∃ stc, g = .func (.func 53) [] [.ptr 2 stc 0 0] ∧ O' = [.row sa 1 [[.map 1 st]], .map st (kvG enc m), .row stc 1 [[.map 1 st]]]) := by
  refine h31.calls mixS (by simp) ?_
  simp only [gstart, s31, List.cons_append, List.nil_append, List.length_cons, List.length_nil, Nat.reduceAdd, Nat.reduceSub, List.replicate_succ, List.replicate_zero]
  simp +contextual -implicitDefEqProofs (maxSteps := 2000000) (disch := omega) only [↓boxV, GVal.cells, grp, GVal.ofConst, ↓resV, resG, List.map, List.headD, List.take, List.drop, ↓reduceIte, Nat.reduceEqDiff, Nat.reduceAdd, Nat.reduceSub, Nat.reduceLeDiff, reduceCtorEq, implies_true, ne_eq, Tag.cap, List.replicate, allSolid, GVal.solid, Nat.reduceBEq, Nat.reduceMul, Nat.reduceLT, List.length_map, List.length_range, splice, vcA, ↓vcB, vcC, fbFu, e31]
  exact fun s => ⟨s, rfl, rfl⟩
theorem gHashes11 (m : GM) (hm : m.length ≤ 1000000000) (st s : Nat) : GCalls Tryd.prog 14 [.ptr 0 st 0 0] (gObj st s m) (fun g O' => g = .slice (hsG (sortR (m.map (·.1)))) .none ∧ O' = gObj st s m) := by
  refine GCalls.dropTo ?_
  refine h14.calls mixS (by simp) ?_
  simp only [gstart, s14, List.cons_append, List.nil_append, List.length_cons, List.length_nil, Nat.reduceAdd, Nat.reduceSub, List.replicate_succ, List.replicate_zero]
  simp +contextual -implicitDefEqProofs (maxSteps := 2000000) (disch := omega) only [optV, ↓loadV, ↓fieldAddrV, ↓sliceV, ↓nilV, bound, cutTag, hiTag, GVal.cells, grp, GVal.ofConst, ↓resV, resG, List.map, List.headD, List.take, List.drop, ↓reduceIte, Nat.reduceEqDiff, Nat.reduceAdd, Nat.reduceSub, Nat.reduceLeDiff, reduceCtorEq, implies_true, ne_eq, Tag.cap, List.replicate, allSolid, GVal.solid, Nat.reduceBEq, Nat.reduceMul, Nat.reduceLT, List.length_map, List.length_range, splice, vcA, ↓vcB, vcC, fbFu, e14]
  refine (gKeys encL m (sa := st)).mono ?_
  rintro g O' ⟨stc, rfl, rfl⟩
  simp +contextual -implicitDefEqProofs (maxSteps := 2000000) (disch := omega) only [optV, ↓loadV, ↓fieldAddrV, ↓sliceV, ↓nilV, bound, cutTag, hiTag, GVal.cells, grp, GVal.ofConst, ↓resV, resG, List.map, List.headD, List.take, List.drop, ↓reduceIte, Nat.reduceEqDiff, Nat.reduceAdd, Nat.reduceSub, Nat.reduceLeDiff, reduceCtorEq, implies_true, ne_eq, Tag.cap, List.replicate, allSolid, GVal.solid, Nat.reduceBEq, Nat.reduceMul, Nat.reduceLT, List.length_map, List.length_range, splice, vcA, ↓vcB, vcC, fbFu, e14]
  refine (gCollect encL m hm (O := [.row st 1 [[.map 1 s]], .map s (kvG encL m), .row stc 1 [[.map 1 s]]]) (o := 1) (oc := 2) rfl rfl).mono ?_
  rintro g O' ⟨l, hl, rfl, rfl⟩
  have hll : l.length = m.length := by rw [hl.length_eq, List.length_map]
  have cS := hSort l .none (by omega) (by simp)
  rw [sortR_perm hl] at cS
  simp +contextual -implicitDefEqProofs (maxSteps := 2000000) (disch := omega) only [optV, ↓loadV, ↓fieldAddrV, ↓sliceV, ↓nilV, bound, cutTag, hiTag, GVal.cells, grp, GVal.ofConst, ↓resV, resG, List.map, List.headD, List.take, List.drop, ↓reduceIte, Nat.reduceEqDiff, Nat.reduceAdd, Nat.reduceSub, Nat.reduceLeDiff, reduceCtorEq, implies_true, ne_eq, Tag.cap, List.replicate, allSolid, GVal.solid, Nat.reduceBEq, Nat.reduceMul, Nat.reduceLT, List.length_map, List.length_range, splice, vcA, ↓vcB, vcC, fbFu, e14]
  refine cS.then ?_ (by rfl)
  simp +contextual -implicitDefEqProofs (maxSteps := 2000000) (disch := omega) only [optV, ↓loadV, ↓fieldAddrV, ↓sliceV, ↓nilV, bound, cutTag, hiTag, GVal.cells, grp, GVal.ofConst, ↓resV, resG, List.map, List.headD, List.take, List.drop, ↓reduceIte, Nat.reduceEqDiff, Nat.reduceAdd, Nat.reduceSub, Nat.reduceLeDiff, reduceCtorEq, implies_true, ne_eq, Tag.cap, List.replicate, allSolid, GVal.solid, Nat.reduceBEq, Nat.reduceMul, Nat.reduceLT, List.length_map, List.length_range, splice, vcA, ↓vcB, vcC, fbFu, e14]
  exact ⟨_, gObj st s m, [.row stc 1 [[.map 1 s]]], rfl, leA_refl _, rfl, rfl⟩
end Gv.Tryd.L
