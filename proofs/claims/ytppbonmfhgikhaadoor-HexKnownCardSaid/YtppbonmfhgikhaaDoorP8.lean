/- The lemmas that conditions are gone through with, bundled: one name for many. -/
import Derived.Test.YtppbonmfhgikhaaDoorP7
import Derived.Below
import Derived.Test.YtppbonmfhgikhaaDoorProg
import Derived.KernelRfl
import Derived.Lib.BytesEntry
import Derived.Laws.Externs
import Derived.WalkKit
set_option linter.unusedVariables false
set_option linter.defProp false
namespace Gv
open Go
def vcA := And.intro @vcS_skip <| And.intro @vcS_reg <| And.intro @vcS_drw <| And.intro @vcS_seq <| And.intro @vcS_cond <| And.intro @vcS_block <| And.intro @vcS_exit <| And.intro @vcS_ret <| And.intro @vcS_loopI <| And.intro @opsS_nil <| And.intro @opsS_one <| And.intro @opsS_if <| And.intro @ordS_nil <| And.intro @ordS_one <| And.intro @ordS_if <| And.intro @hold_mk <| And.intro @ev_tmp <| And.intro @ev_const <| And.intro @ev_func <| And.intro @put_some <| And.intro @put_none <| And.intro @setS_mk <| And.intro @sget_0 <| And.intro @sget_1 <| And.intro @sget_2 <| And.intro @sget_3 <| And.intro @sget_4 <| And.intro @set_0 <| And.intro @set_1 <| And.intro @set_2 <| And.intro @set_3 <| And.intro @set_4 <| And.intro @setO_0 <| And.intro @setO_1 <| And.intro @setO_2 <| And.intro @setL_0 <| And.intro @setL_1 <| And.intro @setL_2 <| And.intro @norm_i64 <| And.intro @ints_length <| And.intro @ints_at <| And.intro @leG_bool <| And.intro @leG_int <| And.intro @okCells_eq <| And.intro @allSolid_eq <| And.intro @all_nil <| And.intro @all_cons <| And.intro @all_append <| And.intro @all_ints <| And.intro @all_tabG <| And.intro @stamp_nil <| And.intro @stamp_tok <| And.intro @stamp_row <| And.intro @stamp_map <| And.intro @tick_nil <| And.intro @tick_tok <| And.intro @tick_row <| And.intro @tick_map <| And.intro @tabG_length <| And.intro @tabG_at <| And.intro @leA_int <| And.intro @leA_bool <| And.intro @leA_slice <| And.intro @leA_agg <| And.intro @leA_tuple <| And.intro @WL_nil <| And.intro @WL_cons <| And.intro @leG_self <| And.intro @setL_3 <| And.intro @setL_4 <| And.intro @setO_3 <| And.intro @setO_4 <| @setO_5
def vcB := And.intro @gif_true <| And.intro @gif_false <| And.intro @gif_dec <| And.intro @gif_not <| And.intro @gif_eq <| And.intro @gif_ne <| And.intro @op_move <| And.intro @op_assign <| And.intro @op_binOp <| And.intro @binN_tmp <| And.intro @binN_ci <| And.intro @binN_cb <| And.intro @binN_cs <| And.intro @binN_cl <| And.intro @binN_cp <| And.intro @binN_cf <| And.intro @binN_ni <| And.intro @binN_eq <| And.intro @binN_ne <| And.intro @op_unOp <| And.intro @op_convert <| And.intro @op_load <| And.intro @op_store <| And.intro @op_fieldAddr <| And.intro @op_field <| And.intro @op_indexAddr <| And.intro @op_index <| And.intro @op_extract <| And.intro @op_alloc <| And.intro @op_lookup <| And.intro @op_mapUpdate <| And.intro @op_insert <| And.intro @op_makeMap <| And.intro @op_box <| And.intro @op_build <| And.intro @op_buildSlice <| And.intro @op_slice <| And.intro @op_nilCheck <| And.intro @op_makeInterface <| And.intro @op_makeFunc <| And.intro @op_pick <| And.intro @op_len <| And.intro @op_cap <| And.intro @op_min <| And.intro @op_max <| And.intro @op_clear <| And.intro @op_delete <| And.intro @op_append <| And.intro @op_funcI <| And.intro @op_closureI <| And.intro @ibin_add <| And.intro @ibin_sub <| And.intro @ibin_mul <| And.intro @ibin_quo <| And.intro @ibin_rem <| And.intro @ibin_eql <| And.intro @ibin_neq <| And.intro @ibin_lss <| And.intro @ibin_leq <| And.intro @ibin_gtr <| And.intro @ibin_geq <| And.intro @ext_0 <| And.intro @ext_1 <| And.intro @ext_2 <| And.intro @ext_3 <| And.intro @gif_neb <| And.intro @gif_eqb <| And.intro @thenQ_n <| And.intro @thenQ_r <| And.intro @thenQ_e <| And.intro @blockQ_n <| And.intro @blockQ_r <| And.intro @blockQ_e <| And.intro @retQ_n <| @retQ_r
def vcC := And.intro @Bool.and_eq_false_imp <| And.intro @Bool.and_eq_true <| And.intro @Bool.not_eq_false' <| And.intro @Bool.not_eq_true' <| And.intro @Bool.not_false <| And.intro @Bool.not_true <| And.intro @Bool.or_false <| And.intro @Bool.or_true <| And.intro @Bool.true_or <| And.intro @Int.cast_ofNat_Int <| And.intro @Int.natCast_add <| And.intro @Int.not_le <| And.intro @Int.not_lt <| And.intro @Int.toNat_natCast <| And.intro @Nat.lt_add_one <| And.intro @Nat.zero_add <| And.intro @Nat.zero_lt_one <| And.intro @and_true <| And.intro @decide_eq_false_iff_not <| And.intro @decide_eq_true_eq <| And.intro @decide_true <| And.intro @false_implies <| And.intro @not_false_eq_true <| And.intro @true_and <| And.intro @true_implies <| And.intro @List.append_nil.{0} <| And.intro @List.cons_append.{0} <| And.intro @List.drop_nil.{0} <| And.intro @List.drop_succ_cons.{0} <| And.intro @List.drop_zero.{0} <| And.intro @List.getD_cons_succ.{0} <| And.intro @List.getD_cons_zero.{0} <| And.intro @List.getElem?_cons_succ.{0} <| And.intro @List.getElem?_cons_zero.{0} <| And.intro @List.getElem?_nil.{0} <| And.intro @List.length_cons.{0} <| And.intro @List.length_nil.{0} <| And.intro @List.nil_append.{0} <| And.intro @List.take_nil.{0} <| And.intro @List.take_succ_cons.{0} <| And.intro @List.take_zero.{0} <| And.intro @List.contains_cons.{0} <| And.intro @List.contains_nil.{0} <| And.intro @beq_iff_eq.{0} <| And.intro @bne_iff_ne.{0} <| And.intro @beq_eq_false_iff_ne.{0} <| And.intro @bne_eq_false_iff_eq.{0} <| @beq_self_eq_true.{0}
end Gv
/- A contract from a walk of the kit's: all that was stands below. -/
set_option linter.unusedVariables false
namespace Gv
open Go
theorem HSim.below {E : Env} {w w' : World} (h : HSim E [] w) (hb : RowKit.Below w.heap.size w w') : HSim E [] w' ∧ Keep E [] w E [] w' :=
  h.gen (.refl E) h.fin hb.os ⟨hb.output, trivial⟩ hb.size (fun b => w.heap.size ≤ b) (fun b hb' => .inr hb') (fun k hk _ => hb.block k hk)
    (fun k o v hv => .inl hv) (fun k o v hk hv => absurd (h.lt hv) (by omega)) (fun i obj hi => by simp at hi) (fun i j oi oj b hij hi => by simp at hi)
theorem GPure.ofBelow {P : Program} {f : FuncId} {args : List GVal} {r : GVal} (he : enterable P f = true)
    (h : ∀ (E : Env) (w : World) (vs : Array Value), HSim E [] w → ArgsR E vs args → Calls P f vs w fun e w' => ∃ v, e = .returned v ∧ RowKit.Below w.heap.size w w' ∧ VR E v r) : GPure P f args r :=
  ⟨he, fun E w vs hs ha => (h E w vs hs ha).mono fun e w' ⟨v, h1, h2, h3⟩ => ⟨v, E, [], r, h1, (hs.below h2).1, (hs.below h2).2, h3, rfl, rfl⟩⟩
/-- bytes, as an array -/
def bytesG (l : List UInt8) : List GVal := l.map fun c => .int .u8 c.toNat
def bytesV (l : List UInt8) : List Value := l.map fun c => .int .u8 c.toNat
theorem bytesG_len (l : List UInt8) : (bytesG l).length = l.length := by simp [bytesG]
theorem argsR_agg {E : Env} {vs : Array Value} {l : List UInt8} (h : ArgsR E vs [.agg (bytesG l)]) : vs = #[.agg (bytesV l).toArray] := by
  obtain ⟨h1, h2⟩ := h
  have h3 := h2 0 _ rfl
  have e : vs = #[vs.getD 0 undef] := by
    apply Array.ext (by simpa using h1)
    intro i hi hi2
    simp at hi2; subst hi2
    simp [Array.getD, hi]
  rw [e]
  generalize vs.getD 0 undef = v at *
  cases h3 with
  | agg ws cs hs hc =>
    have : ws = (bytesV l).toArray := by
      apply Array.ext (by rw [hs]; simp [bytesG, bytesV])
      intro i hi hi2
      have hi3 : i < l.length := by simpa [bytesV] using hi2
      have := hc i (.int .u8 (l[i]).toNat) (by simp [bytesG, hi3])
      rw [Array.getD_eq_getD_getElem?, Array.getElem?_eq_getElem hi] at this
      simp at this
      generalize hw : ws[i] = x at this
      cases this
      simp [bytesV]
    rw [this]
end Gv
set_option maxRecDepth 100000
set_option linter.defProp false
namespace Gv.Tryd
open Go Gv Go.Proofs
def s3_0 : SCode := (.reg [(.mk (some 6) (.assign (.const (.bool false))) none)])
def s3_1 : SCode := (.reg [(.mk (some 14) (.move (.tmp 1)) none), (.mk (some 15) (.call (.mk (.value (.func 7)) #[(.tmp 14)] #[3])) none), (.mk (some 16) (.call (.mk (.value (.func 6)) #[(.tmp 15)] #[24])) none), (.mk (some 7) (.assign (.tmp 16)) none)])
def s3_2 : SCode := (.reg [(.mk (some 17) (.move (.tmp 2)) none), (.mk (some 18) (.call (.mk (.value (.func 8)) #[(.tmp 17), (.const (.int (.i64) 64))] #[3, 3])) none), (.mk (some 8) (.assign (.tmp 18)) none)])
def s3_3 : SCode := (.drw [((.mk (some 19) (.move (.tmp 7)) none), 0), ((.mk (some 20) (.move (.tmp 8)) none), 0), ((.mk (some 21) (.slice 9 (.tmp 19) none (some (.tmp 20)) none) none), 0), ((.mk (some 22) (.move (.tmp 0)) none), 0), ((.mk (some 23) (.buildSlice 27 1 #[(0, (.tmp 22))]) none), 0), ((.mk (some 24) (.convert 27 9 (.tmp 23)) none), 0), ((.mk (some 25) (.binOp (.add) 9 (.tmp 21) (.tmp 24) 9) none), 0), ((.mk (some 26) (.move (.tmp 7)) none), 0), ((.mk (some 27) (.move (.tmp 8)) none), 0), ((.mk (some 28) (.binOp (.add) 3 (.tmp 27) (.const (.int (.i64) 1)) 3) none), 0), ((.mk (some 29) (.slice 9 (.tmp 26) (some (.tmp 28)) none none) none), 0), ((.mk (some 30) (.binOp (.add) 9 (.tmp 25) (.tmp 29) 9) none), 0), ((.mk (some 9) (.assign (.tmp 30)) none), 0)])
def s3_4 : SCode := (.reg [(.mk (some 32) (.move (.tmp 9)) none), (.mk (some 33) (.call (.mk (.value (.func 9)) #[(.tmp 32)] #[9])) none), (.mk (some 31) (.move (.tmp 33)) none), (.mk (some 34) (.extract (.tmp 31) 0) none), (.mk (some 35) (.extract (.tmp 31) 1) none), (.mk (some 10) (.alloc 24) none), (.mk none (.store 24 (.tmp 10) (.tmp 34)) none), (.mk (some 11) (.assign (.tmp 35)) none)])
def s3_5 : SCode := (.reg [(.mk (some 37) (.move (.tmp 9)) none), (.mk (some 38) (.call (.mk (.value (.func 10)) #[(.tmp 37)] #[9])) none), (.mk (some 36) (.move (.tmp 38)) none), (.mk (some 39) (.extract (.tmp 36) 0) none), (.mk (some 40) (.extract (.tmp 36) 1) none), (.mk (some 12) (.alloc 24) none), (.mk none (.store 24 (.tmp 12) (.tmp 39)) none), (.mk (some 13) (.assign (.tmp 40)) none)])
def s3_6 : SCode := (.reg [(.mk (some 41) (.call (.mk (.value (.func 11)) #[] #[])) none), (.mk (some 42) (.move (.tmp 41)) none), (.mk (some 43) (.move (.tmp 0)) (some (42, true))), (.mk (some 44) (.call (.mk (.value (.func 12)) #[(.tmp 43)] #[5])) (some (42, true))), (.mk (some 45) (.move (.tmp 0)) (some (42, true))), (.mk (some 46) (.call (.mk (.value (.func 13)) #[(.tmp 45)] #[5])) (some (42, true))), (.mk (some 47) (.binOp (.eql) 3 (.tmp 44) (.tmp 46) 3) (some (42, true))), (.mk (some 48) (.pick (.tmp 42) (.tmp 47) (.const (.bool false))) none), (.mk (some 49) (.move (.tmp 48)) none), (.mk (some 50) (.load 24 (.tmp 10)) (some (49, true))), (.mk (some 51) (.load 24 (.tmp 12)) (some (49, true))), (.mk (some 52) (.binOp (.eql) 24 (.tmp 50) (.tmp 51) 24) (some (49, true))), (.mk (some 53) (.pick (.tmp 49) (.tmp 52) (.const (.bool false))) none), (.mk (some 54) (.move (.tmp 53)) none), (.mk (some 55) (.move (.tmp 11)) (some (54, true))), (.mk (some 56) (.call (.mk (.value (.func 14)) #[(.tmp 55)] #[29])) (some (54, true))), (.mk (some 57) (.move (.tmp 13)) (some (54, true))), (.mk (some 58) (.binOp (.eql) 32 (.tmp 56) (.tmp 57) 32) (some (54, true))), (.mk (some 59) (.pick (.tmp 54) (.tmp 58) (.const (.bool false))) none), (.mk (some 60) (.move (.tmp 59)) none), (.mk (some 61) (.move (.tmp 9)) (some (60, true))), (.mk (some 62) (.call (.mk (.value (.func 15)) #[(.tmp 61)] #[9])) (some (60, true))), (.mk (some 63) (.move (.tmp 9)) (some (60, true))), (.mk (some 64) (.call (.mk (.value (.func 16)) #[(.tmp 63)] #[9])) (some (60, true))), (.mk (some 65) (.binOp (.eql) 4 (.tmp 62) (.tmp 64) 4) (some (60, true))), (.mk (some 66) (.pick (.tmp 60) (.tmp 65) (.const (.bool false))) none), (.mk (some 6) (.assign (.tmp 66)) none)])
def s3_7 : SCode := (.seq s3_4 (.seq s3_5 (.seq s3_6 (.ret))))
def s3_8 : SCode := (.seq s3_1 (.seq s3_2 (.seq s3_3 s3_7)))
def s3 : SCode := (.seq s3_0 s3_8)
def e3 := And.intro s3_0.eq_1 <| And.intro s3_1.eq_1 <| And.intro s3_2.eq_1 <| And.intro s3_3.eq_1 <| And.intro s3_4.eq_1 <| And.intro s3_5.eq_1 <| And.intro s3_6.eq_1 <| And.intro s3_7.eq_1 <| s3_8.eq_1
theorem h3 : FnS Tryd.prog 3 ⟨[], [(3, [(0, 0), (1, 0), (2, 0), (3, 0), (4, 0), (5, 0), (6, 0), (7, 0), (8, 0), (9, 0), (10, 0), (11, 0), (12, 0)])]⟩ 67 [(.tmp 6)] s3 := .mk' Tryd.func3 (by kernel_rfl) (by kernel_rfl) (by kernel_rfl) (by kernel_rfl) (by kernel_rfl) (by kernel_rfl)
def s4_0 : SCode := (.reg [(.mk (some 6) (.box 24 (.tmp 0)) none), (.mk (some 7) (.box 24 (.tmp 1)) none), (.mk (some 12) (.assign (.const (.bool false))) none)])
def s4_1 : SCode := (.reg [(.mk (some 17) (.move (.tmp 5)) none)])
def s4_2 : SCode := (.reg [(.mk (some 18) (.move (.tmp 3)) none), (.mk (some 19) (.call (.mk (.value (.func 7)) #[(.tmp 18)] #[3])) none), (.mk (some 20) (.call (.mk (.value (.func 6)) #[(.tmp 19)] #[24])) none), (.mk (some 2) (.assign (.tmp 20)) none)])
def s4_3 : SCode := (.reg [(.mk (some 21) (.move (.tmp 2)) none), (.mk (some 22) (.move (.tmp 4)) none), (.mk (some 23) (.call (.mk (.value (.func 8)) #[(.tmp 22), (.const (.int (.i64) 65))] #[3, 3])) none), (.mk (some 24) (.slice 9 (.tmp 21) none (some (.tmp 23)) none) none), (.mk (some 2) (.assign (.tmp 24)) none)])
def s4_4 : SCode := (.reg [(.mk (some 25) (.move (.tmp 3)) none), (.mk (some 26) (.move (.tmp 4)) none), (.mk (some 27) (.binOp (.rem) 3 (.tmp 26) (.const (.int (.i64) 3)) 3) none), (.mk (some 28) (.binOp (.add) 3 (.tmp 25) (.tmp 27) 3) none), (.mk (some 29) (.call (.mk (.value (.func 7)) #[(.tmp 28)] #[3])) none), (.mk none (.store 24 (.tmp 6) (.tmp 29)) none)])
def s4_5 : SCode := (.reg [(.mk (some 30) (.move (.tmp 3)) none), (.mk (some 31) (.call (.mk (.value (.func 7)) #[(.tmp 30)] #[3])) none), (.mk none (.store 24 (.tmp 7) (.tmp 31)) none)])
def s4_6 : SCode := (.seq s4_2 (.seq s4_3 (.seq s4_4 s4_5)))
def s4_7 : SCode := (.seq s4_1 (.cond (.tmp 17) s4_6 (.skip)))
def s4_8 : SCode := (.reg [(.mk (some 33) (.move (.tmp 2)) none), (.mk (some 34) (.call (.mk (.value (.func 9)) #[(.tmp 33)] #[9])) none), (.mk (some 32) (.move (.tmp 34)) none), (.mk (some 35) (.extract (.tmp 32) 0) none), (.mk (some 36) (.extract (.tmp 32) 1) none), (.mk (some 13) (.alloc 24) none), (.mk none (.store 24 (.tmp 13) (.tmp 35)) none), (.mk (some 14) (.assign (.tmp 36)) none)])
def s4_9 : SCode := (.reg [(.mk (some 38) (.move (.tmp 2)) none), (.mk (some 39) (.call (.mk (.value (.func 10)) #[(.tmp 38)] #[9])) none), (.mk (some 37) (.move (.tmp 39)) none), (.mk (some 40) (.extract (.tmp 37) 0) none), (.mk (some 41) (.extract (.tmp 37) 1) none), (.mk (some 15) (.alloc 24) none), (.mk none (.store 24 (.tmp 15) (.tmp 40)) none), (.mk (some 16) (.assign (.tmp 41)) none)])
def s4_10 : SCode := (.drw [((.mk (some 42) (.call (.mk (.value (.func 11)) #[] #[])) none), 1), ((.mk (some 43) (.move (.tmp 42)) none), 0), ((.mk (some 44) (.load 24 (.tmp 6)) (some (43, true))), 0), ((.mk (some 46) (.load 24 (.tmp 6)) (some (43, true))), 0), ((.mk (some 45) (.call (.mk (.value (.func 17)) #[(.tmp 44)] #[24])) (some (43, true))), 2), ((.mk (some 47) (.call (.mk (.value (.func 6)) #[(.tmp 46)] #[24])) (some (43, true))), 1), ((.mk (some 48) (.binOp (.eql) 9 (.tmp 45) (.tmp 47) 9) (some (43, true))), 0), ((.mk (some 49) (.pick (.tmp 43) (.tmp 48) (.const (.bool false))) none), 0), ((.mk (some 50) (.move (.tmp 49)) none), 0), ((.mk (some 51) (.load 24 (.tmp 13)) (some (50, true))), 0), ((.mk (some 52) (.load 24 (.tmp 15)) (some (50, true))), 0), ((.mk (some 53) (.binOp (.eql) 24 (.tmp 51) (.tmp 52) 24) (some (50, true))), 0), ((.mk (some 54) (.pick (.tmp 50) (.tmp 53) (.const (.bool false))) none), 0), ((.mk (some 55) (.move (.tmp 54)) none), 0), ((.mk (some 56) (.move (.tmp 14)) (some (55, true))), 0), ((.mk (some 58) (.move (.tmp 16)) (some (55, true))), 0), ((.mk (some 57) (.call (.mk (.value (.func 14)) #[(.tmp 56)] #[29])) (some (55, true))), 1), ((.mk (some 59) (.binOp (.eql) 32 (.tmp 57) (.tmp 58) 32) (some (55, true))), 0), ((.mk (some 60) (.pick (.tmp 55) (.tmp 59) (.const (.bool false))) none), 0), ((.mk (some 61) (.move (.tmp 60)) none), 0), ((.mk (some 62) (.move (.tmp 2)) (some (61, true))), 0), ((.mk (some 64) (.move (.tmp 2)) (some (61, true))), 0), ((.mk (some 63) (.call (.mk (.value (.func 15)) #[(.tmp 62)] #[9])) (some (61, true))), 1), ((.mk (some 65) (.call (.mk (.value (.func 16)) #[(.tmp 64)] #[9])) (some (61, true))), 1), ((.mk (some 66) (.binOp (.eql) 4 (.tmp 63) (.tmp 65) 4) (some (61, true))), 0), ((.mk (some 67) (.pick (.tmp 61) (.tmp 66) (.const (.bool false))) none), 0), ((.mk (some 68) (.move (.tmp 67)) none), 0), ((.mk (some 69) (.load 24 (.tmp 6)) (some (68, true))), 0), ((.mk (some 70) (.move (.tmp 2)) (some (68, true))), 0), ((.mk (some 72) (.load 24 (.tmp 6)) (some (68, true))), 0), ((.mk (some 73) (.move (.tmp 2)) (some (68, true))), 0), ((.mk (some 71) (.call (.mk (.value (.func 18)) #[(.tmp 69), (.tmp 70)] #[24, 9])) (some (68, true))), 2), ((.mk (some 74) (.call (.mk (.value (.func 19)) #[(.tmp 72), (.tmp 73)] #[24, 9])) (some (68, true))), 1), ((.mk (some 75) (.binOp (.eql) 4 (.tmp 71) (.tmp 74) 4) (some (68, true))), 0), ((.mk (some 76) (.pick (.tmp 68) (.tmp 75) (.const (.bool false))) none), 0), ((.mk (some 77) (.move (.tmp 76)) none), 0), ((.mk (some 78) (.load 24 (.tmp 6)) (some (77, true))), 0), ((.mk (some 79) (.load 24 (.tmp 7)) (some (77, true))), 0), ((.mk (some 81) (.load 24 (.tmp 6)) (some (77, true))), 0), ((.mk (some 82) (.load 24 (.tmp 7)) (some (77, true))), 0), ((.mk (some 80) (.call (.mk (.value (.func 20)) #[(.tmp 78), (.tmp 79)] #[24, 24])) (some (77, true))), 2), ((.mk (some 83) (.call (.mk (.value (.func 21)) #[(.tmp 81), (.tmp 82)] #[24, 24])) (some (77, true))), 1), ((.mk (some 84) (.binOp (.eql) 4 (.tmp 80) (.tmp 83) 4) (some (77, true))), 0), ((.mk (some 85) (.pick (.tmp 77) (.tmp 84) (.const (.bool false))) none), 0), ((.mk (some 12) (.assign (.tmp 85)) none), 0)])
def s4_11 : SCode := (.seq s4_8 (.seq s4_9 (.seq s4_10 (.ret))))
def s4 : SCode := (.seq s4_0 (.seq s4_7 s4_11))
def e4 := And.intro s4_0.eq_1 <| And.intro s4_1.eq_1 <| And.intro s4_2.eq_1 <| And.intro s4_3.eq_1 <| And.intro s4_4.eq_1 <| And.intro s4_5.eq_1 <| And.intro s4_6.eq_1 <| And.intro s4_7.eq_1 <| And.intro s4_8.eq_1 <| And.intro s4_9.eq_1 <| And.intro s4_10.eq_1 <| s4_11.eq_1
theorem h4 : FnS Tryd.prog 4 ⟨[], [(8, [(0, 1), (1, 0), (2, 0), (4, 0), (3, 2), (5, 1), (6, 0), (7, 0), (8, 0), (9, 0), (10, 0), (11, 0), (12, 0), (13, 0), (14, 0), (16, 0), (15, 1), (17, 0), (18, 0), (19, 0), (20, 0), (22, 0), (21, 1), (23, 1), (24, 0), (25, 0), (26, 0), (27, 0), (28, 0), (30, 0), (31, 0), (29, 2), (32, 1), (33, 0), (34, 0), (35, 0), (36, 0), (37, 0), (39, 0), (40, 0), (38, 2), (41, 1), (42, 0), (43, 0), (44, 0)])]⟩ 86 [(.tmp 12)] s4 := .mk' Tryd.func4 (by kernel_rfl) (by kernel_rfl) (by kernel_rfl) (by kernel_rfl) (by kernel_rfl) (by kernel_rfl)
def s5_0 : SCode := (.reg [(.mk (some 0) (.assign (.const (.bool false))) none)])
def s5_1 : SCode := (.reg [(.mk (some 8) (.build 24 #[(0, (.const (.int (.u8) 171))), (1, (.const (.int (.u8) 1)))]) none), (.mk (some 1) (.alloc 24) none), (.mk none (.store 24 (.tmp 1) (.tmp 8)) none)])
def s5_2 : SCode := (.reg [(.mk (some 9) (.load 24 (.tmp 1)) none), (.mk (some 10) (.call (.mk (.value (.func 17)) #[(.tmp 9)] #[24])) none), (.mk (some 2) (.assign (.tmp 10)) none)])
def s5_3 : SCode := (.reg [(.mk (some 12) (.move (.tmp 2)) none), (.mk (some 13) (.call (.mk (.value (.func 9)) #[(.tmp 12)] #[9])) none), (.mk (some 11) (.move (.tmp 13)) none), (.mk (some 14) (.extract (.tmp 11) 0) none), (.mk (some 15) (.extract (.tmp 11) 1) none), (.mk (some 3) (.alloc 24) none), (.mk none (.store 24 (.tmp 3) (.tmp 14)) none), (.mk (some 4) (.assign (.tmp 15)) none)])
def s5_4 : SCode := (.reg [(.mk (some 17) (.call (.mk (.value (.func 9)) #[(.const (.string (.mk #[97, 98])))] #[9])) none), (.mk (some 16) (.move (.tmp 17)) none), (.mk (some 18) (.extract (.tmp 16) 0) none), (.mk (some 19) (.extract (.tmp 16) 1) none), (.mk (some 5) (.alloc 24) none), (.mk none (.store 24 (.tmp 5) (.tmp 18)) none), (.mk (some 6) (.assign (.tmp 19)) none)])
def s5_5 : SCode := (.reg [(.mk (some 20) (.build 24 #[(0, (.const (.int (.u8) 2)))]) none), (.mk (some 21) (.build 24 #[(0, (.const (.int (.u8) 1)))]) none), (.mk (some 22) (.build 24 #[(0, (.const (.int (.u8) 2)))]) none), (.mk (some 23) (.buildSlice 43 3 #[(0, (.tmp 20)), (1, (.tmp 21)), (2, (.tmp 22))]) none), (.mk (some 24) (.call (.mk (.value (.func 22)) #[(.tmp 23)] #[43])) none), (.mk (some 7) (.assign (.tmp 24)) none)])
def s5_6 : SCode := (.reg [(.mk (some 25) (.call (.mk (.value (.func 11)) #[] #[])) none), (.mk (some 26) (.move (.tmp 25)) none), (.mk (some 27) (.move (.tmp 2)) (some (26, true))), (.mk (some 28) (.call (.mk (.builtin (.len)) #[(.tmp 27)] #[9])) (some (26, true))), (.mk (some 29) (.binOp (.eql) 3 (.tmp 28) (.const (.int (.i64) 64)) 3) (some (26, true))), (.mk (some 30) (.pick (.tmp 26) (.tmp 29) (.const (.bool false))) none), (.mk (some 31) (.move (.tmp 30)) none), (.mk (some 32) (.move (.tmp 2)) (some (31, true))), (.mk (some 33) (.slice 9 (.tmp 32) none (some (.const (.int (.i64) 4))) none) (some (31, true))), (.mk (some 34) (.binOp (.eql) 9 (.tmp 33) (.const (.string (.mk #[97, 98, 48, 49]))) 9) (some (31, true))), (.mk (some 35) (.pick (.tmp 31) (.tmp 34) (.const (.bool false))) none), (.mk (some 36) (.move (.tmp 35)) none), (.mk (some 37) (.move (.tmp 4)) (some (36, true))), (.mk (some 38) (.binOp (.eql) 29 (.tmp 37) (.const (.nilIface)) 29) (some (36, true))), (.mk (some 39) (.pick (.tmp 36) (.tmp 38) (.const (.bool false))) none), (.mk (some 40) (.move (.tmp 39)) none), (.mk (some 41) (.load 24 (.tmp 3)) (some (40, true))), (.mk (some 42) (.load 24 (.tmp 1)) (some (40, true))), (.mk (some 43) (.binOp (.eql) 24 (.tmp 41) (.tmp 42) 24) (some (40, true))), (.mk (some 44) (.pick (.tmp 40) (.tmp 43) (.const (.bool false))) none), (.mk (some 45) (.move (.tmp 44)) none), (.mk (some 46) (.move (.tmp 6)) (some (45, true))), (.mk (some 47) (.call (.mk (.value (.func 14)) #[(.tmp 46)] #[29])) (some (45, true))), (.mk (some 48) (.binOp (.eql) 32 (.tmp 47) (.const (.int (.i64) 2)) 32) (some (45, true))), (.mk (some 49) (.pick (.tmp 45) (.tmp 48) (.const (.bool false))) none), (.mk (some 50) (.move (.tmp 49)) none), (.mk (some 51) (.load 24 (.tmp 1)) (some (50, true))), (.mk (some 52) (.call (.mk (.value (.func 18)) #[(.tmp 51), (.const (.string (.mk #[97, 98, 48])))] #[24, 9])) (some (50, true))), (.mk (some 53) (.pick (.tmp 50) (.tmp 52) (.const (.bool false))) none), (.mk (some 54) (.move (.tmp 53)) none), (.mk (some 55) (.load 24 (.tmp 1)) (some (54, true))), (.mk (some 56) (.call (.mk (.value (.func 18)) #[(.tmp 55), (.const (.string (.mk #[97, 98, 49])))] #[24, 9])) (some (54, true))), (.mk (some 57) (.unOp (.not) 4 (.tmp 56)) (some (54, true))), (.mk (some 58) (.pick (.tmp 54) (.tmp 57) (.const (.bool false))) none), (.mk (some 59) (.move (.tmp 58)) none), (.mk (some 60) (.load 24 (.tmp 1)) (some (59, true))), (.mk (some 61) (.call (.mk (.value (.func 18)) #[(.tmp 60), (.const (.string (.mk #[])))] #[24, 9])) (some (59, true))), (.mk (some 62) (.pick (.tmp 59) (.tmp 61) (.const (.bool false))) none), (.mk (some 63) (.move (.tmp 62)) none), (.mk (some 64) (.build 24 #[(0, (.const (.int (.u8) 1)))]) (some (63, true))), (.mk (some 65) (.load 24 (.tmp 1)) (some (63, true))), (.mk (some 66) (.call (.mk (.value (.func 20)) #[(.tmp 64), (.tmp 65)] #[24, 24])) (some (63, true))), (.mk (some 67) (.pick (.tmp 63) (.tmp 66) (.const (.bool false))) none), (.mk (some 68) (.move (.tmp 67)) none), (.mk (some 69) (.load 24 (.tmp 1)) (some (68, true))), (.mk (some 70) (.load 24 (.tmp 1)) (some (68, true))), (.mk (some 71) (.call (.mk (.value (.func 20)) #[(.tmp 69), (.tmp 70)] #[24, 24])) (some (68, true))), (.mk (some 72) (.unOp (.not) 4 (.tmp 71)) (some (68, true))), (.mk (some 73) (.pick (.tmp 68) (.tmp 72) (.const (.bool false))) none), (.mk (some 74) (.move (.tmp 73)) none), (.mk (some 75) (.move (.tmp 7)) (some (74, true))), (.mk (some 76) (.call (.mk (.builtin (.len)) #[(.tmp 75)] #[43])) (some (74, true))), (.mk (some 77) (.binOp (.eql) 3 (.tmp 76) (.const (.int (.i64) 2)) 3) (some (74, true))), (.mk (some 78) (.pick (.tmp 74) (.tmp 77) (.const (.bool false))) none), (.mk (some 79) (.move (.tmp 78)) none), (.mk (some 80) (.move (.tmp 7)) (some (79, true))), (.mk (some 81) (.indexAddr 43 (.tmp 80) (.const (.int (.i64) 0))) (some (79, true))), (.mk (some 82) (.load 24 (.tmp 81)) (some (79, true))), (.mk (some 83) (.build 24 #[(0, (.const (.int (.u8) 1)))]) (some (79, true))), (.mk (some 84) (.binOp (.eql) 24 (.tmp 82) (.tmp 83) 24) (some (79, true))), (.mk (some 85) (.pick (.tmp 79) (.tmp 84) (.const (.bool false))) none), (.mk (some 86) (.move (.tmp 85)) none), (.mk (some 87) (.call (.mk (.value (.func 12)) #[(.const (.int (.u8) 71))] #[5])) (some (86, true))), (.mk (some 88) (.binOp (.eql) 3 (.tmp 87) (.const (.int (.i64) (-1))) 3) (some (86, true))), (.mk (some 89) (.pick (.tmp 86) (.tmp 88) (.const (.bool false))) none), (.mk (some 0) (.assign (.tmp 89)) none)])
def s5_7 : SCode := (.seq s5_4 (.seq s5_5 (.seq s5_6 (.ret))))
def s5_8 : SCode := (.seq s5_1 (.seq s5_2 (.seq s5_3 s5_7)))
def s5 : SCode := (.seq s5_0 s5_8)
def e5 := And.intro s5_0.eq_1 <| And.intro s5_1.eq_1 <| And.intro s5_2.eq_1 <| And.intro s5_3.eq_1 <| And.intro s5_4.eq_1 <| And.intro s5_5.eq_1 <| And.intro s5_6.eq_1 <| And.intro s5_7.eq_1 <| s5_8.eq_1
theorem h5 : FnS Tryd.prog 5 ⟨[], []⟩ 90 [(.tmp 0)] s5 := .mk' Tryd.func5 (by kernel_rfl) (by kernel_rfl) (by kernel_rfl) (by kernel_rfl) (by kernel_rfl) (by kernel_rfl)
def s6_0 : SCode := (.reg [(.mk (some 1) (.box 24 (.tmp 0)) none), (.mk (some 2) (.assign (.const (.string (.mk #[])))) none)])
def s6_1 : SCode := (.reg [(.mk (some 3) (.assign (.const (.string (.mk #[])))) none)])
def s6_2 : SCode := (.reg [(.mk (some 4) (.assign (.const (.string (.mk #[48, 49, 50, 51, 52, 53, 54, 55, 56, 57, 97, 98, 99, 100, 101, 102])))) none)])
def s6_3 : SCode := (.reg [(.mk (some 5) (.assign (.const (.int (.i64) 0))) none)])
def s6_4 : SCode := (.reg [(.mk (some 6) (.move (.tmp 5)) none), (.mk (some 7) (.binOp (.lss) 3 (.tmp 6) (.const (.int (.i64) 32)) 3) none)])
def s6_5 : SCode := (.seq s6_4 (.cond (.tmp 7) (.skip) (.exit 0)))
def s6_6 : SCode := (.drw [((.mk (some 10) (.move (.tmp 3)) none), 0), ((.mk (some 11) (.move (.tmp 4)) none), 0), ((.mk (some 12) (.move (.tmp 5)) none), 0), ((.mk (some 13) (.indexAddr 24 (.tmp 1) (.tmp 12)) none), 0), ((.mk (some 14) (.load 5 (.tmp 13)) none), 0), ((.mk (some 15) (.binOp (.quo) 5 (.tmp 14) (.const (.int (.u8) 16)) 5) none), 0), ((.mk (some 16) (.move (.tmp 5)) none), 0), ((.mk (some 17) (.indexAddr 24 (.tmp 1) (.tmp 16)) none), 0), ((.mk (some 18) (.load 5 (.tmp 17)) none), 0), ((.mk (some 19) (.binOp (.quo) 5 (.tmp 18) (.const (.int (.u8) 16)) 5) none), 0), ((.mk (some 20) (.binOp (.add) 5 (.tmp 19) (.const (.int (.u8) 1)) 5) none), 0), ((.mk (some 21) (.slice 9 (.tmp 11) (some (.tmp 15)) (some (.tmp 20)) none) none), 0), ((.mk (some 22) (.binOp (.add) 9 (.tmp 10) (.tmp 21) 9) none), 0), ((.mk (some 23) (.move (.tmp 4)) none), 0), ((.mk (some 24) (.move (.tmp 5)) none), 0), ((.mk (some 25) (.indexAddr 24 (.tmp 1) (.tmp 24)) none), 0), ((.mk (some 26) (.load 5 (.tmp 25)) none), 0), ((.mk (some 27) (.binOp (.rem) 5 (.tmp 26) (.const (.int (.u8) 16)) 5) none), 0), ((.mk (some 28) (.move (.tmp 5)) none), 0), ((.mk (some 29) (.indexAddr 24 (.tmp 1) (.tmp 28)) none), 0), ((.mk (some 30) (.load 5 (.tmp 29)) none), 0), ((.mk (some 31) (.binOp (.rem) 5 (.tmp 30) (.const (.int (.u8) 16)) 5) none), 0), ((.mk (some 32) (.binOp (.add) 5 (.tmp 31) (.const (.int (.u8) 1)) 5) none), 0), ((.mk (some 33) (.slice 9 (.tmp 23) (some (.tmp 27)) (some (.tmp 32)) none) none), 0), ((.mk (some 34) (.binOp (.add) 9 (.tmp 22) (.tmp 33) 9) none), 0), ((.mk (some 3) (.assign (.tmp 34)) none), 0)])
def s6_7 : SCode := (.reg [(.mk (some 8) (.move (.tmp 5)) none), (.mk (some 9) (.binOp (.add) 3 (.tmp 8) (.const (.int (.i64) 1)) 3) none), (.mk (some 5) (.assign (.tmp 9)) none)])
def s6_8 : SCode := (.loop (.seq s6_5 (.seq (.block 1 s6_6) s6_7)))
def s6_9 : SCode := (.reg [(.mk (some 35) (.move (.tmp 3)) none), (.mk (some 2) (.assign (.tmp 35)) none)])
def s6_10 : SCode := (.seq (.seq s6_3 (.block 0 s6_8)) (.seq s6_9 (.ret)))
def s6 : SCode := (.seq s6_0 (.seq s6_1 (.seq s6_2 s6_10)))
def e6 := And.intro s6_0.eq_1 <| And.intro s6_1.eq_1 <| And.intro s6_2.eq_1 <| And.intro s6_3.eq_1 <| And.intro s6_4.eq_1 <| And.intro s6_5.eq_1 <| And.intro s6_6.eq_1 <| And.intro s6_7.eq_1 <| And.intro s6_8.eq_1 <| And.intro s6_9.eq_1 <| s6_10.eq_1
theorem h6 : FnS Tryd.prog 6 ⟨[1], [(6, [(0, 0), (1, 0), (2, 0), (3, 0), (4, 0), (5, 0), (6, 0), (7, 0), (8, 0), (9, 0), (10, 0), (11, 0), (12, 0), (13, 0), (14, 0), (15, 0), (16, 0), (17, 0), (18, 0), (19, 0), (20, 0), (21, 0), (22, 0), (23, 0), (24, 0), (25, 0)])]⟩ 36 [(.tmp 2)] s6 := .mk' Tryd.func6 (by kernel_rfl) (by kernel_rfl) (by kernel_rfl) (by kernel_rfl) (by kernel_rfl) (by kernel_rfl)
def s7_0 : SCode := (.reg [(.mk (some 2) (.alloc 24) none)])
def s7_1 : SCode := (.reg [(.mk (some 4) (.move (.tmp 0)) none), (.mk (some 5) (.call (.mk (.value (.func 8)) #[(.tmp 4), (.const (.int (.i64) 60))] #[3, 3])) none), (.mk (some 0) (.assign (.tmp 5)) none)])
def s7_2 : SCode := (.reg [(.mk (some 3) (.alloc 24) none)])
def s7_3 : SCode := (.reg [(.mk (some 6) (.build 45 #[(0, (.const (.int (.u8) 171))), (1, (.const (.int (.u8) 171))), (2, (.const (.int (.u8) 160))), (3, (.const (.int (.u8) 18))), (4, (.const (.int (.u8) 254))), (5, (.const (.int (.u8) 171)))]) none), (.mk (some 7) (.move (.tmp 0)) none), (.mk (some 8) (.binOp (.rem) 3 (.tmp 7) (.const (.int (.i64) 6)) 3) none), (.mk (some 9) (.index 45 (.tmp 6) (.tmp 8)) none), (.mk (some 10) (.indexAddr 24 (.tmp 3) (.const (.int (.i64) 0))) none), (.mk none (.store 5 (.tmp 10) (.tmp 9)) none)])
def s7_4 : SCode := (.reg [(.mk (some 11) (.move (.tmp 0)) none), (.mk (some 12) (.binOp (.quo) 3 (.tmp 11) (.const (.int (.i64) 6)) 3) none), (.mk (some 13) (.binOp (.mul) 3 (.tmp 12) (.const (.int (.i64) 16)) 3) none), (.mk (some 14) (.convert 3 5 (.tmp 13)) none), (.mk (some 15) (.indexAddr 24 (.tmp 3) (.const (.int (.i64) 1))) none), (.mk none (.store 5 (.tmp 15) (.tmp 14)) none)])
def s7_5 : SCode := (.reg [(.mk (some 16) (.move (.tmp 0)) none), (.mk (some 17) (.binOp (.mul) 3 (.tmp 16) (.const (.int (.i64) 7)) 3) none), (.mk (some 18) (.convert 3 5 (.tmp 17)) none), (.mk (some 19) (.indexAddr 24 (.tmp 3) (.const (.int (.i64) 2))) none), (.mk none (.store 5 (.tmp 19) (.tmp 18)) none)])
def s7_6 : SCode := (.reg [(.mk (some 20) (.move (.tmp 0)) none), (.mk (some 21) (.convert 3 5 (.tmp 20)) none), (.mk (some 22) (.indexAddr 24 (.tmp 3) (.const (.int (.i64) 31))) none), (.mk none (.store 5 (.tmp 22) (.tmp 21)) none)])
def s7_7 : SCode := (.reg [(.mk (some 23) (.load 24 (.tmp 3)) none), (.mk none (.store 24 (.tmp 2) (.tmp 23)) none)])
def s7_8 : SCode := (.seq s7_5 (.seq s7_6 (.seq s7_7 (.ret))))
def s7_9 : SCode := (.seq s7_2 (.seq s7_3 (.seq s7_4 s7_8)))
def s7 : SCode := (.seq s7_0 (.seq s7_1 s7_9))
def e7 := And.intro s7_0.eq_1 <| And.intro s7_1.eq_1 <| And.intro s7_2.eq_1 <| And.intro s7_3.eq_1 <| And.intro s7_4.eq_1 <| And.intro s7_5.eq_1 <| And.intro s7_6.eq_1 <| And.intro s7_7.eq_1 <| And.intro s7_8.eq_1 <| s7_9.eq_1
theorem h7 : FnS Tryd.prog 7 ⟨[], []⟩ 24 [(.cell 2 24)] s7 := .mk' Tryd.func7 (by kernel_rfl) (by kernel_rfl) (by kernel_rfl) (by kernel_rfl) (by kernel_rfl) (by kernel_rfl)
def s8_0 : SCode := (.reg [(.mk (some 4) (.assign (.const (.int (.i64) 0))) none)])
def s8_1 : SCode := (.reg [(.mk (some 5) (.move (.tmp 0)) none), (.mk (some 6) (.move (.tmp 1)) none), (.mk (some 7) (.binOp (.rem) 3 (.tmp 5) (.tmp 6) 3) none), (.mk (some 0) (.assign (.tmp 7)) none)])
def s8_2 : SCode := (.reg [(.mk (some 8) (.move (.tmp 0)) none), (.mk (some 9) (.binOp (.lss) 3 (.tmp 8) (.const (.int (.i64) 0)) 3) none)])
def s8_3 : SCode := (.reg [(.mk (some 10) (.move (.tmp 0)) none), (.mk (some 11) (.move (.tmp 1)) none), (.mk (some 12) (.binOp (.add) 3 (.tmp 10) (.tmp 11) 3) none), (.mk (some 0) (.assign (.tmp 12)) none)])
def s8_4 : SCode := (.seq s8_2 (.cond (.tmp 9) s8_3 (.skip)))
def s8_5 : SCode := (.reg [(.mk (some 13) (.move (.tmp 0)) none), (.mk (some 4) (.assign (.tmp 13)) none)])
def s8_6 : SCode := (.seq s8_1 (.seq s8_4 (.seq s8_5 (.ret))))
def s8 : SCode := (.seq s8_0 s8_6)
def e8 := And.intro s8_0.eq_1 <| And.intro s8_1.eq_1 <| And.intro s8_2.eq_1 <| And.intro s8_3.eq_1 <| And.intro s8_4.eq_1 <| And.intro s8_5.eq_1 <| s8_6.eq_1
theorem h8 : FnS Tryd.prog 8 ⟨[], []⟩ 14 [(.tmp 4)] s8 := .mk' Tryd.func8 (by kernel_rfl) (by kernel_rfl) (by kernel_rfl) (by kernel_rfl) (by kernel_rfl) (by kernel_rfl)
def s9_0 : SCode := (.reg [(.mk (some 2) (.alloc 24) none), (.mk (some 3) (.assign (.const (.nilIface))) none)])
def s9_1 : SCode := (.reg [(.mk (some 4) (.alloc 24) none)])
def s9_2 : SCode := (.reg [(.mk (some 6) (.move (.tmp 0)) none), (.mk (some 7) (.call (.mk (.builtin (.len)) #[(.tmp 6)] #[9])) none), (.mk (some 8) (.binOp (.neq) 3 (.tmp 7) (.const (.int (.i64) 64)) 3) none), (.mk (some 9) (.move (.tmp 8)) none), (.mk (some 10) (.move (.tmp 0)) (some (9, false))), (.mk (some 11) (.call (.mk (.value (.func 15)) #[(.tmp 10)] #[9])) (some (9, false))), (.mk (some 12) (.unOp (.not) 4 (.tmp 11)) (some (9, false))), (.mk (some 13) (.pick (.tmp 9) (.const (.bool true)) (.tmp 12)) none)])
def s9_3 : SCode := (.reg [(.mk (some 14) (.load 24 (.tmp 4)) none), (.mk (some 15) (.makeInterface 32 (.const (.int (.i64) 2))) none), (.mk none (.store 24 (.tmp 2) (.tmp 14)) none), (.mk (some 3) (.assign (.tmp 15)) none)])
def s9_4 : SCode := (.cond (.tmp 13) (.seq s9_3 (.ret)) (.skip))
def s9_5 : SCode := (.reg [(.mk (some 16) (.move (.const (.int (.i64) 0))) none)])
def s9_6 : SCode := (.reg [(.mk (some 17) (.binOp (.lss) 3 (.tmp 16) (.const (.int (.i64) 32)) 3) none)])
def s9_7 : SCode := (.reg [(.mk (some 18) (.move (.tmp 16)) none), (.mk (some 5) (.assign (.tmp 18)) none)])
def s9_8 : SCode := (.drw [((.mk (some 19) (.move (.tmp 5)) none), 0), ((.mk (some 20) (.move (.tmp 0)) none), 0), ((.mk (some 21) (.move (.tmp 5)) none), 0), ((.mk (some 22) (.binOp (.mul) 3 (.const (.int (.i64) 2)) (.tmp 21) 3) none), 0), ((.mk (some 23) (.index 9 (.tmp 20) (.tmp 22)) none), 0), ((.mk (some 26) (.move (.tmp 0)) none), 0), ((.mk (some 27) (.move (.tmp 5)) none), 0), ((.mk (some 28) (.binOp (.mul) 3 (.const (.int (.i64) 2)) (.tmp 27) 3) none), 0), ((.mk (some 29) (.binOp (.add) 3 (.tmp 28) (.const (.int (.i64) 1)) 3) none), 0), ((.mk (some 30) (.index 9 (.tmp 26) (.tmp 29)) none), 0), ((.mk (some 24) (.call (.mk (.value (.func 12)) #[(.tmp 23)] #[5])) none), 1), ((.mk (some 25) (.binOp (.shl) 3 (.tmp 24) (.const (.int (.u64) 4)) 46) none), 0), ((.mk (some 31) (.call (.mk (.value (.func 12)) #[(.tmp 30)] #[5])) none), 1), ((.mk (some 32) (.binOp (.or) 3 (.tmp 25) (.tmp 31) 3) none), 0), ((.mk (some 33) (.convert 3 5 (.tmp 32)) none), 0), ((.mk (some 34) (.indexAddr 24 (.tmp 4) (.tmp 19)) none), 0), ((.mk none (.store 5 (.tmp 34) (.tmp 33)) none), 1)])
def s9_9 : SCode := (.reg [(.mk (some 35) (.binOp (.add) 3 (.tmp 16) (.const (.int (.i64) 1)) 3) none), (.mk (some 16) (.move (.tmp 35)) none)])
def s9_10 : SCode := (.seq (.cond (.tmp 17) (.skip) (.exit 0)) (.seq (.block 1 (.seq s9_7 s9_8)) s9_9))
def s9_11 : SCode := (.seq s9_5 (.block 0 (.loop (.seq s9_6 s9_10))))
def s9_12 : SCode := (.reg [(.mk (some 36) (.load 24 (.tmp 4)) none), (.mk none (.store 24 (.tmp 2) (.tmp 36)) none), (.mk (some 3) (.assign (.const (.nilIface))) none)])
def s9_13 : SCode := (.seq (.seq s9_2 s9_4) (.seq s9_11 (.seq s9_12 (.ret))))
def s9 : SCode := (.seq s9_0 (.seq s9_1 s9_13))
def e9 := And.intro s9_0.eq_1 <| And.intro s9_1.eq_1 <| And.intro s9_2.eq_1 <| And.intro s9_3.eq_1 <| And.intro s9_4.eq_1 <| And.intro s9_5.eq_1 <| And.intro s9_6.eq_1 <| And.intro s9_7.eq_1 <| And.intro s9_8.eq_1 <| And.intro s9_9.eq_1 <| And.intro s9_10.eq_1 <| And.intro s9_11.eq_1 <| And.intro s9_12.eq_1 <| s9_13.eq_1
theorem h9 : FnS Tryd.prog 9 ⟨[], [(7, [(0, 0), (1, 0), (2, 0), (3, 0), (4, 0), (7, 0), (8, 0), (9, 0), (10, 0), (11, 0), (5, 1), (6, 0), (12, 1), (13, 0), (14, 0), (15, 0), (16, 1)])]⟩ 37 [(.cell 2 24), (.tmp 3)] s9 := .mk' Tryd.func9 (by kernel_rfl) (by kernel_rfl) (by kernel_rfl) (by kernel_rfl) (by kernel_rfl) (by kernel_rfl)
def s10_0 : SCode := (.reg [(.mk (some 2) (.alloc 24) none), (.mk (some 3) (.assign (.const (.int (.i64) 0))) none)])
def s10_1 : SCode := (.reg [(.mk (some 4) (.alloc 24) none)])
def s10_2 : SCode := (.reg [(.mk (some 6) (.move (.tmp 0)) none), (.mk (some 7) (.call (.mk (.builtin (.len)) #[(.tmp 6)] #[9])) none), (.mk (some 8) (.binOp (.neq) 3 (.tmp 7) (.const (.int (.i64) 64)) 3) none), (.mk (some 9) (.move (.tmp 8)) none), (.mk (some 10) (.move (.tmp 0)) (some (9, false))), (.mk (some 11) (.call (.mk (.value (.func 16)) #[(.tmp 10)] #[9])) (some (9, false))), (.mk (some 12) (.unOp (.not) 4 (.tmp 11)) (some (9, false))), (.mk (some 13) (.pick (.tmp 9) (.const (.bool true)) (.tmp 12)) none)])
def s10_3 : SCode := (.reg [(.mk (some 14) (.load 24 (.tmp 4)) none), (.mk none (.store 24 (.tmp 2) (.tmp 14)) none), (.mk (some 3) (.assign (.const (.int (.i64) 2))) none)])
def s10_4 : SCode := (.cond (.tmp 13) (.seq s10_3 (.ret)) (.skip))
def s10_5 : SCode := (.reg [(.mk (some 5) (.assign (.const (.int (.i64) 0))) none)])
def s10_6 : SCode := (.reg [(.mk (some 15) (.move (.tmp 5)) none), (.mk (some 16) (.binOp (.lss) 3 (.tmp 15) (.const (.int (.i64) 32)) 3) none)])
def s10_7 : SCode := (.seq s10_6 (.cond (.tmp 16) (.skip) (.exit 0)))
def s10_8 : SCode := (.drw [((.mk (some 19) (.move (.tmp 5)) none), 0), ((.mk (some 20) (.move (.tmp 0)) none), 0), ((.mk (some 21) (.move (.tmp 5)) none), 0), ((.mk (some 22) (.binOp (.mul) 3 (.const (.int (.i64) 2)) (.tmp 21) 3) none), 0), ((.mk (some 23) (.index 9 (.tmp 20) (.tmp 22)) none), 0), ((.mk (some 26) (.move (.tmp 0)) none), 0), ((.mk (some 27) (.move (.tmp 5)) none), 0), ((.mk (some 28) (.binOp (.mul) 3 (.const (.int (.i64) 2)) (.tmp 27) 3) none), 0), ((.mk (some 29) (.binOp (.add) 3 (.tmp 28) (.const (.int (.i64) 1)) 3) none), 0), ((.mk (some 30) (.index 9 (.tmp 26) (.tmp 29)) none), 0), ((.mk (some 24) (.call (.mk (.value (.func 13)) #[(.tmp 23)] #[5])) none), 1), ((.mk (some 25) (.binOp (.mul) 3 (.const (.int (.i64) 16)) (.tmp 24) 3) none), 0), ((.mk (some 31) (.call (.mk (.value (.func 13)) #[(.tmp 30)] #[5])) none), 1), ((.mk (some 32) (.binOp (.add) 3 (.tmp 25) (.tmp 31) 3) none), 0), ((.mk (some 33) (.convert 3 5 (.tmp 32)) none), 0), ((.mk (some 34) (.indexAddr 24 (.tmp 4) (.tmp 19)) none), 0), ((.mk none (.store 5 (.tmp 34) (.tmp 33)) none), 1)])
def s10_9 : SCode := (.reg [(.mk (some 17) (.move (.tmp 5)) none), (.mk (some 18) (.binOp (.add) 3 (.tmp 17) (.const (.int (.i64) 1)) 3) none), (.mk (some 5) (.assign (.tmp 18)) none)])
def s10_10 : SCode := (.seq s10_7 (.seq (.block 1 s10_8) s10_9))
def s10_11 : SCode := (.reg [(.mk (some 35) (.load 24 (.tmp 4)) none), (.mk none (.store 24 (.tmp 2) (.tmp 35)) none), (.mk (some 3) (.assign (.const (.int (.i64) 0))) none)])
def s10_12 : SCode := (.seq (.seq s10_5 (.block 0 (.loop s10_10))) (.seq s10_11 (.ret)))
def s10_13 : SCode := (.seq s10_1 (.seq (.seq s10_2 s10_4) s10_12))
def s10 : SCode := (.seq s10_0 s10_13)
def e10 := And.intro s10_0.eq_1 <| And.intro s10_1.eq_1 <| And.intro s10_2.eq_1 <| And.intro s10_3.eq_1 <| And.intro s10_4.eq_1 <| And.intro s10_5.eq_1 <| And.intro s10_6.eq_1 <| And.intro s10_7.eq_1 <| And.intro s10_8.eq_1 <| And.intro s10_9.eq_1 <| And.intro s10_10.eq_1 <| And.intro s10_11.eq_1 <| And.intro s10_12.eq_1 <| s10_13.eq_1
theorem h10 : FnS Tryd.prog 10 ⟨[], [(7, [(0, 0), (1, 0), (2, 0), (3, 0), (4, 0), (7, 0), (8, 0), (9, 0), (10, 0), (11, 0), (5, 1), (6, 0), (12, 1), (13, 0), (14, 0), (15, 0), (16, 1)])]⟩ 36 [(.cell 2 24), (.tmp 3)] s10 := .mk' Tryd.func10 (by kernel_rfl) (by kernel_rfl) (by kernel_rfl) (by kernel_rfl) (by kernel_rfl) (by kernel_rfl)
def s11_0 : SCode := (.reg [(.mk (some 0) (.assign (.const (.bool false))) none)])
def s11_1 : SCode := (.reg [(.mk (some 1) (.call (.mk (.value (.func 15)) #[(.const (.string (.mk #[100, 101, 97, 100])))] #[9])) none), (.mk (some 2) (.move (.tmp 1)) none), (.mk (some 3) (.call (.mk (.value (.func 15)) #[(.const (.string (.mk #[68, 101, 97, 100])))] #[9])) (some (2, true))), (.mk (some 4) (.unOp (.not) 4 (.tmp 3)) (some (2, true))), (.mk (some 5) (.pick (.tmp 2) (.tmp 4) (.const (.bool false))) none), (.mk (some 6) (.move (.tmp 5)) none), (.mk (some 7) (.call (.mk (.value (.func 15)) #[(.const (.string (.mk #[])))] #[9])) (some (6, true))), (.mk (some 8) (.unOp (.not) 4 (.tmp 7)) (some (6, true))), (.mk (some 9) (.pick (.tmp 6) (.tmp 8) (.const (.bool false))) none), (.mk (some 10) (.move (.tmp 9)) none), (.mk (some 11) (.call (.mk (.value (.func 12)) #[(.const (.int (.u8) 97))] #[5])) (some (10, true))), (.mk (some 12) (.binOp (.eql) 3 (.tmp 11) (.const (.int (.i64) 10)) 3) (some (10, true))), (.mk (some 13) (.pick (.tmp 10) (.tmp 12) (.const (.bool false))) none), (.mk (some 0) (.assign (.tmp 13)) none)])
def s11 : SCode := (.seq s11_0 (.seq s11_1 (.ret)))
def e11 := And.intro s11_0.eq_1 <| s11_1.eq_1
theorem h11 : FnS Tryd.prog 11 ⟨[], []⟩ 14 [(.tmp 0)] s11 := .mk' Tryd.func11 (by kernel_rfl) (by kernel_rfl) (by kernel_rfl) (by kernel_rfl) (by kernel_rfl) (by kernel_rfl)
def s12_0 : SCode := (.reg [(.mk (some 2) (.assign (.const (.int (.i64) 0))) none)])
def s12_1 : SCode := (.reg [(.mk (some 4) (.move (.tmp 0)) none), (.mk (some 5) (.binOp (.geq) 5 (.tmp 4) (.const (.int (.u8) 48)) 5) none), (.mk (some 6) (.move (.tmp 5)) none), (.mk (some 7) (.move (.tmp 0)) (some (6, true))), (.mk (some 8) (.binOp (.leq) 5 (.tmp 7) (.const (.int (.u8) 57)) 5) (some (6, true))), (.mk (some 9) (.pick (.tmp 6) (.tmp 8) (.const (.bool false))) none), (.mk (some 3) (.assign (.tmp 9)) none)])
def s12_2 : SCode := (.reg [(.mk (some 10) (.move (.tmp 0)) none), (.mk (some 11) (.binOp (.sub) 5 (.tmp 10) (.const (.int (.u8) 48)) 5) none), (.mk (some 12) (.convert 5 3 (.tmp 11)) none), (.mk (some 2) (.assign (.tmp 12)) none)])
def s12_3 : SCode := (.reg [(.mk (some 14) (.move (.tmp 0)) none), (.mk (some 15) (.binOp (.geq) 5 (.tmp 14) (.const (.int (.u8) 97)) 5) none), (.mk (some 16) (.move (.tmp 15)) none), (.mk (some 17) (.move (.tmp 0)) (some (16, true))), (.mk (some 18) (.binOp (.leq) 5 (.tmp 17) (.const (.int (.u8) 102)) 5) (some (16, true))), (.mk (some 19) (.pick (.tmp 16) (.tmp 18) (.const (.bool false))) none), (.mk (some 13) (.assign (.tmp 19)) none)])
def s12_4 : SCode := (.reg [(.mk (some 20) (.move (.tmp 0)) none), (.mk (some 21) (.binOp (.sub) 5 (.tmp 20) (.const (.int (.u8) 97)) 5) none), (.mk (some 22) (.convert 5 3 (.tmp 21)) none), (.mk (some 23) (.binOp (.add) 3 (.tmp 22) (.const (.int (.i64) 10)) 3) none), (.mk (some 2) (.assign (.tmp 23)) none)])
def s12_5 : SCode := (.cond (.tmp 13) (.seq s12_4 (.ret)) (.skip))
def s12_6 : SCode := (.cond (.tmp 3) (.seq s12_2 (.ret)) (.seq s12_3 s12_5))
def s12_7 : SCode := (.reg [(.mk (some 2) (.assign (.const (.int (.i64) (-1)))) none)])
def s12_8 : SCode := (.seq (.block 0 (.seq s12_1 s12_6)) (.seq s12_7 (.ret)))
def s12 : SCode := (.seq s12_0 s12_8)
def e12 := And.intro s12_0.eq_1 <| And.intro s12_1.eq_1 <| And.intro s12_2.eq_1 <| And.intro s12_3.eq_1 <| And.intro s12_4.eq_1 <| And.intro s12_5.eq_1 <| And.intro s12_6.eq_1 <| And.intro s12_7.eq_1 <| s12_8.eq_1
theorem h12 : FnS Tryd.prog 12 ⟨[], []⟩ 24 [(.tmp 2)] s12 := .mk' Tryd.func12 (by kernel_rfl) (by kernel_rfl) (by kernel_rfl) (by kernel_rfl) (by kernel_rfl) (by kernel_rfl)
def s13_0 : SCode := (.reg [(.mk (some 2) (.assign (.const (.int (.i64) 0))) none)])
def s13_1 : SCode := (.reg [(.mk (some 4) (.move (.tmp 0)) none), (.mk (some 5) (.binOp (.geq) 5 (.tmp 4) (.const (.int (.u8) 48)) 5) none), (.mk (some 6) (.move (.tmp 5)) none), (.mk (some 7) (.move (.tmp 0)) (some (6, true))), (.mk (some 8) (.binOp (.leq) 5 (.tmp 7) (.const (.int (.u8) 57)) 5) (some (6, true))), (.mk (some 9) (.pick (.tmp 6) (.tmp 8) (.const (.bool false))) none), (.mk (some 3) (.assign (.tmp 9)) none)])
def s13_2 : SCode := (.reg [(.mk (some 10) (.move (.tmp 0)) none), (.mk (some 11) (.binOp (.sub) 5 (.tmp 10) (.const (.int (.u8) 48)) 5) none), (.mk (some 12) (.convert 5 3 (.tmp 11)) none), (.mk (some 2) (.assign (.tmp 12)) none)])
def s13_3 : SCode := (.reg [(.mk (some 14) (.move (.tmp 0)) none), (.mk (some 15) (.binOp (.geq) 5 (.tmp 14) (.const (.int (.u8) 97)) 5) none), (.mk (some 16) (.move (.tmp 15)) none), (.mk (some 17) (.move (.tmp 0)) (some (16, true))), (.mk (some 18) (.binOp (.leq) 5 (.tmp 17) (.const (.int (.u8) 102)) 5) (some (16, true))), (.mk (some 19) (.pick (.tmp 16) (.tmp 18) (.const (.bool false))) none), (.mk (some 13) (.assign (.tmp 19)) none)])
def s13_4 : SCode := (.reg [(.mk (some 20) (.move (.tmp 0)) none), (.mk (some 21) (.binOp (.sub) 5 (.tmp 20) (.const (.int (.u8) 97)) 5) none), (.mk (some 22) (.convert 5 3 (.tmp 21)) none), (.mk (some 23) (.binOp (.add) 3 (.tmp 22) (.const (.int (.i64) 10)) 3) none), (.mk (some 2) (.assign (.tmp 23)) none)])
def s13_5 : SCode := (.cond (.tmp 13) (.seq s13_4 (.ret)) (.skip))
def s13_6 : SCode := (.cond (.tmp 3) (.seq s13_2 (.ret)) (.seq s13_3 s13_5))
def s13_7 : SCode := (.reg [(.mk (some 2) (.assign (.const (.int (.i64) (-1)))) none)])
def s13_8 : SCode := (.seq (.block 0 (.seq s13_1 s13_6)) (.seq s13_7 (.ret)))
def s13 : SCode := (.seq s13_0 s13_8)
def e13 := And.intro s13_0.eq_1 <| And.intro s13_1.eq_1 <| And.intro s13_2.eq_1 <| And.intro s13_3.eq_1 <| And.intro s13_4.eq_1 <| And.intro s13_5.eq_1 <| And.intro s13_6.eq_1 <| And.intro s13_7.eq_1 <| s13_8.eq_1
theorem h13 : FnS Tryd.prog 13 ⟨[], []⟩ 24 [(.tmp 2)] s13 := .mk' Tryd.func13 (by kernel_rfl) (by kernel_rfl) (by kernel_rfl) (by kernel_rfl) (by kernel_rfl) (by kernel_rfl)
def s14_0 : SCode := (.reg [(.mk (some 2) (.assign (.const (.int (.i64) 0))) none)])
def s14_1 : SCode := (.reg [(.mk (some 4) (.move (.tmp 0)) none), (.mk (some 5) (.binOp (.eql) 29 (.tmp 4) (.const (.nilIface)) 29) none)])
def s14_2 : SCode := (.reg [(.mk (some 2) (.assign (.const (.int (.i64) 0))) none)])
def s14_3 : SCode := (.cond (.tmp 5) (.seq s14_2 (.ret)) (.skip))
def s14_4 : SCode := (.reg [(.mk (some 3) (.alloc 32) none)])
def s14_5 : SCode := (.reg [(.mk (some 6) (.move (.tmp 0)) none), (.mk (some 7) (.makeInterface 48 (.tmp 3)) none), (.mk (some 8) (.call (.mk (.value (.func 23)) #[(.tmp 6), (.tmp 7)] #[29, 20])) none)])
def s14_6 : SCode := (.reg [(.mk (some 9) (.load 32 (.tmp 3)) none), (.mk (some 2) (.assign (.tmp 9)) none)])
def s14_7 : SCode := (.cond (.tmp 8) (.seq s14_6 (.ret)) (.skip))
def s14_8 : SCode := (.reg [(.mk (some 2) (.assign (.const (.int (.i64) (-1)))) none)])
def s14_9 : SCode := (.seq (.seq s14_5 s14_7) (.seq s14_8 (.ret)))
def s14_10 : SCode := (.seq (.seq s14_1 s14_3) (.seq s14_4 s14_9))
def s14 : SCode := (.seq s14_0 s14_10)
def e14 := And.intro s14_0.eq_1 <| And.intro s14_1.eq_1 <| And.intro s14_2.eq_1 <| And.intro s14_3.eq_1 <| And.intro s14_4.eq_1 <| And.intro s14_5.eq_1 <| And.intro s14_6.eq_1 <| And.intro s14_7.eq_1 <| And.intro s14_8.eq_1 <| And.intro s14_9.eq_1 <| s14_10.eq_1
theorem h14 : FnS Tryd.prog 14 ⟨[], []⟩ 10 [(.tmp 2)] s14 := .mk' Tryd.func14 (by kernel_rfl) (by kernel_rfl) (by kernel_rfl) (by kernel_rfl) (by kernel_rfl) (by kernel_rfl)
def s15_0 : SCode := (.reg [(.mk (some 2) (.assign (.const (.bool false))) none)])
def s15_1 : SCode := (.reg [(.mk (some 5) (.move (.tmp 0)) none), (.mk (some 6) (.convert 9 27 (.tmp 5)) none), (.mk (some 7) (.call (.mk (.builtin (.len)) #[(.tmp 6)] #[27])) none), (.mk (some 8) (.move (.const (.int (.i64) 0))) none)])
def s15_2 : SCode := (.reg [(.mk (some 9) (.binOp (.lss) 3 (.tmp 8) (.tmp 7) 3) none)])
def s15_3 : SCode := (.reg [(.mk (some 10) (.indexAddr 27 (.tmp 6) (.tmp 8)) none), (.mk (some 11) (.load 5 (.tmp 10)) none), (.mk (some 4) (.assign (.tmp 11)) none)])
def s15_4 : SCode := (.reg [(.mk (some 12) (.move (.tmp 4)) none), (.mk (some 13) (.call (.mk (.value (.func 12)) #[(.tmp 12)] #[5])) none), (.mk (some 14) (.binOp (.lss) 3 (.tmp 13) (.const (.int (.i64) 0)) 3) none)])
def s15_5 : SCode := (.reg [(.mk (some 2) (.assign (.const (.bool false))) none)])
def s15_6 : SCode := (.cond (.tmp 14) (.seq s15_5 (.ret)) (.skip))
def s15_7 : SCode := (.block 1 (.seq s15_3 (.seq s15_4 s15_6)))
def s15_8 : SCode := (.reg [(.mk (some 15) (.binOp (.add) 3 (.tmp 8) (.const (.int (.i64) 1)) 3) none), (.mk (some 8) (.move (.tmp 15)) none)])
def s15_9 : SCode := (.seq (.cond (.tmp 9) (.skip) (.exit 0)) (.seq s15_7 s15_8))
def s15_10 : SCode := (.seq s15_1 (.block 0 (.loop (.seq s15_2 s15_9))))
def s15_11 : SCode := (.reg [(.mk (some 16) (.move (.tmp 0)) none), (.mk (some 17) (.binOp (.neq) 9 (.tmp 16) (.const (.string (.mk #[]))) 9) none), (.mk (some 18) (.move (.tmp 17)) none), (.mk (some 19) (.move (.tmp 0)) (some (18, true))), (.mk (some 20) (.call (.mk (.builtin (.len)) #[(.tmp 19)] #[9])) (some (18, true))), (.mk (some 21) (.binOp (.leq) 3 (.tmp 20) (.const (.int (.i64) 64)) 3) (some (18, true))), (.mk (some 22) (.pick (.tmp 18) (.tmp 21) (.const (.bool false))) none), (.mk (some 2) (.assign (.tmp 22)) none)])
def s15 : SCode := (.seq s15_0 (.seq s15_10 (.seq s15_11 (.ret))))
def e15 := And.intro s15_0.eq_1 <| And.intro s15_1.eq_1 <| And.intro s15_2.eq_1 <| And.intro s15_3.eq_1 <| And.intro s15_4.eq_1 <| And.intro s15_5.eq_1 <| And.intro s15_6.eq_1 <| And.intro s15_7.eq_1 <| And.intro s15_8.eq_1 <| And.intro s15_9.eq_1 <| And.intro s15_10.eq_1 <| s15_11.eq_1
theorem h15 : FnS Tryd.prog 15 ⟨[], []⟩ 23 [(.tmp 2)] s15 := .mk' Tryd.func15 (by kernel_rfl) (by kernel_rfl) (by kernel_rfl) (by kernel_rfl) (by kernel_rfl) (by kernel_rfl)
def s16_0 : SCode := (.reg [(.mk (some 2) (.assign (.const (.bool false))) none)])
def s16_1 : SCode := (.reg [(.mk (some 3) (.assign (.const (.int (.i64) 0))) none)])
def s16_2 : SCode := (.reg [(.mk (some 4) (.move (.tmp 3)) none), (.mk (some 5) (.move (.tmp 0)) none), (.mk (some 6) (.call (.mk (.builtin (.len)) #[(.tmp 5)] #[9])) none), (.mk (some 7) (.binOp (.lss) 3 (.tmp 4) (.tmp 6) 3) none)])
def s16_3 : SCode := (.seq s16_2 (.cond (.tmp 7) (.skip) (.exit 0)))
def s16_4 : SCode := (.reg [(.mk (some 10) (.move (.tmp 0)) none), (.mk (some 11) (.move (.tmp 3)) none), (.mk (some 12) (.index 9 (.tmp 10) (.tmp 11)) none), (.mk (some 13) (.call (.mk (.value (.func 13)) #[(.tmp 12)] #[5])) none), (.mk (some 14) (.binOp (.lss) 3 (.tmp 13) (.const (.int (.i64) 0)) 3) none)])
def s16_5 : SCode := (.reg [(.mk (some 2) (.assign (.const (.bool false))) none)])
def s16_6 : SCode := (.cond (.tmp 14) (.seq s16_5 (.ret)) (.skip))
def s16_7 : SCode := (.reg [(.mk (some 8) (.move (.tmp 3)) none), (.mk (some 9) (.binOp (.add) 3 (.tmp 8) (.const (.int (.i64) 1)) 3) none), (.mk (some 3) (.assign (.tmp 9)) none)])
def s16_8 : SCode := (.seq (.block 1 (.seq s16_4 s16_6)) s16_7)
def s16_9 : SCode := (.seq s16_1 (.block 0 (.loop (.seq s16_3 s16_8))))
def s16_10 : SCode := (.reg [(.mk (some 15) (.move (.tmp 0)) none), (.mk (some 16) (.call (.mk (.builtin (.len)) #[(.tmp 15)] #[9])) none), (.mk (some 17) (.binOp (.geq) 3 (.tmp 16) (.const (.int (.i64) 1)) 3) none), (.mk (some 18) (.move (.tmp 17)) none), (.mk (some 19) (.move (.tmp 0)) (some (18, true))), (.mk (some 20) (.call (.mk (.builtin (.len)) #[(.tmp 19)] #[9])) (some (18, true))), (.mk (some 21) (.binOp (.leq) 3 (.tmp 20) (.const (.int (.i64) 64)) 3) (some (18, true))), (.mk (some 22) (.pick (.tmp 18) (.tmp 21) (.const (.bool false))) none), (.mk (some 2) (.assign (.tmp 22)) none)])
def s16 : SCode := (.seq s16_0 (.seq s16_9 (.seq s16_10 (.ret))))
def e16 := And.intro s16_0.eq_1 <| And.intro s16_1.eq_1 <| And.intro s16_2.eq_1 <| And.intro s16_3.eq_1 <| And.intro s16_4.eq_1 <| And.intro s16_5.eq_1 <| And.intro s16_6.eq_1 <| And.intro s16_7.eq_1 <| And.intro s16_8.eq_1 <| And.intro s16_9.eq_1 <| s16_10.eq_1
theorem h16 : FnS Tryd.prog 16 ⟨[], []⟩ 23 [(.tmp 2)] s16 := .mk' Tryd.func16 (by kernel_rfl) (by kernel_rfl) (by kernel_rfl) (by kernel_rfl) (by kernel_rfl) (by kernel_rfl)
def s17_0 : SCode := (.reg [(.mk (some 1) (.box 24 (.tmp 0)) none), (.mk (some 2) (.assign (.const (.string (.mk #[])))) none)])
def s17_1 : SCode := (.reg [(.mk (some 3) (.alloc 51) none)])
def s17_2 : SCode := (.reg [(.mk (some 6) (.load 24 (.tmp 1)) none), (.mk (some 7) (.move (.const (.int (.i64) 0))) none)])
def s17_3 : SCode := (.reg [(.mk (some 8) (.binOp (.lss) 3 (.tmp 7) (.const (.int (.i64) 32)) 3) none)])
def s17_4 : SCode := (.reg [(.mk (some 9) (.index 24 (.tmp 6) (.tmp 7)) none), (.mk (some 5) (.assign (.tmp 9)) none)])
def s17_5 : SCode := (.reg [(.mk (some 10) (.move (.tmp 5)) none), (.mk (some 11) (.binOp (.shr) 5 (.tmp 10) (.const (.int (.u64) 4)) 46) none), (.mk (some 12) (.index 9 (.const (.string (.mk #[48, 49, 50, 51, 52, 53, 54, 55, 56, 57, 97, 98, 99, 100, 101, 102]))) (.tmp 11)) none), (.mk (some 13) (.call (.mk (.value (.func 24)) #[(.tmp 3), (.tmp 12)] #[51, 5])) none)])
def s17_6 : SCode := (.reg [(.mk (some 14) (.move (.tmp 5)) none), (.mk (some 15) (.binOp (.and) 5 (.tmp 14) (.const (.int (.u8) 15)) 5) none), (.mk (some 16) (.index 9 (.const (.string (.mk #[48, 49, 50, 51, 52, 53, 54, 55, 56, 57, 97, 98, 99, 100, 101, 102]))) (.tmp 15)) none), (.mk (some 17) (.call (.mk (.value (.func 24)) #[(.tmp 3), (.tmp 16)] #[51, 5])) none)])
def s17_7 : SCode := (.block 1 (.seq s17_4 (.seq s17_5 s17_6)))
def s17_8 : SCode := (.reg [(.mk (some 18) (.binOp (.add) 3 (.tmp 7) (.const (.int (.i64) 1)) 3) none), (.mk (some 7) (.move (.tmp 18)) none)])
def s17_9 : SCode := (.seq (.cond (.tmp 8) (.skip) (.exit 0)) (.seq s17_7 s17_8))
def s17_10 : SCode := (.seq s17_2 (.block 0 (.loop (.seq s17_3 s17_9))))
def s17_11 : SCode := (.reg [(.mk (some 19) (.call (.mk (.value (.func 25)) #[(.tmp 3)] #[51])) none), (.mk (some 2) (.assign (.tmp 19)) none)])
def s17_12 : SCode := (.seq s17_1 (.seq s17_10 (.seq s17_11 (.ret))))
def s17 : SCode := (.seq s17_0 s17_12)
def e17 := And.intro s17_0.eq_1 <| And.intro s17_1.eq_1 <| And.intro s17_2.eq_1 <| And.intro s17_3.eq_1 <| And.intro s17_4.eq_1 <| And.intro s17_5.eq_1 <| And.intro s17_6.eq_1 <| And.intro s17_7.eq_1 <| And.intro s17_8.eq_1 <| And.intro s17_9.eq_1 <| And.intro s17_10.eq_1 <| And.intro s17_11.eq_1 <| s17_12.eq_1
theorem h17 : FnS Tryd.prog 17 ⟨[1], []⟩ 20 [(.tmp 2)] s17 := .mk' Tryd.func17 (by kernel_rfl) (by kernel_rfl) (by kernel_rfl) (by kernel_rfl) (by kernel_rfl) (by kernel_rfl)
def s18_0 : SCode := (.reg [(.mk (some 2) (.box 24 (.tmp 0)) none), (.mk (some 4) (.assign (.const (.bool false))) none)])
def s18_1 : SCode := (.reg [(.mk (some 5) (.load 24 (.tmp 2)) none), (.mk (some 6) (.call (.mk (.value (.func 17)) #[(.tmp 5)] #[24])) none), (.mk (some 7) (.move (.tmp 1)) none), (.mk (some 8) (.call (.mk (.value (.func 26)) #[(.tmp 6), (.tmp 7)] #[9, 9])) none), (.mk (some 4) (.assign (.tmp 8)) none)])
def s18 : SCode := (.seq s18_0 (.seq s18_1 (.ret)))
def e18 := And.intro s18_0.eq_1 <| s18_1.eq_1
theorem h18 : FnS Tryd.prog 18 ⟨[2], []⟩ 9 [(.tmp 4)] s18 := .mk' Tryd.func18 (by kernel_rfl) (by kernel_rfl) (by kernel_rfl) (by kernel_rfl) (by kernel_rfl) (by kernel_rfl)
def s19_0 : SCode := (.reg [(.mk (some 2) (.box 24 (.tmp 0)) none), (.mk (some 4) (.assign (.const (.bool false))) none)])
def s19_1 : SCode := (.reg [(.mk (some 6) (.load 24 (.tmp 2)) none), (.mk (some 7) (.call (.mk (.value (.func 6)) #[(.tmp 6)] #[24])) none), (.mk (some 5) (.assign (.tmp 7)) none)])
def s19_2 : SCode := (.reg [(.mk (some 8) (.move (.tmp 1)) none), (.mk (some 9) (.call (.mk (.builtin (.len)) #[(.tmp 8)] #[9])) none), (.mk (some 10) (.binOp (.leq) 3 (.tmp 9) (.const (.int (.i64) 64)) 3) none), (.mk (some 11) (.move (.tmp 10)) none), (.mk (some 12) (.move (.tmp 5)) (some (11, true))), (.mk (some 13) (.move (.tmp 1)) (some (11, true))), (.mk (some 14) (.call (.mk (.builtin (.len)) #[(.tmp 13)] #[9])) (some (11, true))), (.mk (some 15) (.slice 9 (.tmp 12) none (some (.tmp 14)) none) (some (11, true))), (.mk (some 16) (.move (.tmp 1)) (some (11, true))), (.mk (some 17) (.binOp (.eql) 9 (.tmp 15) (.tmp 16) 9) (some (11, true))), (.mk (some 18) (.pick (.tmp 11) (.tmp 17) (.const (.bool false))) none), (.mk (some 4) (.assign (.tmp 18)) none)])
def s19 : SCode := (.seq s19_0 (.seq s19_1 (.seq s19_2 (.ret))))
def e19 := And.intro s19_0.eq_1 <| And.intro s19_1.eq_1 <| s19_2.eq_1
theorem h19 : FnS Tryd.prog 19 ⟨[2], []⟩ 19 [(.tmp 4)] s19 := .mk' Tryd.func19 (by kernel_rfl) (by kernel_rfl) (by kernel_rfl) (by kernel_rfl) (by kernel_rfl) (by kernel_rfl)
def s20_0 : SCode := (.reg [(.mk (some 2) (.box 24 (.tmp 0)) none), (.mk (some 3) (.box 24 (.tmp 1)) none), (.mk (some 4) (.assign (.const (.bool false))) none)])
def s20_1 : SCode := (.drw [((.mk (some 5) (.slice 24 (.tmp 2) none none none) none), 0), ((.mk (some 6) (.slice 24 (.tmp 3) none none none) none), 0), ((.mk (some 7) (.call (.mk (.value (.func 27)) #[(.tmp 5), (.tmp 6)] #[27, 27])) none), 1), ((.mk (some 8) (.binOp (.lss) 3 (.tmp 7) (.const (.int (.i64) 0)) 3) none), 0), ((.mk (some 4) (.assign (.tmp 8)) none), 0)])
def s20 : SCode := (.seq s20_0 (.seq s20_1 (.ret)))
def e20 := And.intro s20_0.eq_1 <| s20_1.eq_1
theorem h20 : FnS Tryd.prog 20 ⟨[2, 3], [(1, [(0, 0), (1, 0), (2, 1), (3, 0), (4, 0)])]⟩ 9 [(.tmp 4)] s20 := .mk' Tryd.func20 (by kernel_rfl) (by kernel_rfl) (by kernel_rfl) (by kernel_rfl) (by kernel_rfl) (by kernel_rfl)
def s21_0 : SCode := (.reg [(.mk (some 2) (.box 24 (.tmp 0)) none), (.mk (some 3) (.box 24 (.tmp 1)) none), (.mk (some 4) (.assign (.const (.bool false))) none)])
def s21_1 : SCode := (.reg [(.mk (some 5) (.assign (.const (.int (.i64) 0))) none)])
def s21_2 : SCode := (.reg [(.mk (some 6) (.move (.tmp 5)) none), (.mk (some 7) (.binOp (.lss) 3 (.tmp 6) (.const (.int (.i64) 32)) 3) none)])
def s21_3 : SCode := (.seq s21_2 (.cond (.tmp 7) (.skip) (.exit 0)))
def s21_4 : SCode := (.drw [((.mk (some 10) (.move (.tmp 5)) none), 0), ((.mk (some 11) (.indexAddr 24 (.tmp 2) (.tmp 10)) none), 0), ((.mk (some 12) (.load 5 (.tmp 11)) none), 0), ((.mk (some 13) (.move (.tmp 5)) none), 0), ((.mk (some 14) (.indexAddr 24 (.tmp 3) (.tmp 13)) none), 0), ((.mk (some 15) (.load 5 (.tmp 14)) none), 0), ((.mk (some 16) (.binOp (.neq) 5 (.tmp 12) (.tmp 15) 5) none), 0)])
def s21_5 : SCode := (.drw [((.mk (some 17) (.move (.tmp 5)) none), 0), ((.mk (some 18) (.indexAddr 24 (.tmp 2) (.tmp 17)) none), 0), ((.mk (some 19) (.load 5 (.tmp 18)) none), 0), ((.mk (some 20) (.move (.tmp 5)) none), 0), ((.mk (some 21) (.indexAddr 24 (.tmp 3) (.tmp 20)) none), 0), ((.mk (some 22) (.load 5 (.tmp 21)) none), 0), ((.mk (some 23) (.binOp (.lss) 5 (.tmp 19) (.tmp 22) 5) none), 0), ((.mk (some 4) (.assign (.tmp 23)) none), 0)])
def s21_6 : SCode := (.cond (.tmp 16) (.seq s21_5 (.ret)) (.skip))
def s21_7 : SCode := (.reg [(.mk (some 8) (.move (.tmp 5)) none), (.mk (some 9) (.binOp (.add) 3 (.tmp 8) (.const (.int (.i64) 1)) 3) none), (.mk (some 5) (.assign (.tmp 9)) none)])
def s21_8 : SCode := (.seq (.block 1 (.seq s21_4 s21_6)) s21_7)
def s21_9 : SCode := (.seq s21_1 (.block 0 (.loop (.seq s21_3 s21_8))))
def s21_10 : SCode := (.reg [(.mk (some 4) (.assign (.const (.bool false))) none)])
def s21 : SCode := (.seq s21_0 (.seq s21_9 (.seq s21_10 (.ret))))
def e21 := And.intro s21_0.eq_1 <| And.intro s21_1.eq_1 <| And.intro s21_2.eq_1 <| And.intro s21_3.eq_1 <| And.intro s21_4.eq_1 <| And.intro s21_5.eq_1 <| And.intro s21_6.eq_1 <| And.intro s21_7.eq_1 <| And.intro s21_8.eq_1 <| And.intro s21_9.eq_1 <| s21_10.eq_1
theorem h21 : FnS Tryd.prog 21 ⟨[2, 3], [(4, [(0, 0), (1, 0), (2, 0), (3, 0), (4, 0), (5, 0), (6, 0)]), (5, [(0, 0), (1, 0), (2, 0), (3, 0), (4, 0), (5, 0), (6, 0), (7, 0)])]⟩ 24 [(.tmp 4)] s21 := .mk' Tryd.func21 (by kernel_rfl) (by kernel_rfl) (by kernel_rfl) (by kernel_rfl) (by kernel_rfl) (by kernel_rfl)
def s22_0 : SCode := (.reg [(.mk (some 2) (.assign (.const (.slice none 0 0))) none)])
def s22_1 : SCode := (.reg [(.mk (some 4) (.move (.tmp 0)) none), (.mk (some 5) (.call (.mk (.value (.func 28)) #[(.tmp 4)] #[43])) none), (.mk (some 3) (.assign (.tmp 5)) none)])
def s22_2 : SCode := (.reg [(.mk (some 6) (.move (.tmp 3)) none), (.mk (some 7) (.call (.mk (.value (.func 29)) #[(.tmp 6), (.func 30)] #[43, 57])) none)])
def s22_3 : SCode := (.reg [(.mk (some 8) (.move (.tmp 3)) none), (.mk (some 9) (.call (.mk (.value (.func 31)) #[(.tmp 8)] #[43])) none), (.mk (some 2) (.assign (.tmp 9)) none)])
def s22_4 : SCode := (.seq s22_1 (.seq s22_2 (.seq s22_3 (.ret))))
def s22 : SCode := (.seq s22_0 s22_4)
def e22 := And.intro s22_0.eq_1 <| And.intro s22_1.eq_1 <| And.intro s22_2.eq_1 <| And.intro s22_3.eq_1 <| s22_4.eq_1
theorem h22 : FnS Tryd.prog 22 ⟨[], []⟩ 10 [(.tmp 2)] s22 := .mk' Tryd.func22 (by kernel_rfl) (by kernel_rfl) (by kernel_rfl) (by kernel_rfl) (by kernel_rfl) (by kernel_rfl)
def s26_0 : SCode := (.reg [(.mk (some 4) (.assign (.const (.bool false))) none)])
def s26_1 : SCode := (.reg [(.mk (some 5) (.move (.tmp 0)) none), (.mk (some 6) (.move (.tmp 1)) none), (.mk (some 7) (.call (.mk (.value (.func 37)) #[(.tmp 5), (.tmp 6)] #[9, 9])) none), (.mk (some 4) (.assign (.tmp 7)) none)])
def s26 : SCode := (.seq s26_0 (.seq s26_1 (.ret)))
def e26 := And.intro s26_0.eq_1 <| s26_1.eq_1
theorem h26 : FnS Tryd.prog 26 ⟨[], []⟩ 8 [(.tmp 4)] s26 := .mk' Tryd.func26 (by kernel_rfl) (by kernel_rfl) (by kernel_rfl) (by kernel_rfl) (by kernel_rfl) (by kernel_rfl)
def s37_0 : SCode := (.reg [(.mk (some 4) (.assign (.const (.bool false))) none)])
def s37_1 : SCode := (.reg [(.mk (some 5) (.move (.tmp 0)) none), (.mk (some 6) (.call (.mk (.builtin (.len)) #[(.tmp 5)] #[9])) none), (.mk (some 7) (.move (.tmp 1)) none), (.mk (some 8) (.call (.mk (.builtin (.len)) #[(.tmp 7)] #[9])) none), (.mk (some 9) (.binOp (.geq) 3 (.tmp 6) (.tmp 8) 3) none), (.mk (some 10) (.move (.tmp 9)) none), (.mk (some 11) (.move (.tmp 0)) (some (10, true))), (.mk (some 12) (.move (.tmp 1)) (some (10, true))), (.mk (some 13) (.call (.mk (.builtin (.len)) #[(.tmp 12)] #[9])) (some (10, true))), (.mk (some 14) (.slice 9 (.tmp 11) none (some (.tmp 13)) none) (some (10, true))), (.mk (some 15) (.move (.tmp 1)) (some (10, true))), (.mk (some 16) (.binOp (.eql) 9 (.tmp 14) (.tmp 15) 9) (some (10, true))), (.mk (some 17) (.pick (.tmp 10) (.tmp 16) (.const (.bool false))) none), (.mk (some 4) (.assign (.tmp 17)) none)])
def s37 : SCode := (.seq s37_0 (.seq s37_1 (.ret)))
def e37 := And.intro s37_0.eq_1 <| s37_1.eq_1
theorem h37 : FnS Tryd.prog 37 ⟨[], []⟩ 18 [(.tmp 4)] s37 := .mk' Tryd.func37 (by kernel_rfl) (by kernel_rfl) (by kernel_rfl) (by kernel_rfl) (by kernel_rfl) (by kernel_rfl)
def s28_0 : SCode := (.reg [(.mk (some 2) (.assign (.const (.slice none 0 0))) none)])
def s28_1 : SCode := (.reg [(.mk (some 3) (.move (.tmp 0)) none), (.mk (some 4) (.binOp (.eql) 43 (.tmp 3) (.const (.slice none 0 0)) 43) none)])
def s28_2 : SCode := (.reg [(.mk (some 2) (.assign (.const (.slice none 0 0))) none)])
def s28_3 : SCode := (.cond (.tmp 4) (.seq s28_2 (.ret)) (.skip))
def s28_4 : SCode := (.reg [(.mk (some 5) (.buildSlice 43 0 #[]) none), (.mk (some 6) (.move (.tmp 0)) none), (.mk (some 7) (.call (.mk (.builtin (.append)) #[(.tmp 5), (.tmp 6)] #[43, 43])) none), (.mk (some 2) (.assign (.tmp 7)) none)])
def s28_5 : SCode := (.seq (.seq s28_1 s28_3) (.seq s28_4 (.ret)))
def s28 : SCode := (.seq s28_0 s28_5)
def e28 := And.intro s28_0.eq_1 <| And.intro s28_1.eq_1 <| And.intro s28_2.eq_1 <| And.intro s28_3.eq_1 <| And.intro s28_4.eq_1 <| s28_5.eq_1
theorem h28 : FnS Tryd.prog 28 ⟨[7], []⟩ 8 [(.tmp 2)] s28 := .mk' Tryd.func28 (by kernel_rfl) (by kernel_rfl) (by kernel_rfl) (by kernel_rfl) (by kernel_rfl) (by kernel_rfl)
def s31_0 : SCode := (.reg [(.mk (some 2) (.assign (.const (.slice none 0 0))) none)])
def s31_1 : SCode := (.reg [(.mk (some 6) (.move (.tmp 0)) none), (.mk (some 7) (.call (.mk (.builtin (.len)) #[(.tmp 6)] #[43])) none), (.mk (some 8) (.binOp (.lss) 3 (.tmp 7) (.const (.int (.i64) 2)) 3) none)])
def s31_2 : SCode := (.reg [(.mk (some 9) (.move (.tmp 0)) none), (.mk (some 2) (.assign (.tmp 9)) none)])
def s31_3 : SCode := (.cond (.tmp 8) (.seq s31_2 (.ret)) (.skip))
def s31_4 : SCode := (.reg [(.mk (some 3) (.assign (.const (.int (.i64) 1))) none)])
def s31_5 : SCode := (.reg [(.mk (some 10) (.move (.tmp 3)) none), (.mk (some 11) (.move (.tmp 0)) none), (.mk (some 12) (.call (.mk (.builtin (.len)) #[(.tmp 11)] #[43])) none), (.mk (some 13) (.binOp (.lss) 3 (.tmp 10) (.tmp 12) 3) none)])
def s31_6 : SCode := (.seq s31_5 (.cond (.tmp 13) (.skip) (.exit 0)))
def s31_7 : SCode := (.drw [((.mk (some 16) (.move (.tmp 0)) none), 0), ((.mk (some 17) (.move (.tmp 3)) none), 0), ((.mk (some 18) (.indexAddr 43 (.tmp 16) (.tmp 17)) none), 0), ((.mk (some 19) (.load 24 (.tmp 18)) none), 0), ((.mk (some 20) (.move (.tmp 0)) none), 0), ((.mk (some 21) (.move (.tmp 3)) none), 0), ((.mk (some 22) (.binOp (.sub) 3 (.tmp 21) (.const (.int (.i64) 1)) 3) none), 0), ((.mk (some 23) (.indexAddr 43 (.tmp 20) (.tmp 22)) none), 0), ((.mk (some 24) (.load 24 (.tmp 23)) none), 0), ((.mk (some 25) (.binOp (.eql) 24 (.tmp 19) (.tmp 24) 24) none), 0)])
def s31_8 : SCode := (.reg [(.mk (some 26) (.move (.tmp 0)) none), (.mk (some 27) (.move (.tmp 3)) none), (.mk (some 28) (.slice 43 (.tmp 26) (some (.tmp 27)) none none) none), (.mk (some 4) (.assign (.tmp 28)) none)])
def s31_9 : SCode := (.reg [(.mk (some 5) (.assign (.const (.int (.i64) 1))) none)])
def s31_10 : SCode := (.reg [(.mk (some 29) (.move (.tmp 5)) none), (.mk (some 30) (.move (.tmp 4)) none), (.mk (some 31) (.call (.mk (.builtin (.len)) #[(.tmp 30)] #[43])) none), (.mk (some 32) (.binOp (.lss) 3 (.tmp 29) (.tmp 31) 3) none)])
def s31_11 : SCode := (.seq s31_10 (.cond (.tmp 32) (.skip) (.exit 2)))
def s31_12 : SCode := (.drw [((.mk (some 35) (.move (.tmp 4)) none), 0), ((.mk (some 36) (.move (.tmp 5)) none), 0), ((.mk (some 37) (.indexAddr 43 (.tmp 35) (.tmp 36)) none), 0), ((.mk (some 38) (.load 24 (.tmp 37)) none), 0), ((.mk (some 39) (.move (.tmp 4)) none), 0), ((.mk (some 40) (.move (.tmp 5)) none), 0), ((.mk (some 41) (.binOp (.sub) 3 (.tmp 40) (.const (.int (.i64) 1)) 3) none), 0), ((.mk (some 42) (.indexAddr 43 (.tmp 39) (.tmp 41)) none), 0), ((.mk (some 43) (.load 24 (.tmp 42)) none), 0), ((.mk (some 44) (.binOp (.neq) 24 (.tmp 38) (.tmp 43) 24) none), 0)])
def s31_13 : SCode := (.reg [(.mk (some 45) (.move (.tmp 0)) none), (.mk (some 46) (.move (.tmp 3)) none), (.mk (some 47) (.move (.tmp 4)) none), (.mk (some 48) (.move (.tmp 5)) none), (.mk (some 49) (.indexAddr 43 (.tmp 47) (.tmp 48)) none), (.mk (some 50) (.load 24 (.tmp 49)) none), (.mk (some 51) (.indexAddr 43 (.tmp 45) (.tmp 46)) none), (.mk none (.store 24 (.tmp 51) (.tmp 50)) none)])
def s31_14 : SCode := (.reg [(.mk (some 52) (.move (.tmp 3)) none), (.mk (some 53) (.binOp (.add) 3 (.tmp 52) (.const (.int (.i64) 1)) 3) none), (.mk (some 3) (.assign (.tmp 53)) none)])
def s31_15 : SCode := (.cond (.tmp 44) (.seq s31_13 s31_14) (.skip))
def s31_16 : SCode := (.reg [(.mk (some 33) (.move (.tmp 5)) none), (.mk (some 34) (.binOp (.add) 3 (.tmp 33) (.const (.int (.i64) 1)) 3) none), (.mk (some 5) (.assign (.tmp 34)) none)])
def s31_17 : SCode := (.seq (.block 3 (.seq s31_12 s31_15)) s31_16)
def s31_18 : SCode := (.seq s31_9 (.block 2 (.loop (.seq s31_11 s31_17))))
def s31_19 : SCode := (.reg [(.mk (some 54) (.move (.tmp 0)) none), (.mk (some 55) (.move (.tmp 3)) none), (.mk (some 56) (.slice 43 (.tmp 54) (some (.tmp 55)) none none) none), (.mk none (.call (.mk (.builtin (.clear)) #[(.tmp 56)] #[43])) none)])
def s31_20 : SCode := (.reg [(.mk (some 57) (.move (.tmp 0)) none), (.mk (some 58) (.move (.tmp 3)) none), (.mk (some 59) (.slice 43 (.tmp 57) none (some (.tmp 58)) none) none), (.mk (some 2) (.assign (.tmp 59)) none)])
def s31_21 : SCode := (.seq s31_18 (.seq s31_19 (.seq s31_20 (.ret))))
def s31_22 : SCode := (.cond (.tmp 25) (.seq s31_8 s31_21) (.skip))
def s31_23 : SCode := (.reg [(.mk (some 14) (.move (.tmp 3)) none), (.mk (some 15) (.binOp (.add) 3 (.tmp 14) (.const (.int (.i64) 1)) 3) none), (.mk (some 3) (.assign (.tmp 15)) none)])
def s31_24 : SCode := (.seq (.block 1 (.seq s31_7 s31_22)) s31_23)
def s31_25 : SCode := (.seq s31_4 (.block 0 (.loop (.seq s31_6 s31_24))))
def s31_26 : SCode := (.reg [(.mk (some 60) (.move (.tmp 0)) none), (.mk (some 2) (.assign (.tmp 60)) none)])
def s31_27 : SCode := (.seq (.seq s31_1 s31_3) (.seq s31_25 (.seq s31_26 (.ret))))
def s31 : SCode := (.seq s31_0 s31_27)
def e31 := And.intro s31_0.eq_1 <| And.intro s31_1.eq_1 <| And.intro s31_2.eq_1 <| And.intro s31_3.eq_1 <| And.intro s31_4.eq_1 <| And.intro s31_5.eq_1 <| And.intro s31_6.eq_1 <| And.intro s31_7.eq_1 <| And.intro s31_8.eq_1 <| And.intro s31_9.eq_1 <| And.intro s31_10.eq_1 <| And.intro s31_11.eq_1 <| And.intro s31_12.eq_1 <| And.intro s31_13.eq_1 <| And.intro s31_14.eq_1 <| And.intro s31_15.eq_1 <| And.intro s31_16.eq_1 <| And.intro s31_17.eq_1 <| And.intro s31_18.eq_1 <| And.intro s31_19.eq_1 <| And.intro s31_20.eq_1 <| And.intro s31_21.eq_1 <| And.intro s31_22.eq_1 <| And.intro s31_23.eq_1 <| And.intro s31_24.eq_1 <| And.intro s31_25.eq_1 <| And.intro s31_26.eq_1 <| s31_27.eq_1
theorem h31 : FnS Tryd.prog 31 ⟨[], [(6, [(0, 0), (1, 0), (2, 0), (3, 0), (4, 0), (5, 0), (6, 0), (7, 0), (8, 0), (9, 0)]), (11, [(0, 0), (1, 0), (2, 0), (3, 0), (4, 0), (5, 0), (6, 0), (7, 0), (8, 0), (9, 0)])]⟩ 61 [(.tmp 2)] s31 := .mk' Tryd.func31 (by kernel_rfl) (by kernel_rfl) (by kernel_rfl) (by kernel_rfl) (by kernel_rfl) (by kernel_rfl)
end Gv.Tryd
set_option maxRecDepth 100000
namespace Gv.Tryd
open Go Gv Go.Proofs
theorem aggT24 : aggT Tryd.prog 24 = (some [(.int), (.int), (.int), (.int), (.int), (.int), (.int), (.int), (.int), (.int), (.int), (.int), (.int), (.int), (.int), (.int), (.int), (.int), (.int), (.int), (.int), (.int), (.int), (.int), (.int), (.int), (.int), (.int), (.int), (.int), (.int), (.int)]) := by kernel_rfl
theorem arr24 : arr Tryd.prog 24 = (some (32, (1, false))) := by kernel_rfl
theorem arr45 : arr Tryd.prog 45 = (some (6, (1, false))) := by kernel_rfl
theorem els27 : els Tryd.prog 27 = (some (1, false)) := by kernel_rfl
theorem els43 : els Tryd.prog 43 = (some (32, true)) := by kernel_rfl
theorem elt27 : elt Tryd.prog 27 = (some (1, (1, [(.int (.u8) 0)]))) := by kernel_rfl
theorem elt43 : elt Tryd.prog 43 = (some (32, (32, [(.int (.u8) 0), (.int (.u8) 0), (.int (.u8) 0), (.int (.u8) 0), (.int (.u8) 0), (.int (.u8) 0), (.int (.u8) 0), (.int (.u8) 0), (.int (.u8) 0), (.int (.u8) 0), (.int (.u8) 0), (.int (.u8) 0), (.int (.u8) 0), (.int (.u8) 0), (.int (.u8) 0), (.int (.u8) 0), (.int (.u8) 0), (.int (.u8) 0), (.int (.u8) 0), (.int (.u8) 0), (.int (.u8) 0), (.int (.u8) 0), (.int (.u8) 0), (.int (.u8) 0), (.int (.u8) 0), (.int (.u8) 0), (.int (.u8) 0), (.int (.u8) 0), (.int (.u8) 0), (.int (.u8) 0), (.int (.u8) 0), (.int (.u8) 0)]))) := by kernel_rfl
theorem notInt20 : notInt Tryd.prog 20 = false := by kernel_rfl
theorem notInt24 : notInt Tryd.prog 24 = false := by kernel_rfl
theorem notInt27 : notInt Tryd.prog 27 = true := by kernel_rfl
theorem notInt29 : notInt Tryd.prog 29 = false := by kernel_rfl
theorem notInt3 : notInt Tryd.prog 3 = false := by kernel_rfl
theorem notInt43 : notInt Tryd.prog 43 = true := by kernel_rfl
theorem notInt46 : notInt Tryd.prog 46 = false := by kernel_rfl
theorem notInt5 : notInt Tryd.prog 5 = false := by kernel_rfl
theorem notInt51 : notInt Tryd.prog 51 = false := by kernel_rfl
theorem notInt57 : notInt Tryd.prog 57 = false := by kernel_rfl
theorem notInt61 : notInt Tryd.prog 61 = false := by kernel_rfl
theorem notInt64 : notInt Tryd.prog 64 = false := by kernel_rfl
theorem notInt9 : notInt Tryd.prog 9 = true := by kernel_rfl
theorem plc24 : plc Tryd.prog 24 = (some (.inr 1)) := by kernel_rfl
theorem plc45 : plc Tryd.prog 45 = (some (.inr 1)) := by kernel_rfl
theorem tab24 : tab Tryd.prog 24 = (some (32, true)) := by kernel_rfl
theorem tab32 : tab Tryd.prog 32 = (some (1, false)) := by kernel_rfl
theorem tab5 : tab Tryd.prog 5 = (some (1, false)) := by kernel_rfl
theorem tab61 : tab Tryd.prog 61 = (some (3, true)) := by kernel_rfl
theorem tab64 : tab Tryd.prog 64 = (some (1, false)) := by kernel_rfl
theorem und20 : Go.Program.underlying Tryd.prog 20 = (some (.interface #[])) := by kernel_rfl
theorem und24 : Go.Program.underlying Tryd.prog 24 = (some (.array 32 5)) := by kernel_rfl
theorem und27 : Go.Program.underlying Tryd.prog 27 = (some (.slice 5)) := by kernel_rfl
theorem und3 : Go.Program.underlying Tryd.prog 3 = (some (.int (.i64))) := by kernel_rfl
theorem und32 : Go.Program.underlying Tryd.prog 32 = (some (.int (.i64))) := by kernel_rfl
theorem und4 : Go.Program.underlying Tryd.prog 4 = (some (.bool)) := by kernel_rfl
theorem und43 : Go.Program.underlying Tryd.prog 43 = (some (.slice 24)) := by kernel_rfl
theorem und45 : Go.Program.underlying Tryd.prog 45 = (some (.array 6 5)) := by kernel_rfl
theorem und46 : Go.Program.underlying Tryd.prog 46 = (some (.int (.u64))) := by kernel_rfl
theorem und48 : Go.Program.underlying Tryd.prog 48 = (some (.pointer 32)) := by kernel_rfl
theorem und5 : Go.Program.underlying Tryd.prog 5 = (some (.int (.u8))) := by kernel_rfl
theorem und57 : Go.Program.underlying Tryd.prog 57 = (some (.func #[24, 24] #[3] false)) := by kernel_rfl
theorem und66 : Go.Program.underlying Tryd.prog 66 = (some (.int (.u8))) := by kernel_rfl
theorem und9 : Go.Program.underlying Tryd.prog 9 = (some (.string)) := by kernel_rfl
theorem zer24 : zer Tryd.prog 24 = (some [(.int (.u8) 0), (.int (.u8) 0), (.int (.u8) 0), (.int (.u8) 0), (.int (.u8) 0), (.int (.u8) 0), (.int (.u8) 0), (.int (.u8) 0), (.int (.u8) 0), (.int (.u8) 0), (.int (.u8) 0), (.int (.u8) 0), (.int (.u8) 0), (.int (.u8) 0), (.int (.u8) 0), (.int (.u8) 0), (.int (.u8) 0), (.int (.u8) 0), (.int (.u8) 0), (.int (.u8) 0), (.int (.u8) 0), (.int (.u8) 0), (.int (.u8) 0), (.int (.u8) 0), (.int (.u8) 0), (.int (.u8) 0), (.int (.u8) 0), (.int (.u8) 0), (.int (.u8) 0), (.int (.u8) 0), (.int (.u8) 0), (.int (.u8) 0)]) := by kernel_rfl
theorem zer32 : zer Tryd.prog 32 = (some [(.int (.i64) 0)]) := by kernel_rfl
theorem zer45 : zer Tryd.prog 45 = (some [(.int (.u8) 0), (.int (.u8) 0), (.int (.u8) 0), (.int (.u8) 0), (.int (.u8) 0), (.int (.u8) 0)]) := by kernel_rfl
theorem zer51 : zer Tryd.prog 51 = (some [(.lit (.pointer none)), (.slice [] (.nil))]) := by kernel_rfl
theorem zer61 : zer Tryd.prog 61 = (some [(.lit (.pointer none)), (.lit (.pointer none)), (.int (.u64) 0)]) := by kernel_rfl
def fbHxD := And.intro aggT24 <| And.intro arr24 <| And.intro arr45 <| And.intro els27 <| And.intro els43 <| And.intro elt27 <| And.intro elt43 <| And.intro notInt20 <| And.intro notInt24 <| And.intro notInt27 <| And.intro notInt29 <| And.intro notInt3 <| And.intro notInt43 <| And.intro notInt46 <| And.intro notInt5 <| And.intro notInt51 <| And.intro notInt57 <| And.intro notInt61 <| And.intro notInt64 <| And.intro notInt9 <| And.intro plc24 <| And.intro plc45 <| And.intro tab24 <| And.intro tab32 <| And.intro tab5 <| And.intro tab61 <| And.intro tab64 <| And.intro und20 <| And.intro und24 <| And.intro und27 <| And.intro und3 <| And.intro und32 <| And.intro und4 <| And.intro und43 <| And.intro und45 <| And.intro und46 <| And.intro und48 <| And.intro und5 <| And.intro und57 <| And.intro und66 <| And.intro und9 <| And.intro zer24 <| And.intro zer32 <| And.intro zer45 <| And.intro zer51 <| zer61
end Gv.Tryd
/- Contracts: digits, prefixes, whether a string begins so. -/
set_option linter.unusedVariables false
set_option linter.unusedSimpArgs false
set_option maxRecDepth 20000
set_option maxHeartbeats 4000000
namespace Gv.Tryd
open Go Gv Go.Proofs
theorem mixS : Tryd.prog.follows .mixedOrders = true := by kernel_rfl
theorem norm_u8 {n : Int} (h : 0 ≤ n ∧ n ≤ 255) : norm .u8 n = n := by
  have : IntKind.u8.signed = false := rfl
  simp only [norm, IntKind.wrap, IntKind.bits, this]; simp; omega
/-- a digit's number -/
def dig (c : Int) : Int := if 48 ≤ c ∧ c ≤ 57 then c - 48 else if 97 ≤ c ∧ c ≤ 102 then c - 97 + 10 else -1
theorem dig_le (c : Int) : -1 ≤ dig c ∧ dig c ≤ 15 := by 
  unfold dig
  split
  · omega
  · split <;> omega
theorem hDigit (c : Int) (hc : 0 ≤ c ∧ c ≤ 255) : GPure Tryd.prog 12 [.int .u8 c] (.int .i64 (dig c)) := by
  refine h12.pure mixS (by simp) ?_
  simp only [gstart, s12, List.cons_append, List.nil_append, List.length_cons, List.length_nil, Nat.reduceAdd, Nat.reduceSub, List.replicate_succ, List.replicate_zero]
  by_cases h1 : 48 ≤ c ∧ c ≤ 57
  · have d1 : (48 ≤ c) = True := eq_true h1.1
    have d2 : (c ≤ 57) = True := eq_true h1.2
    have e : dig c = c - 48 := by unfold dig; rw [if_pos h1]
    simp +contextual -implicitDefEqProofs (maxSteps := 2000000) (disch := omega) only [binV, ↓convV, GVal.cells, grp, GVal.ofConst, ↓resV, resG, List.map, List.headD, List.take, List.drop, ↓reduceIte, Nat.reduceEqDiff, Nat.reduceAdd, Nat.reduceSub, Nat.reduceLeDiff, reduceCtorEq, implies_true, ne_eq, Tag.cap, List.replicate, allSolid, GVal.solid, Nat.reduceBEq, Nat.reduceMul, Nat.reduceLT, List.length_map, List.length_range, splice, vcA, ↓vcB, vcC, fbHxD, e12, d1, d2, norm_u8]
    rw [e]
  · by_cases h2 : 97 ≤ c ∧ c ≤ 102
    · have d1 : (97 ≤ c) = True := eq_true h2.1
      have d2 : (c ≤ 102) = True := eq_true h2.2
      have d3 : (48 ≤ c) = True := eq_true (by omega)
      have d4 : (c ≤ 57) = False := eq_false (by omega)
      have e : dig c = c - 97 + 10 := by unfold dig; rw [if_neg h1, if_pos h2]
      simp +contextual -implicitDefEqProofs (maxSteps := 2000000) (disch := omega) only [binV, ↓convV, GVal.cells, grp, GVal.ofConst, ↓resV, resG, List.map, List.headD, List.take, List.drop, ↓reduceIte, Nat.reduceEqDiff, Nat.reduceAdd, Nat.reduceSub, Nat.reduceLeDiff, reduceCtorEq, implies_true, ne_eq, Tag.cap, List.replicate, allSolid, GVal.solid, Nat.reduceBEq, Nat.reduceMul, Nat.reduceLT, List.length_map, List.length_range, splice, vcA, ↓vcB, vcC, fbHxD, e12, d1, d2, d3, d4, norm_u8]
      rw [e]
    · have e : dig c = -1 := by unfold dig; rw [if_neg h1, if_neg h2]
      simp +contextual -implicitDefEqProofs (maxSteps := 2000000) (disch := omega) only [binV, ↓convV, GVal.cells, grp, GVal.ofConst, ↓resV, resG, List.map, List.headD, List.take, List.drop, ↓reduceIte, Nat.reduceEqDiff, Nat.reduceAdd, Nat.reduceSub, Nat.reduceLeDiff, reduceCtorEq, implies_true, ne_eq, Tag.cap, List.replicate, allSolid, GVal.solid, Nat.reduceBEq, Nat.reduceMul, Nat.reduceLT, List.length_map, List.length_range, splice, vcA, ↓vcB, vcC, fbHxD, e12, norm_u8]
      rw [e]
      exact ⟨fun h => ⟨fun h' => by omega, fun h' => ⟨fun h3 => ⟨fun h4 => by omega, fun _ => rfl⟩, fun _ => rfl⟩⟩, fun h => ⟨fun h3 => ⟨fun h4 => by omega, fun _ => rfl⟩, fun _ => rfl⟩⟩
/-- bytes of a string in memory -/
def btsG (s : List UInt8) : List (List GVal) := s.map fun c => [.int .u8 c.toNat]
theorem btsG_len (s : List UInt8) : (btsG s).length = s.length := by simp [btsG]
theorem btsG_at (s : List UInt8) (i : Nat) (h : i < s.length) : (btsG s).getD i [] = [.int .u8 (s.getD i 0).toNat] := by simp [btsG, List.getD, h]
theorem btsG_eq (s : List UInt8) : (s.map fun c => [GVal.int .u8 c.toNat]) = btsG s := rfl
def digits (s : List UInt8) : Bool := s.all fun c => decide (0 ≤ dig c.toNat)
def isPre (s : List UInt8) : Bool := digits s && (decide (s ≠ []) && decide (s.length ≤ 64))
theorem byte_le (c : UInt8) : 0 ≤ (c.toNat : Int) ∧ (c.toNat : Int) ≤ 255 := by have := c.toNat_lt; omega
theorem drop_getD8 {l : List UInt8} {k : Nat} (h : k < l.length) : l.drop k = l.getD k 0 :: l.drop (k + 1) := by
  rw [List.drop_eq_getElem_cons h]; simp [List.getD, h]
theorem hIsPrefix (s : List UInt8) (hs : s.length ≤ 9223372036854775807) : GPure Tryd.prog 15 [.str s] (.bool (isPre s)) := by
  refine h15.pure mixS (by simp) ?_
  simp only [gstart, s15, List.cons_append, List.nil_append, List.length_cons, List.length_nil, Nat.reduceAdd, Nat.reduceSub, List.replicate_succ, List.replicate_zero]
  simp +contextual -implicitDefEqProofs (maxSteps := 2000000) (disch := omega) only [↓lenV, binV, ↓convV, ↓loadV, ↓indexAddrV, GVal.cells, grp, GVal.ofConst, ↓resV, resG, List.map, List.headD, List.take, List.drop, ↓reduceIte, Nat.reduceEqDiff, Nat.reduceAdd, Nat.reduceSub, Nat.reduceLeDiff, reduceCtorEq, implies_true, ne_eq, aggV, Tag.cap, List.replicate, allSolid, GVal.solid, Nat.reduceBEq, Nat.reduceMul, Nat.reduceLT, List.length_map, List.length_range, splice, vcA, ↓vcB, vcC, fbHxD, e15, btsG_eq, btsG_len]
  refine vcSLoop_by (ι := { k : Nat // k ≤ s.length ∧ digits (s.drop k) = digits s }) (fun k => ⟨[.str s, .any, .any, .any, .any, .any, .slice (btsG s) .none, .int .i64 s.length, .int .i64 (k.1 : Nat)] ++ List.replicate 14 .any, []⟩) (fun k => s.length - k.1) ?_ ?_
  · exact Into.first ⟨0, by omega, by simp⟩ ⟨[], by simp⟩ (by simp [WL, leG_self, leG_any, leG_int])
  · rintro ⟨k, hk, he⟩
    by_cases h : k < s.length
    · have d0 : ((k : Int) < (s.length : Int)) = True := eq_true (by omega)
      have eS := btsG_at s k h
      rw [drop_getD8 h] at he
      generalize s.getD k 0 = c at *
      simp +contextual -implicitDefEqProofs (maxSteps := 2000000) (disch := omega) only [↓lenV, binV, ↓convV, ↓loadV, ↓indexAddrV, GVal.cells, grp, GVal.ofConst, ↓resV, resG, List.map, List.headD, List.take, List.drop, ↓reduceIte, Nat.reduceEqDiff, Nat.reduceAdd, Nat.reduceSub, Nat.reduceLeDiff, reduceCtorEq, implies_true, ne_eq, aggV, Tag.cap, List.replicate, allSolid, GVal.solid, Nat.reduceBEq, Nat.reduceMul, Nat.reduceLT, List.length_map, List.length_range, splice, vcA, ↓vcB, vcC, fbHxD, e15, btsG_len, d0, eS]
      refine ⟨by omega, ?_⟩
      refine (hDigit c.toNat (byte_le c)).then ?_ (by rfl)
      have he2 : (decide (0 ≤ dig c.toNat) && digits (s.drop (k + 1))) = digits s := he
      simp +contextual -implicitDefEqProofs (maxSteps := 2000000) (disch := omega) only [↓lenV, binV, ↓convV, ↓loadV, ↓indexAddrV, GVal.cells, grp, GVal.ofConst, ↓resV, resG, List.map, List.headD, List.take, List.drop, ↓reduceIte, Nat.reduceEqDiff, Nat.reduceAdd, Nat.reduceSub, Nat.reduceLeDiff, reduceCtorEq, implies_true, ne_eq, aggV, Tag.cap, List.replicate, allSolid, GVal.solid, Nat.reduceBEq, Nat.reduceMul, Nat.reduceLT, List.length_map, List.length_range, splice, vcA, ↓vcB, vcC, fbHxD, e15, btsG_len, d0, eS]
      refine ⟨fun h1 => ?_, fun h1 => ?_⟩
      · rw [isPre, ← he2, decide_eq_false (p := 0 ≤ dig ↑c.toNat) (by omega)]; rfl
      · rw [decide_eq_true h1, Bool.true_and] at he2
        exact Into.at ⟨k + 1, by omega, he2⟩ (by show _ < _; simp; omega) ⟨[], by simp⟩ (by simp [WL, leG_self, leG_any, leG_int])
    · have d0 : ((k : Int) < (s.length : Int)) = False := eq_false (by omega)
      rw [List.drop_of_length_le (by omega)] at he
      have he2 : digits s = true := he.symm
      simp +contextual -implicitDefEqProofs (maxSteps := 2000000) (disch := omega) only [↓lenV, binV, ↓convV, ↓loadV, ↓indexAddrV, GVal.cells, grp, GVal.ofConst, ↓resV, resG, List.map, List.headD, List.take, List.drop, ↓reduceIte, Nat.reduceEqDiff, Nat.reduceAdd, Nat.reduceSub, Nat.reduceLeDiff, reduceCtorEq, implies_true, ne_eq, aggV, Tag.cap, List.replicate, allSolid, GVal.solid, Nat.reduceBEq, Nat.reduceMul, Nat.reduceLT, List.length_map, List.length_range, splice, vcA, ↓vcB, vcC, fbHxD, e15, btsG_len, d0, false_imp_iff, true_and]
      rw [isPre, he2, Bool.true_and]
      cases s with
      | nil => simp [gif]
      | cons a r =>
        have e1 : ((a :: r) != ([] : List UInt8)) = true := rfl
        rw [e1]
        simp [gif]
        omega
theorem hHasPrefix2 (s p : List UInt8) (hs : s.length ≤ 9223372036854775807) (hp : p.length ≤ 9223372036854775807) : GPure Tryd.prog 37 [.str s, .str p] (.bool (decide (s.take p.length = p))) := by
  refine h37.pure mixS (by simp) ?_
  simp only [gstart, s37, List.cons_append, List.nil_append, List.length_cons, List.length_nil, Nat.reduceAdd, Nat.reduceSub, List.replicate_succ, List.replicate_zero]
  simp +contextual -implicitDefEqProofs (maxSteps := 2000000) (disch := omega) only [↓lenV, binV, optV, ↓sliceV, bound, cutTag, hiTag, GVal.cells, grp, GVal.ofConst, ↓resV, resG, List.map, List.headD, List.take, List.drop, ↓reduceIte, Nat.reduceEqDiff, Nat.reduceAdd, Nat.reduceSub, Nat.reduceLeDiff, reduceCtorEq, implies_true, ne_eq, aggV, Tag.cap, List.replicate, allSolid, GVal.solid, Nat.reduceBEq, Nat.reduceMul, Nat.reduceLT, List.length_map, List.length_range, splice, vcA, ↓vcB, vcC, fbHxD, e37, Int.toNat_zero, List.drop_zero]
  refine ⟨fun h => ⟨by omega, by omega, ?_⟩, fun h => (decide_eq_false fun e => ?_).symm⟩
  · rw [Bool.eq_iff_iff]; simp
  · have := congrArg List.length e
    rw [List.length_take] at this; omega
theorem hHasPrefix (s p : List UInt8) (hs : s.length ≤ 9223372036854775807) (hp : p.length ≤ 9223372036854775807) : GPure Tryd.prog 26 [.str s, .str p] (.bool (decide (s.take p.length = p))) := by
  refine h26.pure mixS (by simp) ?_
  simp only [gstart, s26, List.cons_append, List.nil_append, List.length_cons, List.length_nil, Nat.reduceAdd, Nat.reduceSub, List.replicate_succ, List.replicate_zero]
  simp +contextual -implicitDefEqProofs (maxSteps := 2000000) (disch := omega) only [GVal.cells, grp, GVal.ofConst, ↓resV, resG, List.map, List.headD, List.take, List.drop, ↓reduceIte, Nat.reduceEqDiff, Nat.reduceAdd, Nat.reduceSub, Nat.reduceLeDiff, reduceCtorEq, implies_true, ne_eq, Tag.cap, List.replicate, allSolid, GVal.solid, Nat.reduceBEq, Nat.reduceMul, Nat.reduceLT, List.length_map, List.length_range, splice, vcA, ↓vcB, vcC, fbHxD, e26]
  refine (hHasPrefix2 s p hs hp).then ?_ (by rfl)
  simp +contextual -implicitDefEqProofs (maxSteps := 2000000) (disch := omega) only [GVal.cells, grp, GVal.ofConst, ↓resV, resG, List.map, List.headD, List.take, List.drop, ↓reduceIte, Nat.reduceEqDiff, Nat.reduceAdd, Nat.reduceSub, Nat.reduceLeDiff, reduceCtorEq, implies_true, ne_eq, Tag.cap, List.replicate, allSolid, GVal.solid, Nat.reduceBEq, Nat.reduceMul, Nat.reduceLT, List.length_map, List.length_range, splice, vcA, ↓vcB, vcC, fbHxD, e26]
end Gv.Tryd
/- Contract: hex.Parse. -/
set_option linter.unusedVariables false
set_option linter.unusedSimpArgs false
set_option maxRecDepth 20000
set_option maxHeartbeats 4000000
namespace Gv.Tryd
open Go Gv Go.Proofs
def errForm : GVal := .iface 32 (.int .i64 2)
def pairB (s : List UInt8) (i : Nat) : Int := bits .or .i64 (norm .i64 (dig (s.getD (2 * i) 0).toNat * 2 ^ 4)) (dig (s.getD (2 * i + 1) 0).toNat)
theorem ibin_shl (P : Program) (t : TypeId) (k k' : IntKind) (a b : Int) (K : GVal → Prop) : binV P .shl t (.int k a) (.int k' b) K = (0 ≤ b ∧ b ≤ k.bits ∧ K (.int k (norm k (a * 2 ^ b.toNat)))) := by simp only [binV]
theorem ibin_shr (P : Program) (t : TypeId) (k k' : IntKind) (a b : Int) (K : GVal → Prop) : binV P .shr t (.int k a) (.int k' b) K = (0 ≤ b ∧ b ≤ k.bits ∧ K (.int k (a / 2 ^ b.toNat))) := by simp only [binV]
theorem ibin_or (P : Program) (t : TypeId) (k : IntKind) (a b : Int) (K : GVal → Prop) : binV P .or t (.int k a) (.int k b) K = K (.int k (bits .or k a b)) := by simp only [binV, true_and]
theorem ibin_and (P : Program) (t : TypeId) (k : IntKind) (a b : Int) (K : GVal → Prop) : binV P .and t (.int k a) (.int k b) K = K (.int k (bits .and k a b)) := by simp only [binV, true_and]
theorem frzL_u8 (O : List GObj) (n : Nat) : ∀ l : List Int, frzL (Gv.frz O (n + 1)) (l.map (.int .u8)) = some (l.map (.int .u8))
  | [] => rfl
  | x :: r => by rw [List.map_cons, frzL, frzL_u8 O n r]; simp only [Gv.frz]
theorem allSolid_u8 : ∀ l : List Int, allSolid (l.map (.int .u8)) = True
  | [] => eq_true trivial
  | x :: r => by simp [allSolid, allSolid_u8 r, GVal.solid]
theorem WL_self : ∀ l : List GVal, WL l l
  | [] => trivial
  | x :: r => ⟨by rw [leG_self]; trivial, WL_self r⟩
theorem hParse (s : List UInt8) (hs : s.length = 64) (hp : isPre s = true) : GPure Tryd.prog 9 [.str s] (.tuple [.agg ((List.range 32).map fun i => .int .u8 (norm .u8 (pairB s i))), .lit .nilIface]) := by
  refine h9.pureF mixS (by simp) ?_
  simp only [gstart, s9, List.cons_append, List.nil_append, List.length_cons, List.length_nil, Nat.reduceAdd, Nat.reduceSub, List.replicate_succ, List.replicate_zero]
  have d0 : ((s.length : Int) = 64) = True := eq_true (by omega)
  simp +contextual -implicitDefEqProofs (maxSteps := 2000000) (disch := omega) only [drawC, ↓lenV, binV, ↓unV, ↓convV, ↓loadV, ↓storeV, ↓indexAddrV, ↓indexV, ↓allocV, ↓ifaceV, GVal.cells, grp, GVal.ofConst, ↓resV, resG, List.map, List.headD, List.take, List.drop, ↓reduceIte, Nat.reduceEqDiff, Nat.reduceAdd, Nat.reduceSub, Nat.reduceLeDiff, reduceCtorEq, implies_true, ne_eq, aggV, Tag.cap, List.replicate, allSolid, GVal.solid, Nat.reduceBEq, Nat.reduceMul, Nat.reduceLT, List.length_map, List.length_range, splice, vcA, ↓vcB, vcC, fbHxD, e9, d0, not_true_eq_false, false_imp_iff, true_imp_iff, true_and]
  intro st st_1
  have c := hIsPrefix s (by omega)
  rw [hp] at c
  refine c.then ?_ (by rfl)
  simp +contextual -implicitDefEqProofs (maxSteps := 2000000) (disch := omega) only [drawC, ↓lenV, binV, ↓unV, ↓convV, ↓loadV, ↓storeV, ↓indexAddrV, ↓indexV, ↓allocV, ↓ifaceV, GVal.cells, grp, GVal.ofConst, ↓resV, resG, List.map, List.headD, List.take, List.drop, ↓reduceIte, Nat.reduceEqDiff, Nat.reduceAdd, Nat.reduceSub, Nat.reduceLeDiff, reduceCtorEq, implies_true, ne_eq, aggV, Tag.cap, List.replicate, allSolid, GVal.solid, Nat.reduceBEq, Nat.reduceMul, Nat.reduceLT, List.length_map, List.length_range, splice, vcA, ↓vcB, vcC, fbHxD, e9]
  obtain ⟨Z, hZ⟩ : ∃ Z, Z = bytesG (List.replicate 32 0) := ⟨_, rfl⟩
  have zl : Z.length = 32 := by rw [hZ]; simp [bytesG]
  refine vcSLoop_by (ι := { p : Nat × List GVal // p.1 ≤ 32 ∧ p.2.length = 32 ∧ (∀ i, i < p.1 → p.2.getD i .any = .int .u8 (norm .u8 (pairB s i))) ∧ ∀ c ∈ p.2, c.solid = true }) (fun p => ⟨[.str s, .any, .ptr 0 st 0 0, .any, .ptr 1 st_1 0 0, .any, .any, .any, .any, .any, .any, .any, .any, .any, .any, .any, .int .i64 (p.1.1 : Nat)] ++ List.replicate 20 .any, [.row st 32 [Z], .row st_1 32 [p.1.2]]⟩) (fun p => 32 - p.1.1) ?_ ?_
  · exact Into.first ⟨(0, Z), by omega, zl, by omega, by rw [hZ]; simp [bytesG, GVal.solid]⟩ ⟨[], by simp [hZ, bytesG]⟩ (by simp [WL, leG_self, leG_any, leG_int])
  · rintro ⟨⟨k, H⟩, hk, hH, hi, hsol⟩
    simp only [] at hk hH hi hsol
    by_cases h : k < 32
    · have d1 : ((k : Int) < 32) = True := eq_true (by omega)
      have e1 : ((2 : Int) * k).toNat = 2 * k := by omega
      have e2 : ((2 : Int) * k + 1).toNat = 2 * k + 1 := by omega
      have b1 := byte_le (s.getD (2 * k) 0)
      have b2 := byte_le (s.getD (2 * k + 1) 0)
      have ep : norm .u8 (pairB s k) = norm .u8 (bits .or .i64 (norm .i64 (dig (s.getD (2 * k) 0).toNat * 2 ^ 4)) (dig (s.getD (2 * k + 1) 0).toNat)) := rfl
      obtain ⟨x, ex⟩ : ∃ x, s.getD (2 * k) 0 = x := ⟨_, rfl⟩
      obtain ⟨y, ey⟩ : ∃ y, s.getD (2 * k + 1) 0 = y := ⟨_, rfl⟩
      rw [ex] at b1 ep
      rw [ey] at b2 ep
      have b3 := dig_le x.toNat
      have b4 := dig_le y.toNat
      simp +contextual -implicitDefEqProofs (maxSteps := 2000000) (disch := omega) only [drawC, ↓lenV, binV, ↓unV, ↓convV, ↓loadV, ↓storeV, ↓indexAddrV, ↓indexV, ↓allocV, ↓ifaceV, GVal.cells, grp, GVal.ofConst, ↓resV, resG, List.map, List.headD, List.take, List.drop, ↓reduceIte, Nat.reduceEqDiff, Nat.reduceAdd, Nat.reduceSub, Nat.reduceLeDiff, reduceCtorEq, implies_true, ne_eq, aggV, Tag.cap, List.replicate, allSolid, GVal.solid, Nat.reduceBEq, Nat.reduceMul, Nat.reduceLT, List.length_map, List.length_range, splice, vcA, ↓vcB, vcC, fbHxD, e9, d1, e1, e2, ex, ey]
      refine ⟨by omega, by omega, by omega, by omega, ?_⟩
      refine (hDigit x.toNat b1).then ?_ (by rfl)
      have q0 : (4 : Int).toNat = 4 := rfl
      simp +contextual -implicitDefEqProofs (maxSteps := 2000000) (disch := omega) only [drawC, ↓lenV, binV, ↓unV, ↓convV, ↓loadV, ↓storeV, ↓indexAddrV, ↓indexV, ↓allocV, ↓ifaceV, GVal.cells, grp, GVal.ofConst, ↓resV, resG, List.map, List.headD, List.take, List.drop, ↓reduceIte, Nat.reduceEqDiff, Nat.reduceAdd, Nat.reduceSub, Nat.reduceLeDiff, reduceCtorEq, implies_true, ne_eq, aggV, Tag.cap, List.replicate, allSolid, GVal.solid, Nat.reduceBEq, Nat.reduceMul, Nat.reduceLT, List.length_map, List.length_range, splice, vcA, ↓vcB, vcC, fbHxD, e9, d1, e1, e2, ex, ey, ↓ibin_shl, ↓ibin_or, q0]
      refine ⟨by omega, by decide, ?_⟩
      refine (hDigit y.toNat b2).then ?_ (by rfl)
      simp +contextual -implicitDefEqProofs (maxSteps := 2000000) (disch := omega) only [drawC, ↓lenV, binV, ↓unV, ↓convV, ↓loadV, ↓storeV, ↓indexAddrV, ↓indexV, ↓allocV, ↓ifaceV, GVal.cells, grp, GVal.ofConst, ↓resV, resG, List.map, List.headD, List.take, List.drop, ↓reduceIte, Nat.reduceEqDiff, Nat.reduceAdd, Nat.reduceSub, Nat.reduceLeDiff, reduceCtorEq, implies_true, ne_eq, aggV, Tag.cap, List.replicate, allSolid, GVal.solid, Nat.reduceBEq, Nat.reduceMul, Nat.reduceLT, List.length_map, List.length_range, splice, vcA, ↓vcB, vcC, fbHxD, e9, d1, e1, e2, ex, ey, ↓ibin_shl, ↓ibin_or]
      rw [norm_i64 (by omega)] at ep
      generalize norm .u8 (bits .or .i64 (dig x.toNat * 2 ^ 4) (dig y.toNat)) = q at *
      rw [Nat.mul_one]
      refine ⟨by omega, by omega, ?_⟩
      refine Into.at ⟨(k + 1, H.take k ++ [.int .u8 q] ++ H.drop (k + 1)), by show k + 1 ≤ 32; omega, by simp; omega, fun i hi' => ?_, fun c hc => ?_⟩ (by show _ < _; simp; omega) ⟨[], by simp⟩ (by simp [WL, leG_self, leG_any, leG_int])
      · show (H.take k ++ [GVal.int .u8 q] ++ H.drop (k + 1)).getD i .any = _
        have hi2 : i < k + 1 := hi'
        by_cases e : i = k
        · subst e
          rw [ep]
          simp [List.getD, List.getElem?_append, hH, hk]
        · have := hi i (by omega)
          rw [← this]
          simp only [List.getD]
          rw [List.append_assoc, List.getElem?_append_left (by simp; omega), List.getElem?_take_of_lt (by omega)]
      · change c ∈ H.take k ++ [GVal.int .u8 q] ++ H.drop (k + 1) at hc
        simp only [List.mem_append, List.mem_singleton] at hc
        rcases hc with (hc | rfl) | hc
        · exact hsol c (List.mem_of_mem_take hc)
        · rfl
        · exact hsol c (List.mem_of_mem_drop hc)
    · have d1 : ((k : Int) < 32) = False := eq_false (by omega)
      have tH : List.take 32 H = H := List.take_of_length_le (by omega)
      have eH : H = ((List.range 32).map fun i => norm .u8 (pairB s i)).map (.int .u8) := by
        apply List.ext_getElem (by simp [hH])
        intro i h1 h2
        have := hi i (by omega)
        simp only [List.getD, List.getElem?_eq_getElem h1, Option.getD_some] at this
        rw [this]; simp
      have aS := allSolid_u8 ((List.range 32).map fun i => norm .u8 (pairB s i))
      rw [← eH] at aS
      have dZ : List.drop H.length Z = [] := List.drop_of_length_le (by omega)
      simp +contextual -implicitDefEqProofs (maxSteps := 2000000) (disch := omega) only [drawC, ↓lenV, binV, ↓unV, ↓convV, ↓loadV, ↓storeV, ↓indexAddrV, ↓indexV, ↓allocV, ↓ifaceV, GVal.cells, grp, GVal.ofConst, ↓resV, resG, List.map, List.headD, List.take, List.drop, ↓reduceIte, Nat.reduceEqDiff, Nat.reduceAdd, Nat.reduceSub, Nat.reduceLeDiff, reduceCtorEq, implies_true, ne_eq, aggV, Tag.cap, List.replicate, allSolid, GVal.solid, Nat.reduceBEq, Nat.reduceMul, Nat.reduceLT, List.length_map, List.length_range, splice, vcA, ↓vcB, vcC, fbHxD, e9, d1, false_imp_iff, true_and, tH, aS, zl, dZ, List.append_nil]
      refine ⟨by omega, hH, by omega, 4, (.tuple [.agg ((List.range 32).map fun i => .int .u8 (norm .u8 (pairB s i))), .lit .nilIface]), ?_, WL_self _⟩
      have q1 : Gv.frz [.row st 32 [H], .row st_1 32 [H]] 3 (.agg H) = some (.agg ((List.range 32).map fun i => .int .u8 (norm .u8 (pairB s i)))) := by
        have := frzL_u8 [.row st 32 [H], .row st_1 32 [H]] 1 ((List.range 32).map fun i => norm .u8 (pairB s i))
        rw [← eH] at this
        simp only [Gv.frz, this]
        rw [eH, List.map_map]; rfl
      have q2 : Gv.frz [.row st 32 [H], .row st_1 32 [H]] 3 (.lit .nilIface) = some (.lit .nilIface) := by simp only [Gv.frz]
      rw [Gv.frz, frzL, q1, frzL, q2]; rfl
end Gv.Tryd
/- bytes.Compare, at this program. -/
set_option linter.unusedVariables false
set_option maxRecDepth 100000
namespace Gv.Tryd
open Go Gv Go.Proofs
/-- bytes lie side by side -/
def lies (w : World) (a : Option Addr) (l : List UInt8) : Prop := l ≠ [] → ∃ p, a = some p ∧ ∀ (j : Nat) x, l[j]? = some x → w.cell? (p.add j) = some (.int .u8 x.toNat)
theorem run_bytesOf {P : Program} {w : World} {a : Option Addr} {l : List UInt8} (c : Nat) (h : lies w a l) : (Extern.Bytes.bytesOf (.slice a l.length c)).run P w = .ok ⟨l.toArray⟩ w := by
  cases a with
  | none =>
    cases l with
    | nil => rfl
    | cons x r => obtain ⟨p, hp, _⟩ := h (by simp); cases hp
  | some p =>
    cases l with
    | nil => rfl
    | cons x r =>
      obtain ⟨q, hq, hc⟩ := h (by simp)
      cases hq
      have := Lib.run_loadBytesX (P := P) w ((x :: r).map fun c => (c.toNat : Int)) p .empty (fun j y hy => by
        rw [List.getElem?_map] at hy
        cases hq : (x :: r)[j]? with
        | none => rw [hq] at hy; cases hy
        | some z => rw [hq] at hy; simp at hy; subst hy; exact hc j z hq)
      have e : Lib.bytesOf ((x :: r).map fun c => (c.toNat : Int)) = x :: r := by simp [Lib.bytesOf, List.map_map, Function.comp_def]
      rw [e, List.length_map] at this
      simpa [Extern.Bytes.bytesOf] using this
def cmpL (a b : List UInt8) : Int := Extern.BytealgCompare.cmp ⟨a.toArray⟩ ⟨b.toArray⟩
theorem run_compare {P : Program} {w : World} {a b : Option Addr} {x y : List UInt8} (c d : Nat) (h : lies w a x) (k : lies w b y) :
    (Extern.BytealgCompare.compare #[.slice a x.length c, .slice b y.length d]).run P w = .ok (.int .i64 (cmpL x y)) w := by
  change Sem.run P (do
    let p ← Extern.Bytes.bytesOf (.slice a x.length c)
    let q ← Extern.Bytes.bytesOf (.slice b y.length d)
    pure (goInt (Extern.BytealgCompare.cmp p q))) w = _
  simp only [Sem.run_bind, run_bytesOf c h, run_bytesOf d k, Result.andThen_ok]
  rfl
set_option maxHeartbeats 2000000 in
theorem calls21 (w : World) (a b : Option Addr) (x y : List UInt8) (c d : Nat) (h : lies w a x) (k : lies w b y) :
    Calls Tryd.prog 27 #[.slice a x.length c, .slice b y.length d] w fun e w' => e = .returned (.int .i64 (cmpL x y)) ∧ w' = w := by
  go_enter Tryd.func27, Tryd.ntmps27
  go_wp2
  rw [run_callFunc_extern Tryd.func38 (by kernel_rfl) (by kernel_rfl) (by kernel_rfl) (e := Extern.BytealgCompare.compare) (by kernel_rfl), run_compare c d h k]
  simp only [Result.andThen]
  rw [Oper.upon_value]
  go_wp2
  go_ret
  exact ⟨rfl, rfl⟩
end Gv.Tryd
