/- A contract from a walk of the kit's: all that was stands below. -/
import Derived.Test.YtppbonmfhgikhaaP7
import Derived.Below
import Derived.Test.YtppbonmfhgikhaaProg
import Derived.KernelRfl
import Derived.Lib.BytesEntry
import Derived.Laws.Externs
import Derived.WalkKit
import Derived.Shelf.SlSortCmp.WholeK
set_option linter.unusedVariables false
namespace Gv
open Go
theorem HSim.below {E : Env} {w w' : World} (h : HSim E [] w) (hb : RowKit.Below w.heap.size w w') : HSim E [] w' ∧ Keep E [] w E [] w' :=
  h.gen (.refl E) h.fin hb.os ⟨hb.output, trivial⟩ hb.size (fun b => w.heap.size ≤ b) (fun b hb' => .inr hb') (fun k hk _ => hb.block k hk)
    (fun k o v hv => .inl hv) (fun k o v hk hv => absurd (h.lt hv) (by omega)) (fun i obj hi => by simp at hi) (fun i j oi oj b hij hi => by simp at hi)
theorem GPure.ofBelow {P : Program} {f : FuncId} {args : List GVal} {r : GVal} (he : enterable P f = true)
    (h : ∀ (E : Env) (w : World) (vs : Array Value), HSim E [] w → ArgsR E vs args → Calls P f vs w fun e w' => ∃ v, e = .returned v ∧ RowKit.Below w.heap.size w w' ∧ VR E v r) : GPure P f args r :=
  ⟨he, fun E w vs hs ha => (h E w vs hs ha).mono fun e w' ⟨v, h1, h2, h3⟩ => ⟨v, E, [], r, h1, (hs.below h2).1, (hs.below h2).2, h3, rfl, rfl⟩⟩
/-- bytes, as an array -/
def bytesG (l : List UInt8) : List GVal := l.map fun c => .int .u8 c.toNat
def bytesV (l : List UInt8) : List Value := l.map fun c => .int .u8 c.toNat
theorem bytesG_len (l : List UInt8) : (bytesG l).length = l.length := by simp [bytesG]
theorem argsR_agg {E : Env} {vs : Array Value} {l : List UInt8} (h : ArgsR E vs [.agg (bytesG l)]) : vs = #[.agg (bytesV l).toArray] := by
  obtain ⟨h1, h2⟩ := h
  have h3 := h2 0 _ rfl
  have e : vs = #[vs.getD 0 undef] := by
    apply Array.ext (by simpa using h1)
    intro i hi hi2
    simp at hi2; subst hi2
    simp [Array.getD, hi]
  rw [e]
  generalize vs.getD 0 undef = v at *
  cases h3 with
  | agg ws cs hs hc =>
    have : ws = (bytesV l).toArray := by
      apply Array.ext (by rw [hs]; simp [bytesG, bytesV])
      intro i hi hi2
      have hi3 : i < l.length := by simpa [bytesV] using hi2
      have := hc i (.int .u8 (l[i]).toNat) (by simp [bytesG, hi3])
      rw [Array.getD_eq_getD_getElem?, Array.getElem?_eq_getElem hi] at this
      simp at this
      generalize hw : ws[i] = x at this
      cases this
      simp [bytesV]
    rw [this]
end Gv
set_option maxRecDepth 100000
set_option linter.defProp false
namespace Gv.Try
open Go Gv Go.Proofs
def s3_0 : SCode := (.reg [(.mk (some 3) (.box 23 (.tmp 0)) none), (.mk (some 4) (.box 23 (.tmp 1)) none), (.mk (some 6) (.assign (.const (.bool false))) none)])
def s3_1 : SCode := (.reg [(.mk (some 10) (.load 23 (.tmp 3)) none), (.mk (some 11) (.call (.mk (.value (.func 6)) #[(.tmp 10)] #[23])) none), (.mk (some 7) (.assign (.tmp 11)) none)])
def s3_2 : SCode := (.reg [(.mk (some 13) (.move (.tmp 7)) none), (.mk (some 14) (.call (.mk (.value (.func 7)) #[(.tmp 13)] #[9])) none), (.mk (some 12) (.move (.tmp 14)) none), (.mk (some 15) (.extract (.tmp 12) 0) none), (.mk (some 16) (.extract (.tmp 12) 1) none), (.mk (some 8) (.alloc 23) none), (.mk none (.store 23 (.tmp 8) (.tmp 15)) none), (.mk (some 9) (.assign (.tmp 16)) none)])
def s3_3 : SCode := (.reg [(.mk (some 17) (.call (.mk (.value (.func 8)) #[] #[])) none), (.mk (some 18) (.unOp (.not) 4 (.tmp 17)) none), (.mk (some 19) (.move (.tmp 18)) none), (.mk (some 20) (.move (.tmp 9)) (some (19, false))), (.mk (some 21) (.binOp (.neq) 26 (.tmp 20) (.const (.nilIface)) 26) (some (19, false))), (.mk (some 22) (.pick (.tmp 19) (.const (.bool true)) (.tmp 21)) none), (.mk (some 23) (.move (.tmp 22)) none), (.mk (some 24) (.load 23 (.tmp 8)) (some (23, false))), (.mk (some 25) (.load 23 (.tmp 3)) (some (23, false))), (.mk (some 26) (.binOp (.neq) 23 (.tmp 24) (.tmp 25) 23) (some (23, false))), (.mk (some 27) (.pick (.tmp 23) (.const (.bool true)) (.tmp 26)) none), (.mk (some 28) (.move (.tmp 27)) none), (.mk (some 29) (.move (.tmp 7)) (some (28, false))), (.mk (some 30) (.call (.mk (.builtin (.len)) #[(.tmp 29)] #[9])) (some (28, false))), (.mk (some 31) (.binOp (.neq) 3 (.tmp 30) (.const (.int (.i64) 64)) 3) (some (28, false))), (.mk (some 32) (.pick (.tmp 28) (.const (.bool true)) (.tmp 31)) none), (.mk (some 33) (.move (.tmp 32)) none), (.mk (some 34) (.move (.tmp 7)) (some (33, false))), (.mk (some 35) (.call (.mk (.value (.func 9)) #[(.tmp 34)] #[9])) (some (33, false))), (.mk (some 36) (.unOp (.not) 4 (.tmp 35)) (some (33, false))), (.mk (some 37) (.pick (.tmp 33) (.const (.bool true)) (.tmp 36)) none)])
def s3_4 : SCode := (.reg [(.mk (some 6) (.assign (.const (.bool false))) none)])
def s3_5 : SCode := (.cond (.tmp 37) (.seq s3_4 (.ret)) (.skip))
def s3_6 : SCode := (.drw [((.mk (some 38) (.load 23 (.tmp 3)) none), 0), ((.mk (some 39) (.move (.tmp 7)) none), 0), ((.mk (some 40) (.move (.tmp 2)) none), 0), ((.mk (some 41) (.call (.mk (.value (.func 11)) #[(.tmp 40), (.const (.int (.i64) 65))] #[3, 3])) none), 2), ((.mk (some 42) (.slice 9 (.tmp 39) none (some (.tmp 41)) none) none), 0), ((.mk (some 43) (.call (.mk (.value (.func 10)) #[(.tmp 38), (.tmp 42)] #[23, 9])) none), 1), ((.mk (some 44) (.move (.tmp 43)) none), 0), ((.mk (some 45) (.load 23 (.tmp 4)) (some (44, true))), 0), ((.mk (some 46) (.move (.tmp 7)) (some (44, true))), 0), ((.mk (some 48) (.load 23 (.tmp 3)) (some (44, true))), 0), ((.mk (some 49) (.load 23 (.tmp 4)) (some (44, true))), 0), ((.mk (some 50) (.binOp (.eql) 23 (.tmp 48) (.tmp 49) 23) (some (44, true))), 0), ((.mk (some 47) (.call (.mk (.value (.func 10)) #[(.tmp 45), (.tmp 46)] #[23, 9])) (some (44, true))), 2), ((.mk (some 51) (.binOp (.eql) 4 (.tmp 47) (.tmp 50) 4) (some (44, true))), 0), ((.mk (some 52) (.pick (.tmp 44) (.tmp 51) (.const (.bool false))) none), 0), ((.mk (some 53) (.move (.tmp 52)) none), 0), ((.mk (some 54) (.load 23 (.tmp 4)) (some (53, true))), 0), ((.mk (some 56) (.move (.tmp 7)) (some (53, true))), 0), ((.mk (some 58) (.load 23 (.tmp 4)) (some (53, true))), 0), ((.mk (some 59) (.load 23 (.tmp 3)) (some (53, true))), 0), ((.mk (some 55) (.call (.mk (.value (.func 6)) #[(.tmp 54)] #[23])) (some (53, true))), 2), ((.mk (some 57) (.binOp (.lss) 9 (.tmp 55) (.tmp 56) 9) (some (53, true))), 0), ((.mk (some 60) (.call (.mk (.value (.func 12)) #[(.tmp 58), (.tmp 59)] #[23, 23])) (some (53, true))), 1), ((.mk (some 61) (.binOp (.eql) 4 (.tmp 57) (.tmp 60) 4) (some (53, true))), 0), ((.mk (some 62) (.pick (.tmp 53) (.tmp 61) (.const (.bool false))) none), 0), ((.mk (some 6) (.assign (.tmp 62)) none), 0)])
def s3_7 : SCode := (.seq (.seq s3_3 s3_5) (.seq s3_6 (.ret)))
def s3 : SCode := (.seq s3_0 (.seq s3_1 (.seq s3_2 s3_7)))
def e3 := And.intro s3_0.eq_1 <| And.intro s3_1.eq_1 <| And.intro s3_2.eq_1 <| And.intro s3_3.eq_1 <| And.intro s3_4.eq_1 <| And.intro s3_5.eq_1 <| And.intro s3_6.eq_1 <| s3_7.eq_1
theorem h3 : FnS Try.prog 3 ⟨[3, 4], [(5, [(0, 0), (1, 0), (2, 0), (3, 2), (4, 0), (5, 1), (6, 0), (7, 0), (8, 0), (10, 0), (11, 0), (12, 0), (9, 2), (13, 0), (14, 0), (15, 0), (16, 0), (18, 0), (20, 0), (21, 0), (17, 2), (19, 0), (22, 1), (23, 0), (24, 0), (25, 0)])]⟩ 63 [(.tmp 6)] s3 := .mk' Try.func3 (by kernel_rfl) (by kernel_rfl) (by kernel_rfl) (by kernel_rfl) (by kernel_rfl) (by kernel_rfl)
def s4_0 : SCode := (.reg [(.mk (some 4) (.assign (.const (.bool false))) none)])
def s4_1 : SCode := (.reg [(.mk (some 5) (.assign (.const (.slice none 0 0))) none)])
def s4_2 : SCode := (.reg [(.mk (some 6) (.assign (.const (.int (.i64) 0))) none)])
def s4_3 : SCode := (.reg [(.mk (some 7) (.move (.tmp 6)) none), (.mk (some 8) (.move (.tmp 0)) none), (.mk (some 9) (.call (.mk (.builtin (.len)) #[(.tmp 8)] #[35])) none), (.mk (some 10) (.binOp (.lss) 3 (.tmp 7) (.tmp 9) 3) none), (.mk (some 11) (.move (.tmp 10)) none), (.mk (some 12) (.move (.tmp 6)) (some (11, true))), (.mk (some 13) (.binOp (.lss) 3 (.tmp 12) (.const (.int (.i64) 40)) 3) (some (11, true))), (.mk (some 14) (.pick (.tmp 11) (.tmp 13) (.const (.bool false))) none)])
def s4_4 : SCode := (.seq s4_3 (.cond (.tmp 14) (.skip) (.exit 0)))
def s4_5 : SCode := (.reg [(.mk (some 17) (.move (.tmp 5)) none), (.mk (some 18) (.move (.tmp 0)) none), (.mk (some 19) (.move (.tmp 6)) none), (.mk (some 20) (.indexAddr 35 (.tmp 18) (.tmp 19)) none), (.mk (some 21) (.load 3 (.tmp 20)) none), (.mk (some 22) (.call (.mk (.value (.func 13)) #[(.tmp 21)] #[3])) none), (.mk (some 23) (.buildSlice 36 1 #[(0, (.tmp 22))]) none), (.mk (some 24) (.call (.mk (.builtin (.append)) #[(.tmp 17), (.tmp 23)] #[36, 36])) none), (.mk (some 5) (.assign (.tmp 24)) none)])
def s4_6 : SCode := (.reg [(.mk (some 15) (.move (.tmp 6)) none), (.mk (some 16) (.binOp (.add) 3 (.tmp 15) (.const (.int (.i64) 1)) 3) none), (.mk (some 6) (.assign (.tmp 16)) none)])
def s4_7 : SCode := (.loop (.seq s4_4 (.seq (.block 1 s4_5) s4_6)))
def s4_8 : SCode := (.reg [(.mk (some 25) (.move (.tmp 5)) none), (.mk (some 26) (.move (.tmp 1)) none), (.mk (some 27) (.call (.mk (.builtin (.append)) #[(.tmp 25), (.tmp 26)] #[36, 36])) none), (.mk (some 5) (.assign (.tmp 27)) none)])
def s4_9 : SCode := (.reg [(.mk (some 28) (.call (.mk (.value (.func 8)) #[] #[])) none), (.mk (some 29) (.move (.tmp 28)) none), (.mk (some 30) (.move (.tmp 5)) (some (29, true))), (.mk (some 31) (.call (.mk (.value (.func 15)) #[(.tmp 30)] #[36])) (some (29, true))), (.mk (some 32) (.move (.tmp 5)) (some (29, true))), (.mk (some 33) (.call (.mk (.value (.func 16)) #[(.tmp 32)] #[36])) (some (29, true))), (.mk (some 34) (.call (.mk (.value (.func 14)) #[(.tmp 31), (.tmp 33)] #[36, 36])) (some (29, true))), (.mk (some 35) (.pick (.tmp 29) (.tmp 34) (.const (.bool false))) none), (.mk (some 4) (.assign (.tmp 35)) none)])
def s4_10 : SCode := (.seq (.seq s4_2 (.block 0 s4_7)) (.seq s4_8 (.seq s4_9 (.ret))))
def s4 : SCode := (.seq s4_0 (.seq s4_1 s4_10))
def e4 := And.intro s4_0.eq_1 <| And.intro s4_1.eq_1 <| And.intro s4_2.eq_1 <| And.intro s4_3.eq_1 <| And.intro s4_4.eq_1 <| And.intro s4_5.eq_1 <| And.intro s4_6.eq_1 <| And.intro s4_7.eq_1 <| And.intro s4_8.eq_1 <| And.intro s4_9.eq_1 <| s4_10.eq_1
theorem h4 : FnS Try.prog 4 ⟨[], []⟩ 36 [(.tmp 4)] s4 := .mk' Try.func4 (by kernel_rfl) (by kernel_rfl) (by kernel_rfl) (by kernel_rfl) (by kernel_rfl) (by kernel_rfl)
def s5_0 : SCode := (.reg [(.mk (some 4) (.assign (.const (.bool false))) none)])
def s5_1 : SCode := (.reg [(.mk (some 11) (.call (.mk (.value (.func 15)) #[(.const (.slice none 0 0))] #[36])) none), (.mk (some 5) (.assign (.tmp 11)) none)])
def s5_2 : SCode := (.reg [(.mk (some 6) (.assign (.const (.int (.i64) 0))) none)])
def s5_3 : SCode := (.reg [(.mk (some 12) (.move (.tmp 6)) none), (.mk (some 13) (.move (.tmp 0)) none), (.mk (some 14) (.call (.mk (.builtin (.len)) #[(.tmp 13)] #[35])) none), (.mk (some 15) (.binOp (.lss) 3 (.tmp 12) (.tmp 14) 3) none), (.mk (some 16) (.move (.tmp 15)) none), (.mk (some 17) (.move (.tmp 6)) (some (16, true))), (.mk (some 18) (.binOp (.lss) 3 (.tmp 17) (.const (.int (.i64) 30)) 3) (some (16, true))), (.mk (some 19) (.pick (.tmp 16) (.tmp 18) (.const (.bool false))) none)])
def s5_4 : SCode := (.seq s5_3 (.cond (.tmp 19) (.skip) (.exit 0)))
def s5_5 : SCode := (.reg [(.mk (some 22) (.move (.tmp 5)) none), (.mk (some 23) (.move (.tmp 0)) none), (.mk (some 24) (.move (.tmp 6)) none), (.mk (some 25) (.indexAddr 35 (.tmp 23) (.tmp 24)) none), (.mk (some 26) (.load 3 (.tmp 25)) none), (.mk (some 27) (.call (.mk (.value (.func 13)) #[(.tmp 26)] #[3])) none), (.mk (some 28) (.buildSlice 36 1 #[(0, (.tmp 27))]) none), (.mk (some 29) (.call (.mk (.builtin (.append)) #[(.tmp 22), (.tmp 28)] #[36, 36])) none), (.mk (some 30) (.call (.mk (.value (.func 15)) #[(.tmp 29)] #[36])) none), (.mk (some 5) (.assign (.tmp 30)) none)])
def s5_6 : SCode := (.reg [(.mk (some 20) (.move (.tmp 6)) none), (.mk (some 21) (.binOp (.add) 3 (.tmp 20) (.const (.int (.i64) 1)) 3) none), (.mk (some 6) (.assign (.tmp 21)) none)])
def s5_7 : SCode := (.loop (.seq s5_4 (.seq (.block 1 s5_5) s5_6)))
def s5_8 : SCode := (.reg [(.mk (some 31) (.call (.mk (.value (.func 8)) #[] #[])) none), (.mk (some 32) (.unOp (.not) 4 (.tmp 31)) none), (.mk (some 33) (.move (.tmp 32)) none), (.mk (some 34) (.move (.tmp 5)) (some (33, false))), (.mk (some 35) (.call (.mk (.value (.func 15)) #[(.tmp 34)] #[36])) (some (33, false))), (.mk (some 36) (.move (.tmp 5)) (some (33, false))), (.mk (some 37) (.call (.mk (.value (.func 14)) #[(.tmp 35), (.tmp 36)] #[36, 36])) (some (33, false))), (.mk (some 38) (.unOp (.not) 4 (.tmp 37)) (some (33, false))), (.mk (some 39) (.pick (.tmp 33) (.const (.bool true)) (.tmp 38)) none)])
def s5_9 : SCode := (.reg [(.mk (some 4) (.assign (.const (.bool false))) none)])
def s5_10 : SCode := (.cond (.tmp 39) (.seq s5_9 (.ret)) (.skip))
def s5_11 : SCode := (.reg [(.mk (some 7) (.assign (.const (.int (.i64) 1))) none)])
def s5_12 : SCode := (.reg [(.mk (some 40) (.move (.tmp 7)) none), (.mk (some 41) (.move (.tmp 5)) none), (.mk (some 42) (.call (.mk (.builtin (.len)) #[(.tmp 41)] #[36])) none), (.mk (some 43) (.binOp (.lss) 3 (.tmp 40) (.tmp 42) 3) none)])
def s5_13 : SCode := (.seq s5_12 (.cond (.tmp 43) (.skip) (.exit 2)))
def s5_14 : SCode := (.drw [((.mk (some 46) (.move (.tmp 5)) none), 0), ((.mk (some 47) (.move (.tmp 7)) none), 0), ((.mk (some 48) (.binOp (.sub) 3 (.tmp 47) (.const (.int (.i64) 1)) 3) none), 0), ((.mk (some 49) (.indexAddr 36 (.tmp 46) (.tmp 48)) none), 0), ((.mk (some 50) (.load 23 (.tmp 49)) none), 0), ((.mk (some 51) (.move (.tmp 5)) none), 0), ((.mk (some 52) (.move (.tmp 7)) none), 0), ((.mk (some 53) (.indexAddr 36 (.tmp 51) (.tmp 52)) none), 0), ((.mk (some 54) (.load 23 (.tmp 53)) none), 0), ((.mk (some 55) (.call (.mk (.value (.func 12)) #[(.tmp 50), (.tmp 54)] #[23, 23])) none), 1), ((.mk (some 56) (.unOp (.not) 4 (.tmp 55)) none), 0), ((.mk (some 57) (.move (.tmp 56)) none), 0), ((.mk (some 58) (.move (.tmp 5)) (some (57, false))), 0), ((.mk (some 59) (.move (.tmp 7)) (some (57, false))), 0), ((.mk (some 60) (.indexAddr 36 (.tmp 58) (.tmp 59)) (some (57, false))), 0), ((.mk (some 61) (.load 23 (.tmp 60)) (some (57, false))), 0), ((.mk (some 62) (.move (.tmp 5)) (some (57, false))), 0), ((.mk (some 63) (.move (.tmp 7)) (some (57, false))), 0), ((.mk (some 64) (.binOp (.sub) 3 (.tmp 63) (.const (.int (.i64) 1)) 3) (some (57, false))), 0), ((.mk (some 65) (.indexAddr 36 (.tmp 62) (.tmp 64)) (some (57, false))), 0), ((.mk (some 66) (.load 23 (.tmp 65)) (some (57, false))), 0), ((.mk (some 67) (.call (.mk (.value (.func 12)) #[(.tmp 61), (.tmp 66)] #[23, 23])) (some (57, false))), 1), ((.mk (some 68) (.pick (.tmp 57) (.const (.bool true)) (.tmp 67)) none), 0), ((.mk (some 69) (.move (.tmp 68)) none), 0), ((.mk (some 70) (.move (.tmp 5)) (some (69, false))), 0), ((.mk (some 71) (.move (.tmp 7)) (some (69, false))), 0), ((.mk (some 72) (.binOp (.sub) 3 (.tmp 71) (.const (.int (.i64) 1)) 3) (some (69, false))), 0), ((.mk (some 73) (.indexAddr 36 (.tmp 70) (.tmp 72)) (some (69, false))), 0), ((.mk (some 74) (.load 23 (.tmp 73)) (some (69, false))), 0), ((.mk (some 76) (.move (.tmp 5)) (some (69, false))), 0), ((.mk (some 77) (.move (.tmp 7)) (some (69, false))), 0), ((.mk (some 78) (.indexAddr 36 (.tmp 76) (.tmp 77)) (some (69, false))), 0), ((.mk (some 79) (.load 23 (.tmp 78)) (some (69, false))), 0), ((.mk (some 75) (.call (.mk (.value (.func 6)) #[(.tmp 74)] #[23])) (some (69, false))), 2), ((.mk (some 80) (.call (.mk (.value (.func 6)) #[(.tmp 79)] #[23])) (some (69, false))), 1), ((.mk (some 81) (.binOp (.geq) 9 (.tmp 75) (.tmp 80) 9) (some (69, false))), 0), ((.mk (some 82) (.pick (.tmp 69) (.const (.bool true)) (.tmp 81)) none), 0)])
def s5_15 : SCode := (.reg [(.mk (some 4) (.assign (.const (.bool false))) none)])
def s5_16 : SCode := (.cond (.tmp 82) (.seq s5_15 (.ret)) (.skip))
def s5_17 : SCode := (.reg [(.mk (some 44) (.move (.tmp 7)) none), (.mk (some 45) (.binOp (.add) 3 (.tmp 44) (.const (.int (.i64) 1)) 3) none), (.mk (some 7) (.assign (.tmp 45)) none)])
def s5_18 : SCode := (.seq (.block 3 (.seq s5_14 s5_16)) s5_17)
def s5_19 : SCode := (.seq s5_11 (.block 2 (.loop (.seq s5_13 s5_18))))
def s5_20 : SCode := (.reg [(.mk (some 83) (.move (.tmp 5)) none), (.mk (some 84) (.call (.mk (.builtin (.len)) #[(.tmp 83)] #[36])) none), (.mk (some 85) (.binOp (.eql) 3 (.tmp 84) (.const (.int (.i64) 0)) 3) none)])
def s5_21 : SCode := (.reg [(.mk (some 4) (.assign (.const (.bool true))) none)])
def s5_22 : SCode := (.cond (.tmp 85) (.seq s5_21 (.ret)) (.skip))
def s5_23 : SCode := (.reg [(.mk (some 86) (.move (.tmp 5)) none), (.mk (some 87) (.move (.tmp 1)) none), (.mk (some 88) (.move (.tmp 5)) none), (.mk (some 89) (.call (.mk (.builtin (.len)) #[(.tmp 88)] #[36])) none), (.mk (some 90) (.call (.mk (.value (.func 11)) #[(.tmp 87), (.tmp 89)] #[3, 3])) none), (.mk (some 91) (.indexAddr 36 (.tmp 86) (.tmp 90)) none), (.mk (some 92) (.load 23 (.tmp 91)) none), (.mk (some 93) (.call (.mk (.value (.func 6)) #[(.tmp 92)] #[23])) none), (.mk (some 8) (.assign (.tmp 93)) none)])
def s5_24 : SCode := (.reg [(.mk (some 94) (.move (.tmp 8)) none), (.mk (some 95) (.call (.mk (.builtin (.len)) #[(.tmp 94)] #[9])) none), (.mk (some 96) (.binOp (.neq) 3 (.tmp 95) (.const (.int (.i64) 64)) 3) none)])
def s5_25 : SCode := (.reg [(.mk (some 4) (.assign (.const (.bool false))) none)])
def s5_26 : SCode := (.cond (.tmp 96) (.seq s5_25 (.ret)) (.skip))
def s5_27 : SCode := (.reg [(.mk (some 97) (.move (.tmp 8)) none), (.mk (some 98) (.move (.tmp 1)) none), (.mk (some 99) (.binOp (.quo) 3 (.tmp 98) (.const (.int (.i64) 30)) 3) none), (.mk (some 100) (.call (.mk (.value (.func 11)) #[(.tmp 99), (.const (.int (.i64) 65))] #[3, 3])) none), (.mk (some 101) (.slice 9 (.tmp 97) none (some (.tmp 100)) none) none), (.mk (some 8) (.assign (.tmp 101)) none)])
def s5_28 : SCode := (.reg [(.mk (some 9) (.assign (.const (.int (.i64) 0))) none)])
def s5_29 : SCode := (.reg [(.mk (some 10) (.assign (.const (.int (.i64) 0))) none)])
def s5_30 : SCode := (.reg [(.mk (some 102) (.move (.tmp 10)) none), (.mk (some 103) (.move (.tmp 5)) none), (.mk (some 104) (.call (.mk (.builtin (.len)) #[(.tmp 103)] #[36])) none), (.mk (some 105) (.binOp (.lss) 3 (.tmp 102) (.tmp 104) 3) none)])
def s5_31 : SCode := (.seq s5_30 (.cond (.tmp 105) (.skip) (.exit 4)))
def s5_32 : SCode := (.reg [(.mk (some 108) (.move (.tmp 5)) none), (.mk (some 109) (.move (.tmp 10)) none), (.mk (some 110) (.indexAddr 36 (.tmp 108) (.tmp 109)) none), (.mk (some 111) (.load 23 (.tmp 110)) none), (.mk (some 112) (.move (.tmp 8)) none), (.mk (some 113) (.call (.mk (.value (.func 10)) #[(.tmp 111), (.tmp 112)] #[23, 9])) none), (.mk (some 114) (.move (.tmp 113)) none), (.mk (some 115) (.move (.tmp 10)) (some (114, true))), (.mk (some 116) (.binOp (.eql) 3 (.tmp 115) (.const (.int (.i64) 0)) 3) (some (114, true))), (.mk (some 117) (.move (.tmp 116)) (some (114, true))), (.mk (some 118) (.move (.tmp 5)) (some (117, false))), (.mk (some 119) (.move (.tmp 10)) (some (117, false))), (.mk (some 120) (.binOp (.sub) 3 (.tmp 119) (.const (.int (.i64) 1)) 3) (some (117, false))), (.mk (some 121) (.indexAddr 36 (.tmp 118) (.tmp 120)) (some (117, false))), (.mk (some 122) (.load 23 (.tmp 121)) (some (117, false))), (.mk (some 123) (.move (.tmp 8)) (some (117, false))), (.mk (some 124) (.call (.mk (.value (.func 10)) #[(.tmp 122), (.tmp 123)] #[23, 9])) (some (117, false))), (.mk (some 125) (.unOp (.not) 4 (.tmp 124)) (some (117, false))), (.mk (some 126) (.pick (.tmp 117) (.const (.bool true)) (.tmp 125)) (some (114, true))), (.mk (some 127) (.pick (.tmp 114) (.tmp 126) (.const (.bool false))) none)])
def s5_33 : SCode := (.reg [(.mk (some 128) (.move (.tmp 9)) none), (.mk (some 129) (.binOp (.add) 3 (.tmp 128) (.const (.int (.i64) 1)) 3) none), (.mk (some 9) (.assign (.tmp 129)) none)])
def s5_34 : SCode := (.seq s5_32 (.cond (.tmp 127) s5_33 (.skip)))
def s5_35 : SCode := (.reg [(.mk (some 106) (.move (.tmp 10)) none), (.mk (some 107) (.binOp (.add) 3 (.tmp 106) (.const (.int (.i64) 1)) 3) none), (.mk (some 10) (.assign (.tmp 107)) none)])
def s5_36 : SCode := (.seq s5_31 (.seq (.block 5 s5_34) s5_35))
def s5_37 : SCode := (.reg [(.mk (some 130) (.move (.tmp 9)) none), (.mk (some 131) (.binOp (.eql) 3 (.tmp 130) (.const (.int (.i64) 1)) 3) none), (.mk (some 4) (.assign (.tmp 131)) none)])
def s5_38 : SCode := (.seq (.seq s5_29 (.block 4 (.loop s5_36))) (.seq s5_37 (.ret)))
def s5_39 : SCode := (.seq (.seq s5_24 s5_26) (.seq s5_27 (.seq s5_28 s5_38)))
def s5_40 : SCode := (.seq (.seq s5_20 s5_22) (.seq s5_23 s5_39))
def s5_41 : SCode := (.seq (.seq s5_8 s5_10) (.seq s5_19 s5_40))
def s5_42 : SCode := (.seq (.seq s5_2 (.block 0 s5_7)) s5_41)
def s5 : SCode := (.seq s5_0 (.seq s5_1 s5_42))
def e5 := And.intro s5_0.eq_1 <| And.intro s5_1.eq_1 <| And.intro s5_2.eq_1 <| And.intro s5_3.eq_1 <| And.intro s5_4.eq_1 <| And.intro s5_5.eq_1 <| And.intro s5_6.eq_1 <| And.intro s5_7.eq_1 <| And.intro s5_8.eq_1 <| And.intro s5_9.eq_1 <| And.intro s5_10.eq_1 <| And.intro s5_11.eq_1 <| And.intro s5_12.eq_1 <| And.intro s5_13.eq_1 <| And.intro s5_14.eq_1 <| And.intro s5_15.eq_1 <| And.intro s5_16.eq_1 <| And.intro s5_17.eq_1 <| And.intro s5_18.eq_1 <| And.intro s5_19.eq_1 <| And.intro s5_20.eq_1 <| And.intro s5_21.eq_1 <| And.intro s5_22.eq_1 <| And.intro s5_23.eq_1 <| And.intro s5_24.eq_1 <| And.intro s5_25.eq_1 <| And.intro s5_26.eq_1 <| And.intro s5_27.eq_1 <| And.intro s5_28.eq_1 <| And.intro s5_29.eq_1 <| And.intro s5_30.eq_1 <| And.intro s5_31.eq_1 <| And.intro s5_32.eq_1 <| And.intro s5_33.eq_1 <| And.intro s5_34.eq_1 <| And.intro s5_35.eq_1 <| And.intro s5_36.eq_1 <| And.intro s5_37.eq_1 <| And.intro s5_38.eq_1 <| And.intro s5_39.eq_1 <| And.intro s5_40.eq_1 <| And.intro s5_41.eq_1 <| s5_42.eq_1
theorem h5 : FnS Try.prog 5 ⟨[], [(11, [(0, 0), (1, 0), (2, 0), (3, 0), (4, 0), (5, 0), (6, 0), (7, 0), (8, 0), (9, 1), (10, 0), (11, 0), (12, 0), (13, 0), (14, 0), (15, 0), (16, 0), (17, 0), (18, 0), (19, 0), (20, 0), (21, 1), (22, 0), (23, 0), (24, 0), (25, 0), (26, 0), (27, 0), (28, 0), (30, 0), (31, 0), (32, 0), (33, 0), (29, 2), (34, 1), (35, 0), (36, 0)])]⟩ 132 [(.tmp 4)] s5 := .mk' Try.func5 (by kernel_rfl) (by kernel_rfl) (by kernel_rfl) (by kernel_rfl) (by kernel_rfl) (by kernel_rfl)
def s6_0 : SCode := (.reg [(.mk (some 1) (.box 23 (.tmp 0)) none), (.mk (some 2) (.assign (.const (.string (.mk #[])))) none)])
def s6_1 : SCode := (.reg [(.mk (some 3) (.alloc 45) none)])
def s6_2 : SCode := (.reg [(.mk (some 6) (.load 23 (.tmp 1)) none), (.mk (some 7) (.move (.const (.int (.i64) 0))) none)])
def s6_3 : SCode := (.reg [(.mk (some 8) (.binOp (.lss) 3 (.tmp 7) (.const (.int (.i64) 32)) 3) none)])
def s6_4 : SCode := (.reg [(.mk (some 9) (.index 23 (.tmp 6) (.tmp 7)) none), (.mk (some 5) (.assign (.tmp 9)) none)])
def s6_5 : SCode := (.reg [(.mk (some 10) (.move (.tmp 5)) none), (.mk (some 11) (.binOp (.shr) 5 (.tmp 10) (.const (.int (.u64) 4)) 47) none), (.mk (some 12) (.index 9 (.const (.string (.mk #[48, 49, 50, 51, 52, 53, 54, 55, 56, 57, 97, 98, 99, 100, 101, 102]))) (.tmp 11)) none), (.mk (some 13) (.call (.mk (.value (.func 17)) #[(.tmp 3), (.tmp 12)] #[45, 5])) none)])
def s6_6 : SCode := (.reg [(.mk (some 14) (.move (.tmp 5)) none), (.mk (some 15) (.binOp (.and) 5 (.tmp 14) (.const (.int (.u8) 15)) 5) none), (.mk (some 16) (.index 9 (.const (.string (.mk #[48, 49, 50, 51, 52, 53, 54, 55, 56, 57, 97, 98, 99, 100, 101, 102]))) (.tmp 15)) none), (.mk (some 17) (.call (.mk (.value (.func 17)) #[(.tmp 3), (.tmp 16)] #[45, 5])) none)])
def s6_7 : SCode := (.reg [(.mk (some 18) (.binOp (.add) 3 (.tmp 7) (.const (.int (.i64) 1)) 3) none), (.mk (some 7) (.move (.tmp 18)) none)])
def s6_8 : SCode := (.seq (.block 1 (.seq s6_4 (.seq s6_5 s6_6))) s6_7)
def s6_9 : SCode := (.seq (.cond (.tmp 8) (.skip) (.exit 0)) s6_8)
def s6_10 : SCode := (.seq s6_2 (.block 0 (.loop (.seq s6_3 s6_9))))
def s6_11 : SCode := (.reg [(.mk (some 19) (.call (.mk (.value (.func 18)) #[(.tmp 3)] #[45])) none), (.mk (some 2) (.assign (.tmp 19)) none)])
def s6_12 : SCode := (.seq s6_1 (.seq s6_10 (.seq s6_11 (.ret))))
def s6 : SCode := (.seq s6_0 s6_12)
def e6 := And.intro s6_0.eq_1 <| And.intro s6_1.eq_1 <| And.intro s6_2.eq_1 <| And.intro s6_3.eq_1 <| And.intro s6_4.eq_1 <| And.intro s6_5.eq_1 <| And.intro s6_6.eq_1 <| And.intro s6_7.eq_1 <| And.intro s6_8.eq_1 <| And.intro s6_9.eq_1 <| And.intro s6_10.eq_1 <| And.intro s6_11.eq_1 <| s6_12.eq_1
theorem h6 : FnS Try.prog 6 ⟨[1], []⟩ 20 [(.tmp 2)] s6 := .mk' Try.func6 (by kernel_rfl) (by kernel_rfl) (by kernel_rfl) (by kernel_rfl) (by kernel_rfl) (by kernel_rfl)
def s7_0 : SCode := (.reg [(.mk (some 2) (.alloc 23) none), (.mk (some 3) (.assign (.const (.nilIface))) none)])
def s7_1 : SCode := (.reg [(.mk (some 4) (.alloc 23) none)])
def s7_2 : SCode := (.reg [(.mk (some 6) (.move (.tmp 0)) none), (.mk (some 7) (.call (.mk (.builtin (.len)) #[(.tmp 6)] #[9])) none), (.mk (some 8) (.binOp (.neq) 3 (.tmp 7) (.const (.int (.i64) 64)) 3) none), (.mk (some 9) (.move (.tmp 8)) none), (.mk (some 10) (.move (.tmp 0)) (some (9, false))), (.mk (some 11) (.call (.mk (.value (.func 9)) #[(.tmp 10)] #[9])) (some (9, false))), (.mk (some 12) (.unOp (.not) 4 (.tmp 11)) (some (9, false))), (.mk (some 13) (.pick (.tmp 9) (.const (.bool true)) (.tmp 12)) none)])
def s7_3 : SCode := (.reg [(.mk (some 14) (.load 23 (.tmp 4)) none), (.mk (some 15) (.makeInterface 49 (.const (.int (.i64) 2))) none), (.mk none (.store 23 (.tmp 2) (.tmp 14)) none), (.mk (some 3) (.assign (.tmp 15)) none)])
def s7_4 : SCode := (.cond (.tmp 13) (.seq s7_3 (.ret)) (.skip))
def s7_5 : SCode := (.reg [(.mk (some 16) (.move (.const (.int (.i64) 0))) none)])
def s7_6 : SCode := (.reg [(.mk (some 17) (.binOp (.lss) 3 (.tmp 16) (.const (.int (.i64) 32)) 3) none)])
def s7_7 : SCode := (.reg [(.mk (some 18) (.move (.tmp 16)) none), (.mk (some 5) (.assign (.tmp 18)) none)])
def s7_8 : SCode := (.drw [((.mk (some 19) (.move (.tmp 5)) none), 0), ((.mk (some 20) (.move (.tmp 0)) none), 0), ((.mk (some 21) (.move (.tmp 5)) none), 0), ((.mk (some 22) (.binOp (.mul) 3 (.const (.int (.i64) 2)) (.tmp 21) 3) none), 0), ((.mk (some 23) (.index 9 (.tmp 20) (.tmp 22)) none), 0), ((.mk (some 26) (.move (.tmp 0)) none), 0), ((.mk (some 27) (.move (.tmp 5)) none), 0), ((.mk (some 28) (.binOp (.mul) 3 (.const (.int (.i64) 2)) (.tmp 27) 3) none), 0), ((.mk (some 29) (.binOp (.add) 3 (.tmp 28) (.const (.int (.i64) 1)) 3) none), 0), ((.mk (some 30) (.index 9 (.tmp 26) (.tmp 29)) none), 0), ((.mk (some 24) (.call (.mk (.value (.func 19)) #[(.tmp 23)] #[5])) none), 1), ((.mk (some 25) (.binOp (.shl) 3 (.tmp 24) (.const (.int (.u64) 4)) 47) none), 0), ((.mk (some 31) (.call (.mk (.value (.func 19)) #[(.tmp 30)] #[5])) none), 1), ((.mk (some 32) (.binOp (.or) 3 (.tmp 25) (.tmp 31) 3) none), 0), ((.mk (some 33) (.convert 3 5 (.tmp 32)) none), 0), ((.mk (some 34) (.indexAddr 23 (.tmp 4) (.tmp 19)) none), 0), ((.mk none (.store 5 (.tmp 34) (.tmp 33)) none), 1)])
def s7_9 : SCode := (.reg [(.mk (some 35) (.binOp (.add) 3 (.tmp 16) (.const (.int (.i64) 1)) 3) none), (.mk (some 16) (.move (.tmp 35)) none)])
def s7_10 : SCode := (.seq (.cond (.tmp 17) (.skip) (.exit 0)) (.seq (.block 1 (.seq s7_7 s7_8)) s7_9))
def s7_11 : SCode := (.seq s7_5 (.block 0 (.loop (.seq s7_6 s7_10))))
def s7_12 : SCode := (.reg [(.mk (some 36) (.load 23 (.tmp 4)) none), (.mk none (.store 23 (.tmp 2) (.tmp 36)) none), (.mk (some 3) (.assign (.const (.nilIface))) none)])
def s7_13 : SCode := (.seq (.seq s7_2 s7_4) (.seq s7_11 (.seq s7_12 (.ret))))
def s7 : SCode := (.seq s7_0 (.seq s7_1 s7_13))
def e7 := And.intro s7_0.eq_1 <| And.intro s7_1.eq_1 <| And.intro s7_2.eq_1 <| And.intro s7_3.eq_1 <| And.intro s7_4.eq_1 <| And.intro s7_5.eq_1 <| And.intro s7_6.eq_1 <| And.intro s7_7.eq_1 <| And.intro s7_8.eq_1 <| And.intro s7_9.eq_1 <| And.intro s7_10.eq_1 <| And.intro s7_11.eq_1 <| And.intro s7_12.eq_1 <| s7_13.eq_1
theorem h7 : FnS Try.prog 7 ⟨[], [(7, [(0, 0), (1, 0), (2, 0), (3, 0), (4, 0), (7, 0), (8, 0), (9, 0), (10, 0), (11, 0), (5, 1), (6, 0), (12, 1), (13, 0), (14, 0), (15, 0), (16, 1)])]⟩ 37 [(.cell 2 23), (.tmp 3)] s7 := .mk' Try.func7 (by kernel_rfl) (by kernel_rfl) (by kernel_rfl) (by kernel_rfl) (by kernel_rfl) (by kernel_rfl)
def s8_0 : SCode := (.reg [(.mk (some 0) (.assign (.const (.bool false))) none)])
def s8_1 : SCode := (.reg [(.mk (some 1) (.call (.mk (.value (.func 9)) #[(.const (.string (.mk #[100, 101, 97, 100])))] #[9])) none), (.mk (some 2) (.move (.tmp 1)) none), (.mk (some 3) (.call (.mk (.value (.func 9)) #[(.const (.string (.mk #[68, 101, 97, 100])))] #[9])) (some (2, true))), (.mk (some 4) (.unOp (.not) 4 (.tmp 3)) (some (2, true))), (.mk (some 5) (.pick (.tmp 2) (.tmp 4) (.const (.bool false))) none), (.mk (some 6) (.move (.tmp 5)) none), (.mk (some 7) (.call (.mk (.value (.func 9)) #[(.const (.string (.mk #[])))] #[9])) (some (6, true))), (.mk (some 8) (.unOp (.not) 4 (.tmp 7)) (some (6, true))), (.mk (some 9) (.pick (.tmp 6) (.tmp 8) (.const (.bool false))) none), (.mk (some 10) (.move (.tmp 9)) none), (.mk (some 11) (.call (.mk (.value (.func 19)) #[(.const (.int (.u8) 97))] #[5])) (some (10, true))), (.mk (some 12) (.binOp (.eql) 3 (.tmp 11) (.const (.int (.i64) 10)) 3) (some (10, true))), (.mk (some 13) (.pick (.tmp 10) (.tmp 12) (.const (.bool false))) none), (.mk (some 0) (.assign (.tmp 13)) none)])
def s8 : SCode := (.seq s8_0 (.seq s8_1 (.ret)))
def e8 := And.intro s8_0.eq_1 <| s8_1.eq_1
theorem h8 : FnS Try.prog 8 ⟨[], []⟩ 14 [(.tmp 0)] s8 := .mk' Try.func8 (by kernel_rfl) (by kernel_rfl) (by kernel_rfl) (by kernel_rfl) (by kernel_rfl) (by kernel_rfl)
def s9_0 : SCode := (.reg [(.mk (some 2) (.assign (.const (.bool false))) none)])
def s9_1 : SCode := (.reg [(.mk (some 5) (.move (.tmp 0)) none), (.mk (some 6) (.convert 9 43 (.tmp 5)) none), (.mk (some 7) (.call (.mk (.builtin (.len)) #[(.tmp 6)] #[43])) none), (.mk (some 8) (.move (.const (.int (.i64) 0))) none)])
def s9_2 : SCode := (.reg [(.mk (some 9) (.binOp (.lss) 3 (.tmp 8) (.tmp 7) 3) none)])
def s9_3 : SCode := (.reg [(.mk (some 10) (.indexAddr 43 (.tmp 6) (.tmp 8)) none), (.mk (some 11) (.load 5 (.tmp 10)) none), (.mk (some 4) (.assign (.tmp 11)) none)])
def s9_4 : SCode := (.reg [(.mk (some 12) (.move (.tmp 4)) none), (.mk (some 13) (.call (.mk (.value (.func 19)) #[(.tmp 12)] #[5])) none), (.mk (some 14) (.binOp (.lss) 3 (.tmp 13) (.const (.int (.i64) 0)) 3) none)])
def s9_5 : SCode := (.reg [(.mk (some 2) (.assign (.const (.bool false))) none)])
def s9_6 : SCode := (.cond (.tmp 14) (.seq s9_5 (.ret)) (.skip))
def s9_7 : SCode := (.reg [(.mk (some 15) (.binOp (.add) 3 (.tmp 8) (.const (.int (.i64) 1)) 3) none), (.mk (some 8) (.move (.tmp 15)) none)])
def s9_8 : SCode := (.seq (.block 1 (.seq s9_3 (.seq s9_4 s9_6))) s9_7)
def s9_9 : SCode := (.seq (.cond (.tmp 9) (.skip) (.exit 0)) s9_8)
def s9_10 : SCode := (.seq s9_1 (.block 0 (.loop (.seq s9_2 s9_9))))
def s9_11 : SCode := (.reg [(.mk (some 16) (.move (.tmp 0)) none), (.mk (some 17) (.binOp (.neq) 9 (.tmp 16) (.const (.string (.mk #[]))) 9) none), (.mk (some 18) (.move (.tmp 17)) none), (.mk (some 19) (.move (.tmp 0)) (some (18, true))), (.mk (some 20) (.call (.mk (.builtin (.len)) #[(.tmp 19)] #[9])) (some (18, true))), (.mk (some 21) (.binOp (.leq) 3 (.tmp 20) (.const (.int (.i64) 64)) 3) (some (18, true))), (.mk (some 22) (.pick (.tmp 18) (.tmp 21) (.const (.bool false))) none), (.mk (some 2) (.assign (.tmp 22)) none)])
def s9 : SCode := (.seq s9_0 (.seq s9_10 (.seq s9_11 (.ret))))
def e9 := And.intro s9_0.eq_1 <| And.intro s9_1.eq_1 <| And.intro s9_2.eq_1 <| And.intro s9_3.eq_1 <| And.intro s9_4.eq_1 <| And.intro s9_5.eq_1 <| And.intro s9_6.eq_1 <| And.intro s9_7.eq_1 <| And.intro s9_8.eq_1 <| And.intro s9_9.eq_1 <| And.intro s9_10.eq_1 <| s9_11.eq_1
theorem h9 : FnS Try.prog 9 ⟨[], []⟩ 23 [(.tmp 2)] s9 := .mk' Try.func9 (by kernel_rfl) (by kernel_rfl) (by kernel_rfl) (by kernel_rfl) (by kernel_rfl) (by kernel_rfl)
def s10_0 : SCode := (.reg [(.mk (some 2) (.box 23 (.tmp 0)) none), (.mk (some 4) (.assign (.const (.bool false))) none)])
def s10_1 : SCode := (.reg [(.mk (some 5) (.load 23 (.tmp 2)) none), (.mk (some 6) (.call (.mk (.value (.func 6)) #[(.tmp 5)] #[23])) none), (.mk (some 7) (.move (.tmp 1)) none), (.mk (some 8) (.call (.mk (.value (.func 20)) #[(.tmp 6), (.tmp 7)] #[9, 9])) none), (.mk (some 4) (.assign (.tmp 8)) none)])
def s10 : SCode := (.seq s10_0 (.seq s10_1 (.ret)))
def e10 := And.intro s10_0.eq_1 <| s10_1.eq_1
theorem h10 : FnS Try.prog 10 ⟨[2], []⟩ 9 [(.tmp 4)] s10 := .mk' Try.func10 (by kernel_rfl) (by kernel_rfl) (by kernel_rfl) (by kernel_rfl) (by kernel_rfl) (by kernel_rfl)
def s11_0 : SCode := (.reg [(.mk (some 4) (.assign (.const (.int (.i64) 0))) none)])
def s11_1 : SCode := (.reg [(.mk (some 5) (.move (.tmp 0)) none), (.mk (some 6) (.move (.tmp 1)) none), (.mk (some 7) (.binOp (.rem) 3 (.tmp 5) (.tmp 6) 3) none), (.mk (some 0) (.assign (.tmp 7)) none)])
def s11_2 : SCode := (.reg [(.mk (some 8) (.move (.tmp 0)) none), (.mk (some 9) (.binOp (.lss) 3 (.tmp 8) (.const (.int (.i64) 0)) 3) none)])
def s11_3 : SCode := (.reg [(.mk (some 10) (.move (.tmp 0)) none), (.mk (some 11) (.move (.tmp 1)) none), (.mk (some 12) (.binOp (.add) 3 (.tmp 10) (.tmp 11) 3) none), (.mk (some 0) (.assign (.tmp 12)) none)])
def s11_4 : SCode := (.seq s11_2 (.cond (.tmp 9) s11_3 (.skip)))
def s11_5 : SCode := (.reg [(.mk (some 13) (.move (.tmp 0)) none), (.mk (some 4) (.assign (.tmp 13)) none)])
def s11_6 : SCode := (.seq s11_1 (.seq s11_4 (.seq s11_5 (.ret))))
def s11 : SCode := (.seq s11_0 s11_6)
def e11 := And.intro s11_0.eq_1 <| And.intro s11_1.eq_1 <| And.intro s11_2.eq_1 <| And.intro s11_3.eq_1 <| And.intro s11_4.eq_1 <| And.intro s11_5.eq_1 <| s11_6.eq_1
theorem h11 : FnS Try.prog 11 ⟨[], []⟩ 14 [(.tmp 4)] s11 := .mk' Try.func11 (by kernel_rfl) (by kernel_rfl) (by kernel_rfl) (by kernel_rfl) (by kernel_rfl) (by kernel_rfl)
def s12_0 : SCode := (.reg [(.mk (some 2) (.box 23 (.tmp 0)) none), (.mk (some 3) (.box 23 (.tmp 1)) none), (.mk (some 4) (.assign (.const (.bool false))) none)])
def s12_1 : SCode := (.drw [((.mk (some 5) (.slice 23 (.tmp 2) none none none) none), 0), ((.mk (some 6) (.slice 23 (.tmp 3) none none none) none), 0), ((.mk (some 7) (.call (.mk (.value (.func 21)) #[(.tmp 5), (.tmp 6)] #[43, 43])) none), 1), ((.mk (some 8) (.binOp (.lss) 3 (.tmp 7) (.const (.int (.i64) 0)) 3) none), 0), ((.mk (some 4) (.assign (.tmp 8)) none), 0)])
def s12 : SCode := (.seq s12_0 (.seq s12_1 (.ret)))
def e12 := And.intro s12_0.eq_1 <| s12_1.eq_1
theorem h12 : FnS Try.prog 12 ⟨[2, 3], [(1, [(0, 0), (1, 0), (2, 1), (3, 0), (4, 0)])]⟩ 9 [(.tmp 4)] s12 := .mk' Try.func12 (by kernel_rfl) (by kernel_rfl) (by kernel_rfl) (by kernel_rfl) (by kernel_rfl) (by kernel_rfl)
def s13_0 : SCode := (.reg [(.mk (some 2) (.alloc 23) none)])
def s13_1 : SCode := (.reg [(.mk (some 4) (.move (.tmp 0)) none), (.mk (some 5) (.call (.mk (.value (.func 11)) #[(.tmp 4), (.const (.int (.i64) 60))] #[3, 3])) none), (.mk (some 0) (.assign (.tmp 5)) none)])
def s13_2 : SCode := (.reg [(.mk (some 3) (.alloc 23) none)])
def s13_3 : SCode := (.reg [(.mk (some 6) (.build 53 #[(0, (.const (.int (.u8) 171))), (1, (.const (.int (.u8) 171))), (2, (.const (.int (.u8) 160))), (3, (.const (.int (.u8) 18))), (4, (.const (.int (.u8) 254))), (5, (.const (.int (.u8) 171)))]) none), (.mk (some 7) (.move (.tmp 0)) none), (.mk (some 8) (.binOp (.rem) 3 (.tmp 7) (.const (.int (.i64) 6)) 3) none), (.mk (some 9) (.index 53 (.tmp 6) (.tmp 8)) none), (.mk (some 10) (.indexAddr 23 (.tmp 3) (.const (.int (.i64) 0))) none), (.mk none (.store 5 (.tmp 10) (.tmp 9)) none)])
def s13_4 : SCode := (.reg [(.mk (some 11) (.move (.tmp 0)) none), (.mk (some 12) (.binOp (.quo) 3 (.tmp 11) (.const (.int (.i64) 6)) 3) none), (.mk (some 13) (.binOp (.mul) 3 (.tmp 12) (.const (.int (.i64) 16)) 3) none), (.mk (some 14) (.convert 3 5 (.tmp 13)) none), (.mk (some 15) (.indexAddr 23 (.tmp 3) (.const (.int (.i64) 1))) none), (.mk none (.store 5 (.tmp 15) (.tmp 14)) none)])
def s13_5 : SCode := (.reg [(.mk (some 16) (.move (.tmp 0)) none), (.mk (some 17) (.binOp (.mul) 3 (.tmp 16) (.const (.int (.i64) 7)) 3) none), (.mk (some 18) (.convert 3 5 (.tmp 17)) none), (.mk (some 19) (.indexAddr 23 (.tmp 3) (.const (.int (.i64) 2))) none), (.mk none (.store 5 (.tmp 19) (.tmp 18)) none)])
def s13_6 : SCode := (.reg [(.mk (some 20) (.move (.tmp 0)) none), (.mk (some 21) (.convert 3 5 (.tmp 20)) none), (.mk (some 22) (.indexAddr 23 (.tmp 3) (.const (.int (.i64) 31))) none), (.mk none (.store 5 (.tmp 22) (.tmp 21)) none)])
def s13_7 : SCode := (.reg [(.mk (some 23) (.load 23 (.tmp 3)) none), (.mk none (.store 23 (.tmp 2) (.tmp 23)) none)])
def s13_8 : SCode := (.seq s13_5 (.seq s13_6 (.seq s13_7 (.ret))))
def s13_9 : SCode := (.seq s13_2 (.seq s13_3 (.seq s13_4 s13_8)))
def s13 : SCode := (.seq s13_0 (.seq s13_1 s13_9))
def e13 := And.intro s13_0.eq_1 <| And.intro s13_1.eq_1 <| And.intro s13_2.eq_1 <| And.intro s13_3.eq_1 <| And.intro s13_4.eq_1 <| And.intro s13_5.eq_1 <| And.intro s13_6.eq_1 <| And.intro s13_7.eq_1 <| And.intro s13_8.eq_1 <| s13_9.eq_1
theorem h13 : FnS Try.prog 13 ⟨[], []⟩ 24 [(.cell 2 23)] s13 := .mk' Try.func13 (by kernel_rfl) (by kernel_rfl) (by kernel_rfl) (by kernel_rfl) (by kernel_rfl) (by kernel_rfl)
def s14_0 : SCode := (.reg [(.mk (some 4) (.assign (.const (.bool false))) none)])
def s14_1 : SCode := (.reg [(.mk (some 6) (.move (.tmp 0)) none), (.mk (some 7) (.call (.mk (.builtin (.len)) #[(.tmp 6)] #[36])) none), (.mk (some 8) (.move (.tmp 1)) none), (.mk (some 9) (.call (.mk (.builtin (.len)) #[(.tmp 8)] #[36])) none), (.mk (some 10) (.binOp (.neq) 3 (.tmp 7) (.tmp 9) 3) none)])
def s14_2 : SCode := (.reg [(.mk (some 4) (.assign (.const (.bool false))) none)])
def s14_3 : SCode := (.cond (.tmp 10) (.seq s14_2 (.ret)) (.skip))
def s14_4 : SCode := (.reg [(.mk (some 5) (.assign (.const (.int (.i64) 0))) none)])
def s14_5 : SCode := (.reg [(.mk (some 11) (.move (.tmp 5)) none), (.mk (some 12) (.move (.tmp 0)) none), (.mk (some 13) (.call (.mk (.builtin (.len)) #[(.tmp 12)] #[36])) none), (.mk (some 14) (.binOp (.lss) 3 (.tmp 11) (.tmp 13) 3) none)])
def s14_6 : SCode := (.seq s14_5 (.cond (.tmp 14) (.skip) (.exit 0)))
def s14_7 : SCode := (.drw [((.mk (some 17) (.move (.tmp 0)) none), 0), ((.mk (some 18) (.move (.tmp 5)) none), 0), ((.mk (some 19) (.indexAddr 36 (.tmp 17) (.tmp 18)) none), 0), ((.mk (some 20) (.load 23 (.tmp 19)) none), 0), ((.mk (some 21) (.move (.tmp 1)) none), 0), ((.mk (some 22) (.move (.tmp 5)) none), 0), ((.mk (some 23) (.indexAddr 36 (.tmp 21) (.tmp 22)) none), 0), ((.mk (some 24) (.load 23 (.tmp 23)) none), 0), ((.mk (some 25) (.binOp (.neq) 23 (.tmp 20) (.tmp 24) 23) none), 0)])
def s14_8 : SCode := (.reg [(.mk (some 4) (.assign (.const (.bool false))) none)])
def s14_9 : SCode := (.cond (.tmp 25) (.seq s14_8 (.ret)) (.skip))
def s14_10 : SCode := (.reg [(.mk (some 15) (.move (.tmp 5)) none), (.mk (some 16) (.binOp (.add) 3 (.tmp 15) (.const (.int (.i64) 1)) 3) none), (.mk (some 5) (.assign (.tmp 16)) none)])
def s14_11 : SCode := (.seq (.block 1 (.seq s14_7 s14_9)) s14_10)
def s14_12 : SCode := (.seq s14_4 (.block 0 (.loop (.seq s14_6 s14_11))))
def s14_13 : SCode := (.reg [(.mk (some 4) (.assign (.const (.bool true))) none)])
def s14_14 : SCode := (.seq (.seq s14_1 s14_3) (.seq s14_12 (.seq s14_13 (.ret))))
def s14 : SCode := (.seq s14_0 s14_14)
def e14 := And.intro s14_0.eq_1 <| And.intro s14_1.eq_1 <| And.intro s14_2.eq_1 <| And.intro s14_3.eq_1 <| And.intro s14_4.eq_1 <| And.intro s14_5.eq_1 <| And.intro s14_6.eq_1 <| And.intro s14_7.eq_1 <| And.intro s14_8.eq_1 <| And.intro s14_9.eq_1 <| And.intro s14_10.eq_1 <| And.intro s14_11.eq_1 <| And.intro s14_12.eq_1 <| And.intro s14_13.eq_1 <| s14_14.eq_1
theorem h14 : FnS Try.prog 14 ⟨[], [(6, [(0, 0), (1, 0), (2, 0), (3, 0), (4, 0), (5, 0), (6, 0), (7, 0), (8, 0)])]⟩ 26 [(.tmp 4)] s14 := .mk' Try.func14 (by kernel_rfl) (by kernel_rfl) (by kernel_rfl) (by kernel_rfl) (by kernel_rfl) (by kernel_rfl)
def s15_0 : SCode := (.reg [(.mk (some 2) (.assign (.const (.slice none 0 0))) none)])
def s15_1 : SCode := (.reg [(.mk (some 4) (.move (.tmp 0)) none), (.mk (some 5) (.call (.mk (.value (.func 22)) #[(.tmp 4)] #[36])) none), (.mk (some 3) (.assign (.tmp 5)) none)])
def s15_2 : SCode := (.reg [(.mk (some 6) (.move (.tmp 3)) none), (.mk (some 7) (.call (.mk (.value (.func 23)) #[(.tmp 6), (.func 24)] #[36, 55])) none)])
def s15_3 : SCode := (.reg [(.mk (some 8) (.move (.tmp 3)) none), (.mk (some 9) (.call (.mk (.value (.func 25)) #[(.tmp 8)] #[36])) none), (.mk (some 2) (.assign (.tmp 9)) none)])
def s15_4 : SCode := (.seq s15_1 (.seq s15_2 (.seq s15_3 (.ret))))
def s15 : SCode := (.seq s15_0 s15_4)
def e15 := And.intro s15_0.eq_1 <| And.intro s15_1.eq_1 <| And.intro s15_2.eq_1 <| And.intro s15_3.eq_1 <| s15_4.eq_1
theorem h15 : FnS Try.prog 15 ⟨[], []⟩ 10 [(.tmp 2)] s15 := .mk' Try.func15 (by kernel_rfl) (by kernel_rfl) (by kernel_rfl) (by kernel_rfl) (by kernel_rfl) (by kernel_rfl)
def s16_0 : SCode := (.reg [(.mk (some 2) (.assign (.const (.slice none 0 0))) none)])
def s16_1 : SCode := (.reg [(.mk (some 3) (.assign (.const (.slice none 0 0))) none)])
def s16_2 : SCode := (.reg [(.mk (some 4) (.assign (.const (.int (.i64) 0))) none)])
def s16_3 : SCode := (.reg [(.mk (some 5) (.move (.tmp 4)) none), (.mk (some 6) (.move (.tmp 0)) none), (.mk (some 7) (.call (.mk (.builtin (.len)) #[(.tmp 6)] #[36])) none), (.mk (some 8) (.binOp (.lss) 3 (.tmp 5) (.tmp 7) 3) none)])
def s16_4 : SCode := (.seq s16_3 (.cond (.tmp 8) (.skip) (.exit 0)))
def s16_5 : SCode := (.reg [(.mk (some 11) (.move (.tmp 3)) none), (.mk (some 12) (.move (.tmp 0)) none), (.mk (some 13) (.move (.tmp 4)) none), (.mk (some 14) (.indexAddr 36 (.tmp 12) (.tmp 13)) none), (.mk (some 15) (.load 23 (.tmp 14)) none), (.mk (some 16) (.call (.mk (.value (.func 26)) #[(.tmp 11), (.tmp 15)] #[36, 23])) none), (.mk (some 3) (.assign (.tmp 16)) none)])
def s16_6 : SCode := (.reg [(.mk (some 9) (.move (.tmp 4)) none), (.mk (some 10) (.binOp (.add) 3 (.tmp 9) (.const (.int (.i64) 1)) 3) none), (.mk (some 4) (.assign (.tmp 10)) none)])
def s16_7 : SCode := (.seq s16_4 (.seq (.block 1 s16_5) s16_6))
def s16_8 : SCode := (.reg [(.mk (some 17) (.move (.tmp 3)) none), (.mk (some 2) (.assign (.tmp 17)) none)])
def s16_9 : SCode := (.seq (.seq s16_2 (.block 0 (.loop s16_7))) (.seq s16_8 (.ret)))
def s16 : SCode := (.seq s16_0 (.seq s16_1 s16_9))
def e16 := And.intro s16_0.eq_1 <| And.intro s16_1.eq_1 <| And.intro s16_2.eq_1 <| And.intro s16_3.eq_1 <| And.intro s16_4.eq_1 <| And.intro s16_5.eq_1 <| And.intro s16_6.eq_1 <| And.intro s16_7.eq_1 <| And.intro s16_8.eq_1 <| s16_9.eq_1
theorem h16 : FnS Try.prog 16 ⟨[], []⟩ 18 [(.tmp 2)] s16 := .mk' Try.func16 (by kernel_rfl) (by kernel_rfl) (by kernel_rfl) (by kernel_rfl) (by kernel_rfl) (by kernel_rfl)
def s19_0 : SCode := (.reg [(.mk (some 2) (.assign (.const (.int (.i64) 0))) none)])
def s19_1 : SCode := (.reg [(.mk (some 4) (.move (.tmp 0)) none), (.mk (some 5) (.binOp (.geq) 5 (.tmp 4) (.const (.int (.u8) 48)) 5) none), (.mk (some 6) (.move (.tmp 5)) none), (.mk (some 7) (.move (.tmp 0)) (some (6, true))), (.mk (some 8) (.binOp (.leq) 5 (.tmp 7) (.const (.int (.u8) 57)) 5) (some (6, true))), (.mk (some 9) (.pick (.tmp 6) (.tmp 8) (.const (.bool false))) none), (.mk (some 3) (.assign (.tmp 9)) none)])
def s19_2 : SCode := (.reg [(.mk (some 10) (.move (.tmp 0)) none), (.mk (some 11) (.binOp (.sub) 5 (.tmp 10) (.const (.int (.u8) 48)) 5) none), (.mk (some 12) (.convert 5 3 (.tmp 11)) none), (.mk (some 2) (.assign (.tmp 12)) none)])
def s19_3 : SCode := (.reg [(.mk (some 14) (.move (.tmp 0)) none), (.mk (some 15) (.binOp (.geq) 5 (.tmp 14) (.const (.int (.u8) 97)) 5) none), (.mk (some 16) (.move (.tmp 15)) none), (.mk (some 17) (.move (.tmp 0)) (some (16, true))), (.mk (some 18) (.binOp (.leq) 5 (.tmp 17) (.const (.int (.u8) 102)) 5) (some (16, true))), (.mk (some 19) (.pick (.tmp 16) (.tmp 18) (.const (.bool false))) none), (.mk (some 13) (.assign (.tmp 19)) none)])
def s19_4 : SCode := (.reg [(.mk (some 20) (.move (.tmp 0)) none), (.mk (some 21) (.binOp (.sub) 5 (.tmp 20) (.const (.int (.u8) 97)) 5) none), (.mk (some 22) (.convert 5 3 (.tmp 21)) none), (.mk (some 23) (.binOp (.add) 3 (.tmp 22) (.const (.int (.i64) 10)) 3) none), (.mk (some 2) (.assign (.tmp 23)) none)])
def s19_5 : SCode := (.cond (.tmp 13) (.seq s19_4 (.ret)) (.skip))
def s19_6 : SCode := (.cond (.tmp 3) (.seq s19_2 (.ret)) (.seq s19_3 s19_5))
def s19_7 : SCode := (.reg [(.mk (some 2) (.assign (.const (.int (.i64) (-1)))) none)])
def s19_8 : SCode := (.seq (.block 0 (.seq s19_1 s19_6)) (.seq s19_7 (.ret)))
def s19 : SCode := (.seq s19_0 s19_8)
def e19 := And.intro s19_0.eq_1 <| And.intro s19_1.eq_1 <| And.intro s19_2.eq_1 <| And.intro s19_3.eq_1 <| And.intro s19_4.eq_1 <| And.intro s19_5.eq_1 <| And.intro s19_6.eq_1 <| And.intro s19_7.eq_1 <| s19_8.eq_1
theorem h19 : FnS Try.prog 19 ⟨[], []⟩ 24 [(.tmp 2)] s19 := .mk' Try.func19 (by kernel_rfl) (by kernel_rfl) (by kernel_rfl) (by kernel_rfl) (by kernel_rfl) (by kernel_rfl)
def s20_0 : SCode := (.reg [(.mk (some 4) (.assign (.const (.bool false))) none)])
def s20_1 : SCode := (.reg [(.mk (some 5) (.move (.tmp 0)) none), (.mk (some 6) (.move (.tmp 1)) none), (.mk (some 7) (.call (.mk (.value (.func 28)) #[(.tmp 5), (.tmp 6)] #[9, 9])) none), (.mk (some 4) (.assign (.tmp 7)) none)])
def s20 : SCode := (.seq s20_0 (.seq s20_1 (.ret)))
def e20 := And.intro s20_0.eq_1 <| s20_1.eq_1
theorem h20 : FnS Try.prog 20 ⟨[], []⟩ 8 [(.tmp 4)] s20 := .mk' Try.func20 (by kernel_rfl) (by kernel_rfl) (by kernel_rfl) (by kernel_rfl) (by kernel_rfl) (by kernel_rfl)
def s22_0 : SCode := (.reg [(.mk (some 2) (.assign (.const (.slice none 0 0))) none)])
def s22_1 : SCode := (.reg [(.mk (some 3) (.move (.tmp 0)) none), (.mk (some 4) (.binOp (.eql) 36 (.tmp 3) (.const (.slice none 0 0)) 36) none)])
def s22_2 : SCode := (.reg [(.mk (some 2) (.assign (.const (.slice none 0 0))) none)])
def s22_3 : SCode := (.cond (.tmp 4) (.seq s22_2 (.ret)) (.skip))
def s22_4 : SCode := (.reg [(.mk (some 5) (.buildSlice 36 0 #[]) none), (.mk (some 6) (.move (.tmp 0)) none), (.mk (some 7) (.call (.mk (.builtin (.append)) #[(.tmp 5), (.tmp 6)] #[36, 36])) none), (.mk (some 2) (.assign (.tmp 7)) none)])
def s22_5 : SCode := (.seq (.seq s22_1 s22_3) (.seq s22_4 (.ret)))
def s22 : SCode := (.seq s22_0 s22_5)
def e22 := And.intro s22_0.eq_1 <| And.intro s22_1.eq_1 <| And.intro s22_2.eq_1 <| And.intro s22_3.eq_1 <| And.intro s22_4.eq_1 <| s22_5.eq_1
theorem h22 : FnS Try.prog 22 ⟨[7], []⟩ 8 [(.tmp 2)] s22 := .mk' Try.func22 (by kernel_rfl) (by kernel_rfl) (by kernel_rfl) (by kernel_rfl) (by kernel_rfl) (by kernel_rfl)
def s25_0 : SCode := (.reg [(.mk (some 2) (.assign (.const (.slice none 0 0))) none)])
def s25_1 : SCode := (.reg [(.mk (some 6) (.move (.tmp 0)) none), (.mk (some 7) (.call (.mk (.builtin (.len)) #[(.tmp 6)] #[36])) none), (.mk (some 8) (.binOp (.lss) 3 (.tmp 7) (.const (.int (.i64) 2)) 3) none)])
def s25_2 : SCode := (.reg [(.mk (some 9) (.move (.tmp 0)) none), (.mk (some 2) (.assign (.tmp 9)) none)])
def s25_3 : SCode := (.cond (.tmp 8) (.seq s25_2 (.ret)) (.skip))
def s25_4 : SCode := (.reg [(.mk (some 3) (.assign (.const (.int (.i64) 1))) none)])
def s25_5 : SCode := (.reg [(.mk (some 10) (.move (.tmp 3)) none), (.mk (some 11) (.move (.tmp 0)) none), (.mk (some 12) (.call (.mk (.builtin (.len)) #[(.tmp 11)] #[36])) none), (.mk (some 13) (.binOp (.lss) 3 (.tmp 10) (.tmp 12) 3) none)])
def s25_6 : SCode := (.seq s25_5 (.cond (.tmp 13) (.skip) (.exit 0)))
def s25_7 : SCode := (.drw [((.mk (some 16) (.move (.tmp 0)) none), 0), ((.mk (some 17) (.move (.tmp 3)) none), 0), ((.mk (some 18) (.indexAddr 36 (.tmp 16) (.tmp 17)) none), 0), ((.mk (some 19) (.load 23 (.tmp 18)) none), 0), ((.mk (some 20) (.move (.tmp 0)) none), 0), ((.mk (some 21) (.move (.tmp 3)) none), 0), ((.mk (some 22) (.binOp (.sub) 3 (.tmp 21) (.const (.int (.i64) 1)) 3) none), 0), ((.mk (some 23) (.indexAddr 36 (.tmp 20) (.tmp 22)) none), 0), ((.mk (some 24) (.load 23 (.tmp 23)) none), 0), ((.mk (some 25) (.binOp (.eql) 23 (.tmp 19) (.tmp 24) 23) none), 0)])
def s25_8 : SCode := (.reg [(.mk (some 26) (.move (.tmp 0)) none), (.mk (some 27) (.move (.tmp 3)) none), (.mk (some 28) (.slice 36 (.tmp 26) (some (.tmp 27)) none none) none), (.mk (some 4) (.assign (.tmp 28)) none)])
def s25_9 : SCode := (.reg [(.mk (some 5) (.assign (.const (.int (.i64) 1))) none)])
def s25_10 : SCode := (.reg [(.mk (some 29) (.move (.tmp 5)) none), (.mk (some 30) (.move (.tmp 4)) none), (.mk (some 31) (.call (.mk (.builtin (.len)) #[(.tmp 30)] #[36])) none), (.mk (some 32) (.binOp (.lss) 3 (.tmp 29) (.tmp 31) 3) none)])
def s25_11 : SCode := (.seq s25_10 (.cond (.tmp 32) (.skip) (.exit 2)))
def s25_12 : SCode := (.drw [((.mk (some 35) (.move (.tmp 4)) none), 0), ((.mk (some 36) (.move (.tmp 5)) none), 0), ((.mk (some 37) (.indexAddr 36 (.tmp 35) (.tmp 36)) none), 0), ((.mk (some 38) (.load 23 (.tmp 37)) none), 0), ((.mk (some 39) (.move (.tmp 4)) none), 0), ((.mk (some 40) (.move (.tmp 5)) none), 0), ((.mk (some 41) (.binOp (.sub) 3 (.tmp 40) (.const (.int (.i64) 1)) 3) none), 0), ((.mk (some 42) (.indexAddr 36 (.tmp 39) (.tmp 41)) none), 0), ((.mk (some 43) (.load 23 (.tmp 42)) none), 0), ((.mk (some 44) (.binOp (.neq) 23 (.tmp 38) (.tmp 43) 23) none), 0)])
def s25_13 : SCode := (.reg [(.mk (some 45) (.move (.tmp 0)) none), (.mk (some 46) (.move (.tmp 3)) none), (.mk (some 47) (.move (.tmp 4)) none), (.mk (some 48) (.move (.tmp 5)) none), (.mk (some 49) (.indexAddr 36 (.tmp 47) (.tmp 48)) none), (.mk (some 50) (.load 23 (.tmp 49)) none), (.mk (some 51) (.indexAddr 36 (.tmp 45) (.tmp 46)) none), (.mk none (.store 23 (.tmp 51) (.tmp 50)) none)])
def s25_14 : SCode := (.reg [(.mk (some 52) (.move (.tmp 3)) none), (.mk (some 53) (.binOp (.add) 3 (.tmp 52) (.const (.int (.i64) 1)) 3) none), (.mk (some 3) (.assign (.tmp 53)) none)])
def s25_15 : SCode := (.cond (.tmp 44) (.seq s25_13 s25_14) (.skip))
def s25_16 : SCode := (.reg [(.mk (some 33) (.move (.tmp 5)) none), (.mk (some 34) (.binOp (.add) 3 (.tmp 33) (.const (.int (.i64) 1)) 3) none), (.mk (some 5) (.assign (.tmp 34)) none)])
def s25_17 : SCode := (.seq (.block 3 (.seq s25_12 s25_15)) s25_16)
def s25_18 : SCode := (.seq s25_9 (.block 2 (.loop (.seq s25_11 s25_17))))
def s25_19 : SCode := (.reg [(.mk (some 54) (.move (.tmp 0)) none), (.mk (some 55) (.move (.tmp 3)) none), (.mk (some 56) (.slice 36 (.tmp 54) (some (.tmp 55)) none none) none), (.mk none (.call (.mk (.builtin (.clear)) #[(.tmp 56)] #[36])) none)])
def s25_20 : SCode := (.reg [(.mk (some 57) (.move (.tmp 0)) none), (.mk (some 58) (.move (.tmp 3)) none), (.mk (some 59) (.slice 36 (.tmp 57) none (some (.tmp 58)) none) none), (.mk (some 2) (.assign (.tmp 59)) none)])
def s25_21 : SCode := (.seq s25_18 (.seq s25_19 (.seq s25_20 (.ret))))
def s25_22 : SCode := (.cond (.tmp 25) (.seq s25_8 s25_21) (.skip))
def s25_23 : SCode := (.reg [(.mk (some 14) (.move (.tmp 3)) none), (.mk (some 15) (.binOp (.add) 3 (.tmp 14) (.const (.int (.i64) 1)) 3) none), (.mk (some 3) (.assign (.tmp 15)) none)])
def s25_24 : SCode := (.seq (.block 1 (.seq s25_7 s25_22)) s25_23)
def s25_25 : SCode := (.seq s25_4 (.block 0 (.loop (.seq s25_6 s25_24))))
def s25_26 : SCode := (.reg [(.mk (some 60) (.move (.tmp 0)) none), (.mk (some 2) (.assign (.tmp 60)) none)])
def s25_27 : SCode := (.seq (.seq s25_1 s25_3) (.seq s25_25 (.seq s25_26 (.ret))))
def s25 : SCode := (.seq s25_0 s25_27)
def e25 := And.intro s25_0.eq_1 <| And.intro s25_1.eq_1 <| And.intro s25_2.eq_1 <| And.intro s25_3.eq_1 <| And.intro s25_4.eq_1 <| And.intro s25_5.eq_1 <| And.intro s25_6.eq_1 <| And.intro s25_7.eq_1 <| And.intro s25_8.eq_1 <| And.intro s25_9.eq_1 <| And.intro s25_10.eq_1 <| And.intro s25_11.eq_1 <| And.intro s25_12.eq_1 <| And.intro s25_13.eq_1 <| And.intro s25_14.eq_1 <| And.intro s25_15.eq_1 <| And.intro s25_16.eq_1 <| And.intro s25_17.eq_1 <| And.intro s25_18.eq_1 <| And.intro s25_19.eq_1 <| And.intro s25_20.eq_1 <| And.intro s25_21.eq_1 <| And.intro s25_22.eq_1 <| And.intro s25_23.eq_1 <| And.intro s25_24.eq_1 <| And.intro s25_25.eq_1 <| And.intro s25_26.eq_1 <| s25_27.eq_1
theorem h25 : FnS Try.prog 25 ⟨[], [(6, [(0, 0), (1, 0), (2, 0), (3, 0), (4, 0), (5, 0), (6, 0), (7, 0), (8, 0), (9, 0)]), (11, [(0, 0), (1, 0), (2, 0), (3, 0), (4, 0), (5, 0), (6, 0), (7, 0), (8, 0), (9, 0)])]⟩ 61 [(.tmp 2)] s25 := .mk' Try.func25 (by kernel_rfl) (by kernel_rfl) (by kernel_rfl) (by kernel_rfl) (by kernel_rfl) (by kernel_rfl)
def s26_0 : SCode := (.reg [(.mk (some 3) (.box 23 (.tmp 1)) none), (.mk (some 4) (.assign (.const (.slice none 0 0))) none)])
def s26_1 : SCode := (.reg [(.mk (some 5) (.assign (.const (.int (.i64) 0))) none)])
def s26_2 : SCode := (.drw [((.mk (some 7) (.move (.tmp 5)) none), 0), ((.mk (some 8) (.move (.tmp 0)) none), 0), ((.mk (some 9) (.call (.mk (.builtin (.len)) #[(.tmp 8)] #[36])) none), 0), ((.mk (some 10) (.binOp (.lss) 3 (.tmp 7) (.tmp 9) 3) none), 0), ((.mk (some 11) (.move (.tmp 10)) none), 0), ((.mk (some 12) (.move (.tmp 0)) (some (11, true))), 0), ((.mk (some 13) (.move (.tmp 5)) (some (11, true))), 0), ((.mk (some 14) (.indexAddr 36 (.tmp 12) (.tmp 13)) (some (11, true))), 0), ((.mk (some 15) (.load 23 (.tmp 14)) (some (11, true))), 0), ((.mk (some 16) (.load 23 (.tmp 3)) (some (11, true))), 0), ((.mk (some 17) (.call (.mk (.value (.func 32)) #[(.tmp 15), (.tmp 16)] #[23, 23])) (some (11, true))), 1), ((.mk (some 18) (.pick (.tmp 11) (.tmp 17) (.const (.bool false))) none), 0)])
def s26_3 : SCode := (.seq s26_2 (.cond (.tmp 18) (.skip) (.exit 0)))
def s26_4 : SCode := (.reg [(.mk (some 19) (.move (.tmp 5)) none), (.mk (some 20) (.binOp (.add) 3 (.tmp 19) (.const (.int (.i64) 1)) 3) none), (.mk (some 5) (.assign (.tmp 20)) none)])
def s26_5 : SCode := (.block 0 (.loop (.seq s26_3 (.block 1 s26_4))))
def s26_6 : SCode := (.drw [((.mk (some 21) (.move (.tmp 5)) none), 0), ((.mk (some 22) (.move (.tmp 0)) none), 0), ((.mk (some 23) (.call (.mk (.builtin (.len)) #[(.tmp 22)] #[36])) none), 0), ((.mk (some 24) (.binOp (.lss) 3 (.tmp 21) (.tmp 23) 3) none), 0), ((.mk (some 25) (.move (.tmp 24)) none), 0), ((.mk (some 26) (.move (.tmp 0)) (some (25, true))), 0), ((.mk (some 27) (.move (.tmp 5)) (some (25, true))), 0), ((.mk (some 28) (.indexAddr 36 (.tmp 26) (.tmp 27)) (some (25, true))), 0), ((.mk (some 29) (.load 23 (.tmp 28)) (some (25, true))), 0), ((.mk (some 30) (.load 23 (.tmp 3)) (some (25, true))), 0), ((.mk (some 31) (.binOp (.eql) 23 (.tmp 29) (.tmp 30) 23) (some (25, true))), 0), ((.mk (some 32) (.pick (.tmp 25) (.tmp 31) (.const (.bool false))) none), 0)])
def s26_7 : SCode := (.reg [(.mk (some 33) (.move (.tmp 0)) none), (.mk (some 4) (.assign (.tmp 33)) none)])
def s26_8 : SCode := (.cond (.tmp 32) (.seq s26_7 (.ret)) (.skip))
def s26_9 : SCode := (.reg [(.mk (some 34) (.buildSlice 36 0 #[]) none), (.mk (some 35) (.move (.tmp 0)) none), (.mk (some 36) (.move (.tmp 5)) none), (.mk (some 37) (.slice 36 (.tmp 35) none (some (.tmp 36)) none) none), (.mk (some 38) (.call (.mk (.builtin (.append)) #[(.tmp 34), (.tmp 37)] #[36, 36])) none), (.mk (some 6) (.assign (.tmp 38)) none)])
def s26_10 : SCode := (.reg [(.mk (some 39) (.move (.tmp 6)) none), (.mk (some 40) (.load 23 (.tmp 3)) none), (.mk (some 41) (.buildSlice 36 1 #[(0, (.tmp 40))]) none), (.mk (some 42) (.call (.mk (.builtin (.append)) #[(.tmp 39), (.tmp 41)] #[36, 36])) none), (.mk (some 6) (.assign (.tmp 42)) none)])
def s26_11 : SCode := (.reg [(.mk (some 43) (.move (.tmp 6)) none), (.mk (some 44) (.move (.tmp 0)) none), (.mk (some 45) (.move (.tmp 5)) none), (.mk (some 46) (.slice 36 (.tmp 44) (some (.tmp 45)) none none) none), (.mk (some 47) (.call (.mk (.builtin (.append)) #[(.tmp 43), (.tmp 46)] #[36, 36])) none), (.mk (some 4) (.assign (.tmp 47)) none)])
def s26_12 : SCode := (.seq s26_9 (.seq s26_10 (.seq s26_11 (.ret))))
def s26_13 : SCode := (.seq s26_5 (.seq (.seq s26_6 s26_8) s26_12))
def s26 : SCode := (.seq s26_0 (.seq s26_1 s26_13))
def e26 := And.intro s26_0.eq_1 <| And.intro s26_1.eq_1 <| And.intro s26_2.eq_1 <| And.intro s26_3.eq_1 <| And.intro s26_4.eq_1 <| And.intro s26_5.eq_1 <| And.intro s26_6.eq_1 <| And.intro s26_7.eq_1 <| And.intro s26_8.eq_1 <| And.intro s26_9.eq_1 <| And.intro s26_10.eq_1 <| And.intro s26_11.eq_1 <| And.intro s26_12.eq_1 <| s26_13.eq_1
theorem h26 : FnS Try.prog 26 ⟨[3], [(2, [(0, 0), (1, 0), (2, 0), (3, 0), (4, 0), (5, 0), (6, 0), (7, 0), (8, 0), (9, 0), (10, 1), (11, 0)]), (4, [(0, 0), (1, 0), (2, 0), (3, 0), (4, 0), (5, 0), (6, 0), (7, 0), (8, 0), (9, 0), (10, 0), (11, 0)])]⟩ 48 [(.tmp 4)] s26 := .mk' Try.func26 (by kernel_rfl) (by kernel_rfl) (by kernel_rfl) (by kernel_rfl) (by kernel_rfl) (by kernel_rfl)
def s28_0 : SCode := (.reg [(.mk (some 4) (.assign (.const (.bool false))) none)])
def s28_1 : SCode := (.reg [(.mk (some 5) (.move (.tmp 0)) none), (.mk (some 6) (.call (.mk (.builtin (.len)) #[(.tmp 5)] #[9])) none), (.mk (some 7) (.move (.tmp 1)) none), (.mk (some 8) (.call (.mk (.builtin (.len)) #[(.tmp 7)] #[9])) none), (.mk (some 9) (.binOp (.geq) 3 (.tmp 6) (.tmp 8) 3) none), (.mk (some 10) (.move (.tmp 9)) none), (.mk (some 11) (.move (.tmp 0)) (some (10, true))), (.mk (some 12) (.move (.tmp 1)) (some (10, true))), (.mk (some 13) (.call (.mk (.builtin (.len)) #[(.tmp 12)] #[9])) (some (10, true))), (.mk (some 14) (.slice 9 (.tmp 11) none (some (.tmp 13)) none) (some (10, true))), (.mk (some 15) (.move (.tmp 1)) (some (10, true))), (.mk (some 16) (.binOp (.eql) 9 (.tmp 14) (.tmp 15) 9) (some (10, true))), (.mk (some 17) (.pick (.tmp 10) (.tmp 16) (.const (.bool false))) none), (.mk (some 4) (.assign (.tmp 17)) none)])
def s28 : SCode := (.seq s28_0 (.seq s28_1 (.ret)))
def e28 := And.intro s28_0.eq_1 <| s28_1.eq_1
theorem h28 : FnS Try.prog 28 ⟨[], []⟩ 18 [(.tmp 4)] s28 := .mk' Try.func28 (by kernel_rfl) (by kernel_rfl) (by kernel_rfl) (by kernel_rfl) (by kernel_rfl) (by kernel_rfl)
def s32_0 : SCode := (.reg [(.mk (some 2) (.box 23 (.tmp 0)) none), (.mk (some 3) (.box 23 (.tmp 1)) none), (.mk (some 4) (.assign (.const (.bool false))) none)])
def s32_1 : SCode := (.reg [(.mk (some 5) (.assign (.const (.int (.i64) 0))) none)])
def s32_2 : SCode := (.reg [(.mk (some 6) (.move (.tmp 5)) none), (.mk (some 7) (.binOp (.lss) 3 (.tmp 6) (.const (.int (.i64) 32)) 3) none)])
def s32_3 : SCode := (.seq s32_2 (.cond (.tmp 7) (.skip) (.exit 0)))
def s32_4 : SCode := (.drw [((.mk (some 10) (.move (.tmp 5)) none), 0), ((.mk (some 11) (.indexAddr 23 (.tmp 2) (.tmp 10)) none), 0), ((.mk (some 12) (.load 5 (.tmp 11)) none), 0), ((.mk (some 13) (.move (.tmp 5)) none), 0), ((.mk (some 14) (.indexAddr 23 (.tmp 3) (.tmp 13)) none), 0), ((.mk (some 15) (.load 5 (.tmp 14)) none), 0), ((.mk (some 16) (.binOp (.neq) 5 (.tmp 12) (.tmp 15) 5) none), 0)])
def s32_5 : SCode := (.drw [((.mk (some 17) (.move (.tmp 5)) none), 0), ((.mk (some 18) (.indexAddr 23 (.tmp 2) (.tmp 17)) none), 0), ((.mk (some 19) (.load 5 (.tmp 18)) none), 0), ((.mk (some 20) (.move (.tmp 5)) none), 0), ((.mk (some 21) (.indexAddr 23 (.tmp 3) (.tmp 20)) none), 0), ((.mk (some 22) (.load 5 (.tmp 21)) none), 0), ((.mk (some 23) (.binOp (.lss) 5 (.tmp 19) (.tmp 22) 5) none), 0), ((.mk (some 4) (.assign (.tmp 23)) none), 0)])
def s32_6 : SCode := (.cond (.tmp 16) (.seq s32_5 (.ret)) (.skip))
def s32_7 : SCode := (.reg [(.mk (some 8) (.move (.tmp 5)) none), (.mk (some 9) (.binOp (.add) 3 (.tmp 8) (.const (.int (.i64) 1)) 3) none), (.mk (some 5) (.assign (.tmp 9)) none)])
def s32_8 : SCode := (.seq (.block 1 (.seq s32_4 s32_6)) s32_7)
def s32_9 : SCode := (.seq s32_1 (.block 0 (.loop (.seq s32_3 s32_8))))
def s32_10 : SCode := (.reg [(.mk (some 4) (.assign (.const (.bool false))) none)])
def s32 : SCode := (.seq s32_0 (.seq s32_9 (.seq s32_10 (.ret))))
def e32 := And.intro s32_0.eq_1 <| And.intro s32_1.eq_1 <| And.intro s32_2.eq_1 <| And.intro s32_3.eq_1 <| And.intro s32_4.eq_1 <| And.intro s32_5.eq_1 <| And.intro s32_6.eq_1 <| And.intro s32_7.eq_1 <| And.intro s32_8.eq_1 <| And.intro s32_9.eq_1 <| s32_10.eq_1
theorem h32 : FnS Try.prog 32 ⟨[2, 3], [(4, [(0, 0), (1, 0), (2, 0), (3, 0), (4, 0), (5, 0), (6, 0)]), (5, [(0, 0), (1, 0), (2, 0), (3, 0), (4, 0), (5, 0), (6, 0), (7, 0)])]⟩ 24 [(.tmp 4)] s32 := .mk' Try.func32 (by kernel_rfl) (by kernel_rfl) (by kernel_rfl) (by kernel_rfl) (by kernel_rfl) (by kernel_rfl)
end Gv.Try
set_option maxRecDepth 100000
namespace Gv.Try
open Go Gv Go.Proofs
theorem aggT23 : aggT Try.prog 23 = (some [(.int), (.int), (.int), (.int), (.int), (.int), (.int), (.int), (.int), (.int), (.int), (.int), (.int), (.int), (.int), (.int), (.int), (.int), (.int), (.int), (.int), (.int), (.int), (.int), (.int), (.int), (.int), (.int), (.int), (.int), (.int), (.int)]) := by kernel_rfl
theorem arr23 : arr Try.prog 23 = (some (32, (1, false))) := by kernel_rfl
theorem arr53 : arr Try.prog 53 = (some (6, (1, false))) := by kernel_rfl
theorem els35 : els Try.prog 35 = (some (1, false)) := by kernel_rfl
theorem els36 : els Try.prog 36 = (some (32, true)) := by kernel_rfl
theorem els43 : els Try.prog 43 = (some (1, false)) := by kernel_rfl
theorem elt35 : elt Try.prog 35 = (some (1, (8, [(.int (.i64) 0)]))) := by kernel_rfl
theorem elt36 : elt Try.prog 36 = (some (32, (32, [(.int (.u8) 0), (.int (.u8) 0), (.int (.u8) 0), (.int (.u8) 0), (.int (.u8) 0), (.int (.u8) 0), (.int (.u8) 0), (.int (.u8) 0), (.int (.u8) 0), (.int (.u8) 0), (.int (.u8) 0), (.int (.u8) 0), (.int (.u8) 0), (.int (.u8) 0), (.int (.u8) 0), (.int (.u8) 0), (.int (.u8) 0), (.int (.u8) 0), (.int (.u8) 0), (.int (.u8) 0), (.int (.u8) 0), (.int (.u8) 0), (.int (.u8) 0), (.int (.u8) 0), (.int (.u8) 0), (.int (.u8) 0), (.int (.u8) 0), (.int (.u8) 0), (.int (.u8) 0), (.int (.u8) 0), (.int (.u8) 0), (.int (.u8) 0)]))) := by kernel_rfl
theorem elt43 : elt Try.prog 43 = (some (1, (1, [(.int (.u8) 0)]))) := by kernel_rfl
theorem fld45_0 : fld Try.prog 45 0 = (some (0, (1, false))) := by kernel_rfl
theorem fld45_1 : fld Try.prog 45 1 = (some (1, (1, false))) := by kernel_rfl
theorem notInt23 : notInt Try.prog 23 = false := by kernel_rfl
theorem notInt3 : notInt Try.prog 3 = false := by kernel_rfl
theorem notInt35 : notInt Try.prog 35 = true := by kernel_rfl
theorem notInt36 : notInt Try.prog 36 = true := by kernel_rfl
theorem notInt42 : notInt Try.prog 42 = false := by kernel_rfl
theorem notInt43 : notInt Try.prog 43 = true := by kernel_rfl
theorem notInt45 : notInt Try.prog 45 = false := by kernel_rfl
theorem notInt47 : notInt Try.prog 47 = false := by kernel_rfl
theorem notInt5 : notInt Try.prog 5 = false := by kernel_rfl
theorem notInt55 : notInt Try.prog 55 = false := by kernel_rfl
theorem notInt57 : notInt Try.prog 57 = false := by kernel_rfl
theorem notInt60 : notInt Try.prog 60 = false := by kernel_rfl
theorem notInt9 : notInt Try.prog 9 = true := by kernel_rfl
theorem plc53 : plc Try.prog 53 = (some (.inr 1)) := by kernel_rfl
theorem tab23 : tab Try.prog 23 = (some (32, true)) := by kernel_rfl
theorem tab3 : tab Try.prog 3 = (some (1, false)) := by kernel_rfl
theorem tab42 : tab Try.prog 42 = (some (1, false)) := by kernel_rfl
theorem tab43 : tab Try.prog 43 = (some (1, false)) := by kernel_rfl
theorem tab5 : tab Try.prog 5 = (some (1, false)) := by kernel_rfl
theorem und23 : Go.Program.underlying Try.prog 23 = (some (.array 32 5)) := by kernel_rfl
theorem und3 : Go.Program.underlying Try.prog 3 = (some (.int (.i64))) := by kernel_rfl
theorem und35 : Go.Program.underlying Try.prog 35 = (some (.slice 3)) := by kernel_rfl
theorem und36 : Go.Program.underlying Try.prog 36 = (some (.slice 23)) := by kernel_rfl
theorem und4 : Go.Program.underlying Try.prog 4 = (some (.bool)) := by kernel_rfl
theorem und42 : Go.Program.underlying Try.prog 42 = (some (.pointer 45)) := by kernel_rfl
theorem und43 : Go.Program.underlying Try.prog 43 = (some (.slice 5)) := by kernel_rfl
theorem und47 : Go.Program.underlying Try.prog 47 = (some (.int (.u64))) := by kernel_rfl
theorem und49 : Go.Program.underlying Try.prog 49 = (some (.int (.i64))) := by kernel_rfl
theorem und5 : Go.Program.underlying Try.prog 5 = (some (.int (.u8))) := by kernel_rfl
theorem und53 : Go.Program.underlying Try.prog 53 = (some (.array 6 5)) := by kernel_rfl
theorem und55 : Go.Program.underlying Try.prog 55 = (some (.func #[23, 23] #[3] false)) := by kernel_rfl
theorem und57 : Go.Program.underlying Try.prog 57 = (some (.pointer 5)) := by kernel_rfl
theorem und60 : Go.Program.underlying Try.prog 60 = (some (.unsafePointer)) := by kernel_rfl
theorem und9 : Go.Program.underlying Try.prog 9 = (some (.string)) := by kernel_rfl
theorem zer23 : zer Try.prog 23 = (some [(.int (.u8) 0), (.int (.u8) 0), (.int (.u8) 0), (.int (.u8) 0), (.int (.u8) 0), (.int (.u8) 0), (.int (.u8) 0), (.int (.u8) 0), (.int (.u8) 0), (.int (.u8) 0), (.int (.u8) 0), (.int (.u8) 0), (.int (.u8) 0), (.int (.u8) 0), (.int (.u8) 0), (.int (.u8) 0), (.int (.u8) 0), (.int (.u8) 0), (.int (.u8) 0), (.int (.u8) 0), (.int (.u8) 0), (.int (.u8) 0), (.int (.u8) 0), (.int (.u8) 0), (.int (.u8) 0), (.int (.u8) 0), (.int (.u8) 0), (.int (.u8) 0), (.int (.u8) 0), (.int (.u8) 0), (.int (.u8) 0), (.int (.u8) 0)]) := by kernel_rfl
theorem zer45 : zer Try.prog 45 = (some [(.lit (.pointer none)), (.slice [] (.nil))]) := by kernel_rfl
theorem zer53 : zer Try.prog 53 = (some [(.int (.u8) 0), (.int (.u8) 0), (.int (.u8) 0), (.int (.u8) 0), (.int (.u8) 0), (.int (.u8) 0)]) := by kernel_rfl
def fbX := And.intro aggT23 <| And.intro arr23 <| And.intro arr53 <| And.intro els35 <| And.intro els36 <| And.intro els43 <| And.intro elt35 <| And.intro elt36 <| And.intro elt43 <| And.intro fld45_0 <| And.intro fld45_1 <| And.intro notInt23 <| And.intro notInt3 <| And.intro notInt35 <| And.intro notInt36 <| And.intro notInt42 <| And.intro notInt43 <| And.intro notInt45 <| And.intro notInt47 <| And.intro notInt5 <| And.intro notInt55 <| And.intro notInt57 <| And.intro notInt60 <| And.intro notInt9 <| And.intro plc53 <| And.intro tab23 <| And.intro tab3 <| And.intro tab42 <| And.intro tab43 <| And.intro tab5 <| And.intro und23 <| And.intro und3 <| And.intro und35 <| And.intro und36 <| And.intro und4 <| And.intro und42 <| And.intro und43 <| And.intro und47 <| And.intro und49 <| And.intro und5 <| And.intro und53 <| And.intro und55 <| And.intro und57 <| And.intro und60 <| And.intro und9 <| And.intro zer23 <| And.intro zer45 <| zer53
end Gv.Try
/- Contracts: digits, prefixes, whether a string begins so. -/
set_option linter.unusedVariables false
set_option linter.unusedSimpArgs false
set_option maxRecDepth 20000
set_option maxHeartbeats 4000000
namespace Gv.Try
open Go Gv Go.Proofs
theorem mixS : Try.prog.follows .mixedOrders = true := by kernel_rfl
theorem norm_u8 {n : Int} (h : 0 ≤ n ∧ n ≤ 255) : norm .u8 n = n := by
  have : IntKind.u8.signed = false := rfl
  simp only [norm, IntKind.wrap, IntKind.bits, this]; simp; omega
/-- a digit's number -/
def dig (c : Int) : Int := if 48 ≤ c ∧ c ≤ 57 then c - 48 else if 97 ≤ c ∧ c ≤ 102 then c - 97 + 10 else -1
theorem dig_le (c : Int) : -1 ≤ dig c ∧ dig c ≤ 15 := by 
  unfold dig
  split
  · omega
  · split <;> omega
theorem hDigit (c : Int) (hc : 0 ≤ c ∧ c ≤ 255) : GPure Try.prog 19 [.int .u8 c] (.int .i64 (dig c)) := by
  refine h19.pure mixS (by simp) ?_
  simp only [gstart, s19, List.cons_append, List.nil_append, List.length_cons, List.length_nil, Nat.reduceAdd, Nat.reduceSub, List.replicate_succ, List.replicate_zero]
  by_cases h1 : 48 ≤ c ∧ c ≤ 57
  · have d1 : (48 ≤ c) = True := eq_true h1.1
    have d2 : (c ≤ 57) = True := eq_true h1.2
    have e : dig c = c - 48 := by unfold dig; rw [if_pos h1]
    simp +contextual -implicitDefEqProofs (maxSteps := 2000000) (disch := omega) only [binV, ↓convV, GVal.cells, grp, GVal.ofConst, ↓resV, resG, List.map, List.headD, List.take, List.drop, ↓reduceIte, Nat.reduceEqDiff, Nat.reduceAdd, Nat.reduceSub, Nat.reduceLeDiff, reduceCtorEq, implies_true, ne_eq, Tag.cap, List.replicate, allSolid, GVal.solid, Nat.reduceBEq, Nat.reduceMul, Nat.reduceLT, List.length_map, List.length_range, splice, vcA, ↓vcB, vcC, aggT23, arr23, notInt23, notInt3, notInt5, notInt57, notInt9, tab23, tab3, tab5, und23, und3, und4, und5, und57, und9, zer23, e19, d1, d2, norm_u8]
    rw [e]
  · by_cases h2 : 97 ≤ c ∧ c ≤ 102
    · have d1 : (97 ≤ c) = True := eq_true h2.1
      have d2 : (c ≤ 102) = True := eq_true h2.2
      have d3 : (48 ≤ c) = True := eq_true (by omega)
      have d4 : (c ≤ 57) = False := eq_false (by omega)
      have e : dig c = c - 97 + 10 := by unfold dig; rw [if_neg h1, if_pos h2]
      simp +contextual -implicitDefEqProofs (maxSteps := 2000000) (disch := omega) only [binV, ↓convV, GVal.cells, grp, GVal.ofConst, ↓resV, resG, List.map, List.headD, List.take, List.drop, ↓reduceIte, Nat.reduceEqDiff, Nat.reduceAdd, Nat.reduceSub, Nat.reduceLeDiff, reduceCtorEq, implies_true, ne_eq, Tag.cap, List.replicate, allSolid, GVal.solid, Nat.reduceBEq, Nat.reduceMul, Nat.reduceLT, List.length_map, List.length_range, splice, vcA, ↓vcB, vcC, aggT23, arr23, notInt23, notInt3, notInt5, notInt57, notInt9, tab23, tab3, tab5, und23, und3, und4, und5, und57, und9, zer23, e19, d1, d2, d3, d4, norm_u8]
      rw [e]
    · have e : dig c = -1 := by unfold dig; rw [if_neg h1, if_neg h2]
      simp +contextual -implicitDefEqProofs (maxSteps := 2000000) (disch := omega) only [binV, ↓convV, GVal.cells, grp, GVal.ofConst, ↓resV, resG, List.map, List.headD, List.take, List.drop, ↓reduceIte, Nat.reduceEqDiff, Nat.reduceAdd, Nat.reduceSub, Nat.reduceLeDiff, reduceCtorEq, implies_true, ne_eq, Tag.cap, List.replicate, allSolid, GVal.solid, Nat.reduceBEq, Nat.reduceMul, Nat.reduceLT, List.length_map, List.length_range, splice, vcA, ↓vcB, vcC, aggT23, arr23, notInt23, notInt3, notInt5, notInt57, notInt9, tab23, tab3, tab5, und23, und3, und4, und5, und57, und9, zer23, e19, norm_u8]
      rw [e]
      exact ⟨fun h => ⟨fun h' => by omega, fun h' => ⟨fun h3 => ⟨fun h4 => by omega, fun _ => rfl⟩, fun _ => rfl⟩⟩, fun h => ⟨fun h3 => ⟨fun h4 => by omega, fun _ => rfl⟩, fun _ => rfl⟩⟩
/-- bytes of a string in memory -/
def btsG (s : List UInt8) : List (List GVal) := s.map fun c => [.int .u8 c.toNat]
theorem btsG_len (s : List UInt8) : (btsG s).length = s.length := by simp [btsG]
theorem btsG_at (s : List UInt8) (i : Nat) (h : i < s.length) : (btsG s).getD i [] = [.int .u8 (s.getD i 0).toNat] := by simp [btsG, List.getD, h]
theorem btsG_eq (s : List UInt8) : (s.map fun c => [GVal.int .u8 c.toNat]) = btsG s := rfl
def digits (s : List UInt8) : Bool := s.all fun c => decide (0 ≤ dig c.toNat)
def isPre (s : List UInt8) : Bool := digits s && (decide (s ≠ []) && decide (s.length ≤ 64))
theorem byte_le (c : UInt8) : 0 ≤ (c.toNat : Int) ∧ (c.toNat : Int) ≤ 255 := by have := c.toNat_lt; omega
theorem drop_getD8 {l : List UInt8} {k : Nat} (h : k < l.length) : l.drop k = l.getD k 0 :: l.drop (k + 1) := by
  rw [List.drop_eq_getElem_cons h]; simp [List.getD, h]
theorem hIsPrefix (s : List UInt8) (hs : s.length ≤ 9223372036854775807) : GPure Try.prog 9 [.str s] (.bool (isPre s)) := by
  refine h9.pure mixS (by simp) ?_
  simp only [gstart, s9, List.cons_append, List.nil_append, List.length_cons, List.length_nil, Nat.reduceAdd, Nat.reduceSub, List.replicate_succ, List.replicate_zero]
  simp +contextual -implicitDefEqProofs (maxSteps := 2000000) (disch := omega) only [↓lenV, binV, ↓convV, ↓loadV, ↓indexAddrV, GVal.cells, grp, GVal.ofConst, ↓resV, resG, List.map, List.headD, List.take, List.drop, ↓reduceIte, Nat.reduceEqDiff, Nat.reduceAdd, Nat.reduceSub, Nat.reduceLeDiff, reduceCtorEq, implies_true, ne_eq, aggV, Tag.cap, List.replicate, allSolid, GVal.solid, Nat.reduceBEq, Nat.reduceMul, Nat.reduceLT, List.length_map, List.length_range, splice, vcA, ↓vcB, vcC, els43, elt43, notInt3, notInt43, notInt5, notInt9, tab3, tab43, tab5, und3, und4, und43, und5, und9, e9, btsG_eq, btsG_len]
  refine vcSLoop_by (ι := { k : Nat // k ≤ s.length ∧ digits (s.drop k) = digits s }) (fun k => ⟨[.str s, .any, .any, .any, .any, .any, .slice (btsG s) .none, .int .i64 s.length, .int .i64 (k.1 : Nat)] ++ List.replicate 14 .any, []⟩) (fun k => s.length - k.1) ?_ ?_
  · exact Into.first ⟨0, by omega, by simp⟩ ⟨[], by simp⟩ (by simp [WL, leG_self, leG_any, leG_int])
  · rintro ⟨k, hk, he⟩
    by_cases h : k < s.length
    · have d0 : ((k : Int) < (s.length : Int)) = True := eq_true (by omega)
      have eS := btsG_at s k h
      rw [drop_getD8 h] at he
      generalize s.getD k 0 = c at *
      simp +contextual -implicitDefEqProofs (maxSteps := 2000000) (disch := omega) only [↓lenV, binV, ↓convV, ↓loadV, ↓indexAddrV, GVal.cells, grp, GVal.ofConst, ↓resV, resG, List.map, List.headD, List.take, List.drop, ↓reduceIte, Nat.reduceEqDiff, Nat.reduceAdd, Nat.reduceSub, Nat.reduceLeDiff, reduceCtorEq, implies_true, ne_eq, aggV, Tag.cap, List.replicate, allSolid, GVal.solid, Nat.reduceBEq, Nat.reduceMul, Nat.reduceLT, List.length_map, List.length_range, splice, vcA, ↓vcB, vcC, els43, elt43, notInt3, notInt43, notInt5, notInt9, tab3, tab43, tab5, und3, und4, und43, und5, und9, e9, btsG_len, d0, eS]
      refine ⟨by omega, ?_⟩
      refine (hDigit c.toNat (byte_le c)).then ?_ (by rfl)
      have he2 : (decide (0 ≤ dig c.toNat) && digits (s.drop (k + 1))) = digits s := he
      simp +contextual -implicitDefEqProofs (maxSteps := 2000000) (disch := omega) only [↓lenV, binV, ↓convV, ↓loadV, ↓indexAddrV, GVal.cells, grp, GVal.ofConst, ↓resV, resG, List.map, List.headD, List.take, List.drop, ↓reduceIte, Nat.reduceEqDiff, Nat.reduceAdd, Nat.reduceSub, Nat.reduceLeDiff, reduceCtorEq, implies_true, ne_eq, aggV, Tag.cap, List.replicate, allSolid, GVal.solid, Nat.reduceBEq, Nat.reduceMul, Nat.reduceLT, List.length_map, List.length_range, splice, vcA, ↓vcB, vcC, els43, elt43, notInt3, notInt43, notInt5, notInt9, tab3, tab43, tab5, und3, und4, und43, und5, und9, e9, btsG_len, d0, eS]
      refine ⟨fun h1 => ?_, fun h1 => ?_⟩
      · rw [isPre, ← he2, decide_eq_false (p := 0 ≤ dig ↑c.toNat) (by omega)]; rfl
      · rw [decide_eq_true h1, Bool.true_and] at he2
        exact Into.at ⟨k + 1, by omega, he2⟩ (by show _ < _; simp; omega) ⟨[], by simp⟩ (by simp [WL, leG_self, leG_any, leG_int])
    · have d0 : ((k : Int) < (s.length : Int)) = False := eq_false (by omega)
      rw [List.drop_of_length_le (by omega)] at he
      have he2 : digits s = true := he.symm
      simp +contextual -implicitDefEqProofs (maxSteps := 2000000) (disch := omega) only [↓lenV, binV, ↓convV, ↓loadV, ↓indexAddrV, GVal.cells, grp, GVal.ofConst, ↓resV, resG, List.map, List.headD, List.take, List.drop, ↓reduceIte, Nat.reduceEqDiff, Nat.reduceAdd, Nat.reduceSub, Nat.reduceLeDiff, reduceCtorEq, implies_true, ne_eq, aggV, Tag.cap, List.replicate, allSolid, GVal.solid, Nat.reduceBEq, Nat.reduceMul, Nat.reduceLT, List.length_map, List.length_range, splice, vcA, ↓vcB, vcC, els43, elt43, notInt3, notInt43, notInt5, notInt9, tab3, tab43, tab5, und3, und4, und43, und5, und9, e9, btsG_len, d0, false_imp_iff, true_and]
      rw [isPre, he2, Bool.true_and]
      cases s with
      | nil => simp [gif]
      | cons a r =>
        have e1 : ((a :: r) != ([] : List UInt8)) = true := rfl
        rw [e1]
        simp [gif]
        omega
theorem hHasPrefix2 (s p : List UInt8) (hs : s.length ≤ 9223372036854775807) (hp : p.length ≤ 9223372036854775807) : GPure Try.prog 28 [.str s, .str p] (.bool (decide (s.take p.length = p))) := by
  refine h28.pure mixS (by simp) ?_
  simp only [gstart, s28, List.cons_append, List.nil_append, List.length_cons, List.length_nil, Nat.reduceAdd, Nat.reduceSub, List.replicate_succ, List.replicate_zero]
  simp +contextual -implicitDefEqProofs (maxSteps := 2000000) (disch := omega) only [↓lenV, binV, optV, ↓sliceV, bound, cutTag, hiTag, GVal.cells, grp, GVal.ofConst, ↓resV, resG, List.map, List.headD, List.take, List.drop, ↓reduceIte, Nat.reduceEqDiff, Nat.reduceAdd, Nat.reduceSub, Nat.reduceLeDiff, reduceCtorEq, implies_true, ne_eq, aggV, Tag.cap, List.replicate, allSolid, GVal.solid, Nat.reduceBEq, Nat.reduceMul, Nat.reduceLT, List.length_map, List.length_range, splice, vcA, ↓vcB, vcC, notInt3, notInt5, notInt9, tab3, tab5, und3, und4, und5, und9, e28, Int.toNat_zero, List.drop_zero]
  refine ⟨fun h => ⟨by omega, by omega, ?_⟩, fun h => (decide_eq_false fun e => ?_).symm⟩
  · rw [Bool.eq_iff_iff]; simp
  · have := congrArg List.length e
    rw [List.length_take] at this; omega
theorem hHasPrefix (s p : List UInt8) (hs : s.length ≤ 9223372036854775807) (hp : p.length ≤ 9223372036854775807) : GPure Try.prog 20 [.str s, .str p] (.bool (decide (s.take p.length = p))) := by
  refine h20.pure mixS (by simp) ?_
  simp only [gstart, s20, List.cons_append, List.nil_append, List.length_cons, List.length_nil, Nat.reduceAdd, Nat.reduceSub, List.replicate_succ, List.replicate_zero]
  simp +contextual -implicitDefEqProofs (maxSteps := 2000000) (disch := omega) only [GVal.cells, grp, GVal.ofConst, ↓resV, resG, List.map, List.headD, List.take, List.drop, ↓reduceIte, Nat.reduceEqDiff, Nat.reduceAdd, Nat.reduceSub, Nat.reduceLeDiff, reduceCtorEq, implies_true, ne_eq, Tag.cap, List.replicate, allSolid, GVal.solid, Nat.reduceBEq, Nat.reduceMul, Nat.reduceLT, List.length_map, List.length_range, splice, vcA, ↓vcB, vcC, notInt5, notInt9, tab5, und4, und5, und9, e20]
  refine (hHasPrefix2 s p hs hp).then ?_ (by rfl)
  simp +contextual -implicitDefEqProofs (maxSteps := 2000000) (disch := omega) only [GVal.cells, grp, GVal.ofConst, ↓resV, resG, List.map, List.headD, List.take, List.drop, ↓reduceIte, Nat.reduceEqDiff, Nat.reduceAdd, Nat.reduceSub, Nat.reduceLeDiff, reduceCtorEq, implies_true, ne_eq, Tag.cap, List.replicate, allSolid, GVal.solid, Nat.reduceBEq, Nat.reduceMul, Nat.reduceLT, List.length_map, List.length_range, splice, vcA, ↓vcB, vcC, notInt5, notInt9, tab5, und4, und5, und9, e20]
end Gv.Try
/- Contract: hex.Parse. -/
set_option linter.unusedVariables false
set_option linter.unusedSimpArgs false
set_option maxRecDepth 20000
set_option maxHeartbeats 4000000
namespace Gv.Try
open Go Gv Go.Proofs
def errForm : GVal := .iface 49 (.int .i64 2)
def pairB (s : List UInt8) (i : Nat) : Int := bits .or .i64 (norm .i64 (dig (s.getD (2 * i) 0).toNat * 2 ^ 4)) (dig (s.getD (2 * i + 1) 0).toNat)
theorem ibin_shl (P : Program) (t : TypeId) (k k' : IntKind) (a b : Int) (K : GVal → Prop) : binV P .shl t (.int k a) (.int k' b) K = (0 ≤ b ∧ b ≤ k.bits ∧ K (.int k (norm k (a * 2 ^ b.toNat)))) := by simp only [binV]
theorem ibin_shr (P : Program) (t : TypeId) (k k' : IntKind) (a b : Int) (K : GVal → Prop) : binV P .shr t (.int k a) (.int k' b) K = (0 ≤ b ∧ b ≤ k.bits ∧ K (.int k (a / 2 ^ b.toNat))) := by simp only [binV]
theorem ibin_or (P : Program) (t : TypeId) (k : IntKind) (a b : Int) (K : GVal → Prop) : binV P .or t (.int k a) (.int k b) K = K (.int k (bits .or k a b)) := by simp only [binV, true_and]
theorem ibin_and (P : Program) (t : TypeId) (k : IntKind) (a b : Int) (K : GVal → Prop) : binV P .and t (.int k a) (.int k b) K = K (.int k (bits .and k a b)) := by simp only [binV, true_and]
theorem frzL_u8 (O : List GObj) (n : Nat) : ∀ l : List Int, frzL (Gv.frz O (n + 1)) (l.map (.int .u8)) = some (l.map (.int .u8))
  | [] => rfl
  | x :: r => by rw [List.map_cons, frzL, frzL_u8 O n r]; simp only [Gv.frz]
theorem allSolid_u8 : ∀ l : List Int, allSolid (l.map (.int .u8)) = True
  | [] => eq_true trivial
  | x :: r => by simp [allSolid, allSolid_u8 r, GVal.solid]
theorem WL_self : ∀ l : List GVal, WL l l
  | [] => trivial
  | x :: r => ⟨by rw [leG_self]; trivial, WL_self r⟩
theorem hParse (s : List UInt8) (hs : s.length = 64) (hp : isPre s = true) : GPure Try.prog 7 [.str s] (.tuple [.agg ((List.range 32).map fun i => .int .u8 (norm .u8 (pairB s i))), .lit .nilIface]) := by
  refine h7.pureF mixS (by simp) ?_
  simp only [gstart, s7, List.cons_append, List.nil_append, List.length_cons, List.length_nil, Nat.reduceAdd, Nat.reduceSub, List.replicate_succ, List.replicate_zero]
  have d0 : ((s.length : Int) = 64) = True := eq_true (by omega)
  simp +contextual -implicitDefEqProofs (maxSteps := 2000000) (disch := omega) only [drawC, ↓lenV, binV, ↓unV, ↓convV, ↓loadV, ↓storeV, ↓indexAddrV, ↓indexV, ↓allocV, ↓ifaceV, GVal.cells, grp, GVal.ofConst, ↓resV, resG, List.map, List.headD, List.take, List.drop, ↓reduceIte, Nat.reduceEqDiff, Nat.reduceAdd, Nat.reduceSub, Nat.reduceLeDiff, reduceCtorEq, implies_true, ne_eq, aggV, Tag.cap, List.replicate, allSolid, GVal.solid, Nat.reduceBEq, Nat.reduceMul, Nat.reduceLT, List.length_map, List.length_range, splice, vcA, ↓vcB, vcC, aggT23, arr23, els35, els36, elt35, elt36, notInt23, notInt3, notInt35, notInt36, notInt47, notInt5, notInt9, tab23, tab3, tab5, und23, und3, und35, und36, und4, und47, und49, und5, und9, zer23, e7, d0, not_true_eq_false, false_imp_iff, true_imp_iff, true_and]
  intro st st_1
  have c := hIsPrefix s (by omega)
  rw [hp] at c
  refine c.then ?_ (by rfl)
  simp +contextual -implicitDefEqProofs (maxSteps := 2000000) (disch := omega) only [drawC, ↓lenV, binV, ↓unV, ↓convV, ↓loadV, ↓storeV, ↓indexAddrV, ↓indexV, ↓allocV, ↓ifaceV, GVal.cells, grp, GVal.ofConst, ↓resV, resG, List.map, List.headD, List.take, List.drop, ↓reduceIte, Nat.reduceEqDiff, Nat.reduceAdd, Nat.reduceSub, Nat.reduceLeDiff, reduceCtorEq, implies_true, ne_eq, aggV, Tag.cap, List.replicate, allSolid, GVal.solid, Nat.reduceBEq, Nat.reduceMul, Nat.reduceLT, List.length_map, List.length_range, splice, vcA, ↓vcB, vcC, aggT23, arr23, els35, els36, elt35, elt36, notInt23, notInt3, notInt35, notInt36, notInt47, notInt5, notInt9, tab23, tab3, tab5, und23, und3, und35, und36, und4, und47, und49, und5, und9, zer23, e7]
  obtain ⟨Z, hZ⟩ : ∃ Z, Z = bytesG (List.replicate 32 0) := ⟨_, rfl⟩
  have zl : Z.length = 32 := by rw [hZ]; simp [bytesG]
  refine vcSLoop_by (ι := { p : Nat × List GVal // p.1 ≤ 32 ∧ p.2.length = 32 ∧ (∀ i, i < p.1 → p.2.getD i .any = .int .u8 (norm .u8 (pairB s i))) ∧ ∀ c ∈ p.2, c.solid = true }) (fun p => ⟨[.str s, .any, .ptr 0 st 0 0, .any, .ptr 1 st_1 0 0, .any, .any, .any, .any, .any, .any, .any, .any, .any, .any, .any, .int .i64 (p.1.1 : Nat)] ++ List.replicate 20 .any, [.row st 32 [Z], .row st_1 32 [p.1.2]]⟩) (fun p => 32 - p.1.1) ?_ ?_
  · exact Into.first ⟨(0, Z), by omega, zl, by omega, by rw [hZ]; simp [bytesG, GVal.solid]⟩ ⟨[], by simp [hZ, bytesG]⟩ (by simp [WL, leG_self, leG_any, leG_int])
  · rintro ⟨⟨k, H⟩, hk, hH, hi, hsol⟩
    simp only [] at hk hH hi hsol
    by_cases h : k < 32
    · have d1 : ((k : Int) < 32) = True := eq_true (by omega)
      have e1 : ((2 : Int) * k).toNat = 2 * k := by omega
      have e2 : ((2 : Int) * k + 1).toNat = 2 * k + 1 := by omega
      have b1 := byte_le (s.getD (2 * k) 0)
      have b2 := byte_le (s.getD (2 * k + 1) 0)
      have ep : norm .u8 (pairB s k) = norm .u8 (bits .or .i64 (norm .i64 (dig (s.getD (2 * k) 0).toNat * 2 ^ 4)) (dig (s.getD (2 * k + 1) 0).toNat)) := rfl
      obtain ⟨x, ex⟩ : ∃ x, s.getD (2 * k) 0 = x := ⟨_, rfl⟩
      obtain ⟨y, ey⟩ : ∃ y, s.getD (2 * k + 1) 0 = y := ⟨_, rfl⟩
      rw [ex] at b1 ep
      rw [ey] at b2 ep
      have b3 := dig_le x.toNat
      have b4 := dig_le y.toNat
      simp +contextual -implicitDefEqProofs (maxSteps := 2000000) (disch := omega) only [drawC, ↓lenV, binV, ↓unV, ↓convV, ↓loadV, ↓storeV, ↓indexAddrV, ↓indexV, ↓allocV, ↓ifaceV, GVal.cells, grp, GVal.ofConst, ↓resV, resG, List.map, List.headD, List.take, List.drop, ↓reduceIte, Nat.reduceEqDiff, Nat.reduceAdd, Nat.reduceSub, Nat.reduceLeDiff, reduceCtorEq, implies_true, ne_eq, aggV, Tag.cap, List.replicate, allSolid, GVal.solid, Nat.reduceBEq, Nat.reduceMul, Nat.reduceLT, List.length_map, List.length_range, splice, vcA, ↓vcB, vcC, aggT23, arr23, els35, els36, elt35, elt36, notInt23, notInt3, notInt35, notInt36, notInt47, notInt5, notInt9, tab23, tab3, tab5, und23, und3, und35, und36, und4, und47, und49, und5, und9, zer23, e7, d1, e1, e2, ex, ey]
      refine ⟨by omega, by omega, by omega, by omega, ?_⟩
      refine (hDigit x.toNat b1).then ?_ (by rfl)
      have q0 : (4 : Int).toNat = 4 := rfl
      simp +contextual -implicitDefEqProofs (maxSteps := 2000000) (disch := omega) only [drawC, ↓lenV, binV, ↓unV, ↓convV, ↓loadV, ↓storeV, ↓indexAddrV, ↓indexV, ↓allocV, ↓ifaceV, GVal.cells, grp, GVal.ofConst, ↓resV, resG, List.map, List.headD, List.take, List.drop, ↓reduceIte, Nat.reduceEqDiff, Nat.reduceAdd, Nat.reduceSub, Nat.reduceLeDiff, reduceCtorEq, implies_true, ne_eq, aggV, Tag.cap, List.replicate, allSolid, GVal.solid, Nat.reduceBEq, Nat.reduceMul, Nat.reduceLT, List.length_map, List.length_range, splice, vcA, ↓vcB, vcC, aggT23, arr23, els35, els36, elt35, elt36, notInt23, notInt3, notInt35, notInt36, notInt47, notInt5, notInt9, tab23, tab3, tab5, und23, und3, und35, und36, und4, und47, und49, und5, und9, zer23, e7, d1, e1, e2, ex, ey, ↓ibin_shl, ↓ibin_or, q0]
      refine ⟨by omega, by decide, ?_⟩
      refine (hDigit y.toNat b2).then ?_ (by rfl)
      simp +contextual -implicitDefEqProofs (maxSteps := 2000000) (disch := omega) only [drawC, ↓lenV, binV, ↓unV, ↓convV, ↓loadV, ↓storeV, ↓indexAddrV, ↓indexV, ↓allocV, ↓ifaceV, GVal.cells, grp, GVal.ofConst, ↓resV, resG, List.map, List.headD, List.take, List.drop, ↓reduceIte, Nat.reduceEqDiff, Nat.reduceAdd, Nat.reduceSub, Nat.reduceLeDiff, reduceCtorEq, implies_true, ne_eq, aggV, Tag.cap, List.replicate, allSolid, GVal.solid, Nat.reduceBEq, Nat.reduceMul, Nat.reduceLT, List.length_map, List.length_range, splice, vcA, ↓vcB, vcC, aggT23, arr23, els35, els36, elt35, elt36, notInt23, notInt3, notInt35, notInt36, notInt47, notInt5, notInt9, tab23, tab3, tab5, und23, und3, und35, und36, und4, und47, und49, und5, und9, zer23, e7, d1, e1, e2, ex, ey, ↓ibin_shl, ↓ibin_or]
      rw [norm_i64 (by omega)] at ep
      generalize norm .u8 (bits .or .i64 (dig x.toNat * 2 ^ 4) (dig y.toNat)) = q at *
      rw [Nat.mul_one]
      refine ⟨by omega, by omega, ?_⟩
      refine Into.at ⟨(k + 1, H.take k ++ [.int .u8 q] ++ H.drop (k + 1)), by show k + 1 ≤ 32; omega, by simp; omega, fun i hi' => ?_, fun c hc => ?_⟩ (by show _ < _; simp; omega) ⟨[], by simp⟩ (by simp [WL, leG_self, leG_any, leG_int])
      · show (H.take k ++ [GVal.int .u8 q] ++ H.drop (k + 1)).getD i .any = _
        have hi2 : i < k + 1 := hi'
        by_cases e : i = k
        · subst e
          rw [ep]
          simp [List.getD, List.getElem?_append, hH, hk]
        · have := hi i (by omega)
          rw [← this]
          simp only [List.getD]
          rw [List.append_assoc, List.getElem?_append_left (by simp; omega), List.getElem?_take_of_lt (by omega)]
      · change c ∈ H.take k ++ [GVal.int .u8 q] ++ H.drop (k + 1) at hc
        simp only [List.mem_append, List.mem_singleton] at hc
        rcases hc with (hc | rfl) | hc
        · exact hsol c (List.mem_of_mem_take hc)
        · rfl
        · exact hsol c (List.mem_of_mem_drop hc)
    · have d1 : ((k : Int) < 32) = False := eq_false (by omega)
      have tH : List.take 32 H = H := List.take_of_length_le (by omega)
      have eH : H = ((List.range 32).map fun i => norm .u8 (pairB s i)).map (.int .u8) := by
        apply List.ext_getElem (by simp [hH])
        intro i h1 h2
        have := hi i (by omega)
        simp only [List.getD, List.getElem?_eq_getElem h1, Option.getD_some] at this
        rw [this]; simp
      have aS := allSolid_u8 ((List.range 32).map fun i => norm .u8 (pairB s i))
      rw [← eH] at aS
      have dZ : List.drop H.length Z = [] := List.drop_of_length_le (by omega)
      simp +contextual -implicitDefEqProofs (maxSteps := 2000000) (disch := omega) only [drawC, ↓lenV, binV, ↓unV, ↓convV, ↓loadV, ↓storeV, ↓indexAddrV, ↓indexV, ↓allocV, ↓ifaceV, GVal.cells, grp, GVal.ofConst, ↓resV, resG, List.map, List.headD, List.take, List.drop, ↓reduceIte, Nat.reduceEqDiff, Nat.reduceAdd, Nat.reduceSub, Nat.reduceLeDiff, reduceCtorEq, implies_true, ne_eq, aggV, Tag.cap, List.replicate, allSolid, GVal.solid, Nat.reduceBEq, Nat.reduceMul, Nat.reduceLT, List.length_map, List.length_range, splice, vcA, ↓vcB, vcC, aggT23, arr23, els35, els36, elt35, elt36, notInt23, notInt3, notInt35, notInt36, notInt47, notInt5, notInt9, tab23, tab3, tab5, und23, und3, und35, und36, und4, und47, und49, und5, und9, zer23, e7, d1, false_imp_iff, true_and, tH, aS, zl, dZ, List.append_nil]
      refine ⟨by omega, hH, by omega, 4, (.tuple [.agg ((List.range 32).map fun i => .int .u8 (norm .u8 (pairB s i))), .lit .nilIface]), ?_, WL_self _⟩
      have q1 : Gv.frz [.row st 32 [H], .row st_1 32 [H]] 3 (.agg H) = some (.agg ((List.range 32).map fun i => .int .u8 (norm .u8 (pairB s i)))) := by
        have := frzL_u8 [.row st 32 [H], .row st_1 32 [H]] 1 ((List.range 32).map fun i => norm .u8 (pairB s i))
        rw [← eH] at this
        simp only [Gv.frz, this]
        rw [eH, List.map_map]; rfl
      have q2 : Gv.frz [.row st 32 [H], .row st_1 32 [H]] 3 (.lit .nilIface) = some (.lit .nilIface) := by simp only [Gv.frz]
      rw [Gv.frz, frzL, q1, frzL, q2]; rfl
end Gv.Try
/- bytes.Compare, at this program. -/
set_option linter.unusedVariables false
set_option maxRecDepth 100000
namespace Gv.Try
open Go Gv Go.Proofs
/-- bytes lie side by side -/
def lies (w : World) (a : Option Addr) (l : List UInt8) : Prop := l ≠ [] → ∃ p, a = some p ∧ ∀ (j : Nat) x, l[j]? = some x → w.cell? (p.add j) = some (.int .u8 x.toNat)
theorem run_bytesOf {P : Program} {w : World} {a : Option Addr} {l : List UInt8} (c : Nat) (h : lies w a l) : (Extern.Bytes.bytesOf (.slice a l.length c)).run P w = .ok ⟨l.toArray⟩ w := by
  cases a with
  | none =>
    cases l with
    | nil => rfl
    | cons x r => obtain ⟨p, hp, _⟩ := h (by simp); cases hp
  | some p =>
    cases l with
    | nil => rfl
    | cons x r =>
      obtain ⟨q, hq, hc⟩ := h (by simp)
      cases hq
      have := Lib.run_loadBytesX (P := P) w ((x :: r).map fun c => (c.toNat : Int)) p .empty (fun j y hy => by
        rw [List.getElem?_map] at hy
        cases hq : (x :: r)[j]? with
        | none => rw [hq] at hy; cases hy
        | some z => rw [hq] at hy; simp at hy; subst hy; exact hc j z hq)
      have e : Lib.bytesOf ((x :: r).map fun c => (c.toNat : Int)) = x :: r := by simp [Lib.bytesOf, List.map_map, Function.comp_def]
      rw [e, List.length_map] at this
      simpa [Extern.Bytes.bytesOf] using this
def cmpL (a b : List UInt8) : Int := Extern.BytealgCompare.cmp ⟨a.toArray⟩ ⟨b.toArray⟩
theorem run_compare {P : Program} {w : World} {a b : Option Addr} {x y : List UInt8} (c d : Nat) (h : lies w a x) (k : lies w b y) :
    (Extern.BytealgCompare.compare #[.slice a x.length c, .slice b y.length d]).run P w = .ok (.int .i64 (cmpL x y)) w := by
  change Sem.run P (do
    let p ← Extern.Bytes.bytesOf (.slice a x.length c)
    let q ← Extern.Bytes.bytesOf (.slice b y.length d)
    pure (goInt (Extern.BytealgCompare.cmp p q))) w = _
  simp only [Sem.run_bind, run_bytesOf c h, run_bytesOf d k, Result.andThen_ok]
  rfl
set_option maxHeartbeats 2000000 in
theorem calls21 (w : World) (a b : Option Addr) (x y : List UInt8) (c d : Nat) (h : lies w a x) (k : lies w b y) :
    Calls Try.prog 21 #[.slice a x.length c, .slice b y.length d] w fun e w' => e = .returned (.int .i64 (cmpL x y)) ∧ w' = w := by
  go_enter Try.func21, Try.ntmps21
  go_wp2
  rw [run_callFunc_extern Try.func29 (by kernel_rfl) (by kernel_rfl) (by kernel_rfl) (e := Extern.BytealgCompare.compare) (by kernel_rfl), run_compare c d h k]
  simp only [Result.andThen]
  rw [Oper.upon_value]
  go_wp2
  go_ret
  exact ⟨rfl, rfl⟩
end Gv.Try
/- slices.SortFunc over rows of structs, as a contract over ghost values. -/
set_option linter.unusedVariables false
namespace Gv
open Go Go.Proofs Go.Shelf Go.RowKit Go.Lib Go.Sort

section
variable {P : Program} {ρ : Ren}
set_option maxHeartbeats 2000000 in
theorem insertion_none (L : SlLaysF0.n20 P ρ) (p : Option Addr) (cap : Nat) (fv : Value) (w : World) :
    Calls P (ρ.f 20) #[.slice p 0 cap, .int .i64 0, .int .i64 0, fv] w fun e w' => e = .returned (.tuple #[]) ∧ w' = w := by
  have mixed := L.mixed; have t0 := L.t0; have a0 := L.a0; have z0 := L.z0; have v0 := L.v0; have t3 := L.t3; have a3 := L.a3; have z3 := L.z3; have v3 := L.v3; have t4 := L.t4; have a4 := L.a4; have z4 := L.z4; have v4 := L.v4; have t22 := L.t22; have a22 := L.a22; have z22 := L.z22; have v22 := L.v22; have t25 := L.t25; have a25 := L.a25; have z25 := L.z25; have v25 := L.v25
  obtain ⟨_, _, FG⟩ := L.f20
  go_enter FG, SlBodyF.n20_ntmps ρ
  go_wp2
  refine wp_loop_rounds 1 ?_
  rw [rounds_succ]
  go_wp2
  go_end0
  exact ⟨rfl, rfl⟩

set_option maxHeartbeats 2000000 in
theorem pdq_none (L : SlLaysF0.n14 P ρ) (p : Option Addr) (cap : Nat) (lim : Int) (fv : Value) (w : World) :
    Calls P (ρ.f 14) #[.slice p 0 cap, .int .i64 0, .int .i64 0, .int .i64 lim, fv] w fun e w' => e = .returned (.tuple #[]) ∧ w' = w := by
  have mixed := L.mixed; have t0 := L.t0; have a0 := L.a0; have z0 := L.z0; have v0 := L.v0; have t3 := L.t3; have a3 := L.a3; have z3 := L.z3; have v3 := L.v3; have t4 := L.t4; have a4 := L.a4; have z4 := L.z4; have v4 := L.v4; have t5 := L.t5; have a5 := L.a5; have z5 := L.z5; have v5 := L.v5; have t9 := L.t9; have a9 := L.a9; have z9 := L.z9; have v9 := L.v9; have t22 := L.t22; have a22 := L.a22; have z22 := L.z22; have v22 := L.v22; have t25 := L.t25; have a25 := L.a25; have z25 := L.z25; have v25 := L.v25; have t39 := L.t39; have a39 := L.a39; have z39 := L.z39; have v39 := L.v39; have t45 := L.t45; have a45 := L.a45; have z45 := L.z45; have v45 := L.v45; have t46 := L.t46; have a46 := L.a46; have z46 := L.z46; have v46 := L.v46; have t50 := L.t50; have a50 := L.a50; have z50 := L.z50; have v50 := L.v50; have t53 := L.t53; have a53 := L.a53; have z53 := L.z53; have v53 := L.v53; have t55 := L.t55; have a55 := L.a55; have z55 := L.z55; have v55 := L.v55; have t66 := L.t66; have a66 := L.a66; have z66 := L.z66; have v66 := L.v66; have t70 := L.t70; have a70 := L.a70; have z70 := L.z70; have v70 := L.v70; have t76 := L.t76; have a76 := L.a76; have z76 := L.z76; have v76 := L.v76; have t77 := L.t77; have a77 := L.a77; have z77 := L.z77; have v77 := L.v77
  have e20 : ∀ args w, (callFunc (ρ.f 20) args).run P w = .ok (.enter (ρ.f 20) args) w := L.f20.enters rfl
  have hi := fun W => insertion_none (P := P) (ρ := ρ) { L with } p cap fv W
  obtain ⟨_, _, FG⟩ := L.f14
  go_enter FG, SlBodyF.n14_ntmps ρ
  go_wp2
  refine wp_loop_rounds 1 ?_
  rw [rounds_succ]
  go_wp2_with (go_at_fn (ρ.f 20); refine (hi _).mono ?_; rintro e w' ⟨rfl, rfl⟩)
  (try simp only [Exit.inBlock, Exit.then]); refine bodyPost_ret (results_none rfl _ _ _) rfl ?_
  exact ⟨rfl, rfl⟩

set_option maxHeartbeats 2000000 in
theorem sort_none (L : SlLaysF0.n6 P ρ) (p : Option Addr) (cap : Nat) (fv : Value) (w : World) :
    Calls P (ρ.f 6) #[.slice p 0 cap, fv] w fun e w' => e = .returned (.tuple #[]) ∧ w' = w := by
  have mixed := L.mixed; have t0 := L.t0; have a0 := L.a0; have z0 := L.z0; have v0 := L.v0; have t3 := L.t3; have a3 := L.a3; have z3 := L.z3; have v3 := L.v3; have t4 := L.t4; have a4 := L.a4; have z4 := L.z4; have v4 := L.v4; have t5 := L.t5; have a5 := L.a5; have z5 := L.z5; have v5 := L.v5; have t9 := L.t9; have a9 := L.a9; have z9 := L.z9; have v9 := L.v9; have t22 := L.t22; have a22 := L.a22; have z22 := L.z22; have v22 := L.v22; have t25 := L.t25; have a25 := L.a25; have z25 := L.z25; have v25 := L.v25; have t39 := L.t39; have a39 := L.a39; have z39 := L.z39; have v39 := L.v39; have t45 := L.t45; have a45 := L.a45; have z45 := L.z45; have v45 := L.v45; have t46 := L.t46; have a46 := L.a46; have z46 := L.z46; have v46 := L.v46; have t50 := L.t50; have a50 := L.a50; have z50 := L.z50; have v50 := L.v50; have t53 := L.t53; have a53 := L.a53; have z53 := L.z53; have v53 := L.v53; have t55 := L.t55; have a55 := L.a55; have z55 := L.z55; have v55 := L.v55; have t66 := L.t66; have a66 := L.a66; have z66 := L.z66; have v66 := L.v66; have t70 := L.t70; have a70 := L.a70; have z70 := L.z70; have v70 := L.v70; have t76 := L.t76; have a76 := L.a76; have z76 := L.z76; have v76 := L.v76; have t77 := L.t77; have a77 := L.a77; have z77 := L.z77; have v77 := L.v77
  have e14 : ∀ args w, (callFunc (ρ.f 14) args).run P w = .ok (.enter (ρ.f 14) args) w := L.f14.enters rfl
  have e15 : ∀ args w, (callFunc (ρ.f 15) args).run P w = .ok (.enter (ρ.f 15) args) w := enters_of L.f15 (by kernel_rfl) rfl
  have hp := fun lim W => pdq_none (P := P) (ρ := ρ) { L with } p cap lim fv W
  have hl : ∀ W, Calls P (ρ.f 15) #[.int .u64 0] W fun e w' => e = .returned (.int .i64 (Lib.bitLen 0 : Nat)) ∧ w' = W := fun W => by
    have h := Any.bits_Len (SlLaysF0.n15.bits (P := P) (ρ := ρ) { L with }) 0 W (by omega) (by omega)
    exact h
  obtain ⟨_, _, FG⟩ := L.f6
  go_enter FG, SlBodyF.n6_ntmps ρ
  go_wp2_with (first | (go_at_fn (ρ.f 15); refine (hl _).mono ?_; rintro e w' ⟨rfl, rfl⟩) | (go_at_fn (ρ.f 14); refine (hp _ _).mono ?_; rintro e w' ⟨rfl, rfl⟩))
  go_end0
  exact ⟨rfl, rfl⟩
end

theorem flatMap_at {α : Type} (G : α → List GVal) (k : Nat) (hG : ∀ x, (G x).length = k) : ∀ (xs : List α) (t : Nat), (xs.map G).flatten[t]? = (xs[t / k]?).bind fun x => (G x)[t % k]?
  | [], t => by simp
  | x :: r, t => by
    rw [List.map_cons, List.flatten_cons]
    by_cases h : t < k
    · rw [List.getElem?_append_left (by rw [hG]; exact h), Nat.div_eq_of_lt h, Nat.mod_eq_of_lt h]
      rfl
    · rw [List.getElem?_append_right (by rw [hG]; omega), hG, flatMap_at G k hG r]
      by_cases hk : k = 0
      · subst hk
        have : ∀ y, G y = [] := fun y => List.eq_nil_of_length_eq_zero (hG y)
        simp [this]
      · have e : t = (t - k) + k := by omega
        have e1 : t / k = (t - k) / k + 1 := by
          conv => lhs; rw [e]
          rw [Nat.add_div_right _ (by omega)]
        have e2 : t % k = (t - k) % k := by
          conv => lhs; rw [e]
          rw [Nat.add_mod_right]
        rw [e1, e2, List.getElem?_cons_succ]

section
variable {α : Type} [Inhabited α]
theorem sortWorld_at (enc : α → List Value) (k : Nat) (w : World) (blk off m : Nat) (dk : Array α) (os : Array Obj) {cur : Array Value} {el : TypeId} {fr : Nat × Nat} (hc : w.heap[blk]? = some (.cells cur el fr)) :
    (sortWorldK enc k w blk off m dk os).os = w.os ∧ (sortWorldK enc k w blk off m dk os).output = w.output ∧ w.heap.size ≤ (sortWorldK enc k w blk off m dk os).heap.size ∧
    (∀ b, b < w.heap.size → b ≠ blk → (sortWorldK enc k w blk off m dk os).heap[b]? = w.heap[b]?) ∧
    (sortWorldK enc k w blk off m dk os).heap[blk]? = some (.cells (putCells id off (flatK enc k dk) cur) el fr) := by
  have e : (sortWorldK enc k w blk off m dk os).heap = (w.heap.modify blk (onCells (putCells id off (flatK enc k dk)))) ++ os := rfl
  have hlt := (Array.getElem?_eq_some_iff.1 hc).1
  refine ⟨rfl, rfl, by rw [e]; simp, fun b hb hn => ?_, ?_⟩
  · rw [e, Array.getElem?_append, if_pos (by simpa using hb), Array.getElem?_modify, if_neg (fun h => hn h.symm)]
  · rw [e, Array.getElem?_append, if_pos (by simpa using hlt), Array.getElem?_modify, if_pos rfl, hc]; rfl

theorem putCells_at (off : Nat) (d : Array Value) (c : Array Value) (j : Nat) (hj : j < d.size) (hc : off + j < c.size) : (putCells id off d c)[off + j]? = some d[j]! := by
  simp only [putCells, Array.getElem?_mapIdx, Array.getElem?_eq_getElem hc, Option.map_some]
  rw [if_pos ⟨by omega, by omega⟩, show off + j - off = j by omega]; rfl
theorem putCells_size (off : Nat) (d : Array Value) (c : Array Value) : (putCells id off d c).size = c.size := by simp [putCells]
theorem getBang_of {β : Type} [Inhabited β] {l : List β} {i : Nat} {x : β} (h : l[i]? = some x) : l[i]! = x := by simp [h]
end

theorem set_same {β : Type} {l : List β} {i : Nat} {x : β} (h : l[i]? = some x) : l.set i x = l := by
  apply List.ext_getElem?
  intro j
  rw [List.getElem?_set]
  by_cases e : i = j
  · subst e; rw [if_pos rfl, h, if_pos (List.getElem?_eq_some_iff.1 h).1]
  · rw [if_neg e]

theorem gcalls_sort {P : Program} {ρ : Ren} {α : Type} [Inhabited α] (L : SlLaysF0.n6 P ρ) (k : Nat) (aE : ∀ w, (isAgg (ρ.t 24)).run P w = .ok true w) (zE : ∀ w, (Go.sizeOf (ρ.t 24)).run P w = .ok k w)
    (enc : α → List Value) (G : α → List GVal) (hk : ∀ x, (enc x).length = k) (h1 : ∀ x, ∀ v ∈ enc x, v.oneCell' = true) (hG : ∀ x, (G x).length = k)
    (hdet : ∀ E x (j : Nat) g v, (G x)[j]? = some g → VR E v g → (enc x)[j]? = some v) (hback : ∀ E x (j : Nat) g, (G x)[j]? = some g → ∃ v, (enc x)[j]? = some v ∧ VR E v g)
    (cf : α → α → Int) (hO : SWO (ltOf cf)) (c : FuncId) (eg : ∀ args w, (callFunc c args).run P w = .ok (.enter c args) w)
    (hcmp : ∀ x y W, Calls P c #[.agg (enc x).toArray, .agg (enc y).toArray] W fun e w' => e = .returned (.int .i64 (cf x y)) ∧ ∃ q os', w' = grow (W.drewN q) os')
    (hen : enterable P (ρ.f 6) = true) (xs : List α) (hsz : xs.length < 4611686018427387904) {O : List GObj} {o st : Nat} (hOo : O[o]? = some (.row st k (xs.map G))) (hc : clockOf O = none) :
    GCalls P (ρ.f 6) [.own o st 0 xs.length, .func (.func c) [] []] O (fun r O' => r = .tuple [] ∧ ∃ ys : List α, ys.Perm xs ∧ ys.Pairwise (fun a b => ¬ cf b a < 0) ∧ O' = O.set o (.row st k (ys.map G))) := by
  refine ⟨hen, fun E w vs hs ha => ?_⟩
  obtain ⟨hvs, hva⟩ := ha
  have h2 : vs.size = 2 := hvs
  have hv0 := hva 0 _ rfl
  have hv1 := hva 1 _ rfl
  obtain ⟨v0, v1, rfl⟩ : ∃ a b, vs = #[a, b] := by
    refine ⟨vs[0], vs[1], Array.ext (by simp [h2]) fun i a b => ?_⟩
    have : i = 0 ∨ i = 1 := by omega
    rcases this with rfl | rfl <;> rfl
  have e0 : (#[v0, v1] : Array Value).getD 0 undef = v0 := rfl
  have e1 : (#[v0, v1] : Array Value).getD 1 undef = v1 := rfl
  rw [e0] at hv0; rw [e1] at hv1
  clear hva hvs h2 e0 e1
  cases hv1 with
  | func _ fs cs _ _ hf hkk hfs hcs =>
    have ef : fs = #[] := Array.eq_empty_of_size_eq_zero hf
    have ec : cs = #[] := Array.eq_empty_of_size_eq_zero hkk
    subst ef; subst ec
    have hreal := hs.real _ _ hOo
    cases hv0 with
    | own a _ cap _ _ _ l hl hcap hadr =>
      obtain ⟨l', hl', hsz', hrow, hm⟩ := hreal
      rw [hl] at hl'; cases hl'
      by_cases hx : xs = []
      · subst hx
        refine (sort_none L a cap _ w).mono ?_
        rintro e w' ⟨rfl, rfl⟩
        exact ⟨_, E, O, .tuple [], rfl, hs, .refl _ _ _, .tuple _ _ rfl (fun j g h => by simp at h), rfl, [], .refl _, .nil, (set_same hOo).symm⟩
      · have hpos : 0 < xs.length := List.length_pos_iff.2 hx
        rcases hadr with h0 | ⟨b, hb, rfl, htot⟩
        · omega
        rw [hb] at hm
        obtain ⟨cur, el, hw, hcs', hle, hrows, hsn⟩ := hm
        have hmul : (0 : Nat) * l.size = 0 := Nat.zero_mul _
        rw [hmul, Nat.add_zero]
        have hle' : l.off + xs.length * k ≤ cur.size := by rw [hcs']; simpa using hle
        have hlt := (Array.getElem?_eq_some_iff.1 hw).1
        have hcell : ∀ t, t < xs.length * k → ∃ v, cur[l.off + t]? = some v ∧ (flatK enc k xs.toArray)[t]! = v := fun t ht => by
          have hk0 : 0 < k := Nat.pos_of_ne_zero fun e => by subst e; simp at ht
          have hd : t / k < xs.length := Nat.div_lt_of_lt_mul (by rw [Nat.mul_comm]; exact ht)
          have hmd : t % k < k := Nat.mod_lt _ hk0
          have hx? : xs[t / k]? = some xs[t / k] := List.getElem?_eq_getElem hd
          have hg : (G xs[t / k])[t % k]? = some ((G xs[t / k])[t % k]'(by rw [hG]; exact hmd)) := List.getElem?_eq_getElem _
          obtain ⟨v, q1, _, q3⟩ := hrows t _ (by rw [flatMap_at G k hG, hx?]; exact hg)
          refine ⟨v, q1, ?_⟩
          rw [get_flatK _ _ _ _ (by simpa using ht)]
          have := hdet E _ _ _ _ hg q3
          have e1 : xs.toArray[t / k]! = xs[t / k] := by
            rw [getElem!_pos _ _ (by simpa using hd)]; rfl
          rw [e1]; exact getBang_of this
        have hH : HoldsK enc k w b l.off xs.toArray := fun t ht => by
          have ht' : t < xs.length * k := by simpa using ht
          obtain ⟨v, q1, q2⟩ := hcell t ht'
          refine ⟨?_, ?_⟩
          · show w.cell? _ = some (flatK enc k xs.toArray)[t]!
            rw [q2]; simp [World.cell?, hw, q1]
          · simp [World.frozen?, hw]
        have hcmp' : CmpLays P c #[] enc k cf b l.off xs.toArray.size w := fun m os dk _ x y => hcmp x y _
        refine (AnyQ.slices_SortFunc L k aE zE enc hk h1 cf hO c #[] b l.off cap xs.toArray w eg hcmp' hH hlt (by simpa using hsz)).mono ?_
        rintro e w' ⟨rfl, d', n, os, ⟨p1, p2, p3⟩, hsort, rfl⟩
        have hlen : d'.size = xs.length := by simpa using p1
        have hperm : d'.toList.Perm xs := by
          have q1 : d'.extract 0 xs.toArray.size = d' := by rw [← p1]; simp
          have q2 : xs.toArray.extract 0 xs.toArray.size = xs.toArray := by simp
          rw [q1, q2] at p3; exact p3
        have hpw : d'.toList.Pairwise (fun a b => ¬ cf b a < 0) := by
          rw [List.pairwise_iff_getElem]
          intro i j hi hj hij
          have := hsort i j (Nat.zero_le _) hij (by simp at hj; rw [← p1]; exact hj)
          rw [getElem!_pos d' j (by simpa using hj), getElem!_pos d' i (by simpa using hi)] at this
          simpa [ltOf] using this
        obtain ⟨s1, s2, s3, s4, s5⟩ := sortWorld_at enc k w b l.off n d' os hw
        have hup := hs.upd (E' := E) (w' := sortWorldK enc k w b l.off n d' os) (obj' := .row st k (d'.toList.map G)) (b := b) (t := b) hOo (.inl (by simp [GObj.blk, hl, hb])) (.inl rfl) (.refl E) hs.fin ⟨rfl, rfl⟩ s1 ⟨s2, trivial⟩ s3 s4 (fun _ _ _ _ hv => hv)
          (fun o v hv => by rw [hsn o] at hv; cases hv)
          (by
            refine ⟨l, hl, hsz', fun y hy => ?_, ?_⟩
            · obtain ⟨z, _, rfl⟩ := List.mem_map.1 hy; exact hG z
            rw [hb]
            refine ⟨_, el, s5, by rw [putCells_size]; exact hcs', by simp [hlen]; rw [← hcs']; exact hle', fun j g hj => ?_, hsn⟩
            rw [flatMap_at G k hG] at hj
            cases hq : d'.toList[j / k]? with
            | none => rw [hq] at hj; cases hj
            | some x =>
              rw [hq] at hj
              have hj' : (G x)[j % k]? = some g := hj
              obtain ⟨v, q1, q2⟩ := hback E x _ g hj'
              have hi : j / k < d'.size := by simpa using (List.getElem?_eq_some_iff.1 hq).1
              have hk0 : 0 < k := Nat.pos_of_ne_zero fun e => by
                have := (List.getElem?_eq_some_iff.1 hj').1; rw [hG, e] at this; omega
              have hjk : j < d'.size * k := (Nat.div_lt_iff_lt_mul hk0).1 hi
              have e3 : d'[j / k]! = x := by
                rw [getElem!_pos d' (j / k) hi]
                have := (List.getElem?_eq_some_iff.1 hq).2
                simpa using this
              refine ⟨v, ?_, h1 x v (List.mem_of_getElem? q1), q2⟩
              rw [putCells_at l.off _ _ j (by simpa using hjk) (by rw [hlen] at hjk; omega), get_flatK _ _ _ _ hjk, e3, getBang_of q1])
          (fun kk hkk => by simp [GObj.blk, hl, hb] at hkk; exact hkk.symm)
        exact ⟨_, E, _, .tuple [], rfl, hup.1, hup.2, .tuple _ _ rfl (fun j g h => by simp at h), rfl, d'.toList, hperm, hpw, rfl⟩
end Gv
