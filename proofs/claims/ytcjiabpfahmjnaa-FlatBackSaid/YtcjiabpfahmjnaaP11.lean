import Derived.Test.YtcjiabpfahmjnaaP6
import Derived.Test.YtcjiabpfahmjnaaProg
import Derived.KernelRfl
import Derived.Test.YtcjiabpfahmjnaaP10
import Derived.Test.YtcjiabpfahmjnaaP8
set_option maxRecDepth 100000
set_option linter.defProp false
namespace Gv.Try
open Go Gv Go.Proofs
def s7_0 : SCode := (.reg [(.mk (some 6) (.box 24 (.tmp 0)) none), (.mk (some 12) (.assign (.const (.bool false))) none)])
def s7_1 : SCode := (.reg [(.mk (some 18) (.load 24 (.tmp 6)) none), (.mk (some 19) (.call (.mk (.value (.func 11)) #[(.tmp 18)] #[24])) none), (.mk (some 20) (.call (.mk (.value (.func 24)) #[(.tmp 19)] #[27])) none), (.mk (some 21) (.move (.tmp 1)) none), (.mk (some 22) (.move (.tmp 2)) none), (.mk (some 23) (.move (.tmp 3)) none), (.mk (some 24) (.call (.mk (.value (.func 26)) #[(.tmp 20), (.tmp 21), (.tmp 22), (.tmp 23)] #[29, 3, 3, 3])) none), (.mk (some 13) (.assign (.tmp 24)) none)])
def s7_2 : SCode := (.reg [(.mk (some 25) (.move (.tmp 5)) none)])
def s7_3 : SCode := (.reg [(.mk (some 26) (.move (.tmp 4)) none), (.mk (some 13) (.assign (.tmp 26)) none)])
def s7_4 : SCode := (.seq s7_2 (.cond (.tmp 25) s7_3 (.skip)))
def s7_5 : SCode := (.reg [(.mk (some 28) (.move (.tmp 13)) none), (.mk (some 29) (.call (.mk (.value (.func 27)) #[(.tmp 28)] #[29])) none), (.mk (some 27) (.move (.tmp 29)) none), (.mk (some 30) (.extract (.tmp 27) 0) none), (.mk (some 31) (.extract (.tmp 27) 1) none), (.mk (some 14) (.alloc 32) none), (.mk none (.store 32 (.tmp 14) (.tmp 30)) none), (.mk (some 15) (.assign (.tmp 31)) none)])
def s7_6 : SCode := (.reg [(.mk (some 33) (.move (.tmp 13)) none), (.mk (some 34) (.call (.mk (.value (.func 28)) #[(.tmp 33)] #[29])) none), (.mk (some 32) (.move (.tmp 34)) none), (.mk (some 35) (.extract (.tmp 32) 0) none), (.mk (some 36) (.extract (.tmp 32) 1) none), (.mk (some 16) (.alloc 27) none), (.mk none (.store 27 (.tmp 16) (.tmp 35)) none), (.mk (some 17) (.assign (.tmp 36)) none)])
def s7_7 : SCode := (.reg [(.mk (some 37) (.call (.mk (.value (.func 15)) #[] #[])) none), (.mk (some 38) (.move (.tmp 37)) none), (.mk (some 39) (.move (.tmp 15)) (some (38, true))), (.mk (some 40) (.move (.tmp 17)) (some (38, true))), (.mk (some 41) (.binOp (.eql) 4 (.tmp 39) (.tmp 40) 4) (some (38, true))), (.mk (some 42) (.pick (.tmp 38) (.tmp 41) (.const (.bool false))) none), (.mk (some 43) (.move (.tmp 42)) none), (.mk (some 44) (.move (.tmp 15)) (some (43, true))), (.mk (some 45) (.unOp (.not) 4 (.tmp 44)) (some (43, true))), (.mk (some 46) (.move (.tmp 45)) (some (43, true))), (.mk (some 47) (.fieldAddr 32 (.tmp 14) 0) (some (46, true))), (.mk (some 48) (.load 25 (.tmp 47)) (some (46, true))), (.mk (some 49) (.call (.mk (.builtin (.len)) #[(.tmp 48)] #[25])) (some (46, true))), (.mk (some 50) (.binOp (.eql) 3 (.tmp 49) (.const (.int (.i64) 0)) 3) (some (46, true))), (.mk (some 51) (.pick (.tmp 46) (.tmp 50) (.const (.bool false))) (some (43, true))), (.mk (some 52) (.move (.tmp 51)) (some (43, true))), (.mk (some 53) (.fieldAddr 32 (.tmp 14) 1) (some (52, true))), (.mk (some 54) (.load 25 (.tmp 53)) (some (52, true))), (.mk (some 55) (.call (.mk (.builtin (.len)) #[(.tmp 54)] #[25])) (some (52, true))), (.mk (some 56) (.binOp (.eql) 3 (.tmp 55) (.const (.int (.i64) 0)) 3) (some (52, true))), (.mk (some 57) (.pick (.tmp 52) (.tmp 56) (.const (.bool false))) (some (43, true))), (.mk (some 58) (.move (.tmp 57)) (some (43, true))), (.mk (some 59) (.move (.tmp 15)) (some (58, false))), (.mk (some 60) (.move (.tmp 59)) (some (58, false))), (.mk (some 61) (.load 32 (.tmp 14)) (some (60, true))), (.mk (some 62) (.load 27 (.tmp 16)) (some (60, true))), (.mk (some 63) (.call (.mk (.value (.func 29)) #[(.tmp 61), (.tmp 62)] #[32, 27])) (some (60, true))), (.mk (some 64) (.pick (.tmp 60) (.tmp 63) (.const (.bool false))) (some (58, false))), (.mk (some 65) (.pick (.tmp 58) (.const (.bool true)) (.tmp 64)) (some (43, true))), (.mk (some 66) (.pick (.tmp 43) (.tmp 65) (.const (.bool false))) none), (.mk (some 12) (.assign (.tmp 66)) none)])
def s7_8 : SCode := (.seq s7_5 (.seq s7_6 (.seq s7_7 (.ret))))
def s7 : SCode := (.seq s7_0 (.seq s7_1 (.seq s7_4 s7_8)))
theorem h7 : FnS Try.prog 7 ⟨[6], []⟩ 67 [(.tmp 12)] s7 := .mk' Try.func7 (by kernel_rfl) (by kernel_rfl) (by kernel_rfl) (by kernel_rfl) (by kernel_rfl) (by kernel_rfl)
def e7 := And.intro s7_0.eq_1 <| And.intro s7_1.eq_1 <| And.intro s7_2.eq_1 <| And.intro s7_3.eq_1 <| And.intro s7_4.eq_1 <| And.intro s7_5.eq_1 <| And.intro s7_6.eq_1 <| And.intro s7_7.eq_1 <| s7_8.eq_1
def s26_0 : SCode := (.reg [(.mk (some 8) (.assign (.const (.slice none 0 0))) none)])
def s26_1 : SCode := (.reg [(.mk (some 12) (.move (.tmp 0)) none), (.mk (some 13) (.call (.mk (.builtin (.len)) #[(.tmp 12)] #[29])) none), (.mk (some 14) (.binOp (.eql) 3 (.tmp 13) (.const (.int (.i64) 0)) 3) none)])
def s26_2 : SCode := (.reg [(.mk (some 15) (.move (.tmp 0)) none), (.mk (some 8) (.assign (.tmp 15)) none)])
def s26_3 : SCode := (.cond (.tmp 14) (.seq s26_2 (.ret)) (.skip))
def s26_4 : SCode := (.reg [(.mk (some 16) (.buildSlice 29 0 #[]) none), (.mk (some 17) (.move (.tmp 0)) none), (.mk (some 18) (.call (.mk (.builtin (.append)) #[(.tmp 16), (.tmp 17)] #[29, 29])) none), (.mk (some 9) (.assign (.tmp 18)) none)])
def s26_5 : SCode := (.reg [(.mk (some 19) (.move (.tmp 2)) none), (.mk (some 20) (.move (.tmp 9)) none), (.mk (some 21) (.call (.mk (.builtin (.len)) #[(.tmp 20)] #[29])) none), (.mk (some 22) (.call (.mk (.value (.func 25)) #[(.tmp 19), (.tmp 21)] #[3, 3])) none), (.mk (some 10) (.assign (.tmp 22)) none)])
def s26_6 : SCode := (.reg [(.mk (some 23) (.move (.tmp 9)) none), (.mk (some 24) (.move (.tmp 10)) none), (.mk (some 25) (.indexAddr 29 (.tmp 23) (.tmp 24)) none), (.mk (some 26) (.load 37 (.tmp 25)) none), (.mk (some 11) (.alloc 37) none), (.mk none (.store 37 (.tmp 11) (.tmp 26)) none)])
def s26_7 : SCode := (.reg [(.mk (some 27) (.move (.tmp 1)) none), (.mk (some 28) (.call (.mk (.value (.func 25)) #[(.tmp 27), (.const (.int (.i64) 12))] #[3, 3])) none)])
def s26_8 : SCode := (.reg [(.mk (some 30) (.binOp (.eql) 3 (.tmp 28) (.const (.int (.i64) 0)) 3) none), (.mk (some 29) (.assign (.tmp 30)) none)])
def s26_9 : SCode := (.reg [(.mk (some 31) (.fieldAddr 37 (.tmp 11) 0) none), (.mk (some 32) (.load 3 (.tmp 31)) none), (.mk (some 33) (.binOp (.add) 3 (.tmp 32) (.const (.int (.i64) 1)) 3) none), (.mk (some 34) (.fieldAddr 37 (.tmp 11) 0) none), (.mk none (.store 3 (.tmp 34) (.tmp 33)) none)])
def s26_10 : SCode := (.reg [(.mk (some 36) (.binOp (.eql) 3 (.tmp 28) (.const (.int (.i64) 1)) 3) none), (.mk (some 35) (.assign (.tmp 36)) none)])
def s26_11 : SCode := (.reg [(.mk (some 37) (.fieldAddr 37 (.tmp 11) 1) none), (.mk (some 38) (.load 3 (.tmp 37)) none), (.mk (some 39) (.binOp (.add) 3 (.tmp 38) (.const (.int (.i64) 1)) 3) none), (.mk (some 40) (.fieldAddr 37 (.tmp 11) 1) none), (.mk none (.store 3 (.tmp 40) (.tmp 39)) none)])
def s26_12 : SCode := (.reg [(.mk (some 42) (.binOp (.eql) 3 (.tmp 28) (.const (.int (.i64) 2)) 3) none), (.mk (some 41) (.assign (.tmp 42)) none)])
def s26_13 : SCode := (.reg [(.mk (some 43) (.fieldAddr 37 (.tmp 11) 3) none), (.mk (some 44) (.load 4 (.tmp 43)) none), (.mk (some 45) (.unOp (.not) 4 (.tmp 44)) none), (.mk (some 46) (.fieldAddr 37 (.tmp 11) 3) none), (.mk none (.store 4 (.tmp 46) (.tmp 45)) none)])
def s26_14 : SCode := (.reg [(.mk (some 48) (.binOp (.eql) 3 (.tmp 28) (.const (.int (.i64) 3)) 3) none), (.mk (some 47) (.assign (.tmp 48)) none)])
def s26_15 : SCode := (.reg [(.mk (some 49) (.fieldAddr 37 (.tmp 11) 4) none), (.mk (some 50) (.load 4 (.tmp 49)) none), (.mk (some 51) (.unOp (.not) 4 (.tmp 50)) none), (.mk (some 52) (.fieldAddr 37 (.tmp 11) 4) none), (.mk none (.store 4 (.tmp 52) (.tmp 51)) none)])
def s26_16 : SCode := (.reg [(.mk (some 54) (.binOp (.eql) 3 (.tmp 28) (.const (.int (.i64) 4)) 3) none), (.mk (some 53) (.assign (.tmp 54)) none)])
def s26_17 : SCode := (.reg [(.mk (some 55) (.buildSlice 22 0 #[]) none), (.mk (some 56) (.fieldAddr 37 (.tmp 11) 2) none), (.mk (some 57) (.load 22 (.tmp 56)) none), (.mk (some 58) (.call (.mk (.builtin (.append)) #[(.tmp 55), (.tmp 57)] #[22, 22])) none), (.mk (some 59) (.move (.tmp 3)) none), (.mk (some 60) (.buildSlice 22 1 #[(0, (.tmp 59))]) none), (.mk (some 61) (.call (.mk (.builtin (.append)) #[(.tmp 58), (.tmp 60)] #[22, 22])) none), (.mk (some 62) (.fieldAddr 37 (.tmp 11) 2) none), (.mk none (.store 22 (.tmp 62) (.tmp 61)) none)])
def s26_18 : SCode := (.reg [(.mk (some 64) (.binOp (.eql) 3 (.tmp 28) (.const (.int (.i64) 5)) 3) none), (.mk (some 63) (.assign (.tmp 64)) none)])
def s26_19 : SCode := (.reg [(.mk (some 65) (.fieldAddr 37 (.tmp 11) 2) none), (.mk none (.store 22 (.tmp 65) (.const (.slice none 0 0))) none)])
def s26_20 : SCode := (.reg [(.mk (some 67) (.binOp (.eql) 3 (.tmp 28) (.const (.int (.i64) 6)) 3) none), (.mk (some 66) (.assign (.tmp 67)) none)])
def s26_21 : SCode := (.reg [(.mk (some 68) (.move (.tmp 9)) none), (.mk (some 69) (.load 37 (.tmp 11)) none), (.mk (some 70) (.buildSlice 29 1 #[(0, (.tmp 69))]) none), (.mk (some 71) (.call (.mk (.builtin (.append)) #[(.tmp 68), (.tmp 70)] #[29, 29])) none), (.mk (some 9) (.assign (.tmp 71)) none)])
def s26_22 : SCode := (.reg [(.mk (some 73) (.binOp (.eql) 3 (.tmp 28) (.const (.int (.i64) 7)) 3) none), (.mk (some 72) (.assign (.tmp 73)) none)])
def s26_23 : SCode := (.reg [(.mk (some 74) (.fieldAddr 37 (.tmp 11) 0) none), (.mk (some 75) (.load 3 (.tmp 74)) none), (.mk (some 76) (.move (.tmp 3)) none), (.mk (some 77) (.binOp (.add) 3 (.tmp 75) (.tmp 76) 3) none), (.mk (some 78) (.fieldAddr 37 (.tmp 11) 1) none), (.mk none (.store 3 (.tmp 78) (.tmp 77)) none)])
def s26_24 : SCode := (.seq s26_22 (.cond (.tmp 72) s26_23 (.skip)))
def s26_25 : SCode := (.seq s26_20 (.cond (.tmp 66) s26_21 s26_24))
def s26_26 : SCode := (.seq s26_18 (.cond (.tmp 63) s26_19 s26_25))
def s26_27 : SCode := (.seq s26_16 (.cond (.tmp 53) s26_17 s26_26))
def s26_28 : SCode := (.seq s26_14 (.cond (.tmp 47) s26_15 s26_27))
def s26_29 : SCode := (.seq s26_12 (.cond (.tmp 41) s26_13 s26_28))
def s26_30 : SCode := (.seq s26_10 (.cond (.tmp 35) s26_11 s26_29))
def s26_31 : SCode := (.seq s26_8 (.cond (.tmp 29) s26_9 s26_30))
def s26_32 : SCode := (.reg [(.mk (some 79) (.move (.tmp 9)) none), (.mk (some 80) (.move (.tmp 10)) none), (.mk (some 81) (.load 37 (.tmp 11)) none), (.mk (some 82) (.indexAddr 29 (.tmp 79) (.tmp 80)) none), (.mk none (.store 37 (.tmp 82) (.tmp 81)) none)])
def s26_33 : SCode := (.reg [(.mk (some 83) (.move (.tmp 1)) none), (.mk (some 84) (.binOp (.rem) 3 (.tmp 83) (.const (.int (.i64) 12)) 3) none), (.mk (some 85) (.binOp (.eql) 3 (.tmp 84) (.const (.int (.i64) 8)) 3) none)])
def s26_34 : SCode := (.drw [((.mk (some 86) (.buildSlice 29 0 #[]) none), 0), ((.mk (some 87) (.move (.tmp 9)) none), 0), ((.mk (some 88) (.move (.tmp 10)) none), 0), ((.mk (some 89) (.slice 29 (.tmp 87) none (some (.tmp 88)) none) none), 0), ((.mk (some 91) (.move (.tmp 9)) none), 0), ((.mk (some 92) (.move (.tmp 10)) none), 0), ((.mk (some 93) (.binOp (.add) 3 (.tmp 92) (.const (.int (.i64) 1)) 3) none), 0), ((.mk (some 94) (.slice 29 (.tmp 91) (some (.tmp 93)) none none) none), 0), ((.mk (some 90) (.call (.mk (.builtin (.append)) #[(.tmp 86), (.tmp 89)] #[29, 29])) none), 2), ((.mk (some 95) (.call (.mk (.builtin (.append)) #[(.tmp 90), (.tmp 94)] #[29, 29])) none), 1), ((.mk (some 9) (.assign (.tmp 95)) none), 0)])
def s26_35 : SCode := (.seq s26_33 (.cond (.tmp 85) s26_34 (.skip)))
def s26_36 : SCode := (.reg [(.mk (some 96) (.move (.tmp 9)) none), (.mk (some 8) (.assign (.tmp 96)) none)])
def s26_37 : SCode := (.seq s26_32 (.seq s26_35 (.seq s26_36 (.ret))))
def s26_38 : SCode := (.seq (.seq s26_7 (.block 0 s26_31)) s26_37)
def s26_39 : SCode := (.seq s26_4 (.seq s26_5 (.seq s26_6 s26_38)))
def s26 : SCode := (.seq s26_0 (.seq (.seq s26_1 s26_3) s26_39))
theorem h26 : FnS Try.prog 26 ⟨[18, 71], [(25, [(0, 0), (1, 0), (2, 0), (3, 0), (5, 0), (6, 0), (7, 0), (8, 0), (4, 2), (9, 1), (10, 0)])]⟩ 97 [(.tmp 8)] s26 := .mk' Try.func26 (by kernel_rfl) (by kernel_rfl) (by kernel_rfl) (by kernel_rfl) (by kernel_rfl) (by kernel_rfl)
def e26 := And.intro s26_0.eq_1 <| And.intro s26_1.eq_1 <| And.intro s26_2.eq_1 <| And.intro s26_3.eq_1 <| And.intro s26_4.eq_1 <| And.intro s26_5.eq_1 <| And.intro s26_6.eq_1 <| And.intro s26_7.eq_1 <| And.intro s26_8.eq_1 <| And.intro s26_9.eq_1 <| And.intro s26_10.eq_1 <| And.intro s26_11.eq_1 <| And.intro s26_12.eq_1 <| And.intro s26_13.eq_1 <| And.intro s26_14.eq_1 <| And.intro s26_15.eq_1 <| And.intro s26_16.eq_1 <| And.intro s26_17.eq_1 <| And.intro s26_18.eq_1 <| And.intro s26_19.eq_1 <| And.intro s26_20.eq_1 <| And.intro s26_21.eq_1 <| And.intro s26_22.eq_1 <| And.intro s26_23.eq_1 <| And.intro s26_24.eq_1 <| And.intro s26_25.eq_1 <| And.intro s26_26.eq_1 <| And.intro s26_27.eq_1 <| And.intro s26_28.eq_1 <| And.intro s26_29.eq_1 <| And.intro s26_30.eq_1 <| And.intro s26_31.eq_1 <| And.intro s26_32.eq_1 <| And.intro s26_33.eq_1 <| And.intro s26_34.eq_1 <| And.intro s26_35.eq_1 <| And.intro s26_36.eq_1 <| And.intro s26_37.eq_1 <| And.intro s26_38.eq_1 <| s26_39.eq_1
def s28_0 : SCode := (.reg [(.mk (some 2) (.alloc 27) none), (.mk (some 3) (.assign (.const (.bool false))) none)])
def s28_1 : SCode := (.reg [(.mk (some 4) (.alloc 27) none)])
def s28_2 : SCode := (.reg [(.mk (some 5) (.assign (.const (.int (.i64) 1000))) none)])
def s28_3 : SCode := (.reg [(.mk (some 6) (.assign (.const (.int (.i64) 0))) none)])
def s28_4 : SCode := (.reg [(.mk (some 10) (.move (.tmp 6)) none), (.mk (some 11) (.move (.tmp 0)) none), (.mk (some 12) (.call (.mk (.builtin (.len)) #[(.tmp 11)] #[29])) none), (.mk (some 13) (.binOp (.lss) 3 (.tmp 10) (.tmp 12) 3) none)])
def s28_5 : SCode := (.seq s28_4 (.cond (.tmp 13) (.skip) (.exit 0)))
def s28_6 : SCode := (.reg [(.mk (some 16) (.move (.tmp 0)) none), (.mk (some 17) (.move (.tmp 6)) none), (.mk (some 18) (.indexAddr 29 (.tmp 16) (.tmp 17)) none), (.mk (some 19) (.load 37 (.tmp 18)) none), (.mk (some 7) (.alloc 37) none), (.mk none (.store 37 (.tmp 7) (.tmp 19)) none)])
def s28_7 : SCode := (.reg [(.mk (some 20) (.fieldAddr 37 (.tmp 7) 0) none), (.mk (some 21) (.load 3 (.tmp 20)) none), (.mk (some 22) (.binOp (.lss) 3 (.tmp 21) (.const (.int (.i64) 0)) 3) none), (.mk (some 23) (.move (.tmp 22)) none), (.mk (some 24) (.fieldAddr 37 (.tmp 7) 0) (some (23, false))), (.mk (some 25) (.load 3 (.tmp 24)) (some (23, false))), (.mk (some 26) (.fieldAddr 37 (.tmp 7) 1) (some (23, false))), (.mk (some 27) (.load 3 (.tmp 26)) (some (23, false))), (.mk (some 28) (.binOp (.gtr) 3 (.tmp 25) (.tmp 27) 3) (some (23, false))), (.mk (some 29) (.pick (.tmp 23) (.const (.bool true)) (.tmp 28)) none), (.mk (some 30) (.move (.tmp 29)) none), (.mk (some 31) (.fieldAddr 37 (.tmp 7) 1) (some (30, false))), (.mk (some 32) (.load 3 (.tmp 31)) (some (30, false))), (.mk (some 33) (.fieldAddr 37 (.tmp 7) 0) (some (30, false))), (.mk (some 34) (.load 3 (.tmp 33)) (some (30, false))), (.mk (some 35) (.binOp (.sub) 3 (.tmp 32) (.tmp 34) 3) (some (30, false))), (.mk (some 36) (.move (.tmp 5)) (some (30, false))), (.mk (some 37) (.binOp (.geq) 3 (.tmp 35) (.tmp 36) 3) (some (30, false))), (.mk (some 38) (.pick (.tmp 30) (.const (.bool true)) (.tmp 37)) none)])
def s28_8 : SCode := (.reg [(.mk (some 39) (.build 27 #[]) none), (.mk none (.store 27 (.tmp 2) (.tmp 39)) none), (.mk (some 3) (.assign (.const (.bool false))) none)])
def s28_9 : SCode := (.cond (.tmp 38) (.seq s28_8 (.ret)) (.skip))
def s28_10 : SCode := (.reg [(.mk (some 40) (.move (.tmp 5)) none), (.mk (some 41) (.fieldAddr 37 (.tmp 7) 1) none), (.mk (some 42) (.load 3 (.tmp 41)) none), (.mk (some 43) (.fieldAddr 37 (.tmp 7) 0) none), (.mk (some 44) (.load 3 (.tmp 43)) none), (.mk (some 45) (.binOp (.sub) 3 (.tmp 42) (.tmp 44) 3) none), (.mk (some 46) (.binOp (.sub) 3 (.tmp 40) (.tmp 45) 3) none), (.mk (some 47) (.binOp (.sub) 3 (.tmp 46) (.const (.int (.i64) 1)) 3) none), (.mk (some 5) (.assign (.tmp 47)) none)])
def s28_11 : SCode := (.reg [(.mk (some 48) (.fieldAddr 37 (.tmp 7) 0) none), (.mk (some 49) (.load 3 (.tmp 48)) none), (.mk (some 8) (.assign (.tmp 49)) none)])
def s28_12 : SCode := (.reg [(.mk (some 50) (.move (.tmp 8)) none), (.mk (some 51) (.fieldAddr 37 (.tmp 7) 1) none), (.mk (some 52) (.load 3 (.tmp 51)) none), (.mk (some 53) (.binOp (.leq) 3 (.tmp 50) (.tmp 52) 3) none)])
def s28_13 : SCode := (.seq s28_12 (.cond (.tmp 53) (.skip) (.exit 2)))
def s28_14 : SCode := (.reg [(.mk (some 56) (.move (.tmp 8)) none), (.mk (some 57) (.binOp (.sub) 3 (.tmp 56) (.const (.int (.i64) 1)) 3) none), (.mk (some 58) (.buildSlice 22 1 #[(0, (.tmp 57))]) none), (.mk (some 9) (.assign (.tmp 58)) none)])
def s28_15 : SCode := (.reg [(.mk (some 59) (.move (.tmp 8)) none), (.mk (some 60) (.fieldAddr 37 (.tmp 7) 0) none), (.mk (some 61) (.load 3 (.tmp 60)) none), (.mk (some 62) (.binOp (.eql) 3 (.tmp 59) (.tmp 61) 3) none)])
def s28_16 : SCode := (.reg [(.mk (some 63) (.buildSlice 22 0 #[]) none), (.mk (some 64) (.fieldAddr 37 (.tmp 7) 2) none), (.mk (some 65) (.load 22 (.tmp 64)) none), (.mk (some 66) (.call (.mk (.builtin (.append)) #[(.tmp 63), (.tmp 65)] #[22, 22])) none), (.mk (some 9) (.assign (.tmp 66)) none)])
def s28_17 : SCode := (.seq s28_15 (.cond (.tmp 62) s28_16 (.skip)))
def s28_18 : SCode := (.reg [(.mk (some 69) (.move (.tmp 8)) none), (.mk (some 70) (.fieldAddr 27 (.tmp 4) 0) none), (.mk (some 71) (.load 25 (.tmp 70)) none), (.mk (some 72) (.call (.mk (.builtin (.len)) #[(.tmp 71)] #[25])) none), (.mk (some 73) (.binOp (.eql) 3 (.tmp 69) (.tmp 72) 3) none), (.mk (some 74) (.move (.tmp 73)) none), (.mk (some 75) (.fieldAddr 27 (.tmp 4) 1) (some (74, true))), (.mk (some 76) (.load 25 (.tmp 75)) (some (74, true))), (.mk (some 77) (.call (.mk (.builtin (.len)) #[(.tmp 76)] #[25])) (some (74, true))), (.mk (some 78) (.binOp (.eql) 3 (.tmp 77) (.const (.int (.i64) 0)) 3) (some (74, true))), (.mk (some 79) (.pick (.tmp 74) (.tmp 78) (.const (.bool false))) none), (.mk (some 68) (.assign (.tmp 79)) none)])
def s28_19 : SCode := (.reg [(.mk (some 80) (.fieldAddr 27 (.tmp 4) 0) none), (.mk (some 81) (.load 25 (.tmp 80)) none), (.mk (some 82) (.move (.tmp 9)) none), (.mk (some 83) (.buildSlice 25 1 #[(0, (.tmp 82))]) none), (.mk (some 84) (.call (.mk (.builtin (.append)) #[(.tmp 81), (.tmp 83)] #[25, 25])) none), (.mk (some 85) (.fieldAddr 27 (.tmp 4) 0) none), (.mk none (.store 25 (.tmp 85) (.tmp 84)) none)])
def s28_20 : SCode := (.reg [(.mk (some 87) (.move (.tmp 8)) none), (.mk (some 88) (.fieldAddr 27 (.tmp 4) 1) none), (.mk (some 89) (.load 25 (.tmp 88)) none), (.mk (some 90) (.call (.mk (.builtin (.len)) #[(.tmp 89)] #[25])) none), (.mk (some 91) (.binOp (.add) 3 (.const (.int (.i64) 1099511627776)) (.tmp 90) 3) none), (.mk (some 92) (.binOp (.eql) 3 (.tmp 87) (.tmp 91) 3) none), (.mk (some 86) (.assign (.tmp 92)) none)])
def s28_21 : SCode := (.reg [(.mk (some 93) (.fieldAddr 27 (.tmp 4) 1) none), (.mk (some 94) (.load 25 (.tmp 93)) none), (.mk (some 95) (.move (.tmp 9)) none), (.mk (some 96) (.buildSlice 25 1 #[(0, (.tmp 95))]) none), (.mk (some 97) (.call (.mk (.builtin (.append)) #[(.tmp 94), (.tmp 96)] #[25, 25])) none), (.mk (some 98) (.fieldAddr 27 (.tmp 4) 1) none), (.mk none (.store 25 (.tmp 98) (.tmp 97)) none)])
def s28_22 : SCode := (.reg [(.mk (some 67) (.build 27 #[]) none), (.mk none (.store 27 (.tmp 2) (.tmp 67)) none), (.mk (some 3) (.assign (.const (.bool false))) none)])
def s28_23 : SCode := (.cond (.tmp 86) s28_21 (.seq s28_22 (.ret)))
def s28_24 : SCode := (.cond (.tmp 68) s28_19 (.seq s28_20 s28_23))
def s28_25 : SCode := (.seq s28_17 (.block 4 (.seq s28_18 s28_24)))
def s28_26 : SCode := (.reg [(.mk (some 54) (.move (.tmp 8)) none), (.mk (some 55) (.binOp (.add) 3 (.tmp 54) (.const (.int (.i64) 1)) 3) none), (.mk (some 8) (.assign (.tmp 55)) none)])
def s28_27 : SCode := (.seq (.block 3 (.seq s28_14 s28_25)) s28_26)
def s28_28 : SCode := (.seq s28_11 (.block 2 (.loop (.seq s28_13 s28_27))))
def s28_29 : SCode := (.seq (.seq s28_7 s28_9) (.seq s28_10 s28_28))
def s28_30 : SCode := (.reg [(.mk (some 14) (.move (.tmp 6)) none), (.mk (some 15) (.binOp (.add) 3 (.tmp 14) (.const (.int (.i64) 1)) 3) none), (.mk (some 6) (.assign (.tmp 15)) none)])
def s28_31 : SCode := (.seq (.block 1 (.seq s28_6 s28_29)) s28_30)
def s28_32 : SCode := (.seq s28_3 (.block 0 (.loop (.seq s28_5 s28_31))))
def s28_33 : SCode := (.reg [(.mk (some 99) (.load 27 (.tmp 4)) none), (.mk (some 100) (.call (.mk (.value (.func 37)) #[(.tmp 99)] #[27])) none), (.mk (some 101) (.unOp (.not) 4 (.tmp 100)) none), (.mk (some 102) (.move (.tmp 101)) none), (.mk (some 103) (.load 27 (.tmp 4)) (some (102, false))), (.mk (some 104) (.call (.mk (.value (.func 24)) #[(.tmp 103)] #[27])) (some (102, false))), (.mk (some 105) (.move (.tmp 0)) (some (102, false))), (.mk (some 106) (.call (.mk (.value (.func 39)) #[(.tmp 104), (.tmp 105)] #[29, 29])) (some (102, false))), (.mk (some 107) (.unOp (.not) 4 (.tmp 106)) (some (102, false))), (.mk (some 108) (.pick (.tmp 102) (.const (.bool true)) (.tmp 107)) none)])
def s28_34 : SCode := (.reg [(.mk (some 109) (.build 27 #[]) none), (.mk none (.store 27 (.tmp 2) (.tmp 109)) none), (.mk (some 3) (.assign (.const (.bool false))) none)])
def s28_35 : SCode := (.cond (.tmp 108) (.seq s28_34 (.ret)) (.skip))
def s28_36 : SCode := (.reg [(.mk (some 110) (.load 27 (.tmp 4)) none), (.mk none (.store 27 (.tmp 2) (.tmp 110)) none), (.mk (some 3) (.assign (.const (.bool true))) none)])
def s28_37 : SCode := (.seq (.seq s28_33 s28_35) (.seq s28_36 (.ret)))
def s28_38 : SCode := (.seq s28_1 (.seq s28_2 (.seq s28_32 s28_37)))
def s28 : SCode := (.seq s28_0 s28_38)
theorem h28 : FnS Try.prog 28 ⟨[], []⟩ 111 [(.cell 2 27), (.tmp 3)] s28 := .mk' Try.func28 (by kernel_rfl) (by kernel_rfl) (by kernel_rfl) (by kernel_rfl) (by kernel_rfl) (by kernel_rfl)
def e28 := And.intro s28_0.eq_1 <| And.intro s28_1.eq_1 <| And.intro s28_2.eq_1 <| And.intro s28_3.eq_1 <| And.intro s28_4.eq_1 <| And.intro s28_5.eq_1 <| And.intro s28_6.eq_1 <| And.intro s28_7.eq_1 <| And.intro s28_8.eq_1 <| And.intro s28_9.eq_1 <| And.intro s28_10.eq_1 <| And.intro s28_11.eq_1 <| And.intro s28_12.eq_1 <| And.intro s28_13.eq_1 <| And.intro s28_14.eq_1 <| And.intro s28_15.eq_1 <| And.intro s28_16.eq_1 <| And.intro s28_17.eq_1 <| And.intro s28_18.eq_1 <| And.intro s28_19.eq_1 <| And.intro s28_20.eq_1 <| And.intro s28_21.eq_1 <| And.intro s28_22.eq_1 <| And.intro s28_23.eq_1 <| And.intro s28_24.eq_1 <| And.intro s28_25.eq_1 <| And.intro s28_26.eq_1 <| And.intro s28_27.eq_1 <| And.intro s28_28.eq_1 <| And.intro s28_29.eq_1 <| And.intro s28_30.eq_1 <| And.intro s28_31.eq_1 <| And.intro s28_32.eq_1 <| And.intro s28_33.eq_1 <| And.intro s28_34.eq_1 <| And.intro s28_35.eq_1 <| And.intro s28_36.eq_1 <| And.intro s28_37.eq_1 <| s28_38.eq_1
def s36_0 : SCode := (.reg [(.mk (some 2) (.box 27 (.tmp 0)) none), (.mk (some 4) (.alloc 27) none)])
def s36_1 : SCode := (.reg [(.mk (some 7) (.fieldAddr 27 (.tmp 2) 0) none), (.mk (some 8) (.load 25 (.tmp 7)) none), (.mk (some 9) (.call (.mk (.builtin (.len)) #[(.tmp 8)] #[25])) none), (.mk (some 10) (.binOp (.eql) 3 (.tmp 9) (.const (.int (.i64) 0)) 3) none)])
def s36_2 : SCode := (.reg [(.mk (some 11) (.buildSlice 22 1 #[(0, (.const (.int (.i64) 5)))]) none), (.mk (some 12) (.buildSlice 25 1 #[(0, (.tmp 11))]) none), (.mk (some 13) (.fieldAddr 27 (.tmp 2) 1) none), (.mk (some 14) (.load 25 (.tmp 13)) none), (.mk (some 15) (.build 27 #[(0, (.tmp 12)), (1, (.tmp 14))]) none), (.mk none (.store 27 (.tmp 4) (.tmp 15)) none)])
def s36_3 : SCode := (.cond (.tmp 10) (.seq s36_2 (.ret)) (.skip))
def s36_4 : SCode := (.reg [(.mk (some 16) (.buildSlice 25 0 #[]) none), (.mk (some 17) (.fieldAddr 27 (.tmp 2) 0) none), (.mk (some 18) (.load 25 (.tmp 17)) none), (.mk (some 19) (.call (.mk (.builtin (.append)) #[(.tmp 16), (.tmp 18)] #[25, 25])) none), (.mk (some 5) (.assign (.tmp 19)) none)])
def s36_5 : SCode := (.reg [(.mk (some 20) (.move (.tmp 1)) none), (.mk (some 21) (.binOp (.quo) 3 (.tmp 20) (.const (.int (.i64) 5)) 3) none), (.mk (some 22) (.move (.tmp 5)) none), (.mk (some 23) (.call (.mk (.builtin (.len)) #[(.tmp 22)] #[25])) none), (.mk (some 24) (.call (.mk (.value (.func 25)) #[(.tmp 21), (.tmp 23)] #[3, 3])) none), (.mk (some 6) (.assign (.tmp 24)) none)])
def s36_6 : SCode := (.reg [(.mk (some 25) (.move (.tmp 1)) none), (.mk (some 26) (.call (.mk (.value (.func 25)) #[(.tmp 25), (.const (.int (.i64) 5))] #[3, 3])) none)])
def s36_7 : SCode := (.reg [(.mk (some 32) (.binOp (.eql) 3 (.tmp 26) (.const (.int (.i64) 0)) 3) none), (.mk (some 31) (.assign (.tmp 32)) none)])
def s36_8 : SCode := (.reg [(.mk (some 33) (.move (.tmp 5)) none), (.mk (some 34) (.move (.tmp 6)) none), (.mk (some 35) (.move (.tmp 6)) none), (.mk (some 36) (.buildSlice 22 1 #[(0, (.tmp 35))]) none), (.mk (some 37) (.indexAddr 25 (.tmp 33) (.tmp 34)) none), (.mk none (.store 22 (.tmp 37) (.tmp 36)) none)])
def s36_9 : SCode := (.reg [(.mk (some 39) (.binOp (.eql) 3 (.tmp 26) (.const (.int (.i64) 1)) 3) none), (.mk (some 38) (.assign (.tmp 39)) none)])
def s36_10 : SCode := (.reg [(.mk (some 40) (.move (.tmp 5)) none), (.mk (some 41) (.move (.tmp 6)) none), (.mk (some 42) (.buildSlice 22 1 #[(0, (.const (.int (.i64) (-1))))]) none), (.mk (some 43) (.indexAddr 25 (.tmp 40) (.tmp 41)) none), (.mk none (.store 22 (.tmp 43) (.tmp 42)) none)])
def s36_11 : SCode := (.reg [(.mk (some 45) (.binOp (.eql) 3 (.tmp 26) (.const (.int (.i64) 2)) 3) none), (.mk (some 44) (.assign (.tmp 45)) none)])
def s36_12 : SCode := (.drw [((.mk (some 46) (.move (.tmp 5)) none), 0), ((.mk (some 47) (.move (.tmp 6)) none), 0), ((.mk (some 48) (.buildSlice 22 0 #[]) none), 0), ((.mk (some 49) (.move (.tmp 5)) none), 0), ((.mk (some 50) (.move (.tmp 6)) none), 0), ((.mk (some 51) (.indexAddr 25 (.tmp 49) (.tmp 50)) none), 0), ((.mk (some 52) (.load 22 (.tmp 51)) none), 0), ((.mk (some 54) (.move (.tmp 5)) none), 0), ((.mk (some 55) (.move (.tmp 6)) none), 0), ((.mk (some 56) (.indexAddr 25 (.tmp 54) (.tmp 55)) none), 0), ((.mk (some 57) (.load 22 (.tmp 56)) none), 0), ((.mk (some 53) (.call (.mk (.builtin (.append)) #[(.tmp 48), (.tmp 52)] #[22, 22])) none), 2), ((.mk (some 58) (.call (.mk (.builtin (.append)) #[(.tmp 53), (.tmp 57)] #[22, 22])) none), 1), ((.mk (some 59) (.indexAddr 25 (.tmp 46) (.tmp 47)) none), 0), ((.mk none (.store 22 (.tmp 59) (.tmp 58)) none), 1)])
def s36_13 : SCode := (.reg [(.mk (some 61) (.binOp (.eql) 3 (.tmp 26) (.const (.int (.i64) 3)) 3) none), (.mk (some 60) (.assign (.tmp 61)) none)])
def s36_14 : SCode := (.reg [(.mk (some 62) (.move (.tmp 5)) none), (.mk (some 63) (.move (.tmp 6)) none), (.mk (some 64) (.buildSlice 22 1 #[(0, (.const (.int (.i64) 1099511627776)))]) none), (.mk (some 65) (.indexAddr 25 (.tmp 62) (.tmp 63)) none), (.mk none (.store 22 (.tmp 65) (.tmp 64)) none)])
def s36_15 : SCode := (.reg [(.mk (some 27) (.move (.tmp 5)) none), (.mk (some 28) (.move (.tmp 6)) none), (.mk (some 29) (.buildSlice 22 5 #[(0, (.const (.int (.i64) 0))), (1, (.const (.int (.i64) 1))), (2, (.const (.int (.i64) 2))), (3, (.const (.int (.i64) 3))), (4, (.const (.int (.i64) 4)))]) none), (.mk (some 30) (.indexAddr 25 (.tmp 27) (.tmp 28)) none), (.mk none (.store 22 (.tmp 30) (.tmp 29)) none)])
def s36_16 : SCode := (.seq s36_13 (.cond (.tmp 60) s36_14 s36_15))
def s36_17 : SCode := (.seq s36_11 (.cond (.tmp 44) s36_12 s36_16))
def s36_18 : SCode := (.seq s36_9 (.cond (.tmp 38) s36_10 s36_17))
def s36_19 : SCode := (.seq s36_7 (.cond (.tmp 31) s36_8 s36_18))
def s36_20 : SCode := (.reg [(.mk (some 66) (.move (.tmp 5)) none), (.mk (some 67) (.fieldAddr 27 (.tmp 2) 1) none), (.mk (some 68) (.load 25 (.tmp 67)) none), (.mk (some 69) (.build 27 #[(0, (.tmp 66)), (1, (.tmp 68))]) none), (.mk none (.store 27 (.tmp 4) (.tmp 69)) none)])
def s36_21 : SCode := (.seq (.seq s36_6 (.block 0 s36_19)) (.seq s36_20 (.ret)))
def s36_22 : SCode := (.seq (.seq s36_1 s36_3) (.seq s36_4 (.seq s36_5 s36_21)))
def s36 : SCode := (.seq s36_0 s36_22)
theorem h36 : FnS Try.prog 36 ⟨[2, 19], [(12, [(0, 0), (1, 0), (2, 0), (3, 0), (4, 0), (5, 0), (6, 0), (8, 0), (9, 0), (10, 0), (11, 0), (7, 2), (12, 1), (13, 0), (14, 1)])]⟩ 70 [(.cell 4 27)] s36 := .mk' Try.func36 (by kernel_rfl) (by kernel_rfl) (by kernel_rfl) (by kernel_rfl) (by kernel_rfl) (by kernel_rfl)
def e36 := And.intro s36_0.eq_1 <| And.intro s36_1.eq_1 <| And.intro s36_2.eq_1 <| And.intro s36_3.eq_1 <| And.intro s36_4.eq_1 <| And.intro s36_5.eq_1 <| And.intro s36_6.eq_1 <| And.intro s36_7.eq_1 <| And.intro s36_8.eq_1 <| And.intro s36_9.eq_1 <| And.intro s36_10.eq_1 <| And.intro s36_11.eq_1 <| And.intro s36_12.eq_1 <| And.intro s36_13.eq_1 <| And.intro s36_14.eq_1 <| And.intro s36_15.eq_1 <| And.intro s36_16.eq_1 <| And.intro s36_17.eq_1 <| And.intro s36_18.eq_1 <| And.intro s36_19.eq_1 <| And.intro s36_20.eq_1 <| And.intro s36_21.eq_1 <| s36_22.eq_1
end Gv.Try
/- Contract: a table with something that may not be. -/
set_option linter.unusedVariables false
set_option linter.unusedSimpArgs false
set_option maxRecDepth 20000
set_option maxHeartbeats 8000000
namespace Gv.Try
open Go Gv Go.Proofs

def bentK (m : List (List Int)) (how : Int) : Nat := (norm .i64 (how.tdiv 5) % (m.length : Int)).toNat
def bentR (m : List (List Int)) (how : Int) : List Int :=
  if how % 5 = 0 then [(bentK m how : Int)] else if how % 5 = 1 then [-1] else if how % 5 = 2 then m.getD (bentK m how) [] ++ m.getD (bentK m how) [] else if how % 5 = 3 then [1099511627776] else [0, 1, 2, 3, 4]
def bentM (m : List (List Int)) (how : Int) : List (List Int) := if m.length = 0 then [[5]] else m.set (bentK m how) (bentR m how)

theorem frz_bent (O : List GObj) (st : Nat) (m o : List (List Int)) (k : Nat) (p : List Int) (t : Tag) (n : Nat) (hn : n = m.length) (hO : O[1]? = some (.row st 1 ((tabG m).set k [.slice (ints p) t]))) :
    frzS (.agg [.slice (tabG (m.set k p)) .none, .slice (tabG o) .none]) (.agg [.own 1 st 0 n, .slice (tabG o) .none]) O := by
  have h1 : frzLL (Gv.frz O 3) ((tabG m).set k [.slice (ints p) t]) = some ((tabG m).set k [.slice (ints p) t.frz]) := by
    clear hO hn
    unfold tabG
    induction m generalizing k with
    | nil => rfl
    | cons q m ih =>
      cases k with
      | zero =>
        simp only [List.map_cons, List.set_cons_zero, frzLL, frzL, frz_intsS]
        have := frz_tab O 1 m
        unfold tabG at this
        rw [this]
      | succ k =>
        simp only [List.map_cons, List.set_cons_succ, frzLL, frzL, frz_intsS, ih k]
        rfl
  have h2 : Gv.frz O 4 (.own 1 st 0 n) = some (.slice ((tabG m).set k [.slice (ints p) t.frz]) .none) := by
    rw [Gv.frz, hO]
    simp only [true_and, Nat.zero_add, List.length_set, tabG_length, hn, Nat.le_refl, if_true, List.drop_zero]
    rw [List.take_of_length_le (by simp [tabG_length]), h1]
  refine ⟨5, .agg [.slice ((tabG m).set k [.slice (ints p) t.frz]) .none, .slice (tabG o) .none], frz_agg2 h2 (frz_tabS _ 1 _ _), ?_⟩
  refine .agg ⟨?_, .refl _, trivial⟩
  have e : tabG (m.set k p) = (tabG m).set k [.slice (ints p) .none] := by simp [tabG, List.map_set]
  rw [e]
  exact .slice (.set _ _ ⟨.none, trivial⟩)

theorem spec36 (m o : List (List Int)) (how : Int) (hm : m.length ≤ 1000) (hp : ∀ i, (m.getD i []).length ≤ 1000) :
    GPure Try.prog 36 [.agg [.slice (tabG m) .none, .slice (tabG o) .none], .int .i64 how] (.agg [.slice (tabG (bentM m how)) .none, .slice (tabG o) .none]) := by
  refine h36.pureS mixS (by simp) ?_
  simp only [gstart, s36, List.cons_append, List.nil_append, List.length_cons, List.length_nil, Nat.reduceAdd, Nat.reduceSub, List.replicate_succ, List.replicate_zero]
  by_cases h0 : m.length = 0
  · have d0 : ((m.length : Int) == 0) = true := by rw [beq_iff_eq]; omega
    rw [bentM, if_pos h0]
    simp +contextual -implicitDefEqProofs (maxSteps := 2000000) (disch := omega) only [drawC, ↓lenV, binV, ↓loadV, ↓storeV, ↓fieldAddrV, ↓indexAddrV, ↓allocV, ↓boxV, ↓buildV, ↓buildSliceV, ↓appendV, ↓srcV, fillG, fillE, place, GVal.cells, grp, GVal.ofConst, ↓resV, resG, List.map, List.headD, List.take, List.drop, ↓reduceIte, Nat.reduceEqDiff, Nat.reduceAdd, Nat.reduceSub, Nat.reduceLeDiff, reduceCtorEq, implies_true, ne_eq, ↓asrcV, aggV, Tag.cap, List.replicate, allSolid, GVal.solid, Nat.reduceBEq, Nat.reduceMul, Nat.reduceLT, List.length_map, List.length_range, splice, vcA, ↓vcB, vcC, fbA, fbE, fbG, e36, d0]
    intro st
    refine ⟨5, .agg [.slice [[.slice [[.int .i64 5]] .full]] .full, .slice (tabG o) .none], ?_, .agg ⟨?_, .refl _, trivial⟩⟩
    · refine frz_agg2 ?_ (frz_tabS _ 1 _ _)
      rfl
    · exact (GLe.slice (ys := tabG [[5]]) (show GLess [[_]] [[_]] from ⟨⟨.none, trivial⟩, trivial⟩)).trans .none
  · have d0 : ((m.length : Int) == 0) = false := by rw [beq_eq_false_iff_ne]; omega
    have c1 := spec25 (norm .i64 (how.tdiv 5)) m.length (by omega) (by omega)
    have c2 := spec25 how 5 (by omega) (by omega)
    have hk0 : 0 ≤ norm .i64 (how.tdiv 5) % (m.length : Int) := Int.emod_nonneg _ (by omega)
    have hk1 : norm .i64 (how.tdiv 5) % (m.length : Int) < m.length := Int.emod_lt_of_pos _ (by omega)
    rw [bentM, if_neg h0, bentR]
    unfold bentK
    generalize norm .i64 (how.tdiv 5) % (m.length : Int) = k at *
    generalize how % 5 = h at *
    simp +contextual -implicitDefEqProofs (maxSteps := 2000000) (disch := omega) only [drawC, ↓lenV, binV, ↓loadV, ↓storeV, ↓fieldAddrV, ↓indexAddrV, ↓allocV, ↓boxV, ↓buildV, ↓buildSliceV, ↓appendV, ↓srcV, fillG, fillE, place, GVal.cells, grp, GVal.ofConst, ↓resV, resG, List.map, List.headD, List.take, List.drop, ↓reduceIte, Nat.reduceEqDiff, Nat.reduceAdd, Nat.reduceSub, Nat.reduceLeDiff, reduceCtorEq, implies_true, ne_eq, ↓asrcV, aggV, Tag.cap, List.replicate, allSolid, GVal.solid, Nat.reduceBEq, Nat.reduceMul, Nat.reduceLT, List.length_map, List.length_range, splice, vcA, ↓vcB, vcC, fbA, fbE, fbG, e36, d0]
    intro st
    refine ⟨by omega, by omega, .inr trivial, fun st1 => ⟨by omega, c1.then ?_⟩⟩
    simp +contextual -implicitDefEqProofs (maxSteps := 2000000) (disch := omega) only [drawC, ↓lenV, binV, ↓loadV, ↓storeV, ↓fieldAddrV, ↓indexAddrV, ↓allocV, ↓boxV, ↓buildV, ↓buildSliceV, ↓appendV, ↓srcV, fillG, fillE, place, GVal.cells, grp, GVal.ofConst, ↓resV, resG, List.map, List.headD, List.take, List.drop, ↓reduceIte, Nat.reduceEqDiff, Nat.reduceAdd, Nat.reduceSub, Nat.reduceLeDiff, reduceCtorEq, implies_true, ne_eq, ↓asrcV, aggV, Tag.cap, List.replicate, allSolid, GVal.solid, Nat.reduceBEq, Nat.reduceMul, Nat.reduceLT, List.length_map, List.length_range, splice, vcA, ↓vcB, vcC, fbA, fbE, fbG, e36]
    refine c2.then ?_
    have hkl : k.toNat < m.length := by omega
    have eM : (tabG m).getD k.toNat [] = [.slice (ints (m.getD k.toNat [])) .none] := tabG_at _ _ hkl
    have hpk := hp k.toNat
    have fin := fun O p t hO => frz_bent O st1 m o k.toNat p t m.length rfl hO
    have ek : ((k.toNat : Nat) : Int) = k := by omega
    generalize m.getD k.toNat [] = q at *
    simp +contextual -implicitDefEqProofs (maxSteps := 2000000) (disch := omega) only [vcS_skip, vcS_reg, vcS_drw, vcS_seq, vcS_cond, vcS_block, vcS_exit, vcS_ret, vcS_loopI, drawC, opsS_nil, opsS_one, opsS_if, ordS_nil, ordS_one, ordS_if, hold_mk, ev_tmp, ev_const, ev_func, put_some, put_none, setS_mk, ↓lenV, binV, ↓loadV, ↓storeV, ↓fieldAddrV, ↓indexAddrV, ↓allocV, ↓boxV, ↓buildV, ↓buildSliceV, ↓appendV, ↓srcV, fillG, fillE, place, GVal.cells, grp, GVal.ofConst, ↓resV, resG, sget_0, sget_1, sget_2, sget_3, sget_4, set_0, set_1, set_2, set_3, set_4, setO_0, setO_1, setO_2, setL_0, setL_1, setL_2, List.map, List.headD, List.take, List.drop, ↓reduceIte, Nat.reduceEqDiff, Nat.reduceAdd, Nat.reduceSub, Nat.reduceLeDiff, reduceCtorEq, implies_true, ne_eq, norm_i64, ints_length, ints_at, leG_bool, leG_int, ↓asrcV, aggV, Tag.cap, List.replicate, okCells_eq, allSolid_eq, allSolid, GVal.solid, all_nil, all_cons, all_append, all_ints, all_tabG, stamp_nil, stamp_tok, stamp_row, stamp_map, tick_nil, tick_tok, tick_row, tick_map, Nat.reduceBEq, tabG_length, Nat.reduceMul, Nat.reduceLT, List.length_map, List.length_range, leA_int, leA_bool, leA_slice, leA_agg, leA_tuple, WL_nil, WL_cons, leG_self, splice, ↓vcB, vcC, fbA, fbE, fbG, e36, eM, setL_3, setL_4]
    refine ⟨fun e1 => ?_, fun e1 => ⟨fun e2 => ?_, fun e2 => ⟨fun e3 => ?_, fun e3 => ⟨fun e4 => ?_, fun e4 => ?_⟩⟩⟩⟩
    · repeat (refine And.intro (by omega) ?_)
      refine fin _ [(k.toNat : Int)] .full ?_
      rw [ek]; rfl
    · repeat (refine And.intro (by omega) ?_)
      refine fin _ [-1] .full ?_
      rfl
    · repeat (refine And.intro (by omega) ?_)
      intro s2
      refine ⟨⟨_, rfl⟩, ?_⟩
      repeat (refine And.intro (by omega) ?_)
      intro s3
      repeat (refine And.intro (by omega) ?_)
      refine fin _ (q ++ q) (.tok 2 s3) ?_
      rw [ints_append]; rfl
    · repeat (refine And.intro (by omega) ?_)
      refine fin _ [1099511627776] .full ?_
      rfl
    · repeat (refine And.intro (by omega) ?_)
      refine fin _ [0, 1, 2, 3, 4] .full ?_
      rfl

end Gv.Try
set_option maxRecDepth 100000
set_option linter.defProp false
namespace Gv.Try
open Go Gv Go.Proofs
def s6_0 : SCode := (.reg [(.mk (some 2) (.box 24 (.tmp 0)) none), (.mk (some 4) (.assign (.const (.bool false))) none)])
def s6_1 : SCode := (.reg [(.mk (some 13) (.load 24 (.tmp 2)) none), (.mk (some 14) (.call (.mk (.value (.func 11)) #[(.tmp 13)] #[24])) none), (.mk (some 15) (.call (.mk (.value (.func 24)) #[(.tmp 14)] #[27])) none), (.mk (some 5) (.assign (.tmp 15)) none)])
def s6_2 : SCode := (.reg [(.mk (some 16) (.move (.tmp 1)) none), (.mk (some 17) (.call (.mk (.value (.func 25)) #[(.tmp 16), (.const (.int (.i64) 6))] #[3, 3])) none), (.mk (some 18) (.binOp (.add) 3 (.const (.int (.i64) 2)) (.tmp 17) 3) none), (.mk (some 1) (.assign (.tmp 18)) none)])
def s6_3 : SCode := (.reg [(.mk (some 19) (.move (.tmp 5)) none), (.mk (some 20) (.move (.tmp 1)) none), (.mk (some 21) (.call (.mk (.value (.func 21)) #[(.tmp 19), (.tmp 20)] #[29, 3])) none), (.mk (some 6) (.assign (.tmp 21)) none)])
def s6_4 : SCode := (.reg [(.mk (some 22) (.call (.mk (.value (.func 22)) #[] #[])) none), (.mk (some 23) (.unOp (.not) 4 (.tmp 22)) none), (.mk (some 24) (.move (.tmp 23)) none), (.mk (some 25) (.move (.tmp 6)) (some (24, false))), (.mk (some 26) (.call (.mk (.builtin (.len)) #[(.tmp 25)] #[46])) (some (24, false))), (.mk (some 27) (.binOp (.lss) 3 (.tmp 26) (.const (.int (.i64) 1)) 3) (some (24, false))), (.mk (some 28) (.pick (.tmp 24) (.const (.bool true)) (.tmp 27)) none)])
def s6_5 : SCode := (.reg [(.mk (some 4) (.assign (.const (.bool false))) none)])
def s6_6 : SCode := (.cond (.tmp 28) (.seq s6_5 (.ret)) (.skip))
def s6_7 : SCode := (.reg [(.mk (some 7) (.assign (.const (.int (.i64) 1))) none)])
def s6_8 : SCode := (.reg [(.mk (some 29) (.move (.tmp 7)) none), (.mk (some 30) (.move (.tmp 6)) none), (.mk (some 31) (.call (.mk (.builtin (.len)) #[(.tmp 30)] #[46])) none), (.mk (some 32) (.binOp (.lss) 3 (.tmp 29) (.tmp 31) 3) none)])
def s6_9 : SCode := (.seq s6_8 (.cond (.tmp 32) (.skip) (.exit 0)))
def s6_10 : SCode := (.reg [(.mk (some 8) (.assign (.const (.int (.i64) 0))) none)])
def s6_11 : SCode := (.reg [(.mk (some 9) (.assign (.const (.int (.i64) 0))) none)])
def s6_12 : SCode := (.reg [(.mk (some 35) (.move (.tmp 9)) none), (.mk (some 36) (.move (.tmp 6)) none), (.mk (some 37) (.move (.tmp 7)) none), (.mk (some 38) (.indexAddr 46 (.tmp 36) (.tmp 37)) none), (.mk (some 39) (.load 29 (.tmp 38)) none), (.mk (some 40) (.call (.mk (.builtin (.len)) #[(.tmp 39)] #[29])) none), (.mk (some 41) (.binOp (.lss) 3 (.tmp 35) (.tmp 40) 3) none)])
def s6_13 : SCode := (.seq s6_12 (.cond (.tmp 41) (.skip) (.exit 2)))
def s6_14 : SCode := (.reg [(.mk (some 44) (.move (.tmp 6)) none), (.mk (some 45) (.move (.tmp 7)) none), (.mk (some 46) (.indexAddr 46 (.tmp 44) (.tmp 45)) none), (.mk (some 47) (.load 29 (.tmp 46)) none), (.mk (some 48) (.move (.tmp 9)) none), (.mk (some 49) (.indexAddr 29 (.tmp 47) (.tmp 48)) none), (.mk (some 50) (.load 37 (.tmp 49)) none), (.mk (some 10) (.alloc 37) none), (.mk none (.store 37 (.tmp 10) (.tmp 50)) none)])
def s6_15 : SCode := (.reg [(.mk (some 11) (.assign (.const (.int (.i64) 0))) none)])
def s6_16 : SCode := (.reg [(.mk (some 12) (.assign (.const (.bool false))) none)])
def s6_17 : SCode := (.drw [((.mk (some 51) (.move (.tmp 8)) none), 0), ((.mk (some 52) (.move (.tmp 6)) none), 0), ((.mk (some 53) (.move (.tmp 7)) none), 0), ((.mk (some 54) (.binOp (.sub) 3 (.tmp 53) (.const (.int (.i64) 1)) 3) none), 0), ((.mk (some 55) (.indexAddr 46 (.tmp 52) (.tmp 54)) none), 0), ((.mk (some 56) (.load 29 (.tmp 55)) none), 0), ((.mk (some 57) (.call (.mk (.builtin (.len)) #[(.tmp 56)] #[29])) none), 0), ((.mk (some 58) (.binOp (.lss) 3 (.tmp 51) (.tmp 57) 3) none), 0), ((.mk (some 59) (.move (.tmp 58)) none), 0), ((.mk (some 60) (.move (.tmp 6)) (some (59, true))), 0), ((.mk (some 61) (.move (.tmp 7)) (some (59, true))), 0), ((.mk (some 62) (.binOp (.sub) 3 (.tmp 61) (.const (.int (.i64) 1)) 3) (some (59, true))), 0), ((.mk (some 63) (.indexAddr 46 (.tmp 60) (.tmp 62)) (some (59, true))), 0), ((.mk (some 64) (.load 29 (.tmp 63)) (some (59, true))), 0), ((.mk (some 65) (.move (.tmp 8)) (some (59, true))), 0), ((.mk (some 66) (.indexAddr 29 (.tmp 64) (.tmp 65)) (some (59, true))), 0), ((.mk (some 67) (.fieldAddr 37 (.tmp 66) 0) (some (59, true))), 0), ((.mk (some 68) (.load 3 (.tmp 67)) (some (59, true))), 0), ((.mk (some 69) (.fieldAddr 37 (.tmp 10) 0) (some (59, true))), 0), ((.mk (some 70) (.load 3 (.tmp 69)) (some (59, true))), 0), ((.mk (some 71) (.binOp (.geq) 3 (.tmp 68) (.tmp 70) 3) (some (59, true))), 0), ((.mk (some 72) (.pick (.tmp 59) (.tmp 71) (.const (.bool false))) none), 0), ((.mk (some 73) (.move (.tmp 72)) none), 0), ((.mk (some 74) (.move (.tmp 6)) (some (73, true))), 0), ((.mk (some 75) (.move (.tmp 7)) (some (73, true))), 0), ((.mk (some 76) (.binOp (.sub) 3 (.tmp 75) (.const (.int (.i64) 1)) 3) (some (73, true))), 0), ((.mk (some 77) (.indexAddr 46 (.tmp 74) (.tmp 76)) (some (73, true))), 0), ((.mk (some 78) (.load 29 (.tmp 77)) (some (73, true))), 0), ((.mk (some 79) (.move (.tmp 8)) (some (73, true))), 0), ((.mk (some 80) (.indexAddr 29 (.tmp 78) (.tmp 79)) (some (73, true))), 0), ((.mk (some 81) (.fieldAddr 37 (.tmp 80) 1) (some (73, true))), 0), ((.mk (some 82) (.load 3 (.tmp 81)) (some (73, true))), 0), ((.mk (some 83) (.fieldAddr 37 (.tmp 10) 1) (some (73, true))), 0), ((.mk (some 84) (.load 3 (.tmp 83)) (some (73, true))), 0), ((.mk (some 85) (.binOp (.leq) 3 (.tmp 82) (.tmp 84) 3) (some (73, true))), 0), ((.mk (some 86) (.pick (.tmp 73) (.tmp 85) (.const (.bool false))) none), 0)])
def s6_18 : SCode := (.seq s6_17 (.cond (.tmp 86) (.skip) (.exit 4)))
def s6_19 : SCode := (.reg [(.mk (some 87) (.move (.tmp 12)) none), (.mk (some 88) (.move (.tmp 87)) none), (.mk (some 89) (.move (.tmp 6)) (some (88, false))), (.mk (some 90) (.move (.tmp 7)) (some (88, false))), (.mk (some 91) (.binOp (.sub) 3 (.tmp 90) (.const (.int (.i64) 1)) 3) (some (88, false))), (.mk (some 92) (.indexAddr 46 (.tmp 89) (.tmp 91)) (some (88, false))), (.mk (some 93) (.load 29 (.tmp 92)) (some (88, false))), (.mk (some 94) (.move (.tmp 8)) (some (88, false))), (.mk (some 95) (.indexAddr 29 (.tmp 93) (.tmp 94)) (some (88, false))), (.mk (some 96) (.fieldAddr 37 (.tmp 95) 3) (some (88, false))), (.mk (some 97) (.load 4 (.tmp 96)) (some (88, false))), (.mk (some 98) (.pick (.tmp 88) (.const (.bool true)) (.tmp 97)) none), (.mk (some 12) (.assign (.tmp 98)) none)])
def s6_20 : SCode := (.reg [(.mk (some 99) (.move (.tmp 8)) none), (.mk (some 100) (.binOp (.add) 3 (.tmp 99) (.const (.int (.i64) 1)) 3) none), (.mk (some 8) (.assign (.tmp 100)) none)])
def s6_21 : SCode := (.reg [(.mk (some 101) (.move (.tmp 11)) none), (.mk (some 102) (.binOp (.add) 3 (.tmp 101) (.const (.int (.i64) 1)) 3) none), (.mk (some 11) (.assign (.tmp 102)) none)])
def s6_22 : SCode := (.block 5 (.seq s6_19 (.seq s6_20 s6_21)))
def s6_23 : SCode := (.drw [((.mk (some 103) (.move (.tmp 11)) none), 0), ((.mk (some 104) (.binOp (.lss) 3 (.tmp 103) (.const (.int (.i64) 1)) 3) none), 0), ((.mk (some 105) (.move (.tmp 104)) none), 0), ((.mk (some 106) (.move (.tmp 11)) (some (105, false))), 0), ((.mk (some 107) (.move (.tmp 1)) (some (105, false))), 0), ((.mk (some 108) (.binOp (.gtr) 3 (.tmp 106) (.tmp 107) 3) (some (105, false))), 0), ((.mk (some 109) (.pick (.tmp 105) (.const (.bool true)) (.tmp 108)) none), 0), ((.mk (some 110) (.move (.tmp 109)) none), 0), ((.mk (some 111) (.fieldAddr 37 (.tmp 10) 3) (some (110, false))), 0), ((.mk (some 112) (.load 4 (.tmp 111)) (some (110, false))), 0), ((.mk (some 113) (.move (.tmp 12)) (some (110, false))), 0), ((.mk (some 114) (.binOp (.neq) 4 (.tmp 112) (.tmp 113) 4) (some (110, false))), 0), ((.mk (some 115) (.pick (.tmp 110) (.const (.bool true)) (.tmp 114)) none), 0), ((.mk (some 116) (.move (.tmp 115)) none), 0), ((.mk (some 117) (.fieldAddr 37 (.tmp 10) 0) (some (116, false))), 0), ((.mk (some 118) (.load 3 (.tmp 117)) (some (116, false))), 0), ((.mk (some 119) (.binOp (.lss) 3 (.tmp 118) (.const (.int (.i64) 1099511627776)) 3) (some (116, false))), 0), ((.mk (some 120) (.fieldAddr 37 (.tmp 10) 1) (some (116, false))), 0), ((.mk (some 121) (.load 3 (.tmp 120)) (some (116, false))), 0), ((.mk (some 122) (.binOp (.lss) 3 (.tmp 121) (.const (.int (.i64) 1099511627776)) 3) (some (116, false))), 0), ((.mk (some 123) (.binOp (.neq) 4 (.tmp 119) (.tmp 122) 4) (some (116, false))), 0), ((.mk (some 124) (.pick (.tmp 116) (.const (.bool true)) (.tmp 123)) none), 0), ((.mk (some 125) (.move (.tmp 124)) none), 0), ((.mk (some 126) (.move (.tmp 6)) (some (125, false))), 0), ((.mk (some 127) (.move (.tmp 7)) (some (125, false))), 0), ((.mk (some 128) (.binOp (.sub) 3 (.tmp 127) (.const (.int (.i64) 1)) 3) (some (125, false))), 0), ((.mk (some 129) (.indexAddr 46 (.tmp 126) (.tmp 128)) (some (125, false))), 0), ((.mk (some 130) (.load 29 (.tmp 129)) (some (125, false))), 0), ((.mk (some 131) (.move (.tmp 8)) (some (125, false))), 0), ((.mk (some 132) (.binOp (.sub) 3 (.tmp 131) (.const (.int (.i64) 1)) 3) (some (125, false))), 0), ((.mk (some 133) (.indexAddr 29 (.tmp 130) (.tmp 132)) (some (125, false))), 0), ((.mk (some 134) (.fieldAddr 37 (.tmp 133) 1) (some (125, false))), 0), ((.mk (some 135) (.load 3 (.tmp 134)) (some (125, false))), 0), ((.mk (some 136) (.fieldAddr 37 (.tmp 10) 1) (some (125, false))), 0), ((.mk (some 137) (.load 3 (.tmp 136)) (some (125, false))), 0), ((.mk (some 138) (.binOp (.neq) 3 (.tmp 135) (.tmp 137) 3) (some (125, false))), 0), ((.mk (some 139) (.pick (.tmp 125) (.const (.bool true)) (.tmp 138)) none), 0), ((.mk (some 140) (.move (.tmp 139)) none), 0), ((.mk (some 141) (.move (.tmp 6)) (some (140, false))), 0), ((.mk (some 142) (.move (.tmp 7)) (some (140, false))), 0), ((.mk (some 143) (.binOp (.sub) 3 (.tmp 142) (.const (.int (.i64) 1)) 3) (some (140, false))), 0), ((.mk (some 144) (.indexAddr 46 (.tmp 141) (.tmp 143)) (some (140, false))), 0), ((.mk (some 145) (.load 29 (.tmp 144)) (some (140, false))), 0), ((.mk (some 146) (.move (.tmp 8)) (some (140, false))), 0), ((.mk (some 147) (.binOp (.sub) 3 (.tmp 146) (.const (.int (.i64) 1)) 3) (some (140, false))), 0), ((.mk (some 148) (.indexAddr 29 (.tmp 145) (.tmp 147)) (some (140, false))), 0), ((.mk (some 149) (.fieldAddr 37 (.tmp 148) 4) (some (140, false))), 0), ((.mk (some 150) (.load 4 (.tmp 149)) (some (140, false))), 0), ((.mk (some 151) (.fieldAddr 37 (.tmp 10) 4) (some (140, false))), 0), ((.mk (some 152) (.load 4 (.tmp 151)) (some (140, false))), 0), ((.mk (some 153) (.binOp (.neq) 4 (.tmp 150) (.tmp 152) 4) (some (140, false))), 0), ((.mk (some 154) (.pick (.tmp 140) (.const (.bool true)) (.tmp 153)) none), 0)])
def s6_24 : SCode := (.reg [(.mk (some 4) (.assign (.const (.bool false))) none)])
def s6_25 : SCode := (.cond (.tmp 154) (.seq s6_24 (.ret)) (.skip))
def s6_26 : SCode := (.seq (.block 4 (.loop (.seq s6_18 s6_22))) (.seq s6_23 s6_25))
def s6_27 : SCode := (.seq s6_14 (.seq s6_15 (.seq s6_16 s6_26)))
def s6_28 : SCode := (.reg [(.mk (some 42) (.move (.tmp 9)) none), (.mk (some 43) (.binOp (.add) 3 (.tmp 42) (.const (.int (.i64) 1)) 3) none), (.mk (some 9) (.assign (.tmp 43)) none)])
def s6_29 : SCode := (.seq s6_13 (.seq (.block 3 s6_27) s6_28))
def s6_30 : SCode := (.reg [(.mk (some 155) (.move (.tmp 8)) none), (.mk (some 156) (.move (.tmp 6)) none), (.mk (some 157) (.move (.tmp 7)) none), (.mk (some 158) (.binOp (.sub) 3 (.tmp 157) (.const (.int (.i64) 1)) 3) none), (.mk (some 159) (.indexAddr 46 (.tmp 156) (.tmp 158)) none), (.mk (some 160) (.load 29 (.tmp 159)) none), (.mk (some 161) (.call (.mk (.builtin (.len)) #[(.tmp 160)] #[29])) none), (.mk (some 162) (.binOp (.neq) 3 (.tmp 155) (.tmp 161) 3) none)])
def s6_31 : SCode := (.reg [(.mk (some 4) (.assign (.const (.bool false))) none)])
def s6_32 : SCode := (.cond (.tmp 162) (.seq s6_31 (.ret)) (.skip))
def s6_33 : SCode := (.seq (.seq s6_11 (.block 2 (.loop s6_29))) (.seq s6_30 s6_32))
def s6_34 : SCode := (.reg [(.mk (some 33) (.move (.tmp 7)) none), (.mk (some 34) (.binOp (.add) 3 (.tmp 33) (.const (.int (.i64) 1)) 3) none), (.mk (some 7) (.assign (.tmp 34)) none)])
def s6_35 : SCode := (.seq (.block 1 (.seq s6_10 s6_33)) s6_34)
def s6_36 : SCode := (.seq s6_7 (.block 0 (.loop (.seq s6_9 s6_35))))
def s6_37 : SCode := (.reg [(.mk (some 4) (.assign (.const (.bool true))) none)])
def s6_38 : SCode := (.seq (.seq s6_4 s6_6) (.seq s6_36 (.seq s6_37 (.ret))))
def s6_39 : SCode := (.seq s6_1 (.seq s6_2 (.seq s6_3 s6_38)))
def s6 : SCode := (.seq s6_0 s6_39)
theorem h6 : FnS Try.prog 6 ⟨[2], [(16, [(0, 0), (1, 0), (2, 0), (3, 0), (4, 0), (5, 0), (6, 0), (7, 0), (8, 0), (9, 0), (10, 0), (11, 0), (12, 0), (13, 0), (14, 0), (15, 0), (16, 0), (17, 0), (18, 0), (19, 0), (20, 0), (21, 0), (22, 0), (23, 0), (24, 0), (25, 0), (26, 0), (27, 0), (28, 0), (29, 0), (30, 0), (31, 0), (32, 0), (33, 0), (34, 0), (35, 0)]), (20, [(0, 0), (1, 0), (2, 0), (3, 0), (4, 0), (5, 0), (6, 0), (7, 0), (8, 0), (9, 0), (10, 0), (11, 0), (12, 0), (13, 0), (14, 0), (15, 0), (16, 0), (17, 0), (18, 0), (19, 0), (20, 0), (21, 0), (22, 0), (23, 0), (24, 0), (25, 0), (26, 0), (27, 0), (28, 0), (29, 0), (30, 0), (31, 0), (32, 0), (33, 0), (34, 0), (35, 0), (36, 0), (37, 0), (38, 0), (39, 0), (40, 0), (41, 0), (42, 0), (43, 0), (44, 0), (45, 0), (46, 0), (47, 0), (48, 0), (49, 0), (50, 0), (51, 0)])]⟩ 163 [(.tmp 4)] s6 := .mk' Try.func6 (by kernel_rfl) (by kernel_rfl) (by kernel_rfl) (by kernel_rfl) (by kernel_rfl) (by kernel_rfl)
def e6 := And.intro s6_0.eq_1 <| And.intro s6_1.eq_1 <| And.intro s6_2.eq_1 <| And.intro s6_3.eq_1 <| And.intro s6_4.eq_1 <| And.intro s6_5.eq_1 <| And.intro s6_6.eq_1 <| And.intro s6_7.eq_1 <| And.intro s6_8.eq_1 <| And.intro s6_9.eq_1 <| And.intro s6_10.eq_1 <| And.intro s6_11.eq_1 <| And.intro s6_12.eq_1 <| And.intro s6_13.eq_1 <| And.intro s6_14.eq_1 <| And.intro s6_15.eq_1 <| And.intro s6_16.eq_1 <| And.intro s6_17.eq_1 <| And.intro s6_18.eq_1 <| And.intro s6_19.eq_1 <| And.intro s6_20.eq_1 <| And.intro s6_21.eq_1 <| And.intro s6_22.eq_1 <| And.intro s6_23.eq_1 <| And.intro s6_24.eq_1 <| And.intro s6_25.eq_1 <| And.intro s6_26.eq_1 <| And.intro s6_27.eq_1 <| And.intro s6_28.eq_1 <| And.intro s6_29.eq_1 <| And.intro s6_30.eq_1 <| And.intro s6_31.eq_1 <| And.intro s6_32.eq_1 <| And.intro s6_33.eq_1 <| And.intro s6_34.eq_1 <| And.intro s6_35.eq_1 <| And.intro s6_36.eq_1 <| And.intro s6_37.eq_1 <| And.intro s6_38.eq_1 <| s6_39.eq_1
def s20_0 : SCode := (.reg [(.mk (some 4) (.assign (.const (.slice none 0 0))) none)])
def s20_1 : SCode := (.reg [(.mk (some 7) (.move (.tmp 1)) none), (.mk (some 8) (.binOp (.lss) 3 (.tmp 7) (.const (.int (.i64) 2)) 3) none)])
def s20_2 : SCode := (.reg [(.mk (some 4) (.assign (.const (.slice none 0 0))) none)])
def s20_3 : SCode := (.cond (.tmp 8) (.seq s20_2 (.ret)) (.skip))
def s20_4 : SCode := (.reg [(.mk (some 5) (.assign (.const (.slice none 0 0))) none)])
def s20_5 : SCode := (.reg [(.mk (some 9) (.move (.tmp 0)) none), (.mk (some 10) (.call (.mk (.builtin (.len)) #[(.tmp 9)] #[29])) none), (.mk (some 11) (.binOp (.gtr) 3 (.tmp 10) (.const (.int (.i64) 0)) 3) none)])
def s20_6 : SCode := (.seq s20_5 (.cond (.tmp 11) (.skip) (.exit 0)))
def s20_7 : SCode := (.reg [(.mk (some 12) (.move (.tmp 0)) none), (.mk (some 13) (.move (.tmp 1)) none), (.mk (some 14) (.call (.mk (.value (.func 42)) #[(.tmp 12), (.tmp 13)] #[29, 3])) none), (.mk (some 6) (.assign (.tmp 14)) none)])
def s20_8 : SCode := (.reg [(.mk (some 15) (.move (.tmp 6)) none), (.mk (some 16) (.binOp (.gtr) 3 (.tmp 15) (.const (.int (.i64) 1)) 3) none), (.mk (some 17) (.move (.tmp 16)) none), (.mk (some 18) (.move (.tmp 0)) (some (17, true))), (.mk (some 19) (.move (.tmp 6)) (some (17, true))), (.mk (some 20) (.slice 29 (.tmp 18) none (some (.tmp 19)) none) (some (17, true))), (.mk (some 21) (.call (.mk (.value (.func 23)) #[(.tmp 20)] #[29])) (some (17, true))), (.mk (some 22) (.binOp (.neq) 3 (.tmp 21) (.const (.int (.i64) 1)) 3) (some (17, true))), (.mk (some 23) (.pick (.tmp 17) (.tmp 22) (.const (.bool false))) none)])
def s20_9 : SCode := (.seq s20_8 (.cond (.tmp 23) (.skip) (.exit 2)))
def s20_10 : SCode := (.reg [(.mk (some 24) (.move (.tmp 6)) none), (.mk (some 25) (.binOp (.sub) 3 (.tmp 24) (.const (.int (.i64) 1)) 3) none), (.mk (some 6) (.assign (.tmp 25)) none)])
def s20_11 : SCode := (.block 2 (.loop (.seq s20_9 (.block 3 s20_10))))
def s20_12 : SCode := (.reg [(.mk (some 26) (.move (.tmp 5)) none), (.mk (some 27) (.move (.tmp 0)) none), (.mk (some 28) (.move (.tmp 6)) none), (.mk (some 29) (.slice 29 (.tmp 27) none (some (.tmp 28)) none) none), (.mk (some 30) (.call (.mk (.value (.func 43)) #[(.tmp 29)] #[29])) none), (.mk (some 31) (.buildSlice 29 1 #[(0, (.tmp 30))]) none), (.mk (some 32) (.call (.mk (.builtin (.append)) #[(.tmp 26), (.tmp 31)] #[29, 29])) none), (.mk (some 5) (.assign (.tmp 32)) none)])
def s20_13 : SCode := (.reg [(.mk (some 33) (.move (.tmp 0)) none), (.mk (some 34) (.move (.tmp 6)) none), (.mk (some 35) (.slice 29 (.tmp 33) (some (.tmp 34)) none none) none), (.mk (some 0) (.assign (.tmp 35)) none)])
def s20_14 : SCode := (.seq s20_7 (.seq s20_11 (.seq s20_12 s20_13)))
def s20_15 : SCode := (.block 0 (.loop (.seq s20_6 (.block 1 s20_14))))
def s20_16 : SCode := (.reg [(.mk (some 36) (.move (.tmp 5)) none), (.mk (some 4) (.assign (.tmp 36)) none)])
def s20_17 : SCode := (.seq s20_4 (.seq s20_15 (.seq s20_16 (.ret))))
def s20 : SCode := (.seq s20_0 (.seq (.seq s20_1 s20_3) s20_17))
theorem h20 : FnS Try.prog 20 ⟨[], []⟩ 37 [(.tmp 4)] s20 := .mk' Try.func20 (by kernel_rfl) (by kernel_rfl) (by kernel_rfl) (by kernel_rfl) (by kernel_rfl) (by kernel_rfl)
def e20 := And.intro s20_0.eq_1 <| And.intro s20_1.eq_1 <| And.intro s20_2.eq_1 <| And.intro s20_3.eq_1 <| And.intro s20_4.eq_1 <| And.intro s20_5.eq_1 <| And.intro s20_6.eq_1 <| And.intro s20_7.eq_1 <| And.intro s20_8.eq_1 <| And.intro s20_9.eq_1 <| And.intro s20_10.eq_1 <| And.intro s20_11.eq_1 <| And.intro s20_12.eq_1 <| And.intro s20_13.eq_1 <| And.intro s20_14.eq_1 <| And.intro s20_15.eq_1 <| And.intro s20_16.eq_1 <| s20_17.eq_1
def s21_0 : SCode := (.reg [(.mk (some 4) (.assign (.const (.slice none 0 0))) none)])
def s21_1 : SCode := (.reg [(.mk (some 8) (.move (.tmp 0)) none), (.mk (some 9) (.call (.mk (.value (.func 44)) #[(.tmp 8)] #[29])) none), (.mk (some 10) (.buildSlice 46 1 #[(0, (.tmp 9))]) none), (.mk (some 5) (.assign (.tmp 10)) none)])
def s21_2 : SCode := (.reg [(.mk (some 11) (.move (.tmp 1)) none), (.mk (some 12) (.binOp (.geq) 3 (.tmp 11) (.const (.int (.i64) 2)) 3) none), (.mk (some 13) (.move (.tmp 12)) none), (.mk (some 14) (.move (.tmp 5)) (some (13, true))), (.mk (some 15) (.call (.mk (.builtin (.len)) #[(.tmp 14)] #[46])) (some (13, true))), (.mk (some 16) (.binOp (.lss) 3 (.tmp 15) (.const (.int (.i64) 4)) 3) (some (13, true))), (.mk (some 17) (.pick (.tmp 13) (.tmp 16) (.const (.bool false))) none)])
def s21_3 : SCode := (.seq s21_2 (.cond (.tmp 17) (.skip) (.exit 0)))
def s21_4 : SCode := (.reg [(.mk (some 18) (.move (.tmp 5)) none), (.mk (some 19) (.move (.tmp 5)) none), (.mk (some 20) (.call (.mk (.builtin (.len)) #[(.tmp 19)] #[46])) none), (.mk (some 21) (.binOp (.sub) 3 (.tmp 20) (.const (.int (.i64) 1)) 3) none), (.mk (some 22) (.indexAddr 46 (.tmp 18) (.tmp 21)) none), (.mk (some 23) (.load 29 (.tmp 22)) none), (.mk (some 6) (.assign (.tmp 23)) none)])
def s21_5 : SCode := (.reg [(.mk (some 24) (.move (.tmp 6)) none), (.mk (some 25) (.move (.tmp 1)) none), (.mk (some 26) (.call (.mk (.value (.func 20)) #[(.tmp 24), (.tmp 25)] #[29, 3])) none), (.mk (some 7) (.assign (.tmp 26)) none)])
def s21_6 : SCode := (.reg [(.mk (some 27) (.move (.tmp 7)) none), (.mk (some 28) (.call (.mk (.builtin (.len)) #[(.tmp 27)] #[29])) none), (.mk (some 29) (.move (.tmp 6)) none), (.mk (some 30) (.call (.mk (.builtin (.len)) #[(.tmp 29)] #[29])) none), (.mk (some 31) (.binOp (.geq) 3 (.tmp 28) (.tmp 30) 3) none)])
def s21_7 : SCode := (.seq s21_6 (.cond (.tmp 31) (.exit 0) (.skip)))
def s21_8 : SCode := (.reg [(.mk (some 32) (.move (.tmp 5)) none), (.mk (some 33) (.move (.tmp 7)) none), (.mk (some 34) (.buildSlice 46 1 #[(0, (.tmp 33))]) none), (.mk (some 35) (.call (.mk (.builtin (.append)) #[(.tmp 32), (.tmp 34)] #[46, 46])) none), (.mk (some 5) (.assign (.tmp 35)) none)])
def s21_9 : SCode := (.seq s21_4 (.seq s21_5 (.seq s21_7 s21_8)))
def s21_10 : SCode := (.block 0 (.loop (.seq s21_3 (.block 1 s21_9))))
def s21_11 : SCode := (.reg [(.mk (some 36) (.move (.tmp 5)) none), (.mk (some 4) (.assign (.tmp 36)) none)])
def s21_12 : SCode := (.seq s21_1 (.seq s21_10 (.seq s21_11 (.ret))))
def s21 : SCode := (.seq s21_0 s21_12)
theorem h21 : FnS Try.prog 21 ⟨[], []⟩ 37 [(.tmp 4)] s21 := .mk' Try.func21 (by kernel_rfl) (by kernel_rfl) (by kernel_rfl) (by kernel_rfl) (by kernel_rfl) (by kernel_rfl)
def e21 := And.intro s21_0.eq_1 <| And.intro s21_1.eq_1 <| And.intro s21_2.eq_1 <| And.intro s21_3.eq_1 <| And.intro s21_4.eq_1 <| And.intro s21_5.eq_1 <| And.intro s21_6.eq_1 <| And.intro s21_7.eq_1 <| And.intro s21_8.eq_1 <| And.intro s21_9.eq_1 <| And.intro s21_10.eq_1 <| And.intro s21_11.eq_1 <| s21_12.eq_1
def s23_0 : SCode := (.reg [(.mk (some 2) (.assign (.const (.int (.i64) 0))) none)])
def s23_1 : SCode := (.reg [(.mk (some 3) (.assign (.const (.int (.i64) 0))) none)])
def s23_2 : SCode := (.reg [(.mk (some 6) (.move (.tmp 0)) none), (.mk (some 7) (.call (.mk (.builtin (.len)) #[(.tmp 6)] #[29])) none), (.mk (some 8) (.move (.const (.int (.i64) 0))) none)])
def s23_3 : SCode := (.reg [(.mk (some 9) (.binOp (.lss) 3 (.tmp 8) (.tmp 7) 3) none)])
def s23_4 : SCode := (.reg [(.mk (some 10) (.move (.tmp 8)) none), (.mk (some 11) (.indexAddr 29 (.tmp 6) (.tmp 8)) none), (.mk (some 12) (.load 37 (.tmp 11)) none), (.mk (some 5) (.alloc 37) none), (.mk (some 4) (.assign (.tmp 10)) none), (.mk none (.store 37 (.tmp 5) (.tmp 12)) none)])
def s23_5 : SCode := (.reg [(.mk (some 13) (.move (.tmp 0)) none), (.mk (some 14) (.move (.tmp 4)) none), (.mk (some 15) (.binOp (.add) 3 (.tmp 14) (.const (.int (.i64) 1)) 3) none), (.mk (some 16) (.slice 29 (.tmp 13) (some (.tmp 15)) none none) none), (.mk (some 17) (.makeFunc (.func 46) #[] #[(.tmp 5)]) none), (.mk (some 18) (.call (.mk (.value (.func 45)) #[(.tmp 16), (.tmp 17)] #[29, 79])) none), (.mk (some 19) (.unOp (.not) 4 (.tmp 18)) none)])
def s23_6 : SCode := (.reg [(.mk (some 20) (.move (.tmp 3)) none), (.mk (some 21) (.binOp (.add) 3 (.tmp 20) (.const (.int (.i64) 1)) 3) none), (.mk (some 3) (.assign (.tmp 21)) none)])
def s23_7 : SCode := (.seq s23_5 (.cond (.tmp 19) s23_6 (.skip)))
def s23_8 : SCode := (.reg [(.mk (some 22) (.binOp (.add) 3 (.tmp 8) (.const (.int (.i64) 1)) 3) none), (.mk (some 8) (.move (.tmp 22)) none)])
def s23_9 : SCode := (.seq (.block 1 (.seq s23_4 s23_7)) s23_8)
def s23_10 : SCode := (.seq (.cond (.tmp 9) (.skip) (.exit 0)) s23_9)
def s23_11 : SCode := (.seq s23_2 (.block 0 (.loop (.seq s23_3 s23_10))))
def s23_12 : SCode := (.reg [(.mk (some 23) (.move (.tmp 3)) none), (.mk (some 2) (.assign (.tmp 23)) none)])
def s23_13 : SCode := (.seq s23_1 (.seq s23_11 (.seq s23_12 (.ret))))
def s23 : SCode := (.seq s23_0 s23_13)
theorem h23 : FnS Try.prog 23 ⟨[], []⟩ 24 [(.tmp 2)] s23 := .mk' Try.func23 (by kernel_rfl) (by kernel_rfl) (by kernel_rfl) (by kernel_rfl) (by kernel_rfl) (by kernel_rfl)
def e23 := And.intro s23_0.eq_1 <| And.intro s23_1.eq_1 <| And.intro s23_2.eq_1 <| And.intro s23_3.eq_1 <| And.intro s23_4.eq_1 <| And.intro s23_5.eq_1 <| And.intro s23_6.eq_1 <| And.intro s23_7.eq_1 <| And.intro s23_8.eq_1 <| And.intro s23_9.eq_1 <| And.intro s23_10.eq_1 <| And.intro s23_11.eq_1 <| And.intro s23_12.eq_1 <| s23_13.eq_1
def s24_0 : SCode := (.reg [(.mk (some 1) (.box 27 (.tmp 0)) none), (.mk (some 2) (.assign (.const (.slice none 0 0))) none)])
def s24_1 : SCode := (.reg [(.mk (some 3) (.assign (.const (.slice none 0 0))) none)])
def s24_2 : SCode := (.reg [(.mk (some 14) (.load 27 (.tmp 1)) none), (.mk (some 15) (.call (.mk (.value (.func 14)) #[(.tmp 14)] #[27])) none), (.mk (some 4) (.assign (.tmp 15)) none)])
def s24_3 : SCode := (.reg [(.mk (some 5) (.assign (.const (.int (.i64) 0))) none)])
def s24_4 : SCode := (.reg [(.mk (some 16) (.move (.tmp 5)) none), (.mk (some 17) (.move (.tmp 4)) none), (.mk (some 18) (.call (.mk (.builtin (.len)) #[(.tmp 17)] #[22])) none), (.mk (some 19) (.binOp (.lss) 3 (.tmp 16) (.tmp 18) 3) none)])
def s24_5 : SCode := (.seq s24_4 (.cond (.tmp 19) (.skip) (.exit 0)))
def s24_6 : SCode := (.drw [((.mk (some 23) (.load 27 (.tmp 1)) none), 0), ((.mk (some 24) (.move (.tmp 4)) none), 0), ((.mk (some 25) (.move (.tmp 5)) none), 0), ((.mk (some 26) (.indexAddr 22 (.tmp 24) (.tmp 25)) none), 0), ((.mk (some 27) (.load 3 (.tmp 26)) none), 0), ((.mk (some 28) (.call (.mk (.value (.func 16)) #[(.tmp 23), (.tmp 27)] #[27, 3])) none), 1), ((.mk (some 22) (.move (.tmp 28)) none), 0), ((.mk (some 29) (.extract (.tmp 22) 0) none), 0), ((.mk (some 30) (.extract (.tmp 22) 1) none), 0), ((.mk (some 6) (.assign (.tmp 29)) none), 0), ((.mk (some 7) (.assign (.tmp 30)) none), 0)])
def s24_7 : SCode := (.reg [(.mk (some 31) (.move (.tmp 3)) none), (.mk (some 32) (.call (.mk (.builtin (.len)) #[(.tmp 31)] #[29])) none), (.mk (some 8) (.assign (.tmp 32)) none)])
def s24_8 : SCode := (.drw [((.mk (some 33) (.move (.tmp 8)) none), 0), ((.mk (some 34) (.binOp (.gtr) 3 (.tmp 33) (.const (.int (.i64) 0)) 3) none), 0), ((.mk (some 35) (.move (.tmp 34)) none), 0), ((.mk (some 36) (.move (.tmp 3)) (some (35, true))), 0), ((.mk (some 37) (.move (.tmp 8)) (some (35, true))), 0), ((.mk (some 38) (.binOp (.sub) 3 (.tmp 37) (.const (.int (.i64) 1)) 3) (some (35, true))), 0), ((.mk (some 39) (.indexAddr 29 (.tmp 36) (.tmp 38)) (some (35, true))), 0), ((.mk (some 40) (.fieldAddr 37 (.tmp 39) 1) (some (35, true))), 0), ((.mk (some 41) (.load 3 (.tmp 40)) (some (35, true))), 0), ((.mk (some 42) (.move (.tmp 4)) (some (35, true))), 0), ((.mk (some 43) (.move (.tmp 5)) (some (35, true))), 0), ((.mk (some 44) (.indexAddr 22 (.tmp 42) (.tmp 43)) (some (35, true))), 0), ((.mk (some 45) (.load 3 (.tmp 44)) (some (35, true))), 0), ((.mk (some 46) (.binOp (.sub) 3 (.tmp 45) (.const (.int (.i64) 1)) 3) (some (35, true))), 0), ((.mk (some 47) (.binOp (.eql) 3 (.tmp 41) (.tmp 46) 3) (some (35, true))), 0), ((.mk (some 48) (.pick (.tmp 35) (.tmp 47) (.const (.bool false))) none), 0), ((.mk (some 49) (.move (.tmp 48)) none), 0), ((.mk (some 50) (.move (.tmp 6)) (some (49, true))), 0), ((.mk (some 51) (.call (.mk (.builtin (.len)) #[(.tmp 50)] #[22])) (some (49, true))), 0), ((.mk (some 52) (.binOp (.eql) 3 (.tmp 51) (.const (.int (.i64) 1)) 3) (some (49, true))), 0), ((.mk (some 53) (.pick (.tmp 49) (.tmp 52) (.const (.bool false))) none), 0), ((.mk (some 54) (.move (.tmp 53)) none), 0), ((.mk (some 55) (.move (.tmp 6)) (some (54, true))), 0), ((.mk (some 56) (.indexAddr 22 (.tmp 55) (.const (.int (.i64) 0))) (some (54, true))), 0), ((.mk (some 57) (.load 3 (.tmp 56)) (some (54, true))), 0), ((.mk (some 58) (.move (.tmp 4)) (some (54, true))), 0), ((.mk (some 59) (.move (.tmp 5)) (some (54, true))), 0), ((.mk (some 60) (.indexAddr 22 (.tmp 58) (.tmp 59)) (some (54, true))), 0), ((.mk (some 61) (.load 3 (.tmp 60)) (some (54, true))), 0), ((.mk (some 62) (.binOp (.sub) 3 (.tmp 61) (.const (.int (.i64) 1)) 3) (some (54, true))), 0), ((.mk (some 63) (.binOp (.eql) 3 (.tmp 57) (.tmp 62) 3) (some (54, true))), 0), ((.mk (some 64) (.pick (.tmp 54) (.tmp 63) (.const (.bool false))) none), 0)])
def s24_9 : SCode := (.reg [(.mk (some 65) (.move (.tmp 3)) none), (.mk (some 66) (.move (.tmp 8)) none), (.mk (some 67) (.binOp (.sub) 3 (.tmp 66) (.const (.int (.i64) 1)) 3) none), (.mk (some 68) (.move (.tmp 4)) none), (.mk (some 69) (.move (.tmp 5)) none), (.mk (some 70) (.indexAddr 22 (.tmp 68) (.tmp 69)) none), (.mk (some 71) (.load 3 (.tmp 70)) none), (.mk (some 72) (.indexAddr 29 (.tmp 65) (.tmp 67)) none), (.mk (some 73) (.fieldAddr 37 (.tmp 72) 1) none), (.mk none (.store 3 (.tmp 73) (.tmp 71)) none)])
def s24_10 : SCode := (.drw [((.mk (some 74) (.move (.tmp 3)) none), 0), ((.mk (some 75) (.move (.tmp 4)) none), 0), ((.mk (some 76) (.move (.tmp 5)) none), 0), ((.mk (some 77) (.indexAddr 22 (.tmp 75) (.tmp 76)) none), 0), ((.mk (some 78) (.load 3 (.tmp 77)) none), 0), ((.mk (some 79) (.move (.tmp 4)) none), 0), ((.mk (some 80) (.move (.tmp 5)) none), 0), ((.mk (some 81) (.indexAddr 22 (.tmp 79) (.tmp 80)) none), 0), ((.mk (some 82) (.load 3 (.tmp 81)) none), 0), ((.mk (some 83) (.buildSlice 22 0 #[]) none), 0), ((.mk (some 84) (.move (.tmp 6)) none), 0), ((.mk (some 86) (.move (.tmp 6)) none), 0), ((.mk (some 87) (.call (.mk (.builtin (.len)) #[(.tmp 86)] #[22])) none), 0), ((.mk (some 88) (.binOp (.eql) 3 (.tmp 87) (.const (.int (.i64) 0)) 3) none), 0), ((.mk (some 85) (.call (.mk (.builtin (.append)) #[(.tmp 83), (.tmp 84)] #[22, 22])) none), 2), ((.mk (some 89) (.build 37 #[(0, (.tmp 78)), (1, (.tmp 82)), (2, (.tmp 85)), (3, (.tmp 88))]) none), 0), ((.mk (some 90) (.buildSlice 29 1 #[(0, (.tmp 89))]) none), 0), ((.mk (some 91) (.call (.mk (.builtin (.append)) #[(.tmp 74), (.tmp 90)] #[29, 29])) none), 1), ((.mk (some 3) (.assign (.tmp 91)) none), 0)])
def s24_11 : SCode := (.seq s24_8 (.cond (.tmp 64) s24_9 s24_10))
def s24_12 : SCode := (.block 1 (.seq s24_6 (.seq s24_7 s24_11)))
def s24_13 : SCode := (.reg [(.mk (some 20) (.move (.tmp 5)) none), (.mk (some 21) (.binOp (.add) 3 (.tmp 20) (.const (.int (.i64) 1)) 3) none), (.mk (some 5) (.assign (.tmp 21)) none)])
def s24_14 : SCode := (.loop (.seq s24_5 (.seq s24_12 s24_13)))
def s24_15 : SCode := (.reg [(.mk (some 9) (.assign (.const (.int (.i64) 0))) none)])
def s24_16 : SCode := (.reg [(.mk (some 92) (.move (.tmp 9)) none), (.mk (some 93) (.move (.tmp 3)) none), (.mk (some 94) (.call (.mk (.builtin (.len)) #[(.tmp 93)] #[29])) none), (.mk (some 95) (.binOp (.lss) 3 (.tmp 92) (.tmp 94) 3) none)])
def s24_17 : SCode := (.seq s24_16 (.cond (.tmp 95) (.skip) (.exit 2)))
def s24_18 : SCode := (.reg [(.mk (some 10) (.assign (.const (.int (.i64) 0))) none)])
def s24_19 : SCode := (.reg [(.mk (some 98) (.move (.tmp 3)) none), (.mk (some 99) (.move (.tmp 9)) none), (.mk (some 100) (.indexAddr 29 (.tmp 98) (.tmp 99)) none), (.mk (some 101) (.fieldAddr 37 (.tmp 100) 0) none), (.mk (some 102) (.load 3 (.tmp 101)) none), (.mk (some 103) (.binOp (.geq) 3 (.tmp 102) (.const (.int (.i64) 1099511627776)) 3) none)])
def s24_20 : SCode := (.reg [(.mk (some 10) (.assign (.const (.int (.i64) 1099511627776))) none)])
def s24_21 : SCode := (.seq s24_19 (.cond (.tmp 103) s24_20 (.skip)))
def s24_22 : SCode := (.drw [((.mk (some 104) (.load 27 (.tmp 1)) none), 0), ((.mk (some 105) (.move (.tmp 3)) none), 0), ((.mk (some 106) (.move (.tmp 9)) none), 0), ((.mk (some 107) (.indexAddr 29 (.tmp 105) (.tmp 106)) none), 0), ((.mk (some 108) (.fieldAddr 37 (.tmp 107) 1) none), 0), ((.mk (some 109) (.load 3 (.tmp 108)) none), 0), ((.mk (some 110) (.buildSlice 22 1 #[(0, (.tmp 109))]) none), 0), ((.mk (some 111) (.call (.mk (.value (.func 48)) #[(.tmp 104), (.tmp 110)] #[27, 22])) none), 1), ((.mk (some 11) (.assign (.tmp 111)) none), 0)])
def s24_23 : SCode := (.reg [(.mk (some 12) (.assign (.const (.int (.i64) 0))) none)])
def s24_24 : SCode := (.reg [(.mk (some 13) (.assign (.const (.int (.i64) 0))) none)])
def s24_25 : SCode := (.reg [(.mk (some 112) (.move (.tmp 13)) none), (.mk (some 113) (.move (.tmp 11)) none), (.mk (some 114) (.call (.mk (.builtin (.len)) #[(.tmp 113)] #[22])) none), (.mk (some 115) (.binOp (.lss) 3 (.tmp 112) (.tmp 114) 3) none)])
def s24_26 : SCode := (.seq s24_25 (.cond (.tmp 115) (.skip) (.exit 4)))
def s24_27 : SCode := (.reg [(.mk (some 118) (.move (.tmp 11)) none), (.mk (some 119) (.move (.tmp 13)) none), (.mk (some 120) (.indexAddr 22 (.tmp 118) (.tmp 119)) none), (.mk (some 121) (.load 3 (.tmp 120)) none), (.mk (some 122) (.move (.tmp 10)) none), (.mk (some 123) (.binOp (.geq) 3 (.tmp 121) (.tmp 122) 3) none)])
def s24_28 : SCode := (.reg [(.mk (some 124) (.move (.tmp 12)) none), (.mk (some 125) (.binOp (.add) 3 (.tmp 124) (.const (.int (.i64) 1)) 3) none), (.mk (some 12) (.assign (.tmp 125)) none)])
def s24_29 : SCode := (.seq s24_27 (.cond (.tmp 123) s24_28 (.skip)))
def s24_30 : SCode := (.reg [(.mk (some 116) (.move (.tmp 13)) none), (.mk (some 117) (.binOp (.add) 3 (.tmp 116) (.const (.int (.i64) 1)) 3) none), (.mk (some 13) (.assign (.tmp 117)) none)])
def s24_31 : SCode := (.seq s24_26 (.seq (.block 5 s24_29) s24_30))
def s24_32 : SCode := (.reg [(.mk (some 126) (.move (.tmp 3)) none), (.mk (some 127) (.move (.tmp 9)) none), (.mk (some 128) (.move (.tmp 12)) none), (.mk (some 129) (.move (.tmp 3)) none), (.mk (some 130) (.move (.tmp 9)) none), (.mk (some 131) (.indexAddr 29 (.tmp 129) (.tmp 130)) none), (.mk (some 132) (.fieldAddr 37 (.tmp 131) 1) none), (.mk (some 133) (.load 3 (.tmp 132)) none), (.mk (some 134) (.move (.tmp 10)) none), (.mk (some 135) (.binOp (.sub) 3 (.tmp 133) (.tmp 134) 3) none), (.mk (some 136) (.binOp (.add) 3 (.tmp 135) (.const (.int (.i64) 1)) 3) none), (.mk (some 137) (.binOp (.eql) 3 (.tmp 128) (.tmp 136) 3) none), (.mk (some 138) (.indexAddr 29 (.tmp 126) (.tmp 127)) none), (.mk (some 139) (.fieldAddr 37 (.tmp 138) 4) none), (.mk none (.store 4 (.tmp 139) (.tmp 137)) none)])
def s24_33 : SCode := (.seq (.seq s24_24 (.block 4 (.loop s24_31))) s24_32)
def s24_34 : SCode := (.seq s24_21 (.seq s24_22 (.seq s24_23 s24_33)))
def s24_35 : SCode := (.reg [(.mk (some 96) (.move (.tmp 9)) none), (.mk (some 97) (.binOp (.add) 3 (.tmp 96) (.const (.int (.i64) 1)) 3) none), (.mk (some 9) (.assign (.tmp 97)) none)])
def s24_36 : SCode := (.seq (.block 3 (.seq s24_18 s24_34)) s24_35)
def s24_37 : SCode := (.seq s24_15 (.block 2 (.loop (.seq s24_17 s24_36))))
def s24_38 : SCode := (.reg [(.mk (some 140) (.move (.tmp 3)) none), (.mk (some 2) (.assign (.tmp 140)) none)])
def s24_39 : SCode := (.seq (.seq s24_3 (.block 0 s24_14)) (.seq s24_37 (.seq s24_38 (.ret))))
def s24 : SCode := (.seq s24_0 (.seq s24_1 (.seq s24_2 s24_39)))
theorem h24 : FnS Try.prog 24 ⟨[1, 91], [(6, [(0, 0), (1, 0), (2, 0), (3, 0), (4, 0), (5, 1), (6, 0), (7, 0), (8, 0), (9, 0), (10, 0)]), (8, [(0, 0), (1, 0), (2, 0), (3, 0), (4, 0), (5, 0), (6, 0), (7, 0), (8, 0), (9, 0), (10, 0), (11, 0), (12, 0), (13, 0), (14, 0), (15, 0), (16, 0), (17, 0), (18, 0), (19, 0), (20, 0), (21, 0), (22, 0), (23, 0), (24, 0), (25, 0), (26, 0), (27, 0), (28, 0), (29, 0), (30, 0), (31, 0)]), (10, [(0, 0), (1, 0), (2, 0), (3, 0), (4, 0), (5, 0), (6, 0), (7, 0), (8, 0), (9, 0), (10, 0), (12, 0), (13, 0), (14, 0), (11, 2), (15, 0), (16, 0), (17, 1), (18, 0)]), (17, [(0, 0), (1, 0), (2, 0), (3, 0), (4, 0), (5, 0), (6, 0), (7, 1), (8, 0)])]⟩ 141 [(.tmp 2)] s24 := .mk' Try.func24 (by kernel_rfl) (by kernel_rfl) (by kernel_rfl) (by kernel_rfl) (by kernel_rfl) (by kernel_rfl)
def e24 := And.intro s24_0.eq_1 <| And.intro s24_1.eq_1 <| And.intro s24_2.eq_1 <| And.intro s24_3.eq_1 <| And.intro s24_4.eq_1 <| And.intro s24_5.eq_1 <| And.intro s24_6.eq_1 <| And.intro s24_7.eq_1 <| And.intro s24_8.eq_1 <| And.intro s24_9.eq_1 <| And.intro s24_10.eq_1 <| And.intro s24_11.eq_1 <| And.intro s24_12.eq_1 <| And.intro s24_13.eq_1 <| And.intro s24_14.eq_1 <| And.intro s24_15.eq_1 <| And.intro s24_16.eq_1 <| And.intro s24_17.eq_1 <| And.intro s24_18.eq_1 <| And.intro s24_19.eq_1 <| And.intro s24_20.eq_1 <| And.intro s24_21.eq_1 <| And.intro s24_22.eq_1 <| And.intro s24_23.eq_1 <| And.intro s24_24.eq_1 <| And.intro s24_25.eq_1 <| And.intro s24_26.eq_1 <| And.intro s24_27.eq_1 <| And.intro s24_28.eq_1 <| And.intro s24_29.eq_1 <| And.intro s24_30.eq_1 <| And.intro s24_31.eq_1 <| And.intro s24_32.eq_1 <| And.intro s24_33.eq_1 <| And.intro s24_34.eq_1 <| And.intro s24_35.eq_1 <| And.intro s24_36.eq_1 <| And.intro s24_37.eq_1 <| And.intro s24_38.eq_1 <| s24_39.eq_1
def s42_0 : SCode := (.reg [(.mk (some 4) (.assign (.const (.int (.i64) 0))) none)])
def s42_1 : SCode := (.reg [(.mk (some 5) (.assign (.const (.int (.i64) 1))) none)])
def s42_2 : SCode := (.drw [((.mk (some 6) (.move (.tmp 5)) none), 0), ((.mk (some 7) (.move (.tmp 0)) none), 0), ((.mk (some 8) (.call (.mk (.builtin (.len)) #[(.tmp 7)] #[29])) none), 0), ((.mk (some 9) (.move (.tmp 1)) none), 0), ((.mk (some 10) (.call (.mk (.builtin (.min)) #[(.tmp 8), (.tmp 9)] #[3, 3])) none), 0), ((.mk (some 11) (.binOp (.lss) 3 (.tmp 6) (.tmp 10) 3) none), 0), ((.mk (some 12) (.move (.tmp 11)) none), 0), ((.mk (some 13) (.move (.tmp 0)) (some (12, true))), 0), ((.mk (some 14) (.move (.tmp 5)) (some (12, true))), 0), ((.mk (some 15) (.indexAddr 29 (.tmp 13) (.tmp 14)) (some (12, true))), 0), ((.mk (some 16) (.fieldAddr 37 (.tmp 15) 0) (some (12, true))), 0), ((.mk (some 17) (.load 3 (.tmp 16)) (some (12, true))), 0), ((.mk (some 18) (.binOp (.lss) 3 (.tmp 17) (.const (.int (.i64) 1099511627776)) 3) (some (12, true))), 0), ((.mk (some 19) (.move (.tmp 0)) (some (12, true))), 0), ((.mk (some 20) (.indexAddr 29 (.tmp 19) (.const (.int (.i64) 0))) (some (12, true))), 0), ((.mk (some 21) (.fieldAddr 37 (.tmp 20) 0) (some (12, true))), 0), ((.mk (some 22) (.load 3 (.tmp 21)) (some (12, true))), 0), ((.mk (some 23) (.binOp (.lss) 3 (.tmp 22) (.const (.int (.i64) 1099511627776)) 3) (some (12, true))), 0), ((.mk (some 24) (.binOp (.eql) 4 (.tmp 18) (.tmp 23) 4) (some (12, true))), 0), ((.mk (some 25) (.pick (.tmp 12) (.tmp 24) (.const (.bool false))) none), 0)])
def s42_3 : SCode := (.seq s42_2 (.cond (.tmp 25) (.skip) (.exit 0)))
def s42_4 : SCode := (.reg [(.mk (some 26) (.move (.tmp 5)) none), (.mk (some 27) (.binOp (.add) 3 (.tmp 26) (.const (.int (.i64) 1)) 3) none), (.mk (some 5) (.assign (.tmp 27)) none)])
def s42_5 : SCode := (.block 0 (.loop (.seq s42_3 (.block 1 s42_4))))
def s42_6 : SCode := (.reg [(.mk (some 28) (.move (.tmp 5)) none), (.mk (some 4) (.assign (.tmp 28)) none)])
def s42_7 : SCode := (.seq s42_1 (.seq s42_5 (.seq s42_6 (.ret))))
def s42 : SCode := (.seq s42_0 s42_7)
theorem h42 : FnS Try.prog 42 ⟨[], [(2, [(0, 0), (1, 0), (2, 0), (3, 0), (4, 0), (5, 0), (6, 0), (7, 0), (8, 0), (9, 0), (10, 0), (11, 0), (12, 0), (13, 0), (14, 0), (15, 0), (16, 0), (17, 0), (18, 0), (19, 0)])]⟩ 29 [(.tmp 4)] s42 := .mk' Try.func42 (by kernel_rfl) (by kernel_rfl) (by kernel_rfl) (by kernel_rfl) (by kernel_rfl) (by kernel_rfl)
def e42 := And.intro s42_0.eq_1 <| And.intro s42_1.eq_1 <| And.intro s42_2.eq_1 <| And.intro s42_3.eq_1 <| And.intro s42_4.eq_1 <| And.intro s42_5.eq_1 <| And.intro s42_6.eq_1 <| s42_7.eq_1
def s43_0 : SCode := (.reg [(.mk (some 2) (.alloc 37) none)])
def s43_1 : SCode := (.reg [(.mk (some 9) (.move (.tmp 0)) none), (.mk (some 10) (.move (.tmp 0)) none), (.mk (some 11) (.call (.mk (.builtin (.len)) #[(.tmp 10)] #[29])) none), (.mk (some 12) (.binOp (.sub) 3 (.tmp 11) (.const (.int (.i64) 1)) 3) none), (.mk (some 13) (.indexAddr 29 (.tmp 9) (.tmp 12)) none), (.mk (some 14) (.load 37 (.tmp 13)) none), (.mk (some 3) (.alloc 37) none), (.mk none (.store 37 (.tmp 3) (.tmp 14)) none)])
def s43_2 : SCode := (.drw [((.mk (some 15) (.move (.tmp 0)) none), 0), ((.mk (some 16) (.indexAddr 29 (.tmp 15) (.const (.int (.i64) 0))) none), 0), ((.mk (some 17) (.fieldAddr 37 (.tmp 16) 0) none), 0), ((.mk (some 18) (.load 3 (.tmp 17)) none), 0), ((.mk (some 19) (.fieldAddr 37 (.tmp 3) 1) none), 0), ((.mk (some 20) (.load 3 (.tmp 19)) none), 0), ((.mk (some 21) (.fieldAddr 37 (.tmp 3) 4) none), 0), ((.mk (some 22) (.load 4 (.tmp 21)) none), 0), ((.mk (some 23) (.build 37 #[(0, (.tmp 18)), (1, (.tmp 20)), (4, (.tmp 22))]) none), 0), ((.mk (some 4) (.alloc 37) none), 2), ((.mk none (.store 37 (.tmp 4) (.tmp 23)) none), 1)])
def s43_3 : SCode := (.reg [(.mk (some 24) (.move (.tmp 0)) none), (.mk (some 25) (.call (.mk (.builtin (.len)) #[(.tmp 24)] #[29])) none), (.mk (some 26) (.move (.const (.int (.i64) 0))) none)])
def s43_4 : SCode := (.reg [(.mk (some 27) (.binOp (.lss) 3 (.tmp 26) (.tmp 25) 3) none)])
def s43_5 : SCode := (.reg [(.mk (some 28) (.indexAddr 29 (.tmp 24) (.tmp 26)) none), (.mk (some 29) (.load 37 (.tmp 28)) none), (.mk (some 6) (.alloc 37) none), (.mk none (.store 37 (.tmp 6) (.tmp 29)) none)])
def s43_6 : SCode := (.reg [(.mk (some 30) (.fieldAddr 37 (.tmp 4) 3) none), (.mk (some 31) (.load 4 (.tmp 30)) none), (.mk (some 32) (.move (.tmp 31)) none), (.mk (some 33) (.fieldAddr 37 (.tmp 6) 3) (some (32, false))), (.mk (some 34) (.load 4 (.tmp 33)) (some (32, false))), (.mk (some 35) (.pick (.tmp 32) (.const (.bool true)) (.tmp 34)) none), (.mk (some 36) (.fieldAddr 37 (.tmp 4) 3) none), (.mk none (.store 4 (.tmp 36) (.tmp 35)) none)])
def s43_7 : SCode := (.reg [(.mk (some 37) (.fieldAddr 37 (.tmp 6) 2) none), (.mk (some 38) (.load 22 (.tmp 37)) none), (.mk (some 39) (.call (.mk (.builtin (.len)) #[(.tmp 38)] #[22])) none), (.mk (some 40) (.move (.const (.int (.i64) 0))) none)])
def s43_8 : SCode := (.reg [(.mk (some 41) (.binOp (.lss) 3 (.tmp 40) (.tmp 39) 3) none)])
def s43_9 : SCode := (.reg [(.mk (some 42) (.indexAddr 22 (.tmp 38) (.tmp 40)) none), (.mk (some 43) (.load 3 (.tmp 42)) none), (.mk (some 8) (.assign (.tmp 43)) none)])
def s43_10 : SCode := (.reg [(.mk (some 44) (.move (.tmp 8)) none), (.mk (some 45) (.fieldAddr 37 (.tmp 4) 0) none), (.mk (some 46) (.load 3 (.tmp 45)) none), (.mk (some 47) (.binOp (.lss) 3 (.tmp 44) (.tmp 46) 3) none), (.mk (some 48) (.move (.tmp 47)) none), (.mk (some 49) (.fieldAddr 37 (.tmp 4) 2) (some (48, true))), (.mk (some 50) (.load 22 (.tmp 49)) (some (48, true))), (.mk (some 51) (.move (.tmp 8)) (some (48, true))), (.mk (some 52) (.call (.mk (.value (.func 47)) #[(.tmp 50), (.tmp 51)] #[22, 3])) (some (48, true))), (.mk (some 53) (.unOp (.not) 4 (.tmp 52)) (some (48, true))), (.mk (some 54) (.pick (.tmp 48) (.tmp 53) (.const (.bool false))) none)])
def s43_11 : SCode := (.reg [(.mk (some 55) (.fieldAddr 37 (.tmp 4) 2) none), (.mk (some 56) (.load 22 (.tmp 55)) none), (.mk (some 57) (.move (.tmp 8)) none), (.mk (some 58) (.buildSlice 22 1 #[(0, (.tmp 57))]) none), (.mk (some 59) (.call (.mk (.builtin (.append)) #[(.tmp 56), (.tmp 58)] #[22, 22])) none), (.mk (some 60) (.fieldAddr 37 (.tmp 4) 2) none), (.mk none (.store 22 (.tmp 60) (.tmp 59)) none)])
def s43_12 : SCode := (.seq s43_10 (.cond (.tmp 54) s43_11 (.skip)))
def s43_13 : SCode := (.reg [(.mk (some 61) (.binOp (.add) 3 (.tmp 40) (.const (.int (.i64) 1)) 3) none), (.mk (some 40) (.move (.tmp 61)) none)])
def s43_14 : SCode := (.seq (.block 3 (.seq s43_9 s43_12)) s43_13)
def s43_15 : SCode := (.seq (.cond (.tmp 41) (.skip) (.exit 2)) s43_14)
def s43_16 : SCode := (.seq s43_7 (.block 2 (.loop (.seq s43_8 s43_15))))
def s43_17 : SCode := (.block 1 (.seq s43_5 (.seq s43_6 s43_16)))
def s43_18 : SCode := (.reg [(.mk (some 62) (.binOp (.add) 3 (.tmp 26) (.const (.int (.i64) 1)) 3) none), (.mk (some 26) (.move (.tmp 62)) none)])
def s43_19 : SCode := (.seq (.cond (.tmp 27) (.skip) (.exit 0)) (.seq s43_17 s43_18))
def s43_20 : SCode := (.seq s43_3 (.block 0 (.loop (.seq s43_4 s43_19))))
def s43_21 : SCode := (.reg [(.mk (some 63) (.load 37 (.tmp 4)) none), (.mk none (.store 37 (.tmp 2) (.tmp 63)) none)])
def s43_22 : SCode := (.seq s43_2 (.seq s43_20 (.seq s43_21 (.ret))))
def s43 : SCode := (.seq s43_0 (.seq s43_1 s43_22))
theorem h43 : FnS Try.prog 43 ⟨[], [(2, [(0, 0), (1, 0), (2, 0), (3, 0), (4, 0), (5, 0), (6, 0), (7, 0), (8, 0), (9, 2), (10, 1)])]⟩ 64 [(.cell 2 37)] s43 := .mk' Try.func43 (by kernel_rfl) (by kernel_rfl) (by kernel_rfl) (by kernel_rfl) (by kernel_rfl) (by kernel_rfl)
def e43 := And.intro s43_0.eq_1 <| And.intro s43_1.eq_1 <| And.intro s43_2.eq_1 <| And.intro s43_3.eq_1 <| And.intro s43_4.eq_1 <| And.intro s43_5.eq_1 <| And.intro s43_6.eq_1 <| And.intro s43_7.eq_1 <| And.intro s43_8.eq_1 <| And.intro s43_9.eq_1 <| And.intro s43_10.eq_1 <| And.intro s43_11.eq_1 <| And.intro s43_12.eq_1 <| And.intro s43_13.eq_1 <| And.intro s43_14.eq_1 <| And.intro s43_15.eq_1 <| And.intro s43_16.eq_1 <| And.intro s43_17.eq_1 <| And.intro s43_18.eq_1 <| And.intro s43_19.eq_1 <| And.intro s43_20.eq_1 <| And.intro s43_21.eq_1 <| s43_22.eq_1
def s44_0 : SCode := (.reg [(.mk (some 2) (.assign (.const (.slice none 0 0))) none)])
def s44_1 : SCode := (.reg [(.mk (some 5) (.move (.tmp 0)) none), (.mk (some 6) (.call (.mk (.value (.func 59)) #[(.tmp 5)] #[29])) none), (.mk (some 3) (.assign (.tmp 6)) none)])
def s44_2 : SCode := (.reg [(.mk (some 7) (.move (.tmp 3)) none), (.mk (some 8) (.call (.mk (.builtin (.len)) #[(.tmp 7)] #[29])) none), (.mk (some 9) (.move (.const (.int (.i64) 0))) none)])
def s44_3 : SCode := (.reg [(.mk (some 10) (.binOp (.lss) 3 (.tmp 9) (.tmp 8) 3) none)])
def s44_4 : SCode := (.reg [(.mk (some 11) (.move (.tmp 9)) none), (.mk (some 4) (.assign (.tmp 11)) none)])
def s44_5 : SCode := (.reg [(.mk (some 12) (.move (.tmp 3)) none), (.mk (some 13) (.move (.tmp 4)) none), (.mk (some 14) (.move (.tmp 3)) none), (.mk (some 15) (.move (.tmp 4)) none), (.mk (some 16) (.indexAddr 29 (.tmp 14) (.tmp 15)) none), (.mk (some 17) (.fieldAddr 37 (.tmp 16) 2) none), (.mk (some 18) (.load 22 (.tmp 17)) none), (.mk (some 19) (.call (.mk (.value (.func 58)) #[(.tmp 18)] #[22])) none), (.mk (some 20) (.indexAddr 29 (.tmp 12) (.tmp 13)) none), (.mk (some 21) (.fieldAddr 37 (.tmp 20) 2) none), (.mk none (.store 22 (.tmp 21) (.tmp 19)) none)])
def s44_6 : SCode := (.reg [(.mk (some 22) (.binOp (.add) 3 (.tmp 9) (.const (.int (.i64) 1)) 3) none), (.mk (some 9) (.move (.tmp 22)) none)])
def s44_7 : SCode := (.seq (.block 1 (.seq s44_4 s44_5)) s44_6)
def s44_8 : SCode := (.seq (.cond (.tmp 10) (.skip) (.exit 0)) s44_7)
def s44_9 : SCode := (.seq s44_2 (.block 0 (.loop (.seq s44_3 s44_8))))
def s44_10 : SCode := (.reg [(.mk (some 23) (.move (.tmp 3)) none), (.mk (some 2) (.assign (.tmp 23)) none)])
def s44_11 : SCode := (.seq s44_1 (.seq s44_9 (.seq s44_10 (.ret))))
def s44 : SCode := (.seq s44_0 s44_11)
theorem h44 : FnS Try.prog 44 ⟨[], []⟩ 24 [(.tmp 2)] s44 := .mk' Try.func44 (by kernel_rfl) (by kernel_rfl) (by kernel_rfl) (by kernel_rfl) (by kernel_rfl) (by kernel_rfl)
def e44 := And.intro s44_0.eq_1 <| And.intro s44_1.eq_1 <| And.intro s44_2.eq_1 <| And.intro s44_3.eq_1 <| And.intro s44_4.eq_1 <| And.intro s44_5.eq_1 <| And.intro s44_6.eq_1 <| And.intro s44_7.eq_1 <| And.intro s44_8.eq_1 <| And.intro s44_9.eq_1 <| And.intro s44_10.eq_1 <| s44_11.eq_1
def s45_0 : SCode := (.reg [(.mk (some 4) (.assign (.const (.bool false))) none)])
def s45_1 : SCode := (.reg [(.mk (some 5) (.move (.tmp 0)) none), (.mk (some 6) (.move (.tmp 1)) none), (.mk (some 7) (.call (.mk (.value (.func 60)) #[(.tmp 5), (.tmp 6)] #[29, 79])) none), (.mk (some 8) (.binOp (.geq) 3 (.tmp 7) (.const (.int (.i64) 0)) 3) none), (.mk (some 4) (.assign (.tmp 8)) none)])
def s45 : SCode := (.seq s45_0 (.seq s45_1 (.ret)))
theorem h45 : FnS Try.prog 45 ⟨[], []⟩ 9 [(.tmp 4)] s45 := .mk' Try.func45 (by kernel_rfl) (by kernel_rfl) (by kernel_rfl) (by kernel_rfl) (by kernel_rfl) (by kernel_rfl)
def e45 := And.intro s45_0.eq_1 <| s45_1.eq_1
def s46_0 : SCode := (.reg [(.mk (some 2) (.box 37 (.tmp 0)) none), (.mk (some 3) (.assign (.const (.bool false))) none)])
def s46_1 : SCode := (.reg [(.mk (some 4) (.fieldAddr 37 (.tmp 2) 2) none), (.mk (some 5) (.load 22 (.tmp 4)) none), (.mk (some 6) (.fieldAddr 37 (.tmp 1) 1) none), (.mk (some 7) (.load 3 (.tmp 6)) none), (.mk (some 8) (.call (.mk (.value (.func 47)) #[(.tmp 5), (.tmp 7)] #[22, 3])) none), (.mk (some 3) (.assign (.tmp 8)) none)])
def s46 : SCode := (.seq s46_0 (.seq s46_1 (.ret)))
theorem h46 : FnS Try.prog 46 ⟨[2], []⟩ 9 [(.tmp 3)] s46 := .mk' Try.func46 (by kernel_rfl) (by kernel_rfl) (by kernel_rfl) (by kernel_rfl) (by kernel_rfl) (by kernel_rfl)
def e46 := And.intro s46_0.eq_1 <| s46_1.eq_1
def s48_0 : SCode := (.reg [(.mk (some 2) (.box 27 (.tmp 0)) none), (.mk (some 4) (.assign (.const (.slice none 0 0))) none)])
def s48_1 : SCode := (.reg [(.mk (some 5) (.assign (.const (.slice none 0 0))) none)])
def s48_2 : SCode := (.reg [(.mk (some 10) (.buildSlice 22 0 #[]) none), (.mk (some 11) (.move (.tmp 1)) none), (.mk (some 12) (.call (.mk (.builtin (.append)) #[(.tmp 10), (.tmp 11)] #[22, 22])) none), (.mk (some 6) (.assign (.tmp 12)) none)])
def s48_3 : SCode := (.reg [(.mk (some 13) (.move (.tmp 6)) none), (.mk (some 14) (.call (.mk (.builtin (.len)) #[(.tmp 13)] #[22])) none), (.mk (some 15) (.binOp (.gtr) 3 (.tmp 14) (.const (.int (.i64) 0)) 3) none)])
def s48_4 : SCode := (.seq s48_3 (.cond (.tmp 15) (.skip) (.exit 0)))
def s48_5 : SCode := (.reg [(.mk (some 16) (.move (.tmp 6)) none), (.mk (some 17) (.move (.tmp 6)) none), (.mk (some 18) (.call (.mk (.builtin (.len)) #[(.tmp 17)] #[22])) none), (.mk (some 19) (.binOp (.sub) 3 (.tmp 18) (.const (.int (.i64) 1)) 3) none), (.mk (some 20) (.indexAddr 22 (.tmp 16) (.tmp 19)) none), (.mk (some 21) (.load 3 (.tmp 20)) none), (.mk (some 7) (.assign (.tmp 21)) none)])
def s48_6 : SCode := (.reg [(.mk (some 22) (.move (.tmp 6)) none), (.mk (some 23) (.move (.tmp 6)) none), (.mk (some 24) (.call (.mk (.builtin (.len)) #[(.tmp 23)] #[22])) none), (.mk (some 25) (.binOp (.sub) 3 (.tmp 24) (.const (.int (.i64) 1)) 3) none), (.mk (some 26) (.slice 22 (.tmp 22) none (some (.tmp 25)) none) none), (.mk (some 6) (.assign (.tmp 26)) none)])
def s48_7 : SCode := (.reg [(.mk (some 28) (.load 27 (.tmp 2)) none), (.mk (some 29) (.move (.tmp 7)) none), (.mk (some 30) (.call (.mk (.value (.func 16)) #[(.tmp 28), (.tmp 29)] #[27, 3])) none), (.mk (some 27) (.move (.tmp 30)) none), (.mk (some 31) (.extract (.tmp 27) 0) none), (.mk (some 32) (.extract (.tmp 27) 1) none), (.mk (some 8) (.assign (.tmp 31)) none), (.mk (some 9) (.assign (.tmp 32)) none)])
def s48_8 : SCode := (.reg [(.mk (some 33) (.move (.tmp 9)) none), (.mk (some 34) (.unOp (.not) 4 (.tmp 33)) none), (.mk (some 35) (.move (.tmp 34)) none), (.mk (some 36) (.move (.tmp 5)) (some (35, false))), (.mk (some 37) (.move (.tmp 7)) (some (35, false))), (.mk (some 38) (.call (.mk (.value (.func 62)) #[(.tmp 36), (.tmp 37)] #[22, 3])) (some (35, false))), (.mk (some 39) (.pick (.tmp 35) (.const (.bool true)) (.tmp 38)) none)])
def s48_9 : SCode := (.seq s48_8 (.cond (.tmp 39) (.exit 1) (.skip)))
def s48_10 : SCode := (.reg [(.mk (some 40) (.move (.tmp 5)) none), (.mk (some 41) (.move (.tmp 7)) none), (.mk (some 42) (.buildSlice 22 1 #[(0, (.tmp 41))]) none), (.mk (some 43) (.call (.mk (.builtin (.append)) #[(.tmp 40), (.tmp 42)] #[22, 22])) none), (.mk (some 5) (.assign (.tmp 43)) none)])
def s48_11 : SCode := (.reg [(.mk (some 44) (.buildSlice 22 0 #[]) none), (.mk (some 45) (.move (.tmp 6)) none), (.mk (some 46) (.call (.mk (.builtin (.append)) #[(.tmp 44), (.tmp 45)] #[22, 22])) none), (.mk (some 47) (.move (.tmp 8)) none), (.mk (some 48) (.call (.mk (.builtin (.append)) #[(.tmp 46), (.tmp 47)] #[22, 22])) none), (.mk (some 6) (.assign (.tmp 48)) none)])
def s48_12 : SCode := (.seq s48_7 (.seq s48_9 (.seq s48_10 s48_11)))
def s48_13 : SCode := (.block 1 (.seq s48_5 (.seq s48_6 s48_12)))
def s48_14 : SCode := (.reg [(.mk (some 49) (.move (.tmp 5)) none), (.mk (some 4) (.assign (.tmp 49)) none)])
def s48_15 : SCode := (.seq (.block 0 (.loop (.seq s48_4 s48_13))) (.seq s48_14 (.ret)))
def s48 : SCode := (.seq s48_0 (.seq s48_1 (.seq s48_2 s48_15)))
theorem h48 : FnS Try.prog 48 ⟨[2], []⟩ 50 [(.tmp 4)] s48 := .mk' Try.func48 (by kernel_rfl) (by kernel_rfl) (by kernel_rfl) (by kernel_rfl) (by kernel_rfl) (by kernel_rfl)
def e48 := And.intro s48_0.eq_1 <| And.intro s48_1.eq_1 <| And.intro s48_2.eq_1 <| And.intro s48_3.eq_1 <| And.intro s48_4.eq_1 <| And.intro s48_5.eq_1 <| And.intro s48_6.eq_1 <| And.intro s48_7.eq_1 <| And.intro s48_8.eq_1 <| And.intro s48_9.eq_1 <| And.intro s48_10.eq_1 <| And.intro s48_11.eq_1 <| And.intro s48_12.eq_1 <| And.intro s48_13.eq_1 <| And.intro s48_14.eq_1 <| s48_15.eq_1
def s59_0 : SCode := (.reg [(.mk (some 2) (.assign (.const (.slice none 0 0))) none)])
def s59_1 : SCode := (.reg [(.mk (some 3) (.move (.tmp 0)) none), (.mk (some 4) (.binOp (.eql) 29 (.tmp 3) (.const (.slice none 0 0)) 29) none)])
def s59_2 : SCode := (.reg [(.mk (some 2) (.assign (.const (.slice none 0 0))) none)])
def s59_3 : SCode := (.cond (.tmp 4) (.seq s59_2 (.ret)) (.skip))
def s59_4 : SCode := (.reg [(.mk (some 5) (.buildSlice 29 0 #[]) none), (.mk (some 6) (.move (.tmp 0)) none), (.mk (some 7) (.call (.mk (.builtin (.append)) #[(.tmp 5), (.tmp 6)] #[29, 29])) none), (.mk (some 2) (.assign (.tmp 7)) none)])
def s59_5 : SCode := (.seq (.seq s59_1 s59_3) (.seq s59_4 (.ret)))
def s59 : SCode := (.seq s59_0 s59_5)
theorem h59 : FnS Try.prog 59 ⟨[7], []⟩ 8 [(.tmp 2)] s59 := .mk' Try.func59 (by kernel_rfl) (by kernel_rfl) (by kernel_rfl) (by kernel_rfl) (by kernel_rfl) (by kernel_rfl)
def e59 := And.intro s59_0.eq_1 <| And.intro s59_1.eq_1 <| And.intro s59_2.eq_1 <| And.intro s59_3.eq_1 <| And.intro s59_4.eq_1 <| s59_5.eq_1
def s60_0 : SCode := (.reg [(.mk (some 4) (.assign (.const (.int (.i64) 0))) none)])
def s60_1 : SCode := (.reg [(.mk (some 6) (.move (.tmp 0)) none), (.mk (some 7) (.call (.mk (.builtin (.len)) #[(.tmp 6)] #[29])) none), (.mk (some 8) (.move (.const (.int (.i64) 0))) none)])
def s60_2 : SCode := (.reg [(.mk (some 9) (.binOp (.lss) 3 (.tmp 8) (.tmp 7) 3) none)])
def s60_3 : SCode := (.reg [(.mk (some 10) (.move (.tmp 8)) none), (.mk (some 5) (.assign (.tmp 10)) none)])
def s60_4 : SCode := (.reg [(.mk (some 11) (.move (.tmp 1)) none), (.mk (some 12) (.move (.tmp 0)) none), (.mk (some 13) (.move (.tmp 5)) none), (.mk (some 14) (.indexAddr 29 (.tmp 12) (.tmp 13)) none), (.mk (some 15) (.load 37 (.tmp 14)) none), (.mk (some 16) (.call (.mk (.value (.tmp 11)) #[(.tmp 15)] #[37])) none)])
def s60_5 : SCode := (.reg [(.mk (some 17) (.move (.tmp 5)) none), (.mk (some 4) (.assign (.tmp 17)) none)])
def s60_6 : SCode := (.cond (.tmp 16) (.seq s60_5 (.ret)) (.skip))
def s60_7 : SCode := (.block 1 (.seq s60_3 (.seq s60_4 s60_6)))
def s60_8 : SCode := (.reg [(.mk (some 18) (.binOp (.add) 3 (.tmp 8) (.const (.int (.i64) 1)) 3) none), (.mk (some 8) (.move (.tmp 18)) none)])
def s60_9 : SCode := (.seq (.cond (.tmp 9) (.skip) (.exit 0)) (.seq s60_7 s60_8))
def s60_10 : SCode := (.seq s60_1 (.block 0 (.loop (.seq s60_2 s60_9))))
def s60_11 : SCode := (.reg [(.mk (some 4) (.assign (.const (.int (.i64) (-1)))) none)])
def s60 : SCode := (.seq s60_0 (.seq s60_10 (.seq s60_11 (.ret))))
theorem h60 : FnS Try.prog 60 ⟨[], []⟩ 19 [(.tmp 4)] s60 := .mk' Try.func60 (by kernel_rfl) (by kernel_rfl) (by kernel_rfl) (by kernel_rfl) (by kernel_rfl) (by kernel_rfl)
def e60 := And.intro s60_0.eq_1 <| And.intro s60_1.eq_1 <| And.intro s60_2.eq_1 <| And.intro s60_3.eq_1 <| And.intro s60_4.eq_1 <| And.intro s60_5.eq_1 <| And.intro s60_6.eq_1 <| And.intro s60_7.eq_1 <| And.intro s60_8.eq_1 <| And.intro s60_9.eq_1 <| And.intro s60_10.eq_1 <| s60_11.eq_1
def s62_0 : SCode := (.reg [(.mk (some 4) (.assign (.const (.bool false))) none)])
def s62_1 : SCode := (.reg [(.mk (some 5) (.assign (.const (.int (.i64) 0))) none)])
def s62_2 : SCode := (.reg [(.mk (some 6) (.move (.tmp 5)) none), (.mk (some 7) (.move (.tmp 0)) none), (.mk (some 8) (.call (.mk (.builtin (.len)) #[(.tmp 7)] #[22])) none), (.mk (some 9) (.binOp (.lss) 3 (.tmp 6) (.tmp 8) 3) none)])
def s62_3 : SCode := (.seq s62_2 (.cond (.tmp 9) (.skip) (.exit 0)))
def s62_4 : SCode := (.reg [(.mk (some 12) (.move (.tmp 0)) none), (.mk (some 13) (.move (.tmp 5)) none), (.mk (some 14) (.indexAddr 22 (.tmp 12) (.tmp 13)) none), (.mk (some 15) (.load 3 (.tmp 14)) none), (.mk (some 16) (.move (.tmp 1)) none), (.mk (some 17) (.binOp (.eql) 3 (.tmp 15) (.tmp 16) 3) none)])
def s62_5 : SCode := (.reg [(.mk (some 4) (.assign (.const (.bool true))) none)])
def s62_6 : SCode := (.cond (.tmp 17) (.seq s62_5 (.ret)) (.skip))
def s62_7 : SCode := (.reg [(.mk (some 10) (.move (.tmp 5)) none), (.mk (some 11) (.binOp (.add) 3 (.tmp 10) (.const (.int (.i64) 1)) 3) none), (.mk (some 5) (.assign (.tmp 11)) none)])
def s62_8 : SCode := (.seq (.block 1 (.seq s62_4 s62_6)) s62_7)
def s62_9 : SCode := (.seq s62_1 (.block 0 (.loop (.seq s62_3 s62_8))))
def s62_10 : SCode := (.reg [(.mk (some 4) (.assign (.const (.bool false))) none)])
def s62 : SCode := (.seq s62_0 (.seq s62_9 (.seq s62_10 (.ret))))
theorem h62 : FnS Try.prog 62 ⟨[], []⟩ 18 [(.tmp 4)] s62 := .mk' Try.func62 (by kernel_rfl) (by kernel_rfl) (by kernel_rfl) (by kernel_rfl) (by kernel_rfl) (by kernel_rfl)
def e62 := And.intro s62_0.eq_1 <| And.intro s62_1.eq_1 <| And.intro s62_2.eq_1 <| And.intro s62_3.eq_1 <| And.intro s62_4.eq_1 <| And.intro s62_5.eq_1 <| And.intro s62_6.eq_1 <| And.intro s62_7.eq_1 <| And.intro s62_8.eq_1 <| And.intro s62_9.eq_1 <| s62_10.eq_1
end Gv.Try
/- Contracts: heads of a list of segments. -/
set_option linter.unusedVariables false
set_option linter.unusedSimpArgs false
set_option maxRecDepth 20000
set_option maxHeartbeats 4000000
namespace Gv.Try
open Go Gv Go.Proofs

theorem c46 (x s : Seg) (st : Nat) (h : x.par.length ≤ 17592186044416) : GCalls Try.prog 46 [.agg (segG x), .ptr 0 st 0 0] [.row st 5 [segG s]] (fun g O' => g = .bool (decide (s.hi ∈ x.par)) ∧ O' = [.row st 5 [segG s]]) := by
  refine h46.calls mixS (by simp) ?_
  simp only [gstart, s46, List.cons_append, List.nil_append, List.length_cons, List.length_nil, Nat.reduceAdd, Nat.reduceSub, List.replicate_succ, List.replicate_zero]
  simp +contextual -implicitDefEqProofs (maxSteps := 2000000) (disch := omega) only [↓loadV, ↓fieldAddrV, ↓boxV, GVal.cells, grp, GVal.ofConst, ↓resV, resG, List.map, List.headD, List.take, List.drop, ↓reduceIte, Nat.reduceEqDiff, Nat.reduceAdd, Nat.reduceSub, Nat.reduceLeDiff, reduceCtorEq, implies_true, ne_eq, Tag.cap, List.replicate, allSolid, GVal.solid, Nat.reduceBEq, Nat.reduceMul, Nat.reduceLT, List.length_map, List.length_range, splice, vcA, ↓vcB, vcC, fbA, e46, segG]
  refine (spec47 x.par .none s.hi h).then ?_
  simp +contextual -implicitDefEqProofs (maxSteps := 2000000) (disch := omega) only [↓loadV, ↓fieldAddrV, ↓boxV, GVal.cells, grp, GVal.ofConst, ↓resV, resG, List.map, List.headD, List.take, List.drop, ↓reduceIte, Nat.reduceEqDiff, Nat.reduceAdd, Nat.reduceSub, Nat.reduceLeDiff, reduceCtorEq, implies_true, ne_eq, Tag.cap, List.replicate, allSolid, GVal.solid, Nat.reduceBEq, Nat.reduceMul, Nat.reduceLT, List.length_map, List.length_range, splice, vcA, ↓vcB, vcC, fbA, e46]

def fidx (h : Int) : List Seg → Int → Int
  | [], _ => -1
  | x :: r, k => if h ∈ x.par then k else fidx h r (k + 1)
theorem fidx_drop (h : Int) (l : List Seg) (k : Nat) (hk : k < l.length) : fidx h (l.drop k) k = if h ∈ (l.getD k default).par then (k : Int) else fidx h (l.drop (k + 1)) ((k : Int) + 1) := by
  rw [List.drop_eq_getElem_cons hk, fidx]; simp [List.getD, hk]
def anyP (h : Int) (l : List Seg) : Bool := l.any fun x => decide (h ∈ x.par)
theorem fidx_any (h : Int) : ∀ (l : List Seg) (k : Int), 0 ≤ k → (0 ≤ fidx h l k ↔ anyP h l = true)
  | [], k, hk => by simp [fidx, anyP]
  | x :: r, k, hk => by
    unfold fidx
    split
    · rename_i e; simp [anyP, e, hk]
    · rename_i e; rw [fidx_any h r (k + 1) (by omega)]; simp [anyP, e]

theorem c60 (l : List Seg) (t : Tag) (s : Seg) (st : Nat) (hl : l.length ≤ 17592186044416) (hp : ∀ i, (l.getD i default).par.length ≤ 17592186044416) :
    GCalls Try.prog 60 [.slice (segsG l) t, .func (.func 46) [] [.ptr 0 st 0 0]] [.row st 5 [segG s]] (fun g O' => g = .int .i64 (fidx s.hi l 0) ∧ O' = [.row st 5 [segG s]]) := by
  refine h60.calls mixS (by simp) ?_
  simp only [gstart, s60, List.cons_append, List.nil_append, List.length_cons, List.length_nil, Nat.reduceAdd, Nat.reduceSub, List.replicate_succ, List.replicate_zero]
  simp +contextual -implicitDefEqProofs (maxSteps := 2000000) (disch := omega) only [↓lenV, binV, ↓loadV, ↓indexAddrV, GVal.cells, grp, GVal.ofConst, ↓resV, resG, List.map, List.headD, List.take, List.drop, ↓reduceIte, Nat.reduceEqDiff, Nat.reduceAdd, Nat.reduceSub, Nat.reduceLeDiff, reduceCtorEq, implies_true, ne_eq, Tag.cap, List.replicate, allSolid, GVal.solid, Nat.reduceBEq, Nat.reduceMul, Nat.reduceLT, List.length_map, List.length_range, splice, vcA, ↓vcB, vcC, fbA, e60, segsG_length]
  refine vcSLoop_by (ι := { k : Nat // k ≤ l.length ∧ fidx s.hi l 0 = fidx s.hi (l.drop k) k }) (fun k => ⟨[.slice (segsG l) t, .func (.func 46) [] [.ptr 0 st 0 0], .any, .any, .any, .any, .any, .int .i64 l.length, .int .i64 (k.1 : Nat)] ++ List.replicate 10 .any, [.row st 5 [segG s]]⟩) (fun k => l.length - k.1) ?_ ?_
  · exact Into.first ⟨0, by omega, by simp⟩ ⟨[], by simp⟩ (by simp [WL, leG_self, leG_any])
  · rintro ⟨k, hk, hx⟩
    simp +contextual -implicitDefEqProofs (maxSteps := 2000000) (disch := omega) only [↓lenV, binV, ↓loadV, ↓indexAddrV, GVal.cells, grp, GVal.ofConst, ↓resV, resG, List.map, List.headD, List.take, List.drop, ↓reduceIte, Nat.reduceEqDiff, Nat.reduceAdd, Nat.reduceSub, Nat.reduceLeDiff, reduceCtorEq, implies_true, ne_eq, Tag.cap, List.replicate, allSolid, GVal.solid, Nat.reduceBEq, Nat.reduceMul, Nat.reduceLT, List.length_map, List.length_range, splice, vcA, ↓vcB, vcC, fbA, e60, segsG_length, segsG_at, segG]
    refine ⟨fun h => ⟨by omega, ?_⟩, fun h => ?_⟩
    · rw [fidx_drop _ _ _ (by omega)] at hx
      by_cases h2 : s.hi ∈ (l.getD k default).par
      · rw [if_pos h2] at hx
        refine (c46 (l.getD k default) s st (hp k)).mono ?_
        rintro g O' ⟨rfl, rfl⟩
        rw [decide_eq_true h2]
        simp +contextual -implicitDefEqProofs (maxSteps := 2000000) (disch := omega) only [↓lenV, binV, ↓loadV, ↓indexAddrV, GVal.cells, grp, GVal.ofConst, ↓resV, resG, List.map, List.headD, List.take, List.drop, ↓reduceIte, Nat.reduceEqDiff, Nat.reduceAdd, Nat.reduceSub, Nat.reduceLeDiff, reduceCtorEq, implies_true, ne_eq, Tag.cap, List.replicate, allSolid, GVal.solid, Nat.reduceBEq, Nat.reduceMul, Nat.reduceLT, List.length_map, List.length_range, splice, vcA, ↓vcB, vcC, fbA, e60, segG]
        simp [hx]
      · rw [if_neg h2] at hx
        refine (c46 (l.getD k default) s st (hp k)).mono ?_
        rintro g O' ⟨rfl, rfl⟩
        rw [decide_eq_false h2]
        simp +contextual -implicitDefEqProofs (maxSteps := 2000000) (disch := omega) only [↓lenV, binV, ↓loadV, ↓indexAddrV, GVal.cells, grp, GVal.ofConst, ↓resV, resG, List.map, List.headD, List.take, List.drop, ↓reduceIte, Nat.reduceEqDiff, Nat.reduceAdd, Nat.reduceSub, Nat.reduceLeDiff, reduceCtorEq, implies_true, ne_eq, Tag.cap, List.replicate, allSolid, GVal.solid, Nat.reduceBEq, Nat.reduceMul, Nat.reduceLT, List.length_map, List.length_range, splice, vcA, ↓vcB, vcC, fbA, e60, segG]
        exact Into.at ⟨k + 1, by omega, by rw [hx]; rfl⟩ (by show _ < _; simp; omega) ⟨[], by simp [segG]⟩ (by simp [WL, leG_self, leG_any, leG_int])
    · rw [List.drop_eq_nil_of_le (by omega)] at hx
      simp [hx, fidx]

theorem c45 (l : List Seg) (t : Tag) (s : Seg) (st : Nat) (hl : l.length ≤ 17592186044416) (hp : ∀ i, (l.getD i default).par.length ≤ 17592186044416) :
    GCalls Try.prog 45 [.slice (segsG l) t, .func (.func 46) [] [.ptr 0 st 0 0]] [.row st 5 [segG s]] (fun g O' => g = .bool (anyP s.hi l) ∧ O' = [.row st 5 [segG s]]) := by
  refine h45.calls mixS (by simp) ?_
  simp only [gstart, s45, List.cons_append, List.nil_append, List.length_cons, List.length_nil, Nat.reduceAdd, Nat.reduceSub, List.replicate_succ, List.replicate_zero]
  simp +contextual -implicitDefEqProofs (maxSteps := 2000000) (disch := omega) only [binV, GVal.cells, grp, GVal.ofConst, ↓resV, resG, List.map, List.headD, List.take, List.drop, ↓reduceIte, Nat.reduceEqDiff, Nat.reduceAdd, Nat.reduceSub, Nat.reduceLeDiff, reduceCtorEq, implies_true, ne_eq, Tag.cap, List.replicate, allSolid, GVal.solid, Nat.reduceBEq, Nat.reduceMul, Nat.reduceLT, List.length_map, List.length_range, splice, vcA, ↓vcB, vcC, fbA, e45]
  refine (c60 l t s st hl hp).mono ?_
  rintro g O' ⟨rfl, rfl⟩
  simp +contextual -implicitDefEqProofs (maxSteps := 2000000) (disch := omega) only [binV, GVal.cells, grp, GVal.ofConst, ↓resV, resG, List.map, List.headD, List.take, List.drop, ↓reduceIte, Nat.reduceEqDiff, Nat.reduceAdd, Nat.reduceSub, Nat.reduceLeDiff, reduceCtorEq, implies_true, ne_eq, Tag.cap, List.replicate, allSolid, GVal.solid, Nat.reduceBEq, Nat.reduceMul, Nat.reduceLT, List.length_map, List.length_range, splice, vcA, ↓vcB, vcC, fbA, e45]
  congr 1
  rw [Bool.eq_iff_iff, decide_eq_true_iff, fidx_any _ _ _ (by omega)]

/-- how many have no child behind them -/
def headsN : List Seg → Nat
  | [] => 0
  | s :: r => (if anyP s.hi r = true then 0 else 1) + headsN r
theorem headsN_drop (l : List Seg) (k : Nat) (hk : k < l.length) : headsN (l.drop k) = (if anyP (l.getD k default).hi (l.drop (k + 1)) = true then 0 else 1) + headsN (l.drop (k + 1)) := by
  rw [List.drop_eq_getElem_cons hk, headsN]; simp [List.getD, hk]
theorem segsG_drop (l : List Seg) (i : Nat) : (segsG l).drop i = segsG (l.drop i) := by simp [segsG]
theorem segsG_take (l : List Seg) (i : Nat) : (segsG l).take i = segsG (l.take i) := by simp [segsG]
theorem getD_drop' (l : List Seg) (i k : Nat) : (l.drop k).getD i default = l.getD (k + i) default := by simp [List.getD]

theorem spec23 (l : List Seg) (hl : l.length ≤ 17592186044416) (hp : ∀ i, (l.getD i default).par.length ≤ 17592186044416) : GPure Try.prog 23 [.slice (segsG l) .none] (.int .i64 (headsN l)) := by
  refine h23.pure mixS (by simp) ?_
  simp only [gstart, s23, List.cons_append, List.nil_append, List.length_cons, List.length_nil, Nat.reduceAdd, Nat.reduceSub, List.replicate_succ, List.replicate_zero]
  simp +contextual -implicitDefEqProofs (maxSteps := 2000000) (disch := omega) only [↓lenV, binV, ↓unV, optV, ↓loadV, ↓storeV, ↓indexAddrV, ↓allocV, ↓sliceV, bound, cutTag, hiTag, GVal.cells, grp, GVal.ofConst, ↓resV, resG, List.map, List.headD, List.take, List.drop, ↓reduceIte, Nat.reduceEqDiff, Nat.reduceAdd, Nat.reduceSub, Nat.reduceLeDiff, reduceCtorEq, implies_true, ne_eq, Tag.cap, List.replicate, allSolid, GVal.solid, Nat.reduceBEq, Nat.reduceMul, Nat.reduceLT, List.length_map, List.length_range, splice, vcA, ↓vcB, vcC, fbA, e23, segsG_length]
  refine vcSLoop_by (ι := { p : Nat × Nat // p.1 ≤ l.length ∧ p.2 ≤ p.1 ∧ headsN l = p.2 + headsN (l.drop p.1) }) (fun p => ⟨[.slice (segsG l) .none, .any, .any, .int .i64 (p.1.2 : Nat), .any, .any, .slice (segsG l) .none, .int .i64 l.length, .int .i64 (p.1.1 : Nat)] ++ List.replicate 15 .any, []⟩) (fun p => l.length - p.1.1) ?_ ?_
  · exact Into.first ⟨(0, 0), by omega, by omega, by simp⟩ ⟨[], by simp⟩ (by simp [WL, leG_self, leG_any])
  · rintro ⟨⟨k, n⟩, hk, hn, hx⟩
    change n ≤ k at hn
    change headsN l = n + headsN (l.drop k) at hx
    have hT : ((k : Int) + 1).toNat = k + 1 := by omega
    have hF : (segsG l).take l.length = segsG l := List.take_of_length_le (by rw [segsG_length]; omega)
    simp +contextual -implicitDefEqProofs (maxSteps := 2000000) (disch := omega) only [↓lenV, binV, ↓unV, optV, ↓loadV, ↓storeV, ↓indexAddrV, ↓allocV, ↓sliceV, bound, cutTag, hiTag, GVal.cells, grp, GVal.ofConst, ↓resV, resG, List.map, List.headD, List.take, List.drop, ↓reduceIte, Nat.reduceEqDiff, Nat.reduceAdd, Nat.reduceSub, Nat.reduceLeDiff, reduceCtorEq, implies_true, ne_eq, Tag.cap, List.replicate, allSolid, GVal.solid, Nat.reduceBEq, Nat.reduceMul, Nat.reduceLT, List.length_map, List.length_range, splice, vcA, ↓vcB, vcC, fbA, e23, segsG_length, segsG_at, segG, segsG_drop, hT, hF, all_segsG]
    refine ⟨fun h => ⟨by omega, fun st => ⟨by omega, by omega, by omega, ?_⟩⟩, fun h => ?_⟩
    · have hkl : k < l.length := by omega
      rw [headsN_drop l k hkl] at hx
      refine (c45 (l.drop (k + 1)) .none (l.getD k default) st (by rw [List.length_drop]; omega) (fun i => by rw [getD_drop']; exact hp _)).mono ?_
      rintro g O' ⟨rfl, rfl⟩
      cases hh : anyP (l.getD k default).hi (l.drop (k + 1))
      · rw [if_neg (by rw [hh]; simp)] at hx
        simp +contextual -implicitDefEqProofs (maxSteps := 2000000) (disch := omega) only [↓lenV, binV, ↓unV, optV, ↓loadV, ↓storeV, ↓indexAddrV, ↓allocV, ↓sliceV, bound, cutTag, hiTag, GVal.cells, grp, GVal.ofConst, ↓resV, resG, List.map, List.headD, List.take, List.drop, ↓reduceIte, Nat.reduceEqDiff, Nat.reduceAdd, Nat.reduceSub, Nat.reduceLeDiff, reduceCtorEq, implies_true, ne_eq, Tag.cap, List.replicate, allSolid, GVal.solid, Nat.reduceBEq, Nat.reduceMul, Nat.reduceLT, List.length_map, List.length_range, splice, vcA, ↓vcB, vcC, fbA, e23, segG]
        exact Into.at ⟨(k + 1, n + 1), by show k + 1 ≤ _; omega, by show n + 1 ≤ k + 1; omega, by show _ = n + 1 + headsN (l.drop (k + 1)); omega⟩ (by show _ < _; simp; omega) ⟨_, rfl⟩ (by simp [WL, leG_self, leG_any, leG_int])
      · rw [if_pos hh] at hx
        simp +contextual -implicitDefEqProofs (maxSteps := 2000000) (disch := omega) only [↓lenV, binV, ↓unV, optV, ↓loadV, ↓storeV, ↓indexAddrV, ↓allocV, ↓sliceV, bound, cutTag, hiTag, GVal.cells, grp, GVal.ofConst, ↓resV, resG, List.map, List.headD, List.take, List.drop, ↓reduceIte, Nat.reduceEqDiff, Nat.reduceAdd, Nat.reduceSub, Nat.reduceLeDiff, reduceCtorEq, implies_true, ne_eq, Tag.cap, List.replicate, allSolid, GVal.solid, Nat.reduceBEq, Nat.reduceMul, Nat.reduceLT, List.length_map, List.length_range, splice, vcA, ↓vcB, vcC, fbA, e23, segG]
        exact Into.at ⟨(k + 1, n), by show k + 1 ≤ _; omega, by show n ≤ k + 1; omega, by show _ = n + headsN (l.drop (k + 1)); omega⟩ (by show _ < _; simp; omega) ⟨_, rfl⟩ (by simp [WL, leG_self, leG_any, leG_int])
    · rw [List.drop_eq_nil_of_le (by omega)] at hx
      simp [headsN] at hx
      rw [hx]

end Gv.Try
