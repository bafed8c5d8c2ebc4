import Derived.Test.YtcjiabpfahmjnaaP6
import Derived.Test.YtcjiabpfahmjnaaProg
import Derived.KernelRfl
set_option maxRecDepth 100000
set_option linter.defProp false
namespace Gv.Try
open Go Gv Go.Proofs
def s3_0 : SCode := (.reg [(.mk (some 1) (.box 24 (.tmp 0)) none), (.mk (some 2) (.assign (.const (.bool false))) none)])
def s3_1 : SCode := (.reg [(.mk (some 12) (.load 24 (.tmp 1)) none), (.mk (some 13) (.call (.mk (.value (.func 11)) #[(.tmp 12)] #[24])) none), (.mk (some 3) (.alloc 27) none), (.mk none (.store 27 (.tmp 3) (.tmp 13)) none)])
def s3_2 : SCode := (.reg [(.mk (some 14) (.load 27 (.tmp 3)) none), (.mk (some 15) (.call (.mk (.value (.func 13)) #[(.tmp 14)] #[27])) none), (.mk (some 16) (.call (.mk (.value (.func 12)) #[(.tmp 15)] #[32])) none), (.mk (some 4) (.assign (.tmp 16)) none)])
def s3_3 : SCode := (.reg [(.mk (some 17) (.load 27 (.tmp 3)) none), (.mk (some 18) (.call (.mk (.value (.func 14)) #[(.tmp 17)] #[27])) none), (.mk (some 5) (.assign (.tmp 18)) none)])
def s3_4 : SCode := (.reg [(.mk (some 6) (.assign (.const (.int (.i64) 0))) none)])
def s3_5 : SCode := (.reg [(.mk (some 19) (.call (.mk (.value (.func 15)) #[] #[])) none), (.mk (some 20) (.unOp (.not) 4 (.tmp 19)) none)])
def s3_6 : SCode := (.reg [(.mk (some 2) (.assign (.const (.bool false))) none)])
def s3_7 : SCode := (.cond (.tmp 20) (.seq s3_6 (.ret)) (.skip))
def s3_8 : SCode := (.reg [(.mk (some 7) (.assign (.const (.int (.i64) 0))) none)])
def s3_9 : SCode := (.reg [(.mk (some 21) (.move (.tmp 7)) none), (.mk (some 22) (.move (.tmp 4)) none), (.mk (some 23) (.call (.mk (.builtin (.len)) #[(.tmp 22)] #[29])) none), (.mk (some 24) (.binOp (.lss) 3 (.tmp 21) (.tmp 23) 3) none)])
def s3_10 : SCode := (.seq s3_9 (.cond (.tmp 24) (.skip) (.exit 0)))
def s3_11 : SCode := (.reg [(.mk (some 27) (.move (.tmp 4)) none), (.mk (some 28) (.move (.tmp 7)) none), (.mk (some 29) (.indexAddr 29 (.tmp 27) (.tmp 28)) none), (.mk (some 30) (.fieldAddr 37 (.tmp 29) 0) none), (.mk (some 31) (.load 3 (.tmp 30)) none), (.mk (some 8) (.assign (.tmp 31)) none)])
def s3_12 : SCode := (.reg [(.mk (some 32) (.move (.tmp 8)) none), (.mk (some 33) (.move (.tmp 4)) none), (.mk (some 34) (.move (.tmp 7)) none), (.mk (some 35) (.indexAddr 29 (.tmp 33) (.tmp 34)) none), (.mk (some 36) (.fieldAddr 37 (.tmp 35) 1) none), (.mk (some 37) (.load 3 (.tmp 36)) none), (.mk (some 38) (.binOp (.leq) 3 (.tmp 32) (.tmp 37) 3) none)])
def s3_13 : SCode := (.seq s3_12 (.cond (.tmp 38) (.skip) (.exit 2)))
def s3_14 : SCode := (.reg [(.mk (some 41) (.move (.tmp 6)) none), (.mk (some 42) (.move (.tmp 5)) none), (.mk (some 43) (.call (.mk (.builtin (.len)) #[(.tmp 42)] #[22])) none), (.mk (some 44) (.binOp (.geq) 3 (.tmp 41) (.tmp 43) 3) none), (.mk (some 45) (.move (.tmp 44)) none), (.mk (some 46) (.move (.tmp 5)) (some (45, false))), (.mk (some 47) (.move (.tmp 6)) (some (45, false))), (.mk (some 48) (.indexAddr 22 (.tmp 46) (.tmp 47)) (some (45, false))), (.mk (some 49) (.load 3 (.tmp 48)) (some (45, false))), (.mk (some 50) (.move (.tmp 8)) (some (45, false))), (.mk (some 51) (.binOp (.neq) 3 (.tmp 49) (.tmp 50) 3) (some (45, false))), (.mk (some 52) (.pick (.tmp 45) (.const (.bool true)) (.tmp 51)) none)])
def s3_15 : SCode := (.reg [(.mk (some 2) (.assign (.const (.bool false))) none)])
def s3_16 : SCode := (.cond (.tmp 52) (.seq s3_15 (.ret)) (.skip))
def s3_17 : SCode := (.reg [(.mk (some 53) (.move (.tmp 6)) none), (.mk (some 54) (.binOp (.add) 3 (.tmp 53) (.const (.int (.i64) 1)) 3) none), (.mk (some 6) (.assign (.tmp 54)) none)])
def s3_18 : SCode := (.reg [(.mk (some 56) (.load 27 (.tmp 3)) none), (.mk (some 57) (.move (.tmp 8)) none), (.mk (some 58) (.call (.mk (.value (.func 16)) #[(.tmp 56), (.tmp 57)] #[27, 3])) none), (.mk (some 55) (.move (.tmp 58)) none), (.mk (some 59) (.extract (.tmp 55) 0) none), (.mk (some 60) (.extract (.tmp 55) 1) none), (.mk (some 9) (.assign (.tmp 59)) none), (.mk (some 10) (.assign (.tmp 60)) none)])
def s3_19 : SCode := (.reg [(.mk (some 61) (.move (.tmp 9)) none), (.mk (some 62) (.call (.mk (.builtin (.len)) #[(.tmp 61)] #[22])) none), (.mk (some 63) (.binOp (.eql) 3 (.tmp 62) (.const (.int (.i64) 1)) 3) none), (.mk (some 64) (.move (.tmp 63)) none), (.mk (some 65) (.move (.tmp 9)) (some (64, true))), (.mk (some 66) (.indexAddr 22 (.tmp 65) (.const (.int (.i64) 0))) (some (64, true))), (.mk (some 67) (.load 3 (.tmp 66)) (some (64, true))), (.mk (some 68) (.move (.tmp 8)) (some (64, true))), (.mk (some 69) (.binOp (.sub) 3 (.tmp 68) (.const (.int (.i64) 1)) 3) (some (64, true))), (.mk (some 70) (.binOp (.eql) 3 (.tmp 67) (.tmp 69) 3) (some (64, true))), (.mk (some 71) (.pick (.tmp 64) (.tmp 70) (.const (.bool false))) none), (.mk (some 11) (.assign (.tmp 71)) none)])
def s3_20 : SCode := (.reg [(.mk (some 72) (.move (.tmp 8)) none), (.mk (some 73) (.move (.tmp 4)) none), (.mk (some 74) (.move (.tmp 7)) none), (.mk (some 75) (.indexAddr 29 (.tmp 73) (.tmp 74)) none), (.mk (some 76) (.fieldAddr 37 (.tmp 75) 0) none), (.mk (some 77) (.load 3 (.tmp 76)) none), (.mk (some 78) (.binOp (.gtr) 3 (.tmp 72) (.tmp 77) 3) none), (.mk (some 79) (.move (.tmp 11)) none), (.mk (some 80) (.binOp (.neq) 4 (.tmp 78) (.tmp 79) 4) none), (.mk (some 81) (.move (.tmp 80)) none), (.mk (some 82) (.move (.tmp 8)) (some (81, true))), (.mk (some 83) (.move (.tmp 4)) (some (81, true))), (.mk (some 84) (.move (.tmp 7)) (some (81, true))), (.mk (some 85) (.indexAddr 29 (.tmp 83) (.tmp 84)) (some (81, true))), (.mk (some 86) (.fieldAddr 37 (.tmp 85) 0) (some (81, true))), (.mk (some 87) (.load 3 (.tmp 86)) (some (81, true))), (.mk (some 88) (.binOp (.eql) 3 (.tmp 82) (.tmp 87) 3) (some (81, true))), (.mk (some 89) (.move (.tmp 88)) (some (81, true))), (.mk (some 90) (.move (.tmp 11)) (some (89, true))), (.mk (some 91) (.pick (.tmp 89) (.tmp 90) (.const (.bool false))) (some (81, true))), (.mk (some 92) (.move (.tmp 91)) (some (81, true))), (.mk (some 93) (.move (.tmp 8)) (some (92, true))), (.mk (some 94) (.binOp (.eql) 3 (.tmp 93) (.const (.int (.i64) 1099511627776)) 3) (some (92, true))), (.mk (some 95) (.pick (.tmp 92) (.tmp 94) (.const (.bool false))) (some (81, true))), (.mk (some 96) (.unOp (.not) 4 (.tmp 95)) (some (81, true))), (.mk (some 97) (.pick (.tmp 81) (.tmp 96) (.const (.bool false))) none)])
def s3_21 : SCode := (.reg [(.mk (some 2) (.assign (.const (.bool false))) none)])
def s3_22 : SCode := (.cond (.tmp 97) (.seq s3_21 (.ret)) (.skip))
def s3_23 : SCode := (.reg [(.mk (some 98) (.move (.tmp 8)) none), (.mk (some 99) (.move (.tmp 4)) none), (.mk (some 100) (.move (.tmp 7)) none), (.mk (some 101) (.indexAddr 29 (.tmp 99) (.tmp 100)) none), (.mk (some 102) (.fieldAddr 37 (.tmp 101) 0) none), (.mk (some 103) (.load 3 (.tmp 102)) none), (.mk (some 104) (.binOp (.eql) 3 (.tmp 98) (.tmp 103) 3) none), (.mk (some 105) (.move (.tmp 104)) none), (.mk (some 106) (.move (.tmp 9)) (some (105, true))), (.mk (some 107) (.move (.tmp 4)) (some (105, true))), (.mk (some 108) (.move (.tmp 7)) (some (105, true))), (.mk (some 109) (.indexAddr 29 (.tmp 107) (.tmp 108)) (some (105, true))), (.mk (some 110) (.fieldAddr 37 (.tmp 109) 2) (some (105, true))), (.mk (some 111) (.load 22 (.tmp 110)) (some (105, true))), (.mk (some 112) (.call (.mk (.value (.func 17)) #[(.tmp 106), (.tmp 111)] #[22, 22])) (some (105, true))), (.mk (some 113) (.unOp (.not) 4 (.tmp 112)) (some (105, true))), (.mk (some 114) (.move (.tmp 113)) (some (105, true))), (.mk (some 115) (.move (.tmp 4)) (some (114, false))), (.mk (some 116) (.move (.tmp 7)) (some (114, false))), (.mk (some 117) (.indexAddr 29 (.tmp 115) (.tmp 116)) (some (114, false))), (.mk (some 118) (.fieldAddr 37 (.tmp 117) 3) (some (114, false))), (.mk (some 119) (.load 4 (.tmp 118)) (some (114, false))), (.mk (some 120) (.move (.tmp 9)) (some (114, false))), (.mk (some 121) (.call (.mk (.builtin (.len)) #[(.tmp 120)] #[22])) (some (114, false))), (.mk (some 122) (.binOp (.eql) 3 (.tmp 121) (.const (.int (.i64) 0)) 3) (some (114, false))), (.mk (some 123) (.binOp (.neq) 4 (.tmp 119) (.tmp 122) 4) (some (114, false))), (.mk (some 124) (.pick (.tmp 114) (.const (.bool true)) (.tmp 123)) (some (105, true))), (.mk (some 125) (.pick (.tmp 105) (.tmp 124) (.const (.bool false))) none)])
def s3_24 : SCode := (.reg [(.mk (some 2) (.assign (.const (.bool false))) none)])
def s3_25 : SCode := (.cond (.tmp 125) (.seq s3_24 (.ret)) (.skip))
def s3_26 : SCode := (.seq (.seq s3_20 s3_22) (.seq s3_23 s3_25))
def s3_27 : SCode := (.seq s3_17 (.seq s3_18 (.seq s3_19 s3_26)))
def s3_28 : SCode := (.block 3 (.seq (.seq s3_14 s3_16) s3_27))
def s3_29 : SCode := (.reg [(.mk (some 39) (.move (.tmp 8)) none), (.mk (some 40) (.binOp (.add) 3 (.tmp 39) (.const (.int (.i64) 1)) 3) none), (.mk (some 8) (.assign (.tmp 40)) none)])
def s3_30 : SCode := (.block 2 (.loop (.seq s3_13 (.seq s3_28 s3_29))))
def s3_31 : SCode := (.reg [(.mk (some 25) (.move (.tmp 7)) none), (.mk (some 26) (.binOp (.add) 3 (.tmp 25) (.const (.int (.i64) 1)) 3) none), (.mk (some 7) (.assign (.tmp 26)) none)])
def s3_32 : SCode := (.seq (.block 1 (.seq s3_11 s3_30)) s3_31)
def s3_33 : SCode := (.seq s3_8 (.block 0 (.loop (.seq s3_10 s3_32))))
def s3_34 : SCode := (.reg [(.mk (some 126) (.move (.tmp 6)) none), (.mk (some 127) (.move (.tmp 5)) none), (.mk (some 128) (.call (.mk (.builtin (.len)) #[(.tmp 127)] #[22])) none), (.mk (some 129) (.binOp (.eql) 3 (.tmp 126) (.tmp 128) 3) none), (.mk (some 2) (.assign (.tmp 129)) none)])
def s3_35 : SCode := (.seq (.seq s3_5 s3_7) (.seq s3_33 (.seq s3_34 (.ret))))
def s3_36 : SCode := (.seq s3_2 (.seq s3_3 (.seq s3_4 s3_35)))
def s3 : SCode := (.seq s3_0 (.seq s3_1 s3_36))
theorem h3 : FnS Try.prog 3 ⟨[1], []⟩ 130 [(.tmp 2)] s3 := .mk' Try.func3 (by kernel_rfl) (by kernel_rfl) (by kernel_rfl) (by kernel_rfl) (by kernel_rfl) (by kernel_rfl)
def e3 := And.intro s3_0.eq_1 <| And.intro s3_1.eq_1 <| And.intro s3_2.eq_1 <| And.intro s3_3.eq_1 <| And.intro s3_4.eq_1 <| And.intro s3_5.eq_1 <| And.intro s3_6.eq_1 <| And.intro s3_7.eq_1 <| And.intro s3_8.eq_1 <| And.intro s3_9.eq_1 <| And.intro s3_10.eq_1 <| And.intro s3_11.eq_1 <| And.intro s3_12.eq_1 <| And.intro s3_13.eq_1 <| And.intro s3_14.eq_1 <| And.intro s3_15.eq_1 <| And.intro s3_16.eq_1 <| And.intro s3_17.eq_1 <| And.intro s3_18.eq_1 <| And.intro s3_19.eq_1 <| And.intro s3_20.eq_1 <| And.intro s3_21.eq_1 <| And.intro s3_22.eq_1 <| And.intro s3_23.eq_1 <| And.intro s3_24.eq_1 <| And.intro s3_25.eq_1 <| And.intro s3_26.eq_1 <| And.intro s3_27.eq_1 <| And.intro s3_28.eq_1 <| And.intro s3_29.eq_1 <| And.intro s3_30.eq_1 <| And.intro s3_31.eq_1 <| And.intro s3_32.eq_1 <| And.intro s3_33.eq_1 <| And.intro s3_34.eq_1 <| And.intro s3_35.eq_1 <| s3_36.eq_1
def s11_0 : SCode := (.reg [(.mk (some 1) (.box 24 (.tmp 0)) none), (.mk (some 2) (.alloc 27) none)])
def s11_1 : SCode := (.reg [(.mk (some 3) (.alloc 27) none)])
def s11_2 : SCode := (.reg [(.mk (some 4) (.assign (.const (.int (.i64) 0))) none)])
def s11_3 : SCode := (.reg [(.mk (some 6) (.move (.tmp 4)) none), (.mk (some 7) (.fieldAddr 24 (.tmp 1) 0) none), (.mk (some 8) (.load 22 (.tmp 7)) none), (.mk (some 9) (.call (.mk (.builtin (.len)) #[(.tmp 8)] #[22])) none), (.mk (some 10) (.binOp (.lss) 3 (.tmp 6) (.tmp 9) 3) none), (.mk (some 11) (.move (.tmp 10)) none), (.mk (some 12) (.move (.tmp 4)) (some (11, true))), (.mk (some 13) (.binOp (.lss) 3 (.tmp 12) (.const (.int (.i64) 25)) 3) (some (11, true))), (.mk (some 14) (.pick (.tmp 11) (.tmp 13) (.const (.bool false))) none)])
def s11_4 : SCode := (.seq s11_3 (.cond (.tmp 14) (.skip) (.exit 0)))
def s11_5 : SCode := (.drw [((.mk (some 17) (.fieldAddr 27 (.tmp 3) 0) none), 0), ((.mk (some 18) (.load 25 (.tmp 17)) none), 0), ((.mk (some 19) (.fieldAddr 24 (.tmp 1) 0) none), 0), ((.mk (some 20) (.load 22 (.tmp 19)) none), 0), ((.mk (some 21) (.move (.tmp 4)) none), 0), ((.mk (some 22) (.indexAddr 22 (.tmp 20) (.tmp 21)) none), 0), ((.mk (some 23) (.load 3 (.tmp 22)) none), 0), ((.mk (some 24) (.load 27 (.tmp 3)) none), 0), ((.mk (some 25) (.call (.mk (.value (.func 14)) #[(.tmp 24)] #[27])) none), 2), ((.mk (some 26) (.call (.mk (.value (.func 40)) #[(.tmp 23), (.tmp 25)] #[3, 22])) none), 2), ((.mk (some 27) (.buildSlice 25 1 #[(0, (.tmp 26))]) none), 0), ((.mk (some 28) (.call (.mk (.builtin (.append)) #[(.tmp 18), (.tmp 27)] #[25, 25])) none), 1), ((.mk (some 29) (.fieldAddr 27 (.tmp 3) 0) none), 0), ((.mk none (.store 25 (.tmp 29) (.tmp 28)) none), 1)])
def s11_6 : SCode := (.reg [(.mk (some 15) (.move (.tmp 4)) none), (.mk (some 16) (.binOp (.add) 3 (.tmp 15) (.const (.int (.i64) 1)) 3) none), (.mk (some 4) (.assign (.tmp 16)) none)])
def s11_7 : SCode := (.seq s11_4 (.seq (.block 1 s11_5) s11_6))
def s11_8 : SCode := (.reg [(.mk (some 5) (.assign (.const (.int (.i64) 0))) none)])
def s11_9 : SCode := (.reg [(.mk (some 30) (.move (.tmp 5)) none), (.mk (some 31) (.fieldAddr 24 (.tmp 1) 1) none), (.mk (some 32) (.load 22 (.tmp 31)) none), (.mk (some 33) (.call (.mk (.builtin (.len)) #[(.tmp 32)] #[22])) none), (.mk (some 34) (.binOp (.lss) 3 (.tmp 30) (.tmp 33) 3) none), (.mk (some 35) (.move (.tmp 34)) none), (.mk (some 36) (.move (.tmp 5)) (some (35, true))), (.mk (some 37) (.binOp (.lss) 3 (.tmp 36) (.const (.int (.i64) 25)) 3) (some (35, true))), (.mk (some 38) (.pick (.tmp 35) (.tmp 37) (.const (.bool false))) none)])
def s11_10 : SCode := (.seq s11_9 (.cond (.tmp 38) (.skip) (.exit 2)))
def s11_11 : SCode := (.drw [((.mk (some 41) (.fieldAddr 27 (.tmp 3) 1) none), 0), ((.mk (some 42) (.load 25 (.tmp 41)) none), 0), ((.mk (some 43) (.fieldAddr 24 (.tmp 1) 1) none), 0), ((.mk (some 44) (.load 22 (.tmp 43)) none), 0), ((.mk (some 45) (.move (.tmp 5)) none), 0), ((.mk (some 46) (.indexAddr 22 (.tmp 44) (.tmp 45)) none), 0), ((.mk (some 47) (.load 3 (.tmp 46)) none), 0), ((.mk (some 48) (.load 27 (.tmp 3)) none), 0), ((.mk (some 49) (.call (.mk (.value (.func 14)) #[(.tmp 48)] #[27])) none), 2), ((.mk (some 50) (.call (.mk (.value (.func 40)) #[(.tmp 47), (.tmp 49)] #[3, 22])) none), 2), ((.mk (some 51) (.buildSlice 25 1 #[(0, (.tmp 50))]) none), 0), ((.mk (some 52) (.call (.mk (.builtin (.append)) #[(.tmp 42), (.tmp 51)] #[25, 25])) none), 1), ((.mk (some 53) (.fieldAddr 27 (.tmp 3) 1) none), 0), ((.mk none (.store 25 (.tmp 53) (.tmp 52)) none), 1)])
def s11_12 : SCode := (.reg [(.mk (some 39) (.move (.tmp 5)) none), (.mk (some 40) (.binOp (.add) 3 (.tmp 39) (.const (.int (.i64) 1)) 3) none), (.mk (some 5) (.assign (.tmp 40)) none)])
def s11_13 : SCode := (.seq s11_10 (.seq (.block 3 s11_11) s11_12))
def s11_14 : SCode := (.reg [(.mk (some 54) (.load 27 (.tmp 3)) none), (.mk none (.store 27 (.tmp 2) (.tmp 54)) none)])
def s11_15 : SCode := (.seq (.seq s11_8 (.block 2 (.loop s11_13))) (.seq s11_14 (.ret)))
def s11_16 : SCode := (.seq (.seq s11_2 (.block 0 (.loop s11_7))) s11_15)
def s11 : SCode := (.seq s11_0 (.seq s11_1 s11_16))
theorem h11 : FnS Try.prog 11 ⟨[1], [(5, [(0, 0), (1, 0), (2, 0), (3, 0), (4, 0), (5, 0), (6, 0), (7, 0), (8, 2), (9, 2), (10, 0), (11, 1), (12, 0), (13, 1)]), (9, [(0, 0), (1, 0), (2, 0), (3, 0), (4, 0), (5, 0), (6, 0), (7, 0), (8, 2), (9, 2), (10, 0), (11, 1), (12, 0), (13, 1)])]⟩ 55 [(.cell 2 27)] s11 := .mk' Try.func11 (by kernel_rfl) (by kernel_rfl) (by kernel_rfl) (by kernel_rfl) (by kernel_rfl) (by kernel_rfl)
def e11 := And.intro s11_0.eq_1 <| And.intro s11_1.eq_1 <| And.intro s11_2.eq_1 <| And.intro s11_3.eq_1 <| And.intro s11_4.eq_1 <| And.intro s11_5.eq_1 <| And.intro s11_6.eq_1 <| And.intro s11_7.eq_1 <| And.intro s11_8.eq_1 <| And.intro s11_9.eq_1 <| And.intro s11_10.eq_1 <| And.intro s11_11.eq_1 <| And.intro s11_12.eq_1 <| And.intro s11_13.eq_1 <| And.intro s11_14.eq_1 <| And.intro s11_15.eq_1 <| s11_16.eq_1
def s12_0 : SCode := (.reg [(.mk (some 1) (.box 32 (.tmp 0)) none), (.mk (some 2) (.assign (.const (.slice none 0 0))) none)])
def s12_1 : SCode := (.reg [(.mk (some 3) (.load 32 (.tmp 1)) none), (.mk (some 4) (.call (.mk (.value (.func 34)) #[(.tmp 3)] #[32])) none), (.mk (some 5) (.unOp (.not) 4 (.tmp 4)) none)])
def s12_2 : SCode := (.reg [(.mk (some 2) (.assign (.const (.slice none 0 0))) none)])
def s12_3 : SCode := (.cond (.tmp 5) (.seq s12_2 (.ret)) (.skip))
def s12_4 : SCode := (.drw [((.mk (some 6) (.fieldAddr 32 (.tmp 1) 0) none), 0), ((.mk (some 7) (.load 25 (.tmp 6)) none), 0), ((.mk (some 9) (.fieldAddr 32 (.tmp 1) 1) none), 0), ((.mk (some 10) (.load 25 (.tmp 9)) none), 0), ((.mk (some 8) (.call (.mk (.value (.func 41)) #[(.tmp 7), (.const (.int (.i64) 0))] #[25, 3])) none), 2), ((.mk (some 11) (.call (.mk (.value (.func 41)) #[(.tmp 10), (.const (.int (.i64) 1099511627776))] #[25, 3])) none), 1), ((.mk (some 12) (.call (.mk (.builtin (.append)) #[(.tmp 8), (.tmp 11)] #[29, 29])) none), 1), ((.mk (some 2) (.assign (.tmp 12)) none), 0)])
def s12_5 : SCode := (.seq (.seq s12_1 s12_3) (.seq s12_4 (.ret)))
def s12 : SCode := (.seq s12_0 s12_5)
theorem h12 : FnS Try.prog 12 ⟨[1], [(3, [(0, 0), (1, 0), (3, 0), (4, 0), (2, 2), (5, 1), (6, 1), (7, 0)])]⟩ 13 [(.tmp 2)] s12 := .mk' Try.func12 (by kernel_rfl) (by kernel_rfl) (by kernel_rfl) (by kernel_rfl) (by kernel_rfl) (by kernel_rfl)
def e12 := And.intro s12_0.eq_1 <| And.intro s12_1.eq_1 <| And.intro s12_2.eq_1 <| And.intro s12_3.eq_1 <| And.intro s12_4.eq_1 <| s12_5.eq_1
def s13_0 : SCode := (.reg [(.mk (some 1) (.box 27 (.tmp 0)) none), (.mk (some 2) (.alloc 32) none)])
def s13_1 : SCode := (.reg [(.mk (some 3) (.fieldAddr 27 (.tmp 1) 0) none), (.mk (some 4) (.load 25 (.tmp 3)) none), (.mk (some 5) (.fieldAddr 27 (.tmp 1) 1) none), (.mk (some 6) (.load 25 (.tmp 5)) none), (.mk (some 7) (.build 32 #[(0, (.tmp 4)), (1, (.tmp 6))]) none), (.mk none (.store 32 (.tmp 2) (.tmp 7)) none)])
def s13 : SCode := (.seq s13_0 (.seq s13_1 (.ret)))
theorem h13 : FnS Try.prog 13 ⟨[1], []⟩ 8 [(.cell 2 32)] s13 := .mk' Try.func13 (by kernel_rfl) (by kernel_rfl) (by kernel_rfl) (by kernel_rfl) (by kernel_rfl) (by kernel_rfl)
def e13 := And.intro s13_0.eq_1 <| s13_1.eq_1
def s14_0 : SCode := (.reg [(.mk (some 1) (.box 27 (.tmp 0)) none), (.mk (some 2) (.assign (.const (.slice none 0 0))) none)])
def s14_1 : SCode := (.reg [(.mk (some 3) (.assign (.const (.slice none 0 0))) none)])
def s14_2 : SCode := (.reg [(.mk (some 4) (.assign (.const (.int (.i64) 0))) none)])
def s14_3 : SCode := (.reg [(.mk (some 6) (.move (.tmp 4)) none), (.mk (some 7) (.fieldAddr 27 (.tmp 1) 0) none), (.mk (some 8) (.load 25 (.tmp 7)) none), (.mk (some 9) (.call (.mk (.builtin (.len)) #[(.tmp 8)] #[25])) none), (.mk (some 10) (.binOp (.lss) 3 (.tmp 6) (.tmp 9) 3) none)])
def s14_4 : SCode := (.seq s14_3 (.cond (.tmp 10) (.skip) (.exit 0)))
def s14_5 : SCode := (.reg [(.mk (some 13) (.move (.tmp 3)) none), (.mk (some 14) (.move (.tmp 4)) none), (.mk (some 15) (.buildSlice 22 1 #[(0, (.tmp 14))]) none), (.mk (some 16) (.call (.mk (.builtin (.append)) #[(.tmp 13), (.tmp 15)] #[22, 22])) none), (.mk (some 3) (.assign (.tmp 16)) none)])
def s14_6 : SCode := (.reg [(.mk (some 11) (.move (.tmp 4)) none), (.mk (some 12) (.binOp (.add) 3 (.tmp 11) (.const (.int (.i64) 1)) 3) none), (.mk (some 4) (.assign (.tmp 12)) none)])
def s14_7 : SCode := (.seq s14_4 (.seq (.block 1 s14_5) s14_6))
def s14_8 : SCode := (.reg [(.mk (some 5) (.assign (.const (.int (.i64) 0))) none)])
def s14_9 : SCode := (.reg [(.mk (some 17) (.move (.tmp 5)) none), (.mk (some 18) (.fieldAddr 27 (.tmp 1) 1) none), (.mk (some 19) (.load 25 (.tmp 18)) none), (.mk (some 20) (.call (.mk (.builtin (.len)) #[(.tmp 19)] #[25])) none), (.mk (some 21) (.binOp (.lss) 3 (.tmp 17) (.tmp 20) 3) none)])
def s14_10 : SCode := (.seq s14_9 (.cond (.tmp 21) (.skip) (.exit 2)))
def s14_11 : SCode := (.reg [(.mk (some 24) (.move (.tmp 3)) none), (.mk (some 25) (.move (.tmp 5)) none), (.mk (some 26) (.binOp (.add) 3 (.const (.int (.i64) 1099511627776)) (.tmp 25) 3) none), (.mk (some 27) (.buildSlice 22 1 #[(0, (.tmp 26))]) none), (.mk (some 28) (.call (.mk (.builtin (.append)) #[(.tmp 24), (.tmp 27)] #[22, 22])) none), (.mk (some 3) (.assign (.tmp 28)) none)])
def s14_12 : SCode := (.reg [(.mk (some 22) (.move (.tmp 5)) none), (.mk (some 23) (.binOp (.add) 3 (.tmp 22) (.const (.int (.i64) 1)) 3) none), (.mk (some 5) (.assign (.tmp 23)) none)])
def s14_13 : SCode := (.seq s14_10 (.seq (.block 3 s14_11) s14_12))
def s14_14 : SCode := (.reg [(.mk (some 29) (.move (.tmp 3)) none), (.mk (some 2) (.assign (.tmp 29)) none)])
def s14_15 : SCode := (.seq (.seq s14_8 (.block 2 (.loop s14_13))) (.seq s14_14 (.ret)))
def s14_16 : SCode := (.seq (.seq s14_2 (.block 0 (.loop s14_7))) s14_15)
def s14 : SCode := (.seq s14_0 (.seq s14_1 s14_16))
theorem h14 : FnS Try.prog 14 ⟨[1], []⟩ 30 [(.tmp 2)] s14 := .mk' Try.func14 (by kernel_rfl) (by kernel_rfl) (by kernel_rfl) (by kernel_rfl) (by kernel_rfl) (by kernel_rfl)
def e14 := And.intro s14_0.eq_1 <| And.intro s14_1.eq_1 <| And.intro s14_2.eq_1 <| And.intro s14_3.eq_1 <| And.intro s14_4.eq_1 <| And.intro s14_5.eq_1 <| And.intro s14_6.eq_1 <| And.intro s14_7.eq_1 <| And.intro s14_8.eq_1 <| And.intro s14_9.eq_1 <| And.intro s14_10.eq_1 <| And.intro s14_11.eq_1 <| And.intro s14_12.eq_1 <| And.intro s14_13.eq_1 <| And.intro s14_14.eq_1 <| And.intro s14_15.eq_1 <| s14_16.eq_1
def s16_0 : SCode := (.reg [(.mk (some 2) (.box 27 (.tmp 0)) none), (.mk (some 4) (.assign (.const (.slice none 0 0))) none), (.mk (some 5) (.assign (.const (.bool false))) none)])
def s16_1 : SCode := (.reg [(.mk (some 7) (.move (.tmp 1)) none), (.mk (some 8) (.binOp (.geq) 3 (.tmp 7) (.const (.int (.i64) 0)) 3) none), (.mk (some 9) (.move (.tmp 8)) none), (.mk (some 10) (.move (.tmp 1)) (some (9, true))), (.mk (some 11) (.fieldAddr 27 (.tmp 2) 0) (some (9, true))), (.mk (some 12) (.load 25 (.tmp 11)) (some (9, true))), (.mk (some 13) (.call (.mk (.builtin (.len)) #[(.tmp 12)] #[25])) (some (9, true))), (.mk (some 14) (.binOp (.lss) 3 (.tmp 10) (.tmp 13) 3) (some (9, true))), (.mk (some 15) (.pick (.tmp 9) (.tmp 14) (.const (.bool false))) none), (.mk (some 6) (.assign (.tmp 15)) none)])
def s16_2 : SCode := (.reg [(.mk (some 16) (.fieldAddr 27 (.tmp 2) 0) none), (.mk (some 17) (.load 25 (.tmp 16)) none), (.mk (some 18) (.move (.tmp 1)) none), (.mk (some 19) (.indexAddr 25 (.tmp 17) (.tmp 18)) none), (.mk (some 20) (.load 22 (.tmp 19)) none), (.mk (some 4) (.assign (.tmp 20)) none), (.mk (some 5) (.assign (.const (.bool true))) none)])
def s16_3 : SCode := (.reg [(.mk (some 22) (.move (.tmp 1)) none), (.mk (some 23) (.binOp (.geq) 3 (.tmp 22) (.const (.int (.i64) 1099511627776)) 3) none), (.mk (some 24) (.move (.tmp 23)) none), (.mk (some 25) (.move (.tmp 1)) (some (24, true))), (.mk (some 26) (.fieldAddr 27 (.tmp 2) 1) (some (24, true))), (.mk (some 27) (.load 25 (.tmp 26)) (some (24, true))), (.mk (some 28) (.call (.mk (.builtin (.len)) #[(.tmp 27)] #[25])) (some (24, true))), (.mk (some 29) (.binOp (.add) 3 (.const (.int (.i64) 1099511627776)) (.tmp 28) 3) (some (24, true))), (.mk (some 30) (.binOp (.lss) 3 (.tmp 25) (.tmp 29) 3) (some (24, true))), (.mk (some 31) (.pick (.tmp 24) (.tmp 30) (.const (.bool false))) none), (.mk (some 21) (.assign (.tmp 31)) none)])
def s16_4 : SCode := (.reg [(.mk (some 32) (.fieldAddr 27 (.tmp 2) 1) none), (.mk (some 33) (.load 25 (.tmp 32)) none), (.mk (some 34) (.move (.tmp 1)) none), (.mk (some 35) (.binOp (.sub) 3 (.tmp 34) (.const (.int (.i64) 1099511627776)) 3) none), (.mk (some 36) (.indexAddr 25 (.tmp 33) (.tmp 35)) none), (.mk (some 37) (.load 22 (.tmp 36)) none), (.mk (some 4) (.assign (.tmp 37)) none), (.mk (some 5) (.assign (.const (.bool true))) none)])
def s16_5 : SCode := (.cond (.tmp 21) (.seq s16_4 (.ret)) (.skip))
def s16_6 : SCode := (.cond (.tmp 6) (.seq s16_2 (.ret)) (.seq s16_3 s16_5))
def s16_7 : SCode := (.reg [(.mk (some 4) (.assign (.const (.slice none 0 0))) none), (.mk (some 5) (.assign (.const (.bool false))) none)])
def s16_8 : SCode := (.seq (.block 0 (.seq s16_1 s16_6)) (.seq s16_7 (.ret)))
def s16 : SCode := (.seq s16_0 s16_8)
theorem h16 : FnS Try.prog 16 ⟨[2], []⟩ 38 [(.tmp 4), (.tmp 5)] s16 := .mk' Try.func16 (by kernel_rfl) (by kernel_rfl) (by kernel_rfl) (by kernel_rfl) (by kernel_rfl) (by kernel_rfl)
def e16 := And.intro s16_0.eq_1 <| And.intro s16_1.eq_1 <| And.intro s16_2.eq_1 <| And.intro s16_3.eq_1 <| And.intro s16_4.eq_1 <| And.intro s16_5.eq_1 <| And.intro s16_6.eq_1 <| And.intro s16_7.eq_1 <| s16_8.eq_1
def s17_0 : SCode := (.reg [(.mk (some 4) (.assign (.const (.bool false))) none)])
def s17_1 : SCode := (.reg [(.mk (some 6) (.move (.tmp 0)) none), (.mk (some 7) (.call (.mk (.builtin (.len)) #[(.tmp 6)] #[22])) none), (.mk (some 8) (.move (.tmp 1)) none), (.mk (some 9) (.call (.mk (.builtin (.len)) #[(.tmp 8)] #[22])) none), (.mk (some 10) (.binOp (.neq) 3 (.tmp 7) (.tmp 9) 3) none)])
def s17_2 : SCode := (.reg [(.mk (some 4) (.assign (.const (.bool false))) none)])
def s17_3 : SCode := (.cond (.tmp 10) (.seq s17_2 (.ret)) (.skip))
def s17_4 : SCode := (.reg [(.mk (some 5) (.assign (.const (.int (.i64) 0))) none)])
def s17_5 : SCode := (.reg [(.mk (some 11) (.move (.tmp 5)) none), (.mk (some 12) (.move (.tmp 0)) none), (.mk (some 13) (.call (.mk (.builtin (.len)) #[(.tmp 12)] #[22])) none), (.mk (some 14) (.binOp (.lss) 3 (.tmp 11) (.tmp 13) 3) none)])
def s17_6 : SCode := (.seq s17_5 (.cond (.tmp 14) (.skip) (.exit 0)))
def s17_7 : SCode := (.drw [((.mk (some 17) (.move (.tmp 0)) none), 0), ((.mk (some 18) (.move (.tmp 5)) none), 0), ((.mk (some 19) (.indexAddr 22 (.tmp 17) (.tmp 18)) none), 0), ((.mk (some 20) (.load 3 (.tmp 19)) none), 0), ((.mk (some 21) (.move (.tmp 1)) none), 0), ((.mk (some 22) (.move (.tmp 5)) none), 0), ((.mk (some 23) (.indexAddr 22 (.tmp 21) (.tmp 22)) none), 0), ((.mk (some 24) (.load 3 (.tmp 23)) none), 0), ((.mk (some 25) (.binOp (.neq) 3 (.tmp 20) (.tmp 24) 3) none), 0)])
def s17_8 : SCode := (.reg [(.mk (some 4) (.assign (.const (.bool false))) none)])
def s17_9 : SCode := (.cond (.tmp 25) (.seq s17_8 (.ret)) (.skip))
def s17_10 : SCode := (.reg [(.mk (some 15) (.move (.tmp 5)) none), (.mk (some 16) (.binOp (.add) 3 (.tmp 15) (.const (.int (.i64) 1)) 3) none), (.mk (some 5) (.assign (.tmp 16)) none)])
def s17_11 : SCode := (.seq (.block 1 (.seq s17_7 s17_9)) s17_10)
def s17_12 : SCode := (.seq s17_4 (.block 0 (.loop (.seq s17_6 s17_11))))
def s17_13 : SCode := (.reg [(.mk (some 4) (.assign (.const (.bool true))) none)])
def s17_14 : SCode := (.seq (.seq s17_1 s17_3) (.seq s17_12 (.seq s17_13 (.ret))))
def s17 : SCode := (.seq s17_0 s17_14)
theorem h17 : FnS Try.prog 17 ⟨[], [(6, [(0, 0), (1, 0), (2, 0), (3, 0), (4, 0), (5, 0), (6, 0), (7, 0), (8, 0)])]⟩ 26 [(.tmp 4)] s17 := .mk' Try.func17 (by kernel_rfl) (by kernel_rfl) (by kernel_rfl) (by kernel_rfl) (by kernel_rfl) (by kernel_rfl)
def e17 := And.intro s17_0.eq_1 <| And.intro s17_1.eq_1 <| And.intro s17_2.eq_1 <| And.intro s17_3.eq_1 <| And.intro s17_4.eq_1 <| And.intro s17_5.eq_1 <| And.intro s17_6.eq_1 <| And.intro s17_7.eq_1 <| And.intro s17_8.eq_1 <| And.intro s17_9.eq_1 <| And.intro s17_10.eq_1 <| And.intro s17_11.eq_1 <| And.intro s17_12.eq_1 <| And.intro s17_13.eq_1 <| s17_14.eq_1
def s25_0 : SCode := (.reg [(.mk (some 4) (.assign (.const (.int (.i64) 0))) none)])
def s25_1 : SCode := (.reg [(.mk (some 5) (.move (.tmp 0)) none), (.mk (some 6) (.move (.tmp 1)) none), (.mk (some 7) (.binOp (.rem) 3 (.tmp 5) (.tmp 6) 3) none), (.mk (some 0) (.assign (.tmp 7)) none)])
def s25_2 : SCode := (.reg [(.mk (some 8) (.move (.tmp 0)) none), (.mk (some 9) (.binOp (.lss) 3 (.tmp 8) (.const (.int (.i64) 0)) 3) none)])
def s25_3 : SCode := (.reg [(.mk (some 10) (.move (.tmp 0)) none), (.mk (some 11) (.move (.tmp 1)) none), (.mk (some 12) (.binOp (.add) 3 (.tmp 10) (.tmp 11) 3) none), (.mk (some 0) (.assign (.tmp 12)) none)])
def s25_4 : SCode := (.seq s25_2 (.cond (.tmp 9) s25_3 (.skip)))
def s25_5 : SCode := (.reg [(.mk (some 13) (.move (.tmp 0)) none), (.mk (some 4) (.assign (.tmp 13)) none)])
def s25_6 : SCode := (.seq s25_1 (.seq s25_4 (.seq s25_5 (.ret))))
def s25 : SCode := (.seq s25_0 s25_6)
theorem h25 : FnS Try.prog 25 ⟨[], []⟩ 14 [(.tmp 4)] s25 := .mk' Try.func25 (by kernel_rfl) (by kernel_rfl) (by kernel_rfl) (by kernel_rfl) (by kernel_rfl) (by kernel_rfl)
def e25 := And.intro s25_0.eq_1 <| And.intro s25_1.eq_1 <| And.intro s25_2.eq_1 <| And.intro s25_3.eq_1 <| And.intro s25_4.eq_1 <| And.intro s25_5.eq_1 <| s25_6.eq_1
def s34_0 : SCode := (.reg [(.mk (some 1) (.box 32 (.tmp 0)) none), (.mk (some 2) (.assign (.const (.bool false))) none)])
def s34_1 : SCode := (.reg [(.mk (some 3) (.load 32 (.tmp 1)) none), (.mk (some 4) (.fieldAddr 32 (.tmp 1) 0) none), (.mk (some 5) (.load 25 (.tmp 4)) none), (.mk (some 6) (.call (.mk (.value (.func 57)) #[(.tmp 3), (.tmp 5), (.const (.int (.i64) 0)), (.const (.int (.i64) 1099511627775))] #[32, 25, 3, 3])) none), (.mk (some 7) (.move (.tmp 6)) none), (.mk (some 8) (.load 32 (.tmp 1)) (some (7, true))), (.mk (some 9) (.fieldAddr 32 (.tmp 1) 1) (some (7, true))), (.mk (some 10) (.load 25 (.tmp 9)) (some (7, true))), (.mk (some 11) (.fieldAddr 32 (.tmp 1) 1) (some (7, true))), (.mk (some 12) (.load 25 (.tmp 11)) (some (7, true))), (.mk (some 13) (.call (.mk (.builtin (.len)) #[(.tmp 12)] #[25])) (some (7, true))), (.mk (some 14) (.binOp (.add) 3 (.const (.int (.i64) 1099511627776)) (.tmp 13) 3) (some (7, true))), (.mk (some 15) (.call (.mk (.value (.func 57)) #[(.tmp 8), (.tmp 10), (.const (.int (.i64) 1099511627776)), (.tmp 14)] #[32, 25, 3, 3])) (some (7, true))), (.mk (some 16) (.pick (.tmp 7) (.tmp 15) (.const (.bool false))) none), (.mk (some 2) (.assign (.tmp 16)) none)])
def s34 : SCode := (.seq s34_0 (.seq s34_1 (.ret)))
theorem h34 : FnS Try.prog 34 ⟨[1], []⟩ 17 [(.tmp 2)] s34 := .mk' Try.func34 (by kernel_rfl) (by kernel_rfl) (by kernel_rfl) (by kernel_rfl) (by kernel_rfl) (by kernel_rfl)
def e34 := And.intro s34_0.eq_1 <| s34_1.eq_1
def s40_0 : SCode := (.reg [(.mk (some 4) (.assign (.const (.slice none 0 0))) none)])
def s40_1 : SCode := (.reg [(.mk (some 9) (.move (.tmp 1)) none), (.mk (some 10) (.call (.mk (.builtin (.len)) #[(.tmp 9)] #[22])) none), (.mk (some 11) (.binOp (.eql) 3 (.tmp 10) (.const (.int (.i64) 0)) 3) none)])
def s40_2 : SCode := (.reg [(.mk (some 4) (.assign (.const (.slice none 0 0))) none)])
def s40_3 : SCode := (.cond (.tmp 11) (.seq s40_2 (.ret)) (.skip))
def s40_4 : SCode := (.reg [(.mk (some 12) (.move (.tmp 1)) none), (.mk (some 13) (.move (.tmp 1)) none), (.mk (some 14) (.call (.mk (.builtin (.len)) #[(.tmp 13)] #[22])) none), (.mk (some 15) (.binOp (.sub) 3 (.tmp 14) (.const (.int (.i64) 1)) 3) none), (.mk (some 16) (.indexAddr 22 (.tmp 12) (.tmp 15)) none), (.mk (some 17) (.load 3 (.tmp 16)) none), (.mk (some 5) (.assign (.tmp 17)) none)])
def s40_5 : SCode := (.reg [(.mk (some 18) (.move (.tmp 0)) none), (.mk (some 19) (.call (.mk (.value (.func 25)) #[(.tmp 18), (.const (.int (.i64) 12))] #[3, 3])) none)])
def s40_6 : SCode := (.reg [(.mk (some 21) (.binOp (.eql) 3 (.tmp 19) (.const (.int (.i64) 0)) 3) none), (.mk (some 20) (.assign (.tmp 21)) none)])
def s40_7 : SCode := (.reg [(.mk (some 4) (.assign (.const (.slice none 0 0))) none)])
def s40_8 : SCode := (.reg [(.mk (some 23) (.binOp (.eql) 3 (.tmp 19) (.const (.int (.i64) 1)) 3) none), (.mk (some 22) (.assign (.tmp 23)) none)])
def s40_9 : SCode := (.reg [(.mk (some 24) (.binOp (.eql) 3 (.tmp 19) (.const (.int (.i64) 2)) 3) none), (.mk (some 22) (.assign (.tmp 24)) none)])
def s40_10 : SCode := (.seq s40_8 (.cond (.tmp 22) (.skip) s40_9))
def s40_11 : SCode := (.reg [(.mk (some 25) (.move (.tmp 1)) none), (.mk (some 26) (.move (.tmp 0)) none), (.mk (some 27) (.binOp (.quo) 3 (.tmp 26) (.const (.int (.i64) 12)) 3) none), (.mk (some 28) (.move (.tmp 1)) none), (.mk (some 29) (.call (.mk (.builtin (.len)) #[(.tmp 28)] #[22])) none), (.mk (some 30) (.call (.mk (.value (.func 25)) #[(.tmp 27), (.tmp 29)] #[3, 3])) none), (.mk (some 31) (.indexAddr 22 (.tmp 25) (.tmp 30)) none), (.mk (some 32) (.load 3 (.tmp 31)) none), (.mk (some 33) (.buildSlice 22 1 #[(0, (.tmp 32))]) none), (.mk (some 4) (.assign (.tmp 33)) none)])
def s40_12 : SCode := (.reg [(.mk (some 35) (.binOp (.eql) 3 (.tmp 19) (.const (.int (.i64) 3)) 3) none), (.mk (some 34) (.assign (.tmp 35)) none)])
def s40_13 : SCode := (.reg [(.mk (some 36) (.binOp (.eql) 3 (.tmp 19) (.const (.int (.i64) 4)) 3) none), (.mk (some 34) (.assign (.tmp 36)) none)])
def s40_14 : SCode := (.seq s40_12 (.cond (.tmp 34) (.skip) s40_13))
def s40_15 : SCode := (.reg [(.mk (some 37) (.move (.tmp 1)) none), (.mk (some 38) (.move (.tmp 0)) none), (.mk (some 39) (.binOp (.quo) 3 (.tmp 38) (.const (.int (.i64) 12)) 3) none), (.mk (some 40) (.move (.tmp 1)) none), (.mk (some 41) (.call (.mk (.builtin (.len)) #[(.tmp 40)] #[22])) none), (.mk (some 42) (.call (.mk (.value (.func 25)) #[(.tmp 39), (.tmp 41)] #[3, 3])) none), (.mk (some 43) (.indexAddr 22 (.tmp 37) (.tmp 42)) none), (.mk (some 44) (.load 3 (.tmp 43)) none), (.mk (some 6) (.assign (.tmp 44)) none)])
def s40_16 : SCode := (.reg [(.mk (some 45) (.move (.tmp 1)) none), (.mk (some 46) (.move (.tmp 0)) none), (.mk (some 47) (.binOp (.quo) 3 (.tmp 46) (.const (.int (.i64) 144)) 3) none), (.mk (some 48) (.move (.tmp 1)) none), (.mk (some 49) (.call (.mk (.builtin (.len)) #[(.tmp 48)] #[22])) none), (.mk (some 50) (.call (.mk (.value (.func 25)) #[(.tmp 47), (.tmp 49)] #[3, 3])) none), (.mk (some 51) (.indexAddr 22 (.tmp 45) (.tmp 50)) none), (.mk (some 52) (.load 3 (.tmp 51)) none), (.mk (some 7) (.assign (.tmp 52)) none)])
def s40_17 : SCode := (.reg [(.mk (some 53) (.move (.tmp 6)) none), (.mk (some 54) (.move (.tmp 7)) none), (.mk (some 55) (.binOp (.eql) 3 (.tmp 53) (.tmp 54) 3) none)])
def s40_18 : SCode := (.reg [(.mk (some 56) (.move (.tmp 6)) none), (.mk (some 57) (.buildSlice 22 1 #[(0, (.tmp 56))]) none), (.mk (some 4) (.assign (.tmp 57)) none)])
def s40_19 : SCode := (.cond (.tmp 55) (.seq s40_18 (.ret)) (.skip))
def s40_20 : SCode := (.reg [(.mk (some 58) (.move (.tmp 6)) none), (.mk (some 59) (.move (.tmp 7)) none), (.mk (some 60) (.buildSlice 22 2 #[(0, (.tmp 58)), (1, (.tmp 59))]) none), (.mk (some 4) (.assign (.tmp 60)) none)])
def s40_21 : SCode := (.seq (.seq s40_17 s40_19) (.seq s40_20 (.ret)))
def s40_22 : SCode := (.reg [(.mk (some 62) (.binOp (.eql) 3 (.tmp 19) (.const (.int (.i64) 5)) 3) none), (.mk (some 61) (.assign (.tmp 62)) none)])
def s40_23 : SCode := (.reg [(.mk (some 63) (.move (.tmp 1)) none), (.mk (some 64) (.move (.tmp 0)) none), (.mk (some 65) (.binOp (.quo) 3 (.tmp 64) (.const (.int (.i64) 12)) 3) none), (.mk (some 66) (.move (.tmp 1)) none), (.mk (some 67) (.call (.mk (.builtin (.len)) #[(.tmp 66)] #[22])) none), (.mk (some 68) (.call (.mk (.value (.func 25)) #[(.tmp 65), (.tmp 67)] #[3, 3])) none), (.mk (some 69) (.indexAddr 22 (.tmp 63) (.tmp 68)) none), (.mk (some 70) (.load 3 (.tmp 69)) none), (.mk (some 8) (.assign (.tmp 70)) none)])
def s40_24 : SCode := (.reg [(.mk (some 71) (.move (.tmp 8)) none), (.mk (some 72) (.move (.tmp 5)) none), (.mk (some 73) (.binOp (.eql) 3 (.tmp 71) (.tmp 72) 3) none)])
def s40_25 : SCode := (.reg [(.mk (some 74) (.move (.tmp 8)) none), (.mk (some 75) (.buildSlice 22 1 #[(0, (.tmp 74))]) none), (.mk (some 4) (.assign (.tmp 75)) none)])
def s40_26 : SCode := (.cond (.tmp 73) (.seq s40_25 (.ret)) (.skip))
def s40_27 : SCode := (.reg [(.mk (some 76) (.move (.tmp 8)) none), (.mk (some 77) (.move (.tmp 5)) none), (.mk (some 78) (.buildSlice 22 2 #[(0, (.tmp 76)), (1, (.tmp 77))]) none), (.mk (some 4) (.assign (.tmp 78)) none)])
def s40_28 : SCode := (.seq (.seq s40_24 s40_26) (.seq s40_27 (.ret)))
def s40_29 : SCode := (.cond (.tmp 61) (.seq s40_23 s40_28) (.skip))
def s40_30 : SCode := (.cond (.tmp 34) (.seq s40_15 (.seq s40_16 s40_21)) (.seq s40_22 s40_29))
def s40_31 : SCode := (.cond (.tmp 22) (.seq s40_11 (.ret)) (.seq s40_14 s40_30))
def s40_32 : SCode := (.cond (.tmp 20) (.seq s40_7 (.ret)) (.seq s40_10 s40_31))
def s40_33 : SCode := (.seq s40_5 (.block 0 (.seq s40_6 s40_32)))
def s40_34 : SCode := (.reg [(.mk (some 79) (.move (.tmp 5)) none), (.mk (some 80) (.buildSlice 22 1 #[(0, (.tmp 79))]) none), (.mk (some 4) (.assign (.tmp 80)) none)])
def s40_35 : SCode := (.seq s40_4 (.seq s40_33 (.seq s40_34 (.ret))))
def s40 : SCode := (.seq s40_0 (.seq (.seq s40_1 s40_3) s40_35))
theorem h40 : FnS Try.prog 40 ⟨[], []⟩ 81 [(.tmp 4)] s40 := .mk' Try.func40 (by kernel_rfl) (by kernel_rfl) (by kernel_rfl) (by kernel_rfl) (by kernel_rfl) (by kernel_rfl)
def e40 := And.intro s40_0.eq_1 <| And.intro s40_1.eq_1 <| And.intro s40_2.eq_1 <| And.intro s40_3.eq_1 <| And.intro s40_4.eq_1 <| And.intro s40_5.eq_1 <| And.intro s40_6.eq_1 <| And.intro s40_7.eq_1 <| And.intro s40_8.eq_1 <| And.intro s40_9.eq_1 <| And.intro s40_10.eq_1 <| And.intro s40_11.eq_1 <| And.intro s40_12.eq_1 <| And.intro s40_13.eq_1 <| And.intro s40_14.eq_1 <| And.intro s40_15.eq_1 <| And.intro s40_16.eq_1 <| And.intro s40_17.eq_1 <| And.intro s40_18.eq_1 <| And.intro s40_19.eq_1 <| And.intro s40_20.eq_1 <| And.intro s40_21.eq_1 <| And.intro s40_22.eq_1 <| And.intro s40_23.eq_1 <| And.intro s40_24.eq_1 <| And.intro s40_25.eq_1 <| And.intro s40_26.eq_1 <| And.intro s40_27.eq_1 <| And.intro s40_28.eq_1 <| And.intro s40_29.eq_1 <| And.intro s40_30.eq_1 <| And.intro s40_31.eq_1 <| And.intro s40_32.eq_1 <| And.intro s40_33.eq_1 <| And.intro s40_34.eq_1 <| s40_35.eq_1
def s41_0 : SCode := (.reg [(.mk (some 4) (.assign (.const (.slice none 0 0))) none)])
def s41_1 : SCode := (.reg [(.mk (some 5) (.assign (.const (.slice none 0 0))) none)])
def s41_2 : SCode := (.reg [(.mk (some 13) (.makeMap 90 none) none), (.mk (some 6) (.assign (.tmp 13)) none)])
def s41_3 : SCode := (.reg [(.mk (some 14) (.move (.tmp 0)) none), (.mk (some 15) (.call (.mk (.builtin (.len)) #[(.tmp 14)] #[25])) none), (.mk (some 16) (.move (.const (.int (.i64) 0))) none)])
def s41_4 : SCode := (.reg [(.mk (some 17) (.binOp (.lss) 3 (.tmp 16) (.tmp 15) 3) none)])
def s41_5 : SCode := (.reg [(.mk (some 18) (.move (.tmp 16)) none), (.mk (some 19) (.indexAddr 25 (.tmp 14) (.tmp 16)) none), (.mk (some 20) (.load 22 (.tmp 19)) none), (.mk (some 7) (.assign (.tmp 18)) none), (.mk (some 8) (.assign (.tmp 20)) none)])
def s41_6 : SCode := (.reg [(.mk (some 21) (.move (.tmp 1)) none), (.mk (some 22) (.move (.tmp 7)) none), (.mk (some 23) (.binOp (.add) 3 (.tmp 21) (.tmp 22) 3) none), (.mk (some 9) (.assign (.tmp 23)) none)])
def s41_7 : SCode := (.reg [(.mk (some 24) (.move (.tmp 8)) none), (.mk (some 25) (.call (.mk (.builtin (.len)) #[(.tmp 24)] #[22])) none), (.mk (some 26) (.move (.const (.int (.i64) 0))) none)])
def s41_8 : SCode := (.reg [(.mk (some 27) (.binOp (.lss) 3 (.tmp 26) (.tmp 25) 3) none)])
def s41_9 : SCode := (.reg [(.mk (some 28) (.indexAddr 22 (.tmp 24) (.tmp 26)) none), (.mk (some 29) (.load 3 (.tmp 28)) none), (.mk (some 11) (.assign (.tmp 29)) none)])
def s41_10 : SCode := (.reg [(.mk (some 30) (.move (.tmp 6)) none), (.mk (some 31) (.move (.tmp 11)) none), (.mk none (.call (.mk (.builtin (.delete)) #[(.tmp 30), (.tmp 31)] #[90, 3])) none)])
def s41_11 : SCode := (.reg [(.mk (some 32) (.binOp (.add) 3 (.tmp 26) (.const (.int (.i64) 1)) 3) none), (.mk (some 26) (.move (.tmp 32)) none)])
def s41_12 : SCode := (.seq (.block 3 (.seq s41_9 s41_10)) s41_11)
def s41_13 : SCode := (.seq (.cond (.tmp 27) (.skip) (.exit 2)) s41_12)
def s41_14 : SCode := (.seq s41_7 (.block 2 (.loop (.seq s41_8 s41_13))))
def s41_15 : SCode := (.reg [(.mk (some 33) (.move (.tmp 6)) none), (.mk (some 34) (.move (.tmp 9)) none), (.mk none (.mapUpdate 90 (.tmp 33) (.tmp 34) (.const (.bool true))) none)])
def s41_16 : SCode := (.reg [(.mk (some 35) (.move (.tmp 7)) none), (.mk (some 36) (.binOp (.gtr) 3 (.tmp 35) (.const (.int (.i64) 0)) 3) none), (.mk (some 37) (.move (.tmp 36)) none), (.mk (some 38) (.move (.tmp 8)) (some (37, true))), (.mk (some 39) (.call (.mk (.builtin (.len)) #[(.tmp 38)] #[22])) (some (37, true))), (.mk (some 40) (.binOp (.eql) 3 (.tmp 39) (.const (.int (.i64) 1)) 3) (some (37, true))), (.mk (some 41) (.pick (.tmp 37) (.tmp 40) (.const (.bool false))) none), (.mk (some 42) (.move (.tmp 41)) none), (.mk (some 43) (.move (.tmp 8)) (some (42, true))), (.mk (some 44) (.indexAddr 22 (.tmp 43) (.const (.int (.i64) 0))) (some (42, true))), (.mk (some 45) (.load 3 (.tmp 44)) (some (42, true))), (.mk (some 46) (.move (.tmp 9)) (some (42, true))), (.mk (some 47) (.binOp (.sub) 3 (.tmp 46) (.const (.int (.i64) 1)) 3) (some (42, true))), (.mk (some 48) (.binOp (.eql) 3 (.tmp 45) (.tmp 47) 3) (some (42, true))), (.mk (some 49) (.pick (.tmp 42) (.tmp 48) (.const (.bool false))) none)])
def s41_17 : SCode := (.reg [(.mk (some 50) (.move (.tmp 5)) none), (.mk (some 51) (.move (.tmp 5)) none), (.mk (some 52) (.call (.mk (.builtin (.len)) #[(.tmp 51)] #[29])) none), (.mk (some 53) (.binOp (.sub) 3 (.tmp 52) (.const (.int (.i64) 1)) 3) none), (.mk (some 54) (.indexAddr 29 (.tmp 50) (.tmp 53)) none), (.mk (some 12) (.assign (.tmp 54)) none)])
def s41_18 : SCode := (.reg [(.mk (some 55) (.move (.tmp 12)) none), (.mk (some 56) (.move (.tmp 12)) none), (.mk (some 57) (.move (.tmp 9)) none), (.mk (some 58) (.move (.tmp 6)) none), (.mk (some 59) (.call (.mk (.builtin (.len)) #[(.tmp 58)] #[90])) none), (.mk (some 60) (.binOp (.eql) 3 (.tmp 59) (.const (.int (.i64) 1)) 3) none), (.mk (some 61) (.nilCheck (.tmp 55)) none), (.mk (some 62) (.fieldAddr 37 (.tmp 61) 1) none), (.mk none (.store 3 (.tmp 62) (.tmp 57)) none), (.mk (some 63) (.nilCheck (.tmp 56)) none), (.mk (some 64) (.fieldAddr 37 (.tmp 63) 4) none), (.mk none (.store 4 (.tmp 64) (.tmp 60)) none)])
def s41_19 : SCode := (.cond (.tmp 49) (.seq s41_17 (.seq s41_18 (.exit 1))) (.skip))
def s41_20 : SCode := (.reg [(.mk (some 65) (.move (.tmp 5)) none), (.mk (some 66) (.move (.tmp 9)) none), (.mk (some 67) (.move (.tmp 9)) none), (.mk (some 68) (.move (.tmp 8)) none), (.mk (some 69) (.call (.mk (.value (.func 58)) #[(.tmp 68)] #[22])) none), (.mk (some 70) (.move (.tmp 8)) none), (.mk (some 71) (.call (.mk (.builtin (.len)) #[(.tmp 70)] #[22])) none), (.mk (some 72) (.binOp (.eql) 3 (.tmp 71) (.const (.int (.i64) 0)) 3) none), (.mk (some 73) (.move (.tmp 6)) none), (.mk (some 74) (.call (.mk (.builtin (.len)) #[(.tmp 73)] #[90])) none), (.mk (some 75) (.binOp (.eql) 3 (.tmp 74) (.const (.int (.i64) 1)) 3) none), (.mk (some 76) (.build 37 #[(0, (.tmp 66)), (1, (.tmp 67)), (2, (.tmp 69)), (3, (.tmp 72)), (4, (.tmp 75))]) none), (.mk (some 77) (.buildSlice 29 1 #[(0, (.tmp 76))]) none), (.mk (some 78) (.call (.mk (.builtin (.append)) #[(.tmp 65), (.tmp 77)] #[29, 29])) none), (.mk (some 5) (.assign (.tmp 78)) none)])
def s41_21 : SCode := (.seq s41_15 (.seq (.seq s41_16 s41_19) s41_20))
def s41_22 : SCode := (.seq s41_5 (.seq s41_6 (.seq s41_14 s41_21)))
def s41_23 : SCode := (.reg [(.mk (some 79) (.binOp (.add) 3 (.tmp 16) (.const (.int (.i64) 1)) 3) none), (.mk (some 16) (.move (.tmp 79)) none)])
def s41_24 : SCode := (.seq (.cond (.tmp 17) (.skip) (.exit 0)) (.seq (.block 1 s41_22) s41_23))
def s41_25 : SCode := (.seq s41_3 (.block 0 (.loop (.seq s41_4 s41_24))))
def s41_26 : SCode := (.reg [(.mk (some 80) (.move (.tmp 5)) none), (.mk (some 4) (.assign (.tmp 80)) none)])
def s41_27 : SCode := (.seq s41_2 (.seq s41_25 (.seq s41_26 (.ret))))
def s41 : SCode := (.seq s41_0 (.seq s41_1 s41_27))
theorem h41 : FnS Try.prog 41 ⟨[78], []⟩ 81 [(.tmp 4)] s41 := .mk' Try.func41 (by kernel_rfl) (by kernel_rfl) (by kernel_rfl) (by kernel_rfl) (by kernel_rfl) (by kernel_rfl)
def e41 := And.intro s41_0.eq_1 <| And.intro s41_1.eq_1 <| And.intro s41_2.eq_1 <| And.intro s41_3.eq_1 <| And.intro s41_4.eq_1 <| And.intro s41_5.eq_1 <| And.intro s41_6.eq_1 <| And.intro s41_7.eq_1 <| And.intro s41_8.eq_1 <| And.intro s41_9.eq_1 <| And.intro s41_10.eq_1 <| And.intro s41_11.eq_1 <| And.intro s41_12.eq_1 <| And.intro s41_13.eq_1 <| And.intro s41_14.eq_1 <| And.intro s41_15.eq_1 <| And.intro s41_16.eq_1 <| And.intro s41_17.eq_1 <| And.intro s41_18.eq_1 <| And.intro s41_19.eq_1 <| And.intro s41_20.eq_1 <| And.intro s41_21.eq_1 <| And.intro s41_22.eq_1 <| And.intro s41_23.eq_1 <| And.intro s41_24.eq_1 <| And.intro s41_25.eq_1 <| And.intro s41_26.eq_1 <| s41_27.eq_1
def s47_0 : SCode := (.reg [(.mk (some 4) (.assign (.const (.bool false))) none)])
def s47_1 : SCode := (.reg [(.mk (some 5) (.move (.tmp 0)) none), (.mk (some 6) (.move (.tmp 1)) none), (.mk (some 7) (.call (.mk (.value (.func 61)) #[(.tmp 5), (.tmp 6)] #[22, 3])) none), (.mk (some 8) (.binOp (.geq) 3 (.tmp 7) (.const (.int (.i64) 0)) 3) none), (.mk (some 4) (.assign (.tmp 8)) none)])
def s47 : SCode := (.seq s47_0 (.seq s47_1 (.ret)))
theorem h47 : FnS Try.prog 47 ⟨[], []⟩ 9 [(.tmp 4)] s47 := .mk' Try.func47 (by kernel_rfl) (by kernel_rfl) (by kernel_rfl) (by kernel_rfl) (by kernel_rfl) (by kernel_rfl)
def e47 := And.intro s47_0.eq_1 <| s47_1.eq_1
def s57_0 : SCode := (.reg [(.mk (some 4) (.box 32 (.tmp 0)) none), (.mk (some 8) (.assign (.const (.bool false))) none)])
def s57_1 : SCode := (.reg [(.mk (some 13) (.move (.tmp 1)) none), (.mk (some 14) (.call (.mk (.builtin (.len)) #[(.tmp 13)] #[25])) none), (.mk (some 15) (.move (.const (.int (.i64) 0))) none)])
def s57_2 : SCode := (.reg [(.mk (some 16) (.binOp (.lss) 3 (.tmp 15) (.tmp 14) 3) none)])
def s57_3 : SCode := (.reg [(.mk (some 17) (.move (.tmp 15)) none), (.mk (some 18) (.indexAddr 25 (.tmp 13) (.tmp 15)) none), (.mk (some 19) (.load 22 (.tmp 18)) none), (.mk (some 9) (.assign (.tmp 17)) none), (.mk (some 10) (.assign (.tmp 19)) none)])
def s57_4 : SCode := (.reg [(.mk (some 20) (.move (.tmp 10)) none), (.mk (some 21) (.call (.mk (.builtin (.len)) #[(.tmp 20)] #[22])) none), (.mk (some 22) (.move (.const (.int (.i64) 0))) none)])
def s57_5 : SCode := (.reg [(.mk (some 23) (.binOp (.lss) 3 (.tmp 22) (.tmp 21) 3) none)])
def s57_6 : SCode := (.reg [(.mk (some 24) (.move (.tmp 22)) none), (.mk (some 25) (.indexAddr 22 (.tmp 20) (.tmp 22)) none), (.mk (some 26) (.load 3 (.tmp 25)) none), (.mk (some 11) (.assign (.tmp 24)) none), (.mk (some 12) (.assign (.tmp 26)) none)])
def s57_7 : SCode := (.reg [(.mk (some 27) (.move (.tmp 12)) none), (.mk (some 28) (.move (.tmp 2)) none), (.mk (some 29) (.move (.tmp 9)) none), (.mk (some 30) (.binOp (.add) 3 (.tmp 28) (.tmp 29) 3) none), (.mk (some 31) (.binOp (.geq) 3 (.tmp 27) (.tmp 30) 3) none), (.mk (some 32) (.move (.tmp 31)) none), (.mk (some 33) (.move (.tmp 12)) (some (32, false))), (.mk (some 34) (.move (.tmp 3)) (some (32, false))), (.mk (some 35) (.binOp (.gtr) 3 (.tmp 33) (.tmp 34) 3) (some (32, false))), (.mk (some 36) (.pick (.tmp 32) (.const (.bool true)) (.tmp 35)) none), (.mk (some 37) (.move (.tmp 36)) none), (.mk (some 38) (.load 32 (.tmp 4)) (some (37, false))), (.mk (some 39) (.move (.tmp 12)) (some (37, false))), (.mk (some 40) (.call (.mk (.value (.func 65)) #[(.tmp 38), (.tmp 39)] #[32, 3])) (some (37, false))), (.mk (some 41) (.unOp (.not) 4 (.tmp 40)) (some (37, false))), (.mk (some 42) (.pick (.tmp 37) (.const (.bool true)) (.tmp 41)) none), (.mk (some 43) (.move (.tmp 42)) none), (.mk (some 44) (.move (.tmp 10)) (some (43, false))), (.mk (some 45) (.move (.tmp 11)) (some (43, false))), (.mk (some 46) (.slice 22 (.tmp 44) none (some (.tmp 45)) none) (some (43, false))), (.mk (some 47) (.move (.tmp 12)) (some (43, false))), (.mk (some 48) (.call (.mk (.value (.func 47)) #[(.tmp 46), (.tmp 47)] #[22, 3])) (some (43, false))), (.mk (some 49) (.pick (.tmp 43) (.const (.bool true)) (.tmp 48)) none)])
def s57_8 : SCode := (.reg [(.mk (some 8) (.assign (.const (.bool false))) none)])
def s57_9 : SCode := (.cond (.tmp 49) (.seq s57_8 (.ret)) (.skip))
def s57_10 : SCode := (.block 3 (.seq s57_6 (.seq s57_7 s57_9)))
def s57_11 : SCode := (.reg [(.mk (some 50) (.binOp (.add) 3 (.tmp 22) (.const (.int (.i64) 1)) 3) none), (.mk (some 22) (.move (.tmp 50)) none)])
def s57_12 : SCode := (.seq (.cond (.tmp 23) (.skip) (.exit 2)) (.seq s57_10 s57_11))
def s57_13 : SCode := (.seq s57_4 (.block 2 (.loop (.seq s57_5 s57_12))))
def s57_14 : SCode := (.reg [(.mk (some 51) (.move (.tmp 10)) none), (.mk (some 52) (.call (.mk (.builtin (.len)) #[(.tmp 51)] #[22])) none), (.mk (some 53) (.binOp (.gtr) 3 (.tmp 52) (.const (.int (.i64) 4)) 3) none)])
def s57_15 : SCode := (.reg [(.mk (some 8) (.assign (.const (.bool false))) none)])
def s57_16 : SCode := (.cond (.tmp 53) (.seq s57_15 (.ret)) (.skip))
def s57_17 : SCode := (.seq s57_3 (.seq s57_13 (.seq s57_14 s57_16)))
def s57_18 : SCode := (.reg [(.mk (some 54) (.binOp (.add) 3 (.tmp 15) (.const (.int (.i64) 1)) 3) none), (.mk (some 15) (.move (.tmp 54)) none)])
def s57_19 : SCode := (.seq (.cond (.tmp 16) (.skip) (.exit 0)) (.seq (.block 1 s57_17) s57_18))
def s57_20 : SCode := (.seq s57_1 (.block 0 (.loop (.seq s57_2 s57_19))))
def s57_21 : SCode := (.reg [(.mk (some 8) (.assign (.const (.bool true))) none)])
def s57 : SCode := (.seq s57_0 (.seq s57_20 (.seq s57_21 (.ret))))
theorem h57 : FnS Try.prog 57 ⟨[4], []⟩ 55 [(.tmp 8)] s57 := .mk' Try.func57 (by kernel_rfl) (by kernel_rfl) (by kernel_rfl) (by kernel_rfl) (by kernel_rfl) (by kernel_rfl)
def e57 := And.intro s57_0.eq_1 <| And.intro s57_1.eq_1 <| And.intro s57_2.eq_1 <| And.intro s57_3.eq_1 <| And.intro s57_4.eq_1 <| And.intro s57_5.eq_1 <| And.intro s57_6.eq_1 <| And.intro s57_7.eq_1 <| And.intro s57_8.eq_1 <| And.intro s57_9.eq_1 <| And.intro s57_10.eq_1 <| And.intro s57_11.eq_1 <| And.intro s57_12.eq_1 <| And.intro s57_13.eq_1 <| And.intro s57_14.eq_1 <| And.intro s57_15.eq_1 <| And.intro s57_16.eq_1 <| And.intro s57_17.eq_1 <| And.intro s57_18.eq_1 <| And.intro s57_19.eq_1 <| And.intro s57_20.eq_1 <| s57_21.eq_1
def s58_0 : SCode := (.reg [(.mk (some 2) (.assign (.const (.slice none 0 0))) none)])
def s58_1 : SCode := (.reg [(.mk (some 3) (.move (.tmp 0)) none), (.mk (some 4) (.binOp (.eql) 22 (.tmp 3) (.const (.slice none 0 0)) 22) none)])
def s58_2 : SCode := (.reg [(.mk (some 2) (.assign (.const (.slice none 0 0))) none)])
def s58_3 : SCode := (.cond (.tmp 4) (.seq s58_2 (.ret)) (.skip))
def s58_4 : SCode := (.reg [(.mk (some 5) (.buildSlice 22 0 #[]) none), (.mk (some 6) (.move (.tmp 0)) none), (.mk (some 7) (.call (.mk (.builtin (.append)) #[(.tmp 5), (.tmp 6)] #[22, 22])) none), (.mk (some 2) (.assign (.tmp 7)) none)])
def s58_5 : SCode := (.seq (.seq s58_1 s58_3) (.seq s58_4 (.ret)))
def s58 : SCode := (.seq s58_0 s58_5)
theorem h58 : FnS Try.prog 58 ⟨[], []⟩ 8 [(.tmp 2)] s58 := .mk' Try.func58 (by kernel_rfl) (by kernel_rfl) (by kernel_rfl) (by kernel_rfl) (by kernel_rfl) (by kernel_rfl)
def e58 := And.intro s58_0.eq_1 <| And.intro s58_1.eq_1 <| And.intro s58_2.eq_1 <| And.intro s58_3.eq_1 <| And.intro s58_4.eq_1 <| s58_5.eq_1
def s61_0 : SCode := (.reg [(.mk (some 4) (.assign (.const (.int (.i64) 0))) none)])
def s61_1 : SCode := (.reg [(.mk (some 6) (.move (.tmp 0)) none), (.mk (some 7) (.call (.mk (.builtin (.len)) #[(.tmp 6)] #[22])) none), (.mk (some 8) (.move (.const (.int (.i64) 0))) none)])
def s61_2 : SCode := (.reg [(.mk (some 9) (.binOp (.lss) 3 (.tmp 8) (.tmp 7) 3) none)])
def s61_3 : SCode := (.reg [(.mk (some 10) (.move (.tmp 8)) none), (.mk (some 5) (.assign (.tmp 10)) none)])
def s61_4 : SCode := (.reg [(.mk (some 11) (.move (.tmp 1)) none), (.mk (some 12) (.move (.tmp 0)) none), (.mk (some 13) (.move (.tmp 5)) none), (.mk (some 14) (.indexAddr 22 (.tmp 12) (.tmp 13)) none), (.mk (some 15) (.load 3 (.tmp 14)) none), (.mk (some 16) (.binOp (.eql) 3 (.tmp 11) (.tmp 15) 3) none)])
def s61_5 : SCode := (.reg [(.mk (some 17) (.move (.tmp 5)) none), (.mk (some 4) (.assign (.tmp 17)) none)])
def s61_6 : SCode := (.cond (.tmp 16) (.seq s61_5 (.ret)) (.skip))
def s61_7 : SCode := (.block 1 (.seq s61_3 (.seq s61_4 s61_6)))
def s61_8 : SCode := (.reg [(.mk (some 18) (.binOp (.add) 3 (.tmp 8) (.const (.int (.i64) 1)) 3) none), (.mk (some 8) (.move (.tmp 18)) none)])
def s61_9 : SCode := (.seq (.cond (.tmp 9) (.skip) (.exit 0)) (.seq s61_7 s61_8))
def s61_10 : SCode := (.seq s61_1 (.block 0 (.loop (.seq s61_2 s61_9))))
def s61_11 : SCode := (.reg [(.mk (some 4) (.assign (.const (.int (.i64) (-1)))) none)])
def s61 : SCode := (.seq s61_0 (.seq s61_10 (.seq s61_11 (.ret))))
theorem h61 : FnS Try.prog 61 ⟨[], []⟩ 19 [(.tmp 4)] s61 := .mk' Try.func61 (by kernel_rfl) (by kernel_rfl) (by kernel_rfl) (by kernel_rfl) (by kernel_rfl) (by kernel_rfl)
def e61 := And.intro s61_0.eq_1 <| And.intro s61_1.eq_1 <| And.intro s61_2.eq_1 <| And.intro s61_3.eq_1 <| And.intro s61_4.eq_1 <| And.intro s61_5.eq_1 <| And.intro s61_6.eq_1 <| And.intro s61_7.eq_1 <| And.intro s61_8.eq_1 <| And.intro s61_9.eq_1 <| And.intro s61_10.eq_1 <| s61_11.eq_1
def s65_0 : SCode := (.reg [(.mk (some 2) (.box 32 (.tmp 0)) none), (.mk (some 4) (.assign (.const (.bool false))) none)])
def s65_1 : SCode := (.reg [(.mk (some 5) (.move (.tmp 1)) none), (.mk (some 6) (.binOp (.geq) 3 (.tmp 5) (.const (.int (.i64) 0)) 3) none), (.mk (some 7) (.move (.tmp 6)) none), (.mk (some 8) (.move (.tmp 1)) (some (7, true))), (.mk (some 9) (.fieldAddr 32 (.tmp 2) 0) (some (7, true))), (.mk (some 10) (.load 25 (.tmp 9)) (some (7, true))), (.mk (some 11) (.call (.mk (.builtin (.len)) #[(.tmp 10)] #[25])) (some (7, true))), (.mk (some 12) (.binOp (.lss) 3 (.tmp 8) (.tmp 11) 3) (some (7, true))), (.mk (some 13) (.pick (.tmp 7) (.tmp 12) (.const (.bool false))) none), (.mk (some 14) (.move (.tmp 13)) none), (.mk (some 15) (.move (.tmp 1)) (some (14, false))), (.mk (some 16) (.binOp (.geq) 3 (.tmp 15) (.const (.int (.i64) 1099511627776)) 3) (some (14, false))), (.mk (some 17) (.move (.tmp 16)) (some (14, false))), (.mk (some 18) (.move (.tmp 1)) (some (17, true))), (.mk (some 19) (.binOp (.sub) 3 (.tmp 18) (.const (.int (.i64) 1099511627776)) 3) (some (17, true))), (.mk (some 20) (.fieldAddr 32 (.tmp 2) 1) (some (17, true))), (.mk (some 21) (.load 25 (.tmp 20)) (some (17, true))), (.mk (some 22) (.call (.mk (.builtin (.len)) #[(.tmp 21)] #[25])) (some (17, true))), (.mk (some 23) (.binOp (.lss) 3 (.tmp 19) (.tmp 22) 3) (some (17, true))), (.mk (some 24) (.pick (.tmp 17) (.tmp 23) (.const (.bool false))) (some (14, false))), (.mk (some 25) (.pick (.tmp 14) (.const (.bool true)) (.tmp 24)) none), (.mk (some 4) (.assign (.tmp 25)) none)])
def s65 : SCode := (.seq s65_0 (.seq s65_1 (.ret)))
theorem h65 : FnS Try.prog 65 ⟨[2], []⟩ 26 [(.tmp 4)] s65 := .mk' Try.func65 (by kernel_rfl) (by kernel_rfl) (by kernel_rfl) (by kernel_rfl) (by kernel_rfl) (by kernel_rfl)
def e65 := And.intro s65_0.eq_1 <| s65_1.eq_1
end Gv.Try
set_option maxRecDepth 100000
set_option linter.defProp false
namespace Gv.Try
open Go Gv Go.Proofs
theorem els22 : els Try.prog 22 = (some (1, false)) := by kernel_rfl
theorem els25 : els Try.prog 25 = (some (1, false)) := by kernel_rfl
theorem els29 : els Try.prog 29 = (some (5, true)) := by kernel_rfl
theorem els46 : els Try.prog 46 = (some (1, false)) := by kernel_rfl
theorem elt22 : elt Try.prog 22 = (some (1, (8, [(.int (.i64) 0)]))) := by kernel_rfl
theorem elt25 : elt Try.prog 25 = (some (1, (24, [(.slice [] (.nil))]))) := by kernel_rfl
theorem elt29 : elt Try.prog 29 = (some (5, (48, [(.int (.i64) 0), (.int (.i64) 0), (.slice [] (.nil)), (.bool false), (.bool false)]))) := by kernel_rfl
theorem elt46 : elt Try.prog 46 = (some (1, (24, [(.slice [] (.nil))]))) := by kernel_rfl
theorem fld24_0 : fld Try.prog 24 0 = (some (0, (1, false))) := by kernel_rfl
theorem fld24_1 : fld Try.prog 24 1 = (some (1, (1, false))) := by kernel_rfl
theorem fld27_0 : fld Try.prog 27 0 = (some (0, (1, false))) := by kernel_rfl
theorem fld27_1 : fld Try.prog 27 1 = (some (1, (1, false))) := by kernel_rfl
theorem fld32_0 : fld Try.prog 32 0 = (some (0, (1, false))) := by kernel_rfl
theorem fld32_1 : fld Try.prog 32 1 = (some (1, (1, false))) := by kernel_rfl
theorem fld37_0 : fld Try.prog 37 0 = (some (0, (1, false))) := by kernel_rfl
theorem fld37_1 : fld Try.prog 37 1 = (some (1, (1, false))) := by kernel_rfl
theorem fld37_2 : fld Try.prog 37 2 = (some (2, (1, false))) := by kernel_rfl
theorem fld37_3 : fld Try.prog 37 3 = (some (3, (1, false))) := by kernel_rfl
theorem fld37_4 : fld Try.prog 37 4 = (some (4, (1, false))) := by kernel_rfl
theorem keyT90 : keyT Try.prog 90 = (some ((.mk [(.int)] false), 4)) := by kernel_rfl
theorem notInt22 : notInt Try.prog 22 = true := by kernel_rfl
theorem notInt24 : notInt Try.prog 24 = false := by kernel_rfl
theorem notInt25 : notInt Try.prog 25 = true := by kernel_rfl
theorem notInt27 : notInt Try.prog 27 = false := by kernel_rfl
theorem notInt29 : notInt Try.prog 29 = true := by kernel_rfl
theorem notInt3 : notInt Try.prog 3 = false := by kernel_rfl
theorem notInt32 : notInt Try.prog 32 = false := by kernel_rfl
theorem notInt37 : notInt Try.prog 37 = false := by kernel_rfl
theorem notInt46 : notInt Try.prog 46 = true := by kernel_rfl
theorem notInt79 : notInt Try.prog 79 = false := by kernel_rfl
theorem notInt88 : notInt Try.prog 88 = false := by kernel_rfl
theorem notInt90 : notInt Try.prog 90 = false := by kernel_rfl
theorem plc32 : plc Try.prog 32 = (some (.inl [(0, 1), (1, 1)])) := by kernel_rfl
theorem plc37 : plc Try.prog 37 = (some (.inl [(0, 1), (1, 1), (2, 1), (3, 1), (4, 1)])) := by kernel_rfl
theorem tab22 : tab Try.prog 22 = (some (1, false)) := by kernel_rfl
theorem tab24 : tab Try.prog 24 = (some (2, true)) := by kernel_rfl
theorem tab25 : tab Try.prog 25 = (some (1, false)) := by kernel_rfl
theorem tab27 : tab Try.prog 27 = (some (2, true)) := by kernel_rfl
theorem tab29 : tab Try.prog 29 = (some (1, false)) := by kernel_rfl
theorem tab3 : tab Try.prog 3 = (some (1, false)) := by kernel_rfl
theorem tab32 : tab Try.prog 32 = (some (2, true)) := by kernel_rfl
theorem tab37 : tab Try.prog 37 = (some (5, true)) := by kernel_rfl
theorem tab4 : tab Try.prog 4 = (some (1, false)) := by kernel_rfl
theorem und22 : Go.Program.underlying Try.prog 22 = (some (.slice 3)) := by kernel_rfl
theorem und25 : Go.Program.underlying Try.prog 25 = (some (.slice 22)) := by kernel_rfl
theorem und29 : Go.Program.underlying Try.prog 29 = (some (.slice 37)) := by kernel_rfl
theorem und3 : Go.Program.underlying Try.prog 3 = (some (.int (.i64))) := by kernel_rfl
theorem und4 : Go.Program.underlying Try.prog 4 = (some (.bool)) := by kernel_rfl
theorem und46 : Go.Program.underlying Try.prog 46 = (some (.slice 29)) := by kernel_rfl
theorem und79 : Go.Program.underlying Try.prog 79 = (some (.func #[37] #[4] false)) := by kernel_rfl
theorem und88 : Go.Program.underlying Try.prog 88 = (some (.func #[3] #[4] false)) := by kernel_rfl
theorem und90 : Go.Program.underlying Try.prog 90 = (some (.map 3 4)) := by kernel_rfl
theorem und94 : Go.Program.underlying Try.prog 94 = (some (.int (.u64))) := by kernel_rfl
theorem zer24 : zer Try.prog 24 = (some [(.slice [] (.nil)), (.slice [] (.nil))]) := by kernel_rfl
theorem zer27 : zer Try.prog 27 = (some [(.slice [] (.nil)), (.slice [] (.nil))]) := by kernel_rfl
theorem zer32 : zer Try.prog 32 = (some [(.slice [] (.nil)), (.slice [] (.nil))]) := by kernel_rfl
theorem zer37 : zer Try.prog 37 = (some [(.int (.i64) 0), (.int (.i64) 0), (.slice [] (.nil)), (.bool false), (.bool false)]) := by kernel_rfl
theorem zeroG4 : zeroG Try.prog 4 = (some (.bool false)) := by kernel_rfl
def fbA := And.intro els22 <| And.intro els25 <| And.intro els29 <| And.intro els46 <| And.intro elt22 <| And.intro elt25 <| And.intro elt29 <| And.intro elt46 <| And.intro fld24_0 <| And.intro fld24_1 <| And.intro fld27_0 <| And.intro fld27_1 <| And.intro fld32_0 <| And.intro fld32_1 <| And.intro fld37_0 <| And.intro fld37_1 <| And.intro fld37_2 <| And.intro fld37_3 <| And.intro fld37_4 <| And.intro keyT90 <| And.intro notInt22 <| And.intro notInt24 <| And.intro notInt25 <| And.intro notInt27 <| And.intro notInt29 <| And.intro notInt3 <| And.intro notInt32 <| And.intro notInt37 <| And.intro notInt46 <| And.intro notInt79 <| And.intro notInt88 <| And.intro notInt90 <| And.intro plc32 <| And.intro plc37 <| And.intro tab22 <| And.intro tab24 <| And.intro tab25 <| And.intro tab27 <| And.intro tab29 <| And.intro tab3 <| And.intro tab32 <| And.intro tab37 <| And.intro tab4 <| And.intro und22 <| And.intro und25 <| And.intro und29 <| And.intro und3 <| And.intro und4 <| And.intro und46 <| And.intro und79 <| And.intro und88 <| And.intro und90 <| And.intro und94 <| And.intro zer24 <| And.intro zer27 <| And.intro zer32 <| And.intro zer37 <| zeroG4
end Gv.Try
/- Small functions' contracts. -/
set_option linter.unusedVariables false
set_option linter.unusedSimpArgs false
namespace Gv.Try
open Go Gv Go.Proofs
theorem mixS : Try.prog.follows .mixedOrders = true := by kernel_rfl

theorem tmod_pick (n m : Int) (hm : 0 < m) : (n.tmod m < 0 → n.tmod m + m = n % m) ∧ (0 ≤ n.tmod m → n.tmod m = n % m) := by
  have h := Int.tmod_eq_emod (a := n) (b := m)
  have h1 := Int.emod_nonneg n (by omega : m ≠ 0)
  have h2 := Int.emod_lt_of_pos n hm
  split at h <;> rename_i h3
  · simp at h; omega
  · have : m ∣ n ↔ n % m = 0 := Int.dvd_iff_emod_eq_zero
    have : n % m ≠ 0 := fun e => h3 (.inr (this.2 e))
    omega

theorem spec25 (n m : Int) (hm : 0 < m) (hm2 : m ≤ 1000000000) : GPure Try.prog 25 [.int .i64 n, .int .i64 m] (.int .i64 (n % m)) := by
  refine h25.pure mixS (by simp) ?_
  simp only [gstart, s25, List.cons_append, List.nil_append, List.length_cons, List.length_nil, Nat.reduceAdd, Nat.reduceSub, List.replicate_succ, List.replicate_zero]
  simp +contextual -implicitDefEqProofs (maxSteps := 2000000) (disch := omega) only [binV, GVal.cells, grp, GVal.ofConst, ↓resV, resG, List.map, List.headD, List.take, List.drop, ↓reduceIte, Nat.reduceEqDiff, Nat.reduceAdd, Nat.reduceSub, Nat.reduceLeDiff, reduceCtorEq, implies_true, ne_eq, Tag.cap, List.replicate, allSolid, GVal.solid, Nat.reduceBEq, Nat.reduceMul, Nat.reduceLT, List.length_map, List.length_range, splice, vcA, ↓vcB, vcC, fbA, e25]
  obtain ⟨h1, h2⟩ := tmod_pick n m hm
  have h3 := Int.emod_nonneg n (by omega : m ≠ 0)
  have h4 := Int.emod_lt_of_pos n hm
  exact ⟨by omega, fun h => by rw [h1 h, norm_i64 (by omega)], h2⟩

def split : Int := 1099511627776
def ups (a : Int) (k : Nat) : List Int := (List.range k).map fun i : Nat => a + (i : Int)
theorem ups_length (a : Int) (k : Nat) : (ups a k).length = k := by simp [ups]
theorem ups_succ (a : Int) (k : Nat) : ups a (k + 1) = ups a k ++ [a + (k : Int)] := by simp [ups, List.range_succ]
theorem ups_zero (a : Int) : ups a 0 = [] := rfl
def allI (m o : Nat) : List Int := ups 0 m ++ ups split o

theorem spec14 (m o : List (List Int)) (tm to : Tag) (hm : m.length ≤ 1000) (ho : o.length ≤ 1000) :
    GPure Try.prog 14 [.agg [.slice (tabG m) tm, .slice (tabG o) to]] (.slice (ints (allI m.length o.length)) .none) := by
  refine h14.pure mixS (by simp) ?_
  simp only [gstart, s14, List.cons_append, List.nil_append, List.length_cons, List.length_nil, Nat.reduceAdd, Nat.reduceSub, List.replicate_succ, List.replicate_zero]
  simp +contextual -implicitDefEqProofs (maxSteps := 2000000) (disch := omega) only [↓lenV, binV, optV, ↓loadV, ↓fieldAddrV, ↓boxV, ↓buildSliceV, ↓sliceV, ↓appendV, ↓srcV, bound, cutTag, hiTag, fillE, GVal.cells, grp, GVal.ofConst, ↓resV, resG, List.map, List.headD, List.take, List.drop, ↓reduceIte, Nat.reduceEqDiff, Nat.reduceAdd, Nat.reduceSub, Nat.reduceLeDiff, reduceCtorEq, implies_true, ne_eq, ↓asrcV, Tag.cap, List.replicate, allSolid, GVal.solid, Nat.reduceBEq, Nat.reduceMul, Nat.reduceLT, List.length_map, List.length_range, splice, vcA, ↓vcB, vcC, fbA, e14]
  refine vcSLoop_by (ι := { p : Nat × Nat // p.1 ≤ m.length }) (fun p => ⟨[.any, .ref [.slice (tabG m) tm, .slice (tabG o) to], .any, .slice (ints (ups 0 p.1.1)) (.tok 0 p.1.2), .int .i64 (p.1.1 : Nat)] ++ List.replicate 25 .any, [.tok p.1.2 1]⟩) (fun p => m.length - p.1.1) ?_ ?_
  · refine Into.tok 3 1 [] rfl rfl ?_
    simp +contextual -implicitDefEqProofs (maxSteps := 2000000) (disch := omega) only [↓lenV, binV, optV, ↓loadV, ↓fieldAddrV, ↓boxV, ↓buildSliceV, ↓sliceV, ↓appendV, ↓srcV, bound, cutTag, hiTag, fillE, GVal.cells, grp, GVal.ofConst, ↓resV, resG, List.map, List.headD, List.take, List.drop, ↓reduceIte, Nat.reduceEqDiff, Nat.reduceAdd, Nat.reduceSub, Nat.reduceLeDiff, reduceCtorEq, implies_true, ne_eq, ↓asrcV, Tag.cap, List.replicate, allSolid, GVal.solid, Nat.reduceBEq, Nat.reduceMul, Nat.reduceLT, List.length_map, List.length_range, splice, vcA, ↓vcB, vcC, fbA, e14]
    intro t
    exact Into.first ⟨(0, t), by omega⟩ ⟨[], by simp⟩ (by simp [WL, leG_self, leG_any, ints, ups_zero])
  · rintro ⟨⟨k, t⟩, hk⟩
    simp +contextual -implicitDefEqProofs (maxSteps := 2000000) (disch := omega) only [↓lenV, binV, optV, ↓loadV, ↓fieldAddrV, ↓boxV, ↓buildSliceV, ↓sliceV, ↓appendV, ↓srcV, bound, cutTag, hiTag, fillE, GVal.cells, grp, GVal.ofConst, ↓resV, resG, List.map, List.headD, List.take, List.drop, ↓reduceIte, Nat.reduceEqDiff, Nat.reduceAdd, Nat.reduceSub, Nat.reduceLeDiff, reduceCtorEq, implies_true, ne_eq, ↓asrcV, Tag.cap, List.replicate, allSolid, GVal.solid, Nat.reduceBEq, Nat.reduceMul, Nat.reduceLT, List.length_map, List.length_range, splice, vcA, ↓vcB, vcC, fbA, e14, ups_length]
    refine ⟨fun h => ⟨by omega, by omega, fun st => ?_⟩, fun h => ?_⟩
    · exact Into.at ⟨(k + 1, st), by show k + 1 ≤ _; omega⟩ (by show _ < _; simp; omega) ⟨[], by simp⟩ (by simp [WL, leG_self, leG_any, leG_tok, leG_int, ups_succ, ints_append, ints_one])
    · have hk' : k = m.length := by simp at hk; omega
      subst hk'
      refine vcSLoop_by (ι := { p : Nat × Nat // p.1 ≤ o.length }) (fun p => ⟨[.any, .ref [.slice (tabG m) tm, .slice (tabG o) to], .any, .slice (ints (allI m.length p.1.1)) (.tok 0 p.1.2), .any, .int .i64 (p.1.1 : Nat)] ++ List.replicate 24 .any, [.tok p.1.2 1]⟩) (fun p => o.length - p.1.1) ?_ ?_
      · exact Into.first ⟨(0, t), by omega⟩ ⟨[], by simp⟩ (by simp [WL, leG_self, leG_any, leG_tok, allI, ups_zero])
      · rintro ⟨⟨k, t⟩, hk⟩
        have hl : (allI m.length k).length = m.length + k := by simp [allI, ups_length]
        simp +contextual -implicitDefEqProofs (maxSteps := 2000000) (disch := omega) only [↓lenV, binV, optV, ↓loadV, ↓fieldAddrV, ↓boxV, ↓buildSliceV, ↓sliceV, ↓appendV, ↓srcV, bound, cutTag, hiTag, fillE, GVal.cells, grp, GVal.ofConst, ↓resV, resG, List.map, List.headD, List.take, List.drop, ↓reduceIte, Nat.reduceEqDiff, Nat.reduceAdd, Nat.reduceSub, Nat.reduceLeDiff, reduceCtorEq, implies_true, ne_eq, ↓asrcV, Tag.cap, List.replicate, allSolid, GVal.solid, Nat.reduceBEq, Nat.reduceMul, Nat.reduceLT, List.length_map, List.length_range, splice, vcA, ↓vcB, vcC, fbA, e14, hl]
        refine ⟨fun h => ⟨by omega, by omega, fun st => ?_⟩, fun h => ?_⟩
        · exact Into.at ⟨(k + 1, st), by show k + 1 ≤ _; omega⟩ (by show _ < _; simp; omega) ⟨[], by simp⟩ (by simp [WL, leG_self, leG_any, leG_tok, leG_int, ups_succ, ints_append, ints_one, allI, split])
        · have hk' : k = o.length := by simp at hk; omega
          subst hk'
          rfl
end Gv.Try
/- Contracts: tables, lists. -/
set_option linter.unusedVariables false
set_option linter.unusedSimpArgs false
namespace Gv.Try
open Go Gv Go.Proofs

theorem spec13 (M O : List (List GVal)) (tm to : Tag) : GPure Try.prog 13 [.agg [.slice M tm, .slice O to]] (.agg [.slice M tm, .slice O to]) := by
  refine h13.pure mixS (by simp) ?_
  simp only [gstart, s13, List.cons_append, List.nil_append, List.length_cons, List.length_nil, Nat.reduceAdd, Nat.reduceSub, List.replicate_succ, List.replicate_zero]
  simp +contextual -implicitDefEqProofs (maxSteps := 2000000) (disch := omega) only [↓loadV, ↓storeV, ↓fieldAddrV, ↓allocV, ↓boxV, ↓buildV, fillG, place, GVal.cells, grp, GVal.ofConst, ↓resV, resG, List.map, List.headD, List.take, List.drop, ↓reduceIte, Nat.reduceEqDiff, Nat.reduceAdd, Nat.reduceSub, Nat.reduceLeDiff, reduceCtorEq, implies_true, ne_eq, Tag.cap, List.replicate, allSolid, GVal.solid, Nat.reduceBEq, Nat.reduceMul, Nat.reduceLT, List.length_map, List.length_range, splice, vcA, ↓vcB, vcC, fbA, e13]

/-- an ID's parents -/
def parI (m o : List (List Int)) (id : Int) : List Int :=
  if 0 ≤ id ∧ id < m.length then m.getD id.toNat [] else if split ≤ id ∧ id < split + o.length then o.getD (id - split).toNat [] else []
def hasI (m o : Nat) (id : Int) : Bool := decide ((0 ≤ id ∧ id < m) ∨ (split ≤ id ∧ id < split + o))

theorem spec65 (m o : List (List GVal)) (tm to : Tag) (id : Int) (hm : m.length ≤ 1000) (ho : o.length ≤ 1000) (hid : id ≤ 4611686018427387904) :
    GPure Try.prog 65 [.agg [.slice m tm, .slice o to], .int .i64 id] (.bool (hasI m.length o.length id)) := by
  refine h65.pure mixS (by simp) ?_
  simp only [gstart, s65, List.cons_append, List.nil_append, List.length_cons, List.length_nil, Nat.reduceAdd, Nat.reduceSub, List.replicate_succ, List.replicate_zero]
  simp +contextual -implicitDefEqProofs (maxSteps := 2000000) (disch := omega) only [↓lenV, binV, ↓loadV, ↓fieldAddrV, ↓boxV, GVal.cells, grp, GVal.ofConst, ↓resV, resG, List.map, List.headD, List.take, List.drop, ↓reduceIte, Nat.reduceEqDiff, Nat.reduceAdd, Nat.reduceSub, Nat.reduceLeDiff, reduceCtorEq, implies_true, ne_eq, Tag.cap, List.replicate, allSolid, GVal.solid, Nat.reduceBEq, Nat.reduceMul, Nat.reduceLT, List.length_map, List.length_range, splice, vcA, ↓vcB, vcC, fbA, e65]
  have e : ∀ b : Bool, ((0 ≤ id ∧ id < m.length) ∨ (split ≤ id ∧ id < split + o.length) ↔ b = true) → b = hasI m.length o.length id := by
    intro b hb
    rw [Bool.eq_iff_iff, ← hb]; simp [hasI]
  refine ⟨fun h0 => ⟨fun h1 => e _ (by simp; omega), fun h1 => ⟨fun h2 => e _ ?_, fun h2 => e _ (by simp [split]; omega)⟩⟩, fun h0 => ⟨fun h2 => by omega, fun h2 => e _ (by simp [split]; omega)⟩⟩
  rw [decide_eq_true_iff]; simp only [split]; omega

theorem ints_congr {a b : List Int} (h : a = b) (t : Tag) : leG (.slice (ints a) t) (.slice (ints b) .none) := by rw [leG_none, h]
theorem spec16 (m o : List (List Int)) (tm to : Tag) (id : Int) (hm : m.length ≤ 1000) (ho : o.length ≤ 1000) :
    GPure Try.prog 16 [.agg [.slice (tabG m) tm, .slice (tabG o) to], .int .i64 id] (.tuple [.slice (ints (parI m o id)) .none, .bool (hasI m.length o.length id)]) := by
  refine h16.pure mixS (by simp) ?_
  simp only [gstart, s16, List.cons_append, List.nil_append, List.length_cons, List.length_nil, Nat.reduceAdd, Nat.reduceSub, List.replicate_succ, List.replicate_zero]
  simp +contextual -implicitDefEqProofs (maxSteps := 2000000) (disch := omega) only [↓lenV, binV, optV, ↓loadV, ↓fieldAddrV, ↓indexAddrV, ↓boxV, ↓sliceV, bound, cutTag, hiTag, GVal.cells, grp, GVal.ofConst, ↓resV, resG, List.map, List.headD, List.take, List.drop, ↓reduceIte, Nat.reduceEqDiff, Nat.reduceAdd, Nat.reduceSub, Nat.reduceLeDiff, reduceCtorEq, implies_true, ne_eq, Tag.cap, List.replicate, allSolid, GVal.solid, Nat.reduceBEq, Nat.reduceMul, Nat.reduceLT, List.length_map, List.length_range, splice, vcA, ↓vcB, vcC, fbA, e16]
  have e : ∀ b : Bool, ((0 ≤ id ∧ id < m.length) ∨ (split ≤ id ∧ id < split + o.length) ↔ b = true) → b = hasI m.length o.length id := by
    intro b hb
    rw [Bool.eq_iff_iff, ← hb]; simp [hasI]
  have n1 : ∀ l : List Int, l = parI m o id → leG (.slice (ints l) .none) (.slice (ints (parI m o id)) .none) := fun l h => ints_congr h _
  have n2 : [] = parI m o id → leG (.slice [] .nil) (.slice (ints (parI m o id)) .none) := fun h => ints_congr (a := []) h _
  refine ⟨fun h0 => ⟨fun h1 => ⟨n1 _ ?_, e _ (by simp; omega)⟩, fun h1 => ⟨fun h2 => ⟨fun h3 => ⟨by omega, by omega, n1 _ ?_, e _ (by simp [split]; omega)⟩, fun h3 => ⟨n2 ?_, e _ (by simp [split]; omega)⟩⟩, fun h2 => ⟨n2 ?_, e _ (by simp [split]; omega)⟩⟩⟩,
    fun h0 => ⟨fun h2 => by omega, fun h2 => ⟨n2 ?_, e _ (by simp [split]; omega)⟩⟩⟩
  · rw [parI, if_pos ⟨h0, h1⟩]
  · rw [parI, if_neg (by omega), if_pos (by simp only [split]; omega)]; rfl
  · rw [parI, if_neg (by omega), if_neg (by simp only [split]; omega)]
  · rw [parI, if_neg (by omega), if_neg (by simp only [split]; omega)]
  · rw [parI, if_neg (by omega), if_neg (by simp only [split]; omega)]

theorem spec58 (l : List Int) (t : Tag) (hl : l.length ≤ 17592186044416) (ht : t = .nil → l = []) : GPure Try.prog 58 [.slice (ints l) t] (.slice (ints l) .none) := by
  refine h58.pure mixS (by simp) ?_
  simp only [gstart, s58, List.cons_append, List.nil_append, List.length_cons, List.length_nil, Nat.reduceAdd, Nat.reduceSub, List.replicate_succ, List.replicate_zero]
  simp +contextual -implicitDefEqProofs (maxSteps := 2000000) (disch := omega) only [binV, optV, ↓buildSliceV, ↓sliceV, ↓appendV, ↓srcV, bound, cutTag, hiTag, fillE, GVal.cells, grp, GVal.ofConst, ↓resV, resG, List.map, List.headD, List.take, List.drop, ↓reduceIte, Nat.reduceEqDiff, Nat.reduceAdd, Nat.reduceSub, Nat.reduceLeDiff, reduceCtorEq, implies_true, ne_eq, ↓asrcV, aggV, Tag.cap, List.replicate, allSolid, GVal.solid, Nat.reduceBEq, Nat.reduceMul, Nat.reduceLT, List.length_map, List.length_range, splice, vcA, ↓vcB, vcC, fbA, e58]
  exact ⟨fun h => by rw [ht h]; rfl, fun h h2 => ⟨by omega, by omega⟩⟩

/-- the first place of a number, or -1 -/
def idxI : List Int → Int → Int → Int
  | [], _, _ => -1
  | a :: l, x, k => if x = a then k else idxI l x (k + 1)
theorem idxI_drop (l : List Int) (x : Int) (k : Nat) (h : k < l.length) : idxI (l.drop k) x k = if x = l.getD k 0 then (k : Int) else idxI (l.drop (k + 1)) x ((k : Int) + 1) := by
  rw [List.drop_eq_getElem_cons h, idxI]
  simp [List.getD, h]
theorem idxI_neg : ∀ (l : List Int) (x k : Int), 0 ≤ k → (0 ≤ idxI l x k ↔ x ∈ l)
  | [], x, k, h => by simp [idxI]
  | a :: l, x, k, h => by
    unfold idxI
    split
    · rename_i e; subst e; simp [h]
    · rename_i e; rw [idxI_neg l x (k + 1) (by omega)]; simp [e]

theorem spec61 (l : List Int) (t : Tag) (x : Int) (hl : l.length ≤ 17592186044416) : GPure Try.prog 61 [.slice (ints l) t, .int .i64 x] (.int .i64 (idxI l x 0)) := by
  refine h61.pure mixS (by simp) ?_
  simp only [gstart, s61, List.cons_append, List.nil_append, List.length_cons, List.length_nil, Nat.reduceAdd, Nat.reduceSub, List.replicate_succ, List.replicate_zero]
  simp +contextual -implicitDefEqProofs (maxSteps := 2000000) (disch := omega) only [↓lenV, binV, ↓loadV, ↓indexAddrV, GVal.cells, grp, GVal.ofConst, ↓resV, resG, List.map, List.headD, List.take, List.drop, ↓reduceIte, Nat.reduceEqDiff, Nat.reduceAdd, Nat.reduceSub, Nat.reduceLeDiff, reduceCtorEq, implies_true, ne_eq, aggV, Tag.cap, List.replicate, allSolid, GVal.solid, Nat.reduceBEq, Nat.reduceMul, Nat.reduceLT, List.length_map, List.length_range, splice, vcA, ↓vcB, vcC, fbA, e61]
  refine vcSLoop_by (ι := { k : Nat // k ≤ l.length ∧ idxI l x 0 = idxI (l.drop k) x k }) (fun k => ⟨[.slice (ints l) t, .int .i64 x, .any, .any, .any, .any, .any, .int .i64 l.length, .int .i64 (k.1 : Nat)] ++ List.replicate 10 .any, []⟩) (fun k => l.length - k.1) ?_ ?_
  · exact Into.first ⟨0, by omega, by simp⟩ ⟨[], by simp⟩ (by simp [WL, leG_self, leG_any])
  · rintro ⟨k, hk, hx⟩
    simp +contextual -implicitDefEqProofs (maxSteps := 2000000) (disch := omega) only [↓lenV, binV, ↓loadV, ↓indexAddrV, GVal.cells, grp, GVal.ofConst, ↓resV, resG, List.map, List.headD, List.take, List.drop, ↓reduceIte, Nat.reduceEqDiff, Nat.reduceAdd, Nat.reduceSub, Nat.reduceLeDiff, reduceCtorEq, implies_true, ne_eq, aggV, Tag.cap, List.replicate, allSolid, GVal.solid, Nat.reduceBEq, Nat.reduceMul, Nat.reduceLT, List.length_map, List.length_range, splice, vcA, ↓vcB, vcC, fbA, e61]
    refine ⟨fun h => ⟨by omega, fun h2 => ?_, fun h2 => ?_⟩, fun h => ?_⟩
    · have := hx
      rw [idxI_drop l x k (by omega), if_pos h2] at this
      rw [← h2, this]
    · refine Into.at ⟨k + 1, by omega, ?_⟩ (by show _ < _; simp; omega) ⟨[], by simp⟩ (by simp [WL, leG_self, leG_any, leG_int])
      rw [hx, idxI_drop l x k (by omega), if_neg h2]; rfl
    · rw [hx, List.drop_eq_nil_of_le (by omega)]; rfl

theorem spec47 (l : List Int) (t : Tag) (x : Int) (hl : l.length ≤ 17592186044416) : GPure Try.prog 47 [.slice (ints l) t, .int .i64 x] (.bool (decide (x ∈ l))) := by
  refine h47.pure mixS (by simp) ?_
  simp only [gstart, s47, List.cons_append, List.nil_append, List.length_cons, List.length_nil, Nat.reduceAdd, Nat.reduceSub, List.replicate_succ, List.replicate_zero]
  simp +contextual -implicitDefEqProofs (maxSteps := 2000000) (disch := omega) only [binV, GVal.cells, grp, GVal.ofConst, ↓resV, resG, List.map, List.headD, List.take, List.drop, ↓reduceIte, Nat.reduceEqDiff, Nat.reduceAdd, Nat.reduceSub, Nat.reduceLeDiff, reduceCtorEq, implies_true, ne_eq, Tag.cap, List.replicate, allSolid, GVal.solid, Nat.reduceBEq, Nat.reduceMul, Nat.reduceLT, List.length_map, List.length_range, splice, vcA, ↓vcB, vcC, fbA, e47]
  refine (spec61 l t x hl).then ?_
  simp +contextual -implicitDefEqProofs (maxSteps := 2000000) (disch := omega) only [binV, GVal.cells, grp, GVal.ofConst, ↓resV, resG, List.map, List.headD, List.take, List.drop, ↓reduceIte, Nat.reduceEqDiff, Nat.reduceAdd, Nat.reduceSub, Nat.reduceLeDiff, reduceCtorEq, implies_true, ne_eq, Tag.cap, List.replicate, allSolid, GVal.solid, Nat.reduceBEq, Nat.reduceMul, Nat.reduceLT, List.length_map, List.length_range, splice, vcA, ↓vcB, vcC, fbA, e47]
  rw [eq_comm, Bool.eq_iff_iff, decide_eq_true_iff, decide_eq_true_iff, idxI_neg l x 0 (by omega)]

end Gv.Try
/- Contracts: equal lists, parents, what may be. -/
set_option linter.unusedVariables false
set_option maxRecDepth 20000
set_option linter.unusedSimpArgs false
namespace Gv.Try
open Go Gv Go.Proofs

theorem spec17 (a b : List Int) (ta tb : Tag) (ha : a.length ≤ 17592186044416) : GPure Try.prog 17 [.slice (ints a) ta, .slice (ints b) tb] (.bool (a == b)) := by
  refine h17.pure mixS (by simp) ?_
  simp only [gstart, s17, List.cons_append, List.nil_append, List.length_cons, List.length_nil, Nat.reduceAdd, Nat.reduceSub, List.replicate_succ, List.replicate_zero]
  simp +contextual -implicitDefEqProofs (maxSteps := 2000000) (disch := omega) only [drawC, ↓lenV, binV, ↓loadV, ↓indexAddrV, GVal.cells, grp, GVal.ofConst, ↓resV, resG, List.map, List.headD, List.take, List.drop, ↓reduceIte, Nat.reduceEqDiff, Nat.reduceAdd, Nat.reduceSub, Nat.reduceLeDiff, reduceCtorEq, implies_true, ne_eq, aggV, Tag.cap, List.replicate, allSolid, GVal.solid, Nat.reduceBEq, Nat.reduceMul, Nat.reduceLT, List.length_map, List.length_range, splice, vcA, ↓vcB, vcC, fbA, e17]
  refine ⟨fun h => ?_, fun h => ?_⟩
  · rw [eq_comm, beq_eq_false_iff_ne]; intro e; subst e; exact h rfl
  · have hlen : a.length = b.length := by omega
    refine vcSLoop_by (ι := { k : Nat // k ≤ a.length ∧ ∀ j, j < k → a.getD j 0 = b.getD j 0 }) (fun k => ⟨[.slice (ints a) ta, .slice (ints b) tb, .any, .any, .any, .int .i64 (k.1 : Nat)] ++ List.replicate 20 .any, []⟩) (fun k => a.length - k.1) ?_ ?_
    · exact Into.first ⟨0, by omega, by omega⟩ ⟨[], by simp⟩ (by simp [WL, leG_self, leG_any])
    rintro ⟨k, hk, hj⟩
    simp +contextual -implicitDefEqProofs (maxSteps := 2000000) (disch := omega) only [drawC, ↓lenV, binV, ↓loadV, ↓indexAddrV, GVal.cells, grp, GVal.ofConst, ↓resV, resG, List.map, List.headD, List.take, List.drop, ↓reduceIte, Nat.reduceEqDiff, Nat.reduceAdd, Nat.reduceSub, Nat.reduceLeDiff, reduceCtorEq, implies_true, ne_eq, aggV, Tag.cap, List.replicate, allSolid, GVal.solid, Nat.reduceBEq, Nat.reduceMul, Nat.reduceLT, List.length_map, List.length_range, splice, vcA, ↓vcB, vcC, fbA, e17]
    refine ⟨fun h1 => ⟨by omega, by omega, by omega, fun h2 => ?_, fun h2 => ?_⟩, fun h1 => ?_⟩
    · rw [eq_comm, beq_eq_false_iff_ne]; intro e; subst e; exact h2 rfl
    · refine Into.at ⟨k + 1, by omega, fun j hj' => ?_⟩ (by show _ < _; simp; omega) ⟨[], by simp⟩ (by simp [WL, leG_self, leG_any, leG_int])
      by_cases e : j = k
      · rw [e, h2]
      · exact hj j (by omega)
    · rw [eq_comm, beq_iff_eq]
      apply List.ext_getElem hlen
      intro i h3 h4
      have := hj i (by omega)
      simpa [List.getD, h3, h4] using this

def atI (n k : Int) (ids : List Int) : Int := ids.getD ((norm .i64 (n.tdiv k)) % (ids.length : Int)).toNat 0
def lastI (ids : List Int) : Int := ids.getD ((ids.length : Int) - 1).toNat 0
/-- the parents that are drawn -/
def par (n : Int) (ids : List Int) : List Int :=
  if ids.length = 0 then [] else
  if n % 12 = 0 then [] else
  if n % 12 = 1 then [atI n 12 ids] else
  if n % 12 = 2 then [atI n 12 ids] else
  if n % 12 = 3 ∨ n % 12 = 4 then (if atI n 12 ids = atI n 144 ids then [atI n 12 ids] else [atI n 12 ids, atI n 144 ids]) else
  if n % 12 = 5 then (if atI n 12 ids = lastI ids then [atI n 12 ids] else [atI n 12 ids, lastI ids]) else [lastI ids]

theorem spec40 (n : Int) (ids : List Int) (t : Tag) (hl : ids.length ≤ 1000000) : GPure Try.prog 40 [.int .i64 n, .slice (ints ids) t] (.slice (ints (par n ids)) .none) := by
  refine h40.pure mixS (by simp) ?_
  simp only [gstart, s40, List.cons_append, List.nil_append, List.length_cons, List.length_nil, Nat.reduceAdd, Nat.reduceSub, List.replicate_succ, List.replicate_zero]
  simp +contextual -implicitDefEqProofs (maxSteps := 2000000) (disch := omega) only [↓lenV, binV, optV, ↓loadV, ↓indexAddrV, ↓buildSliceV, ↓sliceV, bound, cutTag, hiTag, fillE, GVal.cells, grp, GVal.ofConst, ↓resV, resG, List.map, List.headD, List.take, List.drop, ↓reduceIte, Nat.reduceEqDiff, Nat.reduceAdd, Nat.reduceSub, Nat.reduceLeDiff, reduceCtorEq, implies_true, ne_eq, aggV, Tag.cap, List.replicate, allSolid, GVal.solid, Nat.reduceBEq, Nat.reduceMul, Nat.reduceLT, List.length_map, List.length_range, splice, vcA, ↓vcB, vcC, fbA, e40]
  refine ⟨fun h => ?_, fun h => ⟨by omega, by omega, (spec25 n 12 (by omega) (by omega)).then ?_⟩⟩
  · rw [par, if_pos (by omega)]; rfl
  simp +contextual -implicitDefEqProofs (maxSteps := 2000000) (disch := omega) only [↓lenV, binV, optV, ↓loadV, ↓indexAddrV, ↓buildSliceV, ↓sliceV, bound, cutTag, hiTag, fillE, GVal.cells, grp, GVal.ofConst, ↓resV, resG, List.map, List.headD, List.take, List.drop, ↓reduceIte, Nat.reduceEqDiff, Nat.reduceAdd, Nat.reduceSub, Nat.reduceLeDiff, reduceCtorEq, implies_true, ne_eq, aggV, Tag.cap, List.replicate, allSolid, GVal.solid, Nat.reduceBEq, Nat.reduceMul, Nat.reduceLT, List.length_map, List.length_range, splice, vcA, ↓vcB, vcC, fbA, e40]
  have hb : ∀ x : Int, 0 ≤ x % (ids.length : Int) ∧ x % (ids.length : Int) < ids.length := fun x => ⟨Int.emod_nonneg _ (by omega), Int.emod_lt_of_pos _ (by omega)⟩
  have h12 := hb (norm .i64 (n.tdiv 12))
  have h144 := hb (norm .i64 (n.tdiv 144))
  have e12 : ids.getD (norm .i64 (n.tdiv 12) % (ids.length : Int)).toNat 0 = atI n 12 ids := rfl
  have e144 : ids.getD (norm .i64 (n.tdiv 144) % (ids.length : Int)).toNat 0 = atI n 144 ids := rfl
  have el : ids.getD ((ids.length : Int) - 1).toNat 0 = lastI ids := rfl
  have hl0 : ids.length ≠ 0 := by omega
  have c12 := spec25 (norm .i64 (n.tdiv 12)) ids.length (by omega) (by omega)
  have c144 := spec25 (norm .i64 (n.tdiv 144)) ids.length (by omega) (by omega)
  refine ⟨fun h0 => ?_, fun h0 => ⟨fun h1 => ⟨by omega, c12.then ?_⟩, fun h1 => ⟨fun h2 => ⟨by omega, c12.then ?_⟩, fun h2 => ⟨fun h3 => ⟨by omega, c12.then ?_⟩, fun h3 => ⟨fun h4 => ⟨by omega, c12.then ?_⟩, fun h4 => ⟨fun h5 => ⟨by omega, c12.then ?_⟩, fun h5 => ?_⟩⟩⟩⟩⟩⟩
  · rw [par, if_neg hl0, if_pos h0]; rfl
  · simp +contextual -implicitDefEqProofs (maxSteps := 2000000) (disch := omega) only [↓lenV, binV, optV, ↓loadV, ↓indexAddrV, ↓buildSliceV, ↓sliceV, bound, cutTag, hiTag, fillE, GVal.cells, grp, GVal.ofConst, ↓resV, resG, List.map, List.headD, List.take, List.drop, ↓reduceIte, Nat.reduceEqDiff, Nat.reduceAdd, Nat.reduceSub, Nat.reduceLeDiff, reduceCtorEq, implies_true, ne_eq, aggV, Tag.cap, List.replicate, allSolid, GVal.solid, Nat.reduceBEq, Nat.reduceMul, Nat.reduceLT, List.length_map, List.length_range, splice, vcA, ↓vcB, vcC, fbA, e40, e12, e144, el]
    rw [par, if_neg hl0, if_neg h0, if_pos h1]; exact ⟨h12.1, h12.2, rfl⟩
  · simp +contextual -implicitDefEqProofs (maxSteps := 2000000) (disch := omega) only [↓lenV, binV, optV, ↓loadV, ↓indexAddrV, ↓buildSliceV, ↓sliceV, bound, cutTag, hiTag, fillE, GVal.cells, grp, GVal.ofConst, ↓resV, resG, List.map, List.headD, List.take, List.drop, ↓reduceIte, Nat.reduceEqDiff, Nat.reduceAdd, Nat.reduceSub, Nat.reduceLeDiff, reduceCtorEq, implies_true, ne_eq, aggV, Tag.cap, List.replicate, allSolid, GVal.solid, Nat.reduceBEq, Nat.reduceMul, Nat.reduceLT, List.length_map, List.length_range, splice, vcA, ↓vcB, vcC, fbA, e40, e12, e144, el]
    rw [par, if_neg hl0, if_neg h0, if_neg h1, if_pos h2]; exact ⟨h12.1, h12.2, rfl⟩
  · simp +contextual -implicitDefEqProofs (maxSteps := 2000000) (disch := omega) only [↓lenV, binV, optV, ↓loadV, ↓indexAddrV, ↓buildSliceV, ↓sliceV, bound, cutTag, hiTag, fillE, GVal.cells, grp, GVal.ofConst, ↓resV, resG, List.map, List.headD, List.take, List.drop, ↓reduceIte, Nat.reduceEqDiff, Nat.reduceAdd, Nat.reduceSub, Nat.reduceLeDiff, reduceCtorEq, implies_true, ne_eq, aggV, Tag.cap, List.replicate, allSolid, GVal.solid, Nat.reduceBEq, Nat.reduceMul, Nat.reduceLT, List.length_map, List.length_range, splice, vcA, ↓vcB, vcC, fbA, e40, e12, e144, el]
    refine ⟨h12.1, h12.2, by omega, c144.then ?_⟩
    simp +contextual -implicitDefEqProofs (maxSteps := 2000000) (disch := omega) only [↓lenV, binV, optV, ↓loadV, ↓indexAddrV, ↓buildSliceV, ↓sliceV, bound, cutTag, hiTag, fillE, GVal.cells, grp, GVal.ofConst, ↓resV, resG, List.map, List.headD, List.take, List.drop, ↓reduceIte, Nat.reduceEqDiff, Nat.reduceAdd, Nat.reduceSub, Nat.reduceLeDiff, reduceCtorEq, implies_true, ne_eq, aggV, Tag.cap, List.replicate, allSolid, GVal.solid, Nat.reduceBEq, Nat.reduceMul, Nat.reduceLT, List.length_map, List.length_range, splice, vcA, ↓vcB, vcC, fbA, e40, e12, e144, el]
    rw [par, if_neg hl0, if_neg h0, if_neg h1, if_neg h2, if_pos (.inl h3)]
    exact ⟨h144.1, h144.2, fun e => by rw [if_pos e, e]; rfl, fun e => by rw [if_neg e]; rfl⟩
  · simp +contextual -implicitDefEqProofs (maxSteps := 2000000) (disch := omega) only [↓lenV, binV, optV, ↓loadV, ↓indexAddrV, ↓buildSliceV, ↓sliceV, bound, cutTag, hiTag, fillE, GVal.cells, grp, GVal.ofConst, ↓resV, resG, List.map, List.headD, List.take, List.drop, ↓reduceIte, Nat.reduceEqDiff, Nat.reduceAdd, Nat.reduceSub, Nat.reduceLeDiff, reduceCtorEq, implies_true, ne_eq, aggV, Tag.cap, List.replicate, allSolid, GVal.solid, Nat.reduceBEq, Nat.reduceMul, Nat.reduceLT, List.length_map, List.length_range, splice, vcA, ↓vcB, vcC, fbA, e40, e12, e144, el]
    refine ⟨h12.1, h12.2, by omega, c144.then ?_⟩
    simp +contextual -implicitDefEqProofs (maxSteps := 2000000) (disch := omega) only [↓lenV, binV, optV, ↓loadV, ↓indexAddrV, ↓buildSliceV, ↓sliceV, bound, cutTag, hiTag, fillE, GVal.cells, grp, GVal.ofConst, ↓resV, resG, List.map, List.headD, List.take, List.drop, ↓reduceIte, Nat.reduceEqDiff, Nat.reduceAdd, Nat.reduceSub, Nat.reduceLeDiff, reduceCtorEq, implies_true, ne_eq, aggV, Tag.cap, List.replicate, allSolid, GVal.solid, Nat.reduceBEq, Nat.reduceMul, Nat.reduceLT, List.length_map, List.length_range, splice, vcA, ↓vcB, vcC, fbA, e40, e12, e144, el]
    rw [par, if_neg hl0, if_neg h0, if_neg h1, if_neg h2, if_pos (.inr h4)]
    exact ⟨h144.1, h144.2, fun e => by rw [if_pos e, e]; rfl, fun e => by rw [if_neg e]; rfl⟩
  · simp +contextual -implicitDefEqProofs (maxSteps := 2000000) (disch := omega) only [↓lenV, binV, optV, ↓loadV, ↓indexAddrV, ↓buildSliceV, ↓sliceV, bound, cutTag, hiTag, fillE, GVal.cells, grp, GVal.ofConst, ↓resV, resG, List.map, List.headD, List.take, List.drop, ↓reduceIte, Nat.reduceEqDiff, Nat.reduceAdd, Nat.reduceSub, Nat.reduceLeDiff, reduceCtorEq, implies_true, ne_eq, aggV, Tag.cap, List.replicate, allSolid, GVal.solid, Nat.reduceBEq, Nat.reduceMul, Nat.reduceLT, List.length_map, List.length_range, splice, vcA, ↓vcB, vcC, fbA, e40, e12, e144, el]
    rw [par, if_neg hl0, if_neg h0, if_neg h1, if_neg h2, if_neg (by omega), if_pos h5]
    exact ⟨h12.1, h12.2, fun e => by rw [if_pos e, e]; rfl, fun e => by rw [if_neg e]; rfl⟩
  · rw [el, par, if_neg hl0, if_neg h0, if_neg h1, if_neg h2, if_neg (by omega), if_neg h5]; rfl

/-- may an ID's parents be? -/
def okRow (m o : Nat) (lim most : Int) : List Int → List Int → Bool
  | _, [] => true
  | seen, p :: r => !(decide (lim ≤ p) || decide (most < p) || !hasI m o p || decide (p ∈ seen)) && okRow m o lim most (seen ++ [p]) r
def okG (m o : Nat) (most : Int) (frm : Int) : List (List Int) → Bool
  | [] => true
  | p :: r => okRow m o frm most [] p && decide (p.length ≤ 4) && okG m o most (frm + 1) r

theorem okRow_drop {m o : Nat} {lim most : Int} {l : List Int} {i : Nat} (h : i < l.length) : okRow m o lim most (l.take i) (l.drop i) =
    (!(decide (lim ≤ l.getD i 0) || decide (most < l.getD i 0) || !hasI m o (l.getD i 0) || decide (l.getD i 0 ∈ l.take i)) && okRow m o lim most (l.take (i + 1)) (l.drop (i + 1))) := by
  rw [List.drop_eq_getElem_cons h, okRow]
  simp [List.getD, h]
theorem okG_drop {m o : Nat} {most frm : Int} {l : List (List Int)} {i : Nat} (h : i < l.length) : okG m o most (frm + i) (l.drop i) =
    (okRow m o (frm + i) most [] (l.getD i []) && decide ((l.getD i []).length ≤ 4) && okG m o most (frm + ((i + 1 : Nat) : Int)) (l.drop (i + 1))) := by
  rw [List.drop_eq_getElem_cons h, okG]
  simp [List.getD, h, Int.add_assoc]

theorem ints_take (l : List Int) (i : Nat) : (ints l).take i = ints (l.take i) := by simp [ints]
theorem ints_drop (l : List Int) (i : Nat) : (ints l).drop i = ints (l.drop i) := by simp [ints]

theorem spec57 (m o l : List (List Int)) (tm to tl : Tag) (frm most : Int) (hm : m.length ≤ 1000) (ho : o.length ≤ 1000) (hl : l.length ≤ 1000) (hf : 0 ≤ frm) (hf2 : frm ≤ 1099511627776) (hr : ∀ p ∈ l, p.length ≤ 17592186044416) :
    GPure Try.prog 57 [.agg [.slice (tabG m) tm, .slice (tabG o) to], .slice (tabG l) tl, .int .i64 frm, .int .i64 most] (.bool (okG m.length o.length most frm l)) := by
  refine h57.pure mixS (by simp) ?_
  simp only [gstart, s57, List.cons_append, List.nil_append, List.length_cons, List.length_nil, Nat.reduceAdd, Nat.reduceSub, List.replicate_succ, List.replicate_zero]
  simp +contextual -implicitDefEqProofs (maxSteps := 2000000) (disch := omega) only [↓lenV, binV, ↓unV, optV, ↓loadV, ↓indexAddrV, ↓boxV, ↓sliceV, bound, cutTag, hiTag, GVal.cells, grp, GVal.ofConst, ↓resV, resG, List.map, List.headD, List.take, List.drop, ↓reduceIte, Nat.reduceEqDiff, Nat.reduceAdd, Nat.reduceSub, Nat.reduceLeDiff, reduceCtorEq, implies_true, ne_eq, Tag.cap, List.replicate, allSolid, GVal.solid, Nat.reduceBEq, Nat.reduceMul, Nat.reduceLT, List.length_map, List.length_range, splice, vcA, ↓vcB, vcC, fbA, e57]
  refine vcSLoop_by (ι := { k : Nat // k ≤ l.length ∧ okG m.length o.length most frm l = okG m.length o.length most (frm + k) (l.drop k) }) (fun k => ⟨[.agg [.slice (tabG m) tm, .slice (tabG o) to], .slice (tabG l) tl, .int .i64 frm, .int .i64 most, .ref [.slice (tabG m) tm, .slice (tabG o) to], .any, .any, .any, .any, .any, .any, .any, .any, .slice (tabG l) tl, .int .i64 l.length, .int .i64 (k.1 : Nat)] ++ List.replicate 39 .any, []⟩) (fun k => l.length - k.1) ?_ ?_
  · exact Into.first ⟨0, by omega, by simp⟩ ⟨[], by simp⟩ (by simp [WL, leG_self, leG_any])
  · rintro ⟨k, hk, hx⟩
    simp +contextual -implicitDefEqProofs (maxSteps := 2000000) (disch := omega) only [↓lenV, binV, ↓unV, optV, ↓loadV, ↓indexAddrV, ↓boxV, ↓sliceV, bound, cutTag, hiTag, GVal.cells, grp, GVal.ofConst, ↓resV, resG, List.map, List.headD, List.take, List.drop, ↓reduceIte, Nat.reduceEqDiff, Nat.reduceAdd, Nat.reduceSub, Nat.reduceLeDiff, reduceCtorEq, implies_true, ne_eq, Tag.cap, List.replicate, allSolid, GVal.solid, Nat.reduceBEq, Nat.reduceMul, Nat.reduceLT, List.length_map, List.length_range, splice, vcA, ↓vcB, vcC, fbA, e57]
    refine ⟨fun h => ⟨by omega, ?_⟩, fun h => ?_⟩
    · have hkl : k < l.length := by omega
      have hq : (l.getD k []).length ≤ 17592186044416 := by
        rw [List.getD_eq_getElem?_getD, List.getElem?_eq_getElem hkl]; exact hr _ (List.getElem_mem hkl)
      rw [okG_drop hkl] at hx
      revert hx
      generalize l.getD k [] = q at *
      intro hx
      refine vcSLoop_by (ι := { i : Nat // i ≤ q.length ∧ okRow m.length o.length (frm + k) most [] q = okRow m.length o.length (frm + k) most (q.take i) (q.drop i) }) (fun i => ⟨[.agg [.slice (tabG m) tm, .slice (tabG o) to], .slice (tabG l) tl, .int .i64 frm, .int .i64 most, .ref [.slice (tabG m) tm, .slice (tabG o) to], .any, .any, .any, .any, .int .i64 (k : Nat), .slice (ints q) .none, .any, .any, .slice (tabG l) tl, .int .i64 l.length, .int .i64 (k : Nat), .any, .any, .any, .any, .slice (ints q) .none, .int .i64 q.length, .int .i64 (i.1 : Nat)] ++ List.replicate 32 .any, []⟩) (fun i => q.length - i.1) ?_ ?_
      · exact Into.first ⟨0, by omega, by simp⟩ ⟨[], by simp⟩ (by simp [WL, leG_self, leG_any])
      · rintro ⟨i, hi, hy⟩
        simp +contextual -implicitDefEqProofs (maxSteps := 2000000) (disch := omega) only [↓lenV, binV, ↓unV, optV, ↓loadV, ↓indexAddrV, ↓boxV, ↓sliceV, bound, cutTag, hiTag, GVal.cells, grp, GVal.ofConst, ↓resV, resG, List.map, List.headD, List.take, List.drop, ↓reduceIte, Nat.reduceEqDiff, Nat.reduceAdd, Nat.reduceSub, Nat.reduceLeDiff, reduceCtorEq, implies_true, ne_eq, Tag.cap, List.replicate, allSolid, GVal.solid, Nat.reduceBEq, Nat.reduceMul, Nat.reduceLT, List.length_map, List.length_range, splice, vcA, ↓vcB, vcC, fbA, e57]
        refine ⟨fun h2 => ⟨by omega, fun h3 => ?_, fun h3 => ?_⟩, fun h2 => ?_⟩
        · have hz := hy.trans (okRow_drop (by omega))
          rw [hx, hz, decide_eq_true h3]; simp
        · have hz := hy.trans (okRow_drop (by omega))
          rw [decide_eq_false (by omega : ¬ frm + (k : Int) ≤ q.getD i 0), Bool.false_or] at hz
          refine ⟨fun h4 => ?_, fun h4 => ?_⟩
          · rw [hx, hz, decide_eq_true h4]; simp
          rw [decide_eq_false (by omega : ¬ most < q.getD i 0), Bool.false_or] at hz
          have c65 := spec65 (tabG m) (tabG o) tm to (q.getD i 0) (by rw [tabG_length]; exact hm) (by rw [tabG_length]; exact ho) (by omega)
          rw [tabG_length, tabG_length] at c65
          cases hh : hasI m.length o.length (q.getD i 0)
          · rw [hh] at c65 hz
            refine c65.then ?_
            simp +contextual -implicitDefEqProofs (maxSteps := 2000000) (disch := omega) only [↓lenV, binV, ↓unV, optV, ↓loadV, ↓indexAddrV, ↓boxV, ↓sliceV, bound, cutTag, hiTag, GVal.cells, grp, GVal.ofConst, ↓resV, resG, List.map, List.headD, List.take, List.drop, ↓reduceIte, Nat.reduceEqDiff, Nat.reduceAdd, Nat.reduceSub, Nat.reduceLeDiff, reduceCtorEq, implies_true, ne_eq, Tag.cap, List.replicate, allSolid, GVal.solid, Nat.reduceBEq, Nat.reduceMul, Nat.reduceLT, List.length_map, List.length_range, splice, vcA, ↓vcB, vcC, fbA, e57]
            rw [hx, hz]; simp
          · rw [hh, Bool.not_true, Bool.false_or] at hz
            rw [hh] at c65
            refine c65.then ?_
            simp +contextual -implicitDefEqProofs (maxSteps := 2000000) (disch := omega) only [↓lenV, binV, ↓unV, optV, ↓loadV, ↓indexAddrV, ↓boxV, ↓sliceV, bound, cutTag, hiTag, GVal.cells, grp, GVal.ofConst, ↓resV, resG, List.map, List.headD, List.take, List.drop, ↓reduceIte, Nat.reduceEqDiff, Nat.reduceAdd, Nat.reduceSub, Nat.reduceLeDiff, reduceCtorEq, implies_true, ne_eq, Tag.cap, List.replicate, allSolid, GVal.solid, Nat.reduceBEq, Nat.reduceMul, Nat.reduceLT, List.length_map, List.length_range, splice, vcA, ↓vcB, vcC, fbA, e57, ints_take, Int.toNat_zero]
            refine ⟨by omega, by omega, by omega, (spec47 (q.take i) .none (q.getD i 0) (by rw [List.length_take]; omega)).then ?_⟩
            simp +contextual -implicitDefEqProofs (maxSteps := 2000000) (disch := omega) only [↓lenV, binV, ↓unV, optV, ↓loadV, ↓indexAddrV, ↓boxV, ↓sliceV, bound, cutTag, hiTag, GVal.cells, grp, GVal.ofConst, ↓resV, resG, List.map, List.headD, List.take, List.drop, ↓reduceIte, Nat.reduceEqDiff, Nat.reduceAdd, Nat.reduceSub, Nat.reduceLeDiff, reduceCtorEq, implies_true, ne_eq, Tag.cap, List.replicate, allSolid, GVal.solid, Nat.reduceBEq, Nat.reduceMul, Nat.reduceLT, List.length_map, List.length_range, splice, vcA, ↓vcB, vcC, fbA, e57]
            refine ⟨fun h5 => ?_, fun h5 => ?_⟩
            · rw [hx, hz, decide_eq_true h5]; rfl
            · rw [decide_eq_false h5, Bool.not_false, Bool.true_and] at hz
              exact Into.at ⟨i + 1, by omega, hz⟩ (by show _ < _; simp; omega) ⟨[], by simp⟩ (by simp [WL, leG_self, leG_any, leG_int])
        · have hz : okRow m.length o.length (frm + k) most [] q = true := by rw [hy, List.drop_eq_nil_of_le (by omega), okRow]
          rw [hz, Bool.true_and] at hx
          refine ⟨fun h3 => ?_, fun h3 => ?_⟩
          · rw [hx, decide_eq_false (by omega)]; rfl
          · rw [decide_eq_true (by omega), Bool.true_and] at hx
            exact Into.at ⟨k + 1, by omega, hx⟩ (by show _ < _; simp; omega) ⟨[], by simp⟩ (by simp [WL, leG_self, leG_any, leG_int])
    · rw [hx, List.drop_eq_nil_of_le (by omega)]; rfl

/-- may a table be? -/
def rightI (m o : List (List Int)) : Bool := okG m.length o.length 1099511627775 0 m && okG m.length o.length (split + o.length) split o
theorem spec34 (m o : List (List Int)) (tm to : Tag) (hm : m.length ≤ 1000) (ho : o.length ≤ 1000) (hr : ∀ p ∈ m, p.length ≤ 17592186044416) (hr2 : ∀ p ∈ o, p.length ≤ 17592186044416) :
    GPure Try.prog 34 [.agg [.slice (tabG m) tm, .slice (tabG o) to]] (.bool (rightI m o)) := by
  refine h34.pure mixS (by simp) ?_
  simp only [gstart, s34, List.cons_append, List.nil_append, List.length_cons, List.length_nil, Nat.reduceAdd, Nat.reduceSub, List.replicate_succ, List.replicate_zero]
  simp +contextual -implicitDefEqProofs (maxSteps := 2000000) (disch := omega) only [↓lenV, binV, ↓loadV, ↓fieldAddrV, ↓boxV, GVal.cells, grp, GVal.ofConst, ↓resV, resG, List.map, List.headD, List.take, List.drop, ↓reduceIte, Nat.reduceEqDiff, Nat.reduceAdd, Nat.reduceSub, Nat.reduceLeDiff, reduceCtorEq, implies_true, ne_eq, Tag.cap, List.replicate, allSolid, GVal.solid, Nat.reduceBEq, Nat.reduceMul, Nat.reduceLT, List.length_map, List.length_range, splice, vcA, ↓vcB, vcC, fbA, e34]
  have c1 := spec57 m o m tm to tm 0 1099511627775 hm ho hm (by omega) (by omega) hr
  have c2 := spec57 m o o tm to to 1099511627776 (1099511627776 + o.length) hm ho ho (by omega) (by omega) hr2
  unfold rightI split
  cases hh : okG m.length o.length 1099511627775 0 m
  · rw [hh] at c1
    refine c1.then ?_
    simp +contextual -implicitDefEqProofs (maxSteps := 2000000) (disch := omega) only [↓lenV, binV, ↓loadV, ↓fieldAddrV, ↓boxV, GVal.cells, grp, GVal.ofConst, ↓resV, resG, List.map, List.headD, List.take, List.drop, ↓reduceIte, Nat.reduceEqDiff, Nat.reduceAdd, Nat.reduceSub, Nat.reduceLeDiff, reduceCtorEq, implies_true, ne_eq, Tag.cap, List.replicate, allSolid, GVal.solid, Nat.reduceBEq, Nat.reduceMul, Nat.reduceLT, List.length_map, List.length_range, splice, vcA, ↓vcB, vcC, fbA, e34]
    rfl
  · rw [hh] at c1
    refine c1.then ?_
    simp +contextual -implicitDefEqProofs (maxSteps := 2000000) (disch := omega) only [↓lenV, binV, ↓loadV, ↓fieldAddrV, ↓boxV, GVal.cells, grp, GVal.ofConst, ↓resV, resG, List.map, List.headD, List.take, List.drop, ↓reduceIte, Nat.reduceEqDiff, Nat.reduceAdd, Nat.reduceSub, Nat.reduceLeDiff, reduceCtorEq, implies_true, ne_eq, Tag.cap, List.replicate, allSolid, GVal.solid, Nat.reduceBEq, Nat.reduceMul, Nat.reduceLT, List.length_map, List.length_range, splice, vcA, ↓vcB, vcC, fbA, e34]
    refine c2.then ?_
    simp +contextual -implicitDefEqProofs (maxSteps := 2000000) (disch := omega) only [↓lenV, binV, ↓loadV, ↓fieldAddrV, ↓boxV, GVal.cells, grp, GVal.ofConst, ↓resV, resG, List.map, List.headD, List.take, List.drop, ↓reduceIte, Nat.reduceEqDiff, Nat.reduceAdd, Nat.reduceSub, Nat.reduceLeDiff, reduceCtorEq, implies_true, ne_eq, Tag.cap, List.replicate, allSolid, GVal.solid, Nat.reduceBEq, Nat.reduceMul, Nat.reduceLT, List.length_map, List.length_range, splice, vcA, ↓vcB, vcC, fbA, e34]
    simp

end Gv.Try
