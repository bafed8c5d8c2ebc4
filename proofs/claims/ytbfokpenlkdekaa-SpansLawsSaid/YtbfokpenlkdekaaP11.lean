import Derived.Test.YtbfokpenlkdekaaP6
import Derived.Test.YtbfokpenlkdekaaProg
import Derived.KernelRfl
import Derived.Test.YtbfokpenlkdekaaP10
import Derived.ChangeArms
import Derived.Carry
import Derived.Test.YtbfokpenlkdekaaP7
set_option maxRecDepth 100000
set_option linter.defProp false
namespace Gv.Try
open Go Gv Go.Proofs
def s3_0 : SCode := (.reg [(.mk (some 6) (.assign (.const (.bool false))) none)])
def s3_1 : SCode := (.reg [(.mk (some 12) (.move (.tmp 0)) none), (.mk (some 13) (.call (.mk (.value (.func 9)) #[(.tmp 12), (.const (.bool true))] #[22, 4])) none), (.mk (some 7) (.assign (.tmp 13)) none)])
def s3_2 : SCode := (.reg [(.mk (some 14) (.move (.tmp 1)) none), (.mk (some 15) (.call (.mk (.value (.func 9)) #[(.tmp 14), (.const (.bool true))] #[22, 4])) none), (.mk (some 8) (.assign (.tmp 15)) none)])
def s3_3 : SCode := (.reg [(.mk (some 16) (.move (.tmp 2)) none), (.mk (some 17) (.call (.mk (.value (.func 9)) #[(.tmp 16), (.const (.bool true))] #[22, 4])) none), (.mk (some 9) (.assign (.tmp 17)) none)])
def s3_4 : SCode := (.reg [(.mk (some 18) (.move (.tmp 7)) none), (.mk (some 19) (.move (.tmp 8)) none), (.mk (some 20) (.call (.mk (.value (.func 10)) #[(.tmp 18), (.tmp 19)] #[23, 23])) none), (.mk (some 10) (.assign (.tmp 20)) none)])
def s3_5 : SCode := (.reg [(.mk (some 21) (.move (.tmp 8)) none), (.mk (some 22) (.move (.tmp 7)) none), (.mk (some 23) (.call (.mk (.value (.func 10)) #[(.tmp 21), (.tmp 22)] #[23, 23])) none), (.mk (some 11) (.assign (.tmp 23)) none)])
def s3_6 : SCode := (.reg [(.mk (some 24) (.call (.mk (.value (.func 11)) #[] #[])) none), (.mk (some 25) (.move (.tmp 24)) none), (.mk (some 26) (.move (.tmp 10)) (some (25, true))), (.mk (some 27) (.move (.tmp 11)) (some (25, true))), (.mk (some 28) (.call (.mk (.value (.func 12)) #[(.tmp 26), (.tmp 27)] #[23, 23])) (some (25, true))), (.mk (some 29) (.call (.mk (.builtin (.len)) #[(.tmp 28)] #[23])) (some (25, true))), (.mk (some 30) (.binOp (.eql) 3 (.tmp 29) (.const (.int (.i64) 0)) 3) (some (25, true))), (.mk (some 31) (.pick (.tmp 25) (.tmp 30) (.const (.bool false))) none), (.mk (some 32) (.move (.tmp 31)) none), (.mk (some 33) (.move (.tmp 7)) (some (32, true))), (.mk (some 34) (.move (.tmp 8)) (some (32, true))), (.mk (some 35) (.call (.mk (.value (.func 14)) #[(.tmp 33), (.tmp 34)] #[23, 23])) (some (32, true))), (.mk (some 36) (.move (.tmp 9)) (some (32, true))), (.mk (some 37) (.call (.mk (.value (.func 14)) #[(.tmp 35), (.tmp 36)] #[23, 23])) (some (32, true))), (.mk (some 38) (.move (.tmp 7)) (some (32, true))), (.mk (some 39) (.move (.tmp 9)) (some (32, true))), (.mk (some 40) (.move (.tmp 8)) (some (32, true))), (.mk (some 41) (.call (.mk (.value (.func 14)) #[(.tmp 39), (.tmp 40)] #[23, 23])) (some (32, true))), (.mk (some 42) (.call (.mk (.value (.func 14)) #[(.tmp 38), (.tmp 41)] #[23, 23])) (some (32, true))), (.mk (some 43) (.call (.mk (.value (.func 13)) #[(.tmp 37), (.tmp 42)] #[23, 23])) (some (32, true))), (.mk (some 44) (.pick (.tmp 32) (.tmp 43) (.const (.bool false))) none), (.mk (some 45) (.move (.tmp 44)) none), (.mk (some 46) (.move (.tmp 7)) (some (45, true))), (.mk (some 47) (.move (.tmp 8)) (some (45, true))), (.mk (some 48) (.call (.mk (.value (.func 14)) #[(.tmp 46), (.tmp 47)] #[23, 23])) (some (45, true))), (.mk (some 49) (.move (.tmp 7)) (some (45, true))), (.mk (some 50) (.move (.tmp 8)) (some (45, true))), (.mk (some 51) (.call (.mk (.value (.func 12)) #[(.tmp 49), (.tmp 50)] #[23, 23])) (some (45, true))), (.mk (some 52) (.call (.mk (.value (.func 10)) #[(.tmp 48), (.tmp 51)] #[23, 23])) (some (45, true))), (.mk (some 53) (.move (.tmp 10)) (some (45, true))), (.mk (some 54) (.move (.tmp 11)) (some (45, true))), (.mk (some 55) (.call (.mk (.value (.func 14)) #[(.tmp 53), (.tmp 54)] #[23, 23])) (some (45, true))), (.mk (some 56) (.call (.mk (.value (.func 13)) #[(.tmp 52), (.tmp 55)] #[23, 23])) (some (45, true))), (.mk (some 57) (.pick (.tmp 45) (.tmp 56) (.const (.bool false))) none), (.mk (some 58) (.move (.tmp 57)) none), (.mk (some 59) (.move (.tmp 7)) (some (58, true))), (.mk (some 60) (.move (.tmp 8)) (some (58, true))), (.mk (some 61) (.move (.tmp 9)) (some (58, true))), (.mk (some 62) (.call (.mk (.value (.func 14)) #[(.tmp 60), (.tmp 61)] #[23, 23])) (some (58, true))), (.mk (some 63) (.call (.mk (.value (.func 10)) #[(.tmp 59), (.tmp 62)] #[23, 23])) (some (58, true))), (.mk (some 64) (.move (.tmp 7)) (some (58, true))), (.mk (some 65) (.move (.tmp 9)) (some (58, true))), (.mk (some 66) (.call (.mk (.value (.func 10)) #[(.tmp 64), (.tmp 65)] #[23, 23])) (some (58, true))), (.mk (some 67) (.move (.tmp 8)) (some (58, true))), (.mk (some 68) (.call (.mk (.value (.func 10)) #[(.tmp 66), (.tmp 67)] #[23, 23])) (some (58, true))), (.mk (some 69) (.call (.mk (.value (.func 13)) #[(.tmp 63), (.tmp 68)] #[23, 23])) (some (58, true))), (.mk (some 70) (.pick (.tmp 58) (.tmp 69) (.const (.bool false))) none), (.mk (some 71) (.move (.tmp 70)) none), (.mk (some 72) (.move (.tmp 7)) (some (71, true))), (.mk (some 73) (.move (.tmp 7)) (some (71, true))), (.mk (some 74) (.call (.mk (.value (.func 10)) #[(.tmp 72), (.tmp 73)] #[23, 23])) (some (71, true))), (.mk (some 75) (.call (.mk (.builtin (.len)) #[(.tmp 74)] #[23])) (some (71, true))), (.mk (some 76) (.binOp (.eql) 3 (.tmp 75) (.const (.int (.i64) 0)) 3) (some (71, true))), (.mk (some 77) (.pick (.tmp 71) (.tmp 76) (.const (.bool false))) none), (.mk (some 78) (.move (.tmp 77)) none), (.mk (some 79) (.build 29 #[(0, (.const (.int (.i64) 0))), (1, (.const (.int (.i64) 9223372036854775807)))]) (some (78, true))), (.mk (some 80) (.buildSlice 23 1 #[(0, (.tmp 79))]) (some (78, true))), (.mk (some 81) (.move (.tmp 7)) (some (78, true))), (.mk (some 82) (.call (.mk (.value (.func 12)) #[(.tmp 80), (.tmp 81)] #[23, 23])) (some (78, true))), (.mk (some 83) (.move (.tmp 7)) (some (78, true))), (.mk (some 84) (.call (.mk (.value (.func 15)) #[(.tmp 83)] #[23])) (some (78, true))), (.mk (some 85) (.call (.mk (.value (.func 13)) #[(.tmp 82), (.tmp 84)] #[23, 23])) (some (78, true))), (.mk (some 86) (.pick (.tmp 78) (.tmp 85) (.const (.bool false))) none), (.mk (some 6) (.assign (.tmp 86)) none)])
def s3_7 : SCode := (.seq s3_4 (.seq s3_5 (.seq s3_6 (.ret))))
def s3_8 : SCode := (.seq s3_1 (.seq s3_2 (.seq s3_3 s3_7)))
def s3 : SCode := (.seq s3_0 s3_8)
def e3 := And.intro s3_0.eq_1 <| And.intro s3_1.eq_1 <| And.intro s3_2.eq_1 <| And.intro s3_3.eq_1 <| And.intro s3_4.eq_1 <| And.intro s3_5.eq_1 <| And.intro s3_6.eq_1 <| And.intro s3_7.eq_1 <| s3_8.eq_1
theorem h3 : FnS Try.prog 3 ⟨[], []⟩ 87 [(.tmp 6)] s3 := .mk' Try.func3 (by kernel_rfl) (by kernel_rfl) (by kernel_rfl) (by kernel_rfl) (by kernel_rfl) (by kernel_rfl)
def s4_0 : SCode := (.reg [(.mk (some 12) (.assign (.const (.bool false))) none)])
def s4_1 : SCode := (.reg [(.mk (some 15) (.move (.tmp 0)) none), (.mk (some 16) (.move (.tmp 2)) none), (.mk (some 17) (.call (.mk (.value (.func 9)) #[(.tmp 15), (.tmp 16)] #[22, 4])) none), (.mk (some 13) (.assign (.tmp 17)) none)])
def s4_2 : SCode := (.reg [(.mk (some 18) (.move (.tmp 1)) none), (.mk (some 19) (.move (.tmp 2)) none), (.mk (some 20) (.call (.mk (.value (.func 9)) #[(.tmp 18), (.tmp 19)] #[22, 4])) none), (.mk (some 14) (.assign (.tmp 20)) none)])
def s4_3 : SCode := (.reg [(.mk (some 21) (.move (.tmp 5)) none)])
def s4_4 : SCode := (.reg [(.mk (some 22) (.move (.tmp 3)) none), (.mk (some 13) (.assign (.tmp 22)) none)])
def s4_5 : SCode := (.reg [(.mk (some 23) (.move (.tmp 4)) none), (.mk (some 14) (.assign (.tmp 23)) none)])
def s4_6 : SCode := (.reg [(.mk (some 24) (.move (.tmp 13)) none), (.mk (some 25) (.call (.mk (.builtin (.len)) #[(.tmp 24)] #[23])) none), (.mk (some 26) (.binOp (.gtr) 3 (.tmp 25) (.const (.int (.i64) 10)) 3) none)])
def s4_7 : SCode := (.reg [(.mk (some 27) (.move (.tmp 13)) none), (.mk (some 28) (.slice 23 (.tmp 27) none (some (.const (.int (.i64) 10))) none) none), (.mk (some 13) (.assign (.tmp 28)) none)])
def s4_8 : SCode := (.seq s4_6 (.cond (.tmp 26) s4_7 (.skip)))
def s4_9 : SCode := (.reg [(.mk (some 29) (.move (.tmp 14)) none), (.mk (some 30) (.call (.mk (.builtin (.len)) #[(.tmp 29)] #[23])) none), (.mk (some 31) (.binOp (.gtr) 3 (.tmp 30) (.const (.int (.i64) 10)) 3) none)])
def s4_10 : SCode := (.reg [(.mk (some 32) (.move (.tmp 14)) none), (.mk (some 33) (.slice 23 (.tmp 32) none (some (.const (.int (.i64) 10))) none) none), (.mk (some 14) (.assign (.tmp 33)) none)])
def s4_11 : SCode := (.seq s4_9 (.cond (.tmp 31) s4_10 (.skip)))
def s4_12 : SCode := (.seq s4_4 (.seq s4_5 (.seq s4_8 s4_11)))
def s4_13 : SCode := (.seq s4_3 (.cond (.tmp 21) s4_12 (.skip)))
def s4_14 : SCode := (.reg [(.mk (some 34) (.call (.mk (.value (.func 11)) #[] #[])) none), (.mk (some 35) (.move (.tmp 34)) none), (.mk (some 36) (.move (.tmp 13)) (some (35, true))), (.mk (some 37) (.call (.mk (.value (.func 15)) #[(.tmp 36)] #[23])) (some (35, true))), (.mk (some 38) (.move (.tmp 13)) (some (35, true))), (.mk (some 39) (.call (.mk (.value (.func 16)) #[(.tmp 38)] #[23])) (some (35, true))), (.mk (some 40) (.call (.mk (.value (.func 13)) #[(.tmp 37), (.tmp 39)] #[23, 23])) (some (35, true))), (.mk (some 41) (.pick (.tmp 35) (.tmp 40) (.const (.bool false))) none), (.mk (some 42) (.move (.tmp 41)) none), (.mk (some 43) (.move (.tmp 13)) (some (42, true))), (.mk (some 44) (.call (.mk (.value (.func 17)) #[(.tmp 43)] #[23])) (some (42, true))), (.mk (some 45) (.move (.tmp 13)) (some (42, true))), (.mk (some 46) (.call (.mk (.value (.func 18)) #[(.tmp 45)] #[23])) (some (42, true))), (.mk (some 47) (.binOp (.eql) 4 (.tmp 44) (.tmp 46) 4) (some (42, true))), (.mk (some 48) (.pick (.tmp 42) (.tmp 47) (.const (.bool false))) none), (.mk (some 49) (.move (.tmp 48)) none), (.mk (some 50) (.move (.tmp 13)) (some (49, true))), (.mk (some 51) (.move (.tmp 14)) (some (49, true))), (.mk (some 52) (.call (.mk (.value (.func 14)) #[(.tmp 50), (.tmp 51)] #[23, 23])) (some (49, true))), (.mk (some 53) (.move (.tmp 13)) (some (49, true))), (.mk (some 54) (.move (.tmp 14)) (some (49, true))), (.mk (some 55) (.call (.mk (.value (.func 19)) #[(.tmp 53), (.tmp 54)] #[23, 23])) (some (49, true))), (.mk (some 56) (.call (.mk (.value (.func 13)) #[(.tmp 52), (.tmp 55)] #[23, 23])) (some (49, true))), (.mk (some 57) (.pick (.tmp 49) (.tmp 56) (.const (.bool false))) none), (.mk (some 58) (.move (.tmp 57)) none), (.mk (some 59) (.move (.tmp 13)) (some (58, true))), (.mk (some 60) (.move (.tmp 14)) (some (58, true))), (.mk (some 61) (.call (.mk (.value (.func 12)) #[(.tmp 59), (.tmp 60)] #[23, 23])) (some (58, true))), (.mk (some 62) (.move (.tmp 13)) (some (58, true))), (.mk (some 63) (.move (.tmp 14)) (some (58, true))), (.mk (some 64) (.call (.mk (.value (.func 20)) #[(.tmp 62), (.tmp 63)] #[23, 23])) (some (58, true))), (.mk (some 65) (.call (.mk (.value (.func 13)) #[(.tmp 61), (.tmp 64)] #[23, 23])) (some (58, true))), (.mk (some 66) (.pick (.tmp 58) (.tmp 65) (.const (.bool false))) none), (.mk (some 67) (.move (.tmp 66)) none), (.mk (some 68) (.move (.tmp 13)) (some (67, true))), (.mk (some 69) (.move (.tmp 14)) (some (67, true))), (.mk (some 70) (.call (.mk (.value (.func 10)) #[(.tmp 68), (.tmp 69)] #[23, 23])) (some (67, true))), (.mk (some 71) (.move (.tmp 13)) (some (67, true))), (.mk (some 72) (.move (.tmp 14)) (some (67, true))), (.mk (some 73) (.call (.mk (.value (.func 21)) #[(.tmp 71), (.tmp 72)] #[23, 23])) (some (67, true))), (.mk (some 74) (.call (.mk (.value (.func 13)) #[(.tmp 70), (.tmp 73)] #[23, 23])) (some (67, true))), (.mk (some 75) (.pick (.tmp 67) (.tmp 74) (.const (.bool false))) none), (.mk (some 76) (.move (.tmp 75)) none), (.mk (some 77) (.move (.tmp 13)) (some (76, true))), (.mk (some 78) (.call (.mk (.value (.func 22)) #[(.tmp 77)] #[23])) (some (76, true))), (.mk (some 79) (.move (.tmp 13)) (some (76, true))), (.mk (some 80) (.call (.mk (.value (.func 23)) #[(.tmp 79)] #[23])) (some (76, true))), (.mk (some 81) (.binOp (.eql) 3 (.tmp 78) (.tmp 80) 3) (some (76, true))), (.mk (some 82) (.pick (.tmp 76) (.tmp 81) (.const (.bool false))) none), (.mk (some 12) (.assign (.tmp 82)) none)])
def s4_15 : SCode := (.seq s4_2 (.seq s4_13 (.seq s4_14 (.ret))))
def s4 : SCode := (.seq s4_0 (.seq s4_1 s4_15))
def e4 := And.intro s4_0.eq_1 <| And.intro s4_1.eq_1 <| And.intro s4_2.eq_1 <| And.intro s4_3.eq_1 <| And.intro s4_4.eq_1 <| And.intro s4_5.eq_1 <| And.intro s4_6.eq_1 <| And.intro s4_7.eq_1 <| And.intro s4_8.eq_1 <| And.intro s4_9.eq_1 <| And.intro s4_10.eq_1 <| And.intro s4_11.eq_1 <| And.intro s4_12.eq_1 <| And.intro s4_13.eq_1 <| And.intro s4_14.eq_1 <| s4_15.eq_1
theorem h4 : FnS Try.prog 4 ⟨[], []⟩ 83 [(.tmp 12)] s4 := .mk' Try.func4 (by kernel_rfl) (by kernel_rfl) (by kernel_rfl) (by kernel_rfl) (by kernel_rfl) (by kernel_rfl)
def s5_0 : SCode := (.reg [(.mk (some 4) (.assign (.const (.bool false))) none)])
def s5_1 : SCode := (.reg [(.mk (some 11) (.move (.tmp 0)) none), (.mk (some 12) (.call (.mk (.value (.func 9)) #[(.tmp 11), (.const (.bool false))] #[22, 4])) none), (.mk (some 13) (.call (.mk (.value (.func 15)) #[(.tmp 12)] #[23])) none), (.mk (some 5) (.assign (.tmp 13)) none)])
def s5_2 : SCode := (.reg [(.mk (some 14) (.move (.tmp 5)) none), (.mk (some 15) (.call (.mk (.value (.func 24)) #[(.tmp 14), (.const (.int (.i64) 1000))] #[23, 3])) none), (.mk (some 6) (.assign (.tmp 15)) none)])
def s5_3 : SCode := (.reg [(.mk (some 16) (.call (.mk (.value (.func 11)) #[] #[])) none), (.mk (some 17) (.unOp (.not) 4 (.tmp 16)) none), (.mk (some 18) (.move (.tmp 17)) none), (.mk (some 19) (.move (.tmp 6)) (some (18, false))), (.mk (some 20) (.call (.mk (.builtin (.len)) #[(.tmp 19)] #[22])) (some (18, false))), (.mk (some 21) (.move (.tmp 5)) (some (18, false))), (.mk (some 22) (.call (.mk (.value (.func 22)) #[(.tmp 21)] #[23])) (some (18, false))), (.mk (some 23) (.binOp (.neq) 3 (.tmp 20) (.tmp 22) 3) (some (18, false))), (.mk (some 24) (.pick (.tmp 18) (.const (.bool true)) (.tmp 23)) none), (.mk (some 25) (.move (.tmp 24)) none), (.mk (some 26) (.move (.tmp 6)) (some (25, false))), (.mk (some 27) (.call (.mk (.value (.func 25)) #[(.tmp 26)] #[22])) (some (25, false))), (.mk (some 28) (.move (.tmp 5)) (some (25, false))), (.mk (some 29) (.call (.mk (.value (.func 13)) #[(.tmp 27), (.tmp 28)] #[23, 23])) (some (25, false))), (.mk (some 30) (.unOp (.not) 4 (.tmp 29)) (some (25, false))), (.mk (some 31) (.pick (.tmp 25) (.const (.bool true)) (.tmp 30)) none)])
def s5_4 : SCode := (.reg [(.mk (some 4) (.assign (.const (.bool false))) none)])
def s5_5 : SCode := (.cond (.tmp 31) (.seq s5_4 (.ret)) (.skip))
def s5_6 : SCode := (.reg [(.mk (some 7) (.assign (.const (.int (.i64) 0))) none)])
def s5_7 : SCode := (.reg [(.mk (some 32) (.move (.tmp 7)) none), (.mk (some 33) (.move (.tmp 6)) none), (.mk (some 34) (.call (.mk (.builtin (.len)) #[(.tmp 33)] #[22])) none), (.mk (some 35) (.binOp (.lss) 3 (.tmp 32) (.tmp 34) 3) none)])
def s5_8 : SCode := (.seq s5_7 (.cond (.tmp 35) (.skip) (.exit 0)))
def s5_9 : SCode := (.drw [((.mk (some 38) (.move (.tmp 5)) none), 0), ((.mk (some 39) (.move (.tmp 6)) none), 0), ((.mk (some 40) (.move (.tmp 7)) none), 0), ((.mk (some 41) (.indexAddr 22 (.tmp 39) (.tmp 40)) none), 0), ((.mk (some 42) (.load 3 (.tmp 41)) none), 0), ((.mk (some 43) (.call (.mk (.value (.func 26)) #[(.tmp 38), (.tmp 42)] #[23, 3])) none), 1), ((.mk (some 44) (.unOp (.not) 4 (.tmp 43)) none), 0), ((.mk (some 45) (.move (.tmp 44)) none), 0), ((.mk (some 46) (.move (.tmp 7)) (some (45, false))), 0), ((.mk (some 47) (.binOp (.gtr) 3 (.tmp 46) (.const (.int (.i64) 0)) 3) (some (45, false))), 0), ((.mk (some 48) (.move (.tmp 47)) (some (45, false))), 0), ((.mk (some 49) (.move (.tmp 6)) (some (48, true))), 0), ((.mk (some 50) (.move (.tmp 7)) (some (48, true))), 0), ((.mk (some 51) (.indexAddr 22 (.tmp 49) (.tmp 50)) (some (48, true))), 0), ((.mk (some 52) (.load 3 (.tmp 51)) (some (48, true))), 0), ((.mk (some 53) (.move (.tmp 6)) (some (48, true))), 0), ((.mk (some 54) (.move (.tmp 7)) (some (48, true))), 0), ((.mk (some 55) (.binOp (.sub) 3 (.tmp 54) (.const (.int (.i64) 1)) 3) (some (48, true))), 0), ((.mk (some 56) (.indexAddr 22 (.tmp 53) (.tmp 55)) (some (48, true))), 0), ((.mk (some 57) (.load 3 (.tmp 56)) (some (48, true))), 0), ((.mk (some 58) (.binOp (.geq) 3 (.tmp 52) (.tmp 57) 3) (some (48, true))), 0), ((.mk (some 59) (.pick (.tmp 48) (.tmp 58) (.const (.bool false))) (some (45, false))), 0), ((.mk (some 60) (.pick (.tmp 45) (.const (.bool true)) (.tmp 59)) none), 0)])
def s5_10 : SCode := (.reg [(.mk (some 4) (.assign (.const (.bool false))) none)])
def s5_11 : SCode := (.cond (.tmp 60) (.seq s5_10 (.ret)) (.skip))
def s5_12 : SCode := (.reg [(.mk (some 36) (.move (.tmp 7)) none), (.mk (some 37) (.binOp (.add) 3 (.tmp 36) (.const (.int (.i64) 1)) 3) none), (.mk (some 7) (.assign (.tmp 37)) none)])
def s5_13 : SCode := (.seq (.block 1 (.seq s5_9 s5_11)) s5_12)
def s5_14 : SCode := (.seq s5_6 (.block 0 (.loop (.seq s5_8 s5_13))))
def s5_15 : SCode := (.reg [(.mk (some 61) (.move (.tmp 1)) none), (.mk (some 62) (.call (.mk (.value (.func 27)) #[(.tmp 61), (.const (.int (.i64) 30))] #[3, 3])) none), (.mk (some 1) (.assign (.tmp 62)) none)])
def s5_16 : SCode := (.reg [(.mk (some 63) (.move (.tmp 5)) none), (.mk (some 64) (.move (.tmp 1)) none), (.mk (some 65) (.call (.mk (.value (.func 28)) #[(.tmp 63), (.tmp 64)] #[23, 3])) none), (.mk (some 66) (.call (.mk (.value (.func 24)) #[(.tmp 65), (.const (.int (.i64) 1000))] #[23, 3])) none), (.mk (some 8) (.assign (.tmp 66)) none)])
def s5_17 : SCode := (.reg [(.mk (some 67) (.move (.tmp 5)) none), (.mk (some 68) (.move (.tmp 1)) none), (.mk (some 69) (.call (.mk (.value (.func 29)) #[(.tmp 67), (.tmp 68)] #[23, 3])) none), (.mk (some 70) (.call (.mk (.value (.func 24)) #[(.tmp 69), (.const (.int (.i64) 1000))] #[23, 3])) none), (.mk (some 9) (.assign (.tmp 70)) none)])
def s5_18 : SCode := (.reg [(.mk (some 71) (.move (.tmp 1)) none), (.mk (some 72) (.move (.tmp 6)) none), (.mk (some 73) (.call (.mk (.builtin (.len)) #[(.tmp 72)] #[22])) none), (.mk (some 74) (.call (.mk (.builtin (.min)) #[(.tmp 71), (.tmp 73)] #[3, 3])) none), (.mk (some 10) (.assign (.tmp 74)) none)])
def s5_19 : SCode := (.drw [((.mk (some 75) (.move (.tmp 8)) none), 0), ((.mk (some 76) (.move (.tmp 6)) none), 0), ((.mk (some 77) (.move (.tmp 10)) none), 0), ((.mk (some 78) (.slice 22 (.tmp 76) none (some (.tmp 77)) none) none), 0), ((.mk (some 79) (.call (.mk (.value (.func 30)) #[(.tmp 75), (.tmp 78)] #[22, 22])) none), 1), ((.mk (some 80) (.move (.tmp 79)) none), 0), ((.mk (some 81) (.move (.tmp 9)) (some (80, true))), 0), ((.mk (some 82) (.move (.tmp 6)) (some (80, true))), 0), ((.mk (some 83) (.move (.tmp 6)) (some (80, true))), 0), ((.mk (some 84) (.call (.mk (.builtin (.len)) #[(.tmp 83)] #[22])) (some (80, true))), 0), ((.mk (some 85) (.move (.tmp 10)) (some (80, true))), 0), ((.mk (some 86) (.binOp (.sub) 3 (.tmp 84) (.tmp 85) 3) (some (80, true))), 0), ((.mk (some 87) (.slice 22 (.tmp 82) (some (.tmp 86)) none none) (some (80, true))), 0), ((.mk (some 88) (.call (.mk (.value (.func 30)) #[(.tmp 81), (.tmp 87)] #[22, 22])) (some (80, true))), 1), ((.mk (some 89) (.pick (.tmp 80) (.tmp 88) (.const (.bool false))) none), 0), ((.mk (some 90) (.move (.tmp 89)) none), 0), ((.mk (some 91) (.move (.tmp 5)) (some (90, true))), 0), ((.mk (some 92) (.move (.tmp 1)) (some (90, true))), 0), ((.mk (some 94) (.move (.tmp 6)) (some (90, true))), 0), ((.mk (some 95) (.move (.tmp 10)) (some (90, true))), 0), ((.mk (some 96) (.slice 22 (.tmp 94) none (some (.tmp 95)) none) (some (90, true))), 0), ((.mk (some 93) (.call (.mk (.value (.func 24)) #[(.tmp 91), (.tmp 92)] #[23, 3])) (some (90, true))), 2), ((.mk (some 97) (.call (.mk (.value (.func 30)) #[(.tmp 93), (.tmp 96)] #[22, 22])) (some (90, true))), 1), ((.mk (some 98) (.pick (.tmp 90) (.tmp 97) (.const (.bool false))) none), 0), ((.mk (some 99) (.move (.tmp 98)) none), 0), ((.mk (some 100) (.move (.tmp 5)) (some (99, true))), 0), ((.mk (some 101) (.move (.tmp 1)) (some (99, true))), 0), ((.mk (some 104) (.move (.tmp 6)) (some (99, true))), 0), ((.mk (some 105) (.move (.tmp 10)) (some (99, true))), 0), ((.mk (some 106) (.slice 22 (.tmp 104) (some (.tmp 105)) none none) (some (99, true))), 0), ((.mk (some 102) (.call (.mk (.value (.func 31)) #[(.tmp 100), (.tmp 101)] #[23, 3])) (some (99, true))), 2), ((.mk (some 103) (.call (.mk (.value (.func 24)) #[(.tmp 102), (.const (.int (.i64) 1000))] #[23, 3])) (some (99, true))), 2), ((.mk (some 107) (.call (.mk (.value (.func 30)) #[(.tmp 103), (.tmp 106)] #[22, 22])) (some (99, true))), 1), ((.mk (some 108) (.pick (.tmp 99) (.tmp 107) (.const (.bool false))) none), 0), ((.mk (some 4) (.assign (.tmp 108)) none), 0)])
def s5_20 : SCode := (.seq s5_17 (.seq s5_18 (.seq s5_19 (.ret))))
def s5_21 : SCode := (.seq s5_14 (.seq s5_15 (.seq s5_16 s5_20)))
def s5_22 : SCode := (.seq s5_2 (.seq (.seq s5_3 s5_5) s5_21))
def s5 : SCode := (.seq s5_0 (.seq s5_1 s5_22))
def e5 := And.intro s5_0.eq_1 <| And.intro s5_1.eq_1 <| And.intro s5_2.eq_1 <| And.intro s5_3.eq_1 <| And.intro s5_4.eq_1 <| And.intro s5_5.eq_1 <| And.intro s5_6.eq_1 <| And.intro s5_7.eq_1 <| And.intro s5_8.eq_1 <| And.intro s5_9.eq_1 <| And.intro s5_10.eq_1 <| And.intro s5_11.eq_1 <| And.intro s5_12.eq_1 <| And.intro s5_13.eq_1 <| And.intro s5_14.eq_1 <| And.intro s5_15.eq_1 <| And.intro s5_16.eq_1 <| And.intro s5_17.eq_1 <| And.intro s5_18.eq_1 <| And.intro s5_19.eq_1 <| And.intro s5_20.eq_1 <| And.intro s5_21.eq_1 <| s5_22.eq_1
theorem h5 : FnS Try.prog 5 ⟨[], [(8, [(0, 0), (1, 0), (2, 0), (3, 0), (4, 0), (5, 1), (6, 0), (7, 0), (8, 0), (9, 0), (10, 0), (11, 0), (12, 0), (13, 0), (14, 0), (15, 0), (16, 0), (17, 0), (18, 0), (19, 0), (20, 0), (21, 0), (22, 0)]), (14, [(0, 0), (1, 0), (2, 0), (3, 0), (4, 1), (5, 0), (6, 0), (7, 0), (8, 0), (9, 0), (10, 0), (11, 0), (12, 0), (13, 1), (14, 0), (15, 0), (16, 0), (17, 0), (19, 0), (20, 0), (21, 0), (18, 2), (22, 1), (23, 0), (24, 0), (25, 0), (26, 0), (29, 0), (30, 0), (31, 0), (27, 2), (28, 2), (32, 1), (33, 0), (34, 0)])]⟩ 109 [(.tmp 4)] s5 := .mk' Try.func5 (by kernel_rfl) (by kernel_rfl) (by kernel_rfl) (by kernel_rfl) (by kernel_rfl) (by kernel_rfl)
def s6_0 : SCode := (.reg [(.mk (some 8) (.assign (.const (.bool false))) none)])
def s6_1 : SCode := (.reg [(.mk (some 15) (.move (.tmp 0)) none), (.mk (some 16) (.move (.tmp 1)) none), (.mk (some 17) (.call (.mk (.value (.func 9)) #[(.tmp 15), (.tmp 16)] #[22, 4])) none), (.mk (some 9) (.assign (.tmp 17)) none)])
def s6_2 : SCode := (.reg [(.mk (some 18) (.move (.tmp 2)) none), (.mk (some 19) (.call (.mk (.value (.func 27)) #[(.tmp 18), (.const (.int (.i64) 70))] #[3, 3])) none), (.mk (some 20) (.binOp (.sub) 3 (.tmp 19) (.const (.int (.i64) 4)) 3) none), (.mk (some 2) (.assign (.tmp 20)) none)])
def s6_3 : SCode := (.reg [(.mk (some 21) (.move (.tmp 3)) none), (.mk (some 22) (.call (.mk (.value (.func 27)) #[(.tmp 21), (.const (.int (.i64) 40))] #[3, 3])) none), (.mk (some 23) (.binOp (.sub) 3 (.tmp 22) (.const (.int (.i64) 2)) 3) none), (.mk (some 3) (.assign (.tmp 23)) none)])
def s6_4 : SCode := (.reg [(.mk (some 24) (.move (.tmp 9)) none), (.mk (some 25) (.call (.mk (.value (.func 16)) #[(.tmp 24)] #[23])) none), (.mk (some 10) (.assign (.tmp 25)) none)])
def s6_5 : SCode := (.reg [(.mk (some 27) (.move (.tmp 9)) none), (.mk (some 28) (.call (.mk (.value (.func 32)) #[(.tmp 27)] #[23])) none), (.mk (some 26) (.move (.tmp 28)) none), (.mk (some 29) (.extract (.tmp 26) 0) none), (.mk (some 30) (.extract (.tmp 26) 1) none), (.mk (some 11) (.assign (.tmp 29)) none), (.mk (some 12) (.assign (.tmp 30)) none)])
def s6_6 : SCode := (.reg [(.mk (some 32) (.move (.tmp 9)) none), (.mk (some 33) (.call (.mk (.value (.func 33)) #[(.tmp 32)] #[23])) none), (.mk (some 31) (.move (.tmp 33)) none), (.mk (some 34) (.extract (.tmp 31) 0) none), (.mk (some 35) (.extract (.tmp 31) 1) none), (.mk (some 13) (.assign (.tmp 34)) none), (.mk (some 14) (.assign (.tmp 35)) none)])
def s6_7 : SCode := (.reg [(.mk (some 36) (.move (.tmp 12)) none), (.mk (some 37) (.move (.tmp 10)) none), (.mk (some 38) (.call (.mk (.builtin (.len)) #[(.tmp 37)] #[23])) none), (.mk (some 39) (.binOp (.gtr) 3 (.tmp 38) (.const (.int (.i64) 0)) 3) none), (.mk (some 40) (.binOp (.neq) 4 (.tmp 36) (.tmp 39) 4) none), (.mk (some 41) (.move (.tmp 40)) none), (.mk (some 42) (.move (.tmp 14)) (some (41, false))), (.mk (some 43) (.move (.tmp 12)) (some (41, false))), (.mk (some 44) (.binOp (.neq) 4 (.tmp 42) (.tmp 43) 4) (some (41, false))), (.mk (some 45) (.pick (.tmp 41) (.const (.bool true)) (.tmp 44)) none), (.mk (some 46) (.move (.tmp 45)) none), (.mk (some 47) (.move (.tmp 12)) (some (46, false))), (.mk (some 48) (.move (.tmp 47)) (some (46, false))), (.mk (some 49) (.move (.tmp 11)) (some (48, true))), (.mk (some 50) (.move (.tmp 10)) (some (48, true))), (.mk (some 51) (.indexAddr 23 (.tmp 50) (.const (.int (.i64) 0))) (some (48, true))), (.mk (some 52) (.fieldAddr 29 (.tmp 51) 0) (some (48, true))), (.mk (some 53) (.load 3 (.tmp 52)) (some (48, true))), (.mk (some 54) (.binOp (.neq) 3 (.tmp 49) (.tmp 53) 3) (some (48, true))), (.mk (some 55) (.move (.tmp 54)) (some (48, true))), (.mk (some 56) (.move (.tmp 13)) (some (55, false))), (.mk (some 57) (.move (.tmp 10)) (some (55, false))), (.mk (some 58) (.move (.tmp 10)) (some (55, false))), (.mk (some 59) (.call (.mk (.builtin (.len)) #[(.tmp 58)] #[23])) (some (55, false))), (.mk (some 60) (.binOp (.sub) 3 (.tmp 59) (.const (.int (.i64) 1)) 3) (some (55, false))), (.mk (some 61) (.indexAddr 23 (.tmp 57) (.tmp 60)) (some (55, false))), (.mk (some 62) (.fieldAddr 29 (.tmp 61) 1) (some (55, false))), (.mk (some 63) (.load 3 (.tmp 62)) (some (55, false))), (.mk (some 64) (.binOp (.neq) 3 (.tmp 56) (.tmp 63) 3) (some (55, false))), (.mk (some 65) (.pick (.tmp 55) (.const (.bool true)) (.tmp 64)) (some (48, true))), (.mk (some 66) (.pick (.tmp 48) (.tmp 65) (.const (.bool false))) (some (46, false))), (.mk (some 67) (.pick (.tmp 46) (.const (.bool true)) (.tmp 66)) none)])
def s6_8 : SCode := (.reg [(.mk (some 8) (.assign (.const (.bool false))) none)])
def s6_9 : SCode := (.cond (.tmp 67) (.seq s6_8 (.ret)) (.skip))
def s6_10 : SCode := (.drw [((.mk (some 68) (.call (.mk (.value (.func 11)) #[] #[])) none), 1), ((.mk (some 69) (.move (.tmp 68)) none), 0), ((.mk (some 70) (.move (.tmp 9)) (some (69, true))), 0), ((.mk (some 71) (.move (.tmp 2)) (some (69, true))), 0), ((.mk (some 73) (.move (.tmp 9)) (some (69, true))), 0), ((.mk (some 74) (.move (.tmp 2)) (some (69, true))), 0), ((.mk (some 72) (.call (.mk (.value (.func 26)) #[(.tmp 70), (.tmp 71)] #[23, 3])) (some (69, true))), 1), ((.mk (some 75) (.call (.mk (.value (.func 34)) #[(.tmp 73), (.tmp 74)] #[23, 3])) (some (69, true))), 1), ((.mk (some 76) (.binOp (.eql) 4 (.tmp 72) (.tmp 75) 4) (some (69, true))), 0), ((.mk (some 77) (.pick (.tmp 69) (.tmp 76) (.const (.bool false))) none), 0), ((.mk (some 78) (.move (.tmp 77)) none), 0), ((.mk (some 79) (.move (.tmp 9)) (some (78, true))), 0), ((.mk (some 80) (.move (.tmp 3)) (some (78, true))), 0), ((.mk (some 82) (.move (.tmp 9)) (some (78, true))), 0), ((.mk (some 83) (.move (.tmp 3)) (some (78, true))), 0), ((.mk (some 81) (.call (.mk (.value (.func 28)) #[(.tmp 79), (.tmp 80)] #[23, 3])) (some (78, true))), 1), ((.mk (some 84) (.call (.mk (.value (.func 35)) #[(.tmp 82), (.tmp 83)] #[23, 3])) (some (78, true))), 1), ((.mk (some 85) (.call (.mk (.value (.func 13)) #[(.tmp 81), (.tmp 84)] #[23, 23])) (some (78, true))), 1), ((.mk (some 86) (.pick (.tmp 78) (.tmp 85) (.const (.bool false))) none), 0), ((.mk (some 87) (.move (.tmp 86)) none), 0), ((.mk (some 88) (.move (.tmp 9)) (some (87, true))), 0), ((.mk (some 89) (.move (.tmp 3)) (some (87, true))), 0), ((.mk (some 91) (.move (.tmp 9)) (some (87, true))), 0), ((.mk (some 92) (.move (.tmp 3)) (some (87, true))), 0), ((.mk (some 90) (.call (.mk (.value (.func 29)) #[(.tmp 88), (.tmp 89)] #[23, 3])) (some (87, true))), 1), ((.mk (some 93) (.call (.mk (.value (.func 36)) #[(.tmp 91), (.tmp 92)] #[23, 3])) (some (87, true))), 1), ((.mk (some 94) (.call (.mk (.value (.func 13)) #[(.tmp 90), (.tmp 93)] #[23, 23])) (some (87, true))), 1), ((.mk (some 95) (.pick (.tmp 87) (.tmp 94) (.const (.bool false))) none), 0), ((.mk (some 96) (.move (.tmp 95)) none), 0), ((.mk (some 97) (.move (.tmp 9)) (some (96, true))), 0), ((.mk (some 98) (.move (.tmp 3)) (some (96, true))), 0), ((.mk (some 100) (.move (.tmp 9)) (some (96, true))), 0), ((.mk (some 101) (.move (.tmp 3)) (some (96, true))), 0), ((.mk (some 99) (.call (.mk (.value (.func 31)) #[(.tmp 97), (.tmp 98)] #[23, 3])) (some (96, true))), 1), ((.mk (some 102) (.call (.mk (.value (.func 37)) #[(.tmp 100), (.tmp 101)] #[23, 3])) (some (96, true))), 1), ((.mk (some 103) (.call (.mk (.value (.func 13)) #[(.tmp 99), (.tmp 102)] #[23, 23])) (some (96, true))), 1), ((.mk (some 104) (.pick (.tmp 96) (.tmp 103) (.const (.bool false))) none), 0), ((.mk (some 105) (.move (.tmp 104)) none), 0), ((.mk (some 106) (.move (.tmp 9)) (some (105, true))), 0), ((.mk (some 107) (.move (.tmp 3)) (some (105, true))), 0), ((.mk (some 109) (.move (.tmp 9)) (some (105, true))), 0), ((.mk (some 110) (.move (.tmp 3)) (some (105, true))), 0), ((.mk (some 108) (.call (.mk (.value (.func 24)) #[(.tmp 106), (.tmp 107)] #[23, 3])) (some (105, true))), 1), ((.mk (some 111) (.call (.mk (.value (.func 38)) #[(.tmp 109), (.tmp 110)] #[23, 3])) (some (105, true))), 1), ((.mk (some 112) (.call (.mk (.value (.func 30)) #[(.tmp 108), (.tmp 111)] #[22, 22])) (some (105, true))), 1), ((.mk (some 113) (.pick (.tmp 105) (.tmp 112) (.const (.bool false))) none), 0), ((.mk (some 114) (.move (.tmp 113)) none), 0), ((.mk (some 115) (.move (.tmp 0)) (some (114, true))), 0), ((.mk (some 116) (.move (.tmp 0)) (some (114, true))), 0), ((.mk (some 117) (.call (.mk (.builtin (.len)) #[(.tmp 116)] #[22])) (some (114, true))), 0), ((.mk (some 118) (.call (.mk (.builtin (.min)) #[(.tmp 117), (.const (.int (.i64) 40))] #[3, 3])) (some (114, true))), 0), ((.mk (some 119) (.slice 22 (.tmp 115) none (some (.tmp 118)) none) (some (114, true))), 0), ((.mk (some 121) (.move (.tmp 0)) (some (114, true))), 0), ((.mk (some 122) (.move (.tmp 0)) (some (114, true))), 0), ((.mk (some 123) (.call (.mk (.builtin (.len)) #[(.tmp 122)] #[22])) (some (114, true))), 0), ((.mk (some 124) (.call (.mk (.builtin (.min)) #[(.tmp 123), (.const (.int (.i64) 40))] #[3, 3])) (some (114, true))), 0), ((.mk (some 125) (.slice 22 (.tmp 121) none (some (.tmp 124)) none) (some (114, true))), 0), ((.mk (some 120) (.call (.mk (.value (.func 25)) #[(.tmp 119)] #[22])) (some (114, true))), 2), ((.mk (some 126) (.call (.mk (.value (.func 39)) #[(.tmp 125)] #[22])) (some (114, true))), 1), ((.mk (some 127) (.call (.mk (.value (.func 13)) #[(.tmp 120), (.tmp 126)] #[23, 23])) (some (114, true))), 1), ((.mk (some 128) (.pick (.tmp 114) (.tmp 127) (.const (.bool false))) none), 0), ((.mk (some 8) (.assign (.tmp 128)) none), 0)])
def s6_11 : SCode := (.seq (.seq s6_7 s6_9) (.seq s6_10 (.ret)))
def s6_12 : SCode := (.seq s6_4 (.seq s6_5 (.seq s6_6 s6_11)))
def s6_13 : SCode := (.seq s6_1 (.seq s6_2 (.seq s6_3 s6_12)))
def s6 : SCode := (.seq s6_0 s6_13)
def e6 := And.intro s6_0.eq_1 <| And.intro s6_1.eq_1 <| And.intro s6_2.eq_1 <| And.intro s6_3.eq_1 <| And.intro s6_4.eq_1 <| And.intro s6_5.eq_1 <| And.intro s6_6.eq_1 <| And.intro s6_7.eq_1 <| And.intro s6_8.eq_1 <| And.intro s6_9.eq_1 <| And.intro s6_10.eq_1 <| And.intro s6_11.eq_1 <| And.intro s6_12.eq_1 <| s6_13.eq_1
theorem h6 : FnS Try.prog 6 ⟨[], [(9, [(0, 1), (1, 0), (2, 0), (3, 0), (5, 0), (6, 0), (4, 1), (7, 1), (8, 0), (9, 0), (10, 0), (11, 0), (12, 0), (14, 0), (15, 0), (13, 1), (16, 1), (17, 1), (18, 0), (19, 0), (20, 0), (21, 0), (23, 0), (24, 0), (22, 1), (25, 1), (26, 1), (27, 0), (28, 0), (29, 0), (30, 0), (32, 0), (33, 0), (31, 1), (34, 1), (35, 1), (36, 0), (37, 0), (38, 0), (39, 0), (41, 0), (42, 0), (40, 1), (43, 1), (44, 1), (45, 0), (46, 0), (47, 0), (48, 0), (49, 0), (50, 0), (51, 0), (53, 0), (54, 0), (55, 0), (56, 0), (57, 0), (52, 2), (58, 1), (59, 1), (60, 0), (61, 0)])]⟩ 129 [(.tmp 8)] s6 := .mk' Try.func6 (by kernel_rfl) (by kernel_rfl) (by kernel_rfl) (by kernel_rfl) (by kernel_rfl) (by kernel_rfl)
def s7_0 : SCode := (.reg [(.mk (some 8) (.assign (.const (.bool false))) none)])
def s7_1 : SCode := (.reg [(.mk (some 21) (.move (.tmp 0)) none), (.mk (some 22) (.call (.mk (.value (.func 9)) #[(.tmp 21), (.const (.bool true))] #[22, 4])) none), (.mk (some 9) (.assign (.tmp 22)) none)])
def s7_2 : SCode := (.reg [(.mk (some 23) (.move (.tmp 1)) none), (.mk (some 24) (.call (.mk (.value (.func 9)) #[(.tmp 23), (.const (.bool true))] #[22, 4])) none), (.mk (some 10) (.assign (.tmp 24)) none)])
def s7_3 : SCode := (.reg [(.mk (some 25) (.move (.tmp 2)) none), (.mk (some 26) (.call (.mk (.value (.func 9)) #[(.tmp 25), (.const (.bool false))] #[22, 4])) none), (.mk (some 11) (.assign (.tmp 26)) none)])
def s7_4 : SCode := (.reg [(.mk (some 27) (.move (.tmp 9)) none), (.mk (some 28) (.move (.tmp 10)) none), (.mk (some 29) (.call (.mk (.value (.func 14)) #[(.tmp 27), (.tmp 28)] #[23, 23])) none), (.mk (some 12) (.assign (.tmp 29)) none)])
def s7_5 : SCode := (.reg [(.mk (some 30) (.move (.tmp 9)) none), (.mk (some 31) (.move (.tmp 10)) none), (.mk (some 32) (.call (.mk (.value (.func 12)) #[(.tmp 30), (.tmp 31)] #[23, 23])) none), (.mk (some 13) (.assign (.tmp 32)) none)])
def s7_6 : SCode := (.reg [(.mk (some 33) (.move (.tmp 9)) none), (.mk (some 34) (.move (.tmp 10)) none), (.mk (some 35) (.call (.mk (.value (.func 10)) #[(.tmp 33), (.tmp 34)] #[23, 23])) none), (.mk (some 14) (.assign (.tmp 35)) none)])
def s7_7 : SCode := (.reg [(.mk (some 36) (.call (.mk (.value (.func 11)) #[] #[])) none), (.mk (some 37) (.unOp (.not) 4 (.tmp 36)) none), (.mk (some 38) (.move (.tmp 37)) none), (.mk (some 39) (.move (.tmp 12)) (some (38, false))), (.mk (some 40) (.call (.mk (.value (.func 17)) #[(.tmp 39)] #[23])) (some (38, false))), (.mk (some 41) (.unOp (.not) 4 (.tmp 40)) (some (38, false))), (.mk (some 42) (.pick (.tmp 38) (.const (.bool true)) (.tmp 41)) none), (.mk (some 43) (.move (.tmp 42)) none), (.mk (some 44) (.move (.tmp 13)) (some (43, false))), (.mk (some 45) (.call (.mk (.value (.func 17)) #[(.tmp 44)] #[23])) (some (43, false))), (.mk (some 46) (.unOp (.not) 4 (.tmp 45)) (some (43, false))), (.mk (some 47) (.pick (.tmp 43) (.const (.bool true)) (.tmp 46)) none), (.mk (some 48) (.move (.tmp 47)) none), (.mk (some 49) (.move (.tmp 14)) (some (48, false))), (.mk (some 50) (.call (.mk (.value (.func 17)) #[(.tmp 49)] #[23])) (some (48, false))), (.mk (some 51) (.unOp (.not) 4 (.tmp 50)) (some (48, false))), (.mk (some 52) (.pick (.tmp 48) (.const (.bool true)) (.tmp 51)) none)])
def s7_8 : SCode := (.reg [(.mk (some 8) (.assign (.const (.bool false))) none)])
def s7_9 : SCode := (.cond (.tmp 52) (.seq s7_8 (.ret)) (.skip))
def s7_10 : SCode := (.reg [(.mk (some 15) (.assign (.const (.int (.i64) (-2)))) none)])
def s7_11 : SCode := (.reg [(.mk (some 53) (.move (.tmp 15)) none), (.mk (some 54) (.binOp (.lss) 3 (.tmp 53) (.const (.int (.i64) 75)) 3) none)])
def s7_12 : SCode := (.seq s7_11 (.cond (.tmp 54) (.skip) (.exit 0)))
def s7_13 : SCode := (.reg [(.mk (some 57) (.move (.tmp 9)) none), (.mk (some 58) (.move (.tmp 15)) none), (.mk (some 59) (.call (.mk (.value (.func 26)) #[(.tmp 57), (.tmp 58)] #[23, 3])) none), (.mk (some 16) (.assign (.tmp 59)) none)])
def s7_14 : SCode := (.reg [(.mk (some 60) (.move (.tmp 10)) none), (.mk (some 61) (.move (.tmp 15)) none), (.mk (some 62) (.call (.mk (.value (.func 26)) #[(.tmp 60), (.tmp 61)] #[23, 3])) none), (.mk (some 17) (.assign (.tmp 62)) none)])
def s7_15 : SCode := (.reg [(.mk (some 63) (.move (.tmp 12)) none), (.mk (some 64) (.move (.tmp 15)) none), (.mk (some 65) (.call (.mk (.value (.func 26)) #[(.tmp 63), (.tmp 64)] #[23, 3])) none), (.mk (some 66) (.move (.tmp 16)) none), (.mk (some 67) (.move (.tmp 66)) none), (.mk (some 68) (.move (.tmp 17)) (some (67, false))), (.mk (some 69) (.pick (.tmp 67) (.const (.bool true)) (.tmp 68)) none), (.mk (some 70) (.binOp (.neq) 4 (.tmp 65) (.tmp 69) 4) none), (.mk (some 71) (.move (.tmp 70)) none), (.mk (some 72) (.move (.tmp 13)) (some (71, false))), (.mk (some 73) (.move (.tmp 15)) (some (71, false))), (.mk (some 74) (.call (.mk (.value (.func 26)) #[(.tmp 72), (.tmp 73)] #[23, 3])) (some (71, false))), (.mk (some 75) (.move (.tmp 16)) (some (71, false))), (.mk (some 76) (.move (.tmp 75)) (some (71, false))), (.mk (some 77) (.move (.tmp 17)) (some (76, true))), (.mk (some 78) (.pick (.tmp 76) (.tmp 77) (.const (.bool false))) (some (71, false))), (.mk (some 79) (.binOp (.neq) 4 (.tmp 74) (.tmp 78) 4) (some (71, false))), (.mk (some 80) (.pick (.tmp 71) (.const (.bool true)) (.tmp 79)) none), (.mk (some 81) (.move (.tmp 80)) none), (.mk (some 82) (.move (.tmp 14)) (some (81, false))), (.mk (some 83) (.move (.tmp 15)) (some (81, false))), (.mk (some 84) (.call (.mk (.value (.func 26)) #[(.tmp 82), (.tmp 83)] #[23, 3])) (some (81, false))), (.mk (some 85) (.move (.tmp 16)) (some (81, false))), (.mk (some 86) (.move (.tmp 85)) (some (81, false))), (.mk (some 87) (.move (.tmp 17)) (some (86, true))), (.mk (some 88) (.unOp (.not) 4 (.tmp 87)) (some (86, true))), (.mk (some 89) (.pick (.tmp 86) (.tmp 88) (.const (.bool false))) (some (81, false))), (.mk (some 90) (.binOp (.neq) 4 (.tmp 84) (.tmp 89) 4) (some (81, false))), (.mk (some 91) (.pick (.tmp 81) (.const (.bool true)) (.tmp 90)) none)])
def s7_16 : SCode := (.reg [(.mk (some 8) (.assign (.const (.bool false))) none)])
def s7_17 : SCode := (.cond (.tmp 91) (.seq s7_16 (.ret)) (.skip))
def s7_18 : SCode := (.seq s7_13 (.seq s7_14 (.seq s7_15 s7_17)))
def s7_19 : SCode := (.reg [(.mk (some 55) (.move (.tmp 15)) none), (.mk (some 56) (.binOp (.add) 3 (.tmp 55) (.const (.int (.i64) 1)) 3) none), (.mk (some 15) (.assign (.tmp 56)) none)])
def s7_20 : SCode := (.seq s7_12 (.seq (.block 1 s7_18) s7_19))
def s7_21 : SCode := (.reg [(.mk (some 92) (.move (.tmp 14)) none), (.mk (some 93) (.move (.tmp 13)) none), (.mk (some 94) (.call (.mk (.value (.func 14)) #[(.tmp 92), (.tmp 93)] #[23, 23])) none), (.mk (some 95) (.move (.tmp 9)) none), (.mk (some 96) (.call (.mk (.value (.func 15)) #[(.tmp 95)] #[23])) none), (.mk (some 97) (.call (.mk (.value (.func 13)) #[(.tmp 94), (.tmp 96)] #[23, 23])) none), (.mk (some 98) (.unOp (.not) 4 (.tmp 97)) none), (.mk (some 99) (.move (.tmp 98)) none), (.mk (some 100) (.move (.tmp 11)) (some (99, false))), (.mk (some 101) (.move (.tmp 12)) (some (99, false))), (.mk (some 102) (.call (.mk (.value (.func 12)) #[(.tmp 100), (.tmp 101)] #[23, 23])) (some (99, false))), (.mk (some 103) (.move (.tmp 11)) (some (99, false))), (.mk (some 104) (.move (.tmp 9)) (some (99, false))), (.mk (some 105) (.call (.mk (.value (.func 12)) #[(.tmp 103), (.tmp 104)] #[23, 23])) (some (99, false))), (.mk (some 106) (.move (.tmp 11)) (some (99, false))), (.mk (some 107) (.move (.tmp 10)) (some (99, false))), (.mk (some 108) (.call (.mk (.value (.func 12)) #[(.tmp 106), (.tmp 107)] #[23, 23])) (some (99, false))), (.mk (some 109) (.call (.mk (.value (.func 14)) #[(.tmp 105), (.tmp 108)] #[23, 23])) (some (99, false))), (.mk (some 110) (.call (.mk (.value (.func 13)) #[(.tmp 102), (.tmp 109)] #[23, 23])) (some (99, false))), (.mk (some 111) (.unOp (.not) 4 (.tmp 110)) (some (99, false))), (.mk (some 112) (.pick (.tmp 99) (.const (.bool true)) (.tmp 111)) none), (.mk (some 113) (.move (.tmp 112)) none), (.mk (some 114) (.move (.tmp 12)) (some (113, false))), (.mk (some 115) (.move (.tmp 10)) (some (113, false))), (.mk (some 116) (.move (.tmp 9)) (some (113, false))), (.mk (some 117) (.call (.mk (.value (.func 14)) #[(.tmp 115), (.tmp 116)] #[23, 23])) (some (113, false))), (.mk (some 118) (.call (.mk (.value (.func 13)) #[(.tmp 114), (.tmp 117)] #[23, 23])) (some (113, false))), (.mk (some 119) (.unOp (.not) 4 (.tmp 118)) (some (113, false))), (.mk (some 120) (.pick (.tmp 113) (.const (.bool true)) (.tmp 119)) none)])
def s7_22 : SCode := (.reg [(.mk (some 8) (.assign (.const (.bool false))) none)])
def s7_23 : SCode := (.cond (.tmp 120) (.seq s7_22 (.ret)) (.skip))
def s7_24 : SCode := (.reg [(.mk (some 121) (.move (.tmp 3)) none), (.mk (some 122) (.call (.mk (.value (.func 27)) #[(.tmp 121), (.const (.int (.i64) 50))] #[3, 3])) none), (.mk (some 3) (.assign (.tmp 122)) none)])
def s7_25 : SCode := (.reg [(.mk (some 123) (.move (.tmp 11)) none), (.mk (some 124) (.move (.tmp 3)) none), (.mk (some 125) (.call (.mk (.value (.func 28)) #[(.tmp 123), (.tmp 124)] #[23, 3])) none), (.mk (some 18) (.assign (.tmp 125)) none)])
def s7_26 : SCode := (.reg [(.mk (some 126) (.move (.tmp 11)) none), (.mk (some 127) (.move (.tmp 3)) none), (.mk (some 128) (.call (.mk (.value (.func 31)) #[(.tmp 126), (.tmp 127)] #[23, 3])) none), (.mk (some 19) (.assign (.tmp 128)) none)])
def s7_27 : SCode := (.reg [(.mk (some 129) (.move (.tmp 11)) none), (.mk (some 130) (.move (.tmp 3)) none), (.mk (some 131) (.call (.mk (.value (.func 29)) #[(.tmp 129), (.tmp 130)] #[23, 3])) none), (.mk (some 20) (.assign (.tmp 131)) none)])
def s7_28 : SCode := (.reg [(.mk (some 132) (.move (.tmp 18)) none), (.mk (some 133) (.call (.mk (.value (.func 22)) #[(.tmp 132)] #[23])) none), (.mk (some 134) (.move (.tmp 3)) none), (.mk (some 135) (.move (.tmp 11)) none), (.mk (some 136) (.call (.mk (.value (.func 22)) #[(.tmp 135)] #[23])) none), (.mk (some 137) (.call (.mk (.builtin (.min)) #[(.tmp 134), (.tmp 136)] #[3, 3])) none), (.mk (some 138) (.binOp (.eql) 3 (.tmp 133) (.tmp 137) 3) none), (.mk (some 139) (.move (.tmp 138)) none), (.mk (some 140) (.move (.tmp 20)) (some (139, true))), (.mk (some 141) (.call (.mk (.value (.func 22)) #[(.tmp 140)] #[23])) (some (139, true))), (.mk (some 142) (.move (.tmp 18)) (some (139, true))), (.mk (some 143) (.call (.mk (.value (.func 22)) #[(.tmp 142)] #[23])) (some (139, true))), (.mk (some 144) (.binOp (.eql) 3 (.tmp 141) (.tmp 143) 3) (some (139, true))), (.mk (some 145) (.pick (.tmp 139) (.tmp 144) (.const (.bool false))) none), (.mk (some 146) (.move (.tmp 145)) none), (.mk (some 147) (.move (.tmp 18)) (some (146, true))), (.mk (some 148) (.move (.tmp 19)) (some (146, true))), (.mk (some 149) (.call (.mk (.value (.func 14)) #[(.tmp 147), (.tmp 148)] #[23, 23])) (some (146, true))), (.mk (some 150) (.move (.tmp 11)) (some (146, true))), (.mk (some 151) (.call (.mk (.value (.func 15)) #[(.tmp 150)] #[23])) (some (146, true))), (.mk (some 152) (.call (.mk (.value (.func 13)) #[(.tmp 149), (.tmp 151)] #[23, 23])) (some (146, true))), (.mk (some 153) (.pick (.tmp 146) (.tmp 152) (.const (.bool false))) none), (.mk (some 154) (.move (.tmp 153)) none), (.mk (some 155) (.move (.tmp 18)) (some (154, true))), (.mk (some 156) (.move (.tmp 19)) (some (154, true))), (.mk (some 157) (.call (.mk (.value (.func 12)) #[(.tmp 155), (.tmp 156)] #[23, 23])) (some (154, true))), (.mk (some 158) (.call (.mk (.builtin (.len)) #[(.tmp 157)] #[23])) (some (154, true))), (.mk (some 159) (.binOp (.eql) 3 (.tmp 158) (.const (.int (.i64) 0)) 3) (some (154, true))), (.mk (some 160) (.pick (.tmp 154) (.tmp 159) (.const (.bool false))) none), (.mk (some 161) (.move (.tmp 160)) none), (.mk (some 162) (.move (.tmp 18)) (some (161, true))), (.mk (some 163) (.call (.mk (.value (.func 22)) #[(.tmp 162)] #[23])) (some (161, true))), (.mk (some 164) (.move (.tmp 19)) (some (161, true))), (.mk (some 165) (.call (.mk (.value (.func 22)) #[(.tmp 164)] #[23])) (some (161, true))), (.mk (some 166) (.binOp (.add) 3 (.tmp 163) (.tmp 165) 3) (some (161, true))), (.mk (some 167) (.move (.tmp 11)) (some (161, true))), (.mk (some 168) (.call (.mk (.value (.func 22)) #[(.tmp 167)] #[23])) (some (161, true))), (.mk (some 169) (.binOp (.eql) 3 (.tmp 166) (.tmp 168) 3) (some (161, true))), (.mk (some 170) (.pick (.tmp 161) (.tmp 169) (.const (.bool false))) none), (.mk (some 8) (.assign (.tmp 170)) none)])
def s7_29 : SCode := (.seq s7_26 (.seq s7_27 (.seq s7_28 (.ret))))
def s7_30 : SCode := (.seq (.seq s7_21 s7_23) (.seq s7_24 (.seq s7_25 s7_29)))
def s7_31 : SCode := (.seq (.seq s7_10 (.block 0 (.loop s7_20))) s7_30)
def s7_32 : SCode := (.seq s7_6 (.seq (.seq s7_7 s7_9) s7_31))
def s7_33 : SCode := (.seq s7_3 (.seq s7_4 (.seq s7_5 s7_32)))
def s7 : SCode := (.seq s7_0 (.seq s7_1 (.seq s7_2 s7_33)))
def e7 := And.intro s7_0.eq_1 <| And.intro s7_1.eq_1 <| And.intro s7_2.eq_1 <| And.intro s7_3.eq_1 <| And.intro s7_4.eq_1 <| And.intro s7_5.eq_1 <| And.intro s7_6.eq_1 <| And.intro s7_7.eq_1 <| And.intro s7_8.eq_1 <| And.intro s7_9.eq_1 <| And.intro s7_10.eq_1 <| And.intro s7_11.eq_1 <| And.intro s7_12.eq_1 <| And.intro s7_13.eq_1 <| And.intro s7_14.eq_1 <| And.intro s7_15.eq_1 <| And.intro s7_16.eq_1 <| And.intro s7_17.eq_1 <| And.intro s7_18.eq_1 <| And.intro s7_19.eq_1 <| And.intro s7_20.eq_1 <| And.intro s7_21.eq_1 <| And.intro s7_22.eq_1 <| And.intro s7_23.eq_1 <| And.intro s7_24.eq_1 <| And.intro s7_25.eq_1 <| And.intro s7_26.eq_1 <| And.intro s7_27.eq_1 <| And.intro s7_28.eq_1 <| And.intro s7_29.eq_1 <| And.intro s7_30.eq_1 <| And.intro s7_31.eq_1 <| And.intro s7_32.eq_1 <| s7_33.eq_1
theorem h7 : FnS Try.prog 7 ⟨[], []⟩ 171 [(.tmp 8)] s7 := .mk' Try.func7 (by kernel_rfl) (by kernel_rfl) (by kernel_rfl) (by kernel_rfl) (by kernel_rfl) (by kernel_rfl)
end Gv.Try
/- SpansLaws: the walk. -/
set_option linter.unusedVariables false
set_option linter.unusedSimpArgs false
set_option maxRecDepth 20000
set_option maxHeartbeats 4000000
namespace Gv.Try
open Go Gv Go.Proofs
open Gv.Sp (Lim)
theorem rightB_true {l : List Sp.S} (h : Sp.Rt 0 l) : rightB 0 l = true := (rightB_iff l 0).2 h
theorem kRightT {a : List Sp.S} {ta : Tag} {m : Nat} (ha : Lim a m) (hr : Sp.Rt 0 a) (h : m ≤ 1000 := by decide) : GPure Try.prog 17 [.slice (spl a) ta] (.bool true) := by
  have c := kRight (ta := ta) ha h
  rwa [rightB_true hr] at c
theorem hasB_uni (x y : List Sp.S) (n : Int) : Sp.hasB (Sp.uni x y) n = (Sp.hasB x n || Sp.hasB y n) := by
  rw [Bool.eq_iff_iff, Bool.or_eq_true, Sp.hasB_iff, Sp.hasB_iff, Sp.hasB_iff, Sp.uni_has]
theorem hasB_both (x y : List Sp.S) (n : Int) : Sp.hasB (Sp.bothS x y) n = (Sp.hasB x n && Sp.hasB y n) := by
  rw [Bool.eq_iff_iff, Bool.and_eq_true, Sp.hasB_iff, Sp.hasB_iff, Sp.hasB_iff, Sp.bothS_has]
theorem hasB_minus {x y : List Sp.S} (hx : Sp.Ok x) (hy : Sp.Ok y) (n : Int) : Sp.hasB (Sp.minus x y) n = (Sp.hasB x n && !Sp.hasB y n) := by
  rw [Bool.eq_iff_iff, Bool.and_eq_true, Sp.hasB_iff, Sp.hasB_iff, Bool.not_eq_true', Bool.eq_false_iff, ne_eq, Sp.hasB_iff, Sp.minus_has hx hy]
theorem kHasU {x y : List Sp.S} {ta : Tag} {m k : Nat} {n : Int} {p q : Bool} (hx : Lim x m) (hy : Lim y k) (ep : Sp.hasB x n = p) (eq : Sp.hasB y n = q) (h : m + k ≤ 1000 := by decide) : GPure Try.prog 26 [.slice (spl (Sp.uni x y)) ta, .int .i64 n] (.bool (p || q)) := by
  have c := kHas (ta := ta) (n := n) (hx.uni hy) h
  rwa [hasB_uni, ep, eq] at c
theorem kHasB {x y : List Sp.S} {ta : Tag} {m k : Nat} {n : Int} {p q : Bool} (hx : Lim x m) (hy : Lim y k) (ep : Sp.hasB x n = p) (eq : Sp.hasB y n = q) (h : m + k ≤ 1000 := by decide) : GPure Try.prog 26 [.slice (spl (Sp.bothS x y)) ta, .int .i64 n] (.bool (p && q)) := by
  have c := kHas (ta := ta) (n := n) (hx.both hy) h
  rwa [hasB_both, ep, eq] at c
theorem kHasM {x y : List Sp.S} {ta : Tag} {m k : Nat} {n : Int} {p q : Bool} (hx : Lim x m) (hy : Lim y k) (ep : Sp.hasB x n = p) (eq : Sp.hasB y n = q) (h : m + k + 1 ≤ 1000 := by decide) : GPure Try.prog 26 [.slice (spl (Sp.minus x y)) ta, .int .i64 n] (.bool (p && !q)) := by
  have c := kHas (ta := ta) (n := n) (hx.minus hy) h
  rwa [hasB_minus hx.2 hy.2, ep, eq] at c
theorem kHasE {x : List Sp.S} {ta : Tag} {m : Nat} {n : Int} {p : Bool} (hx : Lim x m) (ep : Sp.hasB x n = p) (h : m ≤ 1000 := by decide) : GPure Try.prog 26 [.slice (spl x) ta, .int .i64 n] (.bool p) := by
  have c := kHas (ta := ta) (n := n) hx h
  rwa [ep] at c
/-- small sets are counted -/
theorem kCountE {x : List Sp.S} {ta : Tag} {m : Nat} {c : Int} (hx : Lim x m) (e : Sp.tot (Sp.nf x) = c) (hc : c ≤ 1000000) (h : m ≤ 1000 := by decide) : GPure Try.prog 22 [.slice (spl x) ta] (.int .i64 c) := by
  have q := kCount (ta := ta) hx h
  rwa [e, Int.min_eq_right (by omega)] at q
theorem law_1 {x y : List Sp.S} (hx : Sp.Ok x) (hy : Sp.Ok y) : Sp.uni (Sp.minus x y) (Sp.bothS x y) = Sp.nf x := Sp.eqv (Sp.uni_rt _ _) (Sp.nf_rt _) fun n => by
  rw [Sp.uni_has, Sp.minus_has hx hy, Sp.bothS_has, Sp.nf_has]
  by_cases h1 : Sp.has x n <;> by_cases h2 : Sp.has y n <;> simp [h1, h2]
theorem law_2 (x y z : List Sp.S) : Sp.bothS z (Sp.uni x y) = Sp.uni (Sp.bothS z x) (Sp.bothS z y) := Sp.eqv (Sp.bothS_rt _ _) (Sp.uni_rt _ _) fun n => by
  rw [Sp.bothS_has, Sp.uni_has, Sp.uni_has, Sp.bothS_has, Sp.bothS_has]
  by_cases h1 : Sp.has x n <;> by_cases h2 : Sp.has y n <;> simp [h1, h2]
theorem law_3 (x y : List Sp.S) : Sp.uni x y = Sp.uni y x := Sp.eqv (Sp.uni_rt _ _) (Sp.uni_rt _ _) fun n => by
  rw [Sp.uni_has, Sp.uni_has, or_comm]
theorem small_tot (c : List Int) : Sp.tot (Sp.nf (setF c false)) ≤ 64 ∧ 0 ≤ Sp.tot (Sp.nf (setF c false)) := by
  have hr := Sp.nf_rt (setF c false)
  refine ⟨?_, Sp.tot_pos hr⟩
  have := Sp.tot_small 63 hr fun s hs => by
    have h := (Sp.nf_has _ _).1 (hr.hi (by omega) hs)
    obtain ⟨t, ht, _, h1, h2⟩ := h
    simp only [setF, setN, List.mem_map] at ht
    obtain ⟨j, _, rfl⟩ := ht
    simp only [elS, Bool.false_eq_true, false_and, if_false] at h2
    omega
  omega
theorem tot_first {N : List Sp.S} (h : Sp.Rt 0 N) (n : Int) (hn : 0 ≤ n) : Sp.tot (Sp.firstS N n) = min n (Sp.tot N) := by
  have h1 := Sp.els_len h
  have h2 := Sp.els_len (Sp.first_rt h n)
  rw [Sp.els_first h, List.length_take] at h2
  omega
theorem tot_skip {N : List Sp.S} (h : Sp.Rt 0 N) (n : Int) (hn : 0 ≤ n) : Sp.tot (Sp.skipS N n) = Sp.tot N - min n (Sp.tot N) := by
  have h1 := Sp.els_len h
  have h2 := Sp.els_len (Sp.skip_rt h n)
  rw [Sp.els_skip h, List.length_drop] at h2
  omega
theorem tot_low {N : List Sp.S} (h : Sp.Rt 0 N) (n : Int) (hn : 0 ≤ n) : Sp.tot (Sp.lowF N n) = min n (Sp.tot N) := by
  have h1 := Sp.els_len h
  have h2 := Sp.els_len (Sp.low_rt N n 0 h)
  rw [Sp.els_low N n h.all_le, List.length_drop] at h2
  omega
theorem first_skip_uni {N : List Sp.S} (h : Sp.Rt 0 N) (n : Int) : Sp.uni (Sp.firstS N n) (Sp.skipS N n) = N := Sp.eqv (Sp.uni_rt _ _) h fun m => by
  rw [Sp.uni_has, ← Sp.els_mem (Sp.first_rt h n) (by omega), ← Sp.els_mem (Sp.skip_rt h n) (by omega), ← Sp.els_mem h (by omega), Sp.els_first h, Sp.els_skip h, ← List.mem_append, List.take_append_drop]
theorem first_skip_both {N : List Sp.S} (h : Sp.Rt 0 N) (n : Int) : Sp.bothS (Sp.firstS N n) (Sp.skipS N n) = [] := Sp.empty_of (Sp.bothS_rt _ _) fun m hm => by
  rw [Sp.bothS_has, ← Sp.els_mem (Sp.first_rt h n) (by omega), ← Sp.els_mem (Sp.skip_rt h n) (by omega), Sp.els_first h, Sp.els_skip h, Sp.pw_part (Sp.els_pw h (by omega))] at hm
  exact hm.2.2 hm.1

theorem spec7 (a b c : List Int) (n : Int) (ta tb tc : Tag) (ha : Ints a) (hb : Ints b) (hc : Ints c) (hn0 : -9223372036854775808 ≤ n ∧ n ≤ 9223372036854775807) : GPure Try.prog 7 [.slice (ints a) ta, .slice (ints b) tb, .slice (ints c) tc, .int .i64 n] (.bool true) := by
  have b1 := Int.emod_nonneg n (by decide : (50 : Int) ≠ 0)
  have b2 := Int.emod_lt_of_pos n (by decide : (0 : Int) < 50)
  refine h7.pure mixS (by simp) ?_
  simp only [gstart, s7, List.cons_append, List.nil_append, List.length_cons, List.length_nil, Nat.reduceAdd, Nat.reduceSub, List.replicate_succ, List.replicate_zero]
  simp +contextual -implicitDefEqProofs (maxSteps := 2000000) (disch := omega) only [↓lenV, binV, ↓unV, ↓minV, GVal.cells, grp, GVal.ofConst, ↓resV, resG, List.map, List.headD, List.take, List.drop, ↓reduceIte, Nat.reduceEqDiff, Nat.reduceAdd, Nat.reduceSub, Nat.reduceLeDiff, reduceCtorEq, implies_true, ne_eq, aggV, Tag.cap, List.replicate, allSolid, GVal.solid, Nat.reduceBEq, Nat.reduceMul, Nat.reduceLT, List.length_map, List.length_range, splice, vcA, ↓vcB, vcC, fbSpc, e7]
  refine (kSet ha).then ?_ (by rfl)
  simp +contextual -implicitDefEqProofs (maxSteps := 2000000) (disch := omega) only [↓lenV, binV, ↓unV, ↓minV, GVal.cells, grp, GVal.ofConst, ↓resV, resG, List.map, List.headD, List.take, List.drop, ↓reduceIte, Nat.reduceEqDiff, Nat.reduceAdd, Nat.reduceSub, Nat.reduceLeDiff, reduceCtorEq, implies_true, ne_eq, aggV, Tag.cap, List.replicate, allSolid, GVal.solid, Nat.reduceBEq, Nat.reduceMul, Nat.reduceLT, List.length_map, List.length_range, splice, vcA, ↓vcB, vcC, fbSpc, e7]
  refine (kSet hb).then ?_ (by rfl)
  simp +contextual -implicitDefEqProofs (maxSteps := 2000000) (disch := omega) only [↓lenV, binV, ↓unV, ↓minV, GVal.cells, grp, GVal.ofConst, ↓resV, resG, List.map, List.headD, List.take, List.drop, ↓reduceIte, Nat.reduceEqDiff, Nat.reduceAdd, Nat.reduceSub, Nat.reduceLeDiff, reduceCtorEq, implies_true, ne_eq, aggV, Tag.cap, List.replicate, allSolid, GVal.solid, Nat.reduceBEq, Nat.reduceMul, Nat.reduceLT, List.length_map, List.length_range, splice, vcA, ↓vcB, vcC, fbSpc, e7]
  refine (kSet hc).then ?_ (by rfl)
  have lx := setF_lim a true
  have ly := setF_lim b true
  have lz := setF_lim c false
  obtain ⟨t1, t0⟩ := small_tot c
  generalize setF a true = x at *
  generalize setF b true = y at *
  generalize setF c false = z at *
  have hzr := Sp.nf_rt z
  simp +contextual -implicitDefEqProofs (maxSteps := 2000000) (disch := omega) only [↓lenV, binV, ↓unV, ↓minV, GVal.cells, grp, GVal.ofConst, ↓resV, resG, List.map, List.headD, List.take, List.drop, ↓reduceIte, Nat.reduceEqDiff, Nat.reduceAdd, Nat.reduceSub, Nat.reduceLeDiff, reduceCtorEq, implies_true, ne_eq, aggV, Tag.cap, List.replicate, allSolid, GVal.solid, Nat.reduceBEq, Nat.reduceMul, Nat.reduceLT, List.length_map, List.length_range, splice, vcA, ↓vcB, vcC, fbSpc, e7]
  refine (kUnion lx ly).then ?_ (by rfl)
  simp +contextual -implicitDefEqProofs (maxSteps := 2000000) (disch := omega) only [↓lenV, binV, ↓unV, ↓minV, GVal.cells, grp, GVal.ofConst, ↓resV, resG, List.map, List.headD, List.take, List.drop, ↓reduceIte, Nat.reduceEqDiff, Nat.reduceAdd, Nat.reduceSub, Nat.reduceLeDiff, reduceCtorEq, implies_true, ne_eq, aggV, Tag.cap, List.replicate, allSolid, GVal.solid, Nat.reduceBEq, Nat.reduceMul, Nat.reduceLT, List.length_map, List.length_range, splice, vcA, ↓vcB, vcC, fbSpc, e7]
  refine (kBoth lx ly).then ?_ (by rfl)
  simp +contextual -implicitDefEqProofs (maxSteps := 2000000) (disch := omega) only [↓lenV, binV, ↓unV, ↓minV, GVal.cells, grp, GVal.ofConst, ↓resV, resG, List.map, List.headD, List.take, List.drop, ↓reduceIte, Nat.reduceEqDiff, Nat.reduceAdd, Nat.reduceSub, Nat.reduceLeDiff, reduceCtorEq, implies_true, ne_eq, aggV, Tag.cap, List.replicate, allSolid, GVal.solid, Nat.reduceBEq, Nat.reduceMul, Nat.reduceLT, List.length_map, List.length_range, splice, vcA, ↓vcB, vcC, fbSpc, e7]
  refine (kMinus lx ly).then ?_ (by rfl)
  simp +contextual -implicitDefEqProofs (maxSteps := 2000000) (disch := omega) only [↓lenV, binV, ↓unV, ↓minV, GVal.cells, grp, GVal.ofConst, ↓resV, resG, List.map, List.headD, List.take, List.drop, ↓reduceIte, Nat.reduceEqDiff, Nat.reduceAdd, Nat.reduceSub, Nat.reduceLeDiff, reduceCtorEq, implies_true, ne_eq, aggV, Tag.cap, List.replicate, allSolid, GVal.solid, Nat.reduceBEq, Nat.reduceMul, Nat.reduceLT, List.length_map, List.length_range, splice, vcA, ↓vcB, vcC, fbSpc, e7]
  refine (sKnown).then ?_ (by rfl)
  simp +contextual -implicitDefEqProofs (maxSteps := 2000000) (disch := omega) only [↓lenV, binV, ↓unV, ↓minV, GVal.cells, grp, GVal.ofConst, ↓resV, resG, List.map, List.headD, List.take, List.drop, ↓reduceIte, Nat.reduceEqDiff, Nat.reduceAdd, Nat.reduceSub, Nat.reduceLeDiff, reduceCtorEq, implies_true, ne_eq, aggV, Tag.cap, List.replicate, allSolid, GVal.solid, Nat.reduceBEq, Nat.reduceMul, Nat.reduceLT, List.length_map, List.length_range, splice, vcA, ↓vcB, vcC, fbSpc, e7]
  refine (kRightT (lx.uni ly) (Sp.uni_rt _ _)).then ?_ (by rfl)
  simp +contextual -implicitDefEqProofs (maxSteps := 2000000) (disch := omega) only [↓lenV, binV, ↓unV, ↓minV, GVal.cells, grp, GVal.ofConst, ↓resV, resG, List.map, List.headD, List.take, List.drop, ↓reduceIte, Nat.reduceEqDiff, Nat.reduceAdd, Nat.reduceSub, Nat.reduceLeDiff, reduceCtorEq, implies_true, ne_eq, aggV, Tag.cap, List.replicate, allSolid, GVal.solid, Nat.reduceBEq, Nat.reduceMul, Nat.reduceLT, List.length_map, List.length_range, splice, vcA, ↓vcB, vcC, fbSpc, e7]
  refine (kRightT (lx.both ly) (Sp.bothS_rt _ _)).then ?_ (by rfl)
  simp +contextual -implicitDefEqProofs (maxSteps := 2000000) (disch := omega) only [↓lenV, binV, ↓unV, ↓minV, GVal.cells, grp, GVal.ofConst, ↓resV, resG, List.map, List.headD, List.take, List.drop, ↓reduceIte, Nat.reduceEqDiff, Nat.reduceAdd, Nat.reduceSub, Nat.reduceLeDiff, reduceCtorEq, implies_true, ne_eq, aggV, Tag.cap, List.replicate, allSolid, GVal.solid, Nat.reduceBEq, Nat.reduceMul, Nat.reduceLT, List.length_map, List.length_range, splice, vcA, ↓vcB, vcC, fbSpc, e7]
  refine (kRightT (lx.minus ly) (Sp.minus_rt _ _)).then ?_ (by rfl)
  simp +contextual -implicitDefEqProofs (maxSteps := 2000000) (disch := omega) only [↓lenV, binV, ↓unV, ↓minV, GVal.cells, grp, GVal.ofConst, ↓resV, resG, List.map, List.headD, List.take, List.drop, ↓reduceIte, Nat.reduceEqDiff, Nat.reduceAdd, Nat.reduceSub, Nat.reduceLeDiff, reduceCtorEq, implies_true, ne_eq, aggV, Tag.cap, List.replicate, allSolid, GVal.solid, Nat.reduceBEq, Nat.reduceMul, Nat.reduceLT, List.length_map, List.length_range, splice, vcA, ↓vcB, vcC, fbSpc, e7]
  refine vcSLoop_by (ι := { i : Int // -2 ≤ i ∧ i ≤ 75 }) (fun i => ⟨[.any, .any, .any, .int .i64 n, .any, .any, .any, .any, .any, .slice (spl x) .none, .slice (spl y) .none, .slice (spl z) .none, .slice (spl (Sp.uni x y)) .none, .slice (spl (Sp.bothS x y)) .none, .slice (spl (Sp.minus x y)) .none, .int .i64 i.1] ++ List.replicate 155 .any, []⟩) (fun i => (75 - i.1).toNat) ?_ ?_
  · exact Into.first ⟨-2, by omega⟩ ⟨[], by simp⟩ (by simp [WL, leG_self, leG_any, leG_int])
  · rintro ⟨i, hi⟩
    by_cases h : i < 75
    · have d0 : (i < 75) = True := eq_true h
      simp +contextual -implicitDefEqProofs (maxSteps := 2000000) (disch := omega) only [↓lenV, binV, ↓unV, ↓minV, GVal.cells, grp, GVal.ofConst, ↓resV, resG, List.map, List.headD, List.take, List.drop, ↓reduceIte, Nat.reduceEqDiff, Nat.reduceAdd, Nat.reduceSub, Nat.reduceLeDiff, reduceCtorEq, implies_true, ne_eq, aggV, Tag.cap, List.replicate, allSolid, GVal.solid, Nat.reduceBEq, Nat.reduceMul, Nat.reduceLT, List.length_map, List.length_range, splice, vcA, ↓vcB, vcC, fbSpc, e7, d0]
      cases ep : Sp.hasB x i <;> cases eq : Sp.hasB y i
      · refine (kHasE lx ep).then ?_ (by rfl)
        simp +contextual -implicitDefEqProofs (maxSteps := 2000000) (disch := omega) only [↓lenV, binV, ↓unV, ↓minV, GVal.cells, grp, GVal.ofConst, ↓resV, resG, List.map, List.headD, List.take, List.drop, ↓reduceIte, Nat.reduceEqDiff, Nat.reduceAdd, Nat.reduceSub, Nat.reduceLeDiff, reduceCtorEq, implies_true, ne_eq, aggV, Tag.cap, List.replicate, allSolid, GVal.solid, Nat.reduceBEq, Nat.reduceMul, Nat.reduceLT, List.length_map, List.length_range, splice, vcA, ↓vcB, vcC, fbSpc, e7]
        refine (kHasE ly eq).then ?_ (by rfl)
        simp +contextual -implicitDefEqProofs (maxSteps := 2000000) (disch := omega) only [↓lenV, binV, ↓unV, ↓minV, GVal.cells, grp, GVal.ofConst, ↓resV, resG, List.map, List.headD, List.take, List.drop, ↓reduceIte, Nat.reduceEqDiff, Nat.reduceAdd, Nat.reduceSub, Nat.reduceLeDiff, reduceCtorEq, implies_true, ne_eq, aggV, Tag.cap, List.replicate, allSolid, GVal.solid, Nat.reduceBEq, Nat.reduceMul, Nat.reduceLT, List.length_map, List.length_range, splice, vcA, ↓vcB, vcC, fbSpc, e7]
        refine (kHasU lx ly ep eq).then ?_ (by rfl)
        simp +contextual -implicitDefEqProofs (maxSteps := 2000000) (disch := omega) only [↓lenV, binV, ↓unV, ↓minV, GVal.cells, grp, GVal.ofConst, ↓resV, resG, List.map, List.headD, List.take, List.drop, ↓reduceIte, Nat.reduceEqDiff, Nat.reduceAdd, Nat.reduceSub, Nat.reduceLeDiff, reduceCtorEq, implies_true, ne_eq, aggV, Tag.cap, List.replicate, allSolid, GVal.solid, Nat.reduceBEq, Nat.reduceMul, Nat.reduceLT, List.length_map, List.length_range, splice, vcA, ↓vcB, vcC, fbSpc, e7]
        refine (kHasB lx ly ep eq).then ?_ (by rfl)
        simp +contextual -implicitDefEqProofs (maxSteps := 2000000) (disch := omega) only [↓lenV, binV, ↓unV, ↓minV, GVal.cells, grp, GVal.ofConst, ↓resV, resG, List.map, List.headD, List.take, List.drop, ↓reduceIte, Nat.reduceEqDiff, Nat.reduceAdd, Nat.reduceSub, Nat.reduceLeDiff, reduceCtorEq, implies_true, ne_eq, aggV, Tag.cap, List.replicate, allSolid, GVal.solid, Nat.reduceBEq, Nat.reduceMul, Nat.reduceLT, List.length_map, List.length_range, splice, vcA, ↓vcB, vcC, fbSpc, e7]
        refine (kHasM lx ly ep eq).then ?_ (by rfl)
        simp +contextual -implicitDefEqProofs (maxSteps := 2000000) (disch := omega) only [↓lenV, binV, ↓unV, ↓minV, GVal.cells, grp, GVal.ofConst, ↓resV, resG, List.map, List.headD, List.take, List.drop, ↓reduceIte, Nat.reduceEqDiff, Nat.reduceAdd, Nat.reduceSub, Nat.reduceLeDiff, reduceCtorEq, implies_true, ne_eq, aggV, Tag.cap, List.replicate, allSolid, GVal.solid, Nat.reduceBEq, Nat.reduceMul, Nat.reduceLT, List.length_map, List.length_range, splice, vcA, ↓vcB, vcC, fbSpc, e7]
        exact Into.at ⟨i + 1, by omega⟩ (by show _ < _; simp; omega) ⟨[], by simp⟩ (by simp [WL, leG_self, leG_any, leG_int])
      · refine (kHasE lx ep).then ?_ (by rfl)
        simp +contextual -implicitDefEqProofs (maxSteps := 2000000) (disch := omega) only [↓lenV, binV, ↓unV, ↓minV, GVal.cells, grp, GVal.ofConst, ↓resV, resG, List.map, List.headD, List.take, List.drop, ↓reduceIte, Nat.reduceEqDiff, Nat.reduceAdd, Nat.reduceSub, Nat.reduceLeDiff, reduceCtorEq, implies_true, ne_eq, aggV, Tag.cap, List.replicate, allSolid, GVal.solid, Nat.reduceBEq, Nat.reduceMul, Nat.reduceLT, List.length_map, List.length_range, splice, vcA, ↓vcB, vcC, fbSpc, e7]
        refine (kHasE ly eq).then ?_ (by rfl)
        simp +contextual -implicitDefEqProofs (maxSteps := 2000000) (disch := omega) only [↓lenV, binV, ↓unV, ↓minV, GVal.cells, grp, GVal.ofConst, ↓resV, resG, List.map, List.headD, List.take, List.drop, ↓reduceIte, Nat.reduceEqDiff, Nat.reduceAdd, Nat.reduceSub, Nat.reduceLeDiff, reduceCtorEq, implies_true, ne_eq, aggV, Tag.cap, List.replicate, allSolid, GVal.solid, Nat.reduceBEq, Nat.reduceMul, Nat.reduceLT, List.length_map, List.length_range, splice, vcA, ↓vcB, vcC, fbSpc, e7]
        refine (kHasU lx ly ep eq).then ?_ (by rfl)
        simp +contextual -implicitDefEqProofs (maxSteps := 2000000) (disch := omega) only [↓lenV, binV, ↓unV, ↓minV, GVal.cells, grp, GVal.ofConst, ↓resV, resG, List.map, List.headD, List.take, List.drop, ↓reduceIte, Nat.reduceEqDiff, Nat.reduceAdd, Nat.reduceSub, Nat.reduceLeDiff, reduceCtorEq, implies_true, ne_eq, aggV, Tag.cap, List.replicate, allSolid, GVal.solid, Nat.reduceBEq, Nat.reduceMul, Nat.reduceLT, List.length_map, List.length_range, splice, vcA, ↓vcB, vcC, fbSpc, e7]
        refine (kHasB lx ly ep eq).then ?_ (by rfl)
        simp +contextual -implicitDefEqProofs (maxSteps := 2000000) (disch := omega) only [↓lenV, binV, ↓unV, ↓minV, GVal.cells, grp, GVal.ofConst, ↓resV, resG, List.map, List.headD, List.take, List.drop, ↓reduceIte, Nat.reduceEqDiff, Nat.reduceAdd, Nat.reduceSub, Nat.reduceLeDiff, reduceCtorEq, implies_true, ne_eq, aggV, Tag.cap, List.replicate, allSolid, GVal.solid, Nat.reduceBEq, Nat.reduceMul, Nat.reduceLT, List.length_map, List.length_range, splice, vcA, ↓vcB, vcC, fbSpc, e7]
        refine (kHasM lx ly ep eq).then ?_ (by rfl)
        simp +contextual -implicitDefEqProofs (maxSteps := 2000000) (disch := omega) only [↓lenV, binV, ↓unV, ↓minV, GVal.cells, grp, GVal.ofConst, ↓resV, resG, List.map, List.headD, List.take, List.drop, ↓reduceIte, Nat.reduceEqDiff, Nat.reduceAdd, Nat.reduceSub, Nat.reduceLeDiff, reduceCtorEq, implies_true, ne_eq, aggV, Tag.cap, List.replicate, allSolid, GVal.solid, Nat.reduceBEq, Nat.reduceMul, Nat.reduceLT, List.length_map, List.length_range, splice, vcA, ↓vcB, vcC, fbSpc, e7]
        exact Into.at ⟨i + 1, by omega⟩ (by show _ < _; simp; omega) ⟨[], by simp⟩ (by simp [WL, leG_self, leG_any, leG_int])
      · refine (kHasE lx ep).then ?_ (by rfl)
        simp +contextual -implicitDefEqProofs (maxSteps := 2000000) (disch := omega) only [↓lenV, binV, ↓unV, ↓minV, GVal.cells, grp, GVal.ofConst, ↓resV, resG, List.map, List.headD, List.take, List.drop, ↓reduceIte, Nat.reduceEqDiff, Nat.reduceAdd, Nat.reduceSub, Nat.reduceLeDiff, reduceCtorEq, implies_true, ne_eq, aggV, Tag.cap, List.replicate, allSolid, GVal.solid, Nat.reduceBEq, Nat.reduceMul, Nat.reduceLT, List.length_map, List.length_range, splice, vcA, ↓vcB, vcC, fbSpc, e7]
        refine (kHasE ly eq).then ?_ (by rfl)
        simp +contextual -implicitDefEqProofs (maxSteps := 2000000) (disch := omega) only [↓lenV, binV, ↓unV, ↓minV, GVal.cells, grp, GVal.ofConst, ↓resV, resG, List.map, List.headD, List.take, List.drop, ↓reduceIte, Nat.reduceEqDiff, Nat.reduceAdd, Nat.reduceSub, Nat.reduceLeDiff, reduceCtorEq, implies_true, ne_eq, aggV, Tag.cap, List.replicate, allSolid, GVal.solid, Nat.reduceBEq, Nat.reduceMul, Nat.reduceLT, List.length_map, List.length_range, splice, vcA, ↓vcB, vcC, fbSpc, e7]
        refine (kHasU lx ly ep eq).then ?_ (by rfl)
        simp +contextual -implicitDefEqProofs (maxSteps := 2000000) (disch := omega) only [↓lenV, binV, ↓unV, ↓minV, GVal.cells, grp, GVal.ofConst, ↓resV, resG, List.map, List.headD, List.take, List.drop, ↓reduceIte, Nat.reduceEqDiff, Nat.reduceAdd, Nat.reduceSub, Nat.reduceLeDiff, reduceCtorEq, implies_true, ne_eq, aggV, Tag.cap, List.replicate, allSolid, GVal.solid, Nat.reduceBEq, Nat.reduceMul, Nat.reduceLT, List.length_map, List.length_range, splice, vcA, ↓vcB, vcC, fbSpc, e7]
        refine (kHasB lx ly ep eq).then ?_ (by rfl)
        simp +contextual -implicitDefEqProofs (maxSteps := 2000000) (disch := omega) only [↓lenV, binV, ↓unV, ↓minV, GVal.cells, grp, GVal.ofConst, ↓resV, resG, List.map, List.headD, List.take, List.drop, ↓reduceIte, Nat.reduceEqDiff, Nat.reduceAdd, Nat.reduceSub, Nat.reduceLeDiff, reduceCtorEq, implies_true, ne_eq, aggV, Tag.cap, List.replicate, allSolid, GVal.solid, Nat.reduceBEq, Nat.reduceMul, Nat.reduceLT, List.length_map, List.length_range, splice, vcA, ↓vcB, vcC, fbSpc, e7]
        refine (kHasM lx ly ep eq).then ?_ (by rfl)
        simp +contextual -implicitDefEqProofs (maxSteps := 2000000) (disch := omega) only [↓lenV, binV, ↓unV, ↓minV, GVal.cells, grp, GVal.ofConst, ↓resV, resG, List.map, List.headD, List.take, List.drop, ↓reduceIte, Nat.reduceEqDiff, Nat.reduceAdd, Nat.reduceSub, Nat.reduceLeDiff, reduceCtorEq, implies_true, ne_eq, aggV, Tag.cap, List.replicate, allSolid, GVal.solid, Nat.reduceBEq, Nat.reduceMul, Nat.reduceLT, List.length_map, List.length_range, splice, vcA, ↓vcB, vcC, fbSpc, e7]
        exact Into.at ⟨i + 1, by omega⟩ (by show _ < _; simp; omega) ⟨[], by simp⟩ (by simp [WL, leG_self, leG_any, leG_int])
      · refine (kHasE lx ep).then ?_ (by rfl)
        simp +contextual -implicitDefEqProofs (maxSteps := 2000000) (disch := omega) only [↓lenV, binV, ↓unV, ↓minV, GVal.cells, grp, GVal.ofConst, ↓resV, resG, List.map, List.headD, List.take, List.drop, ↓reduceIte, Nat.reduceEqDiff, Nat.reduceAdd, Nat.reduceSub, Nat.reduceLeDiff, reduceCtorEq, implies_true, ne_eq, aggV, Tag.cap, List.replicate, allSolid, GVal.solid, Nat.reduceBEq, Nat.reduceMul, Nat.reduceLT, List.length_map, List.length_range, splice, vcA, ↓vcB, vcC, fbSpc, e7]
        refine (kHasE ly eq).then ?_ (by rfl)
        simp +contextual -implicitDefEqProofs (maxSteps := 2000000) (disch := omega) only [↓lenV, binV, ↓unV, ↓minV, GVal.cells, grp, GVal.ofConst, ↓resV, resG, List.map, List.headD, List.take, List.drop, ↓reduceIte, Nat.reduceEqDiff, Nat.reduceAdd, Nat.reduceSub, Nat.reduceLeDiff, reduceCtorEq, implies_true, ne_eq, aggV, Tag.cap, List.replicate, allSolid, GVal.solid, Nat.reduceBEq, Nat.reduceMul, Nat.reduceLT, List.length_map, List.length_range, splice, vcA, ↓vcB, vcC, fbSpc, e7]
        refine (kHasU lx ly ep eq).then ?_ (by rfl)
        simp +contextual -implicitDefEqProofs (maxSteps := 2000000) (disch := omega) only [↓lenV, binV, ↓unV, ↓minV, GVal.cells, grp, GVal.ofConst, ↓resV, resG, List.map, List.headD, List.take, List.drop, ↓reduceIte, Nat.reduceEqDiff, Nat.reduceAdd, Nat.reduceSub, Nat.reduceLeDiff, reduceCtorEq, implies_true, ne_eq, aggV, Tag.cap, List.replicate, allSolid, GVal.solid, Nat.reduceBEq, Nat.reduceMul, Nat.reduceLT, List.length_map, List.length_range, splice, vcA, ↓vcB, vcC, fbSpc, e7]
        refine (kHasB lx ly ep eq).then ?_ (by rfl)
        simp +contextual -implicitDefEqProofs (maxSteps := 2000000) (disch := omega) only [↓lenV, binV, ↓unV, ↓minV, GVal.cells, grp, GVal.ofConst, ↓resV, resG, List.map, List.headD, List.take, List.drop, ↓reduceIte, Nat.reduceEqDiff, Nat.reduceAdd, Nat.reduceSub, Nat.reduceLeDiff, reduceCtorEq, implies_true, ne_eq, aggV, Tag.cap, List.replicate, allSolid, GVal.solid, Nat.reduceBEq, Nat.reduceMul, Nat.reduceLT, List.length_map, List.length_range, splice, vcA, ↓vcB, vcC, fbSpc, e7]
        refine (kHasM lx ly ep eq).then ?_ (by rfl)
        simp +contextual -implicitDefEqProofs (maxSteps := 2000000) (disch := omega) only [↓lenV, binV, ↓unV, ↓minV, GVal.cells, grp, GVal.ofConst, ↓resV, resG, List.map, List.headD, List.take, List.drop, ↓reduceIte, Nat.reduceEqDiff, Nat.reduceAdd, Nat.reduceSub, Nat.reduceLeDiff, reduceCtorEq, implies_true, ne_eq, aggV, Tag.cap, List.replicate, allSolid, GVal.solid, Nat.reduceBEq, Nat.reduceMul, Nat.reduceLT, List.length_map, List.length_range, splice, vcA, ↓vcB, vcC, fbSpc, e7]
        exact Into.at ⟨i + 1, by omega⟩ (by show _ < _; simp; omega) ⟨[], by simp⟩ (by simp [WL, leG_self, leG_any, leG_int])
    · have d0 : (i < 75) = False := eq_false h
      have hm : -1000 ≤ n % 50 ∧ n % 50 ≤ 1000 := by omega
      have cF : Sp.tot (Sp.nf (Sp.firstS (Sp.nf z) (n % 50))) = min (n % 50) (Sp.tot (Sp.nf z)) := by rw [Sp.nf_rt_eq (Sp.first_rt hzr _), tot_first hzr _ b1]
      have cS : Sp.tot (Sp.nf (Sp.skipS (Sp.nf z) (n % 50))) = Sp.tot (Sp.nf z) - min (n % 50) (Sp.tot (Sp.nf z)) := by rw [Sp.nf_rt_eq (Sp.skip_rt hzr _), tot_skip hzr _ b1]
      have cL : Sp.tot (Sp.nf (Sp.lowF (Sp.nf z) (n % 50))) = min (n % 50) (Sp.tot (Sp.nf z)) := by rw [Sp.nf_rt_eq (Sp.low_rt _ _ 0 hzr), tot_low hzr _ b1]
      simp +contextual -implicitDefEqProofs (maxSteps := 2000000) (disch := omega) only [↓lenV, binV, ↓unV, ↓minV, GVal.cells, grp, GVal.ofConst, ↓resV, resG, List.map, List.headD, List.take, List.drop, ↓reduceIte, Nat.reduceEqDiff, Nat.reduceAdd, Nat.reduceSub, Nat.reduceLeDiff, reduceCtorEq, implies_true, ne_eq, aggV, Tag.cap, List.replicate, allSolid, GVal.solid, Nat.reduceBEq, Nat.reduceMul, Nat.reduceLT, List.length_map, List.length_range, splice, vcA, ↓vcB, vcC, fbSpc, e7, d0, false_imp_iff, true_and]
      refine (kUnion (lx.minus ly) (lx.both ly)).then ?_ (by rfl)
      simp +contextual -implicitDefEqProofs (maxSteps := 2000000) (disch := omega) only [↓lenV, binV, ↓unV, ↓minV, GVal.cells, grp, GVal.ofConst, ↓resV, resG, List.map, List.headD, List.take, List.drop, ↓reduceIte, Nat.reduceEqDiff, Nat.reduceAdd, Nat.reduceSub, Nat.reduceLeDiff, reduceCtorEq, implies_true, ne_eq, aggV, Tag.cap, List.replicate, allSolid, GVal.solid, Nat.reduceBEq, Nat.reduceMul, Nat.reduceLT, List.length_map, List.length_range, splice, vcA, ↓vcB, vcC, fbSpc, e7, spl_length]
      refine (kMake lx).then ?_ (by rfl)
      simp +contextual -implicitDefEqProofs (maxSteps := 2000000) (disch := omega) only [↓lenV, binV, ↓unV, ↓minV, GVal.cells, grp, GVal.ofConst, ↓resV, resG, List.map, List.headD, List.take, List.drop, ↓reduceIte, Nat.reduceEqDiff, Nat.reduceAdd, Nat.reduceSub, Nat.reduceLeDiff, reduceCtorEq, implies_true, ne_eq, aggV, Tag.cap, List.replicate, allSolid, GVal.solid, Nat.reduceBEq, Nat.reduceMul, Nat.reduceLT, List.length_map, List.length_range, splice, vcA, ↓vcB, vcC, fbSpc, e7, spl_length]
      refine (kSame ((lx.minus ly).uni (lx.both ly)) (law_1 lx.2 ly.2)).then ?_ (by rfl)
      simp +contextual -implicitDefEqProofs (maxSteps := 2000000) (disch := omega) only [↓lenV, binV, ↓unV, ↓minV, GVal.cells, grp, GVal.ofConst, ↓resV, resG, List.map, List.headD, List.take, List.drop, ↓reduceIte, Nat.reduceEqDiff, Nat.reduceAdd, Nat.reduceSub, Nat.reduceLeDiff, reduceCtorEq, implies_true, ne_eq, aggV, Tag.cap, List.replicate, allSolid, GVal.solid, Nat.reduceBEq, Nat.reduceMul, Nat.reduceLT, List.length_map, List.length_range, splice, vcA, ↓vcB, vcC, fbSpc, e7, spl_length]
      refine (kBoth lz (lx.uni ly)).then ?_ (by rfl)
      simp +contextual -implicitDefEqProofs (maxSteps := 2000000) (disch := omega) only [↓lenV, binV, ↓unV, ↓minV, GVal.cells, grp, GVal.ofConst, ↓resV, resG, List.map, List.headD, List.take, List.drop, ↓reduceIte, Nat.reduceEqDiff, Nat.reduceAdd, Nat.reduceSub, Nat.reduceLeDiff, reduceCtorEq, implies_true, ne_eq, aggV, Tag.cap, List.replicate, allSolid, GVal.solid, Nat.reduceBEq, Nat.reduceMul, Nat.reduceLT, List.length_map, List.length_range, splice, vcA, ↓vcB, vcC, fbSpc, e7, spl_length]
      refine (kBoth lz lx).then ?_ (by rfl)
      simp +contextual -implicitDefEqProofs (maxSteps := 2000000) (disch := omega) only [↓lenV, binV, ↓unV, ↓minV, GVal.cells, grp, GVal.ofConst, ↓resV, resG, List.map, List.headD, List.take, List.drop, ↓reduceIte, Nat.reduceEqDiff, Nat.reduceAdd, Nat.reduceSub, Nat.reduceLeDiff, reduceCtorEq, implies_true, ne_eq, aggV, Tag.cap, List.replicate, allSolid, GVal.solid, Nat.reduceBEq, Nat.reduceMul, Nat.reduceLT, List.length_map, List.length_range, splice, vcA, ↓vcB, vcC, fbSpc, e7, spl_length]
      refine (kBoth lz ly).then ?_ (by rfl)
      simp +contextual -implicitDefEqProofs (maxSteps := 2000000) (disch := omega) only [↓lenV, binV, ↓unV, ↓minV, GVal.cells, grp, GVal.ofConst, ↓resV, resG, List.map, List.headD, List.take, List.drop, ↓reduceIte, Nat.reduceEqDiff, Nat.reduceAdd, Nat.reduceSub, Nat.reduceLeDiff, reduceCtorEq, implies_true, ne_eq, aggV, Tag.cap, List.replicate, allSolid, GVal.solid, Nat.reduceBEq, Nat.reduceMul, Nat.reduceLT, List.length_map, List.length_range, splice, vcA, ↓vcB, vcC, fbSpc, e7, spl_length]
      refine (kUnion (lz.both lx) (lz.both ly)).then ?_ (by rfl)
      simp +contextual -implicitDefEqProofs (maxSteps := 2000000) (disch := omega) only [↓lenV, binV, ↓unV, ↓minV, GVal.cells, grp, GVal.ofConst, ↓resV, resG, List.map, List.headD, List.take, List.drop, ↓reduceIte, Nat.reduceEqDiff, Nat.reduceAdd, Nat.reduceSub, Nat.reduceLeDiff, reduceCtorEq, implies_true, ne_eq, aggV, Tag.cap, List.replicate, allSolid, GVal.solid, Nat.reduceBEq, Nat.reduceMul, Nat.reduceLT, List.length_map, List.length_range, splice, vcA, ↓vcB, vcC, fbSpc, e7, spl_length]
      refine (kSame (lz.both (lx.uni ly)) (law_2 x y z)).then ?_ (by rfl)
      simp +contextual -implicitDefEqProofs (maxSteps := 2000000) (disch := omega) only [↓lenV, binV, ↓unV, ↓minV, GVal.cells, grp, GVal.ofConst, ↓resV, resG, List.map, List.headD, List.take, List.drop, ↓reduceIte, Nat.reduceEqDiff, Nat.reduceAdd, Nat.reduceSub, Nat.reduceLeDiff, reduceCtorEq, implies_true, ne_eq, aggV, Tag.cap, List.replicate, allSolid, GVal.solid, Nat.reduceBEq, Nat.reduceMul, Nat.reduceLT, List.length_map, List.length_range, splice, vcA, ↓vcB, vcC, fbSpc, e7, spl_length]
      refine (kUnion ly lx).then ?_ (by rfl)
      simp +contextual -implicitDefEqProofs (maxSteps := 2000000) (disch := omega) only [↓lenV, binV, ↓unV, ↓minV, GVal.cells, grp, GVal.ofConst, ↓resV, resG, List.map, List.headD, List.take, List.drop, ↓reduceIte, Nat.reduceEqDiff, Nat.reduceAdd, Nat.reduceSub, Nat.reduceLeDiff, reduceCtorEq, implies_true, ne_eq, aggV, Tag.cap, List.replicate, allSolid, GVal.solid, Nat.reduceBEq, Nat.reduceMul, Nat.reduceLT, List.length_map, List.length_range, splice, vcA, ↓vcB, vcC, fbSpc, e7, spl_length]
      refine (kSame (lx.uni ly) (law_3 x y)).then ?_ (by rfl)
      simp +contextual -implicitDefEqProofs (maxSteps := 2000000) (disch := omega) only [↓lenV, binV, ↓unV, ↓minV, GVal.cells, grp, GVal.ofConst, ↓resV, resG, List.map, List.headD, List.take, List.drop, ↓reduceIte, Nat.reduceEqDiff, Nat.reduceAdd, Nat.reduceSub, Nat.reduceLeDiff, reduceCtorEq, implies_true, ne_eq, aggV, Tag.cap, List.replicate, allSolid, GVal.solid, Nat.reduceBEq, Nat.reduceMul, Nat.reduceLT, List.length_map, List.length_range, splice, vcA, ↓vcB, vcC, fbSpc, e7, spl_length]
      refine (sPick n 50 (by omega) (by omega)).then ?_ (by rfl)
      simp +contextual -implicitDefEqProofs (maxSteps := 2000000) (disch := omega) only [↓lenV, binV, ↓unV, ↓minV, GVal.cells, grp, GVal.ofConst, ↓resV, resG, List.map, List.headD, List.take, List.drop, ↓reduceIte, Nat.reduceEqDiff, Nat.reduceAdd, Nat.reduceSub, Nat.reduceLeDiff, reduceCtorEq, implies_true, ne_eq, aggV, Tag.cap, List.replicate, allSolid, GVal.solid, Nat.reduceBEq, Nat.reduceMul, Nat.reduceLT, List.length_map, List.length_range, splice, vcA, ↓vcB, vcC, fbSpc, e7, spl_length]
      refine (kFirst lz hm).then ?_ (by rfl)
      simp +contextual -implicitDefEqProofs (maxSteps := 2000000) (disch := omega) only [↓lenV, binV, ↓unV, ↓minV, GVal.cells, grp, GVal.ofConst, ↓resV, resG, List.map, List.headD, List.take, List.drop, ↓reduceIte, Nat.reduceEqDiff, Nat.reduceAdd, Nat.reduceSub, Nat.reduceLeDiff, reduceCtorEq, implies_true, ne_eq, aggV, Tag.cap, List.replicate, allSolid, GVal.solid, Nat.reduceBEq, Nat.reduceMul, Nat.reduceLT, List.length_map, List.length_range, splice, vcA, ↓vcB, vcC, fbSpc, e7, spl_length]
      refine (kSkip lz hm).then ?_ (by rfl)
      simp +contextual -implicitDefEqProofs (maxSteps := 2000000) (disch := omega) only [↓lenV, binV, ↓unV, ↓minV, GVal.cells, grp, GVal.ofConst, ↓resV, resG, List.map, List.headD, List.take, List.drop, ↓reduceIte, Nat.reduceEqDiff, Nat.reduceAdd, Nat.reduceSub, Nat.reduceLeDiff, reduceCtorEq, implies_true, ne_eq, aggV, Tag.cap, List.replicate, allSolid, GVal.solid, Nat.reduceBEq, Nat.reduceMul, Nat.reduceLT, List.length_map, List.length_range, splice, vcA, ↓vcB, vcC, fbSpc, e7, spl_length]
      refine (kLast lz hm).then ?_ (by rfl)
      simp +contextual -implicitDefEqProofs (maxSteps := 2000000) (disch := omega) only [↓lenV, binV, ↓unV, ↓minV, GVal.cells, grp, GVal.ofConst, ↓resV, resG, List.map, List.headD, List.take, List.drop, ↓reduceIte, Nat.reduceEqDiff, Nat.reduceAdd, Nat.reduceSub, Nat.reduceLeDiff, reduceCtorEq, implies_true, ne_eq, aggV, Tag.cap, List.replicate, allSolid, GVal.solid, Nat.reduceBEq, Nat.reduceMul, Nat.reduceLT, List.length_map, List.length_range, splice, vcA, ↓vcB, vcC, fbSpc, e7, spl_length]
      refine (kCountE (Lim.first lz _) cF (by omega)).then ?_ (by rfl)
      simp +contextual -implicitDefEqProofs (maxSteps := 2000000) (disch := omega) only [↓lenV, binV, ↓unV, ↓minV, GVal.cells, grp, GVal.ofConst, ↓resV, resG, List.map, List.headD, List.take, List.drop, ↓reduceIte, Nat.reduceEqDiff, Nat.reduceAdd, Nat.reduceSub, Nat.reduceLeDiff, reduceCtorEq, implies_true, ne_eq, aggV, Tag.cap, List.replicate, allSolid, GVal.solid, Nat.reduceBEq, Nat.reduceMul, Nat.reduceLT, List.length_map, List.length_range, splice, vcA, ↓vcB, vcC, fbSpc, e7, spl_length]
      refine (kCountE lz rfl (by omega)).then ?_ (by rfl)
      simp +contextual -implicitDefEqProofs (maxSteps := 2000000) (disch := omega) only [↓lenV, binV, ↓unV, ↓minV, GVal.cells, grp, GVal.ofConst, ↓resV, resG, List.map, List.headD, List.take, List.drop, ↓reduceIte, Nat.reduceEqDiff, Nat.reduceAdd, Nat.reduceSub, Nat.reduceLeDiff, reduceCtorEq, implies_true, ne_eq, aggV, Tag.cap, List.replicate, allSolid, GVal.solid, Nat.reduceBEq, Nat.reduceMul, Nat.reduceLT, List.length_map, List.length_range, splice, vcA, ↓vcB, vcC, fbSpc, e7, spl_length]
      refine (kCountE (Lim.low lz _) cL (by omega)).then ?_ (by rfl)
      simp +contextual -implicitDefEqProofs (maxSteps := 2000000) (disch := omega) only [↓lenV, binV, ↓unV, ↓minV, GVal.cells, grp, GVal.ofConst, ↓resV, resG, List.map, List.headD, List.take, List.drop, ↓reduceIte, Nat.reduceEqDiff, Nat.reduceAdd, Nat.reduceSub, Nat.reduceLeDiff, reduceCtorEq, implies_true, ne_eq, aggV, Tag.cap, List.replicate, allSolid, GVal.solid, Nat.reduceBEq, Nat.reduceMul, Nat.reduceLT, List.length_map, List.length_range, splice, vcA, ↓vcB, vcC, fbSpc, e7, spl_length]
      refine (kCountE (Lim.first lz _) cF (by omega)).then ?_ (by rfl)
      simp +contextual -implicitDefEqProofs (maxSteps := 2000000) (disch := omega) only [↓lenV, binV, ↓unV, ↓minV, GVal.cells, grp, GVal.ofConst, ↓resV, resG, List.map, List.headD, List.take, List.drop, ↓reduceIte, Nat.reduceEqDiff, Nat.reduceAdd, Nat.reduceSub, Nat.reduceLeDiff, reduceCtorEq, implies_true, ne_eq, aggV, Tag.cap, List.replicate, allSolid, GVal.solid, Nat.reduceBEq, Nat.reduceMul, Nat.reduceLT, List.length_map, List.length_range, splice, vcA, ↓vcB, vcC, fbSpc, e7, spl_length]
      refine (kUnion (Lim.first lz _) (Lim.skip lz _)).then ?_ (by rfl)
      simp +contextual -implicitDefEqProofs (maxSteps := 2000000) (disch := omega) only [↓lenV, binV, ↓unV, ↓minV, GVal.cells, grp, GVal.ofConst, ↓resV, resG, List.map, List.headD, List.take, List.drop, ↓reduceIte, Nat.reduceEqDiff, Nat.reduceAdd, Nat.reduceSub, Nat.reduceLeDiff, reduceCtorEq, implies_true, ne_eq, aggV, Tag.cap, List.replicate, allSolid, GVal.solid, Nat.reduceBEq, Nat.reduceMul, Nat.reduceLT, List.length_map, List.length_range, splice, vcA, ↓vcB, vcC, fbSpc, e7, spl_length]
      refine (kMake lz).then ?_ (by rfl)
      simp +contextual -implicitDefEqProofs (maxSteps := 2000000) (disch := omega) only [↓lenV, binV, ↓unV, ↓minV, GVal.cells, grp, GVal.ofConst, ↓resV, resG, List.map, List.headD, List.take, List.drop, ↓reduceIte, Nat.reduceEqDiff, Nat.reduceAdd, Nat.reduceSub, Nat.reduceLeDiff, reduceCtorEq, implies_true, ne_eq, aggV, Tag.cap, List.replicate, allSolid, GVal.solid, Nat.reduceBEq, Nat.reduceMul, Nat.reduceLT, List.length_map, List.length_range, splice, vcA, ↓vcB, vcC, fbSpc, e7, spl_length]
      refine (kSame ((Lim.first lz _).uni (Lim.skip lz _)) (first_skip_uni hzr _)).then ?_ (by rfl)
      simp +contextual -implicitDefEqProofs (maxSteps := 2000000) (disch := omega) only [↓lenV, binV, ↓unV, ↓minV, GVal.cells, grp, GVal.ofConst, ↓resV, resG, List.map, List.headD, List.take, List.drop, ↓reduceIte, Nat.reduceEqDiff, Nat.reduceAdd, Nat.reduceSub, Nat.reduceLeDiff, reduceCtorEq, implies_true, ne_eq, aggV, Tag.cap, List.replicate, allSolid, GVal.solid, Nat.reduceBEq, Nat.reduceMul, Nat.reduceLT, List.length_map, List.length_range, splice, vcA, ↓vcB, vcC, fbSpc, e7, spl_length]
      refine (kBothNil (Lim.first lz _) (Lim.skip lz _) (first_skip_both hzr _)).then ?_ (by rfl)
      simp +contextual -implicitDefEqProofs (maxSteps := 2000000) (disch := omega) only [↓lenV, binV, ↓unV, ↓minV, GVal.cells, grp, GVal.ofConst, ↓resV, resG, List.map, List.headD, List.take, List.drop, ↓reduceIte, Nat.reduceEqDiff, Nat.reduceAdd, Nat.reduceSub, Nat.reduceLeDiff, reduceCtorEq, implies_true, ne_eq, aggV, Tag.cap, List.replicate, allSolid, GVal.solid, Nat.reduceBEq, Nat.reduceMul, Nat.reduceLT, List.length_map, List.length_range, splice, vcA, ↓vcB, vcC, fbSpc, e7, spl_length]
      refine (kCountE (Lim.first lz _) cF (by omega)).then ?_ (by rfl)
      simp +contextual -implicitDefEqProofs (maxSteps := 2000000) (disch := omega) only [↓lenV, binV, ↓unV, ↓minV, GVal.cells, grp, GVal.ofConst, ↓resV, resG, List.map, List.headD, List.take, List.drop, ↓reduceIte, Nat.reduceEqDiff, Nat.reduceAdd, Nat.reduceSub, Nat.reduceLeDiff, reduceCtorEq, implies_true, ne_eq, aggV, Tag.cap, List.replicate, allSolid, GVal.solid, Nat.reduceBEq, Nat.reduceMul, Nat.reduceLT, List.length_map, List.length_range, splice, vcA, ↓vcB, vcC, fbSpc, e7, spl_length]
      refine (kCountE (Lim.skip lz _) cS (by omega)).then ?_ (by rfl)
      simp +contextual -implicitDefEqProofs (maxSteps := 2000000) (disch := omega) only [↓lenV, binV, ↓unV, ↓minV, GVal.cells, grp, GVal.ofConst, ↓resV, resG, List.map, List.headD, List.take, List.drop, ↓reduceIte, Nat.reduceEqDiff, Nat.reduceAdd, Nat.reduceSub, Nat.reduceLeDiff, reduceCtorEq, implies_true, ne_eq, aggV, Tag.cap, List.replicate, allSolid, GVal.solid, Nat.reduceBEq, Nat.reduceMul, Nat.reduceLT, List.length_map, List.length_range, splice, vcA, ↓vcB, vcC, fbSpc, e7, spl_length]
      refine (kCountE lz rfl (by omega)).then ?_ (by rfl)
      simp +contextual -implicitDefEqProofs (maxSteps := 2000000) (disch := omega) only [↓lenV, binV, ↓unV, ↓minV, GVal.cells, grp, GVal.ofConst, ↓resV, resG, List.map, List.headD, List.take, List.drop, ↓reduceIte, Nat.reduceEqDiff, Nat.reduceAdd, Nat.reduceSub, Nat.reduceLeDiff, reduceCtorEq, implies_true, ne_eq, aggV, Tag.cap, List.replicate, allSolid, GVal.solid, Nat.reduceBEq, Nat.reduceMul, Nat.reduceLT, List.length_map, List.length_range, splice, vcA, ↓vcB, vcC, fbSpc, e7, spl_length]
      omega
end Gv.Try
/- From a reading of plain data (numbers, bools, strings, slices, structs) to what it is without memory. -/
set_option linter.unusedVariables false
namespace Gv
open Go Go.RowKit Go.WideShapes Go.ChangeShapes

/-- all cells that are there are known -/
def Env.all (w : World) : Env := ⟨fun b o => match w.cell? ⟨b, o, none⟩ with
  | some v => if v.oneCell' = true then some v else none
  | none => none, fun _ => none⟩
theorem Env.all_at {w : World} {b o : Nat} {v : Value} (h : w.cell? ⟨b, o, none⟩ = some v) (hv : v.oneCell' = true) : (Env.all w).snap b o = some v := by
  simp [Env.all, h, hv]
theorem HSim.all (w : World) : HSim (Env.all w) [] w := by
  have key : ∀ b o v, (Env.all w).snap b o = some v → w.cell? ⟨b, o, none⟩ = some v ∧ v.oneCell' = true := by
    intro b o v h
    simp only [Env.all] at h
    split at h
    · rename_i x hx
      split at h
      · rename_i hv
        simp only [Option.some.injEq] at h
        subst h
        exact ⟨hx, hv⟩
      · cases h
    · cases h
  exact ⟨⟨0, (fun c hc => by cases hc), fun _ _ => rfl⟩, fun b o v h => (key b o v h).1, fun b o v h => (key b o v h).2, fun i x hx => by simp at hx, fun i j oi oj b _ hi => by simp at hi⟩

/-- a type's shape -/
inductive Sh where
  | int (k : IntKind)
  | bool
  | str
  | slice (e : Sh)
  | agg (l : List Sh)
mutual
def Sh.size : Sh → Nat
  | .agg l => Sh.sizes l
  | _ => 1
def Sh.sizes : List Sh → Nat
  | [] => 0
  | s :: r => s.size + Sh.sizes r
end
mutual
def shB (P : Program) : Sh → TypeId → Bool
  | .int k, t => match P.underlying t with
    | some (.int k') => k = k'
    | _ => false
  | .bool, t => match P.underlying t with
    | some .bool => true
    | _ => false
  | .str, t => match P.underlying t with
    | some .string => true
    | _ => false
  | .slice e, t => match P.underlying t with
    | some (.slice et) => shB P e et && P.cellsOf et == e.size && decide (0 < e.size)
    | _ => false
  | .agg l, t => match P.underlying t with
    | some (.struct fs) => shBs P l fs.toList 0 && P.cellsOf t == Sh.sizes l
    | _ => false
def shBs (P : Program) : List Sh → List Field → Nat → Bool
  | [], [], _ => true
  | s :: r, f :: fs, o => f.offset == o && P.cellsOf f.type == s.size && shB P s f.type && shBs P r fs (o + s.size)
  | _, _, _ => false
end
mutual
/-- what a reading's cells are -/
def Den : Sh → List GVal → Prop
  | .int k, gs => ∃ n, gs = [.int k n] ∧ (Lit.int k n).wf = true
  | .bool, gs => ∃ b, gs = [.bool b]
  | .str, gs => ∃ s, gs = [.str s] ∧ s.length ≤ maxLen
  | .slice e, gs => ∃ xs, gs = [.slice xs .none] ∧ xs.length ≤ maxLen ∧ ∀ x ∈ xs, Den e x
  | .agg l, gs => ∃ ps, gs = ps.flatten ∧ Dens l ps
def Dens : List Sh → List (List GVal) → Prop
  | [], ps => ps = []
  | s :: r, ps => ∃ p q, ps = p :: q ∧ Den s p ∧ Dens r q
end

/-- cells that read as such -/
def CellsOK (w : World) (cs : List Value) (gs : List GVal) : Prop :=
  cs.length = gs.length ∧ (∀ c ∈ cs, c.oneCell' = true) ∧ ∀ (j : Nat) c g, cs[j]? = some c → gs[j]? = some g → VR (Env.all w) c g
theorem CellsOK.one {w : World} {v : Value} {g : GVal} (hv : v.oneCell' = true) (h : VR (Env.all w) v g) : CellsOK w [v] [g] :=
  ⟨rfl, by simpa using hv, fun j c g' h1 h2 => by
    cases j with
    | zero => simp at h1 h2; subst h1; subst h2; exact h
    | succ j => simp at h1⟩
theorem CellsOK.append {w : World} {a b : List Value} {x y : List GVal} (h : CellsOK w a x) (k : CellsOK w b y) : CellsOK w (a ++ b) (x ++ y) := by
  refine ⟨by simp [h.1, k.1], fun c hc => ?_, fun j c g h1 h2 => ?_⟩
  · rcases List.mem_append.1 hc with hc | hc
    · exact h.2.1 c hc
    · exact k.2.1 c hc
  · by_cases hj : j < a.length
    · rw [List.getElem?_append_left hj] at h1
      rw [List.getElem?_append_left (by rw [← h.1]; exact hj)] at h2
      exact h.2.2 j c g h1 h2
    · rw [List.getElem?_append_right (by omega)] at h1
      rw [List.getElem?_append_right (by rw [← h.1]; omega), ← h.1] at h2
      exact k.2.2 _ c g h1 h2

section
variable {H : Type} {enc : TypeId × Value → H} {P : Program} {w : World} {spare : Nat → Bool} {held : Bool}

theorem cells_at {base : Nat} {a : Addr} {n : Nat} {cs : List Value} (h : w.cells? base a n = some cs) : cs.length = n ∧ ∀ j, j < n → w.cell? (a.add j) = cs[j]? := by
  unfold World.cells? at h
  split at h
  · have hl := mapM_some_length h
    refine ⟨by simpa using hl, fun j hj => ?_⟩
    exact mapM_some_get h j j (by simp [hj])
  · cases h

theorem flat_len {α : Type} {sz : Nat} : ∀ {xs : List (List α)}, (∀ x ∈ xs, x.length = sz) → xs.flatten.length = xs.length * sz
  | [], _ => by simp
  | x :: xs, h => by
    rw [List.flatten_cons, List.length_append, h x (by simp), flat_len fun y hy => h y (by simp [hy])]
    simp [Nat.succ_mul, Nat.add_comm]

mutual
theorem rd : ∀ (S : Sh) (n : Nat) (t : TypeId) (cs : List Value) (x : DataW H × List MemPlace), shB P S t = true → DataW.trod enc P w 0 spare held n t cs = some x → ∃ gs, CellsOK w cs gs ∧ Den S gs ∧ cs.length = S.size
  | .int k, n, t, cs, x, hs, h => by
    unfold shB at hs
    split at hs
    · rename_i k' hu
      have hs : k = k' := by simpa using hs
      subst hs
      obtain ⟨m, rfl, _, hwf⟩ := DataW.trod_int hu h
      exact ⟨[.int k m], .one rfl (.int _ _), ⟨m, rfl, hwf⟩, rfl⟩
    · cases hs
  | .bool, n, t, cs, x, hs, h => by
    unfold shB at hs
    split at hs
    · rename_i hu
      obtain ⟨b, rfl, _⟩ := DataW.trod_bool hu h
      exact ⟨[.bool b], .one rfl (.bool _), ⟨b, rfl⟩, rfl⟩
    · cases hs
  | .str, n, t, cs, x, hs, h => by
    unfold shB at hs
    split at hs
    · rename_i hu
      cases n with
      | zero => simp [DataW.trod] at h
      | succ n =>
        unfold DataW.trod at h
        rw [hu] at h
        match cs, h with
        | [.string b], h =>
          simp only at h
          split at h
          · rename_i hl
            refine ⟨[.str b.data.toList], .one rfl ?_, ⟨_, rfl, ?_⟩, rfl⟩
            · exact VR.str (E := Env.all w) b.data.toList
            · simpa using hl
          · cases h
    · cases hs
  | .slice e, n, t, cs, x, hs, h => by
    unfold shB at hs
    split at hs
    · rename_i et hu
      simp only [Bool.and_eq_true, beq_iff_eq] at hs
      obtain ⟨⟨hs, hsz⟩, hpos⟩ := hs
      have hpos : 0 < e.size := by simpa using hpos
      rcases DataW.trod_slice hu h with ⟨rfl, _⟩ | ⟨a, len, cap, elems, rest, m, rfl, rfl, _, _, hlc, hcm, hel, helem, _, _⟩
      · exact ⟨[.slice [] .none], .one rfl (.slice none 0 0 [] .none 0 (fun _ => .bool true) rfl (Nat.le_refl _) (by simp) (fun hx => absurd rfl hx) (by simp) trivial), ⟨[], rfl, by simp, by simp⟩, rfl⟩
      · have each : ∀ i : Nat, ∃ cs gs, i < len → (w.cells? 0 (a.add (i * P.cellsOf et)) (P.cellsOf et)) = some cs ∧ CellsOK w cs gs ∧ Den e gs ∧ cs.length = e.size := by
          intro i
          by_cases hi : i < len
          · have := helem i hi
            rw [← hel] at hi
            rw [List.getElem?_eq_getElem hi, Option.bind_eq_some_iff] at this
            obtain ⟨cs, h1, h2⟩ := this
            obtain ⟨gs, h3, h4, h5⟩ := rd e m et cs _ hs h2
            exact ⟨cs, gs, fun _ => ⟨h1, h3, h4, h5⟩⟩
          · exact ⟨[], [], fun h => absurd h hi⟩
        obtain ⟨C, hC⟩ := Classical.axiomOfChoice each
        obtain ⟨G, hCG⟩ := Classical.axiomOfChoice hC
        refine ⟨[.slice ((List.range len).map G) .none], .one rfl ?_, ⟨_, rfl, by simp; omega, fun x hx => ?_⟩, rfl⟩
        · have hG : ∀ i, i < len → (G i).length = e.size := fun i hi => by rw [← (hCG i hi).2.1.1]; exact (hCG i hi).2.2.2
          have cell : ∀ i, i < len → ∀ j, j < e.size → w.cell? ((a.add (i * e.size)).add j) = (C i)[j]? := fun i hi j hj => by
            have := cells_at (hCG i hi).1
            rw [hsz] at this
            exact this.2 j hj
          have dm : ∀ k, k < len * e.size → k / e.size < len ∧ k % e.size < e.size ∧ k / e.size * e.size + k % e.size = k := fun k hk =>
            ⟨(Nat.div_lt_iff_lt_mul hpos).2 hk, Nat.mod_lt _ hpos, by rw [Nat.mul_comm]; exact Nat.div_add_mod k e.size⟩
          have hszs : ∀ x ∈ (List.range len).map G, x.length = e.size := fun x hx => by
            obtain ⟨i, hi, rfl⟩ := List.mem_map.1 hx
            exact hG i (by simpa using hi)
          refine .slice (some a) len cap _ .none e.size (fun k => ((C (k / e.size))[k % e.size]?).getD (.bool true)) (by simp) hlc hszs (fun hx => ?_) (fun k g hk => ?_) trivial
          · have hlen : 0 < len := by
              rcases Nat.eq_zero_or_pos len with h0 | h0
              · subst h0; simp at hx
              · exact h0
            have in_ : ∀ i, i < len → ∀ j, j < e.size → ∃ v, (C i)[j]? = some v ∧ v.oneCell' = true := fun i hi j hj => by
              have hl : j < (C i).length := by rw [(hCG i hi).2.2.2]; exact hj
              exact ⟨_, List.getElem?_eq_getElem hl, (hCG i hi).2.1.2.1 _ (List.getElem_mem hl)⟩
            obtain ⟨b, off, spot⟩ := a
            have hspot : spot = none := by
              obtain ⟨v, hv, _⟩ := in_ 0 hlen 0 hpos
              have := cell 0 hlen 0 hpos
              rw [hv] at this
              simpa [Addr.add] using World.cell?_spot this
            subst hspot
            refine ⟨b, off, rfl, fun k hk => ?_⟩
            obtain ⟨d1, d2, d3⟩ := dm k hk
            obtain ⟨v, hv, hv2⟩ := in_ _ d1 _ d2
            have := cell _ d1 _ d2
            rw [hv] at this
            rw [hv]
            refine Env.all_at ?_ hv2
            rw [add_at, add_at, Nat.add_assoc, d3] at this
            exact this
          · have hk' : k < len * e.size := by
              have := (List.getElem?_eq_some_iff.1 hk).1
              rw [flat_len hszs] at this
              simpa using this
            obtain ⟨d1, d2, d3⟩ := dm k hk'
            have hx : ((List.range len).map G)[k / e.size]? = some (G (k / e.size)) := by simp [d1]
            have e1 := flatten_at _ hszs (k / e.size) (k % e.size) _ hx d2
            rw [d3, hk] at e1
            have hl : k % e.size < (C (k / e.size)).length := by rw [(hCG _ d1).2.2.2]; exact d2
            rw [List.getElem?_eq_getElem hl]
            exact (hCG _ d1).2.1.2.2 _ _ _ (List.getElem?_eq_getElem hl) e1.symm
        · obtain ⟨i, hi, rfl⟩ := List.mem_map.1 hx
          exact (hCG i (by simpa using hi)).2.2.1
    · cases hs
  | .agg l, n, t, cs, x, hs, h => by
    unfold shB at hs
    split at hs
    · rename_i fs hu
      simp only [Bool.and_eq_true, beq_iff_eq] at hs
      obtain ⟨hs, hsz⟩ := hs
      obtain ⟨xs, m, rfl, rfl, hcl, hxl, hf⟩ := DataW.trod_struct hu h
      obtain ⟨ps, h1, h2⟩ := rds l m fs.toList cs 0 hs (by simpa [hsz] using hcl) (fun f hf' => by
        obtain ⟨i, hi⟩ := List.getElem?_of_mem hf'
        have := hf i f (by simpa using hi)
        have hlt : i < xs.length := by rw [hxl]; simpa using (List.getElem?_eq_some_iff.1 hi).1
        rw [List.getElem?_eq_getElem hlt] at this
        exact ⟨_, this⟩)
      exact ⟨ps.flatten, by simpa using h1, ⟨ps, rfl, h2⟩, by rw [hcl, hsz]; rfl⟩
    · cases hs
theorem rds : ∀ (l : List Sh) (n : Nat) (fs : List Field) (cs : List Value) (o : Nat), shBs P l fs o = true → cs.length = o + Sh.sizes l →
    (∀ f ∈ fs, ∃ x, DataW.trod enc P w 0 spare held n f.type ((cs.drop f.offset).take (P.cellsOf f.type)) = some x) → ∃ ps, CellsOK w (cs.drop o) ps.flatten ∧ Dens l ps
  | [], n, fs, cs, o, hs, hl, h => by
    refine ⟨[], ?_, rfl⟩
    rw [List.drop_eq_nil_of_le (by rw [hl]; simp [Sh.sizes])]
    exact ⟨rfl, by simp, fun j c g h1 => by simp at h1⟩
  | s :: r, n, fs, cs, o, hs, hl, h => by
    match fs, hs, h with
    | f :: fs, hs, h =>
      unfold shBs at hs
      simp only [Bool.and_eq_true, beq_iff_eq] at hs
      obtain ⟨⟨⟨h1, h2⟩, h3⟩, h4⟩ := hs
      obtain ⟨x, hx⟩ := h f (by simp)
      obtain ⟨gs, q1, q2, q3⟩ := rd s n f.type _ _ h3 hx
      simp only [Sh.sizes] at hl
      obtain ⟨ps, k1, k2⟩ := rds r n fs cs (o + s.size) h4 (by rw [hl]; omega) (fun f' hf' => h f' (by simp [hf']))
      refine ⟨gs :: ps, ?_, ⟨gs, ps, rfl, q2, k2⟩⟩
      rw [List.flatten_cons]
      have e : cs.drop o = (cs.drop f.offset).take (P.cellsOf f.type) ++ cs.drop (o + s.size) := by
        rw [h1, h2, ← List.drop_drop]; exact (List.take_append_drop _ _).symm
      rw [e]
      exact q1.append k1
    | [], hs, h => simp [shBs] at hs
end

def Sh.val : Sh → List GVal → GVal
  | .agg _, gs => .agg gs
  | _, gs => gs.headD .any

/-- an argument, from its reading -/
theorem arg_read {S : Sh} {t : TypeId} {r : Reach} {base : Nat} {v : Value} {d : DataW H} {ps : List MemPlace} (hs : shB P S t = true) (hval : Value.okWide P w r base t v) (h : DataW.Trod enc P w 0 spare held t v d ps) :
    ∃ gs, Den S gs ∧ VR (Env.all w) v (S.val gs) := by
  obtain ⟨n, h⟩ := h
  obtain ⟨gs, h1, h2, h3⟩ := rd S n t _ _ hs h
  refine ⟨gs, h2, ?_⟩
  have single : ∀ x : Value, v = x → x.cells.toList = [x] → (∃ g, gs = [g]) → S.val gs = gs.headD .any → VR (Env.all w) v (S.val gs) := by
    intro x hx hc ⟨g, hg⟩ hv
    subst hx; subst hg
    rw [hv]
    rw [hc] at h1
    exact h1.2.2 0 _ _ rfl rfl
  cases S with
  | int k =>
    unfold shB at hs
    split at hs
    · rename_i k' hu
      obtain ⟨n, rfl⟩ := okWide_int hu hval
      obtain ⟨m, e, _⟩ := h2
      exact single _ rfl rfl ⟨_, e⟩ rfl
    · cases hs
  | bool =>
    unfold shB at hs
    split at hs
    · rename_i hu
      obtain ⟨n, rfl⟩ := okWide_bool hu hval
      obtain ⟨m, e⟩ := h2
      exact single _ rfl rfl ⟨_, e⟩ rfl
    · cases hs
  | str =>
    unfold shB at hs
    split at hs
    · rename_i hu
      obtain ⟨n, rfl⟩ := okWide_string hu hval
      obtain ⟨m, e, _⟩ := h2
      exact single _ rfl rfl ⟨_, e⟩ rfl
    · cases hs
  | slice e =>
    unfold shB at hs
    split at hs
    · rename_i et hu
      obtain ⟨a, len, cap, rfl⟩ := okWide_slice hu hval
      obtain ⟨m, e, _⟩ := h2
      exact single _ rfl rfl ⟨_, e⟩ rfl
    · cases hs
  | agg l =>
    unfold shB at hs
    split at hs
    · rename_i fs hu
      obtain ⟨cs, rfl, _⟩ := okWide_struct hu hval
      refine .agg cs gs (by have := h1.1; simpa [Value.cells] using this) (fun j g hj => ?_)
      have hl : j < cs.size := by
        have := (List.getElem?_eq_some_iff.1 hj).1
        rw [← h1.1] at this; simpa [Value.cells] using this
      have := h1.2.2 j cs[j] g (by simp [Value.cells, hl]) hj
      simpa [Array.getD, hl] using this
    · cases hs

/-- the call of a law whose arguments are read -/
theorem GPure.lawAt {P : Program} {f : FuncId} {args : Array Value} {gs : List GVal} {w : World} (h : GPure P f gs (.bool true)) (ha : ArgsR (Env.all w) args gs) :
    Calls P f args w fun e w' => e = .returned (.bool true) ∧ Old w w' := by
  refine (h.2 (Env.all w) w args (HSim.all w) ha).mono ?_
  rintro e w' ⟨v, E', O', g, rfl, h1, h2, h3, rfl, rfl⟩
  cases h3
  exact ⟨rfl, h2.old⟩
theorem ArgsR.nil {E : Env} : ArgsR E #[] [] := ⟨rfl, fun i g h => by simp at h⟩
theorem ArgsR.one {E : Env} {v : Value} {g : GVal} (h : VR E v g) : ArgsR E #[v] [g] := ⟨rfl, fun i g' hg => by
  cases i with
  | zero => simp at hg; subst hg; exact h
  | succ i => simp at hg⟩

/-- what was read reads so behind the call -/
theorem Old.trod {W W' : World} {t : TypeId} {v : Value} {d : DataW H} {ps : List MemPlace} (hl : laidOutB P = true) (hr : P.readableRec t = true) (hrow : t < P.types.size) (hb : Old W W') {sp : Nat → Bool}
    (h : DataW.Trod enc P W 0 (fun _ => true) true t v d ps) (hlt : ∀ x ∈ ps, x.block < W.heap.size) (hs : ∀ x ∈ ps, sp x.block = true) : DataW.Trod enc P W' 0 sp true t v d ps :=
  WideElems.Trod_stays hl hr hrow h (fun x hx => by
    have hp := hlt x hx
    cases x with
    | cell b o => exact World.cell?_of_block (w := W) (hb.block b hp)
    | map b => exact hb.block b hp) hs
end
end Gv
/- What some shapes read as. -/
set_option linter.unusedVariables false
namespace Gv
open Go
theorem wf_i64 {n : Int} (h : (Lit.int .i64 n).wf = true) : -9223372036854775808 ≤ n ∧ n ≤ 9223372036854775807 := by
  have e1 : IntKind.i64.min = -9223372036854775808 := by decide
  have e2 : IntKind.i64.max = 9223372036854775807 := by decide
  simp [Lit.wf] at h; omega
theorem den_slice {α : Type} {e : Sh} (enc : α → List GVal) (ok : α → Prop) (he : ∀ {x}, Den e x → ∃ a, x = enc a ∧ ok a) {gs : List GVal} (h : Den (.slice e) gs) : ∃ l : List α, gs = [.slice (l.map enc) .none] ∧ l.length ≤ maxLen ∧ ∀ a ∈ l, ok a := by
  obtain ⟨xs, rfl, hl, hx⟩ := h
  have : ∀ xs : List (List GVal), (∀ x ∈ xs, Den e x) → ∃ l : List α, xs = l.map enc ∧ ∀ a ∈ l, ok a := by
    intro xs
    induction xs with
    | nil => exact fun _ => ⟨[], rfl, by simp⟩
    | cons a r ih =>
      intro h
      obtain ⟨l, rfl, hl⟩ := ih fun x hx => h x (by simp [hx])
      obtain ⟨n, rfl, hn⟩ := he (h a (by simp))
      exact ⟨n :: l, rfl, by simpa using ⟨hn, hl⟩⟩
  obtain ⟨l, rfl, h2⟩ := this xs hx
  exact ⟨l, rfl, by simpa using hl, h2⟩
theorem den_i64s {gs : List GVal} (h : Den (.slice (.int .i64)) gs) : ∃ l : List Int, gs = [.slice (ints l) .none] ∧ l.length ≤ 9223372036854775807 ∧ ∀ i, -9223372036854775808 ≤ l.getD i 0 ∧ l.getD i 0 ≤ 9223372036854775807 := by
  obtain ⟨l, rfl, h1, h2⟩ := den_slice (fun n : Int => [.int .i64 n]) (fun n => (Lit.int .i64 n).wf = true) (fun {x} (h : Den (.int .i64) x) => h) h
  refine ⟨l, rfl, Nat.le_trans h1 (by decide), fun i => ?_⟩
  by_cases hi : i < l.length
  · rw [List.getD_eq_getElem?_getD, List.getElem?_eq_getElem hi]; exact wf_i64 (h2 _ (List.getElem_mem hi))
  · rw [List.getD_eq_getElem?_getD, List.getElem?_eq_none (by omega)]; simp
theorem den_spans {gs : List GVal} (h : Den (.slice (.agg [.int .i64, .int .i64])) gs) : ∃ l : List Sp.S, gs = [.slice (spl l) .none] ∧ l.length ≤ 9223372036854775807 ∧ Sp.Ok l := by
  obtain ⟨l, rfl, h1, h2⟩ := den_slice spG (fun s => (-9223372036854775808 ≤ s.1 ∧ s.1 ≤ 9223372036854775807) ∧ (-9223372036854775808 ≤ s.2 ∧ s.2 ≤ 9223372036854775807)) (fun {x} h => by
    obtain ⟨ps, rfl, p, q, rfl, ⟨a, rfl, wa⟩, p2, q2, rfl, ⟨b, rfl, wb⟩, rfl⟩ := h
    exact ⟨(a, b), rfl, wf_i64 wa, wf_i64 wb⟩) h
  exact ⟨l, rfl, Nat.le_trans h1 (by decide), h2⟩
end Gv
/- SpansLaws: from the readings. -/
set_option linter.unusedVariables false
namespace Gv.Try
open Go Gv Go.Proofs
theorem wLaws {g0 g1 g2 g3 : List GVal} (h0 : Den (.slice (.int .i64)) g0) (h1 : Den (.slice (.int .i64)) g1) (h2 : Den (.slice (.int .i64)) g2) (h3 : Den (.int .i64) g3) : GPure Try.prog 7 ([Sh.val (.slice (.int .i64)) g0] ++ [Sh.val (.slice (.int .i64)) g1] ++ [Sh.val (.slice (.int .i64)) g2] ++ [Sh.val (.int .i64) g3]) (.bool true) := by
  obtain ⟨a, rfl, la, oa⟩ := den_i64s h0
  obtain ⟨b, rfl, lb, ob⟩ := den_i64s h1
  obtain ⟨c, rfl, lc, oc⟩ := den_i64s h2
  obtain ⟨n, rfl, wn⟩ := h3
  exact spec7 a b c n .none .none .none ⟨la, oa⟩ ⟨lb, ob⟩ ⟨lc, oc⟩ (wf_i64 wn)
end Gv.Try
