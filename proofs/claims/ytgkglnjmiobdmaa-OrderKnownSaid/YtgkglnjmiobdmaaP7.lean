import Derived.Test.YtgkglnjmiobdmaaP5
import Derived.Test.YtgkglnjmiobdmaaProg
import Derived.KernelRfl
set_option maxRecDepth 100000
set_option linter.defProp false
namespace Gv.Try
open Go Gv Go.Proofs
namespace S
abbrev t (n : Nat) : Operand := .tmp n
abbrev mv (d s : Nat) : SOp := .mk (some d) (.move (.tmp s)) none
abbrev sv (d s : Nat) : SOp := .mk (some d) (.assign (.tmp s)) none
abbrev sc (d : Nat) (n : Int) : SOp := .mk (some d) (.assign (.const (.int .i64 n))) none
abbrev ld (d k s : Nat) : SOp := .mk (some d) (.load k (.tmp s)) none
abbrev ia (d k a b : Nat) : SOp := .mk (some d) (.indexAddr k (.tmp a) (.tmp b)) none
abbrev fa (d k a i : Nat) : SOp := .mk (some d) (.fieldAddr k (.tmp a) i) none
abbrev bi (d : Nat) (o : BinOp) (k a b u : Nat) : SOp := .mk (some d) (.binOp o k (.tmp a) (.tmp b) u) none
abbrev bc (d : Nat) (o : BinOp) (k a : Nat) (n : Int) (u : Nat) : SOp := .mk (some d) (.binOp o k (.tmp a) (.const (.int .i64 n)) u) none
abbrev ln (d a k : Nat) : SOp := .mk (some d) (.call (.mk (.builtin .len) #[.tmp a] #[k])) none
abbrev c1 (d f a k : Nat) : SOp := .mk (some d) (.call (.mk (.value (.func f)) #[.tmp a] #[k])) none
abbrev c2 (d f a b k l : Nat) : SOp := .mk (some d) (.call (.mk (.value (.func f)) #[.tmp a, .tmp b] #[k, l])) none
abbrev ap (d a b k : Nat) : SOp := .mk (some d) (.call (.mk (.builtin .append) #[.tmp a, .tmp b] #[k, k])) none
abbrev b1 (d k a : Nat) : SOp := .mk (some d) (.buildSlice k 1 #[(0, .tmp a)]) none
abbrev mg (d s g : Nat) (b : Bool) : SOp := .mk (some d) (.move (.tmp s)) (some (g, b))
abbrev sn (d : Nat) : SOp := .mk (some d) (.assign (.const (.slice none 0 0))) none
abbrev sb (d : Nat) (b : Bool) : SOp := .mk (some d) (.assign (.const (.bool b))) none
abbrev nt (d a : Nat) : SOp := .mk (some d) (.unOp .not 4 (.tmp a)) none
abbrev ex (d a i : Nat) : SOp := .mk (some d) (.extract (.tmp a) i) none
abbrev pk (d a b : Nat) (c : Bool) : SOp := .mk (some d) (.pick (.tmp a) (.tmp b) (.const (.bool c))) none
abbrev st (k a b : Nat) : SOp := .mk none (.store k (.tmp a) (.tmp b)) none
end S
section
open S
def s3_0 : SCode := (.reg [(sb 2 false)])
def s3_1 : SCode := (.reg [(mv 10 0), (.mk (some 11) (.call (.mk (.value (.func 8)) #[(t 10), (.const (.int (.i64) 700))] #[3, 3])) none), (.mk (some 12) (.binOp (.add) 3 (.const (.int (.i64) 100)) (t 11) 3) none), (sv 0 12)])
def s3_2 : SCode := (.reg [(.mk (some 13) (.call (.mk (.value (.func 9)) #[] #[])) none), (sv 3 13)])
def s3_3 : SCode := (.reg [(.mk (some 14) (.call (.mk (.value (.func 10)) #[] #[])) none), (nt 15 14), (mv 16 15), (mg 17 3 16 false), (.mk (some 18) (.binOp (.eql) 23 (t 17) (.const (.pointer none)) 23) (some (16, false))), (.mk (some 19) (.pick (t 16) (.const (.bool true)) (t 18)) none)])
def s3_4 : SCode := (.reg [(sb 2 false)])
def s3_5 : SCode := (.cond (t 19) (.seq s3_4 (.ret)) (.skip))
def s3_6 : SCode := (.reg [(.mk (some 4) (.alloc 27) none)])
def s3_7 : SCode := (.reg [(sn 5)])
def s3_8 : SCode := (.reg [(sc 6 0)])
def s3_9 : SCode := (.reg [(mv 20 6), (mv 21 0), (bi 22 .lss 3 20 21 3)])
def s3_10 : SCode := (.seq s3_9 (.cond (t 22) (.skip) (.exit 0)))
def s3_11 : SCode := (.reg [(sn 7)])
def s3_12 : SCode := (.reg [(mv 25 6), (sv 8 25)])
def s3_13 : SCode := (.reg [(mv 26 8), (mv 27 6), (bc 28 .add 3 27 100 3), (bi 29 .lss 3 26 28 3), (mv 30 29), (mg 31 8 30 true), (mg 32 0 30 true), (.mk (some 33) (.binOp (.lss) 3 (t 31) (t 32) 3) (some (30, true))), (pk 34 30 33 false)])
def s3_14 : SCode := (.seq s3_13 (.cond (t 34) (.skip) (.exit 2)))
def s3_15 : SCode := (.reg [(mv 37 8), (.mk (some 38) (.binOp (.shr) 3 (t 37) (.const (.int (.u64) 8)) 30) none), (.mk (some 39) (.convert 3 5 (t 38)) none), (mv 40 8), (.mk (some 41) (.convert 3 5 (t 40)) none), (.mk (some 42) (.build 27 #[(0, (t 39)), (1, (t 41)), (2, (.const (.int (.u8) 1)))]) none), (.mk (some 43) (.build 32 #[(0, (t 42))]) none), (.mk (some 9) (.alloc 32) none), (st 32 9 43)])
def s3_16 : SCode := (.reg [(mv 44 8), (bc 45 .gtr 3 44 0 3)])
def s3_17 : SCode := (.reg [(ld 46 27 4), (b1 47 28 46), (fa 48 32 9 1), (st 28 48 47)])
def s3_18 : SCode := (.seq s3_16 (.cond (t 45) s3_17 (.skip)))
def s3_19 : SCode := (.reg [(fa 49 32 9 0), (ld 50 27 49), (st 27 4 50)])
def s3_20 : SCode := (.reg [(mv 51 7), (ld 52 32 9), (b1 53 29 52), (ap 54 51 53 29), (sv 7 54)])
def s3_21 : SCode := (.reg [(mv 55 5), (ld 56 27 4), (b1 57 28 56), (ap 58 55 57 28), (sv 5 58)])
def s3_22 : SCode := (.seq s3_18 (.seq s3_19 (.seq s3_20 s3_21)))
def s3_23 : SCode := (.reg [(mv 35 8), (bc 36 .add 3 35 1 3), (sv 8 36)])
def s3_24 : SCode := (.seq (.block 3 (.seq s3_15 s3_22)) s3_23)
def s3_25 : SCode := (.seq s3_12 (.block 2 (.loop (.seq s3_14 s3_24))))
def s3_26 : SCode := (.reg [(mv 59 3), (mv 60 7), (c2 61 11 59 60 23 29), (.mk (some 62) (.binOp (.neq) 34 (t 61) (.const (.nilIface)) 34) none)])
def s3_27 : SCode := (.reg [(sb 2 false)])
def s3_28 : SCode := (.cond (t 62) (.seq s3_27 (.ret)) (.skip))
def s3_29 : SCode := (.seq s3_11 (.seq s3_25 (.seq s3_26 s3_28)))
def s3_30 : SCode := (.reg [(mv 23 6), (bc 24 .add 3 23 100 3), (sv 6 24)])
def s3_31 : SCode := (.seq s3_10 (.seq (.block 1 s3_29) s3_30))
def s3_32 : SCode := (.reg [(mv 63 3), (ld 64 27 4), (b1 65 28 64), (.mk (some 66) (.call (.mk (.value (.func 13)) #[(t 63), (t 65), (.const (.nilFunc))] #[23, 28, 39])) none), (mv 67 5), (c2 68 12 66 67 28 28), (sv 2 68)])
def s3_33 : SCode := (.seq (.seq s3_8 (.block 0 (.loop s3_31))) (.seq s3_32 (.ret)))
def s3_34 : SCode := (.seq (.seq s3_3 s3_5) (.seq s3_6 (.seq s3_7 s3_33)))
def s3 : SCode := (.seq s3_0 (.seq s3_1 (.seq s3_2 s3_34)))
def e3 := And.intro s3_0.eq_1 <| And.intro s3_1.eq_1 <| And.intro s3_2.eq_1 <| And.intro s3_3.eq_1 <| And.intro s3_4.eq_1 <| And.intro s3_5.eq_1 <| And.intro s3_6.eq_1 <| And.intro s3_7.eq_1 <| And.intro s3_8.eq_1 <| And.intro s3_9.eq_1 <| And.intro s3_10.eq_1 <| And.intro s3_11.eq_1 <| And.intro s3_12.eq_1 <| And.intro s3_13.eq_1 <| And.intro s3_14.eq_1 <| And.intro s3_15.eq_1 <| And.intro s3_16.eq_1 <| And.intro s3_17.eq_1 <| And.intro s3_18.eq_1 <| And.intro s3_19.eq_1 <| And.intro s3_20.eq_1 <| And.intro s3_21.eq_1 <| And.intro s3_22.eq_1 <| And.intro s3_23.eq_1 <| And.intro s3_24.eq_1 <| And.intro s3_25.eq_1 <| And.intro s3_26.eq_1 <| And.intro s3_27.eq_1 <| And.intro s3_28.eq_1 <| And.intro s3_29.eq_1 <| And.intro s3_30.eq_1 <| And.intro s3_31.eq_1 <| And.intro s3_32.eq_1 <| And.intro s3_33.eq_1 <| s3_34.eq_1
theorem h3 : FnS Try.prog 3 ⟨[], []⟩ 69 [(.tmp 2)] s3 := by refine .mk' Try.func3 ?_ ?_ ?_ ?_ ?_ ?_ <;> kernel_rfl
def s4_0 : SCode := (.reg [(sb 0 false)])
def s4_1 : SCode := (.reg [(.mk (some 3) (.call (.mk (.value (.func 14)) #[] #[])) none), (sv 1 3)])
def s4_2 : SCode := (.reg [(.mk (some 4) (.call (.mk (.value (.func 10)) #[] #[])) none), (nt 5 4), (mv 6 5), (mg 7 1 6 false), (.mk (some 8) (.binOp (.eql) 23 (t 7) (.const (.pointer none)) 23) (some (6, false))), (.mk (some 9) (.pick (t 6) (.const (.bool true)) (t 8)) none)])
def s4_3 : SCode := (.reg [(sb 0 false)])
def s4_4 : SCode := (.cond (t 9) (.seq s4_3 (.ret)) (.skip))
def s4_5 : SCode := (.reg [(mv 10 1), (.mk (some 11) (.build 27 #[(0, (.const (.int (.u8) 3)))]) none), (.mk (some 12) (.build 27 #[(0, (.const (.int (.u8) 9)))]) none), (.mk (some 13) (.build 27 #[(0, (.const (.int (.u8) 4)))]) none), (.mk (some 14) (.build 27 #[(0, (.const (.int (.u8) 3)))]) none), (.mk (some 15) (.buildSlice 28 4 #[(0, (t 11)), (1, (t 12)), (2, (t 13)), (3, (t 14))]) none), (.mk (some 16) (.call (.mk (.value (.func 13)) #[(t 10), (t 15), (.func 15)] #[23, 28, 39])) none), (sv 2 16)])
def s4_6 : SCode := (.reg [(mv 17 2), (.mk (some 18) (.build 27 #[(0, (.const (.int (.u8) 3)))]) none), (.mk (some 19) (.build 27 #[(0, (.const (.int (.u8) 2)))]) none), (.mk (some 20) (.build 27 #[(0, (.const (.int (.u8) 4)))]) none), (.mk (some 21) (.buildSlice 28 3 #[(0, (t 18)), (1, (t 19)), (2, (t 20))]) none), (c2 22 12 17 21 28 28), (mv 23 22), (.mk (some 24) (.build 27 #[(0, (.const (.int (.u8) 4)))]) (some (23, true))), (.mk (some 25) (.buildSlice 28 1 #[(0, (t 24))]) (some (23, true))), (.mk (some 26) (.call (.mk (.value (.func 13)) #[(.const (.pointer none)), (t 25), (.const (.nilFunc))] #[23, 28, 39])) (some (23, true))), (.mk (some 27) (.call (.mk (.builtin (.len)) #[(t 26)] #[28])) (some (23, true))), (.mk (some 28) (.binOp (.eql) 3 (t 27) (.const (.int (.i64) 0)) 3) (some (23, true))), (pk 29 23 28 false), (mv 30 29), (mg 31 1 30 true), (mg 32 2 30 true), (.mk (some 33) (.call (.mk (.value (.func 16)) #[(t 31), (t 32)] #[23, 28])) (some (30, true))), (pk 34 30 33 false), (mv 35 34), (mg 36 1 35 true), (.mk (some 37) (.build 27 #[(0, (.const (.int (.u8) 4)))]) (some (35, true))), (.mk (some 38) (.build 27 #[(0, (.const (.int (.u8) 2)))]) (some (35, true))), (.mk (some 39) (.buildSlice 28 2 #[(0, (t 37)), (1, (t 38))]) (some (35, true))), (.mk (some 40) (.call (.mk (.value (.func 16)) #[(t 36), (t 39)] #[23, 28])) (some (35, true))), (.mk (some 41) (.unOp (.not) 4 (t 40)) (some (35, true))), (pk 42 35 41 false), (mv 43 42), (mg 44 1 43 true), (.mk (some 45) (.build 27 #[(0, (.const (.int (.u8) 2)))]) (some (43, true))), (.mk (some 46) (.build 27 #[(0, (.const (.int (.u8) 2)))]) (some (43, true))), (.mk (some 47) (.buildSlice 28 2 #[(0, (t 45)), (1, (t 46))]) (some (43, true))), (.mk (some 48) (.call (.mk (.value (.func 16)) #[(t 44), (t 47)] #[23, 28])) (some (43, true))), (.mk (some 49) (.unOp (.not) 4 (t 48)) (some (43, true))), (pk 50 43 49 false), (mv 51 50), (mg 52 1 51 true), (.mk (some 53) (.build 27 #[(0, (.const (.int (.u8) 9)))]) (some (51, true))), (.mk (some 54) (.buildSlice 28 1 #[(0, (t 53))]) (some (51, true))), (.mk (some 55) (.call (.mk (.value (.func 16)) #[(t 52), (t 54)] #[23, 28])) (some (51, true))), (.mk (some 56) (.unOp (.not) 4 (t 55)) (some (51, true))), (pk 57 51 56 false), (mv 58 57), (mg 59 1 58 true), (.mk (some 60) (.call (.mk (.value (.func 16)) #[(t 59), (.const (.slice none 0 0))] #[23, 28])) (some (58, true))), (pk 61 58 60 false), (sv 0 61)])
def s4_7 : SCode := (.seq (.seq s4_2 s4_4) (.seq s4_5 (.seq s4_6 (.ret))))
def s4 : SCode := (.seq s4_0 (.seq s4_1 s4_7))
def e4 := And.intro s4_0.eq_1 <| And.intro s4_1.eq_1 <| And.intro s4_2.eq_1 <| And.intro s4_3.eq_1 <| And.intro s4_4.eq_1 <| And.intro s4_5.eq_1 <| And.intro s4_6.eq_1 <| s4_7.eq_1
theorem h4 : FnS Try.prog 4 ⟨[], []⟩ 62 [(.tmp 0)] s4 := by refine .mk' Try.func4 ?_ ?_ ?_ ?_ ?_ ?_ <;> kernel_rfl
def s5_0 : SCode := (.reg [(sb 8 false)])
def s5_1 : SCode := (.reg [(mv 19 0), (c1 20 17 19 41), (mv 18 20), (ex 21 18 0), (ex 22 18 1), (sv 9 21), (sv 10 22)])
def s5_2 : SCode := (.reg [(.mk (some 23) (.call (.mk (.value (.func 10)) #[] #[])) none), (nt 24 23), (mv 25 24), (mg 26 9 25 false), (.mk (some 27) (.binOp (.eql) 23 (t 26) (.const (.pointer none)) 23) (some (25, false))), (.mk (some 28) (.pick (t 25) (.const (.bool true)) (t 27)) none)])
def s5_3 : SCode := (.reg [(sb 8 false)])
def s5_4 : SCode := (.cond (t 28) (.seq s5_3 (.ret)) (.skip))
def s5_5 : SCode := (.reg [(mv 29 1), (.mk (some 30) (.call (.mk (.value (.func 18)) #[(t 29), (.const (.int (.i64) 6))] #[42, 3])) none), (sv 11 30)])
def s5_6 : SCode := (.reg [(mv 31 2), (.mk (some 32) (.call (.mk (.value (.func 18)) #[(t 31), (.const (.int (.i64) 8))] #[42, 3])) none), (.mk (some 12) (.alloc 28) none), (st 28 12 32)])
def s5_7 : SCode := (.reg [(mv 33 9), (mv 34 11), (.mk (some 35) (.makeFunc (.func 19) #[] #[(t 12)]) none), (.mk (some 36) (.call (.mk (.value (.func 13)) #[(t 33), (t 34), (t 35)] #[23, 28, 39])) none), (sv 13 36)])
def s5_8 : SCode := (.reg [(mv 37 13), (mv 38 10), (mv 39 11), (ld 40 28 12), (.mk (some 41) (.call (.mk (.value (.func 21)) #[(t 38), (t 39), (t 40)] #[43, 28, 28])) none), (c2 42 12 37 41 28 28), (nt 43 42), (mv 44 43), (mg 45 9 44 false), (mg 46 11 44 false), (.mk (some 47) (.call (.mk (.value (.func 13)) #[(t 45), (t 46), (.const (.nilFunc))] #[23, 28, 39])) (some (44, false))), (mg 48 10 44 false), (mg 49 11 44 false), (.mk (some 50) (.call (.mk (.value (.func 21)) #[(t 48), (t 49), (.const (.slice none 0 0))] #[43, 28, 28])) (some (44, false))), (.mk (some 51) (.call (.mk (.value (.func 12)) #[(t 47), (t 50)] #[28, 28])) (some (44, false))), (.mk (some 52) (.unOp (.not) 4 (t 51)) (some (44, false))), (.mk (some 53) (.pick (t 44) (.const (.bool true)) (t 52)) none)])
def s5_9 : SCode := (.reg [(sb 8 false)])
def s5_10 : SCode := (.cond (t 53) (.seq s5_9 (.ret)) (.skip))
def s5_11 : SCode := (.reg [(mv 54 3), (.mk (some 55) (.call (.mk (.value (.func 18)) #[(t 54), (.const (.int (.i64) 6))] #[42, 3])) none), (sv 14 55)])
def s5_12 : SCode := (.reg [(sb 15 true)])
def s5_13 : SCode := (.reg [(sc 16 0)])
def s5_14 : SCode := (.reg [(mv 56 16), (mv 57 14), (ln 58 57 28), (bi 59 .lss 3 56 58 3)])
def s5_15 : SCode := (.seq s5_14 (.cond (t 59) (.skip) (.exit 0)))
def s5_16 : SCode := (.drw [((mv 62 15), 0), ((mv 63 62), 0), ((mg 64 10 63 true), 0), ((mg 65 14 63 true), 0), ((mg 66 16 63 true), 0), ((.mk (some 67) (.indexAddr 28 (t 65) (t 66)) (some (63, true))), 0), ((.mk (some 68) (.load 27 (t 67)) (some (63, true))), 0), ((.mk (some 69) (.call (.mk (.value (.func 22)) #[(t 64), (t 68)] #[43, 27])) (some (63, true))), 1), ((pk 70 63 69 false), 0), ((mv 71 70), 0), ((mg 72 14 71 true), 0), ((mg 73 16 71 true), 0), ((.mk (some 74) (.slice 28 (t 72) none (some (t 73)) none) (some (71, true))), 0), ((mg 75 14 71 true), 0), ((mg 76 16 71 true), 0), ((.mk (some 77) (.indexAddr 28 (t 75) (t 76)) (some (71, true))), 0), ((.mk (some 78) (.load 27 (t 77)) (some (71, true))), 0), ((.mk (some 79) (.call (.mk (.value (.func 20)) #[(t 74), (t 78)] #[28, 27])) (some (71, true))), 1), ((.mk (some 80) (.unOp (.not) 4 (t 79)) (some (71, true))), 0), ((pk 81 71 80 false), 0), ((sv 15 81), 0)])
def s5_17 : SCode := (.reg [(sc 17 0)])
def s5_18 : SCode := (.reg [(mv 82 17), (mv 83 16), (bi 84 .lss 3 82 83 3), (mv 85 84), (mg 86 15 85 true), (pk 87 85 86 false)])
def s5_19 : SCode := (.seq s5_18 (.cond (t 87) (.skip) (.exit 2)))
def s5_20 : SCode := (.drw [((mv 90 10), 0), ((mv 91 14), 0), ((mv 92 17), 0), ((mv 93 17), 0), ((bc 94 .add 3 93 1 3), 0), ((.mk (some 95) (.slice 28 (t 91) (some (t 92)) (some (t 94)) none) none), 0), ((mv 97 14), 0), ((mv 98 16), 0), ((ia 99 28 97 98), 0), ((ld 100 27 99), 0), ((c2 96 23 90 95 43 28), 2), ((c2 101 20 96 100 28 27), 1), ((nt 102 101), 0), ((sv 15 102), 0)])
def s5_21 : SCode := (.reg [(mv 88 17), (bc 89 .add 3 88 1 3), (sv 17 89)])
def s5_22 : SCode := (.seq s5_19 (.seq (.block 3 s5_20) s5_21))
def s5_23 : SCode := (.seq s5_16 (.seq s5_17 (.block 2 (.loop s5_22))))
def s5_24 : SCode := (.reg [(mv 60 16), (bc 61 .add 3 60 1 3), (sv 16 61)])
def s5_25 : SCode := (.seq s5_15 (.seq (.block 1 s5_23) s5_24))
def s5_26 : SCode := (.reg [(mv 103 9), (mv 104 14), (c2 105 16 103 104 23 28), (mv 106 15), (bi 107 .eql 4 105 106 4), (sv 8 107)])
def s5_27 : SCode := (.seq (.seq s5_13 (.block 0 (.loop s5_25))) (.seq s5_26 (.ret)))
def s5_28 : SCode := (.seq (.seq s5_8 s5_10) (.seq s5_11 (.seq s5_12 s5_27)))
def s5_29 : SCode := (.seq s5_5 (.seq s5_6 (.seq s5_7 s5_28)))
def s5_30 : SCode := (.seq s5_1 (.seq (.seq s5_2 s5_4) s5_29))
def s5 : SCode := (.seq s5_0 s5_30)
theorem h5 : FnS Try.prog 5 ⟨[], [(14, [(0, 0), (1, 0), (2, 0), (3, 0), (4, 0), (5, 0), (6, 0), (7, 1), (8, 0), (9, 0), (10, 0), (11, 0), (12, 0), (13, 0), (14, 0), (15, 0), (16, 0), (17, 1), (18, 0), (19, 0), (20, 0)]), (18, [(0, 0), (1, 0), (2, 0), (3, 0), (4, 0), (5, 0), (7, 0), (8, 0), (9, 0), (10, 0), (6, 2), (11, 1), (12, 0), (13, 0)])]⟩ 108 [(.tmp 8)] s5 := by refine .mk' Try.func5 ?_ ?_ ?_ ?_ ?_ ?_ <;> kernel_rfl
def s6_0 : SCode := (.reg [(sb 4 false)])
def s6_1 : SCode := (.reg [(mv 14 0), (c1 15 17 14 41), (mv 13 15), (ex 16 13 0), (ex 17 13 1), (sv 5 16), (sv 6 17)])
def s6_2 : SCode := (.reg [(.mk (some 18) (.call (.mk (.value (.func 10)) #[] #[])) none), (nt 19 18), (mv 20 19), (mg 21 5 20 false), (.mk (some 22) (.binOp (.eql) 23 (t 21) (.const (.pointer none)) 23) (some (20, false))), (.mk (some 23) (.pick (t 20) (.const (.bool true)) (t 22)) none)])
def s6_3 : SCode := (.reg [(sb 4 false)])
def s6_4 : SCode := (.cond (t 23) (.seq s6_3 (.ret)) (.skip))
def s6_5 : SCode := (.reg [(mv 24 1), (.mk (some 25) (.call (.mk (.value (.func 18)) #[(t 24), (.const (.int (.i64) 8))] #[42, 3])) none), (sv 7 25)])
def s6_6 : SCode := (.reg [(mv 26 5), (mv 27 7), (.mk (some 28) (.call (.mk (.value (.func 13)) #[(t 26), (t 27), (.const (.nilFunc))] #[23, 28, 39])) none), (sv 8 28)])
def s6_7 : SCode := (.reg [(mv 29 5), (mv 30 8), (c2 31 16 29 30 23 28), (nt 32 31), (mv 33 32), (mg 34 8 33 false), (.mk (some 35) (.call (.mk (.value (.func 24)) #[(t 34)] #[28])) (some (33, false))), (mg 36 5 33 false), (mg 37 7 33 false), (.mk (some 38) (.call (.mk (.value (.func 25)) #[(t 36), (t 37)] #[23, 28])) (some (33, false))), (.mk (some 39) (.call (.mk (.value (.func 12)) #[(t 35), (t 38)] #[28, 28])) (some (33, false))), (.mk (some 40) (.unOp (.not) 4 (t 39)) (some (33, false))), (.mk (some 41) (.pick (t 33) (.const (.bool true)) (t 40)) none)])
def s6_8 : SCode := (.reg [(sb 4 false)])
def s6_9 : SCode := (.cond (t 41) (.seq s6_8 (.ret)) (.skip))
def s6_10 : SCode := (.reg [(sc 9 0)])
def s6_11 : SCode := (.reg [(mv 42 9), (mv 43 8), (ln 44 43 28), (bi 45 .lss 3 42 44 3)])
def s6_12 : SCode := (.seq s6_11 (.cond (t 45) (.skip) (.exit 0)))
def s6_13 : SCode := (.reg [(mv 49 5), (mv 50 8), (mv 51 9), (ia 52 28 50 51), (ld 53 27 52), (c2 54 26 49 53 23 27), (mv 48 54), (ex 55 48 0), (ex 56 48 1), (sv 10 55), (sv 11 56)])
def s6_14 : SCode := (.reg [(sc 12 0)])
def s6_15 : SCode := (.reg [(mv 57 12), (mv 58 10), (ln 59 58 28), (bi 60 .lss 3 57 59 3)])
def s6_16 : SCode := (.seq s6_15 (.cond (t 60) (.skip) (.exit 2)))
def s6_17 : SCode := (.drw [((mv 63 8), 0), ((mv 64 9), 0), ((.mk (some 65) (.slice 28 (t 63) none (some (t 64)) none) none), 0), ((mv 66 10), 0), ((mv 67 12), 0), ((ia 68 28 66 67), 0), ((ld 69 27 68), 0), ((c2 70 20 65 69 28 27), 1), ((nt 71 70), 0)])
def s6_18 : SCode := (.reg [(sb 4 false)])
def s6_19 : SCode := (.cond (t 71) (.seq s6_18 (.ret)) (.skip))
def s6_20 : SCode := (.reg [(mv 61 12), (bc 62 .add 3 61 1 3), (sv 12 62)])
def s6_21 : SCode := (.seq (.block 3 (.seq s6_17 s6_19)) s6_20)
def s6_22 : SCode := (.seq s6_14 (.block 2 (.loop (.seq s6_16 s6_21))))
def s6_23 : SCode := (.reg [(mv 46 9), (bc 47 .add 3 46 1 3), (sv 9 47)])
def s6_24 : SCode := (.seq (.block 1 (.seq s6_13 s6_22)) s6_23)
def s6_25 : SCode := (.seq s6_10 (.block 0 (.loop (.seq s6_12 s6_24))))
def s6_26 : SCode := (.reg [(sb 4 true)])
def s6_27 : SCode := (.seq (.seq s6_7 s6_9) (.seq s6_25 (.seq s6_26 (.ret))))
def s6_28 : SCode := (.seq (.seq s6_2 s6_4) (.seq s6_5 (.seq s6_6 s6_27)))
def s6 : SCode := (.seq s6_0 (.seq s6_1 s6_28))
theorem h6 : FnS Try.prog 6 ⟨[], [(15, [(0, 0), (1, 0), (2, 0), (3, 0), (4, 0), (5, 0), (6, 0), (7, 1), (8, 0)])]⟩ 72 [(.tmp 4)] s6 := by refine .mk' Try.func6 ?_ ?_ ?_ ?_ ?_ ?_ <;> kernel_rfl
def s7_0 : SCode := (.reg [(sb 6 false)])
def s7_1 : SCode := (.reg [(mv 13 0), (c1 14 17 13 41), (mv 12 14), (ex 15 12 0), (ex 16 12 1), (sv 7 15), (sv 8 16)])
def s7_2 : SCode := (.reg [(.mk (some 17) (.call (.mk (.value (.func 10)) #[] #[])) none), (nt 18 17), (mv 19 18), (mg 20 7 19 false), (.mk (some 21) (.binOp (.eql) 23 (t 20) (.const (.pointer none)) 23) (some (19, false))), (.mk (some 22) (.pick (t 19) (.const (.bool true)) (t 21)) none)])
def s7_3 : SCode := (.reg [(sb 6 false)])
def s7_4 : SCode := (.cond (t 22) (.seq s7_3 (.ret)) (.skip))
def s7_5 : SCode := (.reg [(mv 23 1), (.mk (some 24) (.call (.mk (.value (.func 18)) #[(t 23), (.const (.int (.i64) 8))] #[42, 3])) none), (sv 9 24)])
def s7_6 : SCode := (.reg [(mv 25 2), (mv 26 9), (ln 27 26 28), (bc 28 .add 3 27 1 3), (c2 29 8 25 28 3 3), (sv 2 29)])
def s7_7 : SCode := (.reg [(mv 30 7), (mv 31 9), (mv 32 2), (.mk (some 33) (.slice 28 (t 31) none (some (t 32)) none) none), (.mk (some 34) (.call (.mk (.value (.func 13)) #[(t 30), (t 33), (.const (.nilFunc))] #[23, 28, 39])) none), (.mk (some 10) (.alloc 28) none), (st 28 10 34)])
def s7_8 : SCode := (.reg [(mv 35 7), (mv 36 9), (mv 37 2), (.mk (some 38) (.slice 28 (t 36) (some (t 37)) none none) none), (.mk (some 39) (.makeFunc (.func 27) #[] #[(t 10)]) none), (.mk (some 40) (.call (.mk (.value (.func 13)) #[(t 35), (t 38), (t 39)] #[23, 28, 39])) none), (sv 11 40)])
def s7_9 : SCode := (.reg [(.mk (some 41) (.buildSlice 28 0 #[]) none), (ld 42 28 10), (ap 43 41 42 28), (mv 44 11), (ap 45 43 44 28), (mv 46 7), (mv 47 9), (.mk (some 48) (.call (.mk (.value (.func 13)) #[(t 46), (t 47), (.const (.nilFunc))] #[23, 28, 39])) none), (c2 49 12 45 48 28 28), (mv 50 49), (mg 51 7 50 true), (.mk (some 52) (.load 28 (t 10)) (some (50, true))), (.mk (some 53) (.call (.mk (.value (.func 16)) #[(t 51), (t 52)] #[23, 28])) (some (50, true))), (pk 54 50 53 false), (sv 6 54)])
def s7_10 : SCode := (.seq s7_7 (.seq s7_8 (.seq s7_9 (.ret))))
def s7_11 : SCode := (.seq (.seq s7_2 s7_4) (.seq s7_5 (.seq s7_6 s7_10)))
def s7 : SCode := (.seq s7_0 (.seq s7_1 s7_11))
theorem h7 : FnS Try.prog 7 ⟨[], []⟩ 55 [(.tmp 6)] s7 := by refine .mk' Try.func7 ?_ ?_ ?_ ?_ ?_ ?_ <;> kernel_rfl
def s8_0 : SCode := (.reg [(sc 4 0)])
def s8_1 : SCode := (.reg [(mv 5 0), (mv 6 1), (bi 7 .rem 3 5 6 3), (sv 0 7)])
def s8_2 : SCode := (.reg [(mv 8 0), (bc 9 .lss 3 8 0 3)])
def s8_3 : SCode := (.reg [(mv 10 0), (mv 11 1), (bi 12 .add 3 10 11 3), (sv 0 12)])
def s8_4 : SCode := (.seq s8_2 (.cond (t 9) s8_3 (.skip)))
def s8_5 : SCode := (.reg [(mv 13 0), (sv 4 13)])
def s8_6 : SCode := (.seq s8_1 (.seq s8_4 (.seq s8_5 (.ret))))
def s8 : SCode := (.seq s8_0 s8_6)
theorem h8 : FnS Try.prog 8 ⟨[], []⟩ 14 [(.tmp 4)] s8 := by refine .mk' Try.func8 ?_ ?_ ?_ ?_ ?_ ?_ <;> kernel_rfl
def s9_0 : SCode := (.reg [(.mk (some 0) (.assign (.const (.pointer none))) none)])
def s9_1 : SCode := (.reg [(.mk (some 1) (.makeMap 55 none) none), (.mk (some 2) (.build 57 #[(0, (t 1))]) none), (.mk (some 3) (.box 57 (t 2)) none), (sv 0 3)])
def s9 : SCode := (.seq s9_0 (.seq s9_1 (.ret)))
def e9 := And.intro s9_0.eq_1 <| s9_1.eq_1
theorem h9 : FnS Try.prog 9 ⟨[], []⟩ 4 [(.tmp 0)] s9 := by refine .mk' Try.func9 ?_ ?_ ?_ ?_ ?_ ?_ <;> kernel_rfl
def s10_0 : SCode := (.reg [(sb 0 false)])
def s10_1 : SCode := (.reg [(.mk (some 2) (.call (.mk (.value (.func 14)) #[] #[])) none), (sv 1 2)])
def s10_2 : SCode := (.reg [(mv 3 1), (.mk (some 4) (.binOp (.neq) 23 (t 3) (.const (.pointer none)) 23) none), (mv 5 4), (mg 6 1 5 true), (.mk (some 7) (.build 27 #[(0, (.const (.int (.u8) 4)))]) (some (5, true))), (.mk (some 8) (.buildSlice 28 1 #[(0, (t 7))]) (some (5, true))), (.mk (some 9) (.call (.mk (.value (.func 13)) #[(t 6), (t 8), (.const (.nilFunc))] #[23, 28, 39])) (some (5, true))), (.mk (some 10) (.build 27 #[(0, (.const (.int (.u8) 1)))]) (some (5, true))), (.mk (some 11) (.build 27 #[(0, (.const (.int (.u8) 2)))]) (some (5, true))), (.mk (some 12) (.build 27 #[(0, (.const (.int (.u8) 3)))]) (some (5, true))), (.mk (some 13) (.build 27 #[(0, (.const (.int (.u8) 4)))]) (some (5, true))), (.mk (some 14) (.buildSlice 28 4 #[(0, (t 10)), (1, (t 11)), (2, (t 12)), (3, (t 13))]) (some (5, true))), (.mk (some 15) (.call (.mk (.value (.func 12)) #[(t 9), (t 14)] #[28, 28])) (some (5, true))), (pk 16 5 15 false), (sv 0 16)])
def s10 : SCode := (.seq s10_0 (.seq s10_1 (.seq s10_2 (.ret))))
def e10 := And.intro s10_0.eq_1 <| And.intro s10_1.eq_1 <| s10_2.eq_1
theorem h10 : FnS Try.prog 10 ⟨[], []⟩ 17 [(.tmp 0)] s10 := by refine .mk' Try.func10 ?_ ?_ ?_ ?_ ?_ ?_ <;> kernel_rfl
def s11_0 : SCode := (.reg [(.mk (some 4) (.assign (.const (.nilIface))) none)])
def s11_1 : SCode := (.reg [(mv 8 0), (mv 9 1), (.mk (some 10) (.build 61 #[(0, (t 9)), (2, (.const (.int (.i64) 2)))]) none), (c2 11 28 8 10 23 61), (mv 7 11), (ex 12 7 0), (ex 13 7 1), (sv 5 12), (sv 6 13)])
def s11_2 : SCode := (.reg [(mv 14 6), (.mk (some 15) (.binOp (.eql) 34 (t 14) (.const (.nilIface)) 34) none)])
def s11_3 : SCode := (.reg [(mv 16 0), (mv 17 5), (.mk (some 18) (.nilCheck (t 16)) none), (fa 19 57 18 0), (st 55 19 17)])
def s11_4 : SCode := (.seq s11_2 (.cond (t 15) s11_3 (.skip)))
def s11_5 : SCode := (.reg [(mv 20 6), (sv 4 20)])
def s11_6 : SCode := (.seq s11_1 (.seq s11_4 (.seq s11_5 (.ret))))
def s11 : SCode := (.seq s11_0 s11_6)
def e11 := And.intro s11_0.eq_1 <| And.intro s11_1.eq_1 <| And.intro s11_2.eq_1 <| And.intro s11_3.eq_1 <| And.intro s11_4.eq_1 <| And.intro s11_5.eq_1 <| s11_6.eq_1
theorem h11 : FnS Try.prog 11 ⟨[], []⟩ 21 [(.tmp 4)] s11 := by refine .mk' Try.func11 ?_ ?_ ?_ ?_ ?_ ?_ <;> kernel_rfl
def s12_0 : SCode := (.reg [(sb 4 false)])
def s12_1 : SCode := (.reg [(mv 6 0), (ln 7 6 28), (mv 8 1), (ln 9 8 28), (bi 10 .neq 3 7 9 3)])
def s12_2 : SCode := (.reg [(sb 4 false)])
def s12_3 : SCode := (.cond (t 10) (.seq s12_2 (.ret)) (.skip))
def s12_4 : SCode := (.reg [(sc 5 0)])
def s12_5 : SCode := (.reg [(mv 11 5), (mv 12 0), (ln 13 12 28), (bi 14 .lss 3 11 13 3)])
def s12_6 : SCode := (.seq s12_5 (.cond (t 14) (.skip) (.exit 0)))
def s12_7 : SCode := (.drw [((mv 17 0), 0), ((mv 18 5), 0), ((ia 19 28 17 18), 0), ((ld 20 27 19), 0), ((mv 21 1), 0), ((mv 22 5), 0), ((ia 23 28 21 22), 0), ((ld 24 27 23), 0), ((bi 25 .neq 27 20 24 27), 0)])
def s12_8 : SCode := (.reg [(sb 4 false)])
def s12_9 : SCode := (.cond (t 25) (.seq s12_8 (.ret)) (.skip))
def s12_10 : SCode := (.reg [(mv 15 5), (bc 16 .add 3 15 1 3), (sv 5 16)])
def s12_11 : SCode := (.seq (.block 1 (.seq s12_7 s12_9)) s12_10)
def s12_12 : SCode := (.seq s12_4 (.block 0 (.loop (.seq s12_6 s12_11))))
def s12_13 : SCode := (.reg [(sb 4 true)])
def s12_14 : SCode := (.seq (.seq s12_1 s12_3) (.seq s12_12 (.seq s12_13 (.ret))))
def s12 : SCode := (.seq s12_0 s12_14)
def e12 := And.intro s12_0.eq_1 <| And.intro s12_1.eq_1 <| And.intro s12_2.eq_1 <| And.intro s12_3.eq_1 <| And.intro s12_4.eq_1 <| And.intro s12_5.eq_1 <| And.intro s12_6.eq_1 <| And.intro s12_7.eq_1 <| And.intro s12_8.eq_1 <| And.intro s12_9.eq_1 <| And.intro s12_10.eq_1 <| And.intro s12_11.eq_1 <| And.intro s12_12.eq_1 <| And.intro s12_13.eq_1 <| s12_14.eq_1
theorem h12 : FnS Try.prog 12 ⟨[], [(6, [(0, 0), (1, 0), (2, 0), (3, 0), (4, 0), (5, 0), (6, 0), (7, 0), (8, 0)])]⟩ 26 [(.tmp 4)] s12 := by refine .mk' Try.func12 ?_ ?_ ?_ ?_ ?_ ?_ <;> kernel_rfl
def s13_0 : SCode := (.reg [(sn 6)])
def s13_1 : SCode := (.reg [(mv 10 0), (.mk (some 11) (.binOp (.eql) 23 (t 10) (.const (.pointer none)) 23) none)])
def s13_2 : SCode := (.reg [(sn 6)])
def s13_3 : SCode := (.cond (t 11) (.seq s13_2 (.ret)) (.skip))
def s13_4 : SCode := (.reg [(mv 12 0), (mv 13 2), (.mk (some 14) (.makeMap 63 none) none), (.mk (some 15) (.build 66 #[(0, (t 12)), (1, (t 13)), (2, (t 14))]) none), (.mk (some 16) (.box 66 (t 15)) none), (sv 7 16)])
def s13_5 : SCode := (.reg [(mv 17 1), (ln 18 17 28), (.mk (some 19) (.move (.const (.int (.i64) 0))) none)])
def s13_6 : SCode := (.reg [(bi 20 .lss 3 19 18 3)])
def s13_7 : SCode := (.reg [(ia 21 28 17 19), (ld 22 27 21), (.mk (some 9) (.alloc 27) none), (st 27 9 22)])
def s13_8 : SCode := (.reg [(mv 23 7), (ld 24 27 9), (c2 25 29 23 24 62 27)])
def s13_9 : SCode := (.reg [(mv 26 7), (.mk (some 27) (.nilCheck (t 26)) none), (fa 28 66 27 3), (ld 29 64 28), (ln 30 29 64), (bc 31 .gtr 3 30 0 3)])
def s13_10 : SCode := (.seq s13_9 (.cond (t 31) (.skip) (.exit 2)))
def s13_11 : SCode := (.reg [(mv 32 7), (c1 33 30 32 62)])
def s13_12 : SCode := (.block 2 (.loop (.seq s13_10 (.block 3 s13_11))))
def s13_13 : SCode := (.block 1 (.seq s13_7 (.seq s13_8 s13_12)))
def s13_14 : SCode := (.reg [(bc 34 .add 3 19 1 3), (mv 19 34)])
def s13_15 : SCode := (.seq (.cond (t 20) (.skip) (.exit 0)) (.seq s13_13 s13_14))
def s13_16 : SCode := (.seq s13_5 (.block 0 (.loop (.seq s13_6 s13_15))))
def s13_17 : SCode := (.reg [(mv 35 7), (.mk (some 36) (.nilCheck (t 35)) none), (fa 37 66 36 4), (ld 38 28 37), (sv 6 38)])
def s13_18 : SCode := (.seq s13_4 (.seq s13_16 (.seq s13_17 (.ret))))
def s13 : SCode := (.seq s13_0 (.seq (.seq s13_1 s13_3) s13_18))
def e13 := And.intro s13_0.eq_1 <| And.intro s13_1.eq_1 <| And.intro s13_2.eq_1 <| And.intro s13_3.eq_1 <| And.intro s13_4.eq_1 <| And.intro s13_5.eq_1 <| And.intro s13_6.eq_1 <| And.intro s13_7.eq_1 <| And.intro s13_8.eq_1 <| And.intro s13_9.eq_1 <| And.intro s13_10.eq_1 <| And.intro s13_11.eq_1 <| And.intro s13_12.eq_1 <| And.intro s13_13.eq_1 <| And.intro s13_14.eq_1 <| And.intro s13_15.eq_1 <| And.intro s13_16.eq_1 <| And.intro s13_17.eq_1 <| s13_18.eq_1
theorem h13 : FnS Try.prog 13 ⟨[], []⟩ 39 [(.tmp 6)] s13 := by refine .mk' Try.func13 ?_ ?_ ?_ ?_ ?_ ?_ <;> kernel_rfl
def s14_0 : SCode := (.reg [(.mk (some 0) (.assign (.const (.pointer none))) none)])
def s14_1 : SCode := (.reg [(.mk (some 2) (.call (.mk (.value (.func 9)) #[] #[])) none), (sv 1 2)])
def s14_2 : SCode := (.reg [(mv 3 1), (.mk (some 4) (.binOp (.eql) 23 (t 3) (.const (.pointer none)) 23) none)])
def s14_3 : SCode := (.reg [(.mk (some 0) (.assign (.const (.pointer none))) none)])
def s14_4 : SCode := (.cond (t 4) (.seq s14_3 (.ret)) (.skip))
def s14_5 : SCode := (.reg [(mv 5 1), (.mk (some 6) (.build 27 #[(0, (.const (.int (.u8) 4)))]) none), (.mk (some 7) (.build 27 #[(0, (.const (.int (.u8) 2)))]) none), (.mk (some 8) (.build 27 #[(0, (.const (.int (.u8) 3)))]) none), (.mk (some 9) (.buildSlice 28 2 #[(0, (t 7)), (1, (t 8))]) none), (.mk (some 10) (.build 32 #[(0, (t 6)), (1, (t 9))]) none), (.mk (some 11) (.build 27 #[(0, (.const (.int (.u8) 2)))]) none), (.mk (some 12) (.build 27 #[(0, (.const (.int (.u8) 1)))]) none), (b1 13 28 12), (.mk (some 14) (.build 32 #[(0, (t 11)), (1, (t 13))]) none), (.mk (some 15) (.build 27 #[(0, (.const (.int (.u8) 3)))]) none), (.mk (some 16) (.build 27 #[(0, (.const (.int (.u8) 1)))]) none), (b1 17 28 16), (.mk (some 18) (.build 32 #[(0, (t 15)), (1, (t 17))]) none), (.mk (some 19) (.build 27 #[(0, (.const (.int (.u8) 1)))]) none), (.mk (some 20) (.build 32 #[(0, (t 19))]) none), (.mk (some 21) (.buildSlice 29 4 #[(0, (t 10)), (1, (t 14)), (2, (t 18)), (3, (t 20))]) none), (c2 22 11 5 21 23 29)])
def s14_6 : SCode := (.reg [(mv 23 1), (sv 0 23)])
def s14_7 : SCode := (.seq (.seq s14_2 s14_4) (.seq s14_5 (.seq s14_6 (.ret))))
def s14 : SCode := (.seq s14_0 (.seq s14_1 s14_7))
def e14 := And.intro s14_0.eq_1 <| And.intro s14_1.eq_1 <| And.intro s14_2.eq_1 <| And.intro s14_3.eq_1 <| And.intro s14_4.eq_1 <| And.intro s14_5.eq_1 <| And.intro s14_6.eq_1 <| s14_7.eq_1
theorem h14 : FnS Try.prog 14 ⟨[], []⟩ 24 [(.tmp 0)] s14 := by refine .mk' Try.func14 ?_ ?_ ?_ ?_ ?_ ?_ <;> kernel_rfl
def s15_0 : SCode := (.reg [(.mk (some 1) (.box 27 (t 0)) none), (sb 2 false)])
def s15_1 : SCode := (.reg [(ld 3 27 1), (.mk (some 4) (.build 27 #[(0, (.const (.int (.u8) 1)))]) none), (bi 5 .eql 27 3 4 27), (sv 2 5)])
def s15 : SCode := (.seq s15_0 (.seq s15_1 (.ret)))
def e15 := And.intro s15_0.eq_1 <| s15_1.eq_1
theorem h15 : FnS Try.prog 15 ⟨[1], []⟩ 6 [(.tmp 2)] s15 := by refine .mk' Try.func15 ?_ ?_ ?_ ?_ ?_ ?_ <;> kernel_rfl
def s16_0 : SCode := (.reg [(sb 4 false)])
def s16_1 : SCode := (.reg [(mv 16 0), (.mk (some 17) (.binOp (.eql) 23 (t 16) (.const (.pointer none)) 23) none)])
def s16_2 : SCode := (.reg [(sb 4 false)])
def s16_3 : SCode := (.cond (t 17) (.seq s16_2 (.ret)) (.skip))
def s16_4 : SCode := (.reg [(.mk (some 18) (.makeMap 68 none) none), (sv 5 18)])
def s16_5 : SCode := (.reg [(mv 19 1), (ln 20 19 28), (.mk (some 21) (.move (.const (.int (.i64) 0))) none)])
def s16_6 : SCode := (.reg [(bi 22 .lss 3 21 20 3)])
def s16_7 : SCode := (.reg [(mv 23 21), (ia 24 28 19 21), (ld 25 27 24), (.mk (some 7) (.alloc 27) none), (sv 6 23), (st 27 7 25)])
def s16_8 : SCode := (.reg [(mv 27 5), (ld 28 27 7), (.mk (some 29) (.lookup 68 (t 27) (t 28) true) none), (mv 26 29), (ex 30 26 0), (ex 31 26 1), (sv 8 30), (sv 9 31)])
def s16_9 : SCode := (.reg [(mv 32 9), (mv 33 32), (mg 34 0 33 false), (.mk (some 35) (.load 27 (t 7)) (some (33, false))), (.mk (some 36) (.call (.mk (.value (.func 31)) #[(t 34), (t 35)] #[23, 27])) (some (33, false))), (.mk (some 37) (.unOp (.not) 4 (t 36)) (some (33, false))), (.mk (some 38) (.pick (t 33) (.const (.bool true)) (t 37)) none)])
def s16_10 : SCode := (.reg [(sb 4 false)])
def s16_11 : SCode := (.cond (t 38) (.seq s16_10 (.ret)) (.skip))
def s16_12 : SCode := (.reg [(mv 39 5), (ld 40 27 7), (mv 41 6), (.mk none (.mapUpdate 68 (t 39) (t 40) (t 41)) none)])
def s16_13 : SCode := (.seq (.seq s16_8 (.seq s16_9 s16_11)) s16_12)
def s16_14 : SCode := (.reg [(bc 42 .add 3 21 1 3), (mv 21 42)])
def s16_15 : SCode := (.seq (.block 1 (.seq s16_7 s16_13)) s16_14)
def s16_16 : SCode := (.seq (.cond (t 22) (.skip) (.exit 0)) s16_15)
def s16_17 : SCode := (.seq s16_5 (.block 0 (.loop (.seq s16_6 s16_16))))
def s16_18 : SCode := (.reg [(mv 43 1), (ln 44 43 28), (.mk (some 45) (.move (.const (.int (.i64) 0))) none)])
def s16_19 : SCode := (.reg [(bi 46 .lss 3 45 44 3)])
def s16_20 : SCode := (.reg [(mv 47 45), (ia 48 28 43 45), (ld 49 27 48), (.mk (some 11) (.alloc 27) none), (sv 10 47), (st 27 11 49)])
def s16_21 : SCode := (.reg [(mv 50 0), (ld 51 27 11), (b1 52 28 51), (c2 53 25 50 52 23 28), (ln 54 53 28), (.mk (some 55) (.move (.const (.int (.i64) 0))) none)])
def s16_22 : SCode := (.reg [(bi 56 .lss 3 55 54 3)])
def s16_23 : SCode := (.reg [(ia 57 28 53 55), (ld 58 27 57), (.mk (some 13) (.alloc 27) none), (st 27 13 58)])
def s16_24 : SCode := (.reg [(mv 60 5), (ld 61 27 13), (.mk (some 62) (.lookup 68 (t 60) (t 61) true) none), (mv 59 62), (ex 63 59 0), (ex 64 59 1), (sv 14 63), (sv 15 64)])
def s16_25 : SCode := (.reg [(mv 65 15), (mv 66 65), (mg 67 14 66 true), (mg 68 10 66 true), (.mk (some 69) (.binOp (.gtr) 3 (t 67) (t 68) 3) (some (66, true))), (pk 70 66 69 false)])
def s16_26 : SCode := (.reg [(sb 4 false)])
def s16_27 : SCode := (.cond (t 70) (.seq s16_26 (.ret)) (.skip))
def s16_28 : SCode := (.seq s16_23 (.seq s16_24 (.seq s16_25 s16_27)))
def s16_29 : SCode := (.reg [(bc 71 .add 3 55 1 3), (mv 55 71)])
def s16_30 : SCode := (.seq (.cond (t 56) (.skip) (.exit 4)) (.seq (.block 5 s16_28) s16_29))
def s16_31 : SCode := (.seq s16_21 (.block 4 (.loop (.seq s16_22 s16_30))))
def s16_32 : SCode := (.reg [(bc 72 .add 3 45 1 3), (mv 45 72)])
def s16_33 : SCode := (.seq (.block 3 (.seq s16_20 s16_31)) s16_32)
def s16_34 : SCode := (.seq (.cond (t 46) (.skip) (.exit 2)) s16_33)
def s16_35 : SCode := (.seq s16_18 (.block 2 (.loop (.seq s16_19 s16_34))))
def s16_36 : SCode := (.reg [(sb 4 true)])
def s16_37 : SCode := (.seq s16_17 (.seq s16_35 (.seq s16_36 (.ret))))
def s16_38 : SCode := (.seq (.seq s16_1 s16_3) (.seq s16_4 s16_37))
def s16 : SCode := (.seq s16_0 s16_38)
def e16 := And.intro s16_0.eq_1 <| And.intro s16_1.eq_1 <| And.intro s16_2.eq_1 <| And.intro s16_3.eq_1 <| And.intro s16_4.eq_1 <| And.intro s16_5.eq_1 <| And.intro s16_6.eq_1 <| And.intro s16_7.eq_1 <| And.intro s16_8.eq_1 <| And.intro s16_9.eq_1 <| And.intro s16_10.eq_1 <| And.intro s16_11.eq_1 <| And.intro s16_12.eq_1 <| And.intro s16_13.eq_1 <| And.intro s16_14.eq_1 <| And.intro s16_15.eq_1 <| And.intro s16_16.eq_1 <| And.intro s16_17.eq_1 <| And.intro s16_18.eq_1 <| And.intro s16_19.eq_1 <| And.intro s16_20.eq_1 <| And.intro s16_21.eq_1 <| And.intro s16_22.eq_1 <| And.intro s16_23.eq_1 <| And.intro s16_24.eq_1 <| And.intro s16_25.eq_1 <| And.intro s16_26.eq_1 <| And.intro s16_27.eq_1 <| And.intro s16_28.eq_1 <| And.intro s16_29.eq_1 <| And.intro s16_30.eq_1 <| And.intro s16_31.eq_1 <| And.intro s16_32.eq_1 <| And.intro s16_33.eq_1 <| And.intro s16_34.eq_1 <| And.intro s16_35.eq_1 <| And.intro s16_36.eq_1 <| And.intro s16_37.eq_1 <| s16_38.eq_1
theorem h16 : FnS Try.prog 16 ⟨[], []⟩ 73 [(.tmp 4)] s16 := by refine .mk' Try.func16 ?_ ?_ ?_ ?_ ?_ ?_ <;> kernel_rfl
def s20_0 : SCode := (.reg [(.mk (some 3) (.box 27 (t 1)) none), (sb 4 false)])
def s20_1 : SCode := (.reg [(sc 5 0)])
def s20_2 : SCode := (.reg [(mv 6 5), (mv 7 0), (ln 8 7 28), (bi 9 .lss 3 6 8 3)])
def s20_3 : SCode := (.seq s20_2 (.cond (t 9) (.skip) (.exit 0)))
def s20_4 : SCode := (.drw [((mv 12 0), 0), ((mv 13 5), 0), ((ia 14 28 12 13), 0), ((ld 15 27 14), 0), ((ld 16 27 3), 0), ((bi 17 .eql 27 15 16 27), 0)])
def s20_5 : SCode := (.reg [(sb 4 true)])
def s20_6 : SCode := (.cond (t 17) (.seq s20_5 (.ret)) (.skip))
def s20_7 : SCode := (.reg [(mv 10 5), (bc 11 .add 3 10 1 3), (sv 5 11)])
def s20_8 : SCode := (.seq (.block 1 (.seq s20_4 s20_6)) s20_7)
def s20_9 : SCode := (.seq s20_1 (.block 0 (.loop (.seq s20_3 s20_8))))
def s20_10 : SCode := (.reg [(sb 4 false)])
def e20 := And.intro s20_0.eq_1 <| And.intro s20_1.eq_1 <| And.intro s20_2.eq_1 <| And.intro s20_3.eq_1 <| And.intro s20_4.eq_1 <| And.intro s20_5.eq_1 <| And.intro s20_6.eq_1 <| And.intro s20_7.eq_1 <| And.intro s20_8.eq_1 <| And.intro s20_9.eq_1 <| s20_10.eq_1
def s25_0 : SCode := (.reg [(.mk (some 2) (.box 23 (t 0)) none), (sn 4)])
def s25_1 : SCode := (.reg [(ld 5 23 2), (mv 6 1), (c2 7 42 5 6 23 28), (.mk (some 8) (.makeFunc (.func 43) #[] #[(t 2)]) none), (c2 9 41 7 8 28 88), (c1 10 40 9 63), (sv 4 10)])
def s25 : SCode := (.seq s25_0 (.seq s25_1 (.ret)))
theorem h25 : FnS Try.prog 25 ⟨[2], []⟩ 11 [(.tmp 4)] s25 := by refine .mk' Try.func25 ?_ ?_ ?_ ?_ ?_ ?_ <;> kernel_rfl
def s26_0 : SCode := (.reg [(.mk (some 3) (.box 27 (t 1)) none), (sn 4), (sb 5 false)])
def s26_1 : SCode := (.drw [((mv 9 0), 0), ((.mk (some 10) (.nilCheck (t 9)) none), 0), ((fa 11 57 10 0), 0), ((ld 12 55 11), 0), ((ld 13 27 3), 0), ((.mk (some 14) (.lookup 55 (t 12) (t 13) true) none), 0), ((mv 8 14), 0), ((ex 15 8 0), 0), ((ex 16 8 1), 0), ((sv 6 15), 0), ((sv 7 16), 0)])
def s26_2 : SCode := (.reg [(mv 17 6), (c1 18 44 17 28), (mv 19 7), (sv 4 18), (sv 5 19)])
def s26 : SCode := (.seq s26_0 (.seq s26_1 (.seq s26_2 (.ret))))
def e26 := And.intro s26_0.eq_1 <| And.intro s26_1.eq_1 <| s26_2.eq_1
theorem h26 : FnS Try.prog 26 ⟨[3], [(1, [(0, 0), (1, 0), (2, 0), (3, 0), (4, 0), (5, 0), (6, 0), (7, 0), (8, 0), (9, 0), (10, 0)])]⟩ 20 [(.tmp 4), (.tmp 5)] s26 := by refine .mk' Try.func26 ?_ ?_ ?_ ?_ ?_ ?_ <;> kernel_rfl
def s28_0 : SCode := (.reg [(.mk (some 3) (.box 61 (t 1)) none), (.mk (some 4) (.assign (.const (.map none))) none), (.mk (some 5) (.assign (.const (.nilIface))) none)])
def s28_1 : SCode := (.reg [(ld 11 61 3), (c1 12 45 11 61), (sv 6 12)])
def s28_2 : SCode := (.reg [(mv 13 6), (.mk (some 14) (.binOp (.neq) 34 (t 13) (.const (.nilIface)) 34) none)])
def s28_3 : SCode := (.reg [(mv 15 6), (.mk (some 4) (.assign (.const (.map none))) none), (sv 5 15)])
def s28_4 : SCode := (.cond (t 14) (.seq s28_3 (.ret)) (.skip))
def s28_5 : SCode := (.reg [(mv 17 0), (fa 18 61 3 0), (ld 19 29 18), (c2 20 46 17 19 23 29), (mv 16 20), (ex 21 16 0), (ex 22 16 1), (sv 7 21), (sv 8 22)])
def s28_6 : SCode := (.reg [(mv 23 8), (.mk (some 24) (.binOp (.neq) 34 (t 23) (.const (.nilIface)) 34) none)])
def s28_7 : SCode := (.reg [(mv 25 8), (.mk (some 4) (.assign (.const (.map none))) none), (sv 5 25)])
def s28_8 : SCode := (.cond (t 24) (.seq s28_7 (.ret)) (.skip))
def s28_9 : SCode := (.reg [(mv 26 7), (ld 27 61 3), (c2 28 47 26 27 55 61), (sv 9 28)])
def s28_10 : SCode := (.reg [(mv 29 9), (.mk (some 30) (.binOp (.neq) 34 (t 29) (.const (.nilIface)) 34) none)])
def s28_11 : SCode := (.reg [(mv 31 9), (.mk (some 4) (.assign (.const (.map none))) none), (sv 5 31)])
def s28_12 : SCode := (.cond (t 30) (.seq s28_11 (.ret)) (.skip))
def s28_13 : SCode := (.reg [(mv 32 0), (mv 33 7), (fa 34 61 3 0), (ld 35 29 34), (.mk (some 36) (.call (.mk (.value (.func 48)) #[(t 32), (t 33), (t 35)] #[23, 55, 29])) none), (sv 10 36)])
def s28_14 : SCode := (.reg [(mv 37 10), (.mk (some 38) (.binOp (.neq) 34 (t 37) (.const (.nilIface)) 34) none)])
def s28_15 : SCode := (.reg [(mv 39 10), (.mk (some 4) (.assign (.const (.map none))) none), (sv 5 39)])
def s28_16 : SCode := (.cond (t 38) (.seq s28_15 (.ret)) (.skip))
def s28_17 : SCode := (.reg [(mv 40 7), (ln 41 40 55), (bc 42 .gtr 3 41 1000 3)])
def s28_18 : SCode := (.reg [(.mk (some 43) (.makeInterface 76 (.const (.int (.i64) 13))) none), (.mk (some 4) (.assign (.const (.map none))) none), (sv 5 43)])
def s28_19 : SCode := (.cond (t 42) (.seq s28_18 (.ret)) (.skip))
def s28_20 : SCode := (.reg [(mv 44 7), (sv 4 44), (.mk (some 5) (.assign (.const (.nilIface))) none)])
def s28_21 : SCode := (.seq (.seq s28_17 s28_19) (.seq s28_20 (.ret)))
def s28_22 : SCode := (.seq (.seq s28_13 (.seq s28_14 s28_16)) s28_21)
def s28_23 : SCode := (.seq (.seq s28_9 (.seq s28_10 s28_12)) s28_22)
def s28_24 : SCode := (.seq s28_5 (.seq (.seq s28_6 s28_8) s28_23))
def s28_25 : SCode := (.seq (.seq s28_1 (.seq s28_2 s28_4)) s28_24)
def s28 : SCode := (.seq s28_0 s28_25)
def e28 := And.intro s28_0.eq_1 <| And.intro s28_1.eq_1 <| And.intro s28_2.eq_1 <| And.intro s28_3.eq_1 <| And.intro s28_4.eq_1 <| And.intro s28_5.eq_1 <| And.intro s28_6.eq_1 <| And.intro s28_7.eq_1 <| And.intro s28_8.eq_1 <| And.intro s28_9.eq_1 <| And.intro s28_10.eq_1 <| And.intro s28_11.eq_1 <| And.intro s28_12.eq_1 <| And.intro s28_13.eq_1 <| And.intro s28_14.eq_1 <| And.intro s28_15.eq_1 <| And.intro s28_16.eq_1 <| And.intro s28_17.eq_1 <| And.intro s28_18.eq_1 <| And.intro s28_19.eq_1 <| And.intro s28_20.eq_1 <| And.intro s28_21.eq_1 <| And.intro s28_22.eq_1 <| And.intro s28_23.eq_1 <| And.intro s28_24.eq_1 <| s28_25.eq_1
theorem h28 : FnS Try.prog 28 ⟨[3], []⟩ 45 [(.tmp 4), (.tmp 5)] s28 := by refine .mk' Try.func28 ?_ ?_ ?_ ?_ ?_ ?_ <;> kernel_rfl
def s29_0 : SCode := (.reg [(.mk (some 3) (.box 27 (t 1)) none)])
def s29_1 : SCode := (.drw [((mv 7 0), 0), ((.mk (some 8) (.nilCheck (t 7)) none), 0), ((fa 9 66 8 0), 0), ((ld 10 23 9), 0), ((ld 11 27 3), 0), ((c2 12 26 10 11 23 27), 1), ((mv 6 12), 0), ((ex 13 6 0), 0), ((ex 14 6 1), 0), ((sv 4 13), 0), ((sv 5 14), 0)])
def s29_2 : SCode := (.drw [((mv 15 5), 0), ((nt 16 15), 0), ((mv 17 16), 0), ((mg 18 0 17 false), 0), ((.mk (some 19) (.nilCheck (t 18)) (some (17, false))), 0), ((.mk (some 20) (.fieldAddr 66 (t 19) 2) (some (17, false))), 0), ((.mk (some 21) (.load 63 (t 20)) (some (17, false))), 0), ((.mk (some 22) (.load 27 (t 3)) (some (17, false))), 0), ((.mk (some 23) (.lookup 63 (t 21) (t 22) false) (some (17, false))), 0), ((.mk (some 24) (.pick (t 17) (.const (.bool true)) (t 23)) none), 0), ((mv 25 24), 0), ((mg 26 0 25 false), 0), ((.mk (some 27) (.nilCheck (t 26)) (some (25, false))), 0), ((.mk (some 28) (.fieldAddr 66 (t 27) 1) (some (25, false))), 0), ((.mk (some 29) (.load 39 (t 28)) (some (25, false))), 0), ((.mk (some 30) (.binOp (.neq) 39 (t 29) (.const (.nilFunc)) 39) (some (25, false))), 0), ((mg 31 30 25 false), 0), ((mg 32 0 31 true), 0), ((.mk (some 33) (.nilCheck (t 32)) (some (31, true))), 0), ((.mk (some 34) (.fieldAddr 66 (t 33) 1) (some (31, true))), 0), ((.mk (some 35) (.load 39 (t 34)) (some (31, true))), 0), ((.mk (some 36) (.load 27 (t 3)) (some (31, true))), 0), ((.mk (some 37) (.call (.mk (.value (t 35)) #[(t 36)] #[27])) (some (31, true))), 1), ((.mk (some 38) (.pick (t 31) (t 37) (.const (.bool false))) (some (25, false))), 0), ((.mk (some 39) (.pick (t 25) (.const (.bool true)) (t 38)) none), 0)])
def s29_3 : SCode := (.seq s29_2 (.cond (t 39) (.ret) (.skip)))
def s29_4 : SCode := (.drw [((mv 40 0), 0), ((.mk (some 41) (.nilCheck (t 40)) none), 0), ((fa 42 66 41 2), 0), ((ld 43 63 42), 0), ((ld 44 27 3), 0), ((.mk none (.mapUpdate 63 (t 43) (t 44) (.const (.bool true))) none), 1)])
def s29_5 : SCode := (.drw [((mv 45 0), 0), ((mv 46 0), 0), ((.mk (some 47) (.nilCheck (t 46)) none), 0), ((fa 48 66 47 3), 0), ((ld 49 64 48), 0), ((ld 50 27 3), 0), ((mv 51 4), 0), ((.mk (some 52) (.build 94 #[(0, (t 50)), (1, (t 51))]) none), 0), ((b1 53 64 52), 0), ((ap 54 49 53 64), 1), ((.mk (some 55) (.nilCheck (t 45)) none), 0), ((fa 56 66 55 3), 0), ((st 64 56 54), 1)])
def s29_6 : SCode := (.seq s29_1 (.seq s29_3 (.seq s29_4 s29_5)))
def s29 : SCode := (.seq s29_0 s29_6)
def e29 := And.intro s29_0.eq_1 <| And.intro s29_1.eq_1 <| And.intro s29_2.eq_1 <| And.intro s29_3.eq_1 <| And.intro s29_4.eq_1 <| And.intro s29_5.eq_1 <| s29_6.eq_1
theorem h29 : FnS Try.prog 29 ⟨[3], [(1, [(0, 0), (1, 0), (2, 0), (3, 0), (4, 0), (5, 1), (6, 0), (7, 0), (8, 0), (9, 0), (10, 0)]), (2, [(0, 0), (1, 0), (2, 0), (3, 0), (4, 0), (5, 0), (6, 0), (7, 0), (8, 0), (9, 0), (10, 0), (11, 0), (12, 0), (13, 0), (14, 0), (15, 0), (16, 0), (17, 0), (18, 0), (19, 0), (20, 0), (21, 0), (22, 1), (23, 0), (24, 0)]), (3, [(0, 0), (1, 0), (2, 0), (3, 0), (4, 0), (5, 1)]), (4, [(0, 0), (1, 0), (2, 0), (3, 0), (4, 0), (5, 0), (6, 0), (7, 0), (8, 0), (9, 1), (10, 0), (11, 0), (12, 1)])]⟩ 57 [] s29 := by refine .mk' Try.func29 ?_ ?_ ?_ ?_ ?_ ?_ <;> kernel_rfl
def s30_0 : SCode := (.drw [((mv 4 0), 0), ((.mk (some 5) (.nilCheck (t 4)) none), 0), ((fa 6 66 5 3), 0), ((ld 7 64 6), 0), ((mv 8 0), 0), ((.mk (some 9) (.nilCheck (t 8)) none), 0), ((fa 10 66 9 3), 0), ((ld 11 64 10), 0), ((ln 12 11 64), 0), ((bc 13 .sub 3 12 1 3), 0), ((ia 14 64 7 13), 0), ((sv 2 14), 0)])
def s30_1 : SCode := (.reg [(mv 15 2), (.mk (some 16) (.nilCheck (t 15)) none), (fa 17 94 16 1), (ld 18 28 17), (ln 19 18 28), (bc 20 .gtr 3 19 0 3)])
def s30_2 : SCode := (.reg [(mv 21 2), (.mk (some 22) (.nilCheck (t 21)) none), (fa 23 94 22 1), (ld 24 28 23), (.mk (some 25) (.indexAddr 28 (t 24) (.const (.int (.i64) 0))) none), (ld 26 27 25), (.mk (some 3) (.alloc 27) none), (st 27 3 26)])
def s30_3 : SCode := (.reg [(mv 27 2), (mv 28 2), (.mk (some 29) (.nilCheck (t 28)) none), (fa 30 94 29 1), (ld 31 28 30), (.mk (some 32) (.slice 28 (t 31) (some (.const (.int (.i64) 1))) none none) none), (.mk (some 33) (.nilCheck (t 27)) none), (fa 34 94 33 1), (st 28 34 32)])
def s30_4 : SCode := (.reg [(mv 35 0), (ld 36 27 3), (c2 37 29 35 36 62 27)])
def s30_5 : SCode := (.seq s30_2 (.seq s30_3 (.seq s30_4 (.ret))))
def s30_6 : SCode := (.seq s30_1 (.cond (t 20) s30_5 (.skip)))
def s30_7 : SCode := (.drw [((mv 38 0), 0), ((mv 39 0), 0), ((.mk (some 40) (.nilCheck (t 39)) none), 0), ((fa 41 66 40 4), 0), ((ld 42 28 41), 0), ((mv 43 2), 0), ((.mk (some 44) (.nilCheck (t 43)) none), 0), ((fa 45 94 44 0), 0), ((ld 46 27 45), 0), ((b1 47 28 46), 0), ((ap 48 42 47 28), 1), ((.mk (some 49) (.nilCheck (t 38)) none), 0), ((fa 50 66 49 4), 0), ((st 28 50 48), 1)])
def s30_8 : SCode := (.drw [((mv 51 0), 0), ((mv 52 0), 0), ((.mk (some 53) (.nilCheck (t 52)) none), 0), ((fa 54 66 53 3), 0), ((ld 55 64 54), 0), ((mv 56 0), 0), ((.mk (some 57) (.nilCheck (t 56)) none), 0), ((fa 58 66 57 3), 0), ((ld 59 64 58), 0), ((ln 60 59 64), 0), ((bc 61 .sub 3 60 1 3), 0), ((.mk (some 62) (.slice 64 (t 55) none (some (t 61)) none) none), 0), ((.mk (some 63) (.nilCheck (t 51)) none), 0), ((fa 64 66 63 3), 0), ((st 64 64 62), 1)])
def s30 : SCode := (.seq s30_0 (.seq s30_6 (.seq s30_7 s30_8)))
def e30 := And.intro s30_0.eq_1 <| And.intro s30_1.eq_1 <| And.intro s30_2.eq_1 <| And.intro s30_3.eq_1 <| And.intro s30_4.eq_1 <| And.intro s30_5.eq_1 <| And.intro s30_6.eq_1 <| And.intro s30_7.eq_1 <| s30_8.eq_1
theorem h30 : FnS Try.prog 30 ⟨[], [(0, [(0, 0), (1, 0), (2, 0), (3, 0), (4, 0), (5, 0), (6, 0), (7, 0), (8, 0), (9, 0), (10, 0), (11, 0)]), (5, [(0, 0), (1, 0), (2, 0), (3, 0), (4, 0), (5, 0), (6, 0), (7, 0), (8, 0), (9, 0), (10, 1), (11, 0), (12, 0), (13, 1)]), (6, [(0, 0), (1, 0), (2, 0), (3, 0), (4, 0), (5, 0), (6, 0), (7, 0), (8, 0), (9, 0), (10, 0), (11, 0), (12, 0), (13, 0), (14, 1)])]⟩ 65 [] s30 := by refine .mk' Try.func30 ?_ ?_ ?_ ?_ ?_ ?_ <;> kernel_rfl
def s31_0 : SCode := (.reg [(.mk (some 3) (.box 27 (t 1)) none), (sb 4 false)])
def s31_1 : SCode := (.drw [((mv 8 0), 0), ((.mk (some 9) (.nilCheck (t 8)) none), 0), ((fa 10 57 9 0), 0), ((ld 11 55 10), 0), ((ld 12 27 3), 0), ((.mk (some 13) (.lookup 55 (t 11) (t 12) true) none), 0), ((mv 7 13), 0), ((ex 14 7 0), 0), ((ex 15 7 1), 0), ((sv 5 14), 0), ((sv 6 15), 0)])
def s31_2 : SCode := (.reg [(mv 16 6), (sv 4 16)])
def s31 : SCode := (.seq s31_0 (.seq s31_1 (.seq s31_2 (.ret))))
def e31 := And.intro s31_0.eq_1 <| And.intro s31_1.eq_1 <| s31_2.eq_1
theorem h31 : FnS Try.prog 31 ⟨[3], [(1, [(0, 0), (1, 0), (2, 0), (3, 0), (4, 0), (5, 0), (6, 0), (7, 0), (8, 0), (9, 0), (10, 0)])]⟩ 17 [(.tmp 4)] s31 := by refine .mk' Try.func31 ?_ ?_ ?_ ?_ ?_ ?_ <;> kernel_rfl
def s32_0 : SCode := (.reg [(.mk (some 1) (.box 75 (t 0)) none), (.mk (some 2) (.alloc 61) none)])
def s32_1 : SCode := (.reg [(fa 19 75 1 2), (ld 20 3 19), (.mk (some 21) (.call (.mk (.value (.func 8)) #[(t 20), (.const (.int (.i64) 2))] #[3, 3])) none), (.mk (some 22) (.binOp (.add) 3 (.const (.int (.i64) 1)) (t 21) 3) none), (.mk (some 23) (.build 61 #[(2, (t 22))]) none), (.mk (some 3) (.alloc 61) none), (st 61 3 23)])
def s32_2 : SCode := (.reg [(sc 4 0)])
def s32_3 : SCode := (.reg [(mv 24 4), (fa 25 75 1 0), (ld 26 73 25), (ln 27 26 73), (bi 28 .lss 3 24 27 3), (mv 29 28), (mg 30 4 29 true), (.mk (some 31) (.binOp (.lss) 3 (t 30) (.const (.int (.i64) 12)) 3) (some (29, true))), (pk 32 29 31 false)])
def s32_4 : SCode := (.seq s32_3 (.cond (t 32) (.skip) (.exit 0)))
def s32_5 : SCode := (.reg [(fa 35 75 1 0), (ld 36 73 35), (mv 37 4), (ia 38 73 36 37), (ld 39 97 38), (.mk (some 5) (.alloc 97) none), (st 97 5 39)])
def s32_6 : SCode := (.reg [(fa 40 97 5 0), (ld 41 3 40), (.mk (some 42) (.call (.mk (.value (.func 8)) #[(t 41), (.const (.int (.i64) 60))] #[3, 3])) none), (sv 6 42)])
def s32_7 : SCode := (.reg [(mv 43 6), (c1 44 35 43 3), (.mk (some 45) (.build 32 #[(0, (t 44))]) none), (.mk (some 7) (.alloc 32) none), (st 32 7 45)])
def s32_8 : SCode := (.reg [(mv 46 6), (c1 47 49 46 3), (sv 8 47)])
def s32_9 : SCode := (.reg [(sc 9 0)])
def s32_10 : SCode := (.reg [(mv 48 9), (mv 49 8), (ln 50 49 42), (bi 51 .lss 3 48 50 3)])
def s32_11 : SCode := (.seq s32_10 (.cond (t 51) (.skip) (.exit 2)))
def s32_12 : SCode := (.drw [((fa 54 32 7 1), 0), ((ld 55 28 54), 0), ((mv 56 8), 0), ((mv 57 9), 0), ((ia 58 42 56 57), 0), ((ld 59 3 58), 0), ((c1 60 35 59 3), 2), ((b1 61 28 60), 0), ((ap 62 55 61 28), 1), ((fa 63 32 7 1), 0), ((st 28 63 62), 1)])
def s32_13 : SCode := (.reg [(mv 52 9), (bc 53 .add 3 52 1 3), (sv 9 53)])
def s32_14 : SCode := (.seq s32_11 (.seq (.block 3 s32_12) s32_13))
def s32_15 : SCode := (.reg [(fa 64 97 5 1), (ld 65 3 64), (.mk (some 66) (.call (.mk (.value (.func 8)) #[(t 65), (.const (.int (.i64) 60))] #[3, 3])) none)])
def s32_16 : SCode := (.reg [(bc 68 .eql 3 66 0 3), (sv 67 68)])
def s32_17 : SCode := (.reg [(sc 10 0)])
def s32_18 : SCode := (.reg [(mv 69 10), (fa 70 97 5 2), (ld 71 42 70), (ln 72 71 42), (bi 73 .lss 3 69 72 3), (mv 74 73), (mg 75 10 74 true), (.mk (some 76) (.binOp (.lss) 3 (t 75) (.const (.int (.i64) 6)) 3) (some (74, true))), (pk 77 74 76 false)])
def s32_19 : SCode := (.seq s32_18 (.cond (t 77) (.skip) (.exit 5)))
def s32_20 : SCode := (.drw [((fa 80 32 7 1), 0), ((ld 81 28 80), 0), ((fa 82 97 5 2), 0), ((ld 83 42 82), 0), ((mv 84 10), 0), ((ia 85 42 83 84), 0), ((ld 86 3 85), 0), ((c1 87 35 86 3), 2), ((b1 88 28 87), 0), ((ap 89 81 88 28), 1), ((fa 90 32 7 1), 0), ((st 28 90 89), 1)])
def s32_21 : SCode := (.reg [(mv 78 10), (bc 79 .add 3 78 1 3), (sv 10 79)])
def s32_22 : SCode := (.seq s32_19 (.seq (.block 6 s32_20) s32_21))
def s32_23 : SCode := (.reg [(bc 92 .eql 3 66 1 3), (sv 91 92)])
def s32_24 : SCode := (.reg [(fa 93 32 7 1), (ld 94 28 93), (ln 95 94 28), (bc 96 .gtr 3 95 0 3)])
def s32_25 : SCode := (.drw [((fa 97 32 7 1), 0), ((ld 98 28 97), 0), ((fa 99 32 7 1), 0), ((ld 100 28 99), 0), ((.mk (some 101) (.indexAddr 28 (t 100) (.const (.int (.i64) 0))) none), 0), ((ld 102 27 101), 0), ((b1 103 28 102), 0), ((ap 104 98 103 28), 1), ((fa 105 32 7 1), 0), ((st 28 105 104), 1)])
def s32_26 : SCode := (.seq s32_24 (.cond (t 96) s32_25 (.skip)))
def s32_27 : SCode := (.reg [(bc 107 .eql 3 66 2 3), (sv 106 107)])
def s32_28 : SCode := (.reg [(mv 108 6), (bc 109 .add 3 108 1 3), (c1 110 35 109 3), (b1 111 28 110), (fa 112 32 7 1), (st 28 112 111)])
def s32_29 : SCode := (.seq s32_27 (.cond (t 106) s32_28 (.skip)))
def s32_30 : SCode := (.seq s32_23 (.cond (t 91) s32_26 s32_29))
def s32_31 : SCode := (.cond (t 67) (.seq s32_17 (.block 5 (.loop s32_22))) s32_30)
def s32_32 : SCode := (.seq s32_15 (.block 4 (.seq s32_16 s32_31)))
def s32_33 : SCode := (.reg [(fa 113 61 3 0), (ld 114 29 113), (ld 115 32 7), (b1 116 29 115), (ap 117 114 116 29), (fa 118 61 3 0), (st 29 118 117)])
def s32_34 : SCode := (.seq (.seq s32_9 (.block 2 (.loop s32_14))) (.seq s32_32 s32_33))
def s32_35 : SCode := (.seq s32_6 (.seq s32_7 (.seq s32_8 s32_34)))
def s32_36 : SCode := (.reg [(mv 33 4), (bc 34 .add 3 33 1 3), (sv 4 34)])
def s32_37 : SCode := (.seq (.block 1 (.seq s32_5 s32_35)) s32_36)
def s32_38 : SCode := (.seq s32_2 (.block 0 (.loop (.seq s32_4 s32_37))))
def s32_39 : SCode := (.reg [(sc 11 0)])
def s32_40 : SCode := (.reg [(mv 119 11), (fa 120 75 1 1), (ld 121 42 120), (ln 122 121 42), (bi 123 .lss 3 119 122 3), (mv 124 123), (mg 125 11 124 true), (.mk (some 126) (.binOp (.lss) 3 (t 125) (.const (.int (.i64) 4)) 3) (some (124, true))), (pk 127 124 126 false)])
def s32_41 : SCode := (.seq s32_40 (.cond (t 127) (.skip) (.exit 7)))
def s32_42 : SCode := (.drw [((fa 130 61 3 1), 0), ((ld 131 28 130), 0), ((fa 132 75 1 1), 0), ((ld 133 42 132), 0), ((mv 134 11), 0), ((ia 135 42 133 134), 0), ((ld 136 3 135), 0), ((c1 137 35 136 3), 2), ((b1 138 28 137), 0), ((ap 139 131 138 28), 1), ((fa 140 61 3 1), 0), ((st 28 140 139), 1)])
def s32_43 : SCode := (.reg [(mv 128 11), (bc 129 .add 3 128 1 3), (sv 11 129)])
def s32_44 : SCode := (.seq s32_41 (.seq (.block 8 s32_42) s32_43))
def s32_45 : SCode := (.reg [(fa 141 75 1 3), (ld 142 3 141), (bc 143 .quo 3 142 50 3), (.mk (some 144) (.call (.mk (.value (.func 8)) #[(t 143), (.const (.int (.i64) 4))] #[3, 3])) none), (bc 145 .gtr 3 144 0 3)])
def s32_46 : SCode := (.reg [(.mk (some 12) (.alloc 99) none)])
def s32_47 : SCode := (.reg [(fa 146 75 1 1), (ld 147 42 146), (fa 148 75 1 1), (ld 149 42 148), (ln 150 149 42), (.mk (some 151) (.call (.mk (.builtin (.min)) #[(t 150), (.const (.int (.i64) 4))] #[3, 3])) none), (.mk (some 152) (.slice 42 (t 147) none (some (t 151)) none) none), (sv 13 152)])
def s32_48 : SCode := (.reg [(sc 14 0)])
def s32_49 : SCode := (.reg [(mv 153 14), (fa 154 75 1 0), (ld 155 73 154), (ln 156 155 73), (bi 157 .lss 3 153 156 3), (mv 158 157), (mg 159 14 158 true), (.mk (some 160) (.binOp (.lss) 3 (t 159) (.const (.int (.i64) 12)) 3) (some (158, true))), (pk 161 158 160 false)])
def s32_50 : SCode := (.seq s32_49 (.cond (t 161) (.skip) (.exit 9)))
def s32_51 : SCode := (.reg [(fa 164 75 1 0), (ld 165 73 164), (mv 166 14), (ia 167 73 165 166), (fa 168 97 167 0), (ld 169 3 168), (.mk (some 170) (.call (.mk (.value (.func 8)) #[(t 169), (.const (.int (.i64) 60))] #[3, 3])) none), (ia 171 99 12 170), (.mk none (.store 4 (t 171) (.const (.bool true))) none)])
def s32_52 : SCode := (.drw [((.mk (some 172) (.buildSlice 42 0 #[]) none), 0), ((mv 173 13), 0), ((fa 175 75 1 0), 0), ((ld 176 73 175), 0), ((mv 177 14), 0), ((ia 178 73 176 177), 0), ((fa 179 97 178 0), 0), ((ld 180 3 179), 0), ((ap 174 172 173 42), 2), ((.mk (some 181) (.call (.mk (.value (.func 8)) #[(t 180), (.const (.int (.i64) 60))] #[3, 3])) none), 1), ((c1 182 49 181 3), 1), ((ap 183 174 182 42), 1), ((sv 13 183), 0)])
def s32_53 : SCode := (.reg [(mv 162 14), (bc 163 .add 3 162 1 3), (sv 14 163)])
def s32_54 : SCode := (.seq (.block 10 (.seq s32_51 s32_52)) s32_53)
def s32_55 : SCode := (.seq s32_48 (.block 9 (.loop (.seq s32_50 s32_54))))
def s32_56 : SCode := (.reg [(mv 184 13), (ln 185 184 42), (bc 186 .gtr 3 185 0 3)])
def s32_57 : SCode := (.seq s32_56 (.cond (t 186) (.skip) (.exit 11)))
def s32_58 : SCode := (.reg [(mv 187 13), (.mk (some 188) (.indexAddr 42 (t 187) (.const (.int (.i64) 0))) none), (ld 189 3 188), (.mk (some 190) (.call (.mk (.value (.func 8)) #[(t 189), (.const (.int (.i64) 60))] #[3, 3])) none), (sv 15 190)])
def s32_59 : SCode := (.reg [(mv 191 13), (.mk (some 192) (.slice 42 (t 191) (some (.const (.int (.i64) 1))) none none) none), (sv 13 192)])
def s32_60 : SCode := (.reg [(mv 193 15), (ia 194 99 12 193), (ld 195 4 194)])
def s32_61 : SCode := (.seq s32_60 (.cond (t 195) (.exit 12) (.skip)))
def s32_62 : SCode := (.reg [(mv 196 15), (ia 197 99 12 196), (.mk none (.store 4 (t 197) (.const (.bool true))) none)])
def s32_63 : SCode := (.reg [(mv 198 15), (c1 199 35 198 3), (.mk (some 200) (.build 32 #[(0, (t 199))]) none), (.mk (some 16) (.alloc 32) none), (st 32 16 200)])
def s32_64 : SCode := (.reg [(mv 201 15), (c1 202 49 201 3), (sv 17 202)])
def s32_65 : SCode := (.reg [(sc 18 0)])
def s32_66 : SCode := (.reg [(mv 203 18), (mv 204 17), (ln 205 204 42), (bi 206 .lss 3 203 205 3)])
def s32_67 : SCode := (.seq s32_66 (.cond (t 206) (.skip) (.exit 13)))
def s32_68 : SCode := (.drw [((fa 209 32 16 1), 0), ((ld 210 28 209), 0), ((mv 211 17), 0), ((mv 212 18), 0), ((ia 213 42 211 212), 0), ((ld 214 3 213), 0), ((c1 215 35 214 3), 2), ((b1 216 28 215), 0), ((ap 217 210 216 28), 1), ((fa 218 32 16 1), 0), ((st 28 218 217), 1)])
def s32_69 : SCode := (.reg [(mv 207 18), (bc 208 .add 3 207 1 3), (sv 18 208)])
def s32_70 : SCode := (.seq s32_67 (.seq (.block 14 s32_68) s32_69))
def s32_71 : SCode := (.seq s32_65 (.block 13 (.loop s32_70)))
def s32_72 : SCode := (.reg [(fa 219 61 3 0), (ld 220 29 219), (ld 221 32 16), (b1 222 29 221), (ap 223 220 222 29), (fa 224 61 3 0), (st 29 224 223)])
def s32_73 : SCode := (.reg [(.mk (some 225) (.buildSlice 42 0 #[]) none), (mv 226 13), (ap 227 225 226 42), (mv 228 17), (ap 229 227 228 42), (sv 13 229)])
def s32_74 : SCode := (.seq s32_64 (.seq s32_71 (.seq s32_72 s32_73)))
def s32_75 : SCode := (.seq s32_61 (.seq s32_62 (.seq s32_63 s32_74)))
def s32_76 : SCode := (.block 12 (.seq s32_58 (.seq s32_59 s32_75)))
def s32_77 : SCode := (.block 11 (.loop (.seq s32_57 s32_76)))
def s32_78 : SCode := (.seq s32_46 (.seq s32_47 (.seq s32_55 s32_77)))
def s32_79 : SCode := (.seq s32_45 (.cond (t 145) s32_78 (.skip)))
def s32_80 : SCode := (.reg [(fa 230 75 1 3), (ld 231 3 230), (.mk (some 232) (.call (.mk (.value (.func 8)) #[(t 231), (.const (.int (.i64) 50))] #[3, 3])) none)])
def s32_81 : SCode := (.reg [(bc 234 .eql 3 232 0 3), (sv 233 234)])
def s32_82 : SCode := (.reg [(fa 235 75 1 2), (ld 236 3 235), (fa 237 61 3 2), (st 3 237 236)])
def s32_83 : SCode := (.reg [(bc 239 .eql 3 232 1 3), (sv 238 239)])
def s32_84 : SCode := (.reg [(fa 240 61 3 1), (ld 241 28 240), (.mk (some 242) (.build 27 #[(0, (.const (.int (.u8) 9)))]) none), (b1 243 28 242), (ap 244 241 243 28), (fa 245 61 3 1), (st 28 245 244)])
def s32_85 : SCode := (.seq s32_83 (.cond (t 238) s32_84 (.skip)))
def s32_86 : SCode := (.seq s32_81 (.cond (t 233) s32_82 s32_85))
def s32_87 : SCode := (.reg [(ld 246 61 3), (st 61 2 246)])
def s32_88 : SCode := (.seq (.seq s32_80 (.block 15 s32_86)) (.seq s32_87 (.ret)))
def s32_89 : SCode := (.seq (.seq s32_39 (.block 7 (.loop s32_44))) (.seq s32_79 s32_88))
def s32 : SCode := (.seq s32_0 (.seq s32_1 (.seq s32_38 s32_89)))
theorem h32 : FnS Try.prog 32 ⟨[1], [(12, [(0, 0), (1, 0), (2, 0), (3, 0), (4, 0), (5, 0), (6, 2), (7, 0), (8, 1), (9, 0), (10, 1)]), (18, [(0, 0), (1, 0), (2, 0), (3, 0), (4, 0), (5, 0), (6, 0), (7, 2), (8, 0), (9, 1), (10, 0), (11, 1)]), (21, [(0, 0), (1, 0), (2, 0), (3, 0), (4, 0), (5, 0), (6, 0), (7, 1), (8, 0), (9, 1)]), (28, [(0, 0), (1, 0), (2, 0), (3, 0), (4, 0), (5, 0), (6, 0), (7, 2), (8, 0), (9, 1), (10, 0), (11, 1)]), (36, [(0, 0), (1, 0), (3, 0), (4, 0), (5, 0), (6, 0), (7, 0), (8, 0), (2, 2), (9, 1), (10, 1), (11, 1), (12, 0)]), (47, [(0, 0), (1, 0), (2, 0), (3, 0), (4, 0), (5, 0), (6, 2), (7, 0), (8, 1), (9, 0), (10, 1)])]⟩ 247 [(.cell 2 61)] s32 := by refine .mk' Try.func32 ?_ ?_ ?_ ?_ ?_ ?_ <;> kernel_rfl
def s40_0 : SCode := (.reg [(sn 2)])
def s40_1 : SCode := (.reg [(mv 3 0), (c1 4 56 3 63), (c1 5 55 4 105), (c1 6 54 5 28), (sv 2 6)])
def s40 : SCode := (.seq s40_0 (.seq s40_1 (.ret)))
def e40 := And.intro s40_0.eq_1 <| s40_1.eq_1
theorem h40 : FnS Try.prog 40 ⟨[], []⟩ 7 [(.tmp 2)] s40 := by refine .mk' Try.func40 ?_ ?_ ?_ ?_ ?_ ?_ <;> kernel_rfl
def s41_0 : SCode := (.reg [(.mk (some 4) (.assign (.const (.map none))) none)])
def s41_1 : SCode := (.reg [(.mk (some 8) (.makeMap 63 none) none), (sv 5 8)])
def s41_2 : SCode := (.reg [(mv 9 0), (c1 10 44 9 28), (sv 6 10)])
def s41_3 : SCode := (.reg [(mv 11 6), (ln 12 11 28), (bc 13 .gtr 3 12 0 3)])
def s41_4 : SCode := (.seq s41_3 (.cond (t 13) (.skip) (.exit 0)))
def s41_5 : SCode := (.reg [(mv 14 6), (mv 15 6), (ln 16 15 28), (bc 17 .sub 3 16 1 3), (ia 18 28 14 17), (ld 19 27 18), (.mk (some 7) (.alloc 27) none), (st 27 7 19)])
def s41_6 : SCode := (.reg [(mv 20 6), (mv 21 6), (ln 22 21 28), (bc 23 .sub 3 22 1 3), (.mk (some 24) (.slice 28 (t 20) none (some (t 23)) none) none), (sv 6 24)])
def s41_7 : SCode := (.reg [(mv 25 5), (ld 26 27 7), (.mk (some 27) (.lookup 63 (t 25) (t 26) false) none), (nt 28 27)])
def s41_8 : SCode := (.reg [(mv 29 5), (ld 30 27 7), (.mk none (.mapUpdate 63 (t 29) (t 30) (.const (.bool true))) none)])
def s41_9 : SCode := (.reg [(mv 31 6), (mv 32 1), (ld 33 27 7), (.mk (some 34) (.call (.mk (.value (t 32)) #[(t 33)] #[27])) none), (ap 35 31 34 28), (sv 6 35)])
def s41_10 : SCode := (.cond (t 28) (.seq s41_8 s41_9) (.skip))
def s41_11 : SCode := (.seq s41_5 (.seq s41_6 (.seq s41_7 s41_10)))
def s41_12 : SCode := (.block 0 (.loop (.seq s41_4 (.block 1 s41_11))))
def s41_13 : SCode := (.reg [(mv 36 5), (sv 4 36)])
def s41_14 : SCode := (.seq s41_2 (.seq s41_12 (.seq s41_13 (.ret))))
def s41 : SCode := (.seq s41_0 (.seq s41_1 s41_14))
def e41 := And.intro s41_0.eq_1 <| And.intro s41_1.eq_1 <| And.intro s41_2.eq_1 <| And.intro s41_3.eq_1 <| And.intro s41_4.eq_1 <| And.intro s41_5.eq_1 <| And.intro s41_6.eq_1 <| And.intro s41_7.eq_1 <| And.intro s41_8.eq_1 <| And.intro s41_9.eq_1 <| And.intro s41_10.eq_1 <| And.intro s41_11.eq_1 <| And.intro s41_12.eq_1 <| And.intro s41_13.eq_1 <| s41_14.eq_1
theorem h41 : FnS Try.prog 41 ⟨[], []⟩ 37 [(.tmp 4)] s41 := by refine .mk' Try.func41 ?_ ?_ ?_ ?_ ?_ ?_ <;> kernel_rfl
def s42_0 : SCode := (.reg [(.mk (some 2) (.box 23 (t 0)) none), (sn 4)])
def s42_1 : SCode := (.reg [(mv 5 1), (c1 6 44 5 28), (.mk (some 7) (.makeFunc (.func 58) #[] #[(t 2)]) none), (c2 8 57 6 7 28 39), (sv 4 8)])
def s42 : SCode := (.seq s42_0 (.seq s42_1 (.ret)))
def e42 := And.intro s42_0.eq_1 <| s42_1.eq_1
theorem h42 : FnS Try.prog 42 ⟨[2], []⟩ 9 [(.tmp 4)] s42 := by refine .mk' Try.func42 ?_ ?_ ?_ ?_ ?_ ?_ <;> kernel_rfl
def s43_0 : SCode := (.reg [(.mk (some 2) (.box 27 (t 0)) none), (sn 3)])
def s43_1 : SCode := (.drw [((ld 4 23 1), 0), ((.mk (some 5) (.nilCheck (t 4)) none), 0), ((fa 6 57 5 0), 0), ((ld 7 55 6), 0), ((ld 8 27 2), 0), ((.mk (some 9) (.lookup 55 (t 7) (t 8) false) none), 0), ((sv 3 9), 0)])
def s43 : SCode := (.seq s43_0 (.seq s43_1 (.ret)))
theorem h43 : FnS Try.prog 43 ⟨[2], [(1, [(0, 0), (1, 0), (2, 0), (3, 0), (4, 0), (5, 0), (6, 0)])]⟩ 10 [(.tmp 3)] s43 := by refine .mk' Try.func43 ?_ ?_ ?_ ?_ ?_ ?_ <;> kernel_rfl
def s44_0 : SCode := (.reg [(sn 2)])
def s44_1 : SCode := (.reg [(mv 3 0), (.mk (some 4) (.binOp (.eql) 28 (t 3) (.const (.slice none 0 0)) 28) none)])
def s44_2 : SCode := (.reg [(sn 2)])
def s44_3 : SCode := (.cond (t 4) (.seq s44_2 (.ret)) (.skip))
def s44_4 : SCode := (.reg [(.mk (some 5) (.buildSlice 28 0 #[]) none), (mv 6 0), (ap 7 5 6 28), (sv 2 7)])
def s44_5 : SCode := (.seq (.seq s44_1 s44_3) (.seq s44_4 (.ret)))
def s44 : SCode := (.seq s44_0 s44_5)
def e44 := And.intro s44_0.eq_1 <| And.intro s44_1.eq_1 <| And.intro s44_2.eq_1 <| And.intro s44_3.eq_1 <| And.intro s44_4.eq_1 <| s44_5.eq_1
theorem h44 : FnS Try.prog 44 ⟨[7], []⟩ 8 [(.tmp 2)] s44 := by refine .mk' Try.func44 ?_ ?_ ?_ ?_ ?_ ?_ <;> kernel_rfl
def s45_0 : SCode := (.reg [(.mk (some 1) (.box 61 (t 0)) none), (.mk (some 2) (.assign (.const (.nilIface))) none)])
def s45_1 : SCode := (.reg [(fa 5 61 1 2), (ld 6 3 5), (bc 7 .neq 3 6 1 3), (mv 8 7), (.mk (some 9) (.fieldAddr 61 (t 1) 2) (some (8, true))), (.mk (some 10) (.load 3 (t 9)) (some (8, true))), (.mk (some 11) (.binOp (.neq) 3 (t 10) (.const (.int (.i64) 2)) 3) (some (8, true))), (pk 12 8 11 false), (mv 13 12), (.mk (some 14) (.fieldAddr 61 (t 1) 0) (some (13, false))), (.mk (some 15) (.load 29 (t 14)) (some (13, false))), (.mk (some 16) (.call (.mk (.builtin (.len)) #[(t 15)] #[29])) (some (13, false))), (.mk (some 17) (.binOp (.gtr) 3 (t 16) (.const (.int (.i64) 200)) 3) (some (13, false))), (.mk (some 18) (.pick (t 13) (.const (.bool true)) (t 17)) none), (mv 19 18), (.mk (some 20) (.fieldAddr 61 (t 1) 1) (some (19, false))), (.mk (some 21) (.load 28 (t 20)) (some (19, false))), (.mk (some 22) (.call (.mk (.builtin (.len)) #[(t 21)] #[28])) (some (19, false))), (.mk (some 23) (.binOp (.gtr) 3 (t 22) (.const (.int (.i64) 200)) 3) (some (19, false))), (.mk (some 24) (.pick (t 19) (.const (.bool true)) (t 23)) none)])
def s45_2 : SCode := (.reg [(.mk (some 25) (.makeInterface 76 (.const (.int (.i64) 1))) none), (sv 2 25)])
def s45_3 : SCode := (.cond (t 24) (.seq s45_2 (.ret)) (.skip))
def s45_4 : SCode := (.reg [(fa 26 61 1 0), (ld 27 29 26), (ln 28 27 29), (.mk (some 29) (.move (.const (.int (.i64) 0))) none)])
def s45_5 : SCode := (.reg [(bi 30 .lss 3 29 28 3)])
def s45_6 : SCode := (.reg [(ia 31 29 27 29), (ld 32 32 31), (.mk (some 4) (.alloc 32) none), (st 32 4 32)])
def s45_7 : SCode := (.reg [(fa 34 32 4 1), (ld 35 28 34), (ln 36 35 28), (bc 37 .gtr 3 36 4 3), (sv 33 37)])
def s45_8 : SCode := (.reg [(fa 38 32 4 0), (ld 39 27 38), (.mk (some 40) (.makeInterface 76 (.const (.int (.i64) 8))) none), (c2 41 59 39 40 27 34), (sv 2 41)])
def s45_9 : SCode := (.reg [(fa 43 32 4 1), (ld 44 28 43), (c1 45 60 44 28), (sv 42 45)])
def s45_10 : SCode := (.reg [(fa 46 32 4 0), (ld 47 27 46), (.mk (some 48) (.makeInterface 76 (.const (.int (.i64) 1))) none), (c2 49 59 47 48 27 34), (sv 2 49)])
def s45_11 : SCode := (.cond (t 42) (.seq s45_10 (.ret)) (.skip))
def s45_12 : SCode := (.cond (t 33) (.seq s45_8 (.ret)) (.seq s45_9 s45_11))
def s45_13 : SCode := (.seq s45_6 (.block 2 (.seq s45_7 s45_12)))
def s45_14 : SCode := (.reg [(bc 50 .add 3 29 1 3), (mv 29 50)])
def s45_15 : SCode := (.seq (.cond (t 30) (.skip) (.exit 0)) (.seq (.block 1 s45_13) s45_14))
def s45_16 : SCode := (.seq s45_4 (.block 0 (.loop (.seq s45_5 s45_15))))
def s45_17 : SCode := (.reg [(.mk (some 2) (.assign (.const (.nilIface))) none)])
def s45_18 : SCode := (.seq (.seq s45_1 s45_3) (.seq s45_16 (.seq s45_17 (.ret))))
def s45 : SCode := (.seq s45_0 s45_18)
def e45 := And.intro s45_0.eq_1 <| And.intro s45_1.eq_1 <| And.intro s45_2.eq_1 <| And.intro s45_3.eq_1 <| And.intro s45_4.eq_1 <| And.intro s45_5.eq_1 <| And.intro s45_6.eq_1 <| And.intro s45_7.eq_1 <| And.intro s45_8.eq_1 <| And.intro s45_9.eq_1 <| And.intro s45_10.eq_1 <| And.intro s45_11.eq_1 <| And.intro s45_12.eq_1 <| And.intro s45_13.eq_1 <| And.intro s45_14.eq_1 <| And.intro s45_15.eq_1 <| And.intro s45_16.eq_1 <| And.intro s45_17.eq_1 <| s45_18.eq_1
theorem h45 : FnS Try.prog 45 ⟨[1], []⟩ 51 [(.tmp 2)] s45 := by refine .mk' Try.func45 ?_ ?_ ?_ ?_ ?_ ?_ <;> kernel_rfl
def s46_0 : SCode := (.reg [(.mk (some 4) (.assign (.const (.map none))) none), (.mk (some 5) (.assign (.const (.nilIface))) none)])
def s46_1 : SCode := (.reg [(mv 11 0), (.mk (some 12) (.nilCheck (t 11)) none), (fa 13 57 12 0), (ld 14 55 13), (c1 15 61 14 55), (sv 6 15)])
def s46_2 : SCode := (.reg [(mv 16 1), (ln 17 16 29), (.mk (some 18) (.move (.const (.int (.i64) 0))) none)])
def s46_3 : SCode := (.reg [(bi 19 .lss 3 18 17 3)])
def s46_4 : SCode := (.reg [(ia 20 29 16 18), (ld 21 32 20), (.mk (some 8) (.alloc 32) none), (st 32 8 21)])
def s46_5 : SCode := (.reg [(mv 23 6), (fa 24 32 8 0), (ld 25 27 24), (.mk (some 26) (.lookup 55 (t 23) (t 25) true) none), (mv 22 26), (ex 27 22 0), (ex 28 22 1), (sv 9 27), (sv 10 28)])
def s46_6 : SCode := (.reg [(mv 29 10), (mv 30 29), (mg 31 9 30 true), (.mk (some 32) (.fieldAddr 32 (t 8) 1) (some (30, true))), (.mk (some 33) (.load 28 (t 32)) (some (30, true))), (.mk (some 34) (.call (.mk (.value (.func 62)) #[(t 31), (t 33)] #[28, 28])) (some (30, true))), (.mk (some 35) (.unOp (.not) 4 (t 34)) (some (30, true))), (pk 36 30 35 false)])
def s46_7 : SCode := (.reg [(fa 37 32 8 0), (ld 38 27 37), (.mk (some 39) (.makeInterface 76 (.const (.int (.i64) 9))) none), (c2 40 59 38 39 27 34), (.mk (some 4) (.assign (.const (.map none))) none), (sv 5 40)])
def s46_8 : SCode := (.cond (t 36) (.seq s46_7 (.ret)) (.skip))
def s46_9 : SCode := (.reg [(mv 41 10), (nt 42 41)])
def s46_10 : SCode := (.drw [((mv 43 6), 0), ((fa 44 32 8 0), 0), ((ld 45 27 44), 0), ((fa 46 32 8 1), 0), ((ld 47 28 46), 0), ((c1 48 44 47 28), 2), ((.mk none (.mapUpdate 55 (t 43) (t 45) (t 48)) none), 1)])
def s46_11 : SCode := (.seq s46_9 (.cond (t 42) s46_10 (.skip)))
def s46_12 : SCode := (.seq s46_5 (.seq (.seq s46_6 s46_8) s46_11))
def s46_13 : SCode := (.reg [(bc 49 .add 3 18 1 3), (mv 18 49)])
def s46_14 : SCode := (.seq (.block 1 (.seq s46_4 s46_12)) s46_13)
def s46_15 : SCode := (.seq (.cond (t 19) (.skip) (.exit 0)) s46_14)
def s46_16 : SCode := (.seq s46_2 (.block 0 (.loop (.seq s46_3 s46_15))))
def s46_17 : SCode := (.reg [(mv 50 6), (sv 4 50), (.mk (some 5) (.assign (.const (.nilIface))) none)])
def s46_18 : SCode := (.seq s46_1 (.seq s46_16 (.seq s46_17 (.ret))))
def s46 : SCode := (.seq s46_0 s46_18)
def e46 := And.intro s46_0.eq_1 <| And.intro s46_1.eq_1 <| And.intro s46_2.eq_1 <| And.intro s46_3.eq_1 <| And.intro s46_4.eq_1 <| And.intro s46_5.eq_1 <| And.intro s46_6.eq_1 <| And.intro s46_7.eq_1 <| And.intro s46_8.eq_1 <| And.intro s46_9.eq_1 <| And.intro s46_10.eq_1 <| And.intro s46_11.eq_1 <| And.intro s46_12.eq_1 <| And.intro s46_13.eq_1 <| And.intro s46_14.eq_1 <| And.intro s46_15.eq_1 <| And.intro s46_16.eq_1 <| And.intro s46_17.eq_1 <| s46_18.eq_1
theorem h46 : FnS Try.prog 46 ⟨[], [(9, [(0, 0), (1, 0), (2, 0), (3, 0), (4, 0), (5, 2), (6, 1)])]⟩ 51 [(.tmp 4), (.tmp 5)] s46 := by refine .mk' Try.func46 ?_ ?_ ?_ ?_ ?_ ?_ <;> kernel_rfl
def s47_0 : SCode := (.reg [(.mk (some 3) (.box 61 (t 1)) none), (.mk (some 4) (.assign (.const (.nilIface))) none)])
def s47_1 : SCode := (.reg [(fa 15 61 3 0), (ld 16 29 15), (ln 17 16 29), (.mk (some 18) (.move (.const (.int (.i64) 0))) none)])
def s47_2 : SCode := (.reg [(bi 19 .lss 3 18 17 3)])
def s47_3 : SCode := (.reg [(ia 20 29 16 18), (ld 21 32 20), (.mk (some 6) (.alloc 32) none), (st 32 6 21)])
def s47_4 : SCode := (.reg [(fa 22 32 6 1), (ld 23 28 22), (ln 24 23 28), (.mk (some 25) (.move (.const (.int (.i64) 0))) none)])
def s47_5 : SCode := (.reg [(bi 26 .lss 3 25 24 3)])
def s47_6 : SCode := (.reg [(ia 27 28 23 25), (ld 28 27 27), (.mk (some 8) (.alloc 27) none), (st 27 8 28)])
def s47_7 : SCode := (.reg [(mv 30 0), (ld 31 27 8), (.mk (some 32) (.lookup 55 (t 30) (t 31) true) none), (mv 29 32), (ex 33 29 0), (ex 34 29 1), (sv 9 33), (sv 10 34)])
def s47_8 : SCode := (.reg [(mv 35 10), (nt 36 35)])
def s47_9 : SCode := (.reg [(ld 37 27 8), (.mk (some 38) (.makeInterface 76 (.const (.int (.i64) 10))) none), (c2 39 59 37 38 27 34), (sv 4 39)])
def s47_10 : SCode := (.cond (t 36) (.seq s47_9 (.ret)) (.skip))
def s47_11 : SCode := (.seq s47_6 (.seq s47_7 (.seq s47_8 s47_10)))
def s47_12 : SCode := (.reg [(bc 40 .add 3 25 1 3), (mv 25 40)])
def s47_13 : SCode := (.seq (.cond (t 26) (.skip) (.exit 2)) (.seq (.block 3 s47_11) s47_12))
def s47_14 : SCode := (.seq s47_4 (.block 2 (.loop (.seq s47_5 s47_13))))
def s47_15 : SCode := (.reg [(bc 41 .add 3 18 1 3), (mv 18 41)])
def s47_16 : SCode := (.seq (.block 1 (.seq s47_3 s47_14)) s47_15)
def s47_17 : SCode := (.seq (.cond (t 19) (.skip) (.exit 0)) s47_16)
def s47_18 : SCode := (.seq s47_1 (.block 0 (.loop (.seq s47_2 s47_17))))
def s47_19 : SCode := (.reg [(fa 42 61 3 1), (ld 43 28 42), (ln 44 43 28), (.mk (some 45) (.move (.const (.int (.i64) 0))) none)])
def s47_20 : SCode := (.reg [(bi 46 .lss 3 45 44 3)])
def s47_21 : SCode := (.reg [(ia 47 28 43 45), (ld 48 27 47), (.mk (some 12) (.alloc 27) none), (st 27 12 48)])
def s47_22 : SCode := (.reg [(mv 50 0), (ld 51 27 12), (.mk (some 52) (.lookup 55 (t 50) (t 51) true) none), (mv 49 52), (ex 53 49 0), (ex 54 49 1), (sv 13 53), (sv 14 54)])
def s47_23 : SCode := (.reg [(mv 55 14), (nt 56 55)])
def s47_24 : SCode := (.reg [(ld 57 27 12), (.mk (some 58) (.makeInterface 76 (.const (.int (.i64) 11))) none), (c2 59 59 57 58 27 34), (sv 4 59)])
def s47_25 : SCode := (.cond (t 56) (.seq s47_24 (.ret)) (.skip))
def s47_26 : SCode := (.seq s47_21 (.seq s47_22 (.seq s47_23 s47_25)))
def s47_27 : SCode := (.reg [(bc 60 .add 3 45 1 3), (mv 45 60)])
def s47_28 : SCode := (.seq (.cond (t 46) (.skip) (.exit 4)) (.seq (.block 5 s47_26) s47_27))
def s47_29 : SCode := (.seq s47_19 (.block 4 (.loop (.seq s47_20 s47_28))))
def s47_30 : SCode := (.reg [(.mk (some 4) (.assign (.const (.nilIface))) none)])
def s47_31 : SCode := (.seq s47_18 (.seq s47_29 (.seq s47_30 (.ret))))
def s47 : SCode := (.seq s47_0 s47_31)
def e47 := And.intro s47_0.eq_1 <| And.intro s47_1.eq_1 <| And.intro s47_2.eq_1 <| And.intro s47_3.eq_1 <| And.intro s47_4.eq_1 <| And.intro s47_5.eq_1 <| And.intro s47_6.eq_1 <| And.intro s47_7.eq_1 <| And.intro s47_8.eq_1 <| And.intro s47_9.eq_1 <| And.intro s47_10.eq_1 <| And.intro s47_11.eq_1 <| And.intro s47_12.eq_1 <| And.intro s47_13.eq_1 <| And.intro s47_14.eq_1 <| And.intro s47_15.eq_1 <| And.intro s47_16.eq_1 <| And.intro s47_17.eq_1 <| And.intro s47_18.eq_1 <| And.intro s47_19.eq_1 <| And.intro s47_20.eq_1 <| And.intro s47_21.eq_1 <| And.intro s47_22.eq_1 <| And.intro s47_23.eq_1 <| And.intro s47_24.eq_1 <| And.intro s47_25.eq_1 <| And.intro s47_26.eq_1 <| And.intro s47_27.eq_1 <| And.intro s47_28.eq_1 <| And.intro s47_29.eq_1 <| And.intro s47_30.eq_1 <| s47_31.eq_1
theorem h47 : FnS Try.prog 47 ⟨[3], []⟩ 61 [(.tmp 4)] s47 := by refine .mk' Try.func47 ?_ ?_ ?_ ?_ ?_ ?_ <;> kernel_rfl
def s48_0 : SCode := (.reg [(.mk (some 4) (.box 55 (t 1)) none), (.mk (some 6) (.assign (.const (.nilIface))) none)])
def s48_1 : SCode := (.reg [(mv 11 2), (ln 12 11 29), (.mk (some 13) (.move (.const (.int (.i64) 0))) none)])
def s48_2 : SCode := (.reg [(bi 14 .lss 3 13 12 3)])
def s48_3 : SCode := (.reg [(ia 15 29 11 13), (ld 16 32 15), (.mk (some 8) (.alloc 32) none), (st 32 8 16)])
def s48_4 : SCode := (.drw [((mv 18 0), 0), ((.mk (some 19) (.nilCheck (t 18)) none), 0), ((fa 20 57 19 0), 0), ((ld 21 55 20), 0), ((fa 22 32 8 0), 0), ((ld 23 27 22), 0), ((.mk (some 24) (.lookup 55 (t 21) (t 23) true) none), 0), ((mv 17 24), 0), ((ex 25 17 0), 0), ((ex 26 17 1), 0), ((sv 9 25), 0), ((sv 10 26), 0)])
def s48_5 : SCode := (.reg [(mv 27 10)])
def s48_6 : SCode := (.seq s48_5 (.cond (t 27) (.exit 1) (.skip)))
def s48_7 : SCode := (.drw [((fa 28 32 8 1), 0), ((ld 29 28 28), 0), ((.mk (some 30) (.makeFunc (.func 63) #[] #[(t 4)]) none), 0), ((fa 32 32 8 0), 0), ((ld 33 27 32), 0), ((c2 31 41 29 30 28 88), 2), ((.mk (some 34) (.lookup 63 (t 31) (t 33) false) none), 0)])
def s48_8 : SCode := (.reg [(fa 35 32 8 0), (ld 36 27 35), (.mk (some 37) (.makeInterface 76 (.const (.int (.i64) 12))) none), (c2 38 59 36 37 27 34), (sv 6 38)])
def s48_9 : SCode := (.cond (t 34) (.seq s48_8 (.ret)) (.skip))
def s48_10 : SCode := (.seq (.seq s48_4 s48_6) (.seq s48_7 s48_9))
def s48_11 : SCode := (.reg [(bc 39 .add 3 13 1 3), (mv 13 39)])
def s48_12 : SCode := (.seq (.block 1 (.seq s48_3 s48_10)) s48_11)
def s48_13 : SCode := (.seq (.cond (t 14) (.skip) (.exit 0)) s48_12)
def s48_14 : SCode := (.seq s48_1 (.block 0 (.loop (.seq s48_2 s48_13))))
def s48_15 : SCode := (.reg [(.mk (some 6) (.assign (.const (.nilIface))) none)])
def s48 : SCode := (.seq s48_0 (.seq s48_14 (.seq s48_15 (.ret))))
def e48 := And.intro s48_0.eq_1 <| And.intro s48_1.eq_1 <| And.intro s48_2.eq_1 <| And.intro s48_3.eq_1 <| And.intro s48_4.eq_1 <| And.intro s48_5.eq_1 <| And.intro s48_6.eq_1 <| And.intro s48_7.eq_1 <| And.intro s48_8.eq_1 <| And.intro s48_9.eq_1 <| And.intro s48_10.eq_1 <| And.intro s48_11.eq_1 <| And.intro s48_12.eq_1 <| And.intro s48_13.eq_1 <| And.intro s48_14.eq_1 <| s48_15.eq_1
theorem h48 : FnS Try.prog 48 ⟨[4], [(4, [(0, 0), (1, 0), (2, 0), (3, 0), (4, 0), (5, 0), (6, 0), (7, 0), (8, 0), (9, 0), (10, 0), (11, 0)]), (6, [(0, 0), (1, 0), (2, 0), (4, 0), (5, 0), (3, 2), (6, 0)])]⟩ 40 [(.tmp 6)] s48 := by refine .mk' Try.func48 ?_ ?_ ?_ ?_ ?_ ?_ <;> kernel_rfl
def s54_0 : SCode := (.reg [(sn 2)])
def s54_1 : SCode := (.reg [(mv 4 0), (c1 5 44 4 28), (sv 3 5)])
def s54_2 : SCode := (.reg [(mv 6 3), (.mk (some 7) (.call (.mk (.value (.func 64)) #[(t 6), (.func 65)] #[28, 114])) none)])
def s54_3 : SCode := (.reg [(mv 8 3), (c1 9 67 8 28), (sv 2 9)])
def s54_4 : SCode := (.seq s54_1 (.seq s54_2 (.seq s54_3 (.ret))))
def s54 : SCode := (.seq s54_0 s54_4)
def e54 := And.intro s54_0.eq_1 <| And.intro s54_1.eq_1 <| And.intro s54_2.eq_1 <| And.intro s54_3.eq_1 <| s54_4.eq_1
theorem h54 : FnS Try.prog 54 ⟨[], []⟩ 10 [(.tmp 2)] s54 := by refine .mk' Try.func54 ?_ ?_ ?_ ?_ ?_ ?_ <;> kernel_rfl
def s56_0 : SCode := (.reg [(.mk (some 1) (.box 63 (t 0)) none), (.mk (some 2) (.assign (.const (.nilFunc))) none)])
def s56_1 : SCode := (.reg [(.mk (some 3) (.makeFunc (.func 69) #[] #[(t 1)]) none), (sv 2 3)])
def s56 : SCode := (.seq s56_0 (.seq s56_1 (.ret)))
def e56 := And.intro s56_0.eq_1 <| s56_1.eq_1
theorem h56 : FnS Try.prog 56 ⟨[], []⟩ 4 [(.tmp 2)] s56 := by refine .mk' Try.func56 ?_ ?_ ?_ ?_ ?_ ?_ <;> kernel_rfl
def s57_0 : SCode := (.reg [(sn 4)])
def s57_1 : SCode := (.reg [(mv 8 0), (mv 9 1), (c2 10 70 8 9 28 39), (sv 5 10)])
def s57_2 : SCode := (.reg [(mv 11 5), (.mk (some 12) (.binOp (.eql) 3 (t 11) (.const (.int (.i64) (-1))) 3) none)])
def s57_3 : SCode := (.reg [(mv 13 0), (sv 4 13)])
def s57_4 : SCode := (.cond (t 12) (.seq s57_3 (.ret)) (.skip))
def s57_5 : SCode := (.reg [(mv 14 5), (bc 15 .add 3 14 1 3), (sv 6 15)])
def s57_6 : SCode := (.reg [(mv 16 6), (mv 17 0), (ln 18 17 28), (bi 19 .lss 3 16 18 3)])
def s57_7 : SCode := (.seq s57_6 (.cond (t 19) (.skip) (.exit 0)))
def s57_8 : SCode := (.reg [(mv 22 0), (mv 23 6), (ia 24 28 22 23), (ld 25 27 24), (.mk (some 7) (.alloc 27) none), (st 27 7 25)])
def s57_9 : SCode := (.reg [(mv 26 1), (ld 27 27 7), (.mk (some 28) (.call (.mk (.value (t 26)) #[(t 27)] #[27])) none), (nt 29 28)])
def s57_10 : SCode := (.reg [(mv 30 0), (mv 31 5), (ld 32 27 7), (ia 33 28 30 31), (st 27 33 32)])
def s57_11 : SCode := (.reg [(mv 34 5), (bc 35 .add 3 34 1 3), (sv 5 35)])
def s57_12 : SCode := (.cond (t 29) (.seq s57_10 s57_11) (.skip))
def s57_13 : SCode := (.block 1 (.seq s57_8 (.seq s57_9 s57_12)))
def s57_14 : SCode := (.reg [(mv 20 6), (bc 21 .add 3 20 1 3), (sv 6 21)])
def s57_15 : SCode := (.loop (.seq s57_7 (.seq s57_13 s57_14)))
def s57_16 : SCode := (.reg [(mv 36 0), (mv 37 5), (.mk (some 38) (.slice 28 (t 36) (some (t 37)) none none) none), (.mk none (.call (.mk (.builtin (.clear)) #[(t 38)] #[28])) none)])
def s57_17 : SCode := (.reg [(mv 39 0), (mv 40 5), (.mk (some 41) (.slice 28 (t 39) none (some (t 40)) none) none), (sv 4 41)])
def s57_18 : SCode := (.seq (.seq s57_5 (.block 0 s57_15)) (.seq s57_16 (.seq s57_17 (.ret))))
def s57_19 : SCode := (.seq s57_1 (.seq (.seq s57_2 s57_4) s57_18))
def s57 : SCode := (.seq s57_0 s57_19)
def e57 := And.intro s57_0.eq_1 <| And.intro s57_1.eq_1 <| And.intro s57_2.eq_1 <| And.intro s57_3.eq_1 <| And.intro s57_4.eq_1 <| And.intro s57_5.eq_1 <| And.intro s57_6.eq_1 <| And.intro s57_7.eq_1 <| And.intro s57_8.eq_1 <| And.intro s57_9.eq_1 <| And.intro s57_10.eq_1 <| And.intro s57_11.eq_1 <| And.intro s57_12.eq_1 <| And.intro s57_13.eq_1 <| And.intro s57_14.eq_1 <| And.intro s57_15.eq_1 <| And.intro s57_16.eq_1 <| And.intro s57_17.eq_1 <| And.intro s57_18.eq_1 <| s57_19.eq_1
theorem h57 : FnS Try.prog 57 ⟨[], []⟩ 42 [(.tmp 4)] s57 := by refine .mk' Try.func57 ?_ ?_ ?_ ?_ ?_ ?_ <;> kernel_rfl
def s58_0 : SCode := (.reg [(.mk (some 2) (.box 27 (t 0)) none), (sb 3 false)])
def s58_1 : SCode := (.reg [(ld 4 23 1), (ld 5 27 2), (c2 6 31 4 5 23 27), (nt 7 6), (sv 3 7)])
def s58 : SCode := (.seq s58_0 (.seq s58_1 (.ret)))
def e58 := And.intro s58_0.eq_1 <| s58_1.eq_1
theorem h58 : FnS Try.prog 58 ⟨[2], []⟩ 8 [(.tmp 3)] s58 := by refine .mk' Try.func58 ?_ ?_ ?_ ?_ ?_ ?_ <;> kernel_rfl
def s59_0 : SCode := (.reg [(.mk (some 2) (.box 27 (t 0)) none), (.mk (some 4) (.assign (.const (.nilIface))) none)])
def s59_1 : SCode := (.reg [(mv 5 1), (.mk (some 6) (.binOp (.eql) 34 (t 5) (.const (.nilIface)) 34) none)])
def s59_2 : SCode := (.reg [(.mk (some 4) (.assign (.const (.nilIface))) none)])
def s59_3 : SCode := (.cond (t 6) (.seq s59_2 (.ret)) (.skip))
def s59_4 : SCode := (.reg [(ld 7 27 2), (mv 8 1), (.mk (some 9) (.build 119 #[(0, (t 7)), (1, (t 8))]) none), (.mk (some 10) (.box 119 (t 9)) none), (.mk (some 11) (.makeInterface 117 (t 10)) none), (sv 4 11)])
def s59_5 : SCode := (.seq (.seq s59_1 s59_3) (.seq s59_4 (.ret)))
def s59 : SCode := (.seq s59_0 s59_5)
def e59 := And.intro s59_0.eq_1 <| And.intro s59_1.eq_1 <| And.intro s59_2.eq_1 <| And.intro s59_3.eq_1 <| And.intro s59_4.eq_1 <| s59_5.eq_1
theorem h59 : FnS Try.prog 59 ⟨[2, 10], []⟩ 12 [(.tmp 4)] s59 := by refine .mk' Try.func59 ?_ ?_ ?_ ?_ ?_ ?_ <;> kernel_rfl
def s60_0 : SCode := (.reg [(sb 2 false)])
def s60_1 : SCode := (.reg [(mv 3 0), (c1 4 54 3 28), (ln 5 4 28), (mv 6 0), (ln 7 6 28), (bi 8 .lss 3 5 7 3), (sv 2 8)])
def s60 : SCode := (.seq s60_0 (.seq s60_1 (.ret)))
def e60 := And.intro s60_0.eq_1 <| s60_1.eq_1
theorem h60 : FnS Try.prog 60 ⟨[], []⟩ 9 [(.tmp 2)] s60 := by refine .mk' Try.func60 ?_ ?_ ?_ ?_ ?_ ?_ <;> kernel_rfl
def s62_0 : SCode := (.reg [(sb 4 false)])
def s62_1 : SCode := (.reg [(mv 6 0), (ln 7 6 28), (mv 8 1), (ln 9 8 28), (bi 10 .neq 3 7 9 3)])
def s62_2 : SCode := (.reg [(sb 4 false)])
def s62_3 : SCode := (.cond (t 10) (.seq s62_2 (.ret)) (.skip))
def s62_4 : SCode := (.reg [(mv 11 0), (ln 12 11 28), (.mk (some 13) (.move (.const (.int (.i64) 0))) none)])
def s62_5 : SCode := (.reg [(bi 14 .lss 3 13 12 3)])
def s62_6 : SCode := (.reg [(mv 15 13), (sv 5 15)])
def s62_7 : SCode := (.drw [((mv 16 0), 0), ((mv 17 5), 0), ((ia 18 28 16 17), 0), ((ld 19 27 18), 0), ((mv 20 1), 0), ((mv 21 5), 0), ((ia 22 28 20 21), 0), ((ld 23 27 22), 0), ((bi 24 .neq 27 19 23 27), 0)])
def s62_8 : SCode := (.reg [(sb 4 false)])
def s62_9 : SCode := (.cond (t 24) (.seq s62_8 (.ret)) (.skip))
def s62_10 : SCode := (.block 1 (.seq s62_6 (.seq s62_7 s62_9)))
def s62_11 : SCode := (.reg [(bc 25 .add 3 13 1 3), (mv 13 25)])
def s62_12 : SCode := (.seq (.cond (t 14) (.skip) (.exit 0)) (.seq s62_10 s62_11))
def s62_13 : SCode := (.seq s62_4 (.block 0 (.loop (.seq s62_5 s62_12))))
def s62_14 : SCode := (.reg [(sb 4 true)])
def s62_15 : SCode := (.seq (.seq s62_1 s62_3) (.seq s62_13 (.seq s62_14 (.ret))))
def s62 : SCode := (.seq s62_0 s62_15)
def e62 := And.intro s62_0.eq_1 <| And.intro s62_1.eq_1 <| And.intro s62_2.eq_1 <| And.intro s62_3.eq_1 <| And.intro s62_4.eq_1 <| And.intro s62_5.eq_1 <| And.intro s62_6.eq_1 <| And.intro s62_7.eq_1 <| And.intro s62_8.eq_1 <| And.intro s62_9.eq_1 <| And.intro s62_10.eq_1 <| And.intro s62_11.eq_1 <| And.intro s62_12.eq_1 <| And.intro s62_13.eq_1 <| And.intro s62_14.eq_1 <| s62_15.eq_1
theorem h62 : FnS Try.prog 62 ⟨[], [(6, [(0, 0), (1, 0), (2, 0), (3, 0), (4, 0), (5, 0), (6, 0), (7, 0), (8, 0)])]⟩ 26 [(.tmp 4)] s62 := by refine .mk' Try.func62 ?_ ?_ ?_ ?_ ?_ ?_ <;> kernel_rfl
def s63_0 : SCode := (.reg [(.mk (some 2) (.box 27 (t 0)) none), (sn 3)])
def s63_1 : SCode := (.reg [(ld 4 55 1), (ld 5 27 2), (.mk (some 6) (.lookup 55 (t 4) (t 5) false) none), (sv 3 6)])
def s63 : SCode := (.seq s63_0 (.seq s63_1 (.ret)))
def e63 := And.intro s63_0.eq_1 <| s63_1.eq_1
theorem h63 : FnS Try.prog 63 ⟨[2], []⟩ 7 [(.tmp 3)] s63 := by refine .mk' Try.func63 ?_ ?_ ?_ ?_ ?_ ?_ <;> kernel_rfl
def s67_0 : SCode := (.reg [(sn 2)])
def s67_1 : SCode := (.reg [(mv 6 0), (ln 7 6 28), (bc 8 .lss 3 7 2 3)])
def s67_2 : SCode := (.reg [(mv 9 0), (sv 2 9)])
def s67_3 : SCode := (.cond (t 8) (.seq s67_2 (.ret)) (.skip))
def s67_4 : SCode := (.reg [(sc 3 1)])
def s67_5 : SCode := (.reg [(mv 10 3), (mv 11 0), (ln 12 11 28), (bi 13 .lss 3 10 12 3)])
def s67_6 : SCode := (.seq s67_5 (.cond (t 13) (.skip) (.exit 0)))
def s67_7 : SCode := (.drw [((mv 16 0), 0), ((mv 17 3), 0), ((ia 18 28 16 17), 0), ((ld 19 27 18), 0), ((mv 20 0), 0), ((mv 21 3), 0), ((bc 22 .sub 3 21 1 3), 0), ((ia 23 28 20 22), 0), ((ld 24 27 23), 0), ((bi 25 .eql 27 19 24 27), 0)])
def s67_8 : SCode := (.reg [(mv 26 0), (mv 27 3), (.mk (some 28) (.slice 28 (t 26) (some (t 27)) none none) none), (sv 4 28)])
def s67_9 : SCode := (.reg [(sc 5 1)])
def s67_10 : SCode := (.reg [(mv 29 5), (mv 30 4), (ln 31 30 28), (bi 32 .lss 3 29 31 3)])
def s67_11 : SCode := (.seq s67_10 (.cond (t 32) (.skip) (.exit 2)))
def s67_12 : SCode := (.drw [((mv 35 4), 0), ((mv 36 5), 0), ((ia 37 28 35 36), 0), ((ld 38 27 37), 0), ((mv 39 4), 0), ((mv 40 5), 0), ((bc 41 .sub 3 40 1 3), 0), ((ia 42 28 39 41), 0), ((ld 43 27 42), 0), ((bi 44 .neq 27 38 43 27), 0)])
def s67_13 : SCode := (.reg [(mv 45 0), (mv 46 3), (mv 47 4), (mv 48 5), (ia 49 28 47 48), (ld 50 27 49), (ia 51 28 45 46), (st 27 51 50)])
def s67_14 : SCode := (.reg [(mv 52 3), (bc 53 .add 3 52 1 3), (sv 3 53)])
def s67_15 : SCode := (.cond (t 44) (.seq s67_13 s67_14) (.skip))
def s67_16 : SCode := (.reg [(mv 33 5), (bc 34 .add 3 33 1 3), (sv 5 34)])
def s67_17 : SCode := (.seq (.block 3 (.seq s67_12 s67_15)) s67_16)
def s67_18 : SCode := (.seq s67_9 (.block 2 (.loop (.seq s67_11 s67_17))))
def s67_19 : SCode := (.reg [(mv 54 0), (mv 55 3), (.mk (some 56) (.slice 28 (t 54) (some (t 55)) none none) none), (.mk none (.call (.mk (.builtin (.clear)) #[(t 56)] #[28])) none)])
def s67_20 : SCode := (.reg [(mv 57 0), (mv 58 3), (.mk (some 59) (.slice 28 (t 57) none (some (t 58)) none) none), (sv 2 59)])
def s67_21 : SCode := (.seq s67_18 (.seq s67_19 (.seq s67_20 (.ret))))
def s67_22 : SCode := (.cond (t 25) (.seq s67_8 s67_21) (.skip))
def s67_23 : SCode := (.reg [(mv 14 3), (bc 15 .add 3 14 1 3), (sv 3 15)])
def s67_24 : SCode := (.seq (.block 1 (.seq s67_7 s67_22)) s67_23)
def s67_25 : SCode := (.seq s67_4 (.block 0 (.loop (.seq s67_6 s67_24))))
def s67_26 : SCode := (.reg [(mv 60 0), (sv 2 60)])
def s67_27 : SCode := (.seq (.seq s67_1 s67_3) (.seq s67_25 (.seq s67_26 (.ret))))
def s67 : SCode := (.seq s67_0 s67_27)
def e67 := And.intro s67_0.eq_1 <| And.intro s67_1.eq_1 <| And.intro s67_2.eq_1 <| And.intro s67_3.eq_1 <| And.intro s67_4.eq_1 <| And.intro s67_5.eq_1 <| And.intro s67_6.eq_1 <| And.intro s67_7.eq_1 <| And.intro s67_8.eq_1 <| And.intro s67_9.eq_1 <| And.intro s67_10.eq_1 <| And.intro s67_11.eq_1 <| And.intro s67_12.eq_1 <| And.intro s67_13.eq_1 <| And.intro s67_14.eq_1 <| And.intro s67_15.eq_1 <| And.intro s67_16.eq_1 <| And.intro s67_17.eq_1 <| And.intro s67_18.eq_1 <| And.intro s67_19.eq_1 <| And.intro s67_20.eq_1 <| And.intro s67_21.eq_1 <| And.intro s67_22.eq_1 <| And.intro s67_23.eq_1 <| And.intro s67_24.eq_1 <| And.intro s67_25.eq_1 <| And.intro s67_26.eq_1 <| s67_27.eq_1
theorem h67 : FnS Try.prog 67 ⟨[], [(6, [(0, 0), (1, 0), (2, 0), (3, 0), (4, 0), (5, 0), (6, 0), (7, 0), (8, 0), (9, 0)]), (11, [(0, 0), (1, 0), (2, 0), (3, 0), (4, 0), (5, 0), (6, 0), (7, 0), (8, 0), (9, 0)])]⟩ 61 [(.tmp 2)] s67 := by refine .mk' Try.func67 ?_ ?_ ?_ ?_ ?_ ?_ <;> kernel_rfl
def s69_0 : SCode := (.reg [(ld 4 63 1), (.mk (some 5) (.range 63 (t 4)) none)])
def s69_1 : SCode := (.reg [(.mk (some 6) (.next (t 5) false) none), (ex 7 6 0)])
def s69_2 : SCode := (.reg [(.mk (some 8) (.entry (t 5)) none), (ex 9 8 0), (.mk (some 3) (.alloc 27) none), (st 27 3 9)])
def s69_3 : SCode := (.reg [(mv 10 0), (ld 11 27 3), (.mk (some 12) (.call (.mk (.value (t 10)) #[(t 11)] #[27])) none), (nt 13 12)])
def s69_4 : SCode := (.seq s69_3 (.cond (t 13) (.ret) (.skip)))
def s69_5 : SCode := (.seq (.cond (t 7) (.skip) (.exit 0)) (.block 1 (.seq s69_2 s69_4)))
def s69 : SCode := (.seq s69_0 (.block 0 (.loop (.seq s69_1 s69_5))))
theorem h69 : FnS Try.prog 69 ⟨[], []⟩ 14 [] s69 := by refine .mk' Try.func69 ?_ ?_ ?_ ?_ ?_ ?_ <;> kernel_rfl
def s70_0 : SCode := (.reg [(sc 4 0)])
def s70_1 : SCode := (.reg [(mv 6 0), (ln 7 6 28), (.mk (some 8) (.move (.const (.int (.i64) 0))) none)])
def s70_2 : SCode := (.reg [(bi 9 .lss 3 8 7 3)])
def s70_3 : SCode := (.reg [(mv 10 8), (sv 5 10)])
def s70_4 : SCode := (.reg [(mv 11 1), (mv 12 0), (mv 13 5), (ia 14 28 12 13), (ld 15 27 14), (.mk (some 16) (.call (.mk (.value (t 11)) #[(t 15)] #[27])) none)])
def s70_5 : SCode := (.reg [(mv 17 5), (sv 4 17)])
def s70_6 : SCode := (.cond (t 16) (.seq s70_5 (.ret)) (.skip))
def s70_7 : SCode := (.block 1 (.seq s70_3 (.seq s70_4 s70_6)))
def s70_8 : SCode := (.reg [(bc 18 .add 3 8 1 3), (mv 8 18)])
def s70_9 : SCode := (.seq (.cond (t 9) (.skip) (.exit 0)) (.seq s70_7 s70_8))
def s70_10 : SCode := (.seq s70_1 (.block 0 (.loop (.seq s70_2 s70_9))))
def s70_11 : SCode := (.reg [(.mk (some 4) (.assign (.const (.int (.i64) (-1)))) none)])
def s70 : SCode := (.seq s70_0 (.seq s70_10 (.seq s70_11 (.ret))))
def e70 := And.intro s70_0.eq_1 <| And.intro s70_1.eq_1 <| And.intro s70_2.eq_1 <| And.intro s70_3.eq_1 <| And.intro s70_4.eq_1 <| And.intro s70_5.eq_1 <| And.intro s70_6.eq_1 <| And.intro s70_7.eq_1 <| And.intro s70_8.eq_1 <| And.intro s70_9.eq_1 <| And.intro s70_10.eq_1 <| s70_11.eq_1
theorem h70 : FnS Try.prog 70 ⟨[], []⟩ 19 [(.tmp 4)] s70 := by refine .mk' Try.func70 ?_ ?_ ?_ ?_ ?_ ?_ <;> kernel_rfl
end
end Gv.Try

set_option maxRecDepth 100000
namespace Gv.Try
open Go Gv Go.Proofs
theorem aggT27 : aggT Try.prog 27 = (some [(.int), (.int), (.int), (.int), (.int), (.int), (.int), (.int), (.int), (.int), (.int), (.int), (.int), (.int), (.int), (.int), (.int), (.int), (.int), (.int), (.int), (.int), (.int), (.int), (.int), (.int), (.int), (.int), (.int), (.int), (.int), (.int)]) := by kernel_rfl
theorem arr101 : arr Try.prog 101 = (some (6, (1, false))) := by kernel_rfl
theorem arr27 : arr Try.prog 27 = (some (32, (1, false))) := by kernel_rfl
theorem arr99 : arr Try.prog 99 = (some (60, (1, false))) := by kernel_rfl
theorem els28 : els Try.prog 28 = (some (32, true)) := by kernel_rfl
theorem els29 : els Try.prog 29 = (some (33, true)) := by kernel_rfl
theorem els41 : els Try.prog 41 = (some (4, true)) := by kernel_rfl
theorem els42 : els Try.prog 42 = (some (1, false)) := by kernel_rfl
theorem els64 : els Try.prog 64 = (some (33, true)) := by kernel_rfl
theorem els73 : els Try.prog 73 = (some (3, true)) := by kernel_rfl
theorem els83 : els Try.prog 83 = (some (1, false)) := by kernel_rfl
theorem elt113 : elt Try.prog 113 = (some (1, (1, [(.int (.u8) 0)]))) := by kernel_rfl
theorem elt28 : elt Try.prog 28 = (some (32, (32, [(.int (.u8) 0), (.int (.u8) 0), (.int (.u8) 0), (.int (.u8) 0), (.int (.u8) 0), (.int (.u8) 0), (.int (.u8) 0), (.int (.u8) 0), (.int (.u8) 0), (.int (.u8) 0), (.int (.u8) 0), (.int (.u8) 0), (.int (.u8) 0), (.int (.u8) 0), (.int (.u8) 0), (.int (.u8) 0), (.int (.u8) 0), (.int (.u8) 0), (.int (.u8) 0), (.int (.u8) 0), (.int (.u8) 0), (.int (.u8) 0), (.int (.u8) 0), (.int (.u8) 0), (.int (.u8) 0), (.int (.u8) 0), (.int (.u8) 0), (.int (.u8) 0), (.int (.u8) 0), (.int (.u8) 0), (.int (.u8) 0), (.int (.u8) 0)]))) := by kernel_rfl
theorem elt29 : elt Try.prog 29 = (some (33, (56, [(.int (.u8) 0), (.int (.u8) 0), (.int (.u8) 0), (.int (.u8) 0), (.int (.u8) 0), (.int (.u8) 0), (.int (.u8) 0), (.int (.u8) 0), (.int (.u8) 0), (.int (.u8) 0), (.int (.u8) 0), (.int (.u8) 0), (.int (.u8) 0), (.int (.u8) 0), (.int (.u8) 0), (.int (.u8) 0), (.int (.u8) 0), (.int (.u8) 0), (.int (.u8) 0), (.int (.u8) 0), (.int (.u8) 0), (.int (.u8) 0), (.int (.u8) 0), (.int (.u8) 0), (.int (.u8) 0), (.int (.u8) 0), (.int (.u8) 0), (.int (.u8) 0), (.int (.u8) 0), (.int (.u8) 0), (.int (.u8) 0), (.int (.u8) 0), (.slice [] (.nil))]))) := by kernel_rfl
theorem elt41 : elt Try.prog 41 = (some (4, (64, [(.slice [] (.nil)), (.slice [] (.nil)), (.int (.i64) 0), (.int (.i64) 0)]))) := by kernel_rfl
theorem elt42 : elt Try.prog 42 = (some (1, (8, [(.int (.i64) 0)]))) := by kernel_rfl
theorem elt64 : elt Try.prog 64 = (some (33, (56, [(.int (.u8) 0), (.int (.u8) 0), (.int (.u8) 0), (.int (.u8) 0), (.int (.u8) 0), (.int (.u8) 0), (.int (.u8) 0), (.int (.u8) 0), (.int (.u8) 0), (.int (.u8) 0), (.int (.u8) 0), (.int (.u8) 0), (.int (.u8) 0), (.int (.u8) 0), (.int (.u8) 0), (.int (.u8) 0), (.int (.u8) 0), (.int (.u8) 0), (.int (.u8) 0), (.int (.u8) 0), (.int (.u8) 0), (.int (.u8) 0), (.int (.u8) 0), (.int (.u8) 0), (.int (.u8) 0), (.int (.u8) 0), (.int (.u8) 0), (.int (.u8) 0), (.int (.u8) 0), (.int (.u8) 0), (.int (.u8) 0), (.int (.u8) 0), (.slice [] (.nil))]))) := by kernel_rfl
theorem elt73 : elt Try.prog 73 = (some (3, (40, [(.int (.i64) 0), (.int (.i64) 0), (.slice [] (.nil))]))) := by kernel_rfl
theorem elt83 : elt Try.prog 83 = (some (1, (1, [(.bool false)]))) := by kernel_rfl
theorem fld32_0 : fld Try.prog 32 0 = (some (0, (32, true))) := by kernel_rfl
theorem fld32_1 : fld Try.prog 32 1 = (some (32, (1, false))) := by kernel_rfl
theorem fld57_0 : fld Try.prog 57 0 = (some (0, (1, false))) := by kernel_rfl
theorem fld61_0 : fld Try.prog 61 0 = (some (0, (1, false))) := by kernel_rfl
theorem fld61_1 : fld Try.prog 61 1 = (some (1, (1, false))) := by kernel_rfl
theorem fld61_2 : fld Try.prog 61 2 = (some (2, (1, false))) := by kernel_rfl
theorem fld66_0 : fld Try.prog 66 0 = (some (0, (1, false))) := by kernel_rfl
theorem fld66_1 : fld Try.prog 66 1 = (some (1, (1, false))) := by kernel_rfl
theorem fld66_2 : fld Try.prog 66 2 = (some (2, (1, false))) := by kernel_rfl
theorem fld66_3 : fld Try.prog 66 3 = (some (3, (1, false))) := by kernel_rfl
theorem fld66_4 : fld Try.prog 66 4 = (some (4, (1, false))) := by kernel_rfl
theorem fld71_0 : fld Try.prog 71 0 = (some (0, (1, false))) := by kernel_rfl
theorem fld75_0 : fld Try.prog 75 0 = (some (0, (1, false))) := by kernel_rfl
theorem fld75_1 : fld Try.prog 75 1 = (some (1, (1, false))) := by kernel_rfl
theorem fld75_2 : fld Try.prog 75 2 = (some (2, (1, false))) := by kernel_rfl
theorem fld75_3 : fld Try.prog 75 3 = (some (3, (1, false))) := by kernel_rfl
theorem fld94_0 : fld Try.prog 94 0 = (some (0, (32, true))) := by kernel_rfl
theorem fld94_1 : fld Try.prog 94 1 = (some (32, (1, false))) := by kernel_rfl
theorem fld97_0 : fld Try.prog 97 0 = (some (0, (1, false))) := by kernel_rfl
theorem fld97_1 : fld Try.prog 97 1 = (some (1, (1, false))) := by kernel_rfl
theorem fld97_2 : fld Try.prog 97 2 = (some (2, (1, false))) := by kernel_rfl
theorem keyT55 : keyT Try.prog 55 = (some ((.mk [(.int), (.int), (.int), (.int), (.int), (.int), (.int), (.int), (.int), (.int), (.int), (.int), (.int), (.int), (.int), (.int), (.int), (.int), (.int), (.int), (.int), (.int), (.int), (.int), (.int), (.int), (.int), (.int), (.int), (.int), (.int), (.int)] true), 28)) := by kernel_rfl
theorem keyT63 : keyT Try.prog 63 = (some ((.mk [(.int), (.int), (.int), (.int), (.int), (.int), (.int), (.int), (.int), (.int), (.int), (.int), (.int), (.int), (.int), (.int), (.int), (.int), (.int), (.int), (.int), (.int), (.int), (.int), (.int), (.int), (.int), (.int), (.int), (.int), (.int), (.int)] true), 4)) := by kernel_rfl
theorem keyT68 : keyT Try.prog 68 = (some ((.mk [(.int), (.int), (.int), (.int), (.int), (.int), (.int), (.int), (.int), (.int), (.int), (.int), (.int), (.int), (.int), (.int), (.int), (.int), (.int), (.int), (.int), (.int), (.int), (.int), (.int), (.int), (.int), (.int), (.int), (.int), (.int), (.int)] true), 3)) := by kernel_rfl
theorem notInt105 : notInt Try.prog 105 = false := by kernel_rfl
theorem notInt113 : notInt Try.prog 113 = true := by kernel_rfl
theorem notInt114 : notInt Try.prog 114 = false := by kernel_rfl
theorem notInt131 : notInt Try.prog 131 = false := by kernel_rfl
theorem notInt133 : notInt Try.prog 133 = false := by kernel_rfl
theorem notInt134 : notInt Try.prog 134 = false := by kernel_rfl
theorem notInt138 : notInt Try.prog 138 = false := by kernel_rfl
theorem notInt20 : notInt Try.prog 20 = false := by kernel_rfl
theorem notInt23 : notInt Try.prog 23 = false := by kernel_rfl
theorem notInt27 : notInt Try.prog 27 = false := by kernel_rfl
theorem notInt28 : notInt Try.prog 28 = true := by kernel_rfl
theorem notInt29 : notInt Try.prog 29 = true := by kernel_rfl
theorem notInt3 : notInt Try.prog 3 = false := by kernel_rfl
theorem notInt30 : notInt Try.prog 30 = false := by kernel_rfl
theorem notInt32 : notInt Try.prog 32 = false := by kernel_rfl
theorem notInt34 : notInt Try.prog 34 = false := by kernel_rfl
theorem notInt39 : notInt Try.prog 39 = false := by kernel_rfl
theorem notInt41 : notInt Try.prog 41 = true := by kernel_rfl
theorem notInt42 : notInt Try.prog 42 = true := by kernel_rfl
theorem notInt43 : notInt Try.prog 43 = false := by kernel_rfl
theorem notInt55 : notInt Try.prog 55 = false := by kernel_rfl
theorem notInt61 : notInt Try.prog 61 = false := by kernel_rfl
theorem notInt62 : notInt Try.prog 62 = false := by kernel_rfl
theorem notInt63 : notInt Try.prog 63 = false := by kernel_rfl
theorem notInt64 : notInt Try.prog 64 = true := by kernel_rfl
theorem notInt73 : notInt Try.prog 73 = true := by kernel_rfl
theorem notInt75 : notInt Try.prog 75 = false := by kernel_rfl
theorem notInt83 : notInt Try.prog 83 = true := by kernel_rfl
theorem notInt88 : notInt Try.prog 88 = false := by kernel_rfl
theorem plc101 : plc Try.prog 101 = (some (.inr 1)) := by kernel_rfl
theorem plc119 : plc Try.prog 119 = (some (.inl [(0, 32), (32, 1)])) := by kernel_rfl
theorem plc27 : plc Try.prog 27 = (some (.inr 1)) := by kernel_rfl
theorem plc32 : plc Try.prog 32 = (some (.inl [(0, 32), (32, 1)])) := by kernel_rfl
theorem plc57 : plc Try.prog 57 = (some (.inl [(0, 1)])) := by kernel_rfl
theorem plc61 : plc Try.prog 61 = (some (.inl [(0, 1), (1, 1), (2, 1)])) := by kernel_rfl
theorem plc66 : plc Try.prog 66 = (some (.inl [(0, 1), (1, 1), (2, 1), (3, 1), (4, 1)])) := by kernel_rfl
theorem plc71 : plc Try.prog 71 = (some (.inl [(0, 1)])) := by kernel_rfl
theorem plc94 : plc Try.prog 94 = (some (.inl [(0, 32), (32, 1)])) := by kernel_rfl
theorem tab134 : tab Try.prog 134 = (some (1, false)) := by kernel_rfl
theorem tab23 : tab Try.prog 23 = (some (1, false)) := by kernel_rfl
theorem tab27 : tab Try.prog 27 = (some (32, true)) := by kernel_rfl
theorem tab28 : tab Try.prog 28 = (some (1, false)) := by kernel_rfl
theorem tab29 : tab Try.prog 29 = (some (1, false)) := by kernel_rfl
theorem tab3 : tab Try.prog 3 = (some (1, false)) := by kernel_rfl
theorem tab32 : tab Try.prog 32 = (some (33, true)) := by kernel_rfl
theorem tab39 : tab Try.prog 39 = (some (1, false)) := by kernel_rfl
theorem tab4 : tab Try.prog 4 = (some (1, false)) := by kernel_rfl
theorem tab42 : tab Try.prog 42 = (some (1, false)) := by kernel_rfl
theorem tab5 : tab Try.prog 5 = (some (1, false)) := by kernel_rfl
theorem tab55 : tab Try.prog 55 = (some (1, false)) := by kernel_rfl
theorem tab61 : tab Try.prog 61 = (some (3, true)) := by kernel_rfl
theorem tab63 : tab Try.prog 63 = (some (1, false)) := by kernel_rfl
theorem tab64 : tab Try.prog 64 = (some (1, false)) := by kernel_rfl
theorem tab73 : tab Try.prog 73 = (some (1, false)) := by kernel_rfl
theorem tab75 : tab Try.prog 75 = (some (4, true)) := by kernel_rfl
theorem tab97 : tab Try.prog 97 = (some (3, true)) := by kernel_rfl
theorem und101 : Go.Program.underlying Try.prog 101 = (some (.array 6 5)) := by kernel_rfl
theorem und105 : Go.Program.underlying Try.prog 105 = (some (.func #[39] #[] false)) := by kernel_rfl
theorem und113 : Go.Program.underlying Try.prog 113 = (some (.slice 5)) := by kernel_rfl
theorem und114 : Go.Program.underlying Try.prog 114 = (some (.func #[27, 27] #[3] false)) := by kernel_rfl
theorem und117 : Go.Program.underlying Try.prog 117 = (some (.pointer 119)) := by kernel_rfl
theorem und124 : Go.Program.underlying Try.prog 124 = (some (.int (.i64))) := by kernel_rfl
theorem und131 : Go.Program.underlying Try.prog 131 = (some (.int (.u32))) := by kernel_rfl
theorem und133 : Go.Program.underlying Try.prog 133 = (some (.int (.u64))) := by kernel_rfl
theorem und134 : Go.Program.underlying Try.prog 134 = (some (.int (.u64))) := by kernel_rfl
theorem und138 : Go.Program.underlying Try.prog 138 = (some (.pointer 3)) := by kernel_rfl
theorem und20 : Go.Program.underlying Try.prog 20 = (some (.interface #[])) := by kernel_rfl
theorem und23 : Go.Program.underlying Try.prog 23 = (some (.pointer 57)) := by kernel_rfl
theorem und27 : Go.Program.underlying Try.prog 27 = (some (.array 32 5)) := by kernel_rfl
theorem und28 : Go.Program.underlying Try.prog 28 = (some (.slice 27)) := by kernel_rfl
theorem und29 : Go.Program.underlying Try.prog 29 = (some (.slice 32)) := by kernel_rfl
theorem und3 : Go.Program.underlying Try.prog 3 = (some (.int (.i64))) := by kernel_rfl
theorem und30 : Go.Program.underlying Try.prog 30 = (some (.int (.u64))) := by kernel_rfl
theorem und39 : Go.Program.underlying Try.prog 39 = (some (.func #[27] #[4] false)) := by kernel_rfl
theorem und4 : Go.Program.underlying Try.prog 4 = (some (.bool)) := by kernel_rfl
theorem und41 : Go.Program.underlying Try.prog 41 = (some (.slice 75)) := by kernel_rfl
theorem und42 : Go.Program.underlying Try.prog 42 = (some (.slice 3)) := by kernel_rfl
theorem und43 : Go.Program.underlying Try.prog 43 = (some (.pointer 71)) := by kernel_rfl
theorem und5 : Go.Program.underlying Try.prog 5 = (some (.int (.u8))) := by kernel_rfl
theorem und55 : Go.Program.underlying Try.prog 55 = (some (.map 27 28)) := by kernel_rfl
theorem und62 : Go.Program.underlying Try.prog 62 = (some (.pointer 66)) := by kernel_rfl
theorem und63 : Go.Program.underlying Try.prog 63 = (some (.map 27 4)) := by kernel_rfl
theorem und64 : Go.Program.underlying Try.prog 64 = (some (.slice 94)) := by kernel_rfl
theorem und73 : Go.Program.underlying Try.prog 73 = (some (.slice 97)) := by kernel_rfl
theorem und76 : Go.Program.underlying Try.prog 76 = (some (.int (.i64))) := by kernel_rfl
theorem und83 : Go.Program.underlying Try.prog 83 = (some (.slice 4)) := by kernel_rfl
theorem und88 : Go.Program.underlying Try.prog 88 = (some (.func #[27] #[28] false)) := by kernel_rfl
theorem und9 : Go.Program.underlying Try.prog 9 = (some (.string)) := by kernel_rfl
theorem und99 : Go.Program.underlying Try.prog 99 = (some (.array 60 4)) := by kernel_rfl
theorem zer101 : zer Try.prog 101 = (some [(.int (.u8) 0), (.int (.u8) 0), (.int (.u8) 0), (.int (.u8) 0), (.int (.u8) 0), (.int (.u8) 0)]) := by kernel_rfl
theorem zer119 : zer Try.prog 119 = (some [(.int (.u8) 0), (.int (.u8) 0), (.int (.u8) 0), (.int (.u8) 0), (.int (.u8) 0), (.int (.u8) 0), (.int (.u8) 0), (.int (.u8) 0), (.int (.u8) 0), (.int (.u8) 0), (.int (.u8) 0), (.int (.u8) 0), (.int (.u8) 0), (.int (.u8) 0), (.int (.u8) 0), (.int (.u8) 0), (.int (.u8) 0), (.int (.u8) 0), (.int (.u8) 0), (.int (.u8) 0), (.int (.u8) 0), (.int (.u8) 0), (.int (.u8) 0), (.int (.u8) 0), (.int (.u8) 0), (.int (.u8) 0), (.int (.u8) 0), (.int (.u8) 0), (.int (.u8) 0), (.int (.u8) 0), (.int (.u8) 0), (.int (.u8) 0), (.lit (.nilIface))]) := by kernel_rfl
theorem zer134 : zer Try.prog 134 = (some [(.int (.u64) 0)]) := by kernel_rfl
theorem zer27 : zer Try.prog 27 = (some [(.int (.u8) 0), (.int (.u8) 0), (.int (.u8) 0), (.int (.u8) 0), (.int (.u8) 0), (.int (.u8) 0), (.int (.u8) 0), (.int (.u8) 0), (.int (.u8) 0), (.int (.u8) 0), (.int (.u8) 0), (.int (.u8) 0), (.int (.u8) 0), (.int (.u8) 0), (.int (.u8) 0), (.int (.u8) 0), (.int (.u8) 0), (.int (.u8) 0), (.int (.u8) 0), (.int (.u8) 0), (.int (.u8) 0), (.int (.u8) 0), (.int (.u8) 0), (.int (.u8) 0), (.int (.u8) 0), (.int (.u8) 0), (.int (.u8) 0), (.int (.u8) 0), (.int (.u8) 0), (.int (.u8) 0), (.int (.u8) 0), (.int (.u8) 0)]) := by kernel_rfl
theorem zer28 : zer Try.prog 28 = (some [(.slice [] (.nil))]) := by kernel_rfl
theorem zer3 : zer Try.prog 3 = (some [(.int (.i64) 0)]) := by kernel_rfl
theorem zer32 : zer Try.prog 32 = (some [(.int (.u8) 0), (.int (.u8) 0), (.int (.u8) 0), (.int (.u8) 0), (.int (.u8) 0), (.int (.u8) 0), (.int (.u8) 0), (.int (.u8) 0), (.int (.u8) 0), (.int (.u8) 0), (.int (.u8) 0), (.int (.u8) 0), (.int (.u8) 0), (.int (.u8) 0), (.int (.u8) 0), (.int (.u8) 0), (.int (.u8) 0), (.int (.u8) 0), (.int (.u8) 0), (.int (.u8) 0), (.int (.u8) 0), (.int (.u8) 0), (.int (.u8) 0), (.int (.u8) 0), (.int (.u8) 0), (.int (.u8) 0), (.int (.u8) 0), (.int (.u8) 0), (.int (.u8) 0), (.int (.u8) 0), (.int (.u8) 0), (.int (.u8) 0), (.slice [] (.nil))]) := by kernel_rfl
theorem zer57 : zer Try.prog 57 = (some [(.lit (.map none))]) := by kernel_rfl
theorem zer61 : zer Try.prog 61 = (some [(.slice [] (.nil)), (.slice [] (.nil)), (.int (.i64) 0)]) := by kernel_rfl
theorem zer66 : zer Try.prog 66 = (some [(.lit (.pointer none)), (.lit (.nilFunc)), (.lit (.map none)), (.slice [] (.nil)), (.slice [] (.nil))]) := by kernel_rfl
theorem zer71 : zer Try.prog 71 = (some [(.slice [] (.nil))]) := by kernel_rfl
theorem zer94 : zer Try.prog 94 = (some [(.int (.u8) 0), (.int (.u8) 0), (.int (.u8) 0), (.int (.u8) 0), (.int (.u8) 0), (.int (.u8) 0), (.int (.u8) 0), (.int (.u8) 0), (.int (.u8) 0), (.int (.u8) 0), (.int (.u8) 0), (.int (.u8) 0), (.int (.u8) 0), (.int (.u8) 0), (.int (.u8) 0), (.int (.u8) 0), (.int (.u8) 0), (.int (.u8) 0), (.int (.u8) 0), (.int (.u8) 0), (.int (.u8) 0), (.int (.u8) 0), (.int (.u8) 0), (.int (.u8) 0), (.int (.u8) 0), (.int (.u8) 0), (.int (.u8) 0), (.int (.u8) 0), (.int (.u8) 0), (.int (.u8) 0), (.int (.u8) 0), (.int (.u8) 0), (.slice [] (.nil))]) := by kernel_rfl
theorem zer97 : zer Try.prog 97 = (some [(.int (.i64) 0), (.int (.i64) 0), (.slice [] (.nil))]) := by kernel_rfl
theorem zer99 : zer Try.prog 99 = (some [(.bool false), (.bool false), (.bool false), (.bool false), (.bool false), (.bool false), (.bool false), (.bool false), (.bool false), (.bool false), (.bool false), (.bool false), (.bool false), (.bool false), (.bool false), (.bool false), (.bool false), (.bool false), (.bool false), (.bool false), (.bool false), (.bool false), (.bool false), (.bool false), (.bool false), (.bool false), (.bool false), (.bool false), (.bool false), (.bool false), (.bool false), (.bool false), (.bool false), (.bool false), (.bool false), (.bool false), (.bool false), (.bool false), (.bool false), (.bool false), (.bool false), (.bool false), (.bool false), (.bool false), (.bool false), (.bool false), (.bool false), (.bool false), (.bool false), (.bool false), (.bool false), (.bool false), (.bool false), (.bool false), (.bool false), (.bool false), (.bool false), (.bool false), (.bool false), (.bool false)]) := by kernel_rfl
theorem zeroG28 : zeroG Try.prog 28 = (some (.slice [] (.nil))) := by kernel_rfl
theorem zeroG3 : zeroG Try.prog 3 = (some (.int (.i64) 0)) := by kernel_rfl
theorem zeroG4 : zeroG Try.prog 4 = (some (.bool false)) := by kernel_rfl
set_option linter.defProp false in
def fbFd := And.intro aggT27 <| And.intro arr101 <| And.intro arr27 <| And.intro arr99 <| And.intro els28 <| And.intro els29 <| And.intro els41 <| And.intro els42 <| And.intro els64 <| And.intro els73 <| And.intro els83 <| And.intro elt113 <| And.intro elt28 <| And.intro elt29 <| And.intro elt41 <| And.intro elt42 <| And.intro elt64 <| And.intro elt73 <| And.intro elt83 <| And.intro fld32_0 <| And.intro fld32_1 <| And.intro fld57_0 <| And.intro fld61_0 <| And.intro fld61_1 <| And.intro fld61_2 <| And.intro fld66_0 <| And.intro fld66_1 <| And.intro fld66_2 <| And.intro fld66_3 <| And.intro fld66_4 <| And.intro fld71_0 <| And.intro fld75_0 <| And.intro fld75_1 <| And.intro fld75_2 <| And.intro fld75_3 <| And.intro fld94_0 <| And.intro fld94_1 <| And.intro fld97_0 <| And.intro fld97_1 <| And.intro fld97_2 <| And.intro keyT55 <| And.intro keyT63 <| And.intro keyT68 <| And.intro notInt105 <| And.intro notInt113 <| And.intro notInt114 <| And.intro notInt131 <| And.intro notInt133 <| And.intro notInt134 <| And.intro notInt138 <| And.intro notInt20 <| And.intro notInt23 <| And.intro notInt27 <| And.intro notInt28 <| And.intro notInt29 <| And.intro notInt3 <| And.intro notInt30 <| And.intro notInt32 <| And.intro notInt34 <| And.intro notInt39 <| And.intro notInt41 <| And.intro notInt42 <| And.intro notInt43 <| And.intro notInt55 <| And.intro notInt61 <| And.intro notInt62 <| And.intro notInt63 <| And.intro notInt64 <| And.intro notInt73 <| And.intro notInt75 <| And.intro notInt83 <| And.intro notInt88 <| And.intro plc101 <| And.intro plc119 <| And.intro plc27 <| And.intro plc32 <| And.intro plc57 <| And.intro plc61 <| And.intro plc66 <| And.intro plc71 <| And.intro plc94 <| And.intro tab134 <| And.intro tab23 <| And.intro tab27 <| And.intro tab28 <| And.intro tab29 <| And.intro tab3 <| And.intro tab32 <| And.intro tab39 <| And.intro tab4 <| And.intro tab42 <| And.intro tab5 <| And.intro tab55 <| And.intro tab61 <| And.intro tab63 <| And.intro tab64 <| And.intro tab73 <| And.intro tab75 <| And.intro tab97 <| And.intro und101 <| And.intro und105 <| And.intro und113 <| And.intro und114 <| And.intro und117 <| And.intro und124 <| And.intro und131 <| And.intro und133 <| And.intro und134 <| And.intro und138 <| And.intro und20 <| And.intro und23 <| And.intro und27 <| And.intro und28 <| And.intro und29 <| And.intro und3 <| And.intro und30 <| And.intro und39 <| And.intro und4 <| And.intro und41 <| And.intro und42 <| And.intro und43 <| And.intro und5 <| And.intro und55 <| And.intro und62 <| And.intro und63 <| And.intro und64 <| And.intro und73 <| And.intro und76 <| And.intro und83 <| And.intro und88 <| And.intro und9 <| And.intro und99 <| And.intro zer101 <| And.intro zer119 <| And.intro zer134 <| And.intro zer27 <| And.intro zer28 <| And.intro zer3 <| And.intro zer32 <| And.intro zer57 <| And.intro zer61 <| And.intro zer66 <| And.intro zer71 <| And.intro zer94 <| And.intro zer97 <| And.intro zer99 <| And.intro zeroG28 <| And.intro zeroG3 <| zeroG4
end Gv.Try

