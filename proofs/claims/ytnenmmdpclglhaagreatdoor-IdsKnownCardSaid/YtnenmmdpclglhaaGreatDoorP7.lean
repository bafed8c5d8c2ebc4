import Derived.Test.YtnenmmdpclglhaaGreatDoorP5
import Derived.Test.YtnenmmdpclglhaaGreatDoorProg
import Derived.KernelRfl
import Derived.Test.YtnenmmdpclglhaaGreatDoorP6
import Derived.Shelf.SlSortCmp.WholeK
set_option maxRecDepth 100000
set_option linter.defProp false
namespace Gv.Tryz
open Go Gv Go.Proofs
namespace S
abbrev t (n : Nat) : Operand := .tmp n
abbrev mv (d s : Nat) : SOp := .mk (some d) (.move (.tmp s)) none
abbrev sv (d s : Nat) : SOp := .mk (some d) (.assign (.tmp s)) none
abbrev sc (d : Nat) (n : Int) : SOp := .mk (some d) (.assign (.const (.int .i64 n))) none
abbrev ld (d k s : Nat) : SOp := .mk (some d) (.load k (.tmp s)) none
abbrev ia (d k a b : Nat) : SOp := .mk (some d) (.indexAddr k (.tmp a) (.tmp b)) none
abbrev fa (d k a i : Nat) : SOp := .mk (some d) (.fieldAddr k (.tmp a) i) none
abbrev bi (d : Nat) (o : BinOp) (k a b u : Nat) : SOp := .mk (some d) (.binOp o k (.tmp a) (.tmp b) u) none
abbrev bc (d : Nat) (o : BinOp) (k a : Nat) (n : Int) (u : Nat) : SOp := .mk (some d) (.binOp o k (.tmp a) (.const (.int .i64 n)) u) none
abbrev ln (d a k : Nat) : SOp := .mk (some d) (.call (.mk (.builtin .len) #[.tmp a] #[k])) none
abbrev c1 (d f a k : Nat) : SOp := .mk (some d) (.call (.mk (.value (.func f)) #[.tmp a] #[k])) none
abbrev c2 (d f a b k l : Nat) : SOp := .mk (some d) (.call (.mk (.value (.func f)) #[.tmp a, .tmp b] #[k, l])) none
abbrev ap (d a b k : Nat) : SOp := .mk (some d) (.call (.mk (.builtin .append) #[.tmp a, .tmp b] #[k, k])) none
abbrev b1 (d k a : Nat) : SOp := .mk (some d) (.buildSlice k 1 #[(0, .tmp a)]) none
abbrev mg (d s g : Nat) (b : Bool) : SOp := .mk (some d) (.move (.tmp s)) (some (g, b))
abbrev sn (d : Nat) : SOp := .mk (some d) (.assign (.const (.slice none 0 0))) none
abbrev sb (d : Nat) (b : Bool) : SOp := .mk (some d) (.assign (.const (.bool b))) none
abbrev nt (d a : Nat) : SOp := .mk (some d) (.unOp .not 4 (.tmp a)) none
abbrev ex (d a i : Nat) : SOp := .mk (some d) (.extract (.tmp a) i) none
abbrev pk (d a b : Nat) (c : Bool) : SOp := .mk (some d) (.pick (.tmp a) (.tmp b) (.const (.bool c))) none
abbrev st (k a b : Nat) : SOp := .mk none (.store k (.tmp a) (.tmp b)) none
end S
abbrev SC := SCode
section
open S
def s4_0 : SC := .reg [(sb 0 false)]
def s4_1 : SC := .reg [(.mk (some 23) (.call (.mk (.value (.func 6)) #[] #[])) none), (sv 1 23)]
def s4_2 : SC := .reg [(.mk (some 25) (.call (.mk (.value (.func 7)) #[(.const (.int (.i64) 0))] #[3])) none), (mv 24 25), (ex 26 24 0), (ex 27 24 1), (sv 2 26), (sv 3 27)]
def s4_3 : SC := .reg [(.mk (some 29) (.call (.mk (.value (.func 7)) #[(.const (.int (.i64) 601))] #[3])) none), (mv 28 29), (ex 30 28 0), (ex 31 28 1), (sv 4 30), (sv 5 31)]
def s4_4 : SC := .reg [(.mk (some 33) (.call (.mk (.value (.func 7)) #[(.const (.int (.i64) 1))] #[3])) none), (mv 32 33), (ex 34 32 0), (ex 35 32 1), (sv 6 34), (sv 7 35)]
def s4_5 : SC := .reg [(.mk (some 36) (.call (.mk (.value (.func 8)) #[] #[])) none), (nt 37 36), (mv 38 37), (mg 39 1 38 false), (.mk (some 40) (.binOp (.eql) 24 (t 39) (.const (.pointer none)) 24) (some (38, false))), (.mk (some 41) (.pick (t 38) (.const (.bool true)) (t 40)) none), (mv 42 41), (mg 43 6 42 false), (.mk (some 44) (.binOp (.eql) 26 (t 43) (.const (.pointer none)) 26) (some (42, false))), (.mk (some 45) (.pick (t 42) (.const (.bool true)) (t 44)) none)]
def s4_6 : SC := .reg [(sb 0 false)]
def s4_7 : SC := .cond (t 45) (.seq s4_6 (.ret)) (.skip)
def s4_8 : SC := .reg [(.mk (some 46) (.build 44 #[(0, (.const (.int (.u8) 1)))]) none), (.mk (some 47) (.build 58 #[(0, (t 46))]) none), (.mk (some 48) (.build 44 #[(0, (.const (.int (.u8) 2)))]) none), (.mk (some 49) (.build 44 #[(0, (.const (.int (.u8) 1)))]) none), (b1 50 33 49), (.mk (some 51) (.build 58 #[(0, (t 48)), (1, (t 50))]) none), (.mk (some 52) (.buildSlice 32 2 #[(0, (t 47)), (1, (t 51))]) none), (.mk (some 53) (.build 44 #[(0, (.const (.int (.u8) 2)))]) none), (b1 54 33 53), (.mk (some 55) (.build 35 #[(2, (.const (.int (.i64) 1))), (0, (t 52)), (1, (t 54))]) none), (.mk (some 8) (.alloc 35) none), (st 35 8 55)]
def s4_9 : SC := .reg [(mv 56 1), (fa 57 35 8 0), (ld 58 32 57), (c2 59 11 56 58 24 32)]
def s4_10 : SC := .reg [(mv 60 6), (mv 61 1), (ld 62 35 8), (.mk (some 63) (.call (.mk (.value (.func 12)) #[(t 60), (t 61), (t 62)] #[26, 24, 35])) none), (sv 9 63)]
def s4_11 : SC := .reg [(.mk (some 64) (.build 44 #[(0, (.const (.int (.u8) 1)))]) none), (b1 65 33 64), (fa 66 35 8 1), (st 33 66 65)]
def s4_12 : SC := .reg [(mv 67 6), (mv 68 1), (ld 69 35 8), (.mk (some 70) (.call (.mk (.value (.func 12)) #[(t 67), (t 68), (t 69)] #[26, 24, 35])) none), (sv 10 70)]
def s4_13 : SC := .reg [(mv 71 6), (mv 72 1), (.mk (some 73) (.build 44 #[(0, (.const (.int (.u8) 9)))]) none), (.mk (some 74) (.build 44 #[(0, (.const (.int (.u8) 1)))]) none), (.mk (some 75) (.buildSlice 33 2 #[(0, (t 73)), (1, (t 74))]) none), (.mk (some 76) (.call (.mk (.value (.func 18)) #[(t 71), (t 72), (t 75)] #[26, 24, 33])) none), (sv 11 76)]
def s4_14 : SC := .reg [(mv 78 11), (c1 79 22 78 28), (mv 77 79), (ex 80 77 0), (ex 81 77 1), (.mk (some 12) (.alloc 44) none), (st 44 12 80), (sv 13 81)]
def s4_15 : SC := .reg [(mv 82 6), (mv 83 1), (.mk (some 84) (.build 44 #[(0, (.const (.int (.u8) 2)))]) none), (.mk (some 85) (.build 44 #[(0, (.const (.int (.u8) 7)))]) none), (.mk (some 86) (.buildSlice 33 2 #[(0, (t 84)), (1, (t 85))]) none), (.mk (some 87) (.call (.mk (.value (.func 18)) #[(t 82), (t 83), (t 86)] #[26, 24, 33])) none), (sv 14 87)]
def s4_16 : SC := .reg [(mv 89 6), (.mk (some 90) (.call (.mk (.value (.func 23)) #[(t 89), (.const (.int (.i64) 0))] #[26, 3])) none), (mv 88 90), (ex 91 88 0), (ex 92 88 1), (.mk (some 15) (.alloc 44) none), (st 44 15 91), (sv 16 92)]
def s4_17 : SC := .reg [(mv 94 6), (.mk (some 95) (.call (.mk (.value (.func 23)) #[(t 94), (.const (.int (.i64) 1099511627776))] #[26, 3])) none), (mv 93 95), (ex 96 93 0), (ex 97 93 1), (.mk (some 17) (.alloc 44) none), (st 44 17 96), (sv 18 97)]
def s4_18 : SC := .reg [(mv 99 6), (.mk (some 100) (.build 44 #[(0, (.const (.int (.u8) 2)))]) none), (c2 101 17 99 100 26 44), (mv 98 101), (ex 102 98 0), (ex 103 98 1), (sv 19 102), (sv 20 103)]
def s4_19 : SC := .reg [(mv 104 6), (c1 105 24 104 26), (sv 21 105)]
def s4_20 : SC := .reg [(mv 106 6), (c1 107 25 106 26), (sv 22 107)]
def s4_21 : SC := .reg [(mv 108 3), (c1 109 19 108 28), (bc 110 .eql 52 109 1 52), (mv 111 110), (mg 112 5 111 true), (.mk (some 113) (.call (.mk (.value (.func 19)) #[(t 112)] #[28])) (some (111, true))), (.mk (some 114) (.binOp (.eql) 52 (t 113) (.const (.int (.i64) 1)) 52) (some (111, true))), (pk 115 111 114 false), (mv 116 115), (mg 117 9 116 true), (.mk (some 118) (.call (.mk (.value (.func 19)) #[(t 117)] #[28])) (some (116, true))), (.mk (some 119) (.binOp (.eql) 52 (t 118) (.const (.int (.i64) 13)) 52) (some (116, true))), (pk 120 116 119 false), (mv 121 120), (mg 122 10 121 true), (.mk (some 123) (.binOp (.eql) 28 (t 122) (.const (.nilIface)) 28) (some (121, true))), (pk 124 121 123 false), (mv 125 124), (mg 126 11 125 true), (.mk (some 127) (.call (.mk (.value (.func 19)) #[(t 126)] #[28])) (some (125, true))), (.mk (some 128) (.binOp (.eql) 52 (t 127) (.const (.int (.i64) 19)) 52) (some (125, true))), (pk 129 125 128 false), (mv 130 129), (mg 131 13 130 true), (pk 132 130 131 false), (mv 133 132), (.mk (some 134) (.load 44 (t 12)) (some (133, true))), (.mk (some 135) (.build 44 #[(0, (.const (.int (.u8) 1)))]) (some (133, true))), (.mk (some 136) (.binOp (.eql) 44 (t 134) (t 135) 44) (some (133, true))), (pk 137 133 136 false), (mv 138 137), (mg 139 14 138 true), (.mk (some 140) (.binOp (.eql) 28 (t 139) (.const (.nilIface)) 28) (some (138, true))), (pk 141 138 140 false), (mv 142 141), (.mk (some 143) (.load 44 (t 15)) (some (142, true))), (.mk (some 144) (.build 44 #[(0, (.const (.int (.u8) 1)))]) (some (142, true))), (.mk (some 145) (.binOp (.eql) 44 (t 143) (t 144) 44) (some (142, true))), (pk 146 142 145 false), (mv 147 146), (mg 148 16 147 true), (pk 149 147 148 false), (mv 150 149), (mg 151 18 150 true), (.mk (some 152) (.unOp (.not) 4 (t 151)) (some (150, true))), (pk 153 150 152 false), (mv 154 153), (mg 155 20 154 true), (.mk (some 156) (.unOp (.not) 4 (t 155)) (some (154, true))), (pk 157 154 156 false), (mv 158 157), (mg 159 21 158 true), (.mk (some 160) (.call (.mk (.builtin (.len)) #[(t 159)] #[62])) (some (158, true))), (.mk (some 161) (.binOp (.eql) 3 (t 160) (.const (.int (.i64) 1)) 3) (some (158, true))), (pk 162 158 161 false), (mv 163 162), (mg 164 21 163 true), (.mk (some 165) (.indexAddr 62 (t 164) (.const (.int (.i64) 0))) (some (163, true))), (.mk (some 166) (.load 65 (t 165)) (some (163, true))), (.mk (some 167) (.build 65 #[]) (some (163, true))), (.mk (some 168) (.binOp (.eql) 65 (t 166) (t 167) 65) (some (163, true))), (pk 169 163 168 false), (mv 170 169), (mg 171 22 170 true), (.mk (some 172) (.call (.mk (.builtin (.len)) #[(t 171)] #[62])) (some (170, true))), (.mk (some 173) (.binOp (.eql) 3 (t 172) (.const (.int (.i64) 1)) 3) (some (170, true))), (pk 174 170 173 false), (mv 175 174), (mg 176 6 175 true), (.mk (some 177) (.call (.mk (.value (.func 26)) #[(t 176)] #[26])) (some (175, true))), (.mk (some 178) (.binOp (.eql) 3 (t 177) (.const (.int (.i64) 0)) 3) (some (175, true))), (pk 179 175 178 false), (sv 0 179)]
def s4_22 : SC := .seq s4_19 (.seq s4_20 (.seq s4_21 (.ret)))
def s4_23 : SC := .seq s4_16 (.seq s4_17 (.seq s4_18 s4_22))
def s4_24 : SC := .seq s4_13 (.seq s4_14 (.seq s4_15 s4_23))
def s4_25 : SC := .seq s4_10 (.seq s4_11 (.seq s4_12 s4_24))
def s4_26 : SC := .seq (.seq s4_5 s4_7) (.seq s4_8 (.seq s4_9 s4_25))
def s4_27 : SC := .seq s4_2 (.seq s4_3 (.seq s4_4 s4_26))
def s4 : SC := .seq s4_0 (.seq s4_1 s4_27)
def e4 := ai s4_0.eq_1 <| ai s4_1.eq_1 <| ai s4_2.eq_1 <| ai s4_3.eq_1 <| ai s4_4.eq_1 <| ai s4_5.eq_1 <| ai s4_6.eq_1 <| ai s4_7.eq_1 <| ai s4_8.eq_1 <| ai s4_9.eq_1 <| ai s4_10.eq_1 <| ai s4_11.eq_1 <| ai s4_12.eq_1 <| ai s4_13.eq_1 <| ai s4_14.eq_1 <| ai s4_15.eq_1 <| ai s4_16.eq_1 <| ai s4_17.eq_1 <| ai s4_18.eq_1 <| ai s4_19.eq_1 <| ai s4_20.eq_1 <| ai s4_21.eq_1 <| ai s4_22.eq_1 <| ai s4_23.eq_1 <| ai s4_24.eq_1 <| ai s4_25.eq_1 <| ai s4_26.eq_1 <| s4_27.eq_1
theorem h4 : FnS Tryz.prog 4 ⟨[], []⟩ 180 [(.tmp 0)] s4 := by refine .mk' Tryz.func4 ?_ ?_ ?_ ?_ ?_ ?_ <;> kernel_rfl
def s6_0 : SC := .reg [(.mk (some 0) (.assign (.const (.pointer none))) none)]
def s6_1 : SC := .reg [(.mk (some 1) (.makeMap 88 none) none), (.mk (some 2) (.build 90 #[(0, (t 1))]) none), (.mk (some 3) (.box 90 (t 2)) none), (sv 0 3)]
def s6 : SC := .seq s6_0 (.seq s6_1 (.ret))
def e6 := ai s6_0.eq_1 <| s6_1.eq_1
theorem h6 : FnS Tryz.prog 6 ⟨[], []⟩ 4 [(.tmp 0)] s6 := by refine .mk' Tryz.func6 ?_ ?_ ?_ ?_ ?_ ?_ <;> kernel_rfl
def s7_0 : SC := .reg [(.mk (some 2) (.assign (.const (.pointer none))) none), (.mk (some 3) (.assign (.const (.nilIface))) none)]
def s7_1 : SC := .reg [(mv 4 0), (bc 5 .lss 3 4 1 3), (mv 6 5), (mg 7 0 6 false), (.mk (some 8) (.binOp (.gtr) 3 (t 7) (.const (.int (.i64) 600)) 3) (some (6, false))), (.mk (some 9) (.pick (t 6) (.const (.bool true)) (t 8)) none)]
def s7_2 : SC := .reg [(.mk (some 10) (.makeInterface 52 (.const (.int (.i64) 1))) none), (.mk (some 2) (.assign (.const (.pointer none))) none), (sv 3 10)]
def s7_3 : SC := .cond (t 9) (.seq s7_2 (.ret)) (.skip)
def s7_4 : SC := .reg [(mv 11 0), (.mk (some 12) (.makeMap 91 none) none), (.mk (some 13) (.build 93 #[(0, (t 11)), (3, (t 12))]) none), (.mk (some 14) (.box 93 (t 13)) none), (sv 2 14), (.mk (some 3) (.assign (.const (.nilIface))) none)]
def s7_5 : SC := .seq (.seq s7_1 s7_3) (.seq s7_4 (.ret))
def s7 : SC := .seq s7_0 s7_5
def e7 := ai s7_0.eq_1 <| ai s7_1.eq_1 <| ai s7_2.eq_1 <| ai s7_3.eq_1 <| ai s7_4.eq_1 <| s7_5.eq_1
theorem h7 : FnS Tryz.prog 7 ⟨[], []⟩ 15 [(.tmp 2), (.tmp 3)] s7 := by refine .mk' Tryz.func7 ?_ ?_ ?_ ?_ ?_ ?_ <;> kernel_rfl
def s8_0 : SC := .reg [(sb 0 false)]
def s8_1 : SC := .reg [(.mk (some 9) (.call (.mk (.value (.func 6)) #[] #[])) none), (sv 1 9)]
def s8_2 : SC := .reg [(.mk (some 11) (.call (.mk (.value (.func 7)) #[(.const (.int (.i64) 5))] #[3])) none), (mv 10 11), (ex 12 10 0), (ex 13 10 1), (sv 2 12), (sv 3 13)]
def s8_3 : SC := .reg [(mv 14 3), (.mk (some 15) (.binOp (.neq) 28 (t 14) (.const (.nilIface)) 28) none), (mv 16 15), (mg 17 2 16 false), (.mk (some 18) (.binOp (.eql) 26 (t 17) (.const (.pointer none)) 26) (some (16, false))), (.mk (some 19) (.pick (t 16) (.const (.bool true)) (t 18)) none), (mv 20 19), (mg 21 1 20 false), (.mk (some 22) (.binOp (.eql) 24 (t 21) (.const (.pointer none)) 24) (some (20, false))), (.mk (some 23) (.pick (t 20) (.const (.bool true)) (t 22)) none)]
def s8_4 : SC := .reg [(sb 0 false)]
def s8_5 : SC := .cond (t 23) (.seq s8_4 (.ret)) (.skip)
def s8_6 : SC := .reg [(.mk (some 24) (.build 44 #[(0, (.const (.int (.u8) 1)))]) none), (.mk (some 25) (.build 58 #[(0, (t 24))]) none), (.mk (some 26) (.build 44 #[(0, (.const (.int (.u8) 2)))]) none), (.mk (some 27) (.build 44 #[(0, (.const (.int (.u8) 1)))]) none), (b1 28 33 27), (.mk (some 29) (.build 58 #[(0, (t 26)), (1, (t 28))]) none), (.mk (some 30) (.buildSlice 32 2 #[(0, (t 25)), (1, (t 29))]) none), (.mk (some 31) (.build 35 #[(2, (.const (.int (.i64) 2))), (0, (t 30))]) none), (.mk (some 4) (.alloc 35) none), (st 35 4 31)]
def s8_7 : SC := .reg [(mv 32 1), (fa 33 35 4 0), (ld 34 32 33), (c2 35 11 32 34 24 32), (.mk (some 36) (.binOp (.neq) 28 (t 35) (.const (.nilIface)) 28) none), (mv 37 36), (mg 38 2 37 false), (mg 39 1 37 false), (.mk (some 40) (.load 35 (t 4)) (some (37, false))), (.mk (some 41) (.call (.mk (.value (.func 12)) #[(t 38), (t 39), (t 40)] #[26, 24, 35])) (some (37, false))), (.mk (some 42) (.binOp (.neq) 28 (t 41) (.const (.nilIface)) 28) (some (37, false))), (.mk (some 43) (.pick (t 37) (.const (.bool true)) (t 42)) none), (mv 44 43), (mg 45 2 44 false), (mg 46 1 44 false), (.mk (some 47) (.build 44 #[(0, (.const (.int (.u8) 1)))]) (some (44, false))), (.mk (some 48) (.buildSlice 33 1 #[(0, (t 47))]) (some (44, false))), (.mk (some 49) (.build 35 #[(2, (.const (.int (.i64) 1))), (1, (t 48))]) (some (44, false))), (.mk (some 50) (.call (.mk (.value (.func 12)) #[(t 45), (t 46), (t 49)] #[26, 24, 35])) (some (44, false))), (.mk (some 51) (.binOp (.neq) 28 (t 50) (.const (.nilIface)) 28) (some (44, false))), (.mk (some 52) (.pick (t 44) (.const (.bool true)) (t 51)) none)]
def s8_8 : SC := .reg [(sb 0 false)]
def s8_9 : SC := .cond (t 52) (.seq s8_8 (.ret)) (.skip)
def s8_10 : SC := .reg [(mv 54 2), (.mk (some 55) (.build 44 #[(0, (.const (.int (.u8) 1)))]) none), (c2 56 17 54 55 26 44), (mv 53 56), (ex 57 53 0), (ex 58 53 1), (sv 5 57), (sv 6 58)]
def s8_11 : SC := .reg [(mv 60 2), (.mk (some 61) (.build 44 #[(0, (.const (.int (.u8) 2)))]) none), (c2 62 17 60 61 26 44), (mv 59 62), (ex 63 59 0), (ex 64 59 1), (sv 7 63), (sv 8 64)]
def s8_12 : SC := .reg [(mv 65 5), (bc 66 .eql 3 65 0 3), (mv 67 66), (mg 68 6 67 true), (pk 69 67 68 false), (mv 70 69), (mg 71 7 70 true), (.mk (some 72) (.binOp (.eql) 3 (t 71) (.const (.int (.i64) 1099511627776)) 3) (some (70, true))), (pk 73 70 72 false), (mv 74 73), (mg 75 8 74 true), (pk 76 74 75 false), (mv 77 76), (mg 78 2 77 true), (.mk (some 79) (.call (.mk (.value (.func 15)) #[(t 78)] #[26])) (some (77, true))), (.mk (some 80) (.binOp (.eql) 3 (t 79) (.const (.int (.i64) 1)) 3) (some (77, true))), (pk 81 77 80 false), (mv 82 81), (mg 83 2 82 true), (.mk (some 84) (.call (.mk (.value (.func 26)) #[(t 83)] #[26])) (some (82, true))), (.mk (some 85) (.binOp (.eql) 3 (t 84) (.const (.int (.i64) 1)) 3) (some (82, true))), (pk 86 82 85 false), (sv 0 86)]
def s8_13 : SC := .seq s8_10 (.seq s8_11 (.seq s8_12 (.ret)))
def s8_14 : SC := .seq s8_6 (.seq (.seq s8_7 s8_9) s8_13)
def s8_15 : SC := .seq s8_2 (.seq (.seq s8_3 s8_5) s8_14)
def s8 : SC := .seq s8_0 (.seq s8_1 s8_15)
def e8 := ai s8_0.eq_1 <| ai s8_1.eq_1 <| ai s8_2.eq_1 <| ai s8_3.eq_1 <| ai s8_4.eq_1 <| ai s8_5.eq_1 <| ai s8_6.eq_1 <| ai s8_7.eq_1 <| ai s8_8.eq_1 <| ai s8_9.eq_1 <| ai s8_10.eq_1 <| ai s8_11.eq_1 <| ai s8_12.eq_1 <| ai s8_13.eq_1 <| ai s8_14.eq_1 <| s8_15.eq_1
theorem h8 : FnS Tryz.prog 8 ⟨[], []⟩ 87 [(.tmp 0)] s8 := by refine .mk' Tryz.func8 ?_ ?_ ?_ ?_ ?_ ?_ <;> kernel_rfl
def s11_0 : SC := .reg [(.mk (some 4) (.assign (.const (.nilIface))) none)]
def s11_1 : SC := .reg [(mv 8 0), (mv 9 1), (.mk (some 10) (.build 35 #[(0, (t 9)), (2, (.const (.int (.i64) 2)))]) none), (c2 11 37 8 10 24 35), (mv 7 11), (ex 12 7 0), (ex 13 7 1), (sv 5 12), (sv 6 13)]
def s11_2 : SC := .reg [(mv 14 6), (.mk (some 15) (.binOp (.eql) 28 (t 14) (.const (.nilIface)) 28) none)]
def s11_3 : SC := .reg [(mv 16 0), (mv 17 5), (.mk (some 18) (.nilCheck (t 16)) none), (fa 19 90 18 0), (st 88 19 17)]
def s11_4 : SC := .seq s11_2 (.cond (t 15) s11_3 (.skip))
def s11_5 : SC := .reg [(mv 20 6), (sv 4 20)]
def s11_6 : SC := .seq s11_1 (.seq s11_4 (.seq s11_5 (.ret)))
def s11 : SC := .seq s11_0 s11_6
def e11 := ai s11_0.eq_1 <| ai s11_1.eq_1 <| ai s11_2.eq_1 <| ai s11_3.eq_1 <| ai s11_4.eq_1 <| ai s11_5.eq_1 <| s11_6.eq_1
theorem h11 : FnS Tryz.prog 11 ⟨[], []⟩ 21 [(.tmp 4)] s11 := by refine .mk' Tryz.func11 ?_ ?_ ?_ ?_ ?_ ?_ <;> kernel_rfl
def s12_0 : SC := .reg [(.mk (some 5) (.box 35 (t 2)) none), (.mk (some 6) (.assign (.const (.nilIface))) none)]
def s12_1 : SC := .reg [(mv 15 1), (.mk (some 16) (.binOp (.eql) 24 (t 15) (.const (.pointer none)) 24) none)]
def s12_2 : SC := .reg [(.mk (some 17) (.makeInterface 52 (.const (.int (.i64) 1))) none), (sv 6 17)]
def s12_3 : SC := .cond (t 16) (.seq s12_2 (.ret)) (.skip)
def s12_4 : SC := .drw [((mv 18 0), 0), ((.mk (some 19) (.nilCheck (t 18)) none), 0), ((fa 20 93 19 1), 0), ((ld 21 33 20), 0), ((mv 22 0), 0), ((.mk (some 23) (.nilCheck (t 22)) none), 0), ((fa 24 93 23 2), 0), ((ld 25 33 24), 0), ((sv 7 21), 0), ((sv 8 25), 0)]
def s12_5 : SC := .reg [(fa 26 35 5 2), (ld 27 3 26), (bc 28 .eql 3 27 1 3)]
def s12_6 : SC := .reg [(mv 29 1), (fa 30 35 5 1), (ld 31 33 30), (mv 32 0), (.mk (some 33) (.makeFunc (.func 39) #[(t 32)] #[]) none), (.mk (some 34) (.call (.mk (.value (.func 38)) #[(t 29), (t 31), (t 33)] #[24, 33, 101])) none), (sv 9 34)]
def s12_7 : SC := .reg [(mv 35 7), (ln 36 35 33), (mv 37 9), (ln 38 37 33), (bi 39 .add 3 36 38 3), (mv 40 0), (.mk (some 41) (.nilCheck (t 40)) none), (fa 42 93 41 0), (ld 43 3 42), (bi 44 .gtr 3 39 43 3)]
def s12_8 : SC := .reg [(.mk (some 45) (.makeInterface 52 (.const (.int (.i64) 13))) none), (sv 6 45)]
def s12_9 : SC := .cond (t 44) (.seq s12_8 (.ret)) (.skip)
def s12_10 : SC := .reg [(mv 46 7), (mv 47 9), (.mk (some 48) (.buildSlice 133 2 #[(0, (t 46)), (1, (t 47))]) none), (c1 49 40 48 133), (mv 50 8), (mv 51 9), (c2 52 41 50 51 33 33), (sv 7 49), (sv 8 52)]
def s12_11 : SC := .seq s12_6 (.seq (.seq s12_7 s12_9) s12_10)
def s12_12 : SC := .seq s12_5 (.cond (t 28) s12_11 (.skip))
def s12_13 : SC := .reg [(.mk (some 53) (.build 93 #[]) none), (.mk (some 54) (.box 93 (t 53)) none), (.mk (some 10) (.alloc 26) none), (st 26 10 54)]
def s12_14 : SC := .reg [(ld 55 26 10), (mv 56 7), (mv 57 8), (.mk (some 58) (.call (.mk (.value (.func 42)) #[(t 55), (t 56), (t 57)] #[26, 33, 33])) none)]
def s12_15 : SC := .reg [(fa 59 35 5 1), (ld 60 33 59), (c1 61 43 60 33), (sv 11 61)]
def s12_16 : SC := .reg [(fa 62 35 5 0), (ld 63 32 62), (ln 64 63 32), (.mk (some 65) (.move (.const (.int (.i64) 0))) none)]
def s12_17 : SC := .reg [(bi 66 .lss 3 65 64 3)]
def s12_18 : SC := .reg [(ia 67 32 63 65), (ld 68 58 67), (.mk (some 13) (.alloc 58) none), (st 58 13 68)]
def s12_19 : SC := .reg [(mv 69 11), (fa 70 58 13 0), (ld 71 44 70), (b1 72 33 71), (ap 73 69 72 33), (sv 11 73)]
def s12_20 : SC := .reg [(bc 74 .add 3 65 1 3), (mv 65 74)]
def s12_21 : SC := .seq (.block 1 (.seq s12_18 s12_19)) s12_20
def s12_22 : SC := .seq (.cond (t 66) (.skip) (.exit 0)) s12_21
def s12_23 : SC := .seq s12_16 (.block 0 (.loop (.seq s12_17 s12_22)))
def s12_24 : SC := .reg [(mv 75 1), (mv 76 11), (.mk (some 77) (.makeFunc (.func 44) #[] #[(t 10)]) none), (.mk (some 78) (.call (.mk (.value (.func 38)) #[(t 75), (t 76), (t 77)] #[24, 33, 101])) none), (sv 14 78)]
def s12_25 : SC := .reg [(mv 79 0), (mv 80 7), (mv 81 8), (mv 82 14), (.mk (some 83) (.buildSlice 133 2 #[(0, (t 81)), (1, (t 82))]) none), (c1 84 40 83 133), (.mk (some 85) (.call (.mk (.value (.func 42)) #[(t 79), (t 80), (t 84)] #[26, 33, 33])) none)]
def s12_26 : SC := .reg [(.mk (some 6) (.assign (.const (.nilIface))) none)]
def s12_27 : SC := .seq s12_24 (.seq s12_25 (.seq s12_26 (.ret)))
def s12_28 : SC := .seq s12_14 (.seq s12_15 (.seq s12_23 s12_27))
def s12_29 : SC := .seq s12_4 (.seq s12_12 (.seq s12_13 s12_28))
def s12 : SC := .seq s12_0 (.seq (.seq s12_1 s12_3) s12_29)
def e12 := ai s12_0.eq_1 <| ai s12_1.eq_1 <| ai s12_2.eq_1 <| ai s12_3.eq_1 <| ai s12_4.eq_1 <| ai s12_5.eq_1 <| ai s12_6.eq_1 <| ai s12_7.eq_1 <| ai s12_8.eq_1 <| ai s12_9.eq_1 <| ai s12_10.eq_1 <| ai s12_11.eq_1 <| ai s12_12.eq_1 <| ai s12_13.eq_1 <| ai s12_14.eq_1 <| ai s12_15.eq_1 <| ai s12_16.eq_1 <| ai s12_17.eq_1 <| ai s12_18.eq_1 <| ai s12_19.eq_1 <| ai s12_20.eq_1 <| ai s12_21.eq_1 <| ai s12_22.eq_1 <| ai s12_23.eq_1 <| ai s12_24.eq_1 <| ai s12_25.eq_1 <| ai s12_26.eq_1 <| ai s12_27.eq_1 <| ai s12_28.eq_1 <| s12_29.eq_1
theorem h12 : FnS Tryz.prog 12 ⟨[5], [(3, [(0, 0), (1, 0), (2, 0), (3, 0), (4, 0), (5, 0), (6, 0), (7, 0), (8, 0), (9, 0)])]⟩ 86 [(.tmp 6)] s12 := by refine .mk' Tryz.func12 ?_ ?_ ?_ ?_ ?_ ?_ <;> kernel_rfl
def s15_0 : SC := .reg [(sc 2 0)]
def s15_1 : SC := .reg [(mv 3 0), (.mk (some 4) (.nilCheck (t 3)) none), (fa 5 93 4 1), (ld 6 33 5), (ln 7 6 33), (sv 2 7)]
def s15 : SC := .seq s15_0 (.seq s15_1 (.ret))
def e15 := ai s15_0.eq_1 <| s15_1.eq_1
theorem h15 : FnS Tryz.prog 15 ⟨[], []⟩ 8 [(.tmp 2)] s15 := by refine .mk' Tryz.func15 ?_ ?_ ?_ ?_ ?_ ?_ <;> kernel_rfl
def s16_0 : SC := .reg [(sn 4)]
def s16_1 : SC := .reg [(.mk (some 10) (.makeMap 88 none) none), (.mk (some 5) (.alloc 88) none), (st 88 5 10)]
def s16_2 : SC := .reg [(mv 11 0), (.mk (some 12) (.nilCheck (t 11)) none), (fa 13 90 12 0), (ld 14 88 13), (.mk (some 15) (.range 88 (t 14)) none)]
def s16_3 : SC := .reg [(.mk (some 16) (.next (t 15) false) none), (ex 17 16 0)]
def s16_4 : SC := .reg [(.mk (some 18) (.entry (t 15)) none), (ex 19 18 0), (ex 20 18 1), (.mk (some 6) (.alloc 44) none), (st 44 6 19), (sv 7 20)]
def s16_5 : SC := .reg [(mv 21 7), (ln 22 21 33), (.mk (some 23) (.move (.const (.int (.i64) 0))) none)]
def s16_6 : SC := .reg [(bi 24 .lss 3 23 22 3)]
def s16_7 : SC := .reg [(ia 25 33 21 23), (ld 26 44 25), (.mk (some 9) (.alloc 44) none), (st 44 9 26)]
def s16_8 : SC := .reg [(ld 27 88 5), (ld 28 44 9), (ld 30 44 6), (b1 31 33 30), (.mk (some 32) (.mapEntry 88 (t 27) (t 28)) none), (ex 29 32 0), (ap 33 29 31 33), (ex 34 32 1), (.mk none (.entryStore 88 (t 27) (t 34) (t 33)) none)]
def s16_9 : SC := .reg [(bc 35 .add 3 23 1 3), (mv 23 35)]
def s16_10 : SC := .seq (.block 3 (.seq s16_7 s16_8)) s16_9
def s16_11 : SC := .seq (.cond (t 24) (.skip) (.exit 2)) s16_10
def s16_12 : SC := .seq s16_5 (.block 2 (.loop (.seq s16_6 s16_11)))
def s16_13 : SC := .seq (.cond (t 17) (.skip) (.exit 0)) (.block 1 (.seq s16_4 s16_12))
def s16_14 : SC := .seq s16_2 (.block 0 (.loop (.seq s16_3 s16_13)))
def s16_15 : SC := .reg [(mv 36 0), (mv 37 1), (c2 38 47 36 37 24 33), (.mk (some 39) (.makeFunc (.func 48) #[] #[(t 5)]) none), (c2 40 46 38 39 33 109), (c1 41 45 40 107), (sv 4 41)]
def s16_16 : SC := .seq s16_1 (.seq s16_14 (.seq s16_15 (.ret)))
def e16 := ai s16_0.eq_1 <| ai s16_1.eq_1 <| ai s16_2.eq_1 <| ai s16_3.eq_1 <| ai s16_4.eq_1 <| ai s16_5.eq_1 <| ai s16_6.eq_1 <| ai s16_7.eq_1 <| ai s16_8.eq_1 <| ai s16_9.eq_1 <| ai s16_10.eq_1 <| ai s16_11.eq_1 <| ai s16_12.eq_1 <| ai s16_13.eq_1 <| ai s16_14.eq_1 <| ai s16_15.eq_1 <| s16_16.eq_1
def s17_0 : SC := .reg [(.mk (some 3) (.box 44 (t 1)) none), (sc 4 0), (sb 5 false)]
def s17_1 : SC := .drw [((mv 9 0), 0), ((.mk (some 10) (.nilCheck (t 9)) none), 0), ((fa 11 93 10 3), 0), ((ld 12 91 11), 0), ((ld 13 44 3), 0), ((.mk (some 14) (.lookup 91 (t 12) (t 13) true) none), 0), ((mv 8 14), 0), ((ex 15 8 0), 0), ((ex 16 8 1), 0), ((sv 6 15), 0), ((sv 7 16), 0)]
def s17_2 : SC := .reg [(mv 17 6), (mv 18 7), (sv 4 17), (sv 5 18)]
def s17 : SC := .seq s17_0 (.seq s17_1 (.seq s17_2 (.ret)))
def e17 := ai s17_0.eq_1 <| ai s17_1.eq_1 <| s17_2.eq_1
theorem h17 : FnS Tryz.prog 17 ⟨[3], [(1, [(0, 0), (1, 0), (2, 0), (3, 0), (4, 0), (5, 0), (6, 0), (7, 0), (8, 0), (9, 0), (10, 0)])]⟩ 19 [(.tmp 4), (.tmp 5)] s17 := by refine .mk' Tryz.func17 ?_ ?_ ?_ ?_ ?_ ?_ <;> kernel_rfl
def s18_0 : SC := .reg [(.mk (some 6) (.assign (.const (.nilIface))) none)]
def s18_1 : SC := .reg [(mv 9 1), (.mk (some 10) (.binOp (.eql) 24 (t 9) (.const (.pointer none)) 24) none)]
def s18_2 : SC := .reg [(.mk (some 11) (.makeInterface 52 (.const (.int (.i64) 1))) none), (sv 6 11)]
def s18_3 : SC := .cond (t 10) (.seq s18_2 (.ret)) (.skip)
def s18_4 : SC := .reg [(mv 12 2), (mv 13 1), (mv 14 2), (c2 15 16 13 14 24 33), (.mk (some 16) (.buildSlice 133 2 #[(0, (t 12)), (1, (t 15))]) none), (c1 17 40 16 133), (ln 18 17 33), (.mk (some 19) (.move (.const (.int (.i64) 0))) none)]
def s18_5 : SC := .reg [(bi 20 .lss 3 19 18 3)]
def s18_6 : SC := .reg [(ia 21 33 17 19), (ld 22 44 21), (.mk (some 8) (.alloc 44) none), (st 44 8 22)]
def s18_7 : SC := .reg [(mv 23 0), (ld 24 44 8), (c2 25 39 23 24 26 44)]
def s18_8 : SC := .reg [(ld 26 44 8), (.mk (some 27) (.makeInterface 52 (.const (.int (.i64) 19))) none), (c2 28 49 26 27 44 28), (sv 6 28)]
def s18_9 : SC := .cond (t 25) (.seq s18_8 (.ret)) (.skip)
def s18_10 : SC := .block 1 (.seq s18_6 (.seq s18_7 s18_9))
def s18_11 : SC := .reg [(bc 29 .add 3 19 1 3), (mv 19 29)]
def s18_12 : SC := .seq (.cond (t 20) (.skip) (.exit 0)) (.seq s18_10 s18_11)
def s18_13 : SC := .seq s18_4 (.block 0 (.loop (.seq s18_5 s18_12)))
def s18_14 : SC := .drw [((mv 30 0), 0), ((mv 31 0), 0), ((.mk (some 32) (.nilCheck (t 31)) none), 0), ((fa 33 93 32 1), 0), ((ld 34 33 33), 0), ((mv 35 0), 0), ((.mk (some 36) (.nilCheck (t 35)) none), 0), ((fa 37 93 36 2), 0), ((ld 38 33 37), 0), ((mv 39 2), 0), ((mv 40 1), 0), ((mv 41 2), 0), ((c2 42 16 40 41 24 33), 2), ((.mk (some 43) (.buildSlice 133 2 #[(0, (t 39)), (1, (t 42))]) none), 0), ((c1 44 40 43 133), 2), ((c2 45 41 38 44 33 33), 2), ((.mk (some 46) (.call (.mk (.value (.func 42)) #[(t 30), (t 34), (t 45)] #[26, 33, 33])) none), 1)]
def s18_15 : SC := .reg [(.mk (some 6) (.assign (.const (.nilIface))) none)]
def s18_16 : SC := .seq s18_13 (.seq s18_14 (.seq s18_15 (.ret)))
def s18 : SC := .seq s18_0 (.seq (.seq s18_1 s18_3) s18_16)
def e18 := ai s18_0.eq_1 <| ai s18_1.eq_1 <| ai s18_2.eq_1 <| ai s18_3.eq_1 <| ai s18_4.eq_1 <| ai s18_5.eq_1 <| ai s18_6.eq_1 <| ai s18_7.eq_1 <| ai s18_8.eq_1 <| ai s18_9.eq_1 <| ai s18_10.eq_1 <| ai s18_11.eq_1 <| ai s18_12.eq_1 <| ai s18_13.eq_1 <| ai s18_14.eq_1 <| ai s18_15.eq_1 <| s18_16.eq_1
theorem h18 : FnS Tryz.prog 18 ⟨[], [(9, [(0, 0), (1, 0), (2, 0), (3, 0), (4, 0), (5, 0), (6, 0), (7, 0), (8, 0), (9, 0), (10, 0), (11, 0), (12, 2), (13, 0), (14, 2), (15, 2), (16, 1)])]⟩ 47 [(.tmp 6)] s18 := by refine .mk' Tryz.func18 ?_ ?_ ?_ ?_ ?_ ?_ <;> kernel_rfl
def s22_0 : SC := .reg [(.mk (some 2) (.alloc 44) none), (sb 3 false)]
def s22_1 : SC := .reg [(.mk (some 4) (.alloc 113) none)]
def s22_2 : SC := .reg [(mv 5 0), (.mk (some 6) (.makeInterface 114 (t 4)) none), (c2 7 50 5 6 28 20), (mv 8 7), (.mk (some 9) (.load 113 (t 4)) (some (8, true))), (.mk (some 10) (.binOp (.neq) 113 (t 9) (.const (.pointer none)) 113) (some (8, true))), (pk 11 8 10 false)]
def s22_3 : SC := .reg [(ld 12 113 4), (.mk (some 13) (.nilCheck (t 12)) none), (fa 14 116 13 0), (ld 15 44 14), (st 44 2 15), (sb 3 true)]
def s22_4 : SC := .cond (t 11) (.seq s22_3 (.ret)) (.skip)
def s22_5 : SC := .reg [(.mk (some 16) (.build 44 #[]) none), (st 44 2 16), (sb 3 false)]
def s22_6 : SC := .seq (.seq s22_2 s22_4) (.seq s22_5 (.ret))
def s22 : SC := .seq s22_0 (.seq s22_1 s22_6)
def e22 := ai s22_0.eq_1 <| ai s22_1.eq_1 <| ai s22_2.eq_1 <| ai s22_3.eq_1 <| ai s22_4.eq_1 <| ai s22_5.eq_1 <| s22_6.eq_1
theorem h22 : FnS Tryz.prog 22 ⟨[], []⟩ 17 [(.cell 2 44), (.tmp 3)] s22 := by refine .mk' Tryz.func22 ?_ ?_ ?_ ?_ ?_ ?_ <;> kernel_rfl
def s23_0 : SC := .reg [(.mk (some 4) (.alloc 44) none), (sb 5 false)]
def s23_1 : SC := .reg [(mv 8 0), (.mk (some 9) (.nilCheck (t 8)) none), (fa 10 93 9 1), (ld 11 33 10), (mv 12 1), (sv 6 11), (sv 7 12)]
def s23_2 : SC := .reg [(mv 13 1), (bc 14 .geq 3 13 1099511627776 3)]
def s23_3 : SC := .reg [(mv 15 0), (.mk (some 16) (.nilCheck (t 15)) none), (fa 17 93 16 2), (ld 18 33 17), (mv 19 1), (bc 20 .sub 3 19 1099511627776 3), (sv 6 18), (sv 7 20)]
def s23_4 : SC := .seq s23_2 (.cond (t 14) s23_3 (.skip))
def s23_5 : SC := .reg [(mv 21 7), (bc 22 .lss 3 21 0 3), (mv 23 22), (mg 24 7 23 false), (mg 25 6 23 false), (.mk (some 26) (.call (.mk (.builtin (.len)) #[(t 25)] #[33])) (some (23, false))), (.mk (some 27) (.binOp (.geq) 3 (t 24) (t 26) 3) (some (23, false))), (.mk (some 28) (.pick (t 23) (.const (.bool true)) (t 27)) none)]
def s23_6 : SC := .reg [(.mk (some 29) (.build 44 #[]) none), (st 44 4 29), (sb 5 false)]
def s23_7 : SC := .cond (t 28) (.seq s23_6 (.ret)) (.skip)
def s23_8 : SC := .reg [(mv 30 6), (mv 31 7), (ia 32 33 30 31), (ld 33 44 32), (st 44 4 33), (sb 5 true)]
def s23_9 : SC := .seq (.seq s23_5 s23_7) (.seq s23_8 (.ret))
def s23 : SC := .seq s23_0 (.seq s23_1 (.seq s23_4 s23_9))
def e23 := ai s23_0.eq_1 <| ai s23_1.eq_1 <| ai s23_2.eq_1 <| ai s23_3.eq_1 <| ai s23_4.eq_1 <| ai s23_5.eq_1 <| ai s23_6.eq_1 <| ai s23_7.eq_1 <| ai s23_8.eq_1 <| s23_9.eq_1
theorem h23 : FnS Tryz.prog 23 ⟨[], []⟩ 34 [(.cell 4 44), (.tmp 5)] s23 := by refine .mk' Tryz.func23 ?_ ?_ ?_ ?_ ?_ ?_ <;> kernel_rfl
def s24_0 : SC := .reg [(sn 2)]
def s24_1 : SC := .drw [((mv 3 0), 0), ((mv 5 0), 0), ((.mk (some 6) (.nilCheck (t 5)) none), 0), ((fa 7 93 6 2), 0), ((ld 8 33 7), 0), ((ln 9 8 33), 0), ((.mk (some 10) (.binOp (.add) 3 (.const (.int (.i64) 1099511627776)) (t 9) 3) none), 0), ((bc 11 .sub 3 10 1 3), 0), ((.mk (some 12) (.build 65 #[(0, (.const (.int (.i64) 1099511627776))), (1, (t 11))]) none), 0), ((b1 13 62 12), 0), ((c1 4 25 3 26), 2), ((c2 14 51 4 13 62 62), 1), ((sv 2 14), 0)]
def s24 : SC := .seq s24_0 (.seq s24_1 (.ret))
def e24 := ai s24_0.eq_1 <| s24_1.eq_1
theorem h24 : FnS Tryz.prog 24 ⟨[], [(1, [(0, 0), (2, 0), (3, 0), (4, 0), (5, 0), (6, 0), (7, 0), (8, 0), (9, 0), (10, 0), (1, 2), (11, 1), (12, 0)])]⟩ 15 [(.tmp 2)] s24 := by refine .mk' Tryz.func24 ?_ ?_ ?_ ?_ ?_ ?_ <;> kernel_rfl
def s25_0 : SC := .reg [(sn 2)]
def s25_1 : SC := .reg [(mv 3 0), (.mk (some 4) (.nilCheck (t 3)) none), (fa 5 93 4 1), (ld 6 33 5), (ln 7 6 33), (bc 8 .sub 3 7 1 3), (.mk (some 9) (.build 65 #[(0, (.const (.int (.i64) 0))), (1, (t 8))]) none), (b1 10 62 9), (c1 11 52 10 62), (sv 2 11)]
def s25 : SC := .seq s25_0 (.seq s25_1 (.ret))
def e25 := ai s25_0.eq_1 <| s25_1.eq_1
theorem h25 : FnS Tryz.prog 25 ⟨[], []⟩ 12 [(.tmp 2)] s25 := by refine .mk' Tryz.func25 ?_ ?_ ?_ ?_ ?_ ?_ <;> kernel_rfl
def s26_0 : SC := .reg [(sc 2 0)]
def s26_1 : SC := .reg [(mv 3 0), (.mk (some 4) (.nilCheck (t 3)) none), (fa 5 93 4 2), (ld 6 33 5), (ln 7 6 33), (sv 2 7)]
def s26 : SC := .seq s26_0 (.seq s26_1 (.ret))
def e26 := ai s26_0.eq_1 <| s26_1.eq_1
theorem h26 : FnS Tryz.prog 26 ⟨[], []⟩ 8 [(.tmp 2)] s26 := by refine .mk' Tryz.func26 ?_ ?_ ?_ ?_ ?_ ?_ <;> kernel_rfl
def s37_0 : SC := .reg [(.mk (some 3) (.box 35 (t 1)) none), (.mk (some 4) (.assign (.const (.map none))) none), (.mk (some 5) (.assign (.const (.nilIface))) none)]
def s37_1 : SC := .reg [(ld 11 35 3), (c1 12 69 11 35), (sv 6 12)]
def s37_2 : SC := .reg [(mv 13 6), (.mk (some 14) (.binOp (.neq) 28 (t 13) (.const (.nilIface)) 28) none)]
def s37_3 : SC := .reg [(mv 15 6), (.mk (some 4) (.assign (.const (.map none))) none), (sv 5 15)]
def s37_4 : SC := .cond (t 14) (.seq s37_3 (.ret)) (.skip)
def s37_5 : SC := .reg [(mv 17 0), (fa 18 35 3 0), (ld 19 32 18), (c2 20 70 17 19 24 32), (mv 16 20), (ex 21 16 0), (ex 22 16 1), (sv 7 21), (sv 8 22)]
def s37_6 : SC := .reg [(mv 23 8), (.mk (some 24) (.binOp (.neq) 28 (t 23) (.const (.nilIface)) 28) none)]
def s37_7 : SC := .reg [(mv 25 8), (.mk (some 4) (.assign (.const (.map none))) none), (sv 5 25)]
def s37_8 : SC := .cond (t 24) (.seq s37_7 (.ret)) (.skip)
def s37_9 : SC := .reg [(mv 26 7), (ld 27 35 3), (c2 28 71 26 27 88 35), (sv 9 28)]
def s37_10 : SC := .reg [(mv 29 9), (.mk (some 30) (.binOp (.neq) 28 (t 29) (.const (.nilIface)) 28) none)]
def s37_11 : SC := .reg [(mv 31 9), (.mk (some 4) (.assign (.const (.map none))) none), (sv 5 31)]
def s37_12 : SC := .cond (t 30) (.seq s37_11 (.ret)) (.skip)
def s37_13 : SC := .reg [(mv 32 0), (mv 33 7), (fa 34 35 3 0), (ld 35 32 34), (.mk (some 36) (.call (.mk (.value (.func 72)) #[(t 32), (t 33), (t 35)] #[24, 88, 32])) none), (sv 10 36)]
def s37_14 : SC := .reg [(mv 37 10), (.mk (some 38) (.binOp (.neq) 28 (t 37) (.const (.nilIface)) 28) none)]
def s37_15 : SC := .reg [(mv 39 10), (.mk (some 4) (.assign (.const (.map none))) none), (sv 5 39)]
def s37_16 : SC := .cond (t 38) (.seq s37_15 (.ret)) (.skip)
def s37_17 : SC := .reg [(mv 40 7), (ln 41 40 88), (bc 42 .gtr 3 41 1000 3)]
def s37_18 : SC := .reg [(.mk (some 43) (.makeInterface 52 (.const (.int (.i64) 13))) none), (.mk (some 4) (.assign (.const (.map none))) none), (sv 5 43)]
def s37_19 : SC := .cond (t 42) (.seq s37_18 (.ret)) (.skip)
def s37_20 : SC := .reg [(mv 44 7), (sv 4 44), (.mk (some 5) (.assign (.const (.nilIface))) none)]
def s37_21 : SC := .seq (.seq s37_17 s37_19) (.seq s37_20 (.ret))
def s37_22 : SC := .seq (.seq s37_13 (.seq s37_14 s37_16)) s37_21
def s37_23 : SC := .seq (.seq s37_9 (.seq s37_10 s37_12)) s37_22
def s37_24 : SC := .seq s37_5 (.seq (.seq s37_6 s37_8) s37_23)
def s37_25 : SC := .seq (.seq s37_1 (.seq s37_2 s37_4)) s37_24
def s37 : SC := .seq s37_0 s37_25
def e37 := ai s37_0.eq_1 <| ai s37_1.eq_1 <| ai s37_2.eq_1 <| ai s37_3.eq_1 <| ai s37_4.eq_1 <| ai s37_5.eq_1 <| ai s37_6.eq_1 <| ai s37_7.eq_1 <| ai s37_8.eq_1 <| ai s37_9.eq_1 <| ai s37_10.eq_1 <| ai s37_11.eq_1 <| ai s37_12.eq_1 <| ai s37_13.eq_1 <| ai s37_14.eq_1 <| ai s37_15.eq_1 <| ai s37_16.eq_1 <| ai s37_17.eq_1 <| ai s37_18.eq_1 <| ai s37_19.eq_1 <| ai s37_20.eq_1 <| ai s37_21.eq_1 <| ai s37_22.eq_1 <| ai s37_23.eq_1 <| ai s37_24.eq_1 <| s37_25.eq_1
theorem h37 : FnS Tryz.prog 37 ⟨[3], []⟩ 45 [(.tmp 4), (.tmp 5)] s37 := by refine .mk' Tryz.func37 ?_ ?_ ?_ ?_ ?_ ?_ <;> kernel_rfl
def s38_0 : SC := .reg [(sn 6)]
def s38_1 : SC := .reg [(mv 10 0), (.mk (some 11) (.binOp (.eql) 24 (t 10) (.const (.pointer none)) 24) none)]
def s38_2 : SC := .reg [(sn 6)]
def s38_3 : SC := .cond (t 11) (.seq s38_2 (.ret)) (.skip)
def s38_4 : SC := .reg [(mv 12 0), (mv 13 2), (.mk (some 14) (.makeMap 107 none) none), (.mk (some 15) (.build 131 #[(0, (t 12)), (1, (t 13)), (2, (t 14))]) none), (.mk (some 16) (.box 131 (t 15)) none), (sv 7 16)]
def s38_5 : SC := .reg [(mv 17 1), (ln 18 17 33), (.mk (some 19) (.move (.const (.int (.i64) 0))) none)]
def s38_6 : SC := .reg [(bi 20 .lss 3 19 18 3)]
def s38_7 : SC := .reg [(ia 21 33 17 19), (ld 22 44 21), (.mk (some 9) (.alloc 44) none), (st 44 9 22)]
def s38_8 : SC := .reg [(mv 23 7), (ld 24 44 9), (c2 25 73 23 24 128 44)]
def s38_9 : SC := .reg [(mv 26 7), (.mk (some 27) (.nilCheck (t 26)) none), (fa 28 131 27 3), (ld 29 129 28), (ln 30 29 129), (bc 31 .gtr 3 30 0 3)]
def s38_10 : SC := .seq s38_9 (.cond (t 31) (.skip) (.exit 2))
def s38_11 : SC := .reg [(mv 32 7), (c1 33 74 32 128)]
def s38_12 : SC := .block 2 (.loop (.seq s38_10 (.block 3 s38_11)))
def s38_13 : SC := .block 1 (.seq s38_7 (.seq s38_8 s38_12))
def s38_14 : SC := .reg [(bc 34 .add 3 19 1 3), (mv 19 34)]
def s38_15 : SC := .seq (.cond (t 20) (.skip) (.exit 0)) (.seq s38_13 s38_14)
def s38_16 : SC := .seq s38_5 (.block 0 (.loop (.seq s38_6 s38_15)))
def s38_17 : SC := .reg [(mv 35 7), (.mk (some 36) (.nilCheck (t 35)) none), (fa 37 131 36 4), (ld 38 33 37), (sv 6 38)]
def s38_18 : SC := .seq s38_4 (.seq s38_16 (.seq s38_17 (.ret)))
def s38 : SC := .seq s38_0 (.seq (.seq s38_1 s38_3) s38_18)
def e38 := ai s38_0.eq_1 <| ai s38_1.eq_1 <| ai s38_2.eq_1 <| ai s38_3.eq_1 <| ai s38_4.eq_1 <| ai s38_5.eq_1 <| ai s38_6.eq_1 <| ai s38_7.eq_1 <| ai s38_8.eq_1 <| ai s38_9.eq_1 <| ai s38_10.eq_1 <| ai s38_11.eq_1 <| ai s38_12.eq_1 <| ai s38_13.eq_1 <| ai s38_14.eq_1 <| ai s38_15.eq_1 <| ai s38_16.eq_1 <| ai s38_17.eq_1 <| s38_18.eq_1
theorem h38 : FnS Tryz.prog 38 ⟨[], []⟩ 39 [(.tmp 6)] s38 := by refine .mk' Tryz.func38 ?_ ?_ ?_ ?_ ?_ ?_ <;> kernel_rfl
def s39_0 : SC := .reg [(.mk (some 3) (.box 44 (t 1)) none), (sb 4 false)]
def s39_1 : SC := .drw [((mv 8 0), 0), ((.mk (some 9) (.nilCheck (t 8)) none), 0), ((fa 10 93 9 3), 0), ((ld 11 91 10), 0), ((ld 12 44 3), 0), ((.mk (some 13) (.lookup 91 (t 11) (t 12) true) none), 0), ((mv 7 13), 0), ((ex 14 7 0), 0), ((ex 15 7 1), 0), ((sv 5 14), 0), ((sv 6 15), 0)]
def s39_2 : SC := .reg [(mv 16 6), (mv 17 16), (mg 18 5 17 true), (.mk (some 19) (.binOp (.lss) 3 (t 18) (.const (.int (.i64) 1099511627776)) 3) (some (17, true))), (pk 20 17 19 false), (sv 4 20)]
def s39 : SC := .seq s39_0 (.seq s39_1 (.seq s39_2 (.ret)))
def e39 := ai s39_0.eq_1 <| ai s39_1.eq_1 <| s39_2.eq_1
theorem h39 : FnS Tryz.prog 39 ⟨[3], [(1, [(0, 0), (1, 0), (2, 0), (3, 0), (4, 0), (5, 0), (6, 0), (7, 0), (8, 0), (9, 0), (10, 0)])]⟩ 21 [(.tmp 4)] s39 := by refine .mk' Tryz.func39 ?_ ?_ ?_ ?_ ?_ ?_ <;> kernel_rfl
def s40_0 : SC := .reg [(sn 2)]
def s40_1 : SC := .reg [(sc 3 0)]
def s40_2 : SC := .reg [(mv 9 0), (ln 10 9 133), (.mk (some 11) (.move (.const (.int (.i64) 0))) none)]
def s40_3 : SC := .reg [(bi 12 .lss 3 11 10 3)]
def s40_4 : SC := .reg [(ia 13 133 9 11), (ld 14 33 13), (sv 5 14)]
def s40_5 : SC := .reg [(mv 15 3), (mv 16 5), (ln 17 16 33), (bi 18 .add 3 15 17 3), (sv 3 18)]
def s40_6 : SC := .reg [(mv 19 3), (bc 20 .lss 3 19 0 3)]
def s40_7 : SC := .reg [(.mk (some 21) (.makeInterface 9 (.const (.string (.mk #[108, 101, 110, 32, 111, 117, 116, 32, 111, 102, 32, 114, 97, 110, 103, 101])))) none), (.mk none (.panic (t 21)) none)]
def s40_8 : SC := .seq s40_6 (.cond (t 20) s40_7 (.skip))
def s40_9 : SC := .block 1 (.seq s40_4 (.seq s40_5 s40_8))
def s40_10 : SC := .reg [(bc 22 .add 3 11 1 3), (mv 11 22)]
def s40_11 : SC := .seq (.cond (t 12) (.skip) (.exit 0)) (.seq s40_9 s40_10)
def s40_12 : SC := .seq s40_2 (.block 0 (.loop (.seq s40_3 s40_11)))
def s40_13 : SC := .reg [(mv 23 3), (.mk (some 24) (.call (.mk (.value (.func 75)) #[(.const (.slice none 0 0)), (t 23)] #[33, 3])) none), (sv 6 24)]
def s40_14 : SC := .reg [(mv 25 0), (ln 26 25 133), (.mk (some 27) (.move (.const (.int (.i64) 0))) none)]
def s40_15 : SC := .reg [(bi 28 .lss 3 27 26 3)]
def s40_16 : SC := .reg [(ia 29 133 25 27), (ld 30 33 29), (sv 8 30)]
def s40_17 : SC := .reg [(mv 31 6), (mv 32 8), (ap 33 31 32 33), (sv 6 33)]
def s40_18 : SC := .reg [(bc 34 .add 3 27 1 3), (mv 27 34)]
def s40_19 : SC := .seq (.block 3 (.seq s40_16 s40_17)) s40_18
def s40_20 : SC := .seq (.cond (t 28) (.skip) (.exit 2)) s40_19
def s40_21 : SC := .seq s40_14 (.block 2 (.loop (.seq s40_15 s40_20)))
def s40_22 : SC := .reg [(mv 35 6), (sv 2 35)]
def s40_23 : SC := .seq s40_13 (.seq s40_21 (.seq s40_22 (.ret)))
def s40 : SC := .seq s40_0 (.seq s40_1 (.seq s40_12 s40_23))
def e40 := ai s40_0.eq_1 <| ai s40_1.eq_1 <| ai s40_2.eq_1 <| ai s40_3.eq_1 <| ai s40_4.eq_1 <| ai s40_5.eq_1 <| ai s40_6.eq_1 <| ai s40_7.eq_1 <| ai s40_8.eq_1 <| ai s40_9.eq_1 <| ai s40_10.eq_1 <| ai s40_11.eq_1 <| ai s40_12.eq_1 <| ai s40_13.eq_1 <| ai s40_14.eq_1 <| ai s40_15.eq_1 <| ai s40_16.eq_1 <| ai s40_17.eq_1 <| ai s40_18.eq_1 <| ai s40_19.eq_1 <| ai s40_20.eq_1 <| ai s40_21.eq_1 <| ai s40_22.eq_1 <| s40_23.eq_1
theorem h40 : FnS Tryz.prog 40 ⟨[], []⟩ 36 [(.tmp 2)] s40 := by refine .mk' Tryz.func40 ?_ ?_ ?_ ?_ ?_ ?_ <;> kernel_rfl
def s41_0 : SC := .reg [(sn 4)]
def s41_1 : SC := .reg [(.mk (some 8) (.makeMap 107 none) none), (.mk (some 5) (.alloc 107) none), (st 107 5 8)]
def s41_2 : SC := .reg [(mv 9 1), (ln 10 9 33), (.mk (some 11) (.move (.const (.int (.i64) 0))) none)]
def s41_3 : SC := .reg [(bi 12 .lss 3 11 10 3)]
def s41_4 : SC := .reg [(ia 13 33 9 11), (ld 14 44 13), (.mk (some 7) (.alloc 44) none), (st 44 7 14)]
def s41_5 : SC := .reg [(ld 15 107 5), (ld 16 44 7), (.mk none (.mapUpdate 107 (t 15) (t 16) (.const (.bool true))) none)]
def s41_6 : SC := .reg [(bc 17 .add 3 11 1 3), (mv 11 17)]
def s41_7 : SC := .seq (.block 1 (.seq s41_4 s41_5)) s41_6
def s41_8 : SC := .seq (.cond (t 12) (.skip) (.exit 0)) s41_7
def s41_9 : SC := .seq s41_2 (.block 0 (.loop (.seq s41_3 s41_8)))
def s41_10 : SC := .reg [(mv 18 0), (c1 19 43 18 33), (.mk (some 20) (.makeFunc (.func 77) #[] #[(t 5)]) none), (c2 21 76 19 20 33 101), (sv 4 21)]
def s41_11 : SC := .seq s41_1 (.seq s41_9 (.seq s41_10 (.ret)))
def s41 : SC := .seq s41_0 s41_11
def e41 := ai s41_0.eq_1 <| ai s41_1.eq_1 <| ai s41_2.eq_1 <| ai s41_3.eq_1 <| ai s41_4.eq_1 <| ai s41_5.eq_1 <| ai s41_6.eq_1 <| ai s41_7.eq_1 <| ai s41_8.eq_1 <| ai s41_9.eq_1 <| ai s41_10.eq_1 <| s41_11.eq_1
theorem h41 : FnS Tryz.prog 41 ⟨[], []⟩ 22 [(.tmp 4)] s41 := by refine .mk' Tryz.func41 ?_ ?_ ?_ ?_ ?_ ?_ <;> kernel_rfl
def s42_0 : SC := .reg [(mv 10 0), (mv 11 0), (mv 12 0), (mv 13 1), (mv 14 2), (.mk (some 15) (.makeMap 91 none) none), (.mk (some 16) (.nilCheck (t 10)) none), (fa 17 93 16 1), (st 33 17 13), (.mk (some 18) (.nilCheck (t 11)) none), (fa 19 93 18 2), (st 33 19 14), (.mk (some 20) (.nilCheck (t 12)) none), (fa 21 93 20 3), (st 91 21 15)]
def s42_1 : SC := .reg [(mv 22 1), (ln 23 22 33), (.mk (some 24) (.move (.const (.int (.i64) 0))) none)]
def s42_2 : SC := .reg [(bi 25 .lss 3 24 23 3)]
def s42_3 : SC := .reg [(mv 26 24), (ia 27 33 22 24), (ld 28 44 27), (.mk (some 7) (.alloc 44) none), (sv 6 26), (st 44 7 28)]
def s42_4 : SC := .drw [((mv 29 0), 0), ((.mk (some 30) (.nilCheck (t 29)) none), 0), ((fa 31 93 30 3), 0), ((ld 32 91 31), 0), ((ld 33 44 7), 0), ((mv 34 6), 0), ((.mk none (.mapUpdate 91 (t 32) (t 33) (t 34)) none), 1)]
def s42_5 : SC := .reg [(bc 35 .add 3 24 1 3), (mv 24 35)]
def s42_6 : SC := .seq (.block 1 (.seq s42_3 s42_4)) s42_5
def s42_7 : SC := .seq (.cond (t 25) (.skip) (.exit 0)) s42_6
def s42_8 : SC := .seq s42_1 (.block 0 (.loop (.seq s42_2 s42_7)))
def s42_9 : SC := .reg [(mv 36 2), (ln 37 36 33), (.mk (some 38) (.move (.const (.int (.i64) 0))) none)]
def s42_10 : SC := .reg [(bi 39 .lss 3 38 37 3)]
def s42_11 : SC := .reg [(mv 40 38), (ia 41 33 36 38), (ld 42 44 41), (.mk (some 9) (.alloc 44) none), (sv 8 40), (st 44 9 42)]
def s42_12 : SC := .drw [((mv 43 0), 0), ((.mk (some 44) (.nilCheck (t 43)) none), 0), ((fa 45 93 44 3), 0), ((ld 46 91 45), 0), ((ld 47 44 9), 0), ((mv 48 8), 0), ((.mk (some 49) (.binOp (.add) 3 (.const (.int (.i64) 1099511627776)) (t 48) 3) none), 0), ((.mk none (.mapUpdate 91 (t 46) (t 47) (t 49)) none), 1)]
def s42_13 : SC := .reg [(bc 50 .add 3 38 1 3), (mv 38 50)]
def s42_14 : SC := .seq (.block 3 (.seq s42_11 s42_12)) s42_13
def s42_15 : SC := .seq (.cond (t 39) (.skip) (.exit 2)) s42_14
def s42_16 : SC := .seq s42_9 (.block 2 (.loop (.seq s42_10 s42_15)))
def s42 : SC := .seq s42_0 (.seq s42_8 s42_16)
def e42 := ai s42_0.eq_1 <| ai s42_1.eq_1 <| ai s42_2.eq_1 <| ai s42_3.eq_1 <| ai s42_4.eq_1 <| ai s42_5.eq_1 <| ai s42_6.eq_1 <| ai s42_7.eq_1 <| ai s42_8.eq_1 <| ai s42_9.eq_1 <| ai s42_10.eq_1 <| ai s42_11.eq_1 <| ai s42_12.eq_1 <| ai s42_13.eq_1 <| ai s42_14.eq_1 <| ai s42_15.eq_1 <| s42_16.eq_1
theorem h42 : FnS Tryz.prog 42 ⟨[], [(4, [(0, 0), (1, 0), (2, 0), (3, 0), (4, 0), (5, 0), (6, 1)]), (9, [(0, 0), (1, 0), (2, 0), (3, 0), (4, 0), (5, 0), (6, 0), (7, 1)])]⟩ 51 [] s42 := by refine .mk' Tryz.func42 ?_ ?_ ?_ ?_ ?_ ?_ <;> kernel_rfl
def s43_0 : SC := .reg [(sn 2)]
def s43_1 : SC := .reg [(mv 3 0), (.mk (some 4) (.binOp (.eql) 33 (t 3) (.const (.slice none 0 0)) 33) none)]
def s43_2 : SC := .reg [(sn 2)]
def s43_3 : SC := .cond (t 4) (.seq s43_2 (.ret)) (.skip)
def s43_4 : SC := .reg [(.mk (some 5) (.buildSlice 33 0 #[]) none), (mv 6 0), (ap 7 5 6 33), (sv 2 7)]
def s43_5 : SC := .seq (.seq s43_1 s43_3) (.seq s43_4 (.ret))
def s43 : SC := .seq s43_0 s43_5
def e43 := ai s43_0.eq_1 <| ai s43_1.eq_1 <| ai s43_2.eq_1 <| ai s43_3.eq_1 <| ai s43_4.eq_1 <| s43_5.eq_1
theorem h43 : FnS Tryz.prog 43 ⟨[7], []⟩ 8 [(.tmp 2)] s43 := by refine .mk' Tryz.func43 ?_ ?_ ?_ ?_ ?_ ?_ <;> kernel_rfl
def s44_0 : SC := .reg [(.mk (some 2) (.box 44 (t 0)) none), (sb 3 false)]
def s44_1 : SC := .drw [((ld 7 26 1), 0), ((.mk (some 8) (.nilCheck (t 7)) none), 0), ((fa 9 93 8 3), 0), ((ld 10 91 9), 0), ((ld 11 44 2), 0), ((.mk (some 12) (.lookup 91 (t 10) (t 11) true) none), 0), ((mv 6 12), 0), ((ex 13 6 0), 0), ((ex 14 6 1), 0), ((sv 4 13), 0), ((sv 5 14), 0)]
def s44_2 : SC := .reg [(mv 15 5), (sv 3 15)]
def s44 : SC := .seq s44_0 (.seq s44_1 (.seq s44_2 (.ret)))
def e44 := ai s44_0.eq_1 <| ai s44_1.eq_1 <| s44_2.eq_1
theorem h44 : FnS Tryz.prog 44 ⟨[2], [(1, [(0, 0), (1, 0), (2, 0), (3, 0), (4, 0), (5, 0), (6, 0), (7, 0), (8, 0), (9, 0), (10, 0)])]⟩ 16 [(.tmp 3)] s44 := by refine .mk' Tryz.func44 ?_ ?_ ?_ ?_ ?_ ?_ <;> kernel_rfl
def s45_0 : SC := .reg [(sn 2)]
def s45_1 : SC := .reg [(mv 3 0), (c1 4 80 3 107), (c1 5 79 4 138), (c1 6 78 5 33), (sv 2 6)]
def s45 : SC := .seq s45_0 (.seq s45_1 (.ret))
def e45 := ai s45_0.eq_1 <| s45_1.eq_1
theorem h45 : FnS Tryz.prog 45 ⟨[], []⟩ 7 [(.tmp 2)] s45 := by refine .mk' Tryz.func45 ?_ ?_ ?_ ?_ ?_ ?_ <;> kernel_rfl
def s46_0 : SC := .reg [(.mk (some 4) (.assign (.const (.map none))) none)]
def s46_1 : SC := .reg [(.mk (some 8) (.makeMap 107 none) none), (sv 5 8)]
def s46_2 : SC := .reg [(mv 9 0), (c1 10 43 9 33), (sv 6 10)]
def s46_3 : SC := .reg [(mv 11 6), (ln 12 11 33), (bc 13 .gtr 3 12 0 3)]
def s46_4 : SC := .seq s46_3 (.cond (t 13) (.skip) (.exit 0))
def s46_5 : SC := .reg [(mv 14 6), (mv 15 6), (ln 16 15 33), (bc 17 .sub 3 16 1 3), (ia 18 33 14 17), (ld 19 44 18), (.mk (some 7) (.alloc 44) none), (st 44 7 19)]
def s46_6 : SC := .reg [(mv 20 6), (mv 21 6), (ln 22 21 33), (bc 23 .sub 3 22 1 3), (.mk (some 24) (.slice 33 (t 20) none (some (t 23)) none) none), (sv 6 24)]
def s46_7 : SC := .reg [(mv 25 5), (ld 26 44 7), (.mk (some 27) (.lookup 107 (t 25) (t 26) false) none), (nt 28 27)]
def s46_8 : SC := .reg [(mv 29 5), (ld 30 44 7), (.mk none (.mapUpdate 107 (t 29) (t 30) (.const (.bool true))) none)]
def s46_9 : SC := .reg [(mv 31 6), (mv 32 1), (ld 33 44 7), (.mk (some 34) (.call (.mk (.value (t 32)) #[(t 33)] #[44])) none), (ap 35 31 34 33), (sv 6 35)]
def s46_10 : SC := .cond (t 28) (.seq s46_8 s46_9) (.skip)
def s46_11 : SC := .seq s46_5 (.seq s46_6 (.seq s46_7 s46_10))
def s46_12 : SC := .block 0 (.loop (.seq s46_4 (.block 1 s46_11)))
def s46_13 : SC := .reg [(mv 36 5), (sv 4 36)]
def s46_14 : SC := .seq s46_2 (.seq s46_12 (.seq s46_13 (.ret)))
def s46 : SC := .seq s46_0 (.seq s46_1 s46_14)
def e46 := ai s46_0.eq_1 <| ai s46_1.eq_1 <| ai s46_2.eq_1 <| ai s46_3.eq_1 <| ai s46_4.eq_1 <| ai s46_5.eq_1 <| ai s46_6.eq_1 <| ai s46_7.eq_1 <| ai s46_8.eq_1 <| ai s46_9.eq_1 <| ai s46_10.eq_1 <| ai s46_11.eq_1 <| ai s46_12.eq_1 <| ai s46_13.eq_1 <| s46_14.eq_1
theorem h46 : FnS Tryz.prog 46 ⟨[], []⟩ 37 [(.tmp 4)] s46 := by refine .mk' Tryz.func46 ?_ ?_ ?_ ?_ ?_ ?_ <;> kernel_rfl
def s47_0 : SC := .reg [(.mk (some 2) (.box 24 (t 0)) none), (sn 4)]
def s47_1 : SC := .reg [(mv 5 1), (c1 6 43 5 33), (.mk (some 7) (.makeFunc (.func 81) #[] #[(t 2)]) none), (c2 8 76 6 7 33 101), (sv 4 8)]
def s47 : SC := .seq s47_0 (.seq s47_1 (.ret))
def e47 := ai s47_0.eq_1 <| s47_1.eq_1
theorem h47 : FnS Tryz.prog 47 ⟨[2], []⟩ 9 [(.tmp 4)] s47 := by refine .mk' Tryz.func47 ?_ ?_ ?_ ?_ ?_ ?_ <;> kernel_rfl
def s48_0 : SC := .reg [(.mk (some 2) (.box 44 (t 0)) none), (sn 3)]
def s48_1 : SC := .reg [(ld 4 88 1), (ld 5 44 2), (.mk (some 6) (.lookup 88 (t 4) (t 5) false) none), (sv 3 6)]
def s48 : SC := .seq s48_0 (.seq s48_1 (.ret))
def e48 := ai s48_0.eq_1 <| s48_1.eq_1
theorem h48 : FnS Tryz.prog 48 ⟨[2], []⟩ 7 [(.tmp 3)] s48 := by refine .mk' Tryz.func48 ?_ ?_ ?_ ?_ ?_ ?_ <;> kernel_rfl
def s49_0 : SC := .reg [(.mk (some 2) (.box 44 (t 0)) none), (.mk (some 4) (.assign (.const (.nilIface))) none)]
def s49_1 : SC := .reg [(mv 5 1), (.mk (some 6) (.binOp (.eql) 28 (t 5) (.const (.nilIface)) 28) none)]
def s49_2 : SC := .reg [(.mk (some 4) (.assign (.const (.nilIface))) none)]
def s49_3 : SC := .cond (t 6) (.seq s49_2 (.ret)) (.skip)
def s49_4 : SC := .reg [(ld 7 44 2), (mv 8 1), (.mk (some 9) (.build 116 #[(0, (t 7)), (1, (t 8))]) none), (.mk (some 10) (.box 116 (t 9)) none), (.mk (some 11) (.makeInterface 113 (t 10)) none), (sv 4 11)]
def s49_5 : SC := .seq (.seq s49_1 s49_3) (.seq s49_4 (.ret))
def s49 : SC := .seq s49_0 s49_5
def e49 := ai s49_0.eq_1 <| ai s49_1.eq_1 <| ai s49_2.eq_1 <| ai s49_3.eq_1 <| ai s49_4.eq_1 <| s49_5.eq_1
theorem h49 : FnS Tryz.prog 49 ⟨[2, 10], []⟩ 12 [(.tmp 4)] s49 := by refine .mk' Tryz.func49 ?_ ?_ ?_ ?_ ?_ ?_ <;> kernel_rfl
def s51_0 : SC := .reg [(sn 4)]
def s51_1 : SC := .reg [(mv 5 0), (mv 6 1), (.mk (some 7) (.buildSlice 189 2 #[(0, (t 5)), (1, (t 6))]) none), (c1 8 87 7 189), (c1 9 52 8 62), (sv 4 9)]
def s51 : SC := .seq s51_0 (.seq s51_1 (.ret))
def e51 := ai s51_0.eq_1 <| s51_1.eq_1
theorem h51 : FnS Tryz.prog 51 ⟨[], []⟩ 10 [(.tmp 4)] s51 := by refine .mk' Tryz.func51 ?_ ?_ ?_ ?_ ?_ ?_ <;> kernel_rfl
def s52_0 : SC := .reg [(sn 2)]
def s52_1 : SC := .reg [(sn 3), (sn 4)]
def s52_2 : SC := .reg [(mv 10 0), (ln 11 10 62), (.mk (some 12) (.move (.const (.int (.i64) 0))) none)]
def s52_3 : SC := .reg [(bi 13 .lss 3 12 11 3)]
def s52_4 : SC := .reg [(ia 14 62 10 12), (ld 15 65 14), (.mk (some 6) (.alloc 65) none), (st 65 6 15)]
def s52_5 : SC := .reg [(fa 16 65 6 0), (ld 17 3 16), (.mk (some 18) (.call (.mk (.builtin (.max)) #[(t 17), (.const (.int (.i64) 0))] #[3, 3])) none), (fa 19 65 6 0), (st 3 19 18)]
def s52_6 : SC := .reg [(fa 20 65 6 0), (ld 21 3 20), (fa 22 65 6 1), (ld 23 3 22), (bi 24 .leq 3 21 23 3)]
def s52_7 : SC := .reg [(mv 25 3), (ld 26 65 6), (b1 27 62 26), (ap 28 25 27 62), (sv 3 28)]
def s52_8 : SC := .seq s52_6 (.cond (t 24) s52_7 (.skip))
def s52_9 : SC := .block 1 (.seq s52_4 (.seq s52_5 s52_8))
def s52_10 : SC := .reg [(bc 29 .add 3 12 1 3), (mv 12 29)]
def s52_11 : SC := .seq (.cond (t 13) (.skip) (.exit 0)) (.seq s52_9 s52_10)
def s52_12 : SC := .seq s52_2 (.block 0 (.loop (.seq s52_3 s52_11)))
def s52_13 : SC := .reg [(mv 30 3), (.mk (some 31) (.call (.mk (.value (.func 88)) #[(t 30), (.func 89)] #[62, 154])) none)]
def s52_14 : SC := .reg [(mv 32 3), (ln 33 32 62), (.mk (some 34) (.move (.const (.int (.i64) 0))) none)]
def s52_15 : SC := .reg [(bi 35 .lss 3 34 33 3)]
def s52_16 : SC := .reg [(ia 36 62 32 34), (ld 37 65 36), (.mk (some 8) (.alloc 65) none), (st 65 8 37)]
def s52_17 : SC := .reg [(mv 38 4), (ln 39 38 62), (sv 9 39)]
def s52_18 : SC := .drw [((mv 40 9), 0), ((bc 41 .gtr 3 40 0 3), 0), ((mv 42 41), 0), ((.mk (some 43) (.load 65 (t 8)) (some (42, true))), 0), ((mg 44 4 42 true), 0), ((mg 45 9 42 true), 0), ((.mk (some 46) (.binOp (.sub) 3 (t 45) (.const (.int (.i64) 1)) 3) (some (42, true))), 0), ((.mk (some 47) (.indexAddr 62 (t 44) (t 46)) (some (42, true))), 0), ((.mk (some 48) (.load 65 (t 47)) (some (42, true))), 0), ((.mk (some 49) (.call (.mk (.value (.func 91)) #[(t 43), (t 48)] #[65, 65])) (some (42, true))), 1), ((.mk (some 50) (.unOp (.not) 4 (t 49)) (some (42, true))), 0), ((pk 51 42 50 false), 0)]
def s52_19 : SC := .drw [((mv 52 4), 0), ((mv 53 9), 0), ((bc 54 .sub 3 53 1 3), 0), ((mv 55 4), 0), ((mv 56 9), 0), ((bc 57 .sub 3 56 1 3), 0), ((ia 58 62 55 57), 0), ((fa 59 65 58 1), 0), ((ld 60 3 59), 0), ((fa 61 65 8 1), 0), ((ld 62 3 61), 0), ((.mk (some 63) (.call (.mk (.builtin (.max)) #[(t 60), (t 62)] #[3, 3])) none), 0), ((ia 64 62 52 54), 0), ((fa 65 65 64 1), 0), ((st 3 65 63), 1)]
def s52_20 : SC := .reg [(mv 66 4), (ld 67 65 8), (b1 68 62 67), (ap 69 66 68 62), (sv 4 69)]
def s52_21 : SC := .seq s52_18 (.cond (t 51) s52_19 s52_20)
def s52_22 : SC := .block 3 (.seq s52_16 (.seq s52_17 s52_21))
def s52_23 : SC := .reg [(bc 70 .add 3 34 1 3), (mv 34 70)]
def s52_24 : SC := .seq (.cond (t 35) (.skip) (.exit 2)) (.seq s52_22 s52_23)
def s52_25 : SC := .seq s52_14 (.block 2 (.loop (.seq s52_15 s52_24)))
def s52_26 : SC := .reg [(mv 71 4), (sv 2 71)]
def s52_27 : SC := .seq s52_13 (.seq s52_25 (.seq s52_26 (.ret)))
def s52 : SC := .seq s52_0 (.seq s52_1 (.seq s52_12 s52_27))
def e52 := ai s52_0.eq_1 <| ai s52_1.eq_1 <| ai s52_2.eq_1 <| ai s52_3.eq_1 <| ai s52_4.eq_1 <| ai s52_5.eq_1 <| ai s52_6.eq_1 <| ai s52_7.eq_1 <| ai s52_8.eq_1 <| ai s52_9.eq_1 <| ai s52_10.eq_1 <| ai s52_11.eq_1 <| ai s52_12.eq_1 <| ai s52_13.eq_1 <| ai s52_14.eq_1 <| ai s52_15.eq_1 <| ai s52_16.eq_1 <| ai s52_17.eq_1 <| ai s52_18.eq_1 <| ai s52_19.eq_1 <| ai s52_20.eq_1 <| ai s52_21.eq_1 <| ai s52_22.eq_1 <| ai s52_23.eq_1 <| ai s52_24.eq_1 <| ai s52_25.eq_1 <| ai s52_26.eq_1 <| s52_27.eq_1
theorem h52 : FnS Tryz.prog 52 ⟨[28, 69], [(14, [(0, 0), (1, 0), (2, 0), (3, 0), (4, 0), (5, 0), (6, 0), (7, 0), (8, 0), (9, 1), (10, 0), (11, 0)]), (15, [(0, 0), (1, 0), (2, 0), (3, 0), (4, 0), (5, 0), (6, 0), (7, 0), (8, 0), (9, 0), (10, 0), (11, 0), (12, 0), (13, 0), (14, 1)])]⟩ 72 [(.tmp 2)] s52 := by refine .mk' Tryz.func52 ?_ ?_ ?_ ?_ ?_ ?_ <;> kernel_rfl
def s69_0 : SC := .reg [(.mk (some 1) (.box 35 (t 0)) none), (.mk (some 2) (.assign (.const (.nilIface))) none)]
def s69_1 : SC := .reg [(fa 5 35 1 2), (ld 6 3 5), (bc 7 .neq 3 6 1 3), (mv 8 7), (.mk (some 9) (.fieldAddr 35 (t 1) 2) (some (8, true))), (.mk (some 10) (.load 3 (t 9)) (some (8, true))), (.mk (some 11) (.binOp (.neq) 3 (t 10) (.const (.int (.i64) 2)) 3) (some (8, true))), (pk 12 8 11 false), (mv 13 12), (.mk (some 14) (.fieldAddr 35 (t 1) 0) (some (13, false))), (.mk (some 15) (.load 32 (t 14)) (some (13, false))), (.mk (some 16) (.call (.mk (.builtin (.len)) #[(t 15)] #[32])) (some (13, false))), (.mk (some 17) (.binOp (.gtr) 3 (t 16) (.const (.int (.i64) 200)) 3) (some (13, false))), (.mk (some 18) (.pick (t 13) (.const (.bool true)) (t 17)) none), (mv 19 18), (.mk (some 20) (.fieldAddr 35 (t 1) 1) (some (19, false))), (.mk (some 21) (.load 33 (t 20)) (some (19, false))), (.mk (some 22) (.call (.mk (.builtin (.len)) #[(t 21)] #[33])) (some (19, false))), (.mk (some 23) (.binOp (.gtr) 3 (t 22) (.const (.int (.i64) 200)) 3) (some (19, false))), (.mk (some 24) (.pick (t 19) (.const (.bool true)) (t 23)) none)]
def s69_2 : SC := .reg [(.mk (some 25) (.makeInterface 52 (.const (.int (.i64) 1))) none), (sv 2 25)]
def s69_3 : SC := .cond (t 24) (.seq s69_2 (.ret)) (.skip)
def s69_4 : SC := .reg [(fa 26 35 1 0), (ld 27 32 26), (ln 28 27 32), (.mk (some 29) (.move (.const (.int (.i64) 0))) none)]
def s69_5 : SC := .reg [(bi 30 .lss 3 29 28 3)]
def s69_6 : SC := .reg [(ia 31 32 27 29), (ld 32 58 31), (.mk (some 4) (.alloc 58) none), (st 58 4 32)]
def s69_7 : SC := .reg [(fa 34 58 4 1), (ld 35 33 34), (ln 36 35 33), (bc 37 .gtr 3 36 4 3), (sv 33 37)]
def s69_8 : SC := .reg [(fa 38 58 4 0), (ld 39 44 38), (.mk (some 40) (.makeInterface 52 (.const (.int (.i64) 8))) none), (c2 41 49 39 40 44 28), (sv 2 41)]
def s69_9 : SC := .reg [(fa 43 58 4 1), (ld 44 33 43), (c1 45 100 44 33), (sv 42 45)]
def s69_10 : SC := .reg [(fa 46 58 4 0), (ld 47 44 46), (.mk (some 48) (.makeInterface 52 (.const (.int (.i64) 1))) none), (c2 49 49 47 48 44 28), (sv 2 49)]
def s69_11 : SC := .cond (t 42) (.seq s69_10 (.ret)) (.skip)
def s69_12 : SC := .cond (t 33) (.seq s69_8 (.ret)) (.seq s69_9 s69_11)
def s69_13 : SC := .seq s69_6 (.block 2 (.seq s69_7 s69_12))
def s69_14 : SC := .reg [(bc 50 .add 3 29 1 3), (mv 29 50)]
def s69_15 : SC := .seq (.cond (t 30) (.skip) (.exit 0)) (.seq (.block 1 s69_13) s69_14)
def s69_16 : SC := .seq s69_4 (.block 0 (.loop (.seq s69_5 s69_15)))
def s69_17 : SC := .reg [(.mk (some 2) (.assign (.const (.nilIface))) none)]
def s69_18 : SC := .seq (.seq s69_1 s69_3) (.seq s69_16 (.seq s69_17 (.ret)))
def s69 : SC := .seq s69_0 s69_18
def e69 := ai s69_0.eq_1 <| ai s69_1.eq_1 <| ai s69_2.eq_1 <| ai s69_3.eq_1 <| ai s69_4.eq_1 <| ai s69_5.eq_1 <| ai s69_6.eq_1 <| ai s69_7.eq_1 <| ai s69_8.eq_1 <| ai s69_9.eq_1 <| ai s69_10.eq_1 <| ai s69_11.eq_1 <| ai s69_12.eq_1 <| ai s69_13.eq_1 <| ai s69_14.eq_1 <| ai s69_15.eq_1 <| ai s69_16.eq_1 <| ai s69_17.eq_1 <| s69_18.eq_1
theorem h69 : FnS Tryz.prog 69 ⟨[1], []⟩ 51 [(.tmp 2)] s69 := by refine .mk' Tryz.func69 ?_ ?_ ?_ ?_ ?_ ?_ <;> kernel_rfl
def s70_0 : SC := .reg [(.mk (some 4) (.assign (.const (.map none))) none), (.mk (some 5) (.assign (.const (.nilIface))) none)]
def s70_1 : SC := .reg [(mv 11 0), (.mk (some 12) (.nilCheck (t 11)) none), (fa 13 90 12 0), (ld 14 88 13), (c1 15 57 14 88), (sv 6 15)]
def s70_2 : SC := .reg [(mv 16 1), (ln 17 16 32), (.mk (some 18) (.move (.const (.int (.i64) 0))) none)]
def s70_3 : SC := .reg [(bi 19 .lss 3 18 17 3)]
def s70_4 : SC := .reg [(ia 20 32 16 18), (ld 21 58 20), (.mk (some 8) (.alloc 58) none), (st 58 8 21)]
def s70_5 : SC := .reg [(mv 23 6), (fa 24 58 8 0), (ld 25 44 24), (.mk (some 26) (.lookup 88 (t 23) (t 25) true) none), (mv 22 26), (ex 27 22 0), (ex 28 22 1), (sv 9 27), (sv 10 28)]
def s70_6 : SC := .reg [(mv 29 10), (mv 30 29), (mg 31 9 30 true), (.mk (some 32) (.fieldAddr 58 (t 8) 1) (some (30, true))), (.mk (some 33) (.load 33 (t 32)) (some (30, true))), (.mk (some 34) (.call (.mk (.value (.func 101)) #[(t 31), (t 33)] #[33, 33])) (some (30, true))), (.mk (some 35) (.unOp (.not) 4 (t 34)) (some (30, true))), (pk 36 30 35 false)]
def s70_7 : SC := .reg [(fa 37 58 8 0), (ld 38 44 37), (.mk (some 39) (.makeInterface 52 (.const (.int (.i64) 9))) none), (c2 40 49 38 39 44 28), (.mk (some 4) (.assign (.const (.map none))) none), (sv 5 40)]
def s70_8 : SC := .cond (t 36) (.seq s70_7 (.ret)) (.skip)
def s70_9 : SC := .reg [(mv 41 10), (nt 42 41)]
def s70_10 : SC := .drw [((mv 43 6), 0), ((fa 44 58 8 0), 0), ((ld 45 44 44), 0), ((fa 46 58 8 1), 0), ((ld 47 33 46), 0), ((c1 48 43 47 33), 2), ((.mk none (.mapUpdate 88 (t 43) (t 45) (t 48)) none), 1)]
def s70_11 : SC := .seq s70_9 (.cond (t 42) s70_10 (.skip))
def s70_12 : SC := .seq s70_5 (.seq (.seq s70_6 s70_8) s70_11)
def s70_13 : SC := .reg [(bc 49 .add 3 18 1 3), (mv 18 49)]
def s70_14 : SC := .seq (.block 1 (.seq s70_4 s70_12)) s70_13
def s70_15 : SC := .seq (.cond (t 19) (.skip) (.exit 0)) s70_14
def s70_16 : SC := .seq s70_2 (.block 0 (.loop (.seq s70_3 s70_15)))
def s70_17 : SC := .reg [(mv 50 6), (sv 4 50), (.mk (some 5) (.assign (.const (.nilIface))) none)]
def s70_18 : SC := .seq s70_1 (.seq s70_16 (.seq s70_17 (.ret)))
def s70 : SC := .seq s70_0 s70_18
def e70 := ai s70_0.eq_1 <| ai s70_1.eq_1 <| ai s70_2.eq_1 <| ai s70_3.eq_1 <| ai s70_4.eq_1 <| ai s70_5.eq_1 <| ai s70_6.eq_1 <| ai s70_7.eq_1 <| ai s70_8.eq_1 <| ai s70_9.eq_1 <| ai s70_10.eq_1 <| ai s70_11.eq_1 <| ai s70_12.eq_1 <| ai s70_13.eq_1 <| ai s70_14.eq_1 <| ai s70_15.eq_1 <| ai s70_16.eq_1 <| ai s70_17.eq_1 <| s70_18.eq_1
theorem h70 : FnS Tryz.prog 70 ⟨[], [(9, [(0, 0), (1, 0), (2, 0), (3, 0), (4, 0), (5, 2), (6, 1)])]⟩ 51 [(.tmp 4), (.tmp 5)] s70 := by refine .mk' Tryz.func70 ?_ ?_ ?_ ?_ ?_ ?_ <;> kernel_rfl
def s71_0 : SC := .reg [(.mk (some 3) (.box 35 (t 1)) none), (.mk (some 4) (.assign (.const (.nilIface))) none)]
def s71_1 : SC := .reg [(fa 15 35 3 0), (ld 16 32 15), (ln 17 16 32), (.mk (some 18) (.move (.const (.int (.i64) 0))) none)]
def s71_2 : SC := .reg [(bi 19 .lss 3 18 17 3)]
def s71_3 : SC := .reg [(ia 20 32 16 18), (ld 21 58 20), (.mk (some 6) (.alloc 58) none), (st 58 6 21)]
def s71_4 : SC := .reg [(fa 22 58 6 1), (ld 23 33 22), (ln 24 23 33), (.mk (some 25) (.move (.const (.int (.i64) 0))) none)]
def s71_5 : SC := .reg [(bi 26 .lss 3 25 24 3)]
def s71_6 : SC := .reg [(ia 27 33 23 25), (ld 28 44 27), (.mk (some 8) (.alloc 44) none), (st 44 8 28)]
def s71_7 : SC := .reg [(mv 30 0), (ld 31 44 8), (.mk (some 32) (.lookup 88 (t 30) (t 31) true) none), (mv 29 32), (ex 33 29 0), (ex 34 29 1), (sv 9 33), (sv 10 34)]
def s71_8 : SC := .reg [(mv 35 10), (nt 36 35)]
def s71_9 : SC := .reg [(ld 37 44 8), (.mk (some 38) (.makeInterface 52 (.const (.int (.i64) 10))) none), (c2 39 49 37 38 44 28), (sv 4 39)]
def s71_10 : SC := .cond (t 36) (.seq s71_9 (.ret)) (.skip)
def s71_11 : SC := .seq s71_6 (.seq s71_7 (.seq s71_8 s71_10))
def s71_12 : SC := .reg [(bc 40 .add 3 25 1 3), (mv 25 40)]
def s71_13 : SC := .seq (.cond (t 26) (.skip) (.exit 2)) (.seq (.block 3 s71_11) s71_12)
def s71_14 : SC := .seq s71_4 (.block 2 (.loop (.seq s71_5 s71_13)))
def s71_15 : SC := .reg [(bc 41 .add 3 18 1 3), (mv 18 41)]
def s71_16 : SC := .seq (.block 1 (.seq s71_3 s71_14)) s71_15
def s71_17 : SC := .seq (.cond (t 19) (.skip) (.exit 0)) s71_16
def s71_18 : SC := .seq s71_1 (.block 0 (.loop (.seq s71_2 s71_17)))
def s71_19 : SC := .reg [(fa 42 35 3 1), (ld 43 33 42), (ln 44 43 33), (.mk (some 45) (.move (.const (.int (.i64) 0))) none)]
def s71_20 : SC := .reg [(bi 46 .lss 3 45 44 3)]
def s71_21 : SC := .reg [(ia 47 33 43 45), (ld 48 44 47), (.mk (some 12) (.alloc 44) none), (st 44 12 48)]
def s71_22 : SC := .reg [(mv 50 0), (ld 51 44 12), (.mk (some 52) (.lookup 88 (t 50) (t 51) true) none), (mv 49 52), (ex 53 49 0), (ex 54 49 1), (sv 13 53), (sv 14 54)]
def s71_23 : SC := .reg [(mv 55 14), (nt 56 55)]
def s71_24 : SC := .reg [(ld 57 44 12), (.mk (some 58) (.makeInterface 52 (.const (.int (.i64) 11))) none), (c2 59 49 57 58 44 28), (sv 4 59)]
def s71_25 : SC := .cond (t 56) (.seq s71_24 (.ret)) (.skip)
def s71_26 : SC := .seq s71_21 (.seq s71_22 (.seq s71_23 s71_25))
def s71_27 : SC := .reg [(bc 60 .add 3 45 1 3), (mv 45 60)]
def s71_28 : SC := .seq (.cond (t 46) (.skip) (.exit 4)) (.seq (.block 5 s71_26) s71_27)
def s71_29 : SC := .seq s71_19 (.block 4 (.loop (.seq s71_20 s71_28)))
def s71_30 : SC := .reg [(.mk (some 4) (.assign (.const (.nilIface))) none)]
def s71_31 : SC := .seq s71_18 (.seq s71_29 (.seq s71_30 (.ret)))
def s71 : SC := .seq s71_0 s71_31
def e71 := ai s71_0.eq_1 <| ai s71_1.eq_1 <| ai s71_2.eq_1 <| ai s71_3.eq_1 <| ai s71_4.eq_1 <| ai s71_5.eq_1 <| ai s71_6.eq_1 <| ai s71_7.eq_1 <| ai s71_8.eq_1 <| ai s71_9.eq_1 <| ai s71_10.eq_1 <| ai s71_11.eq_1 <| ai s71_12.eq_1 <| ai s71_13.eq_1 <| ai s71_14.eq_1 <| ai s71_15.eq_1 <| ai s71_16.eq_1 <| ai s71_17.eq_1 <| ai s71_18.eq_1 <| ai s71_19.eq_1 <| ai s71_20.eq_1 <| ai s71_21.eq_1 <| ai s71_22.eq_1 <| ai s71_23.eq_1 <| ai s71_24.eq_1 <| ai s71_25.eq_1 <| ai s71_26.eq_1 <| ai s71_27.eq_1 <| ai s71_28.eq_1 <| ai s71_29.eq_1 <| ai s71_30.eq_1 <| s71_31.eq_1
theorem h71 : FnS Tryz.prog 71 ⟨[3], []⟩ 61 [(.tmp 4)] s71 := by refine .mk' Tryz.func71 ?_ ?_ ?_ ?_ ?_ ?_ <;> kernel_rfl
def s72_0 : SC := .reg [(.mk (some 4) (.box 88 (t 1)) none), (.mk (some 6) (.assign (.const (.nilIface))) none)]
def s72_1 : SC := .reg [(mv 11 2), (ln 12 11 32), (.mk (some 13) (.move (.const (.int (.i64) 0))) none)]
def s72_2 : SC := .reg [(bi 14 .lss 3 13 12 3)]
def s72_3 : SC := .reg [(ia 15 32 11 13), (ld 16 58 15), (.mk (some 8) (.alloc 58) none), (st 58 8 16)]
def s72_4 : SC := .drw [((mv 18 0), 0), ((.mk (some 19) (.nilCheck (t 18)) none), 0), ((fa 20 90 19 0), 0), ((ld 21 88 20), 0), ((fa 22 58 8 0), 0), ((ld 23 44 22), 0), ((.mk (some 24) (.lookup 88 (t 21) (t 23) true) none), 0), ((mv 17 24), 0), ((ex 25 17 0), 0), ((ex 26 17 1), 0), ((sv 9 25), 0), ((sv 10 26), 0)]
def s72_5 : SC := .reg [(mv 27 10)]
def s72_6 : SC := .seq s72_5 (.cond (t 27) (.exit 1) (.skip))
def s72_7 : SC := .drw [((fa 28 58 8 1), 0), ((ld 29 33 28), 0), ((.mk (some 30) (.makeFunc (.func 102) #[] #[(t 4)]) none), 0), ((fa 32 58 8 0), 0), ((ld 33 44 32), 0), ((c2 31 46 29 30 33 109), 2), ((.mk (some 34) (.lookup 107 (t 31) (t 33) false) none), 0)]
def s72_8 : SC := .reg [(fa 35 58 8 0), (ld 36 44 35), (.mk (some 37) (.makeInterface 52 (.const (.int (.i64) 12))) none), (c2 38 49 36 37 44 28), (sv 6 38)]
def s72_9 : SC := .cond (t 34) (.seq s72_8 (.ret)) (.skip)
def s72_10 : SC := .seq (.seq s72_4 s72_6) (.seq s72_7 s72_9)
def s72_11 : SC := .reg [(bc 39 .add 3 13 1 3), (mv 13 39)]
def s72_12 : SC := .seq (.block 1 (.seq s72_3 s72_10)) s72_11
def s72_13 : SC := .seq (.cond (t 14) (.skip) (.exit 0)) s72_12
def s72_14 : SC := .seq s72_1 (.block 0 (.loop (.seq s72_2 s72_13)))
def s72_15 : SC := .reg [(.mk (some 6) (.assign (.const (.nilIface))) none)]
def s72 : SC := .seq s72_0 (.seq s72_14 (.seq s72_15 (.ret)))
def e72 := ai s72_0.eq_1 <| ai s72_1.eq_1 <| ai s72_2.eq_1 <| ai s72_3.eq_1 <| ai s72_4.eq_1 <| ai s72_5.eq_1 <| ai s72_6.eq_1 <| ai s72_7.eq_1 <| ai s72_8.eq_1 <| ai s72_9.eq_1 <| ai s72_10.eq_1 <| ai s72_11.eq_1 <| ai s72_12.eq_1 <| ai s72_13.eq_1 <| ai s72_14.eq_1 <| s72_15.eq_1
theorem h72 : FnS Tryz.prog 72 ⟨[4], [(4, [(0, 0), (1, 0), (2, 0), (3, 0), (4, 0), (5, 0), (6, 0), (7, 0), (8, 0), (9, 0), (10, 0), (11, 0)]), (6, [(0, 0), (1, 0), (2, 0), (4, 0), (5, 0), (3, 2), (6, 0)])]⟩ 40 [(.tmp 6)] s72 := by refine .mk' Tryz.func72 ?_ ?_ ?_ ?_ ?_ ?_ <;> kernel_rfl
def s73_0 : SC := .reg [(.mk (some 3) (.box 44 (t 1)) none)]
def s73_1 : SC := .drw [((mv 7 0), 0), ((.mk (some 8) (.nilCheck (t 7)) none), 0), ((fa 9 131 8 0), 0), ((ld 10 24 9), 0), ((ld 11 44 3), 0), ((c2 12 103 10 11 24 44), 1), ((mv 6 12), 0), ((ex 13 6 0), 0), ((ex 14 6 1), 0), ((sv 4 13), 0), ((sv 5 14), 0)]
def s73_2 : SC := .drw [((mv 15 5), 0), ((nt 16 15), 0), ((mv 17 16), 0), ((mg 18 0 17 false), 0), ((.mk (some 19) (.nilCheck (t 18)) (some (17, false))), 0), ((.mk (some 20) (.fieldAddr 131 (t 19) 2) (some (17, false))), 0), ((.mk (some 21) (.load 107 (t 20)) (some (17, false))), 0), ((.mk (some 22) (.load 44 (t 3)) (some (17, false))), 0), ((.mk (some 23) (.lookup 107 (t 21) (t 22) false) (some (17, false))), 0), ((.mk (some 24) (.pick (t 17) (.const (.bool true)) (t 23)) none), 0), ((mv 25 24), 0), ((mg 26 0 25 false), 0), ((.mk (some 27) (.nilCheck (t 26)) (some (25, false))), 0), ((.mk (some 28) (.fieldAddr 131 (t 27) 1) (some (25, false))), 0), ((.mk (some 29) (.load 101 (t 28)) (some (25, false))), 0), ((.mk (some 30) (.binOp (.neq) 101 (t 29) (.const (.nilFunc)) 101) (some (25, false))), 0), ((mg 31 30 25 false), 0), ((mg 32 0 31 true), 0), ((.mk (some 33) (.nilCheck (t 32)) (some (31, true))), 0), ((.mk (some 34) (.fieldAddr 131 (t 33) 1) (some (31, true))), 0), ((.mk (some 35) (.load 101 (t 34)) (some (31, true))), 0), ((.mk (some 36) (.load 44 (t 3)) (some (31, true))), 0), ((.mk (some 37) (.call (.mk (.value (t 35)) #[(t 36)] #[44])) (some (31, true))), 1), ((.mk (some 38) (.pick (t 31) (t 37) (.const (.bool false))) (some (25, false))), 0), ((.mk (some 39) (.pick (t 25) (.const (.bool true)) (t 38)) none), 0)]
def s73_3 : SC := .seq s73_2 (.cond (t 39) (.ret) (.skip))
def s73_4 : SC := .drw [((mv 40 0), 0), ((.mk (some 41) (.nilCheck (t 40)) none), 0), ((fa 42 131 41 2), 0), ((ld 43 107 42), 0), ((ld 44 44 3), 0), ((.mk none (.mapUpdate 107 (t 43) (t 44) (.const (.bool true))) none), 1)]
def s73_5 : SC := .drw [((mv 45 0), 0), ((mv 46 0), 0), ((.mk (some 47) (.nilCheck (t 46)) none), 0), ((fa 48 131 47 3), 0), ((ld 49 129 48), 0), ((ld 50 44 3), 0), ((mv 51 4), 0), ((.mk (some 52) (.build 168 #[(0, (t 50)), (1, (t 51))]) none), 0), ((b1 53 129 52), 0), ((ap 54 49 53 129), 1), ((.mk (some 55) (.nilCheck (t 45)) none), 0), ((fa 56 131 55 3), 0), ((st 129 56 54), 1)]
def s73_6 : SC := .seq s73_1 (.seq s73_3 (.seq s73_4 s73_5))
def s73 : SC := .seq s73_0 s73_6
def e73 := ai s73_0.eq_1 <| ai s73_1.eq_1 <| ai s73_2.eq_1 <| ai s73_3.eq_1 <| ai s73_4.eq_1 <| ai s73_5.eq_1 <| s73_6.eq_1
theorem h73 : FnS Tryz.prog 73 ⟨[3], [(1, [(0, 0), (1, 0), (2, 0), (3, 0), (4, 0), (5, 1), (6, 0), (7, 0), (8, 0), (9, 0), (10, 0)]), (2, [(0, 0), (1, 0), (2, 0), (3, 0), (4, 0), (5, 0), (6, 0), (7, 0), (8, 0), (9, 0), (10, 0), (11, 0), (12, 0), (13, 0), (14, 0), (15, 0), (16, 0), (17, 0), (18, 0), (19, 0), (20, 0), (21, 0), (22, 1), (23, 0), (24, 0)]), (3, [(0, 0), (1, 0), (2, 0), (3, 0), (4, 0), (5, 1)]), (4, [(0, 0), (1, 0), (2, 0), (3, 0), (4, 0), (5, 0), (6, 0), (7, 0), (8, 0), (9, 1), (10, 0), (11, 0), (12, 1)])]⟩ 57 [] s73 := by refine .mk' Tryz.func73 ?_ ?_ ?_ ?_ ?_ ?_ <;> kernel_rfl
def s74_0 : SC := .drw [((mv 4 0), 0), ((.mk (some 5) (.nilCheck (t 4)) none), 0), ((fa 6 131 5 3), 0), ((ld 7 129 6), 0), ((mv 8 0), 0), ((.mk (some 9) (.nilCheck (t 8)) none), 0), ((fa 10 131 9 3), 0), ((ld 11 129 10), 0), ((ln 12 11 129), 0), ((bc 13 .sub 3 12 1 3), 0), ((ia 14 129 7 13), 0), ((sv 2 14), 0)]
def s74_1 : SC := .reg [(mv 15 2), (.mk (some 16) (.nilCheck (t 15)) none), (fa 17 168 16 1), (ld 18 33 17), (ln 19 18 33), (bc 20 .gtr 3 19 0 3)]
def s74_2 : SC := .reg [(mv 21 2), (.mk (some 22) (.nilCheck (t 21)) none), (fa 23 168 22 1), (ld 24 33 23), (.mk (some 25) (.indexAddr 33 (t 24) (.const (.int (.i64) 0))) none), (ld 26 44 25), (.mk (some 3) (.alloc 44) none), (st 44 3 26)]
def s74_3 : SC := .reg [(mv 27 2), (mv 28 2), (.mk (some 29) (.nilCheck (t 28)) none), (fa 30 168 29 1), (ld 31 33 30), (.mk (some 32) (.slice 33 (t 31) (some (.const (.int (.i64) 1))) none none) none), (.mk (some 33) (.nilCheck (t 27)) none), (fa 34 168 33 1), (st 33 34 32)]
def s74_4 : SC := .reg [(mv 35 0), (ld 36 44 3), (c2 37 73 35 36 128 44)]
def s74_5 : SC := .seq s74_2 (.seq s74_3 (.seq s74_4 (.ret)))
def s74_6 : SC := .seq s74_1 (.cond (t 20) s74_5 (.skip))
def s74_7 : SC := .drw [((mv 38 0), 0), ((mv 39 0), 0), ((.mk (some 40) (.nilCheck (t 39)) none), 0), ((fa 41 131 40 4), 0), ((ld 42 33 41), 0), ((mv 43 2), 0), ((.mk (some 44) (.nilCheck (t 43)) none), 0), ((fa 45 168 44 0), 0), ((ld 46 44 45), 0), ((b1 47 33 46), 0), ((ap 48 42 47 33), 1), ((.mk (some 49) (.nilCheck (t 38)) none), 0), ((fa 50 131 49 4), 0), ((st 33 50 48), 1)]
def s74_8 : SC := .drw [((mv 51 0), 0), ((mv 52 0), 0), ((.mk (some 53) (.nilCheck (t 52)) none), 0), ((fa 54 131 53 3), 0), ((ld 55 129 54), 0), ((mv 56 0), 0), ((.mk (some 57) (.nilCheck (t 56)) none), 0), ((fa 58 131 57 3), 0), ((ld 59 129 58), 0), ((ln 60 59 129), 0), ((bc 61 .sub 3 60 1 3), 0), ((.mk (some 62) (.slice 129 (t 55) none (some (t 61)) none) none), 0), ((.mk (some 63) (.nilCheck (t 51)) none), 0), ((fa 64 131 63 3), 0), ((st 129 64 62), 1)]
def s74 : SC := .seq s74_0 (.seq s74_6 (.seq s74_7 s74_8))
def e74 := ai s74_0.eq_1 <| ai s74_1.eq_1 <| ai s74_2.eq_1 <| ai s74_3.eq_1 <| ai s74_4.eq_1 <| ai s74_5.eq_1 <| ai s74_6.eq_1 <| ai s74_7.eq_1 <| s74_8.eq_1
theorem h74 : FnS Tryz.prog 74 ⟨[], [(0, [(0, 0), (1, 0), (2, 0), (3, 0), (4, 0), (5, 0), (6, 0), (7, 0), (8, 0), (9, 0), (10, 0), (11, 0)]), (5, [(0, 0), (1, 0), (2, 0), (3, 0), (4, 0), (5, 0), (6, 0), (7, 0), (8, 0), (9, 0), (10, 1), (11, 0), (12, 0), (13, 1)]), (6, [(0, 0), (1, 0), (2, 0), (3, 0), (4, 0), (5, 0), (6, 0), (7, 0), (8, 0), (9, 0), (10, 0), (11, 0), (12, 0), (13, 0), (14, 1)])]⟩ 65 [] s74 := by refine .mk' Tryz.func74 ?_ ?_ ?_ ?_ ?_ ?_ <;> kernel_rfl
def s75_0 : SC := .reg [(sn 4)]
def s75_1 : SC := .reg [(mv 5 1), (bc 6 .lss 3 5 0 3)]
def s75_2 : SC := .reg [(.mk (some 7) (.makeInterface 9 (.const (.string (.mk #[99, 97, 110, 110, 111, 116, 32, 98, 101, 32, 110, 101, 103, 97, 116, 105, 118, 101])))) none), (.mk none (.panic (t 7)) none)]
def s75_3 : SC := .seq s75_1 (.cond (t 6) s75_2 (.skip))
def s75_4 : SC := .reg [(mv 8 1), (mv 9 0), (.mk (some 10) (.call (.mk (.builtin (.cap)) #[(t 9)] #[33])) none), (mv 11 0), (ln 12 11 33), (bi 13 .sub 3 10 12 3), (bi 14 .sub 3 8 13 3), (sv 1 14)]
def s75_5 : SC := .reg [(mv 15 1), (bc 16 .gtr 3 15 0 3)]
def s75_6 : SC := .reg [(mv 17 0), (mv 18 0), (.mk (some 19) (.call (.mk (.builtin (.cap)) #[(t 18)] #[33])) none), (.mk (some 20) (.slice 33 (t 17) none (some (t 19)) none) none), (mv 21 1), (.mk (some 22) (.call (.mk (.builtin (.append)) #[(t 20), (t 21)] #[33, 3])) none), (mv 23 0), (ln 24 23 33), (.mk (some 25) (.slice 33 (t 22) none (some (t 24)) none) none), (sv 0 25)]
def s75_7 : SC := .seq s75_5 (.cond (t 16) s75_6 (.skip))
def s75_8 : SC := .reg [(mv 26 0), (sv 4 26)]
def s75_9 : SC := .seq (.seq s75_4 s75_7) (.seq s75_8 (.ret))
def s75 : SC := .seq s75_0 (.seq s75_3 s75_9)
def e75 := ai s75_0.eq_1 <| ai s75_1.eq_1 <| ai s75_2.eq_1 <| ai s75_3.eq_1 <| ai s75_4.eq_1 <| ai s75_5.eq_1 <| ai s75_6.eq_1 <| ai s75_7.eq_1 <| ai s75_8.eq_1 <| s75_9.eq_1
def s76_0 : SC := .reg [(sn 4)]
def s76_1 : SC := .reg [(mv 8 0), (mv 9 1), (c2 10 95 8 9 33 101), (sv 5 10)]
def s76_2 : SC := .reg [(mv 11 5), (.mk (some 12) (.binOp (.eql) 3 (t 11) (.const (.int (.i64) (-1))) 3) none)]
def s76_3 : SC := .reg [(mv 13 0), (sv 4 13)]
def s76_4 : SC := .cond (t 12) (.seq s76_3 (.ret)) (.skip)
def s76_5 : SC := .reg [(mv 14 5), (bc 15 .add 3 14 1 3), (sv 6 15)]
def s76_6 : SC := .reg [(mv 16 6), (mv 17 0), (ln 18 17 33), (bi 19 .lss 3 16 18 3)]
def s76_7 : SC := .seq s76_6 (.cond (t 19) (.skip) (.exit 0))
def s76_8 : SC := .reg [(mv 22 0), (mv 23 6), (ia 24 33 22 23), (ld 25 44 24), (.mk (some 7) (.alloc 44) none), (st 44 7 25)]
def s76_9 : SC := .reg [(mv 26 1), (ld 27 44 7), (.mk (some 28) (.call (.mk (.value (t 26)) #[(t 27)] #[44])) none), (nt 29 28)]
def s76_10 : SC := .reg [(mv 30 0), (mv 31 5), (ld 32 44 7), (ia 33 33 30 31), (st 44 33 32)]
def s76_11 : SC := .reg [(mv 34 5), (bc 35 .add 3 34 1 3), (sv 5 35)]
def s76_12 : SC := .cond (t 29) (.seq s76_10 s76_11) (.skip)
def s76_13 : SC := .block 1 (.seq s76_8 (.seq s76_9 s76_12))
def s76_14 : SC := .reg [(mv 20 6), (bc 21 .add 3 20 1 3), (sv 6 21)]
def s76_15 : SC := .loop (.seq s76_7 (.seq s76_13 s76_14))
def s76_16 : SC := .reg [(mv 36 0), (mv 37 5), (.mk (some 38) (.slice 33 (t 36) (some (t 37)) none none) none), (.mk none (.call (.mk (.builtin (.clear)) #[(t 38)] #[33])) none)]
def s76_17 : SC := .reg [(mv 39 0), (mv 40 5), (.mk (some 41) (.slice 33 (t 39) none (some (t 40)) none) none), (sv 4 41)]
def s76_18 : SC := .seq (.seq s76_5 (.block 0 s76_15)) (.seq s76_16 (.seq s76_17 (.ret)))
def s76_19 : SC := .seq s76_1 (.seq (.seq s76_2 s76_4) s76_18)
def s76 : SC := .seq s76_0 s76_19
def e76 := ai s76_0.eq_1 <| ai s76_1.eq_1 <| ai s76_2.eq_1 <| ai s76_3.eq_1 <| ai s76_4.eq_1 <| ai s76_5.eq_1 <| ai s76_6.eq_1 <| ai s76_7.eq_1 <| ai s76_8.eq_1 <| ai s76_9.eq_1 <| ai s76_10.eq_1 <| ai s76_11.eq_1 <| ai s76_12.eq_1 <| ai s76_13.eq_1 <| ai s76_14.eq_1 <| ai s76_15.eq_1 <| ai s76_16.eq_1 <| ai s76_17.eq_1 <| ai s76_18.eq_1 <| s76_19.eq_1
theorem h76 : FnS Tryz.prog 76 ⟨[], []⟩ 42 [(.tmp 4)] s76 := by refine .mk' Tryz.func76 ?_ ?_ ?_ ?_ ?_ ?_ <;> kernel_rfl
def s77_0 : SC := .reg [(.mk (some 2) (.box 44 (t 0)) none), (sb 3 false)]
def s77_1 : SC := .reg [(ld 4 107 1), (ld 5 44 2), (.mk (some 6) (.lookup 107 (t 4) (t 5) false) none), (sv 3 6)]
def s77 : SC := .seq s77_0 (.seq s77_1 (.ret))
def e77 := ai s77_0.eq_1 <| s77_1.eq_1
theorem h77 : FnS Tryz.prog 77 ⟨[2], []⟩ 7 [(.tmp 3)] s77 := by refine .mk' Tryz.func77 ?_ ?_ ?_ ?_ ?_ ?_ <;> kernel_rfl
def s78_0 : SC := .reg [(sn 2)]
def s78_1 : SC := .reg [(mv 4 0), (c1 5 43 4 33), (sv 3 5)]
def s78_2 : SC := .reg [(mv 6 3), (.mk (some 7) (.call (.mk (.value (.func 104)) #[(t 6), (.func 105)] #[33, 173])) none)]
def s78_3 : SC := .reg [(mv 8 3), (c1 9 107 8 33), (sv 2 9)]
def s78_4 : SC := .seq s78_1 (.seq s78_2 (.seq s78_3 (.ret)))
def s78 : SC := .seq s78_0 s78_4
def e78 := ai s78_0.eq_1 <| ai s78_1.eq_1 <| ai s78_2.eq_1 <| ai s78_3.eq_1 <| s78_4.eq_1
theorem h78 : FnS Tryz.prog 78 ⟨[], []⟩ 10 [(.tmp 2)] s78 := by refine .mk' Tryz.func78 ?_ ?_ ?_ ?_ ?_ ?_ <;> kernel_rfl
def s80_0 : SC := .reg [(.mk (some 1) (.box 107 (t 0)) none), (.mk (some 2) (.assign (.const (.nilFunc))) none)]
def s80_1 : SC := .reg [(.mk (some 3) (.makeFunc (.func 109) #[] #[(t 1)]) none), (sv 2 3)]
def s80 : SC := .seq s80_0 (.seq s80_1 (.ret))
def e80 := ai s80_0.eq_1 <| s80_1.eq_1
theorem h80 : FnS Tryz.prog 80 ⟨[], []⟩ 4 [(.tmp 2)] s80 := by refine .mk' Tryz.func80 ?_ ?_ ?_ ?_ ?_ ?_ <;> kernel_rfl
def s81_0 : SC := .reg [(.mk (some 2) (.box 44 (t 0)) none), (sb 3 false)]
def s81_1 : SC := .reg [(ld 4 24 1), (ld 5 44 2), (c2 6 82 4 5 24 44), (nt 7 6), (sv 3 7)]
def s81 : SC := .seq s81_0 (.seq s81_1 (.ret))
def e81 := ai s81_0.eq_1 <| s81_1.eq_1
theorem h81 : FnS Tryz.prog 81 ⟨[2], []⟩ 8 [(.tmp 3)] s81 := by refine .mk' Tryz.func81 ?_ ?_ ?_ ?_ ?_ ?_ <;> kernel_rfl
def s82_0 : SC := .reg [(.mk (some 3) (.box 44 (t 1)) none), (sb 4 false)]
def s82_1 : SC := .drw [((mv 8 0), 0), ((.mk (some 9) (.nilCheck (t 8)) none), 0), ((fa 10 90 9 0), 0), ((ld 11 88 10), 0), ((ld 12 44 3), 0), ((.mk (some 13) (.lookup 88 (t 11) (t 12) true) none), 0), ((mv 7 13), 0), ((ex 14 7 0), 0), ((ex 15 7 1), 0), ((sv 5 14), 0), ((sv 6 15), 0)]
def s82_2 : SC := .reg [(mv 16 6), (sv 4 16)]
def s82 : SC := .seq s82_0 (.seq s82_1 (.seq s82_2 (.ret)))
def e82 := ai s82_0.eq_1 <| ai s82_1.eq_1 <| s82_2.eq_1
theorem h82 : FnS Tryz.prog 82 ⟨[3], [(1, [(0, 0), (1, 0), (2, 0), (3, 0), (4, 0), (5, 0), (6, 0), (7, 0), (8, 0), (9, 0), (10, 0)])]⟩ 17 [(.tmp 4)] s82 := by refine .mk' Tryz.func82 ?_ ?_ ?_ ?_ ?_ ?_ <;> kernel_rfl
def s87_0 : SC := .reg [(sn 2)]
def s87_1 : SC := .reg [(sc 3 0)]
def s87_2 : SC := .reg [(mv 9 0), (ln 10 9 189), (.mk (some 11) (.move (.const (.int (.i64) 0))) none)]
def s87_3 : SC := .reg [(bi 12 .lss 3 11 10 3)]
def s87_4 : SC := .reg [(ia 13 189 9 11), (ld 14 62 13), (sv 5 14)]
def s87_5 : SC := .reg [(mv 15 3), (mv 16 5), (ln 17 16 62), (bi 18 .add 3 15 17 3), (sv 3 18)]
def s87_6 : SC := .reg [(mv 19 3), (bc 20 .lss 3 19 0 3)]
def s87_7 : SC := .reg [(.mk (some 21) (.makeInterface 9 (.const (.string (.mk #[108, 101, 110, 32, 111, 117, 116, 32, 111, 102, 32, 114, 97, 110, 103, 101])))) none), (.mk none (.panic (t 21)) none)]
def s87_8 : SC := .seq s87_6 (.cond (t 20) s87_7 (.skip))
def s87_9 : SC := .block 1 (.seq s87_4 (.seq s87_5 s87_8))
def s87_10 : SC := .reg [(bc 22 .add 3 11 1 3), (mv 11 22)]
def s87_11 : SC := .seq (.cond (t 12) (.skip) (.exit 0)) (.seq s87_9 s87_10)
def s87_12 : SC := .seq s87_2 (.block 0 (.loop (.seq s87_3 s87_11)))
def s87_13 : SC := .reg [(mv 23 3), (.mk (some 24) (.call (.mk (.value (.func 113)) #[(.const (.slice none 0 0)), (t 23)] #[62, 3])) none), (sv 6 24)]
def s87_14 : SC := .reg [(mv 25 0), (ln 26 25 189), (.mk (some 27) (.move (.const (.int (.i64) 0))) none)]
def s87_15 : SC := .reg [(bi 28 .lss 3 27 26 3)]
def s87_16 : SC := .reg [(ia 29 189 25 27), (ld 30 62 29), (sv 8 30)]
def s87_17 : SC := .reg [(mv 31 6), (mv 32 8), (ap 33 31 32 62), (sv 6 33)]
def s87_18 : SC := .reg [(bc 34 .add 3 27 1 3), (mv 27 34)]
def s87_19 : SC := .seq (.block 3 (.seq s87_16 s87_17)) s87_18
def s87_20 : SC := .seq (.cond (t 28) (.skip) (.exit 2)) s87_19
def s87_21 : SC := .seq s87_14 (.block 2 (.loop (.seq s87_15 s87_20)))
def s87_22 : SC := .reg [(mv 35 6), (sv 2 35)]
def s87_23 : SC := .seq s87_13 (.seq s87_21 (.seq s87_22 (.ret)))
def s87 : SC := .seq s87_0 (.seq s87_1 (.seq s87_12 s87_23))
def e87 := ai s87_0.eq_1 <| ai s87_1.eq_1 <| ai s87_2.eq_1 <| ai s87_3.eq_1 <| ai s87_4.eq_1 <| ai s87_5.eq_1 <| ai s87_6.eq_1 <| ai s87_7.eq_1 <| ai s87_8.eq_1 <| ai s87_9.eq_1 <| ai s87_10.eq_1 <| ai s87_11.eq_1 <| ai s87_12.eq_1 <| ai s87_13.eq_1 <| ai s87_14.eq_1 <| ai s87_15.eq_1 <| ai s87_16.eq_1 <| ai s87_17.eq_1 <| ai s87_18.eq_1 <| ai s87_19.eq_1 <| ai s87_20.eq_1 <| ai s87_21.eq_1 <| ai s87_22.eq_1 <| s87_23.eq_1
theorem h87 : FnS Tryz.prog 87 ⟨[], []⟩ 36 [(.tmp 2)] s87 := by refine .mk' Tryz.func87 ?_ ?_ ?_ ?_ ?_ ?_ <;> kernel_rfl
def s91_0 : SC := .reg [(.mk (some 2) (.box 65 (t 0)) none), (.mk (some 3) (.box 65 (t 1)) none), (sb 4 false)]
def s91_1 : SC := .reg [(fa 5 65 2 0), (ld 6 3 5), (fa 7 65 3 1), (ld 8 3 7), (bi 9 .gtr 3 6 8 3), (mv 10 9), (.mk (some 11) (.fieldAddr 65 (t 2) 0) (some (10, true))), (.mk (some 12) (.load 3 (t 11)) (some (10, true))), (.mk (some 13) (.binOp (.sub) 3 (t 12) (.const (.int (.i64) 1)) 3) (some (10, true))), (.mk (some 14) (.fieldAddr 65 (t 3) 1) (some (10, true))), (.mk (some 15) (.load 3 (t 14)) (some (10, true))), (.mk (some 16) (.binOp (.gtr) 3 (t 13) (t 15) 3) (some (10, true))), (pk 17 10 16 false), (sv 4 17)]
def s91 : SC := .seq s91_0 (.seq s91_1 (.ret))
def e91 := ai s91_0.eq_1 <| s91_1.eq_1
theorem h91 : FnS Tryz.prog 91 ⟨[2, 3], []⟩ 18 [(.tmp 4)] s91 := by refine .mk' Tryz.func91 ?_ ?_ ?_ ?_ ?_ ?_ <;> kernel_rfl
def s95_0 : SC := .reg [(sc 4 0)]
def s95_1 : SC := .reg [(mv 6 0), (ln 7 6 33), (.mk (some 8) (.move (.const (.int (.i64) 0))) none)]
def s95_2 : SC := .reg [(bi 9 .lss 3 8 7 3)]
def s95_3 : SC := .reg [(mv 10 8), (sv 5 10)]
def s95_4 : SC := .reg [(mv 11 1), (mv 12 0), (mv 13 5), (ia 14 33 12 13), (ld 15 44 14), (.mk (some 16) (.call (.mk (.value (t 11)) #[(t 15)] #[44])) none)]
def s95_5 : SC := .reg [(mv 17 5), (sv 4 17)]
def s95_6 : SC := .cond (t 16) (.seq s95_5 (.ret)) (.skip)
def s95_7 : SC := .block 1 (.seq s95_3 (.seq s95_4 s95_6))
def s95_8 : SC := .reg [(bc 18 .add 3 8 1 3), (mv 8 18)]
def s95_9 : SC := .seq (.cond (t 9) (.skip) (.exit 0)) (.seq s95_7 s95_8)
def s95_10 : SC := .seq s95_1 (.block 0 (.loop (.seq s95_2 s95_9)))
def s95_11 : SC := .reg [(.mk (some 4) (.assign (.const (.int (.i64) (-1)))) none)]
def s95 : SC := .seq s95_0 (.seq s95_10 (.seq s95_11 (.ret)))
def e95 := ai s95_0.eq_1 <| ai s95_1.eq_1 <| ai s95_2.eq_1 <| ai s95_3.eq_1 <| ai s95_4.eq_1 <| ai s95_5.eq_1 <| ai s95_6.eq_1 <| ai s95_7.eq_1 <| ai s95_8.eq_1 <| ai s95_9.eq_1 <| ai s95_10.eq_1 <| s95_11.eq_1
theorem h95 : FnS Tryz.prog 95 ⟨[], []⟩ 19 [(.tmp 4)] s95 := by refine .mk' Tryz.func95 ?_ ?_ ?_ ?_ ?_ ?_ <;> kernel_rfl
def s100_0 : SC := .reg [(sb 2 false)]
def s100_1 : SC := .reg [(mv 3 0), (c1 4 78 3 33), (ln 5 4 33), (mv 6 0), (ln 7 6 33), (bi 8 .lss 3 5 7 3), (sv 2 8)]
def s100 : SC := .seq s100_0 (.seq s100_1 (.ret))
def e100 := ai s100_0.eq_1 <| s100_1.eq_1
theorem h100 : FnS Tryz.prog 100 ⟨[], []⟩ 9 [(.tmp 2)] s100 := by refine .mk' Tryz.func100 ?_ ?_ ?_ ?_ ?_ ?_ <;> kernel_rfl
def s101_0 : SC := .reg [(sb 4 false)]
def s101_1 : SC := .reg [(mv 6 0), (ln 7 6 33), (mv 8 1), (ln 9 8 33), (bi 10 .neq 3 7 9 3)]
def s101_2 : SC := .reg [(sb 4 false)]
def s101_3 : SC := .cond (t 10) (.seq s101_2 (.ret)) (.skip)
def s101_4 : SC := .reg [(mv 11 0), (ln 12 11 33), (.mk (some 13) (.move (.const (.int (.i64) 0))) none)]
def s101_5 : SC := .reg [(bi 14 .lss 3 13 12 3)]
def s101_6 : SC := .reg [(mv 15 13), (sv 5 15)]
def s101_7 : SC := .drw [((mv 16 0), 0), ((mv 17 5), 0), ((ia 18 33 16 17), 0), ((ld 19 44 18), 0), ((mv 20 1), 0), ((mv 21 5), 0), ((ia 22 33 20 21), 0), ((ld 23 44 22), 0), ((bi 24 .neq 44 19 23 44), 0)]
def s101_8 : SC := .reg [(sb 4 false)]
def s101_9 : SC := .cond (t 24) (.seq s101_8 (.ret)) (.skip)
def s101_10 : SC := .block 1 (.seq s101_6 (.seq s101_7 s101_9))
def s101_11 : SC := .reg [(bc 25 .add 3 13 1 3), (mv 13 25)]
def s101_12 : SC := .seq (.cond (t 14) (.skip) (.exit 0)) (.seq s101_10 s101_11)
def s101_13 : SC := .block 0 (.loop (.seq s101_5 s101_12))
def s101_14 : SC := .reg [(sb 4 true)]
def s101_15 : SC := .seq (.seq s101_4 s101_13) (.seq s101_14 (.ret))
def s101 : SC := .seq s101_0 (.seq (.seq s101_1 s101_3) s101_15)
def e101 := ai s101_0.eq_1 <| ai s101_1.eq_1 <| ai s101_2.eq_1 <| ai s101_3.eq_1 <| ai s101_4.eq_1 <| ai s101_5.eq_1 <| ai s101_6.eq_1 <| ai s101_7.eq_1 <| ai s101_8.eq_1 <| ai s101_9.eq_1 <| ai s101_10.eq_1 <| ai s101_11.eq_1 <| ai s101_12.eq_1 <| ai s101_13.eq_1 <| ai s101_14.eq_1 <| s101_15.eq_1
theorem h101 : FnS Tryz.prog 101 ⟨[], [(6, [(0, 0), (1, 0), (2, 0), (3, 0), (4, 0), (5, 0), (6, 0), (7, 0), (8, 0)])]⟩ 26 [(.tmp 4)] s101 := by refine .mk' Tryz.func101 ?_ ?_ ?_ ?_ ?_ ?_ <;> kernel_rfl
def s102_0 : SC := .reg [(.mk (some 2) (.box 44 (t 0)) none), (sn 3)]
def s102_1 : SC := .reg [(ld 4 88 1), (ld 5 44 2), (.mk (some 6) (.lookup 88 (t 4) (t 5) false) none), (sv 3 6)]
def s102 : SC := .seq s102_0 (.seq s102_1 (.ret))
def e102 := ai s102_0.eq_1 <| s102_1.eq_1
theorem h102 : FnS Tryz.prog 102 ⟨[2], []⟩ 7 [(.tmp 3)] s102 := by refine .mk' Tryz.func102 ?_ ?_ ?_ ?_ ?_ ?_ <;> kernel_rfl
def s103_0 : SC := .reg [(.mk (some 3) (.box 44 (t 1)) none), (sn 4), (sb 5 false)]
def s103_1 : SC := .drw [((mv 9 0), 0), ((.mk (some 10) (.nilCheck (t 9)) none), 0), ((fa 11 90 10 0), 0), ((ld 12 88 11), 0), ((ld 13 44 3), 0), ((.mk (some 14) (.lookup 88 (t 12) (t 13) true) none), 0), ((mv 8 14), 0), ((ex 15 8 0), 0), ((ex 16 8 1), 0), ((sv 6 15), 0), ((sv 7 16), 0)]
def s103_2 : SC := .reg [(mv 17 6), (c1 18 43 17 33), (mv 19 7), (sv 4 18), (sv 5 19)]
def s103 : SC := .seq s103_0 (.seq s103_1 (.seq s103_2 (.ret)))
def e103 := ai s103_0.eq_1 <| ai s103_1.eq_1 <| s103_2.eq_1
theorem h103 : FnS Tryz.prog 103 ⟨[3], [(1, [(0, 0), (1, 0), (2, 0), (3, 0), (4, 0), (5, 0), (6, 0), (7, 0), (8, 0), (9, 0), (10, 0)])]⟩ 20 [(.tmp 4), (.tmp 5)] s103 := by refine .mk' Tryz.func103 ?_ ?_ ?_ ?_ ?_ ?_ <;> kernel_rfl
def s107_0 : SC := .reg [(sn 2)]
def s107_1 : SC := .reg [(mv 6 0), (ln 7 6 33), (bc 8 .lss 3 7 2 3)]
def s107_2 : SC := .reg [(mv 9 0), (sv 2 9)]
def s107_3 : SC := .cond (t 8) (.seq s107_2 (.ret)) (.skip)
def s107_4 : SC := .reg [(sc 3 1)]
def s107_5 : SC := .reg [(mv 10 3), (mv 11 0), (ln 12 11 33), (bi 13 .lss 3 10 12 3)]
def s107_6 : SC := .seq s107_5 (.cond (t 13) (.skip) (.exit 0))
def s107_7 : SC := .drw [((mv 16 0), 0), ((mv 17 3), 0), ((ia 18 33 16 17), 0), ((ld 19 44 18), 0), ((mv 20 0), 0), ((mv 21 3), 0), ((bc 22 .sub 3 21 1 3), 0), ((ia 23 33 20 22), 0), ((ld 24 44 23), 0), ((bi 25 .eql 44 19 24 44), 0)]
def s107_8 : SC := .reg [(mv 26 0), (mv 27 3), (.mk (some 28) (.slice 33 (t 26) (some (t 27)) none none) none), (sv 4 28)]
def s107_9 : SC := .reg [(sc 5 1)]
def s107_10 : SC := .reg [(mv 29 5), (mv 30 4), (ln 31 30 33), (bi 32 .lss 3 29 31 3)]
def s107_11 : SC := .seq s107_10 (.cond (t 32) (.skip) (.exit 2))
def s107_12 : SC := .drw [((mv 35 4), 0), ((mv 36 5), 0), ((ia 37 33 35 36), 0), ((ld 38 44 37), 0), ((mv 39 4), 0), ((mv 40 5), 0), ((bc 41 .sub 3 40 1 3), 0), ((ia 42 33 39 41), 0), ((ld 43 44 42), 0), ((bi 44 .neq 44 38 43 44), 0)]
def s107_13 : SC := .reg [(mv 45 0), (mv 46 3), (mv 47 4), (mv 48 5), (ia 49 33 47 48), (ld 50 44 49), (ia 51 33 45 46), (st 44 51 50)]
def s107_14 : SC := .reg [(mv 52 3), (bc 53 .add 3 52 1 3), (sv 3 53)]
def s107_15 : SC := .cond (t 44) (.seq s107_13 s107_14) (.skip)
def s107_16 : SC := .reg [(mv 33 5), (bc 34 .add 3 33 1 3), (sv 5 34)]
def s107_17 : SC := .seq (.block 3 (.seq s107_12 s107_15)) s107_16
def s107_18 : SC := .block 2 (.loop (.seq s107_11 s107_17))
def s107_19 : SC := .reg [(mv 54 0), (mv 55 3), (.mk (some 56) (.slice 33 (t 54) (some (t 55)) none none) none), (.mk none (.call (.mk (.builtin (.clear)) #[(t 56)] #[33])) none)]
def s107_20 : SC := .reg [(mv 57 0), (mv 58 3), (.mk (some 59) (.slice 33 (t 57) none (some (t 58)) none) none), (sv 2 59)]
def s107_21 : SC := .seq (.seq s107_9 s107_18) (.seq s107_19 (.seq s107_20 (.ret)))
def s107_22 : SC := .cond (t 25) (.seq s107_8 s107_21) (.skip)
def s107_23 : SC := .reg [(mv 14 3), (bc 15 .add 3 14 1 3), (sv 3 15)]
def s107_24 : SC := .seq (.block 1 (.seq s107_7 s107_22)) s107_23
def s107_25 : SC := .block 0 (.loop (.seq s107_6 s107_24))
def s107_26 : SC := .reg [(mv 60 0), (sv 2 60)]
def s107_27 : SC := .seq (.seq s107_4 s107_25) (.seq s107_26 (.ret))
def s107 : SC := .seq s107_0 (.seq (.seq s107_1 s107_3) s107_27)
def e107 := ai s107_0.eq_1 <| ai s107_1.eq_1 <| ai s107_2.eq_1 <| ai s107_3.eq_1 <| ai s107_4.eq_1 <| ai s107_5.eq_1 <| ai s107_6.eq_1 <| ai s107_7.eq_1 <| ai s107_8.eq_1 <| ai s107_9.eq_1 <| ai s107_10.eq_1 <| ai s107_11.eq_1 <| ai s107_12.eq_1 <| ai s107_13.eq_1 <| ai s107_14.eq_1 <| ai s107_15.eq_1 <| ai s107_16.eq_1 <| ai s107_17.eq_1 <| ai s107_18.eq_1 <| ai s107_19.eq_1 <| ai s107_20.eq_1 <| ai s107_21.eq_1 <| ai s107_22.eq_1 <| ai s107_23.eq_1 <| ai s107_24.eq_1 <| ai s107_25.eq_1 <| ai s107_26.eq_1 <| s107_27.eq_1
theorem h107 : FnS Tryz.prog 107 ⟨[], [(6, [(0, 0), (1, 0), (2, 0), (3, 0), (4, 0), (5, 0), (6, 0), (7, 0), (8, 0), (9, 0)]), (11, [(0, 0), (1, 0), (2, 0), (3, 0), (4, 0), (5, 0), (6, 0), (7, 0), (8, 0), (9, 0)])]⟩ 61 [(.tmp 2)] s107 := by refine .mk' Tryz.func107 ?_ ?_ ?_ ?_ ?_ ?_ <;> kernel_rfl
def s113_0 : SC := .reg [(sn 4)]
def s113_1 : SC := .reg [(mv 5 1), (bc 6 .lss 3 5 0 3)]
def s113_2 : SC := .reg [(.mk (some 7) (.makeInterface 9 (.const (.string (.mk #[99, 97, 110, 110, 111, 116, 32, 98, 101, 32, 110, 101, 103, 97, 116, 105, 118, 101])))) none), (.mk none (.panic (t 7)) none)]
def s113_3 : SC := .seq s113_1 (.cond (t 6) s113_2 (.skip))
def s113_4 : SC := .reg [(mv 8 1), (mv 9 0), (.mk (some 10) (.call (.mk (.builtin (.cap)) #[(t 9)] #[62])) none), (mv 11 0), (ln 12 11 62), (bi 13 .sub 3 10 12 3), (bi 14 .sub 3 8 13 3), (sv 1 14)]
def s113_5 : SC := .reg [(mv 15 1), (bc 16 .gtr 3 15 0 3)]
def s113_6 : SC := .reg [(mv 17 0), (mv 18 0), (.mk (some 19) (.call (.mk (.builtin (.cap)) #[(t 18)] #[62])) none), (.mk (some 20) (.slice 62 (t 17) none (some (t 19)) none) none), (mv 21 1), (.mk (some 22) (.call (.mk (.builtin (.append)) #[(t 20), (t 21)] #[62, 3])) none), (mv 23 0), (ln 24 23 62), (.mk (some 25) (.slice 62 (t 22) none (some (t 24)) none) none), (sv 0 25)]
def s113_7 : SC := .seq s113_5 (.cond (t 16) s113_6 (.skip))
def s113_8 : SC := .reg [(mv 26 0), (sv 4 26)]
def s113_9 : SC := .seq (.seq s113_4 s113_7) (.seq s113_8 (.ret))
def s113 : SC := .seq s113_0 (.seq s113_3 s113_9)
def e113 := ai s113_0.eq_1 <| ai s113_1.eq_1 <| ai s113_2.eq_1 <| ai s113_3.eq_1 <| ai s113_4.eq_1 <| ai s113_5.eq_1 <| ai s113_6.eq_1 <| ai s113_7.eq_1 <| ai s113_8.eq_1 <| s113_9.eq_1
theorem h113 : FnS Tryz.prog 113 ⟨[22], []⟩ 27 [(.tmp 4)] s113 := by refine .mk' Tryz.func113 ?_ ?_ ?_ ?_ ?_ ?_ <;> kernel_rfl
end
end Gv.Tryz

/- Contracts: small functions over spans. -/
set_option linter.unusedVariables false
set_option maxRecDepth 20000
set_option linter.unusedSimpArgs false
namespace Gv.Tryz
open Go Gv Go.Proofs

theorem sBeyond (s x : Sp.S) (h1 : -9223372036854775808 ≤ s.1 ∧ s.1 ≤ 9223372036854775807) (h2 : -9223372036854775808 ≤ x.2 ∧ x.2 ≤ 9223372036854775807) :
    GPure Tryz.prog 91 [.agg (spG s), .agg (spG x)] (.bool (decide (x.2 + 1 < s.1))) := by
  refine h91.pure mixS (by simp) ?_
  simp only [gstart, s91, List.cons_append, List.nil_append, List.length_cons, List.length_nil, Nat.reduceAdd, Nat.reduceSub, List.replicate_succ, List.replicate_zero]
  unfold spG
  simp +contextual -implicitDefEqProofs (maxSteps := 2000000) (disch := omega) only [binV, ↓loadV, ↓fieldAddrV, ↓boxV, GVal.cells, GVal.ofConst, ↓resV, resG, ↓reduceIte, Nat.reduceEqDiff, Nat.reduceAdd, Nat.reduceSub, Nat.reduceLeDiff, reduceCtorEq, Tag.cap, GVal.solid, Nat.reduceBEq, Nat.reduceMul, Nat.reduceLT, vcA, ↓vcB, vcC, fbFy, e91, vcD]
  trace_state
  exact ⟨fun h => by simp; omega, fun h => by simp; omega⟩

end Gv.Tryz
/- Contracts: tests over spans; the law's set. -/
set_option linter.unusedVariables false
set_option linter.unusedSimpArgs false
set_option maxRecDepth 20000
set_option maxHeartbeats 4000000
namespace Gv.Tryz
open Go Gv Go.Proofs

end Gv.Tryz
/- slices.SortFunc over rows of structs, as a contract over ghost values. -/
set_option linter.unusedVariables false
namespace Gv
open Go Go.Proofs Go.Shelf Go.RowKit Go.Lib Go.Sort

section
variable {P : Program} {ρ : Ren}
set_option maxHeartbeats 2000000 in
theorem insertion_none (L : SlLaysF0.n20 P ρ) (p : Option Addr) (cap : Nat) (fv : Value) (w : World) :
    Calls P (ρ.f 20) #[.slice p 0 cap, .int .i64 0, .int .i64 0, fv] w fun e w' => e = .returned (.tuple #[]) ∧ w' = w := by
  have mixed := L.mixed; have t0 := L.t0; have a0 := L.a0; have z0 := L.z0; have v0 := L.v0; have t3 := L.t3; have a3 := L.a3; have z3 := L.z3; have v3 := L.v3; have t4 := L.t4; have a4 := L.a4; have z4 := L.z4; have v4 := L.v4; have t22 := L.t22; have a22 := L.a22; have z22 := L.z22; have v22 := L.v22; have t25 := L.t25; have a25 := L.a25; have z25 := L.z25; have v25 := L.v25
  obtain ⟨_, _, FG⟩ := L.f20
  go_enter FG, SlBodyF.n20_ntmps ρ
  go_wp2
  refine wp_loop_rounds 1 ?_
  rw [rounds_succ]
  go_wp2
  go_end0
  exact ⟨rfl, rfl⟩

set_option maxHeartbeats 2000000 in
theorem pdq_none (L : SlLaysF0.n14 P ρ) (p : Option Addr) (cap : Nat) (lim : Int) (fv : Value) (w : World) :
    Calls P (ρ.f 14) #[.slice p 0 cap, .int .i64 0, .int .i64 0, .int .i64 lim, fv] w fun e w' => e = .returned (.tuple #[]) ∧ w' = w := by
  have mixed := L.mixed; have t0 := L.t0; have a0 := L.a0; have z0 := L.z0; have v0 := L.v0; have t3 := L.t3; have a3 := L.a3; have z3 := L.z3; have v3 := L.v3; have t4 := L.t4; have a4 := L.a4; have z4 := L.z4; have v4 := L.v4; have t5 := L.t5; have a5 := L.a5; have z5 := L.z5; have v5 := L.v5; have t9 := L.t9; have a9 := L.a9; have z9 := L.z9; have v9 := L.v9; have t22 := L.t22; have a22 := L.a22; have z22 := L.z22; have v22 := L.v22; have t25 := L.t25; have a25 := L.a25; have z25 := L.z25; have v25 := L.v25; have t39 := L.t39; have a39 := L.a39; have z39 := L.z39; have v39 := L.v39; have t45 := L.t45; have a45 := L.a45; have z45 := L.z45; have v45 := L.v45; have t46 := L.t46; have a46 := L.a46; have z46 := L.z46; have v46 := L.v46; have t50 := L.t50; have a50 := L.a50; have z50 := L.z50; have v50 := L.v50; have t53 := L.t53; have a53 := L.a53; have z53 := L.z53; have v53 := L.v53; have t55 := L.t55; have a55 := L.a55; have z55 := L.z55; have v55 := L.v55; have t66 := L.t66; have a66 := L.a66; have z66 := L.z66; have v66 := L.v66; have t70 := L.t70; have a70 := L.a70; have z70 := L.z70; have v70 := L.v70; have t76 := L.t76; have a76 := L.a76; have z76 := L.z76; have v76 := L.v76; have t77 := L.t77; have a77 := L.a77; have z77 := L.z77; have v77 := L.v77
  have e20 : ∀ args w, (callFunc (ρ.f 20) args).run P w = .ok (.enter (ρ.f 20) args) w := L.f20.enters rfl
  have hi := fun W => insertion_none (P := P) (ρ := ρ) { L with } p cap fv W
  obtain ⟨_, _, FG⟩ := L.f14
  go_enter FG, SlBodyF.n14_ntmps ρ
  go_wp2
  refine wp_loop_rounds 1 ?_
  rw [rounds_succ]
  go_wp2_with (go_at_fn (ρ.f 20); refine (hi _).mono ?_; rintro e w' ⟨rfl, rfl⟩)
  (try simp only [Exit.inBlock, Exit.then]); refine bodyPost_ret (results_none rfl _ _ _) rfl ?_
  exact ⟨rfl, rfl⟩

set_option maxHeartbeats 2000000 in
theorem sort_none (L : SlLaysF0.n6 P ρ) (p : Option Addr) (cap : Nat) (fv : Value) (w : World) :
    Calls P (ρ.f 6) #[.slice p 0 cap, fv] w fun e w' => e = .returned (.tuple #[]) ∧ w' = w := by
  have mixed := L.mixed; have t0 := L.t0; have a0 := L.a0; have z0 := L.z0; have v0 := L.v0; have t3 := L.t3; have a3 := L.a3; have z3 := L.z3; have v3 := L.v3; have t4 := L.t4; have a4 := L.a4; have z4 := L.z4; have v4 := L.v4; have t5 := L.t5; have a5 := L.a5; have z5 := L.z5; have v5 := L.v5; have t9 := L.t9; have a9 := L.a9; have z9 := L.z9; have v9 := L.v9; have t22 := L.t22; have a22 := L.a22; have z22 := L.z22; have v22 := L.v22; have t25 := L.t25; have a25 := L.a25; have z25 := L.z25; have v25 := L.v25; have t39 := L.t39; have a39 := L.a39; have z39 := L.z39; have v39 := L.v39; have t45 := L.t45; have a45 := L.a45; have z45 := L.z45; have v45 := L.v45; have t46 := L.t46; have a46 := L.a46; have z46 := L.z46; have v46 := L.v46; have t50 := L.t50; have a50 := L.a50; have z50 := L.z50; have v50 := L.v50; have t53 := L.t53; have a53 := L.a53; have z53 := L.z53; have v53 := L.v53; have t55 := L.t55; have a55 := L.a55; have z55 := L.z55; have v55 := L.v55; have t66 := L.t66; have a66 := L.a66; have z66 := L.z66; have v66 := L.v66; have t70 := L.t70; have a70 := L.a70; have z70 := L.z70; have v70 := L.v70; have t76 := L.t76; have a76 := L.a76; have z76 := L.z76; have v76 := L.v76; have t77 := L.t77; have a77 := L.a77; have z77 := L.z77; have v77 := L.v77
  have e14 : ∀ args w, (callFunc (ρ.f 14) args).run P w = .ok (.enter (ρ.f 14) args) w := L.f14.enters rfl
  have e15 : ∀ args w, (callFunc (ρ.f 15) args).run P w = .ok (.enter (ρ.f 15) args) w := enters_of L.f15 (by kernel_rfl) rfl
  have hp := fun lim W => pdq_none (P := P) (ρ := ρ) { L with } p cap lim fv W
  have hl : ∀ W, Calls P (ρ.f 15) #[.int .u64 0] W fun e w' => e = .returned (.int .i64 (Lib.bitLen 0 : Nat)) ∧ w' = W := fun W => by
    have h := Any.bits_Len (SlLaysF0.n15.bits (P := P) (ρ := ρ) { L with }) 0 W (by omega) (by omega)
    exact h
  obtain ⟨_, _, FG⟩ := L.f6
  go_enter FG, SlBodyF.n6_ntmps ρ
  go_wp2_with (first | (go_at_fn (ρ.f 15); refine (hl _).mono ?_; rintro e w' ⟨rfl, rfl⟩) | (go_at_fn (ρ.f 14); refine (hp _ _).mono ?_; rintro e w' ⟨rfl, rfl⟩))
  go_end0
  exact ⟨rfl, rfl⟩
end

theorem flatMap_at {α : Type} (G : α → List GVal) (k : Nat) (hG : ∀ x, (G x).length = k) : ∀ (xs : List α) (t : Nat), (xs.map G).flatten[t]? = (xs[t / k]?).bind fun x => (G x)[t % k]?
  | [], t => by simp
  | x :: r, t => by
    rw [List.map_cons, List.flatten_cons]
    by_cases h : t < k
    · rw [List.getElem?_append_left (by rw [hG]; exact h), Nat.div_eq_of_lt h, Nat.mod_eq_of_lt h]
      rfl
    · rw [List.getElem?_append_right (by rw [hG]; omega), hG, flatMap_at G k hG r]
      by_cases hk : k = 0
      · subst hk
        have : ∀ y, G y = [] := fun y => List.eq_nil_of_length_eq_zero (hG y)
        simp [this]
      · have e : t = (t - k) + k := by omega
        have e1 : t / k = (t - k) / k + 1 := by
          conv => lhs; rw [e]
          rw [Nat.add_div_right _ (by omega)]
        have e2 : t % k = (t - k) % k := by
          conv => lhs; rw [e]
          rw [Nat.add_mod_right]
        rw [e1, e2, List.getElem?_cons_succ]

section
variable {α : Type} [Inhabited α]
theorem sortWorld_at (enc : α → List Value) (k : Nat) (w : World) (blk off m : Nat) (dk : Array α) (os : Array Obj) {cur : Array Value} {el : TypeId} {fr : Nat × Nat} (hc : w.heap[blk]? = some (.cells cur el fr)) :
    (sortWorldK enc k w blk off m dk os).os = w.os ∧ (sortWorldK enc k w blk off m dk os).output = w.output ∧ w.heap.size ≤ (sortWorldK enc k w blk off m dk os).heap.size ∧
    (∀ b, b < w.heap.size → b ≠ blk → (sortWorldK enc k w blk off m dk os).heap[b]? = w.heap[b]?) ∧
    (sortWorldK enc k w blk off m dk os).heap[blk]? = some (.cells (putCells id off (flatK enc k dk) cur) el fr) := by
  have e : (sortWorldK enc k w blk off m dk os).heap = (w.heap.modify blk (onCells (putCells id off (flatK enc k dk)))) ++ os := rfl
  have hlt := (Array.getElem?_eq_some_iff.1 hc).1
  refine ⟨rfl, rfl, by rw [e]; simp, fun b hb hn => ?_, ?_⟩
  · rw [e, Array.getElem?_append, if_pos (by simpa using hb), Array.getElem?_modify, if_neg (fun h => hn h.symm)]
  · rw [e, Array.getElem?_append, if_pos (by simpa using hlt), Array.getElem?_modify, if_pos rfl, hc]; rfl

theorem putCells_at (off : Nat) (d : Array Value) (c : Array Value) (j : Nat) (hj : j < d.size) (hc : off + j < c.size) : (putCells id off d c)[off + j]? = some d[j]! := by
  simp only [putCells, Array.getElem?_mapIdx, Array.getElem?_eq_getElem hc, Option.map_some]
  rw [if_pos ⟨by omega, by omega⟩, show off + j - off = j by omega]; rfl
theorem putCells_size (off : Nat) (d : Array Value) (c : Array Value) : (putCells id off d c).size = c.size := by simp [putCells]
theorem getBang_of {β : Type} [Inhabited β] {l : List β} {i : Nat} {x : β} (h : l[i]? = some x) : l[i]! = x := by simp [h]
end

theorem set_same {β : Type} {l : List β} {i : Nat} {x : β} (h : l[i]? = some x) : l.set i x = l := by
  apply List.ext_getElem?
  intro j
  rw [List.getElem?_set]
  by_cases e : i = j
  · subst e; rw [if_pos rfl, h, if_pos (List.getElem?_eq_some_iff.1 h).1]
  · rw [if_neg e]

theorem gcalls_sort {P : Program} {ρ : Ren} {α : Type} [Inhabited α] (L : SlLaysF0.n6 P ρ) (k : Nat) (aE : ∀ w, (isAgg (ρ.t 24)).run P w = .ok true w) (zE : ∀ w, (Go.sizeOf (ρ.t 24)).run P w = .ok k w)
    (enc : α → List Value) (G : α → List GVal) (hk : ∀ x, (enc x).length = k) (h1 : ∀ x, ∀ v ∈ enc x, v.oneCell' = true) (hG : ∀ x, (G x).length = k)
    (hdet : ∀ E x (j : Nat) g v, (G x)[j]? = some g → VR E v g → (enc x)[j]? = some v) (hback : ∀ E x (j : Nat) g, (G x)[j]? = some g → ∃ v, (enc x)[j]? = some v ∧ VR E v g)
    (cf : α → α → Int) (hO : SWO (ltOf cf)) (c : FuncId) (eg : ∀ args w, (callFunc c args).run P w = .ok (.enter c args) w)
    (hcmp : ∀ x y W, Calls P c #[.agg (enc x).toArray, .agg (enc y).toArray] W fun e w' => e = .returned (.int .i64 (cf x y)) ∧ ∃ q os', w' = grow (W.drewN q) os')
    (hen : enterable P (ρ.f 6) = true) (xs : List α) (hsz : xs.length < 4611686018427387904) {O : List GObj} {o st : Nat} (hOo : O[o]? = some (.row st k (xs.map G))) (hc : clockOf O = none) :
    GCalls P (ρ.f 6) [.own o st 0 xs.length, .func (.func c) [] []] O (fun r O' => r = .tuple [] ∧ ∃ ys : List α, ys.Perm xs ∧ ys.Pairwise (fun a b => ¬ cf b a < 0) ∧ O' = O.set o (.row st k (ys.map G))) := by
  refine ⟨hen, fun E w vs hs ha => ?_⟩
  obtain ⟨hvs, hva⟩ := ha
  have h2 : vs.size = 2 := hvs
  have hv0 := hva 0 _ rfl
  have hv1 := hva 1 _ rfl
  obtain ⟨v0, v1, rfl⟩ : ∃ a b, vs = #[a, b] := by
    refine ⟨vs[0], vs[1], Array.ext (by simp [h2]) fun i a b => ?_⟩
    have : i = 0 ∨ i = 1 := by omega
    rcases this with rfl | rfl <;> rfl
  have e0 : (#[v0, v1] : Array Value).getD 0 undef = v0 := rfl
  have e1 : (#[v0, v1] : Array Value).getD 1 undef = v1 := rfl
  rw [e0] at hv0; rw [e1] at hv1
  clear hva hvs h2 e0 e1
  cases hv1 with
  | func _ fs cs _ _ hf hkk hfs hcs =>
    have ef : fs = #[] := Array.eq_empty_of_size_eq_zero hf
    have ec : cs = #[] := Array.eq_empty_of_size_eq_zero hkk
    subst ef; subst ec
    have hreal := hs.real _ _ hOo
    cases hv0 with
    | own a _ cap _ _ _ l hl hcap hadr =>
      obtain ⟨l', hl', hsz', hrow, hm⟩ := hreal
      rw [hl] at hl'; cases hl'
      by_cases hx : xs = []
      · subst hx
        refine (sort_none L a cap _ w).mono ?_
        rintro e w' ⟨rfl, rfl⟩
        exact ⟨_, E, O, .tuple [], rfl, hs, .refl _ _ _, .tuple _ _ rfl (fun j g h => by simp at h), rfl, [], .refl _, .nil, (set_same hOo).symm⟩
      · have hpos : 0 < xs.length := List.length_pos_iff.2 hx
        rcases hadr with h0 | ⟨b, hb, rfl, htot⟩
        · omega
        rw [hb] at hm
        obtain ⟨cur, el, hw, hcs', hle, hrows, hsn⟩ := hm
        have hmul : (0 : Nat) * l.size = 0 := Nat.zero_mul _
        rw [hmul, Nat.add_zero]
        have hle' : l.off + xs.length * k ≤ cur.size := by rw [hcs']; simpa using hle
        have hlt := (Array.getElem?_eq_some_iff.1 hw).1
        have hcell : ∀ t, t < xs.length * k → ∃ v, cur[l.off + t]? = some v ∧ (flatK enc k xs.toArray)[t]! = v := fun t ht => by
          have hk0 : 0 < k := Nat.pos_of_ne_zero fun e => by subst e; simp at ht
          have hd : t / k < xs.length := Nat.div_lt_of_lt_mul (by rw [Nat.mul_comm]; exact ht)
          have hmd : t % k < k := Nat.mod_lt _ hk0
          have hx? : xs[t / k]? = some xs[t / k] := List.getElem?_eq_getElem hd
          have hg : (G xs[t / k])[t % k]? = some ((G xs[t / k])[t % k]'(by rw [hG]; exact hmd)) := List.getElem?_eq_getElem _
          obtain ⟨v, q1, _, q3⟩ := hrows t _ (by rw [flatMap_at G k hG, hx?]; exact hg)
          refine ⟨v, q1, ?_⟩
          rw [get_flatK _ _ _ _ (by simpa using ht)]
          have := hdet E _ _ _ _ hg q3
          have e1 : xs.toArray[t / k]! = xs[t / k] := by
            rw [getElem!_pos _ _ (by simpa using hd)]; rfl
          rw [e1]; exact getBang_of this
        have hH : HoldsK enc k w b l.off xs.toArray := fun t ht => by
          have ht' : t < xs.length * k := by simpa using ht
          obtain ⟨v, q1, q2⟩ := hcell t ht'
          refine ⟨?_, ?_⟩
          · show w.cell? _ = some (flatK enc k xs.toArray)[t]!
            rw [q2]; simp [World.cell?, hw, q1]
          · simp [World.frozen?, hw]
        have hcmp' : CmpLays P c #[] enc k cf b l.off xs.toArray.size w := fun m os dk _ x y => hcmp x y _
        refine (AnyQ.slices_SortFunc L k aE zE enc hk h1 cf hO c #[] b l.off cap xs.toArray w eg hcmp' hH hlt (by simpa using hsz)).mono ?_
        rintro e w' ⟨rfl, d', n, os, ⟨p1, p2, p3⟩, hsort, rfl⟩
        have hlen : d'.size = xs.length := by simpa using p1
        have hperm : d'.toList.Perm xs := by
          have q1 : d'.extract 0 xs.toArray.size = d' := by rw [← p1]; simp
          have q2 : xs.toArray.extract 0 xs.toArray.size = xs.toArray := by simp
          rw [q1, q2] at p3; exact p3
        have hpw : d'.toList.Pairwise (fun a b => ¬ cf b a < 0) := by
          rw [List.pairwise_iff_getElem]
          intro i j hi hj hij
          have := hsort i j (Nat.zero_le _) hij (by simp at hj; rw [← p1]; exact hj)
          rw [getElem!_pos d' j (by simpa using hj), getElem!_pos d' i (by simpa using hi)] at this
          simpa [ltOf] using this
        obtain ⟨s1, s2, s3, s4, s5⟩ := sortWorld_at enc k w b l.off n d' os hw
        have hup := hs.upd (E' := E) (w' := sortWorldK enc k w b l.off n d' os) (obj' := .row st k (d'.toList.map G)) (b := b) (t := b) hOo (.inl (by simp [GObj.blk, hl, hb])) (.inl rfl) (.refl E) hs.fin ⟨rfl, rfl⟩ s1 ⟨s2, trivial⟩ s3 s4 (fun _ _ _ _ hv => hv)
          (fun o v hv => by rw [hsn o] at hv; cases hv)
          (by
            refine ⟨l, hl, hsz', fun y hy => ?_, ?_⟩
            · obtain ⟨z, _, rfl⟩ := List.mem_map.1 hy; exact hG z
            rw [hb]
            refine ⟨_, el, s5, by rw [putCells_size]; exact hcs', by simp [hlen]; rw [← hcs']; exact hle', fun j g hj => ?_, hsn⟩
            rw [flatMap_at G k hG] at hj
            cases hq : d'.toList[j / k]? with
            | none => rw [hq] at hj; cases hj
            | some x =>
              rw [hq] at hj
              have hj' : (G x)[j % k]? = some g := hj
              obtain ⟨v, q1, q2⟩ := hback E x _ g hj'
              have hi : j / k < d'.size := by simpa using (List.getElem?_eq_some_iff.1 hq).1
              have hk0 : 0 < k := Nat.pos_of_ne_zero fun e => by
                have := (List.getElem?_eq_some_iff.1 hj').1; rw [hG, e] at this; omega
              have hjk : j < d'.size * k := (Nat.div_lt_iff_lt_mul hk0).1 hi
              have e3 : d'[j / k]! = x := by
                rw [getElem!_pos d' (j / k) hi]
                have := (List.getElem?_eq_some_iff.1 hq).2
                simpa using this
              refine ⟨v, ?_, h1 x v (List.mem_of_getElem? q1), q2⟩
              rw [putCells_at l.off _ _ j (by simpa using hjk) (by rw [hlen] at hjk; omega), get_flatK _ _ _ _ hjk, e3, getBang_of q1])
          (fun kk hkk => by simp [GObj.blk, hl, hb] at hkk; exact hkk.symm)
        exact ⟨_, E, _, .tuple [], rfl, hup.1, hup.2, .tuple _ _ rfl (fun j g h => by simp at h), rfl, d'.toList, hperm, hpw, rfl⟩
end Gv
