import Derived.Test.YtgkglnjmiobdmaaDoorP5
import Derived.Test.YtgkglnjmiobdmaaDoorProg
import Derived.KernelRfl
import Derived.Test.YtgkglnjmiobdmaaDoorP6
set_option maxRecDepth 100000
set_option linter.defProp false
namespace Gv.Tryd
open Go Gv Go.Proofs
namespace S
abbrev t (n : Nat) : Operand := .tmp n
abbrev mv (d s : Nat) : SOp := .mk (some d) (.move (.tmp s)) none
abbrev sv (d s : Nat) : SOp := .mk (some d) (.assign (.tmp s)) none
abbrev sc (d : Nat) (n : Int) : SOp := .mk (some d) (.assign (.const (.int .i64 n))) none
abbrev ld (d k s : Nat) : SOp := .mk (some d) (.load k (.tmp s)) none
abbrev ia (d k a b : Nat) : SOp := .mk (some d) (.indexAddr k (.tmp a) (.tmp b)) none
abbrev fa (d k a i : Nat) : SOp := .mk (some d) (.fieldAddr k (.tmp a) i) none
abbrev bi (d : Nat) (o : BinOp) (k a b u : Nat) : SOp := .mk (some d) (.binOp o k (.tmp a) (.tmp b) u) none
abbrev bc (d : Nat) (o : BinOp) (k a : Nat) (n : Int) (u : Nat) : SOp := .mk (some d) (.binOp o k (.tmp a) (.const (.int .i64 n)) u) none
abbrev ln (d a k : Nat) : SOp := .mk (some d) (.call (.mk (.builtin .len) #[.tmp a] #[k])) none
abbrev c1 (d f a k : Nat) : SOp := .mk (some d) (.call (.mk (.value (.func f)) #[.tmp a] #[k])) none
abbrev c2 (d f a b k l : Nat) : SOp := .mk (some d) (.call (.mk (.value (.func f)) #[.tmp a, .tmp b] #[k, l])) none
abbrev ap (d a b k : Nat) : SOp := .mk (some d) (.call (.mk (.builtin .append) #[.tmp a, .tmp b] #[k, k])) none
abbrev b1 (d k a : Nat) : SOp := .mk (some d) (.buildSlice k 1 #[(0, .tmp a)]) none
abbrev mg (d s g : Nat) (b : Bool) : SOp := .mk (some d) (.move (.tmp s)) (some (g, b))
abbrev sn (d : Nat) : SOp := .mk (some d) (.assign (.const (.slice none 0 0))) none
abbrev sb (d : Nat) (b : Bool) : SOp := .mk (some d) (.assign (.const (.bool b))) none
abbrev nt (d a : Nat) : SOp := .mk (some d) (.unOp .not 4 (.tmp a)) none
abbrev ex (d a i : Nat) : SOp := .mk (some d) (.extract (.tmp a) i) none
abbrev pk (d a b : Nat) (c : Bool) : SOp := .mk (some d) (.pick (.tmp a) (.tmp b) (.const (.bool c))) none
abbrev st (k a b : Nat) : SOp := .mk none (.store k (.tmp a) (.tmp b)) none
end S
section
open S
def s3_0 : SCode := (.reg [(.mk (some 2) (.box 25 (t 0)) none), (sb 4 false)])
def s3_1 : SCode := (.reg [(.mk (some 18) (.call (.mk (.value (.func 7)) #[] #[])) none), (sv 5 18)])
def s3_2 : SCode := (.reg [(.mk (some 19) (.call (.mk (.value (.func 7)) #[] #[])) none), (sv 6 19)])
def s3_3 : SCode := (.reg [(.mk (some 20) (.call (.mk (.value (.func 8)) #[] #[])) none), (nt 21 20), (mv 22 21), (mg 23 5 22 false), (.mk (some 24) (.binOp (.eql) 26 (t 23) (.const (.pointer none)) 26) (some (22, false))), (.mk (some 25) (.pick (t 22) (.const (.bool true)) (t 24)) none), (mv 26 25), (mg 27 6 26 false), (.mk (some 28) (.binOp (.eql) 26 (t 27) (.const (.pointer none)) 26) (some (26, false))), (.mk (some 29) (.pick (t 26) (.const (.bool true)) (t 28)) none)])
def s3_4 : SCode := (.reg [(sb 4 false)])
def s3_5 : SCode := (.cond (t 29) (.seq s3_4 (.ret)) (.skip))
def s3_6 : SCode := (.reg [(ld 30 25 2), (c1 31 9 30 25), (.mk (some 7) (.alloc 32) none), (st 32 7 31)])
def s3_7 : SCode := (.reg [(mv 32 5), (fa 33 32 7 0), (ld 34 29 33), (c2 35 10 32 34 26 29), (.mk (some 36) (.binOp (.neq) 35 (t 35) (.const (.nilIface)) 35) none)])
def s3_8 : SCode := (.reg [(mv 37 5), (c1 38 11 37 26), (bc 39 .eql 3 38 0 3), (sv 4 39)])
def s3_9 : SCode := (.cond (t 36) (.seq s3_8 (.ret)) (.skip))
def s3_10 : SCode := (.reg [(.mk (some 40) (.buildSlice 29 0 #[]) none), (fa 41 32 7 0), (ld 42 29 41), (ap 43 40 42 29), (sv 8 43)])
def s3_11 : SCode := (.reg [(sn 9)])
def s3_12 : SCode := (.reg [(sc 10 0)])
def s3_13 : SCode := (.reg [(mv 44 8), (ln 45 44 29), (bc 46 .gtr 3 45 0 3)])
def s3_14 : SCode := (.seq s3_13 (.cond (t 46) (.skip) (.exit 0)))
def s3_15 : SCode := (.reg [(sc 11 0)])
def s3_16 : SCode := (.reg [(mv 49 10), (mv 50 1), (ln 51 50 23), (bi 52 .lss 3 49 51 3)])
def s3_17 : SCode := (.reg [(mv 53 1), (mv 54 10), (ia 55 23 53 54), (ld 56 3 55), (mv 57 8), (ln 58 57 29), (c2 59 12 56 58 3 3), (sv 11 59)])
def s3_18 : SCode := (.seq s3_16 (.cond (t 52) s3_17 (.skip)))
def s3_19 : SCode := (.reg [(mv 60 9), (mv 61 8), (mv 62 11), (ia 63 29 61 62), (ld 64 42 63), (b1 65 29 64), (ap 66 60 65 29), (sv 9 66)])
def s3_20 : SCode := (.drw [((.mk (some 67) (.buildSlice 29 0 #[]) none), 0), ((mv 68 8), 0), ((mv 69 11), 0), ((.mk (some 70) (.slice 29 (t 68) none (some (t 69)) none) none), 0), ((mv 72 8), 0), ((mv 73 11), 0), ((bc 74 .add 3 73 1 3), 0), ((.mk (some 75) (.slice 29 (t 72) (some (t 74)) none none) none), 0), ((ap 71 67 70 29), 2), ((ap 76 71 75 29), 1), ((sv 8 76), 0)])
def s3_21 : SCode := (.seq s3_15 (.seq s3_18 (.seq s3_19 s3_20)))
def s3_22 : SCode := (.reg [(mv 47 10), (bc 48 .add 3 47 1 3), (sv 10 48)])
def s3_23 : SCode := (.seq s3_14 (.seq (.block 1 s3_21) s3_22))
def s3_24 : SCode := (.reg [(mv 77 9), (mv 78 9), (mv 79 9), (ln 80 79 29), (bc 81 .quo 3 80 2 3), (.mk (some 82) (.slice 29 (t 78) none (some (t 81)) none) none), (ap 83 77 82 29), (sv 9 83)])
def s3_25 : SCode := (.reg [(mv 84 9), (ln 85 84 29), (bc 86 .gtr 3 85 200 3)])
def s3_26 : SCode := (.reg [(mv 87 9), (.mk (some 88) (.slice 29 (t 87) none (some (.const (.int (.i64) 200))) none) none), (sv 9 88)])
def s3_27 : SCode := (.seq s3_25 (.cond (t 86) s3_26 (.skip)))
def s3_28 : SCode := (.reg [(mv 89 6), (mv 90 9), (c2 91 10 89 90 26 29), (.mk (some 92) (.binOp (.neq) 35 (t 91) (.const (.nilIface)) 35) none), (mv 93 92), (mg 94 5 93 false), (.mk (some 95) (.call (.mk (.value (.func 14)) #[(t 94)] #[26])) (some (93, false))), (mg 96 6 93 false), (.mk (some 97) (.call (.mk (.value (.func 14)) #[(t 96)] #[26])) (some (93, false))), (.mk (some 98) (.call (.mk (.value (.func 13)) #[(t 95), (t 97)] #[30, 30])) (some (93, false))), (.mk (some 99) (.unOp (.not) 4 (t 98)) (some (93, false))), (.mk (some 100) (.pick (t 93) (.const (.bool true)) (t 99)) none)])
def s3_29 : SCode := (.reg [(sb 4 false)])
def s3_30 : SCode := (.cond (t 100) (.seq s3_29 (.ret)) (.skip))
def s3_31 : SCode := (.reg [(mv 101 5), (c1 102 14 101 26), (sv 12 102)])
def s3_32 : SCode := (.reg [(sc 13 0)])
def s3_33 : SCode := (.reg [(mv 103 13), (mv 104 12), (ln 105 104 30), (bi 106 .lss 3 103 105 3)])
def s3_34 : SCode := (.seq s3_33 (.cond (t 106) (.skip) (.exit 2)))
def s3_35 : SCode := (.reg [(mv 110 5), (mv 111 12), (mv 112 13), (ia 113 30 111 112), (ld 114 40 113), (c2 115 15 110 114 26 40), (mv 109 115), (ex 116 109 0), (ex 117 109 1), (sv 14 116), (sv 15 117)])
def s3_36 : SCode := (.reg [(mv 119 6), (mv 120 12), (mv 121 13), (ia 122 30 120 121), (ld 123 40 122), (c2 124 15 119 123 26 40), (mv 118 124), (ex 125 118 0), (ex 126 118 1), (sv 16 125), (sv 17 126)])
def s3_37 : SCode := (.reg [(mv 127 14), (mv 128 16), (c2 129 13 127 128 30 30), (nt 130 129)])
def s3_38 : SCode := (.reg [(sb 4 false)])
def s3_39 : SCode := (.cond (t 130) (.seq s3_38 (.ret)) (.skip))
def s3_40 : SCode := (.seq s3_35 (.seq s3_36 (.seq s3_37 s3_39)))
def s3_41 : SCode := (.reg [(mv 107 13), (bc 108 .add 3 107 1 3), (sv 13 108)])
def s3_42 : SCode := (.seq s3_34 (.seq (.block 3 s3_40) s3_41))
def s3_43 : SCode := (.reg [(sb 4 true)])
def s3_44 : SCode := (.seq (.seq s3_32 (.block 2 (.loop s3_42))) (.seq s3_43 (.ret)))
def s3_45 : SCode := (.seq (.seq s3_28 s3_30) (.seq s3_31 s3_44))
def s3_46 : SCode := (.seq (.seq s3_12 (.block 0 (.loop s3_23))) (.seq s3_24 (.seq s3_27 s3_45)))
def s3_47 : SCode := (.seq (.seq s3_7 s3_9) (.seq s3_10 (.seq s3_11 s3_46)))
def s3_48 : SCode := (.seq (.seq s3_3 s3_5) (.seq s3_6 s3_47))
def s3 : SCode := (.seq s3_0 (.seq s3_1 (.seq s3_2 s3_48)))
def e3 := And.intro s3_0.eq_1 <| And.intro s3_1.eq_1 <| And.intro s3_2.eq_1 <| And.intro s3_3.eq_1 <| And.intro s3_4.eq_1 <| And.intro s3_5.eq_1 <| And.intro s3_6.eq_1 <| And.intro s3_7.eq_1 <| And.intro s3_8.eq_1 <| And.intro s3_9.eq_1 <| And.intro s3_10.eq_1 <| And.intro s3_11.eq_1 <| And.intro s3_12.eq_1 <| And.intro s3_13.eq_1 <| And.intro s3_14.eq_1 <| And.intro s3_15.eq_1 <| And.intro s3_16.eq_1 <| And.intro s3_17.eq_1 <| And.intro s3_18.eq_1 <| And.intro s3_19.eq_1 <| And.intro s3_20.eq_1 <| And.intro s3_21.eq_1 <| And.intro s3_22.eq_1 <| And.intro s3_23.eq_1 <| And.intro s3_24.eq_1 <| And.intro s3_25.eq_1 <| And.intro s3_26.eq_1 <| And.intro s3_27.eq_1 <| And.intro s3_28.eq_1 <| And.intro s3_29.eq_1 <| And.intro s3_30.eq_1 <| And.intro s3_31.eq_1 <| And.intro s3_32.eq_1 <| And.intro s3_33.eq_1 <| And.intro s3_34.eq_1 <| And.intro s3_35.eq_1 <| And.intro s3_36.eq_1 <| And.intro s3_37.eq_1 <| And.intro s3_38.eq_1 <| And.intro s3_39.eq_1 <| And.intro s3_40.eq_1 <| And.intro s3_41.eq_1 <| And.intro s3_42.eq_1 <| And.intro s3_43.eq_1 <| And.intro s3_44.eq_1 <| And.intro s3_45.eq_1 <| And.intro s3_46.eq_1 <| And.intro s3_47.eq_1 <| s3_48.eq_1
theorem h3 : FnS Tryd.prog 3 ⟨[2], [(17, [(0, 0), (1, 0), (2, 0), (3, 0), (5, 0), (6, 0), (7, 0), (8, 0), (4, 2), (9, 1), (10, 0)])]⟩ 131 [(.tmp 4)] s3 := by refine .mk' Tryd.func3 ?_ ?_ ?_ ?_ ?_ ?_ <;> kernel_rfl
def s4_0 : SCode := (.reg [(sb 2 false)])
def s4_1 : SCode := (.reg [(.mk (some 15) (.call (.mk (.value (.func 7)) #[] #[])) none), (sv 3 15)])
def s4_2 : SCode := (.reg [(.mk (some 16) (.call (.mk (.value (.func 8)) #[] #[])) none), (nt 17 16), (mv 18 17), (mg 19 3 18 false), (.mk (some 20) (.binOp (.eql) 26 (t 19) (.const (.pointer none)) 26) (some (18, false))), (.mk (some 21) (.pick (t 18) (.const (.bool true)) (t 20)) none)])
def s4_3 : SCode := (.reg [(sb 2 false)])
def s4_4 : SCode := (.cond (t 21) (.seq s4_3 (.ret)) (.skip))
def s4_5 : SCode := (.reg [(sc 4 0)])
def s4_6 : SCode := (.reg [(mv 22 4), (mv 23 0), (ln 24 23 48), (bi 25 .lss 3 22 24 3), (mv 26 25), (mg 27 4 26 true), (.mk (some 28) (.binOp (.lss) 3 (t 27) (.const (.int (.i64) 8)) 3) (some (26, true))), (pk 29 26 28 false)])
def s4_7 : SCode := (.seq s4_6 (.cond (t 29) (.skip) (.exit 0)))
def s4_8 : SCode := (.reg [(mv 32 0), (mv 33 4), (ia 34 48 32 33), (ld 35 25 34), (c1 36 9 35 25), (.mk (some 5) (.alloc 32) none), (st 32 5 36)])
def s4_9 : SCode := (.reg [(mv 37 3), (c1 38 14 37 26), (sv 6 38)])
def s4_10 : SCode := (.reg [(mv 39 3), (fa 40 32 5 0), (ld 41 29 40), (c2 42 10 39 41 26 29), (sv 7 42)])
def s4_11 : SCode := (.reg [(mv 43 3), (c1 44 14 43 26), (sv 8 44)])
def s4_12 : SCode := (.reg [(mv 45 7), (.mk (some 46) (.binOp (.neq) 35 (t 45) (.const (.nilIface)) 35) none)])
def s4_13 : SCode := (.reg [(mv 47 6), (mv 48 8), (c2 49 13 47 48 30 30), (nt 50 49)])
def s4_14 : SCode := (.reg [(sb 2 false)])
def s4_15 : SCode := (.cond (t 50) (.seq s4_14 (.ret)) (.skip))
def s4_16 : SCode := (.cond (t 46) (.seq (.seq s4_13 s4_15) (.exit 1)) (.skip))
def s4_17 : SCode := (.reg [(mv 51 6), (sv 9 51)])
def s4_18 : SCode := (.reg [(sc 10 0)])
def s4_19 : SCode := (.reg [(mv 52 10), (fa 53 32 5 0), (ld 54 29 53), (ln 55 54 29), (bi 56 .lss 3 52 55 3)])
def s4_20 : SCode := (.seq s4_19 (.cond (t 56) (.skip) (.exit 2)))
def s4_21 : SCode := (.reg [(mv 59 9), (fa 60 32 5 0), (ld 61 29 60), (mv 62 10), (ia 63 29 61 62), (fa 64 42 63 0), (ld 65 40 64), (c2 66 16 59 65 30 40), (sv 9 66)])
def s4_22 : SCode := (.reg [(mv 57 10), (bc 58 .add 3 57 1 3), (sv 10 58)])
def s4_23 : SCode := (.seq s4_20 (.seq (.block 3 s4_21) s4_22))
def s4_24 : SCode := (.reg [(mv 67 8), (mv 68 9), (c2 69 13 67 68 30 30), (nt 70 69)])
def s4_25 : SCode := (.reg [(sb 2 false)])
def s4_26 : SCode := (.cond (t 70) (.seq s4_25 (.ret)) (.skip))
def s4_27 : SCode := (.reg [(sc 11 0)])
def s4_28 : SCode := (.reg [(mv 71 11), (mv 72 8), (ln 73 72 30), (bi 74 .lss 3 71 73 3)])
def s4_29 : SCode := (.seq s4_28 (.cond (t 74) (.skip) (.exit 4)))
def s4_30 : SCode := (.reg [(mv 78 3), (mv 79 8), (mv 80 11), (ia 81 30 79 80), (ld 82 40 81), (c2 83 15 78 82 26 40), (mv 77 83), (ex 84 77 0), (ex 85 77 1), (sv 12 84), (sv 13 85)])
def s4_31 : SCode := (.reg [(mv 86 13), (nt 87 86)])
def s4_32 : SCode := (.reg [(sb 2 false)])
def s4_33 : SCode := (.cond (t 87) (.seq s4_32 (.ret)) (.skip))
def s4_34 : SCode := (.reg [(sc 14 0)])
def s4_35 : SCode := (.reg [(mv 88 14), (mv 89 12), (ln 90 89 30), (bi 91 .lss 3 88 90 3)])
def s4_36 : SCode := (.seq s4_35 (.cond (t 91) (.skip) (.exit 6)))
def s4_37 : SCode := (.drw [((mv 94 3), 0), ((mv 95 12), 0), ((mv 96 14), 0), ((ia 97 30 95 96), 0), ((ld 98 40 97), 0), ((c2 99 17 94 98 26 40), 1), ((nt 100 99), 0), ((mv 101 100), 0), ((mg 102 3 101 false), 0), ((mg 103 12 101 false), 0), ((mg 104 14 101 false), 0), ((mg 105 14 101 false), 0), ((.mk (some 106) (.binOp (.add) 3 (t 105) (.const (.int (.i64) 1)) 3) (some (101, false))), 0), ((.mk (some 107) (.slice 30 (t 103) (some (t 104)) (some (t 106)) none) (some (101, false))), 0), ((mg 109 8 101 false), 0), ((mg 110 11 101 false), 0), ((.mk (some 111) (.indexAddr 30 (t 109) (t 110)) (some (101, false))), 0), ((.mk (some 112) (.load 40 (t 111)) (some (101, false))), 0), ((.mk (some 108) (.call (.mk (.value (.func 19)) #[(t 102), (t 107)] #[26, 30])) (some (101, false))), 2), ((.mk (some 113) (.call (.mk (.value (.func 18)) #[(t 108), (t 112)] #[30, 40])) (some (101, false))), 1), ((.mk (some 114) (.pick (t 101) (.const (.bool true)) (t 113)) none), 0)])
def s4_38 : SCode := (.reg [(sb 2 false)])
def s4_39 : SCode := (.cond (t 114) (.seq s4_38 (.ret)) (.skip))
def s4_40 : SCode := (.reg [(mv 92 14), (bc 93 .add 3 92 1 3), (sv 14 93)])
def s4_41 : SCode := (.seq (.block 7 (.seq s4_37 s4_39)) s4_40)
def s4_42 : SCode := (.seq s4_34 (.block 6 (.loop (.seq s4_36 s4_41))))
def s4_43 : SCode := (.seq s4_30 (.seq (.seq s4_31 s4_33) s4_42))
def s4_44 : SCode := (.reg [(mv 75 11), (bc 76 .add 3 75 1 3), (sv 11 76)])
def s4_45 : SCode := (.seq s4_29 (.seq (.block 5 s4_43) s4_44))
def s4_46 : SCode := (.seq (.seq s4_24 s4_26) (.seq s4_27 (.block 4 (.loop s4_45))))
def s4_47 : SCode := (.seq (.seq s4_18 (.block 2 (.loop s4_23))) s4_46)
def s4_48 : SCode := (.seq (.seq s4_12 s4_16) (.seq s4_17 s4_47))
def s4_49 : SCode := (.seq s4_9 (.seq s4_10 (.seq s4_11 s4_48)))
def s4_50 : SCode := (.reg [(mv 30 4), (bc 31 .add 3 30 1 3), (sv 4 31)])
def s4_51 : SCode := (.seq (.block 1 (.seq s4_8 s4_49)) s4_50)
def s4_52 : SCode := (.seq s4_5 (.block 0 (.loop (.seq s4_7 s4_51))))
def s4_53 : SCode := (.reg [(sb 2 true)])
def s4_54 : SCode := (.seq (.seq s4_2 s4_4) (.seq s4_52 (.seq s4_53 (.ret))))
def s4 : SCode := (.seq s4_0 (.seq s4_1 s4_54))
def e4 := And.intro s4_0.eq_1 <| And.intro s4_1.eq_1 <| And.intro s4_2.eq_1 <| And.intro s4_3.eq_1 <| And.intro s4_4.eq_1 <| And.intro s4_5.eq_1 <| And.intro s4_6.eq_1 <| And.intro s4_7.eq_1 <| And.intro s4_8.eq_1 <| And.intro s4_9.eq_1 <| And.intro s4_10.eq_1 <| And.intro s4_11.eq_1 <| And.intro s4_12.eq_1 <| And.intro s4_13.eq_1 <| And.intro s4_14.eq_1 <| And.intro s4_15.eq_1 <| And.intro s4_16.eq_1 <| And.intro s4_17.eq_1 <| And.intro s4_18.eq_1 <| And.intro s4_19.eq_1 <| And.intro s4_20.eq_1 <| And.intro s4_21.eq_1 <| And.intro s4_22.eq_1 <| And.intro s4_23.eq_1 <| And.intro s4_24.eq_1 <| And.intro s4_25.eq_1 <| And.intro s4_26.eq_1 <| And.intro s4_27.eq_1 <| And.intro s4_28.eq_1 <| And.intro s4_29.eq_1 <| And.intro s4_30.eq_1 <| And.intro s4_31.eq_1 <| And.intro s4_32.eq_1 <| And.intro s4_33.eq_1 <| And.intro s4_34.eq_1 <| And.intro s4_35.eq_1 <| And.intro s4_36.eq_1 <| And.intro s4_37.eq_1 <| And.intro s4_38.eq_1 <| And.intro s4_39.eq_1 <| And.intro s4_40.eq_1 <| And.intro s4_41.eq_1 <| And.intro s4_42.eq_1 <| And.intro s4_43.eq_1 <| And.intro s4_44.eq_1 <| And.intro s4_45.eq_1 <| And.intro s4_46.eq_1 <| And.intro s4_47.eq_1 <| And.intro s4_48.eq_1 <| And.intro s4_49.eq_1 <| And.intro s4_50.eq_1 <| And.intro s4_51.eq_1 <| And.intro s4_52.eq_1 <| And.intro s4_53.eq_1 <| s4_54.eq_1
theorem h4 : FnS Tryd.prog 4 ⟨[], [(30, [(0, 0), (1, 0), (2, 0), (3, 0), (4, 0), (5, 1), (6, 0), (7, 0), (8, 0), (9, 0), (10, 0), (11, 0), (12, 0), (13, 0), (15, 0), (16, 0), (17, 0), (18, 0), (14, 2), (19, 1), (20, 0)])]⟩ 115 [(.tmp 2)] s4 := by refine .mk' Tryd.func4 ?_ ?_ ?_ ?_ ?_ ?_ <;> kernel_rfl
def s5_0 : SCode := (.reg [(sb 6 false)])
def s5_1 : SCode := (.reg [(.mk (some 13) (.call (.mk (.value (.func 7)) #[] #[])) none), (sv 7 13)])
def s5_2 : SCode := (.reg [(.mk (some 14) (.call (.mk (.value (.func 8)) #[] #[])) none), (nt 15 14), (mv 16 15), (mg 17 7 16 false), (.mk (some 18) (.binOp (.eql) 26 (t 17) (.const (.pointer none)) 26) (some (16, false))), (.mk (some 19) (.pick (t 16) (.const (.bool true)) (t 18)) none)])
def s5_3 : SCode := (.reg [(sb 6 false)])
def s5_4 : SCode := (.cond (t 19) (.seq s5_3 (.ret)) (.skip))
def s5_5 : SCode := (.reg [(sc 8 0)])
def s5_6 : SCode := (.reg [(mv 20 8), (mv 21 0), (ln 22 21 48), (bi 23 .lss 3 20 22 3), (mv 24 23), (mg 25 8 24 true), (.mk (some 26) (.binOp (.lss) 3 (t 25) (.const (.int (.i64) 5)) 3) (some (24, true))), (pk 27 24 26 false)])
def s5_7 : SCode := (.seq s5_6 (.cond (t 27) (.skip) (.exit 0)))
def s5_8 : SCode := (.reg [(mv 30 7), (mv 31 0), (mv 32 8), (ia 33 48 31 32), (ld 34 25 33), (c1 35 9 34 25), (.mk (some 36) (.field 32 (t 35) 0) none), (c2 37 10 30 36 26 29)])
def s5_9 : SCode := (.reg [(mv 28 8), (bc 29 .add 3 28 1 3), (sv 8 29)])
def s5_10 : SCode := (.loop (.seq s5_7 (.seq (.block 1 s5_8) s5_9)))
def s5_11 : SCode := (.reg [(mv 38 1), (c1 39 20 38 3), (b1 40 30 39), (sv 9 40)])
def s5_12 : SCode := (.reg [(mv 41 2), (c1 42 20 41 3), (b1 43 30 42), (sv 10 43)])
def s5_13 : SCode := (.reg [(mv 44 7), (mv 45 9), (c2 46 19 44 45 26 30), (sv 11 46)])
def s5_14 : SCode := (.reg [(mv 47 7), (mv 48 10), (c2 49 21 47 48 26 30), (sv 12 49)])
def s5_15 : SCode := (.drw [((mv 50 11), 0), ((mv 51 10), 0), ((.mk (some 52) (.indexAddr 30 (t 51) (.const (.int (.i64) 0))) none), 0), ((ld 53 40 52), 0), ((mv 55 12), 0), ((mv 56 9), 0), ((.mk (some 57) (.indexAddr 30 (t 56) (.const (.int (.i64) 0))) none), 0), ((ld 58 40 57), 0), ((c2 54 18 50 53 30 40), 2), ((c2 59 18 55 58 30 40), 1), ((bi 60 .neq 4 54 59 4), 0)])
def s5_16 : SCode := (.reg [(sb 6 false)])
def s5_17 : SCode := (.cond (t 60) (.seq s5_16 (.ret)) (.skip))
def s5_18 : SCode := (.drw [((mv 61 7), 0), ((mv 62 11), 0), ((mv 64 11), 0), ((c2 63 19 61 62 26 30), 1), ((c2 65 13 63 64 30 30), 1), ((mv 66 65), 0), ((mg 67 7 66 true), 0), ((mg 68 12 66 true), 0), ((mg 70 12 66 true), 0), ((.mk (some 69) (.call (.mk (.value (.func 21)) #[(t 67), (t 68)] #[26, 30])) (some (66, true))), 1), ((.mk (some 71) (.call (.mk (.value (.func 13)) #[(t 69), (t 70)] #[30, 30])) (some (66, true))), 1), ((pk 72 66 71 false), 0), ((mv 73 72), 0), ((mg 74 11 73 true), 0), ((mg 75 9 73 true), 0), ((.mk (some 76) (.indexAddr 30 (t 75) (.const (.int (.i64) 0))) (some (73, true))), 0), ((.mk (some 77) (.load 40 (t 76)) (some (73, true))), 0), ((mg 79 7 73 true), 0), ((mg 80 9 73 true), 0), ((.mk (some 81) (.indexAddr 30 (t 80) (.const (.int (.i64) 0))) (some (73, true))), 0), ((.mk (some 82) (.load 40 (t 81)) (some (73, true))), 0), ((.mk (some 78) (.call (.mk (.value (.func 18)) #[(t 74), (t 77)] #[30, 40])) (some (73, true))), 2), ((.mk (some 83) (.call (.mk (.value (.func 17)) #[(t 79), (t 82)] #[26, 40])) (some (73, true))), 1), ((.mk (some 84) (.binOp (.eql) 4 (t 78) (t 83) 4) (some (73, true))), 0), ((pk 85 73 84 false), 0), ((mv 86 85), 0), ((mg 87 7 86 true), 0), ((mg 88 7 86 true), 0), ((mg 92 7 86 true), 0), ((.mk (some 89) (.call (.mk (.value (.func 14)) #[(t 88)] #[26])) (some (86, true))), 1), ((.mk (some 90) (.call (.mk (.value (.func 19)) #[(t 87), (t 89)] #[26, 30])) (some (86, true))), 1), ((.mk (some 91) (.call (.mk (.builtin (.len)) #[(t 90)] #[30])) (some (86, true))), 0), ((.mk (some 93) (.call (.mk (.value (.func 11)) #[(t 92)] #[26])) (some (86, true))), 2), ((.mk (some 94) (.binOp (.eql) 3 (t 91) (t 93) 3) (some (86, true))), 0), ((pk 95 86 94 false), 0), ((sv 6 95), 0)])
def s5_19 : SCode := (.seq (.seq s5_15 s5_17) (.seq s5_18 (.ret)))
def s5_20 : SCode := (.seq s5_12 (.seq s5_13 (.seq s5_14 s5_19)))
def s5_21 : SCode := (.seq (.seq s5_5 (.block 0 s5_10)) (.seq s5_11 s5_20))
def s5_22 : SCode := (.seq s5_1 (.seq (.seq s5_2 s5_4) s5_21))
def s5 : SCode := (.seq s5_0 s5_22)
def e5 := And.intro s5_0.eq_1 <| And.intro s5_1.eq_1 <| And.intro s5_2.eq_1 <| And.intro s5_3.eq_1 <| And.intro s5_4.eq_1 <| And.intro s5_5.eq_1 <| And.intro s5_6.eq_1 <| And.intro s5_7.eq_1 <| And.intro s5_8.eq_1 <| And.intro s5_9.eq_1 <| And.intro s5_10.eq_1 <| And.intro s5_11.eq_1 <| And.intro s5_12.eq_1 <| And.intro s5_13.eq_1 <| And.intro s5_14.eq_1 <| And.intro s5_15.eq_1 <| And.intro s5_16.eq_1 <| And.intro s5_17.eq_1 <| And.intro s5_18.eq_1 <| And.intro s5_19.eq_1 <| And.intro s5_20.eq_1 <| And.intro s5_21.eq_1 <| s5_22.eq_1
theorem h5 : FnS Tryd.prog 5 ⟨[], [(12, [(0, 0), (1, 0), (2, 0), (3, 0), (5, 0), (6, 0), (7, 0), (8, 0), (4, 2), (9, 1), (10, 0)]), (14, [(0, 0), (1, 0), (3, 0), (2, 1), (4, 1), (5, 0), (6, 0), (7, 0), (9, 0), (8, 1), (10, 1), (11, 0), (12, 0), (13, 0), (14, 0), (15, 0), (16, 0), (18, 0), (19, 0), (20, 0), (21, 0), (17, 2), (22, 1), (23, 0), (24, 0), (25, 0), (26, 0), (27, 0), (31, 0), (28, 1), (29, 1), (30, 0), (32, 2), (33, 0), (34, 0), (35, 0)])]⟩ 96 [(.tmp 6)] s5 := by refine .mk' Tryd.func5 ?_ ?_ ?_ ?_ ?_ ?_ <;> kernel_rfl
def s6_0 : SCode := (.reg [(sb 0 false)])
def s6_1 : SCode := (.reg [(.mk (some 21) (.call (.mk (.value (.func 7)) #[] #[])) none), (sv 1 21)])
def s6_2 : SCode := (.reg [(.mk (some 22) (.call (.mk (.value (.func 8)) #[] #[])) none), (nt 23 22), (mv 24 23), (mg 25 1 24 false), (.mk (some 26) (.binOp (.eql) 26 (t 25) (.const (.pointer none)) 26) (some (24, false))), (.mk (some 27) (.pick (t 24) (.const (.bool true)) (t 26)) none)])
def s6_3 : SCode := (.reg [(sb 0 false)])
def s6_4 : SCode := (.cond (t 27) (.seq s6_3 (.ret)) (.skip))
def s6_5 : SCode := (.reg [(.mk (some 28) (.build 40 #[(0, (.const (.int (.u8) 1)))]) none), (.mk (some 2) (.alloc 40) none), (st 40 2 28)])
def s6_6 : SCode := (.reg [(.mk (some 29) (.build 40 #[(0, (.const (.int (.u8) 2)))]) none), (.mk (some 3) (.alloc 40) none), (st 40 3 29)])
def s6_7 : SCode := (.reg [(.mk (some 30) (.build 40 #[(0, (.const (.int (.u8) 3)))]) none), (.mk (some 4) (.alloc 40) none), (st 40 4 30)])
def s6_8 : SCode := (.reg [(mv 31 1), (.mk (some 32) (.build 32 #[]) none), (c2 33 22 31 32 26 32), (sv 5 33)])
def s6_9 : SCode := (.reg [(mv 34 1), (ld 35 40 2), (.mk (some 36) (.build 40 #[(0, (.const (.int (.u8) 4)))]) none), (.mk (some 37) (.build 40 #[(0, (.const (.int (.u8) 5)))]) none), (.mk (some 38) (.build 40 #[(0, (.const (.int (.u8) 6)))]) none), (.mk (some 39) (.build 40 #[(0, (.const (.int (.u8) 7)))]) none), (.mk (some 40) (.build 40 #[(0, (.const (.int (.u8) 8)))]) none), (.mk (some 41) (.buildSlice 30 5 #[(0, (t 36)), (1, (t 37)), (2, (t 38)), (3, (t 39)), (4, (t 40))]) none), (.mk (some 42) (.build 42 #[(0, (t 35)), (1, (t 41))]) none), (b1 43 29 42), (c2 44 10 34 43 26 29), (sv 6 44)])
def s6_10 : SCode := (.reg [(mv 45 1), (ld 46 40 2), (ld 47 40 3), (ld 48 40 3), (.mk (some 49) (.buildSlice 30 2 #[(0, (t 47)), (1, (t 48))]) none), (.mk (some 50) (.build 42 #[(0, (t 46)), (1, (t 49))]) none), (b1 51 29 50), (c2 52 10 45 51 26 29), (sv 7 52)])
def s6_11 : SCode := (.reg [(mv 53 1), (ld 54 40 3), (ld 55 40 2), (b1 56 30 55), (.mk (some 57) (.build 42 #[(0, (t 54)), (1, (t 56))]) none), (ld 58 40 2), (.mk (some 59) (.build 42 #[(0, (t 58))]) none), (ld 60 40 3), (ld 61 40 2), (b1 62 30 61), (.mk (some 63) (.build 42 #[(0, (t 60)), (1, (t 62))]) none), (.mk (some 64) (.buildSlice 29 3 #[(0, (t 57)), (1, (t 59)), (2, (t 63))]) none), (c2 65 10 53 64 26 29), (sv 8 65)])
def s6_12 : SCode := (.reg [(mv 66 1), (ld 67 40 3), (.mk (some 68) (.build 42 #[(0, (t 67))]) none), (b1 69 29 68), (c2 70 10 66 69 26 29), (sv 9 70)])
def s6_13 : SCode := (.reg [(mv 71 1), (ld 72 40 2), (ld 73 40 4), (.mk (some 74) (.buildSlice 30 2 #[(0, (t 72)), (1, (t 73))]) none), (.mk (some 75) (.build 32 #[(2, (.const (.int (.i64) 1))), (1, (t 74))]) none), (c2 76 22 71 75 26 32), (sv 10 76)])
def s6_14 : SCode := (.reg [(mv 77 1), (ld 78 40 4), (.mk (some 79) (.build 40 #[(0, (.const (.int (.u8) 9)))]) none), (b1 80 30 79), (.mk (some 81) (.build 42 #[(0, (t 78)), (1, (t 80))]) none), (.mk (some 82) (.build 40 #[(0, (.const (.int (.u8) 9)))]) none), (ld 83 40 4), (b1 84 30 83), (.mk (some 85) (.build 42 #[(0, (t 82)), (1, (t 84))]) none), (.mk (some 86) (.buildSlice 29 2 #[(0, (t 81)), (1, (t 85))]) none), (.mk (some 87) (.build 32 #[(2, (.const (.int (.i64) 2))), (0, (t 86))]) none), (c2 88 22 77 87 26 32), (sv 11 88)])
def s6_15 : SCode := (.reg [(mv 89 1), (ld 90 40 2), (b1 91 30 90), (c2 92 23 89 91 26 30), (sv 12 92)])
def s6_16 : SCode := (.reg [(mv 94 11), (c1 95 24 94 35), (mv 93 95), (ex 96 93 0), (ex 97 93 1), (.mk (some 13) (.alloc 40) none), (st 40 13 96), (sv 14 97)])
def s6_17 : SCode := (.reg [(mv 99 12), (c1 100 24 99 35), (mv 98 100), (ex 101 98 0), (ex 102 98 1), (.mk (some 15) (.alloc 40) none), (st 40 15 101), (sv 16 102)])
def s6_18 : SCode := (.reg [(mv 104 1), (ld 105 40 3), (c2 106 15 104 105 26 40), (mv 103 106), (ex 107 103 0), (ex 108 103 1), (sv 17 107), (sv 18 108)])
def s6_19 : SCode := (.reg [(mv 109 1), (c1 110 25 109 26), (sv 19 110)])
def s6_20 : SCode := (.reg [(mv 111 19), (.mk (some 112) (.binOp (.eql) 26 (t 111) (.const (.pointer none)) 26) none)])
def s6_21 : SCode := (.reg [(sb 0 false)])
def s6_22 : SCode := (.cond (t 112) (.seq s6_21 (.ret)) (.skip))
def s6_23 : SCode := (.reg [(mv 113 19), (ld 114 40 3), (ld 115 40 4), (.mk (some 116) (.buildSlice 30 2 #[(0, (t 114)), (1, (t 115))]) none), (c2 117 23 113 116 26 30), (sv 20 117)])
def s6_24 : SCode := (.drw [((mv 118 5), 0), ((c1 119 26 118 35), 1), ((bc 120 .eql 60 119 1 60), 0), ((mv 121 120), 0), ((mg 122 6 121 true), 0), ((.mk (some 123) (.call (.mk (.value (.func 26)) #[(t 122)] #[35])) (some (121, true))), 1), ((.mk (some 124) (.binOp (.eql) 60 (t 123) (.const (.int (.i64) 8)) 60) (some (121, true))), 0), ((pk 125 121 124 false), 0), ((mv 126 125), 0), ((mg 127 7 126 true), 0), ((.mk (some 128) (.call (.mk (.value (.func 26)) #[(t 127)] #[35])) (some (126, true))), 1), ((.mk (some 129) (.binOp (.eql) 60 (t 128) (.const (.int (.i64) 1)) 60) (some (126, true))), 0), ((pk 130 126 129 false), 0), ((mv 131 130), 0), ((mg 132 8 131 true), 0), ((.mk (some 133) (.binOp (.eql) 35 (t 132) (.const (.nilIface)) 35) (some (131, true))), 0), ((pk 134 131 133 false), 0), ((mv 135 134), 0), ((mg 136 9 135 true), 0), ((.mk (some 137) (.call (.mk (.value (.func 26)) #[(t 136)] #[35])) (some (135, true))), 1), ((.mk (some 138) (.binOp (.eql) 60 (t 137) (.const (.int (.i64) 9)) 60) (some (135, true))), 0), ((pk 139 135 138 false), 0), ((mv 140 139), 0), ((mg 141 10 140 true), 0), ((.mk (some 142) (.call (.mk (.value (.func 26)) #[(t 141)] #[35])) (some (140, true))), 1), ((.mk (some 143) (.binOp (.eql) 60 (t 142) (.const (.int (.i64) 11)) 60) (some (140, true))), 0), ((pk 144 140 143 false), 0), ((mv 145 144), 0), ((mg 146 11 145 true), 0), ((.mk (some 147) (.call (.mk (.value (.func 26)) #[(t 146)] #[35])) (some (145, true))), 1), ((.mk (some 148) (.binOp (.eql) 60 (t 147) (.const (.int (.i64) 12)) 60) (some (145, true))), 0), ((pk 149 145 148 false), 0), ((mv 150 149), 0), ((mg 151 14 150 true), 0), ((pk 152 150 151 false), 0), ((mv 153 152), 0), ((.mk (some 154) (.load 40 (t 13)) (some (153, true))), 0), ((.mk (some 155) (.load 40 (t 4)) (some (153, true))), 0), ((.mk (some 156) (.binOp (.eql) 40 (t 154) (t 155) 40) (some (153, true))), 0), ((pk 157 153 156 false), 0), ((mv 158 157), 0), ((mg 159 12 158 true), 0), ((.mk (some 160) (.call (.mk (.value (.func 26)) #[(t 159)] #[35])) (some (158, true))), 1), ((.mk (some 161) (.binOp (.eql) 60 (t 160) (.const (.int (.i64) 10)) 60) (some (158, true))), 0), ((pk 162 158 161 false), 0), ((mv 163 162), 0), ((mg 164 16 163 true), 0), ((pk 165 163 164 false), 0), ((mv 166 165), 0), ((.mk (some 167) (.load 40 (t 15)) (some (166, true))), 0), ((.mk (some 168) (.load 40 (t 3)) (some (166, true))), 0), ((.mk (some 169) (.binOp (.eql) 40 (t 167) (t 168) 40) (some (166, true))), 0), ((pk 170 166 169 false), 0), ((mv 171 170), 0), ((mg 172 17 171 true), 0), ((.mk (some 173) (.call (.mk (.builtin (.len)) #[(t 172)] #[30])) (some (171, true))), 0), ((.mk (some 174) (.binOp (.eql) 3 (t 173) (.const (.int (.i64) 1)) 3) (some (171, true))), 0), ((pk 175 171 174 false), 0), ((mv 176 175), 0), ((mg 177 17 176 true), 0), ((.mk (some 178) (.indexAddr 30 (t 177) (.const (.int (.i64) 0))) (some (176, true))), 0), ((.mk (some 179) (.load 40 (t 178)) (some (176, true))), 0), ((.mk (some 180) (.load 40 (t 2)) (some (176, true))), 0), ((.mk (some 181) (.binOp (.eql) 40 (t 179) (t 180) 40) (some (176, true))), 0), ((pk 182 176 181 false), 0), ((mv 183 182), 0), ((mg 184 18 183 true), 0), ((pk 185 183 184 false), 0), ((mv 186 185), 0), ((mg 187 20 186 true), 0), ((.mk (some 188) (.binOp (.eql) 35 (t 187) (.const (.nilIface)) 35) (some (186, true))), 0), ((pk 189 186 188 false), 0), ((mv 190 189), 0), ((mg 191 19 190 true), 0), ((.mk (some 192) (.call (.mk (.value (.func 11)) #[(t 191)] #[26])) (some (190, true))), 1), ((.mk (some 193) (.binOp (.eql) 3 (t 192) (.const (.int (.i64) 1)) 3) (some (190, true))), 0), ((pk 194 190 193 false), 0), ((mv 195 194), 0), ((mg 196 1 195 true), 0), ((.mk (some 197) (.call (.mk (.value (.func 11)) #[(t 196)] #[26])) (some (195, true))), 1), ((.mk (some 198) (.binOp (.eql) 3 (t 197) (.const (.int (.i64) 2)) 3) (some (195, true))), 0), ((pk 199 195 198 false), 0), ((mv 200 199), 0), ((mg 201 1 200 true), 0), ((.mk (some 202) (.load 40 (t 3)) (some (200, true))), 0), ((.mk (some 203) (.buildSlice 30 1 #[(0, (t 202))]) (some (200, true))), 0), ((.mk (some 204) (.call (.mk (.value (.func 19)) #[(t 201), (t 203)] #[26, 30])) (some (200, true))), 1), ((.mk (some 205) (.call (.mk (.builtin (.len)) #[(t 204)] #[30])) (some (200, true))), 0), ((.mk (some 206) (.binOp (.eql) 3 (t 205) (.const (.int (.i64) 2)) 3) (some (200, true))), 0), ((pk 207 200 206 false), 0), ((mv 208 207), 0), ((mg 209 1 208 true), 0), ((.mk (some 210) (.load 40 (t 2)) (some (208, true))), 0), ((.mk (some 211) (.buildSlice 30 1 #[(0, (t 210))]) (some (208, true))), 0), ((.mk (some 212) (.call (.mk (.value (.func 21)) #[(t 209), (t 211)] #[26, 30])) (some (208, true))), 1), ((.mk (some 213) (.call (.mk (.builtin (.len)) #[(t 212)] #[30])) (some (208, true))), 0), ((.mk (some 214) (.binOp (.eql) 3 (t 213) (.const (.int (.i64) 2)) 3) (some (208, true))), 0), ((pk 215 208 214 false), 0), ((sv 0 215), 0)])
def s6_25 : SCode := (.seq (.seq s6_20 s6_22) (.seq s6_23 (.seq s6_24 (.ret))))
def s6_26 : SCode := (.seq s6_17 (.seq s6_18 (.seq s6_19 s6_25)))
def s6_27 : SCode := (.seq s6_14 (.seq s6_15 (.seq s6_16 s6_26)))
def s6_28 : SCode := (.seq s6_11 (.seq s6_12 (.seq s6_13 s6_27)))
def s6_29 : SCode := (.seq s6_8 (.seq s6_9 (.seq s6_10 s6_28)))
def s6_30 : SCode := (.seq s6_5 (.seq s6_6 (.seq s6_7 s6_29)))
def s6_31 : SCode := (.seq s6_1 (.seq (.seq s6_2 s6_4) s6_30))
def s6 : SCode := (.seq s6_0 s6_31)
theorem h6 : FnS Tryd.prog 6 ⟨[], [(22, [(0, 0), (1, 1), (2, 0), (3, 0), (4, 0), (5, 1), (6, 0), (7, 0), (8, 0), (9, 0), (10, 1), (11, 0), (12, 0), (13, 0), (14, 0), (15, 0), (16, 0), (17, 0), (18, 0), (19, 1), (20, 0), (21, 0), (22, 0), (23, 0), (24, 1), (25, 0), (26, 0), (27, 0), (28, 0), (29, 1), (30, 0), (31, 0), (32, 0), (33, 0), (34, 0), (35, 0), (36, 0), (37, 0), (38, 0), (39, 0), (40, 0), (41, 0), (42, 1), (43, 0), (44, 0), (45, 0), (46, 0), (47, 0), (48, 0), (49, 0), (50, 0), (51, 0), (52, 0), (53, 0), (54, 0), (55, 0), (56, 0), (57, 0), (58, 0), (59, 0), (60, 0), (61, 0), (62, 0), (63, 0), (64, 0), (65, 0), (66, 0), (67, 0), (68, 0), (69, 0), (70, 0), (71, 0), (72, 0), (73, 0), (74, 1), (75, 0), (76, 0), (77, 0), (78, 0), (79, 1), (80, 0), (81, 0), (82, 0), (83, 0), (84, 0), (85, 0), (86, 1), (87, 0), (88, 0), (89, 0), (90, 0), (91, 0), (92, 0), (93, 0), (94, 1), (95, 0), (96, 0), (97, 0), (98, 0)])]⟩ 216 [(.tmp 0)] s6 := by refine .mk' Tryd.func6 ?_ ?_ ?_ ?_ ?_ ?_ <;> kernel_rfl
def s7_0 : SCode := (.reg [(.mk (some 0) (.assign (.const (.pointer none))) none)])
def s7_1 : SCode := (.reg [(.mk (some 1) (.makeMap 62 none) none), (.mk (some 2) (.build 64 #[(0, (t 1))]) none), (.mk (some 3) (.box 64 (t 2)) none), (sv 0 3)])
def s7 : SCode := (.seq s7_0 (.seq s7_1 (.ret)))
def e7 := And.intro s7_0.eq_1 <| s7_1.eq_1
theorem h7 : FnS Tryd.prog 7 ⟨[], []⟩ 4 [(.tmp 0)] s7 := by refine .mk' Tryd.func7 ?_ ?_ ?_ ?_ ?_ ?_ <;> kernel_rfl
def s8_0 : SCode := (.reg [(sb 0 false)])
def s8_1 : SCode := (.reg [(.mk (some 5) (.call (.mk (.value (.func 7)) #[] #[])) none), (sv 1 5)])
def s8_2 : SCode := (.reg [(mv 6 1), (.mk (some 7) (.binOp (.eql) 26 (t 6) (.const (.pointer none)) 26) none)])
def s8_3 : SCode := (.reg [(sb 0 false)])
def s8_4 : SCode := (.cond (t 7) (.seq s8_3 (.ret)) (.skip))
def s8_5 : SCode := (.reg [(mv 8 1), (.mk (some 9) (.build 40 #[(0, (.const (.int (.u8) 1)))]) none), (.mk (some 10) (.build 40 #[(0, (.const (.int (.u8) 2)))]) none), (b1 11 30 10), (.mk (some 12) (.build 42 #[(0, (t 9)), (1, (t 11))]) none), (b1 13 29 12), (.mk (some 14) (.build 32 #[(2, (.const (.int (.i64) 2))), (0, (t 13))]) none), (c2 15 22 8 14 26 32), (sv 2 15)])
def s8_6 : SCode := (.reg [(mv 17 2), (c1 18 24 17 35), (mv 16 18), (ex 19 16 0), (ex 20 16 1), (.mk (some 3) (.alloc 40) none), (st 40 3 19), (sv 4 20)])
def s8_7 : SCode := (.reg [(mv 21 2), (c1 22 26 21 35), (bc 23 .eql 60 22 10 60), (mv 24 23), (mg 25 4 24 true), (pk 26 24 25 false), (mv 27 26), (.mk (some 28) (.load 40 (t 3)) (some (27, true))), (.mk (some 29) (.build 40 #[(0, (.const (.int (.u8) 2)))]) (some (27, true))), (.mk (some 30) (.binOp (.eql) 40 (t 28) (t 29) 40) (some (27, true))), (pk 31 27 30 false), (mv 32 31), (mg 33 1 32 true), (.mk (some 34) (.build 40 #[(0, (.const (.int (.u8) 1)))]) (some (32, true))), (.mk (some 35) (.build 42 #[(0, (t 34))]) (some (32, true))), (.mk (some 36) (.buildSlice 29 1 #[(0, (t 35))]) (some (32, true))), (.mk (some 37) (.call (.mk (.value (.func 10)) #[(t 33), (t 36)] #[26, 29])) (some (32, true))), (.mk (some 38) (.binOp (.eql) 35 (t 37) (.const (.nilIface)) 35) (some (32, true))), (pk 39 32 38 false), (mv 40 39), (mg 41 1 40 true), (.mk (some 42) (.build 40 #[(0, (.const (.int (.u8) 1)))]) (some (40, true))), (.mk (some 43) (.call (.mk (.value (.func 17)) #[(t 41), (t 42)] #[26, 40])) (some (40, true))), (pk 44 40 43 false), (mv 45 44), (mg 46 1 45 true), (.mk (some 47) (.call (.mk (.value (.func 11)) #[(t 46)] #[26])) (some (45, true))), (.mk (some 48) (.binOp (.eql) 3 (t 47) (.const (.int (.i64) 1)) 3) (some (45, true))), (pk 49 45 48 false), (sv 0 49)])
def s8_8 : SCode := (.seq s8_5 (.seq s8_6 (.seq s8_7 (.ret))))
def s8_9 : SCode := (.seq s8_1 (.seq (.seq s8_2 s8_4) s8_8))
def s8 : SCode := (.seq s8_0 s8_9)
def e8 := And.intro s8_0.eq_1 <| And.intro s8_1.eq_1 <| And.intro s8_2.eq_1 <| And.intro s8_3.eq_1 <| And.intro s8_4.eq_1 <| And.intro s8_5.eq_1 <| And.intro s8_6.eq_1 <| And.intro s8_7.eq_1 <| And.intro s8_8.eq_1 <| s8_9.eq_1
theorem h8 : FnS Tryd.prog 8 ⟨[], []⟩ 50 [(.tmp 0)] s8 := by refine .mk' Tryd.func8 ?_ ?_ ?_ ?_ ?_ ?_ <;> kernel_rfl
def s9_0 : SCode := (.reg [(.mk (some 1) (.box 25 (t 0)) none), (.mk (some 2) (.alloc 32) none)])
def s9_1 : SCode := (.reg [(fa 19 25 1 2), (ld 20 3 19), (.mk (some 21) (.call (.mk (.value (.func 12)) #[(t 20), (.const (.int (.i64) 2))] #[3, 3])) none), (.mk (some 22) (.binOp (.add) 3 (.const (.int (.i64) 1)) (t 21) 3) none), (.mk (some 23) (.build 32 #[(2, (t 22))]) none), (.mk (some 3) (.alloc 32) none), (st 32 3 23)])
def s9_2 : SCode := (.reg [(sc 4 0)])
def s9_3 : SCode := (.reg [(mv 24 4), (fa 25 25 1 0), (ld 26 22 25), (ln 27 26 22), (bi 28 .lss 3 24 27 3), (mv 29 28), (mg 30 4 29 true), (.mk (some 31) (.binOp (.lss) 3 (t 30) (.const (.int (.i64) 12)) 3) (some (29, true))), (pk 32 29 31 false)])
def s9_4 : SCode := (.seq s9_3 (.cond (t 32) (.skip) (.exit 0)))
def s9_5 : SCode := (.reg [(fa 35 25 1 0), (ld 36 22 35), (mv 37 4), (ia 38 22 36 37), (ld 39 66 38), (.mk (some 5) (.alloc 66) none), (st 66 5 39)])
def s9_6 : SCode := (.reg [(fa 40 66 5 0), (ld 41 3 40), (.mk (some 42) (.call (.mk (.value (.func 12)) #[(t 41), (.const (.int (.i64) 60))] #[3, 3])) none), (sv 6 42)])
def s9_7 : SCode := (.reg [(mv 43 6), (c1 44 20 43 3), (.mk (some 45) (.build 42 #[(0, (t 44))]) none), (.mk (some 7) (.alloc 42) none), (st 42 7 45)])
def s9_8 : SCode := (.reg [(mv 46 6), (c1 47 27 46 3), (sv 8 47)])
def s9_9 : SCode := (.reg [(sc 9 0)])
def s9_10 : SCode := (.reg [(mv 48 9), (mv 49 8), (ln 50 49 23), (bi 51 .lss 3 48 50 3)])
def s9_11 : SCode := (.seq s9_10 (.cond (t 51) (.skip) (.exit 2)))
def s9_12 : SCode := (.drw [((fa 54 42 7 1), 0), ((ld 55 30 54), 0), ((mv 56 8), 0), ((mv 57 9), 0), ((ia 58 23 56 57), 0), ((ld 59 3 58), 0), ((c1 60 20 59 3), 2), ((b1 61 30 60), 0), ((ap 62 55 61 30), 1), ((fa 63 42 7 1), 0), ((st 30 63 62), 1)])
def s9_13 : SCode := (.reg [(mv 52 9), (bc 53 .add 3 52 1 3), (sv 9 53)])
def s9_14 : SCode := (.seq s9_11 (.seq (.block 3 s9_12) s9_13))
def s9_15 : SCode := (.reg [(fa 64 66 5 1), (ld 65 3 64), (.mk (some 66) (.call (.mk (.value (.func 12)) #[(t 65), (.const (.int (.i64) 60))] #[3, 3])) none)])
def s9_16 : SCode := (.reg [(bc 68 .eql 3 66 0 3), (sv 67 68)])
def s9_17 : SCode := (.reg [(sc 10 0)])
def s9_18 : SCode := (.reg [(mv 69 10), (fa 70 66 5 2), (ld 71 23 70), (ln 72 71 23), (bi 73 .lss 3 69 72 3), (mv 74 73), (mg 75 10 74 true), (.mk (some 76) (.binOp (.lss) 3 (t 75) (.const (.int (.i64) 6)) 3) (some (74, true))), (pk 77 74 76 false)])
def s9_19 : SCode := (.seq s9_18 (.cond (t 77) (.skip) (.exit 5)))
def s9_20 : SCode := (.drw [((fa 80 42 7 1), 0), ((ld 81 30 80), 0), ((fa 82 66 5 2), 0), ((ld 83 23 82), 0), ((mv 84 10), 0), ((ia 85 23 83 84), 0), ((ld 86 3 85), 0), ((c1 87 20 86 3), 2), ((b1 88 30 87), 0), ((ap 89 81 88 30), 1), ((fa 90 42 7 1), 0), ((st 30 90 89), 1)])
def s9_21 : SCode := (.reg [(mv 78 10), (bc 79 .add 3 78 1 3), (sv 10 79)])
def s9_22 : SCode := (.seq s9_19 (.seq (.block 6 s9_20) s9_21))
def s9_23 : SCode := (.reg [(bc 92 .eql 3 66 1 3), (sv 91 92)])
def s9_24 : SCode := (.reg [(fa 93 42 7 1), (ld 94 30 93), (ln 95 94 30), (bc 96 .gtr 3 95 0 3)])
def s9_25 : SCode := (.drw [((fa 97 42 7 1), 0), ((ld 98 30 97), 0), ((fa 99 42 7 1), 0), ((ld 100 30 99), 0), ((.mk (some 101) (.indexAddr 30 (t 100) (.const (.int (.i64) 0))) none), 0), ((ld 102 40 101), 0), ((b1 103 30 102), 0), ((ap 104 98 103 30), 1), ((fa 105 42 7 1), 0), ((st 30 105 104), 1)])
def s9_26 : SCode := (.seq s9_24 (.cond (t 96) s9_25 (.skip)))
def s9_27 : SCode := (.reg [(bc 107 .eql 3 66 2 3), (sv 106 107)])
def s9_28 : SCode := (.reg [(mv 108 6), (bc 109 .add 3 108 1 3), (c1 110 20 109 3), (b1 111 30 110), (fa 112 42 7 1), (st 30 112 111)])
def s9_29 : SCode := (.seq s9_27 (.cond (t 106) s9_28 (.skip)))
def s9_30 : SCode := (.seq s9_23 (.cond (t 91) s9_26 s9_29))
def s9_31 : SCode := (.cond (t 67) (.seq s9_17 (.block 5 (.loop s9_22))) s9_30)
def s9_32 : SCode := (.seq s9_15 (.block 4 (.seq s9_16 s9_31)))
def s9_33 : SCode := (.reg [(fa 113 32 3 0), (ld 114 29 113), (ld 115 42 7), (b1 116 29 115), (ap 117 114 116 29), (fa 118 32 3 0), (st 29 118 117)])
def s9_34 : SCode := (.seq (.seq s9_9 (.block 2 (.loop s9_14))) (.seq s9_32 s9_33))
def s9_35 : SCode := (.seq s9_6 (.seq s9_7 (.seq s9_8 s9_34)))
def s9_36 : SCode := (.reg [(mv 33 4), (bc 34 .add 3 33 1 3), (sv 4 34)])
def s9_37 : SCode := (.seq (.block 1 (.seq s9_5 s9_35)) s9_36)
def s9_38 : SCode := (.seq s9_2 (.block 0 (.loop (.seq s9_4 s9_37))))
def s9_39 : SCode := (.reg [(sc 11 0)])
def s9_40 : SCode := (.reg [(mv 119 11), (fa 120 25 1 1), (ld 121 23 120), (ln 122 121 23), (bi 123 .lss 3 119 122 3), (mv 124 123), (mg 125 11 124 true), (.mk (some 126) (.binOp (.lss) 3 (t 125) (.const (.int (.i64) 4)) 3) (some (124, true))), (pk 127 124 126 false)])
def s9_41 : SCode := (.seq s9_40 (.cond (t 127) (.skip) (.exit 7)))
def s9_42 : SCode := (.drw [((fa 130 32 3 1), 0), ((ld 131 30 130), 0), ((fa 132 25 1 1), 0), ((ld 133 23 132), 0), ((mv 134 11), 0), ((ia 135 23 133 134), 0), ((ld 136 3 135), 0), ((c1 137 20 136 3), 2), ((b1 138 30 137), 0), ((ap 139 131 138 30), 1), ((fa 140 32 3 1), 0), ((st 30 140 139), 1)])
def s9_43 : SCode := (.reg [(mv 128 11), (bc 129 .add 3 128 1 3), (sv 11 129)])
def s9_44 : SCode := (.seq s9_41 (.seq (.block 8 s9_42) s9_43))
def s9_45 : SCode := (.reg [(fa 141 25 1 3), (ld 142 3 141), (bc 143 .quo 3 142 50 3), (.mk (some 144) (.call (.mk (.value (.func 12)) #[(t 143), (.const (.int (.i64) 4))] #[3, 3])) none), (bc 145 .gtr 3 144 0 3)])
def s9_46 : SCode := (.reg [(.mk (some 12) (.alloc 68) none)])
def s9_47 : SCode := (.reg [(fa 146 25 1 1), (ld 147 23 146), (fa 148 25 1 1), (ld 149 23 148), (ln 150 149 23), (.mk (some 151) (.call (.mk (.builtin (.min)) #[(t 150), (.const (.int (.i64) 4))] #[3, 3])) none), (.mk (some 152) (.slice 23 (t 147) none (some (t 151)) none) none), (sv 13 152)])
def s9_48 : SCode := (.reg [(sc 14 0)])
def s9_49 : SCode := (.reg [(mv 153 14), (fa 154 25 1 0), (ld 155 22 154), (ln 156 155 22), (bi 157 .lss 3 153 156 3), (mv 158 157), (mg 159 14 158 true), (.mk (some 160) (.binOp (.lss) 3 (t 159) (.const (.int (.i64) 12)) 3) (some (158, true))), (pk 161 158 160 false)])
def s9_50 : SCode := (.seq s9_49 (.cond (t 161) (.skip) (.exit 9)))
def s9_51 : SCode := (.reg [(fa 164 25 1 0), (ld 165 22 164), (mv 166 14), (ia 167 22 165 166), (fa 168 66 167 0), (ld 169 3 168), (.mk (some 170) (.call (.mk (.value (.func 12)) #[(t 169), (.const (.int (.i64) 60))] #[3, 3])) none), (ia 171 68 12 170), (.mk none (.store 4 (t 171) (.const (.bool true))) none)])
def s9_52 : SCode := (.drw [((.mk (some 172) (.buildSlice 23 0 #[]) none), 0), ((mv 173 13), 0), ((fa 175 25 1 0), 0), ((ld 176 22 175), 0), ((mv 177 14), 0), ((ia 178 22 176 177), 0), ((fa 179 66 178 0), 0), ((ld 180 3 179), 0), ((ap 174 172 173 23), 2), ((.mk (some 181) (.call (.mk (.value (.func 12)) #[(t 180), (.const (.int (.i64) 60))] #[3, 3])) none), 1), ((c1 182 27 181 3), 1), ((ap 183 174 182 23), 1), ((sv 13 183), 0)])
def s9_53 : SCode := (.reg [(mv 162 14), (bc 163 .add 3 162 1 3), (sv 14 163)])
def s9_54 : SCode := (.seq (.block 10 (.seq s9_51 s9_52)) s9_53)
def s9_55 : SCode := (.seq s9_48 (.block 9 (.loop (.seq s9_50 s9_54))))
def s9_56 : SCode := (.reg [(mv 184 13), (ln 185 184 23), (bc 186 .gtr 3 185 0 3)])
def s9_57 : SCode := (.seq s9_56 (.cond (t 186) (.skip) (.exit 11)))
def s9_58 : SCode := (.reg [(mv 187 13), (.mk (some 188) (.indexAddr 23 (t 187) (.const (.int (.i64) 0))) none), (ld 189 3 188), (.mk (some 190) (.call (.mk (.value (.func 12)) #[(t 189), (.const (.int (.i64) 60))] #[3, 3])) none), (sv 15 190)])
def s9_59 : SCode := (.reg [(mv 191 13), (.mk (some 192) (.slice 23 (t 191) (some (.const (.int (.i64) 1))) none none) none), (sv 13 192)])
def s9_60 : SCode := (.reg [(mv 193 15), (ia 194 68 12 193), (ld 195 4 194)])
def s9_61 : SCode := (.seq s9_60 (.cond (t 195) (.exit 12) (.skip)))
def s9_62 : SCode := (.reg [(mv 196 15), (ia 197 68 12 196), (.mk none (.store 4 (t 197) (.const (.bool true))) none)])
def s9_63 : SCode := (.reg [(mv 198 15), (c1 199 20 198 3), (.mk (some 200) (.build 42 #[(0, (t 199))]) none), (.mk (some 16) (.alloc 42) none), (st 42 16 200)])
def s9_64 : SCode := (.reg [(mv 201 15), (c1 202 27 201 3), (sv 17 202)])
def s9_65 : SCode := (.reg [(sc 18 0)])
def s9_66 : SCode := (.reg [(mv 203 18), (mv 204 17), (ln 205 204 23), (bi 206 .lss 3 203 205 3)])
def s9_67 : SCode := (.seq s9_66 (.cond (t 206) (.skip) (.exit 13)))
def s9_68 : SCode := (.drw [((fa 209 42 16 1), 0), ((ld 210 30 209), 0), ((mv 211 17), 0), ((mv 212 18), 0), ((ia 213 23 211 212), 0), ((ld 214 3 213), 0), ((c1 215 20 214 3), 2), ((b1 216 30 215), 0), ((ap 217 210 216 30), 1), ((fa 218 42 16 1), 0), ((st 30 218 217), 1)])
def s9_69 : SCode := (.reg [(mv 207 18), (bc 208 .add 3 207 1 3), (sv 18 208)])
def s9_70 : SCode := (.seq s9_67 (.seq (.block 14 s9_68) s9_69))
def s9_71 : SCode := (.reg [(fa 219 32 3 0), (ld 220 29 219), (ld 221 42 16), (b1 222 29 221), (ap 223 220 222 29), (fa 224 32 3 0), (st 29 224 223)])
def s9_72 : SCode := (.reg [(.mk (some 225) (.buildSlice 23 0 #[]) none), (mv 226 13), (ap 227 225 226 23), (mv 228 17), (ap 229 227 228 23), (sv 13 229)])
def s9_73 : SCode := (.seq (.seq s9_65 (.block 13 (.loop s9_70))) (.seq s9_71 s9_72))
def s9_74 : SCode := (.seq s9_62 (.seq s9_63 (.seq s9_64 s9_73)))
def s9_75 : SCode := (.seq s9_58 (.seq s9_59 (.seq s9_61 s9_74)))
def s9_76 : SCode := (.block 11 (.loop (.seq s9_57 (.block 12 s9_75))))
def s9_77 : SCode := (.seq s9_46 (.seq s9_47 (.seq s9_55 s9_76)))
def s9_78 : SCode := (.seq s9_45 (.cond (t 145) s9_77 (.skip)))
def s9_79 : SCode := (.reg [(fa 230 25 1 3), (ld 231 3 230), (.mk (some 232) (.call (.mk (.value (.func 12)) #[(t 231), (.const (.int (.i64) 50))] #[3, 3])) none)])
def s9_80 : SCode := (.reg [(bc 234 .eql 3 232 0 3), (sv 233 234)])
def s9_81 : SCode := (.reg [(fa 235 25 1 2), (ld 236 3 235), (fa 237 32 3 2), (st 3 237 236)])
def s9_82 : SCode := (.reg [(bc 239 .eql 3 232 1 3), (sv 238 239)])
def s9_83 : SCode := (.reg [(fa 240 32 3 1), (ld 241 30 240), (.mk (some 242) (.build 40 #[(0, (.const (.int (.u8) 9)))]) none), (b1 243 30 242), (ap 244 241 243 30), (fa 245 32 3 1), (st 30 245 244)])
def s9_84 : SCode := (.seq s9_82 (.cond (t 238) s9_83 (.skip)))
def s9_85 : SCode := (.seq s9_80 (.cond (t 233) s9_81 s9_84))
def s9_86 : SCode := (.reg [(ld 246 32 3), (st 32 2 246)])
def s9_87 : SCode := (.seq (.seq s9_79 (.block 15 s9_85)) (.seq s9_86 (.ret)))
def s9_88 : SCode := (.seq (.seq s9_39 (.block 7 (.loop s9_44))) (.seq s9_78 s9_87))
def s9 : SCode := (.seq s9_0 (.seq s9_1 (.seq s9_38 s9_88)))
def e9 := And.intro s9_0.eq_1 <| And.intro s9_1.eq_1 <| And.intro s9_2.eq_1 <| And.intro s9_3.eq_1 <| And.intro s9_4.eq_1 <| And.intro s9_5.eq_1 <| And.intro s9_6.eq_1 <| And.intro s9_7.eq_1 <| And.intro s9_8.eq_1 <| And.intro s9_9.eq_1 <| And.intro s9_10.eq_1 <| And.intro s9_11.eq_1 <| And.intro s9_12.eq_1 <| And.intro s9_13.eq_1 <| And.intro s9_14.eq_1 <| And.intro s9_15.eq_1 <| And.intro s9_16.eq_1 <| And.intro s9_17.eq_1 <| And.intro s9_18.eq_1 <| And.intro s9_19.eq_1 <| And.intro s9_20.eq_1 <| And.intro s9_21.eq_1 <| And.intro s9_22.eq_1 <| And.intro s9_23.eq_1 <| And.intro s9_24.eq_1 <| And.intro s9_25.eq_1 <| And.intro s9_26.eq_1 <| And.intro s9_27.eq_1 <| And.intro s9_28.eq_1 <| And.intro s9_29.eq_1 <| And.intro s9_30.eq_1 <| And.intro s9_31.eq_1 <| And.intro s9_32.eq_1 <| And.intro s9_33.eq_1 <| And.intro s9_34.eq_1 <| And.intro s9_35.eq_1 <| And.intro s9_36.eq_1 <| And.intro s9_37.eq_1 <| And.intro s9_38.eq_1 <| And.intro s9_39.eq_1 <| And.intro s9_40.eq_1 <| And.intro s9_41.eq_1 <| And.intro s9_42.eq_1 <| And.intro s9_43.eq_1 <| And.intro s9_44.eq_1 <| And.intro s9_45.eq_1 <| And.intro s9_46.eq_1 <| And.intro s9_47.eq_1 <| And.intro s9_48.eq_1 <| And.intro s9_49.eq_1 <| And.intro s9_50.eq_1 <| And.intro s9_51.eq_1 <| And.intro s9_52.eq_1 <| And.intro s9_53.eq_1 <| And.intro s9_54.eq_1 <| And.intro s9_55.eq_1 <| And.intro s9_56.eq_1 <| And.intro s9_57.eq_1 <| And.intro s9_58.eq_1 <| And.intro s9_59.eq_1 <| And.intro s9_60.eq_1 <| And.intro s9_61.eq_1 <| And.intro s9_62.eq_1 <| And.intro s9_63.eq_1 <| And.intro s9_64.eq_1 <| And.intro s9_65.eq_1 <| And.intro s9_66.eq_1 <| And.intro s9_67.eq_1 <| And.intro s9_68.eq_1 <| And.intro s9_69.eq_1 <| And.intro s9_70.eq_1 <| And.intro s9_71.eq_1 <| And.intro s9_72.eq_1 <| And.intro s9_73.eq_1 <| And.intro s9_74.eq_1 <| And.intro s9_75.eq_1 <| And.intro s9_76.eq_1 <| And.intro s9_77.eq_1 <| And.intro s9_78.eq_1 <| And.intro s9_79.eq_1 <| And.intro s9_80.eq_1 <| And.intro s9_81.eq_1 <| And.intro s9_82.eq_1 <| And.intro s9_83.eq_1 <| And.intro s9_84.eq_1 <| And.intro s9_85.eq_1 <| And.intro s9_86.eq_1 <| And.intro s9_87.eq_1 <| s9_88.eq_1
theorem h9 : FnS Tryd.prog 9 ⟨[1], [(12, [(0, 0), (1, 0), (2, 0), (3, 0), (4, 0), (5, 0), (6, 2), (7, 0), (8, 1), (9, 0), (10, 1)]), (18, [(0, 0), (1, 0), (2, 0), (3, 0), (4, 0), (5, 0), (6, 0), (7, 2), (8, 0), (9, 1), (10, 0), (11, 1)]), (21, [(0, 0), (1, 0), (2, 0), (3, 0), (4, 0), (5, 0), (6, 0), (7, 1), (8, 0), (9, 1)]), (28, [(0, 0), (1, 0), (2, 0), (3, 0), (4, 0), (5, 0), (6, 0), (7, 2), (8, 0), (9, 1), (10, 0), (11, 1)]), (36, [(0, 0), (1, 0), (3, 0), (4, 0), (5, 0), (6, 0), (7, 0), (8, 0), (2, 2), (9, 1), (10, 1), (11, 1), (12, 0)]), (47, [(0, 0), (1, 0), (2, 0), (3, 0), (4, 0), (5, 0), (6, 2), (7, 0), (8, 1), (9, 0), (10, 1)])]⟩ 247 [(.cell 2 32)] s9 := by refine .mk' Tryd.func9 ?_ ?_ ?_ ?_ ?_ ?_ <;> kernel_rfl
def s10_0 : SCode := (.reg [(.mk (some 4) (.assign (.const (.nilIface))) none)])
def s10_1 : SCode := (.reg [(mv 8 0), (mv 9 1), (.mk (some 10) (.build 32 #[(0, (t 9)), (2, (.const (.int (.i64) 2)))]) none), (c2 11 28 8 10 26 32), (mv 7 11), (ex 12 7 0), (ex 13 7 1), (sv 5 12), (sv 6 13)])
def s10_2 : SCode := (.reg [(mv 14 6), (.mk (some 15) (.binOp (.eql) 35 (t 14) (.const (.nilIface)) 35) none)])
def s10_3 : SCode := (.reg [(mv 16 0), (mv 17 5), (.mk (some 18) (.nilCheck (t 16)) none), (fa 19 64 18 0), (st 62 19 17)])
def s10_4 : SCode := (.seq s10_2 (.cond (t 15) s10_3 (.skip)))
def s10_5 : SCode := (.reg [(mv 20 6), (sv 4 20)])
def s10_6 : SCode := (.seq s10_1 (.seq s10_4 (.seq s10_5 (.ret))))
def s10 : SCode := (.seq s10_0 s10_6)
def e10 := And.intro s10_0.eq_1 <| And.intro s10_1.eq_1 <| And.intro s10_2.eq_1 <| And.intro s10_3.eq_1 <| And.intro s10_4.eq_1 <| And.intro s10_5.eq_1 <| s10_6.eq_1
theorem h10 : FnS Tryd.prog 10 ⟨[], []⟩ 21 [(.tmp 4)] s10 := by refine .mk' Tryd.func10 ?_ ?_ ?_ ?_ ?_ ?_ <;> kernel_rfl
def s11_0 : SCode := (.reg [(sc 2 0)])
def s11_1 : SCode := (.reg [(mv 3 0), (.mk (some 4) (.nilCheck (t 3)) none), (fa 5 64 4 0), (ld 6 62 5), (ln 7 6 62), (sv 2 7)])
def s11 : SCode := (.seq s11_0 (.seq s11_1 (.ret)))
def e11 := And.intro s11_0.eq_1 <| s11_1.eq_1
theorem h11 : FnS Tryd.prog 11 ⟨[], []⟩ 8 [(.tmp 2)] s11 := by refine .mk' Tryd.func11 ?_ ?_ ?_ ?_ ?_ ?_ <;> kernel_rfl
def s12_0 : SCode := (.reg [(sc 4 0)])
def s12_1 : SCode := (.reg [(mv 5 0), (mv 6 1), (bi 7 .rem 3 5 6 3), (sv 0 7)])
def s12_2 : SCode := (.reg [(mv 8 0), (bc 9 .lss 3 8 0 3)])
def s12_3 : SCode := (.reg [(mv 10 0), (mv 11 1), (bi 12 .add 3 10 11 3), (sv 0 12)])
def s12_4 : SCode := (.seq s12_2 (.cond (t 9) s12_3 (.skip)))
def s12_5 : SCode := (.reg [(mv 13 0), (sv 4 13)])
def s12_6 : SCode := (.seq s12_1 (.seq s12_4 (.seq s12_5 (.ret))))
def s12 : SCode := (.seq s12_0 s12_6)
def e12 := And.intro s12_0.eq_1 <| And.intro s12_1.eq_1 <| And.intro s12_2.eq_1 <| And.intro s12_3.eq_1 <| And.intro s12_4.eq_1 <| And.intro s12_5.eq_1 <| s12_6.eq_1
theorem h12 : FnS Tryd.prog 12 ⟨[], []⟩ 14 [(.tmp 4)] s12 := by refine .mk' Tryd.func12 ?_ ?_ ?_ ?_ ?_ ?_ <;> kernel_rfl
def s13_0 : SCode := (.reg [(sb 4 false)])
def s13_1 : SCode := (.reg [(mv 6 0), (ln 7 6 30), (mv 8 1), (ln 9 8 30), (bi 10 .neq 3 7 9 3)])
def s13_2 : SCode := (.reg [(sb 4 false)])
def s13_3 : SCode := (.cond (t 10) (.seq s13_2 (.ret)) (.skip))
def s13_4 : SCode := (.reg [(sc 5 0)])
def s13_5 : SCode := (.reg [(mv 11 5), (mv 12 0), (ln 13 12 30), (bi 14 .lss 3 11 13 3)])
def s13_6 : SCode := (.seq s13_5 (.cond (t 14) (.skip) (.exit 0)))
def s13_7 : SCode := (.drw [((mv 17 0), 0), ((mv 18 5), 0), ((ia 19 30 17 18), 0), ((ld 20 40 19), 0), ((mv 21 1), 0), ((mv 22 5), 0), ((ia 23 30 21 22), 0), ((ld 24 40 23), 0), ((bi 25 .neq 40 20 24 40), 0)])
def s13_8 : SCode := (.reg [(sb 4 false)])
def s13_9 : SCode := (.cond (t 25) (.seq s13_8 (.ret)) (.skip))
def s13_10 : SCode := (.reg [(mv 15 5), (bc 16 .add 3 15 1 3), (sv 5 16)])
def s13_11 : SCode := (.seq (.block 1 (.seq s13_7 s13_9)) s13_10)
def s13_12 : SCode := (.seq s13_4 (.block 0 (.loop (.seq s13_6 s13_11))))
def s13_13 : SCode := (.reg [(sb 4 true)])
def s13_14 : SCode := (.seq (.seq s13_1 s13_3) (.seq s13_12 (.seq s13_13 (.ret))))
def s13 : SCode := (.seq s13_0 s13_14)
def e13 := And.intro s13_0.eq_1 <| And.intro s13_1.eq_1 <| And.intro s13_2.eq_1 <| And.intro s13_3.eq_1 <| And.intro s13_4.eq_1 <| And.intro s13_5.eq_1 <| And.intro s13_6.eq_1 <| And.intro s13_7.eq_1 <| And.intro s13_8.eq_1 <| And.intro s13_9.eq_1 <| And.intro s13_10.eq_1 <| And.intro s13_11.eq_1 <| And.intro s13_12.eq_1 <| And.intro s13_13.eq_1 <| s13_14.eq_1
theorem h13 : FnS Tryd.prog 13 ⟨[], [(6, [(0, 0), (1, 0), (2, 0), (3, 0), (4, 0), (5, 0), (6, 0), (7, 0), (8, 0)])]⟩ 26 [(.tmp 4)] s13 := by refine .mk' Tryd.func13 ?_ ?_ ?_ ?_ ?_ ?_ <;> kernel_rfl
def s14_0 : SCode := (.reg [(sn 2)])
def s14_1 : SCode := (.reg [(mv 3 0), (.mk (some 4) (.nilCheck (t 3)) none), (fa 5 64 4 0), (ld 6 62 5), (c1 7 31 6 62), (c1 8 30 7 73), (c1 9 29 8 30), (sv 2 9)])
def s14 : SCode := (.seq s14_0 (.seq s14_1 (.ret)))
def e14 := And.intro s14_0.eq_1 <| s14_1.eq_1
theorem h14 : FnS Tryd.prog 14 ⟨[], []⟩ 10 [(.tmp 2)] s14 := by refine .mk' Tryd.func14 ?_ ?_ ?_ ?_ ?_ ?_ <;> kernel_rfl
def s15_0 : SCode := (.reg [(.mk (some 3) (.box 40 (t 1)) none), (sn 4), (sb 5 false)])
def s15_1 : SCode := (.drw [((mv 9 0), 0), ((.mk (some 10) (.nilCheck (t 9)) none), 0), ((fa 11 64 10 0), 0), ((ld 12 62 11), 0), ((ld 13 40 3), 0), ((.mk (some 14) (.lookup 62 (t 12) (t 13) true) none), 0), ((mv 8 14), 0), ((ex 15 8 0), 0), ((ex 16 8 1), 0), ((sv 6 15), 0), ((sv 7 16), 0)])
def s15_2 : SCode := (.reg [(mv 17 6), (c1 18 32 17 30), (mv 19 7), (sv 4 18), (sv 5 19)])
def s15 : SCode := (.seq s15_0 (.seq s15_1 (.seq s15_2 (.ret))))
def e15 := And.intro s15_0.eq_1 <| And.intro s15_1.eq_1 <| s15_2.eq_1
theorem h15 : FnS Tryd.prog 15 ⟨[3], [(1, [(0, 0), (1, 0), (2, 0), (3, 0), (4, 0), (5, 0), (6, 0), (7, 0), (8, 0), (9, 0), (10, 0)])]⟩ 20 [(.tmp 4), (.tmp 5)] s15 := by refine .mk' Tryd.func15 ?_ ?_ ?_ ?_ ?_ ?_ <;> kernel_rfl
def s17_0 : SCode := (.reg [(.mk (some 3) (.box 40 (t 1)) none), (sb 4 false)])
def s17_1 : SCode := (.drw [((mv 8 0), 0), ((.mk (some 9) (.nilCheck (t 8)) none), 0), ((fa 10 64 9 0), 0), ((ld 11 62 10), 0), ((ld 12 40 3), 0), ((.mk (some 13) (.lookup 62 (t 11) (t 12) true) none), 0), ((mv 7 13), 0), ((ex 14 7 0), 0), ((ex 15 7 1), 0), ((sv 5 14), 0), ((sv 6 15), 0)])
def s17_2 : SCode := (.reg [(mv 16 6), (sv 4 16)])
def s17 : SCode := (.seq s17_0 (.seq s17_1 (.seq s17_2 (.ret))))
def e17 := And.intro s17_0.eq_1 <| And.intro s17_1.eq_1 <| s17_2.eq_1
theorem h17 : FnS Tryd.prog 17 ⟨[3], [(1, [(0, 0), (1, 0), (2, 0), (3, 0), (4, 0), (5, 0), (6, 0), (7, 0), (8, 0), (9, 0), (10, 0)])]⟩ 17 [(.tmp 4)] s17 := by refine .mk' Tryd.func17 ?_ ?_ ?_ ?_ ?_ ?_ <;> kernel_rfl
def s20_0 : SCode := (.reg [(.mk (some 2) (.alloc 40) none)])
def s20_1 : SCode := (.reg [(mv 4 0), (.mk (some 5) (.call (.mk (.value (.func 12)) #[(t 4), (.const (.int (.i64) 60))] #[3, 3])) none), (sv 0 5)])
def s20_2 : SCode := (.reg [(.mk (some 3) (.alloc 40) none)])
def s20_3 : SCode := (.reg [(.mk (some 6) (.build 80 #[(0, (.const (.int (.u8) 171))), (1, (.const (.int (.u8) 171))), (2, (.const (.int (.u8) 160))), (3, (.const (.int (.u8) 18))), (4, (.const (.int (.u8) 254))), (5, (.const (.int (.u8) 171)))]) none), (mv 7 0), (bc 8 .rem 3 7 6 3), (.mk (some 9) (.index 80 (t 6) (t 8)) none), (.mk (some 10) (.indexAddr 40 (t 3) (.const (.int (.i64) 0))) none), (st 5 10 9)])
def s20_4 : SCode := (.reg [(mv 11 0), (bc 12 .quo 3 11 6 3), (bc 13 .mul 3 12 16 3), (.mk (some 14) (.convert 3 5 (t 13)) none), (.mk (some 15) (.indexAddr 40 (t 3) (.const (.int (.i64) 1))) none), (st 5 15 14)])
def s20_5 : SCode := (.reg [(mv 16 0), (bc 17 .mul 3 16 7 3), (.mk (some 18) (.convert 3 5 (t 17)) none), (.mk (some 19) (.indexAddr 40 (t 3) (.const (.int (.i64) 2))) none), (st 5 19 18)])
def s20_6 : SCode := (.reg [(mv 20 0), (.mk (some 21) (.convert 3 5 (t 20)) none), (.mk (some 22) (.indexAddr 40 (t 3) (.const (.int (.i64) 31))) none), (st 5 22 21)])
def s20_7 : SCode := (.reg [(ld 23 40 3), (st 40 2 23)])
def s20_8 : SCode := (.seq s20_5 (.seq s20_6 (.seq s20_7 (.ret))))
def s20_9 : SCode := (.seq s20_2 (.seq s20_3 (.seq s20_4 s20_8)))
def s20 : SCode := (.seq s20_0 (.seq s20_1 s20_9))
def e20 := And.intro s20_0.eq_1 <| And.intro s20_1.eq_1 <| And.intro s20_2.eq_1 <| And.intro s20_3.eq_1 <| And.intro s20_4.eq_1 <| And.intro s20_5.eq_1 <| And.intro s20_6.eq_1 <| And.intro s20_7.eq_1 <| And.intro s20_8.eq_1 <| s20_9.eq_1
theorem h20 : FnS Tryd.prog 20 ⟨[], []⟩ 24 [(.cell 2 40)] s20 := by refine .mk' Tryd.func20 ?_ ?_ ?_ ?_ ?_ ?_ <;> kernel_rfl
def s22_0 : SCode := (.reg [(.mk (some 3) (.box 32 (t 1)) none), (.mk (some 4) (.assign (.const (.nilIface))) none)])
def s22_1 : SCode := (.reg [(mv 8 0), (ld 9 32 3), (c2 10 28 8 9 26 32), (mv 7 10), (ex 11 7 0), (ex 12 7 1), (sv 5 11), (sv 6 12)])
def s22_2 : SCode := (.reg [(mv 13 6), (sv 4 13)])
def s22 : SCode := (.seq s22_0 (.seq s22_1 (.seq s22_2 (.ret))))
def e22 := And.intro s22_0.eq_1 <| And.intro s22_1.eq_1 <| s22_2.eq_1
theorem h22 : FnS Tryd.prog 22 ⟨[3], []⟩ 14 [(.tmp 4)] s22 := by refine .mk' Tryd.func22 ?_ ?_ ?_ ?_ ?_ ?_ <;> kernel_rfl
def s24_0 : SCode := (.reg [(.mk (some 2) (.alloc 40) none), (sb 3 false)])
def s24_1 : SCode := (.reg [(.mk (some 4) (.alloc 84) none)])
def s24_2 : SCode := (.reg [(mv 5 0), (.mk (some 6) (.makeInterface 86 (t 4)) none), (c2 7 43 5 6 35 20), (mv 8 7), (.mk (some 9) (.load 84 (t 4)) (some (8, true))), (.mk (some 10) (.binOp (.neq) 84 (t 9) (.const (.pointer none)) 84) (some (8, true))), (pk 11 8 10 false)])
def s24_3 : SCode := (.reg [(ld 12 84 4), (.mk (some 13) (.nilCheck (t 12)) none), (fa 14 88 13 0), (ld 15 40 14), (st 40 2 15), (sb 3 true)])
def s24_4 : SCode := (.cond (t 11) (.seq s24_3 (.ret)) (.skip))
def s24_5 : SCode := (.reg [(.mk (some 16) (.build 40 #[]) none), (st 40 2 16), (sb 3 false)])
def s24_6 : SCode := (.seq (.seq s24_2 s24_4) (.seq s24_5 (.ret)))
def s24 : SCode := (.seq s24_0 (.seq s24_1 s24_6))
def e24 := And.intro s24_0.eq_1 <| And.intro s24_1.eq_1 <| And.intro s24_2.eq_1 <| And.intro s24_3.eq_1 <| And.intro s24_4.eq_1 <| And.intro s24_5.eq_1 <| s24_6.eq_1
theorem h24 : FnS Tryd.prog 24 ⟨[], []⟩ 17 [(.cell 2 40), (.tmp 3)] s24 := by refine .mk' Tryd.func24 ?_ ?_ ?_ ?_ ?_ ?_ <;> kernel_rfl
def s27_0 : SCode := (.reg [(sn 2)])
def s27_1 : SCode := (.reg [(sn 3)])
def s27_2 : SCode := (.reg [(sc 4 1)])
def s27_3 : SCode := (.reg [(mv 8 0), (bc 9 .eql 3 8 0 3), (mv 10 9), (mg 11 0 10 false), (.mk (some 12) (.binOp (.rem) 3 (t 11) (.const (.int (.i64) 11)) 3) (some (10, false))), (.mk (some 13) (.binOp (.eql) 3 (t 12) (.const (.int (.i64) 5)) 3) (some (10, false))), (.mk (some 14) (.pick (t 10) (.const (.bool true)) (t 13)) none), (sv 7 14)])
def s27_4 : SCode := (.reg [(sc 4 0)])
def s27_5 : SCode := (.reg [(mv 16 0), (bc 17 .rem 3 16 4 3), (bc 18 .eql 3 17 3 3), (sv 15 18)])
def s27_6 : SCode := (.reg [(sc 4 2)])
def s27_7 : SCode := (.seq s27_5 (.cond (t 15) s27_6 (.skip)))
def s27_8 : SCode := (.seq s27_3 (.cond (t 7) s27_4 s27_7))
def s27_9 : SCode := (.reg [(sc 5 0)])
def s27_10 : SCode := (.reg [(mv 19 5), (mv 20 4), (bi 21 .lss 3 19 20 3)])
def s27_11 : SCode := (.seq s27_10 (.cond (t 21) (.skip) (.exit 1)))
def s27_12 : SCode := (.reg [(mv 24 0), (bc 25 .sub 3 24 1 3), (mv 26 5), (mv 27 0), (bc 28 .rem 3 27 5 3), (.mk (some 29) (.binOp (.add) 3 (.const (.int (.i64) 2)) (t 28) 3) none), (bi 30 .mul 3 26 29 3), (bi 31 .sub 3 25 30 3), (sv 6 31)])
def s27_13 : SCode := (.reg [(mv 32 0), (bc 33 .rem 3 32 7 3), (bc 34 .eql 3 33 2 3)])
def s27_14 : SCode := (.reg [(mv 35 0), (bc 36 .quo 3 35 2 3), (sv 6 36)])
def s27_15 : SCode := (.seq s27_13 (.cond (t 34) s27_14 (.skip)))
def s27_16 : SCode := (.reg [(mv 37 6), (bc 38 .geq 3 37 0 3), (mv 39 38), (mg 40 6 39 true), (mg 41 0 39 true), (.mk (some 42) (.binOp (.lss) 3 (t 40) (t 41) 3) (some (39, true))), (pk 43 39 42 false), (mv 44 43), (mg 45 3 44 true), (.mk (some 46) (.call (.mk (.builtin (.len)) #[(t 45)] #[23])) (some (44, true))), (.mk (some 47) (.binOp (.eql) 3 (t 46) (.const (.int (.i64) 0)) 3) (some (44, true))), (mg 48 47 44 true), (mg 49 3 48 false), (.mk (some 50) (.indexAddr 23 (t 49) (.const (.int (.i64) 0))) (some (48, false))), (.mk (some 51) (.load 3 (t 50)) (some (48, false))), (mg 52 6 48 false), (.mk (some 53) (.binOp (.neq) 3 (t 51) (t 52) 3) (some (48, false))), (.mk (some 54) (.pick (t 48) (.const (.bool true)) (t 53)) (some (44, true))), (pk 55 44 54 false)])
def s27_17 : SCode := (.reg [(mv 56 3), (mv 57 6), (b1 58 23 57), (ap 59 56 58 23), (sv 3 59)])
def s27_18 : SCode := (.seq s27_16 (.cond (t 55) s27_17 (.skip)))
def s27_19 : SCode := (.block 2 (.seq s27_12 (.seq s27_15 s27_18)))
def s27_20 : SCode := (.reg [(mv 22 5), (bc 23 .add 3 22 1 3), (sv 5 23)])
def s27_21 : SCode := (.loop (.seq s27_11 (.seq s27_19 s27_20)))
def s27_22 : SCode := (.reg [(mv 60 3), (sv 2 60)])
def s27_23 : SCode := (.seq (.seq s27_9 (.block 1 s27_21)) (.seq s27_22 (.ret)))
def s27_24 : SCode := (.seq s27_2 (.seq (.block 0 s27_8) s27_23))
def s27 : SCode := (.seq s27_0 (.seq s27_1 s27_24))
def e27 := And.intro s27_0.eq_1 <| And.intro s27_1.eq_1 <| And.intro s27_2.eq_1 <| And.intro s27_3.eq_1 <| And.intro s27_4.eq_1 <| And.intro s27_5.eq_1 <| And.intro s27_6.eq_1 <| And.intro s27_7.eq_1 <| And.intro s27_8.eq_1 <| And.intro s27_9.eq_1 <| And.intro s27_10.eq_1 <| And.intro s27_11.eq_1 <| And.intro s27_12.eq_1 <| And.intro s27_13.eq_1 <| And.intro s27_14.eq_1 <| And.intro s27_15.eq_1 <| And.intro s27_16.eq_1 <| And.intro s27_17.eq_1 <| And.intro s27_18.eq_1 <| And.intro s27_19.eq_1 <| And.intro s27_20.eq_1 <| And.intro s27_21.eq_1 <| And.intro s27_22.eq_1 <| And.intro s27_23.eq_1 <| s27_24.eq_1
theorem h27 : FnS Tryd.prog 27 ⟨[], []⟩ 61 [(.tmp 2)] s27 := by refine .mk' Tryd.func27 ?_ ?_ ?_ ?_ ?_ ?_ <;> kernel_rfl
def s28_0 : SCode := (.reg [(.mk (some 3) (.box 32 (t 1)) none), (.mk (some 4) (.assign (.const (.map none))) none), (.mk (some 5) (.assign (.const (.nilIface))) none)])
def s28_1 : SCode := (.reg [(ld 11 32 3), (c1 12 44 11 32), (sv 6 12)])
def s28_2 : SCode := (.reg [(mv 13 6), (.mk (some 14) (.binOp (.neq) 35 (t 13) (.const (.nilIface)) 35) none)])
def s28_3 : SCode := (.reg [(mv 15 6), (.mk (some 4) (.assign (.const (.map none))) none), (sv 5 15)])
def s28_4 : SCode := (.cond (t 14) (.seq s28_3 (.ret)) (.skip))
def s28_5 : SCode := (.reg [(mv 17 0), (fa 18 32 3 0), (ld 19 29 18), (c2 20 45 17 19 26 29), (mv 16 20), (ex 21 16 0), (ex 22 16 1), (sv 7 21), (sv 8 22)])
def s28_6 : SCode := (.reg [(mv 23 8), (.mk (some 24) (.binOp (.neq) 35 (t 23) (.const (.nilIface)) 35) none)])
def s28_7 : SCode := (.reg [(mv 25 8), (.mk (some 4) (.assign (.const (.map none))) none), (sv 5 25)])
def s28_8 : SCode := (.cond (t 24) (.seq s28_7 (.ret)) (.skip))
def s28_9 : SCode := (.reg [(mv 26 7), (ld 27 32 3), (c2 28 46 26 27 62 32), (sv 9 28)])
def s28_10 : SCode := (.reg [(mv 29 9), (.mk (some 30) (.binOp (.neq) 35 (t 29) (.const (.nilIface)) 35) none)])
def s28_11 : SCode := (.reg [(mv 31 9), (.mk (some 4) (.assign (.const (.map none))) none), (sv 5 31)])
def s28_12 : SCode := (.cond (t 30) (.seq s28_11 (.ret)) (.skip))
def s28_13 : SCode := (.reg [(mv 32 0), (mv 33 7), (fa 34 32 3 0), (ld 35 29 34), (.mk (some 36) (.call (.mk (.value (.func 47)) #[(t 32), (t 33), (t 35)] #[26, 62, 29])) none), (sv 10 36)])
def s28_14 : SCode := (.reg [(mv 37 10), (.mk (some 38) (.binOp (.neq) 35 (t 37) (.const (.nilIface)) 35) none)])
def s28_15 : SCode := (.reg [(mv 39 10), (.mk (some 4) (.assign (.const (.map none))) none), (sv 5 39)])
def s28_16 : SCode := (.cond (t 38) (.seq s28_15 (.ret)) (.skip))
def s28_17 : SCode := (.reg [(mv 40 7), (ln 41 40 62), (bc 42 .gtr 3 41 1000 3)])
def s28_18 : SCode := (.reg [(.mk (some 43) (.makeInterface 60 (.const (.int (.i64) 13))) none), (.mk (some 4) (.assign (.const (.map none))) none), (sv 5 43)])
def s28_19 : SCode := (.cond (t 42) (.seq s28_18 (.ret)) (.skip))
def s28_20 : SCode := (.reg [(mv 44 7), (sv 4 44), (.mk (some 5) (.assign (.const (.nilIface))) none)])
def s28_21 : SCode := (.seq (.seq s28_17 s28_19) (.seq s28_20 (.ret)))
def s28_22 : SCode := (.seq (.seq s28_13 (.seq s28_14 s28_16)) s28_21)
def s28_23 : SCode := (.seq (.seq s28_9 (.seq s28_10 s28_12)) s28_22)
def s28_24 : SCode := (.seq s28_5 (.seq (.seq s28_6 s28_8) s28_23))
def s28_25 : SCode := (.seq (.seq s28_1 (.seq s28_2 s28_4)) s28_24)
def s28 : SCode := (.seq s28_0 s28_25)
def e28 := And.intro s28_0.eq_1 <| And.intro s28_1.eq_1 <| And.intro s28_2.eq_1 <| And.intro s28_3.eq_1 <| And.intro s28_4.eq_1 <| And.intro s28_5.eq_1 <| And.intro s28_6.eq_1 <| And.intro s28_7.eq_1 <| And.intro s28_8.eq_1 <| And.intro s28_9.eq_1 <| And.intro s28_10.eq_1 <| And.intro s28_11.eq_1 <| And.intro s28_12.eq_1 <| And.intro s28_13.eq_1 <| And.intro s28_14.eq_1 <| And.intro s28_15.eq_1 <| And.intro s28_16.eq_1 <| And.intro s28_17.eq_1 <| And.intro s28_18.eq_1 <| And.intro s28_19.eq_1 <| And.intro s28_20.eq_1 <| And.intro s28_21.eq_1 <| And.intro s28_22.eq_1 <| And.intro s28_23.eq_1 <| And.intro s28_24.eq_1 <| s28_25.eq_1
theorem h28 : FnS Tryd.prog 28 ⟨[3], []⟩ 45 [(.tmp 4), (.tmp 5)] s28 := by refine .mk' Tryd.func28 ?_ ?_ ?_ ?_ ?_ ?_ <;> kernel_rfl
def s29_0 : SCode := (.reg [(sn 2)])
def s29_1 : SCode := (.reg [(mv 4 0), (c1 5 32 4 30), (sv 3 5)])
def s29_2 : SCode := (.reg [(mv 6 3), (.mk (some 7) (.call (.mk (.value (.func 48)) #[(t 6), (.func 49)] #[30, 96])) none)])
def s29_3 : SCode := (.reg [(mv 8 3), (c1 9 51 8 30), (sv 2 9)])
def s29_4 : SCode := (.seq s29_1 (.seq s29_2 (.seq s29_3 (.ret))))
def s29 : SCode := (.seq s29_0 s29_4)
def e29 := And.intro s29_0.eq_1 <| And.intro s29_1.eq_1 <| And.intro s29_2.eq_1 <| And.intro s29_3.eq_1 <| s29_4.eq_1
theorem h29 : FnS Tryd.prog 29 ⟨[], []⟩ 10 [(.tmp 2)] s29 := by refine .mk' Tryd.func29 ?_ ?_ ?_ ?_ ?_ ?_ <;> kernel_rfl
def s31_0 : SCode := (.reg [(.mk (some 1) (.box 62 (t 0)) none), (.mk (some 2) (.assign (.const (.nilFunc))) none)])
def s31_1 : SCode := (.reg [(.mk (some 3) (.makeFunc (.func 53) #[] #[(t 1)]) none), (sv 2 3)])
def s31 : SCode := (.seq s31_0 (.seq s31_1 (.ret)))
def e31 := And.intro s31_0.eq_1 <| s31_1.eq_1
theorem h31 : FnS Tryd.prog 31 ⟨[], []⟩ 4 [(.tmp 2)] s31 := by refine .mk' Tryd.func31 ?_ ?_ ?_ ?_ ?_ ?_ <;> kernel_rfl
def s32_0 : SCode := (.reg [(sn 2)])
def s32_1 : SCode := (.reg [(mv 3 0), (.mk (some 4) (.binOp (.eql) 30 (t 3) (.const (.slice none 0 0)) 30) none)])
def s32_2 : SCode := (.reg [(sn 2)])
def s32_3 : SCode := (.cond (t 4) (.seq s32_2 (.ret)) (.skip))
def s32_4 : SCode := (.reg [(.mk (some 5) (.buildSlice 30 0 #[]) none), (mv 6 0), (ap 7 5 6 30), (sv 2 7)])
def s32_5 : SCode := (.seq (.seq s32_1 s32_3) (.seq s32_4 (.ret)))
def s32 : SCode := (.seq s32_0 s32_5)
def e32 := And.intro s32_0.eq_1 <| And.intro s32_1.eq_1 <| And.intro s32_2.eq_1 <| And.intro s32_3.eq_1 <| And.intro s32_4.eq_1 <| s32_5.eq_1
theorem h32 : FnS Tryd.prog 32 ⟨[7], []⟩ 8 [(.tmp 2)] s32 := by refine .mk' Tryd.func32 ?_ ?_ ?_ ?_ ?_ ?_ <;> kernel_rfl
def s35_0 : SCode := (.reg [(.mk (some 4) (.assign (.const (.map none))) none)])
def s35_1 : SCode := (.reg [(.mk (some 8) (.makeMap 77 none) none), (sv 5 8)])
def s35_2 : SCode := (.reg [(mv 9 0), (c1 10 32 9 30), (sv 6 10)])
def s35_3 : SCode := (.reg [(mv 11 6), (ln 12 11 30), (bc 13 .gtr 3 12 0 3)])
def s35_4 : SCode := (.seq s35_3 (.cond (t 13) (.skip) (.exit 0)))
def s35_5 : SCode := (.reg [(mv 14 6), (mv 15 6), (ln 16 15 30), (bc 17 .sub 3 16 1 3), (ia 18 30 14 17), (ld 19 40 18), (.mk (some 7) (.alloc 40) none), (st 40 7 19)])
def s35_6 : SCode := (.reg [(mv 20 6), (mv 21 6), (ln 22 21 30), (bc 23 .sub 3 22 1 3), (.mk (some 24) (.slice 30 (t 20) none (some (t 23)) none) none), (sv 6 24)])
def s35_7 : SCode := (.reg [(mv 25 5), (ld 26 40 7), (.mk (some 27) (.lookup 77 (t 25) (t 26) false) none), (nt 28 27)])
def s35_8 : SCode := (.reg [(mv 29 5), (ld 30 40 7), (.mk none (.mapUpdate 77 (t 29) (t 30) (.const (.bool true))) none)])
def s35_9 : SCode := (.reg [(mv 31 6), (mv 32 1), (ld 33 40 7), (.mk (some 34) (.call (.mk (.value (t 32)) #[(t 33)] #[40])) none), (ap 35 31 34 30), (sv 6 35)])
def s35_10 : SCode := (.cond (t 28) (.seq s35_8 s35_9) (.skip))
def s35_11 : SCode := (.seq s35_5 (.seq s35_6 (.seq s35_7 s35_10)))
def s35_12 : SCode := (.block 0 (.loop (.seq s35_4 (.block 1 s35_11))))
def s35_13 : SCode := (.reg [(mv 36 5), (sv 4 36)])
def s35_14 : SCode := (.seq s35_2 (.seq s35_12 (.seq s35_13 (.ret))))
def s35 : SCode := (.seq s35_0 (.seq s35_1 s35_14))
def e35 := And.intro s35_0.eq_1 <| And.intro s35_1.eq_1 <| And.intro s35_2.eq_1 <| And.intro s35_3.eq_1 <| And.intro s35_4.eq_1 <| And.intro s35_5.eq_1 <| And.intro s35_6.eq_1 <| And.intro s35_7.eq_1 <| And.intro s35_8.eq_1 <| And.intro s35_9.eq_1 <| And.intro s35_10.eq_1 <| And.intro s35_11.eq_1 <| And.intro s35_12.eq_1 <| And.intro s35_13.eq_1 <| s35_14.eq_1
theorem h35 : FnS Tryd.prog 35 ⟨[], []⟩ 37 [(.tmp 4)] s35 := by refine .mk' Tryd.func35 ?_ ?_ ?_ ?_ ?_ ?_ <;> kernel_rfl
def s37_0 : SCode := (.reg [(.mk (some 2) (.box 40 (t 0)) none), (sn 3)])
def s37_1 : SCode := (.drw [((ld 4 26 1), 0), ((.mk (some 5) (.nilCheck (t 4)) none), 0), ((fa 6 64 5 0), 0), ((ld 7 62 6), 0), ((ld 8 40 2), 0), ((.mk (some 9) (.lookup 62 (t 7) (t 8) false) none), 0), ((sv 3 9), 0)])
def s37 : SCode := (.seq s37_0 (.seq s37_1 (.ret)))
theorem h37 : FnS Tryd.prog 37 ⟨[2], [(1, [(0, 0), (1, 0), (2, 0), (3, 0), (4, 0), (5, 0), (6, 0)])]⟩ 10 [(.tmp 3)] s37 := by refine .mk' Tryd.func37 ?_ ?_ ?_ ?_ ?_ ?_ <;> kernel_rfl
def s38_0 : SCode := (.reg [(.mk (some 2) (.box 40 (t 0)) none), (sn 3)])
def s38_1 : SCode := (.reg [(ld 4 62 1), (ld 5 40 2), (.mk (some 6) (.lookup 62 (t 4) (t 5) false) none), (sv 3 6)])
def s38 : SCode := (.seq s38_0 (.seq s38_1 (.ret)))
theorem h38 : FnS Tryd.prog 38 ⟨[2], []⟩ 7 [(.tmp 3)] s38 := by refine .mk' Tryd.func38 ?_ ?_ ?_ ?_ ?_ ?_ <;> kernel_rfl
def s41_0 : SCode := (.reg [(.mk (some 2) (.box 40 (t 0)) none), (.mk (some 4) (.assign (.const (.nilIface))) none)])
def s41_1 : SCode := (.reg [(mv 5 1), (.mk (some 6) (.binOp (.eql) 35 (t 5) (.const (.nilIface)) 35) none)])
def s41_2 : SCode := (.reg [(.mk (some 4) (.assign (.const (.nilIface))) none)])
def s41_3 : SCode := (.cond (t 6) (.seq s41_2 (.ret)) (.skip))
def s41_4 : SCode := (.reg [(ld 7 40 2), (mv 8 1), (.mk (some 9) (.build 88 #[(0, (t 7)), (1, (t 8))]) none), (.mk (some 10) (.box 88 (t 9)) none), (.mk (some 11) (.makeInterface 84 (t 10)) none), (sv 4 11)])
def s41_5 : SCode := (.seq (.seq s41_1 s41_3) (.seq s41_4 (.ret)))
def s41 : SCode := (.seq s41_0 s41_5)
def e41 := And.intro s41_0.eq_1 <| And.intro s41_1.eq_1 <| And.intro s41_2.eq_1 <| And.intro s41_3.eq_1 <| And.intro s41_4.eq_1 <| s41_5.eq_1
theorem h41 : FnS Tryd.prog 41 ⟨[2, 10], []⟩ 12 [(.tmp 4)] s41 := by refine .mk' Tryd.func41 ?_ ?_ ?_ ?_ ?_ ?_ <;> kernel_rfl
def s44_0 : SCode := (.reg [(.mk (some 1) (.box 32 (t 0)) none), (.mk (some 2) (.assign (.const (.nilIface))) none)])
def s44_1 : SCode := (.reg [(fa 5 32 1 2), (ld 6 3 5), (bc 7 .neq 3 6 1 3), (mv 8 7), (.mk (some 9) (.fieldAddr 32 (t 1) 2) (some (8, true))), (.mk (some 10) (.load 3 (t 9)) (some (8, true))), (.mk (some 11) (.binOp (.neq) 3 (t 10) (.const (.int (.i64) 2)) 3) (some (8, true))), (pk 12 8 11 false), (mv 13 12), (.mk (some 14) (.fieldAddr 32 (t 1) 0) (some (13, false))), (.mk (some 15) (.load 29 (t 14)) (some (13, false))), (.mk (some 16) (.call (.mk (.builtin (.len)) #[(t 15)] #[29])) (some (13, false))), (.mk (some 17) (.binOp (.gtr) 3 (t 16) (.const (.int (.i64) 200)) 3) (some (13, false))), (.mk (some 18) (.pick (t 13) (.const (.bool true)) (t 17)) none), (mv 19 18), (.mk (some 20) (.fieldAddr 32 (t 1) 1) (some (19, false))), (.mk (some 21) (.load 30 (t 20)) (some (19, false))), (.mk (some 22) (.call (.mk (.builtin (.len)) #[(t 21)] #[30])) (some (19, false))), (.mk (some 23) (.binOp (.gtr) 3 (t 22) (.const (.int (.i64) 200)) 3) (some (19, false))), (.mk (some 24) (.pick (t 19) (.const (.bool true)) (t 23)) none)])
def s44_2 : SCode := (.reg [(.mk (some 25) (.makeInterface 60 (.const (.int (.i64) 1))) none), (sv 2 25)])
def s44_3 : SCode := (.cond (t 24) (.seq s44_2 (.ret)) (.skip))
def s44_4 : SCode := (.reg [(fa 26 32 1 0), (ld 27 29 26), (ln 28 27 29), (.mk (some 29) (.move (.const (.int (.i64) 0))) none)])
def s44_5 : SCode := (.reg [(bi 30 .lss 3 29 28 3)])
def s44_6 : SCode := (.reg [(ia 31 29 27 29), (ld 32 42 31), (.mk (some 4) (.alloc 42) none), (st 42 4 32)])
def s44_7 : SCode := (.reg [(fa 34 42 4 1), (ld 35 30 34), (ln 36 35 30), (bc 37 .gtr 3 36 4 3), (sv 33 37)])
def s44_8 : SCode := (.reg [(fa 38 42 4 0), (ld 39 40 38), (.mk (some 40) (.makeInterface 60 (.const (.int (.i64) 8))) none), (c2 41 41 39 40 40 35), (sv 2 41)])
def s44_9 : SCode := (.reg [(fa 43 42 4 1), (ld 44 30 43), (c1 45 63 44 30), (sv 42 45)])
def s44_10 : SCode := (.reg [(fa 46 42 4 0), (ld 47 40 46), (.mk (some 48) (.makeInterface 60 (.const (.int (.i64) 1))) none), (c2 49 41 47 48 40 35), (sv 2 49)])
def s44_11 : SCode := (.cond (t 42) (.seq s44_10 (.ret)) (.skip))
def s44_12 : SCode := (.cond (t 33) (.seq s44_8 (.ret)) (.seq s44_9 s44_11))
def s44_13 : SCode := (.seq s44_6 (.block 2 (.seq s44_7 s44_12)))
def s44_14 : SCode := (.reg [(bc 50 .add 3 29 1 3), (mv 29 50)])
def s44_15 : SCode := (.seq (.cond (t 30) (.skip) (.exit 0)) (.seq (.block 1 s44_13) s44_14))
def s44_16 : SCode := (.seq s44_4 (.block 0 (.loop (.seq s44_5 s44_15))))
def s44_17 : SCode := (.reg [(.mk (some 2) (.assign (.const (.nilIface))) none)])
def s44_18 : SCode := (.seq (.seq s44_1 s44_3) (.seq s44_16 (.seq s44_17 (.ret))))
def s44 : SCode := (.seq s44_0 s44_18)
def e44 := And.intro s44_0.eq_1 <| And.intro s44_1.eq_1 <| And.intro s44_2.eq_1 <| And.intro s44_3.eq_1 <| And.intro s44_4.eq_1 <| And.intro s44_5.eq_1 <| And.intro s44_6.eq_1 <| And.intro s44_7.eq_1 <| And.intro s44_8.eq_1 <| And.intro s44_9.eq_1 <| And.intro s44_10.eq_1 <| And.intro s44_11.eq_1 <| And.intro s44_12.eq_1 <| And.intro s44_13.eq_1 <| And.intro s44_14.eq_1 <| And.intro s44_15.eq_1 <| And.intro s44_16.eq_1 <| And.intro s44_17.eq_1 <| s44_18.eq_1
theorem h44 : FnS Tryd.prog 44 ⟨[1], []⟩ 51 [(.tmp 2)] s44 := by refine .mk' Tryd.func44 ?_ ?_ ?_ ?_ ?_ ?_ <;> kernel_rfl
def s45_0 : SCode := (.reg [(.mk (some 4) (.assign (.const (.map none))) none), (.mk (some 5) (.assign (.const (.nilIface))) none)])
def s45_1 : SCode := (.reg [(mv 11 0), (.mk (some 12) (.nilCheck (t 11)) none), (fa 13 64 12 0), (ld 14 62 13), (c1 15 42 14 62), (sv 6 15)])
def s45_2 : SCode := (.reg [(mv 16 1), (ln 17 16 29), (.mk (some 18) (.move (.const (.int (.i64) 0))) none)])
def s45_3 : SCode := (.reg [(bi 19 .lss 3 18 17 3)])
def s45_4 : SCode := (.reg [(ia 20 29 16 18), (ld 21 42 20), (.mk (some 8) (.alloc 42) none), (st 42 8 21)])
def s45_5 : SCode := (.reg [(mv 23 6), (fa 24 42 8 0), (ld 25 40 24), (.mk (some 26) (.lookup 62 (t 23) (t 25) true) none), (mv 22 26), (ex 27 22 0), (ex 28 22 1), (sv 9 27), (sv 10 28)])
def s45_6 : SCode := (.reg [(mv 29 10), (mv 30 29), (mg 31 9 30 true), (.mk (some 32) (.fieldAddr 42 (t 8) 1) (some (30, true))), (.mk (some 33) (.load 30 (t 32)) (some (30, true))), (.mk (some 34) (.call (.mk (.value (.func 64)) #[(t 31), (t 33)] #[30, 30])) (some (30, true))), (.mk (some 35) (.unOp (.not) 4 (t 34)) (some (30, true))), (pk 36 30 35 false)])
def s45_7 : SCode := (.reg [(fa 37 42 8 0), (ld 38 40 37), (.mk (some 39) (.makeInterface 60 (.const (.int (.i64) 9))) none), (c2 40 41 38 39 40 35), (.mk (some 4) (.assign (.const (.map none))) none), (sv 5 40)])
def s45_8 : SCode := (.cond (t 36) (.seq s45_7 (.ret)) (.skip))
def s45_9 : SCode := (.reg [(mv 41 10), (nt 42 41)])
def s45_10 : SCode := (.drw [((mv 43 6), 0), ((fa 44 42 8 0), 0), ((ld 45 40 44), 0), ((fa 46 42 8 1), 0), ((ld 47 30 46), 0), ((c1 48 32 47 30), 2), ((.mk none (.mapUpdate 62 (t 43) (t 45) (t 48)) none), 1)])
def s45_11 : SCode := (.seq s45_9 (.cond (t 42) s45_10 (.skip)))
def s45_12 : SCode := (.seq s45_5 (.seq (.seq s45_6 s45_8) s45_11))
def s45_13 : SCode := (.reg [(bc 49 .add 3 18 1 3), (mv 18 49)])
def s45_14 : SCode := (.seq (.block 1 (.seq s45_4 s45_12)) s45_13)
def s45_15 : SCode := (.seq (.cond (t 19) (.skip) (.exit 0)) s45_14)
def s45_16 : SCode := (.seq s45_2 (.block 0 (.loop (.seq s45_3 s45_15))))
def s45_17 : SCode := (.reg [(mv 50 6), (sv 4 50), (.mk (some 5) (.assign (.const (.nilIface))) none)])
def s45_18 : SCode := (.seq s45_1 (.seq s45_16 (.seq s45_17 (.ret))))
def s45 : SCode := (.seq s45_0 s45_18)
def e45 := And.intro s45_0.eq_1 <| And.intro s45_1.eq_1 <| And.intro s45_2.eq_1 <| And.intro s45_3.eq_1 <| And.intro s45_4.eq_1 <| And.intro s45_5.eq_1 <| And.intro s45_6.eq_1 <| And.intro s45_7.eq_1 <| And.intro s45_8.eq_1 <| And.intro s45_9.eq_1 <| And.intro s45_10.eq_1 <| And.intro s45_11.eq_1 <| And.intro s45_12.eq_1 <| And.intro s45_13.eq_1 <| And.intro s45_14.eq_1 <| And.intro s45_15.eq_1 <| And.intro s45_16.eq_1 <| And.intro s45_17.eq_1 <| s45_18.eq_1
theorem h45 : FnS Tryd.prog 45 ⟨[], [(9, [(0, 0), (1, 0), (2, 0), (3, 0), (4, 0), (5, 2), (6, 1)])]⟩ 51 [(.tmp 4), (.tmp 5)] s45 := by refine .mk' Tryd.func45 ?_ ?_ ?_ ?_ ?_ ?_ <;> kernel_rfl
def s46_0 : SCode := (.reg [(.mk (some 3) (.box 32 (t 1)) none), (.mk (some 4) (.assign (.const (.nilIface))) none)])
def s46_1 : SCode := (.reg [(fa 15 32 3 0), (ld 16 29 15), (ln 17 16 29), (.mk (some 18) (.move (.const (.int (.i64) 0))) none)])
def s46_2 : SCode := (.reg [(bi 19 .lss 3 18 17 3)])
def s46_3 : SCode := (.reg [(ia 20 29 16 18), (ld 21 42 20), (.mk (some 6) (.alloc 42) none), (st 42 6 21)])
def s46_4 : SCode := (.reg [(fa 22 42 6 1), (ld 23 30 22), (ln 24 23 30), (.mk (some 25) (.move (.const (.int (.i64) 0))) none)])
def s46_5 : SCode := (.reg [(bi 26 .lss 3 25 24 3)])
def s46_6 : SCode := (.reg [(ia 27 30 23 25), (ld 28 40 27), (.mk (some 8) (.alloc 40) none), (st 40 8 28)])
def s46_7 : SCode := (.reg [(mv 30 0), (ld 31 40 8), (.mk (some 32) (.lookup 62 (t 30) (t 31) true) none), (mv 29 32), (ex 33 29 0), (ex 34 29 1), (sv 9 33), (sv 10 34)])
def s46_8 : SCode := (.reg [(mv 35 10), (nt 36 35)])
def s46_9 : SCode := (.reg [(ld 37 40 8), (.mk (some 38) (.makeInterface 60 (.const (.int (.i64) 10))) none), (c2 39 41 37 38 40 35), (sv 4 39)])
def s46_10 : SCode := (.cond (t 36) (.seq s46_9 (.ret)) (.skip))
def s46_11 : SCode := (.seq s46_6 (.seq s46_7 (.seq s46_8 s46_10)))
def s46_12 : SCode := (.reg [(bc 40 .add 3 25 1 3), (mv 25 40)])
def s46_13 : SCode := (.seq (.cond (t 26) (.skip) (.exit 2)) (.seq (.block 3 s46_11) s46_12))
def s46_14 : SCode := (.seq s46_4 (.block 2 (.loop (.seq s46_5 s46_13))))
def s46_15 : SCode := (.reg [(bc 41 .add 3 18 1 3), (mv 18 41)])
def s46_16 : SCode := (.seq (.block 1 (.seq s46_3 s46_14)) s46_15)
def s46_17 : SCode := (.seq (.cond (t 19) (.skip) (.exit 0)) s46_16)
def s46_18 : SCode := (.seq s46_1 (.block 0 (.loop (.seq s46_2 s46_17))))
def s46_19 : SCode := (.reg [(fa 42 32 3 1), (ld 43 30 42), (ln 44 43 30), (.mk (some 45) (.move (.const (.int (.i64) 0))) none)])
def s46_20 : SCode := (.reg [(bi 46 .lss 3 45 44 3)])
def s46_21 : SCode := (.reg [(ia 47 30 43 45), (ld 48 40 47), (.mk (some 12) (.alloc 40) none), (st 40 12 48)])
def s46_22 : SCode := (.reg [(mv 50 0), (ld 51 40 12), (.mk (some 52) (.lookup 62 (t 50) (t 51) true) none), (mv 49 52), (ex 53 49 0), (ex 54 49 1), (sv 13 53), (sv 14 54)])
def s46_23 : SCode := (.reg [(mv 55 14), (nt 56 55)])
def s46_24 : SCode := (.reg [(ld 57 40 12), (.mk (some 58) (.makeInterface 60 (.const (.int (.i64) 11))) none), (c2 59 41 57 58 40 35), (sv 4 59)])
def s46_25 : SCode := (.cond (t 56) (.seq s46_24 (.ret)) (.skip))
def s46_26 : SCode := (.seq s46_21 (.seq s46_22 (.seq s46_23 s46_25)))
def s46_27 : SCode := (.reg [(bc 60 .add 3 45 1 3), (mv 45 60)])
def s46_28 : SCode := (.seq (.cond (t 46) (.skip) (.exit 4)) (.seq (.block 5 s46_26) s46_27))
def s46_29 : SCode := (.seq s46_19 (.block 4 (.loop (.seq s46_20 s46_28))))
def s46_30 : SCode := (.reg [(.mk (some 4) (.assign (.const (.nilIface))) none)])
def s46_31 : SCode := (.seq s46_18 (.seq s46_29 (.seq s46_30 (.ret))))
def s46 : SCode := (.seq s46_0 s46_31)
def e46 := And.intro s46_0.eq_1 <| And.intro s46_1.eq_1 <| And.intro s46_2.eq_1 <| And.intro s46_3.eq_1 <| And.intro s46_4.eq_1 <| And.intro s46_5.eq_1 <| And.intro s46_6.eq_1 <| And.intro s46_7.eq_1 <| And.intro s46_8.eq_1 <| And.intro s46_9.eq_1 <| And.intro s46_10.eq_1 <| And.intro s46_11.eq_1 <| And.intro s46_12.eq_1 <| And.intro s46_13.eq_1 <| And.intro s46_14.eq_1 <| And.intro s46_15.eq_1 <| And.intro s46_16.eq_1 <| And.intro s46_17.eq_1 <| And.intro s46_18.eq_1 <| And.intro s46_19.eq_1 <| And.intro s46_20.eq_1 <| And.intro s46_21.eq_1 <| And.intro s46_22.eq_1 <| And.intro s46_23.eq_1 <| And.intro s46_24.eq_1 <| And.intro s46_25.eq_1 <| And.intro s46_26.eq_1 <| And.intro s46_27.eq_1 <| And.intro s46_28.eq_1 <| And.intro s46_29.eq_1 <| And.intro s46_30.eq_1 <| s46_31.eq_1
theorem h46 : FnS Tryd.prog 46 ⟨[3], []⟩ 61 [(.tmp 4)] s46 := by refine .mk' Tryd.func46 ?_ ?_ ?_ ?_ ?_ ?_ <;> kernel_rfl
def s47_0 : SCode := (.reg [(.mk (some 4) (.box 62 (t 1)) none), (.mk (some 6) (.assign (.const (.nilIface))) none)])
def s47_1 : SCode := (.reg [(mv 11 2), (ln 12 11 29), (.mk (some 13) (.move (.const (.int (.i64) 0))) none)])
def s47_2 : SCode := (.reg [(bi 14 .lss 3 13 12 3)])
def s47_3 : SCode := (.reg [(ia 15 29 11 13), (ld 16 42 15), (.mk (some 8) (.alloc 42) none), (st 42 8 16)])
def s47_4 : SCode := (.drw [((mv 18 0), 0), ((.mk (some 19) (.nilCheck (t 18)) none), 0), ((fa 20 64 19 0), 0), ((ld 21 62 20), 0), ((fa 22 42 8 0), 0), ((ld 23 40 22), 0), ((.mk (some 24) (.lookup 62 (t 21) (t 23) true) none), 0), ((mv 17 24), 0), ((ex 25 17 0), 0), ((ex 26 17 1), 0), ((sv 9 25), 0), ((sv 10 26), 0)])
def s47_5 : SCode := (.reg [(mv 27 10)])
def s47_6 : SCode := (.seq s47_5 (.cond (t 27) (.exit 1) (.skip)))
def s47_7 : SCode := (.drw [((fa 28 42 8 1), 0), ((ld 29 30 28), 0), ((.mk (some 30) (.makeFunc (.func 65) #[] #[(t 4)]) none), 0), ((fa 32 42 8 0), 0), ((ld 33 40 32), 0), ((c2 31 35 29 30 30 79), 2), ((.mk (some 34) (.lookup 77 (t 31) (t 33) false) none), 0)])
def s47_8 : SCode := (.reg [(fa 35 42 8 0), (ld 36 40 35), (.mk (some 37) (.makeInterface 60 (.const (.int (.i64) 12))) none), (c2 38 41 36 37 40 35), (sv 6 38)])
def s47_9 : SCode := (.cond (t 34) (.seq s47_8 (.ret)) (.skip))
def s47_10 : SCode := (.seq (.seq s47_4 s47_6) (.seq s47_7 s47_9))
def s47_11 : SCode := (.reg [(bc 39 .add 3 13 1 3), (mv 13 39)])
def s47_12 : SCode := (.seq (.block 1 (.seq s47_3 s47_10)) s47_11)
def s47_13 : SCode := (.seq (.cond (t 14) (.skip) (.exit 0)) s47_12)
def s47_14 : SCode := (.seq s47_1 (.block 0 (.loop (.seq s47_2 s47_13))))
def s47_15 : SCode := (.reg [(.mk (some 6) (.assign (.const (.nilIface))) none)])
def s47 : SCode := (.seq s47_0 (.seq s47_14 (.seq s47_15 (.ret))))
def e47 := And.intro s47_0.eq_1 <| And.intro s47_1.eq_1 <| And.intro s47_2.eq_1 <| And.intro s47_3.eq_1 <| And.intro s47_4.eq_1 <| And.intro s47_5.eq_1 <| And.intro s47_6.eq_1 <| And.intro s47_7.eq_1 <| And.intro s47_8.eq_1 <| And.intro s47_9.eq_1 <| And.intro s47_10.eq_1 <| And.intro s47_11.eq_1 <| And.intro s47_12.eq_1 <| And.intro s47_13.eq_1 <| And.intro s47_14.eq_1 <| s47_15.eq_1
theorem h47 : FnS Tryd.prog 47 ⟨[4], [(4, [(0, 0), (1, 0), (2, 0), (3, 0), (4, 0), (5, 0), (6, 0), (7, 0), (8, 0), (9, 0), (10, 0), (11, 0)]), (6, [(0, 0), (1, 0), (2, 0), (4, 0), (5, 0), (3, 2), (6, 0)])]⟩ 40 [(.tmp 6)] s47 := by refine .mk' Tryd.func47 ?_ ?_ ?_ ?_ ?_ ?_ <;> kernel_rfl
def s48_0 : SCode := (.reg [(mv 5 0), (ln 6 5 30), (sv 4 6)])
def s48_1 : SCode := (.reg [(mv 7 0), (mv 8 4), (mv 9 4), (.mk (some 10) (.convert 3 117 (t 9)) none), (c1 11 67 10 117), (mv 12 1), (.mk (some 13) (.call (.mk (.value (.func 66)) #[(t 7), (.const (.int (.i64) 0)), (t 8), (t 11), (t 12)] #[30, 3, 3, 3, 96])) none)])
def s48 : SCode := (.seq s48_0 s48_1)
theorem h48 : FnS Tryd.prog 48 ⟨[], []⟩ 14 [] s48 := by refine .mk' Tryd.func48 ?_ ?_ ?_ ?_ ?_ ?_ <;> kernel_rfl
def s51_0 : SCode := (.reg [(sn 2)])
def s51_1 : SCode := (.reg [(mv 6 0), (ln 7 6 30), (bc 8 .lss 3 7 2 3)])
def s51_2 : SCode := (.reg [(mv 9 0), (sv 2 9)])
def s51_3 : SCode := (.cond (t 8) (.seq s51_2 (.ret)) (.skip))
def s51_4 : SCode := (.reg [(sc 3 1)])
def s51_5 : SCode := (.reg [(mv 10 3), (mv 11 0), (ln 12 11 30), (bi 13 .lss 3 10 12 3)])
def s51_6 : SCode := (.seq s51_5 (.cond (t 13) (.skip) (.exit 0)))
def s51_7 : SCode := (.drw [((mv 16 0), 0), ((mv 17 3), 0), ((ia 18 30 16 17), 0), ((ld 19 40 18), 0), ((mv 20 0), 0), ((mv 21 3), 0), ((bc 22 .sub 3 21 1 3), 0), ((ia 23 30 20 22), 0), ((ld 24 40 23), 0), ((bi 25 .eql 40 19 24 40), 0)])
def s51_8 : SCode := (.reg [(mv 26 0), (mv 27 3), (.mk (some 28) (.slice 30 (t 26) (some (t 27)) none none) none), (sv 4 28)])
def s51_9 : SCode := (.reg [(sc 5 1)])
def s51_10 : SCode := (.reg [(mv 29 5), (mv 30 4), (ln 31 30 30), (bi 32 .lss 3 29 31 3)])
def s51_11 : SCode := (.seq s51_10 (.cond (t 32) (.skip) (.exit 2)))
def s51_12 : SCode := (.drw [((mv 35 4), 0), ((mv 36 5), 0), ((ia 37 30 35 36), 0), ((ld 38 40 37), 0), ((mv 39 4), 0), ((mv 40 5), 0), ((bc 41 .sub 3 40 1 3), 0), ((ia 42 30 39 41), 0), ((ld 43 40 42), 0), ((bi 44 .neq 40 38 43 40), 0)])
def s51_13 : SCode := (.reg [(mv 45 0), (mv 46 3), (mv 47 4), (mv 48 5), (ia 49 30 47 48), (ld 50 40 49), (ia 51 30 45 46), (st 40 51 50)])
def s51_14 : SCode := (.reg [(mv 52 3), (bc 53 .add 3 52 1 3), (sv 3 53)])
def s51_15 : SCode := (.cond (t 44) (.seq s51_13 s51_14) (.skip))
def s51_16 : SCode := (.reg [(mv 33 5), (bc 34 .add 3 33 1 3), (sv 5 34)])
def s51_17 : SCode := (.seq (.block 3 (.seq s51_12 s51_15)) s51_16)
def s51_18 : SCode := (.seq s51_9 (.block 2 (.loop (.seq s51_11 s51_17))))
def s51_19 : SCode := (.reg [(mv 54 0), (mv 55 3), (.mk (some 56) (.slice 30 (t 54) (some (t 55)) none none) none), (.mk none (.call (.mk (.builtin (.clear)) #[(t 56)] #[30])) none)])
def s51_20 : SCode := (.reg [(mv 57 0), (mv 58 3), (.mk (some 59) (.slice 30 (t 57) none (some (t 58)) none) none), (sv 2 59)])
def s51_21 : SCode := (.seq s51_18 (.seq s51_19 (.seq s51_20 (.ret))))
def s51_22 : SCode := (.cond (t 25) (.seq s51_8 s51_21) (.skip))
def s51_23 : SCode := (.reg [(mv 14 3), (bc 15 .add 3 14 1 3), (sv 3 15)])
def s51_24 : SCode := (.seq (.block 1 (.seq s51_7 s51_22)) s51_23)
def s51_25 : SCode := (.seq s51_4 (.block 0 (.loop (.seq s51_6 s51_24))))
def s51_26 : SCode := (.reg [(mv 60 0), (sv 2 60)])
def s51_27 : SCode := (.seq (.seq s51_1 s51_3) (.seq s51_25 (.seq s51_26 (.ret))))
def s51 : SCode := (.seq s51_0 s51_27)
def e51 := And.intro s51_0.eq_1 <| And.intro s51_1.eq_1 <| And.intro s51_2.eq_1 <| And.intro s51_3.eq_1 <| And.intro s51_4.eq_1 <| And.intro s51_5.eq_1 <| And.intro s51_6.eq_1 <| And.intro s51_7.eq_1 <| And.intro s51_8.eq_1 <| And.intro s51_9.eq_1 <| And.intro s51_10.eq_1 <| And.intro s51_11.eq_1 <| And.intro s51_12.eq_1 <| And.intro s51_13.eq_1 <| And.intro s51_14.eq_1 <| And.intro s51_15.eq_1 <| And.intro s51_16.eq_1 <| And.intro s51_17.eq_1 <| And.intro s51_18.eq_1 <| And.intro s51_19.eq_1 <| And.intro s51_20.eq_1 <| And.intro s51_21.eq_1 <| And.intro s51_22.eq_1 <| And.intro s51_23.eq_1 <| And.intro s51_24.eq_1 <| And.intro s51_25.eq_1 <| And.intro s51_26.eq_1 <| s51_27.eq_1
theorem h51 : FnS Tryd.prog 51 ⟨[], [(6, [(0, 0), (1, 0), (2, 0), (3, 0), (4, 0), (5, 0), (6, 0), (7, 0), (8, 0), (9, 0)]), (11, [(0, 0), (1, 0), (2, 0), (3, 0), (4, 0), (5, 0), (6, 0), (7, 0), (8, 0), (9, 0)])]⟩ 61 [(.tmp 2)] s51 := by refine .mk' Tryd.func51 ?_ ?_ ?_ ?_ ?_ ?_ <;> kernel_rfl
def s54_0 : SCode := (.reg [(.mk (some 1) (.box 77 (t 0)) none), (.mk (some 2) (.assign (.const (.nilFunc))) none)])
def s54_1 : SCode := (.reg [(.mk (some 3) (.makeFunc (.func 69) #[] #[(t 1)]) none), (sv 2 3)])
def s54 : SCode := (.seq s54_0 (.seq s54_1 (.ret)))
def e54 := And.intro s54_0.eq_1 <| s54_1.eq_1
theorem h54 : FnS Tryd.prog 54 ⟨[], []⟩ 4 [(.tmp 2)] s54 := by refine .mk' Tryd.func54 ?_ ?_ ?_ ?_ ?_ ?_ <;> kernel_rfl
def s63_0 : SCode := (.reg [(sb 2 false)])
def s63_1 : SCode := (.reg [(mv 3 0), (c1 4 29 3 30), (ln 5 4 30), (mv 6 0), (ln 7 6 30), (bi 8 .lss 3 5 7 3), (sv 2 8)])
def s63 : SCode := (.seq s63_0 (.seq s63_1 (.ret)))
def e63 := And.intro s63_0.eq_1 <| s63_1.eq_1
theorem h63 : FnS Tryd.prog 63 ⟨[], []⟩ 9 [(.tmp 2)] s63 := by refine .mk' Tryd.func63 ?_ ?_ ?_ ?_ ?_ ?_ <;> kernel_rfl
def s64_0 : SCode := (.reg [(sb 4 false)])
def s64_1 : SCode := (.reg [(mv 6 0), (ln 7 6 30), (mv 8 1), (ln 9 8 30), (bi 10 .neq 3 7 9 3)])
def s64_2 : SCode := (.reg [(sb 4 false)])
def s64_3 : SCode := (.cond (t 10) (.seq s64_2 (.ret)) (.skip))
def s64_4 : SCode := (.reg [(mv 11 0), (ln 12 11 30), (.mk (some 13) (.move (.const (.int (.i64) 0))) none)])
def s64_5 : SCode := (.reg [(bi 14 .lss 3 13 12 3)])
def s64_6 : SCode := (.reg [(mv 15 13), (sv 5 15)])
def s64_7 : SCode := (.drw [((mv 16 0), 0), ((mv 17 5), 0), ((ia 18 30 16 17), 0), ((ld 19 40 18), 0), ((mv 20 1), 0), ((mv 21 5), 0), ((ia 22 30 20 21), 0), ((ld 23 40 22), 0), ((bi 24 .neq 40 19 23 40), 0)])
def s64_8 : SCode := (.reg [(sb 4 false)])
def s64_9 : SCode := (.cond (t 24) (.seq s64_8 (.ret)) (.skip))
def s64_10 : SCode := (.block 1 (.seq s64_6 (.seq s64_7 s64_9)))
def s64_11 : SCode := (.reg [(bc 25 .add 3 13 1 3), (mv 13 25)])
def s64_12 : SCode := (.seq (.cond (t 14) (.skip) (.exit 0)) (.seq s64_10 s64_11))
def s64_13 : SCode := (.seq s64_4 (.block 0 (.loop (.seq s64_5 s64_12))))
def s64_14 : SCode := (.reg [(sb 4 true)])
def s64_15 : SCode := (.seq (.seq s64_1 s64_3) (.seq s64_13 (.seq s64_14 (.ret))))
def s64 : SCode := (.seq s64_0 s64_15)
def e64 := And.intro s64_0.eq_1 <| And.intro s64_1.eq_1 <| And.intro s64_2.eq_1 <| And.intro s64_3.eq_1 <| And.intro s64_4.eq_1 <| And.intro s64_5.eq_1 <| And.intro s64_6.eq_1 <| And.intro s64_7.eq_1 <| And.intro s64_8.eq_1 <| And.intro s64_9.eq_1 <| And.intro s64_10.eq_1 <| And.intro s64_11.eq_1 <| And.intro s64_12.eq_1 <| And.intro s64_13.eq_1 <| And.intro s64_14.eq_1 <| s64_15.eq_1
theorem h64 : FnS Tryd.prog 64 ⟨[], [(6, [(0, 0), (1, 0), (2, 0), (3, 0), (4, 0), (5, 0), (6, 0), (7, 0), (8, 0)])]⟩ 26 [(.tmp 4)] s64 := by refine .mk' Tryd.func64 ?_ ?_ ?_ ?_ ?_ ?_ <;> kernel_rfl
def s65_0 : SCode := (.reg [(.mk (some 2) (.box 40 (t 0)) none), (sn 3)])
def s65_1 : SCode := (.reg [(ld 4 62 1), (ld 5 40 2), (.mk (some 6) (.lookup 62 (t 4) (t 5) false) none), (sv 3 6)])
def s65 : SCode := (.seq s65_0 (.seq s65_1 (.ret)))
def e65 := And.intro s65_0.eq_1 <| s65_1.eq_1
theorem h65 : FnS Tryd.prog 65 ⟨[2], []⟩ 7 [(.tmp 3)] s65 := by refine .mk' Tryd.func65 ?_ ?_ ?_ ?_ ?_ ?_ <;> kernel_rfl
def s69_0 : SCode := (.reg [(ld 4 77 1), (.mk (some 5) (.range 77 (t 4)) none)])
def s69_1 : SCode := (.reg [(.mk (some 6) (.next (t 5) false) none), (ex 7 6 0)])
def s69_2 : SCode := (.reg [(.mk (some 8) (.entry (t 5)) none), (ex 9 8 0), (.mk (some 3) (.alloc 40) none), (st 40 3 9)])
def s69_3 : SCode := (.reg [(mv 10 0), (ld 11 40 3), (.mk (some 12) (.call (.mk (.value (t 10)) #[(t 11)] #[40])) none), (nt 13 12)])
def s69_4 : SCode := (.seq s69_3 (.cond (t 13) (.ret) (.skip)))
def s69_5 : SCode := (.seq (.cond (t 7) (.skip) (.exit 0)) (.block 1 (.seq s69_2 s69_4)))
def s69 : SCode := (.seq s69_0 (.block 0 (.loop (.seq s69_1 s69_5))))
theorem h69 : FnS Tryd.prog 69 ⟨[], []⟩ 14 [] s69 := by refine .mk' Tryd.func69 ?_ ?_ ?_ ?_ ?_ ?_ <;> kernel_rfl
def s84_0 : SCode := (.reg [(.mk (some 2) (.assign (.const (.int (.u64) 0))) none)])
def s84_1 : SCode := (.reg [(mv 3 0), (.mk (some 4) (.convert 3 117 (t 3)) none), (c1 5 67 4 117), (.mk (some 6) (.binOp (.shl) 117 (.const (.int (.u64) 1)) (t 5) 3) none), (sv 2 6)])
def s84 : SCode := (.seq s84_0 (.seq s84_1 (.ret)))
theorem h84 : FnS Tryd.prog 84 ⟨[], []⟩ 7 [(.tmp 2)] s84 := by refine .mk' Tryd.func84 ?_ ?_ ?_ ?_ ?_ ?_ <;> kernel_rfl
end
end Gv.Tryd

set_option maxRecDepth 100000
namespace Gv.Tryd
open Go Gv Go.Proofs
theorem aggT40 : aggT Tryd.prog 40 = (some [(.int), (.int), (.int), (.int), (.int), (.int), (.int), (.int), (.int), (.int), (.int), (.int), (.int), (.int), (.int), (.int), (.int), (.int), (.int), (.int), (.int), (.int), (.int), (.int), (.int), (.int), (.int), (.int), (.int), (.int), (.int), (.int)]) := by kernel_rfl
theorem arr40 : arr Tryd.prog 40 = (some (32, (1, false))) := by kernel_rfl
theorem arr68 : arr Tryd.prog 68 = (some (60, (1, false))) := by kernel_rfl
theorem arr80 : arr Tryd.prog 80 = (some (6, (1, false))) := by kernel_rfl
theorem els130 : els Tryd.prog 130 = (some (1, false)) := by kernel_rfl
theorem els22 : els Tryd.prog 22 = (some (3, true)) := by kernel_rfl
theorem els23 : els Tryd.prog 23 = (some (1, false)) := by kernel_rfl
theorem els29 : els Tryd.prog 29 = (some (33, true)) := by kernel_rfl
theorem els30 : els Tryd.prog 30 = (some (32, true)) := by kernel_rfl
theorem els48 : els Tryd.prog 48 = (some (4, true)) := by kernel_rfl
theorem elt130 : elt Tryd.prog 130 = (some (1, (16, [(.lit (.nilIface))]))) := by kernel_rfl
theorem elt22 : elt Tryd.prog 22 = (some (3, (40, [(.int (.i64) 0), (.int (.i64) 0), (.slice [] (.nil))]))) := by kernel_rfl
theorem elt23 : elt Tryd.prog 23 = (some (1, (8, [(.int (.i64) 0)]))) := by kernel_rfl
theorem elt29 : elt Tryd.prog 29 = (some (33, (56, [(.int (.u8) 0), (.int (.u8) 0), (.int (.u8) 0), (.int (.u8) 0), (.int (.u8) 0), (.int (.u8) 0), (.int (.u8) 0), (.int (.u8) 0), (.int (.u8) 0), (.int (.u8) 0), (.int (.u8) 0), (.int (.u8) 0), (.int (.u8) 0), (.int (.u8) 0), (.int (.u8) 0), (.int (.u8) 0), (.int (.u8) 0), (.int (.u8) 0), (.int (.u8) 0), (.int (.u8) 0), (.int (.u8) 0), (.int (.u8) 0), (.int (.u8) 0), (.int (.u8) 0), (.int (.u8) 0), (.int (.u8) 0), (.int (.u8) 0), (.int (.u8) 0), (.int (.u8) 0), (.int (.u8) 0), (.int (.u8) 0), (.int (.u8) 0), (.slice [] (.nil))]))) := by kernel_rfl
theorem elt30 : elt Tryd.prog 30 = (some (32, (32, [(.int (.u8) 0), (.int (.u8) 0), (.int (.u8) 0), (.int (.u8) 0), (.int (.u8) 0), (.int (.u8) 0), (.int (.u8) 0), (.int (.u8) 0), (.int (.u8) 0), (.int (.u8) 0), (.int (.u8) 0), (.int (.u8) 0), (.int (.u8) 0), (.int (.u8) 0), (.int (.u8) 0), (.int (.u8) 0), (.int (.u8) 0), (.int (.u8) 0), (.int (.u8) 0), (.int (.u8) 0), (.int (.u8) 0), (.int (.u8) 0), (.int (.u8) 0), (.int (.u8) 0), (.int (.u8) 0), (.int (.u8) 0), (.int (.u8) 0), (.int (.u8) 0), (.int (.u8) 0), (.int (.u8) 0), (.int (.u8) 0), (.int (.u8) 0)]))) := by kernel_rfl
theorem elt48 : elt Tryd.prog 48 = (some (4, (64, [(.slice [] (.nil)), (.slice [] (.nil)), (.int (.i64) 0), (.int (.i64) 0)]))) := by kernel_rfl
theorem elt95 : elt Tryd.prog 95 = (some (1, (1, [(.int (.u8) 0)]))) := by kernel_rfl
theorem fld25_0 : fld Tryd.prog 25 0 = (some (0, (1, false))) := by kernel_rfl
theorem fld25_1 : fld Tryd.prog 25 1 = (some (1, (1, false))) := by kernel_rfl
theorem fld25_2 : fld Tryd.prog 25 2 = (some (2, (1, false))) := by kernel_rfl
theorem fld25_3 : fld Tryd.prog 25 3 = (some (3, (1, false))) := by kernel_rfl
theorem fld32_0 : fld Tryd.prog 32 0 = (some (0, (1, false))) := by kernel_rfl
theorem fld32_1 : fld Tryd.prog 32 1 = (some (1, (1, false))) := by kernel_rfl
theorem fld32_2 : fld Tryd.prog 32 2 = (some (2, (1, false))) := by kernel_rfl
theorem fld42_0 : fld Tryd.prog 42 0 = (some (0, (32, true))) := by kernel_rfl
theorem fld42_1 : fld Tryd.prog 42 1 = (some (32, (1, false))) := by kernel_rfl
theorem fld64_0 : fld Tryd.prog 64 0 = (some (0, (1, false))) := by kernel_rfl
theorem fld66_0 : fld Tryd.prog 66 0 = (some (0, (1, false))) := by kernel_rfl
theorem fld66_1 : fld Tryd.prog 66 1 = (some (1, (1, false))) := by kernel_rfl
theorem fld66_2 : fld Tryd.prog 66 2 = (some (2, (1, false))) := by kernel_rfl
theorem fld88_0 : fld Tryd.prog 88 0 = (some (0, (32, true))) := by kernel_rfl
theorem keyT62 : keyT Tryd.prog 62 = (some ((.mk [(.int), (.int), (.int), (.int), (.int), (.int), (.int), (.int), (.int), (.int), (.int), (.int), (.int), (.int), (.int), (.int), (.int), (.int), (.int), (.int), (.int), (.int), (.int), (.int), (.int), (.int), (.int), (.int), (.int), (.int), (.int), (.int)] true), 30)) := by kernel_rfl
theorem keyT77 : keyT Tryd.prog 77 = (some ((.mk [(.int), (.int), (.int), (.int), (.int), (.int), (.int), (.int), (.int), (.int), (.int), (.int), (.int), (.int), (.int), (.int), (.int), (.int), (.int), (.int), (.int), (.int), (.int), (.int), (.int), (.int), (.int), (.int), (.int), (.int), (.int), (.int)] true), 4)) := by kernel_rfl
theorem notInt105 : notInt Tryd.prog 105 = false := by kernel_rfl
theorem notInt108 : notInt Tryd.prog 108 = false := by kernel_rfl
theorem notInt117 : notInt Tryd.prog 117 = false := by kernel_rfl
theorem notInt130 : notInt Tryd.prog 130 = true := by kernel_rfl
theorem notInt141 : notInt Tryd.prog 141 = false := by kernel_rfl
theorem notInt143 : notInt Tryd.prog 143 = false := by kernel_rfl
theorem notInt144 : notInt Tryd.prog 144 = false := by kernel_rfl
theorem notInt148 : notInt Tryd.prog 148 = false := by kernel_rfl
theorem notInt20 : notInt Tryd.prog 20 = false := by kernel_rfl
theorem notInt22 : notInt Tryd.prog 22 = true := by kernel_rfl
theorem notInt23 : notInt Tryd.prog 23 = true := by kernel_rfl
theorem notInt25 : notInt Tryd.prog 25 = false := by kernel_rfl
theorem notInt26 : notInt Tryd.prog 26 = false := by kernel_rfl
theorem notInt29 : notInt Tryd.prog 29 = true := by kernel_rfl
theorem notInt3 : notInt Tryd.prog 3 = false := by kernel_rfl
theorem notInt30 : notInt Tryd.prog 30 = true := by kernel_rfl
theorem notInt32 : notInt Tryd.prog 32 = false := by kernel_rfl
theorem notInt35 : notInt Tryd.prog 35 = false := by kernel_rfl
theorem notInt40 : notInt Tryd.prog 40 = false := by kernel_rfl
theorem notInt48 : notInt Tryd.prog 48 = true := by kernel_rfl
theorem notInt50 : notInt Tryd.prog 50 = false := by kernel_rfl
theorem notInt62 : notInt Tryd.prog 62 = false := by kernel_rfl
theorem notInt73 : notInt Tryd.prog 73 = false := by kernel_rfl
theorem notInt77 : notInt Tryd.prog 77 = false := by kernel_rfl
theorem notInt79 : notInt Tryd.prog 79 = false := by kernel_rfl
theorem notInt95 : notInt Tryd.prog 95 = true := by kernel_rfl
theorem notInt96 : notInt Tryd.prog 96 = false := by kernel_rfl
theorem plc32 : plc Tryd.prog 32 = (some (.inl [(0, 1), (1, 1), (2, 1)])) := by kernel_rfl
theorem plc40 : plc Tryd.prog 40 = (some (.inr 1)) := by kernel_rfl
theorem plc42 : plc Tryd.prog 42 = (some (.inl [(0, 32), (32, 1)])) := by kernel_rfl
theorem plc64 : plc Tryd.prog 64 = (some (.inl [(0, 1)])) := by kernel_rfl
theorem plc80 : plc Tryd.prog 80 = (some (.inr 1)) := by kernel_rfl
theorem plc88 : plc Tryd.prog 88 = (some (.inl [(0, 32), (32, 1)])) := by kernel_rfl
theorem tab105 : tab Tryd.prog 105 = (some (3, true)) := by kernel_rfl
theorem tab108 : tab Tryd.prog 108 = (some (1, false)) := by kernel_rfl
theorem tab144 : tab Tryd.prog 144 = (some (1, false)) := by kernel_rfl
theorem tab22 : tab Tryd.prog 22 = (some (1, false)) := by kernel_rfl
theorem tab23 : tab Tryd.prog 23 = (some (1, false)) := by kernel_rfl
theorem tab25 : tab Tryd.prog 25 = (some (4, true)) := by kernel_rfl
theorem tab26 : tab Tryd.prog 26 = (some (1, false)) := by kernel_rfl
theorem tab29 : tab Tryd.prog 29 = (some (1, false)) := by kernel_rfl
theorem tab3 : tab Tryd.prog 3 = (some (1, false)) := by kernel_rfl
theorem tab30 : tab Tryd.prog 30 = (some (1, false)) := by kernel_rfl
theorem tab32 : tab Tryd.prog 32 = (some (3, true)) := by kernel_rfl
theorem tab35 : tab Tryd.prog 35 = (some (1, false)) := by kernel_rfl
theorem tab4 : tab Tryd.prog 4 = (some (1, false)) := by kernel_rfl
theorem tab40 : tab Tryd.prog 40 = (some (32, true)) := by kernel_rfl
theorem tab42 : tab Tryd.prog 42 = (some (33, true)) := by kernel_rfl
theorem tab5 : tab Tryd.prog 5 = (some (1, false)) := by kernel_rfl
theorem tab60 : tab Tryd.prog 60 = (some (1, false)) := by kernel_rfl
theorem tab62 : tab Tryd.prog 62 = (some (1, false)) := by kernel_rfl
theorem tab66 : tab Tryd.prog 66 = (some (3, true)) := by kernel_rfl
theorem tab77 : tab Tryd.prog 77 = (some (1, false)) := by kernel_rfl
theorem tab84 : tab Tryd.prog 84 = (some (1, false)) := by kernel_rfl
theorem und110 : Go.Program.underlying Tryd.prog 110 = (some (.int (.u8))) := by kernel_rfl
theorem und117 : Go.Program.underlying Tryd.prog 117 = (some (.int (.u64))) := by kernel_rfl
theorem und130 : Go.Program.underlying Tryd.prog 130 = (some (.slice 35)) := by kernel_rfl
theorem und133 : Go.Program.underlying Tryd.prog 133 = (some (.int (.i64))) := by kernel_rfl
theorem und141 : Go.Program.underlying Tryd.prog 141 = (some (.int (.u32))) := by kernel_rfl
theorem und143 : Go.Program.underlying Tryd.prog 143 = (some (.int (.u64))) := by kernel_rfl
theorem und144 : Go.Program.underlying Tryd.prog 144 = (some (.int (.u64))) := by kernel_rfl
theorem und148 : Go.Program.underlying Tryd.prog 148 = (some (.pointer 3)) := by kernel_rfl
theorem und20 : Go.Program.underlying Tryd.prog 20 = (some (.interface #[])) := by kernel_rfl
theorem und22 : Go.Program.underlying Tryd.prog 22 = (some (.slice 66)) := by kernel_rfl
theorem und23 : Go.Program.underlying Tryd.prog 23 = (some (.slice 3)) := by kernel_rfl
theorem und26 : Go.Program.underlying Tryd.prog 26 = (some (.pointer 64)) := by kernel_rfl
theorem und29 : Go.Program.underlying Tryd.prog 29 = (some (.slice 42)) := by kernel_rfl
theorem und3 : Go.Program.underlying Tryd.prog 3 = (some (.int (.i64))) := by kernel_rfl
theorem und30 : Go.Program.underlying Tryd.prog 30 = (some (.slice 40)) := by kernel_rfl
theorem und4 : Go.Program.underlying Tryd.prog 4 = (some (.bool)) := by kernel_rfl
theorem und40 : Go.Program.underlying Tryd.prog 40 = (some (.array 32 5)) := by kernel_rfl
theorem und48 : Go.Program.underlying Tryd.prog 48 = (some (.slice 25)) := by kernel_rfl
theorem und5 : Go.Program.underlying Tryd.prog 5 = (some (.int (.u8))) := by kernel_rfl
theorem und50 : Go.Program.underlying Tryd.prog 50 = (some (.func #[40] #[4] false)) := by kernel_rfl
theorem und60 : Go.Program.underlying Tryd.prog 60 = (some (.int (.i64))) := by kernel_rfl
theorem und62 : Go.Program.underlying Tryd.prog 62 = (some (.map 40 30)) := by kernel_rfl
theorem und68 : Go.Program.underlying Tryd.prog 68 = (some (.array 60 4)) := by kernel_rfl
theorem und73 : Go.Program.underlying Tryd.prog 73 = (some (.func #[50] #[] false)) := by kernel_rfl
theorem und77 : Go.Program.underlying Tryd.prog 77 = (some (.map 40 4)) := by kernel_rfl
theorem und79 : Go.Program.underlying Tryd.prog 79 = (some (.func #[40] #[30] false)) := by kernel_rfl
theorem und80 : Go.Program.underlying Tryd.prog 80 = (some (.array 6 5)) := by kernel_rfl
theorem und84 : Go.Program.underlying Tryd.prog 84 = (some (.pointer 88)) := by kernel_rfl
theorem und86 : Go.Program.underlying Tryd.prog 86 = (some (.pointer 84)) := by kernel_rfl
theorem und89 : Go.Program.underlying Tryd.prog 89 = (some (.pointer 60)) := by kernel_rfl
theorem und9 : Go.Program.underlying Tryd.prog 9 = (some (.string)) := by kernel_rfl
theorem und95 : Go.Program.underlying Tryd.prog 95 = (some (.slice 5)) := by kernel_rfl
theorem und96 : Go.Program.underlying Tryd.prog 96 = (some (.func #[40, 40] #[3] false)) := by kernel_rfl
theorem zer105 : zer Tryd.prog 105 = (some [(.lit (.pointer none)), (.lit (.pointer none)), (.int (.u64) 0)]) := by kernel_rfl
theorem zer144 : zer Tryd.prog 144 = (some [(.int (.u64) 0)]) := by kernel_rfl
theorem zer3 : zer Tryd.prog 3 = (some [(.int (.i64) 0)]) := by kernel_rfl
theorem zer32 : zer Tryd.prog 32 = (some [(.slice [] (.nil)), (.slice [] (.nil)), (.int (.i64) 0)]) := by kernel_rfl
theorem zer40 : zer Tryd.prog 40 = (some [(.int (.u8) 0), (.int (.u8) 0), (.int (.u8) 0), (.int (.u8) 0), (.int (.u8) 0), (.int (.u8) 0), (.int (.u8) 0), (.int (.u8) 0), (.int (.u8) 0), (.int (.u8) 0), (.int (.u8) 0), (.int (.u8) 0), (.int (.u8) 0), (.int (.u8) 0), (.int (.u8) 0), (.int (.u8) 0), (.int (.u8) 0), (.int (.u8) 0), (.int (.u8) 0), (.int (.u8) 0), (.int (.u8) 0), (.int (.u8) 0), (.int (.u8) 0), (.int (.u8) 0), (.int (.u8) 0), (.int (.u8) 0), (.int (.u8) 0), (.int (.u8) 0), (.int (.u8) 0), (.int (.u8) 0), (.int (.u8) 0), (.int (.u8) 0)]) := by kernel_rfl
theorem zer42 : zer Tryd.prog 42 = (some [(.int (.u8) 0), (.int (.u8) 0), (.int (.u8) 0), (.int (.u8) 0), (.int (.u8) 0), (.int (.u8) 0), (.int (.u8) 0), (.int (.u8) 0), (.int (.u8) 0), (.int (.u8) 0), (.int (.u8) 0), (.int (.u8) 0), (.int (.u8) 0), (.int (.u8) 0), (.int (.u8) 0), (.int (.u8) 0), (.int (.u8) 0), (.int (.u8) 0), (.int (.u8) 0), (.int (.u8) 0), (.int (.u8) 0), (.int (.u8) 0), (.int (.u8) 0), (.int (.u8) 0), (.int (.u8) 0), (.int (.u8) 0), (.int (.u8) 0), (.int (.u8) 0), (.int (.u8) 0), (.int (.u8) 0), (.int (.u8) 0), (.int (.u8) 0), (.slice [] (.nil))]) := by kernel_rfl
theorem zer60 : zer Tryd.prog 60 = (some [(.int (.i64) 0)]) := by kernel_rfl
theorem zer62 : zer Tryd.prog 62 = (some [(.lit (.map none))]) := by kernel_rfl
theorem zer64 : zer Tryd.prog 64 = (some [(.lit (.map none))]) := by kernel_rfl
theorem zer66 : zer Tryd.prog 66 = (some [(.int (.i64) 0), (.int (.i64) 0), (.slice [] (.nil))]) := by kernel_rfl
theorem zer68 : zer Tryd.prog 68 = (some [(.bool false), (.bool false), (.bool false), (.bool false), (.bool false), (.bool false), (.bool false), (.bool false), (.bool false), (.bool false), (.bool false), (.bool false), (.bool false), (.bool false), (.bool false), (.bool false), (.bool false), (.bool false), (.bool false), (.bool false), (.bool false), (.bool false), (.bool false), (.bool false), (.bool false), (.bool false), (.bool false), (.bool false), (.bool false), (.bool false), (.bool false), (.bool false), (.bool false), (.bool false), (.bool false), (.bool false), (.bool false), (.bool false), (.bool false), (.bool false), (.bool false), (.bool false), (.bool false), (.bool false), (.bool false), (.bool false), (.bool false), (.bool false), (.bool false), (.bool false), (.bool false), (.bool false), (.bool false), (.bool false), (.bool false), (.bool false), (.bool false), (.bool false), (.bool false), (.bool false)]) := by kernel_rfl
theorem zer77 : zer Tryd.prog 77 = (some [(.lit (.map none))]) := by kernel_rfl
theorem zer80 : zer Tryd.prog 80 = (some [(.int (.u8) 0), (.int (.u8) 0), (.int (.u8) 0), (.int (.u8) 0), (.int (.u8) 0), (.int (.u8) 0)]) := by kernel_rfl
theorem zer84 : zer Tryd.prog 84 = (some [(.lit (.pointer none))]) := by kernel_rfl
theorem zer88 : zer Tryd.prog 88 = (some [(.int (.u8) 0), (.int (.u8) 0), (.int (.u8) 0), (.int (.u8) 0), (.int (.u8) 0), (.int (.u8) 0), (.int (.u8) 0), (.int (.u8) 0), (.int (.u8) 0), (.int (.u8) 0), (.int (.u8) 0), (.int (.u8) 0), (.int (.u8) 0), (.int (.u8) 0), (.int (.u8) 0), (.int (.u8) 0), (.int (.u8) 0), (.int (.u8) 0), (.int (.u8) 0), (.int (.u8) 0), (.int (.u8) 0), (.int (.u8) 0), (.int (.u8) 0), (.int (.u8) 0), (.int (.u8) 0), (.int (.u8) 0), (.int (.u8) 0), (.int (.u8) 0), (.int (.u8) 0), (.int (.u8) 0), (.int (.u8) 0), (.int (.u8) 0), (.lit (.nilIface))]) := by kernel_rfl
theorem zeroG30 : zeroG Tryd.prog 30 = (some (.slice [] (.nil))) := by kernel_rfl
theorem zeroG4 : zeroG Tryd.prog 4 = (some (.bool false)) := by kernel_rfl
set_option linter.defProp false in
def fbFu := And.intro aggT40 <| And.intro arr40 <| And.intro arr68 <| And.intro arr80 <| And.intro els130 <| And.intro els22 <| And.intro els23 <| And.intro els29 <| And.intro els30 <| And.intro els48 <| And.intro elt130 <| And.intro elt22 <| And.intro elt23 <| And.intro elt29 <| And.intro elt30 <| And.intro elt48 <| And.intro elt95 <| And.intro fld25_0 <| And.intro fld25_1 <| And.intro fld25_2 <| And.intro fld25_3 <| And.intro fld32_0 <| And.intro fld32_1 <| And.intro fld32_2 <| And.intro fld42_0 <| And.intro fld42_1 <| And.intro fld64_0 <| And.intro fld66_0 <| And.intro fld66_1 <| And.intro fld66_2 <| And.intro fld88_0 <| And.intro keyT62 <| And.intro keyT77 <| And.intro notInt105 <| And.intro notInt108 <| And.intro notInt117 <| And.intro notInt130 <| And.intro notInt141 <| And.intro notInt143 <| And.intro notInt144 <| And.intro notInt148 <| And.intro notInt20 <| And.intro notInt22 <| And.intro notInt23 <| And.intro notInt25 <| And.intro notInt26 <| And.intro notInt29 <| And.intro notInt3 <| And.intro notInt30 <| And.intro notInt32 <| And.intro notInt35 <| And.intro notInt40 <| And.intro notInt48 <| And.intro notInt50 <| And.intro notInt62 <| And.intro notInt73 <| And.intro notInt77 <| And.intro notInt79 <| And.intro notInt95 <| And.intro notInt96 <| And.intro plc32 <| And.intro plc40 <| And.intro plc42 <| And.intro plc64 <| And.intro plc80 <| And.intro plc88 <| And.intro tab105 <| And.intro tab108 <| And.intro tab144 <| And.intro tab22 <| And.intro tab23 <| And.intro tab25 <| And.intro tab26 <| And.intro tab29 <| And.intro tab3 <| And.intro tab30 <| And.intro tab32 <| And.intro tab35 <| And.intro tab4 <| And.intro tab40 <| And.intro tab42 <| And.intro tab5 <| And.intro tab60 <| And.intro tab62 <| And.intro tab66 <| And.intro tab77 <| And.intro tab84 <| And.intro und110 <| And.intro und117 <| And.intro und130 <| And.intro und133 <| And.intro und141 <| And.intro und143 <| And.intro und144 <| And.intro und148 <| And.intro und20 <| And.intro und22 <| And.intro und23 <| And.intro und26 <| And.intro und29 <| And.intro und3 <| And.intro und30 <| And.intro und4 <| And.intro und40 <| And.intro und48 <| And.intro und5 <| And.intro und50 <| And.intro und60 <| And.intro und62 <| And.intro und68 <| And.intro und73 <| And.intro und77 <| And.intro und79 <| And.intro und80 <| And.intro und84 <| And.intro und86 <| And.intro und89 <| And.intro und9 <| And.intro und95 <| And.intro und96 <| And.intro zer105 <| And.intro zer144 <| And.intro zer3 <| And.intro zer32 <| And.intro zer40 <| And.intro zer42 <| And.intro zer60 <| And.intro zer62 <| And.intro zer64 <| And.intro zer66 <| And.intro zer68 <| And.intro zer77 <| And.intro zer80 <| And.intro zer84 <| And.intro zer88 <| And.intro zeroG30 <| zeroG4
end Gv.Tryd

/- Contracts: digits, prefixes, whether a string begins so. -/
set_option linter.unusedVariables false
set_option linter.unusedSimpArgs false
set_option maxRecDepth 20000
set_option maxHeartbeats 4000000
namespace Gv.Tryd
open Go Gv Go.Proofs
theorem mixS : Tryd.prog.follows .mixedOrders = true := by kernel_rfl
end Gv.Tryd
