/- The code as it is run here: printed by gen_view.lean. Conditions: none. -/
import Derived.Test.YtbclmkfibgmgdaaGreatDoorRdEnvT
import Derived.Test.YtbclmkfibgmgdaaGreatDoorRdSA
import Derived.Test.YtbclmkfibgmgdaaGreatDoorRdSE
namespace Go.Proofs
open Go Go.Ab
set_option linter.unusedVariables false
noncomputable def R3_0 : Array Oper := ((bodyOf Tryz.f3).kid 0).opsOf
theorem v3_0 : R3_0.toList.map sop = [⟨some 4, .assign (.const (.bool false)), none⟩] := rfl
noncomputable def R3_1 : Array Oper := ((((bodyOf Tryz.f3).kid 1).kid 0).kid 0).opsOf
theorem v3_1 : R3_1.toList.map sop = [⟨some 21, .call ⟨.value (.func 4), #[], #[]⟩, none⟩, ⟨some 22, .unOp .not 4 (.tmp 21), none⟩] := rfl
noncomputable def R3_2 : Array Oper := ((((((bodyOf Tryz.f3).kid 1).kid 0).kid 1).kid 0).kid 0).opsOf
theorem v3_2 : R3_2.toList.map sop = [⟨some 4, .assign (.const (.bool false)), none⟩] := rfl
noncomputable def R3_3 : Array Oper := ((((bodyOf Tryz.f3).kid 1).kid 1).kid 0).opsOf
theorem v3_3 : R3_3.toList.map sop = [⟨some 23, .move (.tmp 0), none⟩, ⟨some 24, .call ⟨.value (.func 5), #[(.tmp 23)], #[22]⟩, none⟩, ⟨some 25, .move (.tmp 1), none⟩, ⟨some 26, .call ⟨.value (.func 5), #[(.tmp 25)], #[22]⟩, none⟩, ⟨some 0, .assign (.tmp 24), none⟩, ⟨some 1, .assign (.tmp 26), none⟩] := rfl
noncomputable def R3_4 : Array Oper := (((((bodyOf Tryz.f3).kid 1).kid 1).kid 1).kid 0).opsOf
theorem v3_4 : R3_4.toList.map sop = [⟨some 27, .move (.tmp 0), none⟩, ⟨some 28, .call ⟨.value (.func 6), #[(.tmp 27)], #[22]⟩, none⟩, ⟨some 29, .move (.tmp 1), none⟩, ⟨some 30, .call ⟨.value (.func 6), #[(.tmp 29)], #[22]⟩, none⟩, ⟨some 5, .alloc 30, none⟩, ⟨some 6, .alloc 30, none⟩, ⟨none, .store 30 (.tmp 5) (.tmp 28), none⟩, ⟨none, .store 30 (.tmp 6) (.tmp 30), none⟩] := rfl
noncomputable def R3_5 : Array Oper := ((((((bodyOf Tryz.f3).kid 1).kid 1).kid 1).kid 1).kid 0).opsOf
theorem v3_5 : R3_5.toList.map sop = [⟨some 32, .load 30 (.tmp 5), none⟩, ⟨some 33, .load 30 (.tmp 6), none⟩, ⟨some 34, .call ⟨.value (.func 7), #[(.tmp 32), (.tmp 33)], #[30, 30]⟩, none⟩, ⟨some 31, .move (.tmp 34), none⟩, ⟨some 35, .extract (.tmp 31) 0, none⟩, ⟨some 36, .extract (.tmp 31) 1, none⟩, ⟨some 7, .assign (.tmp 35), none⟩, ⟨some 8, .assign (.tmp 36), none⟩] := rfl
noncomputable def R3_6 : Array Oper := (((((((bodyOf Tryz.f3).kid 1).kid 1).kid 1).kid 1).kid 1).kid 0).opsOf
theorem v3_6 : R3_6.toList.map sop = [⟨some 38, .load 30 (.tmp 5), none⟩, ⟨some 39, .load 30 (.tmp 6), none⟩, ⟨some 40, .call ⟨.value (.func 8), #[(.tmp 38), (.tmp 39)], #[30, 30]⟩, none⟩, ⟨some 37, .move (.tmp 40), none⟩, ⟨some 41, .extract (.tmp 37) 0, none⟩, ⟨some 42, .extract (.tmp 37) 1, none⟩, ⟨some 9, .assign (.tmp 41), none⟩, ⟨some 10, .assign (.tmp 42), none⟩] := rfl
noncomputable def R3_7 : Array Oper := (((((((((bodyOf Tryz.f3).kid 1).kid 1).kid 1).kid 1).kid 1).kid 1).kid 0).kid 0).opsOf
theorem v3_7 : R3_7.toList.map sop = [⟨some 43, .move (.tmp 8), none⟩, ⟨some 44, .binOp .neq 32 (.tmp 43) (.const (.int .i64 (0))) 32, none⟩, ⟨some 45, .move (.tmp 44), none⟩, ⟨some 46, .move (.tmp 10), some (2, false)⟩, ⟨some 47, .binOp .neq 32 (.tmp 46) (.const (.int .i64 (0))) 32, some (2, false)⟩, ⟨some 48, .pick (.tmp 45) (.const (.bool true)) (.tmp 47), none⟩, ⟨some 49, .move (.tmp 48), none⟩, ⟨some 50, .move (.tmp 7), some (6, false)⟩, ⟨some 51, .move (.tmp 1), some (6, false)⟩, ⟨some 52, .move (.tmp 0), some (6, false)⟩, ⟨some 53, .call ⟨.value (.func 9), #[(.tmp 51), (.tmp 52)], #[22, 22]⟩, some (6, false)⟩, ⟨some 54, .binOp .neq 4 (.tmp 50) (.tmp 53) 4, some (6, false)⟩, ⟨some 55, .pick (.tmp 49) (.const (.bool true)) (.tmp 54), none⟩, ⟨some 56, .move (.tmp 55), none⟩, ⟨some 57, .move (.tmp 9), some (13, false)⟩, ⟨some 58, .move (.tmp 1), some (13, false)⟩, ⟨some 59, .move (.tmp 0), some (13, false)⟩, ⟨some 60, .call ⟨.value (.func 9), #[(.tmp 58), (.tmp 59)], #[22, 22]⟩, some (13, false)⟩, ⟨some 61, .move (.tmp 60), some (13, false)⟩, ⟨some 62, .move (.tmp 0), some (18, true)⟩, ⟨some 63, .move (.tmp 1), some (18, true)⟩, ⟨some 64, .call ⟨.value (.func 9), #[(.tmp 62), (.tmp 63)], #[22, 22]⟩, some (18, true)⟩, ⟨some 65, .pick (.tmp 61) (.tmp 64) (.const (.bool false)), some (13, false)⟩, ⟨some 66, .binOp .neq 4 (.tmp 57) (.tmp 65) 4, some (13, false)⟩, ⟨some 67, .pick (.tmp 56) (.const (.bool true)) (.tmp 66), none⟩] := rfl
noncomputable def R3_8 : Array Oper := (((((((((((bodyOf Tryz.f3).kid 1).kid 1).kid 1).kid 1).kid 1).kid 1).kid 0).kid 1).kid 0).kid 0).opsOf
theorem v3_8 : R3_8.toList.map sop = [⟨some 4, .assign (.const (.bool false)), none⟩] := rfl
noncomputable def R3_9 : Array Oper := (((((((((bodyOf Tryz.f3).kid 1).kid 1).kid 1).kid 1).kid 1).kid 1).kid 1).kid 0).opsOf
theorem v3_9 : R3_9.toList.map sop = [⟨some 11, .assign (.const (.int .i64 (0))), none⟩] := rfl
noncomputable def R3_10 : Array Oper := (((((((((((bodyOf Tryz.f3).kid 1).kid 1).kid 1).kid 1).kid 1).kid 1).kid 1).kid 1).kid 0).kid 0).opsOf
theorem v3_10 : R3_10.toList.map sop = [⟨some 68, .move (.tmp 0), none⟩, ⟨some 69, .call ⟨.builtin .len, #[(.tmp 68)], #[22]⟩, none⟩, ⟨some 70, .move (.const (.int .i64 (0))), none⟩] := rfl
noncomputable def R3_11 : Array Oper := ((((((((((((((bodyOf Tryz.f3).kid 1).kid 1).kid 1).kid 1).kid 1).kid 1).kid 1).kid 1).kid 0).kid 1).kid 0).kid 0).kid 0).opsOf
theorem v3_11 : R3_11.toList.map sop = [⟨some 71, .binOp .lss 3 (.tmp 70) (.tmp 69) 3, none⟩] := rfl
noncomputable def R3_12 : Array Oper := ((((((((((((((((((bodyOf Tryz.f3).kid 1).kid 1).kid 1).kid 1).kid 1).kid 1).kid 1).kid 1).kid 0).kid 1).kid 0).kid 0).kid 1).kid 1).kid 0).kid 0).kid 0).opsOf
theorem v3_12 : R3_12.toList.map sop = [⟨some 72, .move (.tmp 70), none⟩, ⟨some 73, .indexAddr 22 (.tmp 68) (.tmp 70), none⟩, ⟨some 74, .load 3 (.tmp 73), none⟩, ⟨some 12, .assign (.tmp 72), none⟩, ⟨some 13, .assign (.tmp 74), none⟩] := rfl
noncomputable def R3_13 : Array Oper := (((((((((((((((((((bodyOf Tryz.f3).kid 1).kid 1).kid 1).kid 1).kid 1).kid 1).kid 1).kid 1).kid 0).kid 1).kid 0).kid 0).kid 1).kid 1).kid 0).kid 0).kid 1).kid 0).opsOf
theorem v3_13 : R3_13.toList.map sop = [⟨some 14, .assign (.const (.bool true)), none⟩] := rfl
noncomputable def R3_14 : Array Oper := (((((((((((((((((((((bodyOf Tryz.f3).kid 1).kid 1).kid 1).kid 1).kid 1).kid 1).kid 1).kid 1).kid 0).kid 1).kid 0).kid 0).kid 1).kid 1).kid 0).kid 0).kid 1).kid 1).kid 0).kid 0).opsOf
theorem v3_14 : R3_14.toList.map sop = [⟨some 75, .move (.tmp 0), none⟩, ⟨some 76, .call ⟨.builtin .len, #[(.tmp 75)], #[22]⟩, none⟩, ⟨some 77, .move (.const (.int .i64 (0))), none⟩] := rfl
noncomputable def R3_15 : Array Oper := ((((((((((((((((((((((((bodyOf Tryz.f3).kid 1).kid 1).kid 1).kid 1).kid 1).kid 1).kid 1).kid 1).kid 0).kid 1).kid 0).kid 0).kid 1).kid 1).kid 0).kid 0).kid 1).kid 1).kid 0).kid 1).kid 0).kid 0).kid 0).opsOf
theorem v3_15 : R3_15.toList.map sop = [⟨some 78, .binOp .lss 3 (.tmp 77) (.tmp 76) 3, none⟩] := rfl
noncomputable def R3_16 : Array Oper := ((((((((((((((((((((((((((((bodyOf Tryz.f3).kid 1).kid 1).kid 1).kid 1).kid 1).kid 1).kid 1).kid 1).kid 0).kid 1).kid 0).kid 0).kid 1).kid 1).kid 0).kid 0).kid 1).kid 1).kid 0).kid 1).kid 0).kid 0).kid 1).kid 1).kid 0).kid 0).kid 0).opsOf
theorem v3_16 : R3_16.toList.map sop = [⟨some 79, .move (.tmp 77), none⟩, ⟨some 80, .indexAddr 22 (.tmp 75) (.tmp 77), none⟩, ⟨some 81, .load 3 (.tmp 80), none⟩, ⟨some 15, .assign (.tmp 79), none⟩, ⟨some 16, .assign (.tmp 81), none⟩] := rfl
noncomputable def R3_17 : Array Oper := (((((((((((((((((((((((((((((bodyOf Tryz.f3).kid 1).kid 1).kid 1).kid 1).kid 1).kid 1).kid 1).kid 1).kid 0).kid 1).kid 0).kid 0).kid 1).kid 1).kid 0).kid 0).kid 1).kid 1).kid 0).kid 1).kid 0).kid 0).kid 1).kid 1).kid 0).kid 0).kid 1).kid 0).opsOf
theorem v3_17 : R3_17.toList.map sop = [⟨some 82, .move (.tmp 15), none⟩, ⟨some 83, .move (.tmp 12), none⟩, ⟨some 84, .binOp .neq 3 (.tmp 82) (.tmp 83) 3, none⟩, ⟨some 85, .move (.tmp 84), none⟩, ⟨some 86, .move (.tmp 13), some (3, true)⟩, ⟨some 87, .move (.tmp 16), some (3, true)⟩, ⟨some 88, .binOp .rem 3 (.tmp 86) (.tmp 87) 3, some (3, true)⟩, ⟨some 89, .binOp .eql 3 (.tmp 88) (.const (.int .i64 (0))) 3, some (3, true)⟩, ⟨some 90, .pick (.tmp 85) (.tmp 89) (.const (.bool false)), none⟩, ⟨some 91, .move (.tmp 90), none⟩, ⟨some 92, .move (.tmp 13), some (9, true)⟩, ⟨some 93, .move (.tmp 16), some (9, true)⟩, ⟨some 94, .binOp .neq 3 (.tmp 92) (.tmp 93) 3, some (9, true)⟩, ⟨some 95, .move (.tmp 94), some (9, true)⟩, ⟨some 96, .move (.tmp 15), some (13, false)⟩, ⟨some 97, .move (.tmp 12), some (13, false)⟩, ⟨some 98, .binOp .lss 3 (.tmp 96) (.tmp 97) 3, some (13, false)⟩, ⟨some 99, .pick (.tmp 95) (.const (.bool true)) (.tmp 98), some (9, true)⟩, ⟨some 100, .pick (.tmp 91) (.tmp 99) (.const (.bool false)), none⟩] := rfl
noncomputable def R3_18 : Array Oper := ((((((((((((((((((((((((((((((bodyOf Tryz.f3).kid 1).kid 1).kid 1).kid 1).kid 1).kid 1).kid 1).kid 1).kid 0).kid 1).kid 0).kid 0).kid 1).kid 1).kid 0).kid 0).kid 1).kid 1).kid 0).kid 1).kid 0).kid 0).kid 1).kid 1).kid 0).kid 0).kid 1).kid 1).kid 0).opsOf
theorem v3_18 : R3_18.toList.map sop = [⟨some 14, .assign (.const (.bool false)), none⟩] := rfl
noncomputable def R3_19 : Array Oper := ((((((((((((((((((((((((((bodyOf Tryz.f3).kid 1).kid 1).kid 1).kid 1).kid 1).kid 1).kid 1).kid 1).kid 0).kid 1).kid 0).kid 0).kid 1).kid 1).kid 0).kid 0).kid 1).kid 1).kid 0).kid 1).kid 0).kid 0).kid 1).kid 1).kid 1).opsOf
theorem v3_19 : R3_19.toList.map sop = [⟨some 101, .binOp .add 3 (.tmp 77) (.const (.int .i64 (1))) 3, none⟩, ⟨some 77, .move (.tmp 101), none⟩] := rfl
noncomputable abbrev L3_0 : Code := (.seq (.region 15 R3_15 false) (.seq (.cond (.tmp 78) .skip (.exit 2)) (.seq (.block 3 (.seq (.region 16 R3_16 false) (.seq (.region 17 R3_17 false) (.cond (.tmp 100) (.region 18 R3_18 false) .skip)))) (.region 19 R3_19 false))))
noncomputable def R3_20 : Array Oper := (((((((((((((((((((((bodyOf Tryz.f3).kid 1).kid 1).kid 1).kid 1).kid 1).kid 1).kid 1).kid 1).kid 0).kid 1).kid 0).kid 0).kid 1).kid 1).kid 0).kid 0).kid 1).kid 1).kid 1).kid 0).opsOf
theorem v3_20 : R3_20.toList.map sop = [⟨some 102, .move (.tmp 14), none⟩] := rfl
noncomputable def R3_21 : Array Oper := ((((((((((((((((((((((bodyOf Tryz.f3).kid 1).kid 1).kid 1).kid 1).kid 1).kid 1).kid 1).kid 1).kid 0).kid 1).kid 0).kid 0).kid 1).kid 1).kid 0).kid 0).kid 1).kid 1).kid 1).kid 1).kid 0).opsOf
theorem v3_21 : R3_21.toList.map sop = [⟨some 103, .move (.tmp 11), none⟩, ⟨some 104, .move (.tmp 13), none⟩, ⟨some 105, .binOp .add 3 (.tmp 103) (.tmp 104) 3, none⟩, ⟨some 11, .assign (.tmp 105), none⟩] := rfl
noncomputable def R3_22 : Array Oper := ((((((((((((((((bodyOf Tryz.f3).kid 1).kid 1).kid 1).kid 1).kid 1).kid 1).kid 1).kid 1).kid 0).kid 1).kid 0).kid 0).kid 1).kid 1).kid 1).opsOf
theorem v3_22 : R3_22.toList.map sop = [⟨some 106, .binOp .add 3 (.tmp 70) (.const (.int .i64 (1))) 3, none⟩, ⟨some 70, .move (.tmp 106), none⟩] := rfl
noncomputable abbrev L3_1 : Code := (.seq (.region 11 R3_11 false) (.seq (.cond (.tmp 71) .skip (.exit 0)) (.seq (.block 1 (.seq (.region 12 R3_12 false) (.seq (.region 13 R3_13 false) (.seq (.seq (.region 14 R3_14 false) (.block 2 (.loop L3_0))) (.seq (.region 20 R3_20 false) (.cond (.tmp 102) (.region 21 R3_21 false) .skip)))))) (.region 22 R3_22 false))))
noncomputable def R3_23 : Array Oper := (((((((((((bodyOf Tryz.f3).kid 1).kid 1).kid 1).kid 1).kid 1).kid 1).kid 1).kid 1).kid 1).kid 0).opsOf
theorem v3_23 : R3_23.toList.map sop = [⟨some 108, .load 30 (.tmp 5), none⟩, ⟨some 109, .call ⟨.value (.func 10), #[(.tmp 108)], #[30]⟩, none⟩, ⟨some 107, .move (.tmp 109), none⟩, ⟨some 110, .extract (.tmp 107) 0, none⟩, ⟨some 111, .extract (.tmp 107) 1, none⟩, ⟨some 17, .alloc 30, none⟩, ⟨none, .store 30 (.tmp 17) (.tmp 110), none⟩, ⟨some 18, .assign (.tmp 111), none⟩] := rfl
noncomputable def R3_24 : Array Oper := (((((((((((((bodyOf Tryz.f3).kid 1).kid 1).kid 1).kid 1).kid 1).kid 1).kid 1).kid 1).kid 1).kid 1).kid 0).kid 0).opsOf
theorem v3_24 : R3_24.toList.map sop = [⟨some 112, .move (.tmp 18), none⟩, ⟨some 113, .binOp .neq 32 (.tmp 112) (.const (.int .i64 (0))) 32, none⟩, ⟨some 114, .move (.tmp 113), none⟩, ⟨some 115, .fieldAddr 30 (.tmp 17) 1, some (2, false)⟩, ⟨some 116, .load 28 (.tmp 115), some (2, false)⟩, ⟨some 117, .call ⟨.builtin .len, #[(.tmp 116)], #[28]⟩, some (2, false)⟩, ⟨some 118, .move (.tmp 11), some (2, false)⟩, ⟨some 119, .binOp .neq 3 (.tmp 117) (.tmp 118) 3, some (2, false)⟩, ⟨some 120, .pick (.tmp 114) (.const (.bool true)) (.tmp 119), none⟩] := rfl
noncomputable def R3_25 : Array Oper := (((((((((((((((bodyOf Tryz.f3).kid 1).kid 1).kid 1).kid 1).kid 1).kid 1).kid 1).kid 1).kid 1).kid 1).kid 0).kid 1).kid 0).kid 0).opsOf
theorem v3_25 : R3_25.toList.map sop = [⟨some 4, .assign (.const (.bool false)), none⟩] := rfl
noncomputable def R3_26 : Array Oper := (((((((((((((bodyOf Tryz.f3).kid 1).kid 1).kid 1).kid 1).kid 1).kid 1).kid 1).kid 1).kid 1).kid 1).kid 1).kid 0).opsOf
theorem v3_26 : R3_26.toList.map sop = [⟨some 122, .load 30 (.tmp 17), none⟩, ⟨some 123, .load 30 (.tmp 5), none⟩, ⟨some 124, .call ⟨.value (.func 8), #[(.tmp 122), (.tmp 123)], #[30, 30]⟩, none⟩, ⟨some 121, .move (.tmp 124), none⟩, ⟨some 125, .extract (.tmp 121) 0, none⟩, ⟨some 126, .extract (.tmp 121) 1, none⟩, ⟨some 19, .assign (.tmp 125), none⟩, ⟨some 20, .assign (.tmp 126), none⟩] := rfl
noncomputable def R3_27 : Array Oper := ((((((((((((((bodyOf Tryz.f3).kid 1).kid 1).kid 1).kid 1).kid 1).kid 1).kid 1).kid 1).kid 1).kid 1).kid 1).kid 1).kid 0).opsOf
theorem v3_27 : R3_27.toList.map sop = [⟨some 127, .move (.tmp 20), none⟩, ⟨some 128, .binOp .eql 32 (.tmp 127) (.const (.int .i64 (0))) 32, none⟩, ⟨some 129, .move (.tmp 128), none⟩, ⟨some 130, .move (.tmp 19), some (2, true)⟩, ⟨some 131, .pick (.tmp 129) (.tmp 130) (.const (.bool false)), none⟩, ⟨some 4, .assign (.tmp 131), none⟩] := rfl
theorem body3 : Tryz.f3.body = some (.seq (.region 0 R3_0 false) (.seq (.seq (.region 1 R3_1 false) (.cond (.tmp 22) (.seq (.region 2 R3_2 false) .ret) .skip)) (.seq (.region 3 R3_3 false) (.seq (.region 4 R3_4 false) (.seq (.region 5 R3_5 false) (.seq (.region 6 R3_6 false) (.seq (.seq (.region 7 R3_7 false) (.cond (.tmp 67) (.seq (.region 8 R3_8 false) .ret) .skip)) (.seq (.region 9 R3_9 false) (.seq (.seq (.region 10 R3_10 false) (.block 0 (.loop L3_1))) (.seq (.region 23 R3_23 false) (.seq (.seq (.region 24 R3_24 false) (.cond (.tmp 120) (.seq (.region 25 R3_25 false) .ret) .skip)) (.seq (.region 26 R3_26 false) (.seq (.region 27 R3_27 false) .ret))))))))))))) := rfl
theorem nt3 : Tryz.f3.ntmps = 132 := rfl
theorem fn3 : Tryz.env.ft.get none 3 = some Tryz.f3 := rfl
theorem sm3 : Tryz.env.sum 3 = none := rfl
theorem fk3 : Tryz.env.fork 3 = false := rfl
theorem res3 : Tryz.f3.results.toList = [.tmp 4] := rfl
noncomputable def R5_0 : Array Oper := ((bodyOf Tryz.f5).kid 0).opsOf
theorem v5_0 : R5_0.toList.map sop = [⟨some 2, .assign (.const (.slice none 0 0)), none⟩] := rfl
noncomputable def R5_1 : Array Oper := (((bodyOf Tryz.f5).kid 1).kid 0).opsOf
theorem v5_1 : R5_1.toList.map sop = [⟨some 3, .assign (.const (.slice none 0 0)), none⟩] := rfl
noncomputable def R5_2 : Array Oper := ((((bodyOf Tryz.f5).kid 1).kid 1).kid 0).opsOf
theorem v5_2 : R5_2.toList.map sop = [⟨some 4, .assign (.const (.int .i64 (0))), none⟩] := rfl
noncomputable def R5_3 : Array Oper := ((((((bodyOf Tryz.f5).kid 1).kid 1).kid 1).kid 0).kid 0).opsOf
theorem v5_3 : R5_3.toList.map sop = [⟨some 7, .move (.tmp 0), none⟩, ⟨some 8, .call ⟨.builtin .len, #[(.tmp 7)], #[22]⟩, none⟩, ⟨some 9, .move (.const (.int .i64 (0))), none⟩] := rfl
noncomputable def R5_4 : Array Oper := (((((((((bodyOf Tryz.f5).kid 1).kid 1).kid 1).kid 0).kid 1).kid 0).kid 0).kid 0).opsOf
theorem v5_4 : R5_4.toList.map sop = [⟨some 10, .binOp .lss 3 (.tmp 9) (.tmp 8) 3, none⟩] := rfl
noncomputable def R5_5 : Array Oper := (((((((((((((bodyOf Tryz.f5).kid 1).kid 1).kid 1).kid 0).kid 1).kid 0).kid 0).kid 1).kid 1).kid 0).kid 0).kid 0).opsOf
theorem v5_5 : R5_5.toList.map sop = [⟨some 11, .indexAddr 22 (.tmp 7) (.tmp 9), none⟩, ⟨some 12, .load 3 (.tmp 11), none⟩, ⟨some 6, .assign (.tmp 12), none⟩] := rfl
noncomputable def R5_6 : Array Oper := ((((((((((((((bodyOf Tryz.f5).kid 1).kid 1).kid 1).kid 0).kid 1).kid 0).kid 0).kid 1).kid 1).kid 0).kid 0).kid 1).kid 0).opsOf
theorem v5_6 : R5_6.toList.map sop = [⟨some 13, .move (.tmp 6), none⟩, ⟨some 14, .call ⟨.value (.func 14), #[(.const (.int .i64 (5))), (.tmp 13)], #[3, 3]⟩, none⟩, ⟨some 15, .binOp .add 3 (.const (.int .i64 (1))) (.tmp 14) 3, none⟩, ⟨some 6, .assign (.tmp 15), none⟩] := rfl
noncomputable def R5_7 : Array Oper := (((((((((((((((bodyOf Tryz.f5).kid 1).kid 1).kid 1).kid 0).kid 1).kid 0).kid 0).kid 1).kid 1).kid 0).kid 0).kid 1).kid 1).kid 0).opsOf
theorem v5_7 : R5_7.toList.map sop = [⟨some 16, .move (.tmp 3), none⟩, ⟨some 17, .call ⟨.builtin .len, #[(.tmp 16)], #[22]⟩, none⟩, ⟨some 18, .binOp .lss 3 (.tmp 17) (.const (.int .i64 (3))) 3, none⟩, ⟨some 19, .move (.tmp 18), none⟩, ⟨some 20, .move (.tmp 4), some (3, true)⟩, ⟨some 21, .move (.tmp 6), some (3, true)⟩, ⟨some 22, .binOp .add 3 (.tmp 20) (.tmp 21) 3, some (3, true)⟩, ⟨some 23, .binOp .leq 3 (.tmp 22) (.const (.int .i64 (10))) 3, some (3, true)⟩, ⟨some 24, .pick (.tmp 19) (.tmp 23) (.const (.bool false)), none⟩] := rfl
noncomputable def R5_8 : Array Oper := (((((((((((((((((bodyOf Tryz.f5).kid 1).kid 1).kid 1).kid 0).kid 1).kid 0).kid 0).kid 1).kid 1).kid 0).kid 0).kid 1).kid 1).kid 1).kid 0).kid 0).opsOf
theorem v5_8 : R5_8.toList.map sop = [⟨some 25, .move (.tmp 3), none⟩, ⟨some 26, .move (.tmp 6), none⟩, ⟨some 27, .buildSlice 22 1 #[(0, (.tmp 26))], none⟩, ⟨some 28, .call ⟨.builtin .append, #[(.tmp 25), (.tmp 27)], #[22, 22]⟩, none⟩, ⟨some 3, .assign (.tmp 28), none⟩] := rfl
noncomputable def R5_9 : Array Oper := (((((((((((((((((bodyOf Tryz.f5).kid 1).kid 1).kid 1).kid 0).kid 1).kid 0).kid 0).kid 1).kid 1).kid 0).kid 0).kid 1).kid 1).kid 1).kid 0).kid 1).opsOf
theorem v5_9 : R5_9.toList.map sop = [⟨some 29, .move (.tmp 4), none⟩, ⟨some 30, .move (.tmp 6), none⟩, ⟨some 31, .binOp .add 3 (.tmp 29) (.tmp 30) 3, none⟩, ⟨some 4, .assign (.tmp 31), none⟩] := rfl
noncomputable def R5_10 : Array Oper := (((((((((((bodyOf Tryz.f5).kid 1).kid 1).kid 1).kid 0).kid 1).kid 0).kid 0).kid 1).kid 1).kid 1).opsOf
theorem v5_10 : R5_10.toList.map sop = [⟨some 32, .binOp .add 3 (.tmp 9) (.const (.int .i64 (1))) 3, none⟩, ⟨some 9, .move (.tmp 32), none⟩] := rfl
noncomputable abbrev L5_0 : Code := (.seq (.region 4 R5_4 false) (.seq (.cond (.tmp 10) .skip (.exit 0)) (.seq (.block 1 (.seq (.region 5 R5_5 false) (.seq (.region 6 R5_6 false) (.seq (.region 7 R5_7 false) (.cond (.tmp 24) (.seq (.region 8 R5_8 false) (.region 9 R5_9 false)) .skip))))) (.region 10 R5_10 false))))
noncomputable def R5_11 : Array Oper := (((((((bodyOf Tryz.f5).kid 1).kid 1).kid 1).kid 1).kid 0).kid 0).opsOf
theorem v5_11 : R5_11.toList.map sop = [⟨some 33, .move (.tmp 3), none⟩, ⟨some 34, .call ⟨.builtin .len, #[(.tmp 33)], #[22]⟩, none⟩, ⟨some 35, .binOp .eql 3 (.tmp 34) (.const (.int .i64 (0))) 3, none⟩] := rfl
noncomputable def R5_12 : Array Oper := ((((((((bodyOf Tryz.f5).kid 1).kid 1).kid 1).kid 1).kid 0).kid 1).kid 0).opsOf
theorem v5_12 : R5_12.toList.map sop = [⟨some 36, .buildSlice 22 1 #[(0, (.const (.int .i64 (1))))], none⟩, ⟨some 3, .assign (.tmp 36), none⟩] := rfl
noncomputable def R5_13 : Array Oper := (((((((bodyOf Tryz.f5).kid 1).kid 1).kid 1).kid 1).kid 1).kid 0).opsOf
theorem v5_13 : R5_13.toList.map sop = [⟨some 37, .move (.tmp 3), none⟩, ⟨some 2, .assign (.tmp 37), none⟩] := rfl
theorem body5 : Tryz.f5.body = some (.seq (.region 0 R5_0 false) (.seq (.region 1 R5_1 false) (.seq (.region 2 R5_2 false) (.seq (.seq (.region 3 R5_3 false) (.block 0 (.loop L5_0))) (.seq (.seq (.region 11 R5_11 false) (.cond (.tmp 35) (.region 12 R5_12 false) .skip)) (.seq (.region 13 R5_13 false) .ret)))))) := rfl
theorem nt5 : Tryz.f5.ntmps = 38 := rfl
theorem fn5 : Tryz.env.ft.get none 5 = some Tryz.f5 := rfl
theorem sm5 : Tryz.env.sum 5 = none := rfl
theorem fk5 : Tryz.env.fork 5 = false := rfl
theorem res5 : Tryz.f5.results.toList = [.tmp 2] := rfl
noncomputable def R6_0 : Array Oper := ((bodyOf Tryz.f6).kid 0).opsOf
theorem v6_0 : R6_0.toList.map sop = [⟨some 2, .alloc 30, none⟩] := rfl
noncomputable def R6_1 : Array Oper := (((bodyOf Tryz.f6).kid 1).kid 0).opsOf
theorem v6_1 : R6_1.toList.map sop = [⟨some 8, .build 27 #[(0, (.const (.string (ByteArray.mk #[112]))))], none⟩, ⟨some 9, .build 30 #[(0, (.tmp 8))], none⟩, ⟨some 3, .alloc 30, none⟩, ⟨none, .store 30 (.tmp 3) (.tmp 9), none⟩] := rfl
noncomputable def R6_2 : Array Oper := (((((bodyOf Tryz.f6).kid 1).kid 1).kid 0).kid 0).opsOf
theorem v6_2 : R6_2.toList.map sop = [⟨some 10, .move (.tmp 0), none⟩, ⟨some 11, .call ⟨.builtin .len, #[(.tmp 10)], #[22]⟩, none⟩, ⟨some 12, .move (.const (.int .i64 (0))), none⟩] := rfl
noncomputable def R6_3 : Array Oper := ((((((((bodyOf Tryz.f6).kid 1).kid 1).kid 0).kid 1).kid 0).kid 0).kid 0).opsOf
theorem v6_3 : R6_3.toList.map sop = [⟨some 13, .binOp .lss 3 (.tmp 12) (.tmp 11) 3, none⟩] := rfl
noncomputable def R6_4 : Array Oper := ((((((((((((bodyOf Tryz.f6).kid 1).kid 1).kid 0).kid 1).kid 0).kid 0).kid 1).kid 1).kid 0).kid 0).kid 0).opsOf
theorem v6_4 : R6_4.toList.map sop = [⟨some 14, .move (.tmp 12), none⟩, ⟨some 15, .indexAddr 22 (.tmp 10) (.tmp 12), none⟩, ⟨some 16, .load 3 (.tmp 15), none⟩, ⟨some 4, .alloc 3, none⟩, ⟨some 5, .alloc 3, none⟩, ⟨none, .store 3 (.tmp 4) (.tmp 14), none⟩, ⟨none, .store 3 (.tmp 5) (.tmp 16), none⟩] := rfl
noncomputable def R6_5 : Array Oper := (((((((((((((bodyOf Tryz.f6).kid 1).kid 1).kid 0).kid 1).kid 0).kid 0).kid 1).kid 1).kid 0).kid 0).kid 1).kid 0).opsOf
theorem v6_5 : R6_5.toList.map sop = [⟨some 17, .load 3 (.tmp 5), none⟩, ⟨some 18, .move (.const (.int .i64 (0))), none⟩] := rfl
noncomputable def R6_6 : Array Oper := ((((((((((((((((bodyOf Tryz.f6).kid 1).kid 1).kid 0).kid 1).kid 0).kid 0).kid 1).kid 1).kid 0).kid 0).kid 1).kid 1).kid 0).kid 0).kid 0).opsOf
theorem v6_6 : R6_6.toList.map sop = [⟨some 19, .binOp .lss 3 (.tmp 18) (.tmp 17) 3, none⟩] := rfl
noncomputable def R6_7 : Array Oper := ((((((((((((((((((((bodyOf Tryz.f6).kid 1).kid 1).kid 0).kid 1).kid 0).kid 0).kid 1).kid 1).kid 0).kid 0).kid 1).kid 1).kid 0).kid 0).kid 1).kid 1).kid 0).kid 0).kid 0).opsOf
theorem v6_7 : R6_7.toList.map sop = [⟨some 20, .move (.tmp 18), none⟩, ⟨some 6, .assign (.tmp 20), none⟩] := rfl
noncomputable def R6_8 : Array Oper := (((((((((((((((((((((bodyOf Tryz.f6).kid 1).kid 1).kid 0).kid 1).kid 0).kid 0).kid 1).kid 1).kid 0).kid 0).kid 1).kid 1).kid 0).kid 0).kid 1).kid 1).kid 0).kid 0).kid 1).kid 0).opsOf
theorem v6_8 : R6_8.toList.map sop = [⟨some 21, .makeFunc (.func 15) #[] #[(.tmp 4), (.tmp 5)], none⟩, ⟨some 7, .assign (.tmp 21), none⟩] := rfl
noncomputable def R6_9 : Array Oper := (((((((((((((((((((((bodyOf Tryz.f6).kid 1).kid 1).kid 0).kid 1).kid 0).kid 0).kid 1).kid 1).kid 0).kid 0).kid 1).kid 1).kid 0).kid 0).kid 1).kid 1).kid 0).kid 0).kid 1).kid 1).opsOf
theorem v6_9 : R6_9.toList.map sop = [⟨some 22, .fieldAddr 30 (.tmp 3) 1, none⟩, ⟨some 23, .load 28 (.tmp 22), none⟩, ⟨some 24, .move (.tmp 7), none⟩, ⟨some 25, .move (.tmp 6), none⟩, ⟨some 26, .call ⟨.value (.tmp 24), #[(.tmp 25)], #[3]⟩, none⟩, ⟨some 27, .move (.tmp 7), none⟩, ⟨some 28, .move (.tmp 6), none⟩, ⟨some 29, .binOp .add 3 (.tmp 28) (.const (.int .i64 (1))) 3, none⟩, ⟨some 30, .call ⟨.value (.tmp 27), #[(.tmp 29)], #[3]⟩, none⟩, ⟨some 31, .buildSlice 25 2 #[(0, (.tmp 26)), (1, (.tmp 30))], none⟩, ⟨some 32, .build 27 #[(0, (.const (.string (ByteArray.mk #[101])))), (1, (.tmp 31))], none⟩, ⟨some 33, .build 55 #[(0, (.const (.int .i64 (1)))), (1, (.tmp 32))], none⟩, ⟨some 34, .buildSlice 28 1 #[(0, (.tmp 33))], none⟩, ⟨some 35, .call ⟨.builtin .append, #[(.tmp 23), (.tmp 34)], #[28, 28]⟩, none⟩, ⟨some 36, .fieldAddr 30 (.tmp 3) 1, none⟩, ⟨none, .store 28 (.tmp 36) (.tmp 35), none⟩] := rfl
theorem w6_9 : (trs R6_9.toList 0 (.full 0 8)).map top = [⟨0, ⟨some 22, .fieldAddr 30 (.tmp 3) 1, none⟩, 0⟩, ⟨1, ⟨some 23, .load 28 (.tmp 22), none⟩, 1⟩, ⟨2, ⟨some 24, .move (.tmp 7), none⟩, 0⟩, ⟨3, ⟨some 25, .move (.tmp 6), none⟩, 0⟩, ⟨4, ⟨some 26, .call ⟨.value (.tmp 24), #[(.tmp 25)], #[3]⟩, none⟩, 12⟩, ⟨5, ⟨some 27, .move (.tmp 7), none⟩, 0⟩, ⟨6, ⟨some 28, .move (.tmp 6), none⟩, 0⟩, ⟨7, ⟨some 29, .binOp .add 3 (.tmp 28) (.const (.int .i64 (1))) 3, none⟩, 64⟩, ⟨8, ⟨some 30, .call ⟨.value (.tmp 27), #[(.tmp 29)], #[3]⟩, none⟩, 252⟩, ⟨9, ⟨some 31, .buildSlice 25 2 #[(0, (.tmp 26)), (1, (.tmp 30))], none⟩, 508⟩, ⟨10, ⟨some 32, .build 27 #[(0, (.const (.string (ByteArray.mk #[101])))), (1, (.tmp 31))], none⟩, 1020⟩, ⟨11, ⟨some 33, .build 55 #[(0, (.const (.int .i64 (1)))), (1, (.tmp 32))], none⟩, 2044⟩, ⟨12, ⟨some 34, .buildSlice 28 1 #[(0, (.tmp 33))], none⟩, 4092⟩, ⟨13, ⟨some 35, .call ⟨.builtin .append, #[(.tmp 23), (.tmp 34)], #[28, 28]⟩, none⟩, 8191⟩, ⟨14, ⟨some 36, .fieldAddr 30 (.tmp 3) 1, none⟩, 16383⟩, ⟨15, ⟨none, .store 28 (.tmp 36) (.tmp 35), none⟩, 32767⟩] := rfl
noncomputable def R6_10 : Array Oper := ((((((((((((((((((bodyOf Tryz.f6).kid 1).kid 1).kid 0).kid 1).kid 0).kid 0).kid 1).kid 1).kid 0).kid 0).kid 1).kid 1).kid 0).kid 0).kid 1).kid 1).kid 1).opsOf
theorem v6_10 : R6_10.toList.map sop = [⟨some 37, .binOp .add 3 (.tmp 18) (.const (.int .i64 (1))) 3, none⟩, ⟨some 18, .move (.tmp 37), none⟩] := rfl
noncomputable abbrev L6_0 : Code := (.seq (.region 6 R6_6 false) (.seq (.cond (.tmp 19) .skip (.exit 2)) (.seq (.block 3 (.seq (.region 7 R6_7 false) (.seq (.region 8 R6_8 false) (.region 9 R6_9 true)))) (.region 10 R6_10 false))))
noncomputable def R6_11 : Array Oper := ((((((((((bodyOf Tryz.f6).kid 1).kid 1).kid 0).kid 1).kid 0).kid 0).kid 1).kid 1).kid 1).opsOf
theorem v6_11 : R6_11.toList.map sop = [⟨some 38, .binOp .add 3 (.tmp 12) (.const (.int .i64 (1))) 3, none⟩, ⟨some 12, .move (.tmp 38), none⟩] := rfl
noncomputable abbrev L6_1 : Code := (.seq (.region 3 R6_3 false) (.seq (.cond (.tmp 13) .skip (.exit 0)) (.seq (.block 1 (.seq (.region 4 R6_4 false) (.seq (.region 5 R6_5 false) (.block 2 (.loop L6_0))))) (.region 11 R6_11 false))))
noncomputable def R6_12 : Array Oper := (((((bodyOf Tryz.f6).kid 1).kid 1).kid 1).kid 0).opsOf
theorem v6_12 : R6_12.toList.map sop = [⟨some 39, .load 30 (.tmp 3), none⟩, ⟨none, .store 30 (.tmp 2) (.tmp 39), none⟩] := rfl
theorem body6 : Tryz.f6.body = some (.seq (.region 0 R6_0 false) (.seq (.region 1 R6_1 false) (.seq (.seq (.region 2 R6_2 false) (.block 0 (.loop L6_1))) (.seq (.region 12 R6_12 false) .ret)))) := rfl
theorem nt6 : Tryz.f6.ntmps = 40 := rfl
theorem fn6 : Tryz.env.ft.get none 6 = some Tryz.f6 := rfl
theorem sm6 : Tryz.env.sum 6 = none := rfl
theorem fk6 : Tryz.env.fork 6 = false := rfl
theorem res6 : Tryz.f6.results.toList = [.cell 2 30] := rfl
noncomputable def R7_0 : Array Oper := ((bodyOf Tryz.f7).kid 0).opsOf
theorem v7_0 : R7_0.toList.map sop = [⟨some 2, .box 30 (.tmp 0), none⟩, ⟨some 3, .box 30 (.tmp 1), none⟩, ⟨some 4, .assign (.const (.bool false)), none⟩, ⟨some 5, .assign (.const (.int .i64 (0))), none⟩] := rfl
noncomputable def R7_1 : Array Oper := (((bodyOf Tryz.f7).kid 1).kid 0).opsOf
theorem v7_1 : R7_1.toList.map sop = [⟨some 10, .load 30 (.tmp 2), none⟩, ⟨some 11, .load 30 (.tmp 3), none⟩, ⟨some 12, .call ⟨.value (.func 17), #[(.tmp 10), (.tmp 11)], #[30, 30]⟩, none⟩, ⟨some 9, .move (.tmp 12), none⟩, ⟨some 13, .extract (.tmp 9) 0, none⟩, ⟨some 14, .extract (.tmp 9) 1, none⟩, ⟨some 15, .extract (.tmp 9) 2, none⟩, ⟨some 6, .assign (.tmp 13), none⟩, ⟨some 7, .assign (.tmp 14), none⟩, ⟨some 8, .assign (.tmp 15), none⟩] := rfl
noncomputable def R7_2 : Array Oper := ((((bodyOf Tryz.f7).kid 1).kid 1).kid 0).opsOf
theorem v7_2 : R7_2.toList.map sop = [⟨some 16, .move (.tmp 7), none⟩, ⟨some 17, .move (.tmp 8), none⟩, ⟨some 4, .assign (.tmp 16), none⟩, ⟨some 5, .assign (.tmp 17), none⟩] := rfl
theorem body7 : Tryz.f7.body = some (.seq (.region 0 R7_0 false) (.seq (.region 1 R7_1 false) (.seq (.region 2 R7_2 false) .ret))) := rfl
theorem nt7 : Tryz.f7.ntmps = 18 := rfl
theorem fn7 : Tryz.env.ft.get none 7 = some Tryz.f7 := rfl
theorem sm7 : Tryz.env.sum 7 = none := rfl
theorem fk7 : Tryz.env.fork 7 = false := rfl
theorem res7 : Tryz.f7.results.toList = [.tmp 4, .tmp 5] := rfl
noncomputable def R8_0 : Array Oper := ((bodyOf Tryz.f8).kid 0).opsOf
theorem v8_0 : R8_0.toList.map sop = [⟨some 2, .box 30 (.tmp 0), none⟩, ⟨some 3, .box 30 (.tmp 1), none⟩, ⟨some 4, .assign (.const (.bool false)), none⟩, ⟨some 5, .assign (.const (.int .i64 (0))), none⟩] := rfl
noncomputable def R8_1 : Array Oper := ((((bodyOf Tryz.f8).kid 1).kid 0).kid 0).opsOf
theorem v8_1 : R8_1.toList.map sop = [⟨some 9, .load 30 (.tmp 2), none⟩, ⟨some 10, .load 30 (.tmp 3), none⟩, ⟨some 11, .call ⟨.value (.func 7), #[(.tmp 9), (.tmp 10)], #[30, 30]⟩, none⟩, ⟨some 8, .move (.tmp 11), none⟩, ⟨some 12, .extract (.tmp 8) 0, none⟩, ⟨some 13, .extract (.tmp 8) 1, none⟩, ⟨some 6, .assign (.tmp 12), none⟩, ⟨some 7, .assign (.tmp 13), none⟩] := rfl
noncomputable def R8_2 : Array Oper := (((((bodyOf Tryz.f8).kid 1).kid 0).kid 1).kid 0).opsOf
theorem v8_2 : R8_2.toList.map sop = [⟨some 14, .move (.tmp 6), none⟩, ⟨some 15, .unOp .not 4 (.tmp 14), none⟩] := rfl
noncomputable def R8_3 : Array Oper := (((((((bodyOf Tryz.f8).kid 1).kid 0).kid 1).kid 1).kid 0).kid 0).opsOf
theorem v8_3 : R8_3.toList.map sop = [⟨some 16, .move (.tmp 7), none⟩, ⟨some 4, .assign (.const (.bool false)), none⟩, ⟨some 5, .assign (.tmp 16), none⟩] := rfl
noncomputable def R8_4 : Array Oper := ((((bodyOf Tryz.f8).kid 1).kid 1).kid 0).opsOf
theorem v8_4 : R8_4.toList.map sop = [⟨some 17, .load 30 (.tmp 3), none⟩, ⟨some 18, .load 30 (.tmp 2), none⟩, ⟨some 19, .call ⟨.value (.func 7), #[(.tmp 17), (.tmp 18)], #[30, 30]⟩, none⟩, ⟨some 20, .extract (.tmp 19) 0, none⟩, ⟨some 21, .extract (.tmp 19) 1, none⟩, ⟨some 4, .assign (.tmp 20), none⟩, ⟨some 5, .assign (.tmp 21), none⟩] := rfl
theorem body8 : Tryz.f8.body = some (.seq (.region 0 R8_0 false) (.seq (.seq (.region 1 R8_1 false) (.seq (.region 2 R8_2 false) (.cond (.tmp 15) (.seq (.region 3 R8_3 false) .ret) .skip))) (.seq (.region 4 R8_4 false) .ret))) := rfl
theorem nt8 : Tryz.f8.ntmps = 22 := rfl
theorem fn8 : Tryz.env.ft.get none 8 = some Tryz.f8 := rfl
theorem sm8 : Tryz.env.sum 8 = none := rfl
theorem fk8 : Tryz.env.fork 8 = false := rfl
theorem res8 : Tryz.f8.results.toList = [.tmp 4, .tmp 5] := rfl
noncomputable def R9_0 : Array Oper := ((bodyOf Tryz.f9).kid 0).opsOf
theorem v9_0 : R9_0.toList.map sop = [⟨some 4, .assign (.const (.bool false)), none⟩] := rfl
noncomputable def R9_1 : Array Oper := ((((bodyOf Tryz.f9).kid 1).kid 0).kid 0).opsOf
theorem v9_1 : R9_1.toList.map sop = [⟨some 10, .move (.tmp 0), none⟩, ⟨some 11, .call ⟨.builtin .len, #[(.tmp 10)], #[22]⟩, none⟩, ⟨some 12, .move (.const (.int .i64 (0))), none⟩] := rfl
noncomputable def R9_2 : Array Oper := (((((((bodyOf Tryz.f9).kid 1).kid 0).kid 1).kid 0).kid 0).kid 0).opsOf
theorem v9_2 : R9_2.toList.map sop = [⟨some 13, .binOp .lss 3 (.tmp 12) (.tmp 11) 3, none⟩] := rfl
noncomputable def R9_3 : Array Oper := (((((((((((bodyOf Tryz.f9).kid 1).kid 0).kid 1).kid 0).kid 0).kid 1).kid 1).kid 0).kid 0).kid 0).opsOf
theorem v9_3 : R9_3.toList.map sop = [⟨some 14, .indexAddr 22 (.tmp 10) (.tmp 12), none⟩, ⟨some 15, .load 3 (.tmp 14), none⟩, ⟨some 6, .assign (.tmp 15), none⟩] := rfl
noncomputable def R9_4 : Array Oper := ((((((((((((bodyOf Tryz.f9).kid 1).kid 0).kid 1).kid 0).kid 0).kid 1).kid 1).kid 0).kid 0).kid 1).kid 0).opsOf
theorem v9_4 : R9_4.toList.map sop = [⟨some 7, .assign (.const (.bool false)), none⟩] := rfl
noncomputable def R9_5 : Array Oper := ((((((((((((((bodyOf Tryz.f9).kid 1).kid 0).kid 1).kid 0).kid 0).kid 1).kid 1).kid 0).kid 0).kid 1).kid 1).kid 0).kid 0).opsOf
theorem v9_5 : R9_5.toList.map sop = [⟨some 16, .move (.tmp 1), none⟩, ⟨some 17, .call ⟨.builtin .len, #[(.tmp 16)], #[22]⟩, none⟩, ⟨some 18, .move (.const (.int .i64 (0))), none⟩] := rfl
noncomputable def R9_6 : Array Oper := (((((((((((((((((bodyOf Tryz.f9).kid 1).kid 0).kid 1).kid 0).kid 0).kid 1).kid 1).kid 0).kid 0).kid 1).kid 1).kid 0).kid 1).kid 0).kid 0).kid 0).opsOf
theorem v9_6 : R9_6.toList.map sop = [⟨some 19, .binOp .lss 3 (.tmp 18) (.tmp 17) 3, none⟩] := rfl
noncomputable def R9_7 : Array Oper := (((((((((((((((((((((bodyOf Tryz.f9).kid 1).kid 0).kid 1).kid 0).kid 0).kid 1).kid 1).kid 0).kid 0).kid 1).kid 1).kid 0).kid 1).kid 0).kid 0).kid 1).kid 1).kid 0).kid 0).kid 0).opsOf
theorem v9_7 : R9_7.toList.map sop = [⟨some 20, .indexAddr 22 (.tmp 16) (.tmp 18), none⟩, ⟨some 21, .load 3 (.tmp 20), none⟩, ⟨some 9, .assign (.tmp 21), none⟩] := rfl
noncomputable def R9_8 : Array Oper := (((((((((((((((((((((bodyOf Tryz.f9).kid 1).kid 0).kid 1).kid 0).kid 0).kid 1).kid 1).kid 0).kid 0).kid 1).kid 1).kid 0).kid 1).kid 0).kid 0).kid 1).kid 1).kid 0).kid 0).kid 1).opsOf
theorem v9_8 : R9_8.toList.map sop = [⟨some 22, .move (.tmp 7), none⟩, ⟨some 23, .move (.tmp 22), none⟩, ⟨some 24, .move (.tmp 6), some (1, false)⟩, ⟨some 25, .move (.tmp 9), some (1, false)⟩, ⟨some 26, .binOp .rem 3 (.tmp 24) (.tmp 25) 3, some (1, false)⟩, ⟨some 27, .binOp .eql 3 (.tmp 26) (.const (.int .i64 (0))) 3, some (1, false)⟩, ⟨some 28, .pick (.tmp 23) (.const (.bool true)) (.tmp 27), none⟩, ⟨some 7, .assign (.tmp 28), none⟩] := rfl
noncomputable def R9_9 : Array Oper := (((((((((((((((((((bodyOf Tryz.f9).kid 1).kid 0).kid 1).kid 0).kid 0).kid 1).kid 1).kid 0).kid 0).kid 1).kid 1).kid 0).kid 1).kid 0).kid 0).kid 1).kid 1).kid 1).opsOf
theorem v9_9 : R9_9.toList.map sop = [⟨some 29, .binOp .add 3 (.tmp 18) (.const (.int .i64 (1))) 3, none⟩, ⟨some 18, .move (.tmp 29), none⟩] := rfl
noncomputable abbrev L9_0 : Code := (.seq (.region 6 R9_6 false) (.seq (.cond (.tmp 19) .skip (.exit 2)) (.seq (.block 3 (.seq (.region 7 R9_7 false) (.region 8 R9_8 false))) (.region 9 R9_9 false))))
noncomputable def R9_10 : Array Oper := ((((((((((((((bodyOf Tryz.f9).kid 1).kid 0).kid 1).kid 0).kid 0).kid 1).kid 1).kid 0).kid 0).kid 1).kid 1).kid 1).kid 0).opsOf
theorem v9_10 : R9_10.toList.map sop = [⟨some 30, .move (.tmp 7), none⟩, ⟨some 31, .unOp .not 4 (.tmp 30), none⟩] := rfl
noncomputable def R9_11 : Array Oper := ((((((((((((((((bodyOf Tryz.f9).kid 1).kid 0).kid 1).kid 0).kid 0).kid 1).kid 1).kid 0).kid 0).kid 1).kid 1).kid 1).kid 1).kid 0).kid 0).opsOf
theorem v9_11 : R9_11.toList.map sop = [⟨some 4, .assign (.const (.bool false)), none⟩] := rfl
noncomputable def R9_12 : Array Oper := (((((((((bodyOf Tryz.f9).kid 1).kid 0).kid 1).kid 0).kid 0).kid 1).kid 1).kid 1).opsOf
theorem v9_12 : R9_12.toList.map sop = [⟨some 32, .binOp .add 3 (.tmp 12) (.const (.int .i64 (1))) 3, none⟩, ⟨some 12, .move (.tmp 32), none⟩] := rfl
noncomputable abbrev L9_1 : Code := (.seq (.region 2 R9_2 false) (.seq (.cond (.tmp 13) .skip (.exit 0)) (.seq (.block 1 (.seq (.region 3 R9_3 false) (.seq (.region 4 R9_4 false) (.seq (.seq (.region 5 R9_5 false) (.block 2 (.loop L9_0))) (.seq (.region 10 R9_10 false) (.cond (.tmp 31) (.seq (.region 11 R9_11 false) .ret) .skip)))))) (.region 12 R9_12 false))))
noncomputable def R9_13 : Array Oper := ((((bodyOf Tryz.f9).kid 1).kid 1).kid 0).opsOf
theorem v9_13 : R9_13.toList.map sop = [⟨some 4, .assign (.const (.bool true)), none⟩] := rfl
theorem body9 : Tryz.f9.body = some (.seq (.region 0 R9_0 false) (.seq (.seq (.region 1 R9_1 false) (.block 0 (.loop L9_1))) (.seq (.region 13 R9_13 false) .ret))) := rfl
theorem nt9 : Tryz.f9.ntmps = 33 := rfl
theorem fn9 : Tryz.env.ft.get none 9 = some Tryz.f9 := rfl
theorem sm9 : Tryz.env.sum 9 = none := rfl
theorem fk9 : Tryz.env.fork 9 = false := rfl
theorem res9 : Tryz.f9.results.toList = [.tmp 4] := rfl
noncomputable def R10_0 : Array Oper := ((bodyOf Tryz.f10).kid 0).opsOf
theorem v10_0 : R10_0.toList.map sop = [⟨some 1, .box 30 (.tmp 0), none⟩, ⟨some 2, .alloc 30, none⟩, ⟨some 3, .assign (.const (.int .i64 (0))), none⟩] := rfl
noncomputable def R10_1 : Array Oper := ((((bodyOf Tryz.f10).kid 1).kid 0).kid 0).opsOf
theorem v10_1 : R10_1.toList.map sop = [⟨some 10, .load 30 (.tmp 1), none⟩, ⟨some 11, .call ⟨.value (.func 18), #[(.tmp 10)], #[30]⟩, none⟩, ⟨some 4, .assign (.tmp 11), none⟩] := rfl
noncomputable def R10_2 : Array Oper := (((((bodyOf Tryz.f10).kid 1).kid 0).kid 1).kid 0).opsOf
theorem v10_2 : R10_2.toList.map sop = [⟨some 12, .move (.tmp 4), none⟩, ⟨some 13, .binOp .neq 32 (.tmp 12) (.const (.int .i64 (0))) 32, none⟩] := rfl
noncomputable def R10_3 : Array Oper := (((((((bodyOf Tryz.f10).kid 1).kid 0).kid 1).kid 1).kid 0).kid 0).opsOf
theorem v10_3 : R10_3.toList.map sop = [⟨some 14, .build 30 #[], none⟩, ⟨some 15, .move (.tmp 4), none⟩, ⟨none, .store 30 (.tmp 2) (.tmp 14), none⟩, ⟨some 3, .assign (.tmp 15), none⟩] := rfl
noncomputable def R10_4 : Array Oper := (((((bodyOf Tryz.f10).kid 1).kid 1).kid 0).kid 0).opsOf
theorem v10_4 : R10_4.toList.map sop = [⟨some 16, .load 30 (.tmp 1), none⟩, ⟨some 17, .call ⟨.value (.func 19), #[(.tmp 16)], #[30]⟩, none⟩, ⟨some 18, .unOp .not 4 (.tmp 17), none⟩] := rfl
noncomputable def R10_5 : Array Oper := (((((((bodyOf Tryz.f10).kid 1).kid 1).kid 0).kid 1).kid 0).kid 0).opsOf
theorem v10_5 : R10_5.toList.map sop = [⟨some 19, .build 30 #[], none⟩, ⟨none, .store 30 (.tmp 2) (.tmp 19), none⟩, ⟨some 3, .assign (.const (.int .i64 (240))), none⟩] := rfl
noncomputable def R10_6 : Array Oper := (((((bodyOf Tryz.f10).kid 1).kid 1).kid 1).kid 0).opsOf
theorem v10_6 : R10_6.toList.map sop = [⟨some 20, .load 30 (.tmp 1), none⟩, ⟨some 21, .call ⟨.value (.func 20), #[(.tmp 20)], #[30]⟩, none⟩, ⟨some 5, .alloc 30, none⟩, ⟨none, .store 30 (.tmp 5) (.tmp 21), none⟩] := rfl
noncomputable def R10_7 : Array Oper := (((((((bodyOf Tryz.f10).kid 1).kid 1).kid 1).kid 1).kid 0).kid 0).opsOf
theorem v10_7 : R10_7.toList.map sop = [⟨some 6, .assign (.const (.int .i64 (0))), none⟩] := rfl
noncomputable def R10_8 : Array Oper := (((((((((((bodyOf Tryz.f10).kid 1).kid 1).kid 1).kid 1).kid 0).kid 1).kid 0).kid 0).kid 0).kid 0).opsOf
theorem v10_8 : R10_8.toList.map sop = [⟨some 22, .move (.tmp 6), none⟩, ⟨some 23, .fieldAddr 30 (.tmp 5) 1, none⟩, ⟨some 24, .load 28 (.tmp 23), none⟩, ⟨some 25, .call ⟨.builtin .len, #[(.tmp 24)], #[28]⟩, none⟩, ⟨some 26, .binOp .lss 3 (.tmp 22) (.tmp 25) 3, none⟩] := rfl
noncomputable def R10_9 : Array Oper := ((((((((((((bodyOf Tryz.f10).kid 1).kid 1).kid 1).kid 1).kid 0).kid 1).kid 0).kid 0).kid 1).kid 0).kid 0).opsOf
theorem v10_9 : R10_9.toList.map sop = [⟨some 27, .fieldAddr 30 (.tmp 5) 0, none⟩, ⟨some 28, .load 27 (.tmp 27), none⟩, ⟨some 29, .fieldAddr 30 (.tmp 5) 1, none⟩, ⟨some 30, .load 28 (.tmp 29), none⟩, ⟨some 31, .move (.tmp 6), none⟩, ⟨some 32, .slice 28 (.tmp 30) none (some (.tmp 31)) none, none⟩, ⟨some 33, .fieldAddr 30 (.tmp 5) 1, none⟩, ⟨some 34, .load 28 (.tmp 33), none⟩, ⟨some 35, .move (.tmp 6), none⟩, ⟨some 36, .binOp .add 3 (.tmp 35) (.const (.int .i64 (1))) 3, none⟩, ⟨some 37, .slice 28 (.tmp 34) (some (.tmp 36)) none none, none⟩, ⟨some 38, .buildSlice 83 2 #[(0, (.tmp 32)), (1, (.tmp 37))], none⟩, ⟨some 39, .call ⟨.value (.func 21), #[(.tmp 38)], #[83]⟩, none⟩, ⟨some 40, .build 30 #[(0, (.tmp 28)), (1, (.tmp 39))], none⟩, ⟨some 7, .alloc 30, none⟩, ⟨none, .store 30 (.tmp 7) (.tmp 40), none⟩] := rfl
theorem w10_9 : (trs R10_9.toList 0 (.full 0 8)).map top = [⟨0, ⟨some 27, .fieldAddr 30 (.tmp 5) 0, none⟩, 0⟩, ⟨1, ⟨some 28, .load 27 (.tmp 27), none⟩, 1⟩, ⟨2, ⟨some 29, .fieldAddr 30 (.tmp 5) 1, none⟩, 0⟩, ⟨3, ⟨some 30, .load 28 (.tmp 29), none⟩, 4⟩, ⟨4, ⟨some 31, .move (.tmp 6), none⟩, 0⟩, ⟨5, ⟨some 32, .slice 28 (.tmp 30) none (some (.tmp 31)) none, none⟩, 28⟩, ⟨6, ⟨some 33, .fieldAddr 30 (.tmp 5) 1, none⟩, 0⟩, ⟨7, ⟨some 34, .load 28 (.tmp 33), none⟩, 64⟩, ⟨8, ⟨some 35, .move (.tmp 6), none⟩, 0⟩, ⟨9, ⟨some 36, .binOp .add 3 (.tmp 35) (.const (.int .i64 (1))) 3, none⟩, 256⟩, ⟨10, ⟨some 37, .slice 28 (.tmp 34) (some (.tmp 36)) none none, none⟩, 960⟩, ⟨11, ⟨some 38, .buildSlice 83 2 #[(0, (.tmp 32)), (1, (.tmp 37))], none⟩, 2044⟩, ⟨12, ⟨some 39, .call ⟨.value (.func 21), #[(.tmp 38)], #[83]⟩, none⟩, 4092⟩, ⟨13, ⟨some 40, .build 30 #[(0, (.tmp 28)), (1, (.tmp 39))], none⟩, 8191⟩, ⟨14, ⟨some 7, .alloc 30, none⟩, 0⟩, ⟨15, ⟨none, .store 30 (.tmp 7) (.tmp 40), none⟩, 32767⟩] := rfl
noncomputable def R10_10 : Array Oper := ((((((((((((((bodyOf Tryz.f10).kid 1).kid 1).kid 1).kid 1).kid 0).kid 1).kid 0).kid 0).kid 1).kid 0).kid 1).kid 0).kid 0).opsOf
theorem v10_10 : R10_10.toList.map sop = [⟨some 41, .load 30 (.tmp 7), none⟩, ⟨some 42, .call ⟨.value (.func 19), #[(.tmp 41)], #[30]⟩, none⟩, ⟨some 43, .unOp .not 4 (.tmp 42), none⟩] := rfl
noncomputable def R10_11 : Array Oper := ((((((((((((((((bodyOf Tryz.f10).kid 1).kid 1).kid 1).kid 1).kid 0).kid 1).kid 0).kid 0).kid 1).kid 0).kid 1).kid 0).kid 1).kid 0).kid 0).opsOf
theorem v10_11 : R10_11.toList.map sop = [⟨some 44, .move (.tmp 6), none⟩, ⟨some 45, .binOp .add 3 (.tmp 44) (.const (.int .i64 (1))) 3, none⟩, ⟨some 6, .assign (.tmp 45), none⟩] := rfl
noncomputable def R10_12 : Array Oper := ((((((((((((((bodyOf Tryz.f10).kid 1).kid 1).kid 1).kid 1).kid 0).kid 1).kid 0).kid 0).kid 1).kid 0).kid 1).kid 1).kid 0).opsOf
theorem v10_12 : R10_12.toList.map sop = [⟨some 47, .load 30 (.tmp 7), none⟩, ⟨some 48, .load 30 (.tmp 5), none⟩, ⟨some 49, .call ⟨.value (.func 7), #[(.tmp 47), (.tmp 48)], #[30, 30]⟩, none⟩, ⟨some 46, .move (.tmp 49), none⟩, ⟨some 50, .extract (.tmp 46) 0, none⟩, ⟨some 51, .extract (.tmp 46) 1, none⟩, ⟨some 8, .assign (.tmp 50), none⟩, ⟨some 9, .assign (.tmp 51), none⟩] := rfl
noncomputable def R10_14 : Array Oper := ((((((((((((((((bodyOf Tryz.f10).kid 1).kid 1).kid 1).kid 1).kid 0).kid 1).kid 0).kid 0).kid 1).kid 0).kid 1).kid 1).kid 1).kid 0).kid 0).opsOf
theorem v10_14 : R10_14.toList.map sop = [⟨some 55, .move (.tmp 9), none⟩, ⟨some 56, .binOp .neq 32 (.tmp 55) (.const (.int .i64 (0))) 32, none⟩, ⟨some 54, .assign (.tmp 56), none⟩] := rfl
noncomputable def R10_15 : Array Oper := ((((((((((((((((((bodyOf Tryz.f10).kid 1).kid 1).kid 1).kid 1).kid 0).kid 1).kid 0).kid 0).kid 1).kid 0).kid 1).kid 1).kid 1).kid 0).kid 1).kid 0).kid 0).opsOf
theorem v10_15 : R10_15.toList.map sop = [⟨some 57, .build 30 #[], none⟩, ⟨some 58, .move (.tmp 9), none⟩, ⟨none, .store 30 (.tmp 2) (.tmp 57), none⟩, ⟨some 3, .assign (.tmp 58), none⟩] := rfl
noncomputable def R10_16 : Array Oper := ((((((((((((((((((bodyOf Tryz.f10).kid 1).kid 1).kid 1).kid 1).kid 0).kid 1).kid 0).kid 0).kid 1).kid 0).kid 1).kid 1).kid 1).kid 0).kid 1).kid 1).kid 0).opsOf
theorem v10_16 : R10_16.toList.map sop = [⟨some 60, .move (.tmp 8), none⟩, ⟨some 59, .assign (.tmp 60), none⟩] := rfl
noncomputable def R10_17 : Array Oper := (((((((((((((((((((bodyOf Tryz.f10).kid 1).kid 1).kid 1).kid 1).kid 0).kid 1).kid 0).kid 0).kid 1).kid 0).kid 1).kid 1).kid 1).kid 0).kid 1).kid 1).kid 1).kid 0).opsOf
theorem v10_17 : R10_17.toList.map sop = [⟨some 61, .load 30 (.tmp 7), none⟩, ⟨none, .store 30 (.tmp 5) (.tmp 61), none⟩] := rfl
noncomputable def R10_13 : Array Oper := (((((((((((((((((((bodyOf Tryz.f10).kid 1).kid 1).kid 1).kid 1).kid 0).kid 1).kid 0).kid 0).kid 1).kid 0).kid 1).kid 1).kid 1).kid 0).kid 1).kid 1).kid 1).kid 1).opsOf
theorem v10_13 : R10_13.toList.map sop = [⟨some 52, .move (.tmp 6), none⟩, ⟨some 53, .binOp .add 3 (.tmp 52) (.const (.int .i64 (1))) 3, none⟩, ⟨some 6, .assign (.tmp 53), none⟩] := rfl
noncomputable abbrev L10_0 : Code := (.seq (.seq (.region 8 R10_8 false) (.cond (.tmp 26) .skip (.exit 0))) (.block 1 (.seq (.region 9 R10_9 true) (.seq (.seq (.region 10 R10_10 false) (.cond (.tmp 43) (.seq (.region 11 R10_11 false) (.exit 1)) .skip)) (.seq (.region 12 R10_12 false) (.block 2 (.seq (.region 14 R10_14 false) (.cond (.tmp 54) (.seq (.region 15 R10_15 false) .ret) (.seq (.region 16 R10_16 false) (.cond (.tmp 59) (.region 17 R10_17 false) (.region 13 R10_13 false)))))))))))
noncomputable def R10_18 : Array Oper := (((((((bodyOf Tryz.f10).kid 1).kid 1).kid 1).kid 1).kid 1).kid 0).opsOf
theorem v10_18 : R10_18.toList.map sop = [⟨some 62, .load 30 (.tmp 5), none⟩, ⟨none, .store 30 (.tmp 2) (.tmp 62), none⟩, ⟨some 3, .assign (.const (.int .i64 (0))), none⟩] := rfl
theorem body10 : Tryz.f10.body = some (.seq (.region 0 R10_0 false) (.seq (.seq (.region 1 R10_1 false) (.seq (.region 2 R10_2 false) (.cond (.tmp 13) (.seq (.region 3 R10_3 false) .ret) .skip))) (.seq (.seq (.region 4 R10_4 false) (.cond (.tmp 18) (.seq (.region 5 R10_5 false) .ret) .skip)) (.seq (.region 6 R10_6 false) (.seq (.seq (.region 7 R10_7 false) (.block 0 (.loop L10_0))) (.seq (.region 18 R10_18 false) .ret)))))) := rfl
theorem nt10 : Tryz.f10.ntmps = 63 := rfl
theorem fn10 : Tryz.env.ft.get none 10 = some Tryz.f10 := rfl
theorem sm10 : Tryz.env.sum 10 = none := rfl
theorem fk10 : Tryz.env.fork 10 = false := rfl
theorem res10 : Tryz.f10.results.toList = [.cell 2 30, .tmp 3] := rfl
noncomputable def R14_0 : Array Oper := ((bodyOf Tryz.f14).kid 0).opsOf
theorem v14_0 : R14_0.toList.map sop = [⟨some 4, .assign (.const (.int .i64 (0))), none⟩] := rfl
noncomputable def R14_1 : Array Oper := ((((bodyOf Tryz.f14).kid 1).kid 0).kid 0).opsOf
theorem v14_1 : R14_1.toList.map sop = [⟨some 5, .move (.tmp 0), none⟩, ⟨some 6, .binOp .lss 3 (.tmp 5) (.const (.int .i64 (1))) 3, none⟩] := rfl
noncomputable def R14_2 : Array Oper := ((((((bodyOf Tryz.f14).kid 1).kid 0).kid 1).kid 0).kid 0).opsOf
theorem v14_2 : R14_2.toList.map sop = [⟨some 4, .assign (.const (.int .i64 (0))), none⟩] := rfl
noncomputable def R14_3 : Array Oper := ((((bodyOf Tryz.f14).kid 1).kid 1).kid 0).opsOf
theorem v14_3 : R14_3.toList.map sop = [⟨some 7, .move (.tmp 1), none⟩, ⟨some 8, .move (.tmp 0), none⟩, ⟨some 9, .binOp .rem 3 (.tmp 7) (.tmp 8) 3, none⟩, ⟨some 1, .assign (.tmp 9), none⟩] := rfl
noncomputable def R14_4 : Array Oper := ((((((bodyOf Tryz.f14).kid 1).kid 1).kid 1).kid 0).kid 0).opsOf
theorem v14_4 : R14_4.toList.map sop = [⟨some 10, .move (.tmp 1), none⟩, ⟨some 11, .binOp .lss 3 (.tmp 10) (.const (.int .i64 (0))) 3, none⟩] := rfl
noncomputable def R14_5 : Array Oper := (((((((bodyOf Tryz.f14).kid 1).kid 1).kid 1).kid 0).kid 1).kid 0).opsOf
theorem v14_5 : R14_5.toList.map sop = [⟨some 12, .move (.tmp 1), none⟩, ⟨some 13, .move (.tmp 0), none⟩, ⟨some 14, .binOp .add 3 (.tmp 12) (.tmp 13) 3, none⟩, ⟨some 1, .assign (.tmp 14), none⟩] := rfl
noncomputable def R14_6 : Array Oper := ((((((bodyOf Tryz.f14).kid 1).kid 1).kid 1).kid 1).kid 0).opsOf
theorem v14_6 : R14_6.toList.map sop = [⟨some 15, .move (.tmp 1), none⟩, ⟨some 4, .assign (.tmp 15), none⟩] := rfl
theorem body14 : Tryz.f14.body = some (.seq (.region 0 R14_0 false) (.seq (.seq (.region 1 R14_1 false) (.cond (.tmp 6) (.seq (.region 2 R14_2 false) .ret) .skip)) (.seq (.region 3 R14_3 false) (.seq (.seq (.region 4 R14_4 false) (.cond (.tmp 11) (.region 5 R14_5 false) .skip)) (.seq (.region 6 R14_6 false) .ret))))) := rfl
theorem nt14 : Tryz.f14.ntmps = 16 := rfl
theorem fn14 : Tryz.env.ft.get none 14 = some Tryz.f14 := rfl
theorem sm14 : Tryz.env.sum 14 = none := rfl
theorem fk14 : Tryz.env.fork 14 = false := rfl
theorem res14 : Tryz.f14.results.toList = [.tmp 4] := rfl
noncomputable def R15_0 : Array Oper := ((bodyOf Tryz.f15).kid 0).opsOf
theorem v15_0 : R15_0.toList.map sop = [⟨some 4, .alloc 51, none⟩] := rfl
noncomputable def R15_1 : Array Oper := (((bodyOf Tryz.f15).kid 1).kid 0).opsOf
theorem v15_1 : R15_1.toList.map sop = [⟨some 5, .load 3 (.tmp 1), none⟩, ⟨some 6, .call ⟨.value (.func 16), #[(.tmp 5)], #[3]⟩, none⟩, ⟨some 7, .binOp .add 9 (.const (.string (ByteArray.mk #[86]))) (.tmp 6) 9, none⟩, ⟨some 8, .binOp .add 9 (.tmp 7) (.const (.string (ByteArray.mk #[95]))) 9, none⟩, ⟨some 9, .move (.tmp 0), none⟩, ⟨some 10, .load 3 (.tmp 2), none⟩, ⟨some 11, .binOp .rem 3 (.tmp 9) (.tmp 10) 3, none⟩, ⟨some 12, .call ⟨.value (.func 16), #[(.tmp 11)], #[3]⟩, none⟩, ⟨some 13, .binOp .add 9 (.tmp 8) (.tmp 12) 9, none⟩, ⟨some 14, .build 51 #[(0, (.const (.int .i64 (1)))), (1, (.tmp 13))], none⟩, ⟨none, .store 51 (.tmp 4) (.tmp 14), none⟩] := rfl
theorem w15_1 : (trs R15_1.toList 0 (.full 0 8)).map top = [⟨0, ⟨some 5, .load 3 (.tmp 1), none⟩, 0⟩, ⟨1, ⟨some 6, .call ⟨.value (.func 16), #[(.tmp 5)], #[3]⟩, none⟩, 1⟩, ⟨2, ⟨some 7, .binOp .add 9 (.const (.string (ByteArray.mk #[86]))) (.tmp 6) 9, none⟩, 3⟩, ⟨3, ⟨some 8, .binOp .add 9 (.tmp 7) (.const (.string (ByteArray.mk #[95]))) 9, none⟩, 7⟩, ⟨4, ⟨some 9, .move (.tmp 0), none⟩, 0⟩, ⟨5, ⟨some 10, .load 3 (.tmp 2), none⟩, 0⟩, ⟨6, ⟨some 11, .binOp .rem 3 (.tmp 9) (.tmp 10) 3, none⟩, 48⟩, ⟨7, ⟨some 12, .call ⟨.value (.func 16), #[(.tmp 11)], #[3]⟩, none⟩, 115⟩, ⟨8, ⟨some 13, .binOp .add 9 (.tmp 8) (.tmp 12) 9, none⟩, 255⟩, ⟨9, ⟨some 14, .build 51 #[(0, (.const (.int .i64 (1)))), (1, (.tmp 13))], none⟩, 511⟩, ⟨10, ⟨none, .store 51 (.tmp 4) (.tmp 14), none⟩, 1023⟩] := rfl
theorem body15 : Tryz.f15.body = some (.seq (.region 0 R15_0 false) (.seq (.region 1 R15_1 true) .ret)) := rfl
theorem nt15 : Tryz.f15.ntmps = 15 := rfl
theorem fn15 : Tryz.env.ft.get none 15 = some Tryz.f15 := rfl
theorem sm15 : Tryz.env.sum 15 = none := rfl
theorem fk15 : Tryz.env.fork 15 = false := rfl
theorem res15 : Tryz.f15.results.toList = [.cell 4 51] := rfl
noncomputable def R17_0 : Array Oper := ((bodyOf Tryz.f17).kid 0).opsOf
theorem v17_0 : R17_0.toList.map sop = [⟨some 2, .box 30 (.tmp 0), none⟩, ⟨some 3, .box 30 (.tmp 1), none⟩, ⟨some 4, .assign (.const (.slice none 0 0)), none⟩, ⟨some 5, .assign (.const (.bool false)), none⟩, ⟨some 6, .assign (.const (.int .i64 (0))), none⟩] := rfl
noncomputable def R17_1 : Array Oper := (((((bodyOf Tryz.f17).kid 1).kid 0).kid 0).kid 0).opsOf
theorem v17_1 : R17_1.toList.map sop = [⟨some 21, .load 30 (.tmp 2), none⟩, ⟨some 22, .load 30 (.tmp 3), none⟩, ⟨some 23, .buildSlice 70 2 #[(0, (.tmp 21)), (1, (.tmp 22))], none⟩, ⟨some 24, .call ⟨.builtin .len, #[(.tmp 23)], #[70]⟩, none⟩, ⟨some 25, .move (.const (.int .i64 (0))), none⟩] := rfl
noncomputable def R17_2 : Array Oper := ((((((((bodyOf Tryz.f17).kid 1).kid 0).kid 0).kid 1).kid 0).kid 0).kid 0).opsOf
theorem v17_2 : R17_2.toList.map sop = [⟨some 26, .binOp .lss 3 (.tmp 25) (.tmp 24) 3, none⟩] := rfl
noncomputable def R17_3 : Array Oper := ((((((((((((bodyOf Tryz.f17).kid 1).kid 0).kid 0).kid 1).kid 0).kid 0).kid 1).kid 1).kid 0).kid 0).kid 0).opsOf
theorem v17_3 : R17_3.toList.map sop = [⟨some 27, .indexAddr 70 (.tmp 23) (.tmp 25), none⟩, ⟨some 28, .load 30 (.tmp 27), none⟩, ⟨some 8, .alloc 30, none⟩, ⟨none, .store 30 (.tmp 8) (.tmp 28), none⟩] := rfl
noncomputable def R17_4 : Array Oper := (((((((((((((bodyOf Tryz.f17).kid 1).kid 0).kid 0).kid 1).kid 0).kid 0).kid 1).kid 1).kid 0).kid 0).kid 1).kid 0).opsOf
theorem v17_4 : R17_4.toList.map sop = [⟨some 29, .load 30 (.tmp 8), none⟩, ⟨some 30, .call ⟨.value (.func 18), #[(.tmp 29)], #[30]⟩, none⟩, ⟨some 9, .assign (.tmp 30), none⟩] := rfl
noncomputable def R17_5 : Array Oper := ((((((((((((((bodyOf Tryz.f17).kid 1).kid 0).kid 0).kid 1).kid 0).kid 0).kid 1).kid 1).kid 0).kid 0).kid 1).kid 1).kid 0).opsOf
theorem v17_5 : R17_5.toList.map sop = [⟨some 31, .move (.tmp 9), none⟩, ⟨some 32, .binOp .neq 32 (.tmp 31) (.const (.int .i64 (0))) 32, none⟩] := rfl
noncomputable def R17_6 : Array Oper := ((((((((((((((((bodyOf Tryz.f17).kid 1).kid 0).kid 0).kid 1).kid 0).kid 0).kid 1).kid 1).kid 0).kid 0).kid 1).kid 1).kid 1).kid 0).kid 0).opsOf
theorem v17_6 : R17_6.toList.map sop = [⟨some 33, .move (.tmp 9), none⟩, ⟨some 4, .assign (.const (.slice none 0 0)), none⟩, ⟨some 5, .assign (.const (.bool false)), none⟩, ⟨some 6, .assign (.tmp 33), none⟩] := rfl
noncomputable def R17_7 : Array Oper := ((((((((((bodyOf Tryz.f17).kid 1).kid 0).kid 0).kid 1).kid 0).kid 0).kid 1).kid 1).kid 1).opsOf
theorem v17_7 : R17_7.toList.map sop = [⟨some 34, .binOp .add 3 (.tmp 25) (.const (.int .i64 (1))) 3, none⟩, ⟨some 25, .move (.tmp 34), none⟩] := rfl
noncomputable abbrev L17_0 : Code := (.seq (.region 2 R17_2 false) (.seq (.cond (.tmp 26) .skip (.exit 0)) (.seq (.block 1 (.seq (.region 3 R17_3 false) (.seq (.region 4 R17_4 false) (.seq (.region 5 R17_5 false) (.cond (.tmp 32) (.seq (.region 6 R17_6 false) .ret) .skip))))) (.region 7 R17_7 false))))
noncomputable def R17_8 : Array Oper := ((((((bodyOf Tryz.f17).kid 1).kid 0).kid 1).kid 0).kid 0).opsOf
theorem v17_8 : R17_8.toList.map sop = [⟨some 35, .load 30 (.tmp 2), none⟩, ⟨some 36, .call ⟨.value (.func 19), #[(.tmp 35)], #[30]⟩, none⟩, ⟨some 37, .unOp .not 4 (.tmp 36), none⟩, ⟨some 38, .move (.tmp 37), none⟩, ⟨some 39, .load 30 (.tmp 3), some (3, false)⟩, ⟨some 40, .call ⟨.value (.func 19), #[(.tmp 39)], #[30]⟩, some (3, false)⟩, ⟨some 41, .unOp .not 4 (.tmp 40), some (3, false)⟩, ⟨some 42, .pick (.tmp 38) (.const (.bool true)) (.tmp 41), none⟩] := rfl
noncomputable def R17_9 : Array Oper := ((((((((bodyOf Tryz.f17).kid 1).kid 0).kid 1).kid 0).kid 1).kid 0).kid 0).opsOf
theorem v17_9 : R17_9.toList.map sop = [⟨some 4, .assign (.const (.slice none 0 0)), none⟩, ⟨some 5, .assign (.const (.bool false)), none⟩, ⟨some 6, .assign (.const (.int .i64 (240))), none⟩] := rfl
noncomputable def R17_10 : Array Oper := ((((((bodyOf Tryz.f17).kid 1).kid 0).kid 1).kid 1).kid 0).opsOf
theorem v17_10 : R17_10.toList.map sop = [⟨some 43, .makeMap 72 none, none⟩, ⟨some 10, .assign (.tmp 43), none⟩] := rfl
noncomputable def R17_11 : Array Oper := ((((((((bodyOf Tryz.f17).kid 1).kid 0).kid 1).kid 1).kid 1).kid 0).kid 0).opsOf
theorem v17_11 : R17_11.toList.map sop = [⟨some 45, .move (.tmp 10), none⟩, ⟨some 46, .fieldAddr 30 (.tmp 3) 0, none⟩, ⟨some 47, .load 27 (.tmp 46), none⟩, ⟨some 48, .fieldAddr 30 (.tmp 2) 0, none⟩, ⟨some 49, .load 27 (.tmp 48), none⟩, ⟨some 50, .call ⟨.value (.func 25), #[(.tmp 45), (.tmp 47), (.tmp 49), (.const (.int .i64 (-1)))], #[72, 27, 27, 3]⟩, none⟩, ⟨some 44, .move (.tmp 50), none⟩, ⟨some 51, .extract (.tmp 44) 0, none⟩, ⟨some 52, .extract (.tmp 44) 1, none⟩, ⟨some 11, .assign (.tmp 51), none⟩, ⟨some 12, .assign (.tmp 52), none⟩] := rfl
noncomputable def R17_12 : Array Oper := (((((((((bodyOf Tryz.f17).kid 1).kid 0).kid 1).kid 1).kid 1).kid 0).kid 1).kid 0).opsOf
theorem v17_12 : R17_12.toList.map sop = [⟨some 53, .move (.tmp 12), none⟩, ⟨some 54, .unOp .not 4 (.tmp 53), none⟩] := rfl
noncomputable def R17_13 : Array Oper := (((((((((((bodyOf Tryz.f17).kid 1).kid 0).kid 1).kid 1).kid 1).kid 0).kid 1).kid 1).kid 0).kid 0).opsOf
theorem v17_13 : R17_13.toList.map sop = [⟨some 4, .assign (.const (.slice none 0 0)), none⟩, ⟨some 5, .assign (.const (.bool false)), none⟩, ⟨some 6, .assign (.const (.int .i64 (0))), none⟩] := rfl
noncomputable def R17_14 : Array Oper := ((((((((bodyOf Tryz.f17).kid 1).kid 0).kid 1).kid 1).kid 1).kid 1).kid 0).opsOf
theorem v17_14 : R17_14.toList.map sop = [⟨some 13, .assign (.const (.slice none 0 0)), none⟩] := rfl
noncomputable def R17_15 : Array Oper := (((((((((bodyOf Tryz.f17).kid 1).kid 0).kid 1).kid 1).kid 1).kid 1).kid 1).kid 0).opsOf
theorem v17_15 : R17_15.toList.map sop = [⟨some 14, .assign (.const (.slice none 0 0)), none⟩] := rfl
noncomputable def R17_16 : Array Oper := ((((((((((bodyOf Tryz.f17).kid 1).kid 0).kid 1).kid 1).kid 1).kid 1).kid 1).kid 1).kid 0).opsOf
theorem v17_16 : R17_16.toList.map sop = [⟨some 15, .assign (.const (.int .i64 (0))), none⟩, ⟨some 16, .assign (.const (.int .i64 (0))), none⟩] := rfl
noncomputable def R17_17 : Array Oper := ((((((((((((((((bodyOf Tryz.f17).kid 1).kid 0).kid 1).kid 1).kid 1).kid 1).kid 1).kid 1).kid 1).kid 1).kid 0).kid 0).kid 0).kid 0).kid 0).opsOf
theorem v17_17 : R17_17.toList.map sop = [⟨some 55, .move (.tmp 13), none⟩, ⟨some 56, .call ⟨.builtin .len, #[(.tmp 55)], #[22]⟩, none⟩, ⟨some 57, .fieldAddr 30 (.tmp 3) 1, none⟩, ⟨some 58, .load 28 (.tmp 57), none⟩, ⟨some 59, .call ⟨.builtin .len, #[(.tmp 58)], #[28]⟩, none⟩, ⟨some 60, .binOp .lss 3 (.tmp 56) (.tmp 59) 3, none⟩] := rfl
noncomputable def R17_18 : Array Oper := ((((((((((((((((((bodyOf Tryz.f17).kid 1).kid 0).kid 1).kid 1).kid 1).kid 1).kid 1).kid 1).kid 1).kid 1).kid 0).kid 0).kid 0).kid 1).kid 0).kid 0).kid 0).opsOf
theorem v17_18 : R17_18.toList.map sop = [⟨some 61, .move (.tmp 16), none⟩, ⟨some 17, .assign (.tmp 61), none⟩] := rfl
noncomputable def R17_19 : Array Oper := ((((((((((((((((((((((bodyOf Tryz.f17).kid 1).kid 0).kid 1).kid 1).kid 1).kid 1).kid 1).kid 1).kid 1).kid 1).kid 0).kid 0).kid 0).kid 1).kid 0).kid 0).kid 1).kid 0).kid 0).kid 0).kid 0).opsOf
theorem v17_19 : R17_19.toList.map sop = [⟨some 62, .move (.tmp 17), none⟩, ⟨some 63, .fieldAddr 30 (.tmp 2) 1, none⟩, ⟨some 64, .load 28 (.tmp 63), none⟩, ⟨some 65, .call ⟨.builtin .len, #[(.tmp 64)], #[28]⟩, none⟩, ⟨some 66, .binOp .lss 3 (.tmp 62) (.tmp 65) 3, none⟩] := rfl
noncomputable def R17_21 : Array Oper := (((((((((((((((((((((((((bodyOf Tryz.f17).kid 1).kid 0).kid 1).kid 1).kid 1).kid 1).kid 1).kid 1).kid 1).kid 1).kid 0).kid 0).kid 0).kid 1).kid 0).kid 0).kid 1).kid 0).kid 0).kid 1).kid 0).kid 0).kid 0).kid 0).opsOf
theorem v17_21 : R17_21.toList.map sop = [⟨some 69, .move (.tmp 15), none⟩, ⟨some 70, .binOp .add 3 (.tmp 69) (.const (.int .i64 (1))) 3, none⟩, ⟨some 15, .assign (.tmp 70), none⟩] := rfl
noncomputable def R17_22 : Array Oper := ((((((((((((((((((((((((((bodyOf Tryz.f17).kid 1).kid 0).kid 1).kid 1).kid 1).kid 1).kid 1).kid 1).kid 1).kid 1).kid 0).kid 0).kid 0).kid 1).kid 0).kid 0).kid 1).kid 0).kid 0).kid 1).kid 0).kid 0).kid 0).kid 1).kid 0).opsOf
theorem v17_22 : R17_22.toList.map sop = [⟨some 71, .move (.tmp 15), none⟩, ⟨some 72, .binOp .gtr 3 (.tmp 71) (.const (.int .i64 (65536))) 3, none⟩] := rfl
noncomputable def R17_23 : Array Oper := ((((((((((((((((((((((((((((bodyOf Tryz.f17).kid 1).kid 0).kid 1).kid 1).kid 1).kid 1).kid 1).kid 1).kid 1).kid 1).kid 0).kid 0).kid 0).kid 1).kid 0).kid 0).kid 1).kid 0).kid 0).kid 1).kid 0).kid 0).kid 0).kid 1).kid 1).kid 0).kid 0).opsOf
theorem v17_23 : R17_23.toList.map sop = [⟨some 4, .assign (.const (.slice none 0 0)), none⟩, ⟨some 5, .assign (.const (.bool false)), none⟩, ⟨some 6, .assign (.const (.int .i64 (241))), none⟩] := rfl
noncomputable def R17_24 : Array Oper := (((((((((((((((((((((((((bodyOf Tryz.f17).kid 1).kid 0).kid 1).kid 1).kid 1).kid 1).kid 1).kid 1).kid 1).kid 1).kid 0).kid 0).kid 0).kid 1).kid 0).kid 0).kid 1).kid 0).kid 0).kid 1).kid 0).kid 0).kid 1).kid 0).opsOf
theorem v17_24 : R17_24.toList.map sop = [⟨some 74, .move (.tmp 10), none⟩, ⟨some 75, .fieldAddr 30 (.tmp 3) 1, none⟩, ⟨some 76, .load 28 (.tmp 75), none⟩, ⟨some 77, .move (.tmp 13), none⟩, ⟨some 78, .call ⟨.builtin .len, #[(.tmp 77)], #[22]⟩, none⟩, ⟨some 79, .indexAddr 28 (.tmp 76) (.tmp 78), none⟩, ⟨some 80, .fieldAddr 55 (.tmp 79) 1, none⟩, ⟨some 81, .load 27 (.tmp 80), none⟩, ⟨some 82, .fieldAddr 30 (.tmp 2) 1, none⟩, ⟨some 83, .load 28 (.tmp 82), none⟩, ⟨some 84, .move (.tmp 17), none⟩, ⟨some 85, .indexAddr 28 (.tmp 83) (.tmp 84), none⟩, ⟨some 86, .fieldAddr 55 (.tmp 85) 1, none⟩, ⟨some 87, .load 27 (.tmp 86), none⟩, ⟨some 88, .move (.tmp 17), none⟩, ⟨some 89, .call ⟨.value (.func 25), #[(.tmp 74), (.tmp 81), (.tmp 87), (.tmp 88)], #[72, 27, 27, 3]⟩, none⟩, ⟨some 73, .move (.tmp 89), none⟩, ⟨some 90, .extract (.tmp 73) 0, none⟩, ⟨some 91, .extract (.tmp 73) 1, none⟩, ⟨some 18, .assign (.tmp 90), none⟩, ⟨some 19, .assign (.tmp 91), none⟩] := rfl
theorem w17_24 : (trs R17_24.toList 0 (.full 0 8)).map top = [⟨0, ⟨some 74, .move (.tmp 10), none⟩, 0⟩, ⟨1, ⟨some 75, .fieldAddr 30 (.tmp 3) 1, none⟩, 0⟩, ⟨2, ⟨some 76, .load 28 (.tmp 75), none⟩, 2⟩, ⟨3, ⟨some 77, .move (.tmp 13), none⟩, 0⟩, ⟨4, ⟨some 78, .call ⟨.builtin .len, #[(.tmp 77)], #[22]⟩, none⟩, 8⟩, ⟨5, ⟨some 79, .indexAddr 28 (.tmp 76) (.tmp 78), none⟩, 30⟩, ⟨6, ⟨some 80, .fieldAddr 55 (.tmp 79) 1, none⟩, 62⟩, ⟨7, ⟨some 81, .load 27 (.tmp 80), none⟩, 126⟩, ⟨8, ⟨some 82, .fieldAddr 30 (.tmp 2) 1, none⟩, 0⟩, ⟨9, ⟨some 83, .load 28 (.tmp 82), none⟩, 256⟩, ⟨10, ⟨some 84, .move (.tmp 17), none⟩, 0⟩, ⟨11, ⟨some 85, .indexAddr 28 (.tmp 83) (.tmp 84), none⟩, 1792⟩, ⟨12, ⟨some 86, .fieldAddr 55 (.tmp 85) 1, none⟩, 3840⟩, ⟨13, ⟨some 87, .load 27 (.tmp 86), none⟩, 7936⟩, ⟨14, ⟨some 88, .move (.tmp 17), none⟩, 0⟩, ⟨15, ⟨some 89, .call ⟨.value (.func 25), #[(.tmp 74), (.tmp 81), (.tmp 87), (.tmp 88)], #[72, 27, 27, 3]⟩, none⟩, 32767⟩, ⟨16, ⟨some 73, .move (.tmp 89), none⟩, 65535⟩, ⟨17, ⟨some 90, .extract (.tmp 73) 0, none⟩, 131071⟩, ⟨18, ⟨some 91, .extract (.tmp 73) 1, none⟩, 131071⟩, ⟨19, ⟨some 18, .assign (.tmp 90), none⟩, 262143⟩, ⟨20, ⟨some 19, .assign (.tmp 91), none⟩, 1048575⟩] := rfl
noncomputable def R17_25 : Array Oper := ((((((((((((((((((((((((((bodyOf Tryz.f17).kid 1).kid 0).kid 1).kid 1).kid 1).kid 1).kid 1).kid 1).kid 1).kid 1).kid 0).kid 0).kid 0).kid 1).kid 0).kid 0).kid 1).kid 0).kid 0).kid 1).kid 0).kid 0).kid 1).kid 1).kid 0).opsOf
theorem v17_25 : R17_25.toList.map sop = [⟨some 92, .move (.tmp 19), none⟩] := rfl
noncomputable def R17_26 : Array Oper := ((((((((((((((((((((((((((((bodyOf Tryz.f17).kid 1).kid 0).kid 1).kid 1).kid 1).kid 1).kid 1).kid 1).kid 1).kid 1).kid 0).kid 0).kid 0).kid 1).kid 0).kid 0).kid 1).kid 0).kid 0).kid 1).kid 0).kid 0).kid 1).kid 1).kid 1).kid 0).kid 0).opsOf
theorem v17_26 : R17_26.toList.map sop = [⟨some 93, .move (.tmp 13), none⟩, ⟨some 94, .move (.tmp 17), none⟩, ⟨some 95, .buildSlice 22 1 #[(0, (.tmp 94))], none⟩, ⟨some 96, .call ⟨.builtin .append, #[(.tmp 93), (.tmp 95)], #[22, 22]⟩, none⟩, ⟨some 97, .move (.tmp 14), none⟩, ⟨some 98, .move (.tmp 18), none⟩, ⟨some 99, .buildSlice 42 1 #[(0, (.tmp 98))], none⟩, ⟨some 100, .call ⟨.builtin .append, #[(.tmp 97), (.tmp 99)], #[42, 42]⟩, none⟩, ⟨some 13, .assign (.tmp 96), none⟩, ⟨some 14, .assign (.tmp 100), none⟩, ⟨some 16, .assign (.const (.int .i64 (0))), none⟩] := rfl
noncomputable def R17_20 : Array Oper := ((((((((((((((((((((((bodyOf Tryz.f17).kid 1).kid 0).kid 1).kid 1).kid 1).kid 1).kid 1).kid 1).kid 1).kid 1).kid 0).kid 0).kid 0).kid 1).kid 0).kid 0).kid 1).kid 0).kid 0).kid 1).kid 1).opsOf
theorem v17_20 : R17_20.toList.map sop = [⟨some 67, .move (.tmp 17), none⟩, ⟨some 68, .binOp .add 3 (.tmp 67) (.const (.int .i64 (1))) 3, none⟩, ⟨some 17, .assign (.tmp 68), none⟩] := rfl
noncomputable abbrev L17_1 : Code := (.seq (.seq (.region 19 R17_19 false) (.cond (.tmp 66) .skip (.exit 4))) (.seq (.block 5 (.seq (.seq (.region 21 R17_21 false) (.seq (.region 22 R17_22 false) (.cond (.tmp 72) (.seq (.region 23 R17_23 false) .ret) .skip))) (.seq (.region 24 R17_24 true) (.seq (.region 25 R17_25 false) (.cond (.tmp 92) (.seq (.region 26 R17_26 false) (.exit 3)) .skip))))) (.region 20 R17_20 false)))
noncomputable def R17_27 : Array Oper := ((((((((((((((((((bodyOf Tryz.f17).kid 1).kid 0).kid 1).kid 1).kid 1).kid 1).kid 1).kid 1).kid 1).kid 1).kid 0).kid 0).kid 0).kid 1).kid 0).kid 1).kid 0).opsOf
theorem v17_27 : R17_27.toList.map sop = [⟨some 101, .move (.tmp 13), none⟩, ⟨some 102, .call ⟨.builtin .len, #[(.tmp 101)], #[22]⟩, none⟩, ⟨some 103, .binOp .sub 3 (.tmp 102) (.const (.int .i64 (1))) 3, none⟩, ⟨some 20, .assign (.tmp 103), none⟩] := rfl
noncomputable def R17_28 : Array Oper := ((((((((((((((((((((bodyOf Tryz.f17).kid 1).kid 0).kid 1).kid 1).kid 1).kid 1).kid 1).kid 1).kid 1).kid 1).kid 0).kid 0).kid 0).kid 1).kid 0).kid 1).kid 1).kid 0).kid 0).opsOf
theorem v17_28 : R17_28.toList.map sop = [⟨some 104, .move (.tmp 20), none⟩, ⟨some 105, .binOp .lss 3 (.tmp 104) (.const (.int .i64 (0))) 3, none⟩] := rfl
noncomputable def R17_29 : Array Oper := ((((((((((((((((((((((bodyOf Tryz.f17).kid 1).kid 0).kid 1).kid 1).kid 1).kid 1).kid 1).kid 1).kid 1).kid 1).kid 0).kid 0).kid 0).kid 1).kid 0).kid 1).kid 1).kid 0).kid 1).kid 0).kid 0).opsOf
theorem v17_29 : R17_29.toList.map sop = [⟨some 4, .assign (.const (.slice none 0 0)), none⟩, ⟨some 5, .assign (.const (.bool false)), none⟩, ⟨some 6, .assign (.const (.int .i64 (0))), none⟩] := rfl
noncomputable def R17_30 : Array Oper := ((((((((((((((((((((bodyOf Tryz.f17).kid 1).kid 0).kid 1).kid 1).kid 1).kid 1).kid 1).kid 1).kid 1).kid 1).kid 0).kid 0).kid 0).kid 1).kid 0).kid 1).kid 1).kid 1).kid 0).opsOf
theorem v17_30 : R17_30.toList.map sop = [⟨some 106, .move (.tmp 10), none⟩, ⟨some 107, .move (.tmp 14), none⟩, ⟨some 108, .move (.tmp 20), none⟩, ⟨some 109, .indexAddr 42 (.tmp 107) (.tmp 108), none⟩, ⟨some 110, .load 41 (.tmp 109), none⟩, ⟨some 111, .call ⟨.value (.func 26), #[(.tmp 106), (.tmp 110)], #[72, 41]⟩, none⟩] := rfl
noncomputable def R17_31 : Array Oper := ((((((((((((((((((((bodyOf Tryz.f17).kid 1).kid 0).kid 1).kid 1).kid 1).kid 1).kid 1).kid 1).kid 1).kid 1).kid 0).kid 0).kid 0).kid 1).kid 0).kid 1).kid 1).kid 1).kid 1).opsOf
theorem v17_31 : R17_31.toList.map sop = [⟨some 112, .move (.tmp 13), none⟩, ⟨some 113, .move (.tmp 20), none⟩, ⟨some 114, .indexAddr 22 (.tmp 112) (.tmp 113), none⟩, ⟨some 115, .load 3 (.tmp 114), none⟩, ⟨some 116, .binOp .add 3 (.tmp 115) (.const (.int .i64 (1))) 3, none⟩, ⟨some 117, .move (.tmp 13), none⟩, ⟨some 118, .move (.tmp 20), none⟩, ⟨some 119, .slice 22 (.tmp 117) none (some (.tmp 118)) none, none⟩, ⟨some 120, .move (.tmp 14), none⟩, ⟨some 121, .move (.tmp 20), none⟩, ⟨some 122, .slice 42 (.tmp 120) none (some (.tmp 121)) none, none⟩, ⟨some 16, .assign (.tmp 116), none⟩, ⟨some 13, .assign (.tmp 119), none⟩, ⟨some 14, .assign (.tmp 122), none⟩] := rfl
theorem w17_31 : (trs R17_31.toList 0 (.full 0 8)).map top = [⟨0, ⟨some 112, .move (.tmp 13), none⟩, 0⟩, ⟨1, ⟨some 113, .move (.tmp 20), none⟩, 0⟩, ⟨2, ⟨some 114, .indexAddr 22 (.tmp 112) (.tmp 113), none⟩, 3⟩, ⟨3, ⟨some 115, .load 3 (.tmp 114), none⟩, 7⟩, ⟨4, ⟨some 116, .binOp .add 3 (.tmp 115) (.const (.int .i64 (1))) 3, none⟩, 15⟩, ⟨5, ⟨some 117, .move (.tmp 13), none⟩, 0⟩, ⟨6, ⟨some 118, .move (.tmp 20), none⟩, 0⟩, ⟨7, ⟨some 119, .slice 22 (.tmp 117) none (some (.tmp 118)) none, none⟩, 96⟩, ⟨8, ⟨some 120, .move (.tmp 14), none⟩, 0⟩, ⟨9, ⟨some 121, .move (.tmp 20), none⟩, 0⟩, ⟨10, ⟨some 122, .slice 42 (.tmp 120) none (some (.tmp 121)) none, none⟩, 768⟩, ⟨11, ⟨some 16, .assign (.tmp 116), none⟩, 31⟩, ⟨12, ⟨some 13, .assign (.tmp 119), none⟩, 2303⟩, ⟨13, ⟨some 14, .assign (.tmp 122), none⟩, 8191⟩] := rfl
noncomputable abbrev L17_2 : Code := (.seq (.seq (.region 17 R17_17 false) (.cond (.tmp 60) .skip (.exit 2))) (.block 3 (.seq (.seq (.region 18 R17_18 false) (.block 4 (.loop L17_1))) (.seq (.region 27 R17_27 false) (.seq (.seq (.region 28 R17_28 false) (.cond (.tmp 105) (.seq (.region 29 R17_29 false) .ret) .skip)) (.seq (.region 30 R17_30 false) (.region 31 R17_31 true)))))))
noncomputable def R17_32 : Array Oper := (((((((((((((bodyOf Tryz.f17).kid 1).kid 0).kid 1).kid 1).kid 1).kid 1).kid 1).kid 1).kid 1).kid 1).kid 1).kid 0).opsOf
theorem v17_32 : R17_32.toList.map sop = [⟨some 123, .move (.tmp 13), none⟩, ⟨some 4, .assign (.tmp 123), none⟩, ⟨some 5, .assign (.const (.bool true)), none⟩, ⟨some 6, .assign (.const (.int .i64 (0))), none⟩] := rfl
theorem body17 : Tryz.f17.body = some (.seq (.region 0 R17_0 false) (.scope (.seq (.seq (.region 1 R17_1 false) (.block 0 (.loop L17_0))) (.seq (.seq (.region 8 R17_8 false) (.cond (.tmp 42) (.seq (.region 9 R17_9 false) .ret) .skip)) (.seq (.region 10 R17_10 false) (.seq (.seq (.region 11 R17_11 false) (.seq (.region 12 R17_12 false) (.cond (.tmp 54) (.seq (.region 13 R17_13 false) .ret) .skip))) (.seq (.region 14 R17_14 false) (.seq (.region 15 R17_15 false) (.seq (.region 16 R17_16 false) (.seq (.label 0) (.seq (.block 2 (.loop L17_2)) (.seq (.region 32 R17_32 false) .ret)))))))))))) := rfl
theorem nt17 : Tryz.f17.ntmps = 124 := rfl
theorem fn17 : Tryz.env.ft.get none 17 = some Tryz.f17 := rfl
theorem sm17 : Tryz.env.sum 17 = none := rfl
theorem fk17 : Tryz.env.fork 17 = false := rfl
theorem res17 : Tryz.f17.results.toList = [.tmp 4, .tmp 5, .tmp 6] := rfl
noncomputable def R18_0 : Array Oper := ((bodyOf Tryz.f18).kid 0).opsOf
theorem v18_0 : R18_0.toList.map sop = [⟨some 1, .box 30 (.tmp 0), none⟩, ⟨some 2, .assign (.const (.int .i64 (0))), none⟩] := rfl
noncomputable def R18_1 : Array Oper := ((((bodyOf Tryz.f18).kid 1).kid 0).kid 0).opsOf
theorem v18_1 : R18_1.toList.map sop = [⟨some 7, .fieldAddr 30 (.tmp 1) 0, none⟩, ⟨some 8, .load 27 (.tmp 7), none⟩, ⟨some 9, .call ⟨.value (.func 27), #[(.tmp 8), (.const (.bool true))], #[27, 4]⟩, none⟩, ⟨some 3, .assign (.tmp 9), none⟩] := rfl
noncomputable def R18_2 : Array Oper := (((((bodyOf Tryz.f18).kid 1).kid 0).kid 1).kid 0).opsOf
theorem v18_2 : R18_2.toList.map sop = [⟨some 10, .move (.tmp 3), none⟩, ⟨some 11, .binOp .neq 32 (.tmp 10) (.const (.int .i64 (0))) 32, none⟩] := rfl
noncomputable def R18_3 : Array Oper := (((((((bodyOf Tryz.f18).kid 1).kid 0).kid 1).kid 1).kid 0).kid 0).opsOf
theorem v18_3 : R18_3.toList.map sop = [⟨some 12, .move (.tmp 3), none⟩, ⟨some 2, .assign (.tmp 12), none⟩] := rfl
noncomputable def R18_4 : Array Oper := (((((bodyOf Tryz.f18).kid 1).kid 1).kid 0).kid 0).opsOf
theorem v18_4 : R18_4.toList.map sop = [⟨some 13, .fieldAddr 30 (.tmp 1) 1, none⟩, ⟨some 14, .load 28 (.tmp 13), none⟩, ⟨some 15, .call ⟨.builtin .len, #[(.tmp 14)], #[28]⟩, none⟩, ⟨some 16, .binOp .gtr 3 (.tmp 15) (.const (.int .i64 (64))) 3, none⟩] := rfl
noncomputable def R18_5 : Array Oper := (((((((bodyOf Tryz.f18).kid 1).kid 1).kid 0).kid 1).kid 0).kid 0).opsOf
theorem v18_5 : R18_5.toList.map sop = [⟨some 2, .assign (.const (.int .i64 (82))), none⟩] := rfl
noncomputable def R18_6 : Array Oper := ((((((bodyOf Tryz.f18).kid 1).kid 1).kid 1).kid 0).kid 0).opsOf
theorem v18_6 : R18_6.toList.map sop = [⟨some 17, .fieldAddr 30 (.tmp 1) 1, none⟩, ⟨some 18, .load 28 (.tmp 17), none⟩, ⟨some 19, .call ⟨.builtin .len, #[(.tmp 18)], #[28]⟩, none⟩, ⟨some 20, .move (.const (.int .i64 (0))), none⟩] := rfl
noncomputable def R18_7 : Array Oper := (((((((((bodyOf Tryz.f18).kid 1).kid 1).kid 1).kid 0).kid 1).kid 0).kid 0).kid 0).opsOf
theorem v18_7 : R18_7.toList.map sop = [⟨some 21, .binOp .lss 3 (.tmp 20) (.tmp 19) 3, none⟩] := rfl
noncomputable def R18_8 : Array Oper := (((((((((((((bodyOf Tryz.f18).kid 1).kid 1).kid 1).kid 0).kid 1).kid 0).kid 0).kid 1).kid 1).kid 0).kid 0).kid 0).opsOf
theorem v18_8 : R18_8.toList.map sop = [⟨some 22, .indexAddr 28 (.tmp 18) (.tmp 20), none⟩, ⟨some 23, .load 55 (.tmp 22), none⟩, ⟨some 5, .alloc 55, none⟩, ⟨none, .store 55 (.tmp 5) (.tmp 23), none⟩] := rfl
noncomputable def R18_9 : Array Oper := ((((((((((((((bodyOf Tryz.f18).kid 1).kid 1).kid 1).kid 0).kid 1).kid 0).kid 0).kid 1).kid 1).kid 0).kid 0).kid 1).kid 0).opsOf
theorem v18_9 : R18_9.toList.map sop = [⟨some 24, .load 55 (.tmp 5), none⟩, ⟨some 25, .call ⟨.value (.func 28), #[(.tmp 24)], #[55]⟩, none⟩, ⟨some 6, .assign (.tmp 25), none⟩] := rfl
noncomputable def R18_10 : Array Oper := (((((((((((((((bodyOf Tryz.f18).kid 1).kid 1).kid 1).kid 0).kid 1).kid 0).kid 0).kid 1).kid 1).kid 0).kid 0).kid 1).kid 1).kid 0).opsOf
theorem v18_10 : R18_10.toList.map sop = [⟨some 26, .move (.tmp 6), none⟩, ⟨some 27, .binOp .neq 32 (.tmp 26) (.const (.int .i64 (0))) 32, none⟩] := rfl
noncomputable def R18_11 : Array Oper := (((((((((((((((((bodyOf Tryz.f18).kid 1).kid 1).kid 1).kid 0).kid 1).kid 0).kid 0).kid 1).kid 1).kid 0).kid 0).kid 1).kid 1).kid 1).kid 0).kid 0).opsOf
theorem v18_11 : R18_11.toList.map sop = [⟨some 28, .move (.tmp 6), none⟩, ⟨some 2, .assign (.tmp 28), none⟩] := rfl
noncomputable def R18_12 : Array Oper := (((((((((((bodyOf Tryz.f18).kid 1).kid 1).kid 1).kid 0).kid 1).kid 0).kid 0).kid 1).kid 1).kid 1).opsOf
theorem v18_12 : R18_12.toList.map sop = [⟨some 29, .binOp .add 3 (.tmp 20) (.const (.int .i64 (1))) 3, none⟩, ⟨some 20, .move (.tmp 29), none⟩] := rfl
noncomputable abbrev L18_0 : Code := (.seq (.region 7 R18_7 false) (.seq (.cond (.tmp 21) .skip (.exit 0)) (.seq (.block 1 (.seq (.region 8 R18_8 false) (.seq (.region 9 R18_9 false) (.seq (.region 10 R18_10 false) (.cond (.tmp 27) (.seq (.region 11 R18_11 false) .ret) .skip))))) (.region 12 R18_12 false))))
noncomputable def R18_13 : Array Oper := ((((((bodyOf Tryz.f18).kid 1).kid 1).kid 1).kid 1).kid 0).opsOf
theorem v18_13 : R18_13.toList.map sop = [⟨some 2, .assign (.const (.int .i64 (0))), none⟩] := rfl
theorem body18 : Tryz.f18.body = some (.seq (.region 0 R18_0 false) (.seq (.seq (.region 1 R18_1 false) (.seq (.region 2 R18_2 false) (.cond (.tmp 11) (.seq (.region 3 R18_3 false) .ret) .skip))) (.seq (.seq (.region 4 R18_4 false) (.cond (.tmp 16) (.seq (.region 5 R18_5 false) .ret) .skip)) (.seq (.seq (.region 6 R18_6 false) (.block 0 (.loop L18_0))) (.seq (.region 13 R18_13 false) .ret))))) := rfl
theorem nt18 : Tryz.f18.ntmps = 30 := rfl
theorem fn18 : Tryz.env.ft.get none 18 = some Tryz.f18 := rfl
theorem sm18 : Tryz.env.sum 18 = none := rfl
theorem fk18 : Tryz.env.fork 18 = false := rfl
theorem res18 : Tryz.f18.results.toList = [.tmp 2] := rfl
noncomputable def R19_0 : Array Oper := ((bodyOf Tryz.f19).kid 0).opsOf
theorem v19_0 : R19_0.toList.map sop = [⟨some 1, .box 30 (.tmp 0), none⟩, ⟨some 2, .assign (.const (.bool false)), none⟩] := rfl
noncomputable def R19_1 : Array Oper := ((((bodyOf Tryz.f19).kid 1).kid 0).kid 0).opsOf
theorem v19_1 : R19_1.toList.map sop = [⟨some 8, .load 30 (.tmp 1), none⟩, ⟨some 9, .call ⟨.value (.func 18), #[(.tmp 8)], #[30]⟩, none⟩, ⟨some 10, .binOp .neq 32 (.tmp 9) (.const (.int .i64 (0))) 32, none⟩] := rfl
noncomputable def R19_2 : Array Oper := ((((((bodyOf Tryz.f19).kid 1).kid 0).kid 1).kid 0).kid 0).opsOf
theorem v19_2 : R19_2.toList.map sop = [⟨some 2, .assign (.const (.bool false)), none⟩] := rfl
noncomputable def R19_3 : Array Oper := ((((bodyOf Tryz.f19).kid 1).kid 1).kid 0).opsOf
theorem v19_3 : R19_3.toList.map sop = [⟨some 11, .makeMap 78 none, none⟩, ⟨some 3, .alloc 78, none⟩, ⟨none, .store 78 (.tmp 3) (.tmp 11), none⟩] := rfl
noncomputable def R19_4 : Array Oper := ((((((bodyOf Tryz.f19).kid 1).kid 1).kid 1).kid 0).kid 0).opsOf
theorem v19_4 : R19_4.toList.map sop = [⟨some 12, .fieldAddr 30 (.tmp 1) 1, none⟩, ⟨some 13, .load 28 (.tmp 12), none⟩, ⟨some 14, .call ⟨.builtin .len, #[(.tmp 13)], #[28]⟩, none⟩, ⟨some 15, .move (.const (.int .i64 (0))), none⟩] := rfl
noncomputable def R19_5 : Array Oper := (((((((((bodyOf Tryz.f19).kid 1).kid 1).kid 1).kid 0).kid 1).kid 0).kid 0).kid 0).opsOf
theorem v19_5 : R19_5.toList.map sop = [⟨some 16, .binOp .lss 3 (.tmp 15) (.tmp 14) 3, none⟩] := rfl
noncomputable def R19_6 : Array Oper := (((((((((((((bodyOf Tryz.f19).kid 1).kid 1).kid 1).kid 0).kid 1).kid 0).kid 0).kid 1).kid 1).kid 0).kid 0).kid 0).opsOf
theorem v19_6 : R19_6.toList.map sop = [⟨some 17, .indexAddr 28 (.tmp 13) (.tmp 15), none⟩, ⟨some 18, .load 55 (.tmp 17), none⟩, ⟨some 5, .alloc 55, none⟩, ⟨none, .store 55 (.tmp 5) (.tmp 18), none⟩] := rfl
noncomputable def R19_7 : Array Oper := (((((((((((((((bodyOf Tryz.f19).kid 1).kid 1).kid 1).kid 0).kid 1).kid 0).kid 0).kid 1).kid 1).kid 0).kid 0).kid 1).kid 0).kid 0).opsOf
theorem v19_7 : R19_7.toList.map sop = [⟨some 19, .fieldAddr 55 (.tmp 5) 0, none⟩, ⟨some 20, .load 3 (.tmp 19), none⟩, ⟨some 21, .binOp .neq 3 (.tmp 20) (.const (.int .i64 (1))) 3, none⟩] := rfl
noncomputable def R19_8 : Array Oper := (((((((((((((((((bodyOf Tryz.f19).kid 1).kid 1).kid 1).kid 0).kid 1).kid 0).kid 0).kid 1).kid 1).kid 0).kid 0).kid 1).kid 0).kid 1).kid 0).kid 0).opsOf
theorem v19_8 : R19_8.toList.map sop = [⟨some 2, .assign (.const (.bool false)), none⟩] := rfl
noncomputable def R19_9 : Array Oper := (((((((((((((((bodyOf Tryz.f19).kid 1).kid 1).kid 1).kid 0).kid 1).kid 0).kid 0).kid 1).kid 1).kid 0).kid 0).kid 1).kid 1).kid 0).opsOf
theorem v19_9 : R19_9.toList.map sop = [⟨some 22, .fieldAddr 55 (.tmp 5) 1, none⟩, ⟨some 23, .fieldAddr 27 (.tmp 22) 1, none⟩, ⟨some 24, .load 25 (.tmp 23), none⟩, ⟨some 25, .call ⟨.builtin .len, #[(.tmp 24)], #[25]⟩, none⟩, ⟨some 26, .move (.const (.int .i64 (0))), none⟩] := rfl
noncomputable def R19_10 : Array Oper := ((((((((((((((((((bodyOf Tryz.f19).kid 1).kid 1).kid 1).kid 0).kid 1).kid 0).kid 0).kid 1).kid 1).kid 0).kid 0).kid 1).kid 1).kid 1).kid 0).kid 0).kid 0).opsOf
theorem v19_10 : R19_10.toList.map sop = [⟨some 27, .binOp .lss 3 (.tmp 26) (.tmp 25) 3, none⟩] := rfl
noncomputable def R19_11 : Array Oper := ((((((((((((((((((((((bodyOf Tryz.f19).kid 1).kid 1).kid 1).kid 0).kid 1).kid 0).kid 0).kid 1).kid 1).kid 0).kid 0).kid 1).kid 1).kid 1).kid 0).kid 0).kid 1).kid 1).kid 0).kid 0).kid 0).opsOf
theorem v19_11 : R19_11.toList.map sop = [⟨some 28, .indexAddr 25 (.tmp 24) (.tmp 26), none⟩, ⟨some 29, .load 51 (.tmp 28), none⟩, ⟨some 7, .alloc 51, none⟩, ⟨none, .store 51 (.tmp 7) (.tmp 29), none⟩] := rfl
noncomputable def R19_12 : Array Oper := (((((((((((((((((((((((bodyOf Tryz.f19).kid 1).kid 1).kid 1).kid 0).kid 1).kid 0).kid 0).kid 1).kid 1).kid 0).kid 0).kid 1).kid 1).kid 1).kid 0).kid 0).kid 1).kid 1).kid 0).kid 0).kid 1).kid 0).opsOf
theorem v19_12 : R19_12.toList.map sop = [⟨some 30, .fieldAddr 51 (.tmp 7) 0, none⟩, ⟨some 31, .load 3 (.tmp 30), none⟩, ⟨some 32, .binOp .eql 3 (.tmp 31) (.const (.int .i64 (1))) 3, none⟩] := rfl
noncomputable def R19_13 : Array Oper := ((((((((((((((((((((((((bodyOf Tryz.f19).kid 1).kid 1).kid 1).kid 0).kid 1).kid 0).kid 0).kid 1).kid 1).kid 0).kid 0).kid 1).kid 1).kid 1).kid 0).kid 0).kid 1).kid 1).kid 0).kid 0).kid 1).kid 1).kid 0).opsOf
theorem v19_13 : R19_13.toList.map sop = [⟨some 33, .load 78 (.tmp 3), none⟩, ⟨some 34, .fieldAddr 51 (.tmp 7) 1, none⟩, ⟨some 35, .load 9 (.tmp 34), none⟩, ⟨none, .mapUpdate 78 (.tmp 33) (.tmp 35) (.const (.bool true)), none⟩] := rfl
noncomputable def R19_14 : Array Oper := ((((((((((((((((((((bodyOf Tryz.f19).kid 1).kid 1).kid 1).kid 0).kid 1).kid 0).kid 0).kid 1).kid 1).kid 0).kid 0).kid 1).kid 1).kid 1).kid 0).kid 0).kid 1).kid 1).kid 1).opsOf
theorem v19_14 : R19_14.toList.map sop = [⟨some 36, .binOp .add 3 (.tmp 26) (.const (.int .i64 (1))) 3, none⟩, ⟨some 26, .move (.tmp 36), none⟩] := rfl
noncomputable abbrev L19_0 : Code := (.seq (.region 10 R19_10 false) (.seq (.cond (.tmp 27) .skip (.exit 2)) (.seq (.block 3 (.seq (.region 11 R19_11 false) (.seq (.region 12 R19_12 false) (.cond (.tmp 32) (.region 13 R19_13 false) .skip)))) (.region 14 R19_14 false))))
noncomputable def R19_15 : Array Oper := (((((((((((bodyOf Tryz.f19).kid 1).kid 1).kid 1).kid 0).kid 1).kid 0).kid 0).kid 1).kid 1).kid 1).opsOf
theorem v19_15 : R19_15.toList.map sop = [⟨some 37, .binOp .add 3 (.tmp 15) (.const (.int .i64 (1))) 3, none⟩, ⟨some 15, .move (.tmp 37), none⟩] := rfl
noncomputable abbrev L19_1 : Code := (.seq (.region 5 R19_5 false) (.seq (.cond (.tmp 16) .skip (.exit 0)) (.seq (.block 1 (.seq (.region 6 R19_6 false) (.seq (.seq (.region 7 R19_7 false) (.cond (.tmp 21) (.seq (.region 8 R19_8 false) .ret) .skip)) (.seq (.region 9 R19_9 false) (.block 2 (.loop L19_0)))))) (.region 15 R19_15 false))))
noncomputable def R19_16 : Array Oper := ((((((bodyOf Tryz.f19).kid 1).kid 1).kid 1).kid 1).kid 0).opsOf
theorem v19_16 : R19_16.toList.map sop = [⟨some 38, .fieldAddr 30 (.tmp 1) 0, none⟩, ⟨some 39, .fieldAddr 27 (.tmp 38) 1, none⟩, ⟨some 40, .load 25 (.tmp 39), none⟩, ⟨some 41, .makeFunc (.func 30) #[] #[(.tmp 3)], none⟩, ⟨some 42, .call ⟨.value (.func 29), #[(.tmp 40), (.tmp 41)], #[25, 80]⟩, none⟩, ⟨some 43, .unOp .not 4 (.tmp 42), none⟩, ⟨some 2, .assign (.tmp 43), none⟩] := rfl
theorem body19 : Tryz.f19.body = some (.seq (.region 0 R19_0 false) (.seq (.seq (.region 1 R19_1 false) (.cond (.tmp 10) (.seq (.region 2 R19_2 false) .ret) .skip)) (.seq (.region 3 R19_3 false) (.seq (.seq (.region 4 R19_4 false) (.block 0 (.loop L19_1))) (.seq (.region 16 R19_16 false) .ret))))) := rfl
theorem nt19 : Tryz.f19.ntmps = 44 := rfl
theorem fn19 : Tryz.env.ft.get none 19 = some Tryz.f19 := rfl
theorem sm19 : Tryz.env.sum 19 = none := rfl
theorem fk19 : Tryz.env.fork 19 = false := rfl
theorem res19 : Tryz.f19.results.toList = [.tmp 2] := rfl
noncomputable def R20_0 : Array Oper := ((bodyOf Tryz.f20).kid 0).opsOf
theorem v20_0 : R20_0.toList.map sop = [⟨some 1, .box 30 (.tmp 0), none⟩, ⟨some 2, .alloc 30, none⟩] := rfl
noncomputable def R20_1 : Array Oper := (((bodyOf Tryz.f20).kid 1).kid 0).opsOf
theorem v20_1 : R20_1.toList.map sop = [⟨some 4, .fieldAddr 30 (.tmp 1) 0, none⟩, ⟨some 5, .fieldAddr 27 (.tmp 4) 1, none⟩, ⟨some 6, .load 25 (.tmp 5), none⟩, ⟨some 7, .call ⟨.value (.func 31), #[(.tmp 6)], #[25]⟩, none⟩, ⟨some 8, .fieldAddr 30 (.tmp 1) 0, none⟩, ⟨some 9, .fieldAddr 27 (.tmp 8) 1, none⟩, ⟨none, .store 25 (.tmp 9) (.tmp 7), none⟩] := rfl
noncomputable def R20_2 : Array Oper := ((((bodyOf Tryz.f20).kid 1).kid 1).kid 0).opsOf
theorem v20_2 : R20_2.toList.map sop = [⟨some 10, .fieldAddr 30 (.tmp 1) 1, none⟩, ⟨some 11, .load 28 (.tmp 10), none⟩, ⟨some 12, .call ⟨.value (.func 32), #[(.tmp 11)], #[28]⟩, none⟩, ⟨some 13, .fieldAddr 30 (.tmp 1) 1, none⟩, ⟨none, .store 28 (.tmp 13) (.tmp 12), none⟩] := rfl
noncomputable def R20_3 : Array Oper := ((((((bodyOf Tryz.f20).kid 1).kid 1).kid 1).kid 0).kid 0).opsOf
theorem v20_3 : R20_3.toList.map sop = [⟨some 14, .fieldAddr 30 (.tmp 1) 1, none⟩, ⟨some 15, .load 28 (.tmp 14), none⟩, ⟨some 16, .call ⟨.builtin .len, #[(.tmp 15)], #[28]⟩, none⟩, ⟨some 17, .move (.const (.int .i64 (0))), none⟩] := rfl
noncomputable def R20_4 : Array Oper := (((((((((bodyOf Tryz.f20).kid 1).kid 1).kid 1).kid 0).kid 1).kid 0).kid 0).kid 0).opsOf
theorem v20_4 : R20_4.toList.map sop = [⟨some 18, .binOp .lss 3 (.tmp 17) (.tmp 16) 3, none⟩] := rfl
noncomputable def R20_5 : Array Oper := (((((((((((((bodyOf Tryz.f20).kid 1).kid 1).kid 1).kid 0).kid 1).kid 0).kid 0).kid 1).kid 1).kid 0).kid 0).kid 0).opsOf
theorem v20_5 : R20_5.toList.map sop = [⟨some 19, .move (.tmp 17), none⟩, ⟨some 3, .assign (.tmp 19), none⟩] := rfl
noncomputable def R20_6 : Array Oper := (((((((((((((bodyOf Tryz.f20).kid 1).kid 1).kid 1).kid 0).kid 1).kid 0).kid 0).kid 1).kid 1).kid 0).kid 0).kid 1).opsOf
theorem v20_6 : R20_6.toList.map sop = [⟨some 20, .fieldAddr 30 (.tmp 1) 1, none⟩, ⟨some 21, .load 28 (.tmp 20), none⟩, ⟨some 22, .move (.tmp 3), none⟩, ⟨some 23, .fieldAddr 30 (.tmp 1) 1, none⟩, ⟨some 24, .load 28 (.tmp 23), none⟩, ⟨some 25, .move (.tmp 3), none⟩, ⟨some 26, .indexAddr 28 (.tmp 24) (.tmp 25), none⟩, ⟨some 27, .fieldAddr 55 (.tmp 26) 1, none⟩, ⟨some 28, .fieldAddr 27 (.tmp 27) 1, none⟩, ⟨some 29, .load 25 (.tmp 28), none⟩, ⟨some 30, .call ⟨.value (.func 31), #[(.tmp 29)], #[25]⟩, none⟩, ⟨some 31, .indexAddr 28 (.tmp 21) (.tmp 22), none⟩, ⟨some 32, .fieldAddr 55 (.tmp 31) 1, none⟩, ⟨some 33, .fieldAddr 27 (.tmp 32) 1, none⟩, ⟨none, .store 25 (.tmp 33) (.tmp 30), none⟩] := rfl
theorem w20_6 : (trs R20_6.toList 0 (.full 0 8)).map top = [⟨0, ⟨some 20, .fieldAddr 30 (.tmp 1) 1, none⟩, 0⟩, ⟨1, ⟨some 21, .load 28 (.tmp 20), none⟩, 1⟩, ⟨2, ⟨some 22, .move (.tmp 3), none⟩, 0⟩, ⟨3, ⟨some 23, .fieldAddr 30 (.tmp 1) 1, none⟩, 0⟩, ⟨4, ⟨some 24, .load 28 (.tmp 23), none⟩, 8⟩, ⟨5, ⟨some 25, .move (.tmp 3), none⟩, 0⟩, ⟨6, ⟨some 26, .indexAddr 28 (.tmp 24) (.tmp 25), none⟩, 56⟩, ⟨7, ⟨some 27, .fieldAddr 55 (.tmp 26) 1, none⟩, 120⟩, ⟨8, ⟨some 28, .fieldAddr 27 (.tmp 27) 1, none⟩, 248⟩, ⟨9, ⟨some 29, .load 25 (.tmp 28), none⟩, 504⟩, ⟨10, ⟨some 30, .call ⟨.value (.func 31), #[(.tmp 29)], #[25]⟩, none⟩, 1016⟩, ⟨11, ⟨some 31, .indexAddr 28 (.tmp 21) (.tmp 22), none⟩, 2047⟩, ⟨12, ⟨some 32, .fieldAddr 55 (.tmp 31) 1, none⟩, 4095⟩, ⟨13, ⟨some 33, .fieldAddr 27 (.tmp 32) 1, none⟩, 8191⟩, ⟨14, ⟨none, .store 25 (.tmp 33) (.tmp 30), none⟩, 16383⟩] := rfl
noncomputable def R20_7 : Array Oper := (((((((((((bodyOf Tryz.f20).kid 1).kid 1).kid 1).kid 0).kid 1).kid 0).kid 0).kid 1).kid 1).kid 1).opsOf
theorem v20_7 : R20_7.toList.map sop = [⟨some 34, .binOp .add 3 (.tmp 17) (.const (.int .i64 (1))) 3, none⟩, ⟨some 17, .move (.tmp 34), none⟩] := rfl
noncomputable abbrev L20_0 : Code := (.seq (.region 4 R20_4 false) (.seq (.cond (.tmp 18) .skip (.exit 0)) (.seq (.block 1 (.seq (.region 5 R20_5 false) (.region 6 R20_6 true))) (.region 7 R20_7 false))))
noncomputable def R20_8 : Array Oper := ((((((bodyOf Tryz.f20).kid 1).kid 1).kid 1).kid 1).kid 0).opsOf
theorem v20_8 : R20_8.toList.map sop = [⟨some 35, .load 30 (.tmp 1), none⟩, ⟨none, .store 30 (.tmp 2) (.tmp 35), none⟩] := rfl
theorem body20 : Tryz.f20.body = some (.seq (.region 0 R20_0 false) (.seq (.region 1 R20_1 false) (.seq (.region 2 R20_2 false) (.seq (.seq (.region 3 R20_3 false) (.block 0 (.loop L20_0))) (.seq (.region 8 R20_8 false) .ret))))) := rfl
theorem nt20 : Tryz.f20.ntmps = 36 := rfl
theorem fn20 : Tryz.env.ft.get none 20 = some Tryz.f20 := rfl
theorem sm20 : Tryz.env.sum 20 = none := rfl
theorem fk20 : Tryz.env.fork 20 = false := rfl
theorem res20 : Tryz.f20.results.toList = [.cell 2 30] := rfl
noncomputable def R21_0 : Array Oper := ((bodyOf Tryz.f21).kid 0).opsOf
theorem v21_0 : R21_0.toList.map sop = [⟨some 2, .assign (.const (.slice none 0 0)), none⟩] := rfl
noncomputable def R21_1 : Array Oper := (((bodyOf Tryz.f21).kid 1).kid 0).opsOf
theorem v21_1 : R21_1.toList.map sop = [⟨some 3, .assign (.const (.int .i64 (0))), none⟩] := rfl
noncomputable def R21_2 : Array Oper := (((((bodyOf Tryz.f21).kid 1).kid 1).kid 0).kid 0).opsOf
theorem v21_2 : R21_2.toList.map sop = [⟨some 9, .move (.tmp 0), none⟩, ⟨some 10, .call ⟨.builtin .len, #[(.tmp 9)], #[83]⟩, none⟩, ⟨some 11, .move (.const (.int .i64 (0))), none⟩] := rfl
noncomputable def R21_3 : Array Oper := ((((((((bodyOf Tryz.f21).kid 1).kid 1).kid 0).kid 1).kid 0).kid 0).kid 0).opsOf
theorem v21_3 : R21_3.toList.map sop = [⟨some 12, .binOp .lss 3 (.tmp 11) (.tmp 10) 3, none⟩] := rfl
noncomputable def R21_4 : Array Oper := ((((((((((((bodyOf Tryz.f21).kid 1).kid 1).kid 0).kid 1).kid 0).kid 0).kid 1).kid 1).kid 0).kid 0).kid 0).opsOf
theorem v21_4 : R21_4.toList.map sop = [⟨some 13, .indexAddr 83 (.tmp 9) (.tmp 11), none⟩, ⟨some 14, .load 28 (.tmp 13), none⟩, ⟨some 5, .assign (.tmp 14), none⟩] := rfl
noncomputable def R21_5 : Array Oper := (((((((((((((bodyOf Tryz.f21).kid 1).kid 1).kid 0).kid 1).kid 0).kid 0).kid 1).kid 1).kid 0).kid 0).kid 1).kid 0).opsOf
theorem v21_5 : R21_5.toList.map sop = [⟨some 15, .move (.tmp 3), none⟩, ⟨some 16, .move (.tmp 5), none⟩, ⟨some 17, .call ⟨.builtin .len, #[(.tmp 16)], #[28]⟩, none⟩, ⟨some 18, .binOp .add 3 (.tmp 15) (.tmp 17) 3, none⟩, ⟨some 3, .assign (.tmp 18), none⟩] := rfl
noncomputable def R21_6 : Array Oper := ((((((((((((((bodyOf Tryz.f21).kid 1).kid 1).kid 0).kid 1).kid 0).kid 0).kid 1).kid 1).kid 0).kid 0).kid 1).kid 1).kid 0).opsOf
theorem v21_6 : R21_6.toList.map sop = [⟨some 19, .move (.tmp 3), none⟩, ⟨some 20, .binOp .lss 3 (.tmp 19) (.const (.int .i64 (0))) 3, none⟩] := rfl
noncomputable def R21_7 : Array Oper := (((((((((((((((bodyOf Tryz.f21).kid 1).kid 1).kid 0).kid 1).kid 0).kid 0).kid 1).kid 1).kid 0).kid 0).kid 1).kid 1).kid 1).kid 0).opsOf
noncomputable def R21_8 : Array Oper := ((((((((((bodyOf Tryz.f21).kid 1).kid 1).kid 0).kid 1).kid 0).kid 0).kid 1).kid 1).kid 1).opsOf
theorem v21_8 : R21_8.toList.map sop = [⟨some 22, .binOp .add 3 (.tmp 11) (.const (.int .i64 (1))) 3, none⟩, ⟨some 11, .move (.tmp 22), none⟩] := rfl
noncomputable abbrev L21_0 : Code := (.seq (.region 3 R21_3 false) (.seq (.cond (.tmp 12) .skip (.exit 0)) (.seq (.block 1 (.seq (.region 4 R21_4 false) (.seq (.region 5 R21_5 false) (.seq (.region 6 R21_6 false) (.cond (.tmp 20) (.region 7 R21_7 false) .skip))))) (.region 8 R21_8 false))))
noncomputable def R21_9 : Array Oper := (((((bodyOf Tryz.f21).kid 1).kid 1).kid 1).kid 0).opsOf
theorem v21_9 : R21_9.toList.map sop = [⟨some 23, .move (.tmp 3), none⟩, ⟨some 24, .call ⟨.value (.func 33), #[(.const (.slice none 0 0)), (.tmp 23)], #[28, 3]⟩, none⟩, ⟨some 6, .assign (.tmp 24), none⟩] := rfl
noncomputable def R21_10 : Array Oper := (((((((bodyOf Tryz.f21).kid 1).kid 1).kid 1).kid 1).kid 0).kid 0).opsOf
theorem v21_10 : R21_10.toList.map sop = [⟨some 25, .move (.tmp 0), none⟩, ⟨some 26, .call ⟨.builtin .len, #[(.tmp 25)], #[83]⟩, none⟩, ⟨some 27, .move (.const (.int .i64 (0))), none⟩] := rfl
noncomputable def R21_11 : Array Oper := ((((((((((bodyOf Tryz.f21).kid 1).kid 1).kid 1).kid 1).kid 0).kid 1).kid 0).kid 0).kid 0).opsOf
theorem v21_11 : R21_11.toList.map sop = [⟨some 28, .binOp .lss 3 (.tmp 27) (.tmp 26) 3, none⟩] := rfl
noncomputable def R21_12 : Array Oper := ((((((((((((((bodyOf Tryz.f21).kid 1).kid 1).kid 1).kid 1).kid 0).kid 1).kid 0).kid 0).kid 1).kid 1).kid 0).kid 0).kid 0).opsOf
theorem v21_12 : R21_12.toList.map sop = [⟨some 29, .indexAddr 83 (.tmp 25) (.tmp 27), none⟩, ⟨some 30, .load 28 (.tmp 29), none⟩, ⟨some 8, .assign (.tmp 30), none⟩] := rfl
noncomputable def R21_13 : Array Oper := ((((((((((((((bodyOf Tryz.f21).kid 1).kid 1).kid 1).kid 1).kid 0).kid 1).kid 0).kid 0).kid 1).kid 1).kid 0).kid 0).kid 1).opsOf
theorem v21_13 : R21_13.toList.map sop = [⟨some 31, .move (.tmp 6), none⟩, ⟨some 32, .move (.tmp 8), none⟩, ⟨some 33, .call ⟨.builtin .append, #[(.tmp 31), (.tmp 32)], #[28, 28]⟩, none⟩, ⟨some 6, .assign (.tmp 33), none⟩] := rfl
noncomputable def R21_14 : Array Oper := ((((((((((((bodyOf Tryz.f21).kid 1).kid 1).kid 1).kid 1).kid 0).kid 1).kid 0).kid 0).kid 1).kid 1).kid 1).opsOf
theorem v21_14 : R21_14.toList.map sop = [⟨some 34, .binOp .add 3 (.tmp 27) (.const (.int .i64 (1))) 3, none⟩, ⟨some 27, .move (.tmp 34), none⟩] := rfl
noncomputable abbrev L21_1 : Code := (.seq (.region 11 R21_11 false) (.seq (.cond (.tmp 28) .skip (.exit 2)) (.seq (.block 3 (.seq (.region 12 R21_12 false) (.region 13 R21_13 false))) (.region 14 R21_14 false))))
noncomputable def R21_15 : Array Oper := (((((((bodyOf Tryz.f21).kid 1).kid 1).kid 1).kid 1).kid 1).kid 0).opsOf
theorem v21_15 : R21_15.toList.map sop = [⟨some 35, .move (.tmp 6), none⟩, ⟨some 2, .assign (.tmp 35), none⟩] := rfl
theorem body21 : Tryz.f21.body = some (.seq (.region 0 R21_0 false) (.seq (.region 1 R21_1 false) (.seq (.seq (.region 2 R21_2 false) (.block 0 (.loop L21_0))) (.seq (.region 9 R21_9 false) (.seq (.seq (.region 10 R21_10 false) (.block 2 (.loop L21_1))) (.seq (.region 15 R21_15 false) .ret)))))) := rfl
theorem nt21 : Tryz.f21.ntmps = 36 := rfl
theorem fn21 : Tryz.env.ft.get none 21 = some Tryz.f21 := rfl
theorem sm21 : Tryz.env.sum 21 = none := rfl
theorem fk21 : Tryz.env.fork 21 = false := rfl
theorem res21 : Tryz.f21.results.toList = [.tmp 2] := rfl
noncomputable def R25_0 : Array Oper := ((bodyOf Tryz.f25).kid 0).opsOf
theorem v25_0 : R25_0.toList.map sop = [⟨some 5, .box 27 (.tmp 1), none⟩, ⟨some 6, .box 27 (.tmp 2), none⟩, ⟨some 8, .assign (.const (.slice none 0 0)), none⟩, ⟨some 9, .assign (.const (.bool false)), none⟩] := rfl
noncomputable def R25_1 : Array Oper := ((((bodyOf Tryz.f25).kid 1).kid 0).kid 0).opsOf
theorem v25_1 : R25_1.toList.map sop = [⟨some 17, .fieldAddr 27 (.tmp 5) 0, none⟩, ⟨some 18, .load 9 (.tmp 17), none⟩, ⟨some 19, .fieldAddr 27 (.tmp 6) 0, none⟩, ⟨some 20, .load 9 (.tmp 19), none⟩, ⟨some 21, .binOp .neq 9 (.tmp 18) (.tmp 20) 9, none⟩, ⟨some 22, .move (.tmp 21), none⟩, ⟨some 23, .fieldAddr 27 (.tmp 5) 1, some (5, false)⟩, ⟨some 24, .load 25 (.tmp 23), some (5, false)⟩, ⟨some 25, .call ⟨.builtin .len, #[(.tmp 24)], #[25]⟩, some (5, false)⟩, ⟨some 26, .fieldAddr 27 (.tmp 6) 1, some (5, false)⟩, ⟨some 27, .load 25 (.tmp 26), some (5, false)⟩, ⟨some 28, .call ⟨.builtin .len, #[(.tmp 27)], #[25]⟩, some (5, false)⟩, ⟨some 29, .binOp .neq 3 (.tmp 25) (.tmp 28) 3, some (5, false)⟩, ⟨some 30, .pick (.tmp 22) (.const (.bool true)) (.tmp 29), none⟩] := rfl
noncomputable def R25_2 : Array Oper := ((((((bodyOf Tryz.f25).kid 1).kid 0).kid 1).kid 0).kid 0).opsOf
theorem v25_2 : R25_2.toList.map sop = [⟨some 8, .assign (.const (.slice none 0 0)), none⟩, ⟨some 9, .assign (.const (.bool false)), none⟩] := rfl
noncomputable def R25_3 : Array Oper := ((((bodyOf Tryz.f25).kid 1).kid 1).kid 0).opsOf
theorem v25_3 : R25_3.toList.map sop = [⟨some 10, .assign (.const (.slice none 0 0)), none⟩] := rfl
noncomputable def R25_4 : Array Oper := ((((((bodyOf Tryz.f25).kid 1).kid 1).kid 1).kid 0).kid 0).opsOf
theorem v25_4 : R25_4.toList.map sop = [⟨some 31, .fieldAddr 27 (.tmp 5) 1, none⟩, ⟨some 32, .load 25 (.tmp 31), none⟩, ⟨some 33, .call ⟨.builtin .len, #[(.tmp 32)], #[25]⟩, none⟩, ⟨some 34, .move (.const (.int .i64 (0))), none⟩] := rfl
noncomputable def R25_5 : Array Oper := (((((((((bodyOf Tryz.f25).kid 1).kid 1).kid 1).kid 0).kid 1).kid 0).kid 0).kid 0).opsOf
theorem v25_5 : R25_5.toList.map sop = [⟨some 35, .binOp .lss 3 (.tmp 34) (.tmp 33) 3, none⟩] := rfl
noncomputable def R25_6 : Array Oper := (((((((((((((bodyOf Tryz.f25).kid 1).kid 1).kid 1).kid 0).kid 1).kid 0).kid 0).kid 1).kid 1).kid 0).kid 0).kid 0).opsOf
theorem v25_6 : R25_6.toList.map sop = [⟨some 36, .move (.tmp 34), none⟩, ⟨some 37, .indexAddr 25 (.tmp 32) (.tmp 34), none⟩, ⟨some 38, .load 51 (.tmp 37), none⟩, ⟨some 12, .alloc 51, none⟩, ⟨some 11, .assign (.tmp 36), none⟩, ⟨none, .store 51 (.tmp 12) (.tmp 38), none⟩] := rfl
noncomputable def R25_7 : Array Oper := ((((((((((((((bodyOf Tryz.f25).kid 1).kid 1).kid 1).kid 0).kid 1).kid 0).kid 0).kid 1).kid 1).kid 0).kid 0).kid 1).kid 0).opsOf
theorem v25_7 : R25_7.toList.map sop = [⟨some 39, .fieldAddr 27 (.tmp 6) 1, none⟩, ⟨some 40, .load 25 (.tmp 39), none⟩, ⟨some 41, .move (.tmp 11), none⟩, ⟨some 42, .indexAddr 25 (.tmp 40) (.tmp 41), none⟩, ⟨some 43, .load 51 (.tmp 42), none⟩, ⟨some 44, .build 113 #[(0, (.tmp 43))], none⟩, ⟨some 13, .alloc 113, none⟩, ⟨none, .store 113 (.tmp 13) (.tmp 44), none⟩] := rfl
noncomputable def R25_8 : Array Oper := ((((((((((((((((bodyOf Tryz.f25).kid 1).kid 1).kid 1).kid 0).kid 1).kid 0).kid 0).kid 1).kid 1).kid 0).kid 0).kid 1).kid 1).kid 0).kid 0).opsOf
theorem v25_8 : R25_8.toList.map sop = [⟨some 45, .fieldAddr 113 (.tmp 13) 0, none⟩, ⟨some 46, .fieldAddr 51 (.tmp 45) 0, none⟩, ⟨some 47, .load 3 (.tmp 46), none⟩, ⟨some 48, .binOp .eql 3 (.tmp 47) (.const (.int .i64 (2))) 3, none⟩] := rfl
noncomputable def R25_9 : Array Oper := (((((((((((((((((bodyOf Tryz.f25).kid 1).kid 1).kid 1).kid 0).kid 1).kid 0).kid 0).kid 1).kid 1).kid 0).kid 0).kid 1).kid 1).kid 0).kid 1).kid 0).opsOf
theorem v25_9 : R25_9.toList.map sop = [⟨some 49, .move (.tmp 3), none⟩, ⟨some 50, .move (.tmp 11), none⟩, ⟨some 51, .fieldAddr 113 (.tmp 13) 1, none⟩, ⟨none, .store 3 (.tmp 51) (.tmp 49), none⟩, ⟨some 52, .fieldAddr 113 (.tmp 13) 2, none⟩, ⟨none, .store 3 (.tmp 52) (.tmp 50), none⟩] := rfl
noncomputable def R25_10 : Array Oper := ((((((((((((((((bodyOf Tryz.f25).kid 1).kid 1).kid 1).kid 0).kid 1).kid 0).kid 0).kid 1).kid 1).kid 0).kid 0).kid 1).kid 1).kid 1).kid 0).opsOf
theorem v25_10 : R25_10.toList.map sop = [⟨some 14, .assign (.const (.bool true)), none⟩] := rfl
noncomputable def R25_11 : Array Oper := ((((((((((((((((((bodyOf Tryz.f25).kid 1).kid 1).kid 1).kid 0).kid 1).kid 0).kid 0).kid 1).kid 1).kid 0).kid 0).kid 1).kid 1).kid 1).kid 1).kid 0).kid 0).opsOf
theorem v25_11 : R25_11.toList.map sop = [⟨some 53, .fieldAddr 51 (.tmp 12) 0, none⟩, ⟨some 54, .load 3 (.tmp 53), none⟩] := rfl
noncomputable def R25_12 : Array Oper := ((((((((((((((((((((bodyOf Tryz.f25).kid 1).kid 1).kid 1).kid 0).kid 1).kid 0).kid 0).kid 1).kid 1).kid 0).kid 0).kid 1).kid 1).kid 1).kid 1).kid 0).kid 1).kid 0).kid 0).opsOf
theorem v25_12 : R25_12.toList.map sop = [⟨some 56, .binOp .eql 3 (.tmp 54) (.const (.int .i64 (3))) 3, none⟩, ⟨some 55, .assign (.tmp 56), none⟩] := rfl
noncomputable def R25_13 : Array Oper := (((((((((((((((((((((bodyOf Tryz.f25).kid 1).kid 1).kid 1).kid 0).kid 1).kid 0).kid 0).kid 1).kid 1).kid 0).kid 0).kid 1).kid 1).kid 1).kid 1).kid 0).kid 1).kid 0).kid 1).kid 0).opsOf
theorem v25_13 : R25_13.toList.map sop = [⟨some 57, .fieldAddr 113 (.tmp 13) 0, none⟩, ⟨some 58, .load 51 (.tmp 57), none⟩, ⟨some 59, .load 51 (.tmp 12), none⟩, ⟨some 60, .binOp .eql 51 (.tmp 58) (.tmp 59) 51, none⟩, ⟨some 14, .assign (.tmp 60), none⟩] := rfl
noncomputable def R25_14 : Array Oper := ((((((((((((((((((((((bodyOf Tryz.f25).kid 1).kid 1).kid 1).kid 0).kid 1).kid 0).kid 0).kid 1).kid 1).kid 0).kid 0).kid 1).kid 1).kid 1).kid 1).kid 0).kid 1).kid 0).kid 1).kid 1).kid 0).opsOf
theorem v25_14 : R25_14.toList.map sop = [⟨some 62, .binOp .eql 3 (.tmp 54) (.const (.int .i64 (1))) 3, none⟩, ⟨some 61, .assign (.tmp 62), none⟩] := rfl
noncomputable def R25_15 : Array Oper := ((((((((((((((((((((((((bodyOf Tryz.f25).kid 1).kid 1).kid 1).kid 0).kid 1).kid 0).kid 0).kid 1).kid 1).kid 0).kid 0).kid 1).kid 1).kid 1).kid 1).kid 0).kid 1).kid 0).kid 1).kid 1).kid 1).kid 0).kid 0).opsOf
theorem v25_15 : R25_15.toList.map sop = [⟨some 64, .move (.tmp 0), none⟩, ⟨some 65, .fieldAddr 51 (.tmp 12) 1, none⟩, ⟨some 66, .load 9 (.tmp 65), none⟩, ⟨some 67, .lookup 72 (.tmp 64) (.tmp 66) true, none⟩, ⟨some 63, .move (.tmp 67), none⟩, ⟨some 68, .extract (.tmp 63) 0, none⟩, ⟨some 69, .extract (.tmp 63) 1, none⟩, ⟨some 15, .alloc 113, none⟩, ⟨none, .store 113 (.tmp 15) (.tmp 68), none⟩, ⟨some 16, .assign (.tmp 69), none⟩] := rfl
noncomputable def R25_16 : Array Oper := ((((((((((((((((((((((((((bodyOf Tryz.f25).kid 1).kid 1).kid 1).kid 0).kid 1).kid 0).kid 0).kid 1).kid 1).kid 0).kid 0).kid 1).kid 1).kid 1).kid 1).kid 0).kid 1).kid 0).kid 1).kid 1).kid 1).kid 0).kid 1).kid 0).kid 0).opsOf
theorem v25_16 : R25_16.toList.map sop = [⟨some 70, .move (.tmp 16), none⟩, ⟨some 71, .unOp .not 4 (.tmp 70), none⟩] := rfl
noncomputable def R25_17 : Array Oper := ((((((((((((((((((((((((((((bodyOf Tryz.f25).kid 1).kid 1).kid 1).kid 0).kid 1).kid 0).kid 0).kid 1).kid 1).kid 0).kid 0).kid 1).kid 1).kid 1).kid 1).kid 0).kid 1).kid 0).kid 1).kid 1).kid 1).kid 0).kid 1).kid 0).kid 1).kid 0).kid 0).opsOf
theorem v25_17 : R25_17.toList.map sop = [⟨some 72, .move (.tmp 0), none⟩, ⟨some 73, .fieldAddr 51 (.tmp 12) 1, none⟩, ⟨some 74, .load 9 (.tmp 73), none⟩, ⟨some 75, .load 113 (.tmp 13), none⟩, ⟨none, .mapUpdate 72 (.tmp 72) (.tmp 74) (.tmp 75), none⟩] := rfl
noncomputable def R25_18 : Array Oper := ((((((((((((((((((((((((((((bodyOf Tryz.f25).kid 1).kid 1).kid 1).kid 0).kid 1).kid 0).kid 0).kid 1).kid 1).kid 0).kid 0).kid 1).kid 1).kid 1).kid 1).kid 0).kid 1).kid 0).kid 1).kid 1).kid 1).kid 0).kid 1).kid 0).kid 1).kid 0).kid 1).opsOf
theorem v25_18 : R25_18.toList.map sop = [⟨some 76, .move (.tmp 10), none⟩, ⟨some 77, .fieldAddr 51 (.tmp 12) 1, none⟩, ⟨some 78, .load 9 (.tmp 77), none⟩, ⟨some 79, .buildSlice 41 1 #[(0, (.tmp 78))], none⟩, ⟨some 80, .call ⟨.builtin .append, #[(.tmp 76), (.tmp 79)], #[41, 41]⟩, none⟩, ⟨some 10, .assign (.tmp 80), none⟩] := rfl
noncomputable def R25_19 : Array Oper := (((((((((((((((((((((((((bodyOf Tryz.f25).kid 1).kid 1).kid 1).kid 0).kid 1).kid 0).kid 0).kid 1).kid 1).kid 0).kid 0).kid 1).kid 1).kid 1).kid 1).kid 0).kid 1).kid 0).kid 1).kid 1).kid 1).kid 0).kid 1).kid 1).opsOf
theorem v25_19 : R25_19.toList.map sop = [⟨some 81, .move (.tmp 16), none⟩, ⟨some 82, .unOp .not 4 (.tmp 81), none⟩, ⟨some 83, .move (.tmp 82), none⟩, ⟨some 84, .load 113 (.tmp 15), some (2, false)⟩, ⟨some 85, .load 113 (.tmp 13), some (2, false)⟩, ⟨some 86, .binOp .eql 113 (.tmp 84) (.tmp 85) 113, some (2, false)⟩, ⟨some 87, .pick (.tmp 83) (.const (.bool true)) (.tmp 86), none⟩, ⟨some 14, .assign (.tmp 87), none⟩] := rfl
noncomputable def R25_20 : Array Oper := ((((((((((((((((((bodyOf Tryz.f25).kid 1).kid 1).kid 1).kid 0).kid 1).kid 0).kid 0).kid 1).kid 1).kid 0).kid 0).kid 1).kid 1).kid 1).kid 1).kid 1).kid 0).opsOf
theorem v25_20 : R25_20.toList.map sop = [⟨some 88, .move (.tmp 14), none⟩, ⟨some 89, .unOp .not 4 (.tmp 88), none⟩] := rfl
noncomputable def R25_21 : Array Oper := ((((((((((((((((((((bodyOf Tryz.f25).kid 1).kid 1).kid 1).kid 0).kid 1).kid 0).kid 0).kid 1).kid 1).kid 0).kid 0).kid 1).kid 1).kid 1).kid 1).kid 1).kid 1).kid 0).kid 0).opsOf
theorem v25_21 : R25_21.toList.map sop = [⟨some 90, .move (.tmp 0), none⟩, ⟨some 91, .move (.tmp 10), none⟩, ⟨some 92, .call ⟨.value (.func 26), #[(.tmp 90), (.tmp 91)], #[72, 41]⟩, none⟩] := rfl
noncomputable def R25_22 : Array Oper := (((((((((((((((((((((bodyOf Tryz.f25).kid 1).kid 1).kid 1).kid 0).kid 1).kid 0).kid 0).kid 1).kid 1).kid 0).kid 0).kid 1).kid 1).kid 1).kid 1).kid 1).kid 1).kid 0).kid 1).kid 0).opsOf
theorem v25_22 : R25_22.toList.map sop = [⟨some 8, .assign (.const (.slice none 0 0)), none⟩, ⟨some 9, .assign (.const (.bool false)), none⟩] := rfl
noncomputable def R25_23 : Array Oper := (((((((((((bodyOf Tryz.f25).kid 1).kid 1).kid 1).kid 0).kid 1).kid 0).kid 0).kid 1).kid 1).kid 1).opsOf
theorem v25_23 : R25_23.toList.map sop = [⟨some 93, .binOp .add 3 (.tmp 34) (.const (.int .i64 (1))) 3, none⟩, ⟨some 34, .move (.tmp 93), none⟩] := rfl
noncomputable abbrev L25_0 : Code := (.seq (.region 5 R25_5 false) (.seq (.cond (.tmp 35) .skip (.exit 0)) (.seq (.block 1 (.seq (.region 6 R25_6 false) (.seq (.region 7 R25_7 false) (.seq (.seq (.region 8 R25_8 false) (.cond (.tmp 48) (.region 9 R25_9 false) .skip)) (.seq (.region 10 R25_10 false) (.seq (.seq (.region 11 R25_11 false) (.block 2 (.seq (.region 12 R25_12 false) (.cond (.tmp 55) (.region 13 R25_13 false) (.seq (.region 14 R25_14 false) (.cond (.tmp 61) (.seq (.region 15 R25_15 false) (.seq (.seq (.region 16 R25_16 false) (.cond (.tmp 71) (.seq (.region 17 R25_17 false) (.region 18 R25_18 false)) .skip)) (.region 19 R25_19 false))) .skip)))))) (.seq (.region 20 R25_20 false) (.cond (.tmp 89) (.seq (.region 21 R25_21 false) (.seq (.region 22 R25_22 false) .ret)) .skip)))))))) (.region 23 R25_23 false))))
noncomputable def R25_24 : Array Oper := ((((((bodyOf Tryz.f25).kid 1).kid 1).kid 1).kid 1).kid 0).opsOf
theorem v25_24 : R25_24.toList.map sop = [⟨some 94, .move (.tmp 10), none⟩, ⟨some 8, .assign (.tmp 94), none⟩, ⟨some 9, .assign (.const (.bool true)), none⟩] := rfl
theorem body25 : Tryz.f25.body = some (.seq (.region 0 R25_0 false) (.seq (.seq (.region 1 R25_1 false) (.cond (.tmp 30) (.seq (.region 2 R25_2 false) .ret) .skip)) (.seq (.region 3 R25_3 false) (.seq (.seq (.region 4 R25_4 false) (.block 0 (.loop L25_0))) (.seq (.region 24 R25_24 false) .ret))))) := rfl
theorem nt25 : Tryz.f25.ntmps = 95 := rfl
theorem fn25 : Tryz.env.ft.get none 25 = some Tryz.f25 := rfl
theorem sm25 : Tryz.env.sum 25 = none := rfl
theorem fk25 : Tryz.env.fork 25 = false := rfl
theorem res25 : Tryz.f25.results.toList = [.tmp 8, .tmp 9] := rfl
noncomputable def R26_0 : Array Oper := ((bodyOf Tryz.f26).kid 0).opsOf
theorem v26_0 : R26_0.toList.map sop = [⟨some 6, .move (.tmp 1), none⟩, ⟨some 7, .call ⟨.builtin .len, #[(.tmp 6)], #[41]⟩, none⟩, ⟨some 8, .move (.const (.int .i64 (0))), none⟩] := rfl
noncomputable def R26_1 : Array Oper := (((((bodyOf Tryz.f26).kid 1).kid 0).kid 0).kid 0).opsOf
theorem v26_1 : R26_1.toList.map sop = [⟨some 9, .binOp .lss 3 (.tmp 8) (.tmp 7) 3, none⟩] := rfl
noncomputable def R26_2 : Array Oper := (((((((((bodyOf Tryz.f26).kid 1).kid 0).kid 0).kid 1).kid 1).kid 0).kid 0).kid 0).opsOf
theorem v26_2 : R26_2.toList.map sop = [⟨some 10, .indexAddr 41 (.tmp 6) (.tmp 8), none⟩, ⟨some 11, .load 9 (.tmp 10), none⟩, ⟨some 5, .assign (.tmp 11), none⟩] := rfl
noncomputable def R26_3 : Array Oper := (((((((((bodyOf Tryz.f26).kid 1).kid 0).kid 0).kid 1).kid 1).kid 0).kid 0).kid 1).opsOf
theorem v26_3 : R26_3.toList.map sop = [⟨some 12, .move (.tmp 0), none⟩, ⟨some 13, .move (.tmp 5), none⟩, ⟨none, .call ⟨.builtin .delete, #[(.tmp 12), (.tmp 13)], #[72, 9]⟩, none⟩] := rfl
noncomputable def R26_4 : Array Oper := (((((((bodyOf Tryz.f26).kid 1).kid 0).kid 0).kid 1).kid 1).kid 1).opsOf
theorem v26_4 : R26_4.toList.map sop = [⟨some 14, .binOp .add 3 (.tmp 8) (.const (.int .i64 (1))) 3, none⟩, ⟨some 8, .move (.tmp 14), none⟩] := rfl
noncomputable abbrev L26_0 : Code := (.seq (.region 1 R26_1 false) (.seq (.cond (.tmp 9) .skip (.exit 0)) (.seq (.block 1 (.seq (.region 2 R26_2 false) (.region 3 R26_3 false))) (.region 4 R26_4 false))))
theorem body26 : Tryz.f26.body = some (.seq (.region 0 R26_0 false) (.block 0 (.loop L26_0))) := rfl
theorem nt26 : Tryz.f26.ntmps = 15 := rfl
theorem fn26 : Tryz.env.ft.get none 26 = some Tryz.f26 := rfl
theorem sm26 : Tryz.env.sum 26 = none := rfl
theorem fk26 : Tryz.env.fork 26 = false := rfl
theorem res26 : Tryz.f26.results.toList = [] := rfl
noncomputable def R27_0 : Array Oper := ((bodyOf Tryz.f27).kid 0).opsOf
theorem v27_0 : R27_0.toList.map sop = [⟨some 2, .box 27 (.tmp 0), none⟩, ⟨some 4, .assign (.const (.int .i64 (0))), none⟩] := rfl
noncomputable def R27_1 : Array Oper := ((((bodyOf Tryz.f27).kid 1).kid 0).kid 0).opsOf
theorem v27_1 : R27_1.toList.map sop = [⟨some 9, .fieldAddr 27 (.tmp 2) 0, none⟩, ⟨some 10, .load 9 (.tmp 9), none⟩, ⟨some 11, .call ⟨.value (.func 46), #[(.tmp 10), (.const (.int .i64 (1)))], #[9, 3]⟩, none⟩, ⟨some 5, .assign (.tmp 11), none⟩] := rfl
noncomputable def R27_2 : Array Oper := (((((bodyOf Tryz.f27).kid 1).kid 0).kid 1).kid 0).opsOf
theorem v27_2 : R27_2.toList.map sop = [⟨some 12, .move (.tmp 5), none⟩, ⟨some 13, .binOp .neq 32 (.tmp 12) (.const (.int .i64 (0))) 32, none⟩] := rfl
noncomputable def R27_3 : Array Oper := (((((((bodyOf Tryz.f27).kid 1).kid 0).kid 1).kid 1).kid 0).kid 0).opsOf
theorem v27_3 : R27_3.toList.map sop = [⟨some 14, .move (.tmp 5), none⟩, ⟨some 4, .assign (.tmp 14), none⟩] := rfl
noncomputable def R27_4 : Array Oper := (((((bodyOf Tryz.f27).kid 1).kid 1).kid 0).kid 0).opsOf
theorem v27_4 : R27_4.toList.map sop = [⟨some 15, .fieldAddr 27 (.tmp 2) 1, none⟩, ⟨some 16, .load 25 (.tmp 15), none⟩, ⟨some 17, .call ⟨.builtin .len, #[(.tmp 16)], #[25]⟩, none⟩, ⟨some 18, .binOp .gtr 3 (.tmp 17) (.const (.int .i64 (64))) 3, none⟩] := rfl
noncomputable def R27_5 : Array Oper := (((((((bodyOf Tryz.f27).kid 1).kid 1).kid 0).kid 1).kid 0).kid 0).opsOf
theorem v27_5 : R27_5.toList.map sop = [⟨some 4, .assign (.const (.int .i64 (83))), none⟩] := rfl
noncomputable def R27_6 : Array Oper := ((((((bodyOf Tryz.f27).kid 1).kid 1).kid 1).kid 0).kid 0).opsOf
theorem v27_6 : R27_6.toList.map sop = [⟨some 19, .fieldAddr 27 (.tmp 2) 1, none⟩, ⟨some 20, .load 25 (.tmp 19), none⟩, ⟨some 21, .call ⟨.builtin .len, #[(.tmp 20)], #[25]⟩, none⟩, ⟨some 22, .move (.const (.int .i64 (0))), none⟩] := rfl
noncomputable def R27_7 : Array Oper := (((((((((bodyOf Tryz.f27).kid 1).kid 1).kid 1).kid 0).kid 1).kid 0).kid 0).kid 0).opsOf
theorem v27_7 : R27_7.toList.map sop = [⟨some 23, .binOp .lss 3 (.tmp 22) (.tmp 21) 3, none⟩] := rfl
noncomputable def R27_8 : Array Oper := (((((((((((((bodyOf Tryz.f27).kid 1).kid 1).kid 1).kid 0).kid 1).kid 0).kid 0).kid 1).kid 1).kid 0).kid 0).kid 0).opsOf
theorem v27_8 : R27_8.toList.map sop = [⟨some 24, .indexAddr 25 (.tmp 20) (.tmp 22), none⟩, ⟨some 25, .load 51 (.tmp 24), none⟩, ⟨some 7, .alloc 51, none⟩, ⟨none, .store 51 (.tmp 7) (.tmp 25), none⟩] := rfl
noncomputable def R27_9 : Array Oper := (((((((((((((((bodyOf Tryz.f27).kid 1).kid 1).kid 1).kid 0).kid 1).kid 0).kid 0).kid 1).kid 1).kid 0).kid 0).kid 1).kid 0).kid 0).opsOf
theorem v27_9 : R27_9.toList.map sop = [⟨some 26, .fieldAddr 51 (.tmp 7) 0, none⟩, ⟨some 27, .load 3 (.tmp 26), none⟩, ⟨some 28, .binOp .geq 3 (.tmp 27) (.const (.int .i64 (4))) 3, none⟩, ⟨some 29, .move (.tmp 28), none⟩, ⟨some 30, .fieldAddr 51 (.tmp 7) 0, some (3, true)⟩, ⟨some 31, .load 3 (.tmp 30), some (3, true)⟩, ⟨some 32, .binOp .leq 3 (.tmp 31) (.const (.int .i64 (7))) 3, some (3, true)⟩, ⟨some 33, .pick (.tmp 29) (.tmp 32) (.const (.bool false)), none⟩] := rfl
noncomputable def R27_10 : Array Oper := ((((((((((((((((((bodyOf Tryz.f27).kid 1).kid 1).kid 1).kid 0).kid 1).kid 0).kid 0).kid 1).kid 1).kid 0).kid 0).kid 1).kid 0).kid 1).kid 0).kid 0).kid 0).opsOf
theorem v27_10 : R27_10.toList.map sop = [⟨some 34, .move (.tmp 1), none⟩, ⟨some 35, .unOp .not 4 (.tmp 34), none⟩] := rfl
noncomputable def R27_11 : Array Oper := ((((((((((((((((((((bodyOf Tryz.f27).kid 1).kid 1).kid 1).kid 0).kid 1).kid 0).kid 0).kid 1).kid 1).kid 0).kid 0).kid 1).kid 0).kid 1).kid 0).kid 0).kid 1).kid 0).kid 0).opsOf
theorem v27_11 : R27_11.toList.map sop = [⟨some 4, .assign (.const (.int .i64 (80))), none⟩] := rfl
noncomputable def R27_12 : Array Oper := (((((((((((((((((bodyOf Tryz.f27).kid 1).kid 1).kid 1).kid 0).kid 1).kid 0).kid 0).kid 1).kid 1).kid 0).kid 0).kid 1).kid 0).kid 1).kid 0).kid 1).opsOf
theorem v27_12 : R27_12.toList.map sop = [⟨some 1, .assign (.const (.bool false)), none⟩] := rfl
noncomputable def R27_13 : Array Oper := (((((((((((((((bodyOf Tryz.f27).kid 1).kid 1).kid 1).kid 0).kid 1).kid 0).kid 0).kid 1).kid 1).kid 0).kid 0).kid 1).kid 1).kid 0).opsOf
theorem v27_13 : R27_13.toList.map sop = [⟨some 36, .load 51 (.tmp 7), none⟩, ⟨some 37, .call ⟨.value (.func 47), #[(.tmp 36)], #[51]⟩, none⟩, ⟨some 8, .assign (.tmp 37), none⟩] := rfl
noncomputable def R27_14 : Array Oper := ((((((((((((((((bodyOf Tryz.f27).kid 1).kid 1).kid 1).kid 0).kid 1).kid 0).kid 0).kid 1).kid 1).kid 0).kid 0).kid 1).kid 1).kid 1).kid 0).opsOf
theorem v27_14 : R27_14.toList.map sop = [⟨some 38, .move (.tmp 8), none⟩, ⟨some 39, .binOp .neq 32 (.tmp 38) (.const (.int .i64 (0))) 32, none⟩] := rfl
noncomputable def R27_15 : Array Oper := ((((((((((((((((((bodyOf Tryz.f27).kid 1).kid 1).kid 1).kid 0).kid 1).kid 0).kid 0).kid 1).kid 1).kid 0).kid 0).kid 1).kid 1).kid 1).kid 1).kid 0).kid 0).opsOf
theorem v27_15 : R27_15.toList.map sop = [⟨some 40, .move (.tmp 8), none⟩, ⟨some 4, .assign (.tmp 40), none⟩] := rfl
noncomputable def R27_16 : Array Oper := (((((((((((bodyOf Tryz.f27).kid 1).kid 1).kid 1).kid 0).kid 1).kid 0).kid 0).kid 1).kid 1).kid 1).opsOf
theorem v27_16 : R27_16.toList.map sop = [⟨some 41, .binOp .add 3 (.tmp 22) (.const (.int .i64 (1))) 3, none⟩, ⟨some 22, .move (.tmp 41), none⟩] := rfl
noncomputable abbrev L27_0 : Code := (.seq (.region 7 R27_7 false) (.seq (.cond (.tmp 23) .skip (.exit 0)) (.seq (.block 1 (.seq (.region 8 R27_8 false) (.seq (.seq (.region 9 R27_9 false) (.cond (.tmp 33) (.seq (.seq (.region 10 R27_10 false) (.cond (.tmp 35) (.seq (.region 11 R27_11 false) .ret) .skip)) (.region 12 R27_12 false)) .skip)) (.seq (.region 13 R27_13 false) (.seq (.region 14 R27_14 false) (.cond (.tmp 39) (.seq (.region 15 R27_15 false) .ret) .skip)))))) (.region 16 R27_16 false))))
noncomputable def R27_17 : Array Oper := ((((((bodyOf Tryz.f27).kid 1).kid 1).kid 1).kid 1).kid 0).opsOf
theorem v27_17 : R27_17.toList.map sop = [⟨some 4, .assign (.const (.int .i64 (0))), none⟩] := rfl
theorem body27 : Tryz.f27.body = some (.seq (.region 0 R27_0 false) (.seq (.seq (.region 1 R27_1 false) (.seq (.region 2 R27_2 false) (.cond (.tmp 13) (.seq (.region 3 R27_3 false) .ret) .skip))) (.seq (.seq (.region 4 R27_4 false) (.cond (.tmp 18) (.seq (.region 5 R27_5 false) .ret) .skip)) (.seq (.seq (.region 6 R27_6 false) (.block 0 (.loop L27_0))) (.seq (.region 17 R27_17 false) .ret))))) := rfl
theorem nt27 : Tryz.f27.ntmps = 42 := rfl
theorem fn27 : Tryz.env.ft.get none 27 = some Tryz.f27 := rfl
theorem sm27 : Tryz.env.sum 27 = none := rfl
theorem fk27 : Tryz.env.fork 27 = false := rfl
theorem res27 : Tryz.f27.results.toList = [.tmp 4] := rfl
noncomputable def R28_0 : Array Oper := ((bodyOf Tryz.f28).kid 0).opsOf
theorem v28_0 : R28_0.toList.map sop = [⟨some 1, .box 55 (.tmp 0), none⟩, ⟨some 2, .assign (.const (.int .i64 (0))), none⟩] := rfl
noncomputable def R28_1 : Array Oper := (((bodyOf Tryz.f28).kid 1).kid 0).opsOf
theorem v28_1 : R28_1.toList.map sop = [⟨some 8, .fieldAddr 55 (.tmp 1) 1, none⟩, ⟨some 9, .fieldAddr 27 (.tmp 8) 0, none⟩, ⟨some 10, .load 9 (.tmp 9), none⟩, ⟨some 11, .binOp .eql 9 (.tmp 10) (.const (.string (ByteArray.mk #[]))) 9, none⟩, ⟨some 12, .move (.tmp 11), none⟩, ⟨some 13, .fieldAddr 55 (.tmp 1) 1, some (4, true)⟩, ⟨some 14, .fieldAddr 27 (.tmp 13) 1, some (4, true)⟩, ⟨some 15, .load 25 (.tmp 14), some (4, true)⟩, ⟨some 16, .call ⟨.builtin .len, #[(.tmp 15)], #[25]⟩, some (4, true)⟩, ⟨some 17, .binOp .eql 3 (.tmp 16) (.const (.int .i64 (0))) 3, some (4, true)⟩, ⟨some 18, .pick (.tmp 12) (.tmp 17) (.const (.bool false)), none⟩, ⟨some 3, .assign (.tmp 18), none⟩] := rfl
noncomputable def R28_2 : Array Oper := ((((bodyOf Tryz.f28).kid 1).kid 1).kid 0).opsOf
theorem v28_2 : R28_2.toList.map sop = [⟨some 19, .fieldAddr 55 (.tmp 1) 2, none⟩, ⟨some 20, .load 3 (.tmp 19), none⟩, ⟨some 21, .binOp .eql 3 (.tmp 20) (.const (.int .i64 (0))) 3, none⟩, ⟨some 22, .move (.tmp 21), none⟩, ⟨some 23, .fieldAddr 55 (.tmp 1) 3, some (3, true)⟩, ⟨some 24, .load 51 (.tmp 23), some (3, true)⟩, ⟨some 25, .build 51 #[], some (3, true)⟩, ⟨some 26, .binOp .eql 51 (.tmp 24) (.tmp 25) 51, some (3, true)⟩, ⟨some 27, .pick (.tmp 22) (.tmp 26) (.const (.bool false)), none⟩, ⟨some 28, .move (.tmp 27), none⟩, ⟨some 29, .fieldAddr 55 (.tmp 1) 4, some (9, true)⟩, ⟨some 30, .load 51 (.tmp 29), some (9, true)⟩, ⟨some 31, .build 51 #[], some (9, true)⟩, ⟨some 32, .binOp .eql 51 (.tmp 30) (.tmp 31) 51, some (9, true)⟩, ⟨some 33, .pick (.tmp 28) (.tmp 32) (.const (.bool false)), none⟩, ⟨some 4, .assign (.tmp 33), none⟩] := rfl
noncomputable def R28_3 : Array Oper := (((((((bodyOf Tryz.f28).kid 1).kid 1).kid 1).kid 0).kid 0).kid 0).opsOf
theorem v28_3 : R28_3.toList.map sop = [⟨some 35, .fieldAddr 55 (.tmp 1) 0, none⟩, ⟨some 36, .load 3 (.tmp 35), none⟩, ⟨some 37, .binOp .eql 3 (.tmp 36) (.const (.int .i64 (1))) 3, none⟩, ⟨some 38, .move (.tmp 37), none⟩, ⟨some 39, .fieldAddr 55 (.tmp 1) 0, some (3, false)⟩, ⟨some 40, .load 3 (.tmp 39), some (3, false)⟩, ⟨some 41, .binOp .eql 3 (.tmp 40) (.const (.int .i64 (2))) 3, some (3, false)⟩, ⟨some 42, .pick (.tmp 38) (.const (.bool true)) (.tmp 41), none⟩, ⟨some 43, .move (.tmp 42), none⟩, ⟨some 44, .move (.tmp 4), some (8, true)⟩, ⟨some 45, .pick (.tmp 43) (.tmp 44) (.const (.bool false)), none⟩, ⟨some 34, .assign (.tmp 45), none⟩] := rfl
noncomputable def R28_4 : Array Oper := (((((((((bodyOf Tryz.f28).kid 1).kid 1).kid 1).kid 0).kid 0).kid 1).kid 0).kid 0).opsOf
theorem v28_4 : R28_4.toList.map sop = [⟨some 46, .fieldAddr 55 (.tmp 1) 1, none⟩, ⟨some 47, .load 27 (.tmp 46), none⟩, ⟨some 48, .call ⟨.value (.func 27), #[(.tmp 47), (.const (.bool false))], #[27, 4]⟩, none⟩, ⟨some 2, .assign (.tmp 48), none⟩] := rfl
noncomputable def R28_5 : Array Oper := (((((((((bodyOf Tryz.f28).kid 1).kid 1).kid 1).kid 0).kid 0).kid 1).kid 1).kid 0).opsOf
theorem v28_5 : R28_5.toList.map sop = [⟨some 50, .fieldAddr 55 (.tmp 1) 0, none⟩, ⟨some 51, .load 3 (.tmp 50), none⟩, ⟨some 52, .binOp .neq 3 (.tmp 51) (.const (.int .i64 (3))) 3, none⟩, ⟨some 53, .move (.tmp 52), none⟩, ⟨some 54, .move (.tmp 3), some (3, false)⟩, ⟨some 55, .unOp .not 4 (.tmp 54), some (3, false)⟩, ⟨some 56, .pick (.tmp 53) (.const (.bool true)) (.tmp 55), none⟩, ⟨some 57, .move (.tmp 56), none⟩, ⟨some 58, .fieldAddr 55 (.tmp 1) 2, some (7, false)⟩, ⟨some 59, .load 3 (.tmp 58), some (7, false)⟩, ⟨some 60, .binOp .lss 3 (.tmp 59) (.const (.int .i64 (1))) 3, some (7, false)⟩, ⟨some 61, .pick (.tmp 57) (.const (.bool true)) (.tmp 60), none⟩, ⟨some 62, .move (.tmp 61), none⟩, ⟨some 63, .fieldAddr 55 (.tmp 1) 2, some (12, false)⟩, ⟨some 64, .load 3 (.tmp 63), some (12, false)⟩, ⟨some 65, .binOp .gtr 3 (.tmp 64) (.const (.int .i64 (4))) 3, some (12, false)⟩, ⟨some 66, .pick (.tmp 62) (.const (.bool true)) (.tmp 65), none⟩, ⟨some 49, .assign (.tmp 66), none⟩] := rfl
noncomputable def R28_6 : Array Oper := (((((((((((bodyOf Tryz.f28).kid 1).kid 1).kid 1).kid 0).kid 0).kid 1).kid 1).kid 1).kid 0).kid 0).opsOf
theorem v28_6 : R28_6.toList.map sop = [⟨some 2, .assign (.const (.int .i64 (80))), none⟩] := rfl
noncomputable def R28_7 : Array Oper := (((((((bodyOf Tryz.f28).kid 1).kid 1).kid 1).kid 1).kid 0).kid 0).opsOf
theorem v28_7 : R28_7.toList.map sop = [⟨some 67, .fieldAddr 55 (.tmp 1) 3, none⟩, ⟨some 68, .load 51 (.tmp 67), none⟩, ⟨some 69, .fieldAddr 55 (.tmp 1) 4, none⟩, ⟨some 70, .load 51 (.tmp 69), none⟩, ⟨some 71, .build 117 #[(0, (.tmp 68)), (1, (.tmp 70))], none⟩, ⟨some 72, .move (.const (.int .i64 (0))), none⟩] := rfl
noncomputable def R28_8 : Array Oper := ((((((((((bodyOf Tryz.f28).kid 1).kid 1).kid 1).kid 1).kid 0).kid 1).kid 0).kid 0).kid 0).opsOf
theorem v28_8 : R28_8.toList.map sop = [⟨some 73, .binOp .lss 3 (.tmp 72) (.const (.int .i64 (2))) 3, none⟩] := rfl
noncomputable def R28_9 : Array Oper := ((((((((((((((bodyOf Tryz.f28).kid 1).kid 1).kid 1).kid 1).kid 0).kid 1).kid 0).kid 0).kid 1).kid 1).kid 0).kid 0).kid 0).opsOf
theorem v28_9 : R28_9.toList.map sop = [⟨some 74, .index 117 (.tmp 71) (.tmp 72), none⟩, ⟨some 6, .alloc 51, none⟩, ⟨none, .store 51 (.tmp 6) (.tmp 74), none⟩] := rfl
noncomputable def R28_10 : Array Oper := ((((((((((((((((bodyOf Tryz.f28).kid 1).kid 1).kid 1).kid 1).kid 0).kid 1).kid 0).kid 0).kid 1).kid 1).kid 0).kid 0).kid 1).kid 0).kid 0).opsOf
theorem v28_10 : R28_10.toList.map sop = [⟨some 75, .fieldAddr 51 (.tmp 6) 0, none⟩, ⟨some 76, .load 3 (.tmp 75), none⟩, ⟨some 77, .binOp .geq 3 (.tmp 76) (.const (.int .i64 (4))) 3, none⟩] := rfl
noncomputable def R28_11 : Array Oper := ((((((((((((((((((bodyOf Tryz.f28).kid 1).kid 1).kid 1).kid 1).kid 0).kid 1).kid 0).kid 0).kid 1).kid 1).kid 0).kid 0).kid 1).kid 0).kid 1).kid 0).kid 0).opsOf
theorem v28_11 : R28_11.toList.map sop = [⟨some 2, .assign (.const (.int .i64 (80))), none⟩] := rfl
noncomputable def R28_12 : Array Oper := ((((((((((((((((bodyOf Tryz.f28).kid 1).kid 1).kid 1).kid 1).kid 0).kid 1).kid 0).kid 0).kid 1).kid 1).kid 0).kid 0).kid 1).kid 1).kid 0).opsOf
theorem v28_12 : R28_12.toList.map sop = [⟨some 78, .load 51 (.tmp 6), none⟩, ⟨some 79, .call ⟨.value (.func 47), #[(.tmp 78)], #[51]⟩, none⟩, ⟨some 7, .assign (.tmp 79), none⟩] := rfl
noncomputable def R28_13 : Array Oper := (((((((((((((((((bodyOf Tryz.f28).kid 1).kid 1).kid 1).kid 1).kid 0).kid 1).kid 0).kid 0).kid 1).kid 1).kid 0).kid 0).kid 1).kid 1).kid 1).kid 0).opsOf
theorem v28_13 : R28_13.toList.map sop = [⟨some 80, .move (.tmp 7), none⟩, ⟨some 81, .binOp .neq 32 (.tmp 80) (.const (.int .i64 (0))) 32, none⟩] := rfl
noncomputable def R28_14 : Array Oper := (((((((((((((((((((bodyOf Tryz.f28).kid 1).kid 1).kid 1).kid 1).kid 0).kid 1).kid 0).kid 0).kid 1).kid 1).kid 0).kid 0).kid 1).kid 1).kid 1).kid 1).kid 0).kid 0).opsOf
theorem v28_14 : R28_14.toList.map sop = [⟨some 82, .move (.tmp 7), none⟩, ⟨some 2, .assign (.tmp 82), none⟩] := rfl
noncomputable def R28_15 : Array Oper := ((((((((((((bodyOf Tryz.f28).kid 1).kid 1).kid 1).kid 1).kid 0).kid 1).kid 0).kid 0).kid 1).kid 1).kid 1).opsOf
theorem v28_15 : R28_15.toList.map sop = [⟨some 83, .binOp .add 3 (.tmp 72) (.const (.int .i64 (1))) 3, none⟩, ⟨some 72, .move (.tmp 83), none⟩] := rfl
noncomputable abbrev L28_0 : Code := (.seq (.region 8 R28_8 false) (.seq (.cond (.tmp 73) .skip (.exit 1)) (.seq (.block 2 (.seq (.region 9 R28_9 false) (.seq (.seq (.region 10 R28_10 false) (.cond (.tmp 77) (.seq (.region 11 R28_11 false) .ret) .skip)) (.seq (.region 12 R28_12 false) (.seq (.region 13 R28_13 false) (.cond (.tmp 81) (.seq (.region 14 R28_14 false) .ret) .skip)))))) (.region 15 R28_15 false))))
noncomputable def R28_16 : Array Oper := (((((((bodyOf Tryz.f28).kid 1).kid 1).kid 1).kid 1).kid 1).kid 0).opsOf
theorem v28_16 : R28_16.toList.map sop = [⟨some 2, .assign (.const (.int .i64 (0))), none⟩] := rfl
theorem body28 : Tryz.f28.body = some (.seq (.region 0 R28_0 false) (.seq (.region 1 R28_1 false) (.seq (.region 2 R28_2 false) (.seq (.block 0 (.seq (.region 3 R28_3 false) (.cond (.tmp 34) (.seq (.region 4 R28_4 false) .ret) (.seq (.region 5 R28_5 false) (.cond (.tmp 49) (.seq (.region 6 R28_6 false) .ret) .skip))))) (.seq (.seq (.region 7 R28_7 false) (.block 1 (.loop L28_0))) (.seq (.region 16 R28_16 false) .ret)))))) := rfl
theorem nt28 : Tryz.f28.ntmps = 84 := rfl
theorem fn28 : Tryz.env.ft.get none 28 = some Tryz.f28 := rfl
theorem sm28 : Tryz.env.sum 28 = none := rfl
theorem fk28 : Tryz.env.fork 28 = false := rfl
theorem res28 : Tryz.f28.results.toList = [.tmp 2] := rfl
noncomputable def R29_0 : Array Oper := ((bodyOf Tryz.f29).kid 0).opsOf
theorem v29_0 : R29_0.toList.map sop = [⟨some 4, .assign (.const (.bool false)), none⟩] := rfl
noncomputable def R29_1 : Array Oper := (((bodyOf Tryz.f29).kid 1).kid 0).opsOf
theorem v29_1 : R29_1.toList.map sop = [⟨some 5, .move (.tmp 0), none⟩, ⟨some 6, .move (.tmp 1), none⟩, ⟨some 7, .call ⟨.value (.func 48), #[(.tmp 5), (.tmp 6)], #[25, 80]⟩, none⟩, ⟨some 8, .binOp .geq 3 (.tmp 7) (.const (.int .i64 (0))) 3, none⟩, ⟨some 4, .assign (.tmp 8), none⟩] := rfl
theorem body29 : Tryz.f29.body = some (.seq (.region 0 R29_0 false) (.seq (.region 1 R29_1 false) .ret)) := rfl
theorem nt29 : Tryz.f29.ntmps = 9 := rfl
theorem fn29 : Tryz.env.ft.get none 29 = some Tryz.f29 := rfl
theorem sm29 : Tryz.env.sum 29 = none := rfl
theorem fk29 : Tryz.env.fork 29 = false := rfl
theorem res29 : Tryz.f29.results.toList = [.tmp 4] := rfl
noncomputable def R30_0 : Array Oper := ((bodyOf Tryz.f30).kid 0).opsOf
theorem v30_0 : R30_0.toList.map sop = [⟨some 2, .box 51 (.tmp 0), none⟩, ⟨some 3, .assign (.const (.bool false)), none⟩] := rfl
noncomputable def R30_1 : Array Oper := (((bodyOf Tryz.f30).kid 1).kid 0).opsOf
theorem v30_1 : R30_1.toList.map sop = [⟨some 4, .fieldAddr 51 (.tmp 2) 0, none⟩, ⟨some 5, .load 3 (.tmp 4), none⟩, ⟨some 6, .binOp .neq 3 (.tmp 5) (.const (.int .i64 (3))) 3, none⟩, ⟨some 7, .move (.tmp 6), none⟩, ⟨some 8, .fieldAddr 51 (.tmp 2) 0, some (3, true)⟩, ⟨some 9, .load 3 (.tmp 8), some (3, true)⟩, ⟨some 10, .binOp .eql 3 (.tmp 9) (.const (.int .i64 (1))) 3, some (3, true)⟩, ⟨some 11, .move (.tmp 10), some (3, true)⟩, ⟨some 12, .load 78 (.tmp 1), some (7, true)⟩, ⟨some 13, .fieldAddr 51 (.tmp 2) 1, some (7, true)⟩, ⟨some 14, .load 9 (.tmp 13), some (7, true)⟩, ⟨some 15, .lookup 78 (.tmp 12) (.tmp 14) false, some (7, true)⟩, ⟨some 16, .pick (.tmp 11) (.tmp 15) (.const (.bool false)), some (3, true)⟩, ⟨some 17, .unOp .not 4 (.tmp 16), some (3, true)⟩, ⟨some 18, .pick (.tmp 7) (.tmp 17) (.const (.bool false)), none⟩, ⟨some 3, .assign (.tmp 18), none⟩] := rfl
theorem body30 : Tryz.f30.body = some (.seq (.region 0 R30_0 false) (.seq (.region 1 R30_1 false) .ret)) := rfl
theorem nt30 : Tryz.f30.ntmps = 19 := rfl
theorem fn30 : Tryz.env.ft.get none 30 = some Tryz.f30 := rfl
theorem sm30 : Tryz.env.sum 30 = none := rfl
theorem fk30 : Tryz.env.fork 30 = false := rfl
theorem res30 : Tryz.f30.results.toList = [.tmp 3] := rfl
noncomputable def R31_0 : Array Oper := ((bodyOf Tryz.f31).kid 0).opsOf
theorem v31_0 : R31_0.toList.map sop = [⟨some 2, .assign (.const (.slice none 0 0)), none⟩] := rfl
noncomputable def R31_1 : Array Oper := ((((bodyOf Tryz.f31).kid 1).kid 0).kid 0).opsOf
theorem v31_1 : R31_1.toList.map sop = [⟨some 3, .move (.tmp 0), none⟩, ⟨some 4, .binOp .eql 25 (.tmp 3) (.const (.slice none 0 0)) 25, none⟩] := rfl
noncomputable def R31_2 : Array Oper := ((((((bodyOf Tryz.f31).kid 1).kid 0).kid 1).kid 0).kid 0).opsOf
theorem v31_2 : R31_2.toList.map sop = [⟨some 2, .assign (.const (.slice none 0 0)), none⟩] := rfl
noncomputable def R31_3 : Array Oper := ((((bodyOf Tryz.f31).kid 1).kid 1).kid 0).opsOf
theorem v31_3 : R31_3.toList.map sop = [⟨some 5, .buildSlice 25 0 #[], none⟩, ⟨some 6, .move (.tmp 0), none⟩, ⟨some 7, .call ⟨.builtin .append, #[(.tmp 5), (.tmp 6)], #[25, 25]⟩, none⟩, ⟨some 2, .assign (.tmp 7), none⟩] := rfl
theorem body31 : Tryz.f31.body = some (.seq (.region 0 R31_0 false) (.seq (.seq (.region 1 R31_1 false) (.cond (.tmp 4) (.seq (.region 2 R31_2 false) .ret) .skip)) (.seq (.region 3 R31_3 false) .ret))) := rfl
theorem nt31 : Tryz.f31.ntmps = 8 := rfl
theorem fn31 : Tryz.env.ft.get none 31 = some Tryz.f31 := rfl
theorem sm31 : Tryz.env.sum 31 = none := rfl
theorem fk31 : Tryz.env.fork 31 = false := rfl
theorem res31 : Tryz.f31.results.toList = [.tmp 2] := rfl
noncomputable def R32_0 : Array Oper := ((bodyOf Tryz.f32).kid 0).opsOf
theorem v32_0 : R32_0.toList.map sop = [⟨some 2, .assign (.const (.slice none 0 0)), none⟩] := rfl
noncomputable def R32_1 : Array Oper := ((((bodyOf Tryz.f32).kid 1).kid 0).kid 0).opsOf
theorem v32_1 : R32_1.toList.map sop = [⟨some 3, .move (.tmp 0), none⟩, ⟨some 4, .binOp .eql 28 (.tmp 3) (.const (.slice none 0 0)) 28, none⟩] := rfl
noncomputable def R32_2 : Array Oper := ((((((bodyOf Tryz.f32).kid 1).kid 0).kid 1).kid 0).kid 0).opsOf
theorem v32_2 : R32_2.toList.map sop = [⟨some 2, .assign (.const (.slice none 0 0)), none⟩] := rfl
noncomputable def R32_3 : Array Oper := ((((bodyOf Tryz.f32).kid 1).kid 1).kid 0).opsOf
theorem v32_3 : R32_3.toList.map sop = [⟨some 5, .buildSlice 28 0 #[], none⟩, ⟨some 6, .move (.tmp 0), none⟩, ⟨some 7, .call ⟨.builtin .append, #[(.tmp 5), (.tmp 6)], #[28, 28]⟩, none⟩, ⟨some 2, .assign (.tmp 7), none⟩] := rfl
theorem body32 : Tryz.f32.body = some (.seq (.region 0 R32_0 false) (.seq (.seq (.region 1 R32_1 false) (.cond (.tmp 4) (.seq (.region 2 R32_2 false) .ret) .skip)) (.seq (.region 3 R32_3 false) .ret))) := rfl
theorem nt32 : Tryz.f32.ntmps = 8 := rfl
theorem fn32 : Tryz.env.ft.get none 32 = some Tryz.f32 := rfl
theorem sm32 : Tryz.env.sum 32 = none := rfl
theorem fk32 : Tryz.env.fork 32 = false := rfl
theorem res32 : Tryz.f32.results.toList = [.tmp 2] := rfl
noncomputable def R33_0 : Array Oper := ((bodyOf Tryz.f33).kid 0).opsOf
theorem v33_0 : R33_0.toList.map sop = [⟨some 4, .assign (.const (.slice none 0 0)), none⟩] := rfl
noncomputable def R33_1 : Array Oper := ((((bodyOf Tryz.f33).kid 1).kid 0).kid 0).opsOf
theorem v33_1 : R33_1.toList.map sop = [⟨some 5, .move (.tmp 1), none⟩, ⟨some 6, .binOp .lss 3 (.tmp 5) (.const (.int .i64 (0))) 3, none⟩] := rfl
noncomputable def R33_2 : Array Oper := (((((bodyOf Tryz.f33).kid 1).kid 0).kid 1).kid 0).opsOf
noncomputable def R33_3 : Array Oper := (((((bodyOf Tryz.f33).kid 1).kid 1).kid 0).kid 0).opsOf
theorem v33_3 : R33_3.toList.map sop = [⟨some 8, .move (.tmp 1), none⟩, ⟨some 9, .move (.tmp 0), none⟩, ⟨some 10, .call ⟨.builtin .cap, #[(.tmp 9)], #[28]⟩, none⟩, ⟨some 11, .move (.tmp 0), none⟩, ⟨some 12, .call ⟨.builtin .len, #[(.tmp 11)], #[28]⟩, none⟩, ⟨some 13, .binOp .sub 3 (.tmp 10) (.tmp 12) 3, none⟩, ⟨some 14, .binOp .sub 3 (.tmp 8) (.tmp 13) 3, none⟩, ⟨some 1, .assign (.tmp 14), none⟩] := rfl
noncomputable def R33_4 : Array Oper := ((((((bodyOf Tryz.f33).kid 1).kid 1).kid 0).kid 1).kid 0).opsOf
theorem v33_4 : R33_4.toList.map sop = [⟨some 15, .move (.tmp 1), none⟩, ⟨some 16, .binOp .gtr 3 (.tmp 15) (.const (.int .i64 (0))) 3, none⟩] := rfl
noncomputable def R33_5 : Array Oper := (((((((bodyOf Tryz.f33).kid 1).kid 1).kid 0).kid 1).kid 1).kid 0).opsOf
theorem v33_5 : R33_5.toList.map sop = [⟨some 17, .move (.tmp 0), none⟩, ⟨some 18, .move (.tmp 0), none⟩, ⟨some 19, .call ⟨.builtin .cap, #[(.tmp 18)], #[28]⟩, none⟩, ⟨some 20, .slice 28 (.tmp 17) none (some (.tmp 19)) none, none⟩, ⟨some 21, .move (.tmp 1), none⟩, ⟨some 22, .call ⟨.builtin .append, #[(.tmp 20), (.tmp 21)], #[28, 3]⟩, none⟩, ⟨some 23, .move (.tmp 0), none⟩, ⟨some 24, .call ⟨.builtin .len, #[(.tmp 23)], #[28]⟩, none⟩, ⟨some 25, .slice 28 (.tmp 22) none (some (.tmp 24)) none, none⟩, ⟨some 0, .assign (.tmp 25), none⟩] := rfl
noncomputable def R33_6 : Array Oper := (((((bodyOf Tryz.f33).kid 1).kid 1).kid 1).kid 0).opsOf
theorem v33_6 : R33_6.toList.map sop = [⟨some 26, .move (.tmp 0), none⟩, ⟨some 4, .assign (.tmp 26), none⟩] := rfl
theorem body33 : Tryz.f33.body = some (.seq (.region 0 R33_0 false) (.seq (.seq (.region 1 R33_1 false) (.cond (.tmp 6) (.region 2 R33_2 false) .skip)) (.seq (.seq (.region 3 R33_3 false) (.seq (.region 4 R33_4 false) (.cond (.tmp 16) (.region 5 R33_5 false) .skip))) (.seq (.region 6 R33_6 false) .ret)))) := rfl
theorem nt33 : Tryz.f33.ntmps = 27 := rfl
theorem fn33 : Tryz.env.ft.get none 33 = some Tryz.f33 := rfl
theorem sm33 : Tryz.env.sum 33 = none := rfl
theorem fk33 : Tryz.env.fork 33 = false := rfl
theorem res33 : Tryz.f33.results.toList = [.tmp 4] := rfl
noncomputable def R46_0 : Array Oper := ((bodyOf Tryz.f46).kid 0).opsOf
theorem v46_0 : R46_0.toList.map sop = [⟨some 4, .assign (.const (.int .i64 (0))), none⟩] := rfl
noncomputable def R46_1 : Array Oper := ((((bodyOf Tryz.f46).kid 1).kid 0).kid 0).opsOf
theorem v46_1 : R46_1.toList.map sop = [⟨some 5, .move (.tmp 0), none⟩, ⟨some 6, .call ⟨.value (.func 72), #[(.tmp 5)], #[9]⟩, none⟩, ⟨some 7, .move (.tmp 1), none⟩, ⟨some 8, .binOp .neq 3 (.tmp 6) (.tmp 7) 3, none⟩] := rfl
noncomputable def R46_2 : Array Oper := ((((((bodyOf Tryz.f46).kid 1).kid 0).kid 1).kid 0).kid 0).opsOf
theorem v46_2 : R46_2.toList.map sop = [⟨some 4, .assign (.const (.int .i64 (80))), none⟩] := rfl
noncomputable def R46_3 : Array Oper := ((((bodyOf Tryz.f46).kid 1).kid 1).kid 0).opsOf
theorem v46_3 : R46_3.toList.map sop = [⟨some 9, .move (.tmp 0), none⟩, ⟨some 10, .call ⟨.value (.func 73), #[(.tmp 9)], #[9]⟩, none⟩, ⟨some 4, .assign (.tmp 10), none⟩] := rfl
theorem body46 : Tryz.f46.body = some (.seq (.region 0 R46_0 false) (.seq (.seq (.region 1 R46_1 false) (.cond (.tmp 8) (.seq (.region 2 R46_2 false) .ret) .skip)) (.seq (.region 3 R46_3 false) .ret))) := rfl
theorem nt46 : Tryz.f46.ntmps = 11 := rfl
theorem fn46 : Tryz.env.ft.get none 46 = some Tryz.f46 := rfl
theorem fk46 : Tryz.env.fork 46 = false := rfl
theorem res46 : Tryz.f46.results.toList = [.tmp 4] := rfl
noncomputable def R47_0 : Array Oper := ((bodyOf Tryz.f47).kid 0).opsOf
theorem v47_0 : R47_0.toList.map sop = [⟨some 1, .box 51 (.tmp 0), none⟩, ⟨some 2, .assign (.const (.int .i64 (0))), none⟩] := rfl
noncomputable def R47_1 : Array Oper := ((((bodyOf Tryz.f47).kid 1).kid 0).kid 0).opsOf
theorem v47_1 : R47_1.toList.map sop = [⟨some 3, .fieldAddr 51 (.tmp 1) 0, none⟩, ⟨some 4, .load 3 (.tmp 3), none⟩] := rfl
noncomputable def R47_2 : Array Oper := ((((((bodyOf Tryz.f47).kid 1).kid 0).kid 1).kid 0).kid 0).opsOf
theorem v47_2 : R47_2.toList.map sop = [⟨some 6, .binOp .eql 3 (.tmp 4) (.const (.int .i64 (3))) 3, none⟩, ⟨some 5, .assign (.tmp 6), none⟩] := rfl
noncomputable def R47_3 : Array Oper := ((((((((bodyOf Tryz.f47).kid 1).kid 0).kid 1).kid 0).kid 1).kid 0).kid 0).opsOf
theorem v47_3 : R47_3.toList.map sop = [⟨some 7, .fieldAddr 51 (.tmp 1) 1, none⟩, ⟨some 8, .load 9 (.tmp 7), none⟩, ⟨some 9, .call ⟨.value (.func 73), #[(.tmp 8)], #[9]⟩, none⟩, ⟨some 2, .assign (.tmp 9), none⟩] := rfl
noncomputable def R47_4 : Array Oper := (((((((((bodyOf Tryz.f47).kid 1).kid 0).kid 1).kid 0).kid 1).kid 1).kid 0).kid 0).opsOf
theorem v47_4 : R47_4.toList.map sop = [⟨some 11, .binOp .eql 3 (.tmp 4) (.const (.int .i64 (2))) 3, none⟩, ⟨some 10, .assign (.tmp 11), none⟩] := rfl
noncomputable def R47_5 : Array Oper := ((((((((((bodyOf Tryz.f47).kid 1).kid 0).kid 1).kid 0).kid 1).kid 1).kid 0).kid 1).kid 1).opsOf
theorem v47_5 : R47_5.toList.map sop = [⟨some 12, .binOp .eql 3 (.tmp 4) (.const (.int .i64 (4))) 3, none⟩, ⟨some 10, .assign (.tmp 12), none⟩] := rfl
noncomputable def R47_6 : Array Oper := ((((((((((bodyOf Tryz.f47).kid 1).kid 0).kid 1).kid 0).kid 1).kid 1).kid 1).kid 0).kid 0).opsOf
theorem v47_6 : R47_6.toList.map sop = [⟨some 13, .fieldAddr 51 (.tmp 1) 1, none⟩, ⟨some 14, .load 9 (.tmp 13), none⟩, ⟨some 15, .binOp .eql 9 (.tmp 14) (.const (.string (ByteArray.mk #[]))) 9, none⟩] := rfl
noncomputable def R47_7 : Array Oper := ((((((((((((bodyOf Tryz.f47).kid 1).kid 0).kid 1).kid 0).kid 1).kid 1).kid 1).kid 0).kid 1).kid 0).kid 0).opsOf
theorem v47_7 : R47_7.toList.map sop = [⟨some 2, .assign (.const (.int .i64 (0))), none⟩] := rfl
noncomputable def R47_8 : Array Oper := (((((((((((bodyOf Tryz.f47).kid 1).kid 0).kid 1).kid 0).kid 1).kid 1).kid 1).kid 1).kid 0).kid 0).opsOf
theorem v47_8 : R47_8.toList.map sop = [⟨some 17, .binOp .eql 3 (.tmp 4) (.const (.int .i64 (1))) 3, none⟩, ⟨some 16, .assign (.tmp 17), none⟩] := rfl
noncomputable def R47_9 : Array Oper := (((((((((((((bodyOf Tryz.f47).kid 1).kid 0).kid 1).kid 0).kid 1).kid 1).kid 1).kid 1).kid 0).kid 1).kid 1).kid 0).opsOf
theorem v47_9 : R47_9.toList.map sop = [⟨some 18, .binOp .eql 3 (.tmp 4) (.const (.int .i64 (5))) 3, none⟩, ⟨some 16, .assign (.tmp 18), none⟩] := rfl
noncomputable def R47_10 : Array Oper := (((((((((((((((bodyOf Tryz.f47).kid 1).kid 0).kid 1).kid 0).kid 1).kid 1).kid 1).kid 1).kid 0).kid 1).kid 1).kid 1).kid 1).kid 0).opsOf
theorem v47_10 : R47_10.toList.map sop = [⟨some 19, .binOp .eql 3 (.tmp 4) (.const (.int .i64 (6))) 3, none⟩, ⟨some 16, .assign (.tmp 19), none⟩] := rfl
noncomputable def R47_11 : Array Oper := ((((((((((((((((bodyOf Tryz.f47).kid 1).kid 0).kid 1).kid 0).kid 1).kid 1).kid 1).kid 1).kid 0).kid 1).kid 1).kid 1).kid 1).kid 1).kid 1).opsOf
theorem v47_11 : R47_11.toList.map sop = [⟨some 20, .binOp .eql 3 (.tmp 4) (.const (.int .i64 (7))) 3, none⟩, ⟨some 16, .assign (.tmp 20), none⟩] := rfl
noncomputable def R47_12 : Array Oper := ((((((((((((bodyOf Tryz.f47).kid 1).kid 0).kid 1).kid 0).kid 1).kid 1).kid 1).kid 1).kid 1).kid 0).kid 0).opsOf
theorem v47_12 : R47_12.toList.map sop = [⟨some 21, .fieldAddr 51 (.tmp 1) 1, none⟩, ⟨some 22, .load 9 (.tmp 21), none⟩, ⟨some 23, .binOp .neq 9 (.tmp 22) (.const (.string (ByteArray.mk #[95]))) 9, none⟩] := rfl
noncomputable def R47_13 : Array Oper := ((((((((((((((bodyOf Tryz.f47).kid 1).kid 0).kid 1).kid 0).kid 1).kid 1).kid 1).kid 1).kid 1).kid 0).kid 1).kid 0).kid 0).opsOf
theorem v47_13 : R47_13.toList.map sop = [⟨some 24, .fieldAddr 51 (.tmp 1) 1, none⟩, ⟨some 25, .load 9 (.tmp 24), none⟩, ⟨some 26, .call ⟨.value (.func 46), #[(.tmp 25), (.const (.int .i64 (2)))], #[9, 3]⟩, none⟩, ⟨some 2, .assign (.tmp 26), none⟩] := rfl
noncomputable def R47_14 : Array Oper := ((((bodyOf Tryz.f47).kid 1).kid 1).kid 0).opsOf
theorem v47_14 : R47_14.toList.map sop = [⟨some 2, .assign (.const (.int .i64 (80))), none⟩] := rfl
theorem body47 : Tryz.f47.body = some (.seq (.region 0 R47_0 false) (.seq (.seq (.region 1 R47_1 false) (.block 0 (.seq (.region 2 R47_2 false) (.cond (.tmp 5) (.seq (.region 3 R47_3 false) .ret) (.seq (.seq (.region 4 R47_4 false) (.cond (.tmp 10) .skip (.region 5 R47_5 false))) (.cond (.tmp 10) (.seq (.region 6 R47_6 false) (.cond (.tmp 15) (.seq (.region 7 R47_7 false) .ret) .skip)) (.seq (.seq (.region 8 R47_8 false) (.cond (.tmp 16) .skip (.seq (.region 9 R47_9 false) (.cond (.tmp 16) .skip (.seq (.region 10 R47_10 false) (.cond (.tmp 16) .skip (.region 11 R47_11 false))))))) (.cond (.tmp 16) (.seq (.region 12 R47_12 false) (.cond (.tmp 23) (.seq (.region 13 R47_13 false) .ret) .skip)) .skip)))))))) (.seq (.region 14 R47_14 false) .ret))) := rfl
theorem nt47 : Tryz.f47.ntmps = 27 := rfl
theorem fn47 : Tryz.env.ft.get none 47 = some Tryz.f47 := rfl
theorem sm47 : Tryz.env.sum 47 = none := rfl
theorem fk47 : Tryz.env.fork 47 = false := rfl
theorem res47 : Tryz.f47.results.toList = [.tmp 2] := rfl
noncomputable def R48_0 : Array Oper := ((bodyOf Tryz.f48).kid 0).opsOf
theorem v48_0 : R48_0.toList.map sop = [⟨some 4, .assign (.const (.int .i64 (0))), none⟩] := rfl
noncomputable def R48_1 : Array Oper := ((((bodyOf Tryz.f48).kid 1).kid 0).kid 0).opsOf
theorem v48_1 : R48_1.toList.map sop = [⟨some 6, .move (.tmp 0), none⟩, ⟨some 7, .call ⟨.builtin .len, #[(.tmp 6)], #[25]⟩, none⟩, ⟨some 8, .move (.const (.int .i64 (0))), none⟩] := rfl
noncomputable def R48_2 : Array Oper := (((((((bodyOf Tryz.f48).kid 1).kid 0).kid 1).kid 0).kid 0).kid 0).opsOf
theorem v48_2 : R48_2.toList.map sop = [⟨some 9, .binOp .lss 3 (.tmp 8) (.tmp 7) 3, none⟩] := rfl
noncomputable def R48_3 : Array Oper := (((((((((((bodyOf Tryz.f48).kid 1).kid 0).kid 1).kid 0).kid 0).kid 1).kid 1).kid 0).kid 0).kid 0).opsOf
theorem v48_3 : R48_3.toList.map sop = [⟨some 10, .move (.tmp 8), none⟩, ⟨some 5, .assign (.tmp 10), none⟩] := rfl
noncomputable def R48_4 : Array Oper := ((((((((((((bodyOf Tryz.f48).kid 1).kid 0).kid 1).kid 0).kid 0).kid 1).kid 1).kid 0).kid 0).kid 1).kid 0).opsOf
theorem v48_4 : R48_4.toList.map sop = [⟨some 11, .move (.tmp 1), none⟩, ⟨some 12, .move (.tmp 0), none⟩, ⟨some 13, .move (.tmp 5), none⟩, ⟨some 14, .indexAddr 25 (.tmp 12) (.tmp 13), none⟩, ⟨some 15, .load 51 (.tmp 14), none⟩, ⟨some 16, .call ⟨.value (.tmp 11), #[(.tmp 15)], #[51]⟩, none⟩] := rfl
noncomputable def R48_5 : Array Oper := ((((((((((((((bodyOf Tryz.f48).kid 1).kid 0).kid 1).kid 0).kid 0).kid 1).kid 1).kid 0).kid 0).kid 1).kid 1).kid 0).kid 0).opsOf
theorem v48_5 : R48_5.toList.map sop = [⟨some 17, .move (.tmp 5), none⟩, ⟨some 4, .assign (.tmp 17), none⟩] := rfl
noncomputable def R48_6 : Array Oper := (((((((((bodyOf Tryz.f48).kid 1).kid 0).kid 1).kid 0).kid 0).kid 1).kid 1).kid 1).opsOf
theorem v48_6 : R48_6.toList.map sop = [⟨some 18, .binOp .add 3 (.tmp 8) (.const (.int .i64 (1))) 3, none⟩, ⟨some 8, .move (.tmp 18), none⟩] := rfl
noncomputable abbrev L48_0 : Code := (.seq (.region 2 R48_2 false) (.seq (.cond (.tmp 9) .skip (.exit 0)) (.seq (.block 1 (.seq (.region 3 R48_3 false) (.seq (.region 4 R48_4 false) (.cond (.tmp 16) (.seq (.region 5 R48_5 false) .ret) .skip)))) (.region 6 R48_6 false))))
noncomputable def R48_7 : Array Oper := ((((bodyOf Tryz.f48).kid 1).kid 1).kid 0).opsOf
theorem v48_7 : R48_7.toList.map sop = [⟨some 4, .assign (.const (.int .i64 (-1))), none⟩] := rfl
theorem body48 : Tryz.f48.body = some (.seq (.region 0 R48_0 false) (.seq (.seq (.region 1 R48_1 false) (.block 0 (.loop L48_0))) (.seq (.region 7 R48_7 false) .ret))) := rfl
theorem nt48 : Tryz.f48.ntmps = 19 := rfl
theorem fn48 : Tryz.env.ft.get none 48 = some Tryz.f48 := rfl
theorem sm48 : Tryz.env.sum 48 = none := rfl
theorem fk48 : Tryz.env.fork 48 = false := rfl
theorem res48 : Tryz.f48.results.toList = [.tmp 4] := rfl
end Go.Proofs
