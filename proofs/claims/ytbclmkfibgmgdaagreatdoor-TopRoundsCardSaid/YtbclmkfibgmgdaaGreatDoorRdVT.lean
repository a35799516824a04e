/- The code as it is run here: printed by gen_view.lean. Conditions: none. -/
import Derived.Test.YtbclmkfibgmgdaaGreatDoorRdEnvT
import Derived.Test.YtbclmkfibgmgdaaGreatDoorRdSA
import Derived.Test.YtbclmkfibgmgdaaGreatDoorRdSE
namespace Go.Proofs
open Go Go.Ab
set_option linter.unusedVariables false
theorem tu3 : Tryz.env.under 3 = some (.int .i64) := rfl
theorem ts3 : Tryz.env.size 3 = some 1 := rfl
theorem tg3 : Tryz.env.isAgg 3 = some false := rfl
theorem tz3 : Tryz.env.zero 3 = some (nI 0) := rfl
theorem tu4 : Tryz.env.under 4 = some .bool := rfl
theorem ts4 : Tryz.env.size 4 = some 1 := rfl
theorem tg4 : Tryz.env.isAgg 4 = some false := rfl
theorem tz4 : Tryz.env.zero 4 = some (.bool false) := rfl
theorem tu9 : Tryz.env.under 9 = some .string := rfl
theorem ts9 : Tryz.env.size 9 = some 1 := rfl
theorem tg9 : Tryz.env.isAgg 9 = some false := rfl
theorem tz9 : Tryz.env.zero 9 = some (.str []) := rfl
theorem tu22 : Tryz.env.under 22 = some (.slice 3) := rfl
theorem ts22 : Tryz.env.size 22 = some 1 := rfl
theorem tg22 : Tryz.env.isAgg 22 = some false := rfl
theorem tz22 : Tryz.env.zero 22 = some .nilSlice := rfl
theorem te22 : Tryz.env.elem 22 = some 3 := rfl
theorem tu25 : Tryz.env.under 25 = some (.slice 51) := rfl
theorem ts25 : Tryz.env.size 25 = some 1 := rfl
theorem tg25 : Tryz.env.isAgg 25 = some false := rfl
theorem tz25 : Tryz.env.zero 25 = some .nilSlice := rfl
theorem te25 : Tryz.env.elem 25 = some 51 := rfl
noncomputable def tzF27 : Array Field := fieldsOfE Tryz.env 27
theorem tu27 : Tryz.env.under 27 = some (.struct tzF27) := rfl
noncomputable def tzF27_0 : Field := fieldOf tzF27 0
theorem tzF27_0n : nth tzF27.toList 0 = some tzF27_0 := rfl
theorem tzF27_0t : tzF27_0.type = 9 := rfl
theorem tzF27_0o : tzF27_0.offset = 0 := rfl
noncomputable def tzF27_1 : Field := fieldOf tzF27 1
theorem tzF27_1n : nth tzF27.toList 1 = some tzF27_1 := rfl
theorem tzF27_1t : tzF27_1.type = 25 := rfl
theorem tzF27_1o : tzF27_1.offset = 1 := rfl
theorem tk27 : sizesKnown Tryz.env tzF27.toList = true := rfl
theorem ts27 : Tryz.env.size 27 = some 2 := rfl
theorem tg27 : Tryz.env.isAgg 27 = some true := rfl
theorem tz27 : Tryz.env.zero 27 = some (.agg [(.str []), .nilSlice]) := rfl
theorem tf27_0 (b off : Nat) : fieldAddrS Tryz.env 27 (.ptr b off) 0 = some (.ptr b (off + 0)) := rfl
theorem tf27_1 (b off : Nat) : fieldAddrS Tryz.env 27 (.ptr b off) 1 = some (.ptr b (off + 1)) := rfl
theorem tu28 : Tryz.env.under 28 = some (.slice 55) := rfl
theorem ts28 : Tryz.env.size 28 = some 1 := rfl
theorem tg28 : Tryz.env.isAgg 28 = some false := rfl
theorem tz28 : Tryz.env.zero 28 = some .nilSlice := rfl
theorem te28 : Tryz.env.elem 28 = some 55 := rfl
noncomputable def tzF30 : Array Field := fieldsOfE Tryz.env 30
theorem tu30 : Tryz.env.under 30 = some (.struct tzF30) := rfl
noncomputable def tzF30_0 : Field := fieldOf tzF30 0
theorem tzF30_0n : nth tzF30.toList 0 = some tzF30_0 := rfl
theorem tzF30_0t : tzF30_0.type = 27 := rfl
theorem tzF30_0o : tzF30_0.offset = 0 := rfl
noncomputable def tzF30_1 : Field := fieldOf tzF30 1
theorem tzF30_1n : nth tzF30.toList 1 = some tzF30_1 := rfl
theorem tzF30_1t : tzF30_1.type = 28 := rfl
theorem tzF30_1o : tzF30_1.offset = 2 := rfl
theorem tk30 : sizesKnown Tryz.env tzF30.toList = true := rfl
theorem ts30 : Tryz.env.size 30 = some 3 := rfl
theorem tg30 : Tryz.env.isAgg 30 = some true := rfl
theorem tz30 : Tryz.env.zero 30 = some (.agg [(.str []), .nilSlice, .nilSlice]) := rfl
theorem tf30_0 (b off : Nat) : fieldAddrS Tryz.env 30 (.ptr b off) 0 = some (.ptr b (off + 0)) := rfl
theorem tf30_1 (b off : Nat) : fieldAddrS Tryz.env 30 (.ptr b off) 1 = some (.ptr b (off + 2)) := rfl
theorem tu32 : Tryz.env.under 32 = some (.int .i64) := rfl
theorem ts32 : Tryz.env.size 32 = some 1 := rfl
theorem tg32 : Tryz.env.isAgg 32 = some false := rfl
theorem tz32 : Tryz.env.zero 32 = some (nI 0) := rfl
theorem tu41 : Tryz.env.under 41 = some (.slice 9) := rfl
theorem ts41 : Tryz.env.size 41 = some 1 := rfl
theorem tg41 : Tryz.env.isAgg 41 = some false := rfl
theorem tz41 : Tryz.env.zero 41 = some .nilSlice := rfl
theorem te41 : Tryz.env.elem 41 = some 9 := rfl
theorem tu42 : Tryz.env.under 42 = some (.slice 41) := rfl
theorem ts42 : Tryz.env.size 42 = some 1 := rfl
theorem tg42 : Tryz.env.isAgg 42 = some false := rfl
theorem tz42 : Tryz.env.zero 42 = some .nilSlice := rfl
theorem te42 : Tryz.env.elem 42 = some 41 := rfl
noncomputable def tzF51 : Array Field := fieldsOfE Tryz.env 51
theorem tu51 : Tryz.env.under 51 = some (.struct tzF51) := rfl
noncomputable def tzF51_0 : Field := fieldOf tzF51 0
theorem tzF51_0n : nth tzF51.toList 0 = some tzF51_0 := rfl
theorem tzF51_0t : tzF51_0.type = 3 := rfl
theorem tzF51_0o : tzF51_0.offset = 0 := rfl
noncomputable def tzF51_1 : Field := fieldOf tzF51 1
theorem tzF51_1n : nth tzF51.toList 1 = some tzF51_1 := rfl
theorem tzF51_1t : tzF51_1.type = 9 := rfl
theorem tzF51_1o : tzF51_1.offset = 1 := rfl
theorem tk51 : sizesKnown Tryz.env tzF51.toList = true := rfl
theorem ts51 : Tryz.env.size 51 = some 2 := rfl
theorem tg51 : Tryz.env.isAgg 51 = some true := rfl
theorem tz51 : Tryz.env.zero 51 = some (.agg [(nI 0), (.str [])]) := rfl
theorem tf51_0 (b off : Nat) : fieldAddrS Tryz.env 51 (.ptr b off) 0 = some (.ptr b (off + 0)) := rfl
theorem tf51_1 (b off : Nat) : fieldAddrS Tryz.env 51 (.ptr b off) 1 = some (.ptr b (off + 1)) := rfl
noncomputable def tzF55 : Array Field := fieldsOfE Tryz.env 55
theorem tu55 : Tryz.env.under 55 = some (.struct tzF55) := rfl
noncomputable def tzF55_0 : Field := fieldOf tzF55 0
theorem tzF55_0n : nth tzF55.toList 0 = some tzF55_0 := rfl
theorem tzF55_0t : tzF55_0.type = 3 := rfl
theorem tzF55_0o : tzF55_0.offset = 0 := rfl
noncomputable def tzF55_1 : Field := fieldOf tzF55 1
theorem tzF55_1n : nth tzF55.toList 1 = some tzF55_1 := rfl
theorem tzF55_1t : tzF55_1.type = 27 := rfl
theorem tzF55_1o : tzF55_1.offset = 1 := rfl
noncomputable def tzF55_2 : Field := fieldOf tzF55 2
theorem tzF55_2n : nth tzF55.toList 2 = some tzF55_2 := rfl
theorem tzF55_2t : tzF55_2.type = 3 := rfl
theorem tzF55_2o : tzF55_2.offset = 3 := rfl
noncomputable def tzF55_3 : Field := fieldOf tzF55 3
theorem tzF55_3n : nth tzF55.toList 3 = some tzF55_3 := rfl
theorem tzF55_3t : tzF55_3.type = 51 := rfl
theorem tzF55_3o : tzF55_3.offset = 4 := rfl
noncomputable def tzF55_4 : Field := fieldOf tzF55 4
theorem tzF55_4n : nth tzF55.toList 4 = some tzF55_4 := rfl
theorem tzF55_4t : tzF55_4.type = 51 := rfl
theorem tzF55_4o : tzF55_4.offset = 6 := rfl
theorem tk55 : sizesKnown Tryz.env tzF55.toList = true := rfl
theorem ts55 : Tryz.env.size 55 = some 8 := rfl
theorem tg55 : Tryz.env.isAgg 55 = some true := rfl
theorem tz55 : Tryz.env.zero 55 = some (.agg [(nI 0), (.str []), .nilSlice, (nI 0), (nI 0), (.str []), (nI 0), (.str [])]) := rfl
theorem tf55_0 (b off : Nat) : fieldAddrS Tryz.env 55 (.ptr b off) 0 = some (.ptr b (off + 0)) := rfl
theorem tf55_1 (b off : Nat) : fieldAddrS Tryz.env 55 (.ptr b off) 1 = some (.ptr b (off + 1)) := rfl
theorem tf55_2 (b off : Nat) : fieldAddrS Tryz.env 55 (.ptr b off) 2 = some (.ptr b (off + 3)) := rfl
theorem tf55_3 (b off : Nat) : fieldAddrS Tryz.env 55 (.ptr b off) 3 = some (.ptr b (off + 4)) := rfl
theorem tf55_4 (b off : Nat) : fieldAddrS Tryz.env 55 (.ptr b off) 4 = some (.ptr b (off + 6)) := rfl
theorem tu70 : Tryz.env.under 70 = some (.slice 30) := rfl
theorem ts70 : Tryz.env.size 70 = some 1 := rfl
theorem tg70 : Tryz.env.isAgg 70 = some false := rfl
theorem tz70 : Tryz.env.zero 70 = some .nilSlice := rfl
theorem te70 : Tryz.env.elem 70 = some 30 := rfl
theorem tu72 : Tryz.env.under 72 = some (.map 9 113) := rfl
theorem ts72 : Tryz.env.size 72 = some 1 := rfl
theorem tg72 : Tryz.env.isAgg 72 = some false := rfl
theorem tz72 : Tryz.env.zero 72 = some .nilMap := rfl
theorem tm72 : Tryz.env.mapT 72 = some (9, 113) := rfl
theorem tu78 : Tryz.env.under 78 = some (.map 9 4) := rfl
theorem ts78 : Tryz.env.size 78 = some 1 := rfl
theorem tg78 : Tryz.env.isAgg 78 = some false := rfl
theorem tz78 : Tryz.env.zero 78 = some .nilMap := rfl
theorem tm78 : Tryz.env.mapT 78 = some (9, 4) := rfl
theorem tu83 : Tryz.env.under 83 = some (.slice 28) := rfl
theorem ts83 : Tryz.env.size 83 = some 1 := rfl
theorem tg83 : Tryz.env.isAgg 83 = some false := rfl
theorem tz83 : Tryz.env.zero 83 = some .nilSlice := rfl
theorem te83 : Tryz.env.elem 83 = some 28 := rfl
noncomputable def tzF113 : Array Field := fieldsOfE Tryz.env 113
theorem tu113 : Tryz.env.under 113 = some (.struct tzF113) := rfl
noncomputable def tzF113_0 : Field := fieldOf tzF113 0
theorem tzF113_0n : nth tzF113.toList 0 = some tzF113_0 := rfl
theorem tzF113_0t : tzF113_0.type = 51 := rfl
theorem tzF113_0o : tzF113_0.offset = 0 := rfl
noncomputable def tzF113_1 : Field := fieldOf tzF113 1
theorem tzF113_1n : nth tzF113.toList 1 = some tzF113_1 := rfl
theorem tzF113_1t : tzF113_1.type = 3 := rfl
theorem tzF113_1o : tzF113_1.offset = 2 := rfl
noncomputable def tzF113_2 : Field := fieldOf tzF113 2
theorem tzF113_2n : nth tzF113.toList 2 = some tzF113_2 := rfl
theorem tzF113_2t : tzF113_2.type = 3 := rfl
theorem tzF113_2o : tzF113_2.offset = 3 := rfl
theorem tk113 : sizesKnown Tryz.env tzF113.toList = true := rfl
theorem ts113 : Tryz.env.size 113 = some 4 := rfl
theorem tg113 : Tryz.env.isAgg 113 = some true := rfl
theorem tz113 : Tryz.env.zero 113 = some (.agg [(nI 0), (.str []), (nI 0), (nI 0)]) := rfl
theorem tf113_0 (b off : Nat) : fieldAddrS Tryz.env 113 (.ptr b off) 0 = some (.ptr b (off + 0)) := rfl
theorem tf113_1 (b off : Nat) : fieldAddrS Tryz.env 113 (.ptr b off) 1 = some (.ptr b (off + 2)) := rfl
theorem tf113_2 (b off : Nat) : fieldAddrS Tryz.env 113 (.ptr b off) 2 = some (.ptr b (off + 3)) := rfl
theorem tu117 : Tryz.env.under 117 = some (.array 2 51) := rfl
theorem ts117 : Tryz.env.size 117 = some 4 := rfl
theorem tg117 : Tryz.env.isAgg 117 = some true := rfl
theorem tz117 : Tryz.env.zero 117 = some (.agg [(nI 0), (.str []), (nI 0), (.str [])]) := rfl
end Go.Proofs
