/- Rows of pairs of lists, run by the kernel. Conditions: none. -/
import Derived.Test.YtbclmkfibgmgdaaGreatDoorRdFM
import Derived.KernelRfl
namespace Go.Ab
theorem row29 : (rowOk [5, 5] && minOk [5, 5]) = true := by kernel_rfl
theorem row89 : (rowOk [3, 3, 4] && minOk [3, 3, 4]) = true := by kernel_rfl
theorem row92 : (rowOk [3, 4, 3] && minOk [3, 4, 3]) = true := by kernel_rfl
theorem row113 : (rowOk [5, 1, 4] && minOk [5, 1, 4]) = true := by kernel_rfl
theorem row116 : (rowOk [5, 2, 3] && minOk [5, 2, 3]) = true := by kernel_rfl
theorem row52 : (rowOk [1, 5, 3] && minOk [1, 5, 3]) = true := by kernel_rfl
theorem row63 : (rowOk [2, 2, 5] && minOk [2, 2, 5]) = true := by kernel_rfl
theorem row91 : (rowOk [3, 4, 2] && minOk [3, 4, 2]) = true := by kernel_rfl
theorem row93 : (rowOk [3, 5, 1] && minOk [3, 5, 1]) = true := by kernel_rfl
theorem row117 : (rowOk [5, 3, 1] && minOk [5, 3, 1]) = true := by kernel_rfl
theorem row19 : (rowOk [3, 5] && minOk [3, 5]) = true := by kernel_rfl
theorem row58 : (rowOk [2, 1, 5] && minOk [2, 1, 5]) = true := by kernel_rfl
theorem row62 : (rowOk [2, 2, 4] && minOk [2, 2, 4]) = true := by kernel_rfl
theorem row90 : (rowOk [3, 4, 1] && minOk [3, 4, 1]) = true := by kernel_rfl
theorem row97 : (rowOk [4, 1, 3] && minOk [4, 1, 3]) = true := by kernel_rfl
theorem row22 : (rowOk [4, 3] && minOk [4, 3]) = true := by kernel_rfl
theorem row26 : (rowOk [5, 2] && minOk [5, 2]) = true := by kernel_rfl
theorem row61 : (rowOk [2, 2, 3] && minOk [2, 2, 3]) = true := by kernel_rfl
theorem row65 : (rowOk [2, 3, 2] && minOk [2, 3, 2]) = true := by kernel_rfl
theorem row110 : (rowOk [5, 1, 1] && minOk [5, 1, 1]) = true := by kernel_rfl
theorem row9 : (rowOk [1, 5] && minOk [1, 5]) = true := by kernel_rfl
theorem row41 : (rowOk [1, 3, 2] && minOk [1, 3, 2]) = true := by kernel_rfl
theorem row45 : (rowOk [1, 4, 1] && minOk [1, 4, 1]) = true := by kernel_rfl
theorem row4 : (rowOk [5] && minOk [5]) = true := by kernel_rfl
theorem row8 : (rowOk [1, 4] && minOk [1, 4]) = true := by kernel_rfl
theorem row55 : (rowOk [2, 1, 2] && minOk [2, 1, 2]) = true := by kernel_rfl
theorem row59 : (rowOk [2, 2, 1] && minOk [2, 2, 1]) = true := by kernel_rfl
theorem row35 : (rowOk [1, 2, 1] && minOk [1, 2, 1]) = true := by kernel_rfl
theorem row54 : (rowOk [2, 1, 1] && minOk [2, 1, 1]) = true := by kernel_rfl
theorem row0 : (rowOk [1] && minOk [1]) = true := by kernel_rfl
end Go.Ab
