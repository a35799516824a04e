/- Rows of pairs of lists, run by the kernel. Conditions: none. -/
import Derived.Test.YtbclmkfibgmgdaaGreatDoorRdFM
import Derived.KernelRfl
namespace Go.Ab
theorem row49 : (rowOk [1, 4, 5] && minOk [1, 4, 5]) = true := by kernel_rfl
theorem row85 : (rowOk [3, 2, 5] && minOk [3, 2, 5]) = true := by kernel_rfl
theorem row94 : (rowOk [3, 5, 2] && minOk [3, 5, 2]) = true := by kernel_rfl
theorem row109 : (rowOk [4, 5, 1] && minOk [4, 5, 1]) = true := by kernel_rfl
theorem row118 : (rowOk [5, 3, 2] && minOk [5, 3, 2]) = true := by kernel_rfl
theorem row48 : (rowOk [1, 4, 4] && minOk [1, 4, 4]) = true := by kernel_rfl
theorem row67 : (rowOk [2, 3, 4] && minOk [2, 3, 4]) = true := by kernel_rfl
theorem row88 : (rowOk [3, 3, 3] && minOk [3, 3, 3]) = true := by kernel_rfl
theorem row98 : (rowOk [4, 1, 4] && minOk [4, 1, 4]) = true := by kernel_rfl
theorem row115 : (rowOk [5, 2, 2] && minOk [5, 2, 2]) = true := by kernel_rfl
theorem row23 : (rowOk [4, 4] && minOk [4, 4]) = true := by kernel_rfl
theorem row51 : (rowOk [1, 5, 2] && minOk [1, 5, 2]) = true := by kernel_rfl
theorem row66 : (rowOk [2, 3, 3] && minOk [2, 3, 3]) = true := by kernel_rfl
theorem row87 : (rowOk [3, 3, 2] && minOk [3, 3, 2]) = true := by kernel_rfl
theorem row101 : (rowOk [4, 2, 2] && minOk [4, 2, 2]) = true := by kernel_rfl
theorem row18 : (rowOk [3, 4] && minOk [3, 4]) = true := by kernel_rfl
theorem row34 : (rowOk [1, 1, 5] && minOk [1, 1, 5]) = true := by kernel_rfl
theorem row57 : (rowOk [2, 1, 4] && minOk [2, 1, 4]) = true := by kernel_rfl
theorem row69 : (rowOk [2, 4, 1] && minOk [2, 4, 1]) = true := by kernel_rfl
theorem row100 : (rowOk [4, 2, 1] && minOk [4, 2, 1]) = true := by kernel_rfl
theorem row13 : (rowOk [2, 4] && minOk [2, 4]) = true := by kernel_rfl
theorem row37 : (rowOk [1, 2, 3] && minOk [1, 2, 3]) = true := by kernel_rfl
theorem row56 : (rowOk [2, 1, 3] && minOk [2, 1, 3]) = true := by kernel_rfl
theorem row95 : (rowOk [4, 1, 1] && minOk [4, 1, 1]) = true := by kernel_rfl
theorem row12 : (rowOk [2, 3] && minOk [2, 3]) = true := by kernel_rfl
theorem row40 : (rowOk [1, 3, 1] && minOk [1, 3, 1]) = true := by kernel_rfl
theorem row76 : (rowOk [3, 1, 1] && minOk [3, 1, 1]) = true := by kernel_rfl
theorem row31 : (rowOk [1, 1, 2] && minOk [1, 1, 2]) = true := by kernel_rfl
theorem row2 : (rowOk [3] && minOk [3]) = true := by kernel_rfl
theorem row5 : (rowOk [1, 1] && minOk [1, 1]) = true := by kernel_rfl
end Go.Ab
