/- Rows of pairs of lists, run by the kernel. Conditions: none. -/
import Derived.Test.YtbclmkfibgmgdaaGreatDoorRdFM
import Derived.KernelRfl
namespace Go.Ab
theorem row53 : (rowOk [1, 5, 4] && minOk [1, 5, 4]) = true := by kernel_rfl
theorem row75 : (rowOk [2, 5, 3] && minOk [2, 5, 3]) = true := by kernel_rfl
theorem row99 : (rowOk [4, 1, 5] && minOk [4, 1, 5]) = true := by kernel_rfl
theorem row108 : (rowOk [4, 4, 2] && minOk [4, 4, 2]) = true := by kernel_rfl
theorem row119 : (rowOk [5, 4, 1] && minOk [5, 4, 1]) = true := by kernel_rfl
theorem row44 : (rowOk [1, 3, 5] && minOk [1, 3, 5]) = true := by kernel_rfl
theorem row71 : (rowOk [2, 4, 3] && minOk [2, 4, 3]) = true := by kernel_rfl
theorem row84 : (rowOk [3, 2, 4] && minOk [3, 2, 4]) = true := by kernel_rfl
theorem row102 : (rowOk [4, 2, 3] && minOk [4, 2, 3]) = true := by kernel_rfl
theorem row112 : (rowOk [5, 1, 3] && minOk [5, 1, 3]) = true := by kernel_rfl
theorem row27 : (rowOk [5, 3] && minOk [5, 3]) = true := by kernel_rfl
theorem row47 : (rowOk [1, 4, 3] && minOk [1, 4, 3]) = true := by kernel_rfl
theorem row70 : (rowOk [2, 4, 2] && minOk [2, 4, 2]) = true := by kernel_rfl
theorem row83 : (rowOk [3, 2, 3] && minOk [3, 2, 3]) = true := by kernel_rfl
theorem row104 : (rowOk [4, 3, 1] && minOk [4, 3, 1]) = true := by kernel_rfl
theorem row14 : (rowOk [2, 5] && minOk [2, 5]) = true := by kernel_rfl
theorem row38 : (rowOk [1, 2, 4] && minOk [1, 2, 4]) = true := by kernel_rfl
theorem row50 : (rowOk [1, 5, 1] && minOk [1, 5, 1]) = true := by kernel_rfl
theorem row78 : (rowOk [3, 1, 3] && minOk [3, 1, 3]) = true := by kernel_rfl
theorem row96 : (rowOk [4, 1, 2] && minOk [4, 1, 2]) = true := by kernel_rfl
theorem row17 : (rowOk [3, 3] && minOk [3, 3]) = true := by kernel_rfl
theorem row33 : (rowOk [1, 1, 4] && minOk [1, 1, 4]) = true := by kernel_rfl
theorem row60 : (rowOk [2, 2, 2] && minOk [2, 2, 2]) = true := by kernel_rfl
theorem row81 : (rowOk [3, 2, 1] && minOk [3, 2, 1]) = true := by kernel_rfl
theorem row16 : (rowOk [3, 2] && minOk [3, 2]) = true := by kernel_rfl
theorem row36 : (rowOk [1, 2, 2] && minOk [1, 2, 2]) = true := by kernel_rfl
theorem row3 : (rowOk [4] && minOk [4]) = true := by kernel_rfl
theorem row15 : (rowOk [3, 1] && minOk [3, 1]) = true := by kernel_rfl
theorem row6 : (rowOk [1, 2] && minOk [1, 2]) = true := by kernel_rfl
theorem row1 : (rowOk [2] && minOk [2]) = true := by kernel_rfl
end Go.Ab
