/- Rows of pairs of lists, run by the kernel. Conditions: none. -/
import Derived.Test.YtbclmkfibgmgdaaGreatDoorRdFM
import Derived.KernelRfl
namespace Go.Ab
theorem row68 : (rowOk [2, 3, 5] && minOk [2, 3, 5]) = true := by kernel_rfl
theorem row72 : (rowOk [2, 4, 4] && minOk [2, 4, 4]) = true := by kernel_rfl
theorem row103 : (rowOk [4, 2, 4] && minOk [4, 2, 4]) = true := by kernel_rfl
theorem row106 : (rowOk [4, 3, 3] && minOk [4, 3, 3]) = true := by kernel_rfl
theorem row24 : (rowOk [4, 5] && minOk [4, 5]) = true := by kernel_rfl
theorem row28 : (rowOk [5, 4] && minOk [5, 4]) = true := by kernel_rfl
theorem row74 : (rowOk [2, 5, 2] && minOk [2, 5, 2]) = true := by kernel_rfl
theorem row80 : (rowOk [3, 1, 5] && minOk [3, 1, 5]) = true := by kernel_rfl
theorem row105 : (rowOk [4, 3, 2] && minOk [4, 3, 2]) = true := by kernel_rfl
theorem row107 : (rowOk [4, 4, 1] && minOk [4, 4, 1]) = true := by kernel_rfl
theorem row39 : (rowOk [1, 2, 5] && minOk [1, 2, 5]) = true := by kernel_rfl
theorem row43 : (rowOk [1, 3, 4] && minOk [1, 3, 4]) = true := by kernel_rfl
theorem row73 : (rowOk [2, 5, 1] && minOk [2, 5, 1]) = true := by kernel_rfl
theorem row79 : (rowOk [3, 1, 4] && minOk [3, 1, 4]) = true := by kernel_rfl
theorem row111 : (rowOk [5, 1, 2] && minOk [5, 1, 2]) = true := by kernel_rfl
theorem row114 : (rowOk [5, 2, 1] && minOk [5, 2, 1]) = true := by kernel_rfl
theorem row42 : (rowOk [1, 3, 3] && minOk [1, 3, 3]) = true := by kernel_rfl
theorem row46 : (rowOk [1, 4, 2] && minOk [1, 4, 2]) = true := by kernel_rfl
theorem row82 : (rowOk [3, 2, 2] && minOk [3, 2, 2]) = true := by kernel_rfl
theorem row86 : (rowOk [3, 3, 1] && minOk [3, 3, 1]) = true := by kernel_rfl
theorem row21 : (rowOk [4, 2] && minOk [4, 2]) = true := by kernel_rfl
theorem row25 : (rowOk [5, 1] && minOk [5, 1]) = true := by kernel_rfl
theorem row64 : (rowOk [2, 3, 1] && minOk [2, 3, 1]) = true := by kernel_rfl
theorem row77 : (rowOk [3, 1, 2] && minOk [3, 1, 2]) = true := by kernel_rfl
theorem row20 : (rowOk [4, 1] && minOk [4, 1]) = true := by kernel_rfl
theorem row32 : (rowOk [1, 1, 3] && minOk [1, 1, 3]) = true := by kernel_rfl
theorem row7 : (rowOk [1, 3] && minOk [1, 3]) = true := by kernel_rfl
theorem row11 : (rowOk [2, 2] && minOk [2, 2]) = true := by kernel_rfl
theorem row10 : (rowOk [2, 1] && minOk [2, 1]) = true := by kernel_rfl
theorem row30 : (rowOk [1, 1, 1] && minOk [1, 1, 1]) = true := by kernel_rfl
end Go.Ab
