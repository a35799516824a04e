/- Closed facts of the row of TopRounds. Conditions: none. -/
import Derived.Test.YtbclmkfibgmgdaaGreatDoorRows
import Derived.JoinedOf
namespace Go.Proofs.YtbclmkfibgmgdaaGreatDoor.topRounds
open Go
set_option maxRecDepth 1000000
theorem k1 : (laidOutB Tryz.pinned.checked.prog) = true := by kernel_rfl
theorem k5 : ((Rows.topRoundsRow.stops == [])) = true := by kernel_rfl
theorem k9 : ((Rows.topRoundsRow.inPlace == Tryz.pinned.checked.prog.inPlace 3)) = true := by kernel_rfl
theorem k13 : ((Rows.topRoundsRow.maps == (Tryz.f3.params.toList ++ Rows.topRoundsSpec.plain.varTypes Tryz.pinned.checked.prog).any (Tryz.pinned.checked.prog.mapsRec ·))) = true := by kernel_rfl
theorem k17 : ((Rows.topRoundsRow.wideKeys == (Tryz.f3.params.toList ++ Rows.topRoundsSpec.plain.varTypes Tryz.pinned.checked.prog ++ Tryz.f3.resultTypes.toList).any (Tryz.pinned.checked.prog.wideKeysFrom ·))) = true := by kernel_rfl
theorem k21 : ((Rows.topRoundsRow.loopsOut == Tryz.f3.resultTypes.toList.any (Tryz.pinned.checked.prog.loopsFrom ·))) = true := by kernel_rfl
theorem k25 : (Tryz.pinned.checked.prog.mayEnter) = true := by kernel_rfl
theorem k29 : ((Rows.topRoundsRow.pinned == Rows.topRoundsRow.pinnedBy)) = true := by kernel_rfl
end Go.Proofs.YtbclmkfibgmgdaaGreatDoor.topRounds
