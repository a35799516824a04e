/- Closed facts of the row of TopRounds. Conditions: none. -/
import Derived.Test.YtbclmkfibgmgdaaGreatDoorRows
import Derived.JoinedOf
namespace Go.Proofs.YtbclmkfibgmgdaaGreatDoor.topRounds
open Go
set_option maxRecDepth 1000000
theorem k3 : (Tryz.f3.params.all (Tryz.pinned.checked.prog.readableRec ·)) = true := by kernel_rfl
theorem k7 : ((Rows.topRoundsRow.knobs == [])) = true := by kernel_rfl
theorem k11 : ((Rows.topRoundsRow.recurses == Tryz.pinned.checked.prog.recurses 3)) = true := by kernel_rfl
theorem k15 : ((Rows.topRoundsRow.mapsOut == Tryz.pinned.checked.prog.mapsAmong Tryz.f3.resultTypes.toList)) = true := by kernel_rfl
theorem k19 : (Tryz.f3.resultTypes.all (fun t => Tryz.pinned.checked.prog.readableRec t && decide (t < Tryz.pinned.checked.prog.types.size))) = true := by kernel_rfl
theorem k23 : (Rows.topRoundsRow.shortTexts.isNone) = true := by kernel_rfl
theorem k27 : ((Tryz.pinned.checked.prog.make == some Rows.topRoundsRow.make)) = true := by kernel_rfl
theorem k31 : (Rows.topRoundsRow.veiledFits Tryz.pinned.checked.prog Tryz.f3.params.toList (Tryz.f3.params.toList ++ Rows.topRoundsSpec.plain.varTypes Tryz.pinned.checked.prog ++ Tryz.f3.resultTypes.toList)) = true := by kernel_rfl
end Go.Proofs.YtbclmkfibgmgdaaGreatDoor.topRounds
