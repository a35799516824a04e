/- Closed facts of the row of TopRounds. Conditions: none. -/
import Derived.Test.YtbclmkfibgmgdaaGreatDoorRows
import Derived.JoinedOf
namespace Go.Proofs.YtbclmkfibgmgdaaGreatDoor.topRounds
open Go
set_option maxRecDepth 1000000
theorem k2 : (mapsRowed Tryz.pinned.checked.prog) = true := by kernel_rfl
theorem k6 : ((Tryz.pinned.checked.prog.stops == [])) = true := by kernel_rfl
theorem k10 : ((Rows.topRoundsRow.unfollowed == Tryz.pinned.checked.prog.unfollowed 3)) = true := by kernel_rfl
theorem k14 : ((Rows.topRoundsRow.ifaces == (Tryz.f3.params.toList ++ Rows.topRoundsSpec.plain.varTypes Tryz.pinned.checked.prog).any (Tryz.pinned.checked.prog.ifacesRec ·))) = true := by kernel_rfl
theorem k18 : (Rows.topRoundsSpec.vars.all (Tryz.pinned.checked.prog.varReadable ·)) = true := by kernel_rfl
theorem k22 : ((Rows.topRoundsRow.plainKeys == Tryz.pinned.checked.prog.plainKeys)) = true := by kernel_rfl
theorem k26 : ((Rows.topRoundsRow.lifted == Tryz.pinned.checked.prog.liftsFinal)) = true := by kernel_rfl
theorem k30 : ((Rows.topRoundsRow.veiled == (Tryz.f3.params.toList ++ Rows.topRoundsSpec.plain.varTypes Tryz.pinned.checked.prog ++ Tryz.f3.resultTypes.toList).any (Tryz.pinned.checked.prog.veiledRec ·))) = true := by kernel_rfl
end Go.Proofs.YtbclmkfibgmgdaaGreatDoor.topRounds
