/- Closed facts of the row of TopRounds. Conditions: none. -/
import Derived.Test.YtbclmkfibgmgdaaGreatDoorRows
import Derived.JoinedOf
namespace Go.Proofs.YtbclmkfibgmgdaaGreatDoor.topRounds
open Go
set_option maxRecDepth 1000000
theorem k0 : (Rows.topRoundsRow.wf (OpenSpec.ofChange Rows.topRoundsSpec)) = true := by kernel_rfl
theorem k4 : (namedTie Tryz.pinned.checked.prog Rows.topRoundsRow.named Rows.topRoundsSpec.vars) = true := by kernel_rfl
theorem k8 : ((Tryz.pinned.checked.prog.stopKnobs == [])) = true := by kernel_rfl
theorem k12 : ((Rows.topRoundsRow.named == Tryz.pinned.checked.prog.varsNamed 3)) = true := by kernel_rfl
theorem k16 : ((Rows.topRoundsRow.loops == (Tryz.f3.params.toList ++ Rows.topRoundsSpec.plain.varTypes Tryz.pinned.checked.prog).any (Tryz.pinned.checked.prog.loopsFrom ·))) = true := by kernel_rfl
theorem k20 : ((Rows.topRoundsRow.ifacesOut == Tryz.f3.resultTypes.toList.any (Tryz.pinned.checked.prog.ifacesRec ·))) = true := by kernel_rfl
theorem k24 : (Tryz.pinned.checked.prog.stopsHeard) = true := by kernel_rfl
theorem k28 : ((Rows.topRoundsRow.kinds == (if Rows.topRoundsRow.domain.isEmpty then [] else Tryz.f3.params.toList.map fun t => match Tryz.pinned.checked.prog.underlying t with | some (.int k) => some k | _ => none))) = true := by kernel_rfl
end Go.Proofs.YtbclmkfibgmgdaaGreatDoor.topRounds
