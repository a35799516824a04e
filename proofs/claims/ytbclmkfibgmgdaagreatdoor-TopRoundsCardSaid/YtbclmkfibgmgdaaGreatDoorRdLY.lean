/- Closed facts of the row of TopRounds. Conditions: none. -/
import Derived.Test.YtbclmkfibgmgdaaGreatDoorRdLYK0
import Derived.Test.YtbclmkfibgmgdaaGreatDoorRdLYK1
import Derived.Test.YtbclmkfibgmgdaaGreatDoorRdLYK2
import Derived.Test.YtbclmkfibgmgdaaGreatDoorRdLYK3
import Derived.Test.YtbclmkfibgmgdaaGreatDoorRows
import Derived.JoinedOf
namespace Go.Proofs.YtbclmkfibgmgdaaGreatDoor.topRounds
open Go
set_option maxRecDepth 1000000
theorem fNamed : Tryz.pinned.checked.prog.funcNamed Rows.topRoundsRow.func = some 3 := by kernel_rfl
theorem inst : Tryz.f3.isInstance Tryz.pinned.checked.prog Rows.topRoundsRow.origin Rows.topRoundsRow.targs := of_decide_eq_true (by kernel_rfl)
theorem wrap : Tryz.f3.isWrapper Tryz.pinned.checked.prog Rows.topRoundsRow.wrapper Rows.topRoundsRow.mainSum := by unfold Func.isWrapper; first | (rw [if_pos (by decide +kernel)]; kernel_rfl) | (rw [if_neg (by decide +kernel)]; exact ⟨rfl, rfl⟩)
theorem both {a b : Bool} (ha : a = true) (hb : b = true) : (a && b) = true := by rw [ha, hb]; rfl
theorem facts : joinedFacts Tryz.pinned.checked.prog 3 Tryz.f3 Rows.topRoundsSpec Rows.topRoundsRow = true := by
  unfold joinedFacts
  refine both ?_ k31
  refine both ?_ k30
  refine both ?_ k29
  refine both ?_ k28
  refine both ?_ k27
  refine both ?_ k26
  refine both ?_ k25
  refine both ?_ k24
  refine both ?_ k23
  refine both ?_ k22
  refine both ?_ k21
  refine both ?_ k20
  refine both ?_ k19
  refine both ?_ k18
  refine both ?_ k17
  refine both ?_ k16
  refine both ?_ k15
  refine both ?_ k14
  refine both ?_ k13
  refine both ?_ k12
  refine both ?_ k11
  refine both ?_ k10
  refine both ?_ k9
  refine both ?_ k8
  refine both ?_ k7
  refine both ?_ k6
  refine both ?_ k5
  refine both ?_ k4
  refine both ?_ k3
  refine both ?_ k2
  refine both ?_ k1
  exact k0
end Go.Proofs.YtbclmkfibgmgdaaGreatDoor.topRounds
