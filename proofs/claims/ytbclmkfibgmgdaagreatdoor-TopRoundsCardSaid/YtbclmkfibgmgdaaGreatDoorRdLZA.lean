/- Closed facts of the tied card of TopRounds. Conditions: none. -/
import Derived.Test.YtbclmkfibgmgdaaGreatDoorRows
import Derived.SevenTiedAt
namespace Go.Proofs.YtbclmkfibgmgdaaGreatDoor.topRounds
open Go
set_option maxRecDepth 1000000
theorem cA : Tryz.pinned.checked.prog.funcNamed Rows.topRoundsRow.func = some 3 := by kernel_rfl
theorem cB : Tryz.pinned.checked.prog.wantsStandIn 22 = false := by kernel_rfl
theorem cM : Tryz.pinned.checked.prog.mainIs = some (true, "7b5cf162ff2b02afc6fb694b6f8920936ed6b02e385fa031c82b17c1f316ba31".toList) := by kernel_rfl
theorem cL : true = Tryz.pinned.checked.prog.looks [] := by kernel_rfl
theorem cW : Rows.topRoundsRow.wfByText (OpenSpec.ofChange Rows.topRoundsSpec) = true := by kernel_rfl
theorem cN : Tryz.pinned.checked.prog.funcs.toList.any Func.goes = false := by kernel_rfl
theorem goes_none {c : OpenClaim} {P : Program} (hs : c.start = .entering) (h : P.funcs.toList.any Func.goes = false) : false = c.goesBy P := by
  have each : ∀ g : FuncId, (P.funcs[g]?).any Func.goes = false := fun g => by
    cases hg : P.funcs[g]? with
    | none => rfl
    | some fn =>
      have hm : fn ∈ P.funcs.toList := by
        have := Array.mem_of_getElem? hg
        simpa using this
      have := (List.any_eq_false.1 h) fn hm
      simpa using this
  have hall : P.funcs.any Func.goes = false := by rw [← Array.any_toList]; exact h
  have hgo : ∀ f, P.goes f = false := fun f => by
    unfold Program.goes
    rw [hall, Bool.and_false, Bool.or_false]
    exact List.any_eq_false.2 fun g _ => by rw [each g]; simp
  unfold OpenClaim.goesBy Program.goesAt Program.goesFrom
  rw [hs]
  cases P.funcNamed c.func with
  | none => rfl
  | some f => simp [hgo f]
theorem cG : false = Rows.topRoundsRow.goesBy Tryz.pinned.checked.prog := goes_none rfl cN
end Go.Proofs.YtbclmkfibgmgdaaGreatDoor.topRounds
