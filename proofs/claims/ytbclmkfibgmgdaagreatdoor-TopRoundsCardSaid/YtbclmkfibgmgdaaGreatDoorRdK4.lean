/-  Conditions: none. -/
import Derived.Test.YtbclmkfibgmgdaaGreatDoorRdEnvT
import Derived.KernelRfl
namespace Go.Proofs
open Go Go.Ab
noncomputable def isTrue (r : CT (AV × Heap)) : Bool := match r with | .ret (.bool true, _) => true | _ => false
set_option maxRecDepth 1000000
theorem t1 : isTrue (call Tryz.env0 30000 100 4 [] ⟨.full none 17, 0, []⟩) = true := by kernel_rfl
end Go.Proofs
