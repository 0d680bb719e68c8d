/-
  WorldBounds: config.Check, place, Role, Next over a chain of 2.
-/
import Derived.KernelRfl
import Derived.Test.YtjoelgicffojcaaGreatDoorWbCfSt
namespace Go.Proofs.YtjoelgicffojcaaGreatDoor.wb
open Go.Eng
set_option maxRecDepth 1000000
set_option linter.unusedVariables false
set_option linter.unusedSimpArgs false
set_option linter.unusedSectionVars false
theorem chk2n (x0 x1 : Int) : Chk .normal 2 [x0, x1] := by unfold Chk; kernel_rfl
theorem plc02n (x0 x1 : Int) : Plc0 .normal 2 [x0, x1] := by unfold Plc0; kernel_rfl
theorem plc12n (x0 x1 : Int) : Plc1 .normal 2 [x0, x1] := by unfold Plc1; kernel_rfl
theorem rol2n (x0 x1 : Int) : Rol .normal 2 [x0, x1] := by unfold Rol; kernel_rfl
theorem nxt02n (x0 x1 : Int) : Nxt0 .normal 2 [x0, x1] := by unfold Nxt0; kernel_rfl
theorem nxt12n (x0 x1 : Int) : Nxt1 .normal 2 [x0, x1] := by unfold Nxt1; kernel_rfl
theorem nxt22n (x0 x1 : Int) : Nxt2 .normal 2 [x0, x1] := by unfold Nxt2; kernel_rfl
theorem chk2d (x0 x1 : Int) : Chk .deferred 2 [x0, x1] := by unfold Chk; kernel_rfl
theorem plc02d (x0 x1 : Int) : Plc0 .deferred 2 [x0, x1] := by unfold Plc0; kernel_rfl
theorem plc12d (x0 x1 : Int) : Plc1 .deferred 2 [x0, x1] := by unfold Plc1; kernel_rfl
theorem rol2d (x0 x1 : Int) : Rol .deferred 2 [x0, x1] := by unfold Rol; kernel_rfl
theorem nxt02d (x0 x1 : Int) : Nxt0 .deferred 2 [x0, x1] := by unfold Nxt0; kernel_rfl
theorem nxt12d (x0 x1 : Int) : Nxt1 .deferred 2 [x0, x1] := by unfold Nxt1; kernel_rfl
theorem nxt22d (x0 x1 : Int) : Nxt2 .deferred 2 [x0, x1] := by unfold Nxt2; kernel_rfl
end Go.Proofs.YtjoelgicffojcaaGreatDoor.wb
