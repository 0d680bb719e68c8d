/-
  WorldBounds: config.Check, place, Role, Next over a chain of 3.
-/
import Derived.KernelRfl
import Derived.Test.YtjoelgicffojcaaGreatDoorWbCfSt
namespace Go.Proofs.YtjoelgicffojcaaGreatDoor.wb
open Go.Eng
set_option maxRecDepth 1000000
set_option linter.unusedVariables false
set_option linter.unusedSimpArgs false
set_option linter.unusedSectionVars false
theorem chk3n (x0 x1 x2 : Int) : Chk .normal 3 [x0, x1, x2] := by unfold Chk; kernel_rfl
theorem plc03n (x0 x1 x2 : Int) : Plc0 .normal 3 [x0, x1, x2] := by unfold Plc0; kernel_rfl
theorem plc13n (x0 x1 x2 : Int) : Plc1 .normal 3 [x0, x1, x2] := by unfold Plc1; kernel_rfl
theorem rol3n (x0 x1 x2 : Int) : Rol .normal 3 [x0, x1, x2] := by unfold Rol; kernel_rfl
theorem nxt03n (x0 x1 x2 : Int) : Nxt0 .normal 3 [x0, x1, x2] := by unfold Nxt0; kernel_rfl
theorem nxt13n (x0 x1 x2 : Int) : Nxt1 .normal 3 [x0, x1, x2] := by unfold Nxt1; kernel_rfl
theorem nxt23n (x0 x1 x2 : Int) : Nxt2 .normal 3 [x0, x1, x2] := by unfold Nxt2; kernel_rfl
theorem chk3d (x0 x1 x2 : Int) : Chk .deferred 3 [x0, x1, x2] := by unfold Chk; kernel_rfl
theorem plc03d (x0 x1 x2 : Int) : Plc0 .deferred 3 [x0, x1, x2] := by unfold Plc0; kernel_rfl
theorem plc13d (x0 x1 x2 : Int) : Plc1 .deferred 3 [x0, x1, x2] := by unfold Plc1; kernel_rfl
theorem rol3d (x0 x1 x2 : Int) : Rol .deferred 3 [x0, x1, x2] := by unfold Rol; kernel_rfl
theorem nxt03d (x0 x1 x2 : Int) : Nxt0 .deferred 3 [x0, x1, x2] := by unfold Nxt0; kernel_rfl
theorem nxt13d (x0 x1 x2 : Int) : Nxt1 .deferred 3 [x0, x1, x2] := by unfold Nxt1; kernel_rfl
theorem nxt23d (x0 x1 x2 : Int) : Nxt2 .deferred 3 [x0, x1, x2] := by unfold Nxt2; kernel_rfl
end Go.Proofs.YtjoelgicffojcaaGreatDoor.wb
