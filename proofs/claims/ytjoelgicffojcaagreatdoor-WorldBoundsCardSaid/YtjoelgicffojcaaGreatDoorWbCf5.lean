/-
  WorldBounds: config.Check, place, Role, Next over a chain of 5.
-/
import Derived.KernelRfl
import Derived.Test.YtjoelgicffojcaaGreatDoorWbCfSt
namespace Go.Proofs.YtjoelgicffojcaaGreatDoor.wb
open Go.Eng
set_option maxRecDepth 1000000
set_option linter.unusedVariables false
set_option linter.unusedSimpArgs false
set_option linter.unusedSectionVars false
theorem chk5n (x0 x1 x2 x3 x4 : Int) : Chk .normal 5 [x0, x1, x2, x3, x4] := by unfold Chk; kernel_rfl
theorem plc05n (x0 x1 x2 x3 x4 : Int) : Plc0 .normal 5 [x0, x1, x2, x3, x4] := by unfold Plc0; kernel_rfl
theorem plc15n (x0 x1 x2 x3 x4 : Int) : Plc1 .normal 5 [x0, x1, x2, x3, x4] := by unfold Plc1; kernel_rfl
theorem rol5n (x0 x1 x2 x3 x4 : Int) : Rol .normal 5 [x0, x1, x2, x3, x4] := by unfold Rol; kernel_rfl
theorem nxt05n (x0 x1 x2 x3 x4 : Int) : Nxt0 .normal 5 [x0, x1, x2, x3, x4] := by unfold Nxt0; kernel_rfl
theorem nxt15n (x0 x1 x2 x3 x4 : Int) : Nxt1 .normal 5 [x0, x1, x2, x3, x4] := by unfold Nxt1; kernel_rfl
theorem nxt25n (x0 x1 x2 x3 x4 : Int) : Nxt2 .normal 5 [x0, x1, x2, x3, x4] := by unfold Nxt2; kernel_rfl
theorem chk5d (x0 x1 x2 x3 x4 : Int) : Chk .deferred 5 [x0, x1, x2, x3, x4] := by unfold Chk; kernel_rfl
theorem plc05d (x0 x1 x2 x3 x4 : Int) : Plc0 .deferred 5 [x0, x1, x2, x3, x4] := by unfold Plc0; kernel_rfl
theorem plc15d (x0 x1 x2 x3 x4 : Int) : Plc1 .deferred 5 [x0, x1, x2, x3, x4] := by unfold Plc1; kernel_rfl
theorem rol5d (x0 x1 x2 x3 x4 : Int) : Rol .deferred 5 [x0, x1, x2, x3, x4] := by unfold Rol; kernel_rfl
theorem nxt05d (x0 x1 x2 x3 x4 : Int) : Nxt0 .deferred 5 [x0, x1, x2, x3, x4] := by unfold Nxt0; kernel_rfl
theorem nxt15d (x0 x1 x2 x3 x4 : Int) : Nxt1 .deferred 5 [x0, x1, x2, x3, x4] := by unfold Nxt1; kernel_rfl
theorem nxt25d (x0 x1 x2 x3 x4 : Int) : Nxt2 .deferred 5 [x0, x1, x2, x3, x4] := by unfold Nxt2; kernel_rfl
end Go.Proofs.YtjoelgicffojcaaGreatDoor.wb
