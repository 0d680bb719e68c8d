/-
  WorldBounds: config.Check, place, Role, Next over a chain of 4.
-/
import Derived.KernelRfl
import Derived.Test.YtjoelgicffojcaaGreatDoorWbCfSt
namespace Go.Proofs.YtjoelgicffojcaaGreatDoor.wb
open Go.Eng
set_option maxRecDepth 1000000
set_option linter.unusedVariables false
set_option linter.unusedSimpArgs false
set_option linter.unusedSectionVars false
theorem chk4n (x0 x1 x2 x3 : Int) : Chk .normal 4 [x0, x1, x2, x3] := by unfold Chk; kernel_rfl
theorem plc04n (x0 x1 x2 x3 : Int) : Plc0 .normal 4 [x0, x1, x2, x3] := by unfold Plc0; kernel_rfl
theorem plc14n (x0 x1 x2 x3 : Int) : Plc1 .normal 4 [x0, x1, x2, x3] := by unfold Plc1; kernel_rfl
theorem rol4n (x0 x1 x2 x3 : Int) : Rol .normal 4 [x0, x1, x2, x3] := by unfold Rol; kernel_rfl
theorem nxt04n (x0 x1 x2 x3 : Int) : Nxt0 .normal 4 [x0, x1, x2, x3] := by unfold Nxt0; kernel_rfl
theorem nxt14n (x0 x1 x2 x3 : Int) : Nxt1 .normal 4 [x0, x1, x2, x3] := by unfold Nxt1; kernel_rfl
theorem nxt24n (x0 x1 x2 x3 : Int) : Nxt2 .normal 4 [x0, x1, x2, x3] := by unfold Nxt2; kernel_rfl
theorem chk4d (x0 x1 x2 x3 : Int) : Chk .deferred 4 [x0, x1, x2, x3] := by unfold Chk; kernel_rfl
theorem plc04d (x0 x1 x2 x3 : Int) : Plc0 .deferred 4 [x0, x1, x2, x3] := by unfold Plc0; kernel_rfl
theorem plc14d (x0 x1 x2 x3 : Int) : Plc1 .deferred 4 [x0, x1, x2, x3] := by unfold Plc1; kernel_rfl
theorem rol4d (x0 x1 x2 x3 : Int) : Rol .deferred 4 [x0, x1, x2, x3] := by unfold Rol; kernel_rfl
theorem nxt04d (x0 x1 x2 x3 : Int) : Nxt0 .deferred 4 [x0, x1, x2, x3] := by unfold Nxt0; kernel_rfl
theorem nxt14d (x0 x1 x2 x3 : Int) : Nxt1 .deferred 4 [x0, x1, x2, x3] := by unfold Nxt1; kernel_rfl
theorem nxt24d (x0 x1 x2 x3 : Int) : Nxt2 .deferred 4 [x0, x1, x2, x3] := by unfold Nxt2; kernel_rfl
end Go.Proofs.YtjoelgicffojcaaGreatDoor.wb
