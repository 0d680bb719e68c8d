/-
  WorldBounds: config.Check, place, Role, Next over a chain of 1.
-/
import Derived.KernelRfl
import Derived.Test.YtjoelgicffojcaaGreatDoorWbCfSt
namespace Go.Proofs.YtjoelgicffojcaaGreatDoor.wb
open Go.Eng
set_option maxRecDepth 1000000
set_option linter.unusedVariables false
set_option linter.unusedSimpArgs false
set_option linter.unusedSectionVars false
theorem chk1n (x0 : Int) : Chk .normal 1 [x0] := by unfold Chk; kernel_rfl
theorem plc01n (x0 : Int) : Plc0 .normal 1 [x0] := by unfold Plc0; kernel_rfl
theorem plc11n (x0 : Int) : Plc1 .normal 1 [x0] := by unfold Plc1; kernel_rfl
theorem rol1n (x0 : Int) : Rol .normal 1 [x0] := by unfold Rol; kernel_rfl
theorem nxt01n (x0 : Int) : Nxt0 .normal 1 [x0] := by unfold Nxt0; kernel_rfl
theorem nxt11n (x0 : Int) : Nxt1 .normal 1 [x0] := by unfold Nxt1; kernel_rfl
theorem nxt21n (x0 : Int) : Nxt2 .normal 1 [x0] := by unfold Nxt2; kernel_rfl
theorem chk1d (x0 : Int) : Chk .deferred 1 [x0] := by unfold Chk; kernel_rfl
theorem plc01d (x0 : Int) : Plc0 .deferred 1 [x0] := by unfold Plc0; kernel_rfl
theorem plc11d (x0 : Int) : Plc1 .deferred 1 [x0] := by unfold Plc1; kernel_rfl
theorem rol1d (x0 : Int) : Rol .deferred 1 [x0] := by unfold Rol; kernel_rfl
theorem nxt01d (x0 : Int) : Nxt0 .deferred 1 [x0] := by unfold Nxt0; kernel_rfl
theorem nxt11d (x0 : Int) : Nxt1 .deferred 1 [x0] := by unfold Nxt1; kernel_rfl
theorem nxt21d (x0 : Int) : Nxt2 .deferred 1 [x0] := by unfold Nxt2; kernel_rfl
end Go.Proofs.YtjoelgicffojcaaGreatDoor.wb
