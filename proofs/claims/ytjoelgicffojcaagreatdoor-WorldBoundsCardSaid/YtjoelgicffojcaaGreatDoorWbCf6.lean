/-
  WorldBounds: config.Check, place, Role, Next over a chain of 6.
-/
import Derived.KernelRfl
import Derived.Test.YtjoelgicffojcaaGreatDoorWbCfSt
namespace Go.Proofs.YtjoelgicffojcaaGreatDoor.wb
open Go.Eng
set_option maxRecDepth 1000000
set_option linter.unusedVariables false
set_option linter.unusedSimpArgs false
set_option linter.unusedSectionVars false
theorem chk6n (x0 x1 x2 x3 x4 x5 : Int) : Chk .normal 6 [x0, x1, x2, x3, x4, x5] := by unfold Chk; kernel_rfl
theorem plc06n (x0 x1 x2 x3 x4 x5 : Int) : Plc0 .normal 6 [x0, x1, x2, x3, x4, x5] := by unfold Plc0; kernel_rfl
theorem plc16n (x0 x1 x2 x3 x4 x5 : Int) : Plc1 .normal 6 [x0, x1, x2, x3, x4, x5] := by unfold Plc1; kernel_rfl
theorem rol6n (x0 x1 x2 x3 x4 x5 : Int) : Rol .normal 6 [x0, x1, x2, x3, x4, x5] := by unfold Rol; kernel_rfl
theorem nxt06n (x0 x1 x2 x3 x4 x5 : Int) : Nxt0 .normal 6 [x0, x1, x2, x3, x4, x5] := by unfold Nxt0; kernel_rfl
theorem nxt16n (x0 x1 x2 x3 x4 x5 : Int) : Nxt1 .normal 6 [x0, x1, x2, x3, x4, x5] := by unfold Nxt1; kernel_rfl
theorem nxt26n (x0 x1 x2 x3 x4 x5 : Int) : Nxt2 .normal 6 [x0, x1, x2, x3, x4, x5] := by unfold Nxt2; kernel_rfl
theorem chk6d (x0 x1 x2 x3 x4 x5 : Int) : Chk .deferred 6 [x0, x1, x2, x3, x4, x5] := by unfold Chk; kernel_rfl
theorem plc06d (x0 x1 x2 x3 x4 x5 : Int) : Plc0 .deferred 6 [x0, x1, x2, x3, x4, x5] := by unfold Plc0; kernel_rfl
theorem plc16d (x0 x1 x2 x3 x4 x5 : Int) : Plc1 .deferred 6 [x0, x1, x2, x3, x4, x5] := by unfold Plc1; kernel_rfl
theorem rol6d (x0 x1 x2 x3 x4 x5 : Int) : Rol .deferred 6 [x0, x1, x2, x3, x4, x5] := by unfold Rol; kernel_rfl
theorem nxt06d (x0 x1 x2 x3 x4 x5 : Int) : Nxt0 .deferred 6 [x0, x1, x2, x3, x4, x5] := by unfold Nxt0; kernel_rfl
theorem nxt16d (x0 x1 x2 x3 x4 x5 : Int) : Nxt1 .deferred 6 [x0, x1, x2, x3, x4, x5] := by unfold Nxt1; kernel_rfl
theorem nxt26d (x0 x1 x2 x3 x4 x5 : Int) : Nxt2 .deferred 6 [x0, x1, x2, x3, x4, x5] := by unfold Nxt2; kernel_rfl
end Go.Proofs.YtjoelgicffojcaaGreatDoor.wb
