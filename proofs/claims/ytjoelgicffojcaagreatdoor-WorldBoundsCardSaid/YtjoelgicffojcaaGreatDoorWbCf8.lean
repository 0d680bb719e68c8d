/-
  WorldBounds: config.Check, place, Role, Next over a chain of 8.
-/
import Derived.KernelRfl
import Derived.Test.YtjoelgicffojcaaGreatDoorWbCfSt
namespace Go.Proofs.YtjoelgicffojcaaGreatDoor.wb
open Go.Eng
set_option maxRecDepth 1000000
set_option linter.unusedVariables false
set_option linter.unusedSimpArgs false
set_option linter.unusedSectionVars false
theorem chk8n (x0 x1 x2 x3 x4 x5 x6 x7 : Int) : Chk .normal 8 [x0, x1, x2, x3, x4, x5, x6, x7] := by unfold Chk; kernel_rfl
theorem plc08n (x0 x1 x2 x3 x4 x5 x6 x7 : Int) : Plc0 .normal 8 [x0, x1, x2, x3, x4, x5, x6, x7] := by unfold Plc0; kernel_rfl
theorem plc18n (x0 x1 x2 x3 x4 x5 x6 x7 : Int) : Plc1 .normal 8 [x0, x1, x2, x3, x4, x5, x6, x7] := by unfold Plc1; kernel_rfl
theorem rol8n (x0 x1 x2 x3 x4 x5 x6 x7 : Int) : Rol .normal 8 [x0, x1, x2, x3, x4, x5, x6, x7] := by unfold Rol; kernel_rfl
theorem nxt08n (x0 x1 x2 x3 x4 x5 x6 x7 : Int) : Nxt0 .normal 8 [x0, x1, x2, x3, x4, x5, x6, x7] := by unfold Nxt0; kernel_rfl
theorem nxt18n (x0 x1 x2 x3 x4 x5 x6 x7 : Int) : Nxt1 .normal 8 [x0, x1, x2, x3, x4, x5, x6, x7] := by unfold Nxt1; kernel_rfl
theorem nxt28n (x0 x1 x2 x3 x4 x5 x6 x7 : Int) : Nxt2 .normal 8 [x0, x1, x2, x3, x4, x5, x6, x7] := by unfold Nxt2; kernel_rfl
theorem chk8d (x0 x1 x2 x3 x4 x5 x6 x7 : Int) : Chk .deferred 8 [x0, x1, x2, x3, x4, x5, x6, x7] := by unfold Chk; kernel_rfl
theorem plc08d (x0 x1 x2 x3 x4 x5 x6 x7 : Int) : Plc0 .deferred 8 [x0, x1, x2, x3, x4, x5, x6, x7] := by unfold Plc0; kernel_rfl
theorem plc18d (x0 x1 x2 x3 x4 x5 x6 x7 : Int) : Plc1 .deferred 8 [x0, x1, x2, x3, x4, x5, x6, x7] := by unfold Plc1; kernel_rfl
theorem rol8d (x0 x1 x2 x3 x4 x5 x6 x7 : Int) : Rol .deferred 8 [x0, x1, x2, x3, x4, x5, x6, x7] := by unfold Rol; kernel_rfl
theorem nxt08d (x0 x1 x2 x3 x4 x5 x6 x7 : Int) : Nxt0 .deferred 8 [x0, x1, x2, x3, x4, x5, x6, x7] := by unfold Nxt0; kernel_rfl
theorem nxt18d (x0 x1 x2 x3 x4 x5 x6 x7 : Int) : Nxt1 .deferred 8 [x0, x1, x2, x3, x4, x5, x6, x7] := by unfold Nxt1; kernel_rfl
theorem nxt28d (x0 x1 x2 x3 x4 x5 x6 x7 : Int) : Nxt2 .deferred 8 [x0, x1, x2, x3, x4, x5, x6, x7] := by unfold Nxt2; kernel_rfl
end Go.Proofs.YtjoelgicffojcaaGreatDoor.wb
