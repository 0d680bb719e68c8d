/-
  WorldBounds: config.Check, place, Role, Next over a chain of 7.
-/
import Derived.KernelRfl
import Derived.Test.YtjoelgicffojcaaGreatDoorWbCfSt
namespace Go.Proofs.YtjoelgicffojcaaGreatDoor.wb
open Go.Eng
set_option maxRecDepth 1000000
set_option linter.unusedVariables false
set_option linter.unusedSimpArgs false
set_option linter.unusedSectionVars false
theorem chk7n (x0 x1 x2 x3 x4 x5 x6 : Int) : Chk .normal 7 [x0, x1, x2, x3, x4, x5, x6] := by unfold Chk; kernel_rfl
theorem plc07n (x0 x1 x2 x3 x4 x5 x6 : Int) : Plc0 .normal 7 [x0, x1, x2, x3, x4, x5, x6] := by unfold Plc0; kernel_rfl
theorem plc17n (x0 x1 x2 x3 x4 x5 x6 : Int) : Plc1 .normal 7 [x0, x1, x2, x3, x4, x5, x6] := by unfold Plc1; kernel_rfl
theorem rol7n (x0 x1 x2 x3 x4 x5 x6 : Int) : Rol .normal 7 [x0, x1, x2, x3, x4, x5, x6] := by unfold Rol; kernel_rfl
theorem nxt07n (x0 x1 x2 x3 x4 x5 x6 : Int) : Nxt0 .normal 7 [x0, x1, x2, x3, x4, x5, x6] := by unfold Nxt0; kernel_rfl
theorem nxt17n (x0 x1 x2 x3 x4 x5 x6 : Int) : Nxt1 .normal 7 [x0, x1, x2, x3, x4, x5, x6] := by unfold Nxt1; kernel_rfl
theorem nxt27n (x0 x1 x2 x3 x4 x5 x6 : Int) : Nxt2 .normal 7 [x0, x1, x2, x3, x4, x5, x6] := by unfold Nxt2; kernel_rfl
theorem chk7d (x0 x1 x2 x3 x4 x5 x6 : Int) : Chk .deferred 7 [x0, x1, x2, x3, x4, x5, x6] := by unfold Chk; kernel_rfl
theorem plc07d (x0 x1 x2 x3 x4 x5 x6 : Int) : Plc0 .deferred 7 [x0, x1, x2, x3, x4, x5, x6] := by unfold Plc0; kernel_rfl
theorem plc17d (x0 x1 x2 x3 x4 x5 x6 : Int) : Plc1 .deferred 7 [x0, x1, x2, x3, x4, x5, x6] := by unfold Plc1; kernel_rfl
theorem rol7d (x0 x1 x2 x3 x4 x5 x6 : Int) : Rol .deferred 7 [x0, x1, x2, x3, x4, x5, x6] := by unfold Rol; kernel_rfl
theorem nxt07d (x0 x1 x2 x3 x4 x5 x6 : Int) : Nxt0 .deferred 7 [x0, x1, x2, x3, x4, x5, x6] := by unfold Nxt0; kernel_rfl
theorem nxt17d (x0 x1 x2 x3 x4 x5 x6 : Int) : Nxt1 .deferred 7 [x0, x1, x2, x3, x4, x5, x6] := by unfold Nxt1; kernel_rfl
theorem nxt27d (x0 x1 x2 x3 x4 x5 x6 : Int) : Nxt2 .deferred 7 [x0, x1, x2, x3, x4, x5, x6] := by unfold Nxt2; kernel_rfl
end Go.Proofs.YtjoelgicffojcaaGreatDoor.wb
