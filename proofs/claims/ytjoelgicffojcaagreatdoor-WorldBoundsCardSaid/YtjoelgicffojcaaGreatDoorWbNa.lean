/-
  WorldBounds: node.New, a chain of 1.
-/
import Derived.KernelRfl
import Derived.Test.YtjoelgicffojcaaGreatDoorWbWSt
namespace Go.Proofs.YtjoelgicffojcaaGreatDoor.wb
open Go.Eng
set_option maxRecDepth 1000000
set_option linter.unusedVariables false
set_option linter.unusedSimpArgs false
set_option linter.unusedSectionVars false
variable (x : Nat) (x0 : Int)
theorem nod11_0n : Nod1 .normal 0 x 1 [x0] := by unfold Nod1; kernel_rfl
theorem nod11_0d : Nod1 .deferred 0 x 1 [x0] := by unfold Nod1; kernel_rfl
theorem nod21_0n : Nod2 .normal 0 x 1 [x0] := by unfold Nod2; kernel_rfl
theorem nod21_0d : Nod2 .deferred 0 x 1 [x0] := by unfold Nod2; kernel_rfl
theorem nod31_0n : Nod3 .normal 0 x 1 [x0] := by unfold Nod3; kernel_rfl
theorem nod31_0d : Nod3 .deferred 0 x 1 [x0] := by unfold Nod3; kernel_rfl
theorem nod11_1n : Nod1 .normal 1 x 1 [x0] := by unfold Nod1; kernel_rfl
theorem nod11_1d : Nod1 .deferred 1 x 1 [x0] := by unfold Nod1; kernel_rfl
theorem nod21_1n : Nod2 .normal 1 x 1 [x0] := by unfold Nod2; kernel_rfl
theorem nod21_1d : Nod2 .deferred 1 x 1 [x0] := by unfold Nod2; kernel_rfl
theorem nod31_1n : Nod3 .normal 1 x 1 [x0] := by unfold Nod3; kernel_rfl
theorem nod31_1d : Nod3 .deferred 1 x 1 [x0] := by unfold Nod3; kernel_rfl
theorem nod11_2n : Nod1 .normal 2 x 1 [x0] := by unfold Nod1; kernel_rfl
theorem nod11_2d : Nod1 .deferred 2 x 1 [x0] := by unfold Nod1; kernel_rfl
theorem nod21_2n : Nod2 .normal 2 x 1 [x0] := by unfold Nod2; kernel_rfl
theorem nod21_2d : Nod2 .deferred 2 x 1 [x0] := by unfold Nod2; kernel_rfl
theorem nod31_2n : Nod3 .normal 2 x 1 [x0] := by unfold Nod3; kernel_rfl
theorem nod31_2d : Nod3 .deferred 2 x 1 [x0] := by unfold Nod3; kernel_rfl
theorem nod11_3n : Nod1 .normal 3 x 1 [x0] := by unfold Nod1; kernel_rfl
theorem nod11_3d : Nod1 .deferred 3 x 1 [x0] := by unfold Nod1; kernel_rfl
theorem nod21_3n : Nod2 .normal 3 x 1 [x0] := by unfold Nod2; kernel_rfl
theorem nod21_3d : Nod2 .deferred 3 x 1 [x0] := by unfold Nod2; kernel_rfl
theorem nod31_3n : Nod3 .normal 3 x 1 [x0] := by unfold Nod3; kernel_rfl
theorem nod31_3d : Nod3 .deferred 3 x 1 [x0] := by unfold Nod3; kernel_rfl
theorem nod11_4n : Nod1 .normal 4 x 1 [x0] := by unfold Nod1; kernel_rfl
theorem nod11_4d : Nod1 .deferred 4 x 1 [x0] := by unfold Nod1; kernel_rfl
theorem nod21_4n : Nod2 .normal 4 x 1 [x0] := by unfold Nod2; kernel_rfl
theorem nod21_4d : Nod2 .deferred 4 x 1 [x0] := by unfold Nod2; kernel_rfl
theorem nod31_4n : Nod3 .normal 4 x 1 [x0] := by unfold Nod3; kernel_rfl
theorem nod31_4d : Nod3 .deferred 4 x 1 [x0] := by unfold Nod3; kernel_rfl
theorem nod11_5n : Nod1 .normal 5 x 1 [x0] := by unfold Nod1; kernel_rfl
theorem nod11_5d : Nod1 .deferred 5 x 1 [x0] := by unfold Nod1; kernel_rfl
theorem nod21_5n : Nod2 .normal 5 x 1 [x0] := by unfold Nod2; kernel_rfl
theorem nod21_5d : Nod2 .deferred 5 x 1 [x0] := by unfold Nod2; kernel_rfl
theorem nod31_5n : Nod3 .normal 5 x 1 [x0] := by unfold Nod3; kernel_rfl
theorem nod31_5d : Nod3 .deferred 5 x 1 [x0] := by unfold Nod3; kernel_rfl
theorem nod11_6n : Nod1 .normal 6 x 1 [x0] := by unfold Nod1; kernel_rfl
theorem nod11_6d : Nod1 .deferred 6 x 1 [x0] := by unfold Nod1; kernel_rfl
theorem nod21_6n : Nod2 .normal 6 x 1 [x0] := by unfold Nod2; kernel_rfl
theorem nod21_6d : Nod2 .deferred 6 x 1 [x0] := by unfold Nod2; kernel_rfl
theorem nod31_6n : Nod3 .normal 6 x 1 [x0] := by unfold Nod3; kernel_rfl
theorem nod31_6d : Nod3 .deferred 6 x 1 [x0] := by unfold Nod3; kernel_rfl
theorem nod11_7n : Nod1 .normal 7 x 1 [x0] := by unfold Nod1; kernel_rfl
theorem nod11_7d : Nod1 .deferred 7 x 1 [x0] := by unfold Nod1; kernel_rfl
theorem nod21_7n : Nod2 .normal 7 x 1 [x0] := by unfold Nod2; kernel_rfl
theorem nod21_7d : Nod2 .deferred 7 x 1 [x0] := by unfold Nod2; kernel_rfl
theorem nod31_7n : Nod3 .normal 7 x 1 [x0] := by unfold Nod3; kernel_rfl
theorem nod31_7d : Nod3 .deferred 7 x 1 [x0] := by unfold Nod3; kernel_rfl
end Go.Proofs.YtjoelgicffojcaaGreatDoor.wb
namespace Go.Proofs.YtjoelgicffojcaaGreatDoor.wb
open Go.Eng
set_option maxRecDepth 1000000
set_option linter.unusedVariables false
set_option linter.unusedSimpArgs false
set_option linter.unusedSectionVars false
variable (x : Nat) (x0 x1 : Int)
theorem nod12_0n : Nod1 .normal 0 x 2 [x0, x1] := by unfold Nod1; kernel_rfl
theorem nod12_0d : Nod1 .deferred 0 x 2 [x0, x1] := by unfold Nod1; kernel_rfl
theorem nod22_0n : Nod2 .normal 0 x 2 [x0, x1] := by unfold Nod2; kernel_rfl
theorem nod22_0d : Nod2 .deferred 0 x 2 [x0, x1] := by unfold Nod2; kernel_rfl
theorem nod32_0n : Nod3 .normal 0 x 2 [x0, x1] := by unfold Nod3; kernel_rfl
theorem nod32_0d : Nod3 .deferred 0 x 2 [x0, x1] := by unfold Nod3; kernel_rfl
theorem nod12_1n : Nod1 .normal 1 x 2 [x0, x1] := by unfold Nod1; kernel_rfl
theorem nod12_1d : Nod1 .deferred 1 x 2 [x0, x1] := by unfold Nod1; kernel_rfl
theorem nod22_1n : Nod2 .normal 1 x 2 [x0, x1] := by unfold Nod2; kernel_rfl
theorem nod22_1d : Nod2 .deferred 1 x 2 [x0, x1] := by unfold Nod2; kernel_rfl
theorem nod32_1n : Nod3 .normal 1 x 2 [x0, x1] := by unfold Nod3; kernel_rfl
theorem nod32_1d : Nod3 .deferred 1 x 2 [x0, x1] := by unfold Nod3; kernel_rfl
theorem nod12_2n : Nod1 .normal 2 x 2 [x0, x1] := by unfold Nod1; kernel_rfl
theorem nod12_2d : Nod1 .deferred 2 x 2 [x0, x1] := by unfold Nod1; kernel_rfl
theorem nod22_2n : Nod2 .normal 2 x 2 [x0, x1] := by unfold Nod2; kernel_rfl
theorem nod22_2d : Nod2 .deferred 2 x 2 [x0, x1] := by unfold Nod2; kernel_rfl
theorem nod32_2n : Nod3 .normal 2 x 2 [x0, x1] := by unfold Nod3; kernel_rfl
theorem nod32_2d : Nod3 .deferred 2 x 2 [x0, x1] := by unfold Nod3; kernel_rfl
theorem nod12_3n : Nod1 .normal 3 x 2 [x0, x1] := by unfold Nod1; kernel_rfl
theorem nod12_3d : Nod1 .deferred 3 x 2 [x0, x1] := by unfold Nod1; kernel_rfl
theorem nod22_3n : Nod2 .normal 3 x 2 [x0, x1] := by unfold Nod2; kernel_rfl
theorem nod22_3d : Nod2 .deferred 3 x 2 [x0, x1] := by unfold Nod2; kernel_rfl
theorem nod32_3n : Nod3 .normal 3 x 2 [x0, x1] := by unfold Nod3; kernel_rfl
theorem nod32_3d : Nod3 .deferred 3 x 2 [x0, x1] := by unfold Nod3; kernel_rfl
theorem nod12_4n : Nod1 .normal 4 x 2 [x0, x1] := by unfold Nod1; kernel_rfl
theorem nod12_4d : Nod1 .deferred 4 x 2 [x0, x1] := by unfold Nod1; kernel_rfl
theorem nod22_4n : Nod2 .normal 4 x 2 [x0, x1] := by unfold Nod2; kernel_rfl
theorem nod22_4d : Nod2 .deferred 4 x 2 [x0, x1] := by unfold Nod2; kernel_rfl
theorem nod32_4n : Nod3 .normal 4 x 2 [x0, x1] := by unfold Nod3; kernel_rfl
theorem nod32_4d : Nod3 .deferred 4 x 2 [x0, x1] := by unfold Nod3; kernel_rfl
theorem nod12_5n : Nod1 .normal 5 x 2 [x0, x1] := by unfold Nod1; kernel_rfl
theorem nod12_5d : Nod1 .deferred 5 x 2 [x0, x1] := by unfold Nod1; kernel_rfl
theorem nod22_5n : Nod2 .normal 5 x 2 [x0, x1] := by unfold Nod2; kernel_rfl
theorem nod22_5d : Nod2 .deferred 5 x 2 [x0, x1] := by unfold Nod2; kernel_rfl
theorem nod32_5n : Nod3 .normal 5 x 2 [x0, x1] := by unfold Nod3; kernel_rfl
theorem nod32_5d : Nod3 .deferred 5 x 2 [x0, x1] := by unfold Nod3; kernel_rfl
theorem nod12_6n : Nod1 .normal 6 x 2 [x0, x1] := by unfold Nod1; kernel_rfl
theorem nod12_6d : Nod1 .deferred 6 x 2 [x0, x1] := by unfold Nod1; kernel_rfl
theorem nod22_6n : Nod2 .normal 6 x 2 [x0, x1] := by unfold Nod2; kernel_rfl
theorem nod22_6d : Nod2 .deferred 6 x 2 [x0, x1] := by unfold Nod2; kernel_rfl
theorem nod32_6n : Nod3 .normal 6 x 2 [x0, x1] := by unfold Nod3; kernel_rfl
theorem nod32_6d : Nod3 .deferred 6 x 2 [x0, x1] := by unfold Nod3; kernel_rfl
theorem nod12_7n : Nod1 .normal 7 x 2 [x0, x1] := by unfold Nod1; kernel_rfl
theorem nod12_7d : Nod1 .deferred 7 x 2 [x0, x1] := by unfold Nod1; kernel_rfl
theorem nod22_7n : Nod2 .normal 7 x 2 [x0, x1] := by unfold Nod2; kernel_rfl
theorem nod22_7d : Nod2 .deferred 7 x 2 [x0, x1] := by unfold Nod2; kernel_rfl
theorem nod32_7n : Nod3 .normal 7 x 2 [x0, x1] := by unfold Nod3; kernel_rfl
theorem nod32_7d : Nod3 .deferred 7 x 2 [x0, x1] := by unfold Nod3; kernel_rfl
end Go.Proofs.YtjoelgicffojcaaGreatDoor.wb
