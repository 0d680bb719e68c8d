/-
  WorldBounds: node.New, a chain of 3.
-/
import Derived.KernelRfl
import Derived.Test.YtjoelgicffojcaaGreatDoorWbWSt
namespace Go.Proofs.YtjoelgicffojcaaGreatDoor.wb
open Go.Eng
set_option maxRecDepth 1000000
set_option linter.unusedVariables false
set_option linter.unusedSimpArgs false
set_option linter.unusedSectionVars false
variable (x : Nat) (x0 x1 x2 : Int)
theorem nod13_0n : Nod1 .normal 0 x 3 [x0, x1, x2] := by unfold Nod1; kernel_rfl
theorem nod13_0d : Nod1 .deferred 0 x 3 [x0, x1, x2] := by unfold Nod1; kernel_rfl
theorem nod23_0n : Nod2 .normal 0 x 3 [x0, x1, x2] := by unfold Nod2; kernel_rfl
theorem nod23_0d : Nod2 .deferred 0 x 3 [x0, x1, x2] := by unfold Nod2; kernel_rfl
theorem nod33_0n : Nod3 .normal 0 x 3 [x0, x1, x2] := by unfold Nod3; kernel_rfl
theorem nod33_0d : Nod3 .deferred 0 x 3 [x0, x1, x2] := by unfold Nod3; kernel_rfl
theorem nod13_1n : Nod1 .normal 1 x 3 [x0, x1, x2] := by unfold Nod1; kernel_rfl
theorem nod13_1d : Nod1 .deferred 1 x 3 [x0, x1, x2] := by unfold Nod1; kernel_rfl
theorem nod23_1n : Nod2 .normal 1 x 3 [x0, x1, x2] := by unfold Nod2; kernel_rfl
theorem nod23_1d : Nod2 .deferred 1 x 3 [x0, x1, x2] := by unfold Nod2; kernel_rfl
theorem nod33_1n : Nod3 .normal 1 x 3 [x0, x1, x2] := by unfold Nod3; kernel_rfl
theorem nod33_1d : Nod3 .deferred 1 x 3 [x0, x1, x2] := by unfold Nod3; kernel_rfl
theorem nod13_2n : Nod1 .normal 2 x 3 [x0, x1, x2] := by unfold Nod1; kernel_rfl
theorem nod13_2d : Nod1 .deferred 2 x 3 [x0, x1, x2] := by unfold Nod1; kernel_rfl
theorem nod23_2n : Nod2 .normal 2 x 3 [x0, x1, x2] := by unfold Nod2; kernel_rfl
theorem nod23_2d : Nod2 .deferred 2 x 3 [x0, x1, x2] := by unfold Nod2; kernel_rfl
theorem nod33_2n : Nod3 .normal 2 x 3 [x0, x1, x2] := by unfold Nod3; kernel_rfl
theorem nod33_2d : Nod3 .deferred 2 x 3 [x0, x1, x2] := by unfold Nod3; kernel_rfl
theorem nod13_3n : Nod1 .normal 3 x 3 [x0, x1, x2] := by unfold Nod1; kernel_rfl
theorem nod13_3d : Nod1 .deferred 3 x 3 [x0, x1, x2] := by unfold Nod1; kernel_rfl
theorem nod23_3n : Nod2 .normal 3 x 3 [x0, x1, x2] := by unfold Nod2; kernel_rfl
theorem nod23_3d : Nod2 .deferred 3 x 3 [x0, x1, x2] := by unfold Nod2; kernel_rfl
theorem nod33_3n : Nod3 .normal 3 x 3 [x0, x1, x2] := by unfold Nod3; kernel_rfl
theorem nod33_3d : Nod3 .deferred 3 x 3 [x0, x1, x2] := by unfold Nod3; kernel_rfl
theorem nod13_4n : Nod1 .normal 4 x 3 [x0, x1, x2] := by unfold Nod1; kernel_rfl
theorem nod13_4d : Nod1 .deferred 4 x 3 [x0, x1, x2] := by unfold Nod1; kernel_rfl
theorem nod23_4n : Nod2 .normal 4 x 3 [x0, x1, x2] := by unfold Nod2; kernel_rfl
theorem nod23_4d : Nod2 .deferred 4 x 3 [x0, x1, x2] := by unfold Nod2; kernel_rfl
theorem nod33_4n : Nod3 .normal 4 x 3 [x0, x1, x2] := by unfold Nod3; kernel_rfl
theorem nod33_4d : Nod3 .deferred 4 x 3 [x0, x1, x2] := by unfold Nod3; kernel_rfl
theorem nod13_5n : Nod1 .normal 5 x 3 [x0, x1, x2] := by unfold Nod1; kernel_rfl
theorem nod13_5d : Nod1 .deferred 5 x 3 [x0, x1, x2] := by unfold Nod1; kernel_rfl
theorem nod23_5n : Nod2 .normal 5 x 3 [x0, x1, x2] := by unfold Nod2; kernel_rfl
theorem nod23_5d : Nod2 .deferred 5 x 3 [x0, x1, x2] := by unfold Nod2; kernel_rfl
theorem nod33_5n : Nod3 .normal 5 x 3 [x0, x1, x2] := by unfold Nod3; kernel_rfl
theorem nod33_5d : Nod3 .deferred 5 x 3 [x0, x1, x2] := by unfold Nod3; kernel_rfl
theorem nod13_6n : Nod1 .normal 6 x 3 [x0, x1, x2] := by unfold Nod1; kernel_rfl
theorem nod13_6d : Nod1 .deferred 6 x 3 [x0, x1, x2] := by unfold Nod1; kernel_rfl
theorem nod23_6n : Nod2 .normal 6 x 3 [x0, x1, x2] := by unfold Nod2; kernel_rfl
theorem nod23_6d : Nod2 .deferred 6 x 3 [x0, x1, x2] := by unfold Nod2; kernel_rfl
theorem nod33_6n : Nod3 .normal 6 x 3 [x0, x1, x2] := by unfold Nod3; kernel_rfl
theorem nod33_6d : Nod3 .deferred 6 x 3 [x0, x1, x2] := by unfold Nod3; kernel_rfl
theorem nod13_7n : Nod1 .normal 7 x 3 [x0, x1, x2] := by unfold Nod1; kernel_rfl
theorem nod13_7d : Nod1 .deferred 7 x 3 [x0, x1, x2] := by unfold Nod1; kernel_rfl
theorem nod23_7n : Nod2 .normal 7 x 3 [x0, x1, x2] := by unfold Nod2; kernel_rfl
theorem nod23_7d : Nod2 .deferred 7 x 3 [x0, x1, x2] := by unfold Nod2; kernel_rfl
theorem nod33_7n : Nod3 .normal 7 x 3 [x0, x1, x2] := by unfold Nod3; kernel_rfl
theorem nod33_7d : Nod3 .deferred 7 x 3 [x0, x1, x2] := by unfold Nod3; kernel_rfl
end Go.Proofs.YtjoelgicffojcaaGreatDoor.wb
namespace Go.Proofs.YtjoelgicffojcaaGreatDoor.wb
open Go.Eng
set_option maxRecDepth 1000000
set_option linter.unusedVariables false
set_option linter.unusedSimpArgs false
set_option linter.unusedSectionVars false
variable (x : Nat) (x0 x1 x2 x3 : Int)
theorem nod14_0n : Nod1 .normal 0 x 4 [x0, x1, x2, x3] := by unfold Nod1; kernel_rfl
theorem nod14_0d : Nod1 .deferred 0 x 4 [x0, x1, x2, x3] := by unfold Nod1; kernel_rfl
theorem nod24_0n : Nod2 .normal 0 x 4 [x0, x1, x2, x3] := by unfold Nod2; kernel_rfl
theorem nod24_0d : Nod2 .deferred 0 x 4 [x0, x1, x2, x3] := by unfold Nod2; kernel_rfl
theorem nod34_0n : Nod3 .normal 0 x 4 [x0, x1, x2, x3] := by unfold Nod3; kernel_rfl
theorem nod34_0d : Nod3 .deferred 0 x 4 [x0, x1, x2, x3] := by unfold Nod3; kernel_rfl
theorem nod14_1n : Nod1 .normal 1 x 4 [x0, x1, x2, x3] := by unfold Nod1; kernel_rfl
theorem nod14_1d : Nod1 .deferred 1 x 4 [x0, x1, x2, x3] := by unfold Nod1; kernel_rfl
theorem nod24_1n : Nod2 .normal 1 x 4 [x0, x1, x2, x3] := by unfold Nod2; kernel_rfl
theorem nod24_1d : Nod2 .deferred 1 x 4 [x0, x1, x2, x3] := by unfold Nod2; kernel_rfl
theorem nod34_1n : Nod3 .normal 1 x 4 [x0, x1, x2, x3] := by unfold Nod3; kernel_rfl
theorem nod34_1d : Nod3 .deferred 1 x 4 [x0, x1, x2, x3] := by unfold Nod3; kernel_rfl
theorem nod14_2n : Nod1 .normal 2 x 4 [x0, x1, x2, x3] := by unfold Nod1; kernel_rfl
theorem nod14_2d : Nod1 .deferred 2 x 4 [x0, x1, x2, x3] := by unfold Nod1; kernel_rfl
theorem nod24_2n : Nod2 .normal 2 x 4 [x0, x1, x2, x3] := by unfold Nod2; kernel_rfl
theorem nod24_2d : Nod2 .deferred 2 x 4 [x0, x1, x2, x3] := by unfold Nod2; kernel_rfl
theorem nod34_2n : Nod3 .normal 2 x 4 [x0, x1, x2, x3] := by unfold Nod3; kernel_rfl
theorem nod34_2d : Nod3 .deferred 2 x 4 [x0, x1, x2, x3] := by unfold Nod3; kernel_rfl
theorem nod14_3n : Nod1 .normal 3 x 4 [x0, x1, x2, x3] := by unfold Nod1; kernel_rfl
theorem nod14_3d : Nod1 .deferred 3 x 4 [x0, x1, x2, x3] := by unfold Nod1; kernel_rfl
theorem nod24_3n : Nod2 .normal 3 x 4 [x0, x1, x2, x3] := by unfold Nod2; kernel_rfl
theorem nod24_3d : Nod2 .deferred 3 x 4 [x0, x1, x2, x3] := by unfold Nod2; kernel_rfl
theorem nod34_3n : Nod3 .normal 3 x 4 [x0, x1, x2, x3] := by unfold Nod3; kernel_rfl
theorem nod34_3d : Nod3 .deferred 3 x 4 [x0, x1, x2, x3] := by unfold Nod3; kernel_rfl
theorem nod14_4n : Nod1 .normal 4 x 4 [x0, x1, x2, x3] := by unfold Nod1; kernel_rfl
theorem nod14_4d : Nod1 .deferred 4 x 4 [x0, x1, x2, x3] := by unfold Nod1; kernel_rfl
theorem nod24_4n : Nod2 .normal 4 x 4 [x0, x1, x2, x3] := by unfold Nod2; kernel_rfl
theorem nod24_4d : Nod2 .deferred 4 x 4 [x0, x1, x2, x3] := by unfold Nod2; kernel_rfl
theorem nod34_4n : Nod3 .normal 4 x 4 [x0, x1, x2, x3] := by unfold Nod3; kernel_rfl
theorem nod34_4d : Nod3 .deferred 4 x 4 [x0, x1, x2, x3] := by unfold Nod3; kernel_rfl
theorem nod14_5n : Nod1 .normal 5 x 4 [x0, x1, x2, x3] := by unfold Nod1; kernel_rfl
theorem nod14_5d : Nod1 .deferred 5 x 4 [x0, x1, x2, x3] := by unfold Nod1; kernel_rfl
theorem nod24_5n : Nod2 .normal 5 x 4 [x0, x1, x2, x3] := by unfold Nod2; kernel_rfl
theorem nod24_5d : Nod2 .deferred 5 x 4 [x0, x1, x2, x3] := by unfold Nod2; kernel_rfl
theorem nod34_5n : Nod3 .normal 5 x 4 [x0, x1, x2, x3] := by unfold Nod3; kernel_rfl
theorem nod34_5d : Nod3 .deferred 5 x 4 [x0, x1, x2, x3] := by unfold Nod3; kernel_rfl
theorem nod14_6n : Nod1 .normal 6 x 4 [x0, x1, x2, x3] := by unfold Nod1; kernel_rfl
theorem nod14_6d : Nod1 .deferred 6 x 4 [x0, x1, x2, x3] := by unfold Nod1; kernel_rfl
theorem nod24_6n : Nod2 .normal 6 x 4 [x0, x1, x2, x3] := by unfold Nod2; kernel_rfl
theorem nod24_6d : Nod2 .deferred 6 x 4 [x0, x1, x2, x3] := by unfold Nod2; kernel_rfl
theorem nod34_6n : Nod3 .normal 6 x 4 [x0, x1, x2, x3] := by unfold Nod3; kernel_rfl
theorem nod34_6d : Nod3 .deferred 6 x 4 [x0, x1, x2, x3] := by unfold Nod3; kernel_rfl
theorem nod14_7n : Nod1 .normal 7 x 4 [x0, x1, x2, x3] := by unfold Nod1; kernel_rfl
theorem nod14_7d : Nod1 .deferred 7 x 4 [x0, x1, x2, x3] := by unfold Nod1; kernel_rfl
theorem nod24_7n : Nod2 .normal 7 x 4 [x0, x1, x2, x3] := by unfold Nod2; kernel_rfl
theorem nod24_7d : Nod2 .deferred 7 x 4 [x0, x1, x2, x3] := by unfold Nod2; kernel_rfl
theorem nod34_7n : Nod3 .normal 7 x 4 [x0, x1, x2, x3] := by unfold Nod3; kernel_rfl
theorem nod34_7d : Nod3 .deferred 7 x 4 [x0, x1, x2, x3] := by unfold Nod3; kernel_rfl
end Go.Proofs.YtjoelgicffojcaaGreatDoor.wb
