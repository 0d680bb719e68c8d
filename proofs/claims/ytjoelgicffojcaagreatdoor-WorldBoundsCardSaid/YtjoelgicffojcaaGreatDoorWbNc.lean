/-
  WorldBounds: node.New, a chain of 5.
-/
import Derived.KernelRfl
import Derived.Test.YtjoelgicffojcaaGreatDoorWbWSt
namespace Go.Proofs.YtjoelgicffojcaaGreatDoor.wb
open Go.Eng
set_option maxRecDepth 1000000
set_option linter.unusedVariables false
set_option linter.unusedSimpArgs false
set_option linter.unusedSectionVars false
variable (x : Nat) (x0 x1 x2 x3 x4 : Int)
theorem nod15_0n : Nod1 .normal 0 x 5 [x0, x1, x2, x3, x4] := by unfold Nod1; kernel_rfl
theorem nod15_0d : Nod1 .deferred 0 x 5 [x0, x1, x2, x3, x4] := by unfold Nod1; kernel_rfl
theorem nod25_0n : Nod2 .normal 0 x 5 [x0, x1, x2, x3, x4] := by unfold Nod2; kernel_rfl
theorem nod25_0d : Nod2 .deferred 0 x 5 [x0, x1, x2, x3, x4] := by unfold Nod2; kernel_rfl
theorem nod35_0n : Nod3 .normal 0 x 5 [x0, x1, x2, x3, x4] := by unfold Nod3; kernel_rfl
theorem nod35_0d : Nod3 .deferred 0 x 5 [x0, x1, x2, x3, x4] := by unfold Nod3; kernel_rfl
theorem nod15_1n : Nod1 .normal 1 x 5 [x0, x1, x2, x3, x4] := by unfold Nod1; kernel_rfl
theorem nod15_1d : Nod1 .deferred 1 x 5 [x0, x1, x2, x3, x4] := by unfold Nod1; kernel_rfl
theorem nod25_1n : Nod2 .normal 1 x 5 [x0, x1, x2, x3, x4] := by unfold Nod2; kernel_rfl
theorem nod25_1d : Nod2 .deferred 1 x 5 [x0, x1, x2, x3, x4] := by unfold Nod2; kernel_rfl
theorem nod35_1n : Nod3 .normal 1 x 5 [x0, x1, x2, x3, x4] := by unfold Nod3; kernel_rfl
theorem nod35_1d : Nod3 .deferred 1 x 5 [x0, x1, x2, x3, x4] := by unfold Nod3; kernel_rfl
theorem nod15_2n : Nod1 .normal 2 x 5 [x0, x1, x2, x3, x4] := by unfold Nod1; kernel_rfl
theorem nod15_2d : Nod1 .deferred 2 x 5 [x0, x1, x2, x3, x4] := by unfold Nod1; kernel_rfl
theorem nod25_2n : Nod2 .normal 2 x 5 [x0, x1, x2, x3, x4] := by unfold Nod2; kernel_rfl
theorem nod25_2d : Nod2 .deferred 2 x 5 [x0, x1, x2, x3, x4] := by unfold Nod2; kernel_rfl
theorem nod35_2n : Nod3 .normal 2 x 5 [x0, x1, x2, x3, x4] := by unfold Nod3; kernel_rfl
theorem nod35_2d : Nod3 .deferred 2 x 5 [x0, x1, x2, x3, x4] := by unfold Nod3; kernel_rfl
theorem nod15_3n : Nod1 .normal 3 x 5 [x0, x1, x2, x3, x4] := by unfold Nod1; kernel_rfl
theorem nod15_3d : Nod1 .deferred 3 x 5 [x0, x1, x2, x3, x4] := by unfold Nod1; kernel_rfl
theorem nod25_3n : Nod2 .normal 3 x 5 [x0, x1, x2, x3, x4] := by unfold Nod2; kernel_rfl
theorem nod25_3d : Nod2 .deferred 3 x 5 [x0, x1, x2, x3, x4] := by unfold Nod2; kernel_rfl
theorem nod35_3n : Nod3 .normal 3 x 5 [x0, x1, x2, x3, x4] := by unfold Nod3; kernel_rfl
theorem nod35_3d : Nod3 .deferred 3 x 5 [x0, x1, x2, x3, x4] := by unfold Nod3; kernel_rfl
theorem nod15_4n : Nod1 .normal 4 x 5 [x0, x1, x2, x3, x4] := by unfold Nod1; kernel_rfl
theorem nod15_4d : Nod1 .deferred 4 x 5 [x0, x1, x2, x3, x4] := by unfold Nod1; kernel_rfl
theorem nod25_4n : Nod2 .normal 4 x 5 [x0, x1, x2, x3, x4] := by unfold Nod2; kernel_rfl
theorem nod25_4d : Nod2 .deferred 4 x 5 [x0, x1, x2, x3, x4] := by unfold Nod2; kernel_rfl
theorem nod35_4n : Nod3 .normal 4 x 5 [x0, x1, x2, x3, x4] := by unfold Nod3; kernel_rfl
theorem nod35_4d : Nod3 .deferred 4 x 5 [x0, x1, x2, x3, x4] := by unfold Nod3; kernel_rfl
theorem nod15_5n : Nod1 .normal 5 x 5 [x0, x1, x2, x3, x4] := by unfold Nod1; kernel_rfl
theorem nod15_5d : Nod1 .deferred 5 x 5 [x0, x1, x2, x3, x4] := by unfold Nod1; kernel_rfl
theorem nod25_5n : Nod2 .normal 5 x 5 [x0, x1, x2, x3, x4] := by unfold Nod2; kernel_rfl
theorem nod25_5d : Nod2 .deferred 5 x 5 [x0, x1, x2, x3, x4] := by unfold Nod2; kernel_rfl
theorem nod35_5n : Nod3 .normal 5 x 5 [x0, x1, x2, x3, x4] := by unfold Nod3; kernel_rfl
theorem nod35_5d : Nod3 .deferred 5 x 5 [x0, x1, x2, x3, x4] := by unfold Nod3; kernel_rfl
theorem nod15_6n : Nod1 .normal 6 x 5 [x0, x1, x2, x3, x4] := by unfold Nod1; kernel_rfl
theorem nod15_6d : Nod1 .deferred 6 x 5 [x0, x1, x2, x3, x4] := by unfold Nod1; kernel_rfl
theorem nod25_6n : Nod2 .normal 6 x 5 [x0, x1, x2, x3, x4] := by unfold Nod2; kernel_rfl
theorem nod25_6d : Nod2 .deferred 6 x 5 [x0, x1, x2, x3, x4] := by unfold Nod2; kernel_rfl
theorem nod35_6n : Nod3 .normal 6 x 5 [x0, x1, x2, x3, x4] := by unfold Nod3; kernel_rfl
theorem nod35_6d : Nod3 .deferred 6 x 5 [x0, x1, x2, x3, x4] := by unfold Nod3; kernel_rfl
theorem nod15_7n : Nod1 .normal 7 x 5 [x0, x1, x2, x3, x4] := by unfold Nod1; kernel_rfl
theorem nod15_7d : Nod1 .deferred 7 x 5 [x0, x1, x2, x3, x4] := by unfold Nod1; kernel_rfl
theorem nod25_7n : Nod2 .normal 7 x 5 [x0, x1, x2, x3, x4] := by unfold Nod2; kernel_rfl
theorem nod25_7d : Nod2 .deferred 7 x 5 [x0, x1, x2, x3, x4] := by unfold Nod2; kernel_rfl
theorem nod35_7n : Nod3 .normal 7 x 5 [x0, x1, x2, x3, x4] := by unfold Nod3; kernel_rfl
theorem nod35_7d : Nod3 .deferred 7 x 5 [x0, x1, x2, x3, x4] := by unfold Nod3; kernel_rfl
end Go.Proofs.YtjoelgicffojcaaGreatDoor.wb
namespace Go.Proofs.YtjoelgicffojcaaGreatDoor.wb
open Go.Eng
set_option maxRecDepth 1000000
set_option linter.unusedVariables false
set_option linter.unusedSimpArgs false
set_option linter.unusedSectionVars false
variable (x : Nat) (x0 x1 x2 x3 x4 x5 : Int)
theorem nod16_0n : Nod1 .normal 0 x 6 [x0, x1, x2, x3, x4, x5] := by unfold Nod1; kernel_rfl
theorem nod16_0d : Nod1 .deferred 0 x 6 [x0, x1, x2, x3, x4, x5] := by unfold Nod1; kernel_rfl
theorem nod26_0n : Nod2 .normal 0 x 6 [x0, x1, x2, x3, x4, x5] := by unfold Nod2; kernel_rfl
theorem nod26_0d : Nod2 .deferred 0 x 6 [x0, x1, x2, x3, x4, x5] := by unfold Nod2; kernel_rfl
theorem nod36_0n : Nod3 .normal 0 x 6 [x0, x1, x2, x3, x4, x5] := by unfold Nod3; kernel_rfl
theorem nod36_0d : Nod3 .deferred 0 x 6 [x0, x1, x2, x3, x4, x5] := by unfold Nod3; kernel_rfl
theorem nod16_1n : Nod1 .normal 1 x 6 [x0, x1, x2, x3, x4, x5] := by unfold Nod1; kernel_rfl
theorem nod16_1d : Nod1 .deferred 1 x 6 [x0, x1, x2, x3, x4, x5] := by unfold Nod1; kernel_rfl
theorem nod26_1n : Nod2 .normal 1 x 6 [x0, x1, x2, x3, x4, x5] := by unfold Nod2; kernel_rfl
theorem nod26_1d : Nod2 .deferred 1 x 6 [x0, x1, x2, x3, x4, x5] := by unfold Nod2; kernel_rfl
theorem nod36_1n : Nod3 .normal 1 x 6 [x0, x1, x2, x3, x4, x5] := by unfold Nod3; kernel_rfl
theorem nod36_1d : Nod3 .deferred 1 x 6 [x0, x1, x2, x3, x4, x5] := by unfold Nod3; kernel_rfl
theorem nod16_2n : Nod1 .normal 2 x 6 [x0, x1, x2, x3, x4, x5] := by unfold Nod1; kernel_rfl
theorem nod16_2d : Nod1 .deferred 2 x 6 [x0, x1, x2, x3, x4, x5] := by unfold Nod1; kernel_rfl
theorem nod26_2n : Nod2 .normal 2 x 6 [x0, x1, x2, x3, x4, x5] := by unfold Nod2; kernel_rfl
theorem nod26_2d : Nod2 .deferred 2 x 6 [x0, x1, x2, x3, x4, x5] := by unfold Nod2; kernel_rfl
theorem nod36_2n : Nod3 .normal 2 x 6 [x0, x1, x2, x3, x4, x5] := by unfold Nod3; kernel_rfl
theorem nod36_2d : Nod3 .deferred 2 x 6 [x0, x1, x2, x3, x4, x5] := by unfold Nod3; kernel_rfl
theorem nod16_3n : Nod1 .normal 3 x 6 [x0, x1, x2, x3, x4, x5] := by unfold Nod1; kernel_rfl
theorem nod16_3d : Nod1 .deferred 3 x 6 [x0, x1, x2, x3, x4, x5] := by unfold Nod1; kernel_rfl
theorem nod26_3n : Nod2 .normal 3 x 6 [x0, x1, x2, x3, x4, x5] := by unfold Nod2; kernel_rfl
theorem nod26_3d : Nod2 .deferred 3 x 6 [x0, x1, x2, x3, x4, x5] := by unfold Nod2; kernel_rfl
theorem nod36_3n : Nod3 .normal 3 x 6 [x0, x1, x2, x3, x4, x5] := by unfold Nod3; kernel_rfl
theorem nod36_3d : Nod3 .deferred 3 x 6 [x0, x1, x2, x3, x4, x5] := by unfold Nod3; kernel_rfl
theorem nod16_4n : Nod1 .normal 4 x 6 [x0, x1, x2, x3, x4, x5] := by unfold Nod1; kernel_rfl
theorem nod16_4d : Nod1 .deferred 4 x 6 [x0, x1, x2, x3, x4, x5] := by unfold Nod1; kernel_rfl
theorem nod26_4n : Nod2 .normal 4 x 6 [x0, x1, x2, x3, x4, x5] := by unfold Nod2; kernel_rfl
theorem nod26_4d : Nod2 .deferred 4 x 6 [x0, x1, x2, x3, x4, x5] := by unfold Nod2; kernel_rfl
theorem nod36_4n : Nod3 .normal 4 x 6 [x0, x1, x2, x3, x4, x5] := by unfold Nod3; kernel_rfl
theorem nod36_4d : Nod3 .deferred 4 x 6 [x0, x1, x2, x3, x4, x5] := by unfold Nod3; kernel_rfl
theorem nod16_5n : Nod1 .normal 5 x 6 [x0, x1, x2, x3, x4, x5] := by unfold Nod1; kernel_rfl
theorem nod16_5d : Nod1 .deferred 5 x 6 [x0, x1, x2, x3, x4, x5] := by unfold Nod1; kernel_rfl
theorem nod26_5n : Nod2 .normal 5 x 6 [x0, x1, x2, x3, x4, x5] := by unfold Nod2; kernel_rfl
theorem nod26_5d : Nod2 .deferred 5 x 6 [x0, x1, x2, x3, x4, x5] := by unfold Nod2; kernel_rfl
theorem nod36_5n : Nod3 .normal 5 x 6 [x0, x1, x2, x3, x4, x5] := by unfold Nod3; kernel_rfl
theorem nod36_5d : Nod3 .deferred 5 x 6 [x0, x1, x2, x3, x4, x5] := by unfold Nod3; kernel_rfl
theorem nod16_6n : Nod1 .normal 6 x 6 [x0, x1, x2, x3, x4, x5] := by unfold Nod1; kernel_rfl
theorem nod16_6d : Nod1 .deferred 6 x 6 [x0, x1, x2, x3, x4, x5] := by unfold Nod1; kernel_rfl
theorem nod26_6n : Nod2 .normal 6 x 6 [x0, x1, x2, x3, x4, x5] := by unfold Nod2; kernel_rfl
theorem nod26_6d : Nod2 .deferred 6 x 6 [x0, x1, x2, x3, x4, x5] := by unfold Nod2; kernel_rfl
theorem nod36_6n : Nod3 .normal 6 x 6 [x0, x1, x2, x3, x4, x5] := by unfold Nod3; kernel_rfl
theorem nod36_6d : Nod3 .deferred 6 x 6 [x0, x1, x2, x3, x4, x5] := by unfold Nod3; kernel_rfl
theorem nod16_7n : Nod1 .normal 7 x 6 [x0, x1, x2, x3, x4, x5] := by unfold Nod1; kernel_rfl
theorem nod16_7d : Nod1 .deferred 7 x 6 [x0, x1, x2, x3, x4, x5] := by unfold Nod1; kernel_rfl
theorem nod26_7n : Nod2 .normal 7 x 6 [x0, x1, x2, x3, x4, x5] := by unfold Nod2; kernel_rfl
theorem nod26_7d : Nod2 .deferred 7 x 6 [x0, x1, x2, x3, x4, x5] := by unfold Nod2; kernel_rfl
theorem nod36_7n : Nod3 .normal 7 x 6 [x0, x1, x2, x3, x4, x5] := by unfold Nod3; kernel_rfl
theorem nod36_7d : Nod3 .deferred 7 x 6 [x0, x1, x2, x3, x4, x5] := by unfold Nod3; kernel_rfl
end Go.Proofs.YtjoelgicffojcaaGreatDoor.wb
