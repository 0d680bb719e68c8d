/-
  WorldBounds: node.New, a chain of 7.
-/
import Derived.KernelRfl
import Derived.Test.YtjoelgicffojcaaGreatDoorWbWSt
namespace Go.Proofs.YtjoelgicffojcaaGreatDoor.wb
open Go.Eng
set_option maxRecDepth 1000000
set_option linter.unusedVariables false
set_option linter.unusedSimpArgs false
set_option linter.unusedSectionVars false
variable (x : Nat) (x0 x1 x2 x3 x4 x5 x6 : Int)
theorem nod17_0n : Nod1 .normal 0 x 7 [x0, x1, x2, x3, x4, x5, x6] := by unfold Nod1; kernel_rfl
theorem nod17_0d : Nod1 .deferred 0 x 7 [x0, x1, x2, x3, x4, x5, x6] := by unfold Nod1; kernel_rfl
theorem nod27_0n : Nod2 .normal 0 x 7 [x0, x1, x2, x3, x4, x5, x6] := by unfold Nod2; kernel_rfl
theorem nod27_0d : Nod2 .deferred 0 x 7 [x0, x1, x2, x3, x4, x5, x6] := by unfold Nod2; kernel_rfl
theorem nod37_0n : Nod3 .normal 0 x 7 [x0, x1, x2, x3, x4, x5, x6] := by unfold Nod3; kernel_rfl
theorem nod37_0d : Nod3 .deferred 0 x 7 [x0, x1, x2, x3, x4, x5, x6] := by unfold Nod3; kernel_rfl
theorem nod17_1n : Nod1 .normal 1 x 7 [x0, x1, x2, x3, x4, x5, x6] := by unfold Nod1; kernel_rfl
theorem nod17_1d : Nod1 .deferred 1 x 7 [x0, x1, x2, x3, x4, x5, x6] := by unfold Nod1; kernel_rfl
theorem nod27_1n : Nod2 .normal 1 x 7 [x0, x1, x2, x3, x4, x5, x6] := by unfold Nod2; kernel_rfl
theorem nod27_1d : Nod2 .deferred 1 x 7 [x0, x1, x2, x3, x4, x5, x6] := by unfold Nod2; kernel_rfl
theorem nod37_1n : Nod3 .normal 1 x 7 [x0, x1, x2, x3, x4, x5, x6] := by unfold Nod3; kernel_rfl
theorem nod37_1d : Nod3 .deferred 1 x 7 [x0, x1, x2, x3, x4, x5, x6] := by unfold Nod3; kernel_rfl
theorem nod17_2n : Nod1 .normal 2 x 7 [x0, x1, x2, x3, x4, x5, x6] := by unfold Nod1; kernel_rfl
theorem nod17_2d : Nod1 .deferred 2 x 7 [x0, x1, x2, x3, x4, x5, x6] := by unfold Nod1; kernel_rfl
theorem nod27_2n : Nod2 .normal 2 x 7 [x0, x1, x2, x3, x4, x5, x6] := by unfold Nod2; kernel_rfl
theorem nod27_2d : Nod2 .deferred 2 x 7 [x0, x1, x2, x3, x4, x5, x6] := by unfold Nod2; kernel_rfl
theorem nod37_2n : Nod3 .normal 2 x 7 [x0, x1, x2, x3, x4, x5, x6] := by unfold Nod3; kernel_rfl
theorem nod37_2d : Nod3 .deferred 2 x 7 [x0, x1, x2, x3, x4, x5, x6] := by unfold Nod3; kernel_rfl
theorem nod17_3n : Nod1 .normal 3 x 7 [x0, x1, x2, x3, x4, x5, x6] := by unfold Nod1; kernel_rfl
theorem nod17_3d : Nod1 .deferred 3 x 7 [x0, x1, x2, x3, x4, x5, x6] := by unfold Nod1; kernel_rfl
theorem nod27_3n : Nod2 .normal 3 x 7 [x0, x1, x2, x3, x4, x5, x6] := by unfold Nod2; kernel_rfl
theorem nod27_3d : Nod2 .deferred 3 x 7 [x0, x1, x2, x3, x4, x5, x6] := by unfold Nod2; kernel_rfl
theorem nod37_3n : Nod3 .normal 3 x 7 [x0, x1, x2, x3, x4, x5, x6] := by unfold Nod3; kernel_rfl
theorem nod37_3d : Nod3 .deferred 3 x 7 [x0, x1, x2, x3, x4, x5, x6] := by unfold Nod3; kernel_rfl
theorem nod17_4n : Nod1 .normal 4 x 7 [x0, x1, x2, x3, x4, x5, x6] := by unfold Nod1; kernel_rfl
theorem nod17_4d : Nod1 .deferred 4 x 7 [x0, x1, x2, x3, x4, x5, x6] := by unfold Nod1; kernel_rfl
theorem nod27_4n : Nod2 .normal 4 x 7 [x0, x1, x2, x3, x4, x5, x6] := by unfold Nod2; kernel_rfl
theorem nod27_4d : Nod2 .deferred 4 x 7 [x0, x1, x2, x3, x4, x5, x6] := by unfold Nod2; kernel_rfl
theorem nod37_4n : Nod3 .normal 4 x 7 [x0, x1, x2, x3, x4, x5, x6] := by unfold Nod3; kernel_rfl
theorem nod37_4d : Nod3 .deferred 4 x 7 [x0, x1, x2, x3, x4, x5, x6] := by unfold Nod3; kernel_rfl
theorem nod17_5n : Nod1 .normal 5 x 7 [x0, x1, x2, x3, x4, x5, x6] := by unfold Nod1; kernel_rfl
theorem nod17_5d : Nod1 .deferred 5 x 7 [x0, x1, x2, x3, x4, x5, x6] := by unfold Nod1; kernel_rfl
theorem nod27_5n : Nod2 .normal 5 x 7 [x0, x1, x2, x3, x4, x5, x6] := by unfold Nod2; kernel_rfl
theorem nod27_5d : Nod2 .deferred 5 x 7 [x0, x1, x2, x3, x4, x5, x6] := by unfold Nod2; kernel_rfl
theorem nod37_5n : Nod3 .normal 5 x 7 [x0, x1, x2, x3, x4, x5, x6] := by unfold Nod3; kernel_rfl
theorem nod37_5d : Nod3 .deferred 5 x 7 [x0, x1, x2, x3, x4, x5, x6] := by unfold Nod3; kernel_rfl
theorem nod17_6n : Nod1 .normal 6 x 7 [x0, x1, x2, x3, x4, x5, x6] := by unfold Nod1; kernel_rfl
theorem nod17_6d : Nod1 .deferred 6 x 7 [x0, x1, x2, x3, x4, x5, x6] := by unfold Nod1; kernel_rfl
theorem nod27_6n : Nod2 .normal 6 x 7 [x0, x1, x2, x3, x4, x5, x6] := by unfold Nod2; kernel_rfl
theorem nod27_6d : Nod2 .deferred 6 x 7 [x0, x1, x2, x3, x4, x5, x6] := by unfold Nod2; kernel_rfl
theorem nod37_6n : Nod3 .normal 6 x 7 [x0, x1, x2, x3, x4, x5, x6] := by unfold Nod3; kernel_rfl
theorem nod37_6d : Nod3 .deferred 6 x 7 [x0, x1, x2, x3, x4, x5, x6] := by unfold Nod3; kernel_rfl
theorem nod17_7n : Nod1 .normal 7 x 7 [x0, x1, x2, x3, x4, x5, x6] := by unfold Nod1; kernel_rfl
theorem nod17_7d : Nod1 .deferred 7 x 7 [x0, x1, x2, x3, x4, x5, x6] := by unfold Nod1; kernel_rfl
theorem nod27_7n : Nod2 .normal 7 x 7 [x0, x1, x2, x3, x4, x5, x6] := by unfold Nod2; kernel_rfl
theorem nod27_7d : Nod2 .deferred 7 x 7 [x0, x1, x2, x3, x4, x5, x6] := by unfold Nod2; kernel_rfl
theorem nod37_7n : Nod3 .normal 7 x 7 [x0, x1, x2, x3, x4, x5, x6] := by unfold Nod3; kernel_rfl
theorem nod37_7d : Nod3 .deferred 7 x 7 [x0, x1, x2, x3, x4, x5, x6] := by unfold Nod3; kernel_rfl
end Go.Proofs.YtjoelgicffojcaaGreatDoor.wb
namespace Go.Proofs.YtjoelgicffojcaaGreatDoor.wb
open Go.Eng
set_option maxRecDepth 1000000
set_option linter.unusedVariables false
set_option linter.unusedSimpArgs false
set_option linter.unusedSectionVars false
variable (x : Nat) (x0 x1 x2 x3 x4 x5 x6 x7 : Int)
theorem nod18_0n : Nod1 .normal 0 x 8 [x0, x1, x2, x3, x4, x5, x6, x7] := by unfold Nod1; kernel_rfl
theorem nod18_0d : Nod1 .deferred 0 x 8 [x0, x1, x2, x3, x4, x5, x6, x7] := by unfold Nod1; kernel_rfl
theorem nod28_0n : Nod2 .normal 0 x 8 [x0, x1, x2, x3, x4, x5, x6, x7] := by unfold Nod2; kernel_rfl
theorem nod28_0d : Nod2 .deferred 0 x 8 [x0, x1, x2, x3, x4, x5, x6, x7] := by unfold Nod2; kernel_rfl
theorem nod38_0n : Nod3 .normal 0 x 8 [x0, x1, x2, x3, x4, x5, x6, x7] := by unfold Nod3; kernel_rfl
theorem nod38_0d : Nod3 .deferred 0 x 8 [x0, x1, x2, x3, x4, x5, x6, x7] := by unfold Nod3; kernel_rfl
theorem nod18_1n : Nod1 .normal 1 x 8 [x0, x1, x2, x3, x4, x5, x6, x7] := by unfold Nod1; kernel_rfl
theorem nod18_1d : Nod1 .deferred 1 x 8 [x0, x1, x2, x3, x4, x5, x6, x7] := by unfold Nod1; kernel_rfl
theorem nod28_1n : Nod2 .normal 1 x 8 [x0, x1, x2, x3, x4, x5, x6, x7] := by unfold Nod2; kernel_rfl
theorem nod28_1d : Nod2 .deferred 1 x 8 [x0, x1, x2, x3, x4, x5, x6, x7] := by unfold Nod2; kernel_rfl
theorem nod38_1n : Nod3 .normal 1 x 8 [x0, x1, x2, x3, x4, x5, x6, x7] := by unfold Nod3; kernel_rfl
theorem nod38_1d : Nod3 .deferred 1 x 8 [x0, x1, x2, x3, x4, x5, x6, x7] := by unfold Nod3; kernel_rfl
theorem nod18_2n : Nod1 .normal 2 x 8 [x0, x1, x2, x3, x4, x5, x6, x7] := by unfold Nod1; kernel_rfl
theorem nod18_2d : Nod1 .deferred 2 x 8 [x0, x1, x2, x3, x4, x5, x6, x7] := by unfold Nod1; kernel_rfl
theorem nod28_2n : Nod2 .normal 2 x 8 [x0, x1, x2, x3, x4, x5, x6, x7] := by unfold Nod2; kernel_rfl
theorem nod28_2d : Nod2 .deferred 2 x 8 [x0, x1, x2, x3, x4, x5, x6, x7] := by unfold Nod2; kernel_rfl
theorem nod38_2n : Nod3 .normal 2 x 8 [x0, x1, x2, x3, x4, x5, x6, x7] := by unfold Nod3; kernel_rfl
theorem nod38_2d : Nod3 .deferred 2 x 8 [x0, x1, x2, x3, x4, x5, x6, x7] := by unfold Nod3; kernel_rfl
theorem nod18_3n : Nod1 .normal 3 x 8 [x0, x1, x2, x3, x4, x5, x6, x7] := by unfold Nod1; kernel_rfl
theorem nod18_3d : Nod1 .deferred 3 x 8 [x0, x1, x2, x3, x4, x5, x6, x7] := by unfold Nod1; kernel_rfl
theorem nod28_3n : Nod2 .normal 3 x 8 [x0, x1, x2, x3, x4, x5, x6, x7] := by unfold Nod2; kernel_rfl
theorem nod28_3d : Nod2 .deferred 3 x 8 [x0, x1, x2, x3, x4, x5, x6, x7] := by unfold Nod2; kernel_rfl
theorem nod38_3n : Nod3 .normal 3 x 8 [x0, x1, x2, x3, x4, x5, x6, x7] := by unfold Nod3; kernel_rfl
theorem nod38_3d : Nod3 .deferred 3 x 8 [x0, x1, x2, x3, x4, x5, x6, x7] := by unfold Nod3; kernel_rfl
theorem nod18_4n : Nod1 .normal 4 x 8 [x0, x1, x2, x3, x4, x5, x6, x7] := by unfold Nod1; kernel_rfl
theorem nod18_4d : Nod1 .deferred 4 x 8 [x0, x1, x2, x3, x4, x5, x6, x7] := by unfold Nod1; kernel_rfl
theorem nod28_4n : Nod2 .normal 4 x 8 [x0, x1, x2, x3, x4, x5, x6, x7] := by unfold Nod2; kernel_rfl
theorem nod28_4d : Nod2 .deferred 4 x 8 [x0, x1, x2, x3, x4, x5, x6, x7] := by unfold Nod2; kernel_rfl
theorem nod38_4n : Nod3 .normal 4 x 8 [x0, x1, x2, x3, x4, x5, x6, x7] := by unfold Nod3; kernel_rfl
theorem nod38_4d : Nod3 .deferred 4 x 8 [x0, x1, x2, x3, x4, x5, x6, x7] := by unfold Nod3; kernel_rfl
theorem nod18_5n : Nod1 .normal 5 x 8 [x0, x1, x2, x3, x4, x5, x6, x7] := by unfold Nod1; kernel_rfl
theorem nod18_5d : Nod1 .deferred 5 x 8 [x0, x1, x2, x3, x4, x5, x6, x7] := by unfold Nod1; kernel_rfl
theorem nod28_5n : Nod2 .normal 5 x 8 [x0, x1, x2, x3, x4, x5, x6, x7] := by unfold Nod2; kernel_rfl
theorem nod28_5d : Nod2 .deferred 5 x 8 [x0, x1, x2, x3, x4, x5, x6, x7] := by unfold Nod2; kernel_rfl
theorem nod38_5n : Nod3 .normal 5 x 8 [x0, x1, x2, x3, x4, x5, x6, x7] := by unfold Nod3; kernel_rfl
theorem nod38_5d : Nod3 .deferred 5 x 8 [x0, x1, x2, x3, x4, x5, x6, x7] := by unfold Nod3; kernel_rfl
theorem nod18_6n : Nod1 .normal 6 x 8 [x0, x1, x2, x3, x4, x5, x6, x7] := by unfold Nod1; kernel_rfl
theorem nod18_6d : Nod1 .deferred 6 x 8 [x0, x1, x2, x3, x4, x5, x6, x7] := by unfold Nod1; kernel_rfl
theorem nod28_6n : Nod2 .normal 6 x 8 [x0, x1, x2, x3, x4, x5, x6, x7] := by unfold Nod2; kernel_rfl
theorem nod28_6d : Nod2 .deferred 6 x 8 [x0, x1, x2, x3, x4, x5, x6, x7] := by unfold Nod2; kernel_rfl
theorem nod38_6n : Nod3 .normal 6 x 8 [x0, x1, x2, x3, x4, x5, x6, x7] := by unfold Nod3; kernel_rfl
theorem nod38_6d : Nod3 .deferred 6 x 8 [x0, x1, x2, x3, x4, x5, x6, x7] := by unfold Nod3; kernel_rfl
theorem nod18_7n : Nod1 .normal 7 x 8 [x0, x1, x2, x3, x4, x5, x6, x7] := by unfold Nod1; kernel_rfl
theorem nod18_7d : Nod1 .deferred 7 x 8 [x0, x1, x2, x3, x4, x5, x6, x7] := by unfold Nod1; kernel_rfl
theorem nod28_7n : Nod2 .normal 7 x 8 [x0, x1, x2, x3, x4, x5, x6, x7] := by unfold Nod2; kernel_rfl
theorem nod28_7d : Nod2 .deferred 7 x 8 [x0, x1, x2, x3, x4, x5, x6, x7] := by unfold Nod2; kernel_rfl
theorem nod38_7n : Nod3 .normal 7 x 8 [x0, x1, x2, x3, x4, x5, x6, x7] := by unfold Nod3; kernel_rfl
theorem nod38_7d : Nod3 .deferred 7 x 8 [x0, x1, x2, x3, x4, x5, x6, x7] := by unfold Nod3; kernel_rfl
end Go.Proofs.YtjoelgicffojcaaGreatDoor.wb
