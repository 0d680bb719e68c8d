/-
  WorldBounds: the nodes, a chain of 5.
-/
import Derived.KernelRfl
import Derived.Test.YtjoelgicffojcaaGreatDoorWbWSt
namespace Go.Proofs.YtjoelgicffojcaaGreatDoor.wb
open Go.Eng
set_option maxRecDepth 1000000
set_option linter.unusedVariables false
set_option linter.unusedSimpArgs false
set_option linter.unusedSectionVars false
variable (win : CB) (x cp : Nat) (N C r u W x0 x1 x2 x3 x4 : Int) (d d5 d3 : Nat → Value) (ps : List Value) (p0 p1 p2 p3 p4 p5 p6 : Value)
theorem out5_0 : Out win x N C (chain 5 cp) r u W 5 [x0, x1, x2, x3, x4] 0 [] d d5 d3 := by unfold Out; kernel_rfl
theorem in5_0 : In win x N C (chain 5 cp) r u W 5 [x0, x1, x2, x3, x4] 0 [] d d5 d3 := by unfold In; kernel_rfl
theorem app5_0 : App win x N C (chain 5 cp) r u W 5 [x0, x1, x2, x3, x4] 0 [] d d5 d3 := by unfold App; kernel_rfl
theorem out5_1 : Out win x N C (chain 5 cp) r u W 5 [x0, x1, x2, x3, x4] 1 ps d d5 d3 := by unfold Out; kernel_rfl
theorem in5_1 : In win x N C (chain 5 cp) r u W 5 [x0, x1, x2, x3, x4] 1 ps d d5 d3 := by unfold In; kernel_rfl
theorem app5_1 : App win x N C (chain 5 cp) r u W 5 [x0, x1, x2, x3, x4] 1 [p0] d d5 d3 := by unfold App; kernel_rfl
theorem out5_2 : Out win x N C (chain 5 cp) r u W 5 [x0, x1, x2, x3, x4] 2 ps d d5 d3 := by unfold Out; kernel_rfl
theorem in5_2 : In win x N C (chain 5 cp) r u W 5 [x0, x1, x2, x3, x4] 2 ps d d5 d3 := by unfold In; kernel_rfl
theorem app5_2 : App win x N C (chain 5 cp) r u W 5 [x0, x1, x2, x3, x4] 2 [p0, p1] d d5 d3 := by unfold App; kernel_rfl
theorem out5_3 : Out win x N C (chain 5 cp) r u W 5 [x0, x1, x2, x3, x4] 3 ps d d5 d3 := by unfold Out; kernel_rfl
theorem in5_3 : In win x N C (chain 5 cp) r u W 5 [x0, x1, x2, x3, x4] 3 ps d d5 d3 := by unfold In; kernel_rfl
theorem app5_3 : App win x N C (chain 5 cp) r u W 5 [x0, x1, x2, x3, x4] 3 [p0, p1, p2] d d5 d3 := by unfold App; kernel_rfl
theorem out5_4 : Out win x N C (chain 5 cp) r u W 5 [x0, x1, x2, x3, x4] 4 ps d d5 d3 := by unfold Out; kernel_rfl
theorem in5_4 : In win x N C (chain 5 cp) r u W 5 [x0, x1, x2, x3, x4] 4 ps d d5 d3 := by unfold In; kernel_rfl
theorem app5_4 : App win x N C (chain 5 cp) r u W 5 [x0, x1, x2, x3, x4] 4 [p0, p1, p2, p3] d d5 d3 := by unfold App; kernel_rfl
theorem out5_5 : Out win x N C (chain 5 cp) r u W 5 [x0, x1, x2, x3, x4] 5 ps d d5 d3 := by unfold Out; kernel_rfl
theorem in5_5 : In win x N C (chain 5 cp) r u W 5 [x0, x1, x2, x3, x4] 5 ps d d5 d3 := by unfold In; kernel_rfl
theorem app5_5 : App win x N C (chain 5 cp) r u W 5 [x0, x1, x2, x3, x4] 5 [p0, p1, p2, p3, p4] d d5 d3 := by unfold App; kernel_rfl
theorem out5_6 : Out win x N C (chain 5 cp) r u W 5 [x0, x1, x2, x3, x4] 6 ps d d5 d3 := by unfold Out; kernel_rfl
theorem in5_6 : In win x N C (chain 5 cp) r u W 5 [x0, x1, x2, x3, x4] 6 ps d d5 d3 := by unfold In; kernel_rfl
theorem app5_6 : App win x N C (chain 5 cp) r u W 5 [x0, x1, x2, x3, x4] 6 [p0, p1, p2, p3, p4, p5] d d5 d3 := by unfold App; kernel_rfl
theorem out5_7 : Out win x N C (chain 5 cp) r u W 5 [x0, x1, x2, x3, x4] 7 ps d d5 d3 := by unfold Out; kernel_rfl
theorem in5_7 : In win x N C (chain 5 cp) r u W 5 [x0, x1, x2, x3, x4] 7 ps d d5 d3 := by unfold In; kernel_rfl
theorem app5_7 : App win x N C (chain 5 cp) r u W 5 [x0, x1, x2, x3, x4] 7 [p0, p1, p2, p3, p4, p5, p6] d d5 d3 := by unfold App; kernel_rfl
theorem end5_0 : End win x N C (chain 5 cp) r u W 5 [x0, x1, x2, x3, x4] 0 [] d d5 d3 := by unfold End; kernel_rfl
theorem end5_1 : End win x N C (chain 5 cp) r u W 5 [x0, x1, x2, x3, x4] 1 ps d d5 d3 := by unfold End; kernel_rfl
theorem end5_2 : End win x N C (chain 5 cp) r u W 5 [x0, x1, x2, x3, x4] 2 ps d d5 d3 := by unfold End; kernel_rfl
theorem end5_3 : End win x N C (chain 5 cp) r u W 5 [x0, x1, x2, x3, x4] 3 ps d d5 d3 := by unfold End; kernel_rfl
theorem end5_4 : End win x N C (chain 5 cp) r u W 5 [x0, x1, x2, x3, x4] 4 ps d d5 d3 := by unfold End; kernel_rfl
theorem end5_5 : End win x N C (chain 5 cp) r u W 5 [x0, x1, x2, x3, x4] 5 ps d d5 d3 := by unfold End; kernel_rfl
theorem end5_6 : End win x N C (chain 5 cp) r u W 5 [x0, x1, x2, x3, x4] 6 ps d d5 d3 := by unfold End; kernel_rfl
theorem end5_7 : End win x N C (chain 5 cp) r u W 5 [x0, x1, x2, x3, x4] 7 ps d d5 d3 := by unfold End; kernel_rfl
theorem end5_8 : End win x N C (chain 5 cp) r u W 5 [x0, x1, x2, x3, x4] 8 ps d d5 d3 := by unfold End; kernel_rfl
end Go.Proofs.YtjoelgicffojcaaGreatDoor.wb
