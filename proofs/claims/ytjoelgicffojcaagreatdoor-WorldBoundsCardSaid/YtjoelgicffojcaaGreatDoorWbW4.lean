/-
  WorldBounds: the nodes, a chain of 4.
-/
import Derived.KernelRfl
import Derived.Test.YtjoelgicffojcaaGreatDoorWbWSt
namespace Go.Proofs.YtjoelgicffojcaaGreatDoor.wb
open Go.Eng
set_option maxRecDepth 1000000
set_option linter.unusedVariables false
set_option linter.unusedSimpArgs false
set_option linter.unusedSectionVars false
variable (win : CB) (x cp : Nat) (N C r u W x0 x1 x2 x3 : Int) (d d5 d3 : Nat → Value) (ps : List Value) (p0 p1 p2 p3 p4 p5 p6 : Value)
theorem out4_0 : Out win x N C (chain 4 cp) r u W 4 [x0, x1, x2, x3] 0 [] d d5 d3 := by unfold Out; kernel_rfl
theorem in4_0 : In win x N C (chain 4 cp) r u W 4 [x0, x1, x2, x3] 0 [] d d5 d3 := by unfold In; kernel_rfl
theorem app4_0 : App win x N C (chain 4 cp) r u W 4 [x0, x1, x2, x3] 0 [] d d5 d3 := by unfold App; kernel_rfl
theorem out4_1 : Out win x N C (chain 4 cp) r u W 4 [x0, x1, x2, x3] 1 ps d d5 d3 := by unfold Out; kernel_rfl
theorem in4_1 : In win x N C (chain 4 cp) r u W 4 [x0, x1, x2, x3] 1 ps d d5 d3 := by unfold In; kernel_rfl
theorem app4_1 : App win x N C (chain 4 cp) r u W 4 [x0, x1, x2, x3] 1 [p0] d d5 d3 := by unfold App; kernel_rfl
theorem out4_2 : Out win x N C (chain 4 cp) r u W 4 [x0, x1, x2, x3] 2 ps d d5 d3 := by unfold Out; kernel_rfl
theorem in4_2 : In win x N C (chain 4 cp) r u W 4 [x0, x1, x2, x3] 2 ps d d5 d3 := by unfold In; kernel_rfl
theorem app4_2 : App win x N C (chain 4 cp) r u W 4 [x0, x1, x2, x3] 2 [p0, p1] d d5 d3 := by unfold App; kernel_rfl
theorem out4_3 : Out win x N C (chain 4 cp) r u W 4 [x0, x1, x2, x3] 3 ps d d5 d3 := by unfold Out; kernel_rfl
theorem in4_3 : In win x N C (chain 4 cp) r u W 4 [x0, x1, x2, x3] 3 ps d d5 d3 := by unfold In; kernel_rfl
theorem app4_3 : App win x N C (chain 4 cp) r u W 4 [x0, x1, x2, x3] 3 [p0, p1, p2] d d5 d3 := by unfold App; kernel_rfl
theorem out4_4 : Out win x N C (chain 4 cp) r u W 4 [x0, x1, x2, x3] 4 ps d d5 d3 := by unfold Out; kernel_rfl
theorem in4_4 : In win x N C (chain 4 cp) r u W 4 [x0, x1, x2, x3] 4 ps d d5 d3 := by unfold In; kernel_rfl
theorem app4_4 : App win x N C (chain 4 cp) r u W 4 [x0, x1, x2, x3] 4 [p0, p1, p2, p3] d d5 d3 := by unfold App; kernel_rfl
theorem out4_5 : Out win x N C (chain 4 cp) r u W 4 [x0, x1, x2, x3] 5 ps d d5 d3 := by unfold Out; kernel_rfl
theorem in4_5 : In win x N C (chain 4 cp) r u W 4 [x0, x1, x2, x3] 5 ps d d5 d3 := by unfold In; kernel_rfl
theorem app4_5 : App win x N C (chain 4 cp) r u W 4 [x0, x1, x2, x3] 5 [p0, p1, p2, p3, p4] d d5 d3 := by unfold App; kernel_rfl
theorem out4_6 : Out win x N C (chain 4 cp) r u W 4 [x0, x1, x2, x3] 6 ps d d5 d3 := by unfold Out; kernel_rfl
theorem in4_6 : In win x N C (chain 4 cp) r u W 4 [x0, x1, x2, x3] 6 ps d d5 d3 := by unfold In; kernel_rfl
theorem app4_6 : App win x N C (chain 4 cp) r u W 4 [x0, x1, x2, x3] 6 [p0, p1, p2, p3, p4, p5] d d5 d3 := by unfold App; kernel_rfl
theorem out4_7 : Out win x N C (chain 4 cp) r u W 4 [x0, x1, x2, x3] 7 ps d d5 d3 := by unfold Out; kernel_rfl
theorem in4_7 : In win x N C (chain 4 cp) r u W 4 [x0, x1, x2, x3] 7 ps d d5 d3 := by unfold In; kernel_rfl
theorem app4_7 : App win x N C (chain 4 cp) r u W 4 [x0, x1, x2, x3] 7 [p0, p1, p2, p3, p4, p5, p6] d d5 d3 := by unfold App; kernel_rfl
theorem end4_0 : End win x N C (chain 4 cp) r u W 4 [x0, x1, x2, x3] 0 [] d d5 d3 := by unfold End; kernel_rfl
theorem end4_1 : End win x N C (chain 4 cp) r u W 4 [x0, x1, x2, x3] 1 ps d d5 d3 := by unfold End; kernel_rfl
theorem end4_2 : End win x N C (chain 4 cp) r u W 4 [x0, x1, x2, x3] 2 ps d d5 d3 := by unfold End; kernel_rfl
theorem end4_3 : End win x N C (chain 4 cp) r u W 4 [x0, x1, x2, x3] 3 ps d d5 d3 := by unfold End; kernel_rfl
theorem end4_4 : End win x N C (chain 4 cp) r u W 4 [x0, x1, x2, x3] 4 ps d d5 d3 := by unfold End; kernel_rfl
theorem end4_5 : End win x N C (chain 4 cp) r u W 4 [x0, x1, x2, x3] 5 ps d d5 d3 := by unfold End; kernel_rfl
theorem end4_6 : End win x N C (chain 4 cp) r u W 4 [x0, x1, x2, x3] 6 ps d d5 d3 := by unfold End; kernel_rfl
theorem end4_7 : End win x N C (chain 4 cp) r u W 4 [x0, x1, x2, x3] 7 ps d d5 d3 := by unfold End; kernel_rfl
theorem end4_8 : End win x N C (chain 4 cp) r u W 4 [x0, x1, x2, x3] 8 ps d d5 d3 := by unfold End; kernel_rfl
end Go.Proofs.YtjoelgicffojcaaGreatDoor.wb
