/-
  WorldBounds: the nodes, a chain of 8.
-/
import Derived.KernelRfl
import Derived.Test.YtjoelgicffojcaaGreatDoorWbWSt
namespace Go.Proofs.YtjoelgicffojcaaGreatDoor.wb
open Go.Eng
set_option maxRecDepth 1000000
set_option linter.unusedVariables false
set_option linter.unusedSimpArgs false
set_option linter.unusedSectionVars false
variable (win : CB) (x cp : Nat) (N C r u W x0 x1 x2 x3 x4 x5 x6 x7 : Int) (d d5 d3 : Nat → Value) (ps : List Value) (p0 p1 p2 p3 p4 p5 p6 : Value)
theorem out8_0 : Out win x N C (chain 8 cp) r u W 8 [x0, x1, x2, x3, x4, x5, x6, x7] 0 [] d d5 d3 := by unfold Out; kernel_rfl
theorem in8_0 : In win x N C (chain 8 cp) r u W 8 [x0, x1, x2, x3, x4, x5, x6, x7] 0 [] d d5 d3 := by unfold In; kernel_rfl
theorem app8_0 : App win x N C (chain 8 cp) r u W 8 [x0, x1, x2, x3, x4, x5, x6, x7] 0 [] d d5 d3 := by unfold App; kernel_rfl
theorem out8_1 : Out win x N C (chain 8 cp) r u W 8 [x0, x1, x2, x3, x4, x5, x6, x7] 1 ps d d5 d3 := by unfold Out; kernel_rfl
theorem in8_1 : In win x N C (chain 8 cp) r u W 8 [x0, x1, x2, x3, x4, x5, x6, x7] 1 ps d d5 d3 := by unfold In; kernel_rfl
theorem app8_1 : App win x N C (chain 8 cp) r u W 8 [x0, x1, x2, x3, x4, x5, x6, x7] 1 [p0] d d5 d3 := by unfold App; kernel_rfl
theorem out8_2 : Out win x N C (chain 8 cp) r u W 8 [x0, x1, x2, x3, x4, x5, x6, x7] 2 ps d d5 d3 := by unfold Out; kernel_rfl
theorem in8_2 : In win x N C (chain 8 cp) r u W 8 [x0, x1, x2, x3, x4, x5, x6, x7] 2 ps d d5 d3 := by unfold In; kernel_rfl
theorem app8_2 : App win x N C (chain 8 cp) r u W 8 [x0, x1, x2, x3, x4, x5, x6, x7] 2 [p0, p1] d d5 d3 := by unfold App; kernel_rfl
theorem out8_3 : Out win x N C (chain 8 cp) r u W 8 [x0, x1, x2, x3, x4, x5, x6, x7] 3 ps d d5 d3 := by unfold Out; kernel_rfl
theorem in8_3 : In win x N C (chain 8 cp) r u W 8 [x0, x1, x2, x3, x4, x5, x6, x7] 3 ps d d5 d3 := by unfold In; kernel_rfl
theorem app8_3 : App win x N C (chain 8 cp) r u W 8 [x0, x1, x2, x3, x4, x5, x6, x7] 3 [p0, p1, p2] d d5 d3 := by unfold App; kernel_rfl
theorem out8_4 : Out win x N C (chain 8 cp) r u W 8 [x0, x1, x2, x3, x4, x5, x6, x7] 4 ps d d5 d3 := by unfold Out; kernel_rfl
theorem in8_4 : In win x N C (chain 8 cp) r u W 8 [x0, x1, x2, x3, x4, x5, x6, x7] 4 ps d d5 d3 := by unfold In; kernel_rfl
theorem app8_4 : App win x N C (chain 8 cp) r u W 8 [x0, x1, x2, x3, x4, x5, x6, x7] 4 [p0, p1, p2, p3] d d5 d3 := by unfold App; kernel_rfl
theorem out8_5 : Out win x N C (chain 8 cp) r u W 8 [x0, x1, x2, x3, x4, x5, x6, x7] 5 ps d d5 d3 := by unfold Out; kernel_rfl
theorem in8_5 : In win x N C (chain 8 cp) r u W 8 [x0, x1, x2, x3, x4, x5, x6, x7] 5 ps d d5 d3 := by unfold In; kernel_rfl
theorem app8_5 : App win x N C (chain 8 cp) r u W 8 [x0, x1, x2, x3, x4, x5, x6, x7] 5 [p0, p1, p2, p3, p4] d d5 d3 := by unfold App; kernel_rfl
theorem out8_6 : Out win x N C (chain 8 cp) r u W 8 [x0, x1, x2, x3, x4, x5, x6, x7] 6 ps d d5 d3 := by unfold Out; kernel_rfl
theorem in8_6 : In win x N C (chain 8 cp) r u W 8 [x0, x1, x2, x3, x4, x5, x6, x7] 6 ps d d5 d3 := by unfold In; kernel_rfl
theorem app8_6 : App win x N C (chain 8 cp) r u W 8 [x0, x1, x2, x3, x4, x5, x6, x7] 6 [p0, p1, p2, p3, p4, p5] d d5 d3 := by unfold App; kernel_rfl
theorem out8_7 : Out win x N C (chain 8 cp) r u W 8 [x0, x1, x2, x3, x4, x5, x6, x7] 7 ps d d5 d3 := by unfold Out; kernel_rfl
theorem in8_7 : In win x N C (chain 8 cp) r u W 8 [x0, x1, x2, x3, x4, x5, x6, x7] 7 ps d d5 d3 := by unfold In; kernel_rfl
theorem app8_7 : App win x N C (chain 8 cp) r u W 8 [x0, x1, x2, x3, x4, x5, x6, x7] 7 [p0, p1, p2, p3, p4, p5, p6] d d5 d3 := by unfold App; kernel_rfl
theorem end8_0 : End win x N C (chain 8 cp) r u W 8 [x0, x1, x2, x3, x4, x5, x6, x7] 0 [] d d5 d3 := by unfold End; kernel_rfl
theorem end8_1 : End win x N C (chain 8 cp) r u W 8 [x0, x1, x2, x3, x4, x5, x6, x7] 1 ps d d5 d3 := by unfold End; kernel_rfl
theorem end8_2 : End win x N C (chain 8 cp) r u W 8 [x0, x1, x2, x3, x4, x5, x6, x7] 2 ps d d5 d3 := by unfold End; kernel_rfl
theorem end8_3 : End win x N C (chain 8 cp) r u W 8 [x0, x1, x2, x3, x4, x5, x6, x7] 3 ps d d5 d3 := by unfold End; kernel_rfl
theorem end8_4 : End win x N C (chain 8 cp) r u W 8 [x0, x1, x2, x3, x4, x5, x6, x7] 4 ps d d5 d3 := by unfold End; kernel_rfl
theorem end8_5 : End win x N C (chain 8 cp) r u W 8 [x0, x1, x2, x3, x4, x5, x6, x7] 5 ps d d5 d3 := by unfold End; kernel_rfl
theorem end8_6 : End win x N C (chain 8 cp) r u W 8 [x0, x1, x2, x3, x4, x5, x6, x7] 6 ps d d5 d3 := by unfold End; kernel_rfl
theorem end8_7 : End win x N C (chain 8 cp) r u W 8 [x0, x1, x2, x3, x4, x5, x6, x7] 7 ps d d5 d3 := by unfold End; kernel_rfl
theorem end8_8 : End win x N C (chain 8 cp) r u W 8 [x0, x1, x2, x3, x4, x5, x6, x7] 8 ps d d5 d3 := by unfold End; kernel_rfl
end Go.Proofs.YtjoelgicffojcaaGreatDoor.wb
