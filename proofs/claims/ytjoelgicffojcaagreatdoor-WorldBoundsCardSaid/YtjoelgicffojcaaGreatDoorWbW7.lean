/-
  WorldBounds: the nodes, a chain of 7.
-/
import Derived.KernelRfl
import Derived.Test.YtjoelgicffojcaaGreatDoorWbWSt
namespace Go.Proofs.YtjoelgicffojcaaGreatDoor.wb
open Go.Eng
set_option maxRecDepth 1000000
set_option linter.unusedVariables false
set_option linter.unusedSimpArgs false
set_option linter.unusedSectionVars false
variable (win : CB) (x cp : Nat) (N C r u W x0 x1 x2 x3 x4 x5 x6 : Int) (d d5 d3 : Nat → Value) (ps : List Value) (p0 p1 p2 p3 p4 p5 p6 : Value)
theorem out7_0 : Out win x N C (chain 7 cp) r u W 7 [x0, x1, x2, x3, x4, x5, x6] 0 [] d d5 d3 := by unfold Out; kernel_rfl
theorem in7_0 : In win x N C (chain 7 cp) r u W 7 [x0, x1, x2, x3, x4, x5, x6] 0 [] d d5 d3 := by unfold In; kernel_rfl
theorem app7_0 : App win x N C (chain 7 cp) r u W 7 [x0, x1, x2, x3, x4, x5, x6] 0 [] d d5 d3 := by unfold App; kernel_rfl
theorem out7_1 : Out win x N C (chain 7 cp) r u W 7 [x0, x1, x2, x3, x4, x5, x6] 1 ps d d5 d3 := by unfold Out; kernel_rfl
theorem in7_1 : In win x N C (chain 7 cp) r u W 7 [x0, x1, x2, x3, x4, x5, x6] 1 ps d d5 d3 := by unfold In; kernel_rfl
theorem app7_1 : App win x N C (chain 7 cp) r u W 7 [x0, x1, x2, x3, x4, x5, x6] 1 [p0] d d5 d3 := by unfold App; kernel_rfl
theorem out7_2 : Out win x N C (chain 7 cp) r u W 7 [x0, x1, x2, x3, x4, x5, x6] 2 ps d d5 d3 := by unfold Out; kernel_rfl
theorem in7_2 : In win x N C (chain 7 cp) r u W 7 [x0, x1, x2, x3, x4, x5, x6] 2 ps d d5 d3 := by unfold In; kernel_rfl
theorem app7_2 : App win x N C (chain 7 cp) r u W 7 [x0, x1, x2, x3, x4, x5, x6] 2 [p0, p1] d d5 d3 := by unfold App; kernel_rfl
theorem out7_3 : Out win x N C (chain 7 cp) r u W 7 [x0, x1, x2, x3, x4, x5, x6] 3 ps d d5 d3 := by unfold Out; kernel_rfl
theorem in7_3 : In win x N C (chain 7 cp) r u W 7 [x0, x1, x2, x3, x4, x5, x6] 3 ps d d5 d3 := by unfold In; kernel_rfl
theorem app7_3 : App win x N C (chain 7 cp) r u W 7 [x0, x1, x2, x3, x4, x5, x6] 3 [p0, p1, p2] d d5 d3 := by unfold App; kernel_rfl
theorem out7_4 : Out win x N C (chain 7 cp) r u W 7 [x0, x1, x2, x3, x4, x5, x6] 4 ps d d5 d3 := by unfold Out; kernel_rfl
theorem in7_4 : In win x N C (chain 7 cp) r u W 7 [x0, x1, x2, x3, x4, x5, x6] 4 ps d d5 d3 := by unfold In; kernel_rfl
theorem app7_4 : App win x N C (chain 7 cp) r u W 7 [x0, x1, x2, x3, x4, x5, x6] 4 [p0, p1, p2, p3] d d5 d3 := by unfold App; kernel_rfl
theorem out7_5 : Out win x N C (chain 7 cp) r u W 7 [x0, x1, x2, x3, x4, x5, x6] 5 ps d d5 d3 := by unfold Out; kernel_rfl
theorem in7_5 : In win x N C (chain 7 cp) r u W 7 [x0, x1, x2, x3, x4, x5, x6] 5 ps d d5 d3 := by unfold In; kernel_rfl
theorem app7_5 : App win x N C (chain 7 cp) r u W 7 [x0, x1, x2, x3, x4, x5, x6] 5 [p0, p1, p2, p3, p4] d d5 d3 := by unfold App; kernel_rfl
theorem out7_6 : Out win x N C (chain 7 cp) r u W 7 [x0, x1, x2, x3, x4, x5, x6] 6 ps d d5 d3 := by unfold Out; kernel_rfl
theorem in7_6 : In win x N C (chain 7 cp) r u W 7 [x0, x1, x2, x3, x4, x5, x6] 6 ps d d5 d3 := by unfold In; kernel_rfl
theorem app7_6 : App win x N C (chain 7 cp) r u W 7 [x0, x1, x2, x3, x4, x5, x6] 6 [p0, p1, p2, p3, p4, p5] d d5 d3 := by unfold App; kernel_rfl
theorem out7_7 : Out win x N C (chain 7 cp) r u W 7 [x0, x1, x2, x3, x4, x5, x6] 7 ps d d5 d3 := by unfold Out; kernel_rfl
theorem in7_7 : In win x N C (chain 7 cp) r u W 7 [x0, x1, x2, x3, x4, x5, x6] 7 ps d d5 d3 := by unfold In; kernel_rfl
theorem app7_7 : App win x N C (chain 7 cp) r u W 7 [x0, x1, x2, x3, x4, x5, x6] 7 [p0, p1, p2, p3, p4, p5, p6] d d5 d3 := by unfold App; kernel_rfl
theorem end7_0 : End win x N C (chain 7 cp) r u W 7 [x0, x1, x2, x3, x4, x5, x6] 0 [] d d5 d3 := by unfold End; kernel_rfl
theorem end7_1 : End win x N C (chain 7 cp) r u W 7 [x0, x1, x2, x3, x4, x5, x6] 1 ps d d5 d3 := by unfold End; kernel_rfl
theorem end7_2 : End win x N C (chain 7 cp) r u W 7 [x0, x1, x2, x3, x4, x5, x6] 2 ps d d5 d3 := by unfold End; kernel_rfl
theorem end7_3 : End win x N C (chain 7 cp) r u W 7 [x0, x1, x2, x3, x4, x5, x6] 3 ps d d5 d3 := by unfold End; kernel_rfl
theorem end7_4 : End win x N C (chain 7 cp) r u W 7 [x0, x1, x2, x3, x4, x5, x6] 4 ps d d5 d3 := by unfold End; kernel_rfl
theorem end7_5 : End win x N C (chain 7 cp) r u W 7 [x0, x1, x2, x3, x4, x5, x6] 5 ps d d5 d3 := by unfold End; kernel_rfl
theorem end7_6 : End win x N C (chain 7 cp) r u W 7 [x0, x1, x2, x3, x4, x5, x6] 6 ps d d5 d3 := by unfold End; kernel_rfl
theorem end7_7 : End win x N C (chain 7 cp) r u W 7 [x0, x1, x2, x3, x4, x5, x6] 7 ps d d5 d3 := by unfold End; kernel_rfl
theorem end7_8 : End win x N C (chain 7 cp) r u W 7 [x0, x1, x2, x3, x4, x5, x6] 8 ps d d5 d3 := by unfold End; kernel_rfl
end Go.Proofs.YtjoelgicffojcaaGreatDoor.wb
