/-
  WorldBounds: the nodes, a chain of 1.
-/
import Derived.KernelRfl
import Derived.Test.YtjoelgicffojcaaGreatDoorWbWSt
namespace Go.Proofs.YtjoelgicffojcaaGreatDoor.wb
open Go.Eng
set_option maxRecDepth 1000000
set_option linter.unusedVariables false
set_option linter.unusedSimpArgs false
set_option linter.unusedSectionVars false
variable (win : CB) (x cp : Nat) (N C r u W x0 : Int) (d d5 d3 : Nat → Value) (ps : List Value) (p0 p1 p2 p3 p4 p5 p6 : Value)
theorem out1_0 : Out win x N C (chain 1 cp) r u W 1 [x0] 0 [] d d5 d3 := by unfold Out; kernel_rfl
theorem in1_0 : In win x N C (chain 1 cp) r u W 1 [x0] 0 [] d d5 d3 := by unfold In; kernel_rfl
theorem app1_0 : App win x N C (chain 1 cp) r u W 1 [x0] 0 [] d d5 d3 := by unfold App; kernel_rfl
theorem out1_1 : Out win x N C (chain 1 cp) r u W 1 [x0] 1 ps d d5 d3 := by unfold Out; kernel_rfl
theorem in1_1 : In win x N C (chain 1 cp) r u W 1 [x0] 1 ps d d5 d3 := by unfold In; kernel_rfl
theorem app1_1 : App win x N C (chain 1 cp) r u W 1 [x0] 1 [p0] d d5 d3 := by unfold App; kernel_rfl
theorem out1_2 : Out win x N C (chain 1 cp) r u W 1 [x0] 2 ps d d5 d3 := by unfold Out; kernel_rfl
theorem in1_2 : In win x N C (chain 1 cp) r u W 1 [x0] 2 ps d d5 d3 := by unfold In; kernel_rfl
theorem app1_2 : App win x N C (chain 1 cp) r u W 1 [x0] 2 [p0, p1] d d5 d3 := by unfold App; kernel_rfl
theorem out1_3 : Out win x N C (chain 1 cp) r u W 1 [x0] 3 ps d d5 d3 := by unfold Out; kernel_rfl
theorem in1_3 : In win x N C (chain 1 cp) r u W 1 [x0] 3 ps d d5 d3 := by unfold In; kernel_rfl
theorem app1_3 : App win x N C (chain 1 cp) r u W 1 [x0] 3 [p0, p1, p2] d d5 d3 := by unfold App; kernel_rfl
theorem out1_4 : Out win x N C (chain 1 cp) r u W 1 [x0] 4 ps d d5 d3 := by unfold Out; kernel_rfl
theorem in1_4 : In win x N C (chain 1 cp) r u W 1 [x0] 4 ps d d5 d3 := by unfold In; kernel_rfl
theorem app1_4 : App win x N C (chain 1 cp) r u W 1 [x0] 4 [p0, p1, p2, p3] d d5 d3 := by unfold App; kernel_rfl
theorem out1_5 : Out win x N C (chain 1 cp) r u W 1 [x0] 5 ps d d5 d3 := by unfold Out; kernel_rfl
theorem in1_5 : In win x N C (chain 1 cp) r u W 1 [x0] 5 ps d d5 d3 := by unfold In; kernel_rfl
theorem app1_5 : App win x N C (chain 1 cp) r u W 1 [x0] 5 [p0, p1, p2, p3, p4] d d5 d3 := by unfold App; kernel_rfl
theorem out1_6 : Out win x N C (chain 1 cp) r u W 1 [x0] 6 ps d d5 d3 := by unfold Out; kernel_rfl
theorem in1_6 : In win x N C (chain 1 cp) r u W 1 [x0] 6 ps d d5 d3 := by unfold In; kernel_rfl
theorem app1_6 : App win x N C (chain 1 cp) r u W 1 [x0] 6 [p0, p1, p2, p3, p4, p5] d d5 d3 := by unfold App; kernel_rfl
theorem out1_7 : Out win x N C (chain 1 cp) r u W 1 [x0] 7 ps d d5 d3 := by unfold Out; kernel_rfl
theorem in1_7 : In win x N C (chain 1 cp) r u W 1 [x0] 7 ps d d5 d3 := by unfold In; kernel_rfl
theorem app1_7 : App win x N C (chain 1 cp) r u W 1 [x0] 7 [p0, p1, p2, p3, p4, p5, p6] d d5 d3 := by unfold App; kernel_rfl
theorem end1_0 : End win x N C (chain 1 cp) r u W 1 [x0] 0 [] d d5 d3 := by unfold End; kernel_rfl
theorem end1_1 : End win x N C (chain 1 cp) r u W 1 [x0] 1 ps d d5 d3 := by unfold End; kernel_rfl
theorem end1_2 : End win x N C (chain 1 cp) r u W 1 [x0] 2 ps d d5 d3 := by unfold End; kernel_rfl
theorem end1_3 : End win x N C (chain 1 cp) r u W 1 [x0] 3 ps d d5 d3 := by unfold End; kernel_rfl
theorem end1_4 : End win x N C (chain 1 cp) r u W 1 [x0] 4 ps d d5 d3 := by unfold End; kernel_rfl
theorem end1_5 : End win x N C (chain 1 cp) r u W 1 [x0] 5 ps d d5 d3 := by unfold End; kernel_rfl
theorem end1_6 : End win x N C (chain 1 cp) r u W 1 [x0] 6 ps d d5 d3 := by unfold End; kernel_rfl
theorem end1_7 : End win x N C (chain 1 cp) r u W 1 [x0] 7 ps d d5 d3 := by unfold End; kernel_rfl
theorem end1_8 : End win x N C (chain 1 cp) r u W 1 [x0] 8 ps d d5 d3 := by unfold End; kernel_rfl
end Go.Proofs.YtjoelgicffojcaaGreatDoor.wb
