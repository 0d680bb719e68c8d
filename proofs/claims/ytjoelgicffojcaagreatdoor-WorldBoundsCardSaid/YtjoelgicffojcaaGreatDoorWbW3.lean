/-
  WorldBounds: the nodes, a chain of 3.
-/
import Derived.KernelRfl
import Derived.Test.YtjoelgicffojcaaGreatDoorWbWSt
namespace Go.Proofs.YtjoelgicffojcaaGreatDoor.wb
open Go.Eng
set_option maxRecDepth 1000000
set_option linter.unusedVariables false
set_option linter.unusedSimpArgs false
set_option linter.unusedSectionVars false
variable (win : CB) (x cp : Nat) (N C r u W x0 x1 x2 : Int) (d d5 d3 : Nat → Value) (ps : List Value) (p0 p1 p2 p3 p4 p5 p6 : Value)
theorem out3_0 : Out win x N C (chain 3 cp) r u W 3 [x0, x1, x2] 0 [] d d5 d3 := by unfold Out; kernel_rfl
theorem in3_0 : In win x N C (chain 3 cp) r u W 3 [x0, x1, x2] 0 [] d d5 d3 := by unfold In; kernel_rfl
theorem app3_0 : App win x N C (chain 3 cp) r u W 3 [x0, x1, x2] 0 [] d d5 d3 := by unfold App; kernel_rfl
theorem out3_1 : Out win x N C (chain 3 cp) r u W 3 [x0, x1, x2] 1 ps d d5 d3 := by unfold Out; kernel_rfl
theorem in3_1 : In win x N C (chain 3 cp) r u W 3 [x0, x1, x2] 1 ps d d5 d3 := by unfold In; kernel_rfl
theorem app3_1 : App win x N C (chain 3 cp) r u W 3 [x0, x1, x2] 1 [p0] d d5 d3 := by unfold App; kernel_rfl
theorem out3_2 : Out win x N C (chain 3 cp) r u W 3 [x0, x1, x2] 2 ps d d5 d3 := by unfold Out; kernel_rfl
theorem in3_2 : In win x N C (chain 3 cp) r u W 3 [x0, x1, x2] 2 ps d d5 d3 := by unfold In; kernel_rfl
theorem app3_2 : App win x N C (chain 3 cp) r u W 3 [x0, x1, x2] 2 [p0, p1] d d5 d3 := by unfold App; kernel_rfl
theorem out3_3 : Out win x N C (chain 3 cp) r u W 3 [x0, x1, x2] 3 ps d d5 d3 := by unfold Out; kernel_rfl
theorem in3_3 : In win x N C (chain 3 cp) r u W 3 [x0, x1, x2] 3 ps d d5 d3 := by unfold In; kernel_rfl
theorem app3_3 : App win x N C (chain 3 cp) r u W 3 [x0, x1, x2] 3 [p0, p1, p2] d d5 d3 := by unfold App; kernel_rfl
theorem out3_4 : Out win x N C (chain 3 cp) r u W 3 [x0, x1, x2] 4 ps d d5 d3 := by unfold Out; kernel_rfl
theorem in3_4 : In win x N C (chain 3 cp) r u W 3 [x0, x1, x2] 4 ps d d5 d3 := by unfold In; kernel_rfl
theorem app3_4 : App win x N C (chain 3 cp) r u W 3 [x0, x1, x2] 4 [p0, p1, p2, p3] d d5 d3 := by unfold App; kernel_rfl
theorem out3_5 : Out win x N C (chain 3 cp) r u W 3 [x0, x1, x2] 5 ps d d5 d3 := by unfold Out; kernel_rfl
theorem in3_5 : In win x N C (chain 3 cp) r u W 3 [x0, x1, x2] 5 ps d d5 d3 := by unfold In; kernel_rfl
theorem app3_5 : App win x N C (chain 3 cp) r u W 3 [x0, x1, x2] 5 [p0, p1, p2, p3, p4] d d5 d3 := by unfold App; kernel_rfl
theorem out3_6 : Out win x N C (chain 3 cp) r u W 3 [x0, x1, x2] 6 ps d d5 d3 := by unfold Out; kernel_rfl
theorem in3_6 : In win x N C (chain 3 cp) r u W 3 [x0, x1, x2] 6 ps d d5 d3 := by unfold In; kernel_rfl
theorem app3_6 : App win x N C (chain 3 cp) r u W 3 [x0, x1, x2] 6 [p0, p1, p2, p3, p4, p5] d d5 d3 := by unfold App; kernel_rfl
theorem out3_7 : Out win x N C (chain 3 cp) r u W 3 [x0, x1, x2] 7 ps d d5 d3 := by unfold Out; kernel_rfl
theorem in3_7 : In win x N C (chain 3 cp) r u W 3 [x0, x1, x2] 7 ps d d5 d3 := by unfold In; kernel_rfl
theorem app3_7 : App win x N C (chain 3 cp) r u W 3 [x0, x1, x2] 7 [p0, p1, p2, p3, p4, p5, p6] d d5 d3 := by unfold App; kernel_rfl
theorem end3_0 : End win x N C (chain 3 cp) r u W 3 [x0, x1, x2] 0 [] d d5 d3 := by unfold End; kernel_rfl
theorem end3_1 : End win x N C (chain 3 cp) r u W 3 [x0, x1, x2] 1 ps d d5 d3 := by unfold End; kernel_rfl
theorem end3_2 : End win x N C (chain 3 cp) r u W 3 [x0, x1, x2] 2 ps d d5 d3 := by unfold End; kernel_rfl
theorem end3_3 : End win x N C (chain 3 cp) r u W 3 [x0, x1, x2] 3 ps d d5 d3 := by unfold End; kernel_rfl
theorem end3_4 : End win x N C (chain 3 cp) r u W 3 [x0, x1, x2] 4 ps d d5 d3 := by unfold End; kernel_rfl
theorem end3_5 : End win x N C (chain 3 cp) r u W 3 [x0, x1, x2] 5 ps d d5 d3 := by unfold End; kernel_rfl
theorem end3_6 : End win x N C (chain 3 cp) r u W 3 [x0, x1, x2] 6 ps d d5 d3 := by unfold End; kernel_rfl
theorem end3_7 : End win x N C (chain 3 cp) r u W 3 [x0, x1, x2] 7 ps d d5 d3 := by unfold End; kernel_rfl
theorem end3_8 : End win x N C (chain 3 cp) r u W 3 [x0, x1, x2] 8 ps d d5 d3 := by unfold End; kernel_rfl
end Go.Proofs.YtjoelgicffojcaaGreatDoor.wb
