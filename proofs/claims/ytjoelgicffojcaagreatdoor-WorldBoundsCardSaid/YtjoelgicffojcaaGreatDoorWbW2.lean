/-
  WorldBounds: the nodes, a chain of 2.
-/
import Derived.KernelRfl
import Derived.Test.YtjoelgicffojcaaGreatDoorWbWSt
namespace Go.Proofs.YtjoelgicffojcaaGreatDoor.wb
open Go.Eng
set_option maxRecDepth 1000000
set_option linter.unusedVariables false
set_option linter.unusedSimpArgs false
set_option linter.unusedSectionVars false
variable (win : CB) (x cp : Nat) (N C r u W x0 x1 : Int) (d d5 d3 : Nat → Value) (ps : List Value) (p0 p1 p2 p3 p4 p5 p6 : Value)
theorem out2_0 : Out win x N C (chain 2 cp) r u W 2 [x0, x1] 0 [] d d5 d3 := by unfold Out; kernel_rfl
theorem in2_0 : In win x N C (chain 2 cp) r u W 2 [x0, x1] 0 [] d d5 d3 := by unfold In; kernel_rfl
theorem app2_0 : App win x N C (chain 2 cp) r u W 2 [x0, x1] 0 [] d d5 d3 := by unfold App; kernel_rfl
theorem out2_1 : Out win x N C (chain 2 cp) r u W 2 [x0, x1] 1 ps d d5 d3 := by unfold Out; kernel_rfl
theorem in2_1 : In win x N C (chain 2 cp) r u W 2 [x0, x1] 1 ps d d5 d3 := by unfold In; kernel_rfl
theorem app2_1 : App win x N C (chain 2 cp) r u W 2 [x0, x1] 1 [p0] d d5 d3 := by unfold App; kernel_rfl
theorem out2_2 : Out win x N C (chain 2 cp) r u W 2 [x0, x1] 2 ps d d5 d3 := by unfold Out; kernel_rfl
theorem in2_2 : In win x N C (chain 2 cp) r u W 2 [x0, x1] 2 ps d d5 d3 := by unfold In; kernel_rfl
theorem app2_2 : App win x N C (chain 2 cp) r u W 2 [x0, x1] 2 [p0, p1] d d5 d3 := by unfold App; kernel_rfl
theorem out2_3 : Out win x N C (chain 2 cp) r u W 2 [x0, x1] 3 ps d d5 d3 := by unfold Out; kernel_rfl
theorem in2_3 : In win x N C (chain 2 cp) r u W 2 [x0, x1] 3 ps d d5 d3 := by unfold In; kernel_rfl
theorem app2_3 : App win x N C (chain 2 cp) r u W 2 [x0, x1] 3 [p0, p1, p2] d d5 d3 := by unfold App; kernel_rfl
theorem out2_4 : Out win x N C (chain 2 cp) r u W 2 [x0, x1] 4 ps d d5 d3 := by unfold Out; kernel_rfl
theorem in2_4 : In win x N C (chain 2 cp) r u W 2 [x0, x1] 4 ps d d5 d3 := by unfold In; kernel_rfl
theorem app2_4 : App win x N C (chain 2 cp) r u W 2 [x0, x1] 4 [p0, p1, p2, p3] d d5 d3 := by unfold App; kernel_rfl
theorem out2_5 : Out win x N C (chain 2 cp) r u W 2 [x0, x1] 5 ps d d5 d3 := by unfold Out; kernel_rfl
theorem in2_5 : In win x N C (chain 2 cp) r u W 2 [x0, x1] 5 ps d d5 d3 := by unfold In; kernel_rfl
theorem app2_5 : App win x N C (chain 2 cp) r u W 2 [x0, x1] 5 [p0, p1, p2, p3, p4] d d5 d3 := by unfold App; kernel_rfl
theorem out2_6 : Out win x N C (chain 2 cp) r u W 2 [x0, x1] 6 ps d d5 d3 := by unfold Out; kernel_rfl
theorem in2_6 : In win x N C (chain 2 cp) r u W 2 [x0, x1] 6 ps d d5 d3 := by unfold In; kernel_rfl
theorem app2_6 : App win x N C (chain 2 cp) r u W 2 [x0, x1] 6 [p0, p1, p2, p3, p4, p5] d d5 d3 := by unfold App; kernel_rfl
theorem out2_7 : Out win x N C (chain 2 cp) r u W 2 [x0, x1] 7 ps d d5 d3 := by unfold Out; kernel_rfl
theorem in2_7 : In win x N C (chain 2 cp) r u W 2 [x0, x1] 7 ps d d5 d3 := by unfold In; kernel_rfl
theorem app2_7 : App win x N C (chain 2 cp) r u W 2 [x0, x1] 7 [p0, p1, p2, p3, p4, p5, p6] d d5 d3 := by unfold App; kernel_rfl
theorem end2_0 : End win x N C (chain 2 cp) r u W 2 [x0, x1] 0 [] d d5 d3 := by unfold End; kernel_rfl
theorem end2_1 : End win x N C (chain 2 cp) r u W 2 [x0, x1] 1 ps d d5 d3 := by unfold End; kernel_rfl
theorem end2_2 : End win x N C (chain 2 cp) r u W 2 [x0, x1] 2 ps d d5 d3 := by unfold End; kernel_rfl
theorem end2_3 : End win x N C (chain 2 cp) r u W 2 [x0, x1] 3 ps d d5 d3 := by unfold End; kernel_rfl
theorem end2_4 : End win x N C (chain 2 cp) r u W 2 [x0, x1] 4 ps d d5 d3 := by unfold End; kernel_rfl
theorem end2_5 : End win x N C (chain 2 cp) r u W 2 [x0, x1] 5 ps d d5 d3 := by unfold End; kernel_rfl
theorem end2_6 : End win x N C (chain 2 cp) r u W 2 [x0, x1] 6 ps d d5 d3 := by unfold End; kernel_rfl
theorem end2_7 : End win x N C (chain 2 cp) r u W 2 [x0, x1] 7 ps d d5 d3 := by unfold End; kernel_rfl
theorem end2_8 : End win x N C (chain 2 cp) r u W 2 [x0, x1] 8 ps d d5 d3 := by unfold End; kernel_rfl
end Go.Proofs.YtjoelgicffojcaaGreatDoor.wb
