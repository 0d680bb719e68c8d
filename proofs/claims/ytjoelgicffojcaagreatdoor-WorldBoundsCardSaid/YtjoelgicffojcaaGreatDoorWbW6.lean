/-
  WorldBounds: the nodes, a chain of 6.
-/
import Derived.KernelRfl
import Derived.Test.YtjoelgicffojcaaGreatDoorWbWSt
namespace Go.Proofs.YtjoelgicffojcaaGreatDoor.wb
open Go.Eng
set_option maxRecDepth 1000000
set_option linter.unusedVariables false
set_option linter.unusedSimpArgs false
set_option linter.unusedSectionVars false
variable (win : CB) (x cp : Nat) (N C r u W x0 x1 x2 x3 x4 x5 : Int) (d d5 d3 : Nat → Value) (ps : List Value) (p0 p1 p2 p3 p4 p5 p6 : Value)
theorem out6_0 : Out win x N C (chain 6 cp) r u W 6 [x0, x1, x2, x3, x4, x5] 0 [] d d5 d3 := by unfold Out; kernel_rfl
theorem in6_0 : In win x N C (chain 6 cp) r u W 6 [x0, x1, x2, x3, x4, x5] 0 [] d d5 d3 := by unfold In; kernel_rfl
theorem app6_0 : App win x N C (chain 6 cp) r u W 6 [x0, x1, x2, x3, x4, x5] 0 [] d d5 d3 := by unfold App; kernel_rfl
theorem out6_1 : Out win x N C (chain 6 cp) r u W 6 [x0, x1, x2, x3, x4, x5] 1 ps d d5 d3 := by unfold Out; kernel_rfl
theorem in6_1 : In win x N C (chain 6 cp) r u W 6 [x0, x1, x2, x3, x4, x5] 1 ps d d5 d3 := by unfold In; kernel_rfl
theorem app6_1 : App win x N C (chain 6 cp) r u W 6 [x0, x1, x2, x3, x4, x5] 1 [p0] d d5 d3 := by unfold App; kernel_rfl
theorem out6_2 : Out win x N C (chain 6 cp) r u W 6 [x0, x1, x2, x3, x4, x5] 2 ps d d5 d3 := by unfold Out; kernel_rfl
theorem in6_2 : In win x N C (chain 6 cp) r u W 6 [x0, x1, x2, x3, x4, x5] 2 ps d d5 d3 := by unfold In; kernel_rfl
theorem app6_2 : App win x N C (chain 6 cp) r u W 6 [x0, x1, x2, x3, x4, x5] 2 [p0, p1] d d5 d3 := by unfold App; kernel_rfl
theorem out6_3 : Out win x N C (chain 6 cp) r u W 6 [x0, x1, x2, x3, x4, x5] 3 ps d d5 d3 := by unfold Out; kernel_rfl
theorem in6_3 : In win x N C (chain 6 cp) r u W 6 [x0, x1, x2, x3, x4, x5] 3 ps d d5 d3 := by unfold In; kernel_rfl
theorem app6_3 : App win x N C (chain 6 cp) r u W 6 [x0, x1, x2, x3, x4, x5] 3 [p0, p1, p2] d d5 d3 := by unfold App; kernel_rfl
theorem out6_4 : Out win x N C (chain 6 cp) r u W 6 [x0, x1, x2, x3, x4, x5] 4 ps d d5 d3 := by unfold Out; kernel_rfl
theorem in6_4 : In win x N C (chain 6 cp) r u W 6 [x0, x1, x2, x3, x4, x5] 4 ps d d5 d3 := by unfold In; kernel_rfl
theorem app6_4 : App win x N C (chain 6 cp) r u W 6 [x0, x1, x2, x3, x4, x5] 4 [p0, p1, p2, p3] d d5 d3 := by unfold App; kernel_rfl
theorem out6_5 : Out win x N C (chain 6 cp) r u W 6 [x0, x1, x2, x3, x4, x5] 5 ps d d5 d3 := by unfold Out; kernel_rfl
theorem in6_5 : In win x N C (chain 6 cp) r u W 6 [x0, x1, x2, x3, x4, x5] 5 ps d d5 d3 := by unfold In; kernel_rfl
theorem app6_5 : App win x N C (chain 6 cp) r u W 6 [x0, x1, x2, x3, x4, x5] 5 [p0, p1, p2, p3, p4] d d5 d3 := by unfold App; kernel_rfl
theorem out6_6 : Out win x N C (chain 6 cp) r u W 6 [x0, x1, x2, x3, x4, x5] 6 ps d d5 d3 := by unfold Out; kernel_rfl
theorem in6_6 : In win x N C (chain 6 cp) r u W 6 [x0, x1, x2, x3, x4, x5] 6 ps d d5 d3 := by unfold In; kernel_rfl
theorem app6_6 : App win x N C (chain 6 cp) r u W 6 [x0, x1, x2, x3, x4, x5] 6 [p0, p1, p2, p3, p4, p5] d d5 d3 := by unfold App; kernel_rfl
theorem out6_7 : Out win x N C (chain 6 cp) r u W 6 [x0, x1, x2, x3, x4, x5] 7 ps d d5 d3 := by unfold Out; kernel_rfl
theorem in6_7 : In win x N C (chain 6 cp) r u W 6 [x0, x1, x2, x3, x4, x5] 7 ps d d5 d3 := by unfold In; kernel_rfl
theorem app6_7 : App win x N C (chain 6 cp) r u W 6 [x0, x1, x2, x3, x4, x5] 7 [p0, p1, p2, p3, p4, p5, p6] d d5 d3 := by unfold App; kernel_rfl
theorem end6_0 : End win x N C (chain 6 cp) r u W 6 [x0, x1, x2, x3, x4, x5] 0 [] d d5 d3 := by unfold End; kernel_rfl
theorem end6_1 : End win x N C (chain 6 cp) r u W 6 [x0, x1, x2, x3, x4, x5] 1 ps d d5 d3 := by unfold End; kernel_rfl
theorem end6_2 : End win x N C (chain 6 cp) r u W 6 [x0, x1, x2, x3, x4, x5] 2 ps d d5 d3 := by unfold End; kernel_rfl
theorem end6_3 : End win x N C (chain 6 cp) r u W 6 [x0, x1, x2, x3, x4, x5] 3 ps d d5 d3 := by unfold End; kernel_rfl
theorem end6_4 : End win x N C (chain 6 cp) r u W 6 [x0, x1, x2, x3, x4, x5] 4 ps d d5 d3 := by unfold End; kernel_rfl
theorem end6_5 : End win x N C (chain 6 cp) r u W 6 [x0, x1, x2, x3, x4, x5] 5 ps d d5 d3 := by unfold End; kernel_rfl
theorem end6_6 : End win x N C (chain 6 cp) r u W 6 [x0, x1, x2, x3, x4, x5] 6 ps d d5 d3 := by unfold End; kernel_rfl
theorem end6_7 : End win x N C (chain 6 cp) r u W 6 [x0, x1, x2, x3, x4, x5] 7 ps d d5 d3 := by unfold End; kernel_rfl
theorem end6_8 : End win x N C (chain 6 cp) r u W 6 [x0, x1, x2, x3, x4, x5] 8 ps d d5 d3 := by unfold End; kernel_rfl
end Go.Proofs.YtjoelgicffojcaaGreatDoor.wb
