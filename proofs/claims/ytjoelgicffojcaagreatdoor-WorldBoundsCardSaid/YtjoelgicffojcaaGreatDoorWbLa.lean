/-
  WorldBounds: the clients, a chain of 1.
-/
import Derived.KernelRfl
import Derived.Test.YtjoelgicffojcaaGreatDoorWbWSt
namespace Go.Proofs.YtjoelgicffojcaaGreatDoor.wb
open Go.Eng
set_option maxRecDepth 1000000
set_option linter.unusedVariables false
set_option linter.unusedSimpArgs false
set_option linter.unusedSectionVars false
variable (win : CB) (x cp : Nat) (N C r u W x0 : Int) (d d5 d3 : Nat → Value) (pv p0 p1 p2 p3 p4 p5 p6 p7 p8 p9 p10 p11 p12 p13 p14 : Value) (qs : List Value)
theorem cli1_0 : Cli win x N C (chain 1 cp) r u W 1 [x0] pv 0 [] d d5 d3 (vp (szL 0 + 5) 0) := by unfold Cli; kernel_rfl
theorem cli1_1 : Cli win x N C (chain 1 cp) r u W 1 [x0] pv 1 [p0] d d5 d3 (vp (szL 1 + 5) 0) := by unfold Cli; kernel_rfl
theorem cli1_2 : Cli win x N C (chain 1 cp) r u W 1 [x0] pv 2 [p0, p1] d d5 d3 (vp (szL 2 + 5) 0) := by unfold Cli; kernel_rfl
theorem cli1_3 : Cli win x N C (chain 1 cp) r u W 1 [x0] pv 3 [p0, p1, p2] d d5 d3 (vp (szL 3 + 5) 0) := by unfold Cli; kernel_rfl
theorem cli1_4 : Cli win x N C (chain 1 cp) r u W 1 [x0] pv 4 [p0, p1, p2, p3] d d5 d3 (vp (szL 4 + 5) 0) := by unfold Cli; kernel_rfl
theorem cli1_5 : Cli win x N C (chain 1 cp) r u W 1 [x0] pv 5 [p0, p1, p2, p3, p4] d d5 d3 (vp (szL 5 + 5) 0) := by unfold Cli; kernel_rfl
theorem cli1_6 : Cli win x N C (chain 1 cp) r u W 1 [x0] pv 6 [p0, p1, p2, p3, p4, p5] d d5 d3 (vp (szL 6 + 5) 0) := by unfold Cli; kernel_rfl
theorem cli1_7 : Cli win x N C (chain 1 cp) r u W 1 [x0] pv 7 [p0, p1, p2, p3, p4, p5, p6] d d5 d3 (vp (szL 7 + 5) 0) := by unfold Cli; kernel_rfl
theorem cli1_8 : Cli win x N C (chain 1 cp) r u W 1 [x0] pv 8 [p0, p1, p2, p3, p4, p5, p6, p7] d d5 d3 (vp (szL 8 + 5) 0) := by unfold Cli; kernel_rfl
theorem cli1_9 : Cli win x N C (chain 1 cp) r u W 1 [x0] pv 9 [p0, p1, p2, p3, p4, p5, p6, p7, p8] d d5 d3 (vp (szL 9 + 5) 0) := by unfold Cli; kernel_rfl
theorem cli1_10 : Cli win x N C (chain 1 cp) r u W 1 [x0] pv 10 [p0, p1, p2, p3, p4, p5, p6, p7, p8, p9] d d5 d3 (vp (szL 10 + 5) 0) := by unfold Cli; kernel_rfl
theorem cli1_11 : Cli win x N C (chain 1 cp) r u W 1 [x0] pv 11 [p0, p1, p2, p3, p4, p5, p6, p7, p8, p9, p10] d d5 d3 (vp (szL 11 + 5) 0) := by unfold Cli; kernel_rfl
theorem cli1_12 : Cli win x N C (chain 1 cp) r u W 1 [x0] pv 12 [p0, p1, p2, p3, p4, p5, p6, p7, p8, p9, p10, p11] d d5 d3 (vp (szL 12 + 5) 0) := by unfold Cli; kernel_rfl
theorem cli1_13 : Cli win x N C (chain 1 cp) r u W 1 [x0] pv 13 [p0, p1, p2, p3, p4, p5, p6, p7, p8, p9, p10, p11, p12] d d5 d3 (vp (szL 13 + 5) 0) := by unfold Cli; kernel_rfl
theorem cli1_14 : Cli win x N C (chain 1 cp) r u W 1 [x0] pv 14 [p0, p1, p2, p3, p4, p5, p6, p7, p8, p9, p10, p11, p12, p13] d d5 d3 (vp (szL 14 + 5) 0) := by unfold Cli; kernel_rfl
theorem cli1_15 : Cli win x N C (chain 1 cp) r u W 1 [x0] pv 15 [p0, p1, p2, p3, p4, p5, p6, p7, p8, p9, p10, p11, p12, p13, p14] d d5 d3 (vp (szL 15 + 5) 0) := by unfold Cli; kernel_rfl
theorem fin1_0 : Fin' win x N C (chain 1 cp) r u W 1 [x0] pv 0 [] d d5 d3 := by unfold Fin'; kernel_rfl
theorem fin1_1 : Fin' win x N C (chain 1 cp) r u W 1 [x0] pv 1 qs d d5 d3 := by unfold Fin'; kernel_rfl
theorem fin1_2 : Fin' win x N C (chain 1 cp) r u W 1 [x0] pv 2 qs d d5 d3 := by unfold Fin'; kernel_rfl
theorem fin1_3 : Fin' win x N C (chain 1 cp) r u W 1 [x0] pv 3 qs d d5 d3 := by unfold Fin'; kernel_rfl
theorem fin1_4 : Fin' win x N C (chain 1 cp) r u W 1 [x0] pv 4 qs d d5 d3 := by unfold Fin'; kernel_rfl
theorem fin1_5 : Fin' win x N C (chain 1 cp) r u W 1 [x0] pv 5 qs d d5 d3 := by unfold Fin'; kernel_rfl
theorem fin1_6 : Fin' win x N C (chain 1 cp) r u W 1 [x0] pv 6 qs d d5 d3 := by unfold Fin'; kernel_rfl
theorem fin1_7 : Fin' win x N C (chain 1 cp) r u W 1 [x0] pv 7 qs d d5 d3 := by unfold Fin'; kernel_rfl
theorem fin1_8 : Fin' win x N C (chain 1 cp) r u W 1 [x0] pv 8 qs d d5 d3 := by unfold Fin'; kernel_rfl
theorem fin1_9 : Fin' win x N C (chain 1 cp) r u W 1 [x0] pv 9 qs d d5 d3 := by unfold Fin'; kernel_rfl
theorem fin1_10 : Fin' win x N C (chain 1 cp) r u W 1 [x0] pv 10 qs d d5 d3 := by unfold Fin'; kernel_rfl
theorem fin1_11 : Fin' win x N C (chain 1 cp) r u W 1 [x0] pv 11 qs d d5 d3 := by unfold Fin'; kernel_rfl
theorem fin1_12 : Fin' win x N C (chain 1 cp) r u W 1 [x0] pv 12 qs d d5 d3 := by unfold Fin'; kernel_rfl
theorem fin1_13 : Fin' win x N C (chain 1 cp) r u W 1 [x0] pv 13 qs d d5 d3 := by unfold Fin'; kernel_rfl
theorem fin1_14 : Fin' win x N C (chain 1 cp) r u W 1 [x0] pv 14 qs d d5 d3 := by unfold Fin'; kernel_rfl
theorem fin1_15 : Fin' win x N C (chain 1 cp) r u W 1 [x0] pv 15 qs d d5 d3 := by unfold Fin'; kernel_rfl
theorem fin1_16 : Fin' win x N C (chain 1 cp) r u W 1 [x0] pv 16 qs d d5 d3 := by unfold Fin'; kernel_rfl
end Go.Proofs.YtjoelgicffojcaaGreatDoor.wb
namespace Go.Proofs.YtjoelgicffojcaaGreatDoor.wb
open Go.Eng
set_option maxRecDepth 1000000
set_option linter.unusedVariables false
set_option linter.unusedSimpArgs false
set_option linter.unusedSectionVars false
variable (win : CB) (x cp : Nat) (N C r u W x0 x1 : Int) (d d5 d3 : Nat → Value) (pv p0 p1 p2 p3 p4 p5 p6 p7 p8 p9 p10 p11 p12 p13 p14 : Value) (qs : List Value)
theorem cli2_0 : Cli win x N C (chain 2 cp) r u W 2 [x0, x1] pv 0 [] d d5 d3 (vp (szL 0 + 5) 0) := by unfold Cli; kernel_rfl
theorem cli2_1 : Cli win x N C (chain 2 cp) r u W 2 [x0, x1] pv 1 [p0] d d5 d3 (vp (szL 1 + 5) 0) := by unfold Cli; kernel_rfl
theorem cli2_2 : Cli win x N C (chain 2 cp) r u W 2 [x0, x1] pv 2 [p0, p1] d d5 d3 (vp (szL 2 + 5) 0) := by unfold Cli; kernel_rfl
theorem cli2_3 : Cli win x N C (chain 2 cp) r u W 2 [x0, x1] pv 3 [p0, p1, p2] d d5 d3 (vp (szL 3 + 5) 0) := by unfold Cli; kernel_rfl
theorem cli2_4 : Cli win x N C (chain 2 cp) r u W 2 [x0, x1] pv 4 [p0, p1, p2, p3] d d5 d3 (vp (szL 4 + 5) 0) := by unfold Cli; kernel_rfl
theorem cli2_5 : Cli win x N C (chain 2 cp) r u W 2 [x0, x1] pv 5 [p0, p1, p2, p3, p4] d d5 d3 (vp (szL 5 + 5) 0) := by unfold Cli; kernel_rfl
theorem cli2_6 : Cli win x N C (chain 2 cp) r u W 2 [x0, x1] pv 6 [p0, p1, p2, p3, p4, p5] d d5 d3 (vp (szL 6 + 5) 0) := by unfold Cli; kernel_rfl
theorem cli2_7 : Cli win x N C (chain 2 cp) r u W 2 [x0, x1] pv 7 [p0, p1, p2, p3, p4, p5, p6] d d5 d3 (vp (szL 7 + 5) 0) := by unfold Cli; kernel_rfl
theorem cli2_8 : Cli win x N C (chain 2 cp) r u W 2 [x0, x1] pv 8 [p0, p1, p2, p3, p4, p5, p6, p7] d d5 d3 (vp (szL 8 + 5) 0) := by unfold Cli; kernel_rfl
theorem cli2_9 : Cli win x N C (chain 2 cp) r u W 2 [x0, x1] pv 9 [p0, p1, p2, p3, p4, p5, p6, p7, p8] d d5 d3 (vp (szL 9 + 5) 0) := by unfold Cli; kernel_rfl
theorem cli2_10 : Cli win x N C (chain 2 cp) r u W 2 [x0, x1] pv 10 [p0, p1, p2, p3, p4, p5, p6, p7, p8, p9] d d5 d3 (vp (szL 10 + 5) 0) := by unfold Cli; kernel_rfl
theorem cli2_11 : Cli win x N C (chain 2 cp) r u W 2 [x0, x1] pv 11 [p0, p1, p2, p3, p4, p5, p6, p7, p8, p9, p10] d d5 d3 (vp (szL 11 + 5) 0) := by unfold Cli; kernel_rfl
theorem cli2_12 : Cli win x N C (chain 2 cp) r u W 2 [x0, x1] pv 12 [p0, p1, p2, p3, p4, p5, p6, p7, p8, p9, p10, p11] d d5 d3 (vp (szL 12 + 5) 0) := by unfold Cli; kernel_rfl
theorem cli2_13 : Cli win x N C (chain 2 cp) r u W 2 [x0, x1] pv 13 [p0, p1, p2, p3, p4, p5, p6, p7, p8, p9, p10, p11, p12] d d5 d3 (vp (szL 13 + 5) 0) := by unfold Cli; kernel_rfl
theorem cli2_14 : Cli win x N C (chain 2 cp) r u W 2 [x0, x1] pv 14 [p0, p1, p2, p3, p4, p5, p6, p7, p8, p9, p10, p11, p12, p13] d d5 d3 (vp (szL 14 + 5) 0) := by unfold Cli; kernel_rfl
theorem cli2_15 : Cli win x N C (chain 2 cp) r u W 2 [x0, x1] pv 15 [p0, p1, p2, p3, p4, p5, p6, p7, p8, p9, p10, p11, p12, p13, p14] d d5 d3 (vp (szL 15 + 5) 0) := by unfold Cli; kernel_rfl
theorem fin2_0 : Fin' win x N C (chain 2 cp) r u W 2 [x0, x1] pv 0 [] d d5 d3 := by unfold Fin'; kernel_rfl
theorem fin2_1 : Fin' win x N C (chain 2 cp) r u W 2 [x0, x1] pv 1 qs d d5 d3 := by unfold Fin'; kernel_rfl
theorem fin2_2 : Fin' win x N C (chain 2 cp) r u W 2 [x0, x1] pv 2 qs d d5 d3 := by unfold Fin'; kernel_rfl
theorem fin2_3 : Fin' win x N C (chain 2 cp) r u W 2 [x0, x1] pv 3 qs d d5 d3 := by unfold Fin'; kernel_rfl
theorem fin2_4 : Fin' win x N C (chain 2 cp) r u W 2 [x0, x1] pv 4 qs d d5 d3 := by unfold Fin'; kernel_rfl
theorem fin2_5 : Fin' win x N C (chain 2 cp) r u W 2 [x0, x1] pv 5 qs d d5 d3 := by unfold Fin'; kernel_rfl
theorem fin2_6 : Fin' win x N C (chain 2 cp) r u W 2 [x0, x1] pv 6 qs d d5 d3 := by unfold Fin'; kernel_rfl
theorem fin2_7 : Fin' win x N C (chain 2 cp) r u W 2 [x0, x1] pv 7 qs d d5 d3 := by unfold Fin'; kernel_rfl
theorem fin2_8 : Fin' win x N C (chain 2 cp) r u W 2 [x0, x1] pv 8 qs d d5 d3 := by unfold Fin'; kernel_rfl
theorem fin2_9 : Fin' win x N C (chain 2 cp) r u W 2 [x0, x1] pv 9 qs d d5 d3 := by unfold Fin'; kernel_rfl
theorem fin2_10 : Fin' win x N C (chain 2 cp) r u W 2 [x0, x1] pv 10 qs d d5 d3 := by unfold Fin'; kernel_rfl
theorem fin2_11 : Fin' win x N C (chain 2 cp) r u W 2 [x0, x1] pv 11 qs d d5 d3 := by unfold Fin'; kernel_rfl
theorem fin2_12 : Fin' win x N C (chain 2 cp) r u W 2 [x0, x1] pv 12 qs d d5 d3 := by unfold Fin'; kernel_rfl
theorem fin2_13 : Fin' win x N C (chain 2 cp) r u W 2 [x0, x1] pv 13 qs d d5 d3 := by unfold Fin'; kernel_rfl
theorem fin2_14 : Fin' win x N C (chain 2 cp) r u W 2 [x0, x1] pv 14 qs d d5 d3 := by unfold Fin'; kernel_rfl
theorem fin2_15 : Fin' win x N C (chain 2 cp) r u W 2 [x0, x1] pv 15 qs d d5 d3 := by unfold Fin'; kernel_rfl
theorem fin2_16 : Fin' win x N C (chain 2 cp) r u W 2 [x0, x1] pv 16 qs d d5 d3 := by unfold Fin'; kernel_rfl
end Go.Proofs.YtjoelgicffojcaaGreatDoor.wb
namespace Go.Proofs.YtjoelgicffojcaaGreatDoor.wb
open Go.Eng
set_option maxRecDepth 1000000
set_option linter.unusedVariables false
set_option linter.unusedSimpArgs false
set_option linter.unusedSectionVars false
variable (win : CB) (x cp : Nat) (N C r u W x0 x1 x2 : Int) (d d5 d3 : Nat → Value) (pv p0 p1 p2 p3 p4 p5 p6 p7 p8 p9 p10 p11 p12 p13 p14 : Value) (qs : List Value)
theorem cli3_0 : Cli win x N C (chain 3 cp) r u W 3 [x0, x1, x2] pv 0 [] d d5 d3 (vp (szL 0 + 5) 0) := by unfold Cli; kernel_rfl
theorem cli3_1 : Cli win x N C (chain 3 cp) r u W 3 [x0, x1, x2] pv 1 [p0] d d5 d3 (vp (szL 1 + 5) 0) := by unfold Cli; kernel_rfl
theorem cli3_2 : Cli win x N C (chain 3 cp) r u W 3 [x0, x1, x2] pv 2 [p0, p1] d d5 d3 (vp (szL 2 + 5) 0) := by unfold Cli; kernel_rfl
theorem cli3_3 : Cli win x N C (chain 3 cp) r u W 3 [x0, x1, x2] pv 3 [p0, p1, p2] d d5 d3 (vp (szL 3 + 5) 0) := by unfold Cli; kernel_rfl
theorem cli3_4 : Cli win x N C (chain 3 cp) r u W 3 [x0, x1, x2] pv 4 [p0, p1, p2, p3] d d5 d3 (vp (szL 4 + 5) 0) := by unfold Cli; kernel_rfl
theorem cli3_5 : Cli win x N C (chain 3 cp) r u W 3 [x0, x1, x2] pv 5 [p0, p1, p2, p3, p4] d d5 d3 (vp (szL 5 + 5) 0) := by unfold Cli; kernel_rfl
theorem cli3_6 : Cli win x N C (chain 3 cp) r u W 3 [x0, x1, x2] pv 6 [p0, p1, p2, p3, p4, p5] d d5 d3 (vp (szL 6 + 5) 0) := by unfold Cli; kernel_rfl
theorem cli3_7 : Cli win x N C (chain 3 cp) r u W 3 [x0, x1, x2] pv 7 [p0, p1, p2, p3, p4, p5, p6] d d5 d3 (vp (szL 7 + 5) 0) := by unfold Cli; kernel_rfl
theorem cli3_8 : Cli win x N C (chain 3 cp) r u W 3 [x0, x1, x2] pv 8 [p0, p1, p2, p3, p4, p5, p6, p7] d d5 d3 (vp (szL 8 + 5) 0) := by unfold Cli; kernel_rfl
theorem cli3_9 : Cli win x N C (chain 3 cp) r u W 3 [x0, x1, x2] pv 9 [p0, p1, p2, p3, p4, p5, p6, p7, p8] d d5 d3 (vp (szL 9 + 5) 0) := by unfold Cli; kernel_rfl
theorem cli3_10 : Cli win x N C (chain 3 cp) r u W 3 [x0, x1, x2] pv 10 [p0, p1, p2, p3, p4, p5, p6, p7, p8, p9] d d5 d3 (vp (szL 10 + 5) 0) := by unfold Cli; kernel_rfl
theorem cli3_11 : Cli win x N C (chain 3 cp) r u W 3 [x0, x1, x2] pv 11 [p0, p1, p2, p3, p4, p5, p6, p7, p8, p9, p10] d d5 d3 (vp (szL 11 + 5) 0) := by unfold Cli; kernel_rfl
theorem cli3_12 : Cli win x N C (chain 3 cp) r u W 3 [x0, x1, x2] pv 12 [p0, p1, p2, p3, p4, p5, p6, p7, p8, p9, p10, p11] d d5 d3 (vp (szL 12 + 5) 0) := by unfold Cli; kernel_rfl
theorem cli3_13 : Cli win x N C (chain 3 cp) r u W 3 [x0, x1, x2] pv 13 [p0, p1, p2, p3, p4, p5, p6, p7, p8, p9, p10, p11, p12] d d5 d3 (vp (szL 13 + 5) 0) := by unfold Cli; kernel_rfl
theorem cli3_14 : Cli win x N C (chain 3 cp) r u W 3 [x0, x1, x2] pv 14 [p0, p1, p2, p3, p4, p5, p6, p7, p8, p9, p10, p11, p12, p13] d d5 d3 (vp (szL 14 + 5) 0) := by unfold Cli; kernel_rfl
theorem cli3_15 : Cli win x N C (chain 3 cp) r u W 3 [x0, x1, x2] pv 15 [p0, p1, p2, p3, p4, p5, p6, p7, p8, p9, p10, p11, p12, p13, p14] d d5 d3 (vp (szL 15 + 5) 0) := by unfold Cli; kernel_rfl
theorem fin3_0 : Fin' win x N C (chain 3 cp) r u W 3 [x0, x1, x2] pv 0 [] d d5 d3 := by unfold Fin'; kernel_rfl
theorem fin3_1 : Fin' win x N C (chain 3 cp) r u W 3 [x0, x1, x2] pv 1 qs d d5 d3 := by unfold Fin'; kernel_rfl
theorem fin3_2 : Fin' win x N C (chain 3 cp) r u W 3 [x0, x1, x2] pv 2 qs d d5 d3 := by unfold Fin'; kernel_rfl
theorem fin3_3 : Fin' win x N C (chain 3 cp) r u W 3 [x0, x1, x2] pv 3 qs d d5 d3 := by unfold Fin'; kernel_rfl
theorem fin3_4 : Fin' win x N C (chain 3 cp) r u W 3 [x0, x1, x2] pv 4 qs d d5 d3 := by unfold Fin'; kernel_rfl
theorem fin3_5 : Fin' win x N C (chain 3 cp) r u W 3 [x0, x1, x2] pv 5 qs d d5 d3 := by unfold Fin'; kernel_rfl
theorem fin3_6 : Fin' win x N C (chain 3 cp) r u W 3 [x0, x1, x2] pv 6 qs d d5 d3 := by unfold Fin'; kernel_rfl
theorem fin3_7 : Fin' win x N C (chain 3 cp) r u W 3 [x0, x1, x2] pv 7 qs d d5 d3 := by unfold Fin'; kernel_rfl
theorem fin3_8 : Fin' win x N C (chain 3 cp) r u W 3 [x0, x1, x2] pv 8 qs d d5 d3 := by unfold Fin'; kernel_rfl
theorem fin3_9 : Fin' win x N C (chain 3 cp) r u W 3 [x0, x1, x2] pv 9 qs d d5 d3 := by unfold Fin'; kernel_rfl
theorem fin3_10 : Fin' win x N C (chain 3 cp) r u W 3 [x0, x1, x2] pv 10 qs d d5 d3 := by unfold Fin'; kernel_rfl
theorem fin3_11 : Fin' win x N C (chain 3 cp) r u W 3 [x0, x1, x2] pv 11 qs d d5 d3 := by unfold Fin'; kernel_rfl
theorem fin3_12 : Fin' win x N C (chain 3 cp) r u W 3 [x0, x1, x2] pv 12 qs d d5 d3 := by unfold Fin'; kernel_rfl
theorem fin3_13 : Fin' win x N C (chain 3 cp) r u W 3 [x0, x1, x2] pv 13 qs d d5 d3 := by unfold Fin'; kernel_rfl
theorem fin3_14 : Fin' win x N C (chain 3 cp) r u W 3 [x0, x1, x2] pv 14 qs d d5 d3 := by unfold Fin'; kernel_rfl
theorem fin3_15 : Fin' win x N C (chain 3 cp) r u W 3 [x0, x1, x2] pv 15 qs d d5 d3 := by unfold Fin'; kernel_rfl
theorem fin3_16 : Fin' win x N C (chain 3 cp) r u W 3 [x0, x1, x2] pv 16 qs d d5 d3 := by unfold Fin'; kernel_rfl
end Go.Proofs.YtjoelgicffojcaaGreatDoor.wb
namespace Go.Proofs.YtjoelgicffojcaaGreatDoor.wb
open Go.Eng
set_option maxRecDepth 1000000
set_option linter.unusedVariables false
set_option linter.unusedSimpArgs false
set_option linter.unusedSectionVars false
variable (win : CB) (x cp : Nat) (N C r u W x0 x1 x2 x3 : Int) (d d5 d3 : Nat → Value) (pv p0 p1 p2 p3 p4 p5 p6 p7 p8 p9 p10 p11 p12 p13 p14 : Value) (qs : List Value)
theorem cli4_0 : Cli win x N C (chain 4 cp) r u W 4 [x0, x1, x2, x3] pv 0 [] d d5 d3 (vp (szL 0 + 5) 0) := by unfold Cli; kernel_rfl
theorem cli4_1 : Cli win x N C (chain 4 cp) r u W 4 [x0, x1, x2, x3] pv 1 [p0] d d5 d3 (vp (szL 1 + 5) 0) := by unfold Cli; kernel_rfl
theorem cli4_2 : Cli win x N C (chain 4 cp) r u W 4 [x0, x1, x2, x3] pv 2 [p0, p1] d d5 d3 (vp (szL 2 + 5) 0) := by unfold Cli; kernel_rfl
theorem cli4_3 : Cli win x N C (chain 4 cp) r u W 4 [x0, x1, x2, x3] pv 3 [p0, p1, p2] d d5 d3 (vp (szL 3 + 5) 0) := by unfold Cli; kernel_rfl
theorem cli4_4 : Cli win x N C (chain 4 cp) r u W 4 [x0, x1, x2, x3] pv 4 [p0, p1, p2, p3] d d5 d3 (vp (szL 4 + 5) 0) := by unfold Cli; kernel_rfl
theorem cli4_5 : Cli win x N C (chain 4 cp) r u W 4 [x0, x1, x2, x3] pv 5 [p0, p1, p2, p3, p4] d d5 d3 (vp (szL 5 + 5) 0) := by unfold Cli; kernel_rfl
theorem cli4_6 : Cli win x N C (chain 4 cp) r u W 4 [x0, x1, x2, x3] pv 6 [p0, p1, p2, p3, p4, p5] d d5 d3 (vp (szL 6 + 5) 0) := by unfold Cli; kernel_rfl
theorem cli4_7 : Cli win x N C (chain 4 cp) r u W 4 [x0, x1, x2, x3] pv 7 [p0, p1, p2, p3, p4, p5, p6] d d5 d3 (vp (szL 7 + 5) 0) := by unfold Cli; kernel_rfl
theorem cli4_8 : Cli win x N C (chain 4 cp) r u W 4 [x0, x1, x2, x3] pv 8 [p0, p1, p2, p3, p4, p5, p6, p7] d d5 d3 (vp (szL 8 + 5) 0) := by unfold Cli; kernel_rfl
theorem cli4_9 : Cli win x N C (chain 4 cp) r u W 4 [x0, x1, x2, x3] pv 9 [p0, p1, p2, p3, p4, p5, p6, p7, p8] d d5 d3 (vp (szL 9 + 5) 0) := by unfold Cli; kernel_rfl
theorem cli4_10 : Cli win x N C (chain 4 cp) r u W 4 [x0, x1, x2, x3] pv 10 [p0, p1, p2, p3, p4, p5, p6, p7, p8, p9] d d5 d3 (vp (szL 10 + 5) 0) := by unfold Cli; kernel_rfl
theorem cli4_11 : Cli win x N C (chain 4 cp) r u W 4 [x0, x1, x2, x3] pv 11 [p0, p1, p2, p3, p4, p5, p6, p7, p8, p9, p10] d d5 d3 (vp (szL 11 + 5) 0) := by unfold Cli; kernel_rfl
theorem cli4_12 : Cli win x N C (chain 4 cp) r u W 4 [x0, x1, x2, x3] pv 12 [p0, p1, p2, p3, p4, p5, p6, p7, p8, p9, p10, p11] d d5 d3 (vp (szL 12 + 5) 0) := by unfold Cli; kernel_rfl
theorem cli4_13 : Cli win x N C (chain 4 cp) r u W 4 [x0, x1, x2, x3] pv 13 [p0, p1, p2, p3, p4, p5, p6, p7, p8, p9, p10, p11, p12] d d5 d3 (vp (szL 13 + 5) 0) := by unfold Cli; kernel_rfl
theorem cli4_14 : Cli win x N C (chain 4 cp) r u W 4 [x0, x1, x2, x3] pv 14 [p0, p1, p2, p3, p4, p5, p6, p7, p8, p9, p10, p11, p12, p13] d d5 d3 (vp (szL 14 + 5) 0) := by unfold Cli; kernel_rfl
theorem cli4_15 : Cli win x N C (chain 4 cp) r u W 4 [x0, x1, x2, x3] pv 15 [p0, p1, p2, p3, p4, p5, p6, p7, p8, p9, p10, p11, p12, p13, p14] d d5 d3 (vp (szL 15 + 5) 0) := by unfold Cli; kernel_rfl
theorem fin4_0 : Fin' win x N C (chain 4 cp) r u W 4 [x0, x1, x2, x3] pv 0 [] d d5 d3 := by unfold Fin'; kernel_rfl
theorem fin4_1 : Fin' win x N C (chain 4 cp) r u W 4 [x0, x1, x2, x3] pv 1 qs d d5 d3 := by unfold Fin'; kernel_rfl
theorem fin4_2 : Fin' win x N C (chain 4 cp) r u W 4 [x0, x1, x2, x3] pv 2 qs d d5 d3 := by unfold Fin'; kernel_rfl
theorem fin4_3 : Fin' win x N C (chain 4 cp) r u W 4 [x0, x1, x2, x3] pv 3 qs d d5 d3 := by unfold Fin'; kernel_rfl
theorem fin4_4 : Fin' win x N C (chain 4 cp) r u W 4 [x0, x1, x2, x3] pv 4 qs d d5 d3 := by unfold Fin'; kernel_rfl
theorem fin4_5 : Fin' win x N C (chain 4 cp) r u W 4 [x0, x1, x2, x3] pv 5 qs d d5 d3 := by unfold Fin'; kernel_rfl
theorem fin4_6 : Fin' win x N C (chain 4 cp) r u W 4 [x0, x1, x2, x3] pv 6 qs d d5 d3 := by unfold Fin'; kernel_rfl
theorem fin4_7 : Fin' win x N C (chain 4 cp) r u W 4 [x0, x1, x2, x3] pv 7 qs d d5 d3 := by unfold Fin'; kernel_rfl
theorem fin4_8 : Fin' win x N C (chain 4 cp) r u W 4 [x0, x1, x2, x3] pv 8 qs d d5 d3 := by unfold Fin'; kernel_rfl
theorem fin4_9 : Fin' win x N C (chain 4 cp) r u W 4 [x0, x1, x2, x3] pv 9 qs d d5 d3 := by unfold Fin'; kernel_rfl
theorem fin4_10 : Fin' win x N C (chain 4 cp) r u W 4 [x0, x1, x2, x3] pv 10 qs d d5 d3 := by unfold Fin'; kernel_rfl
theorem fin4_11 : Fin' win x N C (chain 4 cp) r u W 4 [x0, x1, x2, x3] pv 11 qs d d5 d3 := by unfold Fin'; kernel_rfl
theorem fin4_12 : Fin' win x N C (chain 4 cp) r u W 4 [x0, x1, x2, x3] pv 12 qs d d5 d3 := by unfold Fin'; kernel_rfl
theorem fin4_13 : Fin' win x N C (chain 4 cp) r u W 4 [x0, x1, x2, x3] pv 13 qs d d5 d3 := by unfold Fin'; kernel_rfl
theorem fin4_14 : Fin' win x N C (chain 4 cp) r u W 4 [x0, x1, x2, x3] pv 14 qs d d5 d3 := by unfold Fin'; kernel_rfl
theorem fin4_15 : Fin' win x N C (chain 4 cp) r u W 4 [x0, x1, x2, x3] pv 15 qs d d5 d3 := by unfold Fin'; kernel_rfl
theorem fin4_16 : Fin' win x N C (chain 4 cp) r u W 4 [x0, x1, x2, x3] pv 16 qs d d5 d3 := by unfold Fin'; kernel_rfl
end Go.Proofs.YtjoelgicffojcaaGreatDoor.wb
