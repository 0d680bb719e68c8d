/-
  WorldBounds: the clients, a chain of 5.
-/
import Derived.KernelRfl
import Derived.Test.YtjoelgicffojcaaGreatDoorWbWSt
namespace Go.Proofs.YtjoelgicffojcaaGreatDoor.wb
open Go.Eng
set_option maxRecDepth 1000000
set_option linter.unusedVariables false
set_option linter.unusedSimpArgs false
set_option linter.unusedSectionVars false
variable (win : CB) (x cp : Nat) (N C r u W x0 x1 x2 x3 x4 : Int) (d d5 d3 : Nat → Value) (pv p0 p1 p2 p3 p4 p5 p6 p7 p8 p9 p10 p11 p12 p13 p14 : Value) (qs : List Value)
theorem cli5_0 : Cli win x N C (chain 5 cp) r u W 5 [x0, x1, x2, x3, x4] pv 0 [] d d5 d3 (vp (szL 0 + 5) 0) := by unfold Cli; kernel_rfl
theorem cli5_1 : Cli win x N C (chain 5 cp) r u W 5 [x0, x1, x2, x3, x4] pv 1 [p0] d d5 d3 (vp (szL 1 + 5) 0) := by unfold Cli; kernel_rfl
theorem cli5_2 : Cli win x N C (chain 5 cp) r u W 5 [x0, x1, x2, x3, x4] pv 2 [p0, p1] d d5 d3 (vp (szL 2 + 5) 0) := by unfold Cli; kernel_rfl
theorem cli5_3 : Cli win x N C (chain 5 cp) r u W 5 [x0, x1, x2, x3, x4] pv 3 [p0, p1, p2] d d5 d3 (vp (szL 3 + 5) 0) := by unfold Cli; kernel_rfl
theorem cli5_4 : Cli win x N C (chain 5 cp) r u W 5 [x0, x1, x2, x3, x4] pv 4 [p0, p1, p2, p3] d d5 d3 (vp (szL 4 + 5) 0) := by unfold Cli; kernel_rfl
theorem cli5_5 : Cli win x N C (chain 5 cp) r u W 5 [x0, x1, x2, x3, x4] pv 5 [p0, p1, p2, p3, p4] d d5 d3 (vp (szL 5 + 5) 0) := by unfold Cli; kernel_rfl
theorem cli5_6 : Cli win x N C (chain 5 cp) r u W 5 [x0, x1, x2, x3, x4] pv 6 [p0, p1, p2, p3, p4, p5] d d5 d3 (vp (szL 6 + 5) 0) := by unfold Cli; kernel_rfl
theorem cli5_7 : Cli win x N C (chain 5 cp) r u W 5 [x0, x1, x2, x3, x4] pv 7 [p0, p1, p2, p3, p4, p5, p6] d d5 d3 (vp (szL 7 + 5) 0) := by unfold Cli; kernel_rfl
theorem cli5_8 : Cli win x N C (chain 5 cp) r u W 5 [x0, x1, x2, x3, x4] pv 8 [p0, p1, p2, p3, p4, p5, p6, p7] d d5 d3 (vp (szL 8 + 5) 0) := by unfold Cli; kernel_rfl
theorem cli5_9 : Cli win x N C (chain 5 cp) r u W 5 [x0, x1, x2, x3, x4] pv 9 [p0, p1, p2, p3, p4, p5, p6, p7, p8] d d5 d3 (vp (szL 9 + 5) 0) := by unfold Cli; kernel_rfl
theorem cli5_10 : Cli win x N C (chain 5 cp) r u W 5 [x0, x1, x2, x3, x4] pv 10 [p0, p1, p2, p3, p4, p5, p6, p7, p8, p9] d d5 d3 (vp (szL 10 + 5) 0) := by unfold Cli; kernel_rfl
theorem cli5_11 : Cli win x N C (chain 5 cp) r u W 5 [x0, x1, x2, x3, x4] pv 11 [p0, p1, p2, p3, p4, p5, p6, p7, p8, p9, p10] d d5 d3 (vp (szL 11 + 5) 0) := by unfold Cli; kernel_rfl
theorem cli5_12 : Cli win x N C (chain 5 cp) r u W 5 [x0, x1, x2, x3, x4] pv 12 [p0, p1, p2, p3, p4, p5, p6, p7, p8, p9, p10, p11] d d5 d3 (vp (szL 12 + 5) 0) := by unfold Cli; kernel_rfl
theorem cli5_13 : Cli win x N C (chain 5 cp) r u W 5 [x0, x1, x2, x3, x4] pv 13 [p0, p1, p2, p3, p4, p5, p6, p7, p8, p9, p10, p11, p12] d d5 d3 (vp (szL 13 + 5) 0) := by unfold Cli; kernel_rfl
theorem cli5_14 : Cli win x N C (chain 5 cp) r u W 5 [x0, x1, x2, x3, x4] pv 14 [p0, p1, p2, p3, p4, p5, p6, p7, p8, p9, p10, p11, p12, p13] d d5 d3 (vp (szL 14 + 5) 0) := by unfold Cli; kernel_rfl
theorem cli5_15 : Cli win x N C (chain 5 cp) r u W 5 [x0, x1, x2, x3, x4] pv 15 [p0, p1, p2, p3, p4, p5, p6, p7, p8, p9, p10, p11, p12, p13, p14] d d5 d3 (vp (szL 15 + 5) 0) := by unfold Cli; kernel_rfl
theorem fin5_0 : Fin' win x N C (chain 5 cp) r u W 5 [x0, x1, x2, x3, x4] pv 0 [] d d5 d3 := by unfold Fin'; kernel_rfl
theorem fin5_1 : Fin' win x N C (chain 5 cp) r u W 5 [x0, x1, x2, x3, x4] pv 1 qs d d5 d3 := by unfold Fin'; kernel_rfl
theorem fin5_2 : Fin' win x N C (chain 5 cp) r u W 5 [x0, x1, x2, x3, x4] pv 2 qs d d5 d3 := by unfold Fin'; kernel_rfl
theorem fin5_3 : Fin' win x N C (chain 5 cp) r u W 5 [x0, x1, x2, x3, x4] pv 3 qs d d5 d3 := by unfold Fin'; kernel_rfl
theorem fin5_4 : Fin' win x N C (chain 5 cp) r u W 5 [x0, x1, x2, x3, x4] pv 4 qs d d5 d3 := by unfold Fin'; kernel_rfl
theorem fin5_5 : Fin' win x N C (chain 5 cp) r u W 5 [x0, x1, x2, x3, x4] pv 5 qs d d5 d3 := by unfold Fin'; kernel_rfl
theorem fin5_6 : Fin' win x N C (chain 5 cp) r u W 5 [x0, x1, x2, x3, x4] pv 6 qs d d5 d3 := by unfold Fin'; kernel_rfl
theorem fin5_7 : Fin' win x N C (chain 5 cp) r u W 5 [x0, x1, x2, x3, x4] pv 7 qs d d5 d3 := by unfold Fin'; kernel_rfl
theorem fin5_8 : Fin' win x N C (chain 5 cp) r u W 5 [x0, x1, x2, x3, x4] pv 8 qs d d5 d3 := by unfold Fin'; kernel_rfl
theorem fin5_9 : Fin' win x N C (chain 5 cp) r u W 5 [x0, x1, x2, x3, x4] pv 9 qs d d5 d3 := by unfold Fin'; kernel_rfl
theorem fin5_10 : Fin' win x N C (chain 5 cp) r u W 5 [x0, x1, x2, x3, x4] pv 10 qs d d5 d3 := by unfold Fin'; kernel_rfl
theorem fin5_11 : Fin' win x N C (chain 5 cp) r u W 5 [x0, x1, x2, x3, x4] pv 11 qs d d5 d3 := by unfold Fin'; kernel_rfl
theorem fin5_12 : Fin' win x N C (chain 5 cp) r u W 5 [x0, x1, x2, x3, x4] pv 12 qs d d5 d3 := by unfold Fin'; kernel_rfl
theorem fin5_13 : Fin' win x N C (chain 5 cp) r u W 5 [x0, x1, x2, x3, x4] pv 13 qs d d5 d3 := by unfold Fin'; kernel_rfl
theorem fin5_14 : Fin' win x N C (chain 5 cp) r u W 5 [x0, x1, x2, x3, x4] pv 14 qs d d5 d3 := by unfold Fin'; kernel_rfl
theorem fin5_15 : Fin' win x N C (chain 5 cp) r u W 5 [x0, x1, x2, x3, x4] pv 15 qs d d5 d3 := by unfold Fin'; kernel_rfl
theorem fin5_16 : Fin' win x N C (chain 5 cp) r u W 5 [x0, x1, x2, x3, x4] pv 16 qs d d5 d3 := by unfold Fin'; kernel_rfl
end Go.Proofs.YtjoelgicffojcaaGreatDoor.wb
namespace Go.Proofs.YtjoelgicffojcaaGreatDoor.wb
open Go.Eng
set_option maxRecDepth 1000000
set_option linter.unusedVariables false
set_option linter.unusedSimpArgs false
set_option linter.unusedSectionVars false
variable (win : CB) (x cp : Nat) (N C r u W x0 x1 x2 x3 x4 x5 : Int) (d d5 d3 : Nat → Value) (pv p0 p1 p2 p3 p4 p5 p6 p7 p8 p9 p10 p11 p12 p13 p14 : Value) (qs : List Value)
theorem cli6_0 : Cli win x N C (chain 6 cp) r u W 6 [x0, x1, x2, x3, x4, x5] pv 0 [] d d5 d3 (vp (szL 0 + 5) 0) := by unfold Cli; kernel_rfl
theorem cli6_1 : Cli win x N C (chain 6 cp) r u W 6 [x0, x1, x2, x3, x4, x5] pv 1 [p0] d d5 d3 (vp (szL 1 + 5) 0) := by unfold Cli; kernel_rfl
theorem cli6_2 : Cli win x N C (chain 6 cp) r u W 6 [x0, x1, x2, x3, x4, x5] pv 2 [p0, p1] d d5 d3 (vp (szL 2 + 5) 0) := by unfold Cli; kernel_rfl
theorem cli6_3 : Cli win x N C (chain 6 cp) r u W 6 [x0, x1, x2, x3, x4, x5] pv 3 [p0, p1, p2] d d5 d3 (vp (szL 3 + 5) 0) := by unfold Cli; kernel_rfl
theorem cli6_4 : Cli win x N C (chain 6 cp) r u W 6 [x0, x1, x2, x3, x4, x5] pv 4 [p0, p1, p2, p3] d d5 d3 (vp (szL 4 + 5) 0) := by unfold Cli; kernel_rfl
theorem cli6_5 : Cli win x N C (chain 6 cp) r u W 6 [x0, x1, x2, x3, x4, x5] pv 5 [p0, p1, p2, p3, p4] d d5 d3 (vp (szL 5 + 5) 0) := by unfold Cli; kernel_rfl
theorem cli6_6 : Cli win x N C (chain 6 cp) r u W 6 [x0, x1, x2, x3, x4, x5] pv 6 [p0, p1, p2, p3, p4, p5] d d5 d3 (vp (szL 6 + 5) 0) := by unfold Cli; kernel_rfl
theorem cli6_7 : Cli win x N C (chain 6 cp) r u W 6 [x0, x1, x2, x3, x4, x5] pv 7 [p0, p1, p2, p3, p4, p5, p6] d d5 d3 (vp (szL 7 + 5) 0) := by unfold Cli; kernel_rfl
theorem cli6_8 : Cli win x N C (chain 6 cp) r u W 6 [x0, x1, x2, x3, x4, x5] pv 8 [p0, p1, p2, p3, p4, p5, p6, p7] d d5 d3 (vp (szL 8 + 5) 0) := by unfold Cli; kernel_rfl
theorem cli6_9 : Cli win x N C (chain 6 cp) r u W 6 [x0, x1, x2, x3, x4, x5] pv 9 [p0, p1, p2, p3, p4, p5, p6, p7, p8] d d5 d3 (vp (szL 9 + 5) 0) := by unfold Cli; kernel_rfl
theorem cli6_10 : Cli win x N C (chain 6 cp) r u W 6 [x0, x1, x2, x3, x4, x5] pv 10 [p0, p1, p2, p3, p4, p5, p6, p7, p8, p9] d d5 d3 (vp (szL 10 + 5) 0) := by unfold Cli; kernel_rfl
theorem cli6_11 : Cli win x N C (chain 6 cp) r u W 6 [x0, x1, x2, x3, x4, x5] pv 11 [p0, p1, p2, p3, p4, p5, p6, p7, p8, p9, p10] d d5 d3 (vp (szL 11 + 5) 0) := by unfold Cli; kernel_rfl
theorem cli6_12 : Cli win x N C (chain 6 cp) r u W 6 [x0, x1, x2, x3, x4, x5] pv 12 [p0, p1, p2, p3, p4, p5, p6, p7, p8, p9, p10, p11] d d5 d3 (vp (szL 12 + 5) 0) := by unfold Cli; kernel_rfl
theorem cli6_13 : Cli win x N C (chain 6 cp) r u W 6 [x0, x1, x2, x3, x4, x5] pv 13 [p0, p1, p2, p3, p4, p5, p6, p7, p8, p9, p10, p11, p12] d d5 d3 (vp (szL 13 + 5) 0) := by unfold Cli; kernel_rfl
theorem cli6_14 : Cli win x N C (chain 6 cp) r u W 6 [x0, x1, x2, x3, x4, x5] pv 14 [p0, p1, p2, p3, p4, p5, p6, p7, p8, p9, p10, p11, p12, p13] d d5 d3 (vp (szL 14 + 5) 0) := by unfold Cli; kernel_rfl
theorem cli6_15 : Cli win x N C (chain 6 cp) r u W 6 [x0, x1, x2, x3, x4, x5] pv 15 [p0, p1, p2, p3, p4, p5, p6, p7, p8, p9, p10, p11, p12, p13, p14] d d5 d3 (vp (szL 15 + 5) 0) := by unfold Cli; kernel_rfl
theorem fin6_0 : Fin' win x N C (chain 6 cp) r u W 6 [x0, x1, x2, x3, x4, x5] pv 0 [] d d5 d3 := by unfold Fin'; kernel_rfl
theorem fin6_1 : Fin' win x N C (chain 6 cp) r u W 6 [x0, x1, x2, x3, x4, x5] pv 1 qs d d5 d3 := by unfold Fin'; kernel_rfl
theorem fin6_2 : Fin' win x N C (chain 6 cp) r u W 6 [x0, x1, x2, x3, x4, x5] pv 2 qs d d5 d3 := by unfold Fin'; kernel_rfl
theorem fin6_3 : Fin' win x N C (chain 6 cp) r u W 6 [x0, x1, x2, x3, x4, x5] pv 3 qs d d5 d3 := by unfold Fin'; kernel_rfl
theorem fin6_4 : Fin' win x N C (chain 6 cp) r u W 6 [x0, x1, x2, x3, x4, x5] pv 4 qs d d5 d3 := by unfold Fin'; kernel_rfl
theorem fin6_5 : Fin' win x N C (chain 6 cp) r u W 6 [x0, x1, x2, x3, x4, x5] pv 5 qs d d5 d3 := by unfold Fin'; kernel_rfl
theorem fin6_6 : Fin' win x N C (chain 6 cp) r u W 6 [x0, x1, x2, x3, x4, x5] pv 6 qs d d5 d3 := by unfold Fin'; kernel_rfl
theorem fin6_7 : Fin' win x N C (chain 6 cp) r u W 6 [x0, x1, x2, x3, x4, x5] pv 7 qs d d5 d3 := by unfold Fin'; kernel_rfl
theorem fin6_8 : Fin' win x N C (chain 6 cp) r u W 6 [x0, x1, x2, x3, x4, x5] pv 8 qs d d5 d3 := by unfold Fin'; kernel_rfl
theorem fin6_9 : Fin' win x N C (chain 6 cp) r u W 6 [x0, x1, x2, x3, x4, x5] pv 9 qs d d5 d3 := by unfold Fin'; kernel_rfl
theorem fin6_10 : Fin' win x N C (chain 6 cp) r u W 6 [x0, x1, x2, x3, x4, x5] pv 10 qs d d5 d3 := by unfold Fin'; kernel_rfl
theorem fin6_11 : Fin' win x N C (chain 6 cp) r u W 6 [x0, x1, x2, x3, x4, x5] pv 11 qs d d5 d3 := by unfold Fin'; kernel_rfl
theorem fin6_12 : Fin' win x N C (chain 6 cp) r u W 6 [x0, x1, x2, x3, x4, x5] pv 12 qs d d5 d3 := by unfold Fin'; kernel_rfl
theorem fin6_13 : Fin' win x N C (chain 6 cp) r u W 6 [x0, x1, x2, x3, x4, x5] pv 13 qs d d5 d3 := by unfold Fin'; kernel_rfl
theorem fin6_14 : Fin' win x N C (chain 6 cp) r u W 6 [x0, x1, x2, x3, x4, x5] pv 14 qs d d5 d3 := by unfold Fin'; kernel_rfl
theorem fin6_15 : Fin' win x N C (chain 6 cp) r u W 6 [x0, x1, x2, x3, x4, x5] pv 15 qs d d5 d3 := by unfold Fin'; kernel_rfl
theorem fin6_16 : Fin' win x N C (chain 6 cp) r u W 6 [x0, x1, x2, x3, x4, x5] pv 16 qs d d5 d3 := by unfold Fin'; kernel_rfl
end Go.Proofs.YtjoelgicffojcaaGreatDoor.wb
namespace Go.Proofs.YtjoelgicffojcaaGreatDoor.wb
open Go.Eng
set_option maxRecDepth 1000000
set_option linter.unusedVariables false
set_option linter.unusedSimpArgs false
set_option linter.unusedSectionVars false
variable (win : CB) (x cp : Nat) (N C r u W x0 x1 x2 x3 x4 x5 x6 : Int) (d d5 d3 : Nat → Value) (pv p0 p1 p2 p3 p4 p5 p6 p7 p8 p9 p10 p11 p12 p13 p14 : Value) (qs : List Value)
theorem cli7_0 : Cli win x N C (chain 7 cp) r u W 7 [x0, x1, x2, x3, x4, x5, x6] pv 0 [] d d5 d3 (vp (szL 0 + 5) 0) := by unfold Cli; kernel_rfl
theorem cli7_1 : Cli win x N C (chain 7 cp) r u W 7 [x0, x1, x2, x3, x4, x5, x6] pv 1 [p0] d d5 d3 (vp (szL 1 + 5) 0) := by unfold Cli; kernel_rfl
theorem cli7_2 : Cli win x N C (chain 7 cp) r u W 7 [x0, x1, x2, x3, x4, x5, x6] pv 2 [p0, p1] d d5 d3 (vp (szL 2 + 5) 0) := by unfold Cli; kernel_rfl
theorem cli7_3 : Cli win x N C (chain 7 cp) r u W 7 [x0, x1, x2, x3, x4, x5, x6] pv 3 [p0, p1, p2] d d5 d3 (vp (szL 3 + 5) 0) := by unfold Cli; kernel_rfl
theorem cli7_4 : Cli win x N C (chain 7 cp) r u W 7 [x0, x1, x2, x3, x4, x5, x6] pv 4 [p0, p1, p2, p3] d d5 d3 (vp (szL 4 + 5) 0) := by unfold Cli; kernel_rfl
theorem cli7_5 : Cli win x N C (chain 7 cp) r u W 7 [x0, x1, x2, x3, x4, x5, x6] pv 5 [p0, p1, p2, p3, p4] d d5 d3 (vp (szL 5 + 5) 0) := by unfold Cli; kernel_rfl
theorem cli7_6 : Cli win x N C (chain 7 cp) r u W 7 [x0, x1, x2, x3, x4, x5, x6] pv 6 [p0, p1, p2, p3, p4, p5] d d5 d3 (vp (szL 6 + 5) 0) := by unfold Cli; kernel_rfl
theorem cli7_7 : Cli win x N C (chain 7 cp) r u W 7 [x0, x1, x2, x3, x4, x5, x6] pv 7 [p0, p1, p2, p3, p4, p5, p6] d d5 d3 (vp (szL 7 + 5) 0) := by unfold Cli; kernel_rfl
theorem cli7_8 : Cli win x N C (chain 7 cp) r u W 7 [x0, x1, x2, x3, x4, x5, x6] pv 8 [p0, p1, p2, p3, p4, p5, p6, p7] d d5 d3 (vp (szL 8 + 5) 0) := by unfold Cli; kernel_rfl
theorem cli7_9 : Cli win x N C (chain 7 cp) r u W 7 [x0, x1, x2, x3, x4, x5, x6] pv 9 [p0, p1, p2, p3, p4, p5, p6, p7, p8] d d5 d3 (vp (szL 9 + 5) 0) := by unfold Cli; kernel_rfl
theorem cli7_10 : Cli win x N C (chain 7 cp) r u W 7 [x0, x1, x2, x3, x4, x5, x6] pv 10 [p0, p1, p2, p3, p4, p5, p6, p7, p8, p9] d d5 d3 (vp (szL 10 + 5) 0) := by unfold Cli; kernel_rfl
theorem cli7_11 : Cli win x N C (chain 7 cp) r u W 7 [x0, x1, x2, x3, x4, x5, x6] pv 11 [p0, p1, p2, p3, p4, p5, p6, p7, p8, p9, p10] d d5 d3 (vp (szL 11 + 5) 0) := by unfold Cli; kernel_rfl
theorem cli7_12 : Cli win x N C (chain 7 cp) r u W 7 [x0, x1, x2, x3, x4, x5, x6] pv 12 [p0, p1, p2, p3, p4, p5, p6, p7, p8, p9, p10, p11] d d5 d3 (vp (szL 12 + 5) 0) := by unfold Cli; kernel_rfl
theorem cli7_13 : Cli win x N C (chain 7 cp) r u W 7 [x0, x1, x2, x3, x4, x5, x6] pv 13 [p0, p1, p2, p3, p4, p5, p6, p7, p8, p9, p10, p11, p12] d d5 d3 (vp (szL 13 + 5) 0) := by unfold Cli; kernel_rfl
theorem cli7_14 : Cli win x N C (chain 7 cp) r u W 7 [x0, x1, x2, x3, x4, x5, x6] pv 14 [p0, p1, p2, p3, p4, p5, p6, p7, p8, p9, p10, p11, p12, p13] d d5 d3 (vp (szL 14 + 5) 0) := by unfold Cli; kernel_rfl
theorem cli7_15 : Cli win x N C (chain 7 cp) r u W 7 [x0, x1, x2, x3, x4, x5, x6] pv 15 [p0, p1, p2, p3, p4, p5, p6, p7, p8, p9, p10, p11, p12, p13, p14] d d5 d3 (vp (szL 15 + 5) 0) := by unfold Cli; kernel_rfl
theorem fin7_0 : Fin' win x N C (chain 7 cp) r u W 7 [x0, x1, x2, x3, x4, x5, x6] pv 0 [] d d5 d3 := by unfold Fin'; kernel_rfl
theorem fin7_1 : Fin' win x N C (chain 7 cp) r u W 7 [x0, x1, x2, x3, x4, x5, x6] pv 1 qs d d5 d3 := by unfold Fin'; kernel_rfl
theorem fin7_2 : Fin' win x N C (chain 7 cp) r u W 7 [x0, x1, x2, x3, x4, x5, x6] pv 2 qs d d5 d3 := by unfold Fin'; kernel_rfl
theorem fin7_3 : Fin' win x N C (chain 7 cp) r u W 7 [x0, x1, x2, x3, x4, x5, x6] pv 3 qs d d5 d3 := by unfold Fin'; kernel_rfl
theorem fin7_4 : Fin' win x N C (chain 7 cp) r u W 7 [x0, x1, x2, x3, x4, x5, x6] pv 4 qs d d5 d3 := by unfold Fin'; kernel_rfl
theorem fin7_5 : Fin' win x N C (chain 7 cp) r u W 7 [x0, x1, x2, x3, x4, x5, x6] pv 5 qs d d5 d3 := by unfold Fin'; kernel_rfl
theorem fin7_6 : Fin' win x N C (chain 7 cp) r u W 7 [x0, x1, x2, x3, x4, x5, x6] pv 6 qs d d5 d3 := by unfold Fin'; kernel_rfl
theorem fin7_7 : Fin' win x N C (chain 7 cp) r u W 7 [x0, x1, x2, x3, x4, x5, x6] pv 7 qs d d5 d3 := by unfold Fin'; kernel_rfl
theorem fin7_8 : Fin' win x N C (chain 7 cp) r u W 7 [x0, x1, x2, x3, x4, x5, x6] pv 8 qs d d5 d3 := by unfold Fin'; kernel_rfl
theorem fin7_9 : Fin' win x N C (chain 7 cp) r u W 7 [x0, x1, x2, x3, x4, x5, x6] pv 9 qs d d5 d3 := by unfold Fin'; kernel_rfl
theorem fin7_10 : Fin' win x N C (chain 7 cp) r u W 7 [x0, x1, x2, x3, x4, x5, x6] pv 10 qs d d5 d3 := by unfold Fin'; kernel_rfl
theorem fin7_11 : Fin' win x N C (chain 7 cp) r u W 7 [x0, x1, x2, x3, x4, x5, x6] pv 11 qs d d5 d3 := by unfold Fin'; kernel_rfl
theorem fin7_12 : Fin' win x N C (chain 7 cp) r u W 7 [x0, x1, x2, x3, x4, x5, x6] pv 12 qs d d5 d3 := by unfold Fin'; kernel_rfl
theorem fin7_13 : Fin' win x N C (chain 7 cp) r u W 7 [x0, x1, x2, x3, x4, x5, x6] pv 13 qs d d5 d3 := by unfold Fin'; kernel_rfl
theorem fin7_14 : Fin' win x N C (chain 7 cp) r u W 7 [x0, x1, x2, x3, x4, x5, x6] pv 14 qs d d5 d3 := by unfold Fin'; kernel_rfl
theorem fin7_15 : Fin' win x N C (chain 7 cp) r u W 7 [x0, x1, x2, x3, x4, x5, x6] pv 15 qs d d5 d3 := by unfold Fin'; kernel_rfl
theorem fin7_16 : Fin' win x N C (chain 7 cp) r u W 7 [x0, x1, x2, x3, x4, x5, x6] pv 16 qs d d5 d3 := by unfold Fin'; kernel_rfl
end Go.Proofs.YtjoelgicffojcaaGreatDoor.wb
namespace Go.Proofs.YtjoelgicffojcaaGreatDoor.wb
open Go.Eng
set_option maxRecDepth 1000000
set_option linter.unusedVariables false
set_option linter.unusedSimpArgs false
set_option linter.unusedSectionVars false
variable (win : CB) (x cp : Nat) (N C r u W x0 x1 x2 x3 x4 x5 x6 x7 : Int) (d d5 d3 : Nat → Value) (pv p0 p1 p2 p3 p4 p5 p6 p7 p8 p9 p10 p11 p12 p13 p14 : Value) (qs : List Value)
theorem cli8_0 : Cli win x N C (chain 8 cp) r u W 8 [x0, x1, x2, x3, x4, x5, x6, x7] pv 0 [] d d5 d3 (vp (szL 0 + 5) 0) := by unfold Cli; kernel_rfl
theorem cli8_1 : Cli win x N C (chain 8 cp) r u W 8 [x0, x1, x2, x3, x4, x5, x6, x7] pv 1 [p0] d d5 d3 (vp (szL 1 + 5) 0) := by unfold Cli; kernel_rfl
theorem cli8_2 : Cli win x N C (chain 8 cp) r u W 8 [x0, x1, x2, x3, x4, x5, x6, x7] pv 2 [p0, p1] d d5 d3 (vp (szL 2 + 5) 0) := by unfold Cli; kernel_rfl
theorem cli8_3 : Cli win x N C (chain 8 cp) r u W 8 [x0, x1, x2, x3, x4, x5, x6, x7] pv 3 [p0, p1, p2] d d5 d3 (vp (szL 3 + 5) 0) := by unfold Cli; kernel_rfl
theorem cli8_4 : Cli win x N C (chain 8 cp) r u W 8 [x0, x1, x2, x3, x4, x5, x6, x7] pv 4 [p0, p1, p2, p3] d d5 d3 (vp (szL 4 + 5) 0) := by unfold Cli; kernel_rfl
theorem cli8_5 : Cli win x N C (chain 8 cp) r u W 8 [x0, x1, x2, x3, x4, x5, x6, x7] pv 5 [p0, p1, p2, p3, p4] d d5 d3 (vp (szL 5 + 5) 0) := by unfold Cli; kernel_rfl
theorem cli8_6 : Cli win x N C (chain 8 cp) r u W 8 [x0, x1, x2, x3, x4, x5, x6, x7] pv 6 [p0, p1, p2, p3, p4, p5] d d5 d3 (vp (szL 6 + 5) 0) := by unfold Cli; kernel_rfl
theorem cli8_7 : Cli win x N C (chain 8 cp) r u W 8 [x0, x1, x2, x3, x4, x5, x6, x7] pv 7 [p0, p1, p2, p3, p4, p5, p6] d d5 d3 (vp (szL 7 + 5) 0) := by unfold Cli; kernel_rfl
theorem cli8_8 : Cli win x N C (chain 8 cp) r u W 8 [x0, x1, x2, x3, x4, x5, x6, x7] pv 8 [p0, p1, p2, p3, p4, p5, p6, p7] d d5 d3 (vp (szL 8 + 5) 0) := by unfold Cli; kernel_rfl
theorem cli8_9 : Cli win x N C (chain 8 cp) r u W 8 [x0, x1, x2, x3, x4, x5, x6, x7] pv 9 [p0, p1, p2, p3, p4, p5, p6, p7, p8] d d5 d3 (vp (szL 9 + 5) 0) := by unfold Cli; kernel_rfl
theorem cli8_10 : Cli win x N C (chain 8 cp) r u W 8 [x0, x1, x2, x3, x4, x5, x6, x7] pv 10 [p0, p1, p2, p3, p4, p5, p6, p7, p8, p9] d d5 d3 (vp (szL 10 + 5) 0) := by unfold Cli; kernel_rfl
theorem cli8_11 : Cli win x N C (chain 8 cp) r u W 8 [x0, x1, x2, x3, x4, x5, x6, x7] pv 11 [p0, p1, p2, p3, p4, p5, p6, p7, p8, p9, p10] d d5 d3 (vp (szL 11 + 5) 0) := by unfold Cli; kernel_rfl
theorem cli8_12 : Cli win x N C (chain 8 cp) r u W 8 [x0, x1, x2, x3, x4, x5, x6, x7] pv 12 [p0, p1, p2, p3, p4, p5, p6, p7, p8, p9, p10, p11] d d5 d3 (vp (szL 12 + 5) 0) := by unfold Cli; kernel_rfl
theorem cli8_13 : Cli win x N C (chain 8 cp) r u W 8 [x0, x1, x2, x3, x4, x5, x6, x7] pv 13 [p0, p1, p2, p3, p4, p5, p6, p7, p8, p9, p10, p11, p12] d d5 d3 (vp (szL 13 + 5) 0) := by unfold Cli; kernel_rfl
theorem cli8_14 : Cli win x N C (chain 8 cp) r u W 8 [x0, x1, x2, x3, x4, x5, x6, x7] pv 14 [p0, p1, p2, p3, p4, p5, p6, p7, p8, p9, p10, p11, p12, p13] d d5 d3 (vp (szL 14 + 5) 0) := by unfold Cli; kernel_rfl
theorem cli8_15 : Cli win x N C (chain 8 cp) r u W 8 [x0, x1, x2, x3, x4, x5, x6, x7] pv 15 [p0, p1, p2, p3, p4, p5, p6, p7, p8, p9, p10, p11, p12, p13, p14] d d5 d3 (vp (szL 15 + 5) 0) := by unfold Cli; kernel_rfl
theorem fin8_0 : Fin' win x N C (chain 8 cp) r u W 8 [x0, x1, x2, x3, x4, x5, x6, x7] pv 0 [] d d5 d3 := by unfold Fin'; kernel_rfl
theorem fin8_1 : Fin' win x N C (chain 8 cp) r u W 8 [x0, x1, x2, x3, x4, x5, x6, x7] pv 1 qs d d5 d3 := by unfold Fin'; kernel_rfl
theorem fin8_2 : Fin' win x N C (chain 8 cp) r u W 8 [x0, x1, x2, x3, x4, x5, x6, x7] pv 2 qs d d5 d3 := by unfold Fin'; kernel_rfl
theorem fin8_3 : Fin' win x N C (chain 8 cp) r u W 8 [x0, x1, x2, x3, x4, x5, x6, x7] pv 3 qs d d5 d3 := by unfold Fin'; kernel_rfl
theorem fin8_4 : Fin' win x N C (chain 8 cp) r u W 8 [x0, x1, x2, x3, x4, x5, x6, x7] pv 4 qs d d5 d3 := by unfold Fin'; kernel_rfl
theorem fin8_5 : Fin' win x N C (chain 8 cp) r u W 8 [x0, x1, x2, x3, x4, x5, x6, x7] pv 5 qs d d5 d3 := by unfold Fin'; kernel_rfl
theorem fin8_6 : Fin' win x N C (chain 8 cp) r u W 8 [x0, x1, x2, x3, x4, x5, x6, x7] pv 6 qs d d5 d3 := by unfold Fin'; kernel_rfl
theorem fin8_7 : Fin' win x N C (chain 8 cp) r u W 8 [x0, x1, x2, x3, x4, x5, x6, x7] pv 7 qs d d5 d3 := by unfold Fin'; kernel_rfl
theorem fin8_8 : Fin' win x N C (chain 8 cp) r u W 8 [x0, x1, x2, x3, x4, x5, x6, x7] pv 8 qs d d5 d3 := by unfold Fin'; kernel_rfl
theorem fin8_9 : Fin' win x N C (chain 8 cp) r u W 8 [x0, x1, x2, x3, x4, x5, x6, x7] pv 9 qs d d5 d3 := by unfold Fin'; kernel_rfl
theorem fin8_10 : Fin' win x N C (chain 8 cp) r u W 8 [x0, x1, x2, x3, x4, x5, x6, x7] pv 10 qs d d5 d3 := by unfold Fin'; kernel_rfl
theorem fin8_11 : Fin' win x N C (chain 8 cp) r u W 8 [x0, x1, x2, x3, x4, x5, x6, x7] pv 11 qs d d5 d3 := by unfold Fin'; kernel_rfl
theorem fin8_12 : Fin' win x N C (chain 8 cp) r u W 8 [x0, x1, x2, x3, x4, x5, x6, x7] pv 12 qs d d5 d3 := by unfold Fin'; kernel_rfl
theorem fin8_13 : Fin' win x N C (chain 8 cp) r u W 8 [x0, x1, x2, x3, x4, x5, x6, x7] pv 13 qs d d5 d3 := by unfold Fin'; kernel_rfl
theorem fin8_14 : Fin' win x N C (chain 8 cp) r u W 8 [x0, x1, x2, x3, x4, x5, x6, x7] pv 14 qs d d5 d3 := by unfold Fin'; kernel_rfl
theorem fin8_15 : Fin' win x N C (chain 8 cp) r u W 8 [x0, x1, x2, x3, x4, x5, x6, x7] pv 15 qs d d5 d3 := by unfold Fin'; kernel_rfl
theorem fin8_16 : Fin' win x N C (chain 8 cp) r u W 8 [x0, x1, x2, x3, x4, x5, x6, x7] pv 16 qs d d5 d3 := by unfold Fin'; kernel_rfl
end Go.Proofs.YtjoelgicffojcaaGreatDoor.wb
