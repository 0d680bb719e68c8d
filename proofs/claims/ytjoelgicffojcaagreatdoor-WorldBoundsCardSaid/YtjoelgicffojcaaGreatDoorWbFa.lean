/-
  WorldBounds: its run ahead of the world, a chain of 1.
-/
import Derived.KernelRfl
import Derived.Test.YtjoelgicffojcaaGreatDoorWbWSt
namespace Go.Proofs.YtjoelgicffojcaaGreatDoor.wb
open Go.Eng
set_option maxRecDepth 1000000
set_option linter.unusedVariables false
set_option linter.unusedSimpArgs false
set_option linter.unusedSectionVars false
abbrev l8x12F1 : Leg := .tell 8 12 (.bool false)
abbrev l9x27F1 : Leg := .tell 9 27 (.bool false)
abbrev l9x32F1 : Leg := .tell 9 32 (.bool false)
abbrev l9x37F1 : Leg := .tell 9 37 (.bool false)
abbrev gtF1 (x N : Int) : Value := .bool (decide (x > N))
variable (x cp : Nat) (N C r u x0 W : Int) (d : Nat → Value)
theorem a9_1 : A ([x0].map (.int .i64)) true x N C (chain 1 cp) r u (In4 true true true true ++ [.call 7, .call 12, .tell 8 12 (.bool true), .tell 4 30 (.bool true)]) (us4 N C ++ [.bool (chkI [x0] != 0), .bool (chkI [x0] != 0)]) false := by unfold A; kernel_rfl
theorem a10_1_0 : A ([x0].map (.int .i64)) true x N C (chain 1 cp) r u (In4 true true true true ++ [.call 7, .call 12, l8x12F1, .tell 4 41 (.bool true)]) (us4 N C ++ [.bool (chkI [x0] != 0)] ++ [gtF1 x0 N]) false := by unfold A; kernel_rfl
theorem a11_1 : A ([x0].map (.int .i64)) true x N C (chain 1 cp) r u (In4 true true true true ++ [.call 7, .call 12, l8x12F1, .tell 4 41 (.bool false)]) (us4 N C ++ [.bool (chkI [x0] != 0)] ++ [gtF1 x0 N]) true := by unfold A; kernel_rfl
theorem c4_1t : Cz (.win ([x0].map (.int .i64))) true x N C (chain 1 cp) r u W d [.call 12, .tell 8 12 (.bool true), .tell 9 23 (.bool true)] [.bool (chkI [x0] != 0), .bool (chkI [x0] != 0)] := by unfold Cz; kernel_rfl
theorem c5_1t : Cz (.win ([x0].map (.int .i64))) true x N C (chain 1 cp) r u W d [.call 12, l8x12F1, .tell 9 27 (.bool true)] [.bool (chkI [x0] != 0), .bool (decide (N < 1))] := by unfold Cz; kernel_rfl
theorem c6_1t : Cz (.win ([x0].map (.int .i64))) true x N C (chain 1 cp) r u W d [.call 12, l8x12F1, l9x27F1, .tell 9 32 (.bool true)] [.bool (chkI [x0] != 0), .bool (decide (N < 1)), .bool (decide (N > 8))] := by unfold Cz; kernel_rfl
theorem c7_1t : Cz (.win ([x0].map (.int .i64))) true x N C (chain 1 cp) r u W d [.call 12, l8x12F1, l9x27F1, l9x32F1, .tell 9 37 (.bool true)] [.bool (chkI [x0] != 0), .bool (decide (N < 1)), .bool (decide (N > 8)), .bool (decide (C < 0))] := by unfold Cz; kernel_rfl
theorem c8_1t : Cz (.win ([x0].map (.int .i64))) true x N C (chain 1 cp) r u W d [.call 12, l8x12F1, l9x27F1, l9x32F1, l9x37F1, .tell 9 42 (.bool true)] [.bool (chkI [x0] != 0), .bool (decide (N < 1)), .bool (decide (N > 8)), .bool (decide (C < 0)), .bool (decide (C > 16))] := by unfold Cz; kernel_rfl
theorem c10_0_1t : Cz (.win ([x0].map (.int .i64))) true x N C (chain 1 cp) r u W d [.call 12, l8x12F1, l9x27F1, l9x32F1, l9x37F1, .tell 9 42 (.bool false), .call 7, .tell 9 60 (.bool true)] [.bool (chkI [x0] != 0), .bool (decide (N < 1)), .bool (decide (N > 8)), .bool (decide (C < 0)), .bool (decide (C > 16)), gtF1 x0 N] := by unfold Cz; kernel_rfl
theorem c4_1f : Cz (.win ([x0].map (.int .i64))) false x N C (chain 1 cp) r u W d [.call 12, .tell 8 12 (.bool true), .tell 9 23 (.bool true)] [.bool (chkI [x0] != 0), .bool (chkI [x0] != 0)] := by unfold Cz; kernel_rfl
theorem c5_1f : Cz (.win ([x0].map (.int .i64))) false x N C (chain 1 cp) r u W d [.call 12, l8x12F1, .tell 9 27 (.bool true)] [.bool (chkI [x0] != 0), .bool (decide (N < 1))] := by unfold Cz; kernel_rfl
theorem c6_1f : Cz (.win ([x0].map (.int .i64))) false x N C (chain 1 cp) r u W d [.call 12, l8x12F1, l9x27F1, .tell 9 32 (.bool true)] [.bool (chkI [x0] != 0), .bool (decide (N < 1)), .bool (decide (N > 8))] := by unfold Cz; kernel_rfl
theorem c7_1f : Cz (.win ([x0].map (.int .i64))) false x N C (chain 1 cp) r u W d [.call 12, l8x12F1, l9x27F1, l9x32F1, .tell 9 37 (.bool true)] [.bool (chkI [x0] != 0), .bool (decide (N < 1)), .bool (decide (N > 8)), .bool (decide (C < 0))] := by unfold Cz; kernel_rfl
theorem c8_1f : Cz (.win ([x0].map (.int .i64))) false x N C (chain 1 cp) r u W d [.call 12, l8x12F1, l9x27F1, l9x32F1, l9x37F1, .tell 9 42 (.bool true)] [.bool (chkI [x0] != 0), .bool (decide (N < 1)), .bool (decide (N > 8)), .bool (decide (C < 0)), .bool (decide (C > 16))] := by unfold Cz; kernel_rfl
theorem c9_1f : Cz (.win ([x0].map (.int .i64))) false x N C (chain 1 cp) r u W d [.call 12, l8x12F1, l9x27F1, l9x32F1, l9x37F1, .tell 9 42 (.bool false), .call 7] [.bool (chkI [x0] != 0), .bool (decide (N < 1)), .bool (decide (N > 8)), .bool (decide (C < 0)), .bool (decide (C > 16))] := by unfold Cz; kernel_rfl
theorem mad_1 : Mad (.win ([x0].map (.int .i64))) x N C (chain 1 cp) r u W 1 [x0] d [.call 12, l8x12F1, l9x27F1, l9x32F1, l9x37F1, .tell 9 42 (.bool false), .call 7, .tell 9 60 (.bool false)] [.bool (chkI [x0] != 0), .bool (decide (N < 1)), .bool (decide (N > 8)), .bool (decide (C < 0)), .bool (decide (C > 16)), gtF1 x0 N] := by unfold Mad; kernel_rfl
end Go.Proofs.YtjoelgicffojcaaGreatDoor.wb
namespace Go.Proofs.YtjoelgicffojcaaGreatDoor.wb
open Go.Eng
set_option maxRecDepth 1000000
set_option linter.unusedVariables false
set_option linter.unusedSimpArgs false
set_option linter.unusedSectionVars false
abbrev l8x12F2 : Leg := .tell 8 12 (.bool false)
abbrev l9x27F2 : Leg := .tell 9 27 (.bool false)
abbrev l9x32F2 : Leg := .tell 9 32 (.bool false)
abbrev l9x37F2 : Leg := .tell 9 37 (.bool false)
abbrev l9x42F2 : Leg := .tell 9 42 (.bool false)
abbrev gtF2 (x N : Int) : Value := .bool (decide (x > N))
variable (x cp : Nat) (N C r u x0 x1 W : Int) (d : Nat → Value)
theorem a9_2 : A ([x0, x1].map (.int .i64)) true x N C (chain 2 cp) r u (In4 true true true true ++ [.call 7, .call 12, .tell 8 12 (.bool true), .tell 4 30 (.bool true)]) (us4 N C ++ [.bool (chkI [x0, x1] != 0), .bool (chkI [x0, x1] != 0)]) false := by unfold A; kernel_rfl
theorem a10_2_0 : A ([x0, x1].map (.int .i64)) true x N C (chain 2 cp) r u (In4 true true true true ++ [.call 7, .call 12, l8x12F2, .tell 4 41 (.bool true)]) (us4 N C ++ [.bool (chkI [x0, x1] != 0)] ++ [gtF2 x0 N]) false := by unfold A; kernel_rfl
theorem a10_2_1 : A ([x0, x1].map (.int .i64)) true x N C (chain 2 cp) r u (In4 true true true true ++ [.call 7, .call 12, l8x12F2, .tell 4 41 (.bool false), .tell 4 41 (.bool true)]) (us4 N C ++ [.bool (chkI [x0, x1] != 0)] ++ [gtF2 x0 N, gtF2 x1 N]) false := by unfold A; kernel_rfl
theorem a11_2 : A ([x0, x1].map (.int .i64)) true x N C (chain 2 cp) r u (In4 true true true true ++ [.call 7, .call 12, l8x12F2, .tell 4 41 (.bool false), .tell 4 41 (.bool false)]) (us4 N C ++ [.bool (chkI [x0, x1] != 0)] ++ [gtF2 x0 N, gtF2 x1 N]) true := by unfold A; kernel_rfl
theorem c4_2t : Cz (.win ([x0, x1].map (.int .i64))) true x N C (chain 2 cp) r u W d [.call 12, .tell 8 12 (.bool true), .tell 9 23 (.bool true)] [.bool (chkI [x0, x1] != 0), .bool (chkI [x0, x1] != 0)] := by unfold Cz; kernel_rfl
theorem c5_2t : Cz (.win ([x0, x1].map (.int .i64))) true x N C (chain 2 cp) r u W d [.call 12, l8x12F2, .tell 9 27 (.bool true)] [.bool (chkI [x0, x1] != 0), .bool (decide (N < 1))] := by unfold Cz; kernel_rfl
theorem c6_2t : Cz (.win ([x0, x1].map (.int .i64))) true x N C (chain 2 cp) r u W d [.call 12, l8x12F2, l9x27F2, .tell 9 32 (.bool true)] [.bool (chkI [x0, x1] != 0), .bool (decide (N < 1)), .bool (decide (N > 8))] := by unfold Cz; kernel_rfl
theorem c7_2t : Cz (.win ([x0, x1].map (.int .i64))) true x N C (chain 2 cp) r u W d [.call 12, l8x12F2, l9x27F2, l9x32F2, .tell 9 37 (.bool true)] [.bool (chkI [x0, x1] != 0), .bool (decide (N < 1)), .bool (decide (N > 8)), .bool (decide (C < 0))] := by unfold Cz; kernel_rfl
theorem c8_2t : Cz (.win ([x0, x1].map (.int .i64))) true x N C (chain 2 cp) r u W d [.call 12, l8x12F2, l9x27F2, l9x32F2, l9x37F2, .tell 9 42 (.bool true)] [.bool (chkI [x0, x1] != 0), .bool (decide (N < 1)), .bool (decide (N > 8)), .bool (decide (C < 0)), .bool (decide (C > 16))] := by unfold Cz; kernel_rfl
theorem c10_0_2t : Cz (.win ([x0, x1].map (.int .i64))) true x N C (chain 2 cp) r u W d [.call 12, l8x12F2, l9x27F2, l9x32F2, l9x37F2, l9x42F2, .call 7, .tell 9 60 (.bool true)] [.bool (chkI [x0, x1] != 0), .bool (decide (N < 1)), .bool (decide (N > 8)), .bool (decide (C < 0)), .bool (decide (C > 16)), gtF2 x0 N] := by unfold Cz; kernel_rfl
theorem c10_1_2t : Cz (.win ([x0, x1].map (.int .i64))) true x N C (chain 2 cp) r u W d [.call 12, l8x12F2, l9x27F2, l9x32F2, l9x37F2, l9x42F2, .call 7, .tell 9 60 (.bool false), .tell 9 60 (.bool true)] [.bool (chkI [x0, x1] != 0), .bool (decide (N < 1)), .bool (decide (N > 8)), .bool (decide (C < 0)), .bool (decide (C > 16)), gtF2 x0 N, gtF2 x1 N] := by unfold Cz; kernel_rfl
theorem c4_2f : Cz (.win ([x0, x1].map (.int .i64))) false x N C (chain 2 cp) r u W d [.call 12, .tell 8 12 (.bool true), .tell 9 23 (.bool true)] [.bool (chkI [x0, x1] != 0), .bool (chkI [x0, x1] != 0)] := by unfold Cz; kernel_rfl
theorem c5_2f : Cz (.win ([x0, x1].map (.int .i64))) false x N C (chain 2 cp) r u W d [.call 12, l8x12F2, .tell 9 27 (.bool true)] [.bool (chkI [x0, x1] != 0), .bool (decide (N < 1))] := by unfold Cz; kernel_rfl
theorem c6_2f : Cz (.win ([x0, x1].map (.int .i64))) false x N C (chain 2 cp) r u W d [.call 12, l8x12F2, l9x27F2, .tell 9 32 (.bool true)] [.bool (chkI [x0, x1] != 0), .bool (decide (N < 1)), .bool (decide (N > 8))] := by unfold Cz; kernel_rfl
theorem c7_2f : Cz (.win ([x0, x1].map (.int .i64))) false x N C (chain 2 cp) r u W d [.call 12, l8x12F2, l9x27F2, l9x32F2, .tell 9 37 (.bool true)] [.bool (chkI [x0, x1] != 0), .bool (decide (N < 1)), .bool (decide (N > 8)), .bool (decide (C < 0))] := by unfold Cz; kernel_rfl
theorem c8_2f : Cz (.win ([x0, x1].map (.int .i64))) false x N C (chain 2 cp) r u W d [.call 12, l8x12F2, l9x27F2, l9x32F2, l9x37F2, .tell 9 42 (.bool true)] [.bool (chkI [x0, x1] != 0), .bool (decide (N < 1)), .bool (decide (N > 8)), .bool (decide (C < 0)), .bool (decide (C > 16))] := by unfold Cz; kernel_rfl
theorem c9_2f : Cz (.win ([x0, x1].map (.int .i64))) false x N C (chain 2 cp) r u W d [.call 12, l8x12F2, l9x27F2, l9x32F2, l9x37F2, l9x42F2, .call 7] [.bool (chkI [x0, x1] != 0), .bool (decide (N < 1)), .bool (decide (N > 8)), .bool (decide (C < 0)), .bool (decide (C > 16))] := by unfold Cz; kernel_rfl
theorem mad_2 : Mad (.win ([x0, x1].map (.int .i64))) x N C (chain 2 cp) r u W 2 [x0, x1] d [.call 12, l8x12F2, l9x27F2, l9x32F2, l9x37F2, l9x42F2, .call 7, .tell 9 60 (.bool false), .tell 9 60 (.bool false)] [.bool (chkI [x0, x1] != 0), .bool (decide (N < 1)), .bool (decide (N > 8)), .bool (decide (C < 0)), .bool (decide (C > 16)), gtF2 x0 N, gtF2 x1 N] := by unfold Mad; kernel_rfl
end Go.Proofs.YtjoelgicffojcaaGreatDoor.wb
namespace Go.Proofs.YtjoelgicffojcaaGreatDoor.wb
open Go.Eng
set_option maxRecDepth 1000000
set_option linter.unusedVariables false
set_option linter.unusedSimpArgs false
set_option linter.unusedSectionVars false
abbrev l4x41F3 : Leg := .tell 4 41 (.bool false)
abbrev l8x12F3 : Leg := .tell 8 12 (.bool false)
abbrev l9x27F3 : Leg := .tell 9 27 (.bool false)
abbrev l9x32F3 : Leg := .tell 9 32 (.bool false)
abbrev l9x37F3 : Leg := .tell 9 37 (.bool false)
abbrev l9x42F3 : Leg := .tell 9 42 (.bool false)
abbrev l9x60F3 : Leg := .tell 9 60 (.bool false)
abbrev gtF3 (x N : Int) : Value := .bool (decide (x > N))
variable (x cp : Nat) (N C r u x0 x1 x2 W : Int) (d : Nat → Value)
theorem a9_3 : A ([x0, x1, x2].map (.int .i64)) true x N C (chain 3 cp) r u (In4 true true true true ++ [.call 7, .call 12, .tell 8 12 (.bool true), .tell 4 30 (.bool true)]) (us4 N C ++ [.bool (chkI [x0, x1, x2] != 0), .bool (chkI [x0, x1, x2] != 0)]) false := by unfold A; kernel_rfl
theorem a10_3_0 : A ([x0, x1, x2].map (.int .i64)) true x N C (chain 3 cp) r u (In4 true true true true ++ [.call 7, .call 12, l8x12F3, .tell 4 41 (.bool true)]) (us4 N C ++ [.bool (chkI [x0, x1, x2] != 0)] ++ [gtF3 x0 N]) false := by unfold A; kernel_rfl
theorem a10_3_1 : A ([x0, x1, x2].map (.int .i64)) true x N C (chain 3 cp) r u (In4 true true true true ++ [.call 7, .call 12, l8x12F3, l4x41F3, .tell 4 41 (.bool true)]) (us4 N C ++ [.bool (chkI [x0, x1, x2] != 0)] ++ [gtF3 x0 N, gtF3 x1 N]) false := by unfold A; kernel_rfl
theorem a10_3_2 : A ([x0, x1, x2].map (.int .i64)) true x N C (chain 3 cp) r u (In4 true true true true ++ [.call 7, .call 12, l8x12F3, l4x41F3, l4x41F3, .tell 4 41 (.bool true)]) (us4 N C ++ [.bool (chkI [x0, x1, x2] != 0)] ++ [gtF3 x0 N, gtF3 x1 N, gtF3 x2 N]) false := by unfold A; kernel_rfl
theorem a11_3 : A ([x0, x1, x2].map (.int .i64)) true x N C (chain 3 cp) r u (In4 true true true true ++ [.call 7, .call 12, l8x12F3, l4x41F3, l4x41F3, l4x41F3]) (us4 N C ++ [.bool (chkI [x0, x1, x2] != 0)] ++ [gtF3 x0 N, gtF3 x1 N, gtF3 x2 N]) true := by unfold A; kernel_rfl
theorem c4_3t : Cz (.win ([x0, x1, x2].map (.int .i64))) true x N C (chain 3 cp) r u W d [.call 12, .tell 8 12 (.bool true), .tell 9 23 (.bool true)] [.bool (chkI [x0, x1, x2] != 0), .bool (chkI [x0, x1, x2] != 0)] := by unfold Cz; kernel_rfl
theorem c5_3t : Cz (.win ([x0, x1, x2].map (.int .i64))) true x N C (chain 3 cp) r u W d [.call 12, l8x12F3, .tell 9 27 (.bool true)] [.bool (chkI [x0, x1, x2] != 0), .bool (decide (N < 1))] := by unfold Cz; kernel_rfl
theorem c6_3t : Cz (.win ([x0, x1, x2].map (.int .i64))) true x N C (chain 3 cp) r u W d [.call 12, l8x12F3, l9x27F3, .tell 9 32 (.bool true)] [.bool (chkI [x0, x1, x2] != 0), .bool (decide (N < 1)), .bool (decide (N > 8))] := by unfold Cz; kernel_rfl
theorem c7_3t : Cz (.win ([x0, x1, x2].map (.int .i64))) true x N C (chain 3 cp) r u W d [.call 12, l8x12F3, l9x27F3, l9x32F3, .tell 9 37 (.bool true)] [.bool (chkI [x0, x1, x2] != 0), .bool (decide (N < 1)), .bool (decide (N > 8)), .bool (decide (C < 0))] := by unfold Cz; kernel_rfl
theorem c8_3t : Cz (.win ([x0, x1, x2].map (.int .i64))) true x N C (chain 3 cp) r u W d [.call 12, l8x12F3, l9x27F3, l9x32F3, l9x37F3, .tell 9 42 (.bool true)] [.bool (chkI [x0, x1, x2] != 0), .bool (decide (N < 1)), .bool (decide (N > 8)), .bool (decide (C < 0)), .bool (decide (C > 16))] := by unfold Cz; kernel_rfl
theorem c10_0_3t : Cz (.win ([x0, x1, x2].map (.int .i64))) true x N C (chain 3 cp) r u W d [.call 12, l8x12F3, l9x27F3, l9x32F3, l9x37F3, l9x42F3, .call 7, .tell 9 60 (.bool true)] [.bool (chkI [x0, x1, x2] != 0), .bool (decide (N < 1)), .bool (decide (N > 8)), .bool (decide (C < 0)), .bool (decide (C > 16)), gtF3 x0 N] := by unfold Cz; kernel_rfl
theorem c10_1_3t : Cz (.win ([x0, x1, x2].map (.int .i64))) true x N C (chain 3 cp) r u W d [.call 12, l8x12F3, l9x27F3, l9x32F3, l9x37F3, l9x42F3, .call 7, l9x60F3, .tell 9 60 (.bool true)] [.bool (chkI [x0, x1, x2] != 0), .bool (decide (N < 1)), .bool (decide (N > 8)), .bool (decide (C < 0)), .bool (decide (C > 16)), gtF3 x0 N, gtF3 x1 N] := by unfold Cz; kernel_rfl
theorem c10_2_3t : Cz (.win ([x0, x1, x2].map (.int .i64))) true x N C (chain 3 cp) r u W d [.call 12, l8x12F3, l9x27F3, l9x32F3, l9x37F3, l9x42F3, .call 7, l9x60F3, l9x60F3, .tell 9 60 (.bool true)] [.bool (chkI [x0, x1, x2] != 0), .bool (decide (N < 1)), .bool (decide (N > 8)), .bool (decide (C < 0)), .bool (decide (C > 16)), gtF3 x0 N, gtF3 x1 N, gtF3 x2 N] := by unfold Cz; kernel_rfl
theorem c4_3f : Cz (.win ([x0, x1, x2].map (.int .i64))) false x N C (chain 3 cp) r u W d [.call 12, .tell 8 12 (.bool true), .tell 9 23 (.bool true)] [.bool (chkI [x0, x1, x2] != 0), .bool (chkI [x0, x1, x2] != 0)] := by unfold Cz; kernel_rfl
theorem c5_3f : Cz (.win ([x0, x1, x2].map (.int .i64))) false x N C (chain 3 cp) r u W d [.call 12, l8x12F3, .tell 9 27 (.bool true)] [.bool (chkI [x0, x1, x2] != 0), .bool (decide (N < 1))] := by unfold Cz; kernel_rfl
theorem c6_3f : Cz (.win ([x0, x1, x2].map (.int .i64))) false x N C (chain 3 cp) r u W d [.call 12, l8x12F3, l9x27F3, .tell 9 32 (.bool true)] [.bool (chkI [x0, x1, x2] != 0), .bool (decide (N < 1)), .bool (decide (N > 8))] := by unfold Cz; kernel_rfl
theorem c7_3f : Cz (.win ([x0, x1, x2].map (.int .i64))) false x N C (chain 3 cp) r u W d [.call 12, l8x12F3, l9x27F3, l9x32F3, .tell 9 37 (.bool true)] [.bool (chkI [x0, x1, x2] != 0), .bool (decide (N < 1)), .bool (decide (N > 8)), .bool (decide (C < 0))] := by unfold Cz; kernel_rfl
theorem c8_3f : Cz (.win ([x0, x1, x2].map (.int .i64))) false x N C (chain 3 cp) r u W d [.call 12, l8x12F3, l9x27F3, l9x32F3, l9x37F3, .tell 9 42 (.bool true)] [.bool (chkI [x0, x1, x2] != 0), .bool (decide (N < 1)), .bool (decide (N > 8)), .bool (decide (C < 0)), .bool (decide (C > 16))] := by unfold Cz; kernel_rfl
theorem c9_3f : Cz (.win ([x0, x1, x2].map (.int .i64))) false x N C (chain 3 cp) r u W d [.call 12, l8x12F3, l9x27F3, l9x32F3, l9x37F3, l9x42F3, .call 7] [.bool (chkI [x0, x1, x2] != 0), .bool (decide (N < 1)), .bool (decide (N > 8)), .bool (decide (C < 0)), .bool (decide (C > 16))] := by unfold Cz; kernel_rfl
theorem mad_3 : Mad (.win ([x0, x1, x2].map (.int .i64))) x N C (chain 3 cp) r u W 3 [x0, x1, x2] d [.call 12, l8x12F3, l9x27F3, l9x32F3, l9x37F3, l9x42F3, .call 7, l9x60F3, l9x60F3, l9x60F3] [.bool (chkI [x0, x1, x2] != 0), .bool (decide (N < 1)), .bool (decide (N > 8)), .bool (decide (C < 0)), .bool (decide (C > 16)), gtF3 x0 N, gtF3 x1 N, gtF3 x2 N] := by unfold Mad; kernel_rfl
end Go.Proofs.YtjoelgicffojcaaGreatDoor.wb
namespace Go.Proofs.YtjoelgicffojcaaGreatDoor.wb
open Go.Eng
set_option maxRecDepth 1000000
set_option linter.unusedVariables false
set_option linter.unusedSimpArgs false
set_option linter.unusedSectionVars false
abbrev l4x41F4 : Leg := .tell 4 41 (.bool false)
abbrev l8x12F4 : Leg := .tell 8 12 (.bool false)
abbrev l9x27F4 : Leg := .tell 9 27 (.bool false)
abbrev l9x32F4 : Leg := .tell 9 32 (.bool false)
abbrev l9x37F4 : Leg := .tell 9 37 (.bool false)
abbrev l9x42F4 : Leg := .tell 9 42 (.bool false)
abbrev l9x60F4 : Leg := .tell 9 60 (.bool false)
abbrev gtF4 (x N : Int) : Value := .bool (decide (x > N))
variable (x cp : Nat) (N C r u x0 x1 x2 x3 W : Int) (d : Nat → Value)
theorem a9_4 : A ([x0, x1, x2, x3].map (.int .i64)) true x N C (chain 4 cp) r u (In4 true true true true ++ [.call 7, .call 12, .tell 8 12 (.bool true), .tell 4 30 (.bool true)]) (us4 N C ++ [.bool (chkI [x0, x1, x2, x3] != 0), .bool (chkI [x0, x1, x2, x3] != 0)]) false := by unfold A; kernel_rfl
theorem a10_4_0 : A ([x0, x1, x2, x3].map (.int .i64)) true x N C (chain 4 cp) r u (In4 true true true true ++ [.call 7, .call 12, l8x12F4, .tell 4 41 (.bool true)]) (us4 N C ++ [.bool (chkI [x0, x1, x2, x3] != 0)] ++ [gtF4 x0 N]) false := by unfold A; kernel_rfl
theorem a10_4_1 : A ([x0, x1, x2, x3].map (.int .i64)) true x N C (chain 4 cp) r u (In4 true true true true ++ [.call 7, .call 12, l8x12F4, l4x41F4, .tell 4 41 (.bool true)]) (us4 N C ++ [.bool (chkI [x0, x1, x2, x3] != 0)] ++ [gtF4 x0 N, gtF4 x1 N]) false := by unfold A; kernel_rfl
theorem a10_4_2 : A ([x0, x1, x2, x3].map (.int .i64)) true x N C (chain 4 cp) r u (In4 true true true true ++ [.call 7, .call 12, l8x12F4, l4x41F4, l4x41F4, .tell 4 41 (.bool true)]) (us4 N C ++ [.bool (chkI [x0, x1, x2, x3] != 0)] ++ [gtF4 x0 N, gtF4 x1 N, gtF4 x2 N]) false := by unfold A; kernel_rfl
theorem a10_4_3 : A ([x0, x1, x2, x3].map (.int .i64)) true x N C (chain 4 cp) r u (In4 true true true true ++ [.call 7, .call 12, l8x12F4, l4x41F4, l4x41F4, l4x41F4, .tell 4 41 (.bool true)]) (us4 N C ++ [.bool (chkI [x0, x1, x2, x3] != 0)] ++ [gtF4 x0 N, gtF4 x1 N, gtF4 x2 N, gtF4 x3 N]) false := by unfold A; kernel_rfl
theorem a11_4 : A ([x0, x1, x2, x3].map (.int .i64)) true x N C (chain 4 cp) r u (In4 true true true true ++ [.call 7, .call 12, l8x12F4, l4x41F4, l4x41F4, l4x41F4, l4x41F4]) (us4 N C ++ [.bool (chkI [x0, x1, x2, x3] != 0)] ++ [gtF4 x0 N, gtF4 x1 N, gtF4 x2 N, gtF4 x3 N]) true := by unfold A; kernel_rfl
theorem c4_4t : Cz (.win ([x0, x1, x2, x3].map (.int .i64))) true x N C (chain 4 cp) r u W d [.call 12, .tell 8 12 (.bool true), .tell 9 23 (.bool true)] [.bool (chkI [x0, x1, x2, x3] != 0), .bool (chkI [x0, x1, x2, x3] != 0)] := by unfold Cz; kernel_rfl
theorem c5_4t : Cz (.win ([x0, x1, x2, x3].map (.int .i64))) true x N C (chain 4 cp) r u W d [.call 12, l8x12F4, .tell 9 27 (.bool true)] [.bool (chkI [x0, x1, x2, x3] != 0), .bool (decide (N < 1))] := by unfold Cz; kernel_rfl
theorem c6_4t : Cz (.win ([x0, x1, x2, x3].map (.int .i64))) true x N C (chain 4 cp) r u W d [.call 12, l8x12F4, l9x27F4, .tell 9 32 (.bool true)] [.bool (chkI [x0, x1, x2, x3] != 0), .bool (decide (N < 1)), .bool (decide (N > 8))] := by unfold Cz; kernel_rfl
theorem c7_4t : Cz (.win ([x0, x1, x2, x3].map (.int .i64))) true x N C (chain 4 cp) r u W d [.call 12, l8x12F4, l9x27F4, l9x32F4, .tell 9 37 (.bool true)] [.bool (chkI [x0, x1, x2, x3] != 0), .bool (decide (N < 1)), .bool (decide (N > 8)), .bool (decide (C < 0))] := by unfold Cz; kernel_rfl
theorem c8_4t : Cz (.win ([x0, x1, x2, x3].map (.int .i64))) true x N C (chain 4 cp) r u W d [.call 12, l8x12F4, l9x27F4, l9x32F4, l9x37F4, .tell 9 42 (.bool true)] [.bool (chkI [x0, x1, x2, x3] != 0), .bool (decide (N < 1)), .bool (decide (N > 8)), .bool (decide (C < 0)), .bool (decide (C > 16))] := by unfold Cz; kernel_rfl
theorem c10_0_4t : Cz (.win ([x0, x1, x2, x3].map (.int .i64))) true x N C (chain 4 cp) r u W d [.call 12, l8x12F4, l9x27F4, l9x32F4, l9x37F4, l9x42F4, .call 7, .tell 9 60 (.bool true)] [.bool (chkI [x0, x1, x2, x3] != 0), .bool (decide (N < 1)), .bool (decide (N > 8)), .bool (decide (C < 0)), .bool (decide (C > 16)), gtF4 x0 N] := by unfold Cz; kernel_rfl
theorem c10_1_4t : Cz (.win ([x0, x1, x2, x3].map (.int .i64))) true x N C (chain 4 cp) r u W d [.call 12, l8x12F4, l9x27F4, l9x32F4, l9x37F4, l9x42F4, .call 7, l9x60F4, .tell 9 60 (.bool true)] [.bool (chkI [x0, x1, x2, x3] != 0), .bool (decide (N < 1)), .bool (decide (N > 8)), .bool (decide (C < 0)), .bool (decide (C > 16)), gtF4 x0 N, gtF4 x1 N] := by unfold Cz; kernel_rfl
theorem c10_2_4t : Cz (.win ([x0, x1, x2, x3].map (.int .i64))) true x N C (chain 4 cp) r u W d [.call 12, l8x12F4, l9x27F4, l9x32F4, l9x37F4, l9x42F4, .call 7, l9x60F4, l9x60F4, .tell 9 60 (.bool true)] [.bool (chkI [x0, x1, x2, x3] != 0), .bool (decide (N < 1)), .bool (decide (N > 8)), .bool (decide (C < 0)), .bool (decide (C > 16)), gtF4 x0 N, gtF4 x1 N, gtF4 x2 N] := by unfold Cz; kernel_rfl
theorem c10_3_4t : Cz (.win ([x0, x1, x2, x3].map (.int .i64))) true x N C (chain 4 cp) r u W d [.call 12, l8x12F4, l9x27F4, l9x32F4, l9x37F4, l9x42F4, .call 7, l9x60F4, l9x60F4, l9x60F4, .tell 9 60 (.bool true)] [.bool (chkI [x0, x1, x2, x3] != 0), .bool (decide (N < 1)), .bool (decide (N > 8)), .bool (decide (C < 0)), .bool (decide (C > 16)), gtF4 x0 N, gtF4 x1 N, gtF4 x2 N, gtF4 x3 N] := by unfold Cz; kernel_rfl
theorem c4_4f : Cz (.win ([x0, x1, x2, x3].map (.int .i64))) false x N C (chain 4 cp) r u W d [.call 12, .tell 8 12 (.bool true), .tell 9 23 (.bool true)] [.bool (chkI [x0, x1, x2, x3] != 0), .bool (chkI [x0, x1, x2, x3] != 0)] := by unfold Cz; kernel_rfl
theorem c5_4f : Cz (.win ([x0, x1, x2, x3].map (.int .i64))) false x N C (chain 4 cp) r u W d [.call 12, l8x12F4, .tell 9 27 (.bool true)] [.bool (chkI [x0, x1, x2, x3] != 0), .bool (decide (N < 1))] := by unfold Cz; kernel_rfl
theorem c6_4f : Cz (.win ([x0, x1, x2, x3].map (.int .i64))) false x N C (chain 4 cp) r u W d [.call 12, l8x12F4, l9x27F4, .tell 9 32 (.bool true)] [.bool (chkI [x0, x1, x2, x3] != 0), .bool (decide (N < 1)), .bool (decide (N > 8))] := by unfold Cz; kernel_rfl
theorem c7_4f : Cz (.win ([x0, x1, x2, x3].map (.int .i64))) false x N C (chain 4 cp) r u W d [.call 12, l8x12F4, l9x27F4, l9x32F4, .tell 9 37 (.bool true)] [.bool (chkI [x0, x1, x2, x3] != 0), .bool (decide (N < 1)), .bool (decide (N > 8)), .bool (decide (C < 0))] := by unfold Cz; kernel_rfl
theorem c8_4f : Cz (.win ([x0, x1, x2, x3].map (.int .i64))) false x N C (chain 4 cp) r u W d [.call 12, l8x12F4, l9x27F4, l9x32F4, l9x37F4, .tell 9 42 (.bool true)] [.bool (chkI [x0, x1, x2, x3] != 0), .bool (decide (N < 1)), .bool (decide (N > 8)), .bool (decide (C < 0)), .bool (decide (C > 16))] := by unfold Cz; kernel_rfl
theorem c9_4f : Cz (.win ([x0, x1, x2, x3].map (.int .i64))) false x N C (chain 4 cp) r u W d [.call 12, l8x12F4, l9x27F4, l9x32F4, l9x37F4, l9x42F4, .call 7] [.bool (chkI [x0, x1, x2, x3] != 0), .bool (decide (N < 1)), .bool (decide (N > 8)), .bool (decide (C < 0)), .bool (decide (C > 16))] := by unfold Cz; kernel_rfl
theorem mad_4 : Mad (.win ([x0, x1, x2, x3].map (.int .i64))) x N C (chain 4 cp) r u W 4 [x0, x1, x2, x3] d [.call 12, l8x12F4, l9x27F4, l9x32F4, l9x37F4, l9x42F4, .call 7, l9x60F4, l9x60F4, l9x60F4, l9x60F4] [.bool (chkI [x0, x1, x2, x3] != 0), .bool (decide (N < 1)), .bool (decide (N > 8)), .bool (decide (C < 0)), .bool (decide (C > 16)), gtF4 x0 N, gtF4 x1 N, gtF4 x2 N, gtF4 x3 N] := by unfold Mad; kernel_rfl
end Go.Proofs.YtjoelgicffojcaaGreatDoor.wb
