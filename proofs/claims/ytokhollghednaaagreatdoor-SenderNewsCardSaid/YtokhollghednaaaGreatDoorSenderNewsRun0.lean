/-
  SenderNews: its run past the comparisons.
-/
import Derived.KernelRfl
import Derived.Test.YtokhollghednaaaGreatDoorSenderNewsNewsHook
namespace Go.Proofs.YtokhollghednaaaGreatDoor.senderNews
open Go.Eng Go.Conc.Lib
set_option maxRecDepth 1000000
set_option linter.unusedVariables false
set_option linter.unusedSimpArgs false
set_option linter.unusedSectionVars false
theorem low (a d w p c l : Int) : routeOut Tryz.prog R 3 [26, 4] [(2860, 12, true), (23, 27, true)] (start a d w p c l) = some ([.bool (decide (a < 1)), .bool (decide (a < 1))], (.bool true, (CH.first laid).heads)) := by kernel_rfl
theorem high (a d w p c l : Int) : routeOut Tryz.prog R 3 [23, 4] [(2860, 12, false), (3, 15, true), (20, 27, false), (3, 30, true)] (start a d w p c l) = some ([.bool (decide (a < 1)), .bool (decide (a > 1152921504606846976)), .bool (decide (a < 1)), .bool (decide (a > 1152921504606846976))], (.bool true, (CH.first laid).heads)) := by kernel_rfl
theorem ref0 (a d w p c l : Int) : routeOut Tryz.prog R 3 [68, 4] [(2860, 12, false), (3, 15, false), (132, 9, false), (73, 27, false), (3, 30, false), (14, 5, false)] (start a d w p c l) = some ([.bool (decide (a < 1)), .bool (decide (a > 1152921504606846976)), .bool (decide (d ≥ 1)), .bool (decide (a < 1)), .bool (decide (a > 1152921504606846976)), .bool (decide (d ≥ 1))], (.bool true, (CH.first laid).heads)) := by kernel_rfl
theorem ref1 (a d w p c l : Int) : routeOut Tryz.prog R 3 [64, 4] [(2860, 12, false), (3, 15, false), (132, 9, true), (4, 13, false), (69, 27, false), (3, 30, false), (14, 5, true), (4, 9, false)] (start a d w p c l) = some ([.bool (decide (a < 1)), .bool (decide (a > 1152921504606846976)), .bool (decide (d ≥ 1)), .bool (decide (d ≤ 3)), .bool (decide (a < 1)), .bool (decide (a > 1152921504606846976)), .bool (decide (d ≥ 1)), .bool (decide (d ≤ 3))], (.bool true, (CH.first laid).heads)) := by kernel_rfl
theorem ref2 (a d w p c l : Int) : routeOut Tryz.prog R 3 [59, 4] [(2860, 12, false), (3, 15, false), (132, 9, true), (4, 13, true), (20, 9, false), (67, 27, false), (3, 30, false), (14, 5, true), (4, 9, true), (5, 14, false)] (start a d w p c l) = some ([.bool (decide (a < 1)), .bool (decide (a > 1152921504606846976)), .bool (decide (d ≥ 1)), .bool (decide (d ≤ 3)), .bool (decide (w ≥ 1)), .bool (decide (a < 1)), .bool (decide (a > 1152921504606846976)), .bool (decide (d ≥ 1)), .bool (decide (d ≤ 3)), .bool (decide (w ≥ 1))], (.bool true, (CH.first laid).heads)) := by kernel_rfl
theorem ref3 (a d w p c l : Int) : routeOut Tryz.prog R 3 [54, 4] [(2860, 12, false), (3, 15, false), (132, 9, true), (4, 13, true), (20, 9, true), (4, 13, false), (63, 27, false), (3, 30, false), (14, 5, true), (4, 9, true), (5, 14, true), (5, 19, false)] (start a d w p c l) = some ([.bool (decide (a < 1)), .bool (decide (a > 1152921504606846976)), .bool (decide (d ≥ 1)), .bool (decide (d ≤ 3)), .bool (decide (w ≥ 1)), .bool (decide (w ≤ 64)), .bool (decide (a < 1)), .bool (decide (a > 1152921504606846976)), .bool (decide (d ≥ 1)), .bool (decide (d ≤ 3)), .bool (decide (w ≥ 1)), .bool (decide (w ≤ 64))], (.bool true, (CH.first laid).heads)) := by kernel_rfl
end Go.Proofs.YtokhollghednaaaGreatDoor.senderNews
