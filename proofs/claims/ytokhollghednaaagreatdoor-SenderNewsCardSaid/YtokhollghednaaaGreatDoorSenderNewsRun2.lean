/-
  SenderNews: its run past the comparisons.
-/
import Derived.KernelRfl
import Derived.Test.YtokhollghednaaaGreatDoorSenderNewsNewsHook
namespace Go.Proofs.YtokhollghednaaaGreatDoor.senderNews
open Go.Eng Go.Conc.Lib
set_option maxRecDepth 1000000
set_option linter.unusedVariables false
set_option linter.unusedSimpArgs false
set_option linter.unusedSectionVars false
theorem new1 (a w p c l : Int) : routeOut Tryz.prog R 3 [31, 4] [(2860, 12, false), (3, 15, false), (132, 9, true), (4, 13, true), (20, 9, true), (4, 13, true), (21, 9, true), (4, 13, true), (21, 9, true), (4, 13, true), (21, 9, true), (4, 13, true), (99, 27, false), (3, 30, false), (14, 5, true), (4, 9, true), (5, 14, true), (5, 19, true), (5, 24, true), (5, 29, true), (5, 34, true), (5, 39, true), (5, 44, true), (5, 49, true), (32, 12, false), (3, 15, false), (91, 10, true), (49, 10, true), (21, 64, true), (27, 10, true), (47, 10, true), (48, 10, true), (47, 10, true), (55, 10, true)] (start a (Int.ofNat 1) w p c l) = some ([.bool (decide (a < 1)), .bool (decide (a > 1152921504606846976)), .bool (decide ((Int.ofNat 1) ≥ 1)), .bool (decide ((Int.ofNat 1) ≤ 3)), .bool (decide (w ≥ 1)), .bool (decide (w ≤ 64)), .bool (decide (p ≥ 1)), .bool (decide (p ≤ 100)), .bool (decide (c ≥ 64)), .bool (decide (c ≤ 262144)), .bool (decide (l ≥ 1)), .bool (decide (l ≤ 4096)), .bool (decide (a < 1)), .bool (decide (a > 1152921504606846976)), .bool (decide ((Int.ofNat 1) ≥ 1)), .bool (decide ((Int.ofNat 1) ≤ 3)), .bool (decide (w ≥ 1)), .bool (decide (w ≤ 64)), .bool (decide (p ≥ 1)), .bool (decide (p ≤ 100)), .bool (decide (c ≥ 64)), .bool (decide (c ≤ 262144)), .bool (decide (l ≥ 1)), .bool (decide (l ≤ 4096)), .bool (decide (a < 1)), .bool (decide (a > 1152921504606846976)), .bool (decide (a > 0)), .bool (decide (a > 0)), .bool (a == a), .bool (decide (a > 0)), .bool (decide (a > 0)), .bool (decide (a > 0)), .bool (decide (a > 0)), .bool (decide (a > 0))], (.bool true, (CH.first laid).heads)) := by kernel_rfl
end Go.Proofs.YtokhollghednaaaGreatDoor.senderNews
