/-
  SenderMade: merkle.Node: pieces of the run, part 0.
-/
import Derived.KernelRfl
import Derived.Test.YtoaplpdbmpendaaGreatDoorSenderMadeNodeSt
namespace Go.Proofs.YtoaplpdbmpendaaGreatDoor.senderMade
open Go.Eng
set_option maxRecDepth 1000000
set_option linter.unusedVariables false
set_option linter.unusedSimpArgs false
set_option linter.unusedSectionVars false
namespace node
theorem piece0 : outcome keys1 at1 (krun Tryz.prog (fRec Tryz.prog noHook 1000 60) 583 start) = some (at1.ks, true) := by kernel_rfl
theorem piece1 : outcome keys2 at2 (krun Tryz.prog (fRec Tryz.prog noHook 1000 60) 1 (at1.st keys1)) = some (at2.ks, true) := by kernel_rfl
theorem piece2 : outcome keys3 at3 (krun Tryz.prog (fRec Tryz.prog noHook 1000 60) 18 (at2.st keys2)) = some (at3.ks, true) := by kernel_rfl
end node
end Go.Proofs.YtoaplpdbmpendaaGreatDoor.senderMade
