/-
  SenderMade: merkle.Node: pieces of the run, part 4.
-/
import Derived.KernelRfl
import Derived.Test.YtoaplpdbmpendaaGreatDoorSenderMadeNodeSt
namespace Go.Proofs.YtoaplpdbmpendaaGreatDoor.senderMade
open Go.Eng
set_option maxRecDepth 1000000
set_option linter.unusedVariables false
set_option linter.unusedSimpArgs false
set_option linter.unusedSectionVars false
namespace node
theorem piece12 : outcome keys13 at13 (krun Tryz.prog (fRec Tryz.prog noHook 1000 60) 18 (at12.st keys12)) = some (at13.ks, true) := by kernel_rfl
theorem piece13 : outcome keys14 at14 (krun Tryz.prog (fRec Tryz.prog noHook 1000 60) 1 (at13.st keys13)) = some (at14.ks, true) := by kernel_rfl
theorem piece14 : outcome keys15 at15 (krun Tryz.prog (fRec Tryz.prog noHook 1000 60) 18 (at14.st keys14)) = some (at15.ks, true) := by kernel_rfl
end node
end Go.Proofs.YtoaplpdbmpendaaGreatDoor.senderMade
