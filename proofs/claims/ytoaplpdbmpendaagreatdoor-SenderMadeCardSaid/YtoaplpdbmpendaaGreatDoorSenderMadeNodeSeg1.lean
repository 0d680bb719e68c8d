/-
  SenderMade: merkle.Node: pieces of the run, part 1.
-/
import Derived.KernelRfl
import Derived.Test.YtoaplpdbmpendaaGreatDoorSenderMadeNodeSt
namespace Go.Proofs.YtoaplpdbmpendaaGreatDoor.senderMade
open Go.Eng
set_option maxRecDepth 1000000
set_option linter.unusedVariables false
set_option linter.unusedSimpArgs false
set_option linter.unusedSectionVars false
namespace node
theorem piece3 : outcome keys4 at4 (krun Tryz.prog (fRec Tryz.prog noHook 1000 60) 1 (at3.st keys3)) = some (at4.ks, true) := by kernel_rfl
theorem piece4 : outcome keys5 at5 (krun Tryz.prog (fRec Tryz.prog noHook 1000 60) 18 (at4.st keys4)) = some (at5.ks, true) := by kernel_rfl
theorem piece5 : outcome keys6 at6 (krun Tryz.prog (fRec Tryz.prog noHook 1000 60) 1 (at5.st keys5)) = some (at6.ks, true) := by kernel_rfl
end node
end Go.Proofs.YtoaplpdbmpendaaGreatDoor.senderMade
