/-
  SenderMade: merkle.Node: pieces of the run, part 5.
-/
import Derived.KernelRfl
import Derived.Test.YtoaplpdbmpendaaGreatDoorSenderMadeNodeSt
namespace Go.Proofs.YtoaplpdbmpendaaGreatDoor.senderMade
open Go.Eng
set_option maxRecDepth 1000000
set_option linter.unusedVariables false
set_option linter.unusedSimpArgs false
set_option linter.unusedSectionVars false
namespace node
theorem piece15 : outcome keys16 at16 (krun Tryz.prog (fRec Tryz.prog noHook 1000 60) 1 (at15.st keys15)) = some (at16.ks, true) := by kernel_rfl
theorem piece16 : finIs Tryz.prog 101 nodeVal (krun Tryz.prog (fRec Tryz.prog noHook 1000 60) 6483 (at16.st keys16)) = true := by kernel_rfl
end node
end Go.Proofs.YtoaplpdbmpendaaGreatDoor.senderMade
