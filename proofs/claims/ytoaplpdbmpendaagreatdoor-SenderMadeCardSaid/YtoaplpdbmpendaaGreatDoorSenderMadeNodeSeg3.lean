/-
  SenderMade: merkle.Node: pieces of the run, part 3.
-/
import Derived.KernelRfl
import Derived.Test.YtoaplpdbmpendaaGreatDoorSenderMadeNodeSt
namespace Go.Proofs.YtoaplpdbmpendaaGreatDoor.senderMade
open Go.Eng
set_option maxRecDepth 1000000
set_option linter.unusedVariables false
set_option linter.unusedSimpArgs false
set_option linter.unusedSectionVars false
namespace node
theorem piece9 : outcome keys10 at10 (krun Tryz.prog (fRec Tryz.prog noHook 1000 60) 1 (at9.st keys9)) = some (at10.ks, true) := by kernel_rfl
theorem piece10 : outcome keys11 at11 (krun Tryz.prog (fRec Tryz.prog noHook 1000 60) 18 (at10.st keys10)) = some (at11.ks, true) := by kernel_rfl
theorem piece11 : outcome keys12 at12 (krun Tryz.prog (fRec Tryz.prog noHook 1000 60) 1 (at11.st keys11)) = some (at12.ks, true) := by kernel_rfl
end node
end Go.Proofs.YtoaplpdbmpendaaGreatDoor.senderMade
