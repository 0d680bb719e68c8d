/-
  SenderMade: merkle.Node: pieces of the run, part 2.
-/
import Derived.KernelRfl
import Derived.Test.YtoaplpdbmpendaaGreatDoorSenderMadeNodeSt
namespace Go.Proofs.YtoaplpdbmpendaaGreatDoor.senderMade
open Go.Eng
set_option maxRecDepth 1000000
set_option linter.unusedVariables false
set_option linter.unusedSimpArgs false
set_option linter.unusedSectionVars false
namespace node
theorem piece6 : outcome keys7 at7 (krun Tryz.prog (fRec Tryz.prog noHook 1000 60) 18 (at6.st keys6)) = some (at7.ks, true) := by kernel_rfl
theorem piece7 : outcome keys8 at8 (krun Tryz.prog (fRec Tryz.prog noHook 1000 60) 1 (at7.st keys7)) = some (at8.ks, true) := by kernel_rfl
theorem piece8 : outcome keys9 at9 (krun Tryz.prog (fRec Tryz.prog noHook 1000 60) 18 (at8.st keys8)) = some (at9.ks, true) := by kernel_rfl
end node
end Go.Proofs.YtoaplpdbmpendaaGreatDoor.senderMade
