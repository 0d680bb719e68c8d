/-
  SenderNews: merkle.Node of any digests: pieces of the run, part 6.
-/
import Derived.KernelRfl
import Derived.Test.YtokhollghednaaaGreatDoorSenderNewsNodsSt
namespace Go.Proofs.YtokhollghednaaaGreatDoor.senderNews
open Go.Eng
set_option maxRecDepth 1000000
set_option linter.unusedVariables false
set_option linter.unusedSimpArgs false
set_option linter.unusedSectionVars false
namespace nods
theorem piece12 : ∀ d u w, (krun Tryz.prog R 18 ((atE 4 d u w).st keys)).map (St.snap keys) = some (atO 4 d u w) := by
  intros
  kernel_rfl
theorem piece13 : ∀ d u w, (krun Tryz.prog R 1 ((atO 4 d u w).st keys)).map (St.snap keys) = some (atE 5 d w (exW 54 (krun Tryz.prog R 1 ((atO 4 d u w).st keys)))) := by
  intros
  kernel_rfl
end nods
end Go.Proofs.YtokhollghednaaaGreatDoor.senderNews
namespace Go.Proofs.YtokhollghednaaaGreatDoor.senderNews
open Go.Eng
set_option maxRecDepth 1000000
set_option linter.unusedVariables false
set_option linter.unusedSimpArgs false
set_option linter.unusedSectionVars false
namespace nods
theorem piece14 : ∀ d u w, (krun Tryz.prog R 18 ((atE 5 d u w).st keys)).map (St.snap keys) = some (atO 5 d u w) := by
  intros
  kernel_rfl
theorem piece15 : ∀ d u w, (krun Tryz.prog R 1 ((atO 5 d u w).st keys)).map (St.snap keys) = some (atE 6 d w (exW 54 (krun Tryz.prog R 1 ((atO 5 d u w).st keys)))) := by
  intros
  kernel_rfl
end nods
end Go.Proofs.YtokhollghednaaaGreatDoor.senderNews
namespace Go.Proofs.YtokhollghednaaaGreatDoor.senderNews
open Go.Eng
set_option maxRecDepth 1000000
set_option linter.unusedVariables false
set_option linter.unusedSimpArgs false
set_option linter.unusedSectionVars false
namespace nods
theorem piece16 : ∀ d u w, finOk Tryz.prog 91 isDig (krun Tryz.prog R 6483 ((atE 6 d u w).st keys)) = true := by
  intros
  kernel_rfl
end nods
end Go.Proofs.YtokhollghednaaaGreatDoor.senderNews
