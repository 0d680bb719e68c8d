/-
  SenderNews: merkle.Node of any digests: pieces of the run, part 3.
-/
import Derived.KernelRfl
import Derived.Test.YtokhollghednaaaGreatDoorSenderNewsNodsSt
namespace Go.Proofs.YtokhollghednaaaGreatDoor.senderNews
open Go.Eng
set_option maxRecDepth 1000000
set_option linter.unusedVariables false
set_option linter.unusedSimpArgs false
set_option linter.unusedSectionVars false
namespace nods
theorem piece6 : ∀ d u w, (krun Tryz.prog R 18 ((atE 1 d u w).st keys)).map (St.snap keys) = some (atO 1 d u w) := by
  intros
  kernel_rfl
theorem piece7 : ∀ d u w, (krun Tryz.prog R 1 ((atO 1 d u w).st keys)).map (St.snap keys) = some (atE 2 d w (exW 54 (krun Tryz.prog R 1 ((atO 1 d u w).st keys)))) := by
  intros
  kernel_rfl
end nods
end Go.Proofs.YtokhollghednaaaGreatDoor.senderNews
namespace Go.Proofs.YtokhollghednaaaGreatDoor.senderNews
open Go.Eng
set_option maxRecDepth 1000000
set_option linter.unusedVariables false
set_option linter.unusedSimpArgs false
set_option linter.unusedSectionVars false
namespace nods
theorem piece8 : ∀ d u w, (krun Tryz.prog R 18 ((atE 2 d u w).st keys)).map (St.snap keys) = some (atO 2 d u w) := by
  intros
  kernel_rfl
theorem piece9 : ∀ d u w, (krun Tryz.prog R 1 ((atO 2 d u w).st keys)).map (St.snap keys) = some (atE 3 d w (exW 54 (krun Tryz.prog R 1 ((atO 2 d u w).st keys)))) := by
  intros
  kernel_rfl
end nods
end Go.Proofs.YtokhollghednaaaGreatDoor.senderNews
namespace Go.Proofs.YtokhollghednaaaGreatDoor.senderNews
open Go.Eng
set_option maxRecDepth 1000000
set_option linter.unusedVariables false
set_option linter.unusedSimpArgs false
set_option linter.unusedSectionVars false
namespace nods
theorem piece10 : ∀ d u w, (krun Tryz.prog R 18 ((atE 3 d u w).st keys)).map (St.snap keys) = some (atO 3 d u w) := by
  intros
  kernel_rfl
theorem piece11 : ∀ d u w, (krun Tryz.prog R 1 ((atO 3 d u w).st keys)).map (St.snap keys) = some (atE 4 d w (exW 54 (krun Tryz.prog R 1 ((atO 3 d u w).st keys)))) := by
  intros
  kernel_rfl
end nods
end Go.Proofs.YtokhollghednaaaGreatDoor.senderNews
