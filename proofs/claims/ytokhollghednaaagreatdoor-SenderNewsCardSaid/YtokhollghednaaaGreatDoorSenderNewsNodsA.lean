/-
  SenderNews: merkle.Node of any digests: pieces of the run, part 0.
-/
import Derived.KernelRfl
import Derived.Test.YtokhollghednaaaGreatDoorSenderNewsNodsSt
namespace Go.Proofs.YtokhollghednaaaGreatDoor.senderNews
open Go.Eng
set_option maxRecDepth 1000000
set_option linter.unusedVariables false
set_option linter.unusedSimpArgs false
set_option linter.unusedSectionVars false
namespace nods
theorem piece0 : ∀ d u w, (krun Tryz.prog R 583 (start d)).map (St.snap keys) = some (at1 d u w) := by
  intros
  kernel_rfl
theorem piece1 : ∀ d u w, (krun Tryz.prog R 1 ((at1 d u w).st keys)).map (St.snap keys) = some (at2 d w (exW 54 (krun Tryz.prog R 1 ((at1 d u w).st keys)))) := by
  intros
  kernel_rfl
end nods
end Go.Proofs.YtokhollghednaaaGreatDoor.senderNews
namespace Go.Proofs.YtokhollghednaaaGreatDoor.senderNews
open Go.Eng
set_option maxRecDepth 1000000
set_option linter.unusedVariables false
set_option linter.unusedSimpArgs false
set_option linter.unusedSectionVars false
namespace nods
theorem piece2 : ∀ d u w, (krun Tryz.prog R 18 ((at2 d u w).st keys)).map (St.snap keys) = some (at3 d u w) := by
  intros
  kernel_rfl
theorem piece3 : ∀ d u w, (krun Tryz.prog R 1 ((at3 d u w).st keys)).map (St.snap keys) = some (atE 0 d w (exW 54 (krun Tryz.prog R 1 ((at3 d u w).st keys)))) := by
  intros
  kernel_rfl
end nods
end Go.Proofs.YtokhollghednaaaGreatDoor.senderNews
namespace Go.Proofs.YtokhollghednaaaGreatDoor.senderNews
open Go.Eng
set_option maxRecDepth 1000000
set_option linter.unusedVariables false
set_option linter.unusedSimpArgs false
set_option linter.unusedSectionVars false
namespace nods
theorem piece4 : ∀ d u w, (krun Tryz.prog R 18 ((atE 0 d u w).st keys)).map (St.snap keys) = some (atO 0 d u w) := by
  intros
  kernel_rfl
theorem piece5 : ∀ d u w, (krun Tryz.prog R 1 ((atO 0 d u w).st keys)).map (St.snap keys) = some (atE 1 d w (exW 54 (krun Tryz.prog R 1 ((atO 0 d u w).st keys)))) := by
  intros
  kernel_rfl
end nods
end Go.Proofs.YtokhollghednaaaGreatDoor.senderNews
