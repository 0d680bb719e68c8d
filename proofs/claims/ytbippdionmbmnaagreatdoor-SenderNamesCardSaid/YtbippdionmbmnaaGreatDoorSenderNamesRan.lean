/-
  SenderNames: the whole run.
-/
import Derived.KernelRfl
import Derived.Test.YtbippdionmbmnaaGreatDoorSenderNamesOfHook
namespace Go.Proofs.YtbippdionmbmnaaGreatDoor.senderNames
open Go.Eng Go.Conc.Lib
set_option maxRecDepth 1000000
set_option linter.unusedVariables false
set_option linter.unusedSimpArgs false
set_option linter.unusedSectionVars false
noncomputable def laid : List (Option CB) := []
noncomputable def start : St := ⟨⟨3, none, .normal, false, FA.init (((Tryz.prog.funcs[3]?).map (·.ntmps)).getD 0) [], [.code (codeAt Tryz.prog 3 [])]⟩, [], CH.first laid⟩
theorem begins : begin? Tryz.prog 3 [] laid = some start := by kernel_rfl
theorem piece0 : (krun Tryz.prog (fRec Tryz.prog allHook 1000 60) 882 start).bind (St.final Tryz.prog 3) = some (.bool true, (CH.first laid).heads) := by kernel_rfl
theorem ran : ∃ S : St, Eng.Reach Tryz.prog start S ∧ S.final Tryz.prog 3 = some (.bool true, (CH.first laid).heads) := reach_last (noCount counted) mixed allHooked piece0
#print axioms ran
end Go.Proofs.YtbippdionmbmnaaGreatDoor.senderNames
