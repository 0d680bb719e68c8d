/-
  SenderNews: lives() as a known call.
-/
import Derived.KernelRfl
import Derived.Test.YtokhollghednaaaGreatDoorSenderNewsLivesOfHook
namespace Go.Proofs.YtokhollghednaaaGreatDoor.senderNewsLives
open Go.Eng Go.Conc.Lib
set_option maxRecDepth 1000000
set_option linter.unusedVariables false
set_option linter.unusedSimpArgs false
set_option linter.unusedSectionVars false
noncomputable def start : St := ⟨⟨7, none, .normal, false, FA.init (((Tryz.prog.funcs[7]?).map (·.ntmps)).getD 0) [], [.code (codeAt Tryz.prog 7 [])]⟩, [], CH.first []⟩
theorem enters : kenter Tryz.prog 7 [] .normal = some start.top := by kernel_rfl
theorem run : finIs Tryz.prog 7 (.bool true) (krun Tryz.prog (fRec Tryz.prog allHook 1000 60) 869 start) = true := by kernel_rfl
theorem body : (Tryz.prog.funcs[7]?).any (fun fn => fn.body.isSome) = true := by kernel_rfl
noncomputable def hook : Hook := hook1 7 (fun l => sameL l []) (.bool true)
theorem hooked : HookOk Tryz.prog hook := pieces_hook (fun l h => sameL_eq _ _ h) body (by kernel_rfl) (by kernel_rfl) enters (last_v (noCount counted) mixed allHooked run)
end Go.Proofs.YtokhollghednaaaGreatDoor.senderNewsLives
