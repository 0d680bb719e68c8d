/-
  SenderNewsLives: merkle.Node: pieces of the run, part 3.
-/
import Derived.KernelRfl
import Derived.Test.YtokhollghednaaaGreatDoorSenderNewsLivesNodA
namespace Go.Proofs.YtokhollghednaaaGreatDoor.senderNewsLives
open Go.Eng Go.Proofs.YtokhollghednaaaGreatDoor.senderNews
set_option maxRecDepth 1000000
set_option linter.unusedVariables false
set_option linter.unusedSimpArgs false
set_option linter.unusedSectionVars false
namespace node
theorem piece9 : (krun Tryz.prog nods.R 1 ((nods.atO 2 dL (W 2) (W 3)).st nods.keys)).map (St.snap nods.keys) = some (nods.atE 3 dL (W 3) (W 4)) := by kernel_rfl
theorem piece10 : (krun Tryz.prog nods.R 18 ((nods.atE 3 dL (W 3) (W 4)).st nods.keys)).map (St.snap nods.keys) = some (nods.atO 3 dL (W 3) (W 4)) := by kernel_rfl
theorem piece11 : (krun Tryz.prog nods.R 1 ((nods.atO 3 dL (W 3) (W 4)).st nods.keys)).map (St.snap nods.keys) = some (nods.atE 4 dL (W 4) (W 5)) := by kernel_rfl
end node
end Go.Proofs.YtokhollghednaaaGreatDoor.senderNewsLives
namespace Go.Proofs.YtokhollghednaaaGreatDoor.senderNewsLives
open Go.Eng Go.Proofs.YtokhollghednaaaGreatDoor.senderNews
set_option maxRecDepth 1000000
set_option linter.unusedVariables false
set_option linter.unusedSimpArgs false
set_option linter.unusedSectionVars false
namespace node
theorem piece12 : (krun Tryz.prog nods.R 18 ((nods.atE 4 dL (W 4) (W 5)).st nods.keys)).map (St.snap nods.keys) = some (nods.atO 4 dL (W 4) (W 5)) := by kernel_rfl
theorem piece13 : (krun Tryz.prog nods.R 1 ((nods.atO 4 dL (W 4) (W 5)).st nods.keys)).map (St.snap nods.keys) = some (nods.atE 5 dL (W 5) (W 6)) := by kernel_rfl
theorem piece14 : (krun Tryz.prog nods.R 18 ((nods.atE 5 dL (W 5) (W 6)).st nods.keys)).map (St.snap nods.keys) = some (nods.atO 5 dL (W 5) (W 6)) := by kernel_rfl
end node
end Go.Proofs.YtokhollghednaaaGreatDoor.senderNewsLives
namespace Go.Proofs.YtokhollghednaaaGreatDoor.senderNewsLives
open Go.Eng Go.Proofs.YtokhollghednaaaGreatDoor.senderNews
set_option maxRecDepth 1000000
set_option linter.unusedVariables false
set_option linter.unusedSimpArgs false
set_option linter.unusedSectionVars false
namespace node
theorem piece15 : (krun Tryz.prog nods.R 1 ((nods.atO 5 dL (W 5) (W 6)).st nods.keys)).map (St.snap nods.keys) = some (nods.atE 6 dL (W 6) (W 7)) := by kernel_rfl
theorem piece16 : finIs Tryz.prog 91 nodeVal (krun Tryz.prog nods.R 6483 ((nods.atE 6 dL (W 6) (W 7)).st nods.keys)) = true := by kernel_rfl
end node
end Go.Proofs.YtokhollghednaaaGreatDoor.senderNewsLives
namespace Go.Proofs.YtokhollghednaaaGreatDoor.senderNewsLives
open Go.Eng Go.Proofs.YtokhollghednaaaGreatDoor.senderNews
set_option maxRecDepth 1000000
set_option linter.unusedVariables false
set_option linter.unusedSimpArgs false
set_option linter.unusedSectionVars false
namespace node
noncomputable def isArgs (l : List Value) : Bool := sameL l (nods.nodeArgs dL)
theorem body : (Tryz.prog.funcs[91]?).any (fun fn => fn.body.isSome) = true := by kernel_rfl
noncomputable def hook : Hook := hook1 91 isArgs nodeVal
theorem hooked [Hk] : HookOk Tryz.prog hook := pieces_hook (fun l h => sameL_eq _ _ h) body (by kernel_rfl) (by kernel_rfl) (nods.enters dL)
  (piece_m (noCount counted) mixed (noHook_ok _) piece0 (piece_m (noCount counted) mixed (noHook_ok _) piece1 (piece_m (noCount counted) mixed (noHook_ok _) piece2 (piece_m (noCount counted) mixed (noHook_ok _) piece3 (piece_m (noCount counted) mixed (noHook_ok _) piece4 (piece_m (noCount counted) mixed (noHook_ok _) piece5 (piece_m (noCount counted) mixed (noHook_ok _) piece6 (piece_m (noCount counted) mixed (noHook_ok _) piece7 (piece_m (noCount counted) mixed (noHook_ok _) piece8 (piece_m (noCount counted) mixed (noHook_ok _) piece9 (piece_m (noCount counted) mixed (noHook_ok _) piece10 (piece_m (noCount counted) mixed (noHook_ok _) piece11 (piece_m (noCount counted) mixed (noHook_ok _) piece12 (piece_m (noCount counted) mixed (noHook_ok _) piece13 (piece_m (noCount counted) mixed (noHook_ok _) piece14 (piece_m (noCount counted) mixed (noHook_ok _) piece15 (last_v (noCount counted) mixed (noHook_ok _) piece16)))))))))))))))))
end node
end Go.Proofs.YtokhollghednaaaGreatDoor.senderNewsLives
