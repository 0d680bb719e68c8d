/-
  SenderMade: merkle.Node of sixteen digests of no rows, as a known call.
-/
import Derived.KernelRfl
import Derived.Test.YtoaplpdbmpendaaGreatDoorSenderMadeNodeSeg0
import Derived.Test.YtoaplpdbmpendaaGreatDoorSenderMadeNodeSeg1
import Derived.Test.YtoaplpdbmpendaaGreatDoorSenderMadeNodeSeg2
import Derived.Test.YtoaplpdbmpendaaGreatDoorSenderMadeNodeSeg3
import Derived.Test.YtoaplpdbmpendaaGreatDoorSenderMadeNodeSeg4
import Derived.Test.YtoaplpdbmpendaaGreatDoorSenderMadeNodeSeg5
namespace Go.Proofs.YtoaplpdbmpendaaGreatDoor.senderMade
open Go.Eng
set_option maxRecDepth 1000000
set_option linter.unusedVariables false
set_option linter.unusedSimpArgs false
set_option linter.unusedSectionVars false
namespace node
noncomputable def isArgs (l : List Value) : Bool := sameL l nodeArgs
theorem body : (Tryz.prog.funcs[101]?).any (fun fn => fn.body.isSome) = true := by kernel_rfl
noncomputable def hook : Hook := hook1 101 isArgs nodeVal
theorem hooked [Hk] : HookOk Tryz.prog hook := pieces_hook (fun l h => sameL_eq _ _ h) body (by kernel_rfl) (by kernel_rfl) enters
  (piece_v (noCount counted) mixed (noHook_ok _) piece0 (piece_v (noCount counted) mixed (noHook_ok _) piece1 (piece_v (noCount counted) mixed (noHook_ok _) piece2 (piece_v (noCount counted) mixed (noHook_ok _) piece3 (piece_v (noCount counted) mixed (noHook_ok _) piece4 (piece_v (noCount counted) mixed (noHook_ok _) piece5 (piece_v (noCount counted) mixed (noHook_ok _) piece6 (piece_v (noCount counted) mixed (noHook_ok _) piece7 (piece_v (noCount counted) mixed (noHook_ok _) piece8 (piece_v (noCount counted) mixed (noHook_ok _) piece9 (piece_v (noCount counted) mixed (noHook_ok _) piece10 (piece_v (noCount counted) mixed (noHook_ok _) piece11 (piece_v (noCount counted) mixed (noHook_ok _) piece12 (piece_v (noCount counted) mixed (noHook_ok _) piece13 (piece_v (noCount counted) mixed (noHook_ok _) piece14 (piece_v (noCount counted) mixed (noHook_ok _) piece15 (last_v (noCount counted) mixed (noHook_ok _) piece16)))))))))))))))))
end node
end Go.Proofs.YtoaplpdbmpendaaGreatDoor.senderMade
