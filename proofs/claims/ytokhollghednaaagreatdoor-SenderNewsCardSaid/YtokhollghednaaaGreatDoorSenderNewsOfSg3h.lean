/-
  SenderNews: merkle.Of of depth 3: the ways of workers 14.
-/
import Derived.KernelRfl
import Derived.Test.YtokhollghednaaaGreatDoorSenderNewsOfH3
namespace Go.Proofs.YtokhollghednaaaGreatDoor.senderNews
open Go.Eng Go.Conc.Lib
set_option maxRecDepth 1000000
set_option linter.unusedVariables false
set_option linter.unusedSimpArgs false
set_option linter.unusedSectionVars false
namespace of3
local instance paySg14 : Go.ConcR.Payload := ⟨3⟩
theorem s14_0 : Sa 14 32 (wT 14 30 0) := fun _ => by kernel_rfl
theorem s14_1 : Sg 14 32 32 (wT 14 30 0) (wT 14 62 0) := fun _ => by kernel_rfl
theorem s14_2 : Sg 14 64 32 (wT 14 62 0) (wT 14 94 0) := fun _ => by kernel_rfl
theorem s14_3 : Sg 14 96 32 (wT 14 94 0) (wT 14 126 0) := fun _ => by kernel_rfl
theorem s14_4 : Sg 14 128 32 (wT 14 126 0) (wT 14 158 0) := fun _ => by kernel_rfl
theorem s14_5 : Sg 14 160 32 (wT 14 158 0) (wT 14 190 0) := fun _ => by kernel_rfl
theorem s14_6 : Sg 14 192 32 (wT 14 190 0) (wT 14 222 0) := fun _ => by kernel_rfl
theorem s14_7 : Sz 14 224 32 (wT 14 222 0) := fun _ => by kernel_rfl
end of3
end Go.Proofs.YtokhollghednaaaGreatDoor.senderNews
namespace Go.Proofs.YtokhollghednaaaGreatDoor.senderNews
open Go.Eng Go.Conc.Lib
set_option maxRecDepth 1000000
set_option linter.unusedVariables false
set_option linter.unusedSimpArgs false
set_option linter.unusedSectionVars false
namespace of3
local instance paySg15 : Go.ConcR.Payload := ⟨3⟩
theorem s15_0 : Sa 15 32 (wT 15 30 0) := fun _ => by kernel_rfl
theorem s15_1 : Sg 15 32 32 (wT 15 30 0) (wT 15 62 0) := fun _ => by kernel_rfl
theorem s15_2 : Sg 15 64 32 (wT 15 62 0) (wT 15 94 0) := fun _ => by kernel_rfl
theorem s15_3 : Sg 15 96 32 (wT 15 94 0) (wT 15 126 0) := fun _ => by kernel_rfl
theorem s15_4 : Sg 15 128 32 (wT 15 126 0) (wT 15 158 0) := fun _ => by kernel_rfl
theorem s15_5 : Sg 15 160 32 (wT 15 158 0) (wT 15 190 0) := fun _ => by kernel_rfl
theorem s15_6 : Sg 15 192 32 (wT 15 190 0) (wT 15 222 0) := fun _ => by kernel_rfl
theorem s15_7 : Sz 15 224 32 (wT 15 222 0) := fun _ => by kernel_rfl
end of3
end Go.Proofs.YtokhollghednaaaGreatDoor.senderNews
