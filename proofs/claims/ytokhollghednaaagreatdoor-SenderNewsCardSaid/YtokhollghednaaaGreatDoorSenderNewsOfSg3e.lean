/-
  SenderNews: merkle.Of of depth 3: the ways of workers 8.
-/
import Derived.KernelRfl
import Derived.Test.YtokhollghednaaaGreatDoorSenderNewsOfH3
namespace Go.Proofs.YtokhollghednaaaGreatDoor.senderNews
open Go.Eng Go.Conc.Lib
set_option maxRecDepth 1000000
set_option linter.unusedVariables false
set_option linter.unusedSimpArgs false
set_option linter.unusedSectionVars false
namespace of3
local instance paySg8 : Go.ConcR.Payload := ⟨3⟩
theorem s8_0 : Sa 8 32 (wT 8 30 0) := fun _ => by kernel_rfl
theorem s8_1 : Sg 8 32 32 (wT 8 30 0) (wT 8 62 0) := fun _ => by kernel_rfl
theorem s8_2 : Sg 8 64 32 (wT 8 62 0) (wT 8 94 0) := fun _ => by kernel_rfl
theorem s8_3 : Sg 8 96 32 (wT 8 94 0) (wT 8 126 0) := fun _ => by kernel_rfl
theorem s8_4 : Sg 8 128 32 (wT 8 126 0) (wT 8 158 0) := fun _ => by kernel_rfl
theorem s8_5 : Sg 8 160 32 (wT 8 158 0) (wT 8 190 0) := fun _ => by kernel_rfl
theorem s8_6 : Sg 8 192 32 (wT 8 190 0) (wT 8 222 0) := fun _ => by kernel_rfl
theorem s8_7 : Sz 8 224 32 (wT 8 222 0) := fun _ => by kernel_rfl
end of3
end Go.Proofs.YtokhollghednaaaGreatDoor.senderNews
namespace Go.Proofs.YtokhollghednaaaGreatDoor.senderNews
open Go.Eng Go.Conc.Lib
set_option maxRecDepth 1000000
set_option linter.unusedVariables false
set_option linter.unusedSimpArgs false
set_option linter.unusedSectionVars false
namespace of3
local instance paySg9 : Go.ConcR.Payload := ⟨3⟩
theorem s9_0 : Sa 9 32 (wT 9 30 0) := fun _ => by kernel_rfl
theorem s9_1 : Sg 9 32 32 (wT 9 30 0) (wT 9 62 0) := fun _ => by kernel_rfl
theorem s9_2 : Sg 9 64 32 (wT 9 62 0) (wT 9 94 0) := fun _ => by kernel_rfl
theorem s9_3 : Sg 9 96 32 (wT 9 94 0) (wT 9 126 0) := fun _ => by kernel_rfl
theorem s9_4 : Sg 9 128 32 (wT 9 126 0) (wT 9 158 0) := fun _ => by kernel_rfl
theorem s9_5 : Sg 9 160 32 (wT 9 158 0) (wT 9 190 0) := fun _ => by kernel_rfl
theorem s9_6 : Sg 9 192 32 (wT 9 190 0) (wT 9 222 0) := fun _ => by kernel_rfl
theorem s9_7 : Sz 9 224 32 (wT 9 222 0) := fun _ => by kernel_rfl
end of3
end Go.Proofs.YtokhollghednaaaGreatDoor.senderNews
