/-
  SenderNews: merkle.Of of depth 3: the ways of workers 2.
-/
import Derived.KernelRfl
import Derived.Test.YtokhollghednaaaGreatDoorSenderNewsOfH3
namespace Go.Proofs.YtokhollghednaaaGreatDoor.senderNews
open Go.Eng Go.Conc.Lib
set_option maxRecDepth 1000000
set_option linter.unusedVariables false
set_option linter.unusedSimpArgs false
set_option linter.unusedSectionVars false
namespace of3
local instance paySg2 : Go.ConcR.Payload := ⟨3⟩
theorem s2_0 : Sa 2 32 (wT 2 30 0) := fun _ => by kernel_rfl
theorem s2_1 : Sg 2 32 32 (wT 2 30 0) (wT 2 62 0) := fun _ => by kernel_rfl
theorem s2_2 : Sg 2 64 32 (wT 2 62 0) (wT 2 94 0) := fun _ => by kernel_rfl
theorem s2_3 : Sg 2 96 32 (wT 2 94 0) (wT 2 126 0) := fun _ => by kernel_rfl
theorem s2_4 : Sg 2 128 32 (wT 2 126 0) (wT 2 158 0) := fun _ => by kernel_rfl
theorem s2_5 : Sg 2 160 32 (wT 2 158 0) (wT 2 190 0) := fun _ => by kernel_rfl
theorem s2_6 : Sg 2 192 32 (wT 2 190 0) (wT 2 222 0) := fun _ => by kernel_rfl
theorem s2_7 : Sz 2 224 32 (wT 2 222 0) := fun _ => by kernel_rfl
end of3
end Go.Proofs.YtokhollghednaaaGreatDoor.senderNews
namespace Go.Proofs.YtokhollghednaaaGreatDoor.senderNews
open Go.Eng Go.Conc.Lib
set_option maxRecDepth 1000000
set_option linter.unusedVariables false
set_option linter.unusedSimpArgs false
set_option linter.unusedSectionVars false
namespace of3
local instance paySg3 : Go.ConcR.Payload := ⟨3⟩
theorem s3_0 : Sa 3 32 (wT 3 30 0) := fun _ => by kernel_rfl
theorem s3_1 : Sg 3 32 32 (wT 3 30 0) (wT 3 62 0) := fun _ => by kernel_rfl
theorem s3_2 : Sg 3 64 32 (wT 3 62 0) (wT 3 94 0) := fun _ => by kernel_rfl
theorem s3_3 : Sg 3 96 32 (wT 3 94 0) (wT 3 126 0) := fun _ => by kernel_rfl
theorem s3_4 : Sg 3 128 32 (wT 3 126 0) (wT 3 158 0) := fun _ => by kernel_rfl
theorem s3_5 : Sg 3 160 32 (wT 3 158 0) (wT 3 190 0) := fun _ => by kernel_rfl
theorem s3_6 : Sg 3 192 32 (wT 3 190 0) (wT 3 222 0) := fun _ => by kernel_rfl
theorem s3_7 : Sz 3 224 32 (wT 3 222 0) := fun _ => by kernel_rfl
end of3
end Go.Proofs.YtokhollghednaaaGreatDoor.senderNews
