/-
  SenderNews: merkle.Of of depth 3: the ways of workers 0.
-/
import Derived.KernelRfl
import Derived.Test.YtokhollghednaaaGreatDoorSenderNewsOfH3
namespace Go.Proofs.YtokhollghednaaaGreatDoor.senderNews
open Go.Eng Go.Conc.Lib
set_option maxRecDepth 1000000
set_option linter.unusedVariables false
set_option linter.unusedSimpArgs false
set_option linter.unusedSectionVars false
namespace of3
local instance paySg0 : Go.ConcR.Payload := ⟨3⟩
theorem s0_0 : Sa 0 32 (wT 0 30 0) := fun _ => by kernel_rfl
theorem s0_1 : Sg 0 32 32 (wT 0 30 0) (wT 0 62 0) := fun _ => by kernel_rfl
theorem s0_2 : Sg 0 64 32 (wT 0 62 0) (wT 0 94 0) := fun _ => by kernel_rfl
theorem s0_3 : Sg 0 96 32 (wT 0 94 0) (wT 0 126 14) := fun _ => by kernel_rfl
theorem s0_4 : Sg 0 128 32 (wT 0 126 14) (wT 0 158 14) := fun _ => by kernel_rfl
theorem s0_5 : Sg 0 160 32 (wT 0 158 14) (wT 0 190 14) := fun _ => by kernel_rfl
theorem s0_6 : Sg 0 192 32 (wT 0 190 14) (wT 0 222 14) := fun _ => by kernel_rfl
theorem s0_7 : Sz 0 224 32 (wT 0 222 14) := fun _ => by kernel_rfl
end of3
end Go.Proofs.YtokhollghednaaaGreatDoor.senderNews
namespace Go.Proofs.YtokhollghednaaaGreatDoor.senderNews
open Go.Eng Go.Conc.Lib
set_option maxRecDepth 1000000
set_option linter.unusedVariables false
set_option linter.unusedSimpArgs false
set_option linter.unusedSectionVars false
namespace of3
local instance paySg1 : Go.ConcR.Payload := ⟨3⟩
theorem s1_0 : Sa 1 32 (wT 1 30 0) := fun _ => by kernel_rfl
theorem s1_1 : Sg 1 32 32 (wT 1 30 0) (wT 1 62 0) := fun _ => by kernel_rfl
theorem s1_2 : Sg 1 64 32 (wT 1 62 0) (wT 1 94 0) := fun _ => by kernel_rfl
theorem s1_3 : Sg 1 96 32 (wT 1 94 0) (wT 1 126 0) := fun _ => by kernel_rfl
theorem s1_4 : Sg 1 128 32 (wT 1 126 0) (wT 1 158 0) := fun _ => by kernel_rfl
theorem s1_5 : Sg 1 160 32 (wT 1 158 0) (wT 1 190 0) := fun _ => by kernel_rfl
theorem s1_6 : Sg 1 192 32 (wT 1 190 0) (wT 1 222 0) := fun _ => by kernel_rfl
theorem s1_7 : Sz 1 224 32 (wT 1 222 0) := fun _ => by kernel_rfl
end of3
end Go.Proofs.YtokhollghednaaaGreatDoor.senderNews
