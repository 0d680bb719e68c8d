/-
  SenderNews: merkle.Of of depth 3: the ways of workers 4.
-/
import Derived.KernelRfl
import Derived.Test.YtokhollghednaaaGreatDoorSenderNewsOfH3
namespace Go.Proofs.YtokhollghednaaaGreatDoor.senderNews
open Go.Eng Go.Conc.Lib
set_option maxRecDepth 1000000
set_option linter.unusedVariables false
set_option linter.unusedSimpArgs false
set_option linter.unusedSectionVars false
namespace of3
local instance paySg4 : Go.ConcR.Payload := ⟨3⟩
theorem s4_0 : Sa 4 32 (wT 4 30 0) := fun _ => by kernel_rfl
theorem s4_1 : Sg 4 32 32 (wT 4 30 0) (wT 4 62 0) := fun _ => by kernel_rfl
theorem s4_2 : Sg 4 64 32 (wT 4 62 0) (wT 4 94 0) := fun _ => by kernel_rfl
theorem s4_3 : Sg 4 96 32 (wT 4 94 0) (wT 4 126 0) := fun _ => by kernel_rfl
theorem s4_4 : Sg 4 128 32 (wT 4 126 0) (wT 4 158 0) := fun _ => by kernel_rfl
theorem s4_5 : Sg 4 160 32 (wT 4 158 0) (wT 4 190 0) := fun _ => by kernel_rfl
theorem s4_6 : Sg 4 192 32 (wT 4 190 0) (wT 4 222 0) := fun _ => by kernel_rfl
theorem s4_7 : Sz 4 224 32 (wT 4 222 0) := fun _ => by kernel_rfl
end of3
end Go.Proofs.YtokhollghednaaaGreatDoor.senderNews
namespace Go.Proofs.YtokhollghednaaaGreatDoor.senderNews
open Go.Eng Go.Conc.Lib
set_option maxRecDepth 1000000
set_option linter.unusedVariables false
set_option linter.unusedSimpArgs false
set_option linter.unusedSectionVars false
namespace of3
local instance paySg5 : Go.ConcR.Payload := ⟨3⟩
theorem s5_0 : Sa 5 32 (wT 5 30 0) := fun _ => by kernel_rfl
theorem s5_1 : Sg 5 32 32 (wT 5 30 0) (wT 5 62 0) := fun _ => by kernel_rfl
theorem s5_2 : Sg 5 64 32 (wT 5 62 0) (wT 5 94 0) := fun _ => by kernel_rfl
theorem s5_3 : Sg 5 96 32 (wT 5 94 0) (wT 5 126 0) := fun _ => by kernel_rfl
theorem s5_4 : Sg 5 128 32 (wT 5 126 0) (wT 5 158 0) := fun _ => by kernel_rfl
theorem s5_5 : Sg 5 160 32 (wT 5 158 0) (wT 5 190 0) := fun _ => by kernel_rfl
theorem s5_6 : Sg 5 192 32 (wT 5 190 0) (wT 5 222 0) := fun _ => by kernel_rfl
theorem s5_7 : Sz 5 224 32 (wT 5 222 0) := fun _ => by kernel_rfl
end of3
end Go.Proofs.YtokhollghednaaaGreatDoor.senderNews
