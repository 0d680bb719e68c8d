/-
  SenderNews: merkle.Of of depth 3: the ways of workers 10.
-/
import Derived.KernelRfl
import Derived.Test.YtokhollghednaaaGreatDoorSenderNewsOfH3
namespace Go.Proofs.YtokhollghednaaaGreatDoor.senderNews
open Go.Eng Go.Conc.Lib
set_option maxRecDepth 1000000
set_option linter.unusedVariables false
set_option linter.unusedSimpArgs false
set_option linter.unusedSectionVars false
namespace of3
local instance paySg10 : Go.ConcR.Payload := ⟨3⟩
theorem s10_0 : Sa 10 32 (wT 10 30 0) := fun _ => by kernel_rfl
theorem s10_1 : Sg 10 32 32 (wT 10 30 0) (wT 10 62 0) := fun _ => by kernel_rfl
theorem s10_2 : Sg 10 64 32 (wT 10 62 0) (wT 10 94 0) := fun _ => by kernel_rfl
theorem s10_3 : Sg 10 96 32 (wT 10 94 0) (wT 10 126 0) := fun _ => by kernel_rfl
theorem s10_4 : Sg 10 128 32 (wT 10 126 0) (wT 10 158 0) := fun _ => by kernel_rfl
theorem s10_5 : Sg 10 160 32 (wT 10 158 0) (wT 10 190 0) := fun _ => by kernel_rfl
theorem s10_6 : Sg 10 192 32 (wT 10 190 0) (wT 10 222 0) := fun _ => by kernel_rfl
theorem s10_7 : Sz 10 224 32 (wT 10 222 0) := fun _ => by kernel_rfl
end of3
end Go.Proofs.YtokhollghednaaaGreatDoor.senderNews
namespace Go.Proofs.YtokhollghednaaaGreatDoor.senderNews
open Go.Eng Go.Conc.Lib
set_option maxRecDepth 1000000
set_option linter.unusedVariables false
set_option linter.unusedSimpArgs false
set_option linter.unusedSectionVars false
namespace of3
local instance paySg11 : Go.ConcR.Payload := ⟨3⟩
theorem s11_0 : Sa 11 32 (wT 11 30 0) := fun _ => by kernel_rfl
theorem s11_1 : Sg 11 32 32 (wT 11 30 0) (wT 11 62 0) := fun _ => by kernel_rfl
theorem s11_2 : Sg 11 64 32 (wT 11 62 0) (wT 11 94 0) := fun _ => by kernel_rfl
theorem s11_3 : Sg 11 96 32 (wT 11 94 0) (wT 11 126 0) := fun _ => by kernel_rfl
theorem s11_4 : Sg 11 128 32 (wT 11 126 0) (wT 11 158 0) := fun _ => by kernel_rfl
theorem s11_5 : Sg 11 160 32 (wT 11 158 0) (wT 11 190 0) := fun _ => by kernel_rfl
theorem s11_6 : Sg 11 192 32 (wT 11 190 0) (wT 11 222 0) := fun _ => by kernel_rfl
theorem s11_7 : Sz 11 224 32 (wT 11 222 0) := fun _ => by kernel_rfl
end of3
end Go.Proofs.YtokhollghednaaaGreatDoor.senderNews
