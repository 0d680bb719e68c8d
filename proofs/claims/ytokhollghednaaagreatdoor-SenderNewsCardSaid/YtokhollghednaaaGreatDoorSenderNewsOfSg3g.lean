/-
  SenderNews: merkle.Of of depth 3: the ways of workers 12.
-/
import Derived.KernelRfl
import Derived.Test.YtokhollghednaaaGreatDoorSenderNewsOfH3
namespace Go.Proofs.YtokhollghednaaaGreatDoor.senderNews
open Go.Eng Go.Conc.Lib
set_option maxRecDepth 1000000
set_option linter.unusedVariables false
set_option linter.unusedSimpArgs false
set_option linter.unusedSectionVars false
namespace of3
local instance paySg12 : Go.ConcR.Payload := ⟨3⟩
theorem s12_0 : Sa 12 32 (wT 12 30 0) := fun _ => by kernel_rfl
theorem s12_1 : Sg 12 32 32 (wT 12 30 0) (wT 12 62 0) := fun _ => by kernel_rfl
theorem s12_2 : Sg 12 64 32 (wT 12 62 0) (wT 12 94 0) := fun _ => by kernel_rfl
theorem s12_3 : Sg 12 96 32 (wT 12 94 0) (wT 12 126 0) := fun _ => by kernel_rfl
theorem s12_4 : Sg 12 128 32 (wT 12 126 0) (wT 12 158 0) := fun _ => by kernel_rfl
theorem s12_5 : Sg 12 160 32 (wT 12 158 0) (wT 12 190 0) := fun _ => by kernel_rfl
theorem s12_6 : Sg 12 192 32 (wT 12 190 0) (wT 12 222 0) := fun _ => by kernel_rfl
theorem s12_7 : Sz 12 224 32 (wT 12 222 0) := fun _ => by kernel_rfl
end of3
end Go.Proofs.YtokhollghednaaaGreatDoor.senderNews
namespace Go.Proofs.YtokhollghednaaaGreatDoor.senderNews
open Go.Eng Go.Conc.Lib
set_option maxRecDepth 1000000
set_option linter.unusedVariables false
set_option linter.unusedSimpArgs false
set_option linter.unusedSectionVars false
namespace of3
local instance paySg13 : Go.ConcR.Payload := ⟨3⟩
theorem s13_0 : Sa 13 32 (wT 13 30 0) := fun _ => by kernel_rfl
theorem s13_1 : Sg 13 32 32 (wT 13 30 0) (wT 13 62 0) := fun _ => by kernel_rfl
theorem s13_2 : Sg 13 64 32 (wT 13 62 0) (wT 13 94 0) := fun _ => by kernel_rfl
theorem s13_3 : Sg 13 96 32 (wT 13 94 0) (wT 13 126 0) := fun _ => by kernel_rfl
theorem s13_4 : Sg 13 128 32 (wT 13 126 0) (wT 13 158 0) := fun _ => by kernel_rfl
theorem s13_5 : Sg 13 160 32 (wT 13 158 0) (wT 13 190 0) := fun _ => by kernel_rfl
theorem s13_6 : Sg 13 192 32 (wT 13 190 0) (wT 13 222 0) := fun _ => by kernel_rfl
theorem s13_7 : Sz 13 224 32 (wT 13 222 0) := fun _ => by kernel_rfl
end of3
end Go.Proofs.YtokhollghednaaaGreatDoor.senderNews
