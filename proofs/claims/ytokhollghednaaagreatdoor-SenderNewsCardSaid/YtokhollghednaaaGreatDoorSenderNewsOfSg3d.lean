/-
  SenderNews: merkle.Of of depth 3: the ways of workers 6.
-/
import Derived.KernelRfl
import Derived.Test.YtokhollghednaaaGreatDoorSenderNewsOfH3
namespace Go.Proofs.YtokhollghednaaaGreatDoor.senderNews
open Go.Eng Go.Conc.Lib
set_option maxRecDepth 1000000
set_option linter.unusedVariables false
set_option linter.unusedSimpArgs false
set_option linter.unusedSectionVars false
namespace of3
local instance paySg6 : Go.ConcR.Payload := ⟨3⟩
theorem s6_0 : Sa 6 32 (wT 6 30 0) := fun _ => by kernel_rfl
theorem s6_1 : Sg 6 32 32 (wT 6 30 0) (wT 6 62 0) := fun _ => by kernel_rfl
theorem s6_2 : Sg 6 64 32 (wT 6 62 0) (wT 6 94 0) := fun _ => by kernel_rfl
theorem s6_3 : Sg 6 96 32 (wT 6 94 0) (wT 6 126 0) := fun _ => by kernel_rfl
theorem s6_4 : Sg 6 128 32 (wT 6 126 0) (wT 6 158 0) := fun _ => by kernel_rfl
theorem s6_5 : Sg 6 160 32 (wT 6 158 0) (wT 6 190 0) := fun _ => by kernel_rfl
theorem s6_6 : Sg 6 192 32 (wT 6 190 0) (wT 6 222 0) := fun _ => by kernel_rfl
theorem s6_7 : Sz 6 224 32 (wT 6 222 0) := fun _ => by kernel_rfl
end of3
end Go.Proofs.YtokhollghednaaaGreatDoor.senderNews
namespace Go.Proofs.YtokhollghednaaaGreatDoor.senderNews
open Go.Eng Go.Conc.Lib
set_option maxRecDepth 1000000
set_option linter.unusedVariables false
set_option linter.unusedSimpArgs false
set_option linter.unusedSectionVars false
namespace of3
local instance paySg7 : Go.ConcR.Payload := ⟨3⟩
theorem s7_0 : Sa 7 32 (wT 7 30 25) := fun _ => by kernel_rfl
theorem s7_1 : Sg 7 32 32 (wT 7 30 25) (wT 7 62 25) := fun _ => by kernel_rfl
theorem s7_2 : Sg 7 64 32 (wT 7 62 25) (wT 7 94 25) := fun _ => by kernel_rfl
theorem s7_3 : Sg 7 96 32 (wT 7 94 25) (wT 7 126 25) := fun _ => by kernel_rfl
theorem s7_4 : Sg 7 128 32 (wT 7 126 25) (wT 7 158 25) := fun _ => by kernel_rfl
theorem s7_5 : Sg 7 160 32 (wT 7 158 25) (wT 7 190 25) := fun _ => by kernel_rfl
theorem s7_6 : Sg 7 192 32 (wT 7 190 25) (wT 7 222 25) := fun _ => by kernel_rfl
theorem s7_7 : Sz 7 224 32 (wT 7 222 25) := fun _ => by kernel_rfl
end of3
end Go.Proofs.YtokhollghednaaaGreatDoor.senderNews
