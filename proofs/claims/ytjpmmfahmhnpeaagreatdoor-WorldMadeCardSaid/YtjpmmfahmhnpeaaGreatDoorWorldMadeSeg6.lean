/-
  WorldMade: piece 7 of the run.
-/
import Derived.KernelRfl
import Derived.Test.YtjpmmfahmhnpeaaGreatDoorWorldMadeSt6
import Derived.Test.YtjpmmfahmhnpeaaGreatDoorWorldMadeSt7
namespace Go.Proofs.YtjpmmfahmhnpeaaGreatDoor.worldMade
open Go.Eng
set_option maxRecDepth 1000000
theorem piece6 : outcome keys7 at7 (krun Tryz.prog (fRec Tryz.prog 1000 60) 9000 (at6.st keys6)) = some (at7.ks, true) := by kernel_rfl
end Go.Proofs.YtjpmmfahmhnpeaaGreatDoor.worldMade
