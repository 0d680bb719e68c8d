/-
  WorldMade: piece 6 of the run.
-/
import Derived.KernelRfl
import Derived.Test.YtjpmmfahmhnpeaaGreatDoorWorldMadeSt5
import Derived.Test.YtjpmmfahmhnpeaaGreatDoorWorldMadeSt6
namespace Go.Proofs.YtjpmmfahmhnpeaaGreatDoor.worldMade
open Go.Eng
set_option maxRecDepth 1000000
theorem piece5 : outcome keys6 at6 (krun Tryz.prog (fRec Tryz.prog 1000 60) 9000 (at5.st keys5)) = some (at6.ks, true) := by kernel_rfl
end Go.Proofs.YtjpmmfahmhnpeaaGreatDoor.worldMade
