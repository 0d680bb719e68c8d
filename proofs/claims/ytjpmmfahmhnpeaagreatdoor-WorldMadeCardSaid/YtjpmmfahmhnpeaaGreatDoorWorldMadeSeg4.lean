/-
  WorldMade: piece 5 of the run.
-/
import Derived.KernelRfl
import Derived.Test.YtjpmmfahmhnpeaaGreatDoorWorldMadeSt4
import Derived.Test.YtjpmmfahmhnpeaaGreatDoorWorldMadeSt5
namespace Go.Proofs.YtjpmmfahmhnpeaaGreatDoor.worldMade
open Go.Eng
set_option maxRecDepth 1000000
theorem piece4 : outcome keys5 at5 (krun Tryz.prog (fRec Tryz.prog 1000 60) 9000 (at4.st keys4)) = some (at5.ks, true) := by kernel_rfl
end Go.Proofs.YtjpmmfahmhnpeaaGreatDoor.worldMade
