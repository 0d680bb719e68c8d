/-
  WorldMade: piece 10 of the run.
-/
import Derived.KernelRfl
import Derived.Test.YtjpmmfahmhnpeaaGreatDoorWorldMadeSt9
import Derived.Test.YtjpmmfahmhnpeaaGreatDoorWorldMadeSt10
namespace Go.Proofs.YtjpmmfahmhnpeaaGreatDoor.worldMade
open Go.Eng
set_option maxRecDepth 1000000
theorem piece9 : outcome keys10 at10 (krun Tryz.prog (fRec Tryz.prog 1000 60) 9000 (at9.st keys9)) = some (at10.ks, true) := by kernel_rfl
end Go.Proofs.YtjpmmfahmhnpeaaGreatDoor.worldMade
