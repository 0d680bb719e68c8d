/-
  WorldMade: piece 1 of the run.
-/
import Derived.KernelRfl
import Derived.Test.YtjpmmfahmhnpeaaGreatDoorWorldMadeSt0
import Derived.Test.YtjpmmfahmhnpeaaGreatDoorWorldMadeSt1
namespace Go.Proofs.YtjpmmfahmhnpeaaGreatDoor.worldMade
open Go.Eng
set_option maxRecDepth 1000000
theorem piece0 : outcome keys1 at1 (krun Tryz.prog (fRec Tryz.prog 1000 60) 9000 start) = some (at1.ks, true) := by kernel_rfl
end Go.Proofs.YtjpmmfahmhnpeaaGreatDoor.worldMade
