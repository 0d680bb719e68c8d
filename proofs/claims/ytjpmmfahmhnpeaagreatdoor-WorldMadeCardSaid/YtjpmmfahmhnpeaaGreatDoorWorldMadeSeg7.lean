/-
  WorldMade: piece 8 of the run.
-/
import Derived.KernelRfl
import Derived.Test.YtjpmmfahmhnpeaaGreatDoorWorldMadeSt7
import Derived.Test.YtjpmmfahmhnpeaaGreatDoorWorldMadeSt8
namespace Go.Proofs.YtjpmmfahmhnpeaaGreatDoor.worldMade
open Go.Eng
set_option maxRecDepth 1000000
theorem piece7 : outcome keys8 at8 (krun Tryz.prog (fRec Tryz.prog 1000 60) 9000 (at7.st keys7)) = some (at8.ks, true) := by kernel_rfl
end Go.Proofs.YtjpmmfahmhnpeaaGreatDoor.worldMade
