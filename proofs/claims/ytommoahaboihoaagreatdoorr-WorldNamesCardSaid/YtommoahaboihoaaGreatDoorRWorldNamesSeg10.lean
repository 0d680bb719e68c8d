/-
  WorldNames: piece 11 of the run.
-/
import Derived.KernelRfl
import Derived.Test.YtommoahaboihoaaGreatDoorRWorldNamesSt10
import Derived.Test.YtommoahaboihoaaGreatDoorRWorldNamesSt0
namespace Go.Proofs.YtommoahaboihoaaGreatDoorR.worldNames
open Go.Eng
set_option maxRecDepth 1000000
theorem piece10 : (krun Tryz.prog (fRec Tryz.prog 1000 60) 8442 (at10.st keys10)).bind (St.final Tryz.prog 3) = some (.bool true, (CH.first laid).heads) := by kernel_rfl
end Go.Proofs.YtommoahaboihoaaGreatDoorR.worldNames
