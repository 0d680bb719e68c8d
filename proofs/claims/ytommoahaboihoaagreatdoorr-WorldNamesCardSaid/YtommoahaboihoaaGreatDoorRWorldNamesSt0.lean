/-
  WorldNames: the state that the run begins with.
-/
import Derived.KernelRfl
import Derived.Test.YtommoahaboihoaaGreatDoorRProg
import Derived.Test.YtommoahaboihoaaGreatDoorREngP
namespace Go.Proofs.YtommoahaboihoaaGreatDoorR.worldNames
open Go.Eng
set_option maxRecDepth 1000000
noncomputable def laid : List (Option CB) := []
noncomputable def start : St := ⟨⟨3, none, .normal, false, FA.init (((Tryz.prog.funcs[3]?).map (·.ntmps)).getD 0) [], [.code (codeAt Tryz.prog 3 [])]⟩, [], CH.first laid⟩
theorem begins : begin? Tryz.prog 3 [] laid = some start := by kernel_rfl
end Go.Proofs.YtommoahaboihoaaGreatDoorR.worldNames
