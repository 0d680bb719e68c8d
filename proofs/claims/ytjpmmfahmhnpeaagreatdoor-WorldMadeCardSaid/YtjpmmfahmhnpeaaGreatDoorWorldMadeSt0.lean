/-
  WorldMade: the state that the run begins with.
-/
import Derived.KernelRfl
import Derived.Test.YtjpmmfahmhnpeaaGreatDoorProg
import Derived.Test.YtjpmmfahmhnpeaaGreatDoorEngP
namespace Go.Proofs.YtjpmmfahmhnpeaaGreatDoor.worldMade
open Go.Eng
set_option maxRecDepth 1000000
noncomputable def laid : List (Option CB) := []
/-- A struct whose cells are only handed on. -/
def can (k n : Nat) : Value := .agg ((List.range n).map fun i => Value.chan (some (k + i))).toArray
noncomputable def start : St := ⟨⟨3, none, .normal, false, FA.init (((Tryz.prog.funcs[3]?).map (·.ntmps)).getD 0) [can 0 12, .chan (some 12)], [.code (codeAt Tryz.prog 3 [])]⟩, [], CH.first laid⟩
theorem begins : begin? Tryz.prog 3 [can 0 12, .chan (some 12)] laid = some start := by kernel_rfl
end Go.Proofs.YtjpmmfahmhnpeaaGreatDoor.worldMade
