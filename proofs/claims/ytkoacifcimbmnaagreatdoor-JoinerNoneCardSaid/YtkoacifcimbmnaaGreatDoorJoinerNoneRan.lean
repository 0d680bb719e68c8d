/-
  JoinerNone: the engine's run, and two facts on the program.
-/
import Derived.Test.YtkoacifcimbmnaaGreatDoorChecked
import Derived.Test.YtkoacifcimbmnaaGreatDoorEngL
import Derived.KernelRfl
namespace Go.Proofs.YtkoacifcimbmnaaGreatDoor.joinerNone
def quiet (P : Program) : Bool := P.funcs.toList.all fun fn => !fn.body.isSome || !(fn.name == "runtime.NumGoroutine")
theorem noCount {P : Program} (h : quiet P = true) : Eng.NoCount P := by
  intro f fn hf hb
  have hm : fn ∈ P.funcs.toList := by simpa using Array.mem_of_getElem? hf
  have := List.all_eq_true.1 h fn hm
  simpa [hb] using this
theorem counted : quiet Tryz.prog = true := by kernel_rfl
theorem mixed : Tryz.prog.follows .mixedOrders = true := by kernel_rfl
/-- A struct whose cells are only handed on. -/
def can (k n : Nat) : Value := .agg ((List.range n).map fun i => Value.chan (some (k + i))).toArray
theorem ran : ((Eng.mkRec Tryz.prog 1000 60).call 4 [can 0 37] (Eng.CH.first [])).map (fun r => (r.1, r.2.heads)) = some (.bool true, (Eng.CH.first []).heads) := by kernel_rfl
end Go.Proofs.YtkoacifcimbmnaaGreatDoor.joinerNone
