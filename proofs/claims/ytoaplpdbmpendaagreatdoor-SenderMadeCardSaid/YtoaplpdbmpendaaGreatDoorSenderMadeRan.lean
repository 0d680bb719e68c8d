/-
  SenderMade: the whole run.
-/
import Derived.KernelRfl
import Derived.Test.YtoaplpdbmpendaaGreatDoorSenderMadeOfHook
namespace Go.Proofs.YtoaplpdbmpendaaGreatDoor.senderMade
open Go.Eng Go.Conc.Lib
set_option maxRecDepth 1000000
set_option linter.unusedVariables false
set_option linter.unusedSimpArgs false
set_option linter.unusedSectionVars false
noncomputable def laid : List (Option CB) := []
noncomputable def args (k : Int) (key val : List UInt8) (ver : Int) : List Value := [.agg #[.chan (some 0), .chan (some 1), .chan (some 2), .chan (some 3), .int .i64 k, .string ⟨⟨key⟩⟩, .string ⟨⟨val⟩⟩, .int .i64 ver]]
noncomputable def start (k : Int) (key val : List UInt8) (ver : Int) : St := ⟨⟨3, none, .normal, false, FA.init (((Tryz.prog.funcs[3]?).map (·.ntmps)).getD 0) (args k key val ver), [.code (codeAt Tryz.prog 3 [])]⟩, [], CH.first laid⟩
theorem begins (k : Int) (key val : List UInt8) (ver : Int) : begin? Tryz.prog 3 (args k key val ver) laid = some (start k key val ver) := by kernel_rfl
theorem piece0 (k : Int) (key val : List UInt8) (ver : Int) : (kleaps Tryz.prog (fRec Tryz.prog allHook 1000 60) [113, 490, 1291] (start k key val ver)).bind (St.final Tryz.prog 3) = some (.bool true, (CH.first laid).heads) := by kernel_rfl
theorem ran (k : Int) (key val : List UInt8) (ver : Int) : ∃ S : St, Eng.Reach Tryz.prog (start k key val ver) S ∧ S.final Tryz.prog 3 = some (.bool true, (CH.first laid).heads) := leaps_last (noCount counted) mixed allHooked (piece0 k key val ver)
#print axioms ran
end Go.Proofs.YtoaplpdbmpendaaGreatDoor.senderMade
