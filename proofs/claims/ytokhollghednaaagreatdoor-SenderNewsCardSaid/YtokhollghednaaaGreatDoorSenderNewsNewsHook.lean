/-
  SenderNews: all known calls of the law, and where its run begins.
-/
import Derived.KernelRfl
import Derived.Test.YtokhollghednaaaGreatDoorSenderNewsOfY1
import Derived.Test.YtokhollghednaaaGreatDoorSenderNewsOfY2
import Derived.Test.YtokhollghednaaaGreatDoorSenderNewsOfTail3
import Derived.Test.YtokhollghednaaaGreatDoorSenderNewsLivesHook
namespace Go.Proofs.YtokhollghednaaaGreatDoor.senderNews
open Go.Eng Go.Conc.Lib
set_option maxRecDepth 1000000
set_option linter.unusedVariables false
set_option linter.unusedSimpArgs false
set_option linter.unusedSectionVars false
instance hooksOn : Hk := ⟨true⟩
theorem ofBody : (Tryz.prog.funcs[21]?).any (fun fn => fn.body.isSome) = true := by kernel_rfl
noncomputable def ofHook1 : Hook := hookMem 21 (of1.of_args 0) (of1.of_sz 0) (of1.of_keys 0) (of1.of_blocks 0) (of1.of_value 0) of1.of_news
theorem ofHooked1 : HookOk Tryz.prog ofHook1 := hookMem_ok ofBody of1.called
noncomputable def ofHook2 : Hook := hookMem 21 (of2.of_args 0) (of2.of_sz 0) (of2.of_keys 0) (of2.of_blocks 0) (of2.of_value 0) of2.of_news
theorem ofHooked2 : HookOk Tryz.prog ofHook2 := hookMem_ok ofBody of2.called
noncomputable def ofHook3 : Hook := hookMem 21 (of3.of_args 0) (of3.of_sz 0) (of3.of_keys 0) (of3.of_blocks 0) (of3.of_value 0) of3.of_news
theorem ofHooked3 : HookOk Tryz.prog ofHook3 := hookMem_ok ofBody of3.called
noncomputable def lawHook : Hook := hooks [ofHook1, ofHook2, ofHook3, senderNewsLives.hook]
theorem lawHooked : HookOk Tryz.prog lawHook := hooks_ok fun h hh => by
  simp only [List.mem_cons, List.mem_nil_iff, or_false] at hh
  rcases hh with rfl | rfl | rfl | rfl
  · exact ofHooked1
  · exact ofHooked2
  · exact ofHooked3
  · exact senderNewsLives.hooked
noncomputable abbrev R : Rec := fRec Tryz.prog lawHook 1000 60
noncomputable def laid : List (Option CB) := []
def args (a d w p c l : Int) : List Value := [.int .i64 a, .agg #[.int .i64 d, .int .i64 w, .int .i64 p, .int .i64 c, .int .i64 l]]
noncomputable def start (a d w p c l : Int) : St := ⟨⟨3, none, .normal, false, FA.init (((Tryz.prog.funcs[3]?).map (·.ntmps)).getD 0) (args a d w p c l), [.code (codeAt Tryz.prog 3 [])]⟩, [], CH.first laid⟩
theorem begins (a d w p c l : Int) : begin? Tryz.prog 3 (args a d w p c l) laid = some (start a d w p c l) := by kernel_rfl
end Go.Proofs.YtokhollghednaaaGreatDoor.senderNews
