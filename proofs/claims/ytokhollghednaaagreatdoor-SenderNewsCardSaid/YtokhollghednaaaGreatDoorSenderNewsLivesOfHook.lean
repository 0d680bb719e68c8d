/-
  SenderNewsLives: merkle.Of of an empty table, as a known call.
-/
import Derived.KernelRfl
import Derived.Test.YtokhollghednaaaGreatDoorSenderNewsLivesNodB
import Derived.Test.YtokhollghednaaaGreatDoorSenderNewsLivesEq0
import Derived.Test.YtokhollghednaaaGreatDoorSenderNewsLivesEq1
namespace Go.Proofs.YtokhollghednaaaGreatDoor.senderNewsLives
open Go.Eng Go.Conc.Lib
set_option maxRecDepth 1000000
set_option linter.unusedVariables false
set_option linter.unusedSimpArgs false
set_option linter.unusedSectionVars false
local instance : Go.ConcR.Payload := ⟨3⟩
instance hooksOn : Hk := ⟨true⟩
noncomputable def tailHook : Hook := hooks [leafHook, node.hook]
theorem tailHooked : HookOk Tryz.prog tailHook := hooks_ok fun h hh => by
  simp only [List.mem_cons, List.mem_nil_iff, or_false] at hh
  rcases hh with rfl | rfl
  · exact leafHooked
  · exact node.hooked
theorem ofBody : (Tryz.prog.funcs[21]?).any (fun fn => fn.body.isSome) = true := by kernel_rfl
theorem tail0n : tailOne Tryz.prog (fRec Tryz.prog tailHook 1000 60) 92 21 .normal (of_value 0) (of_sz 0) (of_news 0) ((ofTF 0 .normal).stw (keysI 0 16) (of_sz 0)) = true := by kernel_rfl
theorem tail0d : tailOne Tryz.prog (fRec Tryz.prog tailHook 1000 60) 92 21 .deferred (of_value 0) (of_sz 0) (of_news 0) ((ofTF 0 .deferred).stw (keysI 0 16) (of_sz 0)) = true := by kernel_rfl
theorem keepS0 : keepsAll (of_sz 0) (List.range (of_k 0)) = true := by kernel_rfl
theorem of0 (N : CH) (h1 : N.sz = of_sz 0) (h2 : (of_keys 0).map N.get = of_blocks 0) : CallOk Tryz.prog 21 (of_args 0) N (of_value 0) (N.pushL (of_news 0)) :=
  of_call (TS := ofS 0) (TF := ofTF 0) (noCount counted) mixed wgLib (@leafHooked ⟨false⟩) leafHooked tailHooked keepS0
    (fun kd hkd => by
      rcases hkd with rfl | rfl
      · exact ⟨q0n.head, q0n.many, tail0n⟩
      · exact ⟨q0d.head, q0d.many, tail0d⟩) N h1 h2
noncomputable def ofHook0 : Hook := hookMem 21 (of_args 0) (of_sz 0) (of_keys 0) (of_blocks 0) (of_value 0) (of_news 0)
theorem ofHooked0 : HookOk Tryz.prog ofHook0 := hookMem_ok ofBody of0
theorem tail1n : tailOne Tryz.prog (fRec Tryz.prog tailHook 1000 60) 92 21 .normal (of_value 32) (of_sz 32) (of_news 32) ((ofTF 32 .normal).stw (keysI 32 16) (of_sz 32)) = true := by kernel_rfl
theorem tail1d : tailOne Tryz.prog (fRec Tryz.prog tailHook 1000 60) 92 21 .deferred (of_value 32) (of_sz 32) (of_news 32) ((ofTF 32 .deferred).stw (keysI 32 16) (of_sz 32)) = true := by kernel_rfl
theorem keepS1 : keepsAll (of_sz 32) (List.range (of_k 32)) = true := by kernel_rfl
theorem of1 (N : CH) (h1 : N.sz = of_sz 32) (h2 : (of_keys 32).map N.get = of_blocks 32) : CallOk Tryz.prog 21 (of_args 32) N (of_value 32) (N.pushL (of_news 32)) :=
  of_call (TS := ofS 32) (TF := ofTF 32) (noCount counted) mixed wgLib (@leafHooked ⟨false⟩) leafHooked tailHooked keepS1
    (fun kd hkd => by
      rcases hkd with rfl | rfl
      · exact ⟨q1n.head, q1n.many, tail1n⟩
      · exact ⟨q1d.head, q1d.many, tail1d⟩) N h1 h2
noncomputable def ofHook1 : Hook := hookMem 21 (of_args 32) (of_sz 32) (of_keys 32) (of_blocks 32) (of_value 32) (of_news 32)
theorem ofHooked1 : HookOk Tryz.prog ofHook1 := hookMem_ok ofBody of1
noncomputable def allHook : Hook := hooks [leafHook, node.hook, ofHook0, ofHook1]
theorem allHooked : HookOk Tryz.prog allHook := hooks_ok fun h hh => by
  simp only [List.mem_cons, List.mem_nil_iff, or_false] at hh
  rcases hh with rfl | rfl | rfl | rfl
  · exact leafHooked
  · exact node.hooked
  · exact ofHooked0
  · exact ofHooked1
end Go.Proofs.YtokhollghednaaaGreatDoor.senderNewsLives
