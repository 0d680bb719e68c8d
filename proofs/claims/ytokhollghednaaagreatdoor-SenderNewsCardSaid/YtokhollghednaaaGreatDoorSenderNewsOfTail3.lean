/-
  SenderNews: merkle.Of of depth 3: what stands behind its workers; the call as a known one.
-/
import Derived.KernelRfl
import Derived.Test.YtokhollghednaaaGreatDoorEngZs
import Derived.Test.YtokhollghednaaaGreatDoorSenderNewsOfY3
import Derived.Test.YtokhollghednaaaGreatDoorSenderNewsNodsHook
namespace Go.Proofs.YtokhollghednaaaGreatDoor.senderNews
open Go.Eng Go.Conc.Lib
set_option maxRecDepth 1000000
set_option linter.unusedVariables false
set_option linter.unusedSimpArgs false
set_option linter.unusedSectionVars false
namespace of3
local instance payTail : Go.ConcR.Payload := ⟨3⟩
/-- What a node of the last level but one answers. -/
noncomputable def H (g : Nat → Int) (i : Nat) : Int := nods.intsOf (nods.out (nods.intAt ((List.range 512).map fun k => byteF g (512 * (i / 32) + k)))) (i % 32)
noncomputable def tT (kd : CallKind) (fin : List Value) (g : Nat → Int) (c : Nat) : Snap := ⟨⟨21, none, kd, false, [(vi 3), (vp 157 0), un, un, (.pointer none), (vi 0), (vp 158 0), (vp 173 0), (vp 174 0), (vp 175 0), (vp 191 0), (vi 2), (vi (31 + 32 * c)), (vi 3), (.bool true), (.bool false), (vp 157 0), (vp 158 0), (vp 158 0), (.bool false), (vi 3), (vp 158 0), (vp 160 0), (vp 160 0), (vp 160 0), (vp 160 2), (.slice (some ⟨172, 0, none⟩) 4 4), (vi 3), (vp 172 3), (.slice (some ⟨170, 0, none⟩) 4096 4096), (vi 16), (.bool false), (vi 15), un, (.func (.func 41) #[] #[(vp 175 0), (vp 191 0), (vp 174 0), (vp 173 0)]), (vi 16), un, (vi 3), (vi 2), (vi 2), (.bool true), un, un, (vp 160 0), (vp 160 0), (vp 160 2), (.slice (some ⟨172, 0, none⟩) 4 4), (vi 2), (vp 172 2), (.slice (some ⟨167, 0, none⟩) 256 256), (vi 256), (vi (31 + 32 * c)), (.bool true), (vi (31 + 32 * c)), (vp 160 0), (vi 2), (vi (31 + 32 * c)), un, (vi (31 + 32 * c)), un], [], [(regAt Tryz.prog 21 [1, 1, 1, 1, 1, 1, 1, 1, 1, 0, 1, 0, 0, 1, 0, 0, 1, 0, 0, 1, 1, 0, 0, 1] 4), (.inBlock 5), (.code (codeAt Tryz.prog 21 [1, 1, 1, 1, 1, 1, 1, 1, 1, 0, 1, 0, 0, 1, 0, 0, 1, 0, 0, 1, 1, 1])), (.inLoop (codeAt Tryz.prog 21 [1, 1, 1, 1, 1, 1, 1, 1, 1, 0, 1, 0, 0, 1, 0, 0, 1, 0, 0])), (.inBlock 4), (.inBlock 3), (.code (codeAt Tryz.prog 21 [1, 1, 1, 1, 1, 1, 1, 1, 1, 0, 1, 0, 0, 1, 1])), (.inLoop (codeAt Tryz.prog 21 [1, 1, 1, 1, 1, 1, 1, 1, 1, 0, 1, 0, 0])), (.inBlock 2), (.code (codeAt Tryz.prog 21 [1, 1, 1, 1, 1, 1, 1, 1, 1, 1]))]⟩, [], 192, ((ofTF 0 kd fin).blocks.set 170 (some (.far 131072 (byteF g) 88))).set 167 (some (.row ((List.range (1024 * (c + 1))).map (byteF (H g)) ++ List.replicate (8192 - 1024 * (c + 1)) (.int .u8 (.ofNat 0))) 88 false))⟩
abbrev keysT : List Nat := List.range 192
theorem keepT : keepsAll (of_sz 0) keysT = true := by kernel_rfl
noncomputable abbrev RT : Rec := fRec Tryz.prog nods.hook 1000 60
/-- The beginning, the row that is filled next written down. -/
noncomputable def tI (kd : CallKind) (fin : List Value) (g : Nat → Int) : Snap := ⟨⟨21, none, kd, false, [(vi 3), (vp 157 0), un, un, (.pointer none), (vi 0), (vp 158 0), (vp 173 0), (vp 174 0), (vp 175 0), (vp 191 0), (vi 2), un, (vi 3), (.bool true), (.bool false), (vp 157 0), (vp 158 0), (vp 158 0), (.bool false), (vi 3), (vp 158 0), (vp 160 0), (vp 160 0), (vp 160 0), (vp 160 2), (.slice (some ⟨172, 0, none⟩) 4 4), (vi 3), (vp 172 3), (.slice (some ⟨170, 0, none⟩) 4096 4096), (vi 16), (.bool false), (vi 15), un, (.func (.func 41) #[] #[(vp 175 0), (vp 191 0), (vp 174 0), (vp 173 0)]), (vi 16), un, (vi 3), (vi 2), (vi 2), (.bool true), un, un, (vp 160 0), (vp 160 0), (vp 160 2), (.slice (some ⟨172, 0, none⟩) 4 4), (vi 2), un, un, un, un, un, un, un, un, un, un, un, un], [], [(regAt Tryz.prog 21 [1, 1, 1, 1, 1, 1, 1, 1, 1, 0, 1, 0, 0, 1, 0, 0, 0] 5), (.code (codeAt Tryz.prog 21 [1, 1, 1, 1, 1, 1, 1, 1, 1, 0, 1, 0, 0, 1, 0, 0, 1])), (.inBlock 3), (.code (codeAt Tryz.prog 21 [1, 1, 1, 1, 1, 1, 1, 1, 1, 0, 1, 0, 0, 1, 1])), (.inLoop (codeAt Tryz.prog 21 [1, 1, 1, 1, 1, 1, 1, 1, 1, 0, 1, 0, 0])), (.inBlock 2), (.code (codeAt Tryz.prog 21 [1, 1, 1, 1, 1, 1, 1, 1, 1, 1]))]⟩, [], 192, ((ofTF 0 kd fin).blocks.set 170 (some (.far 131072 (byteF g) 88))).set 167 (some (.row (List.replicate 8192 (.int .u8 (.ofNat 0))) 88 false))⟩
theorem pieceI (kd : CallKind) (g : Nat → Int) (fin : List Value) : segT Tryz.prog RT 27 (of_sz 0) keysT (((ofTF 0 kd fin).stw (keysI 16) (of_sz 0)).far (of_kS 0) 131072 g 88) = some (tI kd fin g) := by kernel_rfl
theorem piece0 (kd : CallKind) (g : Nat → Int) (fin : List Value) : segT Tryz.prog RT 928 (of_sz 0) keysT ((tI kd fin g).stw keysT (of_sz 0)) = some (tT kd fin g 0) := by kernel_rfl
theorem piece1 (kd : CallKind) (g : Nat → Int) (fin : List Value) : segT Tryz.prog RT 928 (of_sz 0) keysT ((tT kd fin g 0).stw keysT (of_sz 0)) = some (tT kd fin g 1) := by kernel_rfl
theorem piece2 (kd : CallKind) (g : Nat → Int) (fin : List Value) : segT Tryz.prog RT 928 (of_sz 0) keysT ((tT kd fin g 1).stw keysT (of_sz 0)) = some (tT kd fin g 2) := by kernel_rfl
theorem piece3 (kd : CallKind) (g : Nat → Int) (fin : List Value) : segT Tryz.prog RT 928 (of_sz 0) keysT ((tT kd fin g 2).stw keysT (of_sz 0)) = some (tT kd fin g 3) := by kernel_rfl
theorem piece4 (kd : CallKind) (g : Nat → Int) (fin : List Value) : segT Tryz.prog RT 928 (of_sz 0) keysT ((tT kd fin g 3).stw keysT (of_sz 0)) = some (tT kd fin g 4) := by kernel_rfl
theorem piece5 (kd : CallKind) (g : Nat → Int) (fin : List Value) : segT Tryz.prog RT 928 (of_sz 0) keysT ((tT kd fin g 4).stw keysT (of_sz 0)) = some (tT kd fin g 5) := by kernel_rfl
theorem piece6 (kd : CallKind) (g : Nat → Int) (fin : List Value) : segT Tryz.prog RT 928 (of_sz 0) keysT ((tT kd fin g 5).stw keysT (of_sz 0)) = some (tT kd fin g 6) := by kernel_rfl
theorem piece7 (kd : CallKind) (g : Nat → Int) (fin : List Value) : segT Tryz.prog RT 928 (of_sz 0) keysT ((tT kd fin g 6).stw keysT (of_sz 0)) = some (tT kd fin g 7) := by kernel_rfl
theorem tail (g : Nat → Int) (fin : List Value) : tailOne Tryz.prog RT 605 21 .normal (of_value 0) (of_sz 0) of_news ((tT .normal fin g 7).stw keysT (of_sz 0)) = true := by kernel_rfl
theorem alikeF (fin : List Value) (g : Nat → Int) : Eng.Alike ((tT .normal fin g 7).stw keysT (of_sz 0)) ((tT .deferred fin g 7).stw keysT (of_sz 0)) := ⟨rfl, rfl⟩
theorem tails (kd : CallKind) (hkd : kd = .normal ∨ kd = .deferred) (g : Nat → Int) (fin : List Value) : @Tails ⟨true⟩ Tryz.prog 21 kd (of_value 0) (of_sz 0) of_news (((ofTF 0 kd fin).stw (keysI 16) (of_sz 0)).far (of_kS 0) 131072 g 88) := by
  letI : Hk := ⟨true⟩
  have hl := tails_both (noCount counted) mixed nods.hooked (S := fun kd => (tT kd fin g 7).stw keysT (of_sz 0)) (tail g fin) (alikeF fin g) kd hkd
  have hl := tails_seg (noCount counted) mixed nods.hooked keepT (piece7 kd g fin) hl
  have hl := tails_seg (noCount counted) mixed nods.hooked keepT (piece6 kd g fin) hl
  have hl := tails_seg (noCount counted) mixed nods.hooked keepT (piece5 kd g fin) hl
  have hl := tails_seg (noCount counted) mixed nods.hooked keepT (piece4 kd g fin) hl
  have hl := tails_seg (noCount counted) mixed nods.hooked keepT (piece3 kd g fin) hl
  have hl := tails_seg (noCount counted) mixed nods.hooked keepT (piece2 kd g fin) hl
  have hl := tails_seg (noCount counted) mixed nods.hooked keepT (piece1 kd g fin) hl
  have hl := tails_seg (noCount counted) mixed nods.hooked keepT (piece0 kd g fin) hl
  exact tails_seg (noCount counted) mixed nods.hooked keepT (pieceI kd g fin) hl
theorem keepS : keepsAll (of_sz 0) (List.range (of_k 0)) = true := by kernel_rfl
theorem rowF (kd : CallKind) (fin : List Value) : ((ofTF 0 kd fin).stw (keysI 16) (of_sz 0)).N.get (of_kS 0) = some (.row fin 88 false) := by kernel_rfl
theorem ltF (kd : CallKind) (fin : List Value) : Nat.blt (of_kS 0) ((ofTF 0 kd fin).stw (keysI 16) (of_sz 0)).N.sz = true := by kernel_rfl
theorem isB_8 (v : Value) (h : isB v = true) : isB8 v = true := by
  unfold isB at h
  split at h
  · rfl
  · cases h
theorem called (N : CH) (h1 : N.sz = (of_sz 0)) (h2 : (of_keys 0).map N.get = of_blocks 0) : @CallOk ⟨true⟩ Tryz.prog 21 (of_args 0) N (of_value 0) (N.pushL of_news) :=
  of_callG (TS := ofS 0) (TF := ofTF 0) (ok := isB) (noCount counted) mixed wgLib (@leafHooked ⟨false⟩) (@leafHooked ⟨true⟩) keepS isB_8 head many rowF ltF tails N h1 h2
end of3
end Go.Proofs.YtokhollghednaaaGreatDoor.senderNews
