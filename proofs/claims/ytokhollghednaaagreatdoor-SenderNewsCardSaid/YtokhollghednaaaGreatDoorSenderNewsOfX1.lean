/-
  SenderNews: merkle.Of of depth 1: the checks.
-/
import Derived.KernelRfl
import Derived.Test.YtokhollghednaaaGreatDoorSenderNewsOfH1
namespace Go.Proofs.YtokhollghednaaaGreatDoor.senderNews
open Go.Eng Go.Conc.Lib
set_option maxRecDepth 1000000
set_option linter.unusedVariables false
set_option linter.unusedSimpArgs false
set_option linter.unusedSectionVars false
namespace of1
local instance payEq : Go.ConcR.Payload := ⟨3⟩
theorem head (kd : CallKind) : headU Tryz.prog R0 195 21 (of_args 0) kd (of_sz 0) (of_keys 0) (of_blocks 0) (List.range (of_k 0)) = some (ofS 0 kd) := by kernel_rfl
theorem base (kd : CallKind) : baseOkU (of_k 0) (of_kS 0) 88 512 16 (of_sz 0) (of_sz 0) 29 ((ofS 0 kd).stw (List.range (of_k 0)) (of_sz 0)) = true := by kernel_rfl
theorem lay (kd : CallKind) : layU Tryz.prog R0 10000 (of_k 0) (of_kS 0) (keysI 0) link.tWg ((ofS 0 kd).stw (List.range (of_k 0)) (of_sz 0)) = some (ofA 0 kd 0) := by kernel_rfl
theorem add0 (kd : CallKind) : (List.range 4).map (fun j => (List.range (4 * 0 + j + 1)).map (eAdd kd (4 * 0 + j))) = (List.range 4).map (fun j => List.replicate (4 * 0 + j + 1) (some (ofG 0 kd (4 * 0 + j)))) := by kernel_rfl
theorem add1 (kd : CallKind) : (List.range 4).map (fun j => (List.range (4 * 1 + j + 1)).map (eAdd kd (4 * 1 + j))) = (List.range 4).map (fun j => List.replicate (4 * 1 + j + 1) (some (ofG 0 kd (4 * 1 + j)))) := by kernel_rfl
theorem add2 (kd : CallKind) : (List.range 4).map (fun j => (List.range (4 * 2 + j + 1)).map (eAdd kd (4 * 2 + j))) = (List.range 4).map (fun j => List.replicate (4 * 2 + j + 1) (some (ofG 0 kd (4 * 2 + j)))) := by kernel_rfl
theorem add3 (kd : CallKind) : (List.range 4).map (fun j => (List.range (4 * 3 + j + 1)).map (eAdd kd (4 * 3 + j))) = (List.range 4).map (fun j => List.replicate (4 * 3 + j + 1) (some (ofG 0 kd (4 * 3 + j)))) := by kernel_rfl
theorem keepI : (List.range 17).all (fun i => keepsAll (of_k 0) (keysI i)) = true := by kernel_rfl
theorem keepG : (List.range 16).all (fun i => keepsAll (of_k 0) (keysG i)) = true := by kernel_rfl
theorem keepF : keepsAll (of_sz 0) (keysI 16) = true := by kernel_rfl
theorem dis (kd : CallKind) : disOk (of_k 0) (xf link) ((ofA 0 kd 16).stw (keysI 16) (of_k 0)) = true := by kernel_rfl
theorem zero0 (kd : CallKind) (fin : List Value) : eZero fin (eDis kd) = some (ofTF 0 kd fin) := by kernel_rfl
theorem zero1 (kd : CallKind) (fin : List Value) (w : Nat) : eZero fin (eB1 kd w) = some (ofTF 0 kd fin) := by kernel_rfl
theorem zero2 (kd : CallKind) (fin : List Value) (w : Nat) : eZero fin (eB2 kd w) = some (ofTF 0 kd fin) := by kernel_rfl
theorem p0 (k : CallKind) : M0 k 0 1 := fun _ => by kernel_rfl
theorem q0 (k : CallKind) : M1 k 0 1 := fun _ _ => by kernel_rfl
theorem r0 (k : CallKind) : M2 k 0 1 := fun _ _ => by kernel_rfl
theorem p1 (k : CallKind) : M0 k 1 2 := fun _ => by kernel_rfl
theorem q1 (k : CallKind) : M1 k 1 2 := fun _ _ => by kernel_rfl
theorem r1 (k : CallKind) : M2 k 1 2 := fun _ _ => by kernel_rfl
theorem p2 (k : CallKind) : M0 k 2 3 := fun _ => by kernel_rfl
theorem q2 (k : CallKind) : M1 k 2 3 := fun _ _ => by kernel_rfl
theorem r2 (k : CallKind) : M2 k 2 3 := fun _ _ => by kernel_rfl
theorem p3 (k : CallKind) : M0 k 3 4 := fun _ => by kernel_rfl
theorem q3 (k : CallKind) : M1 k 3 4 := fun _ _ => by kernel_rfl
theorem r3 (k : CallKind) : M2 k 3 4 := fun _ _ => by kernel_rfl
theorem p4 (k : CallKind) : M0 k 4 5 := fun _ => by kernel_rfl
theorem q4 (k : CallKind) : M1 k 4 5 := fun _ _ => by kernel_rfl
theorem r4 (k : CallKind) : M2 k 4 5 := fun _ _ => by kernel_rfl
theorem p5 (k : CallKind) : M0 k 5 6 := fun _ => by kernel_rfl
theorem q5 (k : CallKind) : M1 k 5 6 := fun _ _ => by kernel_rfl
theorem r5 (k : CallKind) : M2 k 5 6 := fun _ _ => by kernel_rfl
theorem p6 (k : CallKind) : M0 k 6 7 := fun _ => by kernel_rfl
theorem q6 (k : CallKind) : M1 k 6 7 := fun _ _ => by kernel_rfl
theorem r6 (k : CallKind) : M2 k 6 7 := fun _ _ => by kernel_rfl
theorem p7 (k : CallKind) : M0 k 7 8 := fun _ => by kernel_rfl
theorem q7 (k : CallKind) : M1 k 7 8 := fun _ _ => by kernel_rfl
theorem r7 (k : CallKind) : M2 k 7 8 := fun _ _ => by kernel_rfl
theorem p8 (k : CallKind) : M0 k 8 9 := fun _ => by kernel_rfl
theorem q8 (k : CallKind) : M1 k 8 9 := fun _ _ => by kernel_rfl
theorem r8 (k : CallKind) : M2 k 8 9 := fun _ _ => by kernel_rfl
theorem p9 (k : CallKind) : M0 k 9 10 := fun _ => by kernel_rfl
theorem q9 (k : CallKind) : M1 k 9 10 := fun _ _ => by kernel_rfl
theorem r9 (k : CallKind) : M2 k 9 10 := fun _ _ => by kernel_rfl
theorem p10 (k : CallKind) : M0 k 10 11 := fun _ => by kernel_rfl
theorem q10 (k : CallKind) : M1 k 10 11 := fun _ _ => by kernel_rfl
theorem r10 (k : CallKind) : M2 k 10 11 := fun _ _ => by kernel_rfl
theorem p11 (k : CallKind) : M0 k 11 12 := fun _ => by kernel_rfl
theorem q11 (k : CallKind) : M1 k 11 12 := fun _ _ => by kernel_rfl
theorem r11 (k : CallKind) : M2 k 11 12 := fun _ _ => by kernel_rfl
theorem p12 (k : CallKind) : M0 k 12 13 := fun _ => by kernel_rfl
theorem q12 (k : CallKind) : M1 k 12 13 := fun _ _ => by kernel_rfl
theorem r12 (k : CallKind) : M2 k 12 13 := fun _ _ => by kernel_rfl
theorem p13 (k : CallKind) : M0 k 13 14 := fun _ => by kernel_rfl
theorem q13 (k : CallKind) : M1 k 13 14 := fun _ _ => by kernel_rfl
theorem r13 (k : CallKind) : M2 k 13 14 := fun _ _ => by kernel_rfl
theorem p14 (k : CallKind) : M0 k 14 15 := fun _ => by kernel_rfl
theorem q14 (k : CallKind) : M1 k 14 15 := fun _ _ => by kernel_rfl
theorem r14 (k : CallKind) : M2 k 14 15 := fun _ _ => by kernel_rfl
theorem p15 (k : CallKind) : M0 k 15 16 := fun _ => by kernel_rfl
theorem q15 (k : CallKind) : M1 k 15 16 := fun _ _ => by kernel_rfl
theorem r15 (k : CallKind) : M2 k 15 16 := fun _ _ => by kernel_rfl
theorem adds (kd : CallKind) : ∀ i, i < 16 → (List.range (i + 1)).map (eAdd kd i) = List.replicate (i + 1) (some (ofG 0 kd i)) := of_grid (n := 4) (m := 4) (by decide) fun q hq => match q, hq with
    | 0, _ => add0 kd
    | 1, _ => add1 kd
    | 2, _ => add2 kd
    | 3, _ => add3 kd
    | _ + 4, h => absurd h (by omega)
theorem more0 (kd : CallKind) : ∀ v, v < 16 → ∀ fin, eMore fin v (eDis kd) = some (ofTF 0 kd fin, ofB 0 kd (v + 1)) := fun i hi => match i, hi with
    | 0, _ => p0 kd
    | 1, _ => p1 kd
    | 2, _ => p2 kd
    | 3, _ => p3 kd
    | 4, _ => p4 kd
    | 5, _ => p5 kd
    | 6, _ => p6 kd
    | 7, _ => p7 kd
    | 8, _ => p8 kd
    | 9, _ => p9 kd
    | 10, _ => p10 kd
    | 11, _ => p11 kd
    | 12, _ => p12 kd
    | 13, _ => p13 kd
    | 14, _ => p14 kd
    | 15, _ => p15 kd
    | _ + 16, h => absurd h (by omega)
theorem more1 (kd : CallKind) : ∀ v, v < 16 → ∀ fin w, eMore fin v (eB1 kd w) = some (ofTF 0 kd fin, ofB 0 kd (16 + 1 + v)) := fun i hi => match i, hi with
    | 0, _ => q0 kd
    | 1, _ => q1 kd
    | 2, _ => q2 kd
    | 3, _ => q3 kd
    | 4, _ => q4 kd
    | 5, _ => q5 kd
    | 6, _ => q6 kd
    | 7, _ => q7 kd
    | 8, _ => q8 kd
    | 9, _ => q9 kd
    | 10, _ => q10 kd
    | 11, _ => q11 kd
    | 12, _ => q12 kd
    | 13, _ => q13 kd
    | 14, _ => q14 kd
    | 15, _ => q15 kd
    | _ + 16, h => absurd h (by omega)
theorem more2 (kd : CallKind) : ∀ v, v < 16 → ∀ fin w, eMore fin v (eB2 kd w) = some (ofTF 0 kd fin, ofB 0 kd (16 + 1 + v)) := fun i hi => match i, hi with
    | 0, _ => r0 kd
    | 1, _ => r1 kd
    | 2, _ => r2 kd
    | 3, _ => r3 kd
    | 4, _ => r4 kd
    | 5, _ => r5 kd
    | 6, _ => r6 kd
    | 7, _ => r7 kd
    | 8, _ => r8 kd
    | 9, _ => r9 kd
    | 10, _ => r10 kd
    | 11, _ => r11 kd
    | 12, _ => r12 kd
    | 13, _ => r13 kd
    | 14, _ => r14 kd
    | 15, _ => r15 kd
    | _ + 16, h => absurd h (by omega)
end of1
end Go.Proofs.YtokhollghednaaaGreatDoor.senderNews
namespace Go.Proofs.YtokhollghednaaaGreatDoor.senderNews
open Go.Eng Go.Conc.Lib
set_option maxRecDepth 1000000
set_option linter.unusedVariables false
set_option linter.unusedSimpArgs false
set_option linter.unusedSectionVars false
namespace of1
local instance payGo : Go.ConcR.Payload := ⟨3⟩
theorem go0 (kd : CallKind) : eGo kd 0 = some (ofA 0 kd 1) := by kernel_rfl
theorem go1 (kd : CallKind) : eGo kd 1 = some (ofA 0 kd 2) := by kernel_rfl
theorem go2 (kd : CallKind) : eGo kd 2 = some (ofA 0 kd 3) := by kernel_rfl
theorem go3 (kd : CallKind) : eGo kd 3 = some (ofA 0 kd 4) := by kernel_rfl
theorem go4 (kd : CallKind) : eGo kd 4 = some (ofA 0 kd 5) := by kernel_rfl
theorem go5 (kd : CallKind) : eGo kd 5 = some (ofA 0 kd 6) := by kernel_rfl
theorem go6 (kd : CallKind) : eGo kd 6 = some (ofA 0 kd 7) := by kernel_rfl
theorem go7 (kd : CallKind) : eGo kd 7 = some (ofA 0 kd 8) := by kernel_rfl
theorem go8 (kd : CallKind) : eGo kd 8 = some (ofA 0 kd 9) := by kernel_rfl
theorem go9 (kd : CallKind) : eGo kd 9 = some (ofA 0 kd 10) := by kernel_rfl
theorem go10 (kd : CallKind) : eGo kd 10 = some (ofA 0 kd 11) := by kernel_rfl
theorem go11 (kd : CallKind) : eGo kd 11 = some (ofA 0 kd 12) := by kernel_rfl
theorem go12 (kd : CallKind) : eGo kd 12 = some (ofA 0 kd 13) := by kernel_rfl
theorem go13 (kd : CallKind) : eGo kd 13 = some (ofA 0 kd 14) := by kernel_rfl
theorem go14 (kd : CallKind) : eGo kd 14 = some (ofA 0 kd 15) := by kernel_rfl
theorem go15 (kd : CallKind) : eGo kd 15 = some (ofA 0 kd 16) := by kernel_rfl
end of1
end Go.Proofs.YtokhollghednaaaGreatDoor.senderNews
