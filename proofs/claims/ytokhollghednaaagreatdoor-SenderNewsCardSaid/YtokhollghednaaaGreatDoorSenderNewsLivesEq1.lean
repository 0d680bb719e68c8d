/-
  SenderNewsLives: merkle.Of of an empty table, its call 1 (plain): the checks.
-/
import Derived.KernelRfl
import Derived.Test.YtokhollghednaaaGreatDoorSenderNewsLivesSt
namespace Go.Proofs.YtokhollghednaaaGreatDoor.senderNewsLives
open Go.Eng Go.Conc.Lib
set_option maxRecDepth 1000000
set_option linter.unusedVariables false
set_option linter.unusedSimpArgs false
set_option linter.unusedSectionVars false
namespace q1n
local instance : Go.ConcR.Payload := ⟨3⟩
theorem head : headOne Tryz.prog (fRec Tryz.prog leafHook 1000 60) 195 21 (of_args 32) .normal (of_sz 32) (of_keys 32) (of_blocks 32) (List.range (of_k 32)) (ofS 32 .normal) = some (ofS 32 .normal).ks := by kernel_rfl
theorem base : baseOk (of_k 32) (of_kS 32) 88 fin 16 (of_sz 32) (of_sz 32) 29 ((ofS 32 .normal).stw (List.range (of_k 32)) (of_sz 32)) = true := by kernel_rfl
theorem lay : layOne Tryz.prog (fRec Tryz.prog leafHook 1000 60) 10000 (of_k 32) link.tWg (of_kS 32) (keysI 32 0) (ofA 32 .normal 0) ((ofS 32 .normal).stw (List.range (of_k 32)) (of_sz 32)) = some (ofA 32 .normal 0).ks := by kernel_rfl
theorem add0 : (List.range 4).map (fun j => (List.range (4 * 0 + j + 1)).map (eAdd 32 .normal (4 * 0 + j))) = (List.range 4).map (fun j => List.replicate (4 * 0 + j + 1) (some (ofG 32 .normal (4 * 0 + j)).ks)) := by kernel_rfl
theorem add1 : (List.range 4).map (fun j => (List.range (4 * 1 + j + 1)).map (eAdd 32 .normal (4 * 1 + j))) = (List.range 4).map (fun j => List.replicate (4 * 1 + j + 1) (some (ofG 32 .normal (4 * 1 + j)).ks)) := by kernel_rfl
theorem add2 : (List.range 4).map (fun j => (List.range (4 * 2 + j + 1)).map (eAdd 32 .normal (4 * 2 + j))) = (List.range 4).map (fun j => List.replicate (4 * 2 + j + 1) (some (ofG 32 .normal (4 * 2 + j)).ks)) := by kernel_rfl
theorem add3 : (List.range 4).map (fun j => (List.range (4 * 3 + j + 1)).map (eAdd 32 .normal (4 * 3 + j))) = (List.range 4).map (fun j => List.replicate (4 * 3 + j + 1) (some (ofG 32 .normal (4 * 3 + j)).ks)) := by kernel_rfl
theorem go0 : Go' 32 .normal 0 1 := fun _ => by kernel_rfl
theorem go1 : Go' 32 .normal 1 2 := fun _ => by kernel_rfl
theorem go2 : Go' 32 .normal 2 3 := fun _ => by kernel_rfl
theorem go3 : Go' 32 .normal 3 4 := fun _ => by kernel_rfl
theorem go4 : Go' 32 .normal 4 5 := fun _ => by kernel_rfl
theorem go5 : Go' 32 .normal 5 6 := fun _ => by kernel_rfl
theorem go6 : Go' 32 .normal 6 7 := fun _ => by kernel_rfl
theorem go7 : Go' 32 .normal 7 8 := fun _ => by kernel_rfl
theorem go8 : Go' 32 .normal 8 9 := fun _ => by kernel_rfl
theorem go9 : Go' 32 .normal 9 10 := fun _ => by kernel_rfl
theorem go10 : Go' 32 .normal 10 11 := fun _ => by kernel_rfl
theorem go11 : Go' 32 .normal 11 12 := fun _ => by kernel_rfl
theorem go12 : Go' 32 .normal 12 13 := fun _ => by kernel_rfl
theorem go13 : Go' 32 .normal 13 14 := fun _ => by kernel_rfl
theorem go14 : Go' 32 .normal 14 15 := fun _ => by kernel_rfl
theorem go15 : Go' 32 .normal 15 16 := fun _ => by kernel_rfl
theorem keepI : (List.range 17).all (fun i => keepsAll (of_k 32) (keysI 32 i)) = true := by kernel_rfl
theorem keepG : (List.range 16).all (fun i => keepsAll (of_k 32) (keysG 32 i)) = true := by kernel_rfl
theorem keepF : keepsAll (of_sz 32) (keysI 32 16) = true := by kernel_rfl
theorem dis : disOk (of_k 32) (xf link) ((ofA 32 .normal 16).stw (keysI 32 16) (of_k 32)) = true := by kernel_rfl
theorem zero0 : eZero 32 .normal (eDis 32 .normal) = some (ofTF 32 .normal).ks := by kernel_rfl
theorem zero1 : ∀ w, eZero 32 .normal (eB1 32 .normal w) = some (ofTF 32 .normal).ks := fun _ => by kernel_rfl
theorem zero2 : ∀ w, eZero 32 .normal (eB2 32 .normal w) = some (ofTF 32 .normal).ks := fun _ => by kernel_rfl
theorem p0 : M0 32 .normal 0 1 := fun _ => by kernel_rfl
theorem q0 : M1 32 .normal 0 1 := fun _ => by kernel_rfl
theorem r0 : M2 32 .normal 0 1 := fun _ => by kernel_rfl
theorem p1 : M0 32 .normal 1 2 := fun _ => by kernel_rfl
theorem q1 : M1 32 .normal 1 2 := fun _ => by kernel_rfl
theorem r1 : M2 32 .normal 1 2 := fun _ => by kernel_rfl
theorem p2 : M0 32 .normal 2 3 := fun _ => by kernel_rfl
theorem q2 : M1 32 .normal 2 3 := fun _ => by kernel_rfl
theorem r2 : M2 32 .normal 2 3 := fun _ => by kernel_rfl
theorem p3 : M0 32 .normal 3 4 := fun _ => by kernel_rfl
theorem q3 : M1 32 .normal 3 4 := fun _ => by kernel_rfl
theorem r3 : M2 32 .normal 3 4 := fun _ => by kernel_rfl
theorem p4 : M0 32 .normal 4 5 := fun _ => by kernel_rfl
theorem q4 : M1 32 .normal 4 5 := fun _ => by kernel_rfl
theorem r4 : M2 32 .normal 4 5 := fun _ => by kernel_rfl
theorem p5 : M0 32 .normal 5 6 := fun _ => by kernel_rfl
theorem q5 : M1 32 .normal 5 6 := fun _ => by kernel_rfl
theorem r5 : M2 32 .normal 5 6 := fun _ => by kernel_rfl
theorem p6 : M0 32 .normal 6 7 := fun _ => by kernel_rfl
theorem q6 : M1 32 .normal 6 7 := fun _ => by kernel_rfl
theorem r6 : M2 32 .normal 6 7 := fun _ => by kernel_rfl
theorem p7 : M0 32 .normal 7 8 := fun _ => by kernel_rfl
theorem q7 : M1 32 .normal 7 8 := fun _ => by kernel_rfl
theorem r7 : M2 32 .normal 7 8 := fun _ => by kernel_rfl
theorem p8 : M0 32 .normal 8 9 := fun _ => by kernel_rfl
theorem q8 : M1 32 .normal 8 9 := fun _ => by kernel_rfl
theorem r8 : M2 32 .normal 8 9 := fun _ => by kernel_rfl
theorem p9 : M0 32 .normal 9 10 := fun _ => by kernel_rfl
theorem q9 : M1 32 .normal 9 10 := fun _ => by kernel_rfl
theorem r9 : M2 32 .normal 9 10 := fun _ => by kernel_rfl
theorem p10 : M0 32 .normal 10 11 := fun _ => by kernel_rfl
theorem q10 : M1 32 .normal 10 11 := fun _ => by kernel_rfl
theorem r10 : M2 32 .normal 10 11 := fun _ => by kernel_rfl
theorem p11 : M0 32 .normal 11 12 := fun _ => by kernel_rfl
theorem q11 : M1 32 .normal 11 12 := fun _ => by kernel_rfl
theorem r11 : M2 32 .normal 11 12 := fun _ => by kernel_rfl
theorem p12 : M0 32 .normal 12 13 := fun _ => by kernel_rfl
theorem q12 : M1 32 .normal 12 13 := fun _ => by kernel_rfl
theorem r12 : M2 32 .normal 12 13 := fun _ => by kernel_rfl
theorem p13 : M0 32 .normal 13 14 := fun _ => by kernel_rfl
theorem q13 : M1 32 .normal 13 14 := fun _ => by kernel_rfl
theorem r13 : M2 32 .normal 13 14 := fun _ => by kernel_rfl
theorem p14 : M0 32 .normal 14 15 := fun _ => by kernel_rfl
theorem q14 : M1 32 .normal 14 15 := fun _ => by kernel_rfl
theorem r14 : M2 32 .normal 14 15 := fun _ => by kernel_rfl
theorem p15 : M0 32 .normal 15 16 := fun _ => by kernel_rfl
theorem q15 : M1 32 .normal 15 16 := fun _ => by kernel_rfl
theorem r15 : M2 32 .normal 15 16 := fun _ => by kernel_rfl
theorem adds : ∀ i, i < 16 → (List.range (i + 1)).map (eAdd 32 .normal i) = List.replicate (i + 1) (some (ofG 32 .normal i).ks) := of_grid (n := 4) (m := 4) (by decide) fun q hq => match q, hq with
    | 0, _ => add0
    | 1, _ => add1
    | 2, _ => add2
    | 3, _ => add3
    | _ + 4, h => absurd h (by omega)
theorem gos : ∀ i, i < 16 → eGo 32 .normal i = some (ofA 32 .normal (i + 1)).ks := fun i hi => match i, hi with
    | 0, _ => go0 0
    | 1, _ => go1 0
    | 2, _ => go2 0
    | 3, _ => go3 0
    | 4, _ => go4 0
    | 5, _ => go5 0
    | 6, _ => go6 0
    | 7, _ => go7 0
    | 8, _ => go8 0
    | 9, _ => go9 0
    | 10, _ => go10 0
    | 11, _ => go11 0
    | 12, _ => go12 0
    | 13, _ => go13 0
    | 14, _ => go14 0
    | 15, _ => go15 0
    | _ + 16, h => absurd h (by omega)
theorem more0 : ∀ v, v < 16 → eMore 32 .normal (ofB 32 .normal (v + 1)) v (eDis 32 .normal) = some ((ofTF 32 .normal).ks, (ofB 32 .normal (v + 1)).ks) := fun i hi => match i, hi with
    | 0, _ => p0 0
    | 1, _ => p1 0
    | 2, _ => p2 0
    | 3, _ => p3 0
    | 4, _ => p4 0
    | 5, _ => p5 0
    | 6, _ => p6 0
    | 7, _ => p7 0
    | 8, _ => p8 0
    | 9, _ => p9 0
    | 10, _ => p10 0
    | 11, _ => p11 0
    | 12, _ => p12 0
    | 13, _ => p13 0
    | 14, _ => p14 0
    | 15, _ => p15 0
    | _ + 16, h => absurd h (by omega)
theorem more1 : ∀ v, v < 16 → ∀ w, eMore 32 .normal (ofB 32 .normal (16 + 1 + v)) v (eB1 32 .normal w) = some ((ofTF 32 .normal).ks, (ofB 32 .normal (16 + 1 + v)).ks) := fun i hi => match i, hi with
    | 0, _ => q0
    | 1, _ => q1
    | 2, _ => q2
    | 3, _ => q3
    | 4, _ => q4
    | 5, _ => q5
    | 6, _ => q6
    | 7, _ => q7
    | 8, _ => q8
    | 9, _ => q9
    | 10, _ => q10
    | 11, _ => q11
    | 12, _ => q12
    | 13, _ => q13
    | 14, _ => q14
    | 15, _ => q15
    | _ + 16, h => absurd h (by omega)
theorem more2 : ∀ v, v < 16 → ∀ w, eMore 32 .normal (ofB 32 .normal (16 + 1 + v)) v (eB2 32 .normal w) = some ((ofTF 32 .normal).ks, (ofB 32 .normal (16 + 1 + v)).ks) := fun i hi => match i, hi with
    | 0, _ => r0
    | 1, _ => r1
    | 2, _ => r2
    | 3, _ => r3
    | 4, _ => r4
    | 5, _ => r5
    | 6, _ => r6
    | 7, _ => r7
    | 8, _ => r8
    | 9, _ => r9
    | 10, _ => r10
    | 11, _ => r11
    | 12, _ => r12
    | 13, _ => r13
    | 14, _ => r14
    | 15, _ => r15
    | _ + 16, h => absurd h (by omega)
theorem many : @ManyOk ⟨false⟩ Tryz.prog (fRec Tryz.prog leafHook 1000 60) 10000 (of_k 32) (of_kS 32) 88 16 link (xf link) fin (of_sz 32) ((ofS 32 .normal).stw (List.range (of_k 32)) (of_sz 32)) ((ofTF 32 .normal).stw (keysI 32 16) (of_sz 32)) := by
  letI : Hk := ⟨false⟩
  have hB : RecOk Tryz.prog (mkRec Tryz.prog leafHook 1000 60) := mkRec_ok (noCount counted) mixed leafHooked 1000 60
  refine many_ok2 (TI := ofA 32 .normal) (TG := ofG 32 .normal) (TA := ofB 32 .normal) (keysI := keysI 32) (keysG := keysG 32) (keysA := (keysI 32 16)) (keysF := (keysI 32 16)) (mf := 20) (mf2 := 10) (kC := ofkC 32) (kch := ofkch 32) (sts := ofSts) (r := 29) (wmF := (of_sz 32))
    (noCount counted) mixed (fRec_le leafHook 1000 60) hB base lay (fun i hi => allRange keepI i (by omega)) (fun i hi => allRange keepG i hi) keepF (allRange keepI 16 (by omega)) adds (fun i hi => goOne_ok (noCount counted) mixed (fRec_le leafHook 1000 60) hB (allRange keepI (i + 1) (by omega)) (gos i hi))
    (fun i hi => ⟨by simp [ofSts], fun p hp => by simp only [ofSts, List.mem_singleton] at hp; subst hp; simp only [cellsLen, finLen]; omega⟩) (fun i j hi hj h p hp q hq => by simp only [ofSts, List.mem_singleton] at hp hq; subst hp; subst hq; simp only [Far, cellsLen]; omega) (fun i hi => by simp [ofSts]) (covers_eq cover) dis zero0 more0 (fun j h1 h2 => ?_) (fun j v h1 h2 hv => ?_)
  · unfold ofB
    cases hj : Nat.ble j 16 with
    | true => exact zero1 j
    | false => exact zero2 (j - 16)
  · have e : ofB 32 .normal j = bif Nat.ble j 16 then ofB1 32 .normal j else ofB2 32 .normal (j - 16) := rfl
    rw [e]
    cases hj : Nat.ble j 16 with
    | true => exact more1 v hv j
    | false => exact more2 v hv (j - 16)
end q1n
end Go.Proofs.YtokhollghednaaaGreatDoor.senderNewsLives
namespace Go.Proofs.YtokhollghednaaaGreatDoor.senderNewsLives
open Go.Eng Go.Conc.Lib
set_option maxRecDepth 1000000
set_option linter.unusedVariables false
set_option linter.unusedSimpArgs false
set_option linter.unusedSectionVars false
namespace q1d
local instance : Go.ConcR.Payload := ⟨3⟩
theorem head : headOne Tryz.prog (fRec Tryz.prog leafHook 1000 60) 195 21 (of_args 32) .deferred (of_sz 32) (of_keys 32) (of_blocks 32) (List.range (of_k 32)) (ofS 32 .deferred) = some (ofS 32 .deferred).ks := by kernel_rfl
theorem base : baseOk (of_k 32) (of_kS 32) 88 fin 16 (of_sz 32) (of_sz 32) 29 ((ofS 32 .deferred).stw (List.range (of_k 32)) (of_sz 32)) = true := by kernel_rfl
theorem lay : layOne Tryz.prog (fRec Tryz.prog leafHook 1000 60) 10000 (of_k 32) link.tWg (of_kS 32) (keysI 32 0) (ofA 32 .deferred 0) ((ofS 32 .deferred).stw (List.range (of_k 32)) (of_sz 32)) = some (ofA 32 .deferred 0).ks := by kernel_rfl
theorem add0 : (List.range 4).map (fun j => (List.range (4 * 0 + j + 1)).map (eAdd 32 .deferred (4 * 0 + j))) = (List.range 4).map (fun j => List.replicate (4 * 0 + j + 1) (some (ofG 32 .deferred (4 * 0 + j)).ks)) := by kernel_rfl
theorem add1 : (List.range 4).map (fun j => (List.range (4 * 1 + j + 1)).map (eAdd 32 .deferred (4 * 1 + j))) = (List.range 4).map (fun j => List.replicate (4 * 1 + j + 1) (some (ofG 32 .deferred (4 * 1 + j)).ks)) := by kernel_rfl
theorem add2 : (List.range 4).map (fun j => (List.range (4 * 2 + j + 1)).map (eAdd 32 .deferred (4 * 2 + j))) = (List.range 4).map (fun j => List.replicate (4 * 2 + j + 1) (some (ofG 32 .deferred (4 * 2 + j)).ks)) := by kernel_rfl
theorem add3 : (List.range 4).map (fun j => (List.range (4 * 3 + j + 1)).map (eAdd 32 .deferred (4 * 3 + j))) = (List.range 4).map (fun j => List.replicate (4 * 3 + j + 1) (some (ofG 32 .deferred (4 * 3 + j)).ks)) := by kernel_rfl
theorem go0 : Go' 32 .deferred 0 1 := fun _ => by kernel_rfl
theorem go1 : Go' 32 .deferred 1 2 := fun _ => by kernel_rfl
theorem go2 : Go' 32 .deferred 2 3 := fun _ => by kernel_rfl
theorem go3 : Go' 32 .deferred 3 4 := fun _ => by kernel_rfl
theorem go4 : Go' 32 .deferred 4 5 := fun _ => by kernel_rfl
theorem go5 : Go' 32 .deferred 5 6 := fun _ => by kernel_rfl
theorem go6 : Go' 32 .deferred 6 7 := fun _ => by kernel_rfl
theorem go7 : Go' 32 .deferred 7 8 := fun _ => by kernel_rfl
theorem go8 : Go' 32 .deferred 8 9 := fun _ => by kernel_rfl
theorem go9 : Go' 32 .deferred 9 10 := fun _ => by kernel_rfl
theorem go10 : Go' 32 .deferred 10 11 := fun _ => by kernel_rfl
theorem go11 : Go' 32 .deferred 11 12 := fun _ => by kernel_rfl
theorem go12 : Go' 32 .deferred 12 13 := fun _ => by kernel_rfl
theorem go13 : Go' 32 .deferred 13 14 := fun _ => by kernel_rfl
theorem go14 : Go' 32 .deferred 14 15 := fun _ => by kernel_rfl
theorem go15 : Go' 32 .deferred 15 16 := fun _ => by kernel_rfl
theorem keepI : (List.range 17).all (fun i => keepsAll (of_k 32) (keysI 32 i)) = true := by kernel_rfl
theorem keepG : (List.range 16).all (fun i => keepsAll (of_k 32) (keysG 32 i)) = true := by kernel_rfl
theorem keepF : keepsAll (of_sz 32) (keysI 32 16) = true := by kernel_rfl
theorem dis : disOk (of_k 32) (xf link) ((ofA 32 .deferred 16).stw (keysI 32 16) (of_k 32)) = true := by kernel_rfl
theorem zero0 : eZero 32 .deferred (eDis 32 .deferred) = some (ofTF 32 .deferred).ks := by kernel_rfl
theorem zero1 : ∀ w, eZero 32 .deferred (eB1 32 .deferred w) = some (ofTF 32 .deferred).ks := fun _ => by kernel_rfl
theorem zero2 : ∀ w, eZero 32 .deferred (eB2 32 .deferred w) = some (ofTF 32 .deferred).ks := fun _ => by kernel_rfl
theorem p0 : M0 32 .deferred 0 1 := fun _ => by kernel_rfl
theorem q0 : M1 32 .deferred 0 1 := fun _ => by kernel_rfl
theorem r0 : M2 32 .deferred 0 1 := fun _ => by kernel_rfl
theorem p1 : M0 32 .deferred 1 2 := fun _ => by kernel_rfl
theorem q1 : M1 32 .deferred 1 2 := fun _ => by kernel_rfl
theorem r1 : M2 32 .deferred 1 2 := fun _ => by kernel_rfl
theorem p2 : M0 32 .deferred 2 3 := fun _ => by kernel_rfl
theorem q2 : M1 32 .deferred 2 3 := fun _ => by kernel_rfl
theorem r2 : M2 32 .deferred 2 3 := fun _ => by kernel_rfl
theorem p3 : M0 32 .deferred 3 4 := fun _ => by kernel_rfl
theorem q3 : M1 32 .deferred 3 4 := fun _ => by kernel_rfl
theorem r3 : M2 32 .deferred 3 4 := fun _ => by kernel_rfl
theorem p4 : M0 32 .deferred 4 5 := fun _ => by kernel_rfl
theorem q4 : M1 32 .deferred 4 5 := fun _ => by kernel_rfl
theorem r4 : M2 32 .deferred 4 5 := fun _ => by kernel_rfl
theorem p5 : M0 32 .deferred 5 6 := fun _ => by kernel_rfl
theorem q5 : M1 32 .deferred 5 6 := fun _ => by kernel_rfl
theorem r5 : M2 32 .deferred 5 6 := fun _ => by kernel_rfl
theorem p6 : M0 32 .deferred 6 7 := fun _ => by kernel_rfl
theorem q6 : M1 32 .deferred 6 7 := fun _ => by kernel_rfl
theorem r6 : M2 32 .deferred 6 7 := fun _ => by kernel_rfl
theorem p7 : M0 32 .deferred 7 8 := fun _ => by kernel_rfl
theorem q7 : M1 32 .deferred 7 8 := fun _ => by kernel_rfl
theorem r7 : M2 32 .deferred 7 8 := fun _ => by kernel_rfl
theorem p8 : M0 32 .deferred 8 9 := fun _ => by kernel_rfl
theorem q8 : M1 32 .deferred 8 9 := fun _ => by kernel_rfl
theorem r8 : M2 32 .deferred 8 9 := fun _ => by kernel_rfl
theorem p9 : M0 32 .deferred 9 10 := fun _ => by kernel_rfl
theorem q9 : M1 32 .deferred 9 10 := fun _ => by kernel_rfl
theorem r9 : M2 32 .deferred 9 10 := fun _ => by kernel_rfl
theorem p10 : M0 32 .deferred 10 11 := fun _ => by kernel_rfl
theorem q10 : M1 32 .deferred 10 11 := fun _ => by kernel_rfl
theorem r10 : M2 32 .deferred 10 11 := fun _ => by kernel_rfl
theorem p11 : M0 32 .deferred 11 12 := fun _ => by kernel_rfl
theorem q11 : M1 32 .deferred 11 12 := fun _ => by kernel_rfl
theorem r11 : M2 32 .deferred 11 12 := fun _ => by kernel_rfl
theorem p12 : M0 32 .deferred 12 13 := fun _ => by kernel_rfl
theorem q12 : M1 32 .deferred 12 13 := fun _ => by kernel_rfl
theorem r12 : M2 32 .deferred 12 13 := fun _ => by kernel_rfl
theorem p13 : M0 32 .deferred 13 14 := fun _ => by kernel_rfl
theorem q13 : M1 32 .deferred 13 14 := fun _ => by kernel_rfl
theorem r13 : M2 32 .deferred 13 14 := fun _ => by kernel_rfl
theorem p14 : M0 32 .deferred 14 15 := fun _ => by kernel_rfl
theorem q14 : M1 32 .deferred 14 15 := fun _ => by kernel_rfl
theorem r14 : M2 32 .deferred 14 15 := fun _ => by kernel_rfl
theorem p15 : M0 32 .deferred 15 16 := fun _ => by kernel_rfl
theorem q15 : M1 32 .deferred 15 16 := fun _ => by kernel_rfl
theorem r15 : M2 32 .deferred 15 16 := fun _ => by kernel_rfl
theorem adds : ∀ i, i < 16 → (List.range (i + 1)).map (eAdd 32 .deferred i) = List.replicate (i + 1) (some (ofG 32 .deferred i).ks) := of_grid (n := 4) (m := 4) (by decide) fun q hq => match q, hq with
    | 0, _ => add0
    | 1, _ => add1
    | 2, _ => add2
    | 3, _ => add3
    | _ + 4, h => absurd h (by omega)
theorem gos : ∀ i, i < 16 → eGo 32 .deferred i = some (ofA 32 .deferred (i + 1)).ks := fun i hi => match i, hi with
    | 0, _ => go0 0
    | 1, _ => go1 0
    | 2, _ => go2 0
    | 3, _ => go3 0
    | 4, _ => go4 0
    | 5, _ => go5 0
    | 6, _ => go6 0
    | 7, _ => go7 0
    | 8, _ => go8 0
    | 9, _ => go9 0
    | 10, _ => go10 0
    | 11, _ => go11 0
    | 12, _ => go12 0
    | 13, _ => go13 0
    | 14, _ => go14 0
    | 15, _ => go15 0
    | _ + 16, h => absurd h (by omega)
theorem more0 : ∀ v, v < 16 → eMore 32 .deferred (ofB 32 .deferred (v + 1)) v (eDis 32 .deferred) = some ((ofTF 32 .deferred).ks, (ofB 32 .deferred (v + 1)).ks) := fun i hi => match i, hi with
    | 0, _ => p0 0
    | 1, _ => p1 0
    | 2, _ => p2 0
    | 3, _ => p3 0
    | 4, _ => p4 0
    | 5, _ => p5 0
    | 6, _ => p6 0
    | 7, _ => p7 0
    | 8, _ => p8 0
    | 9, _ => p9 0
    | 10, _ => p10 0
    | 11, _ => p11 0
    | 12, _ => p12 0
    | 13, _ => p13 0
    | 14, _ => p14 0
    | 15, _ => p15 0
    | _ + 16, h => absurd h (by omega)
theorem more1 : ∀ v, v < 16 → ∀ w, eMore 32 .deferred (ofB 32 .deferred (16 + 1 + v)) v (eB1 32 .deferred w) = some ((ofTF 32 .deferred).ks, (ofB 32 .deferred (16 + 1 + v)).ks) := fun i hi => match i, hi with
    | 0, _ => q0
    | 1, _ => q1
    | 2, _ => q2
    | 3, _ => q3
    | 4, _ => q4
    | 5, _ => q5
    | 6, _ => q6
    | 7, _ => q7
    | 8, _ => q8
    | 9, _ => q9
    | 10, _ => q10
    | 11, _ => q11
    | 12, _ => q12
    | 13, _ => q13
    | 14, _ => q14
    | 15, _ => q15
    | _ + 16, h => absurd h (by omega)
theorem more2 : ∀ v, v < 16 → ∀ w, eMore 32 .deferred (ofB 32 .deferred (16 + 1 + v)) v (eB2 32 .deferred w) = some ((ofTF 32 .deferred).ks, (ofB 32 .deferred (16 + 1 + v)).ks) := fun i hi => match i, hi with
    | 0, _ => r0
    | 1, _ => r1
    | 2, _ => r2
    | 3, _ => r3
    | 4, _ => r4
    | 5, _ => r5
    | 6, _ => r6
    | 7, _ => r7
    | 8, _ => r8
    | 9, _ => r9
    | 10, _ => r10
    | 11, _ => r11
    | 12, _ => r12
    | 13, _ => r13
    | 14, _ => r14
    | 15, _ => r15
    | _ + 16, h => absurd h (by omega)
theorem many : @ManyOk ⟨false⟩ Tryz.prog (fRec Tryz.prog leafHook 1000 60) 10000 (of_k 32) (of_kS 32) 88 16 link (xf link) fin (of_sz 32) ((ofS 32 .deferred).stw (List.range (of_k 32)) (of_sz 32)) ((ofTF 32 .deferred).stw (keysI 32 16) (of_sz 32)) := by
  letI : Hk := ⟨false⟩
  have hB : RecOk Tryz.prog (mkRec Tryz.prog leafHook 1000 60) := mkRec_ok (noCount counted) mixed leafHooked 1000 60
  refine many_ok2 (TI := ofA 32 .deferred) (TG := ofG 32 .deferred) (TA := ofB 32 .deferred) (keysI := keysI 32) (keysG := keysG 32) (keysA := (keysI 32 16)) (keysF := (keysI 32 16)) (mf := 20) (mf2 := 10) (kC := ofkC 32) (kch := ofkch 32) (sts := ofSts) (r := 29) (wmF := (of_sz 32))
    (noCount counted) mixed (fRec_le leafHook 1000 60) hB base lay (fun i hi => allRange keepI i (by omega)) (fun i hi => allRange keepG i hi) keepF (allRange keepI 16 (by omega)) adds (fun i hi => goOne_ok (noCount counted) mixed (fRec_le leafHook 1000 60) hB (allRange keepI (i + 1) (by omega)) (gos i hi))
    (fun i hi => ⟨by simp [ofSts], fun p hp => by simp only [ofSts, List.mem_singleton] at hp; subst hp; simp only [cellsLen, finLen]; omega⟩) (fun i j hi hj h p hp q hq => by simp only [ofSts, List.mem_singleton] at hp hq; subst hp; subst hq; simp only [Far, cellsLen]; omega) (fun i hi => by simp [ofSts]) (covers_eq cover) dis zero0 more0 (fun j h1 h2 => ?_) (fun j v h1 h2 hv => ?_)
  · unfold ofB
    cases hj : Nat.ble j 16 with
    | true => exact zero1 j
    | false => exact zero2 (j - 16)
  · have e : ofB 32 .deferred j = bif Nat.ble j 16 then ofB1 32 .deferred j else ofB2 32 .deferred (j - 16) := rfl
    rw [e]
    cases hj : Nat.ble j 16 with
    | true => exact more1 v hv j
    | false => exact more2 v hv (j - 16)
end q1d
end Go.Proofs.YtokhollghednaaaGreatDoor.senderNewsLives
