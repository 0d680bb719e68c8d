/-
  SenderMade: merkle.Of of an empty table, its call 0 (plain): the checks.
-/
import Derived.KernelRfl
import Derived.Test.YtoaplpdbmpendaaGreatDoorSenderMadeOfBase
namespace Go.Proofs.YtoaplpdbmpendaaGreatDoor.senderMade
open Go.Eng Go.Conc.Lib
set_option maxRecDepth 1000000
set_option linter.unusedVariables false
set_option linter.unusedSimpArgs false
set_option linter.unusedSectionVars false
namespace q0n
local instance : Go.ConcR.Payload := ⟨3⟩
theorem head : headOne Tryz.prog (fRec Tryz.prog leafHook 1000 60) 195 39 (of_args 0) .normal (of_sz 0) (of_keys 0) (of_blocks 0) (List.range (of_k 0)) (ofS 0 .normal) = some (ofS 0 .normal).ks := by kernel_rfl
theorem base : baseOk (of_k 0) (of_kS 0) 89 fin 16 (of_sz 0) (of_sz 0) 29 ((ofS 0 .normal).stw (List.range (of_k 0)) (of_sz 0)) = true := by kernel_rfl
theorem lay : layOne Tryz.prog (fRec Tryz.prog leafHook 1000 60) 10000 (of_k 0) link.tWg (of_kS 0) (keysI 0 0) (ofA 0 .normal 0) ((ofS 0 .normal).stw (List.range (of_k 0)) (of_sz 0)) = some (ofA 0 .normal 0).ks := by kernel_rfl
theorem add0 : (List.range 1).map (eAdd 0 .normal 0) = List.replicate 1 (some (ofG 0 .normal 0).ks) := by kernel_rfl
theorem go0 : eGo 0 .normal 0 = some (ofA 0 .normal 1).ks := by kernel_rfl
theorem add1 : (List.range 2).map (eAdd 0 .normal 1) = List.replicate 2 (some (ofG 0 .normal 1).ks) := by kernel_rfl
theorem go1 : eGo 0 .normal 1 = some (ofA 0 .normal 2).ks := by kernel_rfl
theorem add2 : (List.range 3).map (eAdd 0 .normal 2) = List.replicate 3 (some (ofG 0 .normal 2).ks) := by kernel_rfl
theorem go2 : eGo 0 .normal 2 = some (ofA 0 .normal 3).ks := by kernel_rfl
theorem add3 : (List.range 4).map (eAdd 0 .normal 3) = List.replicate 4 (some (ofG 0 .normal 3).ks) := by kernel_rfl
theorem go3 : eGo 0 .normal 3 = some (ofA 0 .normal 4).ks := by kernel_rfl
theorem add4 : (List.range 5).map (eAdd 0 .normal 4) = List.replicate 5 (some (ofG 0 .normal 4).ks) := by kernel_rfl
theorem go4 : eGo 0 .normal 4 = some (ofA 0 .normal 5).ks := by kernel_rfl
theorem add5 : (List.range 6).map (eAdd 0 .normal 5) = List.replicate 6 (some (ofG 0 .normal 5).ks) := by kernel_rfl
theorem go5 : eGo 0 .normal 5 = some (ofA 0 .normal 6).ks := by kernel_rfl
theorem add6 : (List.range 7).map (eAdd 0 .normal 6) = List.replicate 7 (some (ofG 0 .normal 6).ks) := by kernel_rfl
theorem go6 : eGo 0 .normal 6 = some (ofA 0 .normal 7).ks := by kernel_rfl
theorem add7 : (List.range 8).map (eAdd 0 .normal 7) = List.replicate 8 (some (ofG 0 .normal 7).ks) := by kernel_rfl
theorem go7 : eGo 0 .normal 7 = some (ofA 0 .normal 8).ks := by kernel_rfl
theorem add8 : (List.range 9).map (eAdd 0 .normal 8) = List.replicate 9 (some (ofG 0 .normal 8).ks) := by kernel_rfl
theorem go8 : eGo 0 .normal 8 = some (ofA 0 .normal 9).ks := by kernel_rfl
theorem add9 : (List.range 10).map (eAdd 0 .normal 9) = List.replicate 10 (some (ofG 0 .normal 9).ks) := by kernel_rfl
theorem go9 : eGo 0 .normal 9 = some (ofA 0 .normal 10).ks := by kernel_rfl
theorem add10 : (List.range 11).map (eAdd 0 .normal 10) = List.replicate 11 (some (ofG 0 .normal 10).ks) := by kernel_rfl
theorem go10 : eGo 0 .normal 10 = some (ofA 0 .normal 11).ks := by kernel_rfl
theorem add11 : (List.range 12).map (eAdd 0 .normal 11) = List.replicate 12 (some (ofG 0 .normal 11).ks) := by kernel_rfl
theorem go11 : eGo 0 .normal 11 = some (ofA 0 .normal 12).ks := by kernel_rfl
theorem add12 : (List.range 13).map (eAdd 0 .normal 12) = List.replicate 13 (some (ofG 0 .normal 12).ks) := by kernel_rfl
theorem go12 : eGo 0 .normal 12 = some (ofA 0 .normal 13).ks := by kernel_rfl
theorem add13 : (List.range 14).map (eAdd 0 .normal 13) = List.replicate 14 (some (ofG 0 .normal 13).ks) := by kernel_rfl
theorem go13 : eGo 0 .normal 13 = some (ofA 0 .normal 14).ks := by kernel_rfl
theorem add14 : (List.range 15).map (eAdd 0 .normal 14) = List.replicate 15 (some (ofG 0 .normal 14).ks) := by kernel_rfl
theorem go14 : eGo 0 .normal 14 = some (ofA 0 .normal 15).ks := by kernel_rfl
theorem add15 : (List.range 16).map (eAdd 0 .normal 15) = List.replicate 16 (some (ofG 0 .normal 15).ks) := by kernel_rfl
theorem go15 : eGo 0 .normal 15 = some (ofA 0 .normal 16).ks := by kernel_rfl
theorem keepI : (List.range 17).all (fun i => keepsAll (of_k 0) (keysI 0 i)) = true := by kernel_rfl
theorem keepG : (List.range 16).all (fun i => keepsAll (of_k 0) (keysG 0 i)) = true := by kernel_rfl
theorem keepF : keepsAll (of_sz 0) (keysI 0 16) = true := by kernel_rfl
theorem dis : disOk (of_k 0) (xf link) ((ofA 0 .normal 16).stw (keysI 0 16) (of_k 0)) = true := by kernel_rfl
theorem zero0 : eZero 0 .normal (eDis 0 .normal) = some (ofTF 0 .normal).ks := by kernel_rfl
theorem zero1 : ∀ w, eZero 0 .normal (eB1 0 .normal w) = some (ofTF 0 .normal).ks := fun _ => by kernel_rfl
theorem zero2 : ∀ w, eZero 0 .normal (eB2 0 .normal w) = some (ofTF 0 .normal).ks := fun _ => by kernel_rfl
theorem more0_0 : eMore 0 .normal (ofB1 0 .normal 1) 0 (eDis 0 .normal) = some ((ofTF 0 .normal).ks, (ofB1 0 .normal 1).ks) := by kernel_rfl
theorem more1_0 : ∀ w, eMore 0 .normal (ofB2 0 .normal 1) 0 (eB1 0 .normal w) = some ((ofTF 0 .normal).ks, (ofB2 0 .normal 1).ks) := fun _ => by kernel_rfl
theorem more2_0 : ∀ w, eMore 0 .normal (ofB2 0 .normal 1) 0 (eB2 0 .normal w) = some ((ofTF 0 .normal).ks, (ofB2 0 .normal 1).ks) := fun _ => by kernel_rfl
theorem more0_1 : eMore 0 .normal (ofB1 0 .normal 2) 1 (eDis 0 .normal) = some ((ofTF 0 .normal).ks, (ofB1 0 .normal 2).ks) := by kernel_rfl
theorem more1_1 : ∀ w, eMore 0 .normal (ofB2 0 .normal 2) 1 (eB1 0 .normal w) = some ((ofTF 0 .normal).ks, (ofB2 0 .normal 2).ks) := fun _ => by kernel_rfl
theorem more2_1 : ∀ w, eMore 0 .normal (ofB2 0 .normal 2) 1 (eB2 0 .normal w) = some ((ofTF 0 .normal).ks, (ofB2 0 .normal 2).ks) := fun _ => by kernel_rfl
theorem more0_2 : eMore 0 .normal (ofB1 0 .normal 3) 2 (eDis 0 .normal) = some ((ofTF 0 .normal).ks, (ofB1 0 .normal 3).ks) := by kernel_rfl
theorem more1_2 : ∀ w, eMore 0 .normal (ofB2 0 .normal 3) 2 (eB1 0 .normal w) = some ((ofTF 0 .normal).ks, (ofB2 0 .normal 3).ks) := fun _ => by kernel_rfl
theorem more2_2 : ∀ w, eMore 0 .normal (ofB2 0 .normal 3) 2 (eB2 0 .normal w) = some ((ofTF 0 .normal).ks, (ofB2 0 .normal 3).ks) := fun _ => by kernel_rfl
theorem more0_3 : eMore 0 .normal (ofB1 0 .normal 4) 3 (eDis 0 .normal) = some ((ofTF 0 .normal).ks, (ofB1 0 .normal 4).ks) := by kernel_rfl
theorem more1_3 : ∀ w, eMore 0 .normal (ofB2 0 .normal 4) 3 (eB1 0 .normal w) = some ((ofTF 0 .normal).ks, (ofB2 0 .normal 4).ks) := fun _ => by kernel_rfl
theorem more2_3 : ∀ w, eMore 0 .normal (ofB2 0 .normal 4) 3 (eB2 0 .normal w) = some ((ofTF 0 .normal).ks, (ofB2 0 .normal 4).ks) := fun _ => by kernel_rfl
theorem more0_4 : eMore 0 .normal (ofB1 0 .normal 5) 4 (eDis 0 .normal) = some ((ofTF 0 .normal).ks, (ofB1 0 .normal 5).ks) := by kernel_rfl
theorem more1_4 : ∀ w, eMore 0 .normal (ofB2 0 .normal 5) 4 (eB1 0 .normal w) = some ((ofTF 0 .normal).ks, (ofB2 0 .normal 5).ks) := fun _ => by kernel_rfl
theorem more2_4 : ∀ w, eMore 0 .normal (ofB2 0 .normal 5) 4 (eB2 0 .normal w) = some ((ofTF 0 .normal).ks, (ofB2 0 .normal 5).ks) := fun _ => by kernel_rfl
theorem more0_5 : eMore 0 .normal (ofB1 0 .normal 6) 5 (eDis 0 .normal) = some ((ofTF 0 .normal).ks, (ofB1 0 .normal 6).ks) := by kernel_rfl
theorem more1_5 : ∀ w, eMore 0 .normal (ofB2 0 .normal 6) 5 (eB1 0 .normal w) = some ((ofTF 0 .normal).ks, (ofB2 0 .normal 6).ks) := fun _ => by kernel_rfl
theorem more2_5 : ∀ w, eMore 0 .normal (ofB2 0 .normal 6) 5 (eB2 0 .normal w) = some ((ofTF 0 .normal).ks, (ofB2 0 .normal 6).ks) := fun _ => by kernel_rfl
theorem more0_6 : eMore 0 .normal (ofB1 0 .normal 7) 6 (eDis 0 .normal) = some ((ofTF 0 .normal).ks, (ofB1 0 .normal 7).ks) := by kernel_rfl
theorem more1_6 : ∀ w, eMore 0 .normal (ofB2 0 .normal 7) 6 (eB1 0 .normal w) = some ((ofTF 0 .normal).ks, (ofB2 0 .normal 7).ks) := fun _ => by kernel_rfl
theorem more2_6 : ∀ w, eMore 0 .normal (ofB2 0 .normal 7) 6 (eB2 0 .normal w) = some ((ofTF 0 .normal).ks, (ofB2 0 .normal 7).ks) := fun _ => by kernel_rfl
theorem more0_7 : eMore 0 .normal (ofB1 0 .normal 8) 7 (eDis 0 .normal) = some ((ofTF 0 .normal).ks, (ofB1 0 .normal 8).ks) := by kernel_rfl
theorem more1_7 : ∀ w, eMore 0 .normal (ofB2 0 .normal 8) 7 (eB1 0 .normal w) = some ((ofTF 0 .normal).ks, (ofB2 0 .normal 8).ks) := fun _ => by kernel_rfl
theorem more2_7 : ∀ w, eMore 0 .normal (ofB2 0 .normal 8) 7 (eB2 0 .normal w) = some ((ofTF 0 .normal).ks, (ofB2 0 .normal 8).ks) := fun _ => by kernel_rfl
theorem more0_8 : eMore 0 .normal (ofB1 0 .normal 9) 8 (eDis 0 .normal) = some ((ofTF 0 .normal).ks, (ofB1 0 .normal 9).ks) := by kernel_rfl
theorem more1_8 : ∀ w, eMore 0 .normal (ofB2 0 .normal 9) 8 (eB1 0 .normal w) = some ((ofTF 0 .normal).ks, (ofB2 0 .normal 9).ks) := fun _ => by kernel_rfl
theorem more2_8 : ∀ w, eMore 0 .normal (ofB2 0 .normal 9) 8 (eB2 0 .normal w) = some ((ofTF 0 .normal).ks, (ofB2 0 .normal 9).ks) := fun _ => by kernel_rfl
theorem more0_9 : eMore 0 .normal (ofB1 0 .normal 10) 9 (eDis 0 .normal) = some ((ofTF 0 .normal).ks, (ofB1 0 .normal 10).ks) := by kernel_rfl
theorem more1_9 : ∀ w, eMore 0 .normal (ofB2 0 .normal 10) 9 (eB1 0 .normal w) = some ((ofTF 0 .normal).ks, (ofB2 0 .normal 10).ks) := fun _ => by kernel_rfl
theorem more2_9 : ∀ w, eMore 0 .normal (ofB2 0 .normal 10) 9 (eB2 0 .normal w) = some ((ofTF 0 .normal).ks, (ofB2 0 .normal 10).ks) := fun _ => by kernel_rfl
theorem more0_10 : eMore 0 .normal (ofB1 0 .normal 11) 10 (eDis 0 .normal) = some ((ofTF 0 .normal).ks, (ofB1 0 .normal 11).ks) := by kernel_rfl
theorem more1_10 : ∀ w, eMore 0 .normal (ofB2 0 .normal 11) 10 (eB1 0 .normal w) = some ((ofTF 0 .normal).ks, (ofB2 0 .normal 11).ks) := fun _ => by kernel_rfl
theorem more2_10 : ∀ w, eMore 0 .normal (ofB2 0 .normal 11) 10 (eB2 0 .normal w) = some ((ofTF 0 .normal).ks, (ofB2 0 .normal 11).ks) := fun _ => by kernel_rfl
theorem more0_11 : eMore 0 .normal (ofB1 0 .normal 12) 11 (eDis 0 .normal) = some ((ofTF 0 .normal).ks, (ofB1 0 .normal 12).ks) := by kernel_rfl
theorem more1_11 : ∀ w, eMore 0 .normal (ofB2 0 .normal 12) 11 (eB1 0 .normal w) = some ((ofTF 0 .normal).ks, (ofB2 0 .normal 12).ks) := fun _ => by kernel_rfl
theorem more2_11 : ∀ w, eMore 0 .normal (ofB2 0 .normal 12) 11 (eB2 0 .normal w) = some ((ofTF 0 .normal).ks, (ofB2 0 .normal 12).ks) := fun _ => by kernel_rfl
theorem more0_12 : eMore 0 .normal (ofB1 0 .normal 13) 12 (eDis 0 .normal) = some ((ofTF 0 .normal).ks, (ofB1 0 .normal 13).ks) := by kernel_rfl
theorem more1_12 : ∀ w, eMore 0 .normal (ofB2 0 .normal 13) 12 (eB1 0 .normal w) = some ((ofTF 0 .normal).ks, (ofB2 0 .normal 13).ks) := fun _ => by kernel_rfl
theorem more2_12 : ∀ w, eMore 0 .normal (ofB2 0 .normal 13) 12 (eB2 0 .normal w) = some ((ofTF 0 .normal).ks, (ofB2 0 .normal 13).ks) := fun _ => by kernel_rfl
theorem more0_13 : eMore 0 .normal (ofB1 0 .normal 14) 13 (eDis 0 .normal) = some ((ofTF 0 .normal).ks, (ofB1 0 .normal 14).ks) := by kernel_rfl
theorem more1_13 : ∀ w, eMore 0 .normal (ofB2 0 .normal 14) 13 (eB1 0 .normal w) = some ((ofTF 0 .normal).ks, (ofB2 0 .normal 14).ks) := fun _ => by kernel_rfl
theorem more2_13 : ∀ w, eMore 0 .normal (ofB2 0 .normal 14) 13 (eB2 0 .normal w) = some ((ofTF 0 .normal).ks, (ofB2 0 .normal 14).ks) := fun _ => by kernel_rfl
theorem more0_14 : eMore 0 .normal (ofB1 0 .normal 15) 14 (eDis 0 .normal) = some ((ofTF 0 .normal).ks, (ofB1 0 .normal 15).ks) := by kernel_rfl
theorem more1_14 : ∀ w, eMore 0 .normal (ofB2 0 .normal 15) 14 (eB1 0 .normal w) = some ((ofTF 0 .normal).ks, (ofB2 0 .normal 15).ks) := fun _ => by kernel_rfl
theorem more2_14 : ∀ w, eMore 0 .normal (ofB2 0 .normal 15) 14 (eB2 0 .normal w) = some ((ofTF 0 .normal).ks, (ofB2 0 .normal 15).ks) := fun _ => by kernel_rfl
theorem more0_15 : eMore 0 .normal (ofB1 0 .normal 16) 15 (eDis 0 .normal) = some ((ofTF 0 .normal).ks, (ofB1 0 .normal 16).ks) := by kernel_rfl
theorem more1_15 : ∀ w, eMore 0 .normal (ofB2 0 .normal 16) 15 (eB1 0 .normal w) = some ((ofTF 0 .normal).ks, (ofB2 0 .normal 16).ks) := fun _ => by kernel_rfl
theorem more2_15 : ∀ w, eMore 0 .normal (ofB2 0 .normal 16) 15 (eB2 0 .normal w) = some ((ofTF 0 .normal).ks, (ofB2 0 .normal 16).ks) := fun _ => by kernel_rfl
theorem adds : ∀ i, i < 16 → (List.range (i + 1)).map (eAdd 0 .normal i) = List.replicate (i + 1) (some (ofG 0 .normal i).ks) := fun i hi => match i, hi with
    | 0, _ => add0
    | 1, _ => add1
    | 2, _ => add2
    | 3, _ => add3
    | 4, _ => add4
    | 5, _ => add5
    | 6, _ => add6
    | 7, _ => add7
    | 8, _ => add8
    | 9, _ => add9
    | 10, _ => add10
    | 11, _ => add11
    | 12, _ => add12
    | 13, _ => add13
    | 14, _ => add14
    | 15, _ => add15
    | _ + 16, h => absurd h (by omega)
theorem gos : ∀ i, i < 16 → eGo 0 .normal i = some (ofA 0 .normal (i + 1)).ks := fun i hi => match i, hi with
    | 0, _ => go0
    | 1, _ => go1
    | 2, _ => go2
    | 3, _ => go3
    | 4, _ => go4
    | 5, _ => go5
    | 6, _ => go6
    | 7, _ => go7
    | 8, _ => go8
    | 9, _ => go9
    | 10, _ => go10
    | 11, _ => go11
    | 12, _ => go12
    | 13, _ => go13
    | 14, _ => go14
    | 15, _ => go15
    | _ + 16, h => absurd h (by omega)
theorem more0 : ∀ v, v < 16 → eMore 0 .normal (ofB 0 .normal (v + 1)) v (eDis 0 .normal) = some ((ofTF 0 .normal).ks, (ofB 0 .normal (v + 1)).ks) := fun i hi => match i, hi with
    | 0, _ => more0_0
    | 1, _ => more0_1
    | 2, _ => more0_2
    | 3, _ => more0_3
    | 4, _ => more0_4
    | 5, _ => more0_5
    | 6, _ => more0_6
    | 7, _ => more0_7
    | 8, _ => more0_8
    | 9, _ => more0_9
    | 10, _ => more0_10
    | 11, _ => more0_11
    | 12, _ => more0_12
    | 13, _ => more0_13
    | 14, _ => more0_14
    | 15, _ => more0_15
    | _ + 16, h => absurd h (by omega)
theorem more1 : ∀ v, v < 16 → ∀ w, eMore 0 .normal (ofB 0 .normal (16 + 1 + v)) v (eB1 0 .normal w) = some ((ofTF 0 .normal).ks, (ofB 0 .normal (16 + 1 + v)).ks) := fun i hi => match i, hi with
    | 0, _ => more1_0
    | 1, _ => more1_1
    | 2, _ => more1_2
    | 3, _ => more1_3
    | 4, _ => more1_4
    | 5, _ => more1_5
    | 6, _ => more1_6
    | 7, _ => more1_7
    | 8, _ => more1_8
    | 9, _ => more1_9
    | 10, _ => more1_10
    | 11, _ => more1_11
    | 12, _ => more1_12
    | 13, _ => more1_13
    | 14, _ => more1_14
    | 15, _ => more1_15
    | _ + 16, h => absurd h (by omega)
theorem more2 : ∀ v, v < 16 → ∀ w, eMore 0 .normal (ofB 0 .normal (16 + 1 + v)) v (eB2 0 .normal w) = some ((ofTF 0 .normal).ks, (ofB 0 .normal (16 + 1 + v)).ks) := fun i hi => match i, hi with
    | 0, _ => more2_0
    | 1, _ => more2_1
    | 2, _ => more2_2
    | 3, _ => more2_3
    | 4, _ => more2_4
    | 5, _ => more2_5
    | 6, _ => more2_6
    | 7, _ => more2_7
    | 8, _ => more2_8
    | 9, _ => more2_9
    | 10, _ => more2_10
    | 11, _ => more2_11
    | 12, _ => more2_12
    | 13, _ => more2_13
    | 14, _ => more2_14
    | 15, _ => more2_15
    | _ + 16, h => absurd h (by omega)
theorem many : @ManyOk ⟨false⟩ Tryz.prog (fRec Tryz.prog leafHook 1000 60) 10000 (of_k 0) (of_kS 0) 89 16 link (xf link) fin (of_sz 0) ((ofS 0 .normal).stw (List.range (of_k 0)) (of_sz 0)) ((ofTF 0 .normal).stw (keysI 0 16) (of_sz 0)) := by
  letI : Hk := ⟨false⟩
  have hB : RecOk Tryz.prog (mkRec Tryz.prog leafHook 1000 60) := mkRec_ok (noCount counted) mixed leafHooked 1000 60
  refine many_ok2 (TI := ofA 0 .normal) (TG := ofG 0 .normal) (TA := ofB 0 .normal) (keysI := keysI 0) (keysG := keysG 0) (keysA := (keysI 0 16)) (keysF := (keysI 0 16)) (mf := 20) (mf2 := 10) (kC := ofkC 0) (m := fun _ => 19) (off := fun i => 32 * i) (kch := ofkch 0) (vs := fun _ => leafCells) (r := 29) (wmF := (of_sz 0))
    (noCount counted) mixed (fRec_le leafHook 1000 60) hB base lay (fun i hi => allRange keepI i (by omega)) (fun i hi => allRange keepG i hi) keepF (allRange keepI 16 (by omega)) adds gos
    (fun i hi => by rw [cellsLen, finLen]; omega) (fun i j hi hj h => by rw [cellsLen]; omega) cover dis zero0 more0 (fun j h1 h2 => ?_) (fun j v h1 h2 hv => ?_)
  · unfold ofB
    cases hj : Nat.ble j 16 with
    | true => exact zero1 j
    | false => exact zero2 (j - 16)
  · have e : ofB 0 .normal j = bif Nat.ble j 16 then ofB1 0 .normal j else ofB2 0 .normal (j - 16) := rfl
    rw [e]
    cases hj : Nat.ble j 16 with
    | true => exact more1 v hv j
    | false => exact more2 v hv (j - 16)
end q0n
end Go.Proofs.YtoaplpdbmpendaaGreatDoor.senderMade
