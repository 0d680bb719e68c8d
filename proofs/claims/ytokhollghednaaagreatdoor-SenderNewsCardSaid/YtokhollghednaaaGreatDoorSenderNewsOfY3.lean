/-
  SenderNews: merkle.Of of depth 3: each way.
-/
import Derived.KernelRfl
import Derived.Test.YtokhollghednaaaGreatDoorSenderNewsOfSg3a
import Derived.Test.YtokhollghednaaaGreatDoorSenderNewsOfSg3b
import Derived.Test.YtokhollghednaaaGreatDoorSenderNewsOfSg3c
import Derived.Test.YtokhollghednaaaGreatDoorSenderNewsOfSg3d
import Derived.Test.YtokhollghednaaaGreatDoorSenderNewsOfSg3e
import Derived.Test.YtokhollghednaaaGreatDoorSenderNewsOfSg3f
import Derived.Test.YtokhollghednaaaGreatDoorSenderNewsOfSg3g
import Derived.Test.YtokhollghednaaaGreatDoorSenderNewsOfSg3h
import Derived.Test.YtokhollghednaaaGreatDoorSenderNewsOfX3
namespace Go.Proofs.YtokhollghednaaaGreatDoor.senderNews
open Go.Eng Go.Conc.Lib
set_option maxRecDepth 1000000
set_option linter.unusedVariables false
set_option linter.unusedSimpArgs false
set_option linter.unusedSectionVars false
namespace of3
local instance payWay : Go.ConcR.Payload := ⟨3⟩
theorem keepL (w : Nat) : keepsAll (lo w) (List.range (lo w)) = true := by
  unfold keepsAll
  exact List.all_eq_true.2 fun x hx => by simpa using hx
theorem leafRec : @RecOk ⟨false⟩ Tryz.prog (mkRec Tryz.prog leafHook 1000 60) := by
  letI : Hk := ⟨false⟩
  exact mkRec_ok (noCount counted) mixed leafHooked 1000 60
abbrev Wy (w : Nat) (g : FuncId) (l : List Nat) (S : St) : Prop := @Eng.Way ⟨false⟩ Tryz.prog (lo w) (of_k 0) (of_kS 0) link.done (ofkC 0 w) 32 isB l g S
abbrev Gw (kd : CallKind) (w : Nat) : Prop := ∀ g S, eWk kd w = some (g, S) → Wy w g (offs 256 w) S
theorem szs (kd : CallKind) : ∀ i, i < 16 → (ofG 0 kd i).sz = lo i := of_grid (n := 16) (m := 1) (by decide) fun q hq => match q, hq with
    | 0, _ => by kernel_rfl
    | _ + 1, h => absurd h (by omega)
theorem wz {w a n : Nat} {T : CallKind → Snap} {kd : CallKind} {g : FuncId} {S : St} (h : eWk kd w = some (g, S)) (hs : Sz w a n T) : Wy w g (sOff w a n) (wS w T kd) := by
  letI : Hk := ⟨false⟩
  have hx := hs kd
  rw [h] at hx
  exact way_of (noCount counted) mixed (fRec_le leafHook 1000 60) leafRec isB_same hx
theorem ws {w a n : Nat} {T U : CallKind → Snap} {kd : CallKind} {g : FuncId} {l : List Nat} (hs : Sg w a n T U) (hw : Wy w g l (wS w U kd)) : Wy w g (sOff w a n ++ l) (wS w T kd) := by
  letI : Hk := ⟨false⟩
  exact way_seg (noCount counted) mixed (fRec_le leafHook 1000 60) leafRec isB_same (keepL w) (hs kd) hw
theorem wa {w n : Nat} {U : CallKind → Snap} {kd : CallKind} {g : FuncId} {S : St} {l : List Nat} (h : eWk kd w = some (g, S)) (hs : Sa w n U) (hw : Wy w g l (wS w U kd)) : Wy w g (sOff w 0 n ++ l) S := by
  letI : Hk := ⟨false⟩
  have hx := hs kd
  rw [h] at hx
  exact way_seg (noCount counted) mixed (fRec_le leafHook 1000 60) leafRec isB_same (keepL w) hx hw
theorem cut0 (w : Nat) : offs 256 w = sOff w 0 32 ++ (sOff w 32 32 ++ (sOff w 64 32 ++ (sOff w 96 32 ++ (sOff w 128 32 ++ (sOff w 160 32 ++ (sOff w 192 32 ++ (sOff w 224 32))))))) := by kernel_rfl
theorem goes0 (kd : CallKind) : Gw kd 0 := fun g S h => cut0 0 ▸ wa h s0_0 (ws s0_1 (ws s0_2 (ws s0_3 (ws s0_4 (ws s0_5 (ws s0_6 (wz h s0_7)))))))
theorem goes1 (kd : CallKind) : Gw kd 1 := fun g S h => cut0 1 ▸ wa h s1_0 (ws s1_1 (ws s1_2 (ws s1_3 (ws s1_4 (ws s1_5 (ws s1_6 (wz h s1_7)))))))
theorem goes2 (kd : CallKind) : Gw kd 2 := fun g S h => cut0 2 ▸ wa h s2_0 (ws s2_1 (ws s2_2 (ws s2_3 (ws s2_4 (ws s2_5 (ws s2_6 (wz h s2_7)))))))
theorem goes3 (kd : CallKind) : Gw kd 3 := fun g S h => cut0 3 ▸ wa h s3_0 (ws s3_1 (ws s3_2 (ws s3_3 (ws s3_4 (ws s3_5 (ws s3_6 (wz h s3_7)))))))
theorem goes4 (kd : CallKind) : Gw kd 4 := fun g S h => cut0 4 ▸ wa h s4_0 (ws s4_1 (ws s4_2 (ws s4_3 (ws s4_4 (ws s4_5 (ws s4_6 (wz h s4_7)))))))
theorem goes5 (kd : CallKind) : Gw kd 5 := fun g S h => cut0 5 ▸ wa h s5_0 (ws s5_1 (ws s5_2 (ws s5_3 (ws s5_4 (ws s5_5 (ws s5_6 (wz h s5_7)))))))
theorem goes6 (kd : CallKind) : Gw kd 6 := fun g S h => cut0 6 ▸ wa h s6_0 (ws s6_1 (ws s6_2 (ws s6_3 (ws s6_4 (ws s6_5 (ws s6_6 (wz h s6_7)))))))
theorem goes7 (kd : CallKind) : Gw kd 7 := fun g S h => cut0 7 ▸ wa h s7_0 (ws s7_1 (ws s7_2 (ws s7_3 (ws s7_4 (ws s7_5 (ws s7_6 (wz h s7_7)))))))
theorem goes8 (kd : CallKind) : Gw kd 8 := fun g S h => cut0 8 ▸ wa h s8_0 (ws s8_1 (ws s8_2 (ws s8_3 (ws s8_4 (ws s8_5 (ws s8_6 (wz h s8_7)))))))
theorem goes9 (kd : CallKind) : Gw kd 9 := fun g S h => cut0 9 ▸ wa h s9_0 (ws s9_1 (ws s9_2 (ws s9_3 (ws s9_4 (ws s9_5 (ws s9_6 (wz h s9_7)))))))
theorem goes10 (kd : CallKind) : Gw kd 10 := fun g S h => cut0 10 ▸ wa h s10_0 (ws s10_1 (ws s10_2 (ws s10_3 (ws s10_4 (ws s10_5 (ws s10_6 (wz h s10_7)))))))
theorem goes11 (kd : CallKind) : Gw kd 11 := fun g S h => cut0 11 ▸ wa h s11_0 (ws s11_1 (ws s11_2 (ws s11_3 (ws s11_4 (ws s11_5 (ws s11_6 (wz h s11_7)))))))
theorem goes12 (kd : CallKind) : Gw kd 12 := fun g S h => cut0 12 ▸ wa h s12_0 (ws s12_1 (ws s12_2 (ws s12_3 (ws s12_4 (ws s12_5 (ws s12_6 (wz h s12_7)))))))
theorem goes13 (kd : CallKind) : Gw kd 13 := fun g S h => cut0 13 ▸ wa h s13_0 (ws s13_1 (ws s13_2 (ws s13_3 (ws s13_4 (ws s13_5 (ws s13_6 (wz h s13_7)))))))
theorem goes14 (kd : CallKind) : Gw kd 14 := fun g S h => cut0 14 ▸ wa h s14_0 (ws s14_1 (ws s14_2 (ws s14_3 (ws s14_4 (ws s14_5 (ws s14_6 (wz h s14_7)))))))
theorem goes15 (kd : CallKind) : Gw kd 15 := fun g S h => cut0 15 ▸ wa h s15_0 (ws s15_1 (ws s15_2 (ws s15_3 (ws s15_4 (ws s15_5 (ws s15_6 (wz h s15_7)))))))
theorem gow (kd : CallKind) : ∀ i, i < 16 → Gw kd i := fun i hi => match i, hi with
    | 0, _ => goes0 kd
    | 1, _ => goes1 kd
    | 2, _ => goes2 kd
    | 3, _ => goes3 kd
    | 4, _ => goes4 kd
    | 5, _ => goes5 kd
    | 6, _ => goes6 kd
    | 7, _ => goes7 kd
    | 8, _ => goes8 kd
    | 9, _ => goes9 kd
    | 10, _ => goes10 kd
    | 11, _ => goes11 kd
    | 12, _ => goes12 kd
    | 13, _ => goes13 kd
    | 14, _ => goes14 kd
    | 15, _ => goes15 kd
    | _ + 16, h => absurd h (by omega)
theorem goes (kd : CallKind) : ∀ i, i < 16 → ∀ g S, eWk kd i = some (g, S) → @Eng.Way ⟨false⟩ Tryz.prog (ofG 0 kd i).sz (of_k 0) (of_kS 0) link.done (ofkC 0 i) 32 isB (offs 256 i) g S := fun i hi => by
  rw [szs kd i hi]
  exact gow kd i hi
end of3
end Go.Proofs.YtokhollghednaaaGreatDoor.senderNews
namespace Go.Proofs.YtokhollghednaaaGreatDoor.senderNews
open Go.Eng Go.Conc.Lib
set_option maxRecDepth 1000000
set_option linter.unusedVariables false
set_option linter.unusedSimpArgs false
set_option linter.unusedSectionVars false
namespace of3
local instance payMany : Go.ConcR.Payload := ⟨3⟩
theorem gos (kd : CallKind) : ∀ i, i < 16 → eGo kd i = some (ofA 0 kd (i + 1)) := fun i hi => match i, hi with
    | 0, _ => go0 kd
    | 1, _ => go1 kd
    | 2, _ => go2 kd
    | 3, _ => go3 kd
    | 4, _ => go4 kd
    | 5, _ => go5 kd
    | 6, _ => go6 kd
    | 7, _ => go7 kd
    | 8, _ => go8 kd
    | 9, _ => go9 kd
    | 10, _ => go10 kd
    | 11, _ => go11 kd
    | 12, _ => go12 kd
    | 13, _ => go13 kd
    | 14, _ => go14 kd
    | 15, _ => go15 kd
    | _ + 16, h => absurd h (by omega)
theorem many (kd : CallKind) : ∃ fin : List Value, fin.length = 131072 ∧ fin.all isB = true ∧ @ManyOk ⟨false⟩ Tryz.prog R0 10000 (of_k 0) (of_kS 0) 88 16 link (xf link) fin (of_sz 0) ((ofS 0 kd).stw (List.range (of_k 0)) (of_sz 0)) ((ofTF 0 kd fin).stw (keysI 16) (of_sz 0)) := by
  letI : Hk := ⟨false⟩
  have hB : RecOk Tryz.prog (mkRec Tryz.prog leafHook 1000 60) := mkRec_ok (noCount counted) mixed leafHooked 1000 60
  refine many_okU (TI := ofA 0 kd) (TG := ofG 0 kd) (TA := ofB 0 kd) (TF := ofTF 0 kd) (keysI := keysI) (keysG := keysG) (keysA := keysI 16) (keysF := keysI 16) (mf := 20) (mf2 := 10) (kC := ofkC 0) (kch := ofkch 0) (offs := offs 256) (len := 32) (total := 131072) (r := 29) (wmF := (of_sz 0))
    (noCount counted) mixed (fRec_le leafHook 1000 60) hB isB_same isB_plain (stripes 256 (by decide)) (base kd) (lay kd) (fun i hi => all_range keepI i (by omega)) (fun i hi => all_range keepG i hi) keepF (all_range keepI 16 (by omega)) (fun i hi => of_map (adds kd i hi)) (gos kd)
    (fun i hi g S h => goes kd i hi g S h)
    (dis kd) (zero0 kd) (more0 kd) (fun j h1 h2 => ?_) (fun j v h1 h2 hv fin => ?_)
  · intro fin
    unfold ofB
    cases hj : Nat.ble j 16 with
    | true => exact zero1 kd fin j
    | false => exact zero2 kd fin (j - 16)
  · have e : ofB 0 kd j = bif Nat.ble j 16 then ofB1 0 kd j else ofB2 0 kd (j - 16) := rfl
    rw [e]
    cases hj : Nat.ble j 16 with
    | true => exact more1 kd v hv fin j
    | false => exact more2 kd v hv fin (j - 16)
end of3
end Go.Proofs.YtokhollghednaaaGreatDoor.senderNews
