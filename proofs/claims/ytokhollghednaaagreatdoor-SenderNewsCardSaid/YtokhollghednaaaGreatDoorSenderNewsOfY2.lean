/-
  SenderNews: merkle.Of of depth 2: the ways of workers 0, 1, 2, 3.
-/
import Derived.KernelRfl
import Derived.Test.YtokhollghednaaaGreatDoorSenderNewsOfH2
import Derived.Test.YtokhollghednaaaGreatDoorSenderNewsOfX2
import Derived.Test.YtokhollghednaaaGreatDoorEngZs
import Derived.Test.YtokhollghednaaaGreatDoorSenderNewsNodsHook
namespace Go.Proofs.YtokhollghednaaaGreatDoor.senderNews
open Go.Eng Go.Conc.Lib
set_option maxRecDepth 1000000
set_option linter.unusedVariables false
set_option linter.unusedSimpArgs false
set_option linter.unusedSectionVars false
namespace of2
local instance paySg0 : Go.ConcR.Payload := ⟨3⟩
theorem way0 (kd : CallKind) : eWay kd 0 = true := by kernel_rfl
theorem way1 (kd : CallKind) : eWay kd 1 = true := by kernel_rfl
theorem way2 (kd : CallKind) : eWay kd 2 = true := by kernel_rfl
theorem way3 (kd : CallKind) : eWay kd 3 = true := by kernel_rfl
end of2
end Go.Proofs.YtokhollghednaaaGreatDoor.senderNews
namespace Go.Proofs.YtokhollghednaaaGreatDoor.senderNews
open Go.Eng Go.Conc.Lib
set_option maxRecDepth 1000000
set_option linter.unusedVariables false
set_option linter.unusedSimpArgs false
set_option linter.unusedSectionVars false
namespace of2
local instance paySg1 : Go.ConcR.Payload := ⟨3⟩
theorem way4 (kd : CallKind) : eWay kd 4 = true := by kernel_rfl
theorem way5 (kd : CallKind) : eWay kd 5 = true := by kernel_rfl
theorem way6 (kd : CallKind) : eWay kd 6 = true := by kernel_rfl
theorem way7 (kd : CallKind) : eWay kd 7 = true := by kernel_rfl
end of2
end Go.Proofs.YtokhollghednaaaGreatDoor.senderNews
namespace Go.Proofs.YtokhollghednaaaGreatDoor.senderNews
open Go.Eng Go.Conc.Lib
set_option maxRecDepth 1000000
set_option linter.unusedVariables false
set_option linter.unusedSimpArgs false
set_option linter.unusedSectionVars false
namespace of2
local instance paySg2 : Go.ConcR.Payload := ⟨3⟩
theorem way8 (kd : CallKind) : eWay kd 8 = true := by kernel_rfl
theorem way9 (kd : CallKind) : eWay kd 9 = true := by kernel_rfl
theorem way10 (kd : CallKind) : eWay kd 10 = true := by kernel_rfl
theorem way11 (kd : CallKind) : eWay kd 11 = true := by kernel_rfl
end of2
end Go.Proofs.YtokhollghednaaaGreatDoor.senderNews
namespace Go.Proofs.YtokhollghednaaaGreatDoor.senderNews
open Go.Eng Go.Conc.Lib
set_option maxRecDepth 1000000
set_option linter.unusedVariables false
set_option linter.unusedSimpArgs false
set_option linter.unusedSectionVars false
namespace of2
local instance paySg3 : Go.ConcR.Payload := ⟨3⟩
theorem way12 (kd : CallKind) : eWay kd 12 = true := by kernel_rfl
theorem way13 (kd : CallKind) : eWay kd 13 = true := by kernel_rfl
theorem way14 (kd : CallKind) : eWay kd 14 = true := by kernel_rfl
theorem way15 (kd : CallKind) : eWay kd 15 = true := by kernel_rfl
end of2
end Go.Proofs.YtokhollghednaaaGreatDoor.senderNews
namespace Go.Proofs.YtokhollghednaaaGreatDoor.senderNews
open Go.Eng Go.Conc.Lib
set_option maxRecDepth 1000000
set_option linter.unusedVariables false
set_option linter.unusedSimpArgs false
set_option linter.unusedSectionVars false
namespace of2
local instance payWay : Go.ConcR.Payload := ⟨3⟩
theorem leafRec : @RecOk ⟨false⟩ Tryz.prog (mkRec Tryz.prog leafHook 1000 60) := by
  letI : Hk := ⟨false⟩
  exact mkRec_ok (noCount counted) mixed leafHooked 1000 60
abbrev Wy (w : Nat) (g : FuncId) (l : List Nat) (S : St) : Prop := @Eng.Way ⟨false⟩ Tryz.prog (lo w) (of_k 0) (of_kS 0) link.done (ofkC 0 w) 32 isB l g S
abbrev Gw (kd : CallKind) (w : Nat) : Prop := ∀ g S, eWk kd w = some (g, S) → Wy w g (offs 16 w) S
theorem szs (kd : CallKind) : ∀ i, i < 16 → (ofG 0 kd i).sz = lo i := of_grid (n := 16) (m := 1) (by decide) fun q hq => match q, hq with
    | 0, _ => by kernel_rfl
    | _ + 1, h => absurd h (by omega)
theorem goes0 (kd : CallKind) : Gw kd 0 := by
  letI : Hk := ⟨false⟩
  intro g S h
  have hx := way0 kd
  unfold eWay at hx
  rw [h, szs kd 0 (by decide)] at hx
  exact way_of (noCount counted) mixed (fRec_le leafHook 1000 60) leafRec isB_same hx
theorem goes1 (kd : CallKind) : Gw kd 1 := by
  letI : Hk := ⟨false⟩
  intro g S h
  have hx := way1 kd
  unfold eWay at hx
  rw [h, szs kd 1 (by decide)] at hx
  exact way_of (noCount counted) mixed (fRec_le leafHook 1000 60) leafRec isB_same hx
theorem goes2 (kd : CallKind) : Gw kd 2 := by
  letI : Hk := ⟨false⟩
  intro g S h
  have hx := way2 kd
  unfold eWay at hx
  rw [h, szs kd 2 (by decide)] at hx
  exact way_of (noCount counted) mixed (fRec_le leafHook 1000 60) leafRec isB_same hx
theorem goes3 (kd : CallKind) : Gw kd 3 := by
  letI : Hk := ⟨false⟩
  intro g S h
  have hx := way3 kd
  unfold eWay at hx
  rw [h, szs kd 3 (by decide)] at hx
  exact way_of (noCount counted) mixed (fRec_le leafHook 1000 60) leafRec isB_same hx
theorem goes4 (kd : CallKind) : Gw kd 4 := by
  letI : Hk := ⟨false⟩
  intro g S h
  have hx := way4 kd
  unfold eWay at hx
  rw [h, szs kd 4 (by decide)] at hx
  exact way_of (noCount counted) mixed (fRec_le leafHook 1000 60) leafRec isB_same hx
theorem goes5 (kd : CallKind) : Gw kd 5 := by
  letI : Hk := ⟨false⟩
  intro g S h
  have hx := way5 kd
  unfold eWay at hx
  rw [h, szs kd 5 (by decide)] at hx
  exact way_of (noCount counted) mixed (fRec_le leafHook 1000 60) leafRec isB_same hx
theorem goes6 (kd : CallKind) : Gw kd 6 := by
  letI : Hk := ⟨false⟩
  intro g S h
  have hx := way6 kd
  unfold eWay at hx
  rw [h, szs kd 6 (by decide)] at hx
  exact way_of (noCount counted) mixed (fRec_le leafHook 1000 60) leafRec isB_same hx
theorem goes7 (kd : CallKind) : Gw kd 7 := by
  letI : Hk := ⟨false⟩
  intro g S h
  have hx := way7 kd
  unfold eWay at hx
  rw [h, szs kd 7 (by decide)] at hx
  exact way_of (noCount counted) mixed (fRec_le leafHook 1000 60) leafRec isB_same hx
theorem goes8 (kd : CallKind) : Gw kd 8 := by
  letI : Hk := ⟨false⟩
  intro g S h
  have hx := way8 kd
  unfold eWay at hx
  rw [h, szs kd 8 (by decide)] at hx
  exact way_of (noCount counted) mixed (fRec_le leafHook 1000 60) leafRec isB_same hx
theorem goes9 (kd : CallKind) : Gw kd 9 := by
  letI : Hk := ⟨false⟩
  intro g S h
  have hx := way9 kd
  unfold eWay at hx
  rw [h, szs kd 9 (by decide)] at hx
  exact way_of (noCount counted) mixed (fRec_le leafHook 1000 60) leafRec isB_same hx
theorem goes10 (kd : CallKind) : Gw kd 10 := by
  letI : Hk := ⟨false⟩
  intro g S h
  have hx := way10 kd
  unfold eWay at hx
  rw [h, szs kd 10 (by decide)] at hx
  exact way_of (noCount counted) mixed (fRec_le leafHook 1000 60) leafRec isB_same hx
theorem goes11 (kd : CallKind) : Gw kd 11 := by
  letI : Hk := ⟨false⟩
  intro g S h
  have hx := way11 kd
  unfold eWay at hx
  rw [h, szs kd 11 (by decide)] at hx
  exact way_of (noCount counted) mixed (fRec_le leafHook 1000 60) leafRec isB_same hx
theorem goes12 (kd : CallKind) : Gw kd 12 := by
  letI : Hk := ⟨false⟩
  intro g S h
  have hx := way12 kd
  unfold eWay at hx
  rw [h, szs kd 12 (by decide)] at hx
  exact way_of (noCount counted) mixed (fRec_le leafHook 1000 60) leafRec isB_same hx
theorem goes13 (kd : CallKind) : Gw kd 13 := by
  letI : Hk := ⟨false⟩
  intro g S h
  have hx := way13 kd
  unfold eWay at hx
  rw [h, szs kd 13 (by decide)] at hx
  exact way_of (noCount counted) mixed (fRec_le leafHook 1000 60) leafRec isB_same hx
theorem goes14 (kd : CallKind) : Gw kd 14 := by
  letI : Hk := ⟨false⟩
  intro g S h
  have hx := way14 kd
  unfold eWay at hx
  rw [h, szs kd 14 (by decide)] at hx
  exact way_of (noCount counted) mixed (fRec_le leafHook 1000 60) leafRec isB_same hx
theorem goes15 (kd : CallKind) : Gw kd 15 := by
  letI : Hk := ⟨false⟩
  intro g S h
  have hx := way15 kd
  unfold eWay at hx
  rw [h, szs kd 15 (by decide)] at hx
  exact way_of (noCount counted) mixed (fRec_le leafHook 1000 60) leafRec isB_same hx
theorem gow (kd : CallKind) : ∀ i, i < 16 → Gw kd i := fun i hi => match i, hi with
    | 0, _ => goes0 kd
    | 1, _ => goes1 kd
    | 2, _ => goes2 kd
    | 3, _ => goes3 kd
    | 4, _ => goes4 kd
    | 5, _ => goes5 kd
    | 6, _ => goes6 kd
    | 7, _ => goes7 kd
    | 8, _ => goes8 kd
    | 9, _ => goes9 kd
    | 10, _ => goes10 kd
    | 11, _ => goes11 kd
    | 12, _ => goes12 kd
    | 13, _ => goes13 kd
    | 14, _ => goes14 kd
    | 15, _ => goes15 kd
    | _ + 16, h => absurd h (by omega)
theorem goes (kd : CallKind) : ∀ i, i < 16 → ∀ g S, eWk kd i = some (g, S) → @Eng.Way ⟨false⟩ Tryz.prog (ofG 0 kd i).sz (of_k 0) (of_kS 0) link.done (ofkC 0 i) 32 isB (offs 16 i) g S := fun i hi => by
  rw [szs kd i hi]
  exact gow kd i hi
end of2
end Go.Proofs.YtokhollghednaaaGreatDoor.senderNews
namespace Go.Proofs.YtokhollghednaaaGreatDoor.senderNews
open Go.Eng Go.Conc.Lib
set_option maxRecDepth 1000000
set_option linter.unusedVariables false
set_option linter.unusedSimpArgs false
set_option linter.unusedSectionVars false
namespace of2
local instance payMany : Go.ConcR.Payload := ⟨3⟩
theorem gos (kd : CallKind) : ∀ i, i < 16 → eGo kd i = some (ofA 0 kd (i + 1)) := fun i hi => match i, hi with
    | 0, _ => go0 kd
    | 1, _ => go1 kd
    | 2, _ => go2 kd
    | 3, _ => go3 kd
    | 4, _ => go4 kd
    | 5, _ => go5 kd
    | 6, _ => go6 kd
    | 7, _ => go7 kd
    | 8, _ => go8 kd
    | 9, _ => go9 kd
    | 10, _ => go10 kd
    | 11, _ => go11 kd
    | 12, _ => go12 kd
    | 13, _ => go13 kd
    | 14, _ => go14 kd
    | 15, _ => go15 kd
    | _ + 16, h => absurd h (by omega)
theorem many (kd : CallKind) : ∃ fin : List Value, fin.length = 8192 ∧ fin.all isB = true ∧ @ManyOk ⟨false⟩ Tryz.prog R0 10000 (of_k 0) (of_kS 0) 88 16 link (xf link) fin (of_sz 0) ((ofS 0 kd).stw (List.range (of_k 0)) (of_sz 0)) ((ofTF 0 kd fin).stw (keysI 16) (of_sz 0)) := by
  letI : Hk := ⟨false⟩
  have hB : RecOk Tryz.prog (mkRec Tryz.prog leafHook 1000 60) := mkRec_ok (noCount counted) mixed leafHooked 1000 60
  refine many_okU (TI := ofA 0 kd) (TG := ofG 0 kd) (TA := ofB 0 kd) (TF := ofTF 0 kd) (keysI := keysI) (keysG := keysG) (keysA := keysI 16) (keysF := keysI 16) (mf := 20) (mf2 := 10) (kC := ofkC 0) (kch := ofkch 0) (offs := offs 16) (len := 32) (total := 8192) (r := 29) (wmF := (of_sz 0))
    (noCount counted) mixed (fRec_le leafHook 1000 60) hB isB_same isB_plain (stripes 16 (by decide)) (base kd) (lay kd) (fun i hi => all_range keepI i (by omega)) (fun i hi => all_range keepG i hi) keepF (all_range keepI 16 (by omega)) (fun i hi => of_map (adds kd i hi)) (gos kd)
    (fun i hi g S h => goes kd i hi g S h)
    (dis kd) (zero0 kd) (more0 kd) (fun j h1 h2 => ?_) (fun j v h1 h2 hv fin => ?_)
  · intro fin
    unfold ofB
    cases hj : Nat.ble j 16 with
    | true => exact zero1 kd fin j
    | false => exact zero2 kd fin (j - 16)
  · have e : ofB 0 kd j = bif Nat.ble j 16 then ofB1 0 kd j else ofB2 0 kd (j - 16) := rfl
    rw [e]
    cases hj : Nat.ble j 16 with
    | true => exact more1 kd v hv fin j
    | false => exact more2 kd v hv fin (j - 16)
end of2
end Go.Proofs.YtokhollghednaaaGreatDoor.senderNews
namespace Go.Proofs.YtokhollghednaaaGreatDoor.senderNews
open Go.Eng Go.Conc.Lib
set_option maxRecDepth 1000000
set_option linter.unusedVariables false
set_option linter.unusedSimpArgs false
set_option linter.unusedSectionVars false
namespace of2
local instance payTail : Go.ConcR.Payload := ⟨3⟩
theorem tail (g : Nat → Int) (fin : List Value) : tailOne Tryz.prog (fRec Tryz.prog nods.hook 1000 60) 594 21 .normal (of_value 0) (of_sz 0) of_news (((ofTF 0 .normal fin).stw (keysI 16) (of_sz 0)).far (of_kS 0) 8192 g 88) = true := by kernel_rfl
theorem alikeF (fin : List Value) (g : Nat → Int) : Eng.Alike (((ofTF 0 .normal fin).stw (keysI 16) (of_sz 0)).far (of_kS 0) 8192 g 88) (((ofTF 0 .deferred fin).stw (keysI 16) (of_sz 0)).far (of_kS 0) 8192 g 88) := ⟨rfl, rfl⟩
theorem tails (kd : CallKind) (hkd : kd = .normal ∨ kd = .deferred) (g : Nat → Int) (fin : List Value) : @Tails ⟨true⟩ Tryz.prog 21 kd (of_value 0) (of_sz 0) of_news (((ofTF 0 kd fin).stw (keysI 16) (of_sz 0)).far (of_kS 0) 8192 g 88) := @tails_both ⟨true⟩ _ (noCount counted) mixed _ nods.hooked _ _ _ _ _ _ _ (fun kd => (((ofTF 0 kd fin).stw (keysI 16) (of_sz 0)).far (of_kS 0) 8192 g 88)) (tail g fin) (alikeF fin g) kd hkd
theorem keepS : keepsAll (of_sz 0) (List.range (of_k 0)) = true := by kernel_rfl
theorem rowF (kd : CallKind) (fin : List Value) : ((ofTF 0 kd fin).stw (keysI 16) (of_sz 0)).N.get (of_kS 0) = some (.row fin 88 false) := by kernel_rfl
theorem ltF (kd : CallKind) (fin : List Value) : Nat.blt (of_kS 0) ((ofTF 0 kd fin).stw (keysI 16) (of_sz 0)).N.sz = true := by kernel_rfl
theorem isB_8 (v : Value) (h : isB v = true) : isB8 v = true := by
  unfold isB at h
  split at h
  · rfl
  · cases h
theorem called (N : CH) (h1 : N.sz = (of_sz 0)) (h2 : (of_keys 0).map N.get = of_blocks 0) : @CallOk ⟨true⟩ Tryz.prog 21 (of_args 0) N (of_value 0) (N.pushL of_news) :=
  of_callG (TS := ofS 0) (TF := ofTF 0) (ok := isB) (noCount counted) mixed wgLib (@leafHooked ⟨false⟩) (@leafHooked ⟨true⟩) keepS isB_8 head many rowF ltF tails N h1 h2
end of2
end Go.Proofs.YtokhollghednaaaGreatDoor.senderNews
