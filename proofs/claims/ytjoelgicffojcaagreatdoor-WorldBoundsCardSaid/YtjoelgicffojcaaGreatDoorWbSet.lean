/-
  WorldBounds: config.Settings of what is handed on.
-/
import Derived.KernelRfl
import Derived.Test.YtjoelgicffojcaaGreatDoorWbWSt
namespace Go.Proofs.YtjoelgicffojcaaGreatDoor.wb
noncomputable section
open Go.Eng
set_option maxRecDepth 1000000
set_option linter.unusedVariables false
set_option linter.unusedSimpArgs false
set_option linter.unusedSectionVars false
abbrev setArgs (d w p c l : Int) : List Value := [.agg #[int d, int w, int p, int c, int l]]
noncomputable abbrev setRun (q : List Leg) (kd : CallKind) (d w p c l : Int) : Option (List Value × Option Value) := (kenter Tryz.prog 7 (setArgs d w p c l) kd).bind (fun s => match walk Tryz.prog R0 q ⟨s, [], CH.first []⟩ with
  | some (vs, T) => match til Tryz.prog R0 atRet 20000 T with
    | some T' => some (vs, finV Tryz.prog 7 kd T')
    | none => none
  | none => none)
theorem set_call {d w p c l : Int} {v : Value} (hv : plain v = true) (h : ∀ kd, kd = .normal ∨ kd = .deferred → ∃ q vs, setRun q kd d w p c l = some (vs, some v) ∧ vs = tells q) (N : CH) : CallOk Tryz.prog 7 (setArgs d w p c l) N v N := plain_ran rfl hv (fun kd hkd => by
    obtain ⟨q, vs, h1, h2⟩ := h kd hkd
    cases hk : kenter Tryz.prog 7 (setArgs d w p c l) kd with
    | none => unfold setRun at h1; rw [hk] at h1; cases h1
    | some s0 =>
      unfold setRun at h1
      rw [hk] at h1
      simp only [Option.bind_some] at h1
      split at h1
      rotate_left
      · cases h1
      rename_i us T ht
      split at h1
      rotate_left
      · cases h1
      rename_i T' ht'
      simp only [Option.some.injEq, Prod.mk.injEq] at h1
      obtain ⟨rfl, h3⟩ := h1
      exact ⟨s0, T', rfl, (walk_ok (noCount counted) mixed (fRec_le noHook 1000 60) (mkRec_ok (noCount counted) mixed noHooked 1000 60) ht h2).trans (til_ok (noCount counted) mixed (fRec_le noHook 1000 60) (mkRec_ok (noCount counted) mixed noHooked 1000 60) ht'), h3⟩) N
theorem goodn (d w p c l : Int) : setRun [.tell 10 9 (.bool true), .tell 10 13 (.bool true), .tell 10 9 (.bool true), .tell 10 13 (.bool true), .tell 10 9 (.bool true), .tell 10 13 (.bool true), .tell 10 9 (.bool true), .tell 10 13 (.bool true), .tell 10 9 (.bool true), .tell 10 13 (.bool true)] .normal d w p c l = some ([.bool (decide (d ≥ 1)), .bool (decide (d ≤ 3)), .bool (decide (w ≥ 1)), .bool (decide (w ≤ 64)), .bool (decide (p ≥ 1)), .bool (decide (p ≤ 100)), .bool (decide (c ≥ 64)), .bool (decide (c ≤ 262144)), .bool (decide (l ≥ 1)), .bool (decide (l ≤ 4096))], some (vi 0)) := by unfold setRun; kernel_rfl
theorem bad0n (d w p c l : Int) : setRun [.tell 10 9 (.bool false)] .normal d w p c l = some ([.bool (decide (d ≥ 1))], some (vi 1)) := by unfold setRun; kernel_rfl
theorem bad1n (d w p c l : Int) : setRun [.tell 10 9 (.bool true), .tell 10 13 (.bool false)] .normal d w p c l = some ([.bool (decide (d ≥ 1)), .bool (decide (d ≤ 3))], some (vi 1)) := by unfold setRun; kernel_rfl
theorem bad2n (d w p c l : Int) : setRun [.tell 10 9 (.bool true), .tell 10 13 (.bool true), .tell 10 9 (.bool false)] .normal d w p c l = some ([.bool (decide (d ≥ 1)), .bool (decide (d ≤ 3)), .bool (decide (w ≥ 1))], some (vi 1)) := by unfold setRun; kernel_rfl
theorem bad3n (d w p c l : Int) : setRun [.tell 10 9 (.bool true), .tell 10 13 (.bool true), .tell 10 9 (.bool true), .tell 10 13 (.bool false)] .normal d w p c l = some ([.bool (decide (d ≥ 1)), .bool (decide (d ≤ 3)), .bool (decide (w ≥ 1)), .bool (decide (w ≤ 64))], some (vi 1)) := by unfold setRun; kernel_rfl
theorem bad4n (d w p c l : Int) : setRun [.tell 10 9 (.bool true), .tell 10 13 (.bool true), .tell 10 9 (.bool true), .tell 10 13 (.bool true), .tell 10 9 (.bool false)] .normal d w p c l = some ([.bool (decide (d ≥ 1)), .bool (decide (d ≤ 3)), .bool (decide (w ≥ 1)), .bool (decide (w ≤ 64)), .bool (decide (p ≥ 1))], some (vi 1)) := by unfold setRun; kernel_rfl
theorem bad5n (d w p c l : Int) : setRun [.tell 10 9 (.bool true), .tell 10 13 (.bool true), .tell 10 9 (.bool true), .tell 10 13 (.bool true), .tell 10 9 (.bool true), .tell 10 13 (.bool false)] .normal d w p c l = some ([.bool (decide (d ≥ 1)), .bool (decide (d ≤ 3)), .bool (decide (w ≥ 1)), .bool (decide (w ≤ 64)), .bool (decide (p ≥ 1)), .bool (decide (p ≤ 100))], some (vi 1)) := by unfold setRun; kernel_rfl
theorem bad6n (d w p c l : Int) : setRun [.tell 10 9 (.bool true), .tell 10 13 (.bool true), .tell 10 9 (.bool true), .tell 10 13 (.bool true), .tell 10 9 (.bool true), .tell 10 13 (.bool true), .tell 10 9 (.bool false)] .normal d w p c l = some ([.bool (decide (d ≥ 1)), .bool (decide (d ≤ 3)), .bool (decide (w ≥ 1)), .bool (decide (w ≤ 64)), .bool (decide (p ≥ 1)), .bool (decide (p ≤ 100)), .bool (decide (c ≥ 64))], some (vi 1)) := by unfold setRun; kernel_rfl
theorem bad7n (d w p c l : Int) : setRun [.tell 10 9 (.bool true), .tell 10 13 (.bool true), .tell 10 9 (.bool true), .tell 10 13 (.bool true), .tell 10 9 (.bool true), .tell 10 13 (.bool true), .tell 10 9 (.bool true), .tell 10 13 (.bool false)] .normal d w p c l = some ([.bool (decide (d ≥ 1)), .bool (decide (d ≤ 3)), .bool (decide (w ≥ 1)), .bool (decide (w ≤ 64)), .bool (decide (p ≥ 1)), .bool (decide (p ≤ 100)), .bool (decide (c ≥ 64)), .bool (decide (c ≤ 262144))], some (vi 1)) := by unfold setRun; kernel_rfl
theorem bad8n (d w p c l : Int) : setRun [.tell 10 9 (.bool true), .tell 10 13 (.bool true), .tell 10 9 (.bool true), .tell 10 13 (.bool true), .tell 10 9 (.bool true), .tell 10 13 (.bool true), .tell 10 9 (.bool true), .tell 10 13 (.bool true), .tell 10 9 (.bool false)] .normal d w p c l = some ([.bool (decide (d ≥ 1)), .bool (decide (d ≤ 3)), .bool (decide (w ≥ 1)), .bool (decide (w ≤ 64)), .bool (decide (p ≥ 1)), .bool (decide (p ≤ 100)), .bool (decide (c ≥ 64)), .bool (decide (c ≤ 262144)), .bool (decide (l ≥ 1))], some (vi 1)) := by unfold setRun; kernel_rfl
theorem bad9n (d w p c l : Int) : setRun [.tell 10 9 (.bool true), .tell 10 13 (.bool true), .tell 10 9 (.bool true), .tell 10 13 (.bool true), .tell 10 9 (.bool true), .tell 10 13 (.bool true), .tell 10 9 (.bool true), .tell 10 13 (.bool true), .tell 10 9 (.bool true), .tell 10 13 (.bool false)] .normal d w p c l = some ([.bool (decide (d ≥ 1)), .bool (decide (d ≤ 3)), .bool (decide (w ≥ 1)), .bool (decide (w ≤ 64)), .bool (decide (p ≥ 1)), .bool (decide (p ≤ 100)), .bool (decide (c ≥ 64)), .bool (decide (c ≤ 262144)), .bool (decide (l ≥ 1)), .bool (decide (l ≤ 4096))], some (vi 1)) := by unfold setRun; kernel_rfl
theorem goodd (d w p c l : Int) : setRun [.tell 10 9 (.bool true), .tell 10 13 (.bool true), .tell 10 9 (.bool true), .tell 10 13 (.bool true), .tell 10 9 (.bool true), .tell 10 13 (.bool true), .tell 10 9 (.bool true), .tell 10 13 (.bool true), .tell 10 9 (.bool true), .tell 10 13 (.bool true)] .deferred d w p c l = some ([.bool (decide (d ≥ 1)), .bool (decide (d ≤ 3)), .bool (decide (w ≥ 1)), .bool (decide (w ≤ 64)), .bool (decide (p ≥ 1)), .bool (decide (p ≤ 100)), .bool (decide (c ≥ 64)), .bool (decide (c ≤ 262144)), .bool (decide (l ≥ 1)), .bool (decide (l ≤ 4096))], some (vi 0)) := by unfold setRun; kernel_rfl
theorem bad0d (d w p c l : Int) : setRun [.tell 10 9 (.bool false)] .deferred d w p c l = some ([.bool (decide (d ≥ 1))], some (vi 1)) := by unfold setRun; kernel_rfl
theorem bad1d (d w p c l : Int) : setRun [.tell 10 9 (.bool true), .tell 10 13 (.bool false)] .deferred d w p c l = some ([.bool (decide (d ≥ 1)), .bool (decide (d ≤ 3))], some (vi 1)) := by unfold setRun; kernel_rfl
theorem bad2d (d w p c l : Int) : setRun [.tell 10 9 (.bool true), .tell 10 13 (.bool true), .tell 10 9 (.bool false)] .deferred d w p c l = some ([.bool (decide (d ≥ 1)), .bool (decide (d ≤ 3)), .bool (decide (w ≥ 1))], some (vi 1)) := by unfold setRun; kernel_rfl
theorem bad3d (d w p c l : Int) : setRun [.tell 10 9 (.bool true), .tell 10 13 (.bool true), .tell 10 9 (.bool true), .tell 10 13 (.bool false)] .deferred d w p c l = some ([.bool (decide (d ≥ 1)), .bool (decide (d ≤ 3)), .bool (decide (w ≥ 1)), .bool (decide (w ≤ 64))], some (vi 1)) := by unfold setRun; kernel_rfl
theorem bad4d (d w p c l : Int) : setRun [.tell 10 9 (.bool true), .tell 10 13 (.bool true), .tell 10 9 (.bool true), .tell 10 13 (.bool true), .tell 10 9 (.bool false)] .deferred d w p c l = some ([.bool (decide (d ≥ 1)), .bool (decide (d ≤ 3)), .bool (decide (w ≥ 1)), .bool (decide (w ≤ 64)), .bool (decide (p ≥ 1))], some (vi 1)) := by unfold setRun; kernel_rfl
theorem bad5d (d w p c l : Int) : setRun [.tell 10 9 (.bool true), .tell 10 13 (.bool true), .tell 10 9 (.bool true), .tell 10 13 (.bool true), .tell 10 9 (.bool true), .tell 10 13 (.bool false)] .deferred d w p c l = some ([.bool (decide (d ≥ 1)), .bool (decide (d ≤ 3)), .bool (decide (w ≥ 1)), .bool (decide (w ≤ 64)), .bool (decide (p ≥ 1)), .bool (decide (p ≤ 100))], some (vi 1)) := by unfold setRun; kernel_rfl
theorem bad6d (d w p c l : Int) : setRun [.tell 10 9 (.bool true), .tell 10 13 (.bool true), .tell 10 9 (.bool true), .tell 10 13 (.bool true), .tell 10 9 (.bool true), .tell 10 13 (.bool true), .tell 10 9 (.bool false)] .deferred d w p c l = some ([.bool (decide (d ≥ 1)), .bool (decide (d ≤ 3)), .bool (decide (w ≥ 1)), .bool (decide (w ≤ 64)), .bool (decide (p ≥ 1)), .bool (decide (p ≤ 100)), .bool (decide (c ≥ 64))], some (vi 1)) := by unfold setRun; kernel_rfl
theorem bad7d (d w p c l : Int) : setRun [.tell 10 9 (.bool true), .tell 10 13 (.bool true), .tell 10 9 (.bool true), .tell 10 13 (.bool true), .tell 10 9 (.bool true), .tell 10 13 (.bool true), .tell 10 9 (.bool true), .tell 10 13 (.bool false)] .deferred d w p c l = some ([.bool (decide (d ≥ 1)), .bool (decide (d ≤ 3)), .bool (decide (w ≥ 1)), .bool (decide (w ≤ 64)), .bool (decide (p ≥ 1)), .bool (decide (p ≤ 100)), .bool (decide (c ≥ 64)), .bool (decide (c ≤ 262144))], some (vi 1)) := by unfold setRun; kernel_rfl
theorem bad8d (d w p c l : Int) : setRun [.tell 10 9 (.bool true), .tell 10 13 (.bool true), .tell 10 9 (.bool true), .tell 10 13 (.bool true), .tell 10 9 (.bool true), .tell 10 13 (.bool true), .tell 10 9 (.bool true), .tell 10 13 (.bool true), .tell 10 9 (.bool false)] .deferred d w p c l = some ([.bool (decide (d ≥ 1)), .bool (decide (d ≤ 3)), .bool (decide (w ≥ 1)), .bool (decide (w ≤ 64)), .bool (decide (p ≥ 1)), .bool (decide (p ≤ 100)), .bool (decide (c ≥ 64)), .bool (decide (c ≤ 262144)), .bool (decide (l ≥ 1))], some (vi 1)) := by unfold setRun; kernel_rfl
theorem bad9d (d w p c l : Int) : setRun [.tell 10 9 (.bool true), .tell 10 13 (.bool true), .tell 10 9 (.bool true), .tell 10 13 (.bool true), .tell 10 9 (.bool true), .tell 10 13 (.bool true), .tell 10 9 (.bool true), .tell 10 13 (.bool true), .tell 10 9 (.bool true), .tell 10 13 (.bool false)] .deferred d w p c l = some ([.bool (decide (d ≥ 1)), .bool (decide (d ≤ 3)), .bool (decide (w ≥ 1)), .bool (decide (w ≤ 64)), .bool (decide (p ≥ 1)), .bool (decide (p ≤ 100)), .bool (decide (c ≥ 64)), .bool (decide (c ≤ 262144)), .bool (decide (l ≥ 1)), .bool (decide (l ≤ 4096))], some (vi 1)) := by unfold setRun; kernel_rfl
theorem set_good {d w p c l : Int} (h : setAll d w p c l) (N : CH) : CallOk Tryz.prog 7 (setArgs d w p c l) N (vi 0) N := by
  obtain ⟨⟨h0, h1⟩, ⟨h2, h3⟩, ⟨h4, h5⟩, ⟨h6, h7⟩, ⟨h8, h9⟩⟩ := h
  have g0 : decide (d ≥ 1) = true := decide_eq_true (by omega)
  have g1 : decide (d ≤ 3) = true := decide_eq_true (by omega)
  have g2 : decide (w ≥ 1) = true := decide_eq_true (by omega)
  have g3 : decide (w ≤ 64) = true := decide_eq_true (by omega)
  have g4 : decide (p ≥ 1) = true := decide_eq_true (by omega)
  have g5 : decide (p ≤ 100) = true := decide_eq_true (by omega)
  have g6 : decide (c ≥ 64) = true := decide_eq_true (by omega)
  have g7 : decide (c ≤ 262144) = true := decide_eq_true (by omega)
  have g8 : decide (l ≥ 1) = true := decide_eq_true (by omega)
  have g9 : decide (l ≤ 4096) = true := decide_eq_true (by omega)
  refine set_call rfl (fun kd hkd => ?_) N
  rcases hkd with rfl | rfl
  · exact ⟨_, _, goodn d w p c l, by rw [g0, g1, g2, g3, g4, g5, g6, g7, g8, g9]; rfl⟩
  · exact ⟨_, _, goodd d w p c l, by rw [g0, g1, g2, g3, g4, g5, g6, g7, g8, g9]; rfl⟩
theorem set_bad {d w p c l : Int} (h : ¬ setAll d w p c l) (N : CH) : CallOk Tryz.prog 7 (setArgs d w p c l) N (vi 1) N := by
  refine set_call rfl (fun kd hkd => ?_) N
  by_cases k0 : d ≥ 1
  rotate_left
  · have g0 : decide (d ≥ 1) = false := decide_eq_false k0
    rcases hkd with rfl | rfl
    · exact ⟨_, _, bad0n d w p c l, by rw [g0]; rfl⟩
    · exact ⟨_, _, bad0d d w p c l, by rw [g0]; rfl⟩
  have g0 : decide (d ≥ 1) = true := decide_eq_true k0
  by_cases k1 : d ≤ 3
  rotate_left
  · have g1 : decide (d ≤ 3) = false := decide_eq_false k1
    rcases hkd with rfl | rfl
    · exact ⟨_, _, bad1n d w p c l, by rw [g0, g1]; rfl⟩
    · exact ⟨_, _, bad1d d w p c l, by rw [g0, g1]; rfl⟩
  have g1 : decide (d ≤ 3) = true := decide_eq_true k1
  by_cases k2 : w ≥ 1
  rotate_left
  · have g2 : decide (w ≥ 1) = false := decide_eq_false k2
    rcases hkd with rfl | rfl
    · exact ⟨_, _, bad2n d w p c l, by rw [g0, g1, g2]; rfl⟩
    · exact ⟨_, _, bad2d d w p c l, by rw [g0, g1, g2]; rfl⟩
  have g2 : decide (w ≥ 1) = true := decide_eq_true k2
  by_cases k3 : w ≤ 64
  rotate_left
  · have g3 : decide (w ≤ 64) = false := decide_eq_false k3
    rcases hkd with rfl | rfl
    · exact ⟨_, _, bad3n d w p c l, by rw [g0, g1, g2, g3]; rfl⟩
    · exact ⟨_, _, bad3d d w p c l, by rw [g0, g1, g2, g3]; rfl⟩
  have g3 : decide (w ≤ 64) = true := decide_eq_true k3
  by_cases k4 : p ≥ 1
  rotate_left
  · have g4 : decide (p ≥ 1) = false := decide_eq_false k4
    rcases hkd with rfl | rfl
    · exact ⟨_, _, bad4n d w p c l, by rw [g0, g1, g2, g3, g4]; rfl⟩
    · exact ⟨_, _, bad4d d w p c l, by rw [g0, g1, g2, g3, g4]; rfl⟩
  have g4 : decide (p ≥ 1) = true := decide_eq_true k4
  by_cases k5 : p ≤ 100
  rotate_left
  · have g5 : decide (p ≤ 100) = false := decide_eq_false k5
    rcases hkd with rfl | rfl
    · exact ⟨_, _, bad5n d w p c l, by rw [g0, g1, g2, g3, g4, g5]; rfl⟩
    · exact ⟨_, _, bad5d d w p c l, by rw [g0, g1, g2, g3, g4, g5]; rfl⟩
  have g5 : decide (p ≤ 100) = true := decide_eq_true k5
  by_cases k6 : c ≥ 64
  rotate_left
  · have g6 : decide (c ≥ 64) = false := decide_eq_false k6
    rcases hkd with rfl | rfl
    · exact ⟨_, _, bad6n d w p c l, by rw [g0, g1, g2, g3, g4, g5, g6]; rfl⟩
    · exact ⟨_, _, bad6d d w p c l, by rw [g0, g1, g2, g3, g4, g5, g6]; rfl⟩
  have g6 : decide (c ≥ 64) = true := decide_eq_true k6
  by_cases k7 : c ≤ 262144
  rotate_left
  · have g7 : decide (c ≤ 262144) = false := decide_eq_false k7
    rcases hkd with rfl | rfl
    · exact ⟨_, _, bad7n d w p c l, by rw [g0, g1, g2, g3, g4, g5, g6, g7]; rfl⟩
    · exact ⟨_, _, bad7d d w p c l, by rw [g0, g1, g2, g3, g4, g5, g6, g7]; rfl⟩
  have g7 : decide (c ≤ 262144) = true := decide_eq_true k7
  by_cases k8 : l ≥ 1
  rotate_left
  · have g8 : decide (l ≥ 1) = false := decide_eq_false k8
    rcases hkd with rfl | rfl
    · exact ⟨_, _, bad8n d w p c l, by rw [g0, g1, g2, g3, g4, g5, g6, g7, g8]; rfl⟩
    · exact ⟨_, _, bad8d d w p c l, by rw [g0, g1, g2, g3, g4, g5, g6, g7, g8]; rfl⟩
  have g8 : decide (l ≥ 1) = true := decide_eq_true k8
  by_cases k9 : l ≤ 4096
  rotate_left
  · have g9 : decide (l ≤ 4096) = false := decide_eq_false k9
    rcases hkd with rfl | rfl
    · exact ⟨_, _, bad9n d w p c l, by rw [g0, g1, g2, g3, g4, g5, g6, g7, g8, g9]; rfl⟩
    · exact ⟨_, _, bad9d d w p c l, by rw [g0, g1, g2, g3, g4, g5, g6, g7, g8, g9]; rfl⟩
  have g9 : decide (l ≤ 4096) = true := decide_eq_true k9
  exact absurd ⟨⟨k0, k1⟩, ⟨k2, k3⟩, ⟨k4, k5⟩, ⟨k6, k7⟩, ⟨k8, k9⟩⟩ h
theorem setHooked : HookOk Tryz.prog setHook := by
  have hb : ∃ fn, Tryz.prog.funcs[7]? = some fn ∧ fn.body.isSome = true := by
    have h : (Tryz.prog.funcs[7]?).any (fun fn => fn.body.isSome) = true := by kernel_rfl
    cases hf : Tryz.prog.funcs[7]? with
    | none => rw [hf] at h; cases h
    | some fn => exact ⟨fn, rfl, by rw [hf] at h; exact h⟩
  intro g ls N v N' h
  unfold setHook at h
  split at h
  rotate_left
  · cases h
  rename_i hg
  obtain rfl := Nat.eq_of_beq_eq_true hg
  refine ⟨?_, hb⟩
  split at h
  rotate_left
  · cases h
  rename_i a b c d e
  split at h
  · rename_i hc
    simp only [Option.some.injEq, Prod.mk.injEq] at h
    obtain ⟨rfl, rfl⟩ := h
    simp only [Bool.and_eq_true] at hc
    obtain ⟨x1, x2, x3, x4, x5⟩ := hc
    obtain rfl := Nat.eq_of_beq_eq_true x1
    obtain rfl := Nat.eq_of_beq_eq_true x2
    obtain rfl := Nat.eq_of_beq_eq_true x4
    obtain rfl := Nat.eq_of_beq_eq_true x5
    refine call_as fun E => ?_
    obtain ⟨⟨dd, ww, cc, ll, e1, e2, e3, e4, hs⟩, _, hp⟩ := E.one.is
    refine ⟨setArgs dd ww (patI c) cc ll, ?_, fun u hu => ?_, set_good ?_ N⟩
    · have ep := hp c (Nat.le_of_ble_eq_true x3)
      show [Value.agg #[E.o 0, E.o 1, E.o c, E.o 3, E.o 4]] = [Value.agg #[int dd, int ww, int (patI c), int cc, int ll]]
      rw [e1, e2, ep, e3, e4]
    · rw [List.mem_singleton.1 hu]
      exact Clo_plain _ _ rfl
    · have hpi : (1 : Int) ≤ patI c ∧ patI c ≤ 100 := by
        unfold patI
        have := Nat.mod_lt (c - 100) (show 0 < 100 by decide)
        constructor
        · show (1 : Int) ≤ ((1 + (c - 100) % 100 : Nat) : Int)
          omega
        · show ((1 + (c - 100) % 100 : Nat) : Int) ≤ 100
          omega
      exact ⟨hs.1, hs.2.1, hpi, hs.2.2.2.1, hs.2.2.2.2⟩
  · split at h
    · rename_i hc
      simp only [Option.some.injEq, Prod.mk.injEq] at h
      obtain ⟨rfl, rfl⟩ := h
      simp only [Bool.and_eq_true] at hc
      obtain ⟨x1, x2, x3, x4, x5⟩ := hc
      obtain rfl := Nat.eq_of_beq_eq_true x1
      obtain rfl := Nat.eq_of_beq_eq_true x2
      obtain rfl := Nat.eq_of_beq_eq_true x3
      obtain rfl := Nat.eq_of_beq_eq_true x4
      obtain rfl := Nat.eq_of_beq_eq_true x5
      refine call_as fun E => ?_
      obtain ⟨_, ⟨dd, ww, pp, cc, ll, e1, e2, e3, e4, e5, hs⟩, _⟩ := E.one.is
      refine ⟨setArgs dd ww pp cc ll, ?_, fun u hu => ?_, set_bad hs N⟩
      · show [Value.agg #[E.o 5, E.o 6, E.o 7, E.o 8, E.o 9]] = [Value.agg #[int dd, int ww, int pp, int cc, int ll]]
        rw [e1, e2, e3, e4, e5]
      · rw [List.mem_singleton.1 hu]
        exact Clo_plain _ _ rfl
    · cases h
theorem scHooked : HookOk Tryz.prog scHook := hooks_ok fun h hh => by
  simp only [List.mem_cons, List.mem_nil_iff, or_false] at hh
  rcases hh with rfl | rfl
  · exact setHooked
  · exact chkHooked
theorem srHooked : HookOk Tryz.prog srHook := hooks_ok fun h hh => by
  simp only [List.mem_cons, List.mem_nil_iff, or_false] at hh
  rcases hh with rfl | rfl | rfl
  · exact setHooked
  · exact chkHooked
  · exact roleHooked
theorem snHooked : HookOk Tryz.prog snHook := hooks_ok fun h hh => by
  simp only [List.mem_cons, List.mem_nil_iff, or_false] at hh
  rcases hh with rfl | rfl | rfl | rfl
  · exact setHooked
  · exact chkHooked
  · exact roleHooked
  · exact nextHooked
end
end Go.Proofs.YtjoelgicffojcaaGreatDoor.wb
