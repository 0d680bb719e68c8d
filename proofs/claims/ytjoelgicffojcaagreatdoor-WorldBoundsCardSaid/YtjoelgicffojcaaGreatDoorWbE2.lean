/-
  WorldBounds: its run ahead of the world, a chain of any length.
-/
import Derived.KernelRfl
import Derived.Test.YtjoelgicffojcaaGreatDoorEngYe
import Derived.Test.YtjoelgicffojcaaGreatDoorWbWSt
import Derived.Test.YtjoelgicffojcaaGreatDoorWbC2
import Derived.WalkKit
import Derived.ProofKit
import Derived.Deep.Slices
import Derived.SizedLaws
import Derived.Below
import Derived.Lib.SmallJoins
namespace Go.Proofs.YtjoelgicffojcaaGreatDoor.wb
noncomputable section
open Go.Eng
set_option maxRecDepth 1000000
set_option linter.unusedVariables false
set_option linter.unusedSimpArgs false
set_option linter.unusedSectionVars false
def topRegA (o : Option (List Value × ((Nat × List Value) × (Bool × Snap)))) (k : Nat) : Value := match o with
  | some (_, (_, (_, T))) => T.top.tm.getD k un
  | none => un
abbrev usLong (n : Nat) : List Value := [.bool (decide (Int.ofNat n < 1)), .bool (decide (Int.ofNat n > 8))]
abbrev longQ : List Leg := [.tell 12 18 (.bool false), .tell 12 23 (.bool true)]
abbrev Al (c : List Value) (x : Nat) (N C : Int) (n cp : Nat) (r u : Int) : Prop := (kenter Tryz.prog 3 (lawArgs true x N C (chain n cp) r u) .normal).bind (fun s => walkApp Tryz.prog RS (In4 true true true true ++ [.call 7]) 11 7 (longQ ++ [.stop 3 13]) (keysOf [33]) 33 100 ⟨s, [], CH.pane c⟩) = some (us4 N C ++ usLong n, ((n, c), (true, stM1 (.win c) true x N C (chain n cp) r u false)))
noncomputable abbrev oCl (c : List Value) (good : Bool) (x : Nat) (N C : Int) (n cp : Nat) (r u W : Int) (d : Nat → Value) := walkApp Tryz.prog RS [] 11 7 (longQ ++ [.stop 3 54]) (keysOf [100, 101]) 33 (szY + 10) (sB (.win c) good x N C (chain n cp) r u W d)
abbrev Cl (c : List Value) (good : Bool) (x : Nat) (N C : Int) (n cp : Nat) (r u W : Int) (d : Nat → Value) : Prop := oCl c good x N C n cp r u W d = some (usLong n, ((n, c), (true, stZ (.win c) W 0 (topRegA (oCl c good x N C n cp r u W d)))))
theorem a8 (c : List Value) (x : Nat) (N C : Int) (n cp : Nat) (r u : Int) : Al c x N C n cp r u := by unfold Al; kernel_rfl
theorem c3t (c : List Value) (x : Nat) (N C : Int) (n cp : Nat) (r u W : Int) (d : Nat → Value) : Cl c true x N C n cp r u W d := by unfold Cl; kernel_rfl
theorem c3f (c : List Value) (x : Nat) (N C : Int) (n cp : Nat) (r u W : Int) (d : Nat → Value) : Cl c false x N C n cp r u W d := by unfold Cl; kernel_rfl
end
end Go.Proofs.YtjoelgicffojcaaGreatDoor.wb
namespace Go.Proofs.YtjoelgicffojcaaGreatDoor.wb
noncomputable section
open Go.Eng
set_option maxRecDepth 1000000
set_option maxHeartbeats 4000000
set_option linter.unusedVariables false
set_option linter.unusedSimpArgs false
set_option linter.unusedSectionVars false
/-- From its entry it comes to where setupMay has answered b. -/
def StartM (c : List Value) (good : Bool) (x : Nat) (N C : Int) (sl : Value) (r u : Int) (b : Bool) : Prop := ∃ s, kenter Tryz.prog 3 (lawArgs good x N C sl r u) .normal = some s ∧ Eng.Reach Tryz.prog ⟨s, [], CH.pane c⟩ (sM1 (.win c) good x N C sl r u b)
def Runs (c : List Value) (good : Bool) (x : Nat) (N C : Int) (sl : Value) (r u : Int) : Prop := ∃ s S' hd, kenter Tryz.prog 3 (lawArgs good x N C sl r u) .normal = some s ∧ Eng.Reach Tryz.prog ⟨s, [], CH.pane c⟩ S' ∧ S'.final Tryz.prog 3 = some (.bool true, hd) ∧ 33 ≤ S'.N.wm
theorem of_A {c : List Value} {good : Bool} {x : Nat} {N C : Int} {sl : Value} {r u : Int} {q : List Leg} {us : List Value} {b : Bool} (h : Go.Proofs.YtjoelgicffojcaaGreatDoor.wb.A c good x N C sl r u q us b) (hus : us = tells q) : StartM c good x N C sl r u b := by
  unfold Go.Proofs.YtjoelgicffojcaaGreatDoor.wb.A at h
  cases hk : kenter Tryz.prog 3 (lawArgs good x N C sl r u) .normal with
  | none => rw [hk] at h; cases h
  | some s =>
    rw [hk] at h
    exact ⟨s, hk, walkTo_ok (noCount counted) mixed scHooked (keepK _) h (by rw [tells_append, hus]; exact (List.append_nil _).symm)⟩
theorem of_Al {c : List Value} {x : Nat} {N C : Int} {n cp : Nat} {r u : Int} (hn : c.length = n) (h9 : 8 < n) (hfit : n * 8 ≤ 140737488355328) (hone : c.all (·.oneCell') = true) (h : 1 ≤ N ∧ N ≤ 8 ∧ 0 ≤ C ∧ C ≤ 16) : StartM c true x N C (chain n cp) r u false := by
  have h := a8 c x N C n cp r u
  unfold Al at h
  cases hk : kenter Tryz.prog 3 (lawArgs true x N C (chain n cp) r u) .normal with
  | none => rw [hk] at h; cases h
  | some s =>
    rw [hk] at h
    have e1 : decide (Int.ofNat n < 1) = false := decide_eq_false (by show ¬ ((n : Nat) : Int) < 1; omega)
    have e2 : decide (Int.ofNat n > 8) = true := decide_eq_true (by show ((n : Nat) : Int) > 8; omega)
    refine ⟨s, hk, walkApp_reach (noCount counted) mixed scHooked (keepK _) h hn (by omega) hfit hone ?_⟩
    unfold us4 usLong
    rw [e1, e2, decide_eq_true (show N ≥ 1 by omega), decide_eq_true (show N ≤ 8 by omega), decide_eq_true (show C ≥ 0 by omega), decide_eq_true (show C ≤ 16 by omega)]
    rfl
theorem p1ct {c : List Value} {n cp : Nat} {x : Nat} {N C : Int} {r u : Int} (hin : (1 ≤ N ∧ N ≤ 8 ∧ 0 ≤ C ∧ C ≤ 16) → StartM c true x N C (chain n cp) r u false) : StartM c true x N C (chain n cp) r u false := by
  by_cases h1 : N ≥ 1
  rotate_left
  · exact of_A (a1ct c n cp x N C r u) (by rw [decide_eq_false h1]; rfl)
  by_cases h2 : N ≤ 8
  rotate_left
  · exact of_A (a2ct c n cp x N C r u) (by rw [decide_eq_true h1, decide_eq_false h2]; rfl)
  by_cases h3 : C ≥ 0
  rotate_left
  · exact of_A (a3ct c n cp x N C r u) (by rw [decide_eq_true h1, decide_eq_true h2, decide_eq_false h3]; rfl)
  by_cases h4 : C ≤ 16
  rotate_left
  · exact of_A (a4ct c n cp x N C r u) (by unfold us4; rw [decide_eq_true h1, decide_eq_true h2, decide_eq_true h3, decide_eq_false h4]; rfl)
  exact hin ⟨h1, h2, h3, h4⟩
theorem p1cf {c : List Value} {n cp : Nat} {x : Nat} {N C : Int} {r u : Int} (hin : (1 ≤ N ∧ N ≤ 8 ∧ 0 ≤ C ∧ C ≤ 16) → StartM c false x N C (chain n cp) r u false) : StartM c false x N C (chain n cp) r u false := by
  by_cases h1 : N ≥ 1
  rotate_left
  · exact of_A (a1cf c n cp x N C r u) (by rw [decide_eq_false h1]; rfl)
  by_cases h2 : N ≤ 8
  rotate_left
  · exact of_A (a2cf c n cp x N C r u) (by rw [decide_eq_true h1, decide_eq_false h2]; rfl)
  by_cases h3 : C ≥ 0
  rotate_left
  · exact of_A (a3cf c n cp x N C r u) (by rw [decide_eq_true h1, decide_eq_true h2, decide_eq_false h3]; rfl)
  by_cases h4 : C ≤ 16
  rotate_left
  · exact of_A (a4cf c n cp x N C r u) (by unfold us4; rw [decide_eq_true h1, decide_eq_true h2, decide_eq_true h3, decide_eq_false h4]; rfl)
  exact hin ⟨h1, h2, h3, h4⟩
theorem p1nt {c : List Value} {x : Nat} {N C : Int} {r u : Int} (hin : (1 ≤ N ∧ N ≤ 8 ∧ 0 ≤ C ∧ C ≤ 16) → StartM c true x N C (.slice none 0 0) r u false) : StartM c true x N C (.slice none 0 0) r u false := by
  by_cases h1 : N ≥ 1
  rotate_left
  · exact of_A (a1nt c x N C r u) (by rw [decide_eq_false h1]; rfl)
  by_cases h2 : N ≤ 8
  rotate_left
  · exact of_A (a2nt c x N C r u) (by rw [decide_eq_true h1, decide_eq_false h2]; rfl)
  by_cases h3 : C ≥ 0
  rotate_left
  · exact of_A (a3nt c x N C r u) (by rw [decide_eq_true h1, decide_eq_true h2, decide_eq_false h3]; rfl)
  by_cases h4 : C ≤ 16
  rotate_left
  · exact of_A (a4nt c x N C r u) (by unfold us4; rw [decide_eq_true h1, decide_eq_true h2, decide_eq_true h3, decide_eq_false h4]; rfl)
  exact hin ⟨h1, h2, h3, h4⟩
theorem p1nf {c : List Value} {x : Nat} {N C : Int} {r u : Int} (hin : (1 ≤ N ∧ N ≤ 8 ∧ 0 ≤ C ∧ C ≤ 16) → StartM c false x N C (.slice none 0 0) r u false) : StartM c false x N C (.slice none 0 0) r u false := by
  by_cases h1 : N ≥ 1
  rotate_left
  · exact of_A (a1nf c x N C r u) (by rw [decide_eq_false h1]; rfl)
  by_cases h2 : N ≤ 8
  rotate_left
  · exact of_A (a2nf c x N C r u) (by rw [decide_eq_true h1, decide_eq_false h2]; rfl)
  by_cases h3 : C ≥ 0
  rotate_left
  · exact of_A (a3nf c x N C r u) (by rw [decide_eq_true h1, decide_eq_true h2, decide_eq_false h3]; rfl)
  by_cases h4 : C ≤ 16
  rotate_left
  · exact of_A (a4nf c x N C r u) (by unfold us4; rw [decide_eq_true h1, decide_eq_true h2, decide_eq_true h3, decide_eq_false h4]; rfl)
  exact hin ⟨h1, h2, h3, h4⟩
theorem us4_ok {N C : Int} (h : 1 ≤ N ∧ N ≤ 8 ∧ 0 ≤ C ∧ C ≤ 16) : us4 N C = [.bool true, .bool true, .bool true, .bool true] := by
  unfold us4
  rw [decide_eq_true (show N ≥ 1 by omega), decide_eq_true (show N ≤ 8 by omega), decide_eq_true (show C ≥ 0 by omega), decide_eq_true (show C ≤ 16 by omega)]
/-- What is refused: the bound is 0, and 0 is wanted. -/
theorem refused {c : List Value} {good : Bool} {x : Nat} {N C : Int} {sl : Value} {r u : Int} (h1 : StartM c good x N C sl r u false) (h3 : ∀ d, ∃ d', Eng.Reach Tryz.prog (sB (.win c) good x N C sl r u 0 d) (sZ (.win c) 0 0 d')) : Runs c good x N C sl r u := by
  obtain ⟨s, hs, r1⟩ := h1
  have r2 : ∃ d, Eng.Reach Tryz.prog (sM1 (.win c) good x N C sl r u false) (sB (.win c) good x N C sl r u 0 d) := by
    cases good with
    | true => exact ⟨_, walkTo_ok (noCount counted) mixed scHooked (keepK _) (b0t (.win c) x N C sl r u) rfl⟩
    | false => exact ⟨_, walkTo_ok (noCount counted) mixed scHooked (keepK _) (b0f (.win c) x N C sl r u) rfl⟩
  obtain ⟨d, r2⟩ := r2
  obtain ⟨d', r3⟩ := h3 d
  obtain ⟨S', hd, r4, hf, hw⟩ := finishes (.win c) 0 d'
  exact ⟨s, S', hd, hs, ((r1.trans r2).trans r3).trans r4, hf, hw⟩
theorem of_C {win : CB} {good : Bool} {x : Nat} {N C : Int} {sl : Value} {r u W : Int} {d : Nat → Value} {q : List Leg} {us : List Value} (h : Cz win good x N C sl r u W d q us) (hus : us = tells q) : ∃ d', Eng.Reach Tryz.prog (sB win good x N C sl r u W d) (sZ win W 0 d') :=
  ⟨_, walkTo_ok (noCount counted) mixed scHooked (keepK _) h (by rw [tells_append, hus]; exact (List.append_nil _).symm)⟩
/-- No chain. -/
theorem runs_nil (c : List Value) (good : Bool) (x : Nat) (N C : Int) (r u : Int) : Runs c good x N C (.slice none 0 0) r u := by
  cases good with
  | true => exact refused (p1nt fun h => of_A (a6 c x N C r u) (by rw [us4_ok h]; rfl)) (fun d => of_C (c1t (.win c) x N C r u 0 d) rfl)
  | false => exact refused (p1nf fun h => of_A (a5nf c x N C r u) (by rw [us4_ok h]; rfl)) (fun d => of_C (c1f (.win c) x N C r u 0 d) rfl)
/-- An empty one. -/
theorem runs_empty (c : List Value) (cp : Nat) (good : Bool) (x : Nat) (N C : Int) (r u : Int) : Runs c good x N C (chain 0 cp) r u := by
  cases good with
  | true => exact refused (p1ct fun h => of_A (a7 c cp x N C r u) (by rw [us4_ok h]; rfl)) (fun d => of_C (c2t c cp x N C r u 0 d) rfl)
  | false => exact refused (p1cf fun h => of_A (a5cf c 0 cp x N C r u) (by rw [us4_ok h]; rfl)) (fun d => of_C (c2f c cp x N C r u 0 d) rfl)
/-- A long one. -/
theorem runs_long {c : List Value} {n : Nat} (cp : Nat) (hn : c.length = n) (h9 : 8 < n) (hfit : n * 8 ≤ 140737488355328) (hone : c.all (·.oneCell') = true) (good : Bool) (x : Nat) (N C : Int) (r u : Int) : Runs c good x N C (chain n cp) r u := by
  have e1 : decide (Int.ofNat n < 1) = false := decide_eq_false (by show ¬ ((n : Nat) : Int) < 1; omega)
  have e2 : decide (Int.ofNat n > 8) = true := decide_eq_true (by show ((n : Nat) : Int) > 8; omega)
  cases good with
  | true => exact refused (p1ct fun h => of_Al hn h9 hfit hone h) (fun d => ⟨_, walkApp_reach (noCount counted) mixed scHooked (keepK _) (c3t c x N C n cp r u 0 d) hn (by omega) hfit hone (by unfold usLong; rw [e1, e2]; rfl)⟩)
  | false => exact refused (p1cf fun h => of_A (a5cf c n cp x N C r u) (by rw [us4_ok h]; rfl)) (fun d => ⟨_, walkApp_reach (noCount counted) mixed scHooked (keepK _) (c3f c x N C n cp r u 0 d) hn (by omega) hfit hone (by unfold usLong; rw [e1, e2]; rfl)⟩)
theorem first_gt (p : Nat → Prop) : ∀ n : Nat, (∀ j, j < n → ¬ p j) ∨ ∃ i, i < n ∧ p i ∧ ∀ j, j < i → ¬ p j
  | 0 => .inl fun j hj => by omega
  | n + 1 => by
    rcases first_gt p n with h | ⟨i, hi, h1, h2⟩
    · by_cases hp : p n
      · exact .inr ⟨n, by omega, hp, h⟩
      · exact .inl fun j hj => by
          by_cases e : j = n
          · rw [e]; exact hp
          · exact h j (by omega)
    · exact .inr ⟨i, by omega, h1, h2⟩
section
variable {n : Nat} (h1 : 1 ≤ n) (h8 : n ≤ 8) {cs : List Int} (hl : cs.length = n) (x cp : Nat) (N C r u : Int)
include h1 h8 hl
/-- A chain that may not be. -/
theorem runs_bad (good : Bool) (hok : okC cs = false) : Runs (ints cs) good x N C (chain n cp) r u := by
  have e : (chkI cs != 0) = true := by rw [chk_false hok]; rfl
  cases good with
  | true => exact refused (p1ct fun h => of_A (a9All h1 h8 hl x cp N C r u) (by unfold okB; rw [us4_ok h, e]; rfl)) (fun d => of_C (c4Allt h1 h8 hl x cp N C r u 0 d) (by unfold okB; rw [e]; rfl))
  | false => exact refused (p1cf fun h => of_A (a5cf (ints cs) n cp x N C r u) (by rw [us4_ok h]; rfl)) (fun d => of_C (c4Allf h1 h8 hl x cp N C r u 0 d) (by unfold okB; rw [e]; rfl))
theorem numt (hok : okC cs = true) (h : ¬ (1 ≤ N ∧ N ≤ 8 ∧ 0 ≤ C ∧ C ≤ 16)) (d : Nat → Value) : ∃ d', Eng.Reach Tryz.prog (sB (.win (ints cs)) true x N C (chain n cp) r u 0 d) (sZ (.win (ints cs)) 0 0 d') := by
  have e : (chkI cs != 0) = false := by rw [chk_true hok]; rfl
  by_cases k0 : N < 1
  · exact of_C (c5Allt h1 h8 hl x cp N C r u 0 d) (by unfold okB; rw [e, decide_eq_true k0]; rfl)
  by_cases k1 : N > 8
  · exact of_C (c6Allt h1 h8 hl x cp N C r u 0 d) (by unfold okB; rw [e, decide_eq_false k0, decide_eq_true k1]; rfl)
  by_cases k2 : C < 0
  · exact of_C (c7Allt h1 h8 hl x cp N C r u 0 d) (by unfold okB; rw [e, decide_eq_false k0, decide_eq_false k1, decide_eq_true k2]; rfl)
  by_cases k3 : C > 16
  · exact of_C (c8Allt h1 h8 hl x cp N C r u 0 d) (by unfold okB; rw [e, decide_eq_false k0, decide_eq_false k1, decide_eq_false k2, decide_eq_true k3]; rfl)
  exact absurd ⟨by omega, by omega, by omega, by omega⟩ h
theorem numf (hok : okC cs = true) (h : ¬ (1 ≤ N ∧ N ≤ 8 ∧ 0 ≤ C ∧ C ≤ 16)) (d : Nat → Value) : ∃ d', Eng.Reach Tryz.prog (sB (.win (ints cs)) false x N C (chain n cp) r u 0 d) (sZ (.win (ints cs)) 0 0 d') := by
  have e : (chkI cs != 0) = false := by rw [chk_true hok]; rfl
  by_cases k0 : N < 1
  · exact of_C (c5Allf h1 h8 hl x cp N C r u 0 d) (by unfold okB; rw [e, decide_eq_true k0]; rfl)
  by_cases k1 : N > 8
  · exact of_C (c6Allf h1 h8 hl x cp N C r u 0 d) (by unfold okB; rw [e, decide_eq_false k0, decide_eq_true k1]; rfl)
  by_cases k2 : C < 0
  · exact of_C (c7Allf h1 h8 hl x cp N C r u 0 d) (by unfold okB; rw [e, decide_eq_false k0, decide_eq_false k1, decide_eq_true k2]; rfl)
  by_cases k3 : C > 16
  · exact of_C (c8Allf h1 h8 hl x cp N C r u 0 d) (by unfold okB; rw [e, decide_eq_false k0, decide_eq_false k1, decide_eq_false k2, decide_eq_true k3]; rfl)
  exact absurd ⟨by omega, by omega, by omega, by omega⟩ h
/-- Settings that may not be. -/
theorem runs_set (hok : okC cs = true) : Runs (ints cs) false x N C (chain n cp) r u := by
  have e : (chkI cs != 0) = false := by rw [chk_true hok]; rfl
  refine refused (p1cf fun h => of_A (a5cf (ints cs) n cp x N C r u) (by rw [us4_ok h]; rfl)) (fun d => ?_)
  by_cases h : 1 ≤ N ∧ N ≤ 8 ∧ 0 ≤ C ∧ C ≤ 16
  · exact of_C (c9Allf h1 h8 hl x cp N C r u 0 d) (by unfold okB; rw [e, decide_eq_false (show ¬ N < 1 by omega), decide_eq_false (show ¬ N > 8 by omega), decide_eq_false (show ¬ C < 0 by omega), decide_eq_false (show ¬ C > 16 by omega)]; rfl)
  · exact numf h1 h8 hl x cp N C r u hok h d
/-- Numbers that may not be. -/
theorem runs_num (hok : okC cs = true) (h : ¬ (1 ≤ N ∧ N ≤ 8 ∧ 0 ≤ C ∧ C ≤ 16)) : Runs (ints cs) true x N C (chain n cp) r u :=
  refused (p1ct fun h' => absurd h' h) (fun d => numt h1 h8 hl x cp N C r u hok h d)
/-- A node that is not there. -/
theorem runs_node (hok : okC cs = true) (h : 1 ≤ N ∧ N ≤ 8 ∧ 0 ≤ C ∧ C ≤ 16) {i : Nat} (hi : i < n) (hg : cs.getD i 0 > N) (hb : ∀ j, j < i → ¬ cs.getD j 0 > N) : Runs (ints cs) true x N C (chain n cp) r u := by
  have e : (chkI cs != 0) = false := by rw [chk_true hok]; rfl
  refine refused (of_A (a10All h1 h8 hl hi x cp N C r u) ?_) (fun d => of_C (c10Allt h1 h8 hl hi x cp N C r u 0 d) ?_)
  · unfold okB
    rw [us4_ok h, e, gt_first 4 41 hb hg]
    simp only [tells_append]
    rfl
  · unfold okB
    rw [e, decide_eq_false (show ¬ N < 1 by omega), decide_eq_false (show ¬ N > 8 by omega), decide_eq_false (show ¬ C < 0 by omega), decide_eq_false (show ¬ C > 16 by omega), gt_first 9 60 hb hg]
    simp only [tells_append]
    rfl
theorem of_M {W : Int} (hok : okC cs = true) (h : 1 ≤ N ∧ N ≤ 8 ∧ 0 ≤ C ∧ C ≤ 16) (hb : ∀ j, j < n → ¬ cs.getD j 0 > N) (d : Nat → Value) : ∃ d1 d3, Eng.Reach Tryz.prog (sB (.win (ints cs)) true x N C (chain n cp) r u W d) (sY (.win (ints cs)) x N C (chain n cp) r u W d1 d3) := by
  have e : (chkI cs != 0) = false := by rw [chk_true hok]; rfl
  have r1 := walkTo_ok (noCount counted) mixed scHooked (keepK _) (madAll h1 h8 hl x cp N C r u W d) (by
    unfold okB
    rw [e, decide_eq_false (show ¬ N < 1 by omega), decide_eq_false (show ¬ N > 8 by omega), decide_eq_false (show ¬ C < 0 by omega), decide_eq_false (show ¬ C > 16 by omega), gt_none 9 60 hb]
    simp only [tells_append]
    exact (List.append_nil _).symm)
  obtain ⟨N', rfl⟩ : ∃ N' : Nat, N = .ofNat N' := ⟨N.toNat, by show N = ((N.toNat : Nat) : Int); omega⟩
  obtain ⟨C', rfl⟩ : ∃ C' : Nat, C = .ofNat C' := ⟨C.toNat, by show C = ((C.toNat : Nat) : Int); omega⟩
  obtain ⟨d', r2⟩ := laysWorld h1 h8 hl hok (.win (ints cs)) x cp r u W _ _ N' C' (by have : ((N' : Nat) : Int) ≤ 8 := h.2.1; omega) (by have : ((C' : Nat) : Int) ≤ 16 := h.2.2.2; omega) _
  exact ⟨_, _, r1.trans r2⟩
/-- A setup that may be. -/
theorem runs_good (hok : okC cs = true) (h : 1 ≤ N ∧ N ≤ 8 ∧ 0 ≤ C ∧ C ≤ 16) (hb : ∀ j, j < n → ¬ cs.getD j 0 > N) : Runs (ints cs) true x N C (chain n cp) r u := by
  have e : (chkI cs != 0) = false := by rw [chk_true hok]; rfl
  obtain ⟨s, hs, r1⟩ : StartM (ints cs) true x N C (chain n cp) r u true := of_A (a11All h1 h8 hl x cp N C r u) (by
    unfold okB
    rw [us4_ok h, e, gt_none 4 41 hb]
    simp only [tells_append]
    rfl)
  have fin : ∀ (W : Int) (d : Nat → Value), Eng.Reach Tryz.prog (sM1 (.win (ints cs)) true x N C (chain n cp) r u true) (sB (.win (ints cs)) true x N C (chain n cp) r u W d) →
      (∀ d1 d3, ∃ d', Eng.Reach Tryz.prog (sY (.win (ints cs)) x N C (chain n cp) r u W d1 d3) (sZ (.win (ints cs)) W W d')) → Runs (ints cs) true x N C (chain n cp) r u := fun W d r2 hy => by
    obtain ⟨d1, d3, r3⟩ := of_M h1 h8 hl x cp N C r u (W := W) hok h hb d
    obtain ⟨d', r4⟩ := hy d1 d3
    obtain ⟨S', hd, r5, hf, hw⟩ := finishes (.win (ints cs)) W d'
    exact ⟨s, S', hd, hs, (((r1.trans r2).trans r3).trans r4).trans r5, hf, hw⟩
  have bB : ∀ {q : List Leg} {us : List Value} {W : Int}, B (.win (ints cs)) true x N C (chain n cp) r u true q us W → us = tells q → ∃ d, Eng.Reach Tryz.prog (sM1 (.win (ints cs)) true x N C (chain n cp) r u true) (sB (.win (ints cs)) true x N C (chain n cp) r u W d) := fun hB hus =>
    ⟨_, walkTo_ok (noCount counted) mixed scHooked (keepK _) hB (by rw [tells_append, hus]; exact (List.append_nil _).symm)⟩
  have yY : ∀ {q : List Leg} {us : List Value} {W V : Int} {d1 d3 : Nat → Value}, Yz (.win (ints cs)) x N C (chain n cp) r u W d1 d3 q us V → us = tells q → ∃ d', Eng.Reach Tryz.prog (sY (.win (ints cs)) x N C (chain n cp) r u W d1 d3) (sZ (.win (ints cs)) W V d') := fun hY hus =>
    ⟨_, walkTo_ok (noCount counted) mixed scHooked (keepK _) hY (by rw [tells_append, hus]; exact (List.append_nil _).symm)⟩
  by_cases hr : r ≥ 0
  rotate_left
  · obtain ⟨d, r2⟩ := bB (b1 (.win (ints cs)) x N C (chain n cp) r u) (by rw [decide_eq_false hr]; rfl)
    exact fin 0 d r2 fun d1 d3 => yY (y1 (.win (ints cs)) x N C (chain n cp) r u 0 d1 d3) (by rw [decide_eq_true (show r < 0 by omega)]; rfl)
  by_cases hu : u ≥ 0
  rotate_left
  · obtain ⟨d, r2⟩ := bB (b2 (.win (ints cs)) x N C (chain n cp) r u) (by rw [decide_eq_true hr, decide_eq_false hu]; rfl)
    exact fin 0 d r2 fun d1 d3 => yY (y2 (.win (ints cs)) x N C (chain n cp) r u 0 d1 d3) (by rw [decide_eq_false (show ¬ r < 0 by omega), decide_eq_true (show u < 0 by omega)]; rfl)
  have hy : ∀ (W : Int) (d1 d3 : Nat → Value), W = frm (patI (x + 100)) N (mn r) (mn u) → ∃ d', Eng.Reach Tryz.prog (sY (.win (ints cs)) x N C (chain n cp) r u W d1 d3) (sZ (.win (ints cs)) W W d') := fun W d1 d3 hW => by
    have := yY (y3 (.win (ints cs)) x N C (chain n cp) r u W d1 d3) (by rw [decide_eq_false (show ¬ r < 0 by omega), decide_eq_false (show ¬ u < 0 by omega)]; rfl)
    rwa [← hW] at this
  by_cases hp : r > 1048576 <;> by_cases hq : u > 1048576
  · obtain ⟨d, r2⟩ := bB (b311 (.win (ints cs)) x N C (chain n cp) r u) (by rw [decide_eq_true hr, decide_eq_true hu, decide_eq_true hp, decide_eq_true hq]; rfl)
    refine fin _ d r2 fun d1 d3 => hy _ d1 d3 ?_
    have m1 : mn r = 1048576 := if_pos hp
    have m2 : mn u = 1048576 := if_pos hq
    rw [m1, m2]
  · obtain ⟨d, r2⟩ := bB (b310 (.win (ints cs)) x N C (chain n cp) r u) (by rw [decide_eq_true hr, decide_eq_true hu, decide_eq_true hp, decide_eq_false hq]; rfl)
    refine fin _ d r2 fun d1 d3 => hy _ d1 d3 ?_
    have m1 : mn r = 1048576 := if_pos hp
    have m2 : mn u = u := if_neg hq
    rw [m1, m2]
  · obtain ⟨d, r2⟩ := bB (b301 (.win (ints cs)) x N C (chain n cp) r u) (by rw [decide_eq_true hr, decide_eq_true hu, decide_eq_false hp, decide_eq_true hq]; rfl)
    refine fin _ d r2 fun d1 d3 => hy _ d1 d3 ?_
    have m1 : mn r = r := if_neg hp
    have m2 : mn u = 1048576 := if_pos hq
    rw [m1, m2]
  · obtain ⟨d, r2⟩ := bB (b300 (.win (ints cs)) x N C (chain n cp) r u) (by rw [decide_eq_true hr, decide_eq_true hu, decide_eq_false hp, decide_eq_false hq]; rfl)
    refine fin _ d r2 fun d1 d3 => hy _ d1 d3 ?_
    have m1 : mn r = r := if_neg hp
    have m2 : mn u = u := if_neg hq
    rw [m1, m2]
/-- Any chain of one to eight numbers. -/
theorem runs_few (good : Bool) : Runs (ints cs) good x N C (chain n cp) r u := by
  cases hok : okC cs with
  | false => exact runs_bad h1 h8 hl x cp N C r u good hok
  | true =>
    cases good with
    | false => exact runs_set h1 h8 hl x cp N C r u hok
    | true =>
      by_cases h : 1 ≤ N ∧ N ≤ 8 ∧ 0 ≤ C ∧ C ≤ 16
      · rcases first_gt (fun j => cs.getD j 0 > N) n with hb | ⟨i, hi, hg, hb⟩
        · exact runs_good h1 h8 hl x cp N C r u hok h hb
        · exact runs_node h1 h8 hl x cp N C r u hok h hi hg hb
      · exact runs_num h1 h8 hl x cp N C r u hok h
end
#print axioms runs_few
#print axioms runs_long
#print axioms runs_nil
#print axioms runs_empty
end
end Go.Proofs.YtjoelgicffojcaaGreatDoor.wb
namespace Go.Proofs.YtjoelgicffojcaaGreatDoor.wb
noncomputable section
open Go.Conc Go.Eng Go.ChangeShapes Go.WideShapes Go.ChangeAt Go.RowKit
set_option maxRecDepth 1000000
set_option linter.unusedVariables false
set_option linter.unusedSimpArgs false
set_option linter.unusedSectionVars false

/-! ### where a slice that came in lies -/
theorem rowAt_le {P : Program} {fits : TypeId → Bool} : ∀ {d : Nat} {e : TypeId} {count off n : Nat}, rowAt P fits d e count off n = true → off ≤ count * P.cellsOf e
  | 0, _, _, _, _, h => by cases h
  | d + 1, e, count, off, n, h => by
    simp only [rowAt] at h
    split at h
    · cases h
    · rename_i hs
      have hp := Nat.pos_of_ne_zero hs
      have hd := Nat.div_add_mod off (P.cellsOf e)
      rw [Bool.or_eq_true] at h
      rcases h with h | h
      · simp only [Bool.and_eq_true, decide_eq_true_eq, beq_iff_eq] at h
        have h1 : off / P.cellsOf e ≤ count := by omega
        have h2 := Nat.mul_le_mul_right (P.cellsOf e) h1
        rw [Nat.mul_comm (off / P.cellsOf e)] at h2
        omega
      · simp only [Bool.and_eq_true, decide_eq_true_eq] at h
        exact Nat.le_of_lt ((Nat.div_lt_iff_lt_mul hp).1 h.1)
theorem liesAt_le {P : Program} : ∀ {d : Nat} {e : TypeId} {count off : Nat} {u : TypeId} {n : Nat}, liesAt P d e count off u n = true → off ≤ count * P.cellsOf e
  | 0, _, _, _, _, _, h => by cases h
  | d + 1, e, count, off, u, n, h => by
    simp only [liesAt] at h
    rw [Bool.or_eq_true] at h
    rcases h with h | h
    · exact rowAt_le h
    · split at h
      · exact liesAt_le h
      · cases h
theorem window {W : World} {B off n : Nat} {c : Array Value} {e : TypeId} {fr : Nat × Nat} (hB : W.heap[B]? = some (.cells c e fr)) (hoff : off ≤ c.size) (V : Nat → Value) (hV : ∀ i, i < n → c[off + i]? = some (V i)) :
    ∃ pre sp, pre.length = off ∧ W.heap[B]? = some (.cells (pre ++ ((List.range n).map V ++ sp)).toArray e fr) := by
  refine ⟨c.toList.take off, (c.toList.drop off).drop n, by simp [hoff], ?_⟩
  have h1 : (c.toList.drop off).take n = (List.range n).map V := by
    apply List.ext_getElem?
    intro i
    rw [List.getElem?_take]
    split
    · rename_i hi
      rw [List.getElem?_drop, List.getElem?_map, List.getElem?_range hi]
      simpa using hV i hi
    · rename_i hi
      rw [List.getElem?_eq_none (by simp; omega)]
  rw [← h1, List.take_append_drop, List.take_append_drop, hB]
theorem slice_in {H : Type} {enc : TypeId × Value → H} {P : Program} {W : World} {tS e : TypeId} {b fuel : Nat} (hS : P.underlying tS = some (.slice e)) (hI : P.underlying e = some (.int .i64)) (hc1 : P.cellsOf e = 1) {v : Value} {y : DataW H × List MemPlace}
    (hok : Cell.okWide P W .any b tS v) (h : DataW.trod enc P W 0 (fun _ => true) true fuel tS [v] = some y) :
    v = .slice none 0 0 ∨ ∃ (B len cap : Nat) (cs : List Int) (pre sp : List Value) (e' : TypeId) (lo hi : Nat), v = .slice (some ⟨B, pre.length, none⟩) len cap ∧ cs.length = len ∧ W.heap[B]? = some (.cells (pre ++ (ints cs ++ sp)).toArray e' (lo, hi)) ∧
      len ≤ cap ∧ ∃ el rest, y.1 = .slice el rest ∧ el.length + rest.length = cap := by
  rcases Go.Deep.open_slice1 hS hc1 h with ⟨h0, _⟩ | ⟨a, len, cap, m, n, V, D, Pl, hv, _, hl, _, hm, hy, hx⟩
  · left
    simpa using h0
  right
  obtain rfl : v = .slice (some a) len cap := by simpa using hv
  have hm' : m = cap := by simpa using hm
  subst hm'
  have hhas : W.has P .any b a e m := by
    unfold Cell.okWide Cell.ok at hok
    simp only [hS] at hok
    exact hok.2.2
  obtain ⟨_, hsp, row, cells, hsh, hlie⟩ := hhas
  obtain ⟨B, off, spot⟩ := a
  obtain rfl : spot = none := hsp
  obtain ⟨c, fr, hB, hcs⟩ : ∃ c fr, W.heap[B]? = some (.cells c row fr) ∧ c.size = cells := by
    unfold World.shape? at hsh
    split at hsh
    · rename_i c el fr hB
      cases hsh
      exact ⟨c, fr, hB, rfl⟩
    · cases hsh
  have hoff : off ≤ c.size := by
    rw [hcs]
    exact Nat.le_trans (liesAt_le hlie) (Nat.div_mul_le_self _ _)
  have hint : ∀ i, i < m → ∃ k, V i = .int .i64 k := fun i hi => by
    obtain ⟨k, hk, _⟩ := DataW.trod_int hI (hx i hi).2
    exact ⟨k, by simpa using hk⟩
  have hcell : ∀ i, i < len → c[off + i]? = some (V i) := fun i hi => by
    have := (hx i (by omega)).1
    unfold World.cell? at this
    by_cases h0 : i = 0
    · subst h0
      simpa [Addr.add, hB] using this
    · simpa [Addr.add, hB, h0] using this
  obtain ⟨pre, sp, hpre, hB'⟩ := window hB hoff V hcell
  subst hpre
  let K : Nat → Int := fun i => match V i with
    | .int _ k => k
    | _ => 0
  have hK : (List.range len).map V = ints ((List.range len).map K) := by
    unfold ints
    rw [List.map_map]
    refine List.map_congr_left fun i hi => ?_
    obtain ⟨k, hk⟩ := hint i (by have := List.mem_range.1 hi; omega)
    simp [K, hk]
  rw [hK] at hB'
  obtain ⟨lo, hi⟩ := fr
  refine ⟨B, len, m, (List.range len).map K, pre, sp, row, lo, hi, rfl, by simp, hB', hl, _, _, by rw [hy], by simp; omega⟩

/-! ### the settings as tokens -/
theorem tokens (d w p c l : Int) : ∃ (good : Bool) (x : Nat) (o : Nat → Value) (_ : Toks o), ∀ ρ : Ren, ρ.o = o → mvL ρ (toks good x) = [.int .i64 d, .int .i64 w, .int .i64 p, .int .i64 c, .int .i64 l] := by
  by_cases h : setAll d w p c l
  · obtain ⟨h1, h2, h3, h4, h5⟩ := h
    refine ⟨true, (p - 1).toNat, fun k => .int .i64 (if 100 ≤ k then patI k else if k = 0 then d else if k = 1 then w else if k = 3 then c else if k = 4 then l else 0),
      ⟨fun _ => rfl, ⟨d, w, c, l, rfl, rfl, rfl, rfl, h1, h2, by omega, h4, h5⟩, ⟨0, 0, 0, 0, 0, rfl, rfl, rfl, rfl, rfl, by unfold setAll; omega⟩, fun x hx => by simp [hx]⟩, fun ρ hρ => ?_⟩
    have hp : patI ((p - 1).toNat + 100) = p := by
      unfold patI
      show ((1 + ((p - 1).toNat + 100 - 100) % 100 : Nat) : Int) = p
      omega
    have hp' : patI (p.toNat - 1 + 100) = p := by rw [← hp]; congr 1; omega
    simp [toks, mvL, mv, hρ, hp']
  · refine ⟨false, 0, fun k => .int .i64 (if 100 ≤ k then patI k else if k = 5 then d else if k = 6 then w else if k = 7 then p else if k = 8 then c else if k = 9 then l else if k = 3 then 64 else 1),
      ⟨fun _ => rfl, ⟨1, 1, 64, 1, rfl, rfl, rfl, rfl, by unfold setAll; omega⟩, ⟨d, w, p, c, l, rfl, rfl, rfl, rfl, rfl, h⟩, fun x hx => by simp [hx]⟩, fun ρ hρ => ?_⟩
    simp [toks, mvL, mv, hρ]

/-! ### a whole call, alone -/
/-- Where nothing is started, the goroutine comes there alone. -/
theorem alone_walk {P : Program} {n0 : Nat} (hn : 0 < n0) {K : KP} {O W : Nat → Prop} {g : Goroutine} {w : World} (h : Will P true (fun w => n0 ≤ w.heap.size) K O W g w) :
    n0 ≤ w.heap.size → ∀ b, ¬ W b → b < w.heap.size → ∃ (N : Nat) (O' W' : Nat → Prop) (g' : Goroutine) (w' : World), runN P N (Conc.solo g w) = .next (Conc.solo g' w') ∧ K O' W' g' w' ∧ w'.heap[b]? = w.heap[b]? := by
  induction h with
  | stop hk => exact fun hz b _ _ => ⟨0, _, _, _, _, rfl, hk _ (Rely.refl _ _) hz, rfl⟩
  | act hs h1 h2 ih =>
    rename_i O W g w
    intro hz b hwb hlb
    obtain ⟨g', w2, es, hgo, hgu⟩ := h1 w (Rely.refl _ _) hz
    obtain ⟨N, O', W', g'', w', hr, hK, hb⟩ := ih w g' w2 es (Rely.refl _ _) hz hgo (Nat.le_trans hz hgu.size) b (fun h => h.elim hwb fun h => by omega) (Nat.lt_of_lt_of_le hlb hgu.size)
    have hst : step P (Conc.solo g w) = .next (Conc.solo g' w2) := by
      have h0 : (#[g] : Array Goroutine)[0]? = some g := rfl
      have := Conc.runT_crowd_go (P := P) (gs := #[g]) (w := w) (sl := none) (i := 0) h0 (show stepG P (0 == 0) g w = _ from hgo)
      show (stepT P (Conc.solo g w)).1 = _
      rw [Conc.stepT_solo hs]
      show (runT P (Conc.crowd #[g] w none) 0).1 = _
      rw [this]
      simp [Conc.solo, Conc.crowd]
    exact ⟨N + 1, O', W', g'', w', by simp only [runN, hst]; exact hr, hK, hb.trans (hgu.keep b hlb hwb)⟩
  | jump Φ hm hj h1 h2 =>
    have := hj { (default : World) with heap := #[] }
    simp at this
    omega
theorem runs_alone {P : Program} {f : FuncId} {args : List Value} {s : SF} {S' : St} {v : Value} {hd : List (Option CB)} {c : List Value} (hc : plainL c = true) (o : Nat → Value) (one : Toks o) (hargs : ∀ u ∈ args, Clo (fun k => k ≤ 32) u) (hv : plain v = true) (hi : P.inits.idxOf? f = none)
    (hk : kenter P f args .normal = some s) (h : @Eng.Reach ⟨false⟩ P ⟨s, [], CH.pane c⟩ S') (hf : S'.final P f = some (v, hd)) (hwm : 33 ≤ S'.N.wm)
    (w : World) {B : Nat} {pre sp : List Value} {e : TypeId} {lo hi' : Nat} (hB : w.heap[B]? = some (.cells (pre ++ (c ++ sp)).toArray e (lo, hi'))) :
    ∃ n fr w', runN P n (lone (Frame.enter P f (args.map (Env.m (Env.pane o one B pre.length))).toArray .normal) [] w) = .next (lone fr [] w') ∧ runN P (n + 1) (lone (Frame.enter P f (args.map (Env.m (Env.pane o one B pre.length))).toArray .normal) [] w) = .ended (.done v) w' ∧
      w.heap.size ≤ w'.heap.size ∧ (∀ b, b < w.heap.size → w'.heap[b]? = w.heap[b]?) ∧ w'.os = w.os ∧ w'.tape = w.tape ∧ w'.output = w.output := by
  letI hkI : Hk := ⟨false⟩
  have hlt : B < w.heap.size := (Array.getElem?_eq_some_iff.1 hB).1
  have hlive : ∀ k, (CH.pane c).live k → k = 32 := fun k ⟨bl, h1, _⟩ => (pane_get c k bl h1).1
  have hr : Rel P (Env.pane o one B pre.length) (CH.pane c) w := rel_pane hc o one hB
  obtain ⟨e1, e2, e3, e4, _⟩ := kenter_ok (E := Env.pane o one B pre.length) hk hargs
  have hs0 : SRel P (Env.pane o one B pre.length) ⟨s, [], CH.pane c⟩ w := ⟨hr, e2, by simp, ⟨.inl e3, trivial⟩⟩
  have own0 : Own (fun b => b < w.heap.size) (fun b => b < w.heap.size ∧ b ≠ B) 33 (Env.pane o one B pre.length) (CH.pane c) w :=
    ⟨fun k hk hl => by
      obtain rfl := hlive k hl
      simpa [Env.pane] using hlt, fun k hk hl h33 => by
      obtain rfl := hlive k hl
      omega, fun _ h => h, Nat.le_refl _⟩
  unfold St.final at hf
  split at hf
  rotate_left
  · cases hf
  rename_i fn ar n t k N
  split at hf
  rotate_left
  · cases hf
  rename_i hff
  split at hf
  rotate_left
  · cases hf
  rename_i fd hfd
  split at hf
  rotate_left
  · cases hf
  rename_i vs hvs
  simp only [Option.some.injEq, Prod.mk.injEq] at hf
  obtain ⟨rfl, _⟩ := hf
  have hg0 : St.gor (Env.pane o one B pre.length) ⟨s, [], CH.pane c⟩ [] = G (Frame.enter P f (args.map (Env.m (Env.pane o one B pre.length))).toArray .normal) [] := by
    unfold St.gor
    rw [e1]
    rfl
  haveI : Ctx true (fun w1 : World => w.heap.size ≤ w1.heap.size) := ⟨fun h => by cases h⟩
  have W0 : Will P true (fun w1 => w.heap.size ≤ w1.heap.size) (fun O' W' g' w' => (∃ fr, g' = G fr []) ∧ AtEnd P (fun u W' => u = kresult vs ∧ w.heap.size ≤ W'.heap.size ∧ (∀ b, b < w.heap.size → b ≠ B → W'.heap[b]? = w.heap[b]?) ∧ W'.os = w.os ∧ W'.tape = w.tape ∧ W'.output = w.output) O' W' g' w')
      (fun b => b < w.heap.size) (fun b => b < w.heap.size ∧ b ≠ B) (G (Frame.enter P f (args.map (Env.m (Env.pane o one B pre.length))).toArray .normal) []) w := by
    rw [← hg0]
    refine h true (fun w1 => w.heap.size ≤ w1.heap.size) 33 (Env.pane o one B pre.length) w _ _ hwm hs0 own0 [] caller_none _ fun O' W' E' w' hs L => ?_
    refine .stop fun w1 hrel _ => ?_
    have hs1 := hs.rely L.own hrel
    have L1 := L.trans (Later.of_rely L.rel L.own hrel)
    have hres : cresults P fd (⟨n, t, []⟩ : FA).abs.tmps N = some (kresult vs) := by
      unfold cresults
      rw [fresult_eq hs1.top.a _ hvs, Option.map_some]
      cases vs with
      | nil => rfl
      | cons v r => cases r <;> rfl
    obtain ⟨hrun, _⟩ := results_ok hs1.rel hs1.top.clo.tmps hres
    rw [m_plain E' hv] at hrun
    obtain ⟨es, hes, hst⟩ := g_done (P := P) (fr := SF.frame E' ⟨fn, ar, .normal, true, ⟨n, t, []⟩, k⟩) (w := w1) rfl rfl rfl hfd (by show P.inits.idxOf? fn = none; rw [hff]; exact hi) hrun
    refine ⟨⟨_, rfl⟩, rfl, kresult vs, es, hst, fun e he => ?_, rfl, L1.ext.hsize, fun b hb hne => ?_, L1.ext.os, L1.ext.tape, L1.ext.output⟩
    · exact hes.ok ((results_evs hs1.rel L1.own hs1.top.clo.tmps hres).mono fun _ h => h.elim) e he
    · refine L1.ext.frame b hb hb fun k hk hl he => hne ?_
      obtain rfl := hlive k hl
      simpa [Env.pane] using he.symm
  obtain ⟨N, O', W', g', w', hrun, ⟨⟨fr, rfl⟩, hend⟩, hb⟩ := alone_walk (Nat.lt_of_le_of_lt (Nat.zero_le _) hlt) W0 (Nat.le_refl _) B (fun h => h.2 rfl) hlt
  obtain ⟨hrn, u, es, hst, _, rfl, p1, p2, p3⟩ := hend
  have hrun' : runN P N (lone (Frame.enter P f (args.map (Env.m (Env.pane o one B pre.length))).toArray .normal) [] w) = .next (lone fr [] w') := hrun
  refine ⟨N, fr, w', hrun', ?_, p1, fun b hlb => ?_, p3⟩
  · rw [runN_add, hrun']
    have h0 : (#[G fr []] : Array Goroutine)[0]? = some (G fr []) := rfl
    have := runT_many_ended (P := P) (gs := #[G fr []]) (w := w') (sl := none) (i := 0) h0 (show stepG P (0 == 0) (G fr []) w' = _ from hst)
    have hs : step P (lone fr [] w') = .ended (.done (kresult vs)) w' := by
      show (stepT P (Conc.solo (G fr []) w')).1 = _
      rw [Conc.stepT_solo hrn]
      show (runT P (Conc.crowd #[G fr []] w' none) 0).1 = _
      rw [this]
    simp only [runN, hs]
  · by_cases hne : b = B
    · rw [hne]; exact hb
    · exact p2 b hlb hne

/-! ### the whole run -/
theorem noInit : Tryz.prog.inits.idxOf? 3 = none := by kernel_rfl
theorem plain_ints : ∀ cs : List Int, plainL (ints cs) = true
  | [] => rfl
  | _ :: r => plain_ints r
theorem one_ints (cs : List Int) : (ints cs).all (·.oneCell') = true := List.all_eq_true.2 fun v hv => by
  obtain ⟨k, _, rfl⟩ := List.mem_map.1 hv
  rfl
def Ends (N C : Int) (sl : Value) (st : List Value) (r u : Int) (W : World) : Prop := ∃ n fr w',
    runN Tryz.prog n (lone (Frame.enter Tryz.prog 3 #[.agg ([.int .i64 N, .int .i64 C, sl] ++ st).toArray, .int .i64 r, .int .i64 u] .normal) [] W) = .next (lone fr [] w') ∧
      runN Tryz.prog (n + 1) (lone (Frame.enter Tryz.prog 3 #[.agg ([.int .i64 N, .int .i64 C, sl] ++ st).toArray, .int .i64 r, .int .i64 u] .normal) [] W) = .ended (.done (.bool true)) w' ∧ Below W.heap.size W w'
theorem toks_clo (good : Bool) (x : Nat) (D : Nat → Prop) : ∀ v ∈ toks good x, Clo D v := by
  intro v hv
  cases good <;> simp [toks] at hv <;> rcases hv with rfl | rfl | rfl | rfl | rfl <;> trivial
theorem mvL_append (ρ : Ren) : ∀ a b : List Value, mvL ρ (a ++ b) = mvL ρ a ++ mvL ρ b
  | [], _ => rfl
  | v :: r, b => by simp [mvL, mvL_append ρ r b]
theorem endsOf {cs : List Int} {good : Bool} {x : Nat} {N C : Int} {sl sl' : Value} {r u : Int} (o : Nat → Value) (one : Toks o) {st : List Value} (hst : ∀ ρ : Ren, ρ.o = o → mvL ρ (toks good x) = st) {W : World} {B : Nat} {pre sp : List Value} {e : TypeId} {lo hi : Nat}
    (h : Runs (ints cs) good x N C sl r u) (hB : W.heap[B]? = some (.cells (pre ++ (ints cs ++ sp)).toArray e (lo, hi))) (hclo : Clo (fun k => k ≤ 32) sl) (hsl : (Env.pane o one B pre.length).m sl = sl') : Ends N C sl' st r u W := by
  obtain ⟨s, S', hd, hk, hr, hf, hw⟩ := h
  have hargs : ∀ v ∈ lawArgs good x N C sl r u, Clo (fun k => k ≤ 32) v := by
    intro v hv
    simp only [lawArgs, List.mem_cons, List.mem_nil_iff, or_false] at hv
    rcases hv with rfl | rfl | rfl
    · refine Clo_agg.2 fun v hv => ?_
      simp only [setup, List.mem_append, List.mem_cons, List.mem_nil_iff, or_false] at hv
      rcases hv with (rfl | rfl | rfl) | hv
      · trivial
      · trivial
      · exact hclo
      · exact toks_clo good x _ v hv
    · trivial
    · trivial
  have he : ((lawArgs good x N C sl r u).map (Env.m (Env.pane o one B pre.length))).toArray = #[.agg ([.int .i64 N, .int .i64 C, sl'] ++ st).toArray, .int .i64 r, .int .i64 u] := by
    have h1 : mvL (Env.pane o one B pre.length).toRen (setup good x N C sl) = [.int .i64 N, .int .i64 C, sl'] ++ st := by
      unfold setup
      rw [mvL_append, hst _ rfl]
      simp only [mvL]
      rw [show mv (Env.pane o one B pre.length).toRen sl = sl' from hsl]
      rfl
    show #[mv (Env.pane o one B pre.length).toRen (setV good x N C sl), _, _] = _
    unfold setV
    show #[Value.agg ⟨mvL (Env.pane o one B pre.length).toRen (setup good x N C sl)⟩, _, _] = _
    rw [h1]
    rfl
  have := runs_alone (plain_ints cs) o one hargs (v := .bool true) rfl noInit hk hr hf hw W hB
  rw [he] at this
  obtain ⟨n, fr, w', h1, h2, h3⟩ := this
  exact ⟨n, fr, w', h1, h2, h3.2.2.1, h3.2.2.2.1, h3.2.2.2.2, h3.1, h3.2.1⟩
theorem ends_some {N C r u d w p c l : Int} {W : World} {B len cap : Nat} {cs : List Int} {pre sp : List Value} {e : TypeId} {lo hi : Nat} (hB : W.heap[B]? = some (.cells (pre ++ (ints cs ++ sp)).toArray e (lo, hi))) (hl : cs.length = len) (hfit : len * 8 ≤ 140737488355328) :
    Ends N C (.slice (some ⟨B, pre.length, none⟩) len cap) [.int .i64 d, .int .i64 w, .int .i64 p, .int .i64 c, .int .i64 l] r u W := by
  obtain ⟨good, x, o, one, hst⟩ := tokens d w p c l
  have hrun : Runs (ints cs) good x N C (chain len cap) r u := by
    by_cases h0 : len = 0
    · subst h0
      exact runs_empty _ _ _ _ _ _ _ _
    · by_cases h8 : len ≤ 8
      · exact runs_few (by omega) h8 hl x cap N C r u good
      · exact runs_long cap (by simpa using hl) (by omega) hfit (one_ints cs) good x N C r u
  refine endsOf o one hst hrun hB ?_ ?_
  · exact Nat.le_refl _
  · simp [Env.m, mv, Env.pane, soff, scap]
theorem ends_nil {N C r u d w p c l : Int} {W : World} {B : Nat} {z : Array Value} {e : TypeId} {fr : Nat × Nat} (hB : W.heap[B]? = some (.cells z e fr)) :
    Ends N C (.slice none 0 0) [.int .i64 d, .int .i64 w, .int .i64 p, .int .i64 c, .int .i64 l] r u W := by
  obtain ⟨good, x, o, one, hst⟩ := tokens d w p c l
  obtain ⟨lo, hi⟩ := fr
  exact endsOf (cs := []) (pre := []) (sp := z.toList) o one hst (runs_nil _ good x N C r u) (by simpa using hB) trivial rfl
theorem firstB : (((begin Tryz.prog (fun _ _ => 0) default).world.heap[0]?).bind Obj.row?).isSome = true := by kernel_rfl
theorem globalsB : decide (0 < Tryz.prog.globals.size) = true := by kernel_rfl
theorem some_block {W : World} (h : W.ShapedOpen Tryz.prog) : ∃ z t fr, W.heap[0]? = some (.cells z t fr) := by
  cases hz : ((begin Tryz.prog (fun _ _ => 0) default).world.heap[0]?).bind Obj.row? with
  | none => have := firstB; rw [hz] at this; cases this
  | some q =>
    obtain ⟨zero, t⟩ := q
    obtain ⟨cs, h1, _⟩ := h.1 0 zero t (of_decide_eq_true globalsB) hz
    exact ⟨cs, t, _, h1⟩
#print axioms ends_some
#print axioms some_block
end
end Go.Proofs.YtjoelgicffojcaaGreatDoor.wb
