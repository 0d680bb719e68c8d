/-
  WorldBounds: node.New as a known call.
-/
import Derived.KernelRfl
import Derived.Test.YtjoelgicffojcaaGreatDoorWbSet
import Derived.Test.YtjoelgicffojcaaGreatDoorWbNa
import Derived.Test.YtjoelgicffojcaaGreatDoorWbNb
import Derived.Test.YtjoelgicffojcaaGreatDoorWbNc
import Derived.Test.YtjoelgicffojcaaGreatDoorWbNd
import Derived.Test.YtjoelgicffojcaaGreatDoorWbW1
import Derived.Test.YtjoelgicffojcaaGreatDoorWbW2
import Derived.Test.YtjoelgicffojcaaGreatDoorWbW3
import Derived.Test.YtjoelgicffojcaaGreatDoorWbW4
import Derived.Test.YtjoelgicffojcaaGreatDoorWbW5
import Derived.Test.YtjoelgicffojcaaGreatDoorWbW6
import Derived.Test.YtjoelgicffojcaaGreatDoorWbW7
import Derived.Test.YtjoelgicffojcaaGreatDoorWbW8
import Derived.Test.YtjoelgicffojcaaGreatDoorWbLa
import Derived.Test.YtjoelgicffojcaaGreatDoorWbLb
import Derived.Test.YtjoelgicffojcaaGreatDoorWbFa
import Derived.Test.YtjoelgicffojcaaGreatDoorWbFb
import Derived.Test.YtjoelgicffojcaaGreatDoorWbG
namespace Go.Proofs.YtjoelgicffojcaaGreatDoor.wb
noncomputable section
open Go.Eng
set_option maxRecDepth 1000000
set_option linter.unusedVariables false
set_option linter.unusedSimpArgs false
set_option linter.unusedSectionVars false
theorem nod1 {kd : CallKind} (hkd : kd = .normal ∨ kd = .deferred) {i n : Nat} (hi : i < 8) (h1 : 1 ≤ n) (h8 : n ≤ 8) {cs : List Int} (hl : cs.length = n) (x : Nat) : Nod1 kd i x n cs := by
  obtain ⟨f, rfl⟩ := list_of n cs hl
  rcases hkd with rfl | rfl
  · match n, h1, h8 with
    | 1, _, _ => match i, hi with
      | 0, _ => apply nod11_0n
      | 1, _ => apply nod11_1n
      | 2, _ => apply nod11_2n
      | 3, _ => apply nod11_3n
      | 4, _ => apply nod11_4n
      | 5, _ => apply nod11_5n
      | 6, _ => apply nod11_6n
      | 7, _ => apply nod11_7n
    | 2, _, _ => match i, hi with
      | 0, _ => apply nod12_0n
      | 1, _ => apply nod12_1n
      | 2, _ => apply nod12_2n
      | 3, _ => apply nod12_3n
      | 4, _ => apply nod12_4n
      | 5, _ => apply nod12_5n
      | 6, _ => apply nod12_6n
      | 7, _ => apply nod12_7n
    | 3, _, _ => match i, hi with
      | 0, _ => apply nod13_0n
      | 1, _ => apply nod13_1n
      | 2, _ => apply nod13_2n
      | 3, _ => apply nod13_3n
      | 4, _ => apply nod13_4n
      | 5, _ => apply nod13_5n
      | 6, _ => apply nod13_6n
      | 7, _ => apply nod13_7n
    | 4, _, _ => match i, hi with
      | 0, _ => apply nod14_0n
      | 1, _ => apply nod14_1n
      | 2, _ => apply nod14_2n
      | 3, _ => apply nod14_3n
      | 4, _ => apply nod14_4n
      | 5, _ => apply nod14_5n
      | 6, _ => apply nod14_6n
      | 7, _ => apply nod14_7n
    | 5, _, _ => match i, hi with
      | 0, _ => apply nod15_0n
      | 1, _ => apply nod15_1n
      | 2, _ => apply nod15_2n
      | 3, _ => apply nod15_3n
      | 4, _ => apply nod15_4n
      | 5, _ => apply nod15_5n
      | 6, _ => apply nod15_6n
      | 7, _ => apply nod15_7n
    | 6, _, _ => match i, hi with
      | 0, _ => apply nod16_0n
      | 1, _ => apply nod16_1n
      | 2, _ => apply nod16_2n
      | 3, _ => apply nod16_3n
      | 4, _ => apply nod16_4n
      | 5, _ => apply nod16_5n
      | 6, _ => apply nod16_6n
      | 7, _ => apply nod16_7n
    | 7, _, _ => match i, hi with
      | 0, _ => apply nod17_0n
      | 1, _ => apply nod17_1n
      | 2, _ => apply nod17_2n
      | 3, _ => apply nod17_3n
      | 4, _ => apply nod17_4n
      | 5, _ => apply nod17_5n
      | 6, _ => apply nod17_6n
      | 7, _ => apply nod17_7n
    | 8, _, _ => match i, hi with
      | 0, _ => apply nod18_0n
      | 1, _ => apply nod18_1n
      | 2, _ => apply nod18_2n
      | 3, _ => apply nod18_3n
      | 4, _ => apply nod18_4n
      | 5, _ => apply nod18_5n
      | 6, _ => apply nod18_6n
      | 7, _ => apply nod18_7n
  · match n, h1, h8 with
    | 1, _, _ => match i, hi with
      | 0, _ => apply nod11_0d
      | 1, _ => apply nod11_1d
      | 2, _ => apply nod11_2d
      | 3, _ => apply nod11_3d
      | 4, _ => apply nod11_4d
      | 5, _ => apply nod11_5d
      | 6, _ => apply nod11_6d
      | 7, _ => apply nod11_7d
    | 2, _, _ => match i, hi with
      | 0, _ => apply nod12_0d
      | 1, _ => apply nod12_1d
      | 2, _ => apply nod12_2d
      | 3, _ => apply nod12_3d
      | 4, _ => apply nod12_4d
      | 5, _ => apply nod12_5d
      | 6, _ => apply nod12_6d
      | 7, _ => apply nod12_7d
    | 3, _, _ => match i, hi with
      | 0, _ => apply nod13_0d
      | 1, _ => apply nod13_1d
      | 2, _ => apply nod13_2d
      | 3, _ => apply nod13_3d
      | 4, _ => apply nod13_4d
      | 5, _ => apply nod13_5d
      | 6, _ => apply nod13_6d
      | 7, _ => apply nod13_7d
    | 4, _, _ => match i, hi with
      | 0, _ => apply nod14_0d
      | 1, _ => apply nod14_1d
      | 2, _ => apply nod14_2d
      | 3, _ => apply nod14_3d
      | 4, _ => apply nod14_4d
      | 5, _ => apply nod14_5d
      | 6, _ => apply nod14_6d
      | 7, _ => apply nod14_7d
    | 5, _, _ => match i, hi with
      | 0, _ => apply nod15_0d
      | 1, _ => apply nod15_1d
      | 2, _ => apply nod15_2d
      | 3, _ => apply nod15_3d
      | 4, _ => apply nod15_4d
      | 5, _ => apply nod15_5d
      | 6, _ => apply nod15_6d
      | 7, _ => apply nod15_7d
    | 6, _, _ => match i, hi with
      | 0, _ => apply nod16_0d
      | 1, _ => apply nod16_1d
      | 2, _ => apply nod16_2d
      | 3, _ => apply nod16_3d
      | 4, _ => apply nod16_4d
      | 5, _ => apply nod16_5d
      | 6, _ => apply nod16_6d
      | 7, _ => apply nod16_7d
    | 7, _, _ => match i, hi with
      | 0, _ => apply nod17_0d
      | 1, _ => apply nod17_1d
      | 2, _ => apply nod17_2d
      | 3, _ => apply nod17_3d
      | 4, _ => apply nod17_4d
      | 5, _ => apply nod17_5d
      | 6, _ => apply nod17_6d
      | 7, _ => apply nod17_7d
    | 8, _, _ => match i, hi with
      | 0, _ => apply nod18_0d
      | 1, _ => apply nod18_1d
      | 2, _ => apply nod18_2d
      | 3, _ => apply nod18_3d
      | 4, _ => apply nod18_4d
      | 5, _ => apply nod18_5d
      | 6, _ => apply nod18_6d
      | 7, _ => apply nod18_7d
theorem nod2 {kd : CallKind} (hkd : kd = .normal ∨ kd = .deferred) {i n : Nat} (hi : i < 8) (h1 : 1 ≤ n) (h8 : n ≤ 8) {cs : List Int} (hl : cs.length = n) (x : Nat) : Nod2 kd i x n cs := by
  obtain ⟨f, rfl⟩ := list_of n cs hl
  rcases hkd with rfl | rfl
  · match n, h1, h8 with
    | 1, _, _ => match i, hi with
      | 0, _ => apply nod21_0n
      | 1, _ => apply nod21_1n
      | 2, _ => apply nod21_2n
      | 3, _ => apply nod21_3n
      | 4, _ => apply nod21_4n
      | 5, _ => apply nod21_5n
      | 6, _ => apply nod21_6n
      | 7, _ => apply nod21_7n
    | 2, _, _ => match i, hi with
      | 0, _ => apply nod22_0n
      | 1, _ => apply nod22_1n
      | 2, _ => apply nod22_2n
      | 3, _ => apply nod22_3n
      | 4, _ => apply nod22_4n
      | 5, _ => apply nod22_5n
      | 6, _ => apply nod22_6n
      | 7, _ => apply nod22_7n
    | 3, _, _ => match i, hi with
      | 0, _ => apply nod23_0n
      | 1, _ => apply nod23_1n
      | 2, _ => apply nod23_2n
      | 3, _ => apply nod23_3n
      | 4, _ => apply nod23_4n
      | 5, _ => apply nod23_5n
      | 6, _ => apply nod23_6n
      | 7, _ => apply nod23_7n
    | 4, _, _ => match i, hi with
      | 0, _ => apply nod24_0n
      | 1, _ => apply nod24_1n
      | 2, _ => apply nod24_2n
      | 3, _ => apply nod24_3n
      | 4, _ => apply nod24_4n
      | 5, _ => apply nod24_5n
      | 6, _ => apply nod24_6n
      | 7, _ => apply nod24_7n
    | 5, _, _ => match i, hi with
      | 0, _ => apply nod25_0n
      | 1, _ => apply nod25_1n
      | 2, _ => apply nod25_2n
      | 3, _ => apply nod25_3n
      | 4, _ => apply nod25_4n
      | 5, _ => apply nod25_5n
      | 6, _ => apply nod25_6n
      | 7, _ => apply nod25_7n
    | 6, _, _ => match i, hi with
      | 0, _ => apply nod26_0n
      | 1, _ => apply nod26_1n
      | 2, _ => apply nod26_2n
      | 3, _ => apply nod26_3n
      | 4, _ => apply nod26_4n
      | 5, _ => apply nod26_5n
      | 6, _ => apply nod26_6n
      | 7, _ => apply nod26_7n
    | 7, _, _ => match i, hi with
      | 0, _ => apply nod27_0n
      | 1, _ => apply nod27_1n
      | 2, _ => apply nod27_2n
      | 3, _ => apply nod27_3n
      | 4, _ => apply nod27_4n
      | 5, _ => apply nod27_5n
      | 6, _ => apply nod27_6n
      | 7, _ => apply nod27_7n
    | 8, _, _ => match i, hi with
      | 0, _ => apply nod28_0n
      | 1, _ => apply nod28_1n
      | 2, _ => apply nod28_2n
      | 3, _ => apply nod28_3n
      | 4, _ => apply nod28_4n
      | 5, _ => apply nod28_5n
      | 6, _ => apply nod28_6n
      | 7, _ => apply nod28_7n
  · match n, h1, h8 with
    | 1, _, _ => match i, hi with
      | 0, _ => apply nod21_0d
      | 1, _ => apply nod21_1d
      | 2, _ => apply nod21_2d
      | 3, _ => apply nod21_3d
      | 4, _ => apply nod21_4d
      | 5, _ => apply nod21_5d
      | 6, _ => apply nod21_6d
      | 7, _ => apply nod21_7d
    | 2, _, _ => match i, hi with
      | 0, _ => apply nod22_0d
      | 1, _ => apply nod22_1d
      | 2, _ => apply nod22_2d
      | 3, _ => apply nod22_3d
      | 4, _ => apply nod22_4d
      | 5, _ => apply nod22_5d
      | 6, _ => apply nod22_6d
      | 7, _ => apply nod22_7d
    | 3, _, _ => match i, hi with
      | 0, _ => apply nod23_0d
      | 1, _ => apply nod23_1d
      | 2, _ => apply nod23_2d
      | 3, _ => apply nod23_3d
      | 4, _ => apply nod23_4d
      | 5, _ => apply nod23_5d
      | 6, _ => apply nod23_6d
      | 7, _ => apply nod23_7d
    | 4, _, _ => match i, hi with
      | 0, _ => apply nod24_0d
      | 1, _ => apply nod24_1d
      | 2, _ => apply nod24_2d
      | 3, _ => apply nod24_3d
      | 4, _ => apply nod24_4d
      | 5, _ => apply nod24_5d
      | 6, _ => apply nod24_6d
      | 7, _ => apply nod24_7d
    | 5, _, _ => match i, hi with
      | 0, _ => apply nod25_0d
      | 1, _ => apply nod25_1d
      | 2, _ => apply nod25_2d
      | 3, _ => apply nod25_3d
      | 4, _ => apply nod25_4d
      | 5, _ => apply nod25_5d
      | 6, _ => apply nod25_6d
      | 7, _ => apply nod25_7d
    | 6, _, _ => match i, hi with
      | 0, _ => apply nod26_0d
      | 1, _ => apply nod26_1d
      | 2, _ => apply nod26_2d
      | 3, _ => apply nod26_3d
      | 4, _ => apply nod26_4d
      | 5, _ => apply nod26_5d
      | 6, _ => apply nod26_6d
      | 7, _ => apply nod26_7d
    | 7, _, _ => match i, hi with
      | 0, _ => apply nod27_0d
      | 1, _ => apply nod27_1d
      | 2, _ => apply nod27_2d
      | 3, _ => apply nod27_3d
      | 4, _ => apply nod27_4d
      | 5, _ => apply nod27_5d
      | 6, _ => apply nod27_6d
      | 7, _ => apply nod27_7d
    | 8, _, _ => match i, hi with
      | 0, _ => apply nod28_0d
      | 1, _ => apply nod28_1d
      | 2, _ => apply nod28_2d
      | 3, _ => apply nod28_3d
      | 4, _ => apply nod28_4d
      | 5, _ => apply nod28_5d
      | 6, _ => apply nod28_6d
      | 7, _ => apply nod28_7d
theorem nod3 {kd : CallKind} (hkd : kd = .normal ∨ kd = .deferred) {i n : Nat} (hi : i < 8) (h1 : 1 ≤ n) (h8 : n ≤ 8) {cs : List Int} (hl : cs.length = n) (x : Nat) : Nod3 kd i x n cs := by
  obtain ⟨f, rfl⟩ := list_of n cs hl
  rcases hkd with rfl | rfl
  · match n, h1, h8 with
    | 1, _, _ => match i, hi with
      | 0, _ => apply nod31_0n
      | 1, _ => apply nod31_1n
      | 2, _ => apply nod31_2n
      | 3, _ => apply nod31_3n
      | 4, _ => apply nod31_4n
      | 5, _ => apply nod31_5n
      | 6, _ => apply nod31_6n
      | 7, _ => apply nod31_7n
    | 2, _, _ => match i, hi with
      | 0, _ => apply nod32_0n
      | 1, _ => apply nod32_1n
      | 2, _ => apply nod32_2n
      | 3, _ => apply nod32_3n
      | 4, _ => apply nod32_4n
      | 5, _ => apply nod32_5n
      | 6, _ => apply nod32_6n
      | 7, _ => apply nod32_7n
    | 3, _, _ => match i, hi with
      | 0, _ => apply nod33_0n
      | 1, _ => apply nod33_1n
      | 2, _ => apply nod33_2n
      | 3, _ => apply nod33_3n
      | 4, _ => apply nod33_4n
      | 5, _ => apply nod33_5n
      | 6, _ => apply nod33_6n
      | 7, _ => apply nod33_7n
    | 4, _, _ => match i, hi with
      | 0, _ => apply nod34_0n
      | 1, _ => apply nod34_1n
      | 2, _ => apply nod34_2n
      | 3, _ => apply nod34_3n
      | 4, _ => apply nod34_4n
      | 5, _ => apply nod34_5n
      | 6, _ => apply nod34_6n
      | 7, _ => apply nod34_7n
    | 5, _, _ => match i, hi with
      | 0, _ => apply nod35_0n
      | 1, _ => apply nod35_1n
      | 2, _ => apply nod35_2n
      | 3, _ => apply nod35_3n
      | 4, _ => apply nod35_4n
      | 5, _ => apply nod35_5n
      | 6, _ => apply nod35_6n
      | 7, _ => apply nod35_7n
    | 6, _, _ => match i, hi with
      | 0, _ => apply nod36_0n
      | 1, _ => apply nod36_1n
      | 2, _ => apply nod36_2n
      | 3, _ => apply nod36_3n
      | 4, _ => apply nod36_4n
      | 5, _ => apply nod36_5n
      | 6, _ => apply nod36_6n
      | 7, _ => apply nod36_7n
    | 7, _, _ => match i, hi with
      | 0, _ => apply nod37_0n
      | 1, _ => apply nod37_1n
      | 2, _ => apply nod37_2n
      | 3, _ => apply nod37_3n
      | 4, _ => apply nod37_4n
      | 5, _ => apply nod37_5n
      | 6, _ => apply nod37_6n
      | 7, _ => apply nod37_7n
    | 8, _, _ => match i, hi with
      | 0, _ => apply nod38_0n
      | 1, _ => apply nod38_1n
      | 2, _ => apply nod38_2n
      | 3, _ => apply nod38_3n
      | 4, _ => apply nod38_4n
      | 5, _ => apply nod38_5n
      | 6, _ => apply nod38_6n
      | 7, _ => apply nod38_7n
  · match n, h1, h8 with
    | 1, _, _ => match i, hi with
      | 0, _ => apply nod31_0d
      | 1, _ => apply nod31_1d
      | 2, _ => apply nod31_2d
      | 3, _ => apply nod31_3d
      | 4, _ => apply nod31_4d
      | 5, _ => apply nod31_5d
      | 6, _ => apply nod31_6d
      | 7, _ => apply nod31_7d
    | 2, _, _ => match i, hi with
      | 0, _ => apply nod32_0d
      | 1, _ => apply nod32_1d
      | 2, _ => apply nod32_2d
      | 3, _ => apply nod32_3d
      | 4, _ => apply nod32_4d
      | 5, _ => apply nod32_5d
      | 6, _ => apply nod32_6d
      | 7, _ => apply nod32_7d
    | 3, _, _ => match i, hi with
      | 0, _ => apply nod33_0d
      | 1, _ => apply nod33_1d
      | 2, _ => apply nod33_2d
      | 3, _ => apply nod33_3d
      | 4, _ => apply nod33_4d
      | 5, _ => apply nod33_5d
      | 6, _ => apply nod33_6d
      | 7, _ => apply nod33_7d
    | 4, _, _ => match i, hi with
      | 0, _ => apply nod34_0d
      | 1, _ => apply nod34_1d
      | 2, _ => apply nod34_2d
      | 3, _ => apply nod34_3d
      | 4, _ => apply nod34_4d
      | 5, _ => apply nod34_5d
      | 6, _ => apply nod34_6d
      | 7, _ => apply nod34_7d
    | 5, _, _ => match i, hi with
      | 0, _ => apply nod35_0d
      | 1, _ => apply nod35_1d
      | 2, _ => apply nod35_2d
      | 3, _ => apply nod35_3d
      | 4, _ => apply nod35_4d
      | 5, _ => apply nod35_5d
      | 6, _ => apply nod35_6d
      | 7, _ => apply nod35_7d
    | 6, _, _ => match i, hi with
      | 0, _ => apply nod36_0d
      | 1, _ => apply nod36_1d
      | 2, _ => apply nod36_2d
      | 3, _ => apply nod36_3d
      | 4, _ => apply nod36_4d
      | 5, _ => apply nod36_5d
      | 6, _ => apply nod36_6d
      | 7, _ => apply nod36_7d
    | 7, _, _ => match i, hi with
      | 0, _ => apply nod37_0d
      | 1, _ => apply nod37_1d
      | 2, _ => apply nod37_2d
      | 3, _ => apply nod37_3d
      | 4, _ => apply nod37_4d
      | 5, _ => apply nod37_5d
      | 6, _ => apply nod37_6d
      | 7, _ => apply nod37_7d
    | 8, _, _ => match i, hi with
      | 0, _ => apply nod38_0d
      | 1, _ => apply nod38_1d
      | 2, _ => apply nod38_2d
      | 3, _ => apply nod38_3d
      | 4, _ => apply nod38_4d
      | 5, _ => apply nod38_5d
      | 6, _ => apply nod38_6d
      | 7, _ => apply nod38_7d
theorem szN_ge (i : Nat) : 125 ≤ szN i := by unfold szN szW; omega
theorem keepN (i : Nat) : keepsAll (szN i) (List.range (szN i)) = true := by
  unfold keepsAll
  exact List.all_eq_true.2 fun x hx => by simpa using hx
theorem chk_true {cs : List Int} (h : okC cs = true) : chkI cs = 0 := by show (bif okC cs then (0 : Int) else 161) = 0; rw [h]; rfl
theorem chk_false {cs : List Int} (h : okC cs = false) : chkI cs = 161 := by show (bif okC cs then (0 : Int) else 161) = 161; rw [h]; rfl
theorem nodeE_bad {cs : List Int} {i : Nat} (h : okC cs = false) : nodeE cs i = 161 := by unfold nodeE; rw [h]; rfl
theorem nodeE_out {cs : List Int} {i : Nat} (h : okC cs = true) (hr : roleI cs i = 0) : nodeE cs i = 200 := by unfold nodeE; rw [h, hr]; rfl
theorem nodeE_in {cs : List Int} {i : Nat} (h : okC cs = true) (hr : roleI cs i ≠ 0) : nodeE cs i = 0 := by
  unfold nodeE
  have : (roleI cs i == 0) = false := beq_eq_false_iff_ne.2 hr
  rw [h, this]; rfl
theorem pickN_eq {l : List Value} {N : CH} {i x n : Nat} {cs : List Int} (h : pickN l N = some (i, (x, (n, cs)))) :
    l = nodeArgs i x n ∧ i < 8 ∧ N.sz = szN i ∧ (nodeKeys i).map N.get = [some (row cs), some storeA, some (storeB i)] ∧ cs.length = n ∧ 1 ≤ n ∧ n ≤ 8 := by
  unfold pickN at h
  split at h
  rotate_left
  · cases h
  rename_i id sp e b n' c a0 a1 a2 a3 a4
  split at h
  rotate_left
  · cases h
  rename_i hc
  simp only [Bool.and_eq_true] at hc
  obtain ⟨i1, i8, x1, x2, x3, x4, x5, x6, x7, x8⟩ := hc
  split at h
  rotate_left
  · cases h
  rename_i hc2
  simp only [Bool.and_eq_true] at hc2
  obtain ⟨y1, y2, y3, y4⟩ := hc2
  split at h
  rotate_left
  · cases h
  rename_i cells t hN
  split at h
  rotate_left
  · cases h
  rename_i cs' hcs
  split at h
  rotate_left
  · cases h
  rename_i hc3
  simp only [Bool.and_eq_true] at hc3
  obtain ⟨z1, z2, z3, z4⟩ := hc3
  simp only [Option.some.injEq, Prod.mk.injEq] at h
  obtain ⟨rfl, rfl, rfl, rfl⟩ := h
  have i1' := Nat.le_of_ble_eq_true i1
  have i8' := Nat.le_of_ble_eq_true i8
  have x6' := Nat.le_of_ble_eq_true x6
  obtain rfl := Nat.eq_of_beq_eq_true x1
  obtain rfl := Nat.eq_of_beq_eq_true x2
  obtain rfl := Nat.eq_of_beq_eq_true x3
  obtain rfl := Nat.eq_of_beq_eq_true x4
  obtain rfl := Nat.eq_of_beq_eq_true x5
  obtain rfl := Nat.eq_of_beq_eq_true x7
  obtain rfl := Nat.eq_of_beq_eq_true x8
  obtain rfl := Nat.eq_of_beq_eq_true y1
  obtain rfl := Nat.eq_of_beq_eq_true z2
  have e1 : id - 1 + 1 = id := by omega
  have e2 : a2 - 100 + 100 = a2 := by omega
  refine ⟨?_, by omega, Nat.eq_of_beq_eq_true y2, ?_, Nat.eq_of_beq_eq_true z1, Nat.le_of_ble_eq_true z3, Nat.le_of_ble_eq_true z4⟩
  · show _ = [Value.int .i64 (.ofNat (id - 1 + 1)), .pointer (some ⟨szN (id - 1) - 1, 0, none⟩), conf 114 n', .agg #[.chan (some 0), .chan (some 1), .chan (some (a2 - 100 + 100)), .chan (some 3), .chan (some 4)]]
    rw [e1, e2]
    rfl
  · show [N.get 114, N.get (szN (id - 1) - 2), N.get (szN (id - 1) - 1)] = _
    rw [hN, beqOC_eq y3, beqOC_eq y4, ints?_eq hcs]
theorem nodeHooked : HookOk Tryz.prog nodeHook := by
  have hb : ∃ fn, Tryz.prog.funcs[16]? = some fn ∧ fn.body.isSome = true := by
    have h : (Tryz.prog.funcs[16]?).any (fun fn => fn.body.isSome) = true := by kernel_rfl
    cases hf : Tryz.prog.funcs[16]? with
    | none => rw [hf] at h; cases h
    | some fn => exact ⟨fn, rfl, by rw [hf] at h; exact h⟩
  intro g ls N v N' h
  unfold nodeHook at h
  split at h
  rotate_left
  · cases h
  rename_i hg
  obtain rfl := Nat.eq_of_beq_eq_true hg
  refine ⟨?_, hb⟩
  split at h
  rotate_left
  · cases h
  rename_i i x n cs hp
  simp only [Option.some.injEq, Prod.mk.injEq] at h
  obtain ⟨rfl, rfl⟩ := h
  obtain ⟨rfl, hi, hsz, hbs, hl, h1, h8⟩ := pickN_eq hp
  refine mem_callF hsz hbs (fun kd hkd => ?_)
  cases hok : okC cs with
  | false =>
    have hc := chk_false hok
    have he : nodeE cs (i + 1) = 161 := nodeE_bad hok
    have hv : nodeV i cs = .tuple #[.pointer none, .int .i64 (chkI cs)] := by
      rw [hc]
      show Value.tuple #[.pointer (bif nodeE cs (i + 1) == 0 then _ else none), .int .i64 (nodeE cs (i + 1))] = _
      rw [he]
      rfl
    rw [hv]
    exact mem_walk (noCount counted) mixed snHooked (keepN i) (nod1 hkd hi h1 h8 hl x) (by rw [hc]; rfl)
  | true =>
    have hc := chk_true hok
    by_cases hr : roleI cs (i + 1) = 0
    · have he : nodeE cs (i + 1) = 200 := nodeE_out hok hr
      have hv : nodeV i cs = .tuple #[.pointer none, vi 200] := by
        show Value.tuple #[.pointer (bif nodeE cs (i + 1) == 0 then _ else none), .int .i64 (nodeE cs (i + 1))] = _
        rw [he]
        rfl
      rw [hv]
      exact mem_walk (noCount counted) mixed snHooked (keepN i) (nod2 hkd hi h1 h8 hl x) (by rw [hc, hr]; rfl)
    · have he : nodeE cs (i + 1) = 0 := nodeE_in hok hr
      have hv : nodeV i cs = .tuple #[vp (szN i + 12) 0, vi 0] := by
        show Value.tuple #[.pointer (bif nodeE cs (i + 1) == 0 then _ else none), .int .i64 (nodeE cs (i + 1))] = _
        rw [he]
        rfl
      rw [hv]
      have h3 := nod3 hkd hi h1 h8 hl x
      unfold Nod3 at h3
      simp only [List.map_cons, List.map_nil, List.cons.injEq, and_true] at h3
      have hrb : (roleI cs (i + 1) == 0) = false := beq_eq_false_iff_ne.2 hr
      by_cases hn : nextI cs (i + 1) > 0
      · exact mem_walk (noCount counted) mixed snHooked (keepN i) h3.1 (by rw [hc, hrb, decide_eq_true hn]; rfl)
      · exact mem_walk (noCount counted) mixed snHooked (keepN i) h3.2 (by rw [hc, hrb, decide_eq_false hn]; rfl)
theorem swHooked : HookOk Tryz.prog swHook := hooks_ok fun h hh => by
  simp only [List.mem_cons, List.mem_nil_iff, or_false] at hh
  rcases hh with rfl | rfl | rfl | rfl
  · exact setHooked
  · exact chkHooked
  · exact roleHooked
  · exact nodeHooked
end
end Go.Proofs.YtjoelgicffojcaaGreatDoor.wb
namespace Go.Proofs.YtjoelgicffojcaaGreatDoor.wb
open Go.Eng
set_option maxRecDepth 1000000
set_option maxHeartbeats 4000000
set_option linter.unusedVariables false
set_option linter.unusedSimpArgs false
set_option linter.unusedSectionVars false
theorem outAll {i n : Nat} (hi : i < 8) (h1 : 1 ≤ n) (h8 : n ≤ 8) {cs : List Int} (hl : cs.length = n) (win : CB) (x cp : Nat) (N C r u W : Int) {ps : List Value} (hp : ps.length = i) (d d5 d3 : Nat → Value) : Out win x N C (chain n cp) r u W n cs i ps d d5 d3 := by
  obtain ⟨f, rfl⟩ := list_of n cs hl
  match n, h1, h8 with
  | 1, _, _ => match i, hi with
    | 0, _ =>
      obtain rfl := List.length_eq_zero_iff.1 hp
      apply out1_0
    | 1, _ => apply out1_1
    | 2, _ => apply out1_2
    | 3, _ => apply out1_3
    | 4, _ => apply out1_4
    | 5, _ => apply out1_5
    | 6, _ => apply out1_6
    | 7, _ => apply out1_7
  | 2, _, _ => match i, hi with
    | 0, _ =>
      obtain rfl := List.length_eq_zero_iff.1 hp
      apply out2_0
    | 1, _ => apply out2_1
    | 2, _ => apply out2_2
    | 3, _ => apply out2_3
    | 4, _ => apply out2_4
    | 5, _ => apply out2_5
    | 6, _ => apply out2_6
    | 7, _ => apply out2_7
  | 3, _, _ => match i, hi with
    | 0, _ =>
      obtain rfl := List.length_eq_zero_iff.1 hp
      apply out3_0
    | 1, _ => apply out3_1
    | 2, _ => apply out3_2
    | 3, _ => apply out3_3
    | 4, _ => apply out3_4
    | 5, _ => apply out3_5
    | 6, _ => apply out3_6
    | 7, _ => apply out3_7
  | 4, _, _ => match i, hi with
    | 0, _ =>
      obtain rfl := List.length_eq_zero_iff.1 hp
      apply out4_0
    | 1, _ => apply out4_1
    | 2, _ => apply out4_2
    | 3, _ => apply out4_3
    | 4, _ => apply out4_4
    | 5, _ => apply out4_5
    | 6, _ => apply out4_6
    | 7, _ => apply out4_7
  | 5, _, _ => match i, hi with
    | 0, _ =>
      obtain rfl := List.length_eq_zero_iff.1 hp
      apply out5_0
    | 1, _ => apply out5_1
    | 2, _ => apply out5_2
    | 3, _ => apply out5_3
    | 4, _ => apply out5_4
    | 5, _ => apply out5_5
    | 6, _ => apply out5_6
    | 7, _ => apply out5_7
  | 6, _, _ => match i, hi with
    | 0, _ =>
      obtain rfl := List.length_eq_zero_iff.1 hp
      apply out6_0
    | 1, _ => apply out6_1
    | 2, _ => apply out6_2
    | 3, _ => apply out6_3
    | 4, _ => apply out6_4
    | 5, _ => apply out6_5
    | 6, _ => apply out6_6
    | 7, _ => apply out6_7
  | 7, _, _ => match i, hi with
    | 0, _ =>
      obtain rfl := List.length_eq_zero_iff.1 hp
      apply out7_0
    | 1, _ => apply out7_1
    | 2, _ => apply out7_2
    | 3, _ => apply out7_3
    | 4, _ => apply out7_4
    | 5, _ => apply out7_5
    | 6, _ => apply out7_6
    | 7, _ => apply out7_7
  | 8, _, _ => match i, hi with
    | 0, _ =>
      obtain rfl := List.length_eq_zero_iff.1 hp
      apply out8_0
    | 1, _ => apply out8_1
    | 2, _ => apply out8_2
    | 3, _ => apply out8_3
    | 4, _ => apply out8_4
    | 5, _ => apply out8_5
    | 6, _ => apply out8_6
    | 7, _ => apply out8_7
theorem inAll {i n : Nat} (hi : i < 8) (h1 : 1 ≤ n) (h8 : n ≤ 8) {cs : List Int} (hl : cs.length = n) (win : CB) (x cp : Nat) (N C r u W : Int) {ps : List Value} (hp : ps.length = i) (d d5 d3 : Nat → Value) : In win x N C (chain n cp) r u W n cs i ps d d5 d3 := by
  obtain ⟨f, rfl⟩ := list_of n cs hl
  match n, h1, h8 with
  | 1, _, _ => match i, hi with
    | 0, _ =>
      obtain rfl := List.length_eq_zero_iff.1 hp
      apply in1_0
    | 1, _ => apply in1_1
    | 2, _ => apply in1_2
    | 3, _ => apply in1_3
    | 4, _ => apply in1_4
    | 5, _ => apply in1_5
    | 6, _ => apply in1_6
    | 7, _ => apply in1_7
  | 2, _, _ => match i, hi with
    | 0, _ =>
      obtain rfl := List.length_eq_zero_iff.1 hp
      apply in2_0
    | 1, _ => apply in2_1
    | 2, _ => apply in2_2
    | 3, _ => apply in2_3
    | 4, _ => apply in2_4
    | 5, _ => apply in2_5
    | 6, _ => apply in2_6
    | 7, _ => apply in2_7
  | 3, _, _ => match i, hi with
    | 0, _ =>
      obtain rfl := List.length_eq_zero_iff.1 hp
      apply in3_0
    | 1, _ => apply in3_1
    | 2, _ => apply in3_2
    | 3, _ => apply in3_3
    | 4, _ => apply in3_4
    | 5, _ => apply in3_5
    | 6, _ => apply in3_6
    | 7, _ => apply in3_7
  | 4, _, _ => match i, hi with
    | 0, _ =>
      obtain rfl := List.length_eq_zero_iff.1 hp
      apply in4_0
    | 1, _ => apply in4_1
    | 2, _ => apply in4_2
    | 3, _ => apply in4_3
    | 4, _ => apply in4_4
    | 5, _ => apply in4_5
    | 6, _ => apply in4_6
    | 7, _ => apply in4_7
  | 5, _, _ => match i, hi with
    | 0, _ =>
      obtain rfl := List.length_eq_zero_iff.1 hp
      apply in5_0
    | 1, _ => apply in5_1
    | 2, _ => apply in5_2
    | 3, _ => apply in5_3
    | 4, _ => apply in5_4
    | 5, _ => apply in5_5
    | 6, _ => apply in5_6
    | 7, _ => apply in5_7
  | 6, _, _ => match i, hi with
    | 0, _ =>
      obtain rfl := List.length_eq_zero_iff.1 hp
      apply in6_0
    | 1, _ => apply in6_1
    | 2, _ => apply in6_2
    | 3, _ => apply in6_3
    | 4, _ => apply in6_4
    | 5, _ => apply in6_5
    | 6, _ => apply in6_6
    | 7, _ => apply in6_7
  | 7, _, _ => match i, hi with
    | 0, _ =>
      obtain rfl := List.length_eq_zero_iff.1 hp
      apply in7_0
    | 1, _ => apply in7_1
    | 2, _ => apply in7_2
    | 3, _ => apply in7_3
    | 4, _ => apply in7_4
    | 5, _ => apply in7_5
    | 6, _ => apply in7_6
    | 7, _ => apply in7_7
  | 8, _, _ => match i, hi with
    | 0, _ =>
      obtain rfl := List.length_eq_zero_iff.1 hp
      apply in8_0
    | 1, _ => apply in8_1
    | 2, _ => apply in8_2
    | 3, _ => apply in8_3
    | 4, _ => apply in8_4
    | 5, _ => apply in8_5
    | 6, _ => apply in8_6
    | 7, _ => apply in8_7
theorem endAll {i n : Nat} (hi : i < 9) (h1 : 1 ≤ n) (h8 : n ≤ 8) {cs : List Int} (hl : cs.length = n) (win : CB) (x cp : Nat) (N C r u W : Int) {ps : List Value} (hp : ps.length = i) (d d5 d3 : Nat → Value) : End win x N C (chain n cp) r u W n cs i ps d d5 d3 := by
  obtain ⟨f, rfl⟩ := list_of n cs hl
  match n, h1, h8 with
  | 1, _, _ => match i, hi with
    | 0, _ =>
      obtain rfl := List.length_eq_zero_iff.1 hp
      apply end1_0
    | 1, _ => apply end1_1
    | 2, _ => apply end1_2
    | 3, _ => apply end1_3
    | 4, _ => apply end1_4
    | 5, _ => apply end1_5
    | 6, _ => apply end1_6
    | 7, _ => apply end1_7
    | 8, _ => apply end1_8
  | 2, _, _ => match i, hi with
    | 0, _ =>
      obtain rfl := List.length_eq_zero_iff.1 hp
      apply end2_0
    | 1, _ => apply end2_1
    | 2, _ => apply end2_2
    | 3, _ => apply end2_3
    | 4, _ => apply end2_4
    | 5, _ => apply end2_5
    | 6, _ => apply end2_6
    | 7, _ => apply end2_7
    | 8, _ => apply end2_8
  | 3, _, _ => match i, hi with
    | 0, _ =>
      obtain rfl := List.length_eq_zero_iff.1 hp
      apply end3_0
    | 1, _ => apply end3_1
    | 2, _ => apply end3_2
    | 3, _ => apply end3_3
    | 4, _ => apply end3_4
    | 5, _ => apply end3_5
    | 6, _ => apply end3_6
    | 7, _ => apply end3_7
    | 8, _ => apply end3_8
  | 4, _, _ => match i, hi with
    | 0, _ =>
      obtain rfl := List.length_eq_zero_iff.1 hp
      apply end4_0
    | 1, _ => apply end4_1
    | 2, _ => apply end4_2
    | 3, _ => apply end4_3
    | 4, _ => apply end4_4
    | 5, _ => apply end4_5
    | 6, _ => apply end4_6
    | 7, _ => apply end4_7
    | 8, _ => apply end4_8
  | 5, _, _ => match i, hi with
    | 0, _ =>
      obtain rfl := List.length_eq_zero_iff.1 hp
      apply end5_0
    | 1, _ => apply end5_1
    | 2, _ => apply end5_2
    | 3, _ => apply end5_3
    | 4, _ => apply end5_4
    | 5, _ => apply end5_5
    | 6, _ => apply end5_6
    | 7, _ => apply end5_7
    | 8, _ => apply end5_8
  | 6, _, _ => match i, hi with
    | 0, _ =>
      obtain rfl := List.length_eq_zero_iff.1 hp
      apply end6_0
    | 1, _ => apply end6_1
    | 2, _ => apply end6_2
    | 3, _ => apply end6_3
    | 4, _ => apply end6_4
    | 5, _ => apply end6_5
    | 6, _ => apply end6_6
    | 7, _ => apply end6_7
    | 8, _ => apply end6_8
  | 7, _, _ => match i, hi with
    | 0, _ =>
      obtain rfl := List.length_eq_zero_iff.1 hp
      apply end7_0
    | 1, _ => apply end7_1
    | 2, _ => apply end7_2
    | 3, _ => apply end7_3
    | 4, _ => apply end7_4
    | 5, _ => apply end7_5
    | 6, _ => apply end7_6
    | 7, _ => apply end7_7
    | 8, _ => apply end7_8
  | 8, _, _ => match i, hi with
    | 0, _ =>
      obtain rfl := List.length_eq_zero_iff.1 hp
      apply end8_0
    | 1, _ => apply end8_1
    | 2, _ => apply end8_2
    | 3, _ => apply end8_3
    | 4, _ => apply end8_4
    | 5, _ => apply end8_5
    | 6, _ => apply end8_6
    | 7, _ => apply end8_7
    | 8, _ => apply end8_8
theorem vals_of : ∀ (n : Nat) (xs : List Value), xs.length = n → ∃ f : Nat → Value, xs = (List.range n).map f := fun n xs h => ⟨fun i => xs.getD i un, by
  apply List.ext_getElem?
  intro i
  rcases Nat.lt_or_ge i n with hi | hi
  · rw [List.getElem?_map, List.getElem?_range hi, List.getElem?_eq_getElem (by omega)]
    simp [List.getD_eq_getElem?_getD, List.getElem?_eq_getElem (show i < xs.length by omega)]
  · rw [List.getElem?_eq_none (by omega), List.getElem?_eq_none (by simpa using hi)]⟩
theorem appAll {i n : Nat} (hi : i < 8) (h1 : 1 ≤ n) (h8 : n ≤ 8) {cs : List Int} (hl : cs.length = n) (win : CB) (x cp : Nat) (N C r u W : Int) {ps : List Value} (hp : ps.length = i) (d d5 d3 : Nat → Value) : App win x N C (chain n cp) r u W n cs i ps d d5 d3 := by
  obtain ⟨f, rfl⟩ := list_of n cs hl
  obtain ⟨g, rfl⟩ := vals_of i ps hp
  match n, h1, h8 with
  | 1, _, _ => match i, hi with
    | 0, _ => apply app1_0
    | 1, _ => apply app1_1
    | 2, _ => apply app1_2
    | 3, _ => apply app1_3
    | 4, _ => apply app1_4
    | 5, _ => apply app1_5
    | 6, _ => apply app1_6
    | 7, _ => apply app1_7
  | 2, _, _ => match i, hi with
    | 0, _ => apply app2_0
    | 1, _ => apply app2_1
    | 2, _ => apply app2_2
    | 3, _ => apply app2_3
    | 4, _ => apply app2_4
    | 5, _ => apply app2_5
    | 6, _ => apply app2_6
    | 7, _ => apply app2_7
  | 3, _, _ => match i, hi with
    | 0, _ => apply app3_0
    | 1, _ => apply app3_1
    | 2, _ => apply app3_2
    | 3, _ => apply app3_3
    | 4, _ => apply app3_4
    | 5, _ => apply app3_5
    | 6, _ => apply app3_6
    | 7, _ => apply app3_7
  | 4, _, _ => match i, hi with
    | 0, _ => apply app4_0
    | 1, _ => apply app4_1
    | 2, _ => apply app4_2
    | 3, _ => apply app4_3
    | 4, _ => apply app4_4
    | 5, _ => apply app4_5
    | 6, _ => apply app4_6
    | 7, _ => apply app4_7
  | 5, _, _ => match i, hi with
    | 0, _ => apply app5_0
    | 1, _ => apply app5_1
    | 2, _ => apply app5_2
    | 3, _ => apply app5_3
    | 4, _ => apply app5_4
    | 5, _ => apply app5_5
    | 6, _ => apply app5_6
    | 7, _ => apply app5_7
  | 6, _, _ => match i, hi with
    | 0, _ => apply app6_0
    | 1, _ => apply app6_1
    | 2, _ => apply app6_2
    | 3, _ => apply app6_3
    | 4, _ => apply app6_4
    | 5, _ => apply app6_5
    | 6, _ => apply app6_6
    | 7, _ => apply app6_7
  | 7, _, _ => match i, hi with
    | 0, _ => apply app7_0
    | 1, _ => apply app7_1
    | 2, _ => apply app7_2
    | 3, _ => apply app7_3
    | 4, _ => apply app7_4
    | 5, _ => apply app7_5
    | 6, _ => apply app7_6
    | 7, _ => apply app7_7
  | 8, _, _ => match i, hi with
    | 0, _ => apply app8_0
    | 1, _ => apply app8_1
    | 2, _ => apply app8_2
    | 3, _ => apply app8_3
    | 4, _ => apply app8_4
    | 5, _ => apply app8_5
    | 6, _ => apply app8_6
    | 7, _ => apply app8_7
end Go.Proofs.YtjoelgicffojcaaGreatDoor.wb
namespace Go.Proofs.YtjoelgicffojcaaGreatDoor.wb
open Go.Eng
set_option maxRecDepth 1000000
set_option maxHeartbeats 4000000
set_option linter.unusedVariables false
set_option linter.unusedSimpArgs false
set_option linter.unusedSectionVars false
theorem vals_of' : ∀ (n : Nat) (xs : List Value), xs.length = n → ∃ f : Nat → Value, xs = (List.range n).map f := fun n xs h => ⟨fun i => xs.getD i un, by
  apply List.ext_getElem?
  intro i
  rcases Nat.lt_or_ge i n with hi | hi
  · rw [List.getElem?_map, List.getElem?_range hi, List.getElem?_eq_getElem (by omega)]
    simp [List.getD_eq_getElem?_getD, List.getElem?_eq_getElem (show i < xs.length by omega)]
  · rw [List.getElem?_eq_none (by omega), List.getElem?_eq_none (by simpa using hi)]⟩
theorem cliAll {j n : Nat} (hj : j < 16) (h1 : 1 ≤ n) (h8 : n ≤ 8) {cs : List Int} (hl : cs.length = n) (win : CB) (x cp : Nat) (N C r u W : Int) (pv : Value) {qs : List Value} (hp : qs.length = j) (d d5 d3 : Nat → Value) : Cli win x N C (chain n cp) r u W n cs pv j qs d d5 d3 (vp (szL j + 5) 0) := by
  obtain ⟨f, rfl⟩ := list_of n cs hl
  obtain ⟨g, rfl⟩ := vals_of' j qs hp
  match n, h1, h8 with
  | 1, _, _ => match j, hj with
    | 0, _ => apply cli1_0
    | 1, _ => apply cli1_1
    | 2, _ => apply cli1_2
    | 3, _ => apply cli1_3
    | 4, _ => apply cli1_4
    | 5, _ => apply cli1_5
    | 6, _ => apply cli1_6
    | 7, _ => apply cli1_7
    | 8, _ => apply cli1_8
    | 9, _ => apply cli1_9
    | 10, _ => apply cli1_10
    | 11, _ => apply cli1_11
    | 12, _ => apply cli1_12
    | 13, _ => apply cli1_13
    | 14, _ => apply cli1_14
    | 15, _ => apply cli1_15
    | k + 16, hk => exact absurd hk (by omega)
  | 2, _, _ => match j, hj with
    | 0, _ => apply cli2_0
    | 1, _ => apply cli2_1
    | 2, _ => apply cli2_2
    | 3, _ => apply cli2_3
    | 4, _ => apply cli2_4
    | 5, _ => apply cli2_5
    | 6, _ => apply cli2_6
    | 7, _ => apply cli2_7
    | 8, _ => apply cli2_8
    | 9, _ => apply cli2_9
    | 10, _ => apply cli2_10
    | 11, _ => apply cli2_11
    | 12, _ => apply cli2_12
    | 13, _ => apply cli2_13
    | 14, _ => apply cli2_14
    | 15, _ => apply cli2_15
    | k + 16, hk => exact absurd hk (by omega)
  | 3, _, _ => match j, hj with
    | 0, _ => apply cli3_0
    | 1, _ => apply cli3_1
    | 2, _ => apply cli3_2
    | 3, _ => apply cli3_3
    | 4, _ => apply cli3_4
    | 5, _ => apply cli3_5
    | 6, _ => apply cli3_6
    | 7, _ => apply cli3_7
    | 8, _ => apply cli3_8
    | 9, _ => apply cli3_9
    | 10, _ => apply cli3_10
    | 11, _ => apply cli3_11
    | 12, _ => apply cli3_12
    | 13, _ => apply cli3_13
    | 14, _ => apply cli3_14
    | 15, _ => apply cli3_15
    | k + 16, hk => exact absurd hk (by omega)
  | 4, _, _ => match j, hj with
    | 0, _ => apply cli4_0
    | 1, _ => apply cli4_1
    | 2, _ => apply cli4_2
    | 3, _ => apply cli4_3
    | 4, _ => apply cli4_4
    | 5, _ => apply cli4_5
    | 6, _ => apply cli4_6
    | 7, _ => apply cli4_7
    | 8, _ => apply cli4_8
    | 9, _ => apply cli4_9
    | 10, _ => apply cli4_10
    | 11, _ => apply cli4_11
    | 12, _ => apply cli4_12
    | 13, _ => apply cli4_13
    | 14, _ => apply cli4_14
    | 15, _ => apply cli4_15
    | k + 16, hk => exact absurd hk (by omega)
  | 5, _, _ => match j, hj with
    | 0, _ => apply cli5_0
    | 1, _ => apply cli5_1
    | 2, _ => apply cli5_2
    | 3, _ => apply cli5_3
    | 4, _ => apply cli5_4
    | 5, _ => apply cli5_5
    | 6, _ => apply cli5_6
    | 7, _ => apply cli5_7
    | 8, _ => apply cli5_8
    | 9, _ => apply cli5_9
    | 10, _ => apply cli5_10
    | 11, _ => apply cli5_11
    | 12, _ => apply cli5_12
    | 13, _ => apply cli5_13
    | 14, _ => apply cli5_14
    | 15, _ => apply cli5_15
    | k + 16, hk => exact absurd hk (by omega)
  | 6, _, _ => match j, hj with
    | 0, _ => apply cli6_0
    | 1, _ => apply cli6_1
    | 2, _ => apply cli6_2
    | 3, _ => apply cli6_3
    | 4, _ => apply cli6_4
    | 5, _ => apply cli6_5
    | 6, _ => apply cli6_6
    | 7, _ => apply cli6_7
    | 8, _ => apply cli6_8
    | 9, _ => apply cli6_9
    | 10, _ => apply cli6_10
    | 11, _ => apply cli6_11
    | 12, _ => apply cli6_12
    | 13, _ => apply cli6_13
    | 14, _ => apply cli6_14
    | 15, _ => apply cli6_15
    | k + 16, hk => exact absurd hk (by omega)
  | 7, _, _ => match j, hj with
    | 0, _ => apply cli7_0
    | 1, _ => apply cli7_1
    | 2, _ => apply cli7_2
    | 3, _ => apply cli7_3
    | 4, _ => apply cli7_4
    | 5, _ => apply cli7_5
    | 6, _ => apply cli7_6
    | 7, _ => apply cli7_7
    | 8, _ => apply cli7_8
    | 9, _ => apply cli7_9
    | 10, _ => apply cli7_10
    | 11, _ => apply cli7_11
    | 12, _ => apply cli7_12
    | 13, _ => apply cli7_13
    | 14, _ => apply cli7_14
    | 15, _ => apply cli7_15
    | k + 16, hk => exact absurd hk (by omega)
  | 8, _, _ => match j, hj with
    | 0, _ => apply cli8_0
    | 1, _ => apply cli8_1
    | 2, _ => apply cli8_2
    | 3, _ => apply cli8_3
    | 4, _ => apply cli8_4
    | 5, _ => apply cli8_5
    | 6, _ => apply cli8_6
    | 7, _ => apply cli8_7
    | 8, _ => apply cli8_8
    | 9, _ => apply cli8_9
    | 10, _ => apply cli8_10
    | 11, _ => apply cli8_11
    | 12, _ => apply cli8_12
    | 13, _ => apply cli8_13
    | 14, _ => apply cli8_14
    | 15, _ => apply cli8_15
    | k + 16, hk => exact absurd hk (by omega)
theorem finAll {j n : Nat} (hj : j < 17) (h1 : 1 ≤ n) (h8 : n ≤ 8) {cs : List Int} (hl : cs.length = n) (win : CB) (x cp : Nat) (N C r u W : Int) (pv : Value) {qs : List Value} (hp : qs.length = j) (d d5 d3 : Nat → Value) : Fin' win x N C (chain n cp) r u W n cs pv j qs d d5 d3 := by
  obtain ⟨f, rfl⟩ := list_of n cs hl
  match n, h1, h8 with
  | 1, _, _ => match j, hj with
    | 0, _ =>
      obtain rfl := List.length_eq_zero_iff.1 hp
      apply fin1_0
    | 1, _ => apply fin1_1
    | 2, _ => apply fin1_2
    | 3, _ => apply fin1_3
    | 4, _ => apply fin1_4
    | 5, _ => apply fin1_5
    | 6, _ => apply fin1_6
    | 7, _ => apply fin1_7
    | 8, _ => apply fin1_8
    | 9, _ => apply fin1_9
    | 10, _ => apply fin1_10
    | 11, _ => apply fin1_11
    | 12, _ => apply fin1_12
    | 13, _ => apply fin1_13
    | 14, _ => apply fin1_14
    | 15, _ => apply fin1_15
    | 16, _ => apply fin1_16
    | k + 17, hk => exact absurd hk (by omega)
  | 2, _, _ => match j, hj with
    | 0, _ =>
      obtain rfl := List.length_eq_zero_iff.1 hp
      apply fin2_0
    | 1, _ => apply fin2_1
    | 2, _ => apply fin2_2
    | 3, _ => apply fin2_3
    | 4, _ => apply fin2_4
    | 5, _ => apply fin2_5
    | 6, _ => apply fin2_6
    | 7, _ => apply fin2_7
    | 8, _ => apply fin2_8
    | 9, _ => apply fin2_9
    | 10, _ => apply fin2_10
    | 11, _ => apply fin2_11
    | 12, _ => apply fin2_12
    | 13, _ => apply fin2_13
    | 14, _ => apply fin2_14
    | 15, _ => apply fin2_15
    | 16, _ => apply fin2_16
    | k + 17, hk => exact absurd hk (by omega)
  | 3, _, _ => match j, hj with
    | 0, _ =>
      obtain rfl := List.length_eq_zero_iff.1 hp
      apply fin3_0
    | 1, _ => apply fin3_1
    | 2, _ => apply fin3_2
    | 3, _ => apply fin3_3
    | 4, _ => apply fin3_4
    | 5, _ => apply fin3_5
    | 6, _ => apply fin3_6
    | 7, _ => apply fin3_7
    | 8, _ => apply fin3_8
    | 9, _ => apply fin3_9
    | 10, _ => apply fin3_10
    | 11, _ => apply fin3_11
    | 12, _ => apply fin3_12
    | 13, _ => apply fin3_13
    | 14, _ => apply fin3_14
    | 15, _ => apply fin3_15
    | 16, _ => apply fin3_16
    | k + 17, hk => exact absurd hk (by omega)
  | 4, _, _ => match j, hj with
    | 0, _ =>
      obtain rfl := List.length_eq_zero_iff.1 hp
      apply fin4_0
    | 1, _ => apply fin4_1
    | 2, _ => apply fin4_2
    | 3, _ => apply fin4_3
    | 4, _ => apply fin4_4
    | 5, _ => apply fin4_5
    | 6, _ => apply fin4_6
    | 7, _ => apply fin4_7
    | 8, _ => apply fin4_8
    | 9, _ => apply fin4_9
    | 10, _ => apply fin4_10
    | 11, _ => apply fin4_11
    | 12, _ => apply fin4_12
    | 13, _ => apply fin4_13
    | 14, _ => apply fin4_14
    | 15, _ => apply fin4_15
    | 16, _ => apply fin4_16
    | k + 17, hk => exact absurd hk (by omega)
  | 5, _, _ => match j, hj with
    | 0, _ =>
      obtain rfl := List.length_eq_zero_iff.1 hp
      apply fin5_0
    | 1, _ => apply fin5_1
    | 2, _ => apply fin5_2
    | 3, _ => apply fin5_3
    | 4, _ => apply fin5_4
    | 5, _ => apply fin5_5
    | 6, _ => apply fin5_6
    | 7, _ => apply fin5_7
    | 8, _ => apply fin5_8
    | 9, _ => apply fin5_9
    | 10, _ => apply fin5_10
    | 11, _ => apply fin5_11
    | 12, _ => apply fin5_12
    | 13, _ => apply fin5_13
    | 14, _ => apply fin5_14
    | 15, _ => apply fin5_15
    | 16, _ => apply fin5_16
    | k + 17, hk => exact absurd hk (by omega)
  | 6, _, _ => match j, hj with
    | 0, _ =>
      obtain rfl := List.length_eq_zero_iff.1 hp
      apply fin6_0
    | 1, _ => apply fin6_1
    | 2, _ => apply fin6_2
    | 3, _ => apply fin6_3
    | 4, _ => apply fin6_4
    | 5, _ => apply fin6_5
    | 6, _ => apply fin6_6
    | 7, _ => apply fin6_7
    | 8, _ => apply fin6_8
    | 9, _ => apply fin6_9
    | 10, _ => apply fin6_10
    | 11, _ => apply fin6_11
    | 12, _ => apply fin6_12
    | 13, _ => apply fin6_13
    | 14, _ => apply fin6_14
    | 15, _ => apply fin6_15
    | 16, _ => apply fin6_16
    | k + 17, hk => exact absurd hk (by omega)
  | 7, _, _ => match j, hj with
    | 0, _ =>
      obtain rfl := List.length_eq_zero_iff.1 hp
      apply fin7_0
    | 1, _ => apply fin7_1
    | 2, _ => apply fin7_2
    | 3, _ => apply fin7_3
    | 4, _ => apply fin7_4
    | 5, _ => apply fin7_5
    | 6, _ => apply fin7_6
    | 7, _ => apply fin7_7
    | 8, _ => apply fin7_8
    | 9, _ => apply fin7_9
    | 10, _ => apply fin7_10
    | 11, _ => apply fin7_11
    | 12, _ => apply fin7_12
    | 13, _ => apply fin7_13
    | 14, _ => apply fin7_14
    | 15, _ => apply fin7_15
    | 16, _ => apply fin7_16
    | k + 17, hk => exact absurd hk (by omega)
  | 8, _, _ => match j, hj with
    | 0, _ =>
      obtain rfl := List.length_eq_zero_iff.1 hp
      apply fin8_0
    | 1, _ => apply fin8_1
    | 2, _ => apply fin8_2
    | 3, _ => apply fin8_3
    | 4, _ => apply fin8_4
    | 5, _ => apply fin8_5
    | 6, _ => apply fin8_6
    | 7, _ => apply fin8_7
    | 8, _ => apply fin8_8
    | 9, _ => apply fin8_9
    | 10, _ => apply fin8_10
    | 11, _ => apply fin8_11
    | 12, _ => apply fin8_12
    | 13, _ => apply fin8_13
    | 14, _ => apply fin8_14
    | 15, _ => apply fin8_15
    | 16, _ => apply fin8_16
    | k + 17, hk => exact absurd hk (by omega)
end Go.Proofs.YtjoelgicffojcaaGreatDoor.wb
namespace Go.Proofs.YtjoelgicffojcaaGreatDoor.wb
open Go.Eng
set_option maxRecDepth 1000000
set_option maxHeartbeats 4000000
set_option linter.unusedVariables false
set_option linter.unusedSimpArgs false
set_option linter.unusedSectionVars false
abbrev gtL (cs : List Int) (N : Int) (k : Nat) : List Value := (List.range k).map fun j => .bool (decide (cs.getD j 0 > N))
abbrev gtQ (f r k : Nat) : List Leg := (List.range k).map fun _ => .tell f r (.bool false)
abbrev ints (cs : List Int) : List Value := cs.map (.int .i64)
abbrev okB (cs : List Int) : Value := .bool (chkI cs != 0)
abbrev In4t : List Leg := In4 true true true true
theorem a9All {n : Nat} (h1 : 1 ≤ n) (h8 : n ≤ 8) {cs : List Int} (hl : cs.length = n) (x cp : Nat) (N C r u : Int) : Go.Proofs.YtjoelgicffojcaaGreatDoor.wb.A (ints cs) true x N C (chain n cp) r u (In4t ++ [.call 7, .call 12, .tell 8 12 (.bool true), .tell 4 30 (.bool true)]) (us4 N C ++ [okB cs, okB cs]) false := by
  obtain ⟨f, rfl⟩ := list_of n cs hl
  match n, h1, h8 with
  | 1, _, _ => apply a9_1
  | 2, _, _ => apply a9_2
  | 3, _, _ => apply a9_3
  | 4, _, _ => apply a9_4
  | 5, _, _ => apply a9_5
  | 6, _, _ => apply a9_6
  | 7, _, _ => apply a9_7
  | 8, _, _ => apply a9_8
theorem a11All {n : Nat} (h1 : 1 ≤ n) (h8 : n ≤ 8) {cs : List Int} (hl : cs.length = n) (x cp : Nat) (N C r u : Int) : Go.Proofs.YtjoelgicffojcaaGreatDoor.wb.A (ints cs) true x N C (chain n cp) r u (In4t ++ ([.call 7, .call 12, .tell 8 12 (.bool false)] ++ gtQ 4 41 n)) (us4 N C ++ [okB cs] ++ gtL cs N n) true := by
  obtain ⟨f, rfl⟩ := list_of n cs hl
  match n, h1, h8 with
  | 1, _, _ => apply a11_1
  | 2, _, _ => apply a11_2
  | 3, _, _ => apply a11_3
  | 4, _, _ => apply a11_4
  | 5, _, _ => apply a11_5
  | 6, _, _ => apply a11_6
  | 7, _, _ => apply a11_7
  | 8, _, _ => apply a11_8
theorem a10All {n i : Nat} (h1 : 1 ≤ n) (h8 : n ≤ 8) {cs : List Int} (hl : cs.length = n) (hi : i < n) (x cp : Nat) (N C r u : Int) : Go.Proofs.YtjoelgicffojcaaGreatDoor.wb.A (ints cs) true x N C (chain n cp) r u (In4t ++ ([.call 7, .call 12, .tell 8 12 (.bool false)] ++ (gtQ 4 41 i ++ [.tell 4 41 (.bool true)]))) (us4 N C ++ [okB cs] ++ gtL cs N (i + 1)) false := by
  obtain ⟨f, rfl⟩ := list_of n cs hl
  match n, h1, h8 with
  | 1, _, _ => match i, hi with
    | 0, _ => apply a10_1_0
  | 2, _, _ => match i, hi with
    | 0, _ => apply a10_2_0
    | 1, _ => apply a10_2_1
  | 3, _, _ => match i, hi with
    | 0, _ => apply a10_3_0
    | 1, _ => apply a10_3_1
    | 2, _ => apply a10_3_2
  | 4, _, _ => match i, hi with
    | 0, _ => apply a10_4_0
    | 1, _ => apply a10_4_1
    | 2, _ => apply a10_4_2
    | 3, _ => apply a10_4_3
  | 5, _, _ => match i, hi with
    | 0, _ => apply a10_5_0
    | 1, _ => apply a10_5_1
    | 2, _ => apply a10_5_2
    | 3, _ => apply a10_5_3
    | 4, _ => apply a10_5_4
  | 6, _, _ => match i, hi with
    | 0, _ => apply a10_6_0
    | 1, _ => apply a10_6_1
    | 2, _ => apply a10_6_2
    | 3, _ => apply a10_6_3
    | 4, _ => apply a10_6_4
    | 5, _ => apply a10_6_5
  | 7, _, _ => match i, hi with
    | 0, _ => apply a10_7_0
    | 1, _ => apply a10_7_1
    | 2, _ => apply a10_7_2
    | 3, _ => apply a10_7_3
    | 4, _ => apply a10_7_4
    | 5, _ => apply a10_7_5
    | 6, _ => apply a10_7_6
  | 8, _, _ => match i, hi with
    | 0, _ => apply a10_8_0
    | 1, _ => apply a10_8_1
    | 2, _ => apply a10_8_2
    | 3, _ => apply a10_8_3
    | 4, _ => apply a10_8_4
    | 5, _ => apply a10_8_5
    | 6, _ => apply a10_8_6
    | 7, _ => apply a10_8_7
theorem c4Allt {n : Nat} (h1 : 1 ≤ n) (h8 : n ≤ 8) {cs : List Int} (hl : cs.length = n) (x cp : Nat) (N C r u W : Int) (d : Nat → Value) : Cz (.win (ints cs)) true x N C (chain n cp) r u W d [.call 12, .tell 8 12 (.bool true), .tell 9 23 (.bool true)] [okB cs, okB cs] := by
  obtain ⟨f, rfl⟩ := list_of n cs hl
  match n, h1, h8 with
  | 1, _, _ => apply c4_1t
  | 2, _, _ => apply c4_2t
  | 3, _, _ => apply c4_3t
  | 4, _, _ => apply c4_4t
  | 5, _, _ => apply c4_5t
  | 6, _, _ => apply c4_6t
  | 7, _, _ => apply c4_7t
  | 8, _, _ => apply c4_8t
theorem c5Allt {n : Nat} (h1 : 1 ≤ n) (h8 : n ≤ 8) {cs : List Int} (hl : cs.length = n) (x cp : Nat) (N C r u W : Int) (d : Nat → Value) : Cz (.win (ints cs)) true x N C (chain n cp) r u W d [.call 12, .tell 8 12 (.bool false), .tell 9 27 (.bool true)] [okB cs, .bool (decide (N < 1))] := by
  obtain ⟨f, rfl⟩ := list_of n cs hl
  match n, h1, h8 with
  | 1, _, _ => apply c5_1t
  | 2, _, _ => apply c5_2t
  | 3, _, _ => apply c5_3t
  | 4, _, _ => apply c5_4t
  | 5, _, _ => apply c5_5t
  | 6, _, _ => apply c5_6t
  | 7, _, _ => apply c5_7t
  | 8, _, _ => apply c5_8t
theorem c6Allt {n : Nat} (h1 : 1 ≤ n) (h8 : n ≤ 8) {cs : List Int} (hl : cs.length = n) (x cp : Nat) (N C r u W : Int) (d : Nat → Value) : Cz (.win (ints cs)) true x N C (chain n cp) r u W d [.call 12, .tell 8 12 (.bool false), .tell 9 27 (.bool false), .tell 9 32 (.bool true)] [okB cs, .bool (decide (N < 1)), .bool (decide (N > 8))] := by
  obtain ⟨f, rfl⟩ := list_of n cs hl
  match n, h1, h8 with
  | 1, _, _ => apply c6_1t
  | 2, _, _ => apply c6_2t
  | 3, _, _ => apply c6_3t
  | 4, _, _ => apply c6_4t
  | 5, _, _ => apply c6_5t
  | 6, _, _ => apply c6_6t
  | 7, _, _ => apply c6_7t
  | 8, _, _ => apply c6_8t
theorem c7Allt {n : Nat} (h1 : 1 ≤ n) (h8 : n ≤ 8) {cs : List Int} (hl : cs.length = n) (x cp : Nat) (N C r u W : Int) (d : Nat → Value) : Cz (.win (ints cs)) true x N C (chain n cp) r u W d [.call 12, .tell 8 12 (.bool false), .tell 9 27 (.bool false), .tell 9 32 (.bool false), .tell 9 37 (.bool true)] [okB cs, .bool (decide (N < 1)), .bool (decide (N > 8)), .bool (decide (C < 0))] := by
  obtain ⟨f, rfl⟩ := list_of n cs hl
  match n, h1, h8 with
  | 1, _, _ => apply c7_1t
  | 2, _, _ => apply c7_2t
  | 3, _, _ => apply c7_3t
  | 4, _, _ => apply c7_4t
  | 5, _, _ => apply c7_5t
  | 6, _, _ => apply c7_6t
  | 7, _, _ => apply c7_7t
  | 8, _, _ => apply c7_8t
theorem c8Allt {n : Nat} (h1 : 1 ≤ n) (h8 : n ≤ 8) {cs : List Int} (hl : cs.length = n) (x cp : Nat) (N C r u W : Int) (d : Nat → Value) : Cz (.win (ints cs)) true x N C (chain n cp) r u W d [.call 12, .tell 8 12 (.bool false), .tell 9 27 (.bool false), .tell 9 32 (.bool false), .tell 9 37 (.bool false), .tell 9 42 (.bool true)] [okB cs, .bool (decide (N < 1)), .bool (decide (N > 8)), .bool (decide (C < 0)), .bool (decide (C > 16))] := by
  obtain ⟨f, rfl⟩ := list_of n cs hl
  match n, h1, h8 with
  | 1, _, _ => apply c8_1t
  | 2, _, _ => apply c8_2t
  | 3, _, _ => apply c8_3t
  | 4, _, _ => apply c8_4t
  | 5, _, _ => apply c8_5t
  | 6, _, _ => apply c8_6t
  | 7, _, _ => apply c8_7t
  | 8, _, _ => apply c8_8t
theorem c4Allf {n : Nat} (h1 : 1 ≤ n) (h8 : n ≤ 8) {cs : List Int} (hl : cs.length = n) (x cp : Nat) (N C r u W : Int) (d : Nat → Value) : Cz (.win (ints cs)) false x N C (chain n cp) r u W d [.call 12, .tell 8 12 (.bool true), .tell 9 23 (.bool true)] [okB cs, okB cs] := by
  obtain ⟨f, rfl⟩ := list_of n cs hl
  match n, h1, h8 with
  | 1, _, _ => apply c4_1f
  | 2, _, _ => apply c4_2f
  | 3, _, _ => apply c4_3f
  | 4, _, _ => apply c4_4f
  | 5, _, _ => apply c4_5f
  | 6, _, _ => apply c4_6f
  | 7, _, _ => apply c4_7f
  | 8, _, _ => apply c4_8f
theorem c5Allf {n : Nat} (h1 : 1 ≤ n) (h8 : n ≤ 8) {cs : List Int} (hl : cs.length = n) (x cp : Nat) (N C r u W : Int) (d : Nat → Value) : Cz (.win (ints cs)) false x N C (chain n cp) r u W d [.call 12, .tell 8 12 (.bool false), .tell 9 27 (.bool true)] [okB cs, .bool (decide (N < 1))] := by
  obtain ⟨f, rfl⟩ := list_of n cs hl
  match n, h1, h8 with
  | 1, _, _ => apply c5_1f
  | 2, _, _ => apply c5_2f
  | 3, _, _ => apply c5_3f
  | 4, _, _ => apply c5_4f
  | 5, _, _ => apply c5_5f
  | 6, _, _ => apply c5_6f
  | 7, _, _ => apply c5_7f
  | 8, _, _ => apply c5_8f
theorem c6Allf {n : Nat} (h1 : 1 ≤ n) (h8 : n ≤ 8) {cs : List Int} (hl : cs.length = n) (x cp : Nat) (N C r u W : Int) (d : Nat → Value) : Cz (.win (ints cs)) false x N C (chain n cp) r u W d [.call 12, .tell 8 12 (.bool false), .tell 9 27 (.bool false), .tell 9 32 (.bool true)] [okB cs, .bool (decide (N < 1)), .bool (decide (N > 8))] := by
  obtain ⟨f, rfl⟩ := list_of n cs hl
  match n, h1, h8 with
  | 1, _, _ => apply c6_1f
  | 2, _, _ => apply c6_2f
  | 3, _, _ => apply c6_3f
  | 4, _, _ => apply c6_4f
  | 5, _, _ => apply c6_5f
  | 6, _, _ => apply c6_6f
  | 7, _, _ => apply c6_7f
  | 8, _, _ => apply c6_8f
theorem c7Allf {n : Nat} (h1 : 1 ≤ n) (h8 : n ≤ 8) {cs : List Int} (hl : cs.length = n) (x cp : Nat) (N C r u W : Int) (d : Nat → Value) : Cz (.win (ints cs)) false x N C (chain n cp) r u W d [.call 12, .tell 8 12 (.bool false), .tell 9 27 (.bool false), .tell 9 32 (.bool false), .tell 9 37 (.bool true)] [okB cs, .bool (decide (N < 1)), .bool (decide (N > 8)), .bool (decide (C < 0))] := by
  obtain ⟨f, rfl⟩ := list_of n cs hl
  match n, h1, h8 with
  | 1, _, _ => apply c7_1f
  | 2, _, _ => apply c7_2f
  | 3, _, _ => apply c7_3f
  | 4, _, _ => apply c7_4f
  | 5, _, _ => apply c7_5f
  | 6, _, _ => apply c7_6f
  | 7, _, _ => apply c7_7f
  | 8, _, _ => apply c7_8f
theorem c8Allf {n : Nat} (h1 : 1 ≤ n) (h8 : n ≤ 8) {cs : List Int} (hl : cs.length = n) (x cp : Nat) (N C r u W : Int) (d : Nat → Value) : Cz (.win (ints cs)) false x N C (chain n cp) r u W d [.call 12, .tell 8 12 (.bool false), .tell 9 27 (.bool false), .tell 9 32 (.bool false), .tell 9 37 (.bool false), .tell 9 42 (.bool true)] [okB cs, .bool (decide (N < 1)), .bool (decide (N > 8)), .bool (decide (C < 0)), .bool (decide (C > 16))] := by
  obtain ⟨f, rfl⟩ := list_of n cs hl
  match n, h1, h8 with
  | 1, _, _ => apply c8_1f
  | 2, _, _ => apply c8_2f
  | 3, _, _ => apply c8_3f
  | 4, _, _ => apply c8_4f
  | 5, _, _ => apply c8_5f
  | 6, _, _ => apply c8_6f
  | 7, _, _ => apply c8_7f
  | 8, _, _ => apply c8_8f
theorem c9Allf {n : Nat} (h1 : 1 ≤ n) (h8 : n ≤ 8) {cs : List Int} (hl : cs.length = n) (x cp : Nat) (N C r u W : Int) (d : Nat → Value) : Cz (.win (ints cs)) false x N C (chain n cp) r u W d [.call 12, .tell 8 12 (.bool false), .tell 9 27 (.bool false), .tell 9 32 (.bool false), .tell 9 37 (.bool false), .tell 9 42 (.bool false), .call 7] [okB cs, .bool (decide (N < 1)), .bool (decide (N > 8)), .bool (decide (C < 0)), .bool (decide (C > 16))] := by
  obtain ⟨f, rfl⟩ := list_of n cs hl
  match n, h1, h8 with
  | 1, _, _ => apply c9_1f
  | 2, _, _ => apply c9_2f
  | 3, _, _ => apply c9_3f
  | 4, _, _ => apply c9_4f
  | 5, _, _ => apply c9_5f
  | 6, _, _ => apply c9_6f
  | 7, _, _ => apply c9_7f
  | 8, _, _ => apply c9_8f
theorem c10Allt {n i : Nat} (h1 : 1 ≤ n) (h8 : n ≤ 8) {cs : List Int} (hl : cs.length = n) (hi : i < n) (x cp : Nat) (N C r u W : Int) (d : Nat → Value) : Cz (.win (ints cs)) true x N C (chain n cp) r u W d ([.call 12, .tell 8 12 (.bool false), .tell 9 27 (.bool false), .tell 9 32 (.bool false), .tell 9 37 (.bool false), .tell 9 42 (.bool false), .call 7] ++ (gtQ 9 60 i ++ [.tell 9 60 (.bool true)])) ([okB cs, .bool (decide (N < 1)), .bool (decide (N > 8)), .bool (decide (C < 0)), .bool (decide (C > 16))] ++ gtL cs N (i + 1)) := by
  obtain ⟨f, rfl⟩ := list_of n cs hl
  match n, h1, h8 with
  | 1, _, _ => match i, hi with
    | 0, _ => apply c10_0_1t
  | 2, _, _ => match i, hi with
    | 0, _ => apply c10_0_2t
    | 1, _ => apply c10_1_2t
  | 3, _, _ => match i, hi with
    | 0, _ => apply c10_0_3t
    | 1, _ => apply c10_1_3t
    | 2, _ => apply c10_2_3t
  | 4, _, _ => match i, hi with
    | 0, _ => apply c10_0_4t
    | 1, _ => apply c10_1_4t
    | 2, _ => apply c10_2_4t
    | 3, _ => apply c10_3_4t
  | 5, _, _ => match i, hi with
    | 0, _ => apply c10_0_5t
    | 1, _ => apply c10_1_5t
    | 2, _ => apply c10_2_5t
    | 3, _ => apply c10_3_5t
    | 4, _ => apply c10_4_5t
  | 6, _, _ => match i, hi with
    | 0, _ => apply c10_0_6t
    | 1, _ => apply c10_1_6t
    | 2, _ => apply c10_2_6t
    | 3, _ => apply c10_3_6t
    | 4, _ => apply c10_4_6t
    | 5, _ => apply c10_5_6t
  | 7, _, _ => match i, hi with
    | 0, _ => apply c10_0_7t
    | 1, _ => apply c10_1_7t
    | 2, _ => apply c10_2_7t
    | 3, _ => apply c10_3_7t
    | 4, _ => apply c10_4_7t
    | 5, _ => apply c10_5_7t
    | 6, _ => apply c10_6_7t
  | 8, _, _ => match i, hi with
    | 0, _ => apply c10_0_8t
    | 1, _ => apply c10_1_8t
    | 2, _ => apply c10_2_8t
    | 3, _ => apply c10_3_8t
    | 4, _ => apply c10_4_8t
    | 5, _ => apply c10_5_8t
    | 6, _ => apply c10_6_8t
    | 7, _ => apply c10_7_8t
theorem madAll {n : Nat} (h1 : 1 ≤ n) (h8 : n ≤ 8) {cs : List Int} (hl : cs.length = n) (x cp : Nat) (N C r u W : Int) (d : Nat → Value) : Mad (.win (ints cs)) x N C (chain n cp) r u W n cs d ([.call 12, .tell 8 12 (.bool false), .tell 9 27 (.bool false), .tell 9 32 (.bool false), .tell 9 37 (.bool false), .tell 9 42 (.bool false), .call 7] ++ gtQ 9 60 n) ([okB cs, .bool (decide (N < 1)), .bool (decide (N > 8)), .bool (decide (C < 0)), .bool (decide (C > 16))] ++ gtL cs N n) := by
  obtain ⟨f, rfl⟩ := list_of n cs hl
  match n, h1, h8 with
  | 1, _, _ => apply mad_1
  | 2, _, _ => apply mad_2
  | 3, _, _ => apply mad_3
  | 4, _, _ => apply mad_4
  | 5, _, _ => apply mad_5
  | 6, _, _ => apply mad_6
  | 7, _, _ => apply mad_7
  | 8, _, _ => apply mad_8
end Go.Proofs.YtjoelgicffojcaaGreatDoor.wb
namespace Go.Proofs.YtjoelgicffojcaaGreatDoor.wb
noncomputable section
open Go.Eng
set_option maxRecDepth 1000000
set_option maxHeartbeats 4000000
set_option linter.unusedVariables false
set_option linter.unusedSimpArgs false
set_option linter.unusedSectionVars false
theorem keepK (l : List Nat) : keepsAll 33 (keysOf l) = true := by
  unfold keepsAll keysOf
  exact List.all_eq_true.2 fun x hx => by
    have := List.mem_range.1 hx
    simp [List.mem_append, this]
theorem gt_none {cs : List Int} {N : Int} (f r : Nat) {k : Nat} (h : ∀ j, j < k → ¬ cs.getD j 0 > N) : gtL cs N k = tells (gtQ f r k) := by
  have : ∀ k, tells (gtQ f r k) = (List.range k).map fun _ => Value.bool false := fun k => by
    show tells ((List.range k).map fun _ => Leg.tell f r (.bool false)) = _
    generalize List.range k = l
    induction l with
    | nil => rfl
    | cons a l ih => rw [List.map_cons, List.map_cons, tells, ih]
  rw [this]
  exact List.map_congr_left fun j hj => by rw [decide_eq_false (h j (List.mem_range.1 hj))]
theorem tells_append : ∀ (a b : List Leg), tells (a ++ b) = tells a ++ tells b
  | [], _ => rfl
  | .call _ :: a, b => tells_append a b
  | .stop _ _ :: a, b => tells_append a b
  | .cast _ _ :: a, b => tells_append a b
  | .tell _ _ v :: a, b => by
    show v :: tells (a ++ b) = v :: (tells a ++ tells b)
    rw [tells_append a b]
theorem gt_first {cs : List Int} {N : Int} (f r : Nat) {k : Nat} (h : ∀ j, j < k → ¬ cs.getD j 0 > N) (hk : cs.getD k 0 > N) : gtL cs N (k + 1) = tells (gtQ f r k ++ [.tell f r (.bool true)]) := by
  rw [tells_append, ← gt_none f r h]
  show (List.range (k + 1)).map _ = _
  rw [List.range_succ, List.map_append, List.map_cons, List.map_nil, decide_eq_true hk]
  rfl
section
variable {n : Nat} (h1 : 1 ≤ n) (h8 : n ≤ 8) {cs : List Int} (hl : cs.length = n) (hok : okC cs = true) (win : CB) (x cp : Nat) (C r u W : Int) (d5 d3 : Nat → Value)
include h1 h8 hl hok
/-- The nodes' loop. -/
theorem nodes (N' : Nat) (hN : N' ≤ 8) (d : Nat → Value) : ∀ i, i ≤ N' → ∃ ps d', ps.length = i ∧ Eng.Reach Tryz.prog (sW win x (.ofNat N') C (chain n cp) r u W n cs 0 [] d d5 d3) (sW win x (.ofNat N') C (chain n cp) r u W n cs i ps d' d5 d3)
  | 0, _ => ⟨[], d, rfl, Eng.Reach.refl _ _⟩
  | i + 1, hi => by
    obtain ⟨ps, d', hp, hr⟩ := nodes N' hN d i (by omega)
    have hle : decide (Int.ofNat (i + 1) ≤ Int.ofNat N') = true := decide_eq_true (by show ((i + 1 : Nat) : Int) ≤ (N' : Int); omega)
    have hX : ∃ d'', Eng.Reach Tryz.prog (sW win x (.ofNat N') C (chain n cp) r u W n cs i ps d' d5 d3) (sX win x (.ofNat N') C (chain n cp) r u W n cs i ps d'' d5 d3) := by
      by_cases hr : roleI cs (i + 1) = 0
      · have hb : (roleI cs (i + 1) == 0) = true := by rw [hr]; rfl
        exact ⟨_, walkTo_ok (noCount counted) mixed srHooked (keepK _) (outAll (by omega) h1 h8 hl win x cp (.ofNat N') C r u W hp d' d5 d3) (by rw [hle, hb]; rfl)⟩
      · have hb : (roleI cs (i + 1) == 0) = false := beq_eq_false_iff_ne.2 hr
        have he : (nodeE cs (i + 1) != 0) = false := by rw [nodeE_in hok hr]; rfl
        exact ⟨_, walkTo_ok (noCount counted) mixed swHooked (keepK _) (inAll (by omega) h1 h8 hl win x cp (.ofNat N') C r u W hp d' d5 d3) (by rw [hle, hb, he]; rfl)⟩
    obtain ⟨d'', hX⟩ := hX
    exact ⟨ps ++ _, _, by rw [List.length_append, hp]; rfl, (hr.trans hX).trans (walkTo_ok (noCount counted) mixed srHooked (keepK _) (appAll (by omega) h1 h8 hl win x cp (.ofNat N') C r u W hp d'' d5 d3) rfl)⟩
/-- The clients' loop. -/
theorem clients (N : Int) (C' : Nat) (hC : C' ≤ 16) (pv : Value) (d : Nat → Value) : ∀ j, j ≤ C' → ∃ qs d', qs.length = j ∧ Eng.Reach Tryz.prog (sL win x N (.ofNat C') (chain n cp) r u W n cs pv 0 [] d d5 d3) (sL win x N (.ofNat C') (chain n cp) r u W n cs pv j qs d' d5 d3)
  | 0, _ => ⟨[], d, rfl, Eng.Reach.refl _ _⟩
  | j + 1, hj => by
    obtain ⟨qs, d', hp, hr⟩ := clients N C' hC pv d j (by omega)
    have hle : decide (Int.ofNat (j + 1) ≤ Int.ofNat C') = true := decide_eq_true (by show ((j + 1 : Nat) : Int) ≤ (C' : Int); omega)
    have he : (chkI cs != 0) = false := by rw [chk_true hok]; rfl
    exact ⟨qs ++ _, _, by rw [List.length_append, hp]; rfl, hr.trans (walkTo_ok (noCount counted) mixed scHooked (keepK _) (cliAll (by omega) h1 h8 hl win x cp N (.ofNat C') r u W pv hp d' d5 d3) (by rw [hle, he]; rfl))⟩
/-- A world is laid. -/
theorem laysWorld (N' C' : Nat) (hN : N' ≤ 8) (hC : C' ≤ 16) (d : Nat → Value) : ∃ d', Eng.Reach Tryz.prog (sW win x (.ofNat N') (.ofNat C') (chain n cp) r u W n cs 0 [] d d5 d3) (sY win x (.ofNat N') (.ofNat C') (chain n cp) r u W d' d3) := by
  obtain ⟨ps, d1, hp, r1⟩ := nodes h1 h8 hl hok win x cp (.ofNat C') r u W d5 d3 N' hN d N' (Nat.le_refl _)
  have hn : decide (Int.ofNat (N' + 1) ≤ Int.ofNat N') = false := decide_eq_false (by show ¬ ((N' + 1 : Nat) : Int) ≤ (N' : Int); omega)
  obtain ⟨pv, d0, r2⟩ : ∃ pv d0, Eng.Reach Tryz.prog (sW win x (.ofNat N') (.ofNat C') (chain n cp) r u W n cs N' ps d1 d5 d3) (sL win x (.ofNat N') (.ofNat C') (chain n cp) r u W n cs pv 0 [] d0 d5 d3) :=
    ⟨_, _, walkTo_ok (noCount counted) mixed srHooked (keepK _) (endAll (by omega) h1 h8 hl win x cp (.ofNat N') (.ofNat C') r u W hp d1 d5 d3) (by rw [hn]; rfl)⟩
  obtain ⟨qs, d2, hq, r3⟩ := clients h1 h8 hl hok win x cp r u W d5 d3 (.ofNat N') C' hC pv d0 C' (Nat.le_refl _)
  have hc : decide (Int.ofNat (C' + 1) ≤ Int.ofNat C') = false := decide_eq_false (by show ¬ ((C' + 1 : Nat) : Int) ≤ (C' : Int); omega)
  have r4 := walkTo_ok (noCount counted) mixed scHooked (keepK _) (finAll (by omega) h1 h8 hl win x cp (.ofNat N') (.ofNat C') r u W pv hq d2 d5 d3) (by rw [hc]; rfl)
  exact ⟨_, ((r1.trans r2).trans r3).trans r4⟩
end
/-- The end: both have the same. -/
theorem finishes (win : CB) (W : Int) (d : Nat → Value) : ∃ S' hd, Eng.Reach Tryz.prog (sZ win W W d) S' ∧ S'.final Tryz.prog 3 = some (.bool true, hd) ∧ 33 ≤ S'.N.wm :=
  walkFin_ok (noCount counted) mixed scHooked (zf win W W d) (by rw [beq_self_eq_true]; rfl)
end
end Go.Proofs.YtjoelgicffojcaaGreatDoor.wb
