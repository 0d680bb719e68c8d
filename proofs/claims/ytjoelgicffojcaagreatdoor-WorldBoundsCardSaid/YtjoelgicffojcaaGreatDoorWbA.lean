/-
  WorldBounds: what its texts have in common.
-/
import Derived.KernelRfl
import Derived.Test.YtjoelgicffojcaaGreatDoorProg
import Derived.Test.YtjoelgicffojcaaGreatDoorEngYe
namespace Go.Proofs.YtjoelgicffojcaaGreatDoor.wb
open Go.Eng
set_option maxRecDepth 1000000
set_option linter.unusedVariables false
set_option linter.unusedSimpArgs false
set_option linter.unusedSectionVars false
instance hooksOff : Hk := ⟨false⟩
def quiet (P : Program) : Bool := P.funcs.toList.all fun fn => !fn.body.isSome || !(fn.name == "runtime.NumGoroutine")
theorem noCount {P : Program} (h : quiet P = true) : Eng.NoCount P := by
  intro f fn hf hb
  have hm : fn ∈ P.funcs.toList := by simpa using Array.mem_of_getElem? hf
  have := List.all_eq_true.1 h fn hm
  simpa [hb] using this
theorem counted : quiet Tryz.prog = true := by kernel_rfl
theorem mixed : Tryz.prog.follows .mixedOrders = true := by kernel_rfl
noncomputable abbrev R0 : Rec := fRec Tryz.prog noHook 1000 60
def zs9 : List Int := [0, 0, 0, 0, 0, 0, 0, 0, 0]
abbrev row (xs : List Int) : CB := .row (xs.map (.int .i64)) 3 true
theorem of_map {α : Type} {f g : Nat → α} {n : Nat} (h : (List.range n).map f = (List.range n).map g) : ∀ i, i < n → f i = g i := by
  intro i hi
  have := congrArg (fun l => l[i]?) h
  simpa [List.getElem?_map, List.getElem?_range hi] using this
theorem keep33 (m : Nat) (h : 33 ≤ m) : keepsAll 33 (List.range m) = true := by
  unfold keepsAll
  exact List.all_eq_true.2 fun x hx => by
    have := List.mem_range.1 hx
    simpa using Nat.lt_of_lt_of_le this h
theorem list_of : ∀ (n : Nat) (xs : List Int), xs.length = n → ∃ f : Nat → Int, xs = (List.range n).map f := fun n xs h => ⟨fun i => xs.getD i 0, by
  apply List.ext_getElem?
  intro i
  rcases Nat.lt_or_ge i n with hi | hi
  · rw [List.getElem?_map, List.getElem?_range hi, List.getElem?_eq_getElem (by omega)]
    simp [List.getD_eq_getElem?_getD, List.getElem?_eq_getElem (show i < xs.length by omega)]
  · rw [List.getElem?_eq_none (by omega), List.getElem?_eq_none (by simpa using hi)]⟩
end Go.Proofs.YtjoelgicffojcaaGreatDoor.wb
namespace Go.Proofs.YtjoelgicffojcaaGreatDoor.wb
open Go.Eng
set_option maxRecDepth 1000000
set_option linter.unusedVariables false
set_option linter.unusedSimpArgs false
set_option linter.unusedSectionVars false
noncomputable def plL (kd : CallKind) (n i : Nat) (xs ys : List Int) (d : Nat → Value) : Snap := ⟨⟨19, none, kd, false, [.slice (some ⟨32, 0, none⟩) n n, un, vp 33 0, .bool false, vp 34 0, d 5, d 6, .slice (some ⟨32, 0, none⟩) n n, vi n, vi i, d 10, d 11, d 12, d 13, d 14, d 15, d 16, d 17, d 18, d 19, d 20, d 21, d 22, d 23, d 24, d 25, un, d 27, d 28, d 29, d 30, d 31, un], [], [(regAt Tryz.prog 19 [1, 1, 0, 1, 0, 0, 0] 0), (.code (codeAt Tryz.prog 19 [1, 1, 0, 1, 0, 0, 1])), (.inLoop (codeAt Tryz.prog 19 [1, 1, 0, 1, 0, 0])), (.inBlock 0), (.code (codeAt Tryz.prog 19 [1, 1, 1]))]⟩, [], 35, List.replicate 32 none ++ [some (row xs), some (.row (zs9.map (.int .i64)) 71 false), some (.row (ys.map (.int .i64)) 71 false)]⟩
def plD (c i : Nat) (y : Int) (k : Nat) : Value := [un, un, un, un, un, vi i, vi c, un, un, un, .bool true, vi i, vp 32 i, vi c, vi c, .bool false, .bool false, vi c, .bool false, .bool false, .bool false, vi c, vp 34 c, .int .i64 y, .bool false, .bool false, un, vi c, vi i, vi (i + 1), vp 34 c, vi (i + 1)].getD k un
def plF : Nat → List Int → List Int → List Int × Bool
  | _, [], ys => (ys, true)
  | i, x :: r, ys => if 1 ≤ x ∧ x ≤ 8 ∧ ¬ (ys.getD x.toNat 0 > 0) then plF (i + 1) r (ys.set x.toNat (.ofNat (i + 1))) else (zs9, false)
def plV (q : List Int × Bool) : Value := .tuple #[.agg #[.int .i64 (q.1.getD 0 0), .int .i64 (q.1.getD 1 0), .int .i64 (q.1.getD 2 0), .int .i64 (q.1.getD 3 0), .int .i64 (q.1.getD 4 0), .int .i64 (q.1.getD 5 0), .int .i64 (q.1.getD 6 0), .int .i64 (q.1.getD 7 0), .int .i64 (q.1.getD 8 0)], .bool q.2]
noncomputable abbrev plS (kd : CallKind) (n i : Nat) (xs ys : List Int) (d : Nat → Value) : St := (plL kd n i xs ys d).stw (List.range 35) 33
abbrev args (n : Nat) : List Value := [.slice (some ⟨32, 0, none⟩) n n]
abbrev PlStart (kd : CallKind) (n : Nat) (xs : List Int) : Prop := (kenter Tryz.prog 19 (args n) kd).bind (fun s => cutTo Tryz.prog R0 [] [20] (List.range 35) 33 35 ⟨s, [], CH.lone (xs.map (.int .i64)) 3 true⟩) = some ([], (true, plL kd n 0 xs zs9 (fun _ => un)))
abbrev PlEnd (kd : CallKind) (n : Nat) (xs ys : List Int) (d : Nat → Value) : Prop := cutEnd Tryz.prog R0 [] [12] 19 kd (plS kd n n xs ys d) = some ([], (some (plV (ys, true)), (true, some (row xs))))
abbrev PlLow (kd : CallKind) (n : Nat) (xs ys : List Int) (d : Nat → Value) : Prop := (List.range n).map (fun i => cutEnd Tryz.prog R0 [([20], 15, .bool true)] [19] 19 kd (plS kd n i xs ys d)) = (List.range n).map (fun i => some ([.bool (decide (xs.getD i 0 < 1))], (some (plV (zs9, false)), (true, some (row xs)))))
abbrev PlHigh (kd : CallKind) (n : Nat) (xs ys : List Int) (d : Nat → Value) : Prop := (List.range n).map (fun i => cutEnd Tryz.prog R0 [([20], 15, .bool false), ([3], 18, .bool true)] [16] 19 kd (plS kd n i xs ys d)) = (List.range n).map (fun i => some ([.bool (decide (xs.getD i 0 < 1)), .bool (decide (xs.getD i 0 > 8))], (some (plV (zs9, false)), (true, some (row xs)))))
/-- The place q of a run: i times eight and the number less one. -/
abbrev PlDup (kd : CallKind) (n : Nat) (xs ys : List Int) (d : Nat → Value) : Prop := (List.range n).map (fun i => (List.range 8).map (fun c => cutEnd Tryz.prog R0 [([29], 24, .bool true)] [10] 19 kd (plS kd n i (xs.set i (.ofNat (c + 1))) ys d))) = (List.range n).map (fun i => (List.range 8).map (fun c => some ([.bool (decide (ys.getD (c + 1) 0 > 0))], (some (plV (zs9, false)), (true, some (row (xs.set i (.ofNat (c + 1)))))))))
abbrev PlIt (kd : CallKind) (n : Nat) (xs ys : List Int) (d : Nat → Value) : Prop := (List.range n).map (fun i => (List.range 8).map (fun c => cutTo Tryz.prog R0 [([29], 24, .bool false)] [19] (List.range 35) 33 35 (plS kd n i (xs.set i (.ofNat (c + 1))) ys d))) = (List.range n).map (fun i => (List.range 8).map (fun c => some ([.bool (decide (ys.getD (c + 1) 0 > 0))], (true, plL kd n (i + 1) (xs.set i (.ofNat (c + 1))) (ys.set (c + 1) (.ofNat (i + 1))) (plD (c + 1) i (ys.getD (c + 1) 0))))))
end Go.Proofs.YtjoelgicffojcaaGreatDoor.wb
namespace Go.Proofs.YtjoelgicffojcaaGreatDoor.wb
open Go.Eng
set_option maxRecDepth 1000000
set_option linter.unusedVariables false
set_option linter.unusedSimpArgs false
set_option linter.unusedSectionVars false
theorem start1 (kd : CallKind) (x0 : Int) : PlStart kd 1 [x0] := by unfold PlStart; kernel_rfl
theorem it1 (kd : CallKind) (x0 a0 a1 a2 a3 a4 a5 a6 a7 a8 : Int) (d : Nat → Value) : PlIt kd 1 [x0] [a0, a1, a2, a3, a4, a5, a6, a7, a8] d := by unfold PlIt; kernel_rfl
theorem end1n (x0 a0 a1 a2 a3 a4 a5 a6 a7 a8 : Int) (d : Nat → Value) : PlEnd .normal 1 [x0] [a0, a1, a2, a3, a4, a5, a6, a7, a8] d := by unfold PlEnd; kernel_rfl
theorem low1n (x0 a0 a1 a2 a3 a4 a5 a6 a7 a8 : Int) (d : Nat → Value) : PlLow .normal 1 [x0] [a0, a1, a2, a3, a4, a5, a6, a7, a8] d := by unfold PlLow; kernel_rfl
theorem high1n (x0 a0 a1 a2 a3 a4 a5 a6 a7 a8 : Int) (d : Nat → Value) : PlHigh .normal 1 [x0] [a0, a1, a2, a3, a4, a5, a6, a7, a8] d := by unfold PlHigh; kernel_rfl
theorem dup1n (x0 a0 a1 a2 a3 a4 a5 a6 a7 a8 : Int) (d : Nat → Value) : PlDup .normal 1 [x0] [a0, a1, a2, a3, a4, a5, a6, a7, a8] d := by unfold PlDup; kernel_rfl
theorem end1d (x0 a0 a1 a2 a3 a4 a5 a6 a7 a8 : Int) (d : Nat → Value) : PlEnd .deferred 1 [x0] [a0, a1, a2, a3, a4, a5, a6, a7, a8] d := by unfold PlEnd; kernel_rfl
theorem low1d (x0 a0 a1 a2 a3 a4 a5 a6 a7 a8 : Int) (d : Nat → Value) : PlLow .deferred 1 [x0] [a0, a1, a2, a3, a4, a5, a6, a7, a8] d := by unfold PlLow; kernel_rfl
theorem high1d (x0 a0 a1 a2 a3 a4 a5 a6 a7 a8 : Int) (d : Nat → Value) : PlHigh .deferred 1 [x0] [a0, a1, a2, a3, a4, a5, a6, a7, a8] d := by unfold PlHigh; kernel_rfl
theorem dup1d (x0 a0 a1 a2 a3 a4 a5 a6 a7 a8 : Int) (d : Nat → Value) : PlDup .deferred 1 [x0] [a0, a1, a2, a3, a4, a5, a6, a7, a8] d := by unfold PlDup; kernel_rfl
end Go.Proofs.YtjoelgicffojcaaGreatDoor.wb
namespace Go.Proofs.YtjoelgicffojcaaGreatDoor.wb
open Go.Eng
set_option maxRecDepth 1000000
set_option linter.unusedVariables false
set_option linter.unusedSimpArgs false
set_option linter.unusedSectionVars false
theorem start2 (kd : CallKind) (x0 x1 : Int) : PlStart kd 2 [x0, x1] := by unfold PlStart; kernel_rfl
theorem it2 (kd : CallKind) (x0 x1 a0 a1 a2 a3 a4 a5 a6 a7 a8 : Int) (d : Nat → Value) : PlIt kd 2 [x0, x1] [a0, a1, a2, a3, a4, a5, a6, a7, a8] d := by unfold PlIt; kernel_rfl
theorem end2n (x0 x1 a0 a1 a2 a3 a4 a5 a6 a7 a8 : Int) (d : Nat → Value) : PlEnd .normal 2 [x0, x1] [a0, a1, a2, a3, a4, a5, a6, a7, a8] d := by unfold PlEnd; kernel_rfl
theorem low2n (x0 x1 a0 a1 a2 a3 a4 a5 a6 a7 a8 : Int) (d : Nat → Value) : PlLow .normal 2 [x0, x1] [a0, a1, a2, a3, a4, a5, a6, a7, a8] d := by unfold PlLow; kernel_rfl
theorem high2n (x0 x1 a0 a1 a2 a3 a4 a5 a6 a7 a8 : Int) (d : Nat → Value) : PlHigh .normal 2 [x0, x1] [a0, a1, a2, a3, a4, a5, a6, a7, a8] d := by unfold PlHigh; kernel_rfl
theorem dup2n (x0 x1 a0 a1 a2 a3 a4 a5 a6 a7 a8 : Int) (d : Nat → Value) : PlDup .normal 2 [x0, x1] [a0, a1, a2, a3, a4, a5, a6, a7, a8] d := by unfold PlDup; kernel_rfl
theorem end2d (x0 x1 a0 a1 a2 a3 a4 a5 a6 a7 a8 : Int) (d : Nat → Value) : PlEnd .deferred 2 [x0, x1] [a0, a1, a2, a3, a4, a5, a6, a7, a8] d := by unfold PlEnd; kernel_rfl
theorem low2d (x0 x1 a0 a1 a2 a3 a4 a5 a6 a7 a8 : Int) (d : Nat → Value) : PlLow .deferred 2 [x0, x1] [a0, a1, a2, a3, a4, a5, a6, a7, a8] d := by unfold PlLow; kernel_rfl
theorem high2d (x0 x1 a0 a1 a2 a3 a4 a5 a6 a7 a8 : Int) (d : Nat → Value) : PlHigh .deferred 2 [x0, x1] [a0, a1, a2, a3, a4, a5, a6, a7, a8] d := by unfold PlHigh; kernel_rfl
theorem dup2d (x0 x1 a0 a1 a2 a3 a4 a5 a6 a7 a8 : Int) (d : Nat → Value) : PlDup .deferred 2 [x0, x1] [a0, a1, a2, a3, a4, a5, a6, a7, a8] d := by unfold PlDup; kernel_rfl
end Go.Proofs.YtjoelgicffojcaaGreatDoor.wb
namespace Go.Proofs.YtjoelgicffojcaaGreatDoor.wb
open Go.Eng
set_option maxRecDepth 1000000
set_option linter.unusedVariables false
set_option linter.unusedSimpArgs false
set_option linter.unusedSectionVars false
theorem start3 (kd : CallKind) (x0 x1 x2 : Int) : PlStart kd 3 [x0, x1, x2] := by unfold PlStart; kernel_rfl
theorem it3 (kd : CallKind) (x0 x1 x2 a0 a1 a2 a3 a4 a5 a6 a7 a8 : Int) (d : Nat → Value) : PlIt kd 3 [x0, x1, x2] [a0, a1, a2, a3, a4, a5, a6, a7, a8] d := by unfold PlIt; kernel_rfl
theorem end3n (x0 x1 x2 a0 a1 a2 a3 a4 a5 a6 a7 a8 : Int) (d : Nat → Value) : PlEnd .normal 3 [x0, x1, x2] [a0, a1, a2, a3, a4, a5, a6, a7, a8] d := by unfold PlEnd; kernel_rfl
theorem low3n (x0 x1 x2 a0 a1 a2 a3 a4 a5 a6 a7 a8 : Int) (d : Nat → Value) : PlLow .normal 3 [x0, x1, x2] [a0, a1, a2, a3, a4, a5, a6, a7, a8] d := by unfold PlLow; kernel_rfl
theorem high3n (x0 x1 x2 a0 a1 a2 a3 a4 a5 a6 a7 a8 : Int) (d : Nat → Value) : PlHigh .normal 3 [x0, x1, x2] [a0, a1, a2, a3, a4, a5, a6, a7, a8] d := by unfold PlHigh; kernel_rfl
theorem dup3n (x0 x1 x2 a0 a1 a2 a3 a4 a5 a6 a7 a8 : Int) (d : Nat → Value) : PlDup .normal 3 [x0, x1, x2] [a0, a1, a2, a3, a4, a5, a6, a7, a8] d := by unfold PlDup; kernel_rfl
theorem end3d (x0 x1 x2 a0 a1 a2 a3 a4 a5 a6 a7 a8 : Int) (d : Nat → Value) : PlEnd .deferred 3 [x0, x1, x2] [a0, a1, a2, a3, a4, a5, a6, a7, a8] d := by unfold PlEnd; kernel_rfl
theorem low3d (x0 x1 x2 a0 a1 a2 a3 a4 a5 a6 a7 a8 : Int) (d : Nat → Value) : PlLow .deferred 3 [x0, x1, x2] [a0, a1, a2, a3, a4, a5, a6, a7, a8] d := by unfold PlLow; kernel_rfl
theorem high3d (x0 x1 x2 a0 a1 a2 a3 a4 a5 a6 a7 a8 : Int) (d : Nat → Value) : PlHigh .deferred 3 [x0, x1, x2] [a0, a1, a2, a3, a4, a5, a6, a7, a8] d := by unfold PlHigh; kernel_rfl
theorem dup3d (x0 x1 x2 a0 a1 a2 a3 a4 a5 a6 a7 a8 : Int) (d : Nat → Value) : PlDup .deferred 3 [x0, x1, x2] [a0, a1, a2, a3, a4, a5, a6, a7, a8] d := by unfold PlDup; kernel_rfl
end Go.Proofs.YtjoelgicffojcaaGreatDoor.wb
namespace Go.Proofs.YtjoelgicffojcaaGreatDoor.wb
open Go.Eng
set_option maxRecDepth 1000000
set_option linter.unusedVariables false
set_option linter.unusedSimpArgs false
set_option linter.unusedSectionVars false
theorem start4 (kd : CallKind) (x0 x1 x2 x3 : Int) : PlStart kd 4 [x0, x1, x2, x3] := by unfold PlStart; kernel_rfl
theorem it4 (kd : CallKind) (x0 x1 x2 x3 a0 a1 a2 a3 a4 a5 a6 a7 a8 : Int) (d : Nat → Value) : PlIt kd 4 [x0, x1, x2, x3] [a0, a1, a2, a3, a4, a5, a6, a7, a8] d := by unfold PlIt; kernel_rfl
theorem end4n (x0 x1 x2 x3 a0 a1 a2 a3 a4 a5 a6 a7 a8 : Int) (d : Nat → Value) : PlEnd .normal 4 [x0, x1, x2, x3] [a0, a1, a2, a3, a4, a5, a6, a7, a8] d := by unfold PlEnd; kernel_rfl
theorem low4n (x0 x1 x2 x3 a0 a1 a2 a3 a4 a5 a6 a7 a8 : Int) (d : Nat → Value) : PlLow .normal 4 [x0, x1, x2, x3] [a0, a1, a2, a3, a4, a5, a6, a7, a8] d := by unfold PlLow; kernel_rfl
theorem high4n (x0 x1 x2 x3 a0 a1 a2 a3 a4 a5 a6 a7 a8 : Int) (d : Nat → Value) : PlHigh .normal 4 [x0, x1, x2, x3] [a0, a1, a2, a3, a4, a5, a6, a7, a8] d := by unfold PlHigh; kernel_rfl
theorem dup4n (x0 x1 x2 x3 a0 a1 a2 a3 a4 a5 a6 a7 a8 : Int) (d : Nat → Value) : PlDup .normal 4 [x0, x1, x2, x3] [a0, a1, a2, a3, a4, a5, a6, a7, a8] d := by unfold PlDup; kernel_rfl
theorem end4d (x0 x1 x2 x3 a0 a1 a2 a3 a4 a5 a6 a7 a8 : Int) (d : Nat → Value) : PlEnd .deferred 4 [x0, x1, x2, x3] [a0, a1, a2, a3, a4, a5, a6, a7, a8] d := by unfold PlEnd; kernel_rfl
theorem low4d (x0 x1 x2 x3 a0 a1 a2 a3 a4 a5 a6 a7 a8 : Int) (d : Nat → Value) : PlLow .deferred 4 [x0, x1, x2, x3] [a0, a1, a2, a3, a4, a5, a6, a7, a8] d := by unfold PlLow; kernel_rfl
theorem high4d (x0 x1 x2 x3 a0 a1 a2 a3 a4 a5 a6 a7 a8 : Int) (d : Nat → Value) : PlHigh .deferred 4 [x0, x1, x2, x3] [a0, a1, a2, a3, a4, a5, a6, a7, a8] d := by unfold PlHigh; kernel_rfl
theorem dup4d (x0 x1 x2 x3 a0 a1 a2 a3 a4 a5 a6 a7 a8 : Int) (d : Nat → Value) : PlDup .deferred 4 [x0, x1, x2, x3] [a0, a1, a2, a3, a4, a5, a6, a7, a8] d := by unfold PlDup; kernel_rfl
end Go.Proofs.YtjoelgicffojcaaGreatDoor.wb
namespace Go.Proofs.YtjoelgicffojcaaGreatDoor.wb
open Go.Eng
set_option maxRecDepth 1000000
set_option linter.unusedVariables false
set_option linter.unusedSimpArgs false
set_option linter.unusedSectionVars false
theorem start5 (kd : CallKind) (x0 x1 x2 x3 x4 : Int) : PlStart kd 5 [x0, x1, x2, x3, x4] := by unfold PlStart; kernel_rfl
theorem it5 (kd : CallKind) (x0 x1 x2 x3 x4 a0 a1 a2 a3 a4 a5 a6 a7 a8 : Int) (d : Nat → Value) : PlIt kd 5 [x0, x1, x2, x3, x4] [a0, a1, a2, a3, a4, a5, a6, a7, a8] d := by unfold PlIt; kernel_rfl
theorem end5n (x0 x1 x2 x3 x4 a0 a1 a2 a3 a4 a5 a6 a7 a8 : Int) (d : Nat → Value) : PlEnd .normal 5 [x0, x1, x2, x3, x4] [a0, a1, a2, a3, a4, a5, a6, a7, a8] d := by unfold PlEnd; kernel_rfl
theorem low5n (x0 x1 x2 x3 x4 a0 a1 a2 a3 a4 a5 a6 a7 a8 : Int) (d : Nat → Value) : PlLow .normal 5 [x0, x1, x2, x3, x4] [a0, a1, a2, a3, a4, a5, a6, a7, a8] d := by unfold PlLow; kernel_rfl
theorem high5n (x0 x1 x2 x3 x4 a0 a1 a2 a3 a4 a5 a6 a7 a8 : Int) (d : Nat → Value) : PlHigh .normal 5 [x0, x1, x2, x3, x4] [a0, a1, a2, a3, a4, a5, a6, a7, a8] d := by unfold PlHigh; kernel_rfl
theorem dup5n (x0 x1 x2 x3 x4 a0 a1 a2 a3 a4 a5 a6 a7 a8 : Int) (d : Nat → Value) : PlDup .normal 5 [x0, x1, x2, x3, x4] [a0, a1, a2, a3, a4, a5, a6, a7, a8] d := by unfold PlDup; kernel_rfl
theorem end5d (x0 x1 x2 x3 x4 a0 a1 a2 a3 a4 a5 a6 a7 a8 : Int) (d : Nat → Value) : PlEnd .deferred 5 [x0, x1, x2, x3, x4] [a0, a1, a2, a3, a4, a5, a6, a7, a8] d := by unfold PlEnd; kernel_rfl
theorem low5d (x0 x1 x2 x3 x4 a0 a1 a2 a3 a4 a5 a6 a7 a8 : Int) (d : Nat → Value) : PlLow .deferred 5 [x0, x1, x2, x3, x4] [a0, a1, a2, a3, a4, a5, a6, a7, a8] d := by unfold PlLow; kernel_rfl
theorem high5d (x0 x1 x2 x3 x4 a0 a1 a2 a3 a4 a5 a6 a7 a8 : Int) (d : Nat → Value) : PlHigh .deferred 5 [x0, x1, x2, x3, x4] [a0, a1, a2, a3, a4, a5, a6, a7, a8] d := by unfold PlHigh; kernel_rfl
theorem dup5d (x0 x1 x2 x3 x4 a0 a1 a2 a3 a4 a5 a6 a7 a8 : Int) (d : Nat → Value) : PlDup .deferred 5 [x0, x1, x2, x3, x4] [a0, a1, a2, a3, a4, a5, a6, a7, a8] d := by unfold PlDup; kernel_rfl
end Go.Proofs.YtjoelgicffojcaaGreatDoor.wb
namespace Go.Proofs.YtjoelgicffojcaaGreatDoor.wb
open Go.Eng
set_option maxRecDepth 1000000
set_option linter.unusedVariables false
set_option linter.unusedSimpArgs false
set_option linter.unusedSectionVars false
theorem start6 (kd : CallKind) (x0 x1 x2 x3 x4 x5 : Int) : PlStart kd 6 [x0, x1, x2, x3, x4, x5] := by unfold PlStart; kernel_rfl
theorem it6 (kd : CallKind) (x0 x1 x2 x3 x4 x5 a0 a1 a2 a3 a4 a5 a6 a7 a8 : Int) (d : Nat → Value) : PlIt kd 6 [x0, x1, x2, x3, x4, x5] [a0, a1, a2, a3, a4, a5, a6, a7, a8] d := by unfold PlIt; kernel_rfl
theorem end6n (x0 x1 x2 x3 x4 x5 a0 a1 a2 a3 a4 a5 a6 a7 a8 : Int) (d : Nat → Value) : PlEnd .normal 6 [x0, x1, x2, x3, x4, x5] [a0, a1, a2, a3, a4, a5, a6, a7, a8] d := by unfold PlEnd; kernel_rfl
theorem low6n (x0 x1 x2 x3 x4 x5 a0 a1 a2 a3 a4 a5 a6 a7 a8 : Int) (d : Nat → Value) : PlLow .normal 6 [x0, x1, x2, x3, x4, x5] [a0, a1, a2, a3, a4, a5, a6, a7, a8] d := by unfold PlLow; kernel_rfl
theorem high6n (x0 x1 x2 x3 x4 x5 a0 a1 a2 a3 a4 a5 a6 a7 a8 : Int) (d : Nat → Value) : PlHigh .normal 6 [x0, x1, x2, x3, x4, x5] [a0, a1, a2, a3, a4, a5, a6, a7, a8] d := by unfold PlHigh; kernel_rfl
theorem dup6n (x0 x1 x2 x3 x4 x5 a0 a1 a2 a3 a4 a5 a6 a7 a8 : Int) (d : Nat → Value) : PlDup .normal 6 [x0, x1, x2, x3, x4, x5] [a0, a1, a2, a3, a4, a5, a6, a7, a8] d := by unfold PlDup; kernel_rfl
theorem end6d (x0 x1 x2 x3 x4 x5 a0 a1 a2 a3 a4 a5 a6 a7 a8 : Int) (d : Nat → Value) : PlEnd .deferred 6 [x0, x1, x2, x3, x4, x5] [a0, a1, a2, a3, a4, a5, a6, a7, a8] d := by unfold PlEnd; kernel_rfl
theorem low6d (x0 x1 x2 x3 x4 x5 a0 a1 a2 a3 a4 a5 a6 a7 a8 : Int) (d : Nat → Value) : PlLow .deferred 6 [x0, x1, x2, x3, x4, x5] [a0, a1, a2, a3, a4, a5, a6, a7, a8] d := by unfold PlLow; kernel_rfl
theorem high6d (x0 x1 x2 x3 x4 x5 a0 a1 a2 a3 a4 a5 a6 a7 a8 : Int) (d : Nat → Value) : PlHigh .deferred 6 [x0, x1, x2, x3, x4, x5] [a0, a1, a2, a3, a4, a5, a6, a7, a8] d := by unfold PlHigh; kernel_rfl
theorem dup6d (x0 x1 x2 x3 x4 x5 a0 a1 a2 a3 a4 a5 a6 a7 a8 : Int) (d : Nat → Value) : PlDup .deferred 6 [x0, x1, x2, x3, x4, x5] [a0, a1, a2, a3, a4, a5, a6, a7, a8] d := by unfold PlDup; kernel_rfl
end Go.Proofs.YtjoelgicffojcaaGreatDoor.wb
namespace Go.Proofs.YtjoelgicffojcaaGreatDoor.wb
open Go.Eng
set_option maxRecDepth 1000000
set_option linter.unusedVariables false
set_option linter.unusedSimpArgs false
set_option linter.unusedSectionVars false
theorem start7 (kd : CallKind) (x0 x1 x2 x3 x4 x5 x6 : Int) : PlStart kd 7 [x0, x1, x2, x3, x4, x5, x6] := by unfold PlStart; kernel_rfl
theorem it7 (kd : CallKind) (x0 x1 x2 x3 x4 x5 x6 a0 a1 a2 a3 a4 a5 a6 a7 a8 : Int) (d : Nat → Value) : PlIt kd 7 [x0, x1, x2, x3, x4, x5, x6] [a0, a1, a2, a3, a4, a5, a6, a7, a8] d := by unfold PlIt; kernel_rfl
theorem end7n (x0 x1 x2 x3 x4 x5 x6 a0 a1 a2 a3 a4 a5 a6 a7 a8 : Int) (d : Nat → Value) : PlEnd .normal 7 [x0, x1, x2, x3, x4, x5, x6] [a0, a1, a2, a3, a4, a5, a6, a7, a8] d := by unfold PlEnd; kernel_rfl
theorem low7n (x0 x1 x2 x3 x4 x5 x6 a0 a1 a2 a3 a4 a5 a6 a7 a8 : Int) (d : Nat → Value) : PlLow .normal 7 [x0, x1, x2, x3, x4, x5, x6] [a0, a1, a2, a3, a4, a5, a6, a7, a8] d := by unfold PlLow; kernel_rfl
theorem high7n (x0 x1 x2 x3 x4 x5 x6 a0 a1 a2 a3 a4 a5 a6 a7 a8 : Int) (d : Nat → Value) : PlHigh .normal 7 [x0, x1, x2, x3, x4, x5, x6] [a0, a1, a2, a3, a4, a5, a6, a7, a8] d := by unfold PlHigh; kernel_rfl
theorem dup7n (x0 x1 x2 x3 x4 x5 x6 a0 a1 a2 a3 a4 a5 a6 a7 a8 : Int) (d : Nat → Value) : PlDup .normal 7 [x0, x1, x2, x3, x4, x5, x6] [a0, a1, a2, a3, a4, a5, a6, a7, a8] d := by unfold PlDup; kernel_rfl
theorem end7d (x0 x1 x2 x3 x4 x5 x6 a0 a1 a2 a3 a4 a5 a6 a7 a8 : Int) (d : Nat → Value) : PlEnd .deferred 7 [x0, x1, x2, x3, x4, x5, x6] [a0, a1, a2, a3, a4, a5, a6, a7, a8] d := by unfold PlEnd; kernel_rfl
theorem low7d (x0 x1 x2 x3 x4 x5 x6 a0 a1 a2 a3 a4 a5 a6 a7 a8 : Int) (d : Nat → Value) : PlLow .deferred 7 [x0, x1, x2, x3, x4, x5, x6] [a0, a1, a2, a3, a4, a5, a6, a7, a8] d := by unfold PlLow; kernel_rfl
theorem high7d (x0 x1 x2 x3 x4 x5 x6 a0 a1 a2 a3 a4 a5 a6 a7 a8 : Int) (d : Nat → Value) : PlHigh .deferred 7 [x0, x1, x2, x3, x4, x5, x6] [a0, a1, a2, a3, a4, a5, a6, a7, a8] d := by unfold PlHigh; kernel_rfl
theorem dup7d (x0 x1 x2 x3 x4 x5 x6 a0 a1 a2 a3 a4 a5 a6 a7 a8 : Int) (d : Nat → Value) : PlDup .deferred 7 [x0, x1, x2, x3, x4, x5, x6] [a0, a1, a2, a3, a4, a5, a6, a7, a8] d := by unfold PlDup; kernel_rfl
end Go.Proofs.YtjoelgicffojcaaGreatDoor.wb
namespace Go.Proofs.YtjoelgicffojcaaGreatDoor.wb
open Go.Eng
set_option maxRecDepth 1000000
set_option linter.unusedVariables false
set_option linter.unusedSimpArgs false
set_option linter.unusedSectionVars false
theorem start8 (kd : CallKind) (x0 x1 x2 x3 x4 x5 x6 x7 : Int) : PlStart kd 8 [x0, x1, x2, x3, x4, x5, x6, x7] := by unfold PlStart; kernel_rfl
theorem it8 (kd : CallKind) (x0 x1 x2 x3 x4 x5 x6 x7 a0 a1 a2 a3 a4 a5 a6 a7 a8 : Int) (d : Nat → Value) : PlIt kd 8 [x0, x1, x2, x3, x4, x5, x6, x7] [a0, a1, a2, a3, a4, a5, a6, a7, a8] d := by unfold PlIt; kernel_rfl
theorem end8n (x0 x1 x2 x3 x4 x5 x6 x7 a0 a1 a2 a3 a4 a5 a6 a7 a8 : Int) (d : Nat → Value) : PlEnd .normal 8 [x0, x1, x2, x3, x4, x5, x6, x7] [a0, a1, a2, a3, a4, a5, a6, a7, a8] d := by unfold PlEnd; kernel_rfl
theorem low8n (x0 x1 x2 x3 x4 x5 x6 x7 a0 a1 a2 a3 a4 a5 a6 a7 a8 : Int) (d : Nat → Value) : PlLow .normal 8 [x0, x1, x2, x3, x4, x5, x6, x7] [a0, a1, a2, a3, a4, a5, a6, a7, a8] d := by unfold PlLow; kernel_rfl
theorem high8n (x0 x1 x2 x3 x4 x5 x6 x7 a0 a1 a2 a3 a4 a5 a6 a7 a8 : Int) (d : Nat → Value) : PlHigh .normal 8 [x0, x1, x2, x3, x4, x5, x6, x7] [a0, a1, a2, a3, a4, a5, a6, a7, a8] d := by unfold PlHigh; kernel_rfl
theorem dup8n (x0 x1 x2 x3 x4 x5 x6 x7 a0 a1 a2 a3 a4 a5 a6 a7 a8 : Int) (d : Nat → Value) : PlDup .normal 8 [x0, x1, x2, x3, x4, x5, x6, x7] [a0, a1, a2, a3, a4, a5, a6, a7, a8] d := by unfold PlDup; kernel_rfl
theorem end8d (x0 x1 x2 x3 x4 x5 x6 x7 a0 a1 a2 a3 a4 a5 a6 a7 a8 : Int) (d : Nat → Value) : PlEnd .deferred 8 [x0, x1, x2, x3, x4, x5, x6, x7] [a0, a1, a2, a3, a4, a5, a6, a7, a8] d := by unfold PlEnd; kernel_rfl
theorem low8d (x0 x1 x2 x3 x4 x5 x6 x7 a0 a1 a2 a3 a4 a5 a6 a7 a8 : Int) (d : Nat → Value) : PlLow .deferred 8 [x0, x1, x2, x3, x4, x5, x6, x7] [a0, a1, a2, a3, a4, a5, a6, a7, a8] d := by unfold PlLow; kernel_rfl
theorem high8d (x0 x1 x2 x3 x4 x5 x6 x7 a0 a1 a2 a3 a4 a5 a6 a7 a8 : Int) (d : Nat → Value) : PlHigh .deferred 8 [x0, x1, x2, x3, x4, x5, x6, x7] [a0, a1, a2, a3, a4, a5, a6, a7, a8] d := by unfold PlHigh; kernel_rfl
theorem dup8d (x0 x1 x2 x3 x4 x5 x6 x7 a0 a1 a2 a3 a4 a5 a6 a7 a8 : Int) (d : Nat → Value) : PlDup .deferred 8 [x0, x1, x2, x3, x4, x5, x6, x7] [a0, a1, a2, a3, a4, a5, a6, a7, a8] d := by unfold PlDup; kernel_rfl
end Go.Proofs.YtjoelgicffojcaaGreatDoor.wb
namespace Go.Proofs.YtjoelgicffojcaaGreatDoor.wb
open Go.Eng
set_option maxRecDepth 1000000
set_option linter.unusedVariables false
set_option linter.unusedSimpArgs false
set_option linter.unusedSectionVars false
theorem it {kd : CallKind} {n : Nat} (h1 : 1 ≤ n) (h8 : n ≤ 8) {xs ys : List Int} (hx : xs.length = n) (ha : ys.length = 9) (d : Nat → Value) : PlIt kd n xs ys d := by
  obtain ⟨f, rfl⟩ := list_of n xs hx
  obtain ⟨g, rfl⟩ := list_of 9 ys ha
  match n, h1, h8 with
  | 1, _, _ => exact it1 kd (f 0) (g 0) (g 1) (g 2) (g 3) (g 4) (g 5) (g 6) (g 7) (g 8) d
  | 2, _, _ => exact it2 kd (f 0) (f 1) (g 0) (g 1) (g 2) (g 3) (g 4) (g 5) (g 6) (g 7) (g 8) d
  | 3, _, _ => exact it3 kd (f 0) (f 1) (f 2) (g 0) (g 1) (g 2) (g 3) (g 4) (g 5) (g 6) (g 7) (g 8) d
  | 4, _, _ => exact it4 kd (f 0) (f 1) (f 2) (f 3) (g 0) (g 1) (g 2) (g 3) (g 4) (g 5) (g 6) (g 7) (g 8) d
  | 5, _, _ => exact it5 kd (f 0) (f 1) (f 2) (f 3) (f 4) (g 0) (g 1) (g 2) (g 3) (g 4) (g 5) (g 6) (g 7) (g 8) d
  | 6, _, _ => exact it6 kd (f 0) (f 1) (f 2) (f 3) (f 4) (f 5) (g 0) (g 1) (g 2) (g 3) (g 4) (g 5) (g 6) (g 7) (g 8) d
  | 7, _, _ => exact it7 kd (f 0) (f 1) (f 2) (f 3) (f 4) (f 5) (f 6) (g 0) (g 1) (g 2) (g 3) (g 4) (g 5) (g 6) (g 7) (g 8) d
  | 8, _, _ => exact it8 kd (f 0) (f 1) (f 2) (f 3) (f 4) (f 5) (f 6) (f 7) (g 0) (g 1) (g 2) (g 3) (g 4) (g 5) (g 6) (g 7) (g 8) d
theorem ends {kd : CallKind} (hkd : kd = .normal ∨ kd = .deferred) {n : Nat} (h1 : 1 ≤ n) (h8 : n ≤ 8) {xs ys : List Int} (hx : xs.length = n) (ha : ys.length = 9) (d : Nat → Value) : PlEnd kd n xs ys d := by
  obtain ⟨f, rfl⟩ := list_of n xs hx
  obtain ⟨g, rfl⟩ := list_of 9 ys ha
  rcases hkd with rfl | rfl
  · match n, h1, h8 with
    | 1, _, _ => exact end1n (f 0) (g 0) (g 1) (g 2) (g 3) (g 4) (g 5) (g 6) (g 7) (g 8) d
    | 2, _, _ => exact end2n (f 0) (f 1) (g 0) (g 1) (g 2) (g 3) (g 4) (g 5) (g 6) (g 7) (g 8) d
    | 3, _, _ => exact end3n (f 0) (f 1) (f 2) (g 0) (g 1) (g 2) (g 3) (g 4) (g 5) (g 6) (g 7) (g 8) d
    | 4, _, _ => exact end4n (f 0) (f 1) (f 2) (f 3) (g 0) (g 1) (g 2) (g 3) (g 4) (g 5) (g 6) (g 7) (g 8) d
    | 5, _, _ => exact end5n (f 0) (f 1) (f 2) (f 3) (f 4) (g 0) (g 1) (g 2) (g 3) (g 4) (g 5) (g 6) (g 7) (g 8) d
    | 6, _, _ => exact end6n (f 0) (f 1) (f 2) (f 3) (f 4) (f 5) (g 0) (g 1) (g 2) (g 3) (g 4) (g 5) (g 6) (g 7) (g 8) d
    | 7, _, _ => exact end7n (f 0) (f 1) (f 2) (f 3) (f 4) (f 5) (f 6) (g 0) (g 1) (g 2) (g 3) (g 4) (g 5) (g 6) (g 7) (g 8) d
    | 8, _, _ => exact end8n (f 0) (f 1) (f 2) (f 3) (f 4) (f 5) (f 6) (f 7) (g 0) (g 1) (g 2) (g 3) (g 4) (g 5) (g 6) (g 7) (g 8) d
  · match n, h1, h8 with
    | 1, _, _ => exact end1d (f 0) (g 0) (g 1) (g 2) (g 3) (g 4) (g 5) (g 6) (g 7) (g 8) d
    | 2, _, _ => exact end2d (f 0) (f 1) (g 0) (g 1) (g 2) (g 3) (g 4) (g 5) (g 6) (g 7) (g 8) d
    | 3, _, _ => exact end3d (f 0) (f 1) (f 2) (g 0) (g 1) (g 2) (g 3) (g 4) (g 5) (g 6) (g 7) (g 8) d
    | 4, _, _ => exact end4d (f 0) (f 1) (f 2) (f 3) (g 0) (g 1) (g 2) (g 3) (g 4) (g 5) (g 6) (g 7) (g 8) d
    | 5, _, _ => exact end5d (f 0) (f 1) (f 2) (f 3) (f 4) (g 0) (g 1) (g 2) (g 3) (g 4) (g 5) (g 6) (g 7) (g 8) d
    | 6, _, _ => exact end6d (f 0) (f 1) (f 2) (f 3) (f 4) (f 5) (g 0) (g 1) (g 2) (g 3) (g 4) (g 5) (g 6) (g 7) (g 8) d
    | 7, _, _ => exact end7d (f 0) (f 1) (f 2) (f 3) (f 4) (f 5) (f 6) (g 0) (g 1) (g 2) (g 3) (g 4) (g 5) (g 6) (g 7) (g 8) d
    | 8, _, _ => exact end8d (f 0) (f 1) (f 2) (f 3) (f 4) (f 5) (f 6) (f 7) (g 0) (g 1) (g 2) (g 3) (g 4) (g 5) (g 6) (g 7) (g 8) d
theorem low {kd : CallKind} (hkd : kd = .normal ∨ kd = .deferred) {n : Nat} (h1 : 1 ≤ n) (h8 : n ≤ 8) {xs ys : List Int} (hx : xs.length = n) (ha : ys.length = 9) (d : Nat → Value) : PlLow kd n xs ys d := by
  obtain ⟨f, rfl⟩ := list_of n xs hx
  obtain ⟨g, rfl⟩ := list_of 9 ys ha
  rcases hkd with rfl | rfl
  · match n, h1, h8 with
    | 1, _, _ => exact low1n (f 0) (g 0) (g 1) (g 2) (g 3) (g 4) (g 5) (g 6) (g 7) (g 8) d
    | 2, _, _ => exact low2n (f 0) (f 1) (g 0) (g 1) (g 2) (g 3) (g 4) (g 5) (g 6) (g 7) (g 8) d
    | 3, _, _ => exact low3n (f 0) (f 1) (f 2) (g 0) (g 1) (g 2) (g 3) (g 4) (g 5) (g 6) (g 7) (g 8) d
    | 4, _, _ => exact low4n (f 0) (f 1) (f 2) (f 3) (g 0) (g 1) (g 2) (g 3) (g 4) (g 5) (g 6) (g 7) (g 8) d
    | 5, _, _ => exact low5n (f 0) (f 1) (f 2) (f 3) (f 4) (g 0) (g 1) (g 2) (g 3) (g 4) (g 5) (g 6) (g 7) (g 8) d
    | 6, _, _ => exact low6n (f 0) (f 1) (f 2) (f 3) (f 4) (f 5) (g 0) (g 1) (g 2) (g 3) (g 4) (g 5) (g 6) (g 7) (g 8) d
    | 7, _, _ => exact low7n (f 0) (f 1) (f 2) (f 3) (f 4) (f 5) (f 6) (g 0) (g 1) (g 2) (g 3) (g 4) (g 5) (g 6) (g 7) (g 8) d
    | 8, _, _ => exact low8n (f 0) (f 1) (f 2) (f 3) (f 4) (f 5) (f 6) (f 7) (g 0) (g 1) (g 2) (g 3) (g 4) (g 5) (g 6) (g 7) (g 8) d
  · match n, h1, h8 with
    | 1, _, _ => exact low1d (f 0) (g 0) (g 1) (g 2) (g 3) (g 4) (g 5) (g 6) (g 7) (g 8) d
    | 2, _, _ => exact low2d (f 0) (f 1) (g 0) (g 1) (g 2) (g 3) (g 4) (g 5) (g 6) (g 7) (g 8) d
    | 3, _, _ => exact low3d (f 0) (f 1) (f 2) (g 0) (g 1) (g 2) (g 3) (g 4) (g 5) (g 6) (g 7) (g 8) d
    | 4, _, _ => exact low4d (f 0) (f 1) (f 2) (f 3) (g 0) (g 1) (g 2) (g 3) (g 4) (g 5) (g 6) (g 7) (g 8) d
    | 5, _, _ => exact low5d (f 0) (f 1) (f 2) (f 3) (f 4) (g 0) (g 1) (g 2) (g 3) (g 4) (g 5) (g 6) (g 7) (g 8) d
    | 6, _, _ => exact low6d (f 0) (f 1) (f 2) (f 3) (f 4) (f 5) (g 0) (g 1) (g 2) (g 3) (g 4) (g 5) (g 6) (g 7) (g 8) d
    | 7, _, _ => exact low7d (f 0) (f 1) (f 2) (f 3) (f 4) (f 5) (f 6) (g 0) (g 1) (g 2) (g 3) (g 4) (g 5) (g 6) (g 7) (g 8) d
    | 8, _, _ => exact low8d (f 0) (f 1) (f 2) (f 3) (f 4) (f 5) (f 6) (f 7) (g 0) (g 1) (g 2) (g 3) (g 4) (g 5) (g 6) (g 7) (g 8) d
theorem high {kd : CallKind} (hkd : kd = .normal ∨ kd = .deferred) {n : Nat} (h1 : 1 ≤ n) (h8 : n ≤ 8) {xs ys : List Int} (hx : xs.length = n) (ha : ys.length = 9) (d : Nat → Value) : PlHigh kd n xs ys d := by
  obtain ⟨f, rfl⟩ := list_of n xs hx
  obtain ⟨g, rfl⟩ := list_of 9 ys ha
  rcases hkd with rfl | rfl
  · match n, h1, h8 with
    | 1, _, _ => exact high1n (f 0) (g 0) (g 1) (g 2) (g 3) (g 4) (g 5) (g 6) (g 7) (g 8) d
    | 2, _, _ => exact high2n (f 0) (f 1) (g 0) (g 1) (g 2) (g 3) (g 4) (g 5) (g 6) (g 7) (g 8) d
    | 3, _, _ => exact high3n (f 0) (f 1) (f 2) (g 0) (g 1) (g 2) (g 3) (g 4) (g 5) (g 6) (g 7) (g 8) d
    | 4, _, _ => exact high4n (f 0) (f 1) (f 2) (f 3) (g 0) (g 1) (g 2) (g 3) (g 4) (g 5) (g 6) (g 7) (g 8) d
    | 5, _, _ => exact high5n (f 0) (f 1) (f 2) (f 3) (f 4) (g 0) (g 1) (g 2) (g 3) (g 4) (g 5) (g 6) (g 7) (g 8) d
    | 6, _, _ => exact high6n (f 0) (f 1) (f 2) (f 3) (f 4) (f 5) (g 0) (g 1) (g 2) (g 3) (g 4) (g 5) (g 6) (g 7) (g 8) d
    | 7, _, _ => exact high7n (f 0) (f 1) (f 2) (f 3) (f 4) (f 5) (f 6) (g 0) (g 1) (g 2) (g 3) (g 4) (g 5) (g 6) (g 7) (g 8) d
    | 8, _, _ => exact high8n (f 0) (f 1) (f 2) (f 3) (f 4) (f 5) (f 6) (f 7) (g 0) (g 1) (g 2) (g 3) (g 4) (g 5) (g 6) (g 7) (g 8) d
  · match n, h1, h8 with
    | 1, _, _ => exact high1d (f 0) (g 0) (g 1) (g 2) (g 3) (g 4) (g 5) (g 6) (g 7) (g 8) d
    | 2, _, _ => exact high2d (f 0) (f 1) (g 0) (g 1) (g 2) (g 3) (g 4) (g 5) (g 6) (g 7) (g 8) d
    | 3, _, _ => exact high3d (f 0) (f 1) (f 2) (g 0) (g 1) (g 2) (g 3) (g 4) (g 5) (g 6) (g 7) (g 8) d
    | 4, _, _ => exact high4d (f 0) (f 1) (f 2) (f 3) (g 0) (g 1) (g 2) (g 3) (g 4) (g 5) (g 6) (g 7) (g 8) d
    | 5, _, _ => exact high5d (f 0) (f 1) (f 2) (f 3) (f 4) (g 0) (g 1) (g 2) (g 3) (g 4) (g 5) (g 6) (g 7) (g 8) d
    | 6, _, _ => exact high6d (f 0) (f 1) (f 2) (f 3) (f 4) (f 5) (g 0) (g 1) (g 2) (g 3) (g 4) (g 5) (g 6) (g 7) (g 8) d
    | 7, _, _ => exact high7d (f 0) (f 1) (f 2) (f 3) (f 4) (f 5) (f 6) (g 0) (g 1) (g 2) (g 3) (g 4) (g 5) (g 6) (g 7) (g 8) d
    | 8, _, _ => exact high8d (f 0) (f 1) (f 2) (f 3) (f 4) (f 5) (f 6) (f 7) (g 0) (g 1) (g 2) (g 3) (g 4) (g 5) (g 6) (g 7) (g 8) d
theorem dup {kd : CallKind} (hkd : kd = .normal ∨ kd = .deferred) {n : Nat} (h1 : 1 ≤ n) (h8 : n ≤ 8) {xs ys : List Int} (hx : xs.length = n) (ha : ys.length = 9) (d : Nat → Value) : PlDup kd n xs ys d := by
  obtain ⟨f, rfl⟩ := list_of n xs hx
  obtain ⟨g, rfl⟩ := list_of 9 ys ha
  rcases hkd with rfl | rfl
  · match n, h1, h8 with
    | 1, _, _ => exact dup1n (f 0) (g 0) (g 1) (g 2) (g 3) (g 4) (g 5) (g 6) (g 7) (g 8) d
    | 2, _, _ => exact dup2n (f 0) (f 1) (g 0) (g 1) (g 2) (g 3) (g 4) (g 5) (g 6) (g 7) (g 8) d
    | 3, _, _ => exact dup3n (f 0) (f 1) (f 2) (g 0) (g 1) (g 2) (g 3) (g 4) (g 5) (g 6) (g 7) (g 8) d
    | 4, _, _ => exact dup4n (f 0) (f 1) (f 2) (f 3) (g 0) (g 1) (g 2) (g 3) (g 4) (g 5) (g 6) (g 7) (g 8) d
    | 5, _, _ => exact dup5n (f 0) (f 1) (f 2) (f 3) (f 4) (g 0) (g 1) (g 2) (g 3) (g 4) (g 5) (g 6) (g 7) (g 8) d
    | 6, _, _ => exact dup6n (f 0) (f 1) (f 2) (f 3) (f 4) (f 5) (g 0) (g 1) (g 2) (g 3) (g 4) (g 5) (g 6) (g 7) (g 8) d
    | 7, _, _ => exact dup7n (f 0) (f 1) (f 2) (f 3) (f 4) (f 5) (f 6) (g 0) (g 1) (g 2) (g 3) (g 4) (g 5) (g 6) (g 7) (g 8) d
    | 8, _, _ => exact dup8n (f 0) (f 1) (f 2) (f 3) (f 4) (f 5) (f 6) (f 7) (g 0) (g 1) (g 2) (g 3) (g 4) (g 5) (g 6) (g 7) (g 8) d
  · match n, h1, h8 with
    | 1, _, _ => exact dup1d (f 0) (g 0) (g 1) (g 2) (g 3) (g 4) (g 5) (g 6) (g 7) (g 8) d
    | 2, _, _ => exact dup2d (f 0) (f 1) (g 0) (g 1) (g 2) (g 3) (g 4) (g 5) (g 6) (g 7) (g 8) d
    | 3, _, _ => exact dup3d (f 0) (f 1) (f 2) (g 0) (g 1) (g 2) (g 3) (g 4) (g 5) (g 6) (g 7) (g 8) d
    | 4, _, _ => exact dup4d (f 0) (f 1) (f 2) (f 3) (g 0) (g 1) (g 2) (g 3) (g 4) (g 5) (g 6) (g 7) (g 8) d
    | 5, _, _ => exact dup5d (f 0) (f 1) (f 2) (f 3) (f 4) (g 0) (g 1) (g 2) (g 3) (g 4) (g 5) (g 6) (g 7) (g 8) d
    | 6, _, _ => exact dup6d (f 0) (f 1) (f 2) (f 3) (f 4) (f 5) (g 0) (g 1) (g 2) (g 3) (g 4) (g 5) (g 6) (g 7) (g 8) d
    | 7, _, _ => exact dup7d (f 0) (f 1) (f 2) (f 3) (f 4) (f 5) (f 6) (g 0) (g 1) (g 2) (g 3) (g 4) (g 5) (g 6) (g 7) (g 8) d
    | 8, _, _ => exact dup8d (f 0) (f 1) (f 2) (f 3) (f 4) (f 5) (f 6) (f 7) (g 0) (g 1) (g 2) (g 3) (g 4) (g 5) (g 6) (g 7) (g 8) d
theorem start (kd : CallKind) {n : Nat} (h1 : 1 ≤ n) (h8 : n ≤ 8) {xs : List Int} (hx : xs.length = n) : PlStart kd n xs := by
  obtain ⟨f, rfl⟩ := list_of n xs hx
  match n, h1, h8 with
  | 1, _, _ => exact start1 kd (f 0)
  | 2, _, _ => exact start2 kd (f 0) (f 1)
  | 3, _, _ => exact start3 kd (f 0) (f 1) (f 2)
  | 4, _, _ => exact start4 kd (f 0) (f 1) (f 2) (f 3)
  | 5, _, _ => exact start5 kd (f 0) (f 1) (f 2) (f 3) (f 4)
  | 6, _, _ => exact start6 kd (f 0) (f 1) (f 2) (f 3) (f 4) (f 5)
  | 7, _, _ => exact start7 kd (f 0) (f 1) (f 2) (f 3) (f 4) (f 5) (f 6)
  | 8, _, _ => exact start8 kd (f 0) (f 1) (f 2) (f 3) (f 4) (f 5) (f 6) (f 7)
theorem noHooked : HookOk Tryz.prog noHook := noHook_ok _
theorem set_self {xs : List Int} {i : Nat} {x : Int} (h : xs.getD i 0 = x) : xs.set i x = xs := by
  apply List.ext_getElem?
  intro j
  rw [List.getElem?_set]
  split
  · rename_i e
    subst e
    split
    · rename_i hi
      rw [List.getElem?_eq_getElem hi, ← h]
      simp [List.getD_eq_getElem?_getD, List.getElem?_eq_getElem hi]
    · rename_i hi
      rw [List.getElem?_eq_none (by omega)]
  · rfl
theorem from_loop {kd : CallKind} (hkd : kd = .normal ∨ kd = .deferred) {n : Nat} (h1 : 1 ≤ n) (h8 : n ≤ 8) {xs : List Int} (hx : xs.length = n) : ∀ (k i : Nat) (ys : List Int) (d : Nat → Value), i + k = n → ys.length = 9 →
    Eng.Rows Tryz.prog 19 kd (plV (plF i (xs.drop i) ys)) (xs.map (.int .i64)) 3 true (plS kd n i xs ys d)
  | 0, i, ys, d, hi, ha => by
    obtain rfl : i = n := by omega
    rw [List.drop_eq_nil_of_le (by omega)]
    exact cutEnd_ok (noCount counted) mixed noHooked (ends hkd h1 h8 hx ha d) rfl
  | k + 1, i, ys, d, hi, ha => by
    have hin : i < n := by omega
    have hix : i < xs.length := by omega
    have hdrop : xs.drop i = xs.getD i 0 :: xs.drop (i + 1) := by
      rw [List.drop_eq_getElem_cons hix]
      simp [List.getD_eq_getElem?_getD, List.getElem?_eq_getElem hix]
    rw [hdrop]
    generalize hxi : xs.getD i 0 = x
    by_cases hlo : x < 1
    · have e : plF i (x :: xs.drop (i + 1)) ys = (zs9, false) := by
        rw [plF, if_neg (by omega)]
      rw [e]
      have := of_map (low hkd h1 h8 hx ha d) i hin
      rw [hxi] at this
      exact cutEnd_ok (noCount counted) mixed noHooked this (by rw [decide_eq_true hlo]; rfl)
    by_cases hhi : x > 8
    · have e : plF i (x :: xs.drop (i + 1)) ys = (zs9, false) := by
        rw [plF, if_neg (by omega)]
      rw [e]
      have := of_map (high hkd h1 h8 hx ha d) i hin
      rw [hxi] at this
      exact cutEnd_ok (noCount counted) mixed noHooked this (by rw [decide_eq_false hlo, decide_eq_true hhi]; rfl)
    obtain ⟨c, hc8, rfl⟩ : ∃ c : Nat, c < 8 ∧ x = .ofNat (c + 1) := ⟨(x - 1).toNat, by omega, by
      show x = ((x - 1).toNat + 1 : Nat)
      omega⟩
    have hset : xs.set i (.ofNat (c + 1)) = xs := set_self hxi
    have htn : (Int.ofNat (c + 1)).toNat = c + 1 := rfl
    by_cases hd : ys.getD (c + 1) 0 > 0
    · have e : plF i (.ofNat (c + 1) :: xs.drop (i + 1)) ys = (zs9, false) := by
        rw [plF, htn, if_neg (fun h => h.2.2 hd)]
      rw [e]
      have := of_map (of_map (dup hkd h1 h8 hx ha d) i hin) c hc8
      rw [hset] at this
      exact cutEnd_ok (noCount counted) mixed noHooked this (by rw [decide_eq_true hd]; rfl)
    · have e : plF i (.ofNat (c + 1) :: xs.drop (i + 1)) ys = plF (i + 1) (xs.drop (i + 1)) (ys.set (c + 1) (.ofNat (i + 1))) := by
        rw [plF, htn, if_pos ⟨by omega, by omega, hd⟩]
      rw [e]
      have := of_map (of_map (it (kd := kd) h1 h8 hx ha d) i hin) c hc8
      rw [hset] at this
      have r := cutTo_ok (noCount counted) mixed noHooked (keep33 35 (by decide)) this (by rw [decide_eq_false hd]; rfl)
      exact rows_from r (from_loop hkd h1 h8 hx k (i + 1) _ _ (by omega) (by simpa using ha))
theorem places_row (b l : Nat) (cs : List Int) (hl : cs.length = l) (h1 : 1 ≤ l) (h8 : l ≤ 8) (kd : CallKind) (hkd : kd = .normal ∨ kd = .deferred) :
    ∃ s0, kenter Tryz.prog 19 (args l) kd = some s0 ∧ Eng.Rows Tryz.prog 19 kd (plV (plF 0 cs zs9)) (cs.map (.int .i64)) 3 true ⟨s0, [], CH.lone (cs.map (.int .i64)) 3 true⟩ := by
  have hs := start kd h1 h8 hl
  unfold PlStart at hs
  cases hk : kenter Tryz.prog 19 (args l) kd with
  | none => rw [hk] at hs; cases hs
  | some s0 =>
    rw [hk] at hs
    have r := cutTo_ok (noCount counted) mixed noHooked (keep33 35 (by decide)) hs rfl
    refine ⟨s0, rfl, rows_from r ?_⟩
    have := from_loop hkd h1 h8 hl l 0 zs9 (fun _ => un) (by omega) rfl
    rwa [List.drop_zero] at this
def pickP : List Value → Option (Nat × (Nat × Unit))
  | [.slice (some ⟨b, 0, none⟩) l c] => if Nat.beq l c = true then some (b, (l, ())) else none
  | _ => none
noncomputable def placesHook : Hook := hookInts 19 pickP (fun _ cs => plV (plF 0 cs zs9))
theorem placesHooked : HookOk Tryz.prog placesHook := hookInts_ok (fun b l _ => [.slice (some ⟨b, 0, none⟩) l l]) (by kernel_rfl)
  (fun l b n x h => by
    unfold pickP at h
    split at h
    · split at h
      · rename_i hb
        obtain rfl := Nat.eq_of_beq_eq_true hb
        cases h
        rfl
      · cases h
    · cases h)
  (fun _ cs => rfl) (fun n x E b => by simp [Env.m, mv, soff, scap, Env.at32]) (fun n x D b h => h _ (List.mem_cons_self ..)) (fun n x u hu => by rw [List.mem_singleton.1 hu]; exact Nat.le_refl 32)
  (fun x b l cs _ hl h1 h8 kd hkd => places_row b l cs hl h1 h8 kd hkd)
end Go.Proofs.YtjoelgicffojcaaGreatDoor.wb
