/-
  WorldBounds: its run ahead of the world and behind it, where the chain is not looked at.
-/
import Derived.KernelRfl
import Derived.Test.YtjoelgicffojcaaGreatDoorWbWSt
namespace Go.Proofs.YtjoelgicffojcaaGreatDoor.wb
open Go.Eng
set_option maxRecDepth 1000000
set_option linter.unusedVariables false
set_option linter.unusedSimpArgs false
set_option linter.unusedSectionVars false
theorem a1ct (c : List Value) (n cp : Nat) (x : Nat) (N C r u : Int) : A c true x N C (chain n cp) r u [.tell 6 9 (.bool false)] [.bool (decide (N ≥ 1))] false := by unfold A; kernel_rfl
theorem a2ct (c : List Value) (n cp : Nat) (x : Nat) (N C r u : Int) : A c true x N C (chain n cp) r u [.tell 6 9 (.bool true), .tell 6 13 (.bool false)] [.bool (decide (N ≥ 1)), .bool (decide (N ≤ 8))] false := by unfold A; kernel_rfl
theorem a3ct (c : List Value) (n cp : Nat) (x : Nat) (N C r u : Int) : A c true x N C (chain n cp) r u [.tell 6 9 (.bool true), .tell 6 13 (.bool true), .tell 6 9 (.bool false)] [.bool (decide (N ≥ 1)), .bool (decide (N ≤ 8)), .bool (decide (C ≥ 0))] false := by unfold A; kernel_rfl
theorem a4ct (c : List Value) (n cp : Nat) (x : Nat) (N C r u : Int) : A c true x N C (chain n cp) r u (In4 true true true false) (us4 N C) false := by unfold A; kernel_rfl
theorem a1nt (c : List Value) (x : Nat) (N C r u : Int) : A c true x N C (.slice none 0 0) r u [.tell 6 9 (.bool false)] [.bool (decide (N ≥ 1))] false := by unfold A; kernel_rfl
theorem a2nt (c : List Value) (x : Nat) (N C r u : Int) : A c true x N C (.slice none 0 0) r u [.tell 6 9 (.bool true), .tell 6 13 (.bool false)] [.bool (decide (N ≥ 1)), .bool (decide (N ≤ 8))] false := by unfold A; kernel_rfl
theorem a3nt (c : List Value) (x : Nat) (N C r u : Int) : A c true x N C (.slice none 0 0) r u [.tell 6 9 (.bool true), .tell 6 13 (.bool true), .tell 6 9 (.bool false)] [.bool (decide (N ≥ 1)), .bool (decide (N ≤ 8)), .bool (decide (C ≥ 0))] false := by unfold A; kernel_rfl
theorem a4nt (c : List Value) (x : Nat) (N C r u : Int) : A c true x N C (.slice none 0 0) r u (In4 true true true false) (us4 N C) false := by unfold A; kernel_rfl
theorem a1cf (c : List Value) (n cp : Nat) (x : Nat) (N C r u : Int) : A c false x N C (chain n cp) r u [.tell 6 9 (.bool false)] [.bool (decide (N ≥ 1))] false := by unfold A; kernel_rfl
theorem a2cf (c : List Value) (n cp : Nat) (x : Nat) (N C r u : Int) : A c false x N C (chain n cp) r u [.tell 6 9 (.bool true), .tell 6 13 (.bool false)] [.bool (decide (N ≥ 1)), .bool (decide (N ≤ 8))] false := by unfold A; kernel_rfl
theorem a3cf (c : List Value) (n cp : Nat) (x : Nat) (N C r u : Int) : A c false x N C (chain n cp) r u [.tell 6 9 (.bool true), .tell 6 13 (.bool true), .tell 6 9 (.bool false)] [.bool (decide (N ≥ 1)), .bool (decide (N ≤ 8)), .bool (decide (C ≥ 0))] false := by unfold A; kernel_rfl
theorem a4cf (c : List Value) (n cp : Nat) (x : Nat) (N C r u : Int) : A c false x N C (chain n cp) r u (In4 true true true false) (us4 N C) false := by unfold A; kernel_rfl
theorem a5cf (c : List Value) (n cp : Nat) (x : Nat) (N C r u : Int) : A c false x N C (chain n cp) r u (In4 true true true true ++ [.call 7]) (us4 N C) false := by unfold A; kernel_rfl
theorem a1nf (c : List Value) (x : Nat) (N C r u : Int) : A c false x N C (.slice none 0 0) r u [.tell 6 9 (.bool false)] [.bool (decide (N ≥ 1))] false := by unfold A; kernel_rfl
theorem a2nf (c : List Value) (x : Nat) (N C r u : Int) : A c false x N C (.slice none 0 0) r u [.tell 6 9 (.bool true), .tell 6 13 (.bool false)] [.bool (decide (N ≥ 1)), .bool (decide (N ≤ 8))] false := by unfold A; kernel_rfl
theorem a3nf (c : List Value) (x : Nat) (N C r u : Int) : A c false x N C (.slice none 0 0) r u [.tell 6 9 (.bool true), .tell 6 13 (.bool true), .tell 6 9 (.bool false)] [.bool (decide (N ≥ 1)), .bool (decide (N ≤ 8)), .bool (decide (C ≥ 0))] false := by unfold A; kernel_rfl
theorem a4nf (c : List Value) (x : Nat) (N C r u : Int) : A c false x N C (.slice none 0 0) r u (In4 true true true false) (us4 N C) false := by unfold A; kernel_rfl
theorem a5nf (c : List Value) (x : Nat) (N C r u : Int) : A c false x N C (.slice none 0 0) r u (In4 true true true true ++ [.call 7]) (us4 N C) false := by unfold A; kernel_rfl
theorem a6 (c : List Value) (x : Nat) (N C r u : Int) : A c true x N C (.slice none 0 0) r u (In4 true true true true ++ [.call 7]) (us4 N C) false := by unfold A; kernel_rfl
theorem a7 (c : List Value) (cp : Nat) (x : Nat) (N C r u : Int) : A c true x N C (chain 0 cp) r u (In4 true true true true ++ [.call 7]) (us4 N C) false := by unfold A; kernel_rfl
theorem b0t (win : CB) (x : Nat) (N C : Int) (sl : Value) (r u : Int) : B win true x N C sl r u false [] [] 0 := by unfold B; kernel_rfl
theorem b0f (win : CB) (x : Nat) (N C : Int) (sl : Value) (r u : Int) : B win false x N C sl r u false [] [] 0 := by unfold B; kernel_rfl
theorem b1 (win : CB) (x : Nat) (N C : Int) (sl : Value) (r u : Int) : B win true x N C sl r u true [.tell 3 15 (.bool false)] [.bool (decide (r ≥ 0))] 0 := by unfold B; kernel_rfl
theorem b2 (win : CB) (x : Nat) (N C : Int) (sl : Value) (r u : Int) : B win true x N C sl r u true [.tell 3 15 (.bool true), .tell 3 19 (.bool false)] [.bool (decide (r ≥ 0)), .bool (decide (u ≥ 0))] 0 := by unfold B; kernel_rfl
theorem b300 (win : CB) (x : Nat) (N C : Int) (sl : Value) (r u : Int) : B win true x N C sl r u true [.tell 3 15 (.bool true), .tell 3 19 (.bool true), .tell 3 24 (.bool false), .tell 3 26 (.bool false), .cast 3 29] [.bool (decide (r ≥ 0)), .bool (decide (u ≥ 0)), .bool (decide (r > 1048576)), .bool (decide (u > 1048576))] (frm (patI (x + 100)) N r u) := by unfold B; kernel_rfl
theorem b301 (win : CB) (x : Nat) (N C : Int) (sl : Value) (r u : Int) : B win true x N C sl r u true [.tell 3 15 (.bool true), .tell 3 19 (.bool true), .tell 3 24 (.bool false), .tell 3 26 (.bool true), .cast 3 29] [.bool (decide (r ≥ 0)), .bool (decide (u ≥ 0)), .bool (decide (r > 1048576)), .bool (decide (u > 1048576))] (frm (patI (x + 100)) N r 1048576) := by unfold B; kernel_rfl
theorem b310 (win : CB) (x : Nat) (N C : Int) (sl : Value) (r u : Int) : B win true x N C sl r u true [.tell 3 15 (.bool true), .tell 3 19 (.bool true), .tell 3 24 (.bool true), .tell 3 26 (.bool false), .cast 3 29] [.bool (decide (r ≥ 0)), .bool (decide (u ≥ 0)), .bool (decide (r > 1048576)), .bool (decide (u > 1048576))] (frm (patI (x + 100)) N 1048576 u) := by unfold B; kernel_rfl
theorem b311 (win : CB) (x : Nat) (N C : Int) (sl : Value) (r u : Int) : B win true x N C sl r u true [.tell 3 15 (.bool true), .tell 3 19 (.bool true), .tell 3 24 (.bool true), .tell 3 26 (.bool true), .cast 3 29] [.bool (decide (r ≥ 0)), .bool (decide (u ≥ 0)), .bool (decide (r > 1048576)), .bool (decide (u > 1048576))] (frm (patI (x + 100)) N 1048576 1048576) := by unfold B; kernel_rfl
theorem c1t (win : CB) (x : Nat) (N C : Int) (r u W : Int) (d : Nat → Value) : Cz win true x N C (.slice none 0 0) r u W d [] [] := by unfold Cz; kernel_rfl
theorem c2t (c : List Value) (cp : Nat) (x : Nat) (N C : Int) (r u W : Int) (d : Nat → Value) : Cz (.win c) true x N C (chain 0 cp) r u W d [] [] := by unfold Cz; kernel_rfl
theorem c1f (win : CB) (x : Nat) (N C : Int) (r u W : Int) (d : Nat → Value) : Cz win false x N C (.slice none 0 0) r u W d [] [] := by unfold Cz; kernel_rfl
theorem c2f (c : List Value) (cp : Nat) (x : Nat) (N C : Int) (r u W : Int) (d : Nat → Value) : Cz (.win c) false x N C (chain 0 cp) r u W d [] [] := by unfold Cz; kernel_rfl
theorem y1 (win : CB) (x : Nat) (N C : Int) (sl : Value) (r u W : Int) (d d3 : Nat → Value) : Yz win x N C sl r u W d d3 [.tell 5 22 (.bool true)] [.bool (decide (r < 0))] 0 := by unfold Yz; kernel_rfl
theorem y2 (win : CB) (x : Nat) (N C : Int) (sl : Value) (r u W : Int) (d d3 : Nat → Value) : Yz win x N C sl r u W d d3 [.tell 5 22 (.bool false), .tell 5 26 (.bool true)] [.bool (decide (r < 0)), .bool (decide (u < 0))] 0 := by unfold Yz; kernel_rfl
theorem y3 (win : CB) (x : Nat) (N C : Int) (sl : Value) (r u W : Int) (d d3 : Nat → Value) : Yz win x N C sl r u W d d3 [.tell 5 22 (.bool false), .tell 5 26 (.bool false), .cast 5 37] [.bool (decide (r < 0)), .bool (decide (u < 0))] (frm (patI (x + 100)) N (mn r) (mn u)) := by unfold Yz; kernel_rfl
theorem zf (win : CB) (W V : Int) (d : Nat → Value) : Zf win W V d := by unfold Zf; kernel_rfl
end Go.Proofs.YtjoelgicffojcaaGreatDoor.wb
