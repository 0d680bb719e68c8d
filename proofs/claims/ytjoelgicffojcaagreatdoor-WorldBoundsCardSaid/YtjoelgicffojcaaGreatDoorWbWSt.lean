/-
  WorldBounds: the states that its run is cut at.
-/
import Derived.KernelRfl
import Derived.Test.YtjoelgicffojcaaGreatDoorWbCf
namespace Go.Proofs.YtjoelgicffojcaaGreatDoor.wb
noncomputable section
open Go.Eng
set_option maxRecDepth 1000000
set_option linter.unusedVariables false
set_option linter.unusedSimpArgs false
set_option linter.unusedSectionVars false
/-- The settings as they are handed on: good ones (x: the patience), and such as are not. -/
def toks (good : Bool) (x : Nat) : List Value := bif good then [.chan (some 0), .chan (some 1), .chan (some (x + 100)), .chan (some 3), .chan (some 4)] else [.chan (some 5), .chan (some 6), .chan (some 7), .chan (some 8), .chan (some 9)]
abbrev int (n : Int) : Value := .int .i64 n
def setup (good : Bool) (x : Nat) (N C : Int) (sl : Value) : List Value := [int N, int C, sl] ++ toks good x
abbrev chain (n cp : Nat) : Value := .slice (some ⟨32, 0, none⟩) n cp
abbrev setV (good : Bool) (x : Nat) (N C : Int) (sl : Value) : Value := .agg (setup good x N C sl).toArray
abbrev setB (good : Bool) (x : Nat) (N C : Int) (sl : Value) : CB := .row (setup good x N C sl) 26 false
abbrev oneA : CB := .row [vi 1] 3 false
abbrev oneB : CB := .row [vi 1, vi 0, .slice (some ⟨100, 0, none⟩) 1 1, vi 1, vi 1, vi 1, vi 64, vi 1] 26 false
def keysOf (l : List Nat) : List Nat := List.range 33 ++ l
def blocksOf (win : CB) (l : List CB) : List (Option CB) := List.replicate 32 none ++ (some win :: l.map some)
def topReg (o : Option (List Value × (Bool × Snap))) (k : Nat) : Value := match o with
  | some (_, (_, T)) => T.top.tm.getD k un
  | none => un
def topInt (o : Option (List Value × (Bool × Snap))) (k : Nat) : Int := match topReg o k with
  | .int _ n => n
  | _ => 0
/-- Behind setupMay: it has answered b. -/
noncomputable def stM1 (win : CB) (good : Bool) (x : Nat) (N C : Int) (sl : Value) (r u : Int) (b : Bool) : Snap := ⟨⟨3, none, .normal, false, [setV good x N C sl, int r, int u, vp 33 0, un, un, .bool false, vi 0, un, un, un, setV good x N C sl, .bool b, un, un, un, un, un, un, un, un, un, un, un, un, un, un, un, un, un, un, un, un, un, un, un, un, un, un, un, un, un, un, un, un, un, un, un, un, un, un, un, un, un, un, un, un, un, un, un, un], [], [(regAt Tryz.prog 3 [1, 1, 0, 0] 2), (.code (codeAt Tryz.prog 3 [1, 1, 0, 1])), (.code (codeAt Tryz.prog 3 [1, 1, 1]))]⟩, [], 100, blocksOf win [setB good x N C sl]⟩
noncomputable abbrev sM1 (win : CB) (good : Bool) (x : Nat) (N C : Int) (sl : Value) (r u : Int) (b : Bool) : St := (stM1 win good x N C sl r u b).stw (keysOf [33]) 33
/-- Ahead of the two calls of Bound: W is wanted. -/
noncomputable def stB (win : CB) (good : Bool) (x : Nat) (N C : Int) (sl : Value) (r u W : Int) (d : Nat → Value) : Snap := ⟨⟨3, none, .normal, false, [d 0, int r, int u, vp 33 0, d 4, d 5, d 6, int W, d 8, d 9, vp 101 0, d 11, d 12, d 13, d 14, d 15, d 16, d 17, d 18, d 19, d 20, d 21, d 22, d 23, d 24, d 25, d 26, d 27, d 28, d 29, d 30, d 31, d 32, d 33, d 34, d 35, d 36, d 37, d 38, d 39, d 40, d 41, d 42, d 43, d 44, d 45, d 46, d 47, d 48, d 49, d 50, d 51, d 52, d 53, d 54, d 55, d 56, d 57, d 58, d 59, d 60], [], [(regAt Tryz.prog 3 [1, 1, 1, 1, 0] 0), (.code .ret)]⟩, [], 110, blocksOf win [setB good x N C sl, oneA, oneB]⟩
noncomputable abbrev sB (win : CB) (good : Bool) (x : Nat) (N C : Int) (sl : Value) (r u W : Int) (d : Nat → Value) : St := (stB win good x N C sl r u W d).stw (keysOf [33, 100, 101]) 33
def szW (i : Nat) : Nat := 124 + 70 * i
/-- Ahead of the round of node i + 1 (ps: the places laid so far). -/
noncomputable def stW (win : CB) (x : Nat) (N C : Int) (sl : Value) (r u W : Int) (n : Nat) (cs : List Int) (i : Nat) (ps : List Value) (d d5 d3 : Nat → Value) : Snap := ⟨⟨9, none, .normal, false, [d 0, vp 111 0, d 2, d 3, vp 116 0, d 5, d 6, d 7, vp 117 0, vi (i + 1), d 10, d 11, d 12, d 13, d 14, d 15, d 16, d 17, d 18, d 19, d 20, d 21, d 22, d 23, d 24, d 25, d 26, d 27, d 28, d 29, d 30, d 31, d 32, d 33, d 34, d 35, d 36, d 37, d 38, d 39, d 40, d 41, d 42, d 43, d 44, d 45, d 46, d 47, d 48, d 49, d 50, d 51, d 52, d 53, d 54, d 55, d 56, d 57, d 58, d 59, d 60, d 61, d 62, d 63, d 64, d 65, d 66, d 67, d 68, d 69, d 70, d 71, d 72, d 73, d 74, d 75, d 76, d 77, d 78, d 79, d 80, d 81, d 82, d 83, d 84, d 85, d 86, d 87, d 88, d 89, d 90, d 91, d 92, d 93, d 94, d 95, d 96, d 97, d 98, d 99, d 100, d 101, d 102, d 103, d 104, d 105, d 106, d 107, d 108, d 109, d 110, d 111, d 112, d 113, d 114, d 115, d 116, d 117, d 118, d 119, d 120, d 121, d 122, d 123, d 124, d 125, d 126, d 127, d 128, d 129, d 130, d 131, d 132, d 133, d 134, d 135, d 136, d 137, d 138, d 139, d 140, d 141, d 142, d 143, d 144, d 145, d 146, d 147, d 148, d 149], [], [(regAt Tryz.prog 9 [1, 1, 1, 1, 1, 1, 0, 1, 0, 0, 0, 0] 0), (.code (codeAt Tryz.prog 9 [1, 1, 1, 1, 1, 1, 0, 1, 0, 0, 0, 1])), (.code (codeAt Tryz.prog 9 [1, 1, 1, 1, 1, 1, 0, 1, 0, 0, 1])), (.inLoop (codeAt Tryz.prog 9 [1, 1, 1, 1, 1, 1, 0, 1, 0, 0])), (.inBlock 2), (.code (codeAt Tryz.prog 9 [1, 1, 1, 1, 1, 1, 1]))]⟩, [⟨5, none, .normal, false, [d5 0, int r, int u, vp 110 0, d5 4, d5 5, vi 0, d5 7, d5 8, d5 9, d5 10, d5 11, d5 12, d5 13, d5 14, d5 15, d5 16, d5 17, d5 18, d5 19, d5 20, d5 21, d5 22, d5 23, d5 24, d5 25, d5 26, d5 27, d5 28, d5 29, d5 30, d5 31, d5 32, d5 33, d5 34, d5 35, d5 36, d5 37, d5 38, d5 39, d5 40, d5 41, d5 42, d5 43, d5 44, d5 45, d5 46, d5 47, d5 48, d5 49, d5 50, d5 51, d5 52], [], [(regAt Tryz.prog 5 [1, 0] 1), (.code (codeAt Tryz.prog 5 [1, 1]))]⟩, ⟨3, none, .normal, false, [d3 0, d3 1, d3 2, d3 3, d3 4, d3 5, d3 6, int W, d3 8, d3 9, vp 101 0, d3 11, d3 12, d3 13, d3 14, d3 15, d3 16, d3 17, d3 18, d3 19, d3 20, d3 21, d3 22, d3 23, d3 24, d3 25, d3 26, d3 27, d3 28, d3 29, d3 30, d3 31, d3 32, d3 33, d3 34, d3 35, d3 36, d3 37, d3 38, d3 39, d3 40, d3 41, d3 42, d3 43, d3 44, d3 45, d3 46, d3 47, d3 48, d3 49, d3 50, d3 51, d3 52, d3 53, d3 54, d3 55, d3 56, d3 57, d3 58, d3 59, d3 60], [], [(regAt Tryz.prog 3 [1, 1, 1, 1, 0] 3), (.code .ret)]⟩], szW i,
  blocksOf win ([oneA, oneB, setB true x N C sl, setB true x N C sl, row cs, .row [vi 1, .slice (some ⟨114, 0, none⟩) n n] 34 false, .row (setup true x N C (.slice (some ⟨118, 0, none⟩) n n) ++ [(match i with | 0 => .slice none 0 0 | _ + 1 => .slice (some ⟨szW i - 1, 0, none⟩) i i), .slice none 0 0, .pointer none, .pointer none, vi 0, .slice none 0 0, vi 0, vi 0, vi 0, vi 0, .pointer none, vi 0, .slice none 0 0]) 52 false] ++ (match i with | 0 => [] | _ + 1 => [.row ps 55 true]))⟩
def keysW (i : Nat) : List Nat := keysOf ([100, 101, 110, 111, 114, 116, 117] ++ (match i with | 0 => [] | _ + 1 => [szW i - 1]))
noncomputable abbrev sW (win : CB) (x : Nat) (N C : Int) (sl : Value) (r u W : Int) (n : Nat) (cs : List Int) (i : Nat) (ps : List Value) (d d5 d3 : Nat → Value) : St := (stW win x N C sl r u W n cs i ps d d5 d3).stw (keysW i) 33
/-- Behind it, ahead of the place's being taken over. -/
noncomputable def stX (win : CB) (x : Nat) (N C : Int) (sl : Value) (r u W : Int) (n : Nat) (cs : List Int) (i : Nat) (ps : List Value) (d d5 d3 : Nat → Value) : Snap := ⟨⟨9, none, .normal, false, [d 0, vp 111 0, d 2, d 3, vp 116 0, d 5, d 6, d 7, vp 117 0, vi (i + 1), d 10, d 11, vp (szW i + 4) 0, d 13, d 14, d 15, d 16, d 17, d 18, d 19, d 20, d 21, d 22, d 23, d 24, d 25, d 26, d 27, d 28, d 29, d 30, d 31, d 32, d 33, d 34, d 35, d 36, d 37, d 38, d 39, d 40, d 41, d 42, d 43, d 44, d 45, d 46, d 47, d 48, d 49, d 50, d 51, d 52, d 53, d 54, d 55, d 56, d 57, d 58, d 59, d 60, d 61, d 62, d 63, d 64, d 65, d 66, d 67, d 68, d 69, d 70, d 71, d 72, d 73, d 74, d 75, d 76, d 77, d 78, d 79, d 80, d 81, d 82, d 83, d 84, d 85, d 86, d 87, d 88, d 89, d 90, d 91, d 92, d 93, d 94, d 95, d 96, d 97, d 98, d 99, d 100, d 101, d 102, d 103, d 104, d 105, d 106, d 107, d 108, d 109, d 110, d 111, d 112, d 113, d 114, d 115, d 116, d 117, d 118, d 119, d 120, d 121, d 122, d 123, d 124, d 125, d 126, d 127, d 128, d 129, d 130, d 131, d 132, d 133, d 134, d 135, d 136, d 137, d 138, d 139, d 140, d 141, d 142, d 143, d 144, d 145, d 146, d 147, d 148, d 149], [], [(regAt Tryz.prog 9 [1, 1, 1, 1, 1, 1, 0, 1, 0, 0, 1, 0, 0, 1, 1, 1, 1] 0), (.inBlock 3), (.code (codeAt Tryz.prog 9 [1, 1, 1, 1, 1, 1, 0, 1, 0, 0, 1, 1])), (.inLoop (codeAt Tryz.prog 9 [1, 1, 1, 1, 1, 1, 0, 1, 0, 0])), (.inBlock 2), (.code (codeAt Tryz.prog 9 [1, 1, 1, 1, 1, 1, 1]))]⟩, [⟨5, none, .normal, false, [d5 0, int r, int u, vp 110 0, d5 4, d5 5, vi 0, d5 7, d5 8, d5 9, d5 10, d5 11, d5 12, d5 13, d5 14, d5 15, d5 16, d5 17, d5 18, d5 19, d5 20, d5 21, d5 22, d5 23, d5 24, d5 25, d5 26, d5 27, d5 28, d5 29, d5 30, d5 31, d5 32, d5 33, d5 34, d5 35, d5 36, d5 37, d5 38, d5 39, d5 40, d5 41, d5 42, d5 43, d5 44, d5 45, d5 46, d5 47, d5 48, d5 49, d5 50, d5 51, d5 52], [], [(regAt Tryz.prog 5 [1, 0] 1), (.code (codeAt Tryz.prog 5 [1, 1]))]⟩, ⟨3, none, .normal, false, [d3 0, d3 1, d3 2, d3 3, d3 4, d3 5, d3 6, int W, d3 8, d3 9, vp 101 0, d3 11, d3 12, d3 13, d3 14, d3 15, d3 16, d3 17, d3 18, d3 19, d3 20, d3 21, d3 22, d3 23, d3 24, d3 25, d3 26, d3 27, d3 28, d3 29, d3 30, d3 31, d3 32, d3 33, d3 34, d3 35, d3 36, d3 37, d3 38, d3 39, d3 40, d3 41, d3 42, d3 43, d3 44, d3 45, d3 46, d3 47, d3 48, d3 49, d3 50, d3 51, d3 52, d3 53, d3 54, d3 55, d3 56, d3 57, d3 58, d3 59, d3 60], [], [(regAt Tryz.prog 3 [1, 1, 1, 1, 0] 3), (.code .ret)]⟩], szW i + 68,
  blocksOf win ([oneA, oneB, setB true x N C sl, setB true x N C sl, row cs, .row [vi 1, .slice (some ⟨114, 0, none⟩) n n] 34 false, .row (setup true x N C (.slice (some ⟨118, 0, none⟩) n n) ++ [(match i with | 0 => .slice none 0 0 | _ + 1 => .slice (some ⟨szW i - 1, 0, none⟩) i i), .slice none 0 0, .pointer none, .pointer none, vi 0, .slice none 0 0, vi 0, vi 0, vi 0, vi 0, .pointer none, vi 0, .slice none 0 0]) 52 false] ++ (match i with | 0 => [] | _ + 1 => [.row ps 55 true]))⟩
noncomputable abbrev sX (win : CB) (x : Nat) (N C : Int) (sl : Value) (r u W : Int) (n : Nat) (cs : List Int) (i : Nat) (ps : List Value) (d d5 d3 : Nat → Value) : St := (stX win x N C sl r u W n cs i ps d d5 d3).stw (keysW i) 33
def szL (j : Nat) : Nat := 124 + 70 * 8 + 8 * j
/-- Ahead of the round of client j + 1 (pv: what the world has of its places, qs: the clients laid so far). -/
noncomputable def stL (win : CB) (x : Nat) (N C : Int) (sl : Value) (r u W : Int) (n : Nat) (cs : List Int) (pv : Value) (j : Nat) (qs : List Value) (d d5 d3 : Nat → Value) : Snap := ⟨⟨9, none, .normal, false, [d 0, vp 111 0, d 2, d 3, vp 116 0, d 5, d 6, d 7, vp 117 0, d 9, d 10, d 11, d 12, vi (j + 1), d 14, d 15, d 16, d 17, d 18, d 19, d 20, d 21, d 22, d 23, d 24, d 25, d 26, d 27, d 28, d 29, d 30, d 31, d 32, d 33, d 34, d 35, d 36, d 37, d 38, d 39, d 40, d 41, d 42, d 43, d 44, d 45, d 46, d 47, d 48, d 49, d 50, d 51, d 52, d 53, d 54, d 55, d 56, d 57, d 58, d 59, d 60, d 61, d 62, d 63, d 64, d 65, d 66, d 67, d 68, d 69, d 70, d 71, d 72, d 73, d 74, d 75, d 76, d 77, d 78, d 79, d 80, d 81, d 82, d 83, d 84, d 85, d 86, d 87, d 88, d 89, d 90, d 91, d 92, d 93, d 94, d 95, d 96, d 97, d 98, d 99, d 100, d 101, d 102, d 103, d 104, d 105, d 106, d 107, d 108, d 109, d 110, d 111, d 112, d 113, d 114, d 115, d 116, d 117, d 118, d 119, d 120, d 121, d 122, d 123, d 124, d 125, d 126, d 127, d 128, d 129, d 130, d 131, d 132, d 133, d 134, d 135, d 136, d 137, d 138, d 139, d 140, d 141, d 142, d 143, d 144, d 145, d 146, d 147, d 148, d 149], [], [(regAt Tryz.prog 9 [1, 1, 1, 1, 1, 1, 1, 0, 1, 0, 0, 0, 0] 0), (.code (codeAt Tryz.prog 9 [1, 1, 1, 1, 1, 1, 1, 0, 1, 0, 0, 0, 1])), (.code (codeAt Tryz.prog 9 [1, 1, 1, 1, 1, 1, 1, 0, 1, 0, 0, 1])), (.inLoop (codeAt Tryz.prog 9 [1, 1, 1, 1, 1, 1, 1, 0, 1, 0, 0])), (.inBlock 4), (.code (codeAt Tryz.prog 9 [1, 1, 1, 1, 1, 1, 1, 1]))]⟩, [⟨5, none, .normal, false, [d5 0, int r, int u, vp 110 0, d5 4, d5 5, vi 0, d5 7, d5 8, d5 9, d5 10, d5 11, d5 12, d5 13, d5 14, d5 15, d5 16, d5 17, d5 18, d5 19, d5 20, d5 21, d5 22, d5 23, d5 24, d5 25, d5 26, d5 27, d5 28, d5 29, d5 30, d5 31, d5 32, d5 33, d5 34, d5 35, d5 36, d5 37, d5 38, d5 39, d5 40, d5 41, d5 42, d5 43, d5 44, d5 45, d5 46, d5 47, d5 48, d5 49, d5 50, d5 51, d5 52], [], [(regAt Tryz.prog 5 [1, 0] 1), (.code (codeAt Tryz.prog 5 [1, 1]))]⟩, ⟨3, none, .normal, false, [d3 0, d3 1, d3 2, d3 3, d3 4, d3 5, d3 6, int W, d3 8, d3 9, vp 101 0, d3 11, d3 12, d3 13, d3 14, d3 15, d3 16, d3 17, d3 18, d3 19, d3 20, d3 21, d3 22, d3 23, d3 24, d3 25, d3 26, d3 27, d3 28, d3 29, d3 30, d3 31, d3 32, d3 33, d3 34, d3 35, d3 36, d3 37, d3 38, d3 39, d3 40, d3 41, d3 42, d3 43, d3 44, d3 45, d3 46, d3 47, d3 48, d3 49, d3 50, d3 51, d3 52, d3 53, d3 54, d3 55, d3 56, d3 57, d3 58, d3 59, d3 60], [], [(regAt Tryz.prog 3 [1, 1, 1, 1, 0] 3), (.code .ret)]⟩], szL j,
  blocksOf win ([oneA, oneB, setB true x N C sl, setB true x N C sl, row cs, .row [vi 1, .slice (some ⟨114, 0, none⟩) n n] 34 false, .row (setup true x N C (.slice (some ⟨118, 0, none⟩) n n) ++ [pv, (match j with | 0 => .slice none 0 0 | _ + 1 => .slice (some ⟨szL j - 1, 0, none⟩) j j), .pointer none, .pointer none, vi 0, .slice none 0 0, vi 0, vi 0, vi 0, vi 0, .pointer none, vi 0, .slice none 0 0]) 52 false] ++ (match j with | 0 => [] | _ + 1 => [.row qs 68 true]))⟩
def keysL (j : Nat) : List Nat := keysOf ([100, 101, 110, 111, 114, 116, 117] ++ (match j with | 0 => [] | _ + 1 => [szL j - 1]))
noncomputable abbrev sL (win : CB) (x : Nat) (N C : Int) (sl : Value) (r u W : Int) (n : Nat) (cs : List Int) (pv : Value) (j : Nat) (qs : List Value) (d d5 d3 : Nat → Value) : St := (stL win x N C sl r u W n cs pv j qs d d5 d3).stw (keysL j) 33
def szY : Nat := 124 + 70 * 8 + 8 * 16 + 10
/-- Bound, behind made: there is a world. -/
noncomputable def stY (win : CB) (x : Nat) (N C : Int) (sl : Value) (r u W : Int) (d d3 : Nat → Value) : Snap := ⟨⟨5, none, .normal, false, [d 0, int r, int u, vp 110 0, d 4, d 5, vi 0, d 7, vi 0, d 9, d 10, d 11, d 12, d 13, d 14, d 15, d 16, d 17, d 18, d 19, d 20, d 21, d 22, d 23, d 24, d 25, d 26, d 27, d 28, d 29, d 30, d 31, d 32, d 33, d 34, d 35, d 36, d 37, d 38, d 39, d 40, d 41, d 42, d 43, d 44, d 45, d 46, d 47, d 48, d 49, d 50, d 51, d 52], [], [(regAt Tryz.prog 5 [1, 1, 0, 0] 0), (.code (codeAt Tryz.prog 5 [1, 1, 0, 1])), (.code (codeAt Tryz.prog 5 [1, 1, 1]))]⟩, [⟨3, none, .normal, false, [d3 0, d3 1, d3 2, d3 3, d3 4, d3 5, d3 6, int W, d3 8, d3 9, vp 101 0, d3 11, d3 12, d3 13, d3 14, d3 15, d3 16, d3 17, d3 18, d3 19, d3 20, d3 21, d3 22, d3 23, d3 24, d3 25, d3 26, d3 27, d3 28, d3 29, d3 30, d3 31, d3 32, d3 33, d3 34, d3 35, d3 36, d3 37, d3 38, d3 39, d3 40, d3 41, d3 42, d3 43, d3 44, d3 45, d3 46, d3 47, d3 48, d3 49, d3 50, d3 51, d3 52, d3 53, d3 54, d3 55, d3 56, d3 57, d3 58, d3 59, d3 60], [], [(regAt Tryz.prog 3 [1, 1, 1, 1, 0] 3), (.code .ret)]⟩], szY, blocksOf win [oneA, oneB, setB true x N C sl]⟩
noncomputable abbrev sY (win : CB) (x : Nat) (N C : Int) (sl : Value) (r u W : Int) (d d3 : Nat → Value) : St := (stY win x N C sl r u W d d3).stw (keysOf [100, 101, 110]) 33
/-- Behind the first call of Bound: it has answered V. -/
noncomputable def stZ (win : CB) (W V : Int) (d : Nat → Value) : Snap := ⟨⟨3, none, .normal, false, [d 0, d 1, d 2, d 3, d 4, d 5, d 6, int W, d 8, d 9, vp 101 0, d 11, d 12, d 13, d 14, d 15, d 16, d 17, d 18, d 19, d 20, d 21, d 22, d 23, d 24, d 25, d 26, d 27, d 28, d 29, d 30, d 31, d 32, d 33, d 34, d 35, d 36, d 37, d 38, d 39, d 40, d 41, d 42, d 43, d 44, d 45, d 46, d 47, d 48, d 49, d 50, d 51, d 52, int V, d 54, d 55, d 56, d 57, d 58, d 59, d 60], [], [(regAt Tryz.prog 3 [1, 1, 1, 1, 0] 4), (.code .ret)]⟩, [], szY + 10, blocksOf win [oneA, oneB]⟩
noncomputable abbrev sZ (win : CB) (W V : Int) (d : Nat → Value) : St := (stZ win W V d).stw (keysOf [100, 101]) 33
def csReg (i : Nat) (o : Option (List Value × (Bool × Snap))) (k : Nat) : Value := match o with
  | some (_, (_, T)) => match T.cs[i]? with
    | some f => f.tm.getD k un
    | none => un
  | none => un
/-- config.Settings of what is handed on. -/
def setHook : Hook := fun g l N => match Nat.beq g 7 with
  | true => match l with
    | [.agg ⟨[.chan (some a), .chan (some b), .chan (some c), .chan (some d), .chan (some e)]⟩] => match and (Nat.beq a 0) (and (Nat.beq b 1) (and (Nat.ble 100 c) (and (Nat.beq d 3) (Nat.beq e 4)))) with
      | true => some (vi 0, N)
      | false => match and (Nat.beq a 5) (and (Nat.beq b 6) (and (Nat.beq c 7) (and (Nat.beq d 8) (Nat.beq e 9)))) with
        | true => some (vi 1, N)
        | false => none
    | _ => none
  | false => none
noncomputable def scHook : Hook := hooks [setHook, chkHook]
noncomputable def srHook : Hook := hooks [setHook, chkHook, roleHook]
noncomputable abbrev RS : Rec := fRec Tryz.prog scHook 1000 60
noncomputable abbrev RR : Rec := fRec Tryz.prog srHook 1000 60
noncomputable abbrev oOut (win : CB) (x : Nat) (N C : Int) (sl : Value) (r u W : Int) (n : Nat) (cs : List Int) (i : Nat) (ps : List Value) (d d5 d3 : Nat → Value) := walkTo Tryz.prog RR [.tell 9 75 (.bool true), .call 14, .tell 9 89 (.bool true), .call 7, .stop 9 115] (keysW i) 33 (szW i + 68) (sW win x N C sl r u W n cs i ps d d5 d3)
abbrev Out (win : CB) (x : Nat) (N C : Int) (sl : Value) (r u W : Int) (n : Nat) (cs : List Int) (i : Nat) (ps : List Value) (d d5 d3 : Nat → Value) : Prop := oOut win x N C sl r u W n cs i ps d d5 d3 = some ([.bool (decide (Int.ofNat (i + 1) ≤ N)), .bool (roleI cs (i + 1) == 0)], (true, stX win x N C sl r u W n cs i ps (topReg (oOut win x N C sl r u W n cs i ps d d5 d3)) d5 d3))
noncomputable abbrev oApp (win : CB) (x : Nat) (N C : Int) (sl : Value) (r u W : Int) (n : Nat) (cs : List Int) (i : Nat) (ps : List Value) (d d5 d3 : Nat → Value) := walkTo Tryz.prog RR [.stop 9 72] (keysW (i + 1)) 33 (szW (i + 1)) (sX win x N C sl r u W n cs i ps d d5 d3)
abbrev App (win : CB) (x : Nat) (N C : Int) (sl : Value) (r u W : Int) (n : Nat) (cs : List Int) (i : Nat) (ps : List Value) (d d5 d3 : Nat → Value) : Prop := oApp win x N C sl r u W n cs i ps d d5 d3 = some ([], (true, stW win x N C sl r u W n cs (i + 1) (ps ++ [vp (szW i + 4) 0]) (topReg (oApp win x N C sl r u W n cs i ps d d5 d3)) d5 d3))
noncomputable abbrev oEnd (win : CB) (x : Nat) (N C : Int) (sl : Value) (r u W : Int) (n : Nat) (cs : List Int) (i : Nat) (ps : List Value) (d d5 d3 : Nat → Value) := walkTo Tryz.prog RR [.tell 9 75 (.bool false), .stop 9 125] (keysL 0) 33 (szL 0) (sW win x N C sl r u W n cs i ps d d5 d3)
abbrev End (win : CB) (x : Nat) (N C : Int) (sl : Value) (r u W : Int) (n : Nat) (cs : List Int) (i : Nat) (ps : List Value) (d d5 d3 : Nat → Value) : Prop := oEnd win x N C sl r u W n cs i ps d d5 d3 = some ([.bool (decide (Int.ofNat (i + 1) ≤ N))], (true, stL win x N C sl r u W n cs (match i with | 0 => .slice none 0 0 | _ + 1 => .slice (some ⟨szW i - 1, 0, none⟩) i i) 0 [] (topReg (oEnd win x N C sl r u W n cs i ps d d5 d3)) d5 d3))
noncomputable abbrev oCli (win : CB) (x : Nat) (N C : Int) (sl : Value) (r u W : Int) (n : Nat) (cs : List Int) (pv : Value) (j : Nat) (qs : List Value) (d d5 d3 : Nat → Value) := walkTo Tryz.prog RS [.tell 9 128 (.bool true), .call 12, .tell 18 16 (.bool false), .stop 9 125] (keysL (j + 1)) 33 (szL (j + 1)) (sL win x N C sl r u W n cs pv j qs d d5 d3)
abbrev Cli (win : CB) (x : Nat) (N C : Int) (sl : Value) (r u W : Int) (n : Nat) (cs : List Int) (pv : Value) (j : Nat) (qs : List Value) (d d5 d3 : Nat → Value) (q : Value) : Prop := oCli win x N C sl r u W n cs pv j qs d d5 d3 = some ([.bool (decide (Int.ofNat (j + 1) ≤ C)), .bool (chkI cs != 0)], (true, stL win x N C sl r u W n cs pv (j + 1) (qs ++ [q]) (topReg (oCli win x N C sl r u W n cs pv j qs d d5 d3)) d5 d3))
noncomputable abbrev oFin (win : CB) (x : Nat) (N C : Int) (sl : Value) (r u W : Int) (n : Nat) (cs : List Int) (pv : Value) (j : Nat) (qs : List Value) (d d5 d3 : Nat → Value) := walkTo Tryz.prog RS [.tell 9 128 (.bool false), .stop 5 18] (keysOf [100, 101, 110]) 33 szY (sL win x N C sl r u W n cs pv j qs d d5 d3)
abbrev Fin' (win : CB) (x : Nat) (N C : Int) (sl : Value) (r u W : Int) (n : Nat) (cs : List Int) (pv : Value) (j : Nat) (qs : List Value) (d d5 d3 : Nat → Value) : Prop := oFin win x N C sl r u W n cs pv j qs d d5 d3 = some ([.bool (decide (Int.ofNat (j + 1) ≤ C))], (true, stY win x N C sl r u W (topReg (oFin win x N C sl r u W n cs pv j qs d d5 d3)) d3))
/-- node.New's answer: 161: the chain may not be; 200: the node is not in it. -/
def nodeE (cs : List Int) (id : Nat) : Int := bif okC cs then (bif roleI cs id == 0 then 200 else 0) else 161
def szN (i : Nat) : Nat := szW i + 7
abbrev nodeArgs (i x n : Nat) : List Value := [.int .i64 (.ofNat (i + 1)), .pointer (some ⟨szN i - 1, 0, none⟩), conf 114 n, .agg (toks true x).toArray]
abbrev storeA : CB := .row [.pointer none, vi 0, .bool true] 195 false
abbrev storeB (i : Nat) : CB := .row [vi 0, vi 0, vp (szN i - 2) 0] 130 false
abbrev nodeKeys (i : Nat) : List Nat := [114, szN i - 2, szN i - 1]
abbrev nodeV (i : Nat) (cs : List Int) : Value := .tuple #[.pointer (bif nodeE cs (i + 1) == 0 then some ⟨szN i + 12, 0, none⟩ else none), .int .i64 (nodeE cs (i + 1))]
def pickN (l : List Value) (N : CH) : Option (Nat × (Nat × (Nat × List Int))) := match l with
  | [.int .i64 (.ofNat id), .pointer (some ⟨sp, 0, none⟩), .agg ⟨[.int .i64 (.ofNat e), .slice (some ⟨b, 0, none⟩) n c]⟩, .agg ⟨[.chan (some a0), .chan (some a1), .chan (some a2), .chan (some a3), .chan (some a4)]⟩] =>
    match and (Nat.ble 1 id) (and (Nat.ble id 8) (and (Nat.beq e 1) (and (Nat.beq n c) (and (Nat.beq b 114) (and (Nat.beq a0 0) (and (Nat.beq a1 1) (and (Nat.ble 100 a2) (and (Nat.beq a3 3) (Nat.beq a4 4))))))))) with
    | true => match and (Nat.beq sp (szN (id - 1) - 1)) (and (Nat.beq N.sz (szN (id - 1))) (and (beqOC (N.get (szN (id - 1) - 2)) (some storeA)) (beqOC (N.get (szN (id - 1) - 1)) (some (storeB (id - 1)))))) with
      | true => match N.get 114 with
        | some (.row c t true) => match ints? .i64 c with
          | some cs => match and (Nat.beq cs.length n) (and (Nat.beq t 3) (and (Nat.ble 1 n) (Nat.ble n 8))) with
            | true => some (id - 1, (a2 - 100, (n, cs)))
            | false => none
          | none => none
        | _ => none
      | false => none
    | false => none
  | _ => none
def nodeHook : Hook := fun g l N => match Nat.beq g 16 with
  | true => match pickN l N with
    | some (i, (_, (_, cs))) => some (nodeV i cs, N.pushL (List.replicate 23 .dead))
    | none => none
  | false => none
noncomputable def snHook : Hook := hooks [setHook, chkHook, roleHook, nextHook]
noncomputable abbrev RN : Rec := fRec Tryz.prog snHook 1000 60
noncomputable abbrev nodeRun (q : List Leg) (kd : CallKind) (i x n : Nat) (cs : List Int) := (kenter Tryz.prog 16 (nodeArgs i x n) kd).bind (fun s => walkMem Tryz.prog RN q 16 kd (List.range (szN i)) (szN i) (szN i + 23) ⟨s, [], CH.small (szN i) (nodeKeys i) [some (row cs), some storeA, some (storeB i)]⟩)
abbrev Nod1 (kd : CallKind) (i x n : Nat) (cs : List Int) : Prop := nodeRun [.call 12, .tell 16 27 (.bool true)] kd i x n cs = some ([.bool (chkI cs != 0)], (some (.tuple #[.pointer none, .int .i64 (chkI cs)]), true))
abbrev Nod2 (kd : CallKind) (i x n : Nat) (cs : List Int) : Prop := nodeRun [.call 12, .tell 16 27 (.bool false), .call 14, .tell 16 32 (.bool true)] kd i x n cs = some ([.bool (chkI cs != 0), .bool (roleI cs (i + 1) == 0)], (some (.tuple #[.pointer none, vi 200]), true))
abbrev Nod3 (kd : CallKind) (i x n : Nat) (cs : List Int) : Prop := [true, false].map (fun b => nodeRun [.call 12, .tell 16 27 (.bool false), .call 14, .tell 16 32 (.bool false), .call 7, .tell 16 59 (.bool b)] kd i x n cs) = [true, false].map (fun b => some ([.bool (chkI cs != 0), .bool (roleI cs (i + 1) == 0), .bool (decide (nextI cs (i + 1) > 0))], (some (.tuple #[vp (szN i + 12) 0, vi 0]), true)))
noncomputable def swHook : Hook := hooks [setHook, chkHook, roleHook, nodeHook]
noncomputable abbrev RW : Rec := fRec Tryz.prog swHook 1000 60
noncomputable abbrev oIn (win : CB) (x : Nat) (N C : Int) (sl : Value) (r u W : Int) (n : Nat) (cs : List Int) (i : Nat) (ps : List Value) (d d5 d3 : Nat → Value) := walkTo Tryz.prog RW [.tell 9 75 (.bool true), .call 14, .tell 9 89 (.bool false), .tell 9 114 (.bool false), .stop 9 115] (keysW i) 33 (szW i + 68) (sW win x N C sl r u W n cs i ps d d5 d3)
abbrev In (win : CB) (x : Nat) (N C : Int) (sl : Value) (r u W : Int) (n : Nat) (cs : List Int) (i : Nat) (ps : List Value) (d d5 d3 : Nat → Value) : Prop := oIn win x N C sl r u W n cs i ps d d5 d3 = some ([.bool (decide (Int.ofNat (i + 1) ≤ N)), .bool (roleI cs (i + 1) == 0), .bool (nodeE cs (i + 1) != 0)], (true, stX win x N C sl r u W n cs i ps (topReg (oIn win x N C sl r u W n cs i ps d d5 d3)) d5 d3))
abbrev lawArgs (good : Bool) (x : Nat) (N C : Int) (sl : Value) (r u : Int) : List Value := [setV good x N C sl, int r, int u]
abbrev In4 (a b c d : Bool) : List Leg := [.tell 6 9 (.bool a), .tell 6 13 (.bool b), .tell 6 9 (.bool c), .tell 6 13 (.bool d)]
abbrev us4 (N C : Int) : List Value := [.bool (decide (N ≥ 1)), .bool (decide (N ≤ 8)), .bool (decide (C ≥ 0)), .bool (decide (C ≤ 16))]
abbrev A (c : List Value) (good : Bool) (x : Nat) (N C : Int) (sl : Value) (r u : Int) (q : List Leg) (us : List Value) (b : Bool) : Prop := (kenter Tryz.prog 3 (lawArgs good x N C sl r u) .normal).bind (fun s => walkTo Tryz.prog RS (q ++ [.stop 3 13]) (keysOf [33]) 33 100 ⟨s, [], CH.pane c⟩) = some (us, (true, stM1 (.win c) good x N C sl r u b))
noncomputable abbrev oB (win : CB) (good : Bool) (x : Nat) (N C : Int) (sl : Value) (r u : Int) (b : Bool) (q : List Leg) := walkTo Tryz.prog RS (q ++ [.stop 3 50]) (keysOf [33, 100, 101]) 33 110 (sM1 win good x N C sl r u b)
abbrev B (win : CB) (good : Bool) (x : Nat) (N C : Int) (sl : Value) (r u : Int) (b : Bool) (q : List Leg) (us : List Value) (W : Int) : Prop := oB win good x N C sl r u b q = some (us, (true, stB win good x N C sl r u W (topReg (oB win good x N C sl r u b q))))
noncomputable abbrev oM (win : CB) (x : Nat) (N C : Int) (sl : Value) (r u W : Int) (n : Nat) (cs : List Int) (d : Nat → Value) (q : List Leg) := walkTo Tryz.prog RS (q ++ [.stop 9 72]) (keysW 0) 33 (szW 0) (sB win true x N C sl r u W d)
abbrev Mad (win : CB) (x : Nat) (N C : Int) (sl : Value) (r u W : Int) (n : Nat) (cs : List Int) (d : Nat → Value) (q : List Leg) (us : List Value) : Prop := oM win x N C sl r u W n cs d q = some (us, (true, stW win x N C sl r u W n cs 0 [] (topReg (oM win x N C sl r u W n cs d q)) (csReg 0 (oM win x N C sl r u W n cs d q)) (csReg 1 (oM win x N C sl r u W n cs d q))))
noncomputable abbrev oC (win : CB) (good : Bool) (x : Nat) (N C : Int) (sl : Value) (r u W : Int) (d : Nat → Value) (q : List Leg) := walkTo Tryz.prog RS (q ++ [.stop 3 54]) (keysOf [100, 101]) 33 (szY + 10) (sB win good x N C sl r u W d)
abbrev Cz (win : CB) (good : Bool) (x : Nat) (N C : Int) (sl : Value) (r u W : Int) (d : Nat → Value) (q : List Leg) (us : List Value) : Prop := oC win good x N C sl r u W d q = some (us, (true, stZ win W 0 (topReg (oC win good x N C sl r u W d q))))
noncomputable abbrev oY (win : CB) (x : Nat) (N C : Int) (sl : Value) (r u W : Int) (d d3 : Nat → Value) (q : List Leg) := walkTo Tryz.prog RS (q ++ [.stop 3 54]) (keysOf [100, 101]) 33 (szY + 10) (sY win x N C sl r u W d d3)
abbrev Yz (win : CB) (x : Nat) (N C : Int) (sl : Value) (r u W : Int) (d d3 : Nat → Value) (q : List Leg) (us : List Value) (V : Int) : Prop := oY win x N C sl r u W d d3 q = some (us, (true, stZ win W V (topReg (oY win x N C sl r u W d d3 q))))
abbrev Zf (win : CB) (W V : Int) (d : Nat → Value) : Prop := walkFin Tryz.prog RS [.tell 3 55 (.bool true)] 3 (sZ win W V d) = some ([.bool (V == W)], (some (.bool true), true))
abbrev w64 (n : Int) : Int := IntKind.i64.wrap n
/-- The bound, as both compute it. -/
def frm (p N r u : Int) : Int := w64 (w64 (w64 (p + 2) * w64 (w64 (w64 (40 * N) + w64 (20 * w64 (u + 1))) + w64 (6 * w64 (r + 300)))) * w64 (N + 1))
def mn (r : Int) : Int := if 1048576 < r then 1048576 else r
end
end Go.Proofs.YtjoelgicffojcaaGreatDoor.wb
