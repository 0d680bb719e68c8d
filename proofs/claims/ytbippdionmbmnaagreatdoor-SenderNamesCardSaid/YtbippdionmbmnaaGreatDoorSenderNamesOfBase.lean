/-
  SenderNames: what merkle.Of leans on: the WaitGroup, and merkle.Leaf of no rows.
-/
import Derived.KernelRfl
import Derived.Test.YtbippdionmbmnaaGreatDoorProg
import Derived.Test.YtbippdionmbmnaaGreatDoorEngQy
import Derived.Test.YtbippdionmbmnaaGreatDoorSenderNamesOfSt
namespace Go.Proofs.YtbippdionmbmnaaGreatDoor.senderNames
open Go.Eng Go.Conc.Lib
set_option maxRecDepth 1000000
set_option linter.unusedVariables false
set_option linter.unusedSimpArgs false
set_option linter.unusedSectionVars false
abbrev link : WgLink := { add := 24, done := 26, wait := 29, relMerge := 45, disable := 46, enable := 47, inBubble := 48, associate := 49, fatal := 50, uOr := 51, uAdd := 52, raceRead := 53, uLoad := 54, uStore := 55, disassociate := 56, semrelease := 57, acquire := 62, isAssociated := 63, uCas := 64, raceWrite := 65, semacquire := 66, orU64 := 79, addU64 := 80, loadU64 := 81, storeU64 := 82, casU64 := 89, tWgP := 125, tUP := 127, tAssoc := 128, tWg := 107, tAU := 104, tU64 := 102, tUint := 132, tU32 := 105, tPU32 := 133, tPAU := 160, tPU64 := 162, tNoCopy := 99, tANoCopy := 100, tAlign64 := 101 }
theorem wgLib : WgLib Tryz.prog link :=
  ⟨Tryz.func24, Tryz.func26, Tryz.func29, Tryz.func45, Tryz.func46, Tryz.func47, Tryz.func48, Tryz.func49, Tryz.func50, Tryz.func51, Tryz.func52, Tryz.func53, Tryz.func54, Tryz.func55, Tryz.func56, Tryz.func57, Tryz.func62, Tryz.func63, Tryz.func64, Tryz.func65, Tryz.func66, Tryz.func79, Tryz.func80, Tryz.func81, Tryz.func82, Tryz.func89, Tryz.underlying125, Tryz.runUnderlying125, Tryz.sizeOf125, Tryz.isAgg125, Tryz.zeroValue125, Tryz.underlying127, Tryz.runUnderlying127, Tryz.sizeOf127, Tryz.isAgg127, Tryz.zeroValue127, Tryz.underlying128, Tryz.runUnderlying128, Tryz.sizeOf128, Tryz.isAgg128, Tryz.zeroValue128, Tryz.underlying107, Tryz.runUnderlying107, Tryz.sizeOf107, Tryz.isAgg107, Tryz.zeroValue107, Tryz.underlying104, Tryz.runUnderlying104, Tryz.sizeOf104, Tryz.isAgg104, Tryz.zeroValue104, Tryz.underlying102, Tryz.runUnderlying102, Tryz.sizeOf102, Tryz.isAgg102, Tryz.zeroValue102, Tryz.underlying132, Tryz.runUnderlying132, Tryz.sizeOf132, Tryz.isAgg132, Tryz.zeroValue132, Tryz.underlying105, Tryz.runUnderlying105, Tryz.sizeOf105, Tryz.isAgg105, Tryz.zeroValue105, Tryz.underlying133, Tryz.runUnderlying133, Tryz.sizeOf133, Tryz.isAgg133, Tryz.zeroValue133, Tryz.underlying160, Tryz.runUnderlying160, Tryz.sizeOf160, Tryz.isAgg160, Tryz.zeroValue160, Tryz.underlying162, Tryz.runUnderlying162, Tryz.sizeOf162, Tryz.isAgg162, Tryz.zeroValue162, Tryz.underlying0, Tryz.runUnderlying0, Tryz.sizeOf0, Tryz.isAgg0, Tryz.zeroValue0, Tryz.underlying3, Tryz.runUnderlying3, Tryz.sizeOf3, Tryz.isAgg3, Tryz.zeroValue3, Tryz.underlying4, Tryz.runUnderlying4, Tryz.sizeOf4, Tryz.isAgg4, Tryz.zeroValue4, Tryz.underlying9, Tryz.runUnderlying9, Tryz.sizeOf9, Tryz.isAgg9, Tryz.zeroValue9, Tryz.underlying20, Tryz.runUnderlying20, Tryz.sizeOf20, Tryz.isAgg20, Tryz.zeroValue20, Tryz.underlying21, Tryz.runUnderlying21, Tryz.sizeOf21, Tryz.isAgg21, Tryz.zeroValue21, (by kernel_rfl), (by kernel_rfl)⟩
local instance : Go.ConcR.Payload := ⟨3⟩
def quiet (P : Program) : Bool := P.funcs.toList.all fun fn => !fn.body.isSome || !(fn.name == "runtime.NumGoroutine")
theorem noCount {P : Program} (h : quiet P = true) : Eng.NoCount P := by
  intro f fn hf hb
  have hm : fn ∈ P.funcs.toList := by simpa using Array.mem_of_getElem? hf
  have := List.all_eq_true.1 h fn hm
  simpa [hb] using this
theorem counted : quiet Tryz.prog = true := by kernel_rfl
theorem mixed : Tryz.prog.follows .mixedOrders = true := by kernel_rfl
noncomputable def leafVal : Value := .agg leafCells.toArray
def leafArgs : List Value := [.slice none 0 0]
def isNil : List Value → Bool
  | [.slice none 0 0] => true
  | _ => false
theorem isNil_eq (l : List Value) (h : isNil l = true) : l = leafArgs := by
  unfold isNil at h
  split at h
  · rfl
  · cases h
theorem leafBody : (Tryz.prog.funcs[27]?).any (fun fn => fn.body.isSome) = true := by kernel_rfl
theorem leafRun : ((fRec Tryz.prog noHook 1000 60).call 27 leafArgs (CH.first [])).any (fun r => sameV r.1 leafVal) = true := by kernel_rfl
noncomputable def leafHook : Hook := hook1 27 isNil leafVal
theorem leafHooked [Hk] : HookOk Tryz.prog leafHook := eval_hook (noCount counted) mixed (noHook_ok _) isNil_eq leafBody (by kernel_rfl) (by kernel_rfl) leafRun
noncomputable def fin : List Value := (List.replicate 16 leafCells).flatten
noncomputable def keysI (s i : Nat) : List Nat := List.range (ofA s .normal i).sz
noncomputable def keysG (s i : Nat) : List Nat := List.range (ofG s .normal i).sz
noncomputable abbrev R0 : Rec := fRec Tryz.prog leafHook 1000 60
noncomputable abbrev eAdd (s : Nat) (kd : CallKind) (i : Nat) : Nat → Option (List (List It)) := addOne Tryz.prog R0 10000 (of_k s) (xf link) (keysG s i) (ofG s kd i) ((ofA s kd i).stw (keysI s i) (of_k s))
noncomputable abbrev eGo (s : Nat) (kd : CallKind) (i : Nat) : Option (List (List It)) := goOne Tryz.prog R0 10000 19 (of_k s) (of_kS s) (32 * i) (ofkC s i) leafCells link.done (ofkch s i) (keysI s (i + 1)) (ofA s kd (i + 1)) ((ofG s kd i).stw (keysG s i) (of_k s))
noncomputable abbrev eZero (s : Nat) (kd : CallKind) (S : St) : Option (List (List It)) := waitZero Tryz.prog R0 10000 20 (of_k s) (of_kS s) (of_sz s) (of_sz s) (.row fin 61 false) (xf link) (keysI s 16) (ofTF s kd) S
noncomputable abbrev eMore (s : Nat) (kd : CallKind) (TA : Snap) (v : Nat) (S : St) : Option (List (List It) × List (List It)) := waitMore Tryz.prog R0 10000 10 (of_k s) (of_kS s) (of_sz s) (of_sz s) (.row fin 61 false) (xf link) (keysI s 16) (keysI s 16) (ofTF s kd) TA v S
noncomputable abbrev eDis (s : Nat) (kd : CallKind) : St := disOf (of_k s) (xf link) ((ofA s kd 16).stw (keysI s 16) (of_k s))
noncomputable abbrev eB1 (s : Nat) (kd : CallKind) (w : Nat) : St := (ofB1 s kd w).stw (keysI s 16) (of_k s)
noncomputable abbrev eB2 (s : Nat) (kd : CallKind) (w : Nat) : St := (ofB2 s kd w).stw (keysI s 16) (of_k s)
theorem cellsLen : leafCells.length = 32 := by kernel_rfl
theorem finLen : fin.length = 512 := by kernel_rfl
theorem cover : covers 16 (fun i => 32 * i) (fun _ => leafCells) fin = true := by kernel_rfl
theorem allRange {n : Nat} {p : Nat → Bool} (h : (List.range n).all p = true) : ∀ i, i < n → p i = true := fun i hi => List.all_eq_true.1 h i (List.mem_range.2 hi)
end Go.Proofs.YtbippdionmbmnaaGreatDoor.senderNames
