/-
  SenderMade: what merkle.Of leans on: the WaitGroup, and merkle.Leaf of no rows.
-/
import Derived.KernelRfl
import Derived.Test.YtoaplpdbmpendaaGreatDoorProg
import Derived.Test.YtoaplpdbmpendaaGreatDoorEngQz
import Derived.Test.YtoaplpdbmpendaaGreatDoorSenderMadeOfSt
namespace Go.Proofs.YtoaplpdbmpendaaGreatDoor.senderMade
open Go.Eng Go.Conc.Lib
set_option maxRecDepth 1000000
set_option linter.unusedVariables false
set_option linter.unusedSimpArgs false
set_option linter.unusedSectionVars false
abbrev link : WgLink := { add := 58, done := 60, wait := 63, relMerge := 80, disable := 81, enable := 82, inBubble := 83, associate := 84, fatal := 85, uOr := 86, uAdd := 87, raceRead := 88, uLoad := 89, uStore := 90, disassociate := 91, semrelease := 92, acquire := 96, isAssociated := 97, uCas := 98, raceWrite := 99, semacquire := 100, orU64 := 114, addU64 := 115, loadU64 := 116, storeU64 := 117, casU64 := 122, tWgP := 170, tUP := 172, tAssoc := 173, tWg := 140, tAU := 137, tU64 := 135, tUint := 177, tU32 := 138, tPU32 := 178, tPAU := 204, tPU64 := 206, tNoCopy := 132, tANoCopy := 133, tAlign64 := 134 }
theorem wgLib : WgLib Tryz.prog link :=
  ⟨Tryz.func58, Tryz.func60, Tryz.func63, Tryz.func80, Tryz.func81, Tryz.func82, Tryz.func83, Tryz.func84, Tryz.func85, Tryz.func86, Tryz.func87, Tryz.func88, Tryz.func89, Tryz.func90, Tryz.func91, Tryz.func92, Tryz.func96, Tryz.func97, Tryz.func98, Tryz.func99, Tryz.func100, Tryz.func114, Tryz.func115, Tryz.func116, Tryz.func117, Tryz.func122, Tryz.underlying170, Tryz.runUnderlying170, Tryz.sizeOf170, Tryz.isAgg170, Tryz.zeroValue170, Tryz.underlying172, Tryz.runUnderlying172, Tryz.sizeOf172, Tryz.isAgg172, Tryz.zeroValue172, Tryz.underlying173, Tryz.runUnderlying173, Tryz.sizeOf173, Tryz.isAgg173, Tryz.zeroValue173, Tryz.underlying140, Tryz.runUnderlying140, Tryz.sizeOf140, Tryz.isAgg140, Tryz.zeroValue140, Tryz.underlying137, Tryz.runUnderlying137, Tryz.sizeOf137, Tryz.isAgg137, Tryz.zeroValue137, Tryz.underlying135, Tryz.runUnderlying135, Tryz.sizeOf135, Tryz.isAgg135, Tryz.zeroValue135, Tryz.underlying177, Tryz.runUnderlying177, Tryz.sizeOf177, Tryz.isAgg177, Tryz.zeroValue177, Tryz.underlying138, Tryz.runUnderlying138, Tryz.sizeOf138, Tryz.isAgg138, Tryz.zeroValue138, Tryz.underlying178, Tryz.runUnderlying178, Tryz.sizeOf178, Tryz.isAgg178, Tryz.zeroValue178, Tryz.underlying204, Tryz.runUnderlying204, Tryz.sizeOf204, Tryz.isAgg204, Tryz.zeroValue204, Tryz.underlying206, Tryz.runUnderlying206, Tryz.sizeOf206, Tryz.isAgg206, Tryz.zeroValue206, Tryz.underlying0, Tryz.runUnderlying0, Tryz.sizeOf0, Tryz.isAgg0, Tryz.zeroValue0, Tryz.underlying3, Tryz.runUnderlying3, Tryz.sizeOf3, Tryz.isAgg3, Tryz.zeroValue3, Tryz.underlying4, Tryz.runUnderlying4, Tryz.sizeOf4, Tryz.isAgg4, Tryz.zeroValue4, Tryz.underlying9, Tryz.runUnderlying9, Tryz.sizeOf9, Tryz.isAgg9, Tryz.zeroValue9, Tryz.underlying20, Tryz.runUnderlying20, Tryz.sizeOf20, Tryz.isAgg20, Tryz.zeroValue20, Tryz.underlying21, Tryz.runUnderlying21, Tryz.sizeOf21, Tryz.isAgg21, Tryz.zeroValue21, (by kernel_rfl), (by kernel_rfl)⟩
local instance : Go.ConcR.Payload := ⟨3⟩
def quiet (P : Program) : Bool := P.funcs.toList.all fun fn => !fn.body.isSome || !(fn.name == "runtime.NumGoroutine")
theorem noCount {P : Program} (h : quiet P = true) : Eng.NoCount P := by
  intro f fn hf hb
  have hm : fn ∈ P.funcs.toList := by simpa using Array.mem_of_getElem? hf
  have := List.all_eq_true.1 h fn hm
  simpa [hb] using this
theorem counted : quiet Tryz.prog = true := by kernel_rfl
theorem mixed : Tryz.prog.follows .mixedOrders = true := by kernel_rfl
noncomputable def leafVal : Value := .agg leafCells.toArray
def leafArgs : List Value := [.slice none 0 0]
def isNil : List Value → Bool
  | [.slice none 0 0] => true
  | _ => false
theorem isNil_eq (l : List Value) (h : isNil l = true) : l = leafArgs := by
  unfold isNil at h
  split at h
  · rfl
  · cases h
theorem leafBody : (Tryz.prog.funcs[61]?).any (fun fn => fn.body.isSome) = true := by kernel_rfl
theorem leafRun : ((fRec Tryz.prog noHook 1000 60).call 61 leafArgs (CH.first [])).any (fun r => sameV r.1 leafVal) = true := by kernel_rfl
noncomputable def leafHook : Hook := hook1 61 isNil leafVal
theorem leafHooked [Hk] : HookOk Tryz.prog leafHook := eval_hook (noCount counted) mixed (noHook_ok _) isNil_eq leafBody (by kernel_rfl) (by kernel_rfl) leafRun
noncomputable def fin : List Value := (List.replicate 16 leafCells).flatten
noncomputable def keysI (s i : Nat) : List Nat := List.range (ofA s .normal i).sz
noncomputable def keysG (s i : Nat) : List Nat := List.range (ofG s .normal i).sz
noncomputable abbrev R0 : Rec := fRec Tryz.prog leafHook 1000 60
noncomputable abbrev eAdd (s : Nat) (kd : CallKind) (i : Nat) : Nat → Option (List (List It)) := addOne Tryz.prog R0 10000 (of_k s) (xf link) (keysG s i) (ofG s kd i) ((ofA s kd i).stw (keysI s i) (of_k s))
noncomputable abbrev eGo (s : Nat) (kd : CallKind) (i : Nat) : Option (List (List It)) := goOne Tryz.prog R0 10000 19 (of_k s) (of_kS s) (32 * i) (ofkC s i) leafCells link.done (ofkch s i) (keysI s (i + 1)) (ofA s kd (i + 1)) ((ofG s kd i).stw (keysG s i) (of_k s))
noncomputable abbrev eZero (s : Nat) (kd : CallKind) (S : St) : Option (List (List It)) := waitZero Tryz.prog R0 10000 20 (of_k s) (of_kS s) (of_sz s) (of_sz s) (.row fin 89 false) (xf link) (keysI s 16) (ofTF s kd) S
noncomputable abbrev eMore (s : Nat) (kd : CallKind) (TA : Snap) (v : Nat) (S : St) : Option (List (List It) × List (List It)) := waitMore Tryz.prog R0 10000 10 (of_k s) (of_kS s) (of_sz s) (of_sz s) (.row fin 89 false) (xf link) (keysI s 16) (keysI s 16) (ofTF s kd) TA v S
noncomputable abbrev eDis (s : Nat) (kd : CallKind) : St := disOf (of_k s) (xf link) ((ofA s kd 16).stw (keysI s 16) (of_k s))
noncomputable abbrev eB1 (s : Nat) (kd : CallKind) (w : Nat) : St := (ofB1 s kd w).stw (keysI s 16) (of_k s)
noncomputable abbrev eB2 (s : Nat) (kd : CallKind) (w : Nat) : St := (ofB2 s kd w).stw (keysI s 16) (of_k s)
theorem cellsLen : leafCells.length = 32 := by kernel_rfl
theorem finLen : fin.length = 512 := by kernel_rfl
theorem cover : covers 16 (fun i => 32 * i) (fun _ => leafCells) fin = true := by kernel_rfl
theorem allRange {n : Nat} {p : Nat → Bool} (h : (List.range n).all p = true) : ∀ i, i < n → p i = true := fun i hi => List.all_eq_true.1 h i (List.mem_range.2 hi)
end Go.Proofs.YtoaplpdbmpendaaGreatDoor.senderMade
