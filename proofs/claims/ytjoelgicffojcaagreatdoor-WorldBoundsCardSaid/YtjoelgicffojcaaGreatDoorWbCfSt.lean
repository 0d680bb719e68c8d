/-
  WorldBounds: config.Check, place, Role, Next: what is asked of the kernel.
-/
import Derived.KernelRfl
import Derived.Test.YtjoelgicffojcaaGreatDoorEngYe
import Derived.Test.YtjoelgicffojcaaGreatDoorWbA
namespace Go.Proofs.YtjoelgicffojcaaGreatDoor.wb
open Go.Eng
set_option maxRecDepth 1000000
set_option linter.unusedVariables false
set_option linter.unusedSimpArgs false
set_option linter.unusedSectionVars false
abbrev okC (cs : List Int) : Bool := (plF 0 cs zs9).2
abbrev atC (cs : List Int) (id : Nat) : Int := (plF 0 cs zs9).1.getD id 0
abbrev chkI (cs : List Int) : Int := bif okC cs then 0 else 161
abbrev conf (b l : Nat) : Value := .agg #[.int .i64 1, .slice (some ⟨b, 0, none⟩) l l]
def pickC : List Value → Option (Nat × (Nat × Unit))
  | [.agg ⟨[.int .i64 (.ofNat e), .slice (some ⟨b, 0, none⟩) l c]⟩] => if and (Nat.beq e 1) (Nat.beq l c) = true then some (b, (l, ())) else none
  | _ => none
def pickI : List Value → Option (Nat × (Nat × Nat))
  | [.agg ⟨[.int .i64 (.ofNat e), .slice (some ⟨b, 0, none⟩) l c]⟩, .int .i64 (.ofNat i)] => if and (Nat.beq e 1) (and (Nat.beq l c) (and (Nat.ble 1 i) (Nat.ble i 8))) = true then some (b, (l, i)) else none
  | _ => none
noncomputable def chkHook : Hook := hookInts 12 pickC (fun _ cs => .int .i64 (chkI cs))
noncomputable def placeHook : Hook := hookInts 23 pickI (fun i cs => .int .i64 (atC cs i))
noncomputable def plChk : Hook := hooks [placesHook, chkHook]
noncomputable def pcChk : Hook := hooks [placeHook, chkHook]
noncomputable abbrev R1 : Rec := fRec Tryz.prog placesHook 1000 60
noncomputable abbrev R2 : Rec := fRec Tryz.prog plChk 1000 60
noncomputable abbrev R3 : Rec := fRec Tryz.prog pcChk 1000 60
def roleN (n j : Nat) : Nat := match j with
  | 0 => 0
  | j + 1 => if n = 1 then 4 else if j = 0 then 1 else if j + 1 = n then 3 else 2
def nextN (cs : List Int) (j : Nat) : Int := match j with
  | 0 => 0
  | j + 1 => if j + 1 = cs.length then 0 else cs.getD (j + 1) 0
noncomputable abbrev runs (R : Rec) (f : Nat) (args : List Value) (q : List Leg) (kd : CallKind) (xs : List Int) : Option (List Value × (Option Value × (Bool × Option CB))) := (kenter Tryz.prog f args kd).bind (fun s => walkEnd Tryz.prog R q f kd ⟨s, [], CH.lone (xs.map (.int .i64)) 3 true⟩)
abbrev gives (us : List Value) (v : Value) (xs : List Int) : Option (List Value × (Option Value × (Bool × Option CB))) := some (us, (some v, (true, some (row xs))))
abbrev Chk (kd : CallKind) (n : Nat) (xs : List Int) : Prop := [true, false].map (fun b => runs R1 12 [conf 32 n] [.call 19, .tell 12 32 (.bool b)] kd xs) = [true, false].map (fun b => gives [.bool (!(okC xs))] (.int .i64 (bif b then 161 else 0)) xs)
abbrev Plc0 (kd : CallKind) (n : Nat) (xs : List Int) : Prop := (List.range 8).map (fun i => runs R2 23 [conf 32 n, .int .i64 (.ofNat (i + 1))] [.call 12, .tell 23 16 (.bool true)] kd xs) = (List.range 8).map (fun i => gives [.bool (chkI xs != 0)] (.int .i64 0) xs)
abbrev Plc1 (kd : CallKind) (n : Nat) (xs : List Int) : Prop := (List.range 8).map (fun i => runs R2 23 [conf 32 n, .int .i64 (.ofNat (i + 1))] [.call 12, .tell 23 16 (.bool false), .call 19] kd xs) = (List.range 8).map (fun i => gives [.bool (chkI xs != 0)] (.int .i64 (atC xs (i + 1))) xs)
abbrev Rol (kd : CallKind) (n : Nat) (xs : List Int) : Prop := (List.range 8).map (fun i => (List.range (n + 1)).map (fun j => runs R3 14 [conf 32 n, .int .i64 (.ofNat (i + 1))] [.tell 14 8 (.int .i64 (.ofNat j))] kd xs)) = (List.range 8).map (fun i => (List.range (n + 1)).map (fun j => gives [.int .i64 (atC xs (i + 1))] (.int .i64 (.ofNat (roleN n j))) xs))
abbrev Nxt0 (kd : CallKind) (n : Nat) (xs : List Int) : Prop := (List.range 8).map (fun i => runs R3 58 [conf 32 n, .int .i64 (.ofNat (i + 1))] [.tell 58 8 (.int .i64 0)] kd xs) = (List.range 8).map (fun i => gives [.int .i64 (atC xs (i + 1))] (.int .i64 0) xs)
abbrev Nxt1 (kd : CallKind) (n : Nat) (xs : List Int) : Prop := (List.range 8).map (fun i => (List.range (n - 1)).map (fun j => runs R3 58 [conf 32 n, .int .i64 (.ofNat (i + 1))] [.tell 58 8 (.int .i64 (.ofNat (j + 1))), .call 12, .tell 91 17 (.bool false)] kd xs)) = (List.range 8).map (fun i => (List.range (n - 1)).map (fun j => gives [.int .i64 (atC xs (i + 1)), .bool (chkI xs != 0)] (.int .i64 (xs.getD (j + 1) 0)) xs))
abbrev Nxt2 (kd : CallKind) (n : Nat) (xs : List Int) : Prop := (List.range 8).map (fun i => runs R3 58 [conf 32 n, .int .i64 (.ofNat (i + 1))] [.tell 58 8 (.int .i64 (.ofNat n))] kd xs) = (List.range 8).map (fun i => gives [.int .i64 (atC xs (i + 1))] (.int .i64 0) xs)
end Go.Proofs.YtjoelgicffojcaaGreatDoor.wb
