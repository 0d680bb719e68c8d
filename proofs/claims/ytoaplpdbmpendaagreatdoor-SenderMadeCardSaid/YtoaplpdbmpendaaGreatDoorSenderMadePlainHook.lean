/-
  SenderMade: hawserlaw17.plain of any operation, as a known call.
-/
import Derived.KernelRfl
import Derived.Test.YtoaplpdbmpendaaGreatDoorSenderMadePlainSeg
namespace Go.Proofs.YtoaplpdbmpendaaGreatDoor.senderMade
open Go.Eng
set_option maxRecDepth 1000000
set_option linter.unusedVariables false
set_option linter.unusedSimpArgs false
set_option linter.unusedSectionVars false
namespace plain
local instance : Hk := ⟨true⟩
/-- It ends so, for both kinds of call. -/
def EndsAt (S : CallKind → St) (u : Value) : Prop := ∀ kd, kd = .normal ∨ kd = .deferred → ∃ T, Eng.Reach Tryz.prog (S kd) T ∧ finV Tryz.prog 22 kd T = some u
def Two (S : CallKind → St) (o : Value) : Prop := EndsAt S o ∨ EndsAt S konst
theorem ends_of {S : CallKind → St} {u : Value} (hn : finV Tryz.prog 22 .normal (toStop Tryz.prog R 400 (S .normal)) = some u) (hd : finV Tryz.prog 22 .deferred (toStop Tryz.prog R 400 (S .deferred)) = some u) : EndsAt S u := by
  intro kd hkd
  have hr : ∀ S : St, Eng.Reach Tryz.prog S (toStop Tryz.prog R 400 S) := fun S => toStop_reach (noCount counted) mixed (fRec_le noHook 1000 60) (mkRec_ok (noCount counted) mixed (noHook_ok _) 1000 60) 400 S
  rcases hkd with rfl | rfl
  · exact ⟨_, hr _, hn⟩
  · exact ⟨_, hr _, hd⟩
theorem step1 {S : CallKind → St} {T : CallKind → Snap} {keys : List Nat} {n : Nat} {u : Value} (h : ∀ kd, (krun Tryz.prog R n (S kd)).map (St.snap keys) = some (T kd)) (hr : EndsAt (fun kd => (T kd).st keys) u) : EndsAt S u := by
  intro kd hkd
  obtain ⟨T', h1, h2⟩ := hr kd hkd
  exact ⟨T', (reach_cut (noCount counted) mixed (noHook_ok _) (h kd)).trans h1, h2⟩
theorem step2 {S : CallKind → St} {T : CallKind → Snap} {keys : List Nat} {n : Nat} {o : Value} (h : ∀ kd, (krun Tryz.prog R n (S kd)).map (St.snap keys) = some (T kd)) (hr : Two (fun kd => (T kd).st keys) o) : Two S o := hr.imp (step1 h) (step1 h)
theorem from65 (k : Int) (c : UInt8) (r val : List UInt8) (ver : Int) (o : Value) (h : Two (fun kd => (t90 k (c :: r) val ver kd false).st keys90) o) : Two (fun kd => (t65 k (c :: r) val ver kd true).st keys65) o := by
  cases hb : decide (Int.ofNat (c :: r).length ≤ 1024) with
  | false =>
    refine step2 (T := fun kd => t69 k (c :: r) val ver kd false) (keys := keys69) (n := 4) (fun kd => ?_) (.inr (ends_of (longn k c r val ver) (longd k c r val ver)))
    have hx := two k c r val ver kd
    rw [hb] at hx
    exact hx
  | true =>
    refine step2 (T := fun kd => t69 k (c :: r) val ver kd true) (keys := keys69) (n := 4) (fun kd => ?_) ?_
    · have hx := two k c r val ver kd
      rw [hb] at hx
      exact hx
    obtain ⟨⟨⟨v, hv⟩⟩⟩ := c
    cases v with
    | zero => exact .inr (ends_of (nuln k hv r val ver) (nuld k hv r val ver))
    | succ x =>
      cases hb2 : decide (Int.ofNat val.length > 65536) with
      | true =>
        refine step2 (T := fun kd => t90 k (⟨⟨⟨x + 1, hv⟩⟩⟩ :: r) val ver kd true) (keys := keys90) (n := 21) (fun kd => ?_) (.inr (ends_of (largen k _ val ver) (larged k _ val ver)))
        have hx := three k x hv r val ver kd
        rw [hb2] at hx
        exact hx
      | false =>
        refine step2 (T := fun kd => t90 k (⟨⟨⟨x + 1, hv⟩⟩⟩ :: r) val ver kd false) (keys := keys90) (n := 21) (fun kd => ?_) h
        have hx := three k x hv r val ver kd
        rw [hb2] at hx
        exact hx
theorem from90_1 (key val : List UInt8) (ver : Int) : Two (fun kd => (t90 (Int.ofNat 1) key val ver kd false).st keys90) (opv (Int.ofNat 1) key val ver) := by
  cases ver with
  | negSucc m =>
    cases m with
    | zero => exact .inr (ends_of (least1n key val) (least1d key val))
    | succ m => exact .inr (ends_of (low1n key val m) (low1d key val m))
  | ofNat m =>
    cases m with
    | zero => exact .inl (ends_of (nil1n key val) (nil1d key val))
    | succ m =>
      cases hb : decide (Int.ofNat (m + 1) > 1152921504606846976) with
      | true =>
        refine step2 (T := fun kd => t113_1 key val (m + 1) kd true) (keys := keys113) (n := 23) (fun kd => ?_) (.inr (ends_of (high1n key val m) (high1d key val m)))
        have hx := four1 key val m kd
        rw [hb] at hx
        exact hx
      | false =>
        refine step2 (T := fun kd => t113_1 key val (m + 1) kd false) (keys := keys113) (n := 23) (fun kd => ?_) (.inr (ends_of (last1n key val m) (last1d key val m)))
        have hx := four1 key val m kd
        rw [hb] at hx
        exact hx
theorem of1 (key val : List UInt8) (ver : Int) : Two (start (Int.ofNat 1) key val ver) (opv (Int.ofNat 1) key val ver) := by
  cases key with
  | nil => exact .inr (ends_of (empty1n val ver) (empty1d val ver))
  | cons c r =>
    refine step2 (T := fun kd => t65 (Int.ofNat 1) (c :: r) val ver kd true) (keys := keys65) (n := 65) (fun kd => ?_) (from65 _ c r val ver _ (from90_1 (c :: r) val ver))
    have hb : decide (Int.ofNat (c :: r).length ≥ 1) = true := decide_eq_true (by show ((r.length + 1 : Nat) : Int) ≥ 1; omega)
    have hx := one1 c r val ver kd
    rw [hb] at hx
    exact hx
theorem from90_2 (key val : List UInt8) (ver : Int) : Two (fun kd => (t90 (Int.ofNat 2) key val ver kd false).st keys90) (opv (Int.ofNat 2) key val ver) := by
  cases hb0 : (!((str val).toList == (ByteArray.mk #[]).toList)) with
  | true =>
    refine step2 (T := fun kd => t98 key val ver kd true) (keys := keys98) (n := 8) (fun kd => ?_) (.inr (ends_of (deln key val ver) (deld key val ver)))
    have hx := some2 key val ver kd
    rw [hb0] at hx
    exact hx
  | false =>
  refine step2 (T := fun kd => t98 key val ver kd false) (keys := keys98) (n := 8) (fun kd => by have hx := some2 key val ver kd; rw [hb0] at hx; exact hx) ?_
  cases ver with
  | negSucc m =>
    cases m with
    | zero => exact .inr (ends_of (least2n key val) (least2d key val))
    | succ m => exact .inr (ends_of (low2n key val m) (low2d key val m))
  | ofNat m =>
    cases m with
    | zero => exact .inl (ends_of (nil2n key val) (nil2d key val))
    | succ m =>
      cases hb : decide (Int.ofNat (m + 1) > 1152921504606846976) with
      | true =>
        refine step2 (T := fun kd => t113_2 key val (m + 1) kd true) (keys := keys113) (n := 15) (fun kd => ?_) (.inr (ends_of (high2n key val m) (high2d key val m)))
        have hx := four2 key val m kd
        rw [hb] at hx
        exact hx
      | false =>
        refine step2 (T := fun kd => t113_2 key val (m + 1) kd false) (keys := keys113) (n := 15) (fun kd => ?_) (.inr (ends_of (last2n key val m) (last2d key val m)))
        have hx := four2 key val m kd
        rw [hb] at hx
        exact hx
theorem of2 (key val : List UInt8) (ver : Int) : Two (start (Int.ofNat 2) key val ver) (opv (Int.ofNat 2) key val ver) := by
  cases key with
  | nil => exact .inr (ends_of (empty2n val ver) (empty2d val ver))
  | cons c r =>
    refine step2 (T := fun kd => t65 (Int.ofNat 2) (c :: r) val ver kd true) (keys := keys65) (n := 65) (fun kd => ?_) (from65 _ c r val ver _ (from90_2 (c :: r) val ver))
    have hb : decide (Int.ofNat (c :: r).length ≥ 1) = true := decide_eq_true (by show ((r.length + 1 : Nat) : Int) ≥ 1; omega)
    have hx := one2 c r val ver kd
    rw [hb] at hx
    exact hx
theorem from90_3 (key val : List UInt8) (ver : Int) : Two (fun kd => (t90 (Int.ofNat 3) key val ver kd false).st keys90) (opv (Int.ofNat 3) key val ver) := by
  cases ver with
  | negSucc m =>
    cases m with
    | zero => exact .inr (ends_of (least3n key val) (least3d key val))
    | succ m => exact .inr (ends_of (low3n key val m) (low3d key val m))
  | ofNat m =>
    cases m with
    | zero => exact .inl (ends_of (nil3n key val) (nil3d key val))
    | succ m =>
      cases hb : decide (Int.ofNat (m + 1) > 1152921504606846976) with
      | true =>
        refine step2 (T := fun kd => t113_3 key val (m + 1) kd true) (keys := keys113) (n := 23) (fun kd => ?_) (.inr (ends_of (high3n key val m) (high3d key val m)))
        have hx := four3 key val m kd
        rw [hb] at hx
        exact hx
      | false =>
        refine step2 (T := fun kd => t113_3 key val (m + 1) kd false) (keys := keys113) (n := 23) (fun kd => ?_) (.inl (ends_of (last3n key val m) (last3d key val m)))
        have hx := four3 key val m kd
        rw [hb] at hx
        exact hx
theorem of3 (key val : List UInt8) (ver : Int) : Two (start (Int.ofNat 3) key val ver) (opv (Int.ofNat 3) key val ver) := by
  cases key with
  | nil => exact .inr (ends_of (empty3n val ver) (empty3d val ver))
  | cons c r =>
    refine step2 (T := fun kd => t65 (Int.ofNat 3) (c :: r) val ver kd true) (keys := keys65) (n := 65) (fun kd => ?_) (from65 _ c r val ver _ (from90_3 (c :: r) val ver))
    have hb : decide (Int.ofNat (c :: r).length ≥ 1) = true := decide_eq_true (by show ((r.length + 1 : Nat) : Int) ≥ 1; omega)
    have hx := one3 c r val ver kd
    rw [hb] at hx
    exact hx
theorem either (k : Int) (key val : List UInt8) (ver : Int) : Two (start k key val ver) (opv k key val ver) := by
  cases k with
  | negSucc n =>
    cases n with
    | zero => exact .inr (ends_of (minn key val ver) (mind key val ver))
    | succ n => exact .inr (ends_of (negn n key val ver) (negd n key val ver))
  | ofNat n =>
    match n with
    | 0 => exact .inr (ends_of (zeron key val ver) (zerod key val ver))
    | 1 => exact of1 key val ver
    | 2 => exact of2 key val ver
    | 3 => exact of3 key val ver
    | n + 4 =>
      refine step2 (T := fun kd => t46 (Int.ofNat (n + 4)) key val ver kd true) (keys := keys46) (n := 46) (fun kd => ?_) (.inr (ends_of (bigEndn _ key val ver) (bigEndd _ key val ver)))
      have hb : decide (Int.ofNat (n + 4) > 3) = true := decide_eq_true (by show ((n + 4 : Nat) : Int) > 3; omega)
      have hx := big n key val ver kd
      rw [hb] at hx
      exact hx
/-- Is it handed back as it came? -/
noncomputable def stays (k : Int) (key val : List UInt8) (ver : Int) : Bool := open Classical in decide (EndsAt (start k key val ver) (opv k key val ver))
noncomputable def res (k : Int) (key val : List UInt8) (ver : Int) : Value := .agg #[.int .i64 (bif stays k key val ver then k else 1), .string (bif stays k key val ver then str key else ⟨#[107]⟩), .string (bif stays k key val ver then str val else ⟨#[118]⟩), .int .i64 (bif stays k key val ver then ver else 0)]
theorem ends_res (k : Int) (key val : List UInt8) (ver : Int) : EndsAt (start k key val ver) (res k key val ver) := by
  cases h : stays k key val ver with
  | true =>
    have e : res k key val ver = opv k key val ver := by simp [res, h, opv]
    rw [e]
    simpa [stays] using h
  | false =>
    have e : res k key val ver = konst := by simp [res, h, konst]
    rw [e]
    refine (either k key val ver).resolve_left fun h' => ?_
    have : stays k key val ver = true := by simpa [stays] using h'
    rw [h] at this
    cases this
theorem body : (Tryz.prog.funcs[22]?).any (fun fn => fn.body.isSome) = true := by kernel_rfl
noncomputable def hook : Hook := fun g l N => if Nat.beq g 22 = true then match l with
  | [.agg ⟨[.int .i64 k, .string ⟨⟨key⟩⟩, .string ⟨⟨val⟩⟩, .int .i64 ver]⟩] => some (res k key val ver, N)
  | _ => none
  else none
theorem hooked : HookOk Tryz.prog hook := by
  intro g l N u N' h
  unfold hook at h
  split at h
  rotate_left
  · cases h
  rename_i hg
  obtain rfl := Nat.eq_of_beq_eq_true hg
  split at h
  rotate_left
  · cases h
  rename_i k key val ver
  simp only [Option.some.injEq, Prod.mk.injEq] at h
  obtain ⟨rfl, rfl⟩ := h
  refine ⟨plain_ran (args := [opv k key val ver]) rfl rfl (fun kd hkd => ?_) N, ?_⟩
  · obtain ⟨T, h1, h2⟩ := ends_res k key val ver kd hkd
    exact ⟨_, T, enters k key val ver kd, h1, h2⟩
  · have hb := body
    cases hf : Tryz.prog.funcs[22]? with
    | none => rw [hf] at hb; cases hb
    | some fn => exact ⟨fn, rfl, by rw [hf] at hb; exact hb⟩
end plain
end Go.Proofs.YtoaplpdbmpendaaGreatDoor.senderMade
