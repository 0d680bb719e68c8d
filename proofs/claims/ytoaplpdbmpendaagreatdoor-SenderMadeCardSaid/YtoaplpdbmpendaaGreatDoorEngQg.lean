/-
  The engine, part Qg: the checks on a call that starts one worker, as two closed equations.
-/
import Derived.Test.YtoaplpdbmpendaaGreatDoorEngQf
set_option linter.unusedSectionVars false
set_option linter.unusedSimpArgs false
set_option linter.unusedVariables false
namespace Go.Eng
open Go.Conc
open Go.Conc.Lib (WgLib WgLink)
set_option linter.unusedSimpArgs false
set_option linter.unusedVariables false
set_option linter.unusedSectionVars false

section
variable (P : Program) (A : Rec) (fuel na m k kC : Nat) (ty : TypeId) (done : FuncId) (x : XF) (f : FuncId) (args : List Value) (v : Value) (kd : CallKind) (kp kch keys : List Nat)
/-- From the call's beginning to the go statement. -/
def oneHead : Option St := match kenter P f args kd with
  | some s0 => match krun P A na ⟨s0, [], CH.first []⟩ with
    | some S1 => if Nat.beq S1.N.sz k = true then match xal 0 ty S1 with
      | some S2 => match xm0 0 x.disable (toStop P A fuel S2) with
        | some S3 => match addFlow P A fuel 0 k x 0 S3 with
          | some S4 => some (toStop P A fuel S4)
          | none => none
        | none => none
      | none => none
      else none
    | none => none
  | none => none
/-- The worker, and what goroutine 0 keeps. -/
def oneGo (SG : St) : Option St := match SG.xgo 0 with
  | some (g, q, as, nx) => match kenter P g (as ++ q) .deferred with
    | some sf => match P.funcs[g]? with
      | some fd => if and (xdd SG.N.sz k done g (toStop P A m ⟨sf, [], SG.N.only kch SG.N.sz⟩)) (and (!(fd.name == "runtime.NumGoroutine")) (and (fd.results.toList.isEmpty) (and (hasCell SG.N kC) (and (Nat.ble (kC + 1) SG.N.sz) (and (apart kp (kC :: kch)) (apart [kC] kch)))))) = true then some ((nx undef).only kp 0) else none
      | none => none
    | none => none
  | none => none
def oneFin (S : St) : Bool := match finVal P f kd (toStop P A fuel S) with
  | some u => sameV u v
  | none => false
/-- Wait's loop from here, whatever it finds: to its end; or to behind a CompareAndSwap that has missed. -/
def oneNext (S : St) : Option St := match loadFlow P A fuel 0 k x 0 S with
  | some (SF, none) => match loadFlow P A fuel 0 k x 1 S with
    | some (SF', some SM) => if and (oneFin P A fuel f v kd SF) (oneFin P A fuel f v kd SF') = true then some SM else none
    | _ => none
  | _ => none
def oneEnd : Option (List (List It) × List (List It)) := match oneHead P A fuel na k ty x f args kd with
  | some SG => match oneGo P A m k kC done kp kch SG with
    | some SP => match xm0 0 x.disable (toStop P A fuel SP) with
      | some a0 => match oneNext P A fuel k x f v kd a0 with
        | some a1 => match oneNext P A fuel k x f v kd a1 with
          | some S2 => match oneNext P A fuel k x f v kd ((S2.snap keys).st keys) with
            | some S3 => if S3.fits keys (S2.snap keys) = true then some (S3.ks, (S2.snap keys).ks) else none
            | none => none
          | none => none
        | none => none
      | none => none
    | none => none
  | none => none
end
variable [Hk]
section
variable {P : Program} {A B : Rec} {fuel na m k kC : Nat} {L : WgLink} {x : XF} {f : FuncId} {args : List Value} {v : Value} {kd : CallKind} {kp kch keys : List Nat}
theorem oneFin_eq {S : St} (h : oneFin P A fuel f v kd S = true) : finVal P f kd (toStop P A fuel S) = some v := by
  unfold oneFin at h
  split at h
  · rename_i u hu
    rw [hu, sameV_eq _ _ h]
  · cases h
theorem oneNext_eq {S SM : St} (h : oneNext P A fuel k x f v kd S = some SM) : (∃ SF, loadFlow P A fuel 0 k x 0 S = some (SF, none) ∧ finVal P f kd (toStop P A fuel SF) = some v) ∧
    ∃ SF, loadFlow P A fuel 0 k x 1 S = some (SF, some SM) ∧ finVal P f kd (toStop P A fuel SF) = some v := by
  unfold oneNext at h
  split at h
  · rename_i SF h0
    split at h
    · rename_i SF' SM' h1
      split at h
      · rename_i hb
        cases h
        simp only [Bool.and_eq_true] at hb
        exact ⟨⟨SF, h0, oneFin_eq hb.1⟩, SF', h1, oneFin_eq hb.2⟩
      · cases h
    · cases h
  · cases h
theorem one_ok (hP : NoCount P) (hm : P.follows .mixedOrders = true) (hAB : A.Le B) (hB : RecOk P B)
    (hs : (oneEnd P A fuel na m k kC L.tWg L.done x f args v kd kp kch keys).isSome = true)
    (he : (oneEnd P A fuel na m k kC L.tWg L.done x f args v kd kp kch keys).map Prod.fst = (oneEnd P A fuel na m k kC L.tWg L.done x f args v kd kp kch keys).map Prod.snd) : OneOk P A fuel na m k kC L x f args v kd := by
  obtain ⟨⟨l1, l2⟩, hr⟩ := Option.isSome_iff_exists.1 hs
  rw [hr] at he
  simp only [Option.map_some, Option.some.injEq] at he
  subst he
  unfold oneEnd at hr
  split at hr
  rotate_left
  · cases hr
  rename_i SG hG
  split at hr
  rotate_left
  · cases hr
  rename_i SP hgo
  split at hr
  rotate_left
  · cases hr
  rename_i a0 hd
  split at hr
  rotate_left
  · cases hr
  rename_i a1 h1
  split at hr
  rotate_left
  · cases hr
  rename_i S2 h2
  split at hr
  rotate_left
  · cases hr
  rename_i S3 h3
  split at hr
  rotate_left
  · cases hr
  rename_i hfit
  simp only [Option.some.injEq, Prod.mk.injEq] at hr
  have hsn : S3.snap keys = S2.snap keys := St.fits_eq hfit (hr.1.trans hr.2.symm)
  unfold oneHead at hG
  split at hG
  rotate_left
  · cases hG
  rename_i s0 hk0
  split at hG
  rotate_left
  · cases hG
  rename_i S1 hrun
  split at hG
  rotate_left
  · cases hG
  rename_i hsz
  split at hG
  rotate_left
  · cases hG
  rename_i T2 hal
  split at hG
  rotate_left
  · cases hG
  rename_i T3 hx3
  split at hG
  rotate_left
  · cases hG
  rename_i T4 hx4
  cases hG
  unfold oneGo at hgo
  split at hgo
  rotate_left
  · cases hgo
  rename_i g q as nx hxg
  split at hgo
  rotate_left
  · cases hgo
  rename_i sf hsf
  split at hgo
  rotate_left
  · cases hgo
  rename_i fd hfd
  split at hgo
  rotate_left
  · cases hgo
  rename_i hall
  cases hgo
  simp only [Bool.and_eq_true] at hall
  obtain ⟨c1, c2, c3, c4, c0, c5, c6⟩ := hall
  obtain ⟨p1, p2⟩ := oneNext_eq h1
  obtain ⟨q1, q2⟩ := oneNext_eq h2
  obtain ⟨r1, r2⟩ := oneNext_eq h3
  refine ⟨s0, S1, T2, toStop P A fuel T4, (nx undef).only kp 0, kp, kch, 2, fun i => match i with | 0 => a0 | 1 => a1 | _ => (S2.snap keys).st keys, hk0, hrun, Nat.eq_of_beq_eq_true hsz, hal,
    ⟨⟨toStop P A fuel T2, T3, toStop_reach hP hm hAB hB fuel T2, hx3, fun u hu => ?_⟩, Nat.zero_le _⟩, ⟨⟨g, q, as, nx, sf, fd, hxg, hsf, c1, rfl, hfd, by simpa using c2, ?_⟩, c4, Nat.le_of_ble_eq_true c0, c5, c6⟩, hd, ⟨fun i hi => ?_, fun i u hi hu => ?_, fun i hi => Nat.zero_le _⟩⟩
  · obtain rfl : u = 0 := by omega
    exact ⟨T4, hx4, toStop_reach hP hm hAB hB fuel T4⟩
  · have : fd.results.toList = [] := List.isEmpty_iff.1 c3
    exact Array.ext' this
  · match i, hi with
    | 0, _ => exact p1
    | 1, _ => exact q1
    | 2, _ => exact r1
  · obtain rfl : u = 0 := by omega
    match i, hi with
    | 0, _ =>
      obtain ⟨SF, e1, e2⟩ := p2
      exact ⟨SF, a1, 1, e1, e2, by omega, Reach.refl P _⟩
    | 1, _ =>
      obtain ⟨SF, e1, e2⟩ := q2
      exact ⟨SF, S2, 2, e1, e2, by omega, reach_snap S2 keys⟩
    | 2, _ =>
      obtain ⟨SF, e1, e2⟩ := r2
      refine ⟨SF, S3, 2, e1, e2, by omega, ?_⟩
      have := reach_snap (P := P) S3 keys
      rw [hsn] at this
      exact this
end
end Go.Eng

