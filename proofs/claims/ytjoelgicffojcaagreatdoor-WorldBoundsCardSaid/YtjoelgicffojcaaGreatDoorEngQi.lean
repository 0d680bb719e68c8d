/-
  The engine, part Q: where a goroutine stands, and the steps that are none of the engine's: the library's words, atomic operations, the semaphore.
-/
import Derived.Test.YtjoelgicffojcaaGreatDoorEngP
import Derived.Test.YtjoelgicffojcaaGreatDoorEngZe
import Derived.Conc.AtomicLaws2
import Derived.Conc.MarkLaws
import Derived.Conc.DeferLaws
import Derived.Conc.Own2
import Derived.Conc.SmallLaws
import Derived.Conc.WgGenN2
import Derived.Conc.LeavingOf
import Derived.Below
import Derived.Lib.LaidTab
import Derived.LaidSub
set_option linter.unusedSectionVars false
set_option linter.unusedSimpArgs false
set_option linter.unusedVariables false
namespace Go.Eng
noncomputable section
open Go.Conc
open Go.ConcR (KK wgBlock WgAt stA smA rd mk)
set_option linter.unusedSimpArgs false
set_option linter.unusedVariables false
set_option linter.unusedSectionVars false
variable [Hk]
abbrev KT := (Nat → Prop) → (Nat → Prop) → Env → CH → World → Prop
def Tie (P : Program) (tie : KT) : Prop := ∀ (lo : Nat) (O W : Nat → Prop) (E : Env) (N : CH) (w : World) (O' W' : Nat → Prop) (E' : Env) (N' : CH) (w' : World), Rel P E N w → Own O W lo E N w → Later P lo O W E N w O' W' E' N' w' → tie O W E N w → tie O' W' E' N' w'
theorem Tie.and {P : Program} {p q : KT} (hp : Tie P p) (hq : Tie P q) : Tie P (fun O W E N w => p O W E N w ∧ q O W E N w) := fun lo O W E N w O' W' E' N' w' R H L h => ⟨hp lo O W E N w O' W' E' N' w' R H L h.1, hq lo O W E N w O' W' E' N' w' R H L h.2⟩
structure At (P : Program) (lo : Nat) (tie : KT) (S : St) (under : List Frame) (O W : Nat → Prop) (g : Goroutine) (w : World) (E : Env) : Prop where
 g : g = St.gor E S under
 rel : SRel P E S w
 own : Own O W lo E S.N w
 tie : tie O W E S.N w
section
variable {P : Program} {lo : Nat} {tie : KT} {S S' : St} {under : List Frame} {O W : Nat → Prop} {g : Goroutine} {w w1 : World} {E : Env}
theorem At.rely (ht : Tie P tie) (h : At P lo tie S under O W g w E) (hr : Rely O w w1) : At P lo tie S under O W g w1 E :=
 ⟨h.g, h.rel.rely h.own hr, h.own.rely hr, ht lo O W E S.N w O W E S.N w1 h.rel.rel h.own (Later.of_rely h.rel.rel h.own hr) h.tie⟩
theorem At.running (h : At P lo tie S under O W g w E) : g.status = .running := by rw [h.g]; rfl
theorem At.reach {main : Bool} {J : World → Prop} [Ctx main J] {K : KP} (ht : Tie P tie) (hr : Reach P S S') (hlo : lo ≤ S'.N.wm) (hu : Caller .deferred under) (h : At P lo tie S under O W g w E)
  (hK : ∀ O W g w E, At P lo tie S' under O W g w E → Will P main J K O W g w) : Will P main J K O W g w := by
 rw [h.g]
 exact hr main J lo E w O W hlo h.rel h.own under hu K fun O' W' E' w' hs L => hK O' W' _ w' E' ⟨rfl, hs, L.own, ht lo O W E S.N w O' W' E' S'.N w' h.rel.rel h.own L h.tie⟩
theorem At.stop {main : Bool} {J : World → Prop} {K : KP} (ht : Tie P tie) (h : At P lo tie S under O W g w E) (hK : ∀ w, J w → At P lo tie S under O W g w E → K O W g w) : Will P main J K O W g w := .stop fun w1 hr hj => hK w1 hj (h.rely ht hr)
theorem At.upto {main : Bool} {J : World → Prop} [Ctx main J] {K : KP} (ht : Tie P tie) (hr : Reach P S S') (hlo : lo ≤ S'.N.wm) (hu : Caller .deferred under) (h : At P lo tie S under O W g w E)
  (hK : ∀ O W g w E, J w → At P lo tie S' under O W g w E → K O W g w) : Will P main J K O W g w := h.reach ht hr hlo hu fun O W g w E h' => h'.stop ht fun w hj h2 => hK O W g w E hj h2
end
def St.opn (lo : Nat) : St → Option (Oper × (Value → St))
 | ⟨⟨fn, none, kd, false, a, .reg ops i (o :: r) :: k⟩, cs, N⟩ => match o.guard with
  | none => if lo ≤ N.wm then some (o, fun v => ⟨⟨fn, none, kd, false, a.put o.dst v, .reg ops (i + 1) r :: k⟩, cs, N⟩) else none
  | some _ => none
 | _ => none
def St.ev (S : St) : Ev := fev S.top.a
theorem opn_eq {lo : Nat} {S : St} {o : Oper} {nx : Value → St} (h : S.opn lo = some (o, nx)) :
  ∃ fn kd a ops i r k cs N, S = ⟨⟨fn, none, kd, false, a, .reg ops i (o :: r) :: k⟩, cs, N⟩ ∧ o.guard = none ∧ lo ≤ N.wm ∧ nx = fun v => ⟨⟨fn, none, kd, false, a.put o.dst v, .reg ops (i + 1) r :: k⟩, cs, N⟩ := by
 obtain ⟨⟨fn, ar, kd, ret, a, k⟩, cs, N⟩ := S
 cases ar with
 | some l => simp [St.opn] at h
 | none =>
  cases ret with
  | true => simp [St.opn] at h
  | false =>
   cases k with
   | nil => simp [St.opn] at h
   | cons it k =>
    cases it with
    | reg ops i l =>
     cases l with
     | nil => simp [St.opn] at h
     | cons o' r =>
      simp only [St.opn] at h
      split at h
      ·rename_i hg
       split at h
       ·rename_i hlo
        simp only [Option.some.injEq, Prod.mk.injEq] at h
        obtain ⟨rfl, rfl⟩ := h
        exact ⟨_, _, _, _, _, _, _, _, _, rfl, hg, hlo, rfl⟩
       ·cases h
      ·cases h
    | _ => simp [St.opn] at h
theorem opn_lo {lo : Nat} {S : St} {o : Oper} {nx : Value → St} (h : S.opn lo = some (o, nx)) : lo ≤ S.N.wm := by
 obtain ⟨fn, kd, a, ops, i, r, k, cs, N, rfl, _, h1, _⟩ := opn_eq h
 exact h1
section
variable {P : Program} {lo : Nat} {tie : KT} {fn : FuncId} {kd : CallKind} {a : FA} {ops : Array Oper} {i : Nat} {o : Oper} {r : List Oper} {k : List It} {cs : List SF} {N : CH} {under : List Frame} {O W : Nat → Prop} {g : Goroutine} {w : World} {E : Env}
theorem gor_reg : St.gor E ⟨⟨fn, none, kd, false, a, .reg ops i (o :: r) :: k⟩, cs, N⟩ under =
  G ((SF.base E ⟨fn, none, kd, false, a, k⟩).at (E.act a.abs) (.inRegion ops (i :: List.range' (i + 1) r.length) :: k.map (It.item E))) (cs.map (SF.frame E) ++ under) := by
 unfold St.gor
 congr 1
theorem gor_next : St.gor E ⟨⟨fn, none, kd, false, a, .reg ops i r :: k⟩, cs, N⟩ under =
  G ((SF.base E ⟨fn, none, kd, false, a, k⟩).at (E.act a.abs) (.inRegion ops (List.range' i r.length) :: k.map (It.item E))) (cs.map (SF.frame E) ++ under) := by
 unfold St.gor
 congr 1
theorem At.op (h : At P lo tie ⟨⟨fn, none, kd, false, a, .reg ops i (o :: r) :: k⟩, cs, N⟩ under O W g w E) : ops[i]? = some o := by
 have := h.rel.top.its (.reg ops i (o :: r)) (by simp) 0 o rfl
 simpa using this
theorem At.kind (h : At P lo tie ⟨⟨fn, none, kd, false, a, .reg ops i (o :: r) :: k⟩, cs, N⟩ under O W g w E) : (SF.base E ⟨fn, none, kd, false, a, k⟩).kind ≠ .early := by
 have := h.rel.stk.1
 show kd ≠ .early
 rcases this with h1 | ⟨h1, _⟩
 ·have h1 : kd = .normal := h1
  rw [h1]; decide
 ·have h1 : kd = .deferred := h1
  rw [h1]; decide
theorem wanted_of (hg : o.guard = none) (y : Nat → Option Bool) : Region.wanted o y = true := by
 unfold Region.wanted
 rw [hg]
theorem act_put_at {v : Value} (ha : a.Ok) (d : Option Tmp) : (E.act a.abs).put d (E.m v) = E.act (a.put d v).abs := by
 rw [(FA.put_ok ha d v).2, ← act_put]
end
section
variable {P : Program} {lo : Nat} {tie : KT} {S S' : St} {under : List Frame} {O W : Nat → Prop} {g : Goroutine} {w w1 w' : World} {E : Env} {o : Oper} {nx : Value → St} {main : Bool} {v : Value}
theorem At.behind (ht : Tie P tie) (h : At P lo tie S under O W g w E) (hx : S.opn lo = some (o, nx)) (hv : Clo E.D v) (hr : Rely O w w') :
  At P lo tie (nx v) under O W ((nx v).gor E under) w' E := by
 obtain ⟨fn, kd, a, ops, i, r, k, cs, N, rfl, hg, _, rfl⟩ := opn_eq hx
 have h := h.rely ht hr
 have hst := h.rel.top
 refine ⟨rfl, ⟨h.rel.rel, ⟨?_, ?_, hst.ar, fun it hit => ?_, hst.ret, hst.kd⟩, h.rel.cs, ?_⟩, h.own, h.tie⟩
 ·exact (FA.put_ok hst.a o.dst v).1
 ·show CA.Clo E.D (a.put o.dst v).abs
  rw [(FA.put_ok hst.a o.dst v).2]
  exact hst.clo.put _ hv
 ·rcases List.mem_cons.1 hit with rfl | hit
  ·intro j o' hj
   have := hst.its (.reg ops i (o :: r)) (by simp) (j + 1) o' (by simpa using hj)
   rw [show i + 1 + j = i + (j + 1) by omega]
   exact this
  ·exact hst.its it (by simp [hit])
 ·exact stk_top h.rel.stk rfl
theorem At.value (h : At P lo tie S under O W g w E) (hx : S.opn lo = some (o, nx)) (hrun : (execOp (E.act S.top.a.abs).eval o).run P w = .ok (.value (E.m v)) w') :
  stepG P main g w = .go ((nx v).gor E under) w' (listed P S.top.fn (E.act S.top.a.abs) o w) := by
 obtain ⟨fn, kd, a, ops, i, r, k, cs, N, rfl, hg, _, rfl⟩ := opn_eq hx
 rw [h.g, gor_reg, gor_next, ← act_put_at h.rel.top.a]
 exact stepG_value (b := SF.base E ⟨fn, none, kd, false, a, k⟩) h.op (wanted_of hg _) h.kind hrun
theorem At.args (h : At P lo tie S under O W g w E) {as : List Operand} {vs : List Value} (ha : evL S.ev as = some vs) : as.map (E.act S.top.a.abs).eval = vs.map E.m ∧ ∀ v ∈ vs, Clo E.D v := by
 unfold St.ev at ha
 rw [fev_eq h.rel.top.a] at ha
 exact evL_ok (cev_ok h.rel.rel.gl h.rel.top.clo) ha
structure Entry (P : Program) (f : FuncId) (e : Array Value → Sem Value) : Prop where
 ex : ∃ fn, P.funcs[f]? = some fn ∧ (fn.name == "runtime.NumGoroutine") = false ∧ fn.body.isNone = true ∧ Extern.findNext fn = none ∧ Extern.find fn = some e
variable {f : FuncId} {as : Array Operand} {ats : Array TypeId} {vs : List Value} {e : Array Value → Sem Value} {evs : Array Event}
theorem At.entry (h : At P lo tie S under O W g w E) (hx : S.opn lo = some (o, nx)) (hop : o.op = .call { callee := .value (.func f), args := as, argTypes := ats }) (ha : evL S.ev as.toList = some vs) (he : Entry P f e)
  (hrun : (e (vs.map E.m).toArray).run P w = .ok (E.m v) w') (hev : (e (vs.map E.m).toArray).events P w #[⟨.mark (.extern f), false, true⟩] = #[⟨.mark (.extern f), false, true⟩] ++ evs) (hs : ∀ x ∈ evs, x.sync = true ∧ ∀ g, x.loc ≠ .mark (.extern g)) :
  stepG P main g w = .go ((nx v).gor E under) w' evs := by
 have hargs := (h.args ha).1
 obtain ⟨fn, kd, a, ops, i, r, k, cs, N, rfl, hg, _, rfl⟩ := opn_eq hx
 obtain ⟨fd, h1, h2, h3, h4, h5⟩ := he.ex
 have e1 : as.map (E.act a.abs).eval = (vs.map E.m).toArray := by apply Array.ext'; simpa using hargs
 rw [h.g, gor_reg, gor_next, ← act_put_at h.rel.top.a]
 exact stepG_entry (b := SF.base E ⟨fn, none, kd, false, a, k⟩) h.op (wanted_of hg _) h.kind hop h1 h2 h3 h4 h5 (by rw [e1]; exact hrun) (by rw [e1]; exact hev) hs
end
def St.xcall (lo : Nat) (S : St) : Option (FuncId × List Value × (Value → St)) :=
 match S.opn lo with
 | some (o, nx) => match o.op with
  | .call c => match c.callee with
   | .value (.func f) => match evL S.ev c.args.toList with
    | some vs => some (f, vs, nx)
    | none => none
   | _ => none
  | _ => none
 | none => none
theorem xcall_eq {lo : Nat} {S : St} {f : FuncId} {vs : List Value} {nx : Value → St} (h : S.xcall lo = some (f, vs, nx)) :
  ∃ o as ats, S.opn lo = some (o, nx) ∧ o.op = .call { callee := .value (.func f), args := as, argTypes := ats } ∧ evL S.ev as.toList = some vs := by
 unfold St.xcall at h
 split at h
 ·rename_i o nx' ho
  split at h
  ·rename_i c hop
   split at h
   ·rename_i f' hc
    split at h
    ·rename_i vs' hv
     simp only [Option.some.injEq, Prod.mk.injEq] at h
     obtain ⟨rfl, rfl, rfl⟩ := h
     obtain ⟨cal, as, ats⟩ := c
     simp only at hc hv
     subst hc
     exact ⟨o, as, ats, ho, hop, hv⟩
    ·cases h
   ·cases h
  ·cases h
 ·cases h
def tieWg (k b : Nat) : KT := fun O _ E _ w => E.D k ∧ E.f k = b ∧ E.s k = 0 ∧ ¬ O b ∧ b < w.heap.size
theorem tieWg_ok (P : Program) (k b : Nat) : Tie P (tieWg k b) := fun lo O W E N w O' W' E' N' w' R H L ⟨h1, h2, h3, h4, h5⟩ => by
 obtain ⟨a1, a2, a3, a4⟩ := L.ext.mono k h1
 exact ⟨a1, a2.trans h2, a4.trans h3, fun h => (L.ou b h).elim h4 fun hs => by omega, Nat.lt_of_lt_of_le h5 L.ext.hsize⟩
theorem rely_aside {O : Nat → Prop} {b : Nat} {w w' : World} (hb : ¬ O b) (hw : Aside b w w') : Rely O w w' := ⟨fun c hc => hw.block c fun e => hb (e ▸ hc), by rw [hw.size]; exact Nat.le_refl _, hw.os, hw.tape, hw.output⟩
section
variable {P : Program} {lo : Nat} {tie : KT} {S : St} {under : List Frame} {O W : Nat → Prop} {g : Goroutine} {w : World} {E : Env} {nx : Value → St} {main : Bool} {f : FuncId} {vs : List Value}
theorem m_ptr {N : CH} {k b off : Nat} (h : tieWg k b O W E N w) : E.m (.pointer (some ⟨k, off, none⟩)) = .pointer (some ⟨b, off, none⟩) := by
 obtain ⟨_, h2, h3, _⟩ := h
 simp [Env.m, mv, h2, h3]
theorem At.xmark0 (h : At P lo tie S under O W g w E) (hx : S.xcall lo = some (f, vs, nx)) (m : Mark) (hm : ∀ g, m ≠ .extern g) (he : Entry P f (fun _ => do mark m; pure Extern.Race.none_)) :
  stepG P main g w = .go ((nx (.tuple #[])).gor E under) w #[ConcR.mk m] := by
 obtain ⟨o, as, ats, h1, h2, h3⟩ := xcall_eq hx
 refine h.entry (v := .tuple #[]) h1 h2 h3 he (by simp [Extern.Race.none_, Env.m, mv, mvL]) (by simp [ConcR.mk]) ?_
 intro x hx
 simp [ConcR.mk] at hx
 subst hx
 exact ⟨rfl, fun g h => hm g (by cases h; rfl)⟩
theorem At.xmarkAt (h : At P lo tie S under O W g w E) {k b off : Nat} (ht : tieWg k b O W E S.N w) (hx : S.xcall lo = some (f, .pointer (some ⟨k, off, none⟩) :: vs, nx)) (mk' : Addr → Mark) (hm : ∀ ad g, mk' ad ≠ .extern g) (he : Entry P f (Extern.Race.marked mk')) :
  stepG P main g w = .go ((nx (.tuple #[])).gor E under) w #[ConcR.mk (mk' ⟨b, off, none⟩)] := by
 obtain ⟨o, as, ats, h1, h2, h3⟩ := xcall_eq hx
 have hp := m_ptr (off := off) ht
 refine h.entry (v := .tuple #[]) h1 h2 h3 he (by simp [Extern.Race.marked, Extern.Race.at_, Extern.Race.none_, hp, Env.m, mv, mvL]) (by simp [Extern.Race.marked, Extern.Race.at_, hp, ConcR.mk]) ?_
 intro x hx'
 simp [ConcR.mk] at hx'
 subst hx'
 exact ⟨rfl, fun g h => hm _ g (Loc.mark.inj h)⟩
theorem m_int (E : Env) (k : IntKind) (n : Int) : E.m (.int k n) = .int k n := rfl
theorem m_bool (E : Env) (b : Bool) : E.m (.bool b) = .bool b := rfl
theorem m_unit (E : Env) : E.m (.tuple #[]) = .tuple #[] := rfl
theorem At.xload (h : At P lo tie S under O W g w E) {k b : Nat} (ht : tieWg k b O W E S.N w) (hx : S.xcall lo = some (f, [.pointer (some ⟨k, 0, none⟩)], nx)) (he : Entry P f (Extern.Atomic.loadT (.int .u64))) {v : Int} (hc : w.cell? ⟨b, 0, none⟩ = some (.int .u64 v)) :
  stepG P main g w = .go ((nx (.int .u64 v)).gor E under) w #[rd ⟨b, 0, none⟩] := by
 obtain ⟨o, as, ats, h1, h2, h3⟩ := xcall_eq hx
 have hargs := (h.args h3).1
 have hp := m_ptr (off := 0) ht
 simp only [List.map_cons, List.map_nil, hp] at hargs
 obtain ⟨fn, kd, a, ops, i, r, kk, cs, N, rfl, hg, _, rfl⟩ := opn_eq h1
 obtain ⟨fd, g1, g2, g3, g4, g5⟩ := he.ex
 obtain ⟨l⟩ := as
 obtain ⟨x, rfl, hxx⟩ : ∃ x, l = [x] ∧ (E.act a.abs).eval x = .pointer (some ⟨b, 0, none⟩) := by
  cases l with
  | nil => simp at hargs
  | cons x l => cases l with
   | nil => exact ⟨x, rfl, by simpa using hargs⟩
   | cons y l => simp at hargs
 rw [h.g, gor_reg, gor_next, ← act_put_at h.rel.top.a, m_int]
 exact stepG_load_atomic (b := SF.base E ⟨fn, none, kd, false, a, kk⟩) h.op (wanted_of hg _) h.kind h2 g1 g2 g3 g4 .u64 g5 hxx hc
theorem two_args {ρ : Operand → Value} {l : List Operand} {u v : Value} (h : l.map ρ = [u, v]) : ∃ x y, l = [x, y] ∧ ρ x = u ∧ ρ y = v := by
 cases l with
 | nil => simp at h
 | cons x l => cases l with
  | nil => simp at h
  | cons y l => cases l with
   | nil => simp at h; exact ⟨x, y, rfl, h.1, h.2⟩
   | cons z l => simp at h
theorem three_args {ρ : Operand → Value} {l : List Operand} {u v t : Value} (h : l.map ρ = [u, v, t]) : ∃ x y z, l = [x, y, z] ∧ ρ x = u ∧ ρ y = v ∧ ρ z = t := by
 cases l with
 | nil => simp at h
 | cons x l => cases l with
  | nil => simp at h
  | cons y l => cases l with
   | nil => simp at h
   | cons z l => cases l with
    | nil => simp at h; exact ⟨x, y, z, rfl, h.1, h.2.1, h.2.2⟩
    | cons z' l => simp at h
theorem At.xadd (h : At P lo tie S under O W g w E) {k b : Nat} (ht : tieWg k b O W E S.N w) {d : Int} (hx : S.xcall lo = some (f, [.pointer (some ⟨k, 0, none⟩), .int .u64 d], nx)) (he : Entry P f (Extern.Atomic.update (Op.intArith .add) .u64 true)) {v : Int} (hc : w.cell? ⟨b, 0, none⟩ = some (.int .u64 v)) (hz : w.frozen? ⟨b, 0, none⟩ = false) :
  stepG P main g w = .go ((nx (.int .u64 (IntKind.u64.wrap (v + d)))).gor E under) (w.setCell ⟨b, 0, none⟩ (.int .u64 (IntKind.u64.wrap (v + d)))) #[rd ⟨b, 0, none⟩, ConcR.wr ⟨b, 0, none⟩] := by
 obtain ⟨o, as, ats, h1, h2, h3⟩ := xcall_eq hx
 have hargs := (h.args h3).1
 have hp := m_ptr (off := 0) ht
 simp only [List.map_cons, List.map_nil, hp, m_int] at hargs
 obtain ⟨fn, kd, a, ops, i, r, kk, cs, N, rfl, hg, _, rfl⟩ := opn_eq h1
 obtain ⟨fd, g1, g2, g3, g4, g5⟩ := he.ex
 obtain ⟨l⟩ := as
 obtain ⟨x, y, rfl, hxx, hy⟩ := two_args hargs
 rw [h.g, gor_reg, gor_next, ← act_put_at h.rel.top.a, m_int]
 exact stepG_add_atomic (b := SF.base E ⟨fn, none, kd, false, a, kk⟩) h.op (wanted_of hg _) h.kind h2 g1 g2 g3 g4 .u64 g5 hxx hy hc hz
theorem At.xcasHit (h : At P lo tie S under O W g w E) {k b : Nat} (ht : tieWg k b O W E S.N w) {v d : Int} (hx : S.xcall lo = some (f, [.pointer (some ⟨k, 0, none⟩), .int .u64 v, .int .u64 d], nx)) (he : Entry P f (Extern.Atomic.casT (.int .u64))) (hc : w.cell? ⟨b, 0, none⟩ = some (.int .u64 v)) (hz : w.frozen? ⟨b, 0, none⟩ = false) :
  stepG P main g w = .go ((nx (.bool true)).gor E under) (w.setCell ⟨b, 0, none⟩ (.int .u64 d)) #[rd ⟨b, 0, none⟩, ConcR.wr ⟨b, 0, none⟩] := by
 obtain ⟨o, as, ats, h1, h2, h3⟩ := xcall_eq hx
 have hargs := (h.args h3).1
 have hp := m_ptr (off := 0) ht
 simp only [List.map_cons, List.map_nil, hp, m_int] at hargs
 obtain ⟨fn, kd, a, ops, i, r, kk, cs, N, rfl, hg, _, rfl⟩ := opn_eq h1
 obtain ⟨fd, g1, g2, g3, g4, g5⟩ := he.ex
 obtain ⟨l⟩ := as
 obtain ⟨x, y, z, rfl, hxx, hy, hzz⟩ := three_args hargs
 rw [h.g, gor_reg, gor_next, ← act_put_at h.rel.top.a, m_bool]
 exact stepG_cas_hit (b := SF.base E ⟨fn, none, kd, false, a, kk⟩) h.op (wanted_of hg _) h.kind h2 g1 g2 g3 g4 .u64 g5 hxx hy hzz hc hz
theorem At.xcasMiss (h : At P lo tie S under O W g w E) {k b : Nat} (ht : tieWg k b O W E S.N w) {old d v : Int} (hx : S.xcall lo = some (f, [.pointer (some ⟨k, 0, none⟩), .int .u64 old, .int .u64 d], nx)) (he : Entry P f (Extern.Atomic.casT (.int .u64))) (hc : w.cell? ⟨b, 0, none⟩ = some (.int .u64 v)) (hz : w.frozen? ⟨b, 0, none⟩ = false) (hne : ¬ v = old) :
  stepG P main g w = .go ((nx (.bool false)).gor E under) w #[rd ⟨b, 0, none⟩] := by
 obtain ⟨o, as, ats, h1, h2, h3⟩ := xcall_eq hx
 have hargs := (h.args h3).1
 have hp := m_ptr (off := 0) ht
 simp only [List.map_cons, List.map_nil, hp, m_int] at hargs
 obtain ⟨fn, kd, a, ops, i, r, kk, cs, N, rfl, hg, _, rfl⟩ := opn_eq h1
 obtain ⟨fd, g1, g2, g3, g4, g5⟩ := he.ex
 obtain ⟨l⟩ := as
 obtain ⟨x, y, z, rfl, hxx, hy, hzz⟩ := three_args hargs
 rw [h.g, gor_reg, gor_next, ← act_put_at h.rel.top.a, m_bool]
 exact stepG_cas_miss (b := SF.base E ⟨fn, none, kd, false, a, kk⟩) h.op (wanted_of hg _) h.kind h2 g1 g2 g3 g4 .u64 g5 hxx hy hzz hc hz hne
theorem At.xsem (h : At P lo tie S under O W g w E) {k b off : Nat} (ht : tieWg k b O W E S.N w) (hx : S.xcall lo = some (f, .pointer (some ⟨k, off, none⟩) :: vs, nx)) (he : Entry P f Extern.Sync.semacquire) {v : Int} (hc : w.cell? ⟨b, off, none⟩ = some (.int .u32 v)) (hv : v ≠ 0) (hz : w.frozen? ⟨b, off, none⟩ = false) :
  stepG P main g w = .go ((nx (.tuple #[])).gor E under) (w.setCell ⟨b, off, none⟩ (.int .u32 (v - 1))) (semEvents ⟨b, off, none⟩) := by
 obtain ⟨o, as, ats, h1, h2, h3⟩ := xcall_eq hx
 have hargs := (h.args h3).1
 have hp := m_ptr (off := off) ht
 simp only [List.map_cons, hp] at hargs
 obtain ⟨fn, kd, a, ops, i, r, kk, cs, N, rfl, hg, _, rfl⟩ := opn_eq h1
 obtain ⟨fd, g1, g2, g3, g4, g5⟩ := he.ex
 rw [h.g, gor_reg, gor_next, ← act_put_at h.rel.top.a, m_unit]
 refine stepG_semacquire (b := SF.base E ⟨fn, none, kd, false, a, kk⟩) h.op (wanted_of hg _) h.kind h2 g1 g2 g3 g4 g5 ?_ hc hv hz
 rw [Array.getElem?_map, ← Array.getElem?_toList, ← List.getElem?_map, hargs]
 rfl
theorem At.xsemWait (h : At P lo tie S under O W g w E) {k b off : Nat} (ht : tieWg k b O W E S.N w) (hx : S.xcall lo = some (f, .pointer (some ⟨k, off, none⟩) :: vs, nx)) (he : Entry P f Extern.Sync.semacquire) (hc : w.cell? ⟨b, off, none⟩ = some (.int .u32 0)) :
  stepG P main g w = .go { g with status := .blocked } w #[] := by
 obtain ⟨o, as, ats, h1, h2, h3⟩ := xcall_eq hx
 have hargs := (h.args h3).1
 have hp := m_ptr (off := off) ht
 simp only [List.map_cons, hp] at hargs
 obtain ⟨fn, kd, a, ops, i, r, kk, cs, N, rfl, hg, _, rfl⟩ := opn_eq h1
 obtain ⟨fd, g1, g2, g3, g4, g5⟩ := he.ex
 rw [h.g, gor_reg]
 refine stepG_semacquire_wait (b := SF.base E ⟨fn, none, kd, false, a, kk⟩) h.op (wanted_of hg _) h2 g1 g2 g3 g4 g5 ?_ hc
 rw [Array.getElem?_map, ← Array.getElem?_toList, ← List.getElem?_map, hargs]
 rfl
end
end
end Go.Eng
namespace Go.Eng
noncomputable section
open Go.Conc
open Go.ConcN (WgLive)
open Go.ConcR (KK wgBlock WgAt stA smA rd mk Payload)
set_option linter.unusedSimpArgs false
set_option linter.unusedVariables false
set_option linter.unusedSectionVars false
variable [Hk]
def toStop (P : Program) (R : Rec) : Nat → St → St
 | 0, S => S
 | n + 1, S => match kstep P R S with
  | some S' => toStop P R n S'
  | none => S
theorem toStop_reach {P : Program} (hP : NoCount P) (hm : P.follows .mixedOrders = true) {A B : Rec} (hAB : A.Le B) (hB : RecOk P B) : ∀ (n : Nat) (S : St), Reach P S (toStop P A n S)
 | 0, S => Reach.refl P S
 | n + 1, S => by
  simp only [toStop]
  split
  ·rename_i S' h
   exact (kstep_ok hP hm hAB hB h).trans (toStop_reach hP hm hAB hB n S')
  ·exact Reach.refl P S
structure XF where
 disable : FuncId
 enable : FuncId
 acquire : FuncId
 read : FuncId
 write : FuncId
 addU : FuncId
 loadU : FuncId
 casU : FuncId
 sema : FuncId
structure XOk (P : Program) (x : XF) : Prop where
 disable : Entry P x.disable (fun _ => do mark .disable; pure Extern.Race.none_)
 enable : Entry P x.enable (fun _ => do mark .enable; pure Extern.Race.none_)
 acquire : Entry P x.acquire (Extern.Race.marked .acquire)
 read : Entry P x.read (Extern.Race.marked .read)
 write : Entry P x.write (Extern.Race.marked .write)
 addU : Entry P x.addU (Extern.Atomic.update (Op.intArith .add) .u64 true)
 loadU : Entry P x.loadU (Extern.Atomic.loadT (.int .u64))
 casU : Entry P x.casU (Extern.Atomic.casT (.int .u64))
 sema : Entry P x.sema Extern.Sync.semacquire
def isPtr (k off : Nat) : Value → Bool
 | .pointer (some ⟨k', off', none⟩) => and (Nat.beq k' k) (Nat.beq off' off)
 | _ => false
theorem isPtr_eq {k off : Nat} {v : Value} (h : isPtr k off v = true) : v = .pointer (some ⟨k, off, none⟩) := by
 unfold isPtr at h
 split at h
 ·simp only [Bool.and_eq_true] at h
  rw [Nat.eq_of_beq_eq_true h.1, Nat.eq_of_beq_eq_true h.2]
 ·cases h
def isU (n : Int) : Value → Bool
 | .int .u64 m => beqI m n
 | _ => false
theorem isU_eq {n : Int} {v : Value} (h : isU n v = true) : v = .int .u64 n := by
 unfold isU at h
 split at h
 ·rw [beqI_eq h]
 ·cases h
section
variable (P : Program) (lo k : Nat)
def xm0 (f : FuncId) (S : St) : Option St := match S.xcall lo with
 | some (g, _, nx) => if g = f then some (nx (.tuple #[])) else none
 | none => none
def xmA (f : FuncId) (off : Nat) (S : St) : Option St := match S.xcall lo with
 | some (g, v :: _, nx) => if g = f then if isPtr k off v = true then some (nx (.tuple #[])) else none else none
 | _ => none
def xad (f : FuncId) (d r : Int) (S : St) : Option St := match S.xcall lo with
 | some (g, [v, u], nx) => if g = f then if isPtr k 0 v = true then if isU d u = true then some (nx (.int .u64 r)) else none else none else none
 | _ => none
def xld (f : FuncId) (r : Int) (S : St) : Option St := match S.xcall lo with
 | some (g, [v], nx) => if g = f then if isPtr k 0 v = true then some (nx (.int .u64 r)) else none else none
 | _ => none
def xcs (f : FuncId) (old d : Int) (hit : Bool) (S : St) : Option St := match S.xcall lo with
 | some (g, [v, u, t], nx) => if g = f then if isPtr k 0 v = true then if isU old u = true then if isU d t = true then some (nx (.bool hit)) else none else none else none else none
 | _ => none
def xcv (off : Nat) (S : St) : Option St := match S.opn lo with
 | some (o, nx) => match o.op with
  | .convert src dst x => match S.ev x with
   | some v => if isPtr k off v = true then if convOk P src dst = true then some (nx (.pointer (some ⟨k, off, none⟩))) else none else none
   | none => none
  | _ => none
 | none => none
def xdf (f : FuncId) : St → Option St
 | ⟨⟨fn, none, kd, true, ⟨n, t, .call g [] [] :: ds⟩, kk⟩, cs, N⟩ => if g = f then if lo ≤ N.wm then some ⟨⟨fn, none, kd, true, ⟨n, t, ds⟩, kk⟩, cs, N⟩ else none else none
 | _ => none
end
section
variable {P : Program} {lo k : Nat} {tie : KT} {S S' : St} {under : List Frame} {O W : Nat → Prop} {g : Goroutine} {w w' : World} {E : Env} {main : Bool} {f : FuncId} {b : Nat}
theorem xm0_eq (h : xm0 lo f S = some S') : ∃ vs nx, S.xcall lo = some (f, vs, nx) ∧ S' = nx (.tuple #[]) := by
 unfold xm0 at h
 split at h
 ·rename_i g vs nx hx
  split at h
  ·rename_i e
   cases h
   exact ⟨vs, nx, by rw [hx, e], rfl⟩
  ·cases h
 ·cases h
theorem xmA_eq {off : Nat} (h : xmA lo k f off S = some S') : ∃ vs nx, S.xcall lo = some (f, .pointer (some ⟨k, off, none⟩) :: vs, nx) ∧ S' = nx (.tuple #[]) := by
 unfold xmA at h
 split at h
 ·rename_i g v vs nx hx
  split at h
  ·rename_i e
   split at h
   ·rename_i e2
    cases h
    exact ⟨vs, nx, by rw [hx, e, isPtr_eq e2], rfl⟩
   ·cases h
  ·cases h
 ·cases h
theorem xad_eq {d r : Int} (h : xad lo k f d r S = some S') : ∃ nx, S.xcall lo = some (f, [.pointer (some ⟨k, 0, none⟩), .int .u64 d], nx) ∧ S' = nx (.int .u64 r) := by
 unfold xad at h
 split at h
 ·rename_i g v u nx hx
  split at h
  ·rename_i e
   split at h
   ·rename_i e2
    split at h
    ·rename_i e3
     cases h
     exact ⟨nx, by rw [hx, e, isPtr_eq e2, isU_eq e3], rfl⟩
    ·cases h
   ·cases h
  ·cases h
 ·cases h
theorem xld_eq {r : Int} (h : xld lo k f r S = some S') : ∃ nx, S.xcall lo = some (f, [.pointer (some ⟨k, 0, none⟩)], nx) ∧ S' = nx (.int .u64 r) := by
 unfold xld at h
 split at h
 ·rename_i g v nx hx
  split at h
  ·rename_i e
   split at h
   ·rename_i e2
    cases h
    exact ⟨nx, by rw [hx, e, isPtr_eq e2], rfl⟩
   ·cases h
  ·cases h
 ·cases h
theorem xcs_eq {old d : Int} {hit : Bool} (h : xcs lo k f old d hit S = some S') : ∃ nx, S.xcall lo = some (f, [.pointer (some ⟨k, 0, none⟩), .int .u64 old, .int .u64 d], nx) ∧ S' = nx (.bool hit) := by
 unfold xcs at h
 split at h
 ·rename_i g v u t nx hx
  split at h
  ·rename_i e
   split at h
   ·rename_i e2
    split at h
    ·rename_i e3
     split at h
     ·rename_i e4
      cases h
      exact ⟨nx, by rw [hx, e, isPtr_eq e2, isU_eq e3, isU_eq e4], rfl⟩
     ·cases h
    ·cases h
   ·cases h
  ·cases h
 ·cases h
theorem xcall_opn {vs : List Value} {nx : Value → St} (h : S.xcall lo = some (f, vs, nx)) : ∃ o, S.opn lo = some (o, nx) := by
 obtain ⟨o, _, _, h1, _⟩ := xcall_eq h
 exact ⟨o, h1⟩
theorem opn_wm {o : Oper} {nx : Value → St} (h : S.opn lo = some (o, nx)) (v : Value) : lo ≤ (nx v).N.wm := by
 obtain ⟨fn, kd, a, ops, i, r, k, cs, N, rfl, _, h1, rfl⟩ := opn_eq h
 exact h1
theorem At.onward (ht : Tie P tie) (h : At P lo tie S under O W g w E) {vs : List Value} {nx : Value → St} (hx : S.xcall lo = some (f, vs, nx)) {v : Value} (hv : Clo E.D v) (hr : Rely O w w') : At P lo tie (nx v) under O W ((nx v).gor E under) w' E := by
 obtain ⟨o, ho⟩ := xcall_opn hx
 exact h.behind ht ho hv hr
theorem convOk_eq {src dst : TypeId} (h : convOk P src dst = true) : ∃ t, P.underlying src = some (.pointer t) ∧ P.underlying dst = some .unsafePointer ∧ (P.info? t).map (fun i => decide (i.size = 0)) = some false := by
 unfold convOk at h
 split at h
 ·rename_i t hs
  split at h
  ·rename_i hd
   split at h
   ·rename_i i hi
    exact ⟨t, hs, hd, by rw [hi]; simpa using h⟩
   ·cases h
  ·cases h
 ·cases h
theorem xcv_step (h : At P lo tie S under O W g w E) {off : Nat} (ht : tieWg k b O W E S.N w) (hx : xcv P lo k off S = some S') {v : Value} (hc : w.cell? ⟨b, off, none⟩ = some v) :
  ∃ o nx, S.opn lo = some (o, nx) ∧ S' = nx (.pointer (some ⟨k, off, none⟩)) ∧ stepG P main g w = .go (S'.gor E under) w #[] := by
 unfold xcv at hx
 split at hx
 ·rename_i o nx ho
  split at hx
  ·rename_i src dst x hop
   split at hx
   ·rename_i u hu
    split at hx
    ·rename_i e1
     split at hx
     ·rename_i e2
      cases hx
      obtain rfl := isPtr_eq e1
      obtain ⟨t, t1, t2, t3⟩ := convOk_eq e2
      have hp := m_ptr (off := off) ht
      have hxe : (E.act S.top.a.abs).eval x = .pointer (some ⟨b, off, none⟩) := by
       have := (h.args (as := [x]) (vs := [.pointer (some ⟨k, off, none⟩)]) (by simp [evL, hu])).1
       simpa [hp] using this
      refine ⟨o, nx, ho, rfl, ?_⟩
      have hrun : (execOp (E.act S.top.a.abs).eval o).run P w = .ok (.value (E.m (.pointer (some ⟨k, off, none⟩)))) w := by
       rw [hp]
       simp only [execOp, hop, hxe]
       exact run_v (run_convert_to_unsafe t1 t2 t3 hc)
      have hev : (execOp (E.act S.top.a.abs).eval o).events P w #[] = #[] := by
       simp only [execOp, hop, hxe, Sem.events_bind, run_convert_to_unsafe t1 t2 t3 hc, Result.evThen_ok, events_convert_to_unsafe t1 t2 t3 hc, Sem.events_pure]
      rw [h.value (main := main) ho hrun]
      unfold listed
      rw [hev, seen_none]
     ·cases hx
    ·cases hx
   ·cases hx
  ·cases hx
 ·cases hx
theorem xdf_step (ht : Tie P tie) (h : At P lo tie S under O W g w E) (hx : xdf lo f S = some S') (he : Entry P f (fun _ => do mark .enable; pure Extern.Race.none_)) :
  stepG P main g w = .go (S'.gor E under) w #[ConcR.mk .enable] ∧ lo ≤ S'.N.wm ∧ At P lo tie S' under O W (S'.gor E under) w E := by
 unfold xdf at hx
 split at hx
 ·rename_i fn kd n t g' ds kk cs N
  split at hx
  ·rename_i e
   split at hx
   ·rename_i hlo
    cases hx
    subst e
    obtain ⟨fd, h1, h2, h3, h4, h5⟩ := he.ex
    have hst := h.rel.top
    refine ⟨?_, hlo, ⟨rfl, ⟨h.rel.rel, ⟨hst.a, ⟨hst.clo.tmps, fun d hd => hst.clo.dm d (List.mem_cons_of_mem _ hd)⟩, hst.ar, hst.its, hst.ret, hst.kd⟩, h.rel.cs, stk_top h.rel.stk rfl⟩, h.own, h.tie⟩⟩
    rw [h.g]
    have := stepG_unwind_entry (P := P) (main := main) (b := SF.base E ⟨fn, none, kd, true, ⟨n, t, .call g' [] [] :: ds⟩, kk⟩) (a := E.act (⟨n, t, .call g' [] [] :: ds⟩ : FA).abs) (todo := kk.map (It.item E)) (cs := cs.map (SF.frame E) ++ under) (w := w) (ds := ds.map E.dm) (f := g') (args := #[]) (fn := fd)
     (e := fun _ => do mark .enable; pure Extern.Race.none_) (v := .tuple #[]) (w' := w) (evs := #[ConcR.mk .enable]) rfl h1 h2 h3 h4 h5 (by simp [Extern.Race.none_]) (by simp [ConcR.mk]) (by
      intro x hx
      simp [ConcR.mk] at hx
      subst hx
      exact ⟨rfl, fun g h => by cases h⟩)
    exact this
   ·cases hx
  ·cases hx
 ·cases hx
end
section
variable (P : Program) (R : Rec) (fuel lo k : Nat) (x : XF)
def keFlow (S : St) : Option St := match xm0 lo x.enable (toStop P R fuel S) with
 | some S1 => match xcv P lo k 0 (toStop P R fuel S1) with
  | some S2 => xmA lo k x.acquire 0 (toStop P R fuel S2)
  | none => none
 | none => none
def hitFlow (S : St) : Option St := match xcv P lo k 1 (toStop P R fuel S) with
 | some S1 => match xmA lo k x.write 1 (toStop P R fuel S1) with
  | some S2 => match xmA lo k x.sema 1 (toStop P R fuel S2) with
   | some S3 => match xld lo k x.loadU 0 (toStop P R fuel S3) with
    | some S4 => keFlow P R fuel lo k x S4
    | none => none
   | none => none
  | none => none
 | none => none
def loadFlow (v : Nat) (S : St) : Option (St × Option St) := match xld lo k x.loadU (v * KK) (toStop P R fuel S) with
 | some S1 => match v with
  | 0 => match keFlow P R fuel lo k x S1 with
   | some S2 => some (S2, none)
   | none => none
  | v' + 1 => match xcs lo k x.casU ((v' + 1 : Nat) * KK) ((v' + 1 : Nat) * KK + 1) true (toStop P R fuel S1), xcs lo k x.casU ((v' + 1 : Nat) * KK) ((v' + 1 : Nat) * KK + 1) false (toStop P R fuel S1) with
   | some S2, some S3 => match hitFlow P R fuel lo k x S2 with
    | some S4 => some (S4, some S3)
    | none => none
   | _, _ => none
 | none => none
end
section
variable [Payload]
variable {P : Program} {A B : Rec} {fuel lo k b : Nat} {x : XF} {tie : KT} {S S' : St} {under : List Frame} {O W : Nat → Prop} {g : Goroutine} {w : World} {E : Env} {ty : TypeId} {J2 : World → Prop} {KE Anch : KP} {n : Nat}
structure Cx (P : Program) (A B : Rec) (x : XF) (k b : Nat) (tie : KT) (under : List Frame) : Prop where
 hP : NoCount P
 hm : P.follows .mixedOrders = true
 le : A.Le B
 ok : RecOk P B
 x : XOk P x
 ht : Tie P tie
 wg : ∀ O W E N w, tie O W E N w → tieWg k b O W E N w
 off : Hk.on = false
 hu : Caller .deferred under
theorem Cx.ctx (c : Cx P A B x k b tie under) (main : Bool) (J : World → Prop) : Ctx main J := ⟨fun h => by rw [c.off] at h; cases h⟩
theorem Cx.on (c : Cx P A B x k b tie under) {main : Bool} {J : World → Prop} {K : KP} (h : At P lo tie S under O W g w E) (hlo : lo ≤ (toStop P A fuel S).N.wm)
  (hK : ∀ O W g w E, J w → At P lo tie (toStop P A fuel S) under O W g w E → K O W g w) : Will P main J K O W g w :=
 haveI := c.ctx main J
 h.upto c.ht (toStop_reach c.hP c.hm c.le c.ok fuel S) hlo c.hu hK
theorem xm0_lo {f : FuncId} (h : xm0 lo f S = some S') : lo ≤ S.N.wm ∧ lo ≤ S'.N.wm := by
 obtain ⟨vs, nx, h1, rfl⟩ := xm0_eq h
 obtain ⟨o, h2⟩ := xcall_opn h1
 exact ⟨opn_lo h2, opn_wm h2 _⟩
theorem xmA_lo {f : FuncId} {off : Nat} (h : xmA lo k f off S = some S') : lo ≤ S.N.wm ∧ lo ≤ S'.N.wm := by
 obtain ⟨vs, nx, h1, rfl⟩ := xmA_eq h
 obtain ⟨o, h2⟩ := xcall_opn h1
 exact ⟨opn_lo h2, opn_wm h2 _⟩
theorem xld_lo {f : FuncId} {r : Int} (h : xld lo k f r S = some S') : lo ≤ S.N.wm ∧ lo ≤ S'.N.wm := by
 obtain ⟨nx, h1, rfl⟩ := xld_eq h
 obtain ⟨o, h2⟩ := xcall_opn h1
 exact ⟨opn_lo h2, opn_wm h2 _⟩
theorem xad_lo {f : FuncId} {d r : Int} (h : xad lo k f d r S = some S') : lo ≤ S.N.wm ∧ lo ≤ S'.N.wm := by
 obtain ⟨nx, h1, rfl⟩ := xad_eq h
 obtain ⟨o, h2⟩ := xcall_opn h1
 exact ⟨opn_lo h2, opn_wm h2 _⟩
theorem xcs_lo {f : FuncId} {o d : Int} {hit : Bool} (h : xcs lo k f o d hit S = some S') : lo ≤ S.N.wm ∧ lo ≤ S'.N.wm := by
 obtain ⟨nx, h1, rfl⟩ := xcs_eq h
 obtain ⟨o, h2⟩ := xcall_opn h1
 exact ⟨opn_lo h2, opn_wm h2 _⟩
theorem xcv_lo {off : Nat} (h : xcv P lo k off S = some S') : lo ≤ S.N.wm := by
 unfold xcv at h
 split at h
 ·rename_i o nx ho
  exact opn_lo ho
 ·cases h
theorem xdf_lo {f : FuncId} (h : xdf lo f S = some S') : lo ≤ S.N.wm := by
 unfold xdf at h
 split at h
 ·split at h
  ·split at h
   ·assumption
   ·cases h
  ·cases h
 ·cases h
theorem wg_cell {w : World} (h : WgLive ty b w) {off : Nat} (ho : off = 0 ∨ off = 1) : ∃ v, w.cell? ⟨b, off, none⟩ = some v := by
 obtain ⟨st, sm, h⟩ := h
 rcases ho with rfl | rfl
 ·exact ⟨_, h.cellSt⟩
 ·exact ⟨_, h.cellSm⟩
theorem Cx.conv (c : Cx P A B x k b tie under) {main : Bool} {K : KP} (h : At P lo tie S under O W g w E) (hlo : lo ≤ (toStop P A fuel S).N.wm) {off : Nat} (ho : off = 0 ∨ off = 1) {S1 : St} (hx : xcv P lo k off (toStop P A fuel S) = some S1)
  (hlo1 : lo ≤ (toStop P A fuel S1).N.wm) (hK : ∀ O W g w E, JJ ty b J2 w → At P lo tie (toStop P A fuel S1) under O W g w E → K O W g w) : Will P main (JJ ty b J2) K O W g w := by
 haveI := c.ctx main (JJ ty b J2)
 refine h.reach c.ht (toStop_reach c.hP c.hm c.le c.ok fuel S) hlo c.hu fun O W g w E h1 => ?_
 refine .step h1.running fun w1 hr hj => ?_
 have h2 := h1.rely c.ht hr
 obtain ⟨v, hv⟩ := wg_cell hj.1 ho
 obtain ⟨o, nx, e1, rfl, hst⟩ := xcv_step (main := main) h2 (c.wg _ _ _ _ _ h2.tie) hx hv
 have hw := c.wg _ _ _ _ _ h2.tie
 refine ⟨_, w1, #[], hst, Guar.still _ _ _, ?_⟩
 rw [grow_self, grow_self]
 exact c.on (h2.behind c.ht e1 (v := .pointer (some ⟨k, off, none⟩)) ⟨hw.1, rfl⟩ (Rely.refl _ _)) hlo1 hK
theorem unit_clo (D : Nat → Prop) : Clo D (.tuple #[]) := Clo_tuple.2 (by simp)
theorem Cx.ke (c : Cx P A B x k b tie under) {SF : St} (hf : keFlow P A fuel lo k x S = some SF) (hKE : ∀ O W g w E, At P lo tie SF under O W g w E → KE O W g w) (h : At P lo tie S under O W g w E) : MM P ty b J2 (nKe P ty b J2 KE) O W g w := by
 unfold keFlow at hf
 split at hf
 ·rename_i S1 h1
  split at hf
  ·rename_i S2 h2
   refine c.on h (xm0_lo h1).1 fun O W g w E hj h3 => ?_
   obtain ⟨vs, nx, hx, rfl⟩ := xm0_eq h1
   refine ⟨h3.running, _, h3.xmark0 hx .enable (by simp) c.x.enable, ?_⟩
   refine c.conv (h3.onward c.ht hx (unit_clo _) (Rely.refl _ _)) (xcv_lo h2) (.inl rfl) h2 (xmA_lo hf).1 fun O W g w E hj h4 => ?_
   obtain ⟨vs', nx', hx', rfl⟩ := xmA_eq hf
   refine ⟨h4.running, _, h4.xmarkAt (c.wg _ _ _ _ _ h4.tie) hx' .acquire (by simp) c.x.acquire, hKE _ _ _ _ E (h4.onward c.ht hx' (unit_clo _) (Rely.refl _ _))⟩
  ·cases hf
 ·cases hf
theorem not_wg (c : Cx P A B x k b tie under) (h : At P lo tie S under O W g w E) : ¬ O b := (c.wg _ _ _ _ _ h.tie).2.2.2.1
theorem Cx.hit (c : Cx P A B x k b tie under) {SF : St} (hf : hitFlow P A fuel lo k x S = some SF) (hKE : ∀ O W g w E, At P lo tie SF under O W g w E → KE O W g w) (h : At P lo tie S under O W g w E) : MM P ty b J2 (nWs P ty b J2 KE) O W g w := by
 unfold hitFlow at hf
 split at hf
 ·rename_i S1 h1
  split at hf
  ·rename_i S2 h2
   split at hf
   ·rename_i S3 h3
    split at hf
    ·rename_i S4 h4
     refine c.conv h (xcv_lo h1) (.inr rfl) h1 (xmA_lo h2).1 fun O W g w E hj a1 => ?_
     obtain ⟨vs, nx, hx, rfl⟩ := xmA_eq h2
     refine ⟨a1.running, _, a1.xmarkAt (c.wg _ _ _ _ _ a1.tie) hx .write (by simp) c.x.write, ?_⟩
     refine c.on (a1.onward c.ht hx (unit_clo _) (Rely.refl _ _)) (xmA_lo h3).1 fun O W g w E hj a2 => ?_
     obtain ⟨vs, nx, hx, rfl⟩ := xmA_eq h3
     refine ⟨a2.running, by rw [a2.g]; rfl, fun ⟨st, hw⟩ => ?_, fun hw => ⟨(nx (.tuple #[])).gor E under, ?_, ?_⟩⟩
     ·exact a2.xsemWait (c.wg _ _ _ _ _ a2.tie) hx c.x.sema hw.cellSm
     ·have := a2.xsem (main := true) (c.wg _ _ _ _ _ a2.tie) hx c.x.sema hw.cellSm (by decide) (hw.thaw 1)
      exact this
     ·refine c.on (a2.onward c.ht hx (unit_clo _) (rely_aside (not_wg c a2) (aside_setCell w (smA b) _))) (xld_lo h4).1 fun O W g w E hj a3 => ?_
      obtain ⟨nx, hx, rfl⟩ := xld_eq h4
      refine ⟨a3.running, fun hw => ⟨_, a3.xload (c.wg _ _ _ _ _ a3.tie) hx c.x.loadU hw.cellSt, c.ke hf hKE (a3.onward c.ht hx trivial (Rely.refl _ _))⟩⟩
    ·cases hf
   ·cases hf
  ·cases hf
 ·cases hf
structure WaitOk (P : Program) (A : Rec) (fuel lo k : Nat) (x : XF) (n m : Nat) (a : Nat → St) (Fin : St → Prop) : Prop where
 zero : ∀ i, i ≤ m → ∃ SF, loadFlow P A fuel lo k x 0 (a i) = some (SF, none) ∧ Fin SF
 more : ∀ i v, i ≤ m → v < n → ∃ SF SM j, loadFlow P A fuel lo k x (v + 1) (a i) = some (SF, some SM) ∧ Fin SF ∧ j ≤ m ∧ Reach P SM (a j)
 low : ∀ i, i ≤ m → lo ≤ (a i).N.wm
def AnchK (P : Program) (lo : Nat) (tie : KT) (under : List Frame) (n : Nat) (a : Nat → St) : KP := fun O W g w => ∃ i E, i ≤ n ∧ At P lo tie (a i) under O W g w E
def KeK (P : Program) (lo : Nat) (tie : KT) (under : List Frame) (Fin : St → Prop) : KP := fun O W g w => ∃ SF E, Fin SF ∧ At P lo tie SF under O W g w E
theorem Cx.anch (c : Cx P A B x k b tie under) {m : Nat} {a : Nat → St} {Fin : St → Prop} (hw : WaitOk P A fuel lo k x n m a Fin) (h : AnchK P lo tie under m a O W g w) :
  MM P ty b J2 (nW1 P ty b J2 n (KeK P lo tie under Fin) (AnchK P lo tie under m a)) O W g w := by
 obtain ⟨i, E, hi, h⟩ := h
 obtain ⟨SF0, e0, f0⟩ := hw.zero i hi
 have e0' := e0
 simp only [loadFlow] at e0
 split at e0
 rotate_left
 ·cases e0
 rename_i S1 hl
 split at e0
 rotate_left
 ·cases e0
 rename_i S2 hk
 cases e0
 refine c.on h (xld_lo hl).1 fun O W g w E hj a1 => ⟨a1.running, fun v hv hwg => ?_⟩
 cases v with
 | zero =>
  obtain ⟨nx, hx, rfl⟩ := xld_eq hl
  refine ⟨_, a1.xload (c.wg _ _ _ _ _ a1.tie) hx c.x.loadU hwg.cellSt, fun _ => c.ke hk (fun O W g w E h => ⟨_, E, f0, h⟩) (a1.onward c.ht hx trivial (Rely.refl _ _)), fun h => absurd rfl h⟩
 | succ v =>
  obtain ⟨SF, SM, j, e, f, hj', hr⟩ := hw.more i v hi (by omega)
  simp only [loadFlow] at e
  split at e
  rotate_left
  ·cases e
  rename_i S3 hl3
  split at e
  rotate_left
  ·cases e
  rename_i S4 S5 hc1 hc2
  split at e
  rotate_left
  ·cases e
  rename_i S6 hh
  cases e
  obtain ⟨nx, hx, rfl⟩ := xld_eq hl3
  refine ⟨_, a1.xload (c.wg _ _ _ _ _ a1.tie) hx c.x.loadU hwg.cellSt, fun h => absurd h (by omega), fun _ => ?_⟩
  refine c.on (a1.onward c.ht hx trivial (Rely.refl _ _)) (xcs_lo hc1).1 fun O W g w E hj a2 => ⟨a2.running, fun v' hv' hwg' => ⟨fun hvv => ?_, fun hvv => ?_⟩⟩
  ·subst hvv
   obtain ⟨nx, hx, rfl⟩ := xcs_eq hc1
   exact ⟨_, a2.xcasHit (c.wg _ _ _ _ _ a2.tie) hx c.x.casU hwg'.cellSt (hwg'.thaw 0), c.hit hh (fun O W g w E h => ⟨_, E, f, h⟩) (a2.onward c.ht hx trivial (rely_aside (not_wg c a2) (aside_setCell w (stA b) _)))⟩
  ·obtain ⟨nx, hx, rfl⟩ := xcs_eq hc2
   refine ⟨_, a2.xcasMiss (c.wg _ _ _ _ _ a2.tie) hx c.x.casU hwg'.cellSt (hwg'.thaw 0) (fun e => hvv ?_), ?_⟩
   ·simp only [KK] at e
    omega
   ·haveI := c.ctx true (JJ ty b J2)
    exact (a2.onward c.ht hx (v := .bool false) trivial (Rely.refl _ _)).upto c.ht hr (hw.low j hj') c.hu fun O W g w E _ h => ⟨j, E, hj', h⟩
end
end
end Go.Eng
namespace Go.Eng
noncomputable section
open Go.Conc
open Go.ConcN (WgLive Has WSit AtR0 RW DWs)
open Go.ConcR (KK wgBlock WgAt stA smA rd mk Payload)
set_option linter.unusedSimpArgs false
set_option linter.unusedVariables false
set_option linter.unusedSectionVars false
variable [Hk]
section
variable (P : Program) (R : Rec) (fuel lo k : Nat) (x : XF)
def addFlow (v : Nat) (S : St) : Option St := match xad lo k x.addU KK ((v + 1) * KK) (toStop P R fuel S) with
 | some S1 => match v with
  | 0 => match xcv P lo k 1 (toStop P R fuel S1) with
   | some S2 => match xmA lo k x.read 1 (toStop P R fuel S2) with
    | some S3 => xdf lo x.enable (toStop P R fuel S3)
    | none => none
   | none => none
  | _ + 1 => xdf lo x.enable (toStop P R fuel S1)
 | none => none
end
section
variable [Payload]
variable {P : Program} {A B : Rec} {fuel lo k b : Nat} {x : XF} {tie : KT} {S S' : St} {under : List Frame} {O W : Nat → Prop} {g : Goroutine} {w : World} {E : Env} {ty : TypeId} {J2 : World → Prop} {n : Nat}
variable {X : Nat → Addr → Prop} {Don : Nat → Nat → World → Prop} {S2 : Nat → Prop}
structure AddOk (P : Program) (A : Rec) (fuel lo k : Nat) (x : XF) (j : Nat) (S SG : St) : Prop where
 go : ∃ S0 S1, Reach P S S0 ∧ xm0 lo x.disable S0 = some S1 ∧ ∀ v, v ≤ j → ∃ S2, addFlow P A fuel lo k x v S1 = some S2 ∧ Reach P S2 SG
 low : lo ≤ SG.N.wm
theorem wrap_add {v : Nat} (h : v < 2147483647) : IntKind.u64.wrap ((v : Int) * KK + KK) = ((v : Int) + 1) * KK := by
 have e : (v : Int) * KK + KK = ((v : Int) + 1) * KK := by rw [Int.add_mul]; simp
 rw [e]
 simp only [IntKind.wrap_u64, KK]
 omega
theorem Cx.enab (c : Cx P A B x k b tie under) {SE SG : St} {j : Nat} {Next : KP} (hx : xdf lo x.enable (toStop P A fuel S) = some SE) (hr : Reach P SE SG) (hlo : lo ≤ SG.N.wm)
  (hgo : ∀ O W g w E, JJ ty b J2 w → At P lo tie SG under O W g w E → nGo P ty b J2 X Don S2 j Next O W g w) (h : At P lo tie S under O W g w E) : MM P ty b J2 (nKeS P ty b J2 X Don S2 j Next) O W g w := by
 refine c.on h (xdf_lo hx) fun O W g w E hj a1 => ?_
 obtain ⟨h1, h2, h3⟩ := xdf_step (main := true) c.ht a1 hx c.x.enable
 refine ⟨a1.running, _, h1, ?_⟩
 haveI := c.ctx true (JJ ty b J2)
 exact h3.upto c.ht hr hlo c.hu hgo
theorem Cx.add (c : Cx P A B x k b tie under) {SG : St} {j : Nat} {Next : KP} (hj : j < 2147483647) (ha : AddOk P A fuel lo k x j S SG)
  (hgo : ∀ O W g w E, JJ ty b J2 w → At P lo tie SG under O W g w E → nGo P ty b J2 X Don S2 j Next O W g w) (h : At P lo tie S under O W g w E) : MM P ty b J2 (nKdS P ty b J2 X Don S2 j Next) O W g w := by
 obtain ⟨⟨S0, S1, h0, hd, hall⟩, hlo⟩ := ha
 haveI := c.ctx true (JJ ty b J2)
 refine h.upto c.ht h0 (xm0_lo hd).1 c.hu fun O W g w E hjj a1 => ?_
 obtain ⟨vs, nx, hx, rfl⟩ := xm0_eq hd
 refine ⟨a1.running, _, a1.xmark0 hx .disable (by simp) c.x.disable, ?_⟩
 have hlo1 : lo ≤ (toStop P A fuel (nx (.tuple #[]))).N.wm := by
  obtain ⟨S2, h2, _⟩ := hall 0 (Nat.zero_le _)
  unfold addFlow at h2
  split at h2
  ·rename_i S3 h3
   exact (xad_lo h3).1
  ·cases h2
 refine c.on (a1.onward c.ht hx (unit_clo _) (Rely.refl _ _)) hlo1 fun O W g w E hjj a2 => ⟨a2.running, fun v hv hwg => ?_⟩
 obtain ⟨SE, hf, hr⟩ := hall v hv
 unfold addFlow at hf
 split at hf
 rotate_left
 ·cases hf
 rename_i S2 h2
 obtain ⟨nx2, hx2, rfl⟩ := xad_eq h2
 have hst := a2.xadd (main := true) (c.wg _ _ _ _ _ a2.tie) hx2 c.x.addU hwg.cellSt (hwg.thaw 0)
 rw [wrap_add (by omega)] at hst
 have a3 := a2.onward c.ht hx2 (v := .int .u64 ((v + 1) * KK)) trivial (rely_aside (not_wg c a2) (aside_setCell w (stA b) (.int .u64 ((v + 1) * KK))))
 refine ⟨_, hst, fun hv0 => ?_, fun hv0 => ?_⟩
 ·subst hv0
  simp only at hf
  split at hf
  rotate_left
  ·cases hf
  rename_i S3 h3
  split at hf
  rotate_left
  ·cases hf
  rename_i S4 h4
  refine c.conv a3 (xcv_lo h3) (.inr rfl) h3 (xmA_lo h4).1 fun O W g w E hj4 a4 => ?_
  obtain ⟨vs5, nx5, hx5, rfl⟩ := xmA_eq h4
  refine ⟨a4.running, _, a4.xmarkAt (c.wg _ _ _ _ _ a4.tie) hx5 .read (by simp) c.x.read, ?_⟩
  exact c.enab hf hr hlo hgo (a4.onward c.ht hx5 (unit_clo _) (Rely.refl _ _))
 ·cases v with
  | zero => exact absurd rfl hv0
  | succ v => exact c.enab hf hr hlo hgo a3
end
def St.xgo (lo : Nat) (S : St) : Option (FuncId × List Value × List Value × (Value → St)) := match S.opn lo with
 | some (o, nx) => match o.op with
  | .go c => match c.callee with
   | .value y => match S.ev y, evL S.ev c.args.toList with
    | some (.func (.func f) p q), some args => some (f, q.toList, p.toList ++ args, nx)
    | _, _ => none
   | _ => none
  | _ => none
 | none => none
section
variable {P : Program} {lo k b : Nat} {tie : KT} {S S' : St} {under : List Frame} {O W : Nat → Prop} {g : Goroutine} {w : World} {E : Env} {main : Bool} {f : FuncId} {q args : List Value} {nx : Value → St}
theorem xgo_step (h : At P lo tie S under O W g w E) (hx : S.xgo lo = some (f, q, args, nx)) :
  (∃ o, S.opn lo = some (o, nx)) ∧ (∀ v ∈ q, Clo E.D v) ∧ (∀ v ∈ args, Clo E.D v) ∧ stepG P main g w = .spawn ((nx undef).gor E under) (born P (E.dm (.call f q args))) w #[] := by
 unfold St.xgo at hx
 split at hx
 rotate_left
 ·cases hx
 rename_i o nx' ho
 split at hx
 rotate_left
 ·cases hx
 rename_i c hop
 split at hx
 rotate_left
 ·cases hx
 rename_i y hc
 split at hx
 rotate_left
 ·cases hx
 rename_i f' p q' args' hy hargs
 cases hx
 have hcl := h.args (as := [y]) (vs := [.func (.func f) p q']) (by simp [evL, hy])
 have hy1 : (E.act S.top.a.abs).eval y = E.m (.func (.func f) p q') := by simpa using hcl.1
 have hy2 : Clo E.D (.func (.func f) p q') := hcl.2 _ (by simp)
 obtain ⟨ha1, ha2⟩ := h.args hargs
 have hpq : (∀ u ∈ p.toList, Clo E.D u) ∧ (∀ u ∈ q'.toList, Clo E.D u) := by
  obtain ⟨p⟩ := p; obtain ⟨q'⟩ := q'
  exact ⟨CloL_all.1 hy2.2.1, CloL_all.1 hy2.2.2⟩
 refine ⟨⟨o, ho⟩, hpq.2, fun u hu => ?_, ?_⟩
 ·rcases List.mem_append.1 hu with hu | hu
  ·exact hpq.1 u hu
  ·exact ha2 u hu
 ·have e1 : c.args.map (E.act S.top.a.abs).eval = (args'.map E.m).toArray := by apply Array.ext'; simpa using ha1
  have e2 : E.m (.func (.func f) p q') = .func (.func f) (p.map E.m) (q'.map E.m) := m_func E (.func f) p q'
  have e3 : (q'.toList.map E.m).toArray = q'.map E.m := by apply Array.ext'; simp
  have e4 : ((p.toList ++ args').map E.m).toArray = p.map E.m ++ (args'.map E.m).toArray := by apply Array.ext'; simp
  have hrun : (execOp (E.act S.top.a.abs).eval o).run P w = .ok (.spawn (E.dm (.call f q'.toList (p.toList ++ args')))) w := by
   simp only [execOp, hop, resolve, hc, e1, hy1, e2, Deferred.ofValue, pure_bind, Sem.run_pure, Env.dm]
   rw [e3, e4]
  have hev : (execOp (E.act S.top.a.abs).eval o).events P w #[] = #[] := by
   simp only [execOp, hop, resolve, hc, e1, hy1, e2, Deferred.ofValue, pure_bind, Sem.events_pure]
  obtain ⟨fn, kd, a, ops, i, r, kk, cs, N, rfl, hg, _, rfl⟩ := opn_eq ho
  rw [h.g, gor_reg, gor_next, ← act_put_at h.rel.top.a]
  rw [stepG_spawn (b := SF.base E ⟨fn, none, kd, false, a, kk⟩) h.op (wanted_of hg _) h.kind hrun rfl]
  unfold listed
  rw [hev, seen_none]
  rfl
def botF (P : Program) : Frame := { (default : Frame) with fn := P.funcs.size, defers := [], mode := .panicking [goexitEntry] }
theorem caller_bot (P : Program) : Caller .deferred [botF P] := ⟨.inr rfl, fun fr hk => by simp [tryRecover, hk, botF, goexitEntry]⟩
theorem born_first {fd : Func} (hf : P.funcs[f]? = some fd) (hn : (fd.name == "runtime.NumGoroutine") = false) (hb : fd.body.isSome = true) (w : World) :
  stepG P false (born P (E.dm (.call f q args))) w = .go (G (Frame.enter P f ((args ++ q).map E.m).toArray .deferred) [botF P]) w #[] := by
 obtain ⟨c, hc⟩ := Option.isSome_iff_exists.1 hb
 have hn' : ¬ fd.name = "runtime.NumGoroutine" := by simpa using hn
 have e : ((args ++ q).map E.m).toArray = (args.map E.m).toArray ++ (q.map E.m).toArray := by simp
 rw [e]
 simp [born, Env.dm, stepG, unwind, callDeferred, invoke, callFunc, hf, hn', hc, seen_none, GStep.after, G, botF]
end
end
end Go.Eng
namespace Go.Eng
noncomputable section
open Go.Conc
open Go.Conc.Lib (WgLib WgLink)
open Go.ConcN (WgLive Has WSit AtR0 RW DWs)
open Go.ConcR (KK wgBlock WgAt stA smA rd mk Payload)
set_option linter.unusedSimpArgs false
set_option linter.unusedVariables false
set_option linter.unusedSectionVars false
variable [Hk]
def CH.only (N : CH) (ks : List Nat) (wm : Nat) : CH := ⟨N.sz, wm, 0, Tr.ofFn N.sz fun k => if ks.elem k = true then N.get k else none⟩
theorem CH.get_only (N : CH) (ks : List Nat) (wm : Nat) {k : Nat} (hk : k < N.sz) : (N.only ks wm).get k = if ks.elem k = true then N.get k else none := CH.get_ofFn (fun k => if ks.elem k = true then N.get k else none) hk
theorem CH.only_live {N : CH} {ks : List Nat} {wm k : Nat} (hk : k < N.sz) (h : (N.only ks wm).live k) : k ∈ ks ∧ N.live k := by
 obtain ⟨b, hb, hd⟩ := h
 rw [CH.get_only N ks wm hk] at hb
 split at hb
 ·rename_i he
  exact ⟨List.elem_iff.1 he, b, hb, hd⟩
 ·cases hb
theorem Rel.only {P : Program} {E : Env} {N : CH} {w : World} (R : Rel P E N w) (ks : List Nat) (wm : Nat) : Rel P E (N.only ks wm) w := by
 refine ⟨⟨Nat.zero_le _, Tr.full_ofFn _ _⟩, R.gl, R.dom, fun i j hi hj li lj e => R.inj i j hi hj (CH.only_live (R.dom i hi) li).2 (CH.only_live (R.dom j hj) lj).2 e, fun k b hk hb => R.blk k b hk ?_⟩
 rw [CH.get_only N ks wm (R.dom k hk)] at hb
 split at hb
 ·exact hb
 ·cases hb
def St.only (S : St) (ks : List Nat) (wm : Nat) : St := ⟨S.top, S.cs, S.N.only ks wm⟩
theorem At.only {P : Program} {lo lo' : Nat} {tie tie' : KT} {S : St} {under : List Frame} {O W O' W' : Nat → Prop} {g : Goroutine} {w : World} {E : Env} (h : At P lo tie S under O W g w E) (ks : List Nat) (wm : Nat)
  (ht : tie' O' W' E (S.N.only ks wm) w) (ho : ∀ k, k ∈ ks → E.D k → S.N.live k → O' (E.f k)) (hw : ∀ k, k ∈ ks → E.D k → S.N.live k → lo' ≤ k → W' (E.f k)) (hlt : ∀ b, O' b → O b) (hlo : lo' ≤ S.N.sz) : At P lo' tie' (S.only ks wm) under O' W' g w E :=
 ⟨h.g, ⟨h.rel.rel.only ks wm, h.rel.top, h.rel.cs, h.rel.stk⟩, ⟨fun k hk hl => let ⟨h1, h2⟩ := CH.only_live (h.rel.rel.dom k hk) hl; ho k h1 hk h2, fun k hk hl hl' => let ⟨h1, h2⟩ := CH.only_live (h.rel.rel.dom k hk) hl; hw k h1 hk h2 hl', fun b hb => h.own.lt b (hlt b hb), hlo⟩, ht⟩
def tieCell (C : Nat) (v : Value) : KT := fun O W E N w => O C ∧ W C ∧ (∀ k, E.D k → N.live k → E.f k ≠ C) ∧ w.cell? ⟨C, 0, none⟩ = some v
theorem tieCell_ok (P : Program) (C : Nat) (v : Value) : Tie P (tieCell C v) := fun lo O W E N w O' W' E' N' w' R H L ⟨h1, h2, h3, h4⟩ => by
 have hC := H.lt C h1
 refine ⟨L.oo C h1, L.ww C h2, fun k hk hl => ?_, ?_⟩
 ·rcases L.ext.fresh k hk with h | h | ⟨j, h5, h6, _, h7⟩
  ·rw [(L.ext.mono k h).2.1]
   exact h3 k h (L.ext.dead k h hl)
  ·omega
  ·rw [h7]
   exact h3 j h5 h6
 ·have := L.ext.frame C h1 hC h3
  rw [Go.ConcN.cell_of_block this]
  exact h4
def xdd (lo k : Nat) (d f : FuncId) : St → Bool
 | ⟨⟨fn, none, .deferred, true, ⟨_, _, [.call g [] [v]]⟩, _⟩, [], N⟩ => and (Nat.beq fn f) (and (Nat.beq g d) (and (isPtr k 0 v) (Nat.ble lo N.wm)))
 | _ => false
theorem xdd_eq {lo k : Nat} {d f : FuncId} {S : St} (h : xdd lo k d f S = true) : ∃ n t kk N, S = ⟨⟨f, none, .deferred, true, ⟨n, t, [.call d [] [.pointer (some ⟨k, 0, none⟩)]]⟩, kk⟩, [], N⟩ ∧ lo ≤ N.wm := by
 unfold xdd at h
 split at h
 ·simp only [Bool.and_eq_true] at h
  obtain ⟨h1, h2, h3, h4⟩ := h
  obtain rfl := Nat.eq_of_beq_eq_true h1
  obtain rfl := Nat.eq_of_beq_eq_true h2
  obtain rfl := isPtr_eq h3
  exact ⟨_, _, _, _, rfl, Nat.le_of_ble_eq_true h4⟩
 ·cases h
theorem quits_bot (P : Program) : QuitsD P 1 0 (G (botF P) []) := by
 refine QuitsD.ctl (g' := { G (botF P) [] with status := .finished }) rfl (fun w => ?_) ⟨rfl, rfl⟩
 simp [G, stepG, unwind, botF, goexitEntry, Frame.catches]
 rfl
theorem quits_tail {P : Program} {f : FuncId} {fd : Func} (hf : P.funcs[f]? = some fd) (hr : fd.results = #[]) {b : Frame} (hb : b.fn = f) (hk : b.kind = .deferred) (T : Array Value) (todo : List Item) : QuitsD P 2 0 (G { b.at ⟨T, []⟩ todo with mode := .returning } [botF P]) := by
 refine QuitsD.ctl (g' := G (botF P) []) rfl (fun w => ?_) (quits_bot P)
 simp [G, stepG, unwind, doReturn, results, Frame.at, hb, hk, hf, hr, seen, GStep.after, goexitEntry, botF]
section
variable [Payload]
variable {P : Program} {A B : Rec} {fuel m lo k b : Nat} {x : XF} {tie : KT} {S S' : St} {under : List Frame} {O W : Nat → Prop} {g : Goroutine} {w : World} {E : Env} {J2 : World → Prop} {n : Nat} {L : WgLink}
variable {X : Nat → Addr → Prop} {Don : Nat → Nat → World → Prop} {S2 : Nat → Prop}
open Go.Conc.Lib in
theorem Cx.child (c : Cx P A B x k b tie [botF P]) (H : WgLib P L) {i : Nat} (hC : ∀ O W g w E, At P lo tie (toStop P A m S) [botF P] O W g w E → ∃ C0 v, W C0 ∧ w.cell? ⟨C0, 0, none⟩ = some v) {f : FuncId} {fd : Func} (hf : P.funcs[f]? = some fd) (hr : fd.results = #[])
  (hx : xdd lo k L.done f (toStop P A m S) = true) (h : At P lo tie S [botF P] O W g w E) : NN P L.tWg b J2 (WkK P L.tWg b J2 X Don S2 i 0) O W g w := by
 haveI := c.ctx false (JJ L.tWg b J2)
 obtain ⟨n, t, kk, N, hS, hlo⟩ := xdd_eq hx
 have hre := toStop_reach c.hP c.hm c.le c.ok m S
 rw [hS] at hre
 refine h.reach c.ht hre hlo c.hu fun O W g w E a1 => ?_
 have hw := c.wg _ _ _ _ _ a1.tie
 have hp : E.m (.pointer (some ⟨k, 0, none⟩)) = .pointer (some ⟨b, 0, none⟩) := m_ptr hw
 obtain ⟨bc, hbc⟩ : ∃ bc, (doneFn L).body = some bc := ⟨_, rfl⟩
 have hst : ∀ w, stepG P false g w = .go (G ((baseD L.done).at ⟨#[.pointer (some ⟨b, 0, none⟩), undef, undef, undef], []⟩ [.code bc]) [{ (SF.base E ⟨f, none, .deferred, true, ⟨n, t, [.call L.done [] [.pointer (some ⟨k, 0, none⟩)]]⟩, kk⟩).at ⟨(E.act (⟨n, t, [.call L.done [] [.pointer (some ⟨k, 0, none⟩)]]⟩ : FA).abs).tmps, []⟩ (kk.map (It.item E)) with mode := .returning }, botF P]) w #[] := by
  intro w
  rw [a1.g]
  have := stepG_unwind_enter (P := P) (main := false) (b := SF.base E ⟨f, none, .deferred, true, ⟨n, t, [.call L.done [] [.pointer (some ⟨k, 0, none⟩)]]⟩, kk⟩) (a := E.act (⟨n, t, [.call L.done [] [.pointer (some ⟨k, 0, none⟩)]]⟩ : FA).abs) (todo := kk.map (It.item E)) (cs := [botF P]) (w := w) (ds := []) (f := L.done) (args := #[.pointer (some ⟨b, 0, none⟩)]) (fn := doneFn L) (c := bc)
   (by simp [Env.act, FA.abs, Env.dm, hp, dcall]) H.f_done (by rfl) hbc
  exact this
 refine .quiet a1.running hst (.stop fun w1 hr1 hj => ?_)
 obtain ⟨C0, v, h1, h2⟩ := hC _ _ _ _ E (hS ▸ a1.rely c.ht hr1)
 refine ⟨C0, h1, v, 23, .r0 ?_⟩
 have := Go.ConcN.Gen.doneN (P := P) (L := L) H (Own := fun _ _ => False) (Rd := fun _ _ => False) (Wg := b) (C := C0) (n := 1) (Low := 0) (k := 1) (val := v) (c := { (SF.base E ⟨f, none, .deferred, true, ⟨n, t, [.call L.done [] [.pointer (some ⟨k, 0, none⟩)]]⟩, kk⟩).at ⟨(E.act (⟨n, t, [.call L.done [] [.pointer (some ⟨k, 0, none⟩)]]⟩ : FA).abs).tmps, []⟩ (kk.map (It.item E)) with mode := .returning }) (cs := [botF P]) (qt := 2) rfl
  (quits_tail hf hr rfl rfl _ _) w1 ⟨hj.1, h2⟩
 have e : Go.ConcR.Gen.body_done L = bc := by
  unfold Go.ConcR.Gen.body_done
  rw [hbc]
  rfl
 rw [e] at this
 exact this
end
def tieSafe (lim : Nat) (Gd : Nat → Prop) (Ob Wb : Nat → Prop) (w0 : World) : KT := fun O W E N w =>
 (∀ k, E.D k → N.live k → Gd (E.f k)) ∧ lim ≤ w.heap.size ∧ (∀ b, Ob b → O b ∧ w.heap[b]? = w0.heap[b]?) ∧ (∀ b, Wb b → W b) ∧ (∀ k, k < N.sz → E.D k) ∧ w.os = w0.os ∧ w.tape = w0.tape ∧ w.output = w0.output
structure Gds (lim : Nat) (Gd Ob : Nat → Prop) : Prop where
 new : ∀ b, lim ≤ b → Gd b
 old : ∀ b, Gd b → ¬ Ob b
def tieAll (k bW lim : Nat) (Gd Ob : Nat → Prop) (w0 : World) : KT := fun O W E N w => tieWg k bW O W E N w ∧ tieSafe lim Gd Ob (fun _ => False) w0 O W E N w
def hasCell (N : CH) (k : Nat) : Bool := match N.get k with
 | some (.row (_ :: _) _ _) => true
 | _ => false
theorem hasCell_ok {P : Program} {E : Env} {N : CH} {w : World} (R : Rel P E N w) {k : Nat} (hk : E.D k) (h : hasCell N k = true) : N.live k ∧ ∃ v, w.cell? ⟨E.f k, 0, none⟩ = some v := by
 unfold hasCell at h
 split at h
 ·rename_i u l e el hg
  refine ⟨⟨_, hg, rfl⟩, ?_⟩
  obtain ⟨_, pre, sp, lo, hi, hh, _⟩ := R.row hk hg
  simp only [World.cell?, hh]
  cases pre with
  | nil => exact ⟨E.m u, by simp⟩
  | cons p pre => exact ⟨p, by simp⟩
 ·cases h
def apart (l m : List Nat) : Bool := l.all fun k => !(m.elem k)
theorem apart_eq {l m : List Nat} (h : apart l m = true) {k : Nat} (h1 : k ∈ l) (h2 : k ∈ m) : False := by
 have := List.all_eq_true.1 h k h1
 simp [h2] at this
section
variable [Payload]
variable {P : Program} {A B : Rec} {fuel m k b lim kC : Nat} {Gd : Nat → Prop} {x : XF} {SG : St} {under : List Frame} {O W : Nat → Prop} {g : Goroutine} {w : World} {E : Env} {J2 : World → Prop} {n : Nat} {L : WgLink}
variable {X : Nat → Addr → Prop} {Don : Nat → Nat → World → Prop} {S2 : Nat → Prop} {Ob : Nat → Prop} {w0 : World}
structure GoOk (P : Program) (A : Rec) (m k kC : Nat) (done : FuncId) (SG SP : St) (kp kch : List Nat) : Prop where
 ok : ∃ f q args nx sf fd, SG.xgo 0 = some (f, q, args, nx) ∧ kenter P f (args ++ q) .deferred = some sf ∧ xdd SG.N.sz k done f (toStop P A m ⟨sf, [], SG.N.only kch SG.N.sz⟩) = true ∧ SP = (nx undef).only kp 0 ∧
  P.funcs[f]? = some fd ∧ (fd.name == "runtime.NumGoroutine") = false ∧ fd.results = #[]
 c : hasCell SG.N kC = true
 lt : kC < SG.N.sz
 a1 : apart kp (kC :: kch) = true
 a2 : apart [kC] kch = true
theorem Cx.go (c : Cx P A B x k b (tieAll k b lim Gd Ob w0) under) (hG : Gds lim Gd Ob) (hGb : ∀ d, Gd d → d ≠ b) (H : WgLib P L) {SP : St} {kp kch : List Nat} (hg : GoOk P A m k kC L.done SG SP kp kch) {i : Nat} (hD : ∀ k w, Don i k w) {Next : KP}
  (hN : ∀ O W g w E, At P 0 (tieAll k b lim Gd Ob w0) SP under O W g w E → Next O W g w) (hj : JJ L.tWg b J2 w) (h : At P 0 (tieAll k b lim Gd Ob w0) SG under O W g w E) : nGo P L.tWg b J2 X Don S2 i Next O W g w := by
 obtain ⟨⟨f, q, args, nx, sf, fd, hx, hk, hdd, rfl, hf, hname, hres⟩, hc, hlt, ha1, ha2⟩ := hg
 obtain ⟨⟨o, ho⟩, hq, hargs, hst⟩ := xgo_step (main := true) h hx
 have hR := h.rel.rel
 obtain ⟨hw, hs⟩ := h.tie
 have hkC : E.D kC := hs.2.2.2.2.1 kC hlt
 obtain ⟨C0, hfC⟩ : ∃ C0, E.f kC = C0 := ⟨_, rfl⟩
 obtain ⟨hlC, v, hv⟩ := hasCell_ok hR hkC hc
 have hOC : O C0 := by rw [← hfC]; exact h.own.img kC hkC hlC
 have hWC : W C0 := by rw [← hfC]; exact h.own.wri kC hkC hlC (Nat.zero_le _)
 have hGC : Gd C0 := by rw [← hfC]; exact hs.1 kC hkC hlC
 have hCb : C0 ≠ b := hGb _ hGC
 have hnC : ∀ j, E.D j → SG.N.live j → j ≠ kC → E.f j ≠ C0 := fun j hj hl hne e => hne (hR.inj j kC hj hkC hl hlC (e.trans hfC.symm))
 have hcl : ∀ u ∈ args ++ q, Clo E.D u := fun u hu => (List.mem_append.1 hu).elim (hargs u) (hq u)
 obtain ⟨e1, e2, e3, e4, fd', hf', hb'⟩ := kenter_ok (E := E) hk hcl
 rw [hf] at hf'
 cases hf'
 refine ⟨h.running, _, _, hst, fun d => O d ∧ d ≠ C0, fun d => W d ∧ O d ∧ ¬ (d = C0 ∨ ∃ j, j ∈ kch ∧ E.D j ∧ SG.N.live j ∧ E.f j = d), fun d => d = C0 ∨ ∃ j, j ∈ kch ∧ E.D j ∧ SG.N.live j ∧ E.f j = d, fun d => d = C0, 0, Nat.zero_le _, ?_, ?_, ?_, ?_, fun kk _ => hD kk _, ?_, ?_⟩
 ·rintro d ⟨h1, h2, h3⟩
  exact ⟨h1, ⟨h2, fun e => h3 (.inl e)⟩, h3⟩
 ·exact fun d h => h
 ·rintro d rfl
  exact ⟨hWC, .inl rfl⟩
 ·rintro d (rfl | ⟨j, _, h2, h3, rfl⟩)
  ·exact hOC
  ·exact h.own.img j h2 h3
 ·-- the worker
  refine .quiet rfl (born_first (E := E) hf hname hb') ?_
  have c' : Cx P A B x k b (fun O W E N w => tieWg k b O W E N w ∧ tieCell C0 v O W E N w) [botF P] :=
   ⟨c.hP, c.hm, c.le, c.ok, c.x, (tieWg_ok P k b).and (tieCell_ok P C0 v), fun _ _ _ _ _ h => h.1, c.off, caller_bot P⟩
  have hat : At P SG.N.sz (fun O W E N w => tieWg k b O W E N w ∧ tieCell C0 v O W E N w) ⟨sf, [], SG.N.only kch SG.N.sz⟩ [botF P] (fun d => d = C0 ∨ ∃ j, j ∈ kch ∧ E.D j ∧ SG.N.live j ∧ E.f j = d) (fun d => d = C0)
    (G (Frame.enter P f ((args ++ q).map E.m).toArray .deferred) [botF P]) w E := by
   refine ⟨?_, ⟨hR.only _ _, e2, by simp, ⟨.inr ⟨e3, .inl rfl⟩, trivial⟩⟩, ⟨fun j hj hl => ?_, fun j hj hl hlo => ?_, fun d hd => ?_, Nat.le_refl _⟩, ⟨hw.1, hw.2.1, hw.2.2.1, ?_, hw.2.2.2.2⟩, .inl rfl, rfl, fun j hj hl e => ?_, ?_⟩
   ·unfold St.gor
    rw [e1]
    rfl
   ·obtain ⟨h1, h2⟩ := CH.only_live (hR.dom j hj) hl
    exact .inr ⟨j, h1, hj, h2, rfl⟩
   ·have := hR.dom j hj
    omega
   ·rcases hd with rfl | ⟨j, _, h2, h3, rfl⟩
    ·exact h.own.lt _ hOC
    ·exact h.own.lt _ (h.own.img j h2 h3)
   ·rintro (e | ⟨j, _, h2, h3, h4⟩)
    ·exact hCb e.symm
    ·exact hGb _ (hs.1 j h2 h3) h4
   ·obtain ⟨h1, h2⟩ := CH.only_live (hR.dom j hj) hl
    refine hnC j hj h2 (fun e' => ?_) e
    subst e'
    exact apart_eq ha2 (by simp) h1
   ·rw [← hfC]
    exact hv
  exact c'.child H (fun O W g w E ha => ⟨C0, v, ha.tie.2.2.1, ha.tie.2.2.2.2⟩) hf hres hdd hat
 ·-- goroutine 0
  have a1 := h.behind c.ht ho (v := undef) (undef_clo _) (Rely.refl _ _)
  obtain ⟨fn, kd, a, ops, i', r, kk, cs, N, rfl, hgd, hlo, rfl⟩ := opn_eq ho
  refine hN _ _ _ _ E (a1.only kp 0 ?_ ?_ ?_ (fun _ h => h.1) (Nat.zero_le _))
  ·refine ⟨⟨hw.1, hw.2.1, hw.2.2.1, fun hh => hw.2.2.2.1 hh.1, hw.2.2.2.2⟩, fun j hj hl => ?_, hs.2.1, fun d hd => ?_, fun _ h => h.elim, hs.2.2.2.2⟩
   ·exact hs.1 j hj (CH.only_live (hR.dom j hj) hl).2
   ·obtain ⟨b1, b3⟩ := hs.2.2.1 d hd
    exact ⟨⟨b1, fun e => hG.old _ hGC (e ▸ hd)⟩, b3⟩
  ·intro j hj hjD hl
   refine ⟨h.own.img j hjD hl, hnC j hjD hl fun e => ?_⟩
   subst e
   exact apart_eq ha1 hj (by simp)
  ·intro j hj hjD hl _
   refine ⟨h.own.wri j hjD hl (Nat.zero_le _), h.own.img j hjD hl, ?_⟩
   rintro (e | ⟨j', h1, h2, h3, h4⟩)
   ·exact hnC j hjD hl (fun e' => by subst e'; exact apart_eq ha1 hj (by simp)) e
   ·have := hR.inj j' j h2 hjD h3 hl h4
    subst this
    exact apart_eq ha1 hj (by simp [h1])
end
end
end Go.Eng
namespace Go.Eng
noncomputable section
open Go.Conc
open Go.Conc.Lib (WgLib WgLink)
open Go.ConcN (WgLive ShN Has WSit AtR0 RW DWs sumTo)
open Go.ConcR (KK wgBlock WgAt stA smA rd mk Payload)
set_option linter.unusedSimpArgs false
set_option linter.unusedVariables false
set_option linter.unusedSectionVars false
variable [Hk]
section
variable {P : Program} {Sh : Go.Loc → Prop} {O W : Nat → Prop} {gs : Array Goroutine} {w w2 : World} {t : Trace} {q : Nat → Nat}
end
end
end Go.Eng
namespace Go.Eng
noncomputable section
open Go.Conc
open Go.Conc.Lib (WgLib WgLink)
open Go.ConcN (WgLive ShN Has WSit AtR0 RW DWs sumTo)
open Go.ConcR (KK wgBlock WgAt stA smA rd mk Payload)
set_option linter.unusedSimpArgs false
set_option linter.unusedVariables false
set_option linter.unusedSectionVars false
variable [Hk]
theorem no_live {k : Nat} (hk : k < LIM) : ¬ (CH.first []).live k := by
 rintro ⟨b, hb, _⟩
 have := (CH.first_get hk).1 hb
 simp at this
section
variable [Payload]
variable {P : Program} {A B : Rec} {fuel na m k kC : Nat} {L : WgLink} {x : XF} {f : FuncId} {args : List Value} {v : Value} {kd : CallKind}
end
end
end Go.Eng
namespace Go.Eng
noncomputable section
open Go.Conc
open Go.ConcN (sumTo)
set_option linter.unusedSimpArgs false
set_option linter.unusedVariables false
set_option linter.unusedSectionVars false
variable [Hk]
theorem g_done {P : Program} {fr : Frame} {v : Value} {fn : Func} {w : World} (hm : fr.mode = .returning) (hd : fr.defers = []) (hk : fr.kind = .normal) (hf : P.funcs[fr.fn]? = some fn) (hi : P.inits.idxOf? fr.fn = none) (hr : (results fn fr.tmps).run P w = .ok v w) :
  ∃ es, Lists P fr.fn ((results fn fr.tmps).events P w #[]) es ∧ stepG P true (G fr []) w = .ended (.done v) w es := by
 refine ⟨seen P fr.fn ((results fn fr.tmps).events P w #[]), fun e he => he, ?_⟩
 simp [G, stepG, unwind, doReturn, hm, hd, hk, hf, hi, hr, GStep.after]
end
end Go.Eng
namespace Go.Eng
noncomputable section
open Go.Conc
open Go.Conc.Lib (WgLib WgLink)
set_option linter.unusedSimpArgs false
set_option linter.unusedVariables false
set_option linter.unusedSectionVars false
section
variable (P : Program) (A : Rec) (fuel na m k kC : Nat) (ty : TypeId) (done : FuncId) (x : XF) (f : FuncId) (args : List Value) (v : Value) (kd : CallKind) (kp kch keys : List Nat)
end
variable [Hk]
section
variable {P : Program} {A B : Rec} {fuel na m k kC : Nat} {L : WgLink} {x : XF} {f : FuncId} {args : List Value} {v : Value} {kd : CallKind} {kp kch keys : List Nat}
end
end
end Go.Eng
namespace Go.Eng
noncomputable section
open Go.Conc
set_option linter.unusedSimpArgs false
set_option linter.unusedVariables false
set_option linter.unusedSectionVars false
section
variable {H : Type} {enc : TypeId × Value → H}
end
end
end Go.Eng
namespace Go.Eng
noncomputable section
open Go.Conc
open Go.Conc.Lib (WgLib WgLink)
open Go.ConcR (Payload)
set_option linter.unusedSimpArgs false
set_option linter.unusedVariables false
set_option linter.unusedSectionVars false
open Go.Conc.Lib Go.ConcR.Gen in
section
variable {P : Program} {fuel na m k kC Ld d : Nat} {L : WgLink} {f : FuncId} {args : List Value} {v : Value} {kp kch keys : List Nat}
end
end
end Go.Eng
