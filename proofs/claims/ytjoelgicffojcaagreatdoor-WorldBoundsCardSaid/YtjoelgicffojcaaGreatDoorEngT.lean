/-
  The engine, part U: many goroutines: the trace. Each goroutine that is still at work has places that it may read, and among them such as it may write; what one may write no other may touch.
-/
import Derived.Test.YtjoelgicffojcaaGreatDoorEngI
import Derived.Conc.Own
import Derived.Conc.Listed
import Derived.Conc.CrowdTrace
import Derived.Conc.CrowdBase
import Derived.Conc.Beside
import Derived.StepT
import Derived.Conc.Events
import Derived.Conc.AtomicLaws
set_option linter.unusedSectionVars false
set_option linter.unusedSimpArgs false
set_option linter.unusedVariables false
namespace Go.Eng
noncomputable section
open Go.Conc
open Go.ConcN (PermW fork_knows RelBy upd upd_same upd_ne)
set_option linter.unusedSimpArgs false
set_option linter.unusedVariables false
structure Gh where
 O : Nat → Prop
 W : Nat → Prop
 X : Addr → Prop
def Gh.ol (q : Gh) : Loc → Prop
 | .cell a => q.O a.block ∨ q.X a
 | .obj b => q.O b
 | _ => False
def Gh.wl (q : Gh) : Loc → Prop
 | .cell a => q.W a.block ∨ q.X a
 | .obj b => q.W b
 | _ => False
def fresh (B : Nat) : Loc → Prop
 | .cell a => B ≤ a.block
 | .obj b => B ≤ b
 | _ => False
theorem fresh_low {B : Nat} {l : Loc} (h : fresh B l) : ¬ l.low B := by
 cases l <;> simp only [fresh, Loc.low] at * <;> omega
theorem touch_low {B : Nat} {x : MemAct} {b : Touch} (h : x.low B) (hb : x.touch? = some b) : b.loc.low B := by
 cases x with
 | access e =>
  simp only [MemAct.touch?, Option.some.injEq] at hb
  subst hb
  exact h
 | mark m =>
  cases m <;> simp only [MemAct.touch?, Option.some.injEq, reduceCtorEq] at hb
  ·subst hb; exact h
  ·subst hb; exact h
 | _ => simp [MemAct.touch?] at hb
def Lo (B : Nat) (x : MemAct) : Prop := ∀ b, x.touch? = some b → b.loc.low B
theorem lo_of {B : Nat} {x : MemAct} (h : x.low B) : Lo B x := fun b hb => touch_low h hb
theorem Lo.mono {B B' : Nat} (hB : B ≤ B') {x : MemAct} (h : Lo B x) : Lo B' x := fun b hb => Loc.low_mono hB (h b hb)
def OkP (q : Gh) (B : Nat) (x : MemAct) : Prop := ∀ b, x.touch? = some b → b.kind = .plain ∧ (q.ol b.loc ∨ fresh B b.loc) ∧ (b.write = true → q.wl b.loc ∨ fresh B b.loc)
structure TR (Sh : Loc → Prop) (Lv : Nat → Prop) (Q : Nat → Gh) (B : Nat) (t : Trace) : Prop where
 quiet : Quiet Sh t
 wr : ∀ x, Lv x → ∀ l, (Q x).wl l → Perm t x l
 rd : ∀ x, Lv x → ∀ l, (Q x).ol l → PermW t x l
 nr : ∀ said, ¬ Race said t
 seen : ∀ op ∈ t, Lo B op.act
 lt : ∀ x, Lv x → ∀ l, (Q x).ol l → l.low B ∧ ¬ Sh l
 sub : ∀ x, Lv x → ∀ l, (Q x).wl l → (Q x).ol l
 apart : ∀ x y, Lv x → Lv y → x ≠ y → ∀ l, (Q x).wl l → ¬ (Q y).ol l
 shl : ∀ l, Sh l → l.low B
section
variable {Sh : Loc → Prop} {Lv : Nat → Prop} {Q : Nat → Gh} {B B' : Nat} {t u : Trace}
theorem TR.mono (h : TR Sh Lv Q B t) (hB : B ≤ B') : TR Sh Lv Q B' t :=
 ⟨h.quiet, h.wr, h.rd, h.nr, fun op hop => (h.seen op hop).mono hB, fun x hx l hl => ⟨Loc.low_mono hB (h.lt x hx l hl).1, (h.lt x hx l hl).2⟩, h.sub, h.apart, fun l hl => Loc.low_mono hB (h.shl l hl)⟩
theorem TR.weaken {Lv' : Nat → Prop} {Q' : Nat → Gh} (h : TR Sh Lv Q B t) (hL : ∀ x, Lv' x → Lv x ∧ (∀ l, (Q' x).wl l → (Q x).wl l ∧ (Q' x).ol l) ∧ ∀ l, (Q' x).ol l → (Q x).ol l) : TR Sh Lv' Q' B t :=
 ⟨h.quiet, fun x hx l hl => h.wr x (hL x hx).1 l ((hL x hx).2.1 l hl).1, fun x hx l hl => h.rd x (hL x hx).1 l ((hL x hx).2.2 l hl), h.nr, h.seen,
  fun x hx l hl => h.lt x (hL x hx).1 l ((hL x hx).2.2 l hl), fun x hx l hl => ((hL x hx).2.1 l hl).2,
  fun x y hx hy hne l hl hl' => h.apart x y (hL x hx).1 (hL y hy).1 hne l ((hL x hx).2.1 l hl).1 ((hL y hy).2.2 l hl'), h.shl⟩
theorem perm_fresh (h : TR Sh Lv Q B t) {x : Nat} {l : Loc} (hl : fresh B l) : Perm t x l := by
 intro i a ha he
 obtain ⟨y, hy, hya⟩ := touch_of ha
 exact absurd (he ▸ h.seen y (Array.mem_of_getElem? hy) a hya) (fresh_low hl)
theorem TR.plain (h : TR Sh Lv Q B t) {x : Nat} (hx : Lv x) (hu : ∀ op ∈ u, op.g = x ∧ OkP (Q x) B op.act) (hl : ∀ op ∈ u, Lo B' op.act) (hB : B ≤ B') {q : Gh}
  (h1 : ∀ l, q.wl l → (Q x).wl l ∨ fresh B l) (h2 : ∀ l, q.ol l → (Q x).ol l ∨ fresh B l) (h3 : ∀ l, q.wl l → q.ol l) (h4 : ∀ l, q.ol l → l.low B') : TR Sh Lv (upd Q x q) B' (t ++ u) := by
 have hsh : ∀ l, (Q x).ol l ∨ fresh B l → ¬ Sh l := fun l hl hs => by
  rcases hl with hl | hl
  ·exact (h.lt x hx l hl).2 hs
  ·exact fresh_low hl (h.shl l hs)
 have hother : ∀ y, Lv y → y ≠ x → ∀ l, (Q y).ol l → ¬ ((Q x).wl l ∨ fresh B l) := fun y hy hne l hl hc => by
  rcases hc with hc | hc
  ·exact h.apart x y hx hy (Ne.symm hne) l hc hl
  ·exact fresh_low hc (h.lt y hy l hl).1
 have hother2 : ∀ y, Lv y → y ≠ x → ∀ l, (Q y).wl l → ¬ ((Q x).ol l ∨ fresh B l) := fun y hy hne l hl hc => by
  rcases hc with hc | hc
  ·exact h.apart y x hy hx hne l hl hc
  ·exact fresh_low hc (h.lt y hy l (h.sub y hy l hl)).1
 refine ⟨h.quiet.app fun op hop b hb hs => absurd hs (hsh _ ((hu op hop).2 b hb).2.1), fun y hy l hl => ?_, fun y hy l hl => ?_, fun said => ?_, fun op hop => ?_, fun y hy l hl => ?_, fun y hy l hl => ?_, fun y z hy hz hne l hl hl' => ?_, fun l hl => Loc.low_mono hB (h.shl l hl)⟩
 ·by_cases e : y = x
  ·subst e
   rw [upd_same] at hl
   have h0 : Perm t y l := by
    rcases h1 l hl with h5 | h5
    ·exact h.wr y hx l h5
    ·exact perm_fresh h h5
   exact h0.app fun op hop _ _ _ => (hu op hop).1
  ·rw [upd_ne _ _ e] at hl
   refine (h.wr y hy l hl).app fun op hop b hb hbl => ?_
   exact absurd (hbl ▸ ((hu op hop).2 b hb).2.1) (hother2 y hy e l hl)
 ·by_cases e : y = x
  ·subst e
   rw [upd_same] at hl
   have h0 : PermW t y l := by
    rcases h2 l hl with h5 | h5
    ·exact h.rd y hx l h5
    ·exact .of (perm_fresh h h5)
   exact h0.app fun op hop _ _ _ _ => (hu op hop).1
  ·rw [upd_ne _ _ e] at hl
   refine (h.rd y hy l hl).app fun op hop b hb hbl hbw => ?_
   exact absurd (hbl ▸ ((hu op hop).2 b hb).2.2 hbw) (hother y hy e l hl)
 ·refine noRace_append (h.nr said) (fun op hop => (hu op hop).1) (fun i a ha op hop b hb hc => ?_)
  obtain ⟨_, h5, h6⟩ := (hu op hop).2 b hb
  cases hbw : b.write with
  | true =>
   rcases h6 hbw with h7 | h7
   ·exact h.wr x hx b.loc h7 i a ha hc.1
   ·exact perm_fresh h h7 i a ha hc.1
  | false =>
   have haw : a.write = true := hc.2.2.1.resolve_right (by simp [hbw])
   rcases h5 with h7 | h7
   ·exact h.rd x hx b.loc h7 i a ha hc.1 haw
   ·exact perm_fresh h h7 i a ha hc.1
 ·rcases Array.mem_append.1 hop with h5 | h5
  ·exact (h.seen op h5).mono hB
  ·exact hl op h5
 ·by_cases e : y = x
  ·subst e
   rw [upd_same] at hl
   exact ⟨h4 l hl, hsh l (h2 l hl)⟩
  ·rw [upd_ne _ _ e] at hl
   exact ⟨Loc.low_mono hB (h.lt y hy l hl).1, (h.lt y hy l hl).2⟩
 ·by_cases e : y = x
  ·subst e
   rw [upd_same] at hl ⊢
   exact h3 l hl
  ·rw [upd_ne _ _ e] at hl ⊢
   exact h.sub y hy l hl
 ·by_cases ey : y = x
  ·subst ey
   rw [upd_same] at hl
   rw [upd_ne _ _ (Ne.symm hne)] at hl'
   exact hother z hz (Ne.symm hne) l hl' (h1 l hl)
  ·rw [upd_ne _ _ ey] at hl
   by_cases ez : z = x
   ·subst ez
    rw [upd_same] at hl'
    exact hother2 y hy ey l hl (h2 l hl')
   ·rw [upd_ne _ _ ez] at hl'
    exact h.apart y z hy hz hne l hl hl'
theorem TR.shared (h : TR Sh Lv Q B t) {x : Nat} (hu : ∀ op ∈ u, op.g = x ∧ ∀ b, op.act.touch? = some b → Sh b.loc ∧ b.kind ≠ .plain ∧ (b.kind = .said → x = 0)) (hl : ∀ op ∈ u, Lo B op.act) : TR Sh Lv Q B (t ++ u) := by
 refine ⟨h.quiet.app fun op hop b hb _ => ⟨((hu op hop).2 b hb).2.1, fun hs => (hu op hop).1.trans (((hu op hop).2 b hb).2.2 hs)⟩, fun y hy l hl => ?_, fun y hy l hl => ?_, fun said => ?_, fun op hop => ?_, h.lt, h.sub, h.apart, h.shl⟩
 ·exact (h.wr y hy l hl).app fun op hop b hb hbl => absurd (hbl ▸ ((hu op hop).2 b hb).1) (h.lt y hy l (h.sub y hy l hl)).2
 ·exact (h.rd y hy l hl).app fun op hop b hb hbl _ => absurd (hbl ▸ ((hu op hop).2 b hb).1) (h.lt y hy l hl).2
 ·refine noRace_append (h.nr said) (fun op hop => (hu op hop).1) (fun i a ha op hop b hb hc => ?_)
  obtain ⟨h5, h6, h7⟩ := (hu op hop).2 b hb
  exact h.quiet.known h5 h6 h7 i a ha hc
 ·rcases Array.mem_append.1 hop with h5 | h5
  ·exact h.seen op h5
  ·exact hl op h5
theorem TR.fork (h : TR Sh Lv Q B t) (h0 : Lv 0) {c : Nat} (hc : ¬ Lv c) (hc0 : c ≠ 0) {x y : MemOp} (hx : x.g = 0 ∧ x.act = .go c) (hy : y.g = c ∧ y.act = .start) (hd0 : Deaf t 0 = 0) (hdc : Deaf t c = 0) {q0 qc : Gh}
  (a1 : ∀ l, q0.wl l → (Q 0).wl l ∧ ¬ qc.ol l) (a2 : ∀ l, q0.ol l → (Q 0).ol l ∧ ¬ qc.wl l) (a3 : ∀ l, q0.wl l → q0.ol l)
  (b1 : ∀ l, qc.wl l → (Q 0).wl l) (b2 : ∀ l, qc.ol l → (Q 0).ol l) (b3 : ∀ l, qc.wl l → qc.ol l) :
  TR Sh (fun z => Lv z ∨ z = c) (upd (upd Q 0 q0) c qc) B (t ++ #[x, y]) := by
 have hnt : ∀ op ∈ #[x, y], ∀ b, op.act.touch? = some b → False := by
  intro op hop b hb
  simp only [List.mem_toArray, List.mem_cons, List.not_mem_nil, or_false] at hop
  rcases hop with rfl | rfl
  ·rw [hx.2] at hb; cases hb
  ·rw [hy.2] at hb; cases hb
 have old : ∀ {i : Nat} {a : Touch}, touchAt (t ++ #[x, y]) i = some a → touchAt t i = some a := by
  intro i a ha
  obtain ⟨z, hz, hza⟩ := touch_of ha
  rcases getElem?_append_cases hz with ⟨_, hz'⟩ | ⟨_, hzu⟩
  ·rw [touchAt_of hz']; exact hza
  ·exact (hnt z hzu a hza).elim
 have q0e : upd (upd Q 0 q0) c qc 0 = q0 := by rw [upd_ne _ _ (Ne.symm hc0), upd_same]
 have qce : upd (upd Q 0 q0) c qc c = qc := upd_same ..
 have qe : ∀ z, z ≠ 0 → z ≠ c → upd (upd Q 0 q0) c qc z = Q z := fun z h1 h2 => by rw [upd_ne _ _ h2, upd_ne _ _ h1]
 refine ⟨h.quiet.app fun op hop b hb _ => (hnt op hop b hb).elim, fun z hz l hl => ?_, fun z hz l hl => ?_, fun said => ?_, fun op hop => ?_, fun z hz l hl => ?_, fun z hz l hl => ?_, fun y' z hy' hz hne l hl hl' => ?_, h.shl⟩
 ·by_cases ec : z = c
  ·subst ec
   rw [qce] at hl
   exact fun i a ha e => fork_knows hx hy hd0 hdc (h.wr 0 h0 l (b1 l hl) i a (old ha) e)
  ·have hz' : Lv z := hz.resolve_right ec
   by_cases e0 : z = 0
   ·subst e0
    rw [q0e] at hl
    exact (h.wr 0 h0 l (a1 l hl).1).app fun op hop b hb _ => (hnt op hop b hb).elim
   ·rw [qe z e0 ec] at hl
    exact (h.wr z hz' l hl).app fun op hop b hb _ => (hnt op hop b hb).elim
 ·by_cases ec : z = c
  ·subst ec
   rw [qce] at hl
   exact fun i a ha e hw => fork_knows hx hy hd0 hdc (h.rd 0 h0 l (b2 l hl) i a (old ha) e hw)
  ·have hz' : Lv z := hz.resolve_right ec
   by_cases e0 : z = 0
   ·subst e0
    rw [q0e] at hl
    exact (h.rd 0 h0 l (a2 l hl).1).app fun op hop b hb _ _ => (hnt op hop b hb).elim
   ·rw [qe z e0 ec] at hl
    exact (h.rd z hz' l hl).app fun op hop b hb _ _ => (hnt op hop b hb).elim
 ·have e : t ++ #[x, y] = (t ++ #[x]) ++ #[y] := by apply Array.ext'; simp
  rw [e]
  refine noRace_append (g := c) (noRace_append (g := 0) (h.nr said) (fun op hop => by simp at hop; rw [hop]; exact hx.1) (fun i a _ op hop b hb _ => (hnt op (by simp at hop ⊢; exact .inl hop) b hb).elim))
   (fun op hop => by simp at hop; rw [hop]; exact hy.1) (fun i a _ op hop b hb _ => (hnt op (by simp at hop ⊢; exact .inr hop) b hb).elim)
 ·rcases Array.mem_append.1 hop with h5 | h5
  ·exact h.seen op h5
  ·simp only [List.mem_toArray, List.mem_cons, List.not_mem_nil, or_false] at h5
   rcases h5 with rfl | rfl
   ·intro b hb; rw [hx.2] at hb; cases hb
   ·intro b hb; rw [hy.2] at hb; cases hb
 ·by_cases ec : z = c
  ·subst ec
   rw [qce] at hl
   exact h.lt 0 h0 l (b2 l hl)
  ·have hz' : Lv z := hz.resolve_right ec
   by_cases e0 : z = 0
   ·subst e0
    rw [q0e] at hl
    exact h.lt 0 h0 l (a2 l hl).1
   ·rw [qe z e0 ec] at hl
    exact h.lt z hz' l hl
 ·by_cases ec : z = c
  ·subst ec
   rw [qce] at hl ⊢
   exact b3 l hl
  ·have hz' : Lv z := hz.resolve_right ec
   by_cases e0 : z = 0
   ·subst e0
    rw [q0e] at hl ⊢
    exact a3 l hl
   ·rw [qe z e0 ec] at hl ⊢
    exact h.sub z hz' l hl
 ·by_cases ec : y' = c
  ·subst ec
   rw [qce] at hl
   have hz' : Lv z := hz.resolve_right (Ne.symm hne)
   by_cases e0 : z = 0
   ·subst e0
    rw [q0e] at hl'
    exact (a2 l hl').2 hl
   ·rw [qe z e0 (Ne.symm hne)] at hl'
    exact h.apart 0 z h0 hz' (Ne.symm e0) l (b1 l hl) hl'
  ·have hyl : Lv y' := hy'.resolve_right ec
   by_cases ez : z = c
   ·subst ez
    rw [qce] at hl'
    by_cases e0 : y' = 0
    ·subst e0
     rw [q0e] at hl
     exact (a1 l hl).2 hl'
    ·rw [qe y' e0 ec] at hl
     exact h.apart y' 0 hyl h0 e0 l hl (b2 l hl')
   ·have hz' : Lv z := hz.resolve_right ez
    by_cases e0 : y' = 0
    ·subst e0
     rw [q0e] at hl
     rw [qe z (Ne.symm hne) ez] at hl'
     exact h.apart 0 z h0 hz' hne l (a1 l hl).1 hl'
    ·rw [qe y' e0 ec] at hl
     by_cases f0 : z = 0
     ·subst f0
      rw [q0e] at hl'
      exact h.apart y' 0 hyl h0 e0 l hl (a2 l hl').1
     ·rw [qe z f0 ez] at hl'
      exact h.apart y' z hyl hz' hne l hl hl'
end
structure HD (Sh : Loc → Prop) (Cur : Nat → Prop) (t : Trace) : Prop where
 kind : ∀ i a, touchAt t i = some a → a.kind = .plain ∨ Sh a.loc
 over : ∀ i g, t.g? i = some g → g ≠ 0 → ¬ Cur g → t.counts i → ∃ j, t.g? j = some 0 ∧ HappensBefore t i j
section
variable {Sh : Loc → Prop} {Cur : Nat → Prop} {t u : Trace}
theorem HD.app (h : HD Sh Cur t) (hk : ∀ op ∈ u, ∀ b, op.act.touch? = some b → b.kind = .plain ∨ Sh b.loc) (ho : ∀ op ∈ u, op.g = 0 ∨ Cur op.g ∨ op.act.touch? = none) : HD Sh Cur (t ++ u) := by
 refine ⟨fun i a ha => ?_, fun i g hg hne hc hct => ?_⟩
 ·obtain ⟨x, hx, hxa⟩ := touch_of ha
  rcases getElem?_append_cases hx with ⟨hi, hx'⟩ | ⟨_, hxu⟩
  ·exact h.kind i a (by rw [touchAt_of hx']; exact hxa)
  ·exact hk x hxu a hxa
 ·have hct' := hct
  obtain ⟨x, hx, _⟩ := hct
  obtain ⟨op, hop, hox⟩ := touch_of hx
  rcases getElem?_append_cases hop with ⟨hi, hop'⟩ | ⟨_, hopu⟩
  ·obtain ⟨j, hj, hb⟩ := h.over i g (by simpa [Trace.g?, getElem?_append_old hi] using hg) hne hc ((counts_old hi).1 hct')
   have hjl : j < t.size := by
    unfold Trace.g? at hj
    obtain ⟨z, hz, _⟩ := Option.map_eq_some_iff.1 hj
    exact lt_size_of_getElem? hz
   exact ⟨j, by simpa [Trace.g?, getElem?_append_old hjl] using hj, hb_app u hb⟩
  ·have hgo : op.g = g := by simpa [Trace.g?, hop] using hg
   rcases ho op hopu with h0 | h0 | h0
   ·exact absurd (hgo ▸ h0) hne
   ·exact absurd (hgo ▸ h0) hc
   ·rw [h0] at hox; cases hox
theorem HD.mono {Sh' : Loc → Prop} {Cur' : Nat → Prop} (h : HD Sh Cur t) (h1 : ∀ l, Sh l → Sh' l) (h2 : ∀ g, Cur g → Cur' g) : HD Sh' Cur' t :=
 ⟨fun i a ha => (h.kind i a ha).imp id (h1 _), fun i g hg hne hc => h.over i g hg hne fun hh => hc (h2 g hh)⟩
theorem HD.perm (h : HD Sh (fun _ => False) t) {l : Loc} (hm : l.isMemory = true) (hs : ¬ Sh l) : Perm t 0 l := by
 intro i a ha hl
 obtain ⟨x, hx, hxa⟩ := touch_of ha
 by_cases h0 : x.g = 0
 ·have := knows_own hx
  rwa [h0] at this
 ·have hk : a.kind = .plain := (h.kind i a ha).resolve_right (fun hh => hs (hl ▸ hh))
  obtain ⟨j, hj, hb⟩ := h.over i x.g (by simp [Trace.g?, hx]) h0 id ⟨a, by simp [Trace.act?, hx, hxa], by rw [hl]; exact hm, .inl (by rw [hk]; simp)⟩
  obtain ⟨z, hz, hzg⟩ := Option.map_eq_some_iff.1 hj
  exact ⟨j, z, hz, hzg, .inr hb⟩
end
theorem ofEvents_g {x : Nat} {fn : FuncId} {pos : String} {es : Array Event} : ∀ op ∈ MemOp.ofEvents x fn pos es, op.g = x := fun op hop => by
 obtain ⟨e, _, rfl⟩ := Go.Conc.mem_ofEvents hop
 rfl
def Numbered (n : Nat) (t : Trace) : Prop := ∀ op ∈ t, op.g < n
theorem Numbered.app {n : Nat} {t u : Trace} (h : Numbered n t) (hu : ∀ op ∈ u, op.g < n) : Numbered n (t ++ u) := fun op hop => (Array.mem_append.1 hop).elim (h op) (hu op)
theorem Numbered.deaf {n : Nat} {t : Trace} (h : Numbered n t) {j : Nat} (hj : n ≤ j) : Deaf t j = 0 :=
 Go.ConcN.Deaf_absent fun i op hi e => by
  have := h op (Array.mem_of_getElem? hi)
  omega
structure BS (P : Program) (Sh : Loc → Prop) (O W : Nat → Prop) (gs : Array Goroutine) (w : World) (t : Trace) (q : Nat → Nat) : Prop where
 old : ∀ i g, 0 < i → gs[i]? = some g → QuitsD P (q i) (Deaf t i) g
 tr : TR Sh (fun x => x = 0) (fun _ => ⟨O, W, fun _ => False⟩) w.heap.size t
 hd : HD Sh (fun _ => False) t
 hears : Deaf t 0 = 0
 nums : Numbered gs.size t
abbrev KP := (Nat → Prop) → (Nat → Prop) → Goroutine → World → Prop
def Comes (P : Program) (Φ : KP) (O W : Nat → Prop) (g : Goroutine) (w : World) : Prop :=
 ∀ (Sh : Loc → Prop) (gs : Array Goroutine) (sl : Option (Nat × Nat)) (t : Trace) (q : Nat → Nat), gs[0]? = some g → BS P Sh O W gs w t q →
  ∃ (N : Nat) (Sh' : Loc → Prop) (gs' : Array Goroutine) (g' : Goroutine) (w' : World) (sl' : Option (Nat × Nat)) (t' : Trace) (q' : Nat → Nat) (O' W' : Nat → Prop),
   runNT P N (crowd gs w sl) t = (.next (crowd gs' w' sl'), t') ∧ gs'[0]? = some g' ∧ BS P Sh' O' W' gs' w' t' q' ∧ Φ O' W' g' w'
theorem BS.solo {P : Program} {O W : Nat → Prop} {g : Goroutine} {w : World} (hwo : ∀ b, W b → O b) (hl : ∀ b, O b → b < w.heap.size) : BS P (fun _ => False) O W #[g] w #[] (fun _ => 0) := by
 refine ⟨fun i x hi hx => ?_, ⟨fun i op x hi => by simp at hi, fun x _ l _ i a ha => by simp [touchAt, Trace.act?] at ha, fun x _ l _ i a ha => by simp [touchAt, Trace.act?] at ha, fun said => ?_, fun op hop => by simp at hop, fun x _ l hl' => ⟨?_, id⟩, fun x _ l hl' => ?_, fun x y hx hy hne => absurd (hx.trans hy.symm) hne, fun l h => h.elim⟩,
  ⟨fun i a ha => by simp [touchAt, Trace.act?] at ha, fun i g hg => by simp [Trace.g?] at hg⟩, rfl, fun op hop => by simp at hop⟩
 ·have := (Array.getElem?_eq_some_iff.1 hx).1
  simp at this
  omega
 ·rintro ⟨i, j, _, ⟨a, b, ha, _⟩, _⟩
  simp [Trace.act?] at ha
 ·cases l with
  | cell c => exact hl _ (hl'.resolve_right id)
  | obj b => exact hl _ hl'
  | _ => trivial
 ·cases l with
  | cell c => exact .inl (hwo _ (hl'.resolve_right id))
  | obj b => exact hwo _ hl'
  | _ => exact hl'.elim
end
end Go.Eng
namespace Go.Eng
noncomputable section
open Go.Conc (G)
set_option linter.unusedSimpArgs false
set_option linter.unusedVariables false
structure Rely (O : Nat → Prop) (w w1 : World) : Prop where
 keep : ∀ b, O b → w1.heap[b]? = w.heap[b]?
 size : w.heap.size ≤ w1.heap.size
 os : w1.os = w.os
 tape : w1.tape = w.tape
 output : w1.output = w.output
theorem Rely.refl (O : Nat → Prop) (w : World) : Rely O w w := ⟨fun _ _ => rfl, Nat.le_refl _, rfl, rfl, rfl⟩
theorem Rely.trans {O : Nat → Prop} {w w1 w2 : World} (h : Rely O w w1) (g : Rely O w1 w2) : Rely O w w2 :=
 ⟨fun b hb => (g.keep b hb).trans (h.keep b hb), Nat.le_trans h.size g.size, g.os.trans h.os, g.tape.trans h.tape, g.output.trans h.output⟩
theorem Rely.mono {O O' : Nat → Prop} {w w1 : World} (h : Rely O' w w1) (hs : ∀ b, O b → O' b) : Rely O w w1 := ⟨fun b hb => h.keep b (hs b hb), h.size, h.os, h.tape, h.output⟩
def grow (O : Nat → Prop) (w w' : World) : Nat → Prop := fun b => O b ∨ (w.heap.size ≤ b ∧ b < w'.heap.size)
theorem grow_self (O : Nat → Prop) (w : World) : grow O w w = O := by
 funext b
 exact propext ⟨fun h => h.elim id (fun h => by omega), .inl⟩
def Fine (O W : Nat → Prop) (w w' : World) (e : Event) : Prop :=
 e.loc = .mark .noRoom ∨ ∃ b, (e.loc = .obj b ∨ ∃ a : Addr, e.loc = .cell a ∧ a.block = b) ∧ e.sync = false ∧ b < w'.heap.size ∧ (O b ∨ w.heap.size ≤ b) ∧ (e.write = true → W b ∨ w.heap.size ≤ b)
def EvOk' (O W : Nat → Prop) (w w' : World) (es : Array Event) : Prop := ∀ e ∈ es, (∃ f, e.loc = .mark (.extern f)) ∨ Fine O W w w' e
structure Guar (O W : Nat → Prop) (w w' : World) (es : Array Event) : Prop where
 keep : ∀ b, b < w.heap.size → ¬ W b → w'.heap[b]? = w.heap[b]?
 size : w.heap.size ≤ w'.heap.size
 os : w'.os = w.os
 tape : w'.tape = w.tape
 output : w'.output = w.output
 evs : ∀ e ∈ es, Fine O W w w' e
theorem Guar.still (O W : Nat → Prop) (w : World) : Guar O W w w #[] := ⟨fun _ _ _ => rfl, Nat.le_refl _, rfl, rfl, rfl, fun e he => by simp at he⟩
class Hk where
 on : Bool
class Ctx [Hk] (main : Bool) (J : World → Prop) : Prop where
 out : Hk.on = true → main = true ∧ ∀ w, J w
instance ctx_top [Hk] : Ctx true (fun _ => True) := ⟨fun _ => ⟨rfl, fun _ => trivial⟩⟩
inductive Will (P : Program) (main : Bool) (J : World → Prop) (K : KP) : (Nat → Prop) → (Nat → Prop) → Goroutine → World → Prop
 | stop {O W : Nat → Prop} {g : Goroutine} {w : World} : (∀ w1, Rely O w w1 → J w1 → K O W g w1) → Will P main J K O W g w
 | act {O W : Nat → Prop} {g : Goroutine} {w : World} : g.status = .running →
   (∀ w1, Rely O w w1 → J w1 → ∃ g' w2 es, stepG P main g w1 = .go g' w2 es ∧ Guar O W w1 w2 es) →
   (∀ w1 g' w2 es, Rely O w w1 → J w1 → stepG P main g w1 = .go g' w2 es → Will P main J K (grow O w1 w2) (grow W w1 w2) g' w2) → Will P main J K O W g w
 | jump {O W : Nat → Prop} {g : Goroutine} {w : World} (Φ : KP) : main = true → (∀ w, J w) → (∀ w1, Rely O w w1 → Comes P Φ O W g w1) → (∀ O' W' g' w', Φ O' W' g' w' → Will P main J K O' W' g' w') → Will P main J K O W g w
section
variable {P : Program} {main : Bool} {J : World → Prop} {K : KP} {O W : Nat → Prop} {g g' : Goroutine} {w w1 : World}
theorem Will.rely (h : Will P main J K O W g w) (hr : Rely O w w1) : Will P main J K O W g w1 := by
 cases h with
 | stop h => exact .stop fun w2 h2 => h w2 (hr.trans h2)
 | act hs h1 h2 => exact .act hs (fun w2 h3 => h1 w2 (hr.trans h3)) (fun w2 g' w3 es h3 => h2 w2 g' w3 es (hr.trans h3))
 | jump Φ hm hj h1 h2 => exact .jump Φ hm hj (fun w2 h3 => h1 w2 (hr.trans h3)) h2
theorem Will.step (hs : g.status = .running) (h : ∀ w1, Rely O w w1 → J w1 → ∃ g' w2 es, stepG P main g w1 = .go g' w2 es ∧ Guar O W w1 w2 es ∧ Will P main J K (grow O w1 w2) (grow W w1 w2) g' w2) :
  Will P main J K O W g w := by
 refine .act hs (fun w1 h1 j1 => ?_) (fun w1 g' w2 es h1 j1 hst => ?_)
 ·obtain ⟨g', w2, es, e, hg, _⟩ := h w1 h1 j1
  exact ⟨g', w2, es, e, hg⟩
 ·obtain ⟨g'', w2', es', e, _, hw⟩ := h w1 h1 j1
  rw [hst] at e
  cases e
  exact hw
theorem Will.quiet (hs : g.status = .running) (h : ∀ w, stepG P main g w = .go g' w #[]) (hw : Will P main J K O W g' w) : Will P main J K O W g w :=
 .step hs fun w1 h1 _ => ⟨g', w1, #[], h w1, Guar.still _ _ _, by rw [grow_self, grow_self]; exact hw.rely h1⟩
theorem Will.reaches (h : Will P main (fun _ => True) K O W g w) (hwo : ∀ b, W b → O b) (hl : ∀ b, O b → b < w.heap.size) : ∃ O' W' g' w', K O' W' g' w' := by
 induction h with
 | stop h => exact ⟨_, _, _, _, h _ (Rely.refl _ _) trivial⟩
 | act hs h1 _ ih =>
  obtain ⟨g', w2, es, e, hg⟩ := h1 _ (Rely.refl _ _) trivial
  exact ih _ _ _ _ (Rely.refl _ _) trivial e (fun b hb => hb.imp (hwo b) id) (fun b hb => hb.elim (fun h => Nat.lt_of_lt_of_le (hl b h) hg.size) And.right)
 | @jump O W g w Φ _ _ h1 _ ih =>
  obtain ⟨_, _, _, g', w', _, _, _, O', W', _, _, hB, hΦ⟩ := h1 w (Rely.refl _ _) _ #[g] none #[] _ rfl (BS.solo hwo hl)
  exact ih O' W' g' w' hΦ (fun b hb => hB.tr.sub 0 rfl (.obj b) hb) (fun b hb => (hB.tr.lt 0 rfl (.obj b) hb).1)
theorem Will.mono {K' : KP} (h : Will P main J K O W g w) (hk : ∀ O W g w, K O W g w → K' O W g w) : Will P main J K' O W g w := by
 induction h with
 | stop h => exact .stop fun w1 h1 j1 => hk _ _ _ _ (h w1 h1 j1)
 | act hs h1 _ ih => exact .act hs h1 ih
 | jump Φ hm hj h1 _ ih => exact .jump Φ hm hj h1 ih
end
theorem not_extern {P : Program} {fn : FuncId} {es : Array Event} {e : Event} (h : e ∈ seen P fn es) (f : FuncId) : e.loc ≠ .mark (.extern f) := by
 intro hl
 have key : ∀ (quiet : FuncId → Bool) (l : List Event) (q : Bool) (kept : Array Event), (∀ x ∈ kept, ∀ f, x.loc ≠ .mark (.extern f)) → ∀ x ∈ (l.foldl (Go.Conc.seenStep quiet) (q, kept)).2, ∀ f, x.loc ≠ .mark (.extern f) := by
  intro quiet l
  induction l with
  | nil => intro q kept hk x hx; exact hk x hx
  | cons a l ih =>
   intro q kept hk x hx
   rw [List.foldl_cons] at hx
   refine ih _ _ ?_ x hx
   intro y hy
   unfold Go.Conc.seenStep at hy
   split at hy
   ·exact hk y hy
   ·rename_i hne
    simp only at hy
    split at hy
    ·exact hk y hy
    ·intro f'
     rcases Array.mem_push.1 hy with hy | rfl
     ·exact hk y hy f'
     ·intro hh
      exact hne _ hh
 rw [Go.Conc.seen_def] at h
 exact key _ _ _ _ (fun x hx => by simp at hx) e h f hl
section
variable {P : Program} {main : Bool} {b : Frame} {a : Act} {k : List Item} {cs : List Frame} {w : World} {ops : Array Oper}
theorem g_skip : stepG P main (G (fat b a (.code .skip :: k)) cs) w = .go (G (fat b a k) cs) w #[] := by simp [G, stepG, stepG.exec, fat]
theorem g_inBlock {id : Nat} : stepG P main (G (fat b a (.inBlock id :: k)) cs) w = .go (G (fat b a k) cs) w #[] := by simp [G, stepG, stepG.exec, fat]
theorem g_seq {x y : Code} : stepG P main (G (fat b a (.code (.seq x y) :: k)) cs) w = .go (G (fat b a (.code x :: .code y :: k)) cs) w #[] := by simp [G, stepG, stepG.exec, fat]
theorem g_cond {c : Operand} {x y : Code} {t : Bool} (h : a.eval c = .bool t) :
  stepG P main (G (fat b a (.code (.cond c x y) :: k)) cs) w = .go (G (fat b a (.code (if t then x else y) :: k)) cs) w #[] := by
 have := congrFun (fat_eval b a (.code (.cond c x y) :: k)) c
 simp only [fat] at this
 simp [G, stepG, stepG.exec, fat, this, h]
theorem g_block {id : Nat} {c : Code} : stepG P main (G (fat b a (.code (.block id c) :: k)) cs) w = .go (G (fat b a (.code c :: .inBlock id :: k)) cs) w #[] := by simp [G, stepG, stepG.exec, fat]
theorem g_loop {c : Code} : stepG P main (G (fat b a (.code (.loop c) :: k)) cs) w = .go (G (fat b a (.code c :: .inLoop c :: k)) cs) w #[] := by simp [G, stepG, stepG.exec, fat]
theorem g_inLoop {c : Code} : stepG P main (G (fat b a (.inLoop c :: k)) cs) w = .go (G (fat b a (.code c :: .inLoop c :: k)) cs) w #[] := by simp [G, stepG, stepG.exec, fat]
theorem g_exit {id : Nat} {k' : List Item} (h : exitTo id k = some k') : stepG P main (G (fat b a (.code (.exit id) :: k)) cs) w = .go (G (fat b a k') cs) w #[] := by simp [G, stepG, stepG.exec, fat, h]
theorem g_region {id : Nat} : stepG P main (G (fat b a (.code (.region id ops false) :: k)) cs) w = .go (G (fat b a (.inRegion ops (List.range ops.size) :: k)) cs) w #[] := by simp [G, stepG, stepG.exec, fat]
theorem g_region_draw {id : Nat} : stepG P main (G (fat b a (.code (.region id ops true) :: k)) cs) w =
  .go (G (fat b a (.inRegion ops (Region.schedule (P.follows .mixedOrders) ops (w.tape w.drawn (.order b.fn id))) :: k)) cs) w.drew #[] := by
 simp [G, stepG, stepG.exec, fat, choose, Sem.run, Question.forced, Question.cut]
theorem g_region_end : stepG P main (G (fat b a (.inRegion ops [] :: k)) cs) w = .go (G (fat b a k) cs) w #[] := by simp [G, stepG, stepG.exec, fat]
theorem g_op_skip {i : Nat} {rest : List Nat} {o : Oper} (ho : ops[i]? = some o) (hw : Region.wanted o (yielded ops a.tmps) = false) :
  stepG P main (G (fat b a (.inRegion ops (i :: rest) :: k)) cs) w = .go (G (fat b (a.put o.dst undef) (.inRegion ops rest :: k)) cs) w #[] := by
 cases hd : o.dst <;> simp [G, stepG, stepG.exec, fat, ho, hw, Frame.finish, Act.put, hd]
theorem g_op {i : Nat} {rest : List Nat} {o : Oper} (ho : ops[i]? = some o) (hw : Region.wanted o (yielded ops a.tmps) = true) (hd : ∀ c, o.op ≠ .defer c) :
  stepG P main (G (fat b a (.inRegion ops (i :: rest) :: k)) cs) w = stepG.apply P true (fat b a (.inRegion ops (i :: rest) :: k)) cs none (execOp a.eval o) w := by
 have he := fat_eval b a (.inRegion ops (i :: rest) :: k)
 simp only [fat] at he
 simp only [G, stepG, stepG.exec, stepG.oper, Frame.oper?, fat, ho, hw, he, Option.map_some, Option.getD_some, if_true]
 split
 ·exact absurd ‹o.op = _› (hd _)
 ·rfl
def Lists (P : Program) (fn : FuncId) (all : Array Event) (es : Array Event) : Prop := ∀ e ∈ es, e ∈ seen P fn all
theorem Lists.ok {fn : FuncId} {all es : Array Event} (h : Lists P fn all es) {O W : Nat → Prop} {w w' : World} (he : EvOk' O W w w' all) : ∀ e ∈ es, Fine O W w w' e := fun e hm =>
 (he e (Go.Conc.mem_seen (h e hm))).resolve_left fun ⟨f, hf⟩ => not_extern (h e hm) f hf
theorem apply_ok {fr : Frame} {s : Sem Next} {n : Next} {w' : World} (hr : s.run P w = .ok n w') : ∃ es, Lists P fr.fn (s.events P w #[]) es ∧
  (∀ v, n = .value v → stepG.apply P true fr cs none s w = .go { frame := fr.finish v, callers := cs, status := .running, dying := none } w' es) ∧
  (n = .skip → stepG.apply P true fr cs none s w = .go { frame := fr.finish undef, callers := cs, status := .running, dying := none } w' es) ∧
  (∀ f args, n = .enter f args → (∀ x y z r q, fr.todo ≠ .call x y z r :: q) → stepG.apply P true fr cs none s w = .go { frame := Frame.enter P f args .normal, callers := fr :: cs, status := .running, dying := none } w' es) ∧
  (∀ l f tmps as bd, n = .round l f tmps as bd → stepG.apply P true fr cs none s w = .go { frame := Frame.round l f tmps as bd .normal, callers := fr :: cs, status := .running, dying := none } w' es) ∧
  (∀ d, n = .defer d → stepG.apply P true fr cs none s w = .go { frame := { fr with defers := d :: fr.defers }.finish undef, callers := cs, status := .running, dying := none } w' es) ∧
  (n = .recover → fr.roundOf = none → tryRecover fr cs = none → stepG.apply P true fr cs none s w = .go { frame := fr.finish .nilIface, callers := cs, status := .running, dying := none } w' es) := by
 have h1 : (s.runT P w #[]).1 = .ok n w' := by rw [Sem.runT_fst, hr]
 refine ⟨seen P fr.fn (if (fr.kind == .early) = true then #[] else s.events P w #[]), ?_, ?_, ?_, ?_, ?_, ?_, ?_⟩
 ·intro e he
  split at he
  ·have := Go.Conc.mem_seen he
   simp at this
  ·exact he
 ·rintro v rfl
  simp only [stepG.apply, if_true, h1, GStep.after, Sem.events]
  simp
 ·rintro rfl
  simp only [stepG.apply, if_true, h1, GStep.after, Sem.events]
  simp
 ·rintro f args rfl hno
  simp only [stepG.apply, if_true, h1, GStep.after, Sem.events]
  obtain ⟨fn, tmps, todo, defers, mode, kind, roundOf⟩ := fr
  cases todo with
  | nil => simp
  | cons i q =>
   cases i <;> first | exact absurd rfl (hno _ _ _ _ _) | simp
 ·rintro l f tmps as bd rfl
  simp only [stepG.apply, if_true, h1, GStep.after, Sem.events]
  simp
 ·rintro d rfl
  simp only [stepG.apply, if_true, h1, GStep.after, Sem.events]
  simp
 ·rintro rfl hro hno
  simp only [stepG.apply, if_true, h1, GStep.after, Sem.events, hro, hno]
  simp
theorem fat_todo {i : Nat} {rest : List Nat} : ∀ x y z r q, (fat b a (.inRegion ops (i :: rest) :: k)).todo ≠ .call x y z r :: q := fun _ _ _ _ _ h => by cases h
theorem g_val {i : Nat} {rest : List Nat} {o : Oper} {w' : World} {v : Value} (ho : ops[i]? = some o) (hw : Region.wanted o (yielded ops a.tmps) = true) (hd : ∀ c, o.op ≠ .defer c) (hr : (execOp a.eval o).run P w = .ok (.value v) w') :
  ∃ es, Lists P b.fn ((execOp a.eval o).events P w #[]) es ∧ stepG P main (G (fat b a (.inRegion ops (i :: rest) :: k)) cs) w = .go (G (fat b (a.put o.dst v) (.inRegion ops rest :: k)) cs) w' es := by
 obtain ⟨es, h1, h2, _⟩ := apply_ok (cs := cs) (fr := fat b a (.inRegion ops (i :: rest) :: k)) hr
 refine ⟨es, h1, ?_⟩
 rw [g_op ho hw hd, h2 v rfl, fat_finish ho]
 rfl
theorem g_skipv {i : Nat} {rest : List Nat} {o : Oper} {w' : World} (ho : ops[i]? = some o) (hw : Region.wanted o (yielded ops a.tmps) = true) (hd : ∀ c, o.op ≠ .defer c) (hr : (execOp a.eval o).run P w = .ok .skip w') :
  ∃ es, Lists P b.fn ((execOp a.eval o).events P w #[]) es ∧ stepG P main (G (fat b a (.inRegion ops (i :: rest) :: k)) cs) w = .go (G (fat b (a.put o.dst undef) (.inRegion ops rest :: k)) cs) w' es := by
 obtain ⟨es, h1, _, h2, _⟩ := apply_ok (cs := cs) (fr := fat b a (.inRegion ops (i :: rest) :: k)) hr
 refine ⟨es, h1, ?_⟩
 rw [g_op ho hw hd, h2 rfl, fat_finish ho]
 rfl
theorem g_enter {i : Nat} {rest : List Nat} {o : Oper} {w' : World} {f : FuncId} {args : Array Value} (ho : ops[i]? = some o) (hw : Region.wanted o (yielded ops a.tmps) = true) (hd : ∀ c, o.op ≠ .defer c) (hr : (execOp a.eval o).run P w = .ok (.enter f args) w') :
  ∃ es, Lists P b.fn ((execOp a.eval o).events P w #[]) es ∧ stepG P main (G (fat b a (.inRegion ops (i :: rest) :: k)) cs) w = .go (G (Frame.enter P f args .normal) (fat b a (.inRegion ops (i :: rest) :: k) :: cs)) w' es := by
 obtain ⟨es, h1, _, _, h2, _⟩ := apply_ok (cs := cs) (fr := fat b a (.inRegion ops (i :: rest) :: k)) hr
 refine ⟨es, h1, ?_⟩
 rw [g_op ho hw hd, h2 f args rfl fat_todo]
 rfl
theorem g_round {i : Nat} {rest : List Nat} {o : Oper} {w' : World} {l : Nat} {f : FuncId} {tmps : Array Value} {as bd : Code} (ho : ops[i]? = some o) (hw : Region.wanted o (yielded ops a.tmps) = true) (hd : ∀ c, o.op ≠ .defer c) (hr : (execOp a.eval o).run P w = .ok (.round l f tmps as bd) w') :
  ∃ es, Lists P b.fn ((execOp a.eval o).events P w #[]) es ∧ stepG P main (G (fat b a (.inRegion ops (i :: rest) :: k)) cs) w = .go (G (Frame.round l f tmps as bd .normal) (fat b a (.inRegion ops (i :: rest) :: k) :: cs)) w' es := by
 obtain ⟨es, h1, _, _, _, h2, _⟩ := apply_ok (cs := cs) (fr := fat b a (.inRegion ops (i :: rest) :: k)) hr
 refine ⟨es, h1, ?_⟩
 rw [g_op ho hw hd, h2 l f tmps as bd rfl]
 rfl
theorem g_defer {i : Nat} {rest : List Nat} {o : Oper} {w' : World} {d : Deferred} (ho : ops[i]? = some o) (hw : Region.wanted o (yielded ops a.tmps) = true) (hro : b.roundOf = none) (hr : (execOp a.eval o).run P w = .ok (.defer d) w') :
  ∃ es, Lists P b.fn ((execOp a.eval o).events P w #[]) es ∧ stepG P main (G (fat b a (.inRegion ops (i :: rest) :: k)) cs) w = .go (G (fat b { a.put o.dst undef with defers := d :: a.defers } (.inRegion ops rest :: k)) cs) w' es := by
 obtain ⟨es, h1, _, _, _, _, h2, _⟩ := apply_ok (cs := cs) (fr := fat b a (.inRegion ops (i :: rest) :: k)) hr
 refine ⟨es, h1, ?_⟩
 have he := fat_eval b a (.inRegion ops (i :: rest) :: k)
 simp only [fat, hro] at he
 have h3 := h2 d rfl
 simp only [fat, hro] at h3
 have hst : stepG P main (G (fat b a (.inRegion ops (i :: rest) :: k)) cs) w = stepG.apply P true (fat b a (.inRegion ops (i :: rest) :: k)) cs none (execOp a.eval o) w := by
  simp [G, stepG, stepG.exec, stepG.oper, Frame.oper?, fat, ho, hw, he, hro]
 rw [hst]
 simp only [fat, hro]
 rw [h3]
 cases hdst : o.dst <;> simp [G, Frame.finish, Act.put, ho, hdst]
theorem g_recover {i : Nat} {rest : List Nat} {o : Oper} {w' : World} (ho : ops[i]? = some o) (hw : Region.wanted o (yielded ops a.tmps) = true) (hro : b.roundOf = none)
  (hno : ∀ fr : Frame, fr.kind = b.kind → tryRecover fr cs = none) (hd : ∀ c, o.op ≠ .defer c) (hr : (execOp a.eval o).run P w = .ok .recover w') :
  ∃ es, Lists P b.fn ((execOp a.eval o).events P w #[]) es ∧ stepG P main (G (fat b a (.inRegion ops (i :: rest) :: k)) cs) w = .go (G (fat b (a.put o.dst .nilIface) (.inRegion ops rest :: k)) cs) w' es := by
 obtain ⟨es, h1, _, _, _, _, _, h2⟩ := apply_ok (cs := cs) (fr := fat b a (.inRegion ops (i :: rest) :: k)) hr
 refine ⟨es, h1, ?_⟩
 rw [g_op ho hw hd, h2 rfl hro (hno _ rfl), fat_finish ho]
 rfl
theorem g_ret (hr : b.roundOf = none) : stepG P main (G (fat b a (.code .ret :: k)) cs) w = .go (G { fat b a (.code .ret :: k) with mode := .returning } cs) w #[] := by
 simp [G, stepG, stepG.exec, fat, hr]
theorem g_end (hr : b.roundOf = none) : stepG P main (G (fat b a []) cs) w = .go (G { fat b a [] with mode := .returning } cs) w #[] := by
 simp [G, stepG, stepG.exec, fat, hr]
theorem g_deferred {fr : Frame} {d : Deferred} {ds : List Deferred} {w' : World} {g : FuncId} {args : Array Value} (hm : fr.mode = .returning) (hd : fr.defers = d :: ds) (hc : ∃ f q, d.target = .fn f q)
  (h : (invoke d.target d.args).run P w = .ok (.enter g args) w') : ∃ es, Lists P fr.fn ((invoke d.target d.args).events P w #[]) es ∧ stepG P main (G fr cs) w = .go (G (Frame.enter P g args .deferred) ({ fr with defers := ds } :: cs)) w' es := by
 obtain ⟨fn, tmps, todo, defers, mode, kind, roundOf⟩ := fr
 obtain ⟨target, dargs⟩ := d
 obtain ⟨f, q, rfl⟩ := hc
 simp only at hm hd h
 subst hm; subst hd
 refine ⟨seen P fn ((invoke (.fn f q) dargs).events P w #[]), fun e he => he, ?_⟩
 simp [G, stepG, unwind, callDeferred, h, GStep.after]
theorem events_of {α : Type} {s : Sem α} {v : α} {w' : World} (h : s.run P w = .ok v w') : s.runT P w #[] = (.ok v w', s.events P w #[]) := by
 rw [← h, ← Sem.runT_fst P s w #[]]
 rfl
theorem g_deferred_end {fr c : Frame} {v : Value} {fn : Func} (hm : fr.mode = .returning) (hd : fr.defers = []) (hk : fr.kind = .deferred) (hc : ∀ v g l, c.mode ≠ .panicking (⟨v, true, g⟩ :: l)) (hf : P.funcs[fr.fn]? = some fn) (hr : (results fn fr.tmps).run P w = .ok v w) :
  ∃ es, Lists P fr.fn ((results fn fr.tmps).events P w #[]) es ∧ stepG P main (G fr (c :: cs)) w = .go (G c cs) w es := by
 refine ⟨seen P fr.fn ((results fn fr.tmps).events P w #[]), fun e he => he, ?_⟩
 have h2 : (match c.mode with
    | .panicking ({ recovered := true, .. } :: older) =>
     match older.dropWhile (!·.goexit) with
     | [] => { c with mode := .returning }
     | rest => { c with mode := .panicking rest }
    | _ => c) = c := by
  split
  ·rename_i v g l hh
   exact absurd hh (hc v g l)
  ·rfl
 simp [G, stepG, unwind, doReturn, hm, hd, hk, hf, hr, GStep.after]
theorem g_leave {fr c : Frame} {v : Value} {fn : Func} (hm : fr.mode = .returning) (hd : fr.defers = []) (hk : fr.kind = .normal) (hf : P.funcs[fr.fn]? = some fn) (hr : (results fn fr.tmps).run P w = .ok v w) :
  ∃ es, Lists P fr.fn ((results fn fr.tmps).events P w #[]) es ∧ stepG P main (G fr (c :: cs)) w = .go (G (c.finish v) cs) w es := by
 refine ⟨seen P fr.fn ((results fn fr.tmps).events P w #[]), fun e he => he, ?_⟩
 simp [G, stepG, unwind, doReturn, hm, hd, hk, hf, hr, GStep.after]
theorem g_beginRound {l : Nat} {w' : World} (hr : b.roundOf = some l) (h : (Instr.beginRound l).run P w = .ok () w') :
  ∃ es, Lists P b.fn ((do Instr.beginRound l; pure .skip : Sem Next).events P w #[]) es ∧ stepG P main (G (fat b a (.beginRound :: k)) cs) w = .go (G (fat b a k) cs) w' es := by
 have hrun : (do Instr.beginRound l; pure .skip : Sem Next).run P w = .ok .skip w' := by simp [Sem.run_bind, h]
 obtain ⟨es, h1, _, h2, _⟩ := apply_ok (cs := cs) (fr := fat b a (.beginRound :: k)) hrun
 refine ⟨es, h1, ?_⟩
 have h3 := h2 rfl
 simp only [fat, hr] at h3
 simp only [G, stepG, stepG.exec, fat, hr, Option.elim]
 rw [h3]
 simp [Frame.finish]
theorem g_round_end {l : Nat} {w' : World} {v : Value} {c : Frame} (hr : b.roundOf = some l) (hk : b.kind = .normal) (h : (Instr.endRound l none).run P w = .ok v w') :
  ∃ es, Lists P b.fn ((Instr.endRound l none).events P w #[]) es ∧ stepG P main (G (fat b a []) (c :: cs)) w = .go (G (c.finish v) cs) w' es := by
 refine ⟨_, fun e he => he, ?_⟩
 simp [G, stepG, stepG.exec, fat, hr, h, doReturn, hk, GStep.after]
theorem g_round_ret {l : Nat} {w' : World} {v : Value} {c : Frame} (hr : b.roundOf = some l) (hk : b.kind = .normal) (h : (Instr.endRound l (some .ret)).run P w = .ok v w') :
  ∃ es, Lists P b.fn ((Instr.endRound l (some .ret)).events P w #[]) es ∧ stepG P main (G (fat b a (.code .ret :: k)) (c :: cs)) w = .go (G (c.finish v) cs) w' es := by
 refine ⟨_, fun e he => he, ?_⟩
 simp [G, stepG, stepG.exec, fat, hr, h, doReturn, hk, GStep.after]
theorem g_round_exit {l id : Nat} {w' : World} {v : Value} {c : Frame} (hr : b.roundOf = some l) (hk : b.kind = .normal) (he : exitTo id k = none) (h : (Instr.endRound l (some (.exit id))).run P w = .ok v w') :
  ∃ es, Lists P b.fn ((Instr.endRound l (some (.exit id))).events P w #[]) es ∧ stepG P main (G (fat b a (.code (.exit id) :: k)) (c :: cs)) w = .go (G (c.finish v) cs) w' es := by
 refine ⟨_, fun e he => he, ?_⟩
 simp [G, stepG, stepG.exec, fat, hr, h, doReturn, hk, he, GStep.after]
theorem g_taken {block : Nat} {ds : List Deferred} {w' : World} {fr : Frame} (hm : fr.mode = .returning) (hd : fr.defers = { target := .collected block, args := #[] } :: ds) (h : (Instr.takeDeferred block).run P w = .ok [] w') :
  ∃ es, Lists P fr.fn ((Instr.takeDeferred block).events P w #[]) es ∧ stepG P main (G fr cs) w = .go (G { fr with defers := ds } cs) w' es := by
 obtain ⟨fn, tmps, todo, defers, mode, kind, roundOf⟩ := fr
 simp only at hm hd
 subst hm; subst hd
 refine ⟨_, fun e he => he, ?_⟩
 simp [G, stepG, unwind, h, GStep.after]
theorem g_rangeFunc {f : Operand} {params : Array Tmp} {assign body : Code} {l : Nat} {mark : List Deferred} {w1 : World} {g : FuncId} {args : Array Value}
  (h1 : (Instr.enterLoop b.fn a.tmps params assign body b.roundOf).run P w = .ok (l, mark) w1)
  (h2 : (do let d ← resolve a.eval { callee := .value f, args := #[.const (.func (.yield l) #[] #[])], argTypes := #[] } 0; invoke d.target d.args : Sem Next).run P w1 = .ok (.enter g args) w1) :
  ∃ es, (∀ e ∈ es, e ∈ seen P b.fn ((Instr.enterLoop b.fn a.tmps params assign body b.roundOf).events P w #[]) ∨
    e ∈ seen P b.fn ((do let d ← resolve a.eval { callee := .value f, args := #[.const (.func (.yield l) #[] #[])], argTypes := #[] } 0; invoke d.target d.args : Sem Next).events P w1 #[])) ∧
   stepG P main (G (fat b a (.code (.rangeFunc f params assign body) :: k)) cs) w =
    .go (G (Frame.enter P g args .normal) (fat b { a with defers := mark ++ a.defers } (.inRangeFunc l :: k) :: cs)) w1 es := by
 have he2 : Frame.eval (fat b { a with defers := mark ++ a.defers } (.inRangeFunc l :: k)) = a.eval := by funext x; cases x <;> rfl
 obtain ⟨es, h3, _, _, h4, _⟩ := apply_ok (cs := cs) (fr := fat b { a with defers := mark ++ a.defers } (.inRangeFunc l :: k)) h2
 have h5 := h4 g args rfl (fun _ _ _ _ _ h => by cases h)
 have h6 := events_of h1
 refine ⟨seen P b.fn ((Instr.enterLoop b.fn a.tmps params assign body b.roundOf).events P w #[]) ++ es, ?_, ?_⟩
 ·intro e he
  rcases Array.mem_append.1 he with he | he
  ·exact .inl he
  ·exact .inr (h3 e he)
 ·simp only [fat] at he2 h5
  simp only [G, stepG, stepG.exec, fat, h6, he2, GStep.after]
  rw [h5]
theorem g_endRangeFunc {l : Nat} {jump : Option Code} {w' : World} (h : (Instr.endLoop l).run P w = .ok jump w') :
  ∃ es, Lists P b.fn ((Instr.endLoop l).events P w #[]) es ∧ stepG P main (G (fat b a (.endRangeFunc l :: k)) cs) w = .go (G (fat b a ((jump.map Item.code).toList ++ k)) cs) w' es := by
 refine ⟨_, fun e he => he, ?_⟩
 simp [G, stepG, stepG.exec, fat, h, GStep.after]
end
end
end Go.Eng
namespace Go.Eng
noncomputable section
open Go.Conc (G)
set_option linter.unusedSimpArgs false
set_option linter.unusedVariables false
structure Own (O W : Nat → Prop) (lo : Nat) (E : Env) (N : CH) (w : World) : Prop where
 img : ∀ k, E.D k → N.live k → O (E.f k)
 wri : ∀ k, E.D k → N.live k → lo ≤ k → W (E.f k)
 lt : ∀ b, O b → b < w.heap.size
 low : lo ≤ N.sz
theorem Rel.rely {P : Program} {E : Env} {N : CH} {w w1 : World} {O W : Nat → Prop} {lo : Nat} (R : Rel P E N w) (H : Own O W lo E N w) (h : Rely O w w1) : Rel P E N w1 := by
 refine ⟨R.ok, R.gl, R.dom, R.inj, fun k b hk hb => ?_⟩
 cases hd : b.isDead with
 | true => cases b <;> simp [CB.isDead] at hd; trivial
 | false => rw [h.keep _ (H.img k hk ⟨b, hb, hd⟩)]; exact R.blk k b hk hb
theorem Own.rely {E : Env} {N : CH} {w w1 : World} {O W : Nat → Prop} {lo : Nat} (H : Own O W lo E N w) (h : Rely O w w1) : Own O W lo E N w1 := ⟨H.img, H.wri, fun b hb => Nat.lt_of_lt_of_le (H.lt b hb) h.size, H.low⟩
structure ExtC (O : Nat → Prop) (E : Env) (N : CH) (w : World) (E' : Env) (N' : CH) (w' : World) : Prop where
 mono : ∀ k, E.D k → E'.D k ∧ E'.f k = E.f k ∧ E'.x k = E.x k ∧ E'.s k = E.s k
 new : ∀ k, E'.D k → E.D k ∨ (N.sz ≤ k ∧ k < N'.sz)
 all : ∀ k, N.sz ≤ k → k < N'.sz → E'.D k
 size : N.sz ≤ N'.sz
 hsize : w.heap.size ≤ w'.heap.size
 fresh : ∀ k, E'.D k → E.D k ∨ w.heap.size ≤ E'.f k ∨ ∃ j, E.D j ∧ N.live j ∧ ¬ N'.live j ∧ E'.f k = E.f j
 dead : ∀ k, E.D k → N'.live k → N.live k
 wm : N'.wm ≤ N.wm
 keep : ∀ k, k < N.sz → k < N'.wm → N'.get k = N.get k
 frame : ∀ b, O b → b < w.heap.size → (∀ k, E.D k → N.live k → E.f k ≠ b) → w'.heap[b]? = w.heap[b]?
 os : w'.os = w.os
 tape : w'.tape = w.tape
 output : w'.output = w.output
 op : E'.o = E.o
theorem Ext.toC {E E' : Env} {N N' : CH} {w w' : World} (h : Ext E N w E' N' w') (O : Nat → Prop) : ExtC O E N w E' N' w' :=
 ⟨h.mono, h.new, h.all, h.size, h.hsize, h.fresh, h.dead, h.wm, h.keep, fun b _ => h.frame b, h.os, h.tape, h.output, h.op⟩
theorem ExtC.of_rely {O : Nat → Prop} {w w1 : World} (h : Rely O w w1) (E : Env) (N : CH) : ExtC O E N w E N w1 :=
 ⟨fun _ h => ⟨h, rfl, rfl, rfl⟩, fun _ h => .inl h, fun _ h1 h2 => by omega, Nat.le_refl _, h.size, fun _ h => .inl h, fun _ _ h => h, Nat.le_refl _, fun _ _ _ => rfl, fun b hb _ _ => h.keep b hb, h.os, h.tape, h.output, rfl⟩
theorem ExtC.refl (O : Nat → Prop) (E : Env) (N : CH) (w : World) : ExtC O E N w E N w := .of_rely (Rely.refl O w) E N
theorem ExtC.trans {O O1 : Nat → Prop} {E E1 E2 : Env} {N N1 N2 : CH} {w w1 w2 : World} (h : ExtC O E N w E1 N1 w1) (g : ExtC O1 E1 N1 w1 E2 N2 w2) (hO : ∀ b, O b → O1 b) : ExtC O E N w E2 N2 w2 where
 mono k hk := by
  obtain ⟨a, b, c, d⟩ := h.mono k hk
  obtain ⟨a', b', c', d'⟩ := g.mono k a
  exact ⟨a', b'.trans b, c'.trans c, d'.trans d⟩
 new k hk := by
  rcases g.new k hk with h1 | ⟨h1, h2⟩
  ·rcases h.new k h1 with h3 | ⟨h3, h4⟩
   ·exact .inl h3
   ·exact .inr ⟨h3, Nat.lt_of_lt_of_le h4 g.size⟩
  ·exact .inr ⟨Nat.le_trans h.size h1, h2⟩
 all k h1 h2 := by
  rcases Nat.lt_or_ge k N1.sz with h3 | h3
  ·exact (g.mono k (h.all k h1 h3)).1
  ·exact g.all k h3 h2
 size := Nat.le_trans h.size g.size
 hsize := Nat.le_trans h.hsize g.hsize
 fresh k hk := by
  rcases g.fresh k hk with h1 | h1 | ⟨j, h1, h2, hx, h3⟩
  ·rcases h.fresh k h1 with h4 | h4 | ⟨j, h4, h5, hy, h6⟩
   ·exact .inl h4
   ·exact .inr (.inl (by rw [(g.mono k h1).2.1]; exact h4))
   ·exact .inr (.inr ⟨j, h4, h5, fun hl => hy (g.dead j (h.mono j h4).1 hl), by rw [(g.mono k h1).2.1]; exact h6⟩)
  ·exact .inr (.inl (Nat.le_trans h.hsize h1))
  ·rcases h.fresh j h1 with h4 | h4 | ⟨i, h4, h5, hy, h6⟩
   ·exact .inr (.inr ⟨j, h4, h.dead j h4 h2, hx, by rw [h3, (h.mono j h4).2.1]⟩)
   ·exact .inr (.inl (by rw [h3]; exact h4))
   ·exact .inr (.inr ⟨i, h4, h5, fun hl => hy (g.dead i (h.mono i h4).1 hl), by rw [h3, h6]⟩)
 dead k hk hl := h.dead k hk (g.dead k (h.mono k hk).1 hl)
 wm := Nat.le_trans g.wm h.wm
 keep k hk hw := (g.keep k (Nat.lt_of_lt_of_le hk h.size) hw).trans (h.keep k hk (Nat.lt_of_lt_of_le hw g.wm))
 frame b hO' hb hn := by
  rw [g.frame b (hO b hO') (Nat.lt_of_lt_of_le hb h.hsize) ?_, h.frame b hO' hb hn]
  intro k hk hl e
  rcases h.fresh k hk with h1 | h1 | ⟨j, h1, h2, _, h3⟩
  ·exact hn k h1 (h.dead k h1 hl) (by rw [← (h.mono k h1).2.1]; exact e)
  ·omega
  ·exact hn j h1 h2 (by rw [← h3]; exact e)
 os := g.os.trans h.os
 tape := g.tape.trans h.tape
 output := g.output.trans h.output
 op := g.op.trans h.op
theorem ExtC.m {O : Nat → Prop} {E E' : Env} {N N' : CH} {w w' : World} (h : ExtC O E N w E' N' w') {v : Value} (hv : Clo E.D v) : E'.m v = E.m v :=
 mv_ext h.op (fun k hk => (h.mono k hk).2) v hv
theorem ExtC.clo {O : Nat → Prop} {E E' : Env} {N N' : CH} {w w' : World} (h : ExtC O E N w E' N' w') {v : Value} (hv : Clo E.D v) : Clo E'.D v :=
 Clo_mono (fun k hk => (h.mono k hk).1) v hv
theorem Rel.live_lt {P : Program} {E : Env} {N : CH} {w : World} (R : Rel P E N w) {k : Nat} (hk : E.D k) (hl : N.live k) : E.f k < w.heap.size := by
 obtain ⟨b, hb, hd⟩ := hl
 have hB := R.blk k b hk hb
 rcases Nat.lt_or_ge (E.f k) w.heap.size with h | h
 ·exact h
 ·rw [Array.getElem?_eq_none h] at hB
  rw [hB.some] at hd
  cases hd
theorem Own.step {P : Program} {E E' : Env} {N N' : CH} {w w' : World} {O W : Nat → Prop} {lo : Nat} (H : Own O W lo E N w) (R : Rel P E N w) (R' : Rel P E' N' w') (X : Ext E N w E' N' w') (hlo : lo ≤ N'.wm) :
  Own (grow O w w') (grow W w w') lo E' N' w' := by
 refine ⟨fun k hk hl => ?_, fun k hk hl hle => ?_, fun b hb => ?_, Nat.le_trans H.low X.size⟩
 ·have hlt := R'.live_lt hk hl
  rcases X.fresh k hk with h | h | ⟨j, h1, h2, _, h3⟩
  ·rw [(X.mono k h).2.1]
   exact .inl (H.img k h (X.dead k h hl))
  ·exact .inr ⟨h, hlt⟩
  ·rw [h3]
   exact .inl (H.img j h1 h2)
 ·have hlt := R'.live_lt hk hl
  rcases X.fresh k hk with h | h | ⟨j, h1, h2, h4, h3⟩
  ·rw [(X.mono k h).2.1]
   exact .inl (H.wri k h (X.dead k h hl) hle)
  ·exact .inr ⟨h, hlt⟩
  ·rw [h3]
   refine .inl (H.wri j h1 h2 ?_)
   rcases Nat.lt_or_ge j N'.wm with hj | hj
   ·refine absurd ?_ h4
    obtain ⟨b, hb, hd⟩ := h2
    exact ⟨b, by rw [X.keep j (R.dom j h1) hj]; exact hb, hd⟩
   ·omega
 ·rcases hb with hb | hb
  ·exact Nat.lt_of_lt_of_le (H.lt b hb) X.hsize
  ·exact hb.2
theorem guar_of {P : Program} {E E' : Env} {N N' : CH} {w w' : World} {O W : Nat → Prop} {lo : Nat} (H : Own O W lo E N w) (R : Rel P E N w) (X : Ext E N w E' N' w') (hlo : lo ≤ N'.wm) {es : Array Event} (he : ∀ e ∈ es, Fine O W w w' e) : Guar O W w w' es := by
 refine ⟨fun b hb hW => ?_, X.hsize, X.os, X.tape, X.output, he⟩
 by_cases h : ∃ k, E.D k ∧ N.live k ∧ E.f k = b
 ·obtain ⟨k, hk, hl, rfl⟩ := h
  refine X.still k hk hl (R.dom k hk) ?_
  rcases Nat.lt_or_ge k N'.wm with hj | hj
  ·exact hj
  ·exact absurd (H.wri k hk hl (by omega)) hW
 ·exact X.frame b hb fun k hk hl e => h ⟨k, hk, hl, e⟩
structure Later (P : Program) (lo : Nat) (O W : Nat → Prop) (E : Env) (N : CH) (w : World) (O' W' : Nat → Prop) (E' : Env) (N' : CH) (w' : World) : Prop where
 rel : Rel P E' N' w'
 own : Own O' W' lo E' N' w'
 ext : ExtC O E N w E' N' w'
 oo : ∀ b, O b → O' b
 ww : ∀ b, W b → W' b
 ou : ∀ b, O' b → O b ∨ w.heap.size ≤ b
section
variable {P : Program} {lo : Nat} {O W O1 W1 O2 W2 : Nat → Prop} {E E1 E2 : Env} {N N1 N2 : CH} {w w1 w2 : World}
theorem Later.refl (R : Rel P E N w) (H : Own O W lo E N w) : Later P lo O W E N w O W E N w := ⟨R, H, ExtC.refl _ _ _ _, fun _ h => h, fun _ h => h, fun _ h => .inl h⟩
theorem Later.of_rely (R : Rel P E N w) (H : Own O W lo E N w) (h : Rely O w w1) : Later P lo O W E N w O W E N w1 := ⟨R.rely H h, H.rely h, .of_rely h E N, fun _ h => h, fun _ h => h, fun _ h => .inl h⟩
theorem Later.trans (h : Later P lo O W E N w O1 W1 E1 N1 w1) (g : Later P lo O1 W1 E1 N1 w1 O2 W2 E2 N2 w2) : Later P lo O W E N w O2 W2 E2 N2 w2 :=
 ⟨g.rel, g.own, h.ext.trans g.ext h.oo, fun b hb => g.oo b (h.oo b hb), fun b hb => g.ww b (h.ww b hb), fun b hb => (g.ou b hb).elim (h.ou b) fun hs => .inr (Nat.le_trans h.ext.hsize hs)⟩
theorem Later.of_step (R : Rel P E N w) (H : Own O W lo E N w) (R' : Rel P E1 N1 w1) (X : Ext E N w E1 N1 w1) (hlo : lo ≤ N1.wm) : Later P lo O W E N w (grow O w w1) (grow W w w1) E1 N1 w1 :=
 ⟨R', H.step R R' X hlo, X.toC O, fun _ h => .inl h, fun _ h => .inl h, fun _ h => h.elim .inl fun h => .inr h.1⟩
end
end
end Go.Eng
namespace Go.Eng
noncomputable section
open Go.Conc (G)
set_option linter.unusedSimpArgs false
set_option linter.unusedVariables false
def Mute (P : Program) {α : Type} (s : Sem α) : Prop := ∀ w es, s.events P w es = es
section
variable {P : Program} {α β : Type}
theorem Mute.bind {x : Sem α} {f : α → Sem β} (h : Mute P x) (g : ∀ a, Mute P (f a)) : Mute P (x >>= f) := fun w es => by
 rw [Sem.events_bind, h w es]
 cases x.run P w with
 | ok a w' => exact g a w' es
 | halt h w' => rfl
theorem mute_pure (a : α) : Mute P (pure a : Sem α) := fun _ _ => rfl
theorem mute_stuck (s : String) : Mute P (stuck s : Sem α) := fun _ _ => rfl
theorem mute_unsupported (u : Unsupported) : Mute P (unsupported u : Sem α) := fun _ _ => rfl
theorem mute_goPanic (v : Value) : Mute P (goPanic v : Sem α) := fun _ _ => rfl
theorem mute_throw (v : String) : Mute P (throw v : Sem α) := fun _ _ => rfl
theorem mute_program : Mute P program := fun _ _ => rfl
theorem mute_choose (q : Question) : Mute P (choose q) := fun w es => by simp
theorem mute_typeInfo (t : TypeId) : Mute P (typeInfo t) := fun w es => by simp
theorem mute_underlying (t : TypeId) : Mute P (underlying t) := fun w es => by simp
theorem mute_sizeOf (t : TypeId) : Mute P (sizeOf t) := fun w es => by simp
theorem mute_isAgg (t : TypeId) : Mute P (isAgg t) := fun w es => by simp
theorem mute_zeroValue (t : TypeId) : Mute P (zeroValue t) := fun w es => by simp
theorem mute_newObj (o : Obj) : Mute P (newObj o) := fun w es => rfl
theorem mute_shape (r : Nat) : Mute P (shape r) := fun w es => rfl
theorem mute_freeze (a : Addr) (n : Nat) : Mute P (freeze a n) := fun w es => rfl
theorem mute_frozen (a : Addr) : Mute P (frozen a) := fun w es => rfl
theorem mute_newRow (t : TypeId) (c : Array Value) : Mute P (newRow t c) := (mute_newObj _).bind fun _ => mute_pure _
theorem mute_newVar (t : TypeId) (v : Value) : Mute P (newVar t v) := mute_newRow _ _
theorem mute_elemOf (t : TypeId) : Mute P (elemOf t) := by
 unfold elemOf
 refine (mute_underlying t).bind fun d => ?_
 split <;> first | exact mute_pure _ | exact mute_stuck _
theorem mute_runtimePanic (e : RuntimeError) : Mute P (runtimePanic e : Sem α) := by
 unfold runtimePanic
 refine mute_program.bind fun p => ?_
 cases e with
 | typeAssertion i c a m => exact (mute_elemOf _).bind fun _ => (mute_newVar _ _).bind fun _ => mute_goPanic _
 | panicNil => exact (mute_elemOf _).bind fun _ => (mute_newVar _ _).bind fun _ => mute_goPanic _
 | _ => exact mute_goPanic _
theorem mute_asIntOf (v : Value) : Mute P (asIntOf v) := by
 unfold asIntOf
 split <;> first | exact mute_pure _ | exact mute_stuck _ | exact mute_unsupported _
theorem mute_asInt (v : Value) : Mute P (asInt v) := (mute_asIntOf v).bind fun _ => mute_pure _
theorem mute_asBool (v : Value) : Mute P (asBool v) := by
 unfold asBool
 split <;> first | exact mute_pure _ | exact mute_stuck _
theorem mute_asAgg (v : Value) : Mute P (asAgg v) := by
 unfold asAgg
 split <;> first | exact mute_pure _ | exact mute_stuck _
theorem mute_asAddr (v : Value) : Mute P (asAddr v) := by
 unfold asAddr
 split <;> first | exact mute_pure _ | exact mute_stuck _ | exact mute_runtimePanic _
theorem Mute.map {x : Sem α} (h : Mute P x) (f : α → β) : Mute P (f <$> x) := fun w es => by rw [Sem.events_map, h w es]
theorem mute_boundsPanic (k : IntKind) (x y : Int) (c : BoundsCode) : Mute P (boundsPanic k x y c : Sem α) := by
 unfold boundsPanic
 repeat' (first | (with_reducible first | exact mute_pure _ | exact mute_stuck _ | exact mute_unsupported _ | exact mute_goPanic _ | exact mute_throw _ | exact mute_program | exact mute_choose _ | exact mute_typeInfo _ | exact mute_underlying _ | exact mute_sizeOf _ | exact mute_isAgg _ | exact mute_zeroValue _ | exact mute_newObj _ | exact mute_shape _ | exact mute_newRow _ _ | exact mute_newVar _ _ | exact mute_elemOf _ | exact mute_runtimePanic _ | exact mute_asIntOf _ | exact mute_asInt _ | exact mute_asBool _ | exact mute_asAgg _ | exact mute_asAddr _) | (with_reducible refine Mute.bind ?_ (fun _ => ?_)) | (with_reducible refine Mute.map ?_ _) | split | dsimp only)
theorem mute_part (t : TypeId) (cs : Array Value) (off : Nat) : Mute P (part t cs off) := by
 unfold part
 refine (mute_isAgg t).bind fun b => ?_
 split
 ·exact (mute_sizeOf _).bind fun _ => mute_pure _
 ·split <;> first | exact mute_pure _ | exact mute_stuck _
theorem mute_sureAddr (v : Value) : Mute P (Instr.sureAddr v) := by
 unfold Instr.sureAddr
 split <;> first | exact mute_pure _ | exact mute_stuck _
theorem mute_markStringish (a : Addr) : Mute P (markStringish a) := by
 unfold markStringish
 refine (mute_shape _).bind fun x => ?_
 split <;> first | exact mute_freeze _ _ | exact mute_pure _
theorem mute_field (t : TypeId) (x : Value) (i : Nat) : Mute P (Instr.field t x i) := by
 unfold Instr.field
 refine (mute_underlying t).bind fun d => ?_
 split
 ·split
  ·exact (mute_asAgg _).bind fun _ => mute_part _ _ _
  ·exact mute_stuck _
 ·exact mute_stuck _
theorem mute_extract (x : Value) (i : Nat) : Mute P (Instr.extract x i) := by
 unfold Instr.extract
 split
 ·split <;> first | exact mute_pure _ | exact mute_stuck _
 ·exact mute_stuck _
theorem mute_makeInterface (t : TypeId) (x : Value) : Mute P (Instr.makeInterface t x) := by
 unfold Instr.makeInterface
 refine (mute_underlying t).bind fun d => ?_
 split <;> first | exact mute_pure _ | exact mute_stuck _
theorem mute_typeAssert (x : Value) (xt a : TypeId) (ok : Bool) : Mute P (Instr.typeAssert x xt a ok) := by
 unfold Instr.typeAssert
 have hh : ∀ v : Value, Mute P (pure (if ok = true then Value.tuple #[v, .bool true] else v) : Sem Value) := fun v => mute_pure _
 have hf : ∀ (s d : Option TypeId) (m : String), Mute P ((if ok = true then (do pure (Value.tuple #[← zeroValue a, .bool false])) else runtimePanic (.typeAssertion s d a m)) : Sem Value) := by
  intro s d m
  split
  ·exact (mute_zeroValue _).bind fun _ => mute_pure _
  ·exact mute_runtimePanic _
 refine (mute_underlying a).bind fun d => ?_
 split
 ·exact hf _ _ _
 ·refine (mute_typeInfo _).bind fun i => ?_
  split
  ·exact hh _
  ·exact hf _ _ _
 ·exact hf _ _ _
 ·split
  ·exact hh _
  ·exact hf _ _ _
 ·exact mute_stuck _
theorem mute_arrayAt (t : TypeId) (x : Value) : Mute P (Instr.arrayAt t x) := by
 unfold Instr.arrayAt
 repeat' (first | (with_reducible first | exact mute_pure _ | exact mute_stuck _ | exact mute_unsupported _ | exact mute_goPanic _ | exact mute_throw _ | exact mute_program | exact mute_choose _ | exact mute_typeInfo _ | exact mute_underlying _ | exact mute_sizeOf _ | exact mute_isAgg _ | exact mute_zeroValue _ | exact mute_newObj _ | exact mute_shape _ | exact mute_newRow _ _ | exact mute_newVar _ _ | exact mute_elemOf _ | exact mute_runtimePanic _ | exact mute_asIntOf _ | exact mute_asInt _ | exact mute_asBool _ | exact mute_asAgg _ | exact mute_asAddr _ | exact mute_sureAddr _ | exact mute_boundsPanic _ _ _ _) | (with_reducible refine Mute.bind ?_ (fun _ => ?_)) | (with_reducible refine Mute.map ?_ _) | split | dsimp only)
theorem mute_indexAt (t : TypeId) (x i : Value) : Mute P (Instr.indexAt t x i) := by
 unfold Instr.indexAt
 repeat' (first | (with_reducible first | exact mute_pure _ | exact mute_stuck _ | exact mute_unsupported _ | exact mute_goPanic _ | exact mute_throw _ | exact mute_program | exact mute_choose _ | exact mute_typeInfo _ | exact mute_underlying _ | exact mute_sizeOf _ | exact mute_isAgg _ | exact mute_zeroValue _ | exact mute_newObj _ | exact mute_shape _ | exact mute_newRow _ _ | exact mute_newVar _ _ | exact mute_elemOf _ | exact mute_runtimePanic _ | exact mute_asIntOf _ | exact mute_asInt _ | exact mute_asBool _ | exact mute_asAgg _ | exact mute_asAddr _ | exact mute_sureAddr _ | exact mute_boundsPanic _ _ _ _) | (with_reducible refine Mute.bind ?_ (fun _ => ?_)) | (with_reducible refine Mute.map ?_ _) | split | dsimp only)
theorem mute_sliceBound (x : Value) (y : Nat) (c : BoundsCode) : Mute P (Instr.sliceBound x y c) := by
 unfold Instr.sliceBound
 repeat' (first | (with_reducible first | exact mute_pure _ | exact mute_stuck _ | exact mute_unsupported _ | exact mute_goPanic _ | exact mute_throw _ | exact mute_program | exact mute_choose _ | exact mute_typeInfo _ | exact mute_underlying _ | exact mute_sizeOf _ | exact mute_isAgg _ | exact mute_zeroValue _ | exact mute_newObj _ | exact mute_shape _ | exact mute_newRow _ _ | exact mute_newVar _ _ | exact mute_elemOf _ | exact mute_runtimePanic _ | exact mute_asIntOf _ | exact mute_asInt _ | exact mute_asBool _ | exact mute_asAgg _ | exact mute_asAddr _ | exact mute_boundsPanic _ _ _ _) | (with_reducible refine Mute.bind ?_ (fun _ => ?_)) | (with_reducible refine Mute.map ?_ _) | split | dsimp only)
theorem mute_sliceBounds (b : Bool) (l c : Nat) (lo hi mx : Option Value) : Mute P (Instr.sliceBounds b l c lo hi mx) := by
 unfold Instr.sliceBounds
 repeat' (first | (with_reducible first | exact mute_pure _ | exact mute_stuck _ | exact mute_unsupported _ | exact mute_goPanic _ | exact mute_throw _ | exact mute_program | exact mute_choose _ | exact mute_typeInfo _ | exact mute_underlying _ | exact mute_sizeOf _ | exact mute_isAgg _ | exact mute_zeroValue _ | exact mute_newObj _ | exact mute_shape _ | exact mute_newRow _ _ | exact mute_newVar _ _ | exact mute_elemOf _ | exact mute_runtimePanic _ | exact mute_asIntOf _ | exact mute_asInt _ | exact mute_asBool _ | exact mute_asAgg _ | exact mute_asAddr _ | exact mute_sliceBound _ _ _) | (with_reducible refine Mute.bind ?_ (fun _ => ?_)) | (with_reducible refine Mute.map ?_ _) | split | dsimp only)
theorem mute_slice (t : TypeId) (x : Value) (lo hi mx : Option Value) : Mute P (Instr.slice t x lo hi mx) := by
 unfold Instr.slice
 repeat' (first | (with_reducible first | exact mute_pure _ | exact mute_stuck _ | exact mute_unsupported _ | exact mute_goPanic _ | exact mute_throw _ | exact mute_program | exact mute_choose _ | exact mute_typeInfo _ | exact mute_underlying _ | exact mute_sizeOf _ | exact mute_isAgg _ | exact mute_zeroValue _ | exact mute_newObj _ | exact mute_shape _ | exact mute_newRow _ _ | exact mute_newVar _ _ | exact mute_elemOf _ | exact mute_runtimePanic _ | exact mute_asIntOf _ | exact mute_asInt _ | exact mute_asBool _ | exact mute_asAgg _ | exact mute_asAddr _ | exact mute_sliceBounds _ _ _ _ _ _) | (with_reducible refine Mute.bind ?_ (fun _ => ?_)) | (with_reducible refine Mute.map ?_ _) | split | dsimp only)
theorem mute_sliceAt (t : TypeId) (x : Value) (lo hi mx : Option Value) : Mute P (Instr.sliceAt t x lo hi mx) := by
 unfold Instr.sliceAt
 repeat' (first | (with_reducible first | exact mute_pure _ | exact mute_stuck _ | exact mute_unsupported _ | exact mute_goPanic _ | exact mute_throw _ | exact mute_program | exact mute_choose _ | exact mute_typeInfo _ | exact mute_underlying _ | exact mute_sizeOf _ | exact mute_isAgg _ | exact mute_zeroValue _ | exact mute_newObj _ | exact mute_shape _ | exact mute_newRow _ _ | exact mute_newVar _ _ | exact mute_elemOf _ | exact mute_runtimePanic _ | exact mute_asIntOf _ | exact mute_asInt _ | exact mute_asBool _ | exact mute_asAgg _ | exact mute_asAddr _ | exact mute_sliceBounds _ _ _ _ _ _ | exact mute_sureAddr _ | exact mute_slice _ _ _ _ _) | (with_reducible refine Mute.bind ?_ (fun _ => ?_)) | (with_reducible refine Mute.map ?_ _) | split | dsimp only)
theorem mute_lenOf (v : Value) : Mute P (Builtin.lenOf v) := by
 unfold Builtin.lenOf
 repeat' (first | (with_reducible first | exact mute_pure _ | exact mute_stuck _ | exact mute_unsupported _ | exact mute_goPanic _ | exact mute_throw _ | exact mute_program | exact mute_choose _ | exact mute_typeInfo _ | exact mute_underlying _ | exact mute_sizeOf _ | exact mute_isAgg _ | exact mute_zeroValue _ | exact mute_newObj _ | exact mute_shape _ | exact mute_newRow _ _ | exact mute_newVar _ _ | exact mute_elemOf _ | exact mute_runtimePanic _ | exact mute_asIntOf _ | exact mute_asInt _ | exact mute_asBool _ | exact mute_asAgg _ | exact mute_asAddr _) | (with_reducible refine Mute.bind ?_ (fun _ => ?_)) | (with_reducible refine Mute.map ?_ _) | split | dsimp only)
def Tok (rd wr : Nat → Prop) (e : Event) : Prop :=
 (∃ f, e.loc = .mark (.extern f)) ∨ e.loc = .mark .noRoom ∨ ∃ b, (e.loc = .obj b ∨ ∃ a : Addr, e.loc = .cell a ∧ a.block = b) ∧ e.sync = false ∧ rd b ∧ (e.write = true → wr b)
def Evs (P : Program) (rd wr : Nat → Prop) {α : Type} (s : Sem α) (w : World) : Prop := ∀ e ∈ s.events P w #[], Tok rd wr e
variable {rd wr : Nat → Prop} {w : World}
theorem Mute.evs {x : Sem α} (h : Mute P x) : Evs P rd wr x w := fun e he => by rw [h w #[]] at he; simp at he
theorem Evs.bind {x : Sem α} {f : α → Sem β} (h : Evs P rd wr x w) (g : ∀ a w', x.run P w = .ok a w' → Evs P rd wr (f a) w') : Evs P rd wr (x >>= f) w := by
 intro e he
 rw [Sem.events_bind] at he
 cases hx : x.run P w with
 | halt hh w' => rw [hx] at he; exact h e he
 | ok a w' =>
  rw [hx] at he
  simp only [Result.evThen_ok] at he
  rw [Sem.events_acc] at he
  rcases Array.mem_append.1 he with he | he
  ·exact h e he
  ·exact g a w' hx e he
theorem Evs.map {x : Sem α} (h : Evs P rd wr x w) (f : α → β) : Evs P rd wr (f <$> x) w := fun e he => by
 rw [Sem.events_map] at he
 exact h e he
theorem Evs.still {x : Sem α} {f : α → Sem β} (hm : Mute P x) (hs : ∀ a w', x.run P w = .ok a w' → w' = w) (g : ∀ a, x.run P w = .ok a w → Evs P rd wr (f a) w) : Evs P rd wr (x >>= f) w :=
 hm.evs.bind fun a w' h => by
  obtain rfl := hs a w' h
  exact g a h
def Same (P : Program) (x : Sem α) : Prop := ∀ w a w', x.run P w = .ok a w' → w' = w
theorem same_sizeOf (t : TypeId) : Same P (sizeOf t) := fun w a w' h => by
 cases hu : P.info? t with
 | none => simp [sizeOf, typeInfo, hu] at h
 | some d => simp [sizeOf, typeInfo, hu] at h; exact h.2.symm
theorem same_isAgg (t : TypeId) : Same P (isAgg t) := fun w a w' h => by
 cases hu : P.underlying t with
 | none => simp [isAgg, underlying, hu] at h
 | some d => cases d <;> simp [isAgg, run_underlying hu] at h <;> exact h.2.symm
def IsRow (w : World) (b : Nat) : Prop := ∃ c e z, w.heap[b]? = some (.cells c e z)
theorem evs_load {a : Addr} (h : IsRow w a.block) (hr : rd a.block) : Evs P rd wr (load a) w := by
 obtain ⟨c, e, z, h⟩ := h
 intro ev he
 unfold Sem.events load at he
 rw [Sem.runT] at he
 cases hc : w.cell? a with
 | some v =>
  rw [hc] at he
  simp [Sem.runT] at he
  subst he
  exact .inr (.inr ⟨a.block, .inr ⟨a, rfl, rfl⟩, rfl, hr, fun h => by cases h⟩)
 | none =>
  rw [hc] at he
  simp [World.farLoad, h] at he
theorem run_load_same {a : Addr} (h : IsRow w a.block) {v : Value} {w' : World} (hr : (load a).run P w = .ok v w') : w' = w := by
 obtain ⟨c, e, z, h⟩ := h
 unfold load at hr
 rw [Sem.run] at hr
 cases hc : w.cell? a with
 | some u => rw [hc] at hr; simp [Sem.run] at hr; exact hr.2.symm
 | none => rw [hc] at hr; simp [World.farLoad, h] at hr
theorem store_halts {a : Addr} {v : Value} (hv : v.oneCell' = false) : (store a v).runT P w #[] = (.halt (.stuck "store: not the value of one cell") w, #[]) := by
 unfold store
 cases v <;> simp [Value.oneCell'] at hv <;> rw [Sem.runT]
theorem evs_store {a : Addr} {v : Value} (h : IsRow w a.block) (hr : rd a.block) (hw : wr a.block) : Evs P rd wr (store a v) w := by
 obtain ⟨c, e, z, h⟩ := h
 intro ev he
 cases hv : v.oneCell' with
 | false =>
  unfold Sem.events at he
  rw [store_halts hv] at he
  simp at he
 | true =>
  rw [events_store (a := a) (v := v) (m := .plain) (hv := hv)] at he
  cases hc : w.cell? a with
  | some u =>
   rw [hc] at he
   simp only at he
   split at he
   ·simp at he
   ·simp at he
    subst he
    exact .inr (.inr ⟨a.block, .inr ⟨a, rfl, rfl⟩, rfl, hr, fun _ => hw⟩)
  | none =>
   rw [hc] at he
   simp [World.farStore, h] at he
theorem row_setCell {b : Nat} (h : IsRow w b) (a : Addr) (v : Value) : IsRow (w.setCell a v) b := by
 obtain ⟨c, e, z, h⟩ := h
 unfold IsRow World.setCell
 simp only [Array.getElem?_modify]
 split
 ·rename_i hb
  subst hb
  rw [h]
  exact ⟨_, _, _, rfl⟩
 ·exact ⟨_, _, _, h⟩
theorem run_store_row {a : Addr} {v : Value} {b : Nat} (hb : IsRow w b) (h : IsRow w a.block) {w' : World} (hr : (store a v).run P w = .ok () w') : IsRow w' b := by
 obtain ⟨c, e, z, h⟩ := h
 have key : w' = w.setCell a v := by
  cases hv : v.oneCell' with
  | false =>
   have := store_halts (P := P) (w := w) (a := a) hv
   rw [← Sem.runT_fst P _ w #[], this] at hr
   cases hr
  | true =>
   rw [run_store P w a v .plain hv] at hr
   cases hc : w.cell? a with
   | some u =>
    rw [hc] at hr
    simp only at hr
    split at hr
    ·cases hr
    ·cases hr; rfl
   | none =>
    rw [hc] at hr
    simp [World.farStore, h] at hr
 rw [key]
 exact row_setCell hb a v
theorem block_add (a : Addr) (n : Nat) : (a.add n).block = a.block := by unfold Addr.add; split <;> rfl
theorem evs_loadCellsFrom (a : Addr) (h : IsRow w a.block) (hr : rd a.block) : ∀ (n i : Nat) (acc : Array Value), Evs P rd wr (loadCellsFrom a i n acc) w
 | 0, _, _ => (mute_pure _).evs
 | n + 1, i, acc => by
  unfold loadCellsFrom
  refine (evs_load (by rw [block_add]; exact h) (by rw [block_add]; exact hr)).bind fun v w' hv => ?_
  rw [run_load_same (by rw [block_add]; exact h) hv]
  exact evs_loadCellsFrom a h hr n (i + 1) _
theorem same_loadCellsFrom (a : Addr) (h : IsRow w a.block) : ∀ (n i : Nat) (acc : Array Value) {v : Array Value} {w' : World}, (loadCellsFrom a i n acc).run P w = .ok v w' → w' = w
 | 0, _, _, v, w', hr => by simp [loadCellsFrom] at hr; exact hr.2.symm
 | n + 1, i, acc, v, w', hr => by
  unfold loadCellsFrom at hr
  rw [Sem.run_bind] at hr
  cases hl : (load (a.add i)).run P w with
  | halt hh w1 => rw [hl] at hr; cases hr
  | ok u w1 =>
   rw [hl, Result.andThen_ok] at hr
   rw [run_load_same (by rw [block_add]; exact h) hl] at hr
   exact same_loadCellsFrom a h n (i + 1) _ hr
theorem evs_storeCells (a : Addr) (hr : rd a.block) (hw : wr a.block) : ∀ (vs : List Value) (i : Nat) {w : World}, (vs ≠ [] → IsRow w a.block) → Evs P rd wr (storeCells a vs i) w
 | [], _, _, _ => (mute_pure _).evs
 | v :: vs, i, w, h => by
  unfold storeCells
  have h := h (by simp)
  refine (evs_store (by rw [block_add]; exact h) (by rw [block_add]; exact hr) (by rw [block_add]; exact hw)).bind fun u w' hv => ?_
  exact evs_storeCells a hr hw vs (i + 1) fun _ => run_store_row h (by rw [block_add]; exact h) hv
theorem evs_getObj {r : Nat} {o : Obj} (h : w.heap[r]? = some o) (hc : o.isChan = false) (hr : rd r) : Evs P rd wr (getObj r) w := by
 intro e he
 unfold Sem.events getObj at he
 rw [Sem.runT, h] at he
 cases o <;> simp [Sem.runT] at he <;> subst he <;> exact .inr (.inr ⟨r, .inl rfl, hc, hr, fun h => by cases h⟩)
theorem evs_setObj {r : Nat} {o o' : Obj} (h : w.heap[r]? = some o) (hc : o'.isChan = false) (hr : rd r) (hw : wr r) : Evs P rd wr (setObj r o') w := by
 intro e he
 unfold Sem.events setObj at he
 rw [Sem.runT, h] at he
 cases o <;> simp [Sem.runT] at he <;> subst he <;> exact .inr (.inr ⟨r, .inl rfl, hc, hr, fun _ => hw⟩)
theorem evs_loadVar {t : TypeId} {a : Addr} (h : IsRow w a.block) (hr : rd a.block) : Evs P rd wr (loadVar t a) w := by
 unfold loadVar
 refine .still (mute_isAgg t) (same_isAgg t w) fun b _ => ?_
 split
 ·refine .still (mute_sizeOf t) (same_sizeOf t w) fun n _ => ?_
  exact (evs_loadCellsFrom a h hr n 0 _).bind fun _ _ _ => (mute_pure _).evs
 ·exact evs_load h hr
theorem evs_storeVar {t : TypeId} {a : Addr} {v : Value} (h : IsRow w a.block) (hr : rd a.block) (hw : wr a.block) : Evs P rd wr (storeVar t a v) w := by
 unfold storeVar
 refine .still (mute_sizeOf t) (same_sizeOf t w) fun n _ => ?_
 split
 ·exact (mute_stuck _).evs.bind fun _ _ h => by simp at h
 ·exact evs_storeCells a hr hw _ 0 fun _ => h
theorem pureRun_evs : ∀ (s : Sem α) {a : α}, pureRun P s = some a → ∀ (w : World) (es : Array Event), ∀ e ∈ (s.runT P w es).2, e ∈ es ∨ ∃ f, e.loc = .mark (.extern f)
 | .pure _, _, h, _, _, e, he => .inl he
 | .program k, _, h, w, es, e, he => pureRun_evs (k P) h w es e he
 | .mark (.extern f) k, _, h, w, es, e, he => by
  rcases pureRun_evs k h w (es.push ⟨.mark (.extern f), false, true⟩) e he with h1 | h1
  ·rcases Array.mem_push.1 h1 with h2 | rfl
   ·exact .inl h2
   ·exact .inr ⟨f, rfl⟩
  ·exact .inr h1
 | .mark (.acquire _) _, _, h, _, _, _, _ => by simp [pureRun] at h
 | .mark (.release _) _, _, h, _, _, _, _ => by simp [pureRun] at h
 | .mark (.releaseMerge _) _, _, h, _, _, _, _ => by simp [pureRun] at h
 | .mark .disable _, _, h, _, _, _, _ => by simp [pureRun] at h
 | .mark .enable _, _, h, _, _, _, _ => by simp [pureRun] at h
 | .mark (.read _) _, _, h, _, _, _, _ => by simp [pureRun] at h
 | .mark (.write _) _, _, h, _, _, _, _ => by simp [pureRun] at h
 | .mark .noRoom _, _, h, _, _, _, _ => by simp [pureRun] at h
 | .load .., _, h, _, _, _, _ => by simp [pureRun] at h
 | .store .., _, h, _, _, _, _ => by simp [pureRun] at h
 | .new .., _, h, _, _, _, _ => by simp [pureRun] at h
 | .shape .., _, h, _, _, _, _ => by simp [pureRun] at h
 | .freeze .., _, h, _, _, _, _ => by simp [pureRun] at h
 | .frozen .., _, h, _, _, _, _ => by simp [pureRun] at h
 | .getObj .., _, h, _, _, _, _ => by simp [pureRun] at h
 | .setObj .., _, h, _, _, _, _ => by simp [pureRun] at h
 | .choose .., _, h, _, _, _, _ => by simp [pureRun] at h
 | .sys .., _, h, _, _, _, _ => by simp [pureRun] at h
 | .halt .., _, h, _, _, _, _ => by simp [pureRun] at h
theorem Evs.of_pure {s : Sem α} {a : α} (h : pureRun P s = some a) : Evs P rd wr s w := fun e he => by
 rcases pureRun_evs s h w #[] e he with h1 | h1
 ·simp at h1
 ·exact .inl h1
theorem Evs.ran {x : Sem α} {f : α → Sem β} (hx : Evs P rd wr x w) {a : α} {w' : World} (h : x.run P w = .ok a w') (g : Evs P rd wr (f a) w') : Evs P rd wr (x >>= f) w :=
 hx.bind fun b w1 hb => by
  rw [h] at hb
  cases hb
  exact g
theorem Evs.und {t : TypeId} {d : TypeDesc} {f : TypeDesc → Sem β} (h : P.underlying t = some d) (g : Evs P rd wr (f d) w) : Evs P rd wr (underlying t >>= f) w := (mute_underlying t).evs.ran (run_underlying h w) g
theorem evs_pure (a : α) : Evs P rd wr (pure a : Sem α) w := (mute_pure a).evs
theorem evs_findAsking (E : Env) {kt : TypeId} {k : Value} : ∀ (es : List (Value × Value × Nat)) (i : Nat) {r : Option (Nat × (Value × Value × Nat))}, cask P kt k es i = some r → Evs P rd wr (Instr.findAsking kt k (es.map (mvE E)) i) w
 | [], _, _, _ => evs_pure _
 | e :: es, i, r, h => by
  simp only [cask] at h
  simp only [List.map_cons, Instr.findAsking]
  have hk' : (mvE E e).key = e.1 := rfl
  rw [hk']
  cases hs : pureRun P (Op.equal kt k e.1) with
  | none => simp [hs] at h
  | some b =>
   refine (Evs.of_pure hs).ran (pureRun_ok _ hs w) ?_
   cases b with
   | true => exact evs_pure _
   | false =>
    simp only [hs] at h
    exact evs_findAsking E es (i + 1) h
theorem ckey_evs {kt : TypeId} {k : Value} {es : List (Value × Value × Nat)} {r : Option (Nat × (Value × Value × Nat))} (h : ckey P kt k es = some r) (E : Env) :
  (∀ b w, Evs P rd wr (Instr.checkKey b 10000 kt k) w) ∧ (∀ w, Evs P rd wr (Instr.findKey kt k (es.map (mvE E))) w) := by
 unfold ckey at h
 split at h
 ·rename_i d hd
  split at h
  ·rename_i hk
   obtain ⟨h1, _⟩ := findi_ok E hk es 0 h
   refine ⟨fun b w => ?_, fun w => ?_⟩
   ·show Evs P rd wr (Instr.checkKey b (9999 + 1) kt k) w
    rw [Instr.checkKey]
    refine Evs.und hd ?_
    cases d <;> cases k <;> first | (simp [isKey] at hk; done) | exact evs_pure _
   ·unfold Instr.findKey
    refine Evs.und hd ?_
    rw [h1]
    exact evs_pure _
  ·split at h
   ·rename_i hm
    obtain ⟨hm, hp, ht, hf⟩ := hm
    refine ⟨fun b w => ?_, fun w => ?_⟩
    ·cases b with
     | true =>
      obtain ⟨u, hu⟩ := Option.isSome_iff_exists.1 ht
      exact Evs.of_pure hu
     | false =>
      obtain ⟨u, hu⟩ := Option.isSome_iff_exists.1 hf
      exact Evs.of_pure hu
    ·unfold Instr.findKey
     refine Evs.und hd ?_
     split
     ·exact evs_pure _
     ·exact evs_findAsking E es 0 h
   ·cases h
 ·cases h
end
def Rd (E : Env) (N : CH) (b : Nat) : Prop := ∃ k, E.D k ∧ N.live k ∧ E.f k = b
def Wr (E : Env) (N N' : CH) (b : Nat) : Prop := ∃ k, E.D k ∧ N.live k ∧ N'.wm ≤ k ∧ E.f k = b
section
variable {P : Program} {E : Env} {N N' : CH} {w : World} {wr : Nat → Prop}
theorem live_of {k : Nat} {b : CB} (h : N.get k = some b) (hb : b.isDead = false) : N.live k := ⟨b, h, hb⟩
theorem Rel.isRow (R : Rel P E N w) {k : Nat} (hk : E.D k) {c : List Value} {e : TypeId} {el : Bool} (hg : N.get k = some (.row c e el)) : IsRow w (E.f k) ∧ Rd E N (E.f k) := by
 obtain ⟨_, pre, sp, lo, hi, hh, _⟩ := R.row hk hg
 exact ⟨⟨_, _, _, hh⟩, k, hk, live_of hg rfl, rfl⟩
theorem wset_wm {N N' : CH} {k : Nat} {b : CB} (h : N.wset k b = some N') : N'.wm ≤ k := by
 obtain ⟨_, rfl⟩ := CH.wset_some h
 exact (CH.set_wm N k b).2
theorem load_evs (R : Rel P E N w) {t : TypeId} {a v : Value} (ha : Clo E.D a) (h : cload P t a N = some v) : Evs P (Rd E N) wr (Instr.loadAt t (E.m a)) w := by
 unfold cload at h
 split at h
 ·rename_i ad
  split at h
  ·rename_i c e el hg
   have hk : E.D ad.block := ha.1
   obtain ⟨h1, h2⟩ := R.isRow hk hg
   unfold Instr.loadAt
   refine (mute_sureAddr _).evs.ran (a := { ad with block := E.f ad.block, off := ad.off + E.s ad.block }) (w' := w) rfl ?_
   exact evs_loadVar h1 h2
  ·rename_i n f e hg
   have hk : E.D ad.block := ha.1
   obtain ⟨_, pre, sp, lo, hi, hh, _⟩ := R.blk _ _ hk hg
   unfold Instr.loadAt
   refine (mute_sureAddr _).evs.ran (a := { ad with block := E.f ad.block, off := ad.off + E.s ad.block }) (w' := w) rfl ?_
   exact evs_loadVar ⟨_, _, _, hh⟩ ⟨_, hk, live_of hg rfl, rfl⟩
  ·rename_i c hg
   have hk : E.D ad.block := ha.1
   obtain ⟨_, pre, sp, e, lo, hi, hh, _⟩ := R.win hk hg
   unfold Instr.loadAt
   refine (mute_sureAddr _).evs.ran (a := { ad with block := E.f ad.block, off := ad.off + E.s ad.block }) (w' := w) rfl ?_
   exact evs_loadVar ⟨_, _, _, hh⟩ ⟨_, hk, live_of hg rfl, rfl⟩
  ·cases h
 ·cases h
theorem store_evs (R : Rel P E N w) {t : TypeId} {a v : Value} (ha : Clo E.D a) (h : cstore P t a v N = some N') (x : Value) : Evs P (Rd E N) (Wr E N N') (Instr.storeAt t (E.m a) x) w := by
 unfold cstore at h
 split at h
 ·rename_i ad
  split at h
  ·rename_i c e el hg
   have hk : E.D ad.block := ha.1
   obtain ⟨h1, h2⟩ := R.isRow hk hg
   split at h
   ·split at h
    ·unfold Instr.storeAt
     refine (mute_sureAddr _).evs.ran (a := { ad with block := E.f ad.block, off := ad.off + E.s ad.block }) (w' := w) rfl ?_
     exact evs_storeVar h1 h2 ⟨_, hk, live_of hg rfl, wset_wm h, rfl⟩
    ·cases h
   ·cases h
  ·cases h
 ·cases h
theorem run_getObj_ok {r : Nat} {o : Obj} (h : w.heap[r]? = some o) (hc : ∀ c e z, o ≠ .cells c e z) : (getObj r).run P w = .ok o w := by
 unfold getObj
 rw [Sem.run, h]
 cases o <;> first | exact absurd rfl (hc _ _ _) | simp [Sem.run]
theorem lookup_evs (R : Rel P E N w) {t : TypeId} {x k v : Value} {ok : Bool} (hx : Clo E.D x) (h : clookup P t x k ok N = some v) : Evs P (Rd E N) wr (Instr.lookup t (E.m x) (E.m k) ok) w := by
 unfold clookup at h
 split at h
 ·rename_i kt et hu
  split at h
  ·rename_i es z hes hz
   cases hck : ckey P kt k es with
   | none => simp [hck] at h
   | some r =>
    obtain ⟨hp, _, _, _⟩ := ckey_ok hck E
    obtain ⟨e1, e2⟩ := ckey_evs (rd := Rd E N) (wr := wr) hck E
    rw [m_plain E hp]
    unfold Instr.lookup
    refine Evs.und hu ?_
    dsimp only
    have fin : ∀ (kk : Option (Nat × Value)) w1, Evs P (Rd E N) wr ((match kk with
      | some (_, v) => do
       let x ← pure (v, true)
       pure (if ok = true then Value.tuple #[x.1, .bool x.2] else x.1)
      | none => do
       let z ← zeroValue et
       let x ← pure (z, false)
       pure (if ok = true then Value.tuple #[x.1, .bool x.2] else x.1)) : Sem Value) w1 := by
     intro kk w1
     cases kk with
     | some q => exact (evs_pure _).bind fun _ _ _ => evs_pure _
     | none => exact (mute_zeroValue _).evs.bind fun _ _ _ => (evs_pure _).bind fun _ _ _ => evs_pure _
    unfold mapOf at hes
    split at hes
    ·cases hes
     refine Evs.ran (a := #[]) (w' := w) (evs_pure _) rfl ?_
     refine (e1 _ _).bind fun _ _ _ => ?_
     refine (e2 _).bind fun q w2 _ => ?_
     exact fin q _
    ·rename_i r'
     split at hes
     ·rename_i es' cl hg
      cases hes
      have hk : E.D r' := hx
      have hb := (R.blk r' _ hk hg).2
      refine (evs_getObj hb rfl ⟨r', hk, live_of hg rfl, rfl⟩).ran (run_getObj_ok hb (by simp)) ?_
      dsimp only
      refine Evs.ran (a := (es.map (mvE E)).toArray) (w' := w) (evs_pure _) rfl ?_
      refine (e1 _ _).bind fun _ _ _ => ?_
      refine (e2 _).bind fun q w2 _ => ?_
      exact fin q _
     ·cases hes
    ·cases hes
  ·cases h
 ·cases h
theorem keyThatStays_evs (a b : Value) {rd wr : Nat → Prop} : Evs P rd wr (Instr.keyThatStays a b) w := by
 unfold Instr.keyThatStays
 split
 ·exact evs_pure _
 ·exact ((mute_choose _).evs.bind fun _ _ _ => evs_pure _)
theorem keyThatStays_heap {a b v : Value} {w' : World} (h : (Instr.keyThatStays a b).run P w = .ok v w') : w'.heap = w.heap := by
 unfold Instr.keyThatStays at h
 split at h
 ·simp at h; rw [h.2]
 ·simp [Question.forced] at h
  rw [← h.2]
  rfl
theorem mapUpdate_evs (R : Rel P E N w) {t : TypeId} {x k v : Value} (hx : Clo E.D x) (h : cmapUpdate P t x k v N = some N') (u : Value) : Evs P (Rd E N) (Wr E N N') (Instr.mapUpdate t (E.m x) (E.m k) u) w := by
 unfold cmapUpdate at h
 split at h
 ·rename_i kt et r hu
  split at h
  ·rename_i es cl hg
   obtain ⟨hcl, h2⟩ := R.blk r _ hx hg
   have hrd : Rd E N (E.f r) := ⟨r, hx, live_of hg rfl, rfl⟩
   cases hck : ckey P kt k es with
   | none => simp [hck] at h
   | some q =>
    obtain ⟨hkp, hck', hfk, _⟩ := ckey_ok hck E
    obtain ⟨e1, e2⟩ := ckey_evs (rd := Rd E N) (wr := Wr E N N') hck E
    have hwr : Wr E N N' (E.f r) := by
     rw [hck] at h
     cases q with
     | none => exact ⟨r, hx, live_of hg rfl, wset_wm h, rfl⟩
     | some y => exact ⟨r, hx, live_of hg rfl, wset_wm h, rfl⟩
    rw [m_plain E hkp]
    show Evs P _ _ (Instr.mapUpdate t (.map (some (E.f r))) k u) w
    unfold Instr.mapUpdate
    refine Evs.und hu ?_
    dsimp only
    refine (evs_getObj h2 rfl hrd).ran (Go.MapKept.run_getObj_map h2) ?_
    dsimp only
    refine (e1 _ _).ran (hck' _ _) ?_
    refine (e2 _).ran (hfk w) ?_
    cases q with
    | none => exact evs_setObj h2 rfl hrd hwr
    | some y =>
     refine (keyThatStays_evs _ _).bind fun a w' ha => ?_
     exact evs_setObj (by rw [keyThatStays_heap ha]; exact h2) rfl hrd hwr
  ·cases h
 ·cases h
theorem mapEntry_evs (R : Rel P E N w) {t : TypeId} {x k v : Value} (hx : Clo E.D x) (h : cmapEntry P t x k N = some (v, N')) : Evs P (Rd E N) (Wr E N N') (Instr.mapEntry t (E.m x) (E.m k)) w := by
 unfold cmapEntry at h
 split at h
 ·rename_i kt et r hu
  split at h
  ·rename_i es cl z hg hz
   obtain ⟨hcl, h2⟩ := R.blk r _ hx hg
   have hrd : Rd E N (E.f r) := ⟨r, hx, live_of hg rfl, rfl⟩
   cases hck : ckey P kt k es with
   | none => simp [hck] at h
   | some q =>
    obtain ⟨hkp, hck', hfk, _⟩ := ckey_ok hck E
    obtain ⟨e1, e2⟩ := ckey_evs (rd := Rd E N) (wr := Wr E N N') hck E
    have hwr : Wr E N N' (E.f r) := by
     rw [hck] at h
     cases q with
     | none =>
      obtain ⟨N1, hN1, h⟩ := Option.map_eq_some_iff.1 h
      cases h
      exact ⟨r, hx, live_of hg rfl, wset_wm hN1, rfl⟩
     | some y =>
      obtain ⟨N1, hN1, h⟩ := Option.map_eq_some_iff.1 h
      cases h
      exact ⟨r, hx, live_of hg rfl, wset_wm hN1, rfl⟩
    rw [m_plain E hkp]
    show Evs P _ _ (Instr.mapEntry t (.map (some (E.f r))) k) w
    unfold Instr.mapEntry
    refine Evs.und hu ?_
    dsimp only
    refine (evs_getObj h2 rfl hrd).ran (Go.MapKept.run_getObj_map h2) ?_
    dsimp only
    refine (e1 _ _).ran (hck' _ _) ?_
    refine (e2 _).ran (hfk w) ?_
    cases q with
    | none =>
     refine (mute_zeroValue _).evs.ran (run_zeroT hz w).1 ?_
     exact (evs_setObj h2 rfl hrd hwr).bind fun _ _ _ => evs_pure _
    | some y =>
     refine (keyThatStays_evs _ _).bind fun a w' ha => ?_
     exact (evs_setObj (by rw [keyThatStays_heap ha]; exact h2) rfl hrd hwr).bind fun _ _ _ => evs_pure _
  ·cases h
 ·cases h
theorem entryStore_evs (R : Rel P E N w) {t : TypeId} {x k v : Value} (hx : Clo E.D x) (h : centryStore x k v N = some N') (u : Value) : Evs P (Rd E N) (Wr E N N') (Instr.entryStore t (E.m x) (E.m k) u) w := by
 unfold centryStore at h
 split at h
 ·rename_i r ik n
  split at h
  ·rename_i es cl hg
   split at h
   ·obtain ⟨hcl, h2⟩ := R.blk r _ hx hg
    have hrd : Rd E N (E.f r) := ⟨r, hx, live_of hg rfl, rfl⟩
    have hwr : Wr E N N' (E.f r) := ⟨r, hx, live_of hg rfl, wset_wm h, rfl⟩
    show Evs P _ _ (Instr.entryStore t (.map (some (E.f r))) (.int ik n) u) w
    unfold Instr.entryStore
    dsimp only
    refine (evs_getObj h2 rfl hrd).ran (Go.MapKept.run_getObj_map h2) ?_
    dsimp only
    refine (mute_asInt _).evs.ran (a := n) (w' := w) (by simp [asInt, asIntOf]) ?_
    split
    ·exact evs_setObj h2 rfl hrd hwr
    ·exact (mute_unsupported _).evs
   ·cases h
  ·cases h
 ·cases h
theorem delete_evs (R : Rel P E N w) {t t2 ty : TypeId} {x k : Value} (hx : Clo E.D x) (h : cdelete P t x k N = some N') : Evs P (Rd E N) (Wr E N N') (Builtin.delete_ #[t, t2] ty #[E.m x, E.m k]) w := by
 unfold cdelete at h
 split at h
 ·rename_i kt et hu
  obtain ⟨r, hf, _⟩ := Option.map_eq_some_iff.1 h
  obtain ⟨hkp, _⟩ := ckey_ok hf E
  obtain ⟨e1, e2⟩ := ckey_evs (rd := Rd E N) (wr := Wr E N N') hf E
  rw [m_plain E hkp]
  show Evs P _ _ (Builtin.delete_ #[t, t2] ty #[.map none, k]) w
  unfold Builtin.delete_
  refine Evs.und hu ?_
  dsimp only
  exact (e1 _ _).bind fun _ _ _ => evs_pure _
 ·rename_i kt et r hu
  split at h
  ·rename_i es cl hg
   obtain ⟨hcl, h2⟩ := R.blk r _ hx hg
   have hrd : Rd E N (E.f r) := ⟨r, hx, live_of hg rfl, rfl⟩
   cases hck : ckey P kt k es with
   | none => simp [hck] at h
   | some q =>
    obtain ⟨hkp, hck', hfk, _⟩ := ckey_ok hck E
    obtain ⟨e1, e2⟩ := ckey_evs (rd := Rd E N) (wr := Wr E N N') hck E
    have hwr : Wr E N N' (E.f r) := by
     rw [hck] at h
     cases q with
     | none => exact ⟨r, hx, live_of hg rfl, wset_wm h, rfl⟩
     | some y => exact ⟨r, hx, live_of hg rfl, wset_wm h, rfl⟩
    rw [m_plain E hkp]
    show Evs P _ _ (Builtin.delete_ #[t, t2] ty #[.map (some (E.f r)), k]) w
    unfold Builtin.delete_
    refine Evs.und hu ?_
    dsimp only
    refine (evs_getObj h2 rfl hrd).ran (Go.MapKept.run_getObj_map h2) ?_
    refine (e1 _ _).ran (hck' _ _) ?_
    refine (e2 _).ran (hfk w) ?_
    cases q with
    | none => exact (evs_setObj h2 rfl hrd hwr).bind fun _ _ _ => evs_pure _
    | some y => exact (evs_setObj h2 rfl hrd hwr).bind fun _ _ _ => evs_pure _
  ·cases h
 ·cases h
theorem len_evs (R : Rel P E N w) {t ty : TypeId} {x v : Value} (hx : Clo E.D x) (h : clen P t x N = some v) : Evs P (Rd E N) wr (Builtin.len_ #[t] ty #[E.m x]) w := by
 unfold clen at h
 split at h
 ·rename_i e a n c hu
  unfold Builtin.len_
  refine Evs.und hu ?_
  cases a <;> exact evs_pure _
 ·rename_i k e hu
  unfold Builtin.len_
  refine Evs.und hu ?_
  exact evs_pure _
 ·rename_i k e r hu
  split at h
  ·rename_i es cl hg
   obtain ⟨_, h2⟩ := R.blk r _ hx hg
   show Evs P _ _ (Builtin.len_ #[t] ty #[.map (some (E.f r))]) w
   unfold Builtin.len_
   refine Evs.und hu ?_
   refine (evs_getObj h2 rfl ⟨r, hx, live_of hg rfl, rfl⟩).ran (Go.MapKept.run_getObj_map h2) ?_
   exact evs_pure _
  ·cases h
 ·rename_i arr p hu
  split at h
  ·rename_i n e hu2
   unfold Builtin.len_
   refine Evs.und hu ?_
   cases p <;> exact Evs.und hu2 (evs_pure _)
  ·cases h
 ·cases h
theorem range_evs (R : Rel P E N w) {t : TypeId} {x v : Value} (hx : Clo E.D x) (h : crange P t x N = some (v, N')) : Evs P (Rd E N) wr (Instr.range t (E.m x)) w := by
 unfold crange at h
 split at h
 ·split at h
  ·rename_i s hu
   unfold Instr.range
   refine Evs.und hu ?_
   exact (evs_pure _).bind fun _ _ _ => (mute_newObj _).evs.bind fun _ _ _ => evs_pure _
  ·rename_i k e hu
   unfold Instr.range
   refine Evs.und hu ?_
   exact (evs_pure _).bind fun _ _ _ => (mute_newObj _).evs.bind fun _ _ _ => evs_pure _
  ·rename_i k e m hu
   split at h
   ·rename_i es clock hg
    obtain ⟨_, h2⟩ := R.blk m _ hx hg
    show Evs P _ _ (Instr.range t (.map (some (E.f m)))) w
    unfold Instr.range
    refine Evs.und hu ?_
    refine (evs_getObj h2 rfl ⟨m, hx, live_of hg rfl, rfl⟩).ran (Go.MapKept.run_getObj_map h2) ?_
    exact (evs_pure _).bind fun _ _ _ => (mute_newObj _).evs.bind fun _ _ _ => evs_pure _
   ·cases h
  ·cases h
 ·cases h
theorem entry_evs (R : Rel P E N w) {x v : Value} (hx : Clo E.D x) (h : centry x N = some v) : Evs P (Rd E N) wr (Instr.entry (E.m x)) w := by
 unfold centry at h
 split at h
 ·rename_i r sp
  obtain ⟨hr, hsp⟩ := hx
  simp only at hr hsp
  subst hsp
  split at h
  ·rename_i m since seen stepped hg
   split at h
   ·rename_i stamp es clock hst hgm
    split at h
    ·rename_i hc
     subst hc
     obtain ⟨hmD, ho, hs0⟩ := R.blk r _ hr hg
     obtain ⟨hcl, hmo⟩ := R.blk m _ (hmD m rfl) hgm
     have hm : E.m (.pointer (some ⟨r, 0, none⟩)) = .pointer (some ⟨E.f r, 0, none⟩) := by simp [Env.m, mv, hs0]
     rw [hm]
     unfold Instr.entry
     dsimp only
     refine (evs_getObj ho rfl ⟨r, hr, live_of hg rfl, rfl⟩).ran (run_getObj_ok ho (by simp)) ?_
     dsimp only [Option.map_some]
     rw [hst]
     dsimp only
     refine (evs_getObj hmo rfl ⟨m, hmD m rfl, live_of hgm rfl, rfl⟩).ran (Go.MapKept.run_getObj_map hmo) ?_
     dsimp only
     split
     ·exact (mute_unsupported _).evs.bind fun _ _ h => by simp at h
     ·split
      ·exact evs_pure _
      ·exact (mute_unsupported _).evs
    ·cases h
   ·cases h
  ·cases h
 ·cases h
theorem next_evs (R : Rel P E N w) {x v : Value} {b : Bool} (ty : TypeId) (hx : Clo E.D x) (h : cnext x b N = some (v, N')) : Evs P (Rd E N) (Wr E N N') (Instr.next (E.m x) b ty) w := by
 unfold cnext at h
 split at h
 ·rename_i r sp
  obtain ⟨hr, hsp⟩ := hx
  simp only at hr hsp
  subst hsp
  split at h
  ·rename_i s pos hg
   obtain ⟨ho, hs0⟩ := R.blk r _ hr hg
   have hm : E.m (.pointer (some ⟨r, 0, none⟩)) = .pointer (some ⟨E.f r, 0, none⟩) := by simp [Env.m, mv, hs0]
   have hrd : Rd E N (E.f r) := ⟨r, hr, live_of hg rfl, rfl⟩
   rw [hm]
   unfold Instr.next
   dsimp only
   refine (evs_getObj ho rfl hrd).ran (run_getObj_ok ho (by simp)) ?_
   dsimp only
   split at h
   ·rename_i hlt
    obtain ⟨N1, hN1, h⟩ := Option.map_eq_some_iff.1 h
    simp only [Prod.mk.injEq] at h
    obtain ⟨rfl, rfl⟩ := h
    rw [if_pos hlt]
    exact (evs_setObj ho rfl hrd ⟨r, hr, live_of hg rfl, wset_wm hN1, rfl⟩).bind fun _ _ _ => evs_pure _
   ·rename_i hlt
    rw [if_neg hlt]
    exact evs_pure _
  ·rename_i a b c hg
   obtain ⟨_, ho, hs0⟩ := R.blk r _ hr hg
   have hm : E.m (.pointer (some ⟨r, 0, none⟩)) = .pointer (some ⟨E.f r, 0, none⟩) := by simp [Env.m, mv, hs0]
   have hrd : Rd E N (E.f r) := ⟨r, hr, live_of hg rfl, rfl⟩
   rw [hm]
   unfold Instr.next
   dsimp only
   refine (evs_getObj ho rfl hrd).ran (run_getObj_ok ho (by simp)) ?_
   exact evs_pure _
  ·rename_i m since seen last hg
   obtain ⟨hmD, ho, hs0⟩ := R.blk r _ hr hg
   have hmd := hmD m rfl
   have hm : E.m (.pointer (some ⟨r, 0, none⟩)) = .pointer (some ⟨E.f r, 0, none⟩) := by simp [Env.m, mv, hs0]
   have hrd : Rd E N (E.f r) := ⟨r, hr, live_of hg rfl, rfl⟩
   split at h
   ·rename_i es clock hgm
    obtain ⟨hcl, hmo⟩ := R.blk m _ hmd hgm
    split at h
    ·cases h
    ·rename_i hgd
     have hall : (es.map (mvE E)).toArray.all (fun e => decide (e.born ≥ last)) = es.all (fun e => decide (e.2.2 ≥ last)) := by
      rw [← Array.all_toList, List.all_map]
      rfl
     have hemp : (es.map (mvE E)).toArray.isEmpty = es.isEmpty := by cases es <;> simp
     have hguard : (!seen.isEmpty && !(es.map (mvE E)).toArray.isEmpty && (es.map (mvE E)).toArray.all (fun e => decide (e.born ≥ last))) = false := by
      rw [hall, hemp]
      simpa using hgd
     have hleft : (es.map (mvE E)).toArray.filter (fun e => !seen.contains e.born) = ((es.filter fun e => !seen.contains e.2.2).map (mvE E)).toArray := by
      rw [List.filter_toArray, filter_mvE E (fun b => !seen.contains b)]
     have hold : ∀ l : List (Value × Value × Nat), (l.map (mvE E)).toArray.filter (fun e => decide (e.born < since)) = ((l.filter fun e => decide (e.2.2 < since)).map (mvE E)).toArray := fun l => by
      rw [List.filter_toArray, filter_mvE E (fun b => decide (b < since))]
     have hnew : ∀ l : List (Value × Value × Nat), (l.map (mvE E)).toArray.filter (fun e => decide (e.born ≥ since)) = ((l.filter fun e => decide (e.2.2 ≥ since)).map (mvE E)).toArray := fun l => by
      rw [List.filter_toArray, filter_mvE E (fun b => decide (b ≥ since))]
     rw [hm]
     unfold Instr.next
     dsimp only
     refine (evs_getObj ho rfl hrd).ran (run_getObj_ok ho (by simp)) ?_
     dsimp only [Option.map_some]
     refine (evs_getObj hmo rfl ⟨m, hmd, live_of hgm rfl, rfl⟩).ran (Go.MapKept.run_getObj_map hmo) ?_
     dsimp only
     rw [hguard, hleft, hold, hnew]
     rw [if_neg (by simp)]
     split at h
     ·rename_i h1 h2
      rw [h1, h2]
      refine (mute_choose _).evs.ran (a := 0) (w' := w) (by simp [Question.forced]) ?_
      split
      ·rename_i heq; simp at heq
      ·exact evs_pure _
      ·exact (mute_stuck _).evs
     ·rename_i e h1 h2
      obtain ⟨N1, hN1, h⟩ := Option.map_eq_some_iff.1 h
      simp only [Prod.mk.injEq] at h
      obtain ⟨rfl, rfl⟩ := h
      rw [h1, h2]
      refine (mute_choose _).evs.ran (a := 0) (w' := w) (by simp [Question.forced]) ?_
      split
      ·exact (evs_setObj ho rfl hrd ⟨r, hr, live_of hg rfl, wset_wm hN1, rfl⟩).bind fun _ _ _ => evs_pure _
      ·exact evs_pure _
      ·exact (mute_stuck _).evs
     ·cases h
   ·cases h
  ·cases h
 ·cases h
theorem lenOf_evs (x : Value) {rd wr : Nat → Prop} : Evs P rd wr (Builtin.lenOf x) w := (mute_lenOf x).evs
theorem firstCells_evs (R : Rel P E N w) {size : Nat} {x : Value} {n : Nat} {new : List Value} (hx : Clo E.D x) (h : csrc size x N = some (n, new)) (w1 : World) (hh : w1.heap = w.heap) : Evs P (Rd E N) wr (Builtin.firstCells size n (E.m x)) w1 := by
 unfold csrc at h
 split at h
 ·exact evs_pure _
 ·rename_i a l c
  split at h
  ·rename_i h0
   cases h
   show Evs P _ _ (loadCellsFrom ⟨E.f a.block, soff E.toRen a, none⟩ 0 (0 * size) #[]) w1
   rw [Nat.zero_mul]
   exact evs_pure _
  ·split at h
   ·rename_i cs e el hg
    have hk : E.D a.block := hx
    obtain ⟨⟨c0, e0, z0, h1⟩, h2⟩ := R.isRow hk hg
    show Evs P _ _ (loadCellsFrom ⟨E.f a.block, soff E.toRen a, none⟩ 0 (n * size) #[]) w1
    exact evs_loadCellsFrom _ ⟨c0, e0, z0, by rw [hh]; exact h1⟩ h2 _ _ _
   ·rename_i cs hg
    have hk : E.D a.block := hx
    obtain ⟨_, pre, sp, e, lo, hi, hb, _⟩ := R.win hk hg
    show Evs P _ _ (loadCellsFrom ⟨E.f a.block, soff E.toRen a, none⟩ 0 (n * size) #[]) w1
    exact evs_loadCellsFrom _ ⟨_, _, _, by rw [hh]; exact hb⟩ ⟨_, hk, live_of hg rfl, rfl⟩ _ _ _
   ·cases h
 ·exact evs_pure _
 ·cases h
theorem copy_evs (R : Rel P E N w) {t t2 ty : TypeId} {d x v : Value} (hd : Clo E.D d) (hx : Clo E.D x) (h : ccopy P t d x N = some (v, N')) : Evs P (Rd E N) (Wr E N N') (Builtin.copy_ #[t, t2] ty #[E.m d, E.m x]) w := by
 unfold ccopy at h
 split at h
 ·rename_i e ad dl dc hu
  have hdd : E.D ad.block := hd
  split at h
  ·rename_i size cs e' el hs hg
   split at h
   ·rename_i n news hsrc
    obtain ⟨hlen, hf, _, hnc⟩ := src_ok R hx hsrc
    split at h
    ·rename_i hb
     obtain ⟨hone, hnl, hn, hsu, hfit'⟩ := hb
     obtain ⟨N1, hN1, h⟩ := Option.map_eq_some_iff.1 h
     simp only [Prod.mk.injEq] at h
     obtain ⟨rfl, rfl⟩ := h
     obtain ⟨h1, h2⟩ := R.isRow hdd hg
     show Evs P _ _ (Builtin.copy_ #[t, t2] ty #[.slice (some ⟨E.f ad.block, soff E.toRen ad, none⟩) dl (scap E.toRen ad dc), E.m x]) w
     unfold Builtin.copy_
     refine Evs.und hu ?_
     refine (lenOf_evs _).ran (hlen w) ?_
     refine (mute_sizeOf _).evs.ran (run_sizeOf hs w) ?_
     have hmin : Nat.min n dl = n := Nat.min_eq_left hn
     rw [hmin]
     refine (firstCells_evs R hx hsrc w rfl).ran hf ?_
     refine (evs_storeCells _ h2 ⟨_, hdd, live_of hg rfl, wset_wm hN1, rfl⟩ _ 0 fun _ => h1).bind fun _ _ _ => evs_pure _
    ·cases h
   ·cases h
  ·cases h
 ·cases h
theorem evs_noRoom {rd wr : Nat → Prop} : Evs P rd wr (mark .noRoom) w := by
 intro e he
 simp [mark, Sem.events, Sem.runT] at he
 subst he
 exact .inr (.inl rfl)
theorem evs_askRoom (n : Nat) {rd wr : Nat → Prop} : Evs P rd wr (askRoom n) w := by
 unfold askRoom
 split
 ·exact evs_noRoom
 ·exact evs_pure _
theorem mute_holdsCells (a : Addr) (n : Nat) : Mute P (Builtin.holdsCells a n) := by
 unfold Builtin.holdsCells
 refine (mute_shape _).bind fun x => ?_
 split <;> exact mute_pure _
theorem mute_mayShare (size sLen n : Nat) (base : Option Addr) (x : Value) : Mute P (Builtin.mayShare size sLen n base x) := by
 unfold Builtin.mayShare
 repeat' (first | (with_reducible first | exact mute_pure _ | exact mute_stuck _ | exact mute_frozen _ | exact mute_holdsCells _ _) | (with_reducible refine Mute.bind ?_ (fun _ => ?_)) | (with_reducible refine Mute.map ?_ _) | split | dsimp only)
theorem append_gen {rd wr : Nat → Prop} {t xt ty e : TypeId} {i : TypeInfo} (ht : P.underlying t = some (.slice e)) (hx : notInt P xt = true) (hi : P.info? e = some i) {a : Option Addr} {l c n : Nat} {x : Value}
  (hlen : (Builtin.lenOf x).run P w = .ok n w) (hnew : ∀ w1 : World, w1.heap = w.heap → Evs P rd wr (Builtin.firstCells i.size n x) w1)
  (hold : ∀ w1 : World, w1.heap = w.heap → Evs P rd wr (Builtin.firstCells i.size l (.slice a l c)) w1 ∧ ∀ v w2, (Builtin.firstCells i.size l (.slice a l c)).run P w1 = .ok v w2 → w2 = w1)
  (hin : l + n ≤ c → ∀ ad, a = some ad → IsRow w ad.block ∧ rd ad.block ∧ wr ad.block ∧ ∃ v, (Builtin.firstCells i.size n x).run P w = .ok v w) :
  Evs P rd wr (Builtin.append_ #[t, xt] ty #[.slice a l c, x]) w := by
 obtain ⟨d, hd, hk⟩ := notInt_spec hx
 have hz := notIntD hk
 unfold isIntD at hz
 have hti : ∀ w, (typeInfo e).run P w = .ok i w := fun w => by simp [typeInfo, hi]
 have hsz : ∀ w, (sizeOf e).run P w = .ok i.size w := fun w => by simp [sizeOf, typeInfo, hi]
 unfold Builtin.append_
 refine Evs.und ht ?_
 dsimp only
 refine (mute_sizeOf _).evs.ran (hsz w) ?_
 refine Evs.und hd ?_
 refine Evs.ran (a := false) (w' := w) (evs_pure _) (by simp [hz]) ?_
 refine (mute_lenOf _).evs.ran hlen ?_
 by_cases hroom : l + n ≤ c
 ·rw [if_pos hroom]
  refine (hnew w rfl).bind fun v w' hv => ?_
  cases a with
  | none => exact evs_pure _
  | some ad =>
   obtain ⟨h1, h2, h3, v', hv'⟩ := hin hroom ad rfl
   have hv2 : (Builtin.firstCells i.size n x).run P w = .ok v w' := hv
   rw [hv'] at hv2
   cases hv2
   exact (evs_storeCells _ (by rw [block_add]; exact h2) (by rw [block_add]; exact h3) _ 0 fun _ => by rw [block_add]; exact h1).bind fun _ _ _ => evs_pure _
 ·rw [if_neg hroom]
  refine (mute_typeInfo _).evs.ran (hti w) ?_
  have tail : Evs P rd wr (do
    let newCap ← choose (Question.appendCap (l + n) c e)
    let t ← typeInfo e
    askRoom (newCap * t.bytes)
    let old ← Builtin.firstCells i.size l (.slice a l c)
    let new ← Builtin.firstCells i.size n x
    let z ← zeroValue e
    let r ← newRow e (old ++ new ++ Builtin.zeroCells z.cells (newCap - (l + n)))
    pure (Value.slice (some r) (l + n) newCap)) w := by
   refine (mute_choose _).evs.ran (a := grownCap w (l + n) c e) (w' := w.drew) (by simp [Question.forced, grownCap]) ?_
   refine (mute_typeInfo _).evs.ran (hti _) ?_
   refine (evs_askRoom _).bind fun u w1 h1 => ?_
   have h1 : w1 = w.drew := by
    unfold askRoom at h1
    split at h1
    ·simp [mark, Sem.run] at h1; exact h1.symm
    ·simp at h1; exact h1.symm
   subst h1
   obtain ⟨g1, g2⟩ := hold w.drew rfl
   refine g1.bind fun v w2 h2 => ?_
   rw [g2 v w2 h2]
   refine (hnew w.drew rfl).bind fun v2 w3 _ => ?_
   exact (mute_zeroValue _).evs.bind fun _ _ _ => (mute_newRow _ _).evs.bind fun _ _ _ => evs_pure _
  split
  ·exact (mute_runtimePanic _).evs.bind fun _ _ h => by simp [runtimePanic] at h
  ·refine (mute_typeInfo _).evs.ran (hti w) ?_
   split
   ·refine Evs.bind ?_ fun u w' h => ?_
    ·rw [if_neg (by simp)]
     refine (mute_mayShare _ _ _ _ _).evs.bind fun b w1 _ => ?_
     split
     ·exact evs_noRoom.bind fun _ _ _ => (mute_unsupported _).evs
     ·exact (mute_unsupported _).evs
    ·exfalso
     rw [if_neg (by simp), Sem.run_bind] at h
     cases hm : (Builtin.mayShare i.size l n a #[Value.slice a l c, x][1]).run P w with
     | halt hh w1 => rw [hm] at h; cases h
     | ok b w1 =>
      rw [hm, Result.andThen_ok] at h
      split at h
      ·rw [Sem.run_bind] at h
       simp [mark, Sem.run] at h
      ·simp at h
   ·exact tail
theorem append_zero {rd wr : Nat → Prop} {t xt ty e : TypeId} {i : TypeInfo} (ht : P.underlying t = some (.slice e)) (hx : notInt P xt = true) (hi : P.info? e = some i) {ad : Addr} {x : Value}
  (hlen : (Builtin.lenOf x).run P w = .ok 0 w) (hnew : Evs P rd wr (Builtin.firstCells i.size 0 x) w) (hf : (Builtin.firstCells i.size 0 x).run P w = .ok #[] w) :
  Evs P rd wr (Builtin.append_ #[t, xt] ty #[.slice (some ad) 0 0, x]) w := by
 obtain ⟨d, hd, hk⟩ := notInt_spec hx
 have hz := notIntD hk
 unfold isIntD at hz
 have hsz : ∀ w, (sizeOf e).run P w = .ok i.size w := fun w => by simp [sizeOf, typeInfo, hi]
 unfold Builtin.append_
 refine Evs.und ht ?_
 dsimp only
 refine (mute_sizeOf _).evs.ran (hsz w) ?_
 refine Evs.und hd ?_
 refine Evs.ran (a := false) (w' := w) (evs_pure _) (by simp [hz]) ?_
 refine (mute_lenOf _).evs.ran hlen ?_
 rw [if_pos (Nat.le_refl _)]
 refine hnew.bind fun v w' hv => ?_
 have hv2 : (Builtin.firstCells i.size 0 x).run P w = .ok v w' := hv
 rw [hf] at hv2
 cases hv2
 exact (show Evs P rd wr (storeCells (ad.add (0 * i.size)) [] 0) w from evs_pure _).bind fun _ _ _ => evs_pure _
theorem loadNone_evs {P : Program} {w1 : World} {rd wr : Nat → Prop} (size l c : Nat) : Evs P rd wr (Builtin.firstCells size l (.slice none l c)) w1 ∧ ∀ v w2, (Builtin.firstCells size l (.slice none l c)).run P w1 = .ok v w2 → w2 = w1 :=
 ⟨evs_pure _, fun v w2 h => by simp [Builtin.firstCells] at h; exact h.2.symm⟩
theorem append_evs (R : Rel P E N w) {t xt ty : TypeId} {s x v : Value} (hs : Clo E.D s) (hx : Clo E.D x) (h : cappend P t xt s x N = some (v, N')) : Evs P (Rd E N) (Wr E N N') (Builtin.append_ #[t, xt] ty #[E.m s, E.m x]) w := by
 unfold cappend at h
 split at h
 ·rename_i e ht
  split at h
  ·rename_i i z hi hz
   split at h
   ·rename_i hcond
    obtain ⟨hni, hzs, hby⟩ := hcond
    split at h
    ·rename_i n new hsrc
     obtain ⟨hlen, hf, hfd, hnc⟩ := src_ok R hx hsrc
     have hnew : ∀ w1 : World, w1.heap = w.heap → Evs P (Rd E N) (Wr E N N') (Builtin.firstCells i.size n (E.m x)) w1 := fun w1 hh => firstCells_evs R hx hsrc w1 hh
     split at h
     ·split at h
      ·rename_i l c
       show Evs P _ _ (Builtin.append_ #[t, xt] ty #[.slice none l c, E.m x]) w
       exact append_gen ht hni hi (hlen w) hnew (fun w1 _ => loadNone_evs _ _ _) (fun _ ad h => by cases h)
      ·rename_i ad l c
       have hd : E.D ad.block := hs
       show Evs P _ _ (Builtin.append_ #[t, xt] ty #[.slice (some ⟨E.f ad.block, soff E.toRen ad, none⟩) l (scap E.toRen ad c), E.m x]) w
       split at h
       ·rename_i cs e' el hg
        obtain ⟨h1, h2⟩ := R.isRow hd hg
        have hrow : ∀ w1 : World, w1.heap = w.heap → IsRow w1 (E.f ad.block) := fun w1 hh => by
         obtain ⟨c0, e0, z0, h1⟩ := h1
         exact ⟨c0, e0, z0, by rw [hh]; exact h1⟩
        refine append_gen ht hni hi (hlen w) hnew (fun w1 hh => ⟨evs_loadCellsFrom _ (hrow w1 hh) h2 _ _ _, fun v w2 hv => same_loadCellsFrom _ (hrow w1 hh) _ _ _ hv⟩) ?_
        intro hroom ad' had
        cases had
        refine ⟨h1, h2, ⟨_, hd, live_of hg rfl, ?_, rfl⟩, _, hf⟩
        split at h
        ·split at h
         ·obtain ⟨N1, hN1, h⟩ := Option.map_eq_some_iff.1 h
          cases h
          exact wset_wm hN1
         ·cases h
        ·rename_i hno
         split at h
         ·split at h
          ·rename_i hex
           exfalso
           obtain ⟨hsu, hex⟩ := hex
           have : scap E.toRen ad c = c := by
            obtain ⟨a1, a2, a3⟩ := ad
            unfold scap
            cases a3 with
            | some s =>
             have : s = 0 := by simpa [sure] using hsu
             subst this
             simp
            | none =>
             rcases hex with h1 | h1
             ·simp at h1
             ·subst h1
              obtain ⟨_, _, sp0, _, _, _, _, _, hel⟩ := R.row hd hg
              have hx0 : E.x a1 = 0 := (show sp0 = [] ∧ E.x a1 = 0 ∧ E.s a1 = 0 by simpa using hel.1).2.1
              simp [hx0]
           omega
          ·split at h
           ·unfold cgrow crow at h
            split at h
            ·simp only [Option.map_some, Option.some.injEq, Prod.mk.injEq] at h
             obtain ⟨_, rfl⟩ := h
             rw [CH.push_def]
             exact (CH.set_wm N ad.block .dead).2
            ·cases h
           ·cases h
         ·cases h
       ·rename_i cs hg
        obtain ⟨_, pre, sp, e1, lo, hi', hb, _, hx0⟩ := R.win hd hg
        have hrow : ∀ w1 : World, w1.heap = w.heap → IsRow w1 (E.f ad.block) := fun w1 hh => ⟨_, _, _, by rw [hh]; exact hb⟩
        have h2 : Rd E N (E.f ad.block) := ⟨_, hd, live_of hg rfl, rfl⟩
        have hsc : l = 0 → c = 0 → l = 0 ∧ scap E.toRen ad c = 0 := fun hl0 hc0 => by
         obtain ⟨a1, a2, a3⟩ := ad
         have hx0' : E.toRen.x a1 = 0 := hx0
         subst hc0
         refine ⟨hl0, ?_⟩
         unfold scap
         cases a3 with
         | none => simp [hx0']
         | some s => simp [hx0']
        rcases Nat.eq_zero_or_pos n with hn0 | hn0
        ·split at h
         ·rename_i hfour
          obtain ⟨hl0, hc0, hfit, hnl⟩ := hfour
          obtain ⟨_, hsc0⟩ := hsc hl0 hc0
          subst hn0
          subst hl0
          have hnew0 : new = [] := List.length_eq_zero_iff.1 (by simpa using hnl)
          subst hnew0
          rw [hsc0]
          exact append_zero ht hni hi (hlen w) (hnew w rfl) (by simpa using hf)
         ·cases h
        refine append_gen ht hni hi (hlen w) hnew (fun w1 hh => ⟨evs_loadCellsFrom _ (hrow w1 hh) h2 _ _ _, fun v w2 hv => same_loadCellsFrom _ (hrow w1 hh) _ _ _ hv⟩) ?_
        intro hroom ad' had
        exfalso
        split at h
        ·rename_i hfour
         obtain ⟨hl0, hc0, _⟩ := hfour
         have := (hsc hl0 hc0).2
         omega
        ·cases h
       ·cases h
      ·cases h
     ·cases h
    ·cases h
   ·cases h
  ·cases h
 ·cases h
theorem mute_mapML {α β : Type} (f : α → Sem β) (hf : ∀ a, Mute P (f a)) : ∀ xs : List α, Mute P (xs.mapM f)
 | [] => by rw [List.mapM_nil]; exact mute_pure _
 | x :: xs => by
  rw [List.mapM_cons]
  exact (hf x).bind fun _ => (mute_mapML f hf xs).bind fun _ => mute_pure _
theorem mute_mapM {α β : Type} (f : α → Sem β) (hf : ∀ a, Mute P (f a)) (xs : Array α) : Mute P (xs.mapM f) := by
 rw [Array.mapM_eq_mapM_toList]
 exact (mute_mapML f hf _).map _
theorem mute_forInL {α β : Type} (f : α → β → Sem (ForInStep β)) (hf : ∀ a b, Mute P (f a b)) : ∀ (xs : List α) (b : β), Mute P (forIn xs b f)
 | [], b => by rw [List.forIn_nil]; exact mute_pure _
 | x :: xs, b => by
  rw [List.forIn_cons]
  refine (hf x b).bind fun r => ?_
  cases r with
  | done b => exact mute_pure _
  | yield b => exact mute_forInL f hf xs b
theorem mute_forIn {α β : Type} (f : α → β → Sem (ForInStep β)) (hf : ∀ a b, Mute P (f a b)) (xs : Array α) (b : β) : Mute P (forIn xs b f) := by
 rw [← Array.forIn_toList]
 exact mute_forInL f hf _ b
theorem mute_alloc (t : TypeId) : Mute P (Instr.alloc t true (.tuple #[])) := by
 unfold Instr.alloc
 exact (mute_zeroValue _).bind fun _ => (mute_newVar _ _).bind fun _ => mute_pure _
theorem mute_box (t : TypeId) (v : Value) : Mute P (Instr.box t v) := (mute_newVar _ _).bind fun _ => mute_pure _
theorem mute_build (t : TypeId) (parts : Array (Nat × Value)) : Mute P (Instr.build t parts) := by
 unfold Instr.build
 refine (mute_zeroValue _).bind fun z => (mute_underlying _).bind fun d => ?_
 split
 ·refine (mute_mapM _ (fun f => (mute_sizeOf _).bind fun _ => mute_pure _) _).bind fun _ => ?_
  split <;> first | exact mute_pure _ | exact mute_stuck _
 ·refine (mute_sizeOf _).bind fun _ => ?_
  split <;> first | exact mute_pure _ | exact mute_stuck _
 ·exact mute_stuck _
theorem mute_buildSlice (t : TypeId) (n : Nat) (parts : Array (Nat × Value)) : Mute P (Instr.buildSlice t n parts) := by
 unfold Instr.buildSlice
 repeat' (first | (with_reducible first | exact mute_pure _ | exact mute_stuck _ | exact mute_unsupported _ | exact mute_underlying _ | exact mute_sizeOf _ | exact mute_zeroValue _ | exact mute_newRow _ _) | (with_reducible refine Mute.bind ?_ (fun _ => ?_)) | (with_reducible refine Mute.map ?_ _) | split | dsimp only)
theorem mute_makeMap (t : TypeId) (r : Option Value) : Mute P (Instr.makeMap t r) := by
 unfold Instr.makeMap
 repeat' (first | (with_reducible first | exact mute_pure _ | exact mute_stuck _ | exact mute_unsupported _ | exact mute_underlying _ | exact mute_asInt _ | exact mute_newObj _) | (with_reducible refine Mute.bind ?_ (fun _ => ?_)) | (with_reducible refine Mute.map ?_ _) | split | dsimp only)
def Near (P : Program) {α : Type} (s : Sem α) : Prop := ∀ w, ∀ e ∈ s.events P w #[], e.loc = .mark .noRoom
theorem Mute.near {α : Type} {s : Sem α} (h : Mute P s) : Near P s := fun w e he => by rw [h w #[]] at he; simp at he
theorem Near.bind {α β : Type} {x : Sem α} {f : α → Sem β} (h : Near P x) (g : ∀ a, Near P (f a)) : Near P (x >>= f) := by
 intro w e he
 rw [Sem.events_bind] at he
 cases hx : x.run P w with
 | halt hh w' => rw [hx] at he; exact h w e he
 | ok a w' =>
  rw [hx] at he
  simp only [Result.evThen_ok] at he
  rw [Sem.events_acc] at he
  rcases Array.mem_append.1 he with he | he
  ·exact h w e he
  ·exact g a w' e he
theorem near_askRoom (n : Nat) : Near P (askRoom n) := by
 unfold askRoom
 split
 ·intro w e he
  simp [mark, Sem.events, Sem.runT] at he
  subst he
  rfl
 ·exact (mute_pure _).near
theorem Near.evs {α : Type} {s : Sem α} (h : Near P s) {rd wr : Nat → Prop} : Evs P rd wr s w := fun e he => .inr (.inl (h w e he))
theorem near_makeSlice (t : TypeId) (l c : Value) : Near P (Instr.makeSlice t l c) := by
 unfold Instr.makeSlice
 repeat' (first | (with_reducible first | exact near_askRoom _ | exact (mute_pure _).near | exact (mute_stuck _).near | exact (mute_underlying _).near | exact (mute_sizeOf _).near | exact (mute_zeroValue _).near | exact (mute_newRow _ _).near | exact (mute_typeInfo _).near | exact (mute_asInt _).near | exact (mute_runtimePanic _).near | exact (mute_choose _).near) | (with_reducible refine Near.bind ?_ (fun _ => ?_)) | split | dsimp only)
theorem mute_stringToBytes (e : TypeId) (s : ByteArray) : Mute P (Conv.stringToBytes e s) := by
 unfold Conv.stringToBytes
 exact (mute_choose _).bind fun _ => (mute_newRow _ _).bind fun _ => (mute_markStringish _).bind fun _ => mute_pure _
theorem bytesOf_evs {src dst : TypeId} {x v : Value} {rd wr : Nat → Prop} (h : cbytesOf P src dst x N = some (v, N')) : Evs P rd wr (convert src dst (E.m x)) w := by
 unfold cbytesOf at h
 split at h
 ·rename_i e s hs hd
  split at h
  ·rename_i he hsz1
   unfold convert
   refine Evs.und hs (Evs.und hd ?_)
   show Evs P _ _ (underlying e >>= _) w
   exact Evs.und he (mute_stringToBytes _ _).evs
  ·cases h
 ·cases h
theorem stringOf_evs (R : Rel P E N w) {src dst : TypeId} {x v : Value} (hx : Clo E.D x) (h : cstringOf P src dst x N = some v) : Evs P (Rd E N) wr (convert src dst (E.m x)) w := by
 unfold cstringOf at h
 split at h
 ·rename_i e a n c hs hd
  split at h
  ·rename_i he
   unfold convert
   refine Evs.und hs (Evs.und hd ?_)
   exact Evs.und he (evs_pure _)
  ·rename_i ad he
   have hdd : E.D ad.block := hx
   split at h
   ·rename_i cs e' el hg
    obtain ⟨h1, h2⟩ := R.isRow hdd hg
    show Evs P _ _ (convert src dst (.slice (some ⟨E.f ad.block, soff E.toRen ad, none⟩) n (scap E.toRen ad c))) w
    unfold convert
    refine Evs.und hs (Evs.und hd ?_)
    dsimp only
    refine Evs.und he ?_
    dsimp only
    unfold Conv.bytesToString
    dsimp only
    refine Evs.bind (evs_loadCellsFrom _ h1 h2 _ _ _) fun vs w' _ => Mute.evs ?_
    refine Mute.bind (mute_forIn _ (fun v s => ?_) _ _) fun _ => mute_pure _
    split <;> first | exact mute_pure _ | exact (mute_stuck _).bind fun _ => mute_pure _ | exact mute_stuck _
   ·cases h
  ·cases h
 ·cases h
theorem same_evs {src dst : TypeId} {x v : Value} {rd wr : Nat → Prop} (h : csame P src dst x N = some v) : Evs P rd wr (convert src dst (E.m x)) w := by
 unfold csame at h
 split at h
 ·rename_i e ad n c hu
  split at h
  ·rename_i row c' e' el' he hg
   split at h
   ·rename_i hsd
    obtain ⟨hsd, hge, hwmk⟩ := hsd
    subst hsd
    show Evs P _ _ (convert src src (.slice (some ⟨E.f ad.block, soff E.toRen ad, none⟩) n (scap E.toRen ad c))) w
    unfold convert
    refine Evs.und hu (Evs.und hu ?_)
    dsimp only
    refine Evs.und he ?_
    rw [show (src == src) = true by simp]
    exact (mute_markStringish _).evs.bind fun _ _ _ => evs_pure _
   ·cases h
  ·cases h
 ·cases h
theorem fieldAddr_evs {t : TypeId} {x v : Value} {i : Nat} {rd wr : Nat → Prop} (h : cfieldAddr P t x i = some v) : Evs P rd wr (Instr.fieldAt t (E.m x) i) w := by
 unfold cfieldAddr at h
 split at h
 ·rename_i fields a hu
  split at h
  ·rename_i f hf
   split at h
   ·rename_i n hn
    split at h
    ·cases h
    ·rename_i hn0
     show Evs P _ _ (Instr.fieldAt t (.pointer (some { a with block := E.f a.block, off := a.off + E.s a.block })) i) w
     unfold Instr.fieldAt
     refine Evs.und hu ?_
     dsimp only
     rw [hf]
     dsimp only
     refine Evs.bind (mute_sureAddr _).evs fun a w' _ => ?_
     refine Evs.bind ?_ fun _ _ _ => evs_pure _
     unfold fieldPlace
     refine (mute_sizeOf _).evs.ran (run_sizeOf hn w') ?_
     rw [if_neg hn0]
     exact evs_pure _
   ·cases h
  ·cases h
 ·cases h
theorem equalIn_evs {t : TypeId} {x y : Value} {b : Bool} {rd wr : Nat → Prop} (h : ceq P t x y = some b) (d : Nat) : Evs P rd wr (Op.equalIn (d + 1) t (E.m x) (E.m y)) w := by
 unfold ceq at h
 split at h
 ·rename_i e bb hu
  cases bb <;> exact Evs.und hu (evs_pure _)
 ·rename_i e aa hu
  exact Evs.und hu (evs_pure _)
 ·rename_i e a b' hu
  split at h
  ·rename_i n hn
   split at h
   ·rename_i hb
    obtain ⟨hn0, hb⟩ := hb
    refine Evs.und hu ?_
    refine (mute_sizeOf _).evs.ran (run_sizeOf hn w) ?_
    rw [if_pos hn0]
    unfold sameAddr
    rw [if_pos (by simp [hb])]
    exact evs_pure _
   ·cases h
  ·cases h
 ·rename_i e n c bb n' c' hu
  cases bb <;> exact Evs.und hu (evs_pure _)
 ·rename_i hu
  exact Evs.und hu (evs_pure _)
 ·rename_i e e' bb hu
  cases bb <;> exact Evs.und hu (evs_pure _)
 ·rename_i hu
  exact Evs.und hu (evs_pure _)
 ·rename_i hu
  exact Evs.und hu (evs_pure _)
 ·rename_i hu
  simp only [m_func]
  exact Evs.und hu (evs_pure _)
 ·rename_i hu
  simp only [m_func]
  exact Evs.und hu (evs_pure _)
 ·rename_i hu
  exact Evs.und hu (evs_pure _)
 ·rename_i hu
  exact Evs.und hu (evs_pure _)
 ·cases h
theorem eq_fin_evs {rd wr : Nat → Prop} {t : TypeId} {x y : Value} {ox oy : Operand} (hb1 : binOp .eql t x y = (do pure (.bool (← Op.equal t x y))))
  (hb2 : binOp .neq t x y = (do pure (.bool (!(← Op.equal t x y))))) (hg : ∀ op, eqGuard op t ox oy x y = pure ()) (he : Evs P rd wr (Op.equal t x y) w) :
  Evs P rd wr ((do eqGuard .eql t ox oy x y; binOp .eql t x y) : Sem Value) w ∧
  Evs P rd wr ((do eqGuard .neq t ox oy x y; binOp .neq t x y) : Sem Value) w := by
 simp only [hg, hb1, hb2]
 exact ⟨(evs_pure _).ran (a := ()) (w' := w) rfl (he.bind fun _ _ _ => evs_pure _), (evs_pure _).ran (a := ()) (w' := w) rfl (he.bind fun _ _ _ => evs_pure _)⟩
theorem eq_evs {t : TypeId} {x y : Value} {b : Bool} {rd wr : Nat → Prop} (h : ceq P t x y = some b) (ox oy : Operand) :
  Evs P rd wr ((do eqGuard .eql t ox oy (E.m x) (E.m y); binOp .eql t (E.m x) (E.m y)) : Sem Value) w ∧
  Evs P rd wr ((do eqGuard .neq t ox oy (E.m x) (E.m y); binOp .neq t (E.m x) (E.m y)) : Sem Value) w := by
 have he : Evs P rd wr (Op.equal t (E.m x) (E.m y)) w := equalIn_evs h 9999
 unfold ceq at h
 split at h
 ·rename_i e bb hu
  cases bb <;> exact eq_fin_evs rfl rfl (fun op => by cases op <;> rfl) he
 ·exact eq_fin_evs rfl rfl (fun op => by cases op <;> rfl) he
 ·exact eq_fin_evs rfl rfl (fun op => by cases op <;> rfl) he
 ·rename_i e n c bb n' c' hu
  cases bb <;> exact eq_fin_evs rfl rfl (fun op => by cases op <;> rfl) he
 ·exact eq_fin_evs rfl rfl (fun op => by cases op <;> rfl) he
 ·rename_i e e' bb hu
  cases bb <;> exact eq_fin_evs rfl rfl (fun op => by cases op <;> rfl) he
 ·exact eq_fin_evs rfl rfl (fun op => by cases op <;> rfl) he
 ·exact eq_fin_evs rfl rfl (fun op => by cases op <;> rfl) he
 ·simp only [m_func] at he ⊢
  exact eq_fin_evs rfl rfl (fun op => by cases op <;> rfl) he
 ·simp only [m_func] at he ⊢
  exact eq_fin_evs rfl rfl (fun op => by cases op <;> rfl) he
 ·exact eq_fin_evs rfl rfl (fun op => by cases op <;> rfl) he
 ·exact eq_fin_evs rfl rfl (fun op => by cases op <;> rfl) he
 ·cases h
theorem pureOp_evs {ev : Ev} {ρ : Operand → Value} {rd wr : Nat → Prop} (h : EvOk E ev ρ) {o : Oper} (hs : ∀ cs b, o.op ≠ .select cs b) {v : Value} (hp : cpure P ev o = some v) : Evs P rd wr (execOp ρ o) w := by
 unfold cpure at hp
 split at hp
 ·rename_i hall
  split at hp
  ·rename_i u hrun
   split at hp
   ·rename_i hpl
    have hcong : execOp ρ o = execOp (fun x => (ev x).getD undef) o := by
     apply execOp_congr o hs
     intro x hx
     have hx' := Array.all_eq_true_iff_forall_mem.1 hall x hx
     unfold okPlain at hx'
     split at hx'
     ·rename_i v' hv
      rw [(h x v' hv).1, m_plain E hx', hv]
      rfl
     ·cases hx'
    rw [hcong]
    exact Evs.of_pure hrun
   ·cases hp
  ·cases hp
 ·cases hp
theorem callFunc_evs (hP : NoCount P) {f : FuncId} {fn : Func} (hf : P.funcs[f]? = some fn) (hb : fn.body.isSome = true) (args : Array Value) {rd wr : Nat → Prop} : Evs P rd wr (callFunc f args) w := by
 have h1 : ¬ fn.name = "runtime.NumGoroutine" := by simpa using hP f fn hf hb
 have h2 : ¬ fn.body = none := by intro h; rw [h] at hb; cases hb
 unfold callFunc
 refine mute_program.evs.ran (a := P) (w' := w) rfl ?_
 rw [hf]
 dsimp only
 rw [if_neg (by simpa using h1), if_neg (by simpa using h2)]
 exact evs_pure _
theorem method_evs {t : TypeId} {name : String} {f : FuncId} (h : cmethod P t name = some f) (v : Value) (n : Nat) {rd wr : Nat → Prop} : Evs P rd wr (method (n + 1) t v name) w := by
 unfold cmethod at h
 split at h
 ·rename_i i hi
  split at h
  ·rename_i m hm
   split at h
   ·rename_i hp
    have hp' : m.path.toList = [] := List.isEmpty_iff.1 hp
    have hti : (typeInfo t).run P w = .ok i w := by simp [typeInfo, hi]
    split at h
    ·rename_i g e hf hu
     unfold method
     refine (mute_typeInfo _).evs.ran hti ?_
     rw [hm]
     dsimp only
     rw [hp']
     refine Evs.ran (a := (t, Place.val v)) (w' := w) (evs_pure _) rfl ?_
     dsimp only
     rw [hf]
     dsimp only
     refine Evs.bind ?_ fun _ _ _ => evs_pure _
     unfold receiverAt
     exact Evs.und hu (evs_pure _)
    ·cases h
    ·rename_i g d hnp hf hu
     have hne : ∀ e, d ≠ .pointer e := fun e he => by
      subst he
      exact hnp _ rfl
     unfold method
     refine (mute_typeInfo _).evs.ran hti ?_
     rw [hm]
     dsimp only
     rw [hp']
     refine Evs.ran (a := (t, Place.val v)) (w' := w) (evs_pure _) rfl ?_
     dsimp only
     rw [hf]
     dsimp only
     refine Evs.bind ?_ fun _ _ _ => evs_pure _
     unfold receiverAt
     refine Evs.und hu ?_
     cases d <;> first | exact absurd rfl (hne _) | exact evs_pure _
    ·cases h
   ·cases h
  ·cases h
 ·cases h
theorem callMethod_evs (hP : NoCount P) {t : TypeId} {name : String} {f : FuncId} {fn : Func} (h : cmethod P t name = some f) (hf : P.funcs[f]? = some fn) (hb : fn.body.isSome = true) (v : Value) (args : Array Value) {rd wr : Nat → Prop} :
  Evs P rd wr (callMethod (.iface t v) name args) w := by
 obtain ⟨n, hn⟩ : ∃ n, P.types.size + Made.depth = n + 1 := ⟨P.types.size + Made.depth - 1, by have : 0 < Made.depth := by decide
                                                                                               omega⟩
 unfold callMethod
 dsimp only
 refine mute_program.evs.ran (a := P) (w' := w) rfl ?_
 rw [hn]
 refine (method_evs h v n).ran (run_method h v n w) ?_
 exact callFunc_evs hP hf hb _
theorem evs_v {s : Sem Value} {rd wr : Nat → Prop} (h : Evs P rd wr s w) : Evs P rd wr (do pure (.value (← s)) : Sem Next) w := h.bind fun _ _ _ => evs_pure _
theorem evs_u {s : Sem Unit} {rd wr : Nat → Prop} (h : Evs P rd wr s w) : Evs P rd wr (do s; pure .skip : Sem Next) w := h.bind fun _ _ _ => evs_pure _
theorem evs_loadBytes : ∀ (n : Nat) (a : Addr) (acc : ByteArray) {rd wr : Nat → Prop}, IsRow w a.block → rd a.block → Evs P rd wr (loadBytes a acc n) w
 | 0, _, _, _, _, _, _ => (mute_pure _).evs
 | n + 1, a, acc, rd, wr, h, hr => by
  unfold loadBytes
  refine (evs_load h hr).bind fun v w' hv => ?_
  rw [run_load_same h hv]
  split
  ·exact evs_loadBytes n (a.add 1) _ (by rw [block_add]; exact h) (by rw [block_add]; exact hr)
  ·exact (mute_stuck _).evs
theorem unsafe_evs (R : Rel P E N w) {src dst : TypeId} {a : Addr} {v : Value} {rd wr : Nat → Prop} (hx : Clo E.D (.pointer (some a))) (h : cunsafe P src dst a N = some v) : Evs P rd wr (convert src dst (E.m (.pointer (some a)))) w := by
 intro e he
 rw [(unsafe_ok R hx h).2.2 #[]] at he
 simp at he
theorem sliceData_evs {x v : Value} {rd wr : Nat → Prop} (ts : Array TypeId) (ty : TypeId) (hx : Clo E.D x) (h : csliceData x = some v) : Evs P rd wr (Builtin.unsafeSliceData_ ts ty #[E.m x]) w := by
 intro e he
 rw [(sliceData_ok (P := P) (w := w) ts ty hx h).2.2 #[]] at he
 simp at he
theorem unsafeString_evs (R : Rel P E N w) {pt it ty : TypeId} {a : Addr} {n : Int} {v : Value} (hx : Clo E.D (.pointer (some a))) (h : cunsafeString P pt a n N = some (v, N')) : Evs P (Rd E N) wr (Builtin.unsafeString_ #[pt, it] ty #[E.m (.pointer (some a)), .int .i64 n]) w := by
 unfold cunsafeString at h
 split at h
 rotate_left
 ·cases h
 rename_i k off
 split at h
 rotate_left
 ·cases h
 rename_i c e el hg
 have hk : E.D k := hx.1
 obtain ⟨h1, h2⟩ := R.isRow hk hg
 have hm : E.m (.pointer (some ⟨k, off, none⟩)) = .pointer (some ⟨E.f k, off + E.s k, none⟩) := rfl
 rw [hm]
 have hdef : Builtin.unsafeString_ #[pt, it] ty #[.pointer (some ⟨E.f k, off + E.s k, none⟩), .int .i64 n] =
   (do
    let n ← asInt (.int .i64 n)
    if n < 0 then runtimePanic (.error "unsafe.String: len out of range")
    if n > IntKind.i64.max then unsupported (.unsafePointer "String: a length above the largest int")
    if n = 0 then pure (.string .empty)
    else if ← variablesAt ⟨E.f k, off + E.s k, none⟩ (← elemOf pt) n.toNat then do
     let s ← loadBytes ⟨E.f k, off + E.s k, none⟩ .empty n.toNat
     freeze ⟨E.f k, off + E.s k, none⟩ n.toNat
     pure (.string s)
    else unsupported (.unsafePointer "String: not so many bytes at ptr")) := rfl
 rw [hdef]
 have hva : ∀ (u : TypeId) (m : Nat), Mute P (variablesAt ⟨E.f k, off + E.s k, none⟩ u m) := fun u m => by
  unfold variablesAt
  refine mute_program.bind fun _ => (mute_shape _).bind fun x => ?_
  split <;> exact mute_pure _
 have hvr : ∀ (u : TypeId) (m : Nat) {b : Bool} {w' : World}, (variablesAt ⟨E.f k, off + E.s k, none⟩ u m).run P w = .ok b w' → w' = w := fun u m {b w'} hr => by
  unfold variablesAt at hr
  simp only [Sem.run_bind, run_program, Result.andThen_ok, run_shape] at hr
  split at hr <;> simp at hr <;> exact hr.2.symm
 have her : ∀ {t : TypeId} {w' : World}, (elemOf pt).run P w = .ok t w' → w' = w := fun {t w'} hr => by
  unfold elemOf at hr
  simp only [Sem.run_bind] at hr
  cases hu : (underlying pt).run P w with
  | halt hh w1 => rw [hu] at hr; cases hr
  | ok d w1 =>
   have : w1 = w := by
    unfold underlying at hu
    simp only [Sem.run_bind, run_program, Result.andThen_ok] at hu
    split at hu <;> simp at hu
    exact hu.2.symm
   subst this
   rw [hu, Result.andThen_ok] at hr
   split at hr <;> simp at hr <;> exact hr.2.symm
 refine (mute_asInt _).evs.ran (a := n) (w' := w) (by simp [asInt, asIntOf]) ?_
 by_cases c1 : n < 0
 ·rw [if_pos c1]
  exact ((mute_runtimePanic _).evs).bind fun _ w1 hr => by simp [runtimePanic] at hr
 ·rw [if_neg c1]
  by_cases c2 : n > IntKind.i64.max
  ·rw [if_pos c2]
   exact ((mute_unsupported _).evs).bind fun _ w1 hr => by simp at hr
  ·rw [if_neg c2]
   by_cases c3 : n = 0
   ·rw [if_pos c3]
    exact evs_pure _
   ·rw [if_neg c3]
    refine (mute_elemOf pt).evs.bind fun t w1 hr1 => ?_
    obtain rfl := her hr1
    refine (hva _ _).evs.bind fun b w2 hr2 => ?_
    obtain rfl := hvr _ _ hr2
    cases b with
    | true =>
     rw [if_pos rfl]
     refine (evs_loadBytes _ _ _ h1 h2).bind fun s w3 _ => ?_
     exact (mute_freeze _ _).evs.bind fun _ _ _ => evs_pure _
    | false => exact (mute_unsupported _).evs
theorem near_makeNoZero (ps rs : Array TypeId) (n : Int) : Near P (Extern.BytealgMakeNoZero.makeNoZero ps rs #[.int .i64 n]) := by
 have hd : Extern.BytealgMakeNoZero.makeNoZero ps rs #[.int .i64 n] = (do
   let some t := rs[0]? | stuck "bytealg.MakeNoZero: no result type"
   let .slice elem ← underlying t | stuck "bytealg.MakeNoZero: slice type expected"
   if n < 0 || n > 2 ^ 48 then runtimePanic (.error "makeslice: len out of range")
   let cap ← choose (.appendCap n.toNat 0 elem)
   askRoom cap
   let bytes ← choose (.extern "internal/bytealg.MakeNoZero.bytes" 0)
   let a ← newRow elem (Extern.BytealgMakeNoZero.digits cap bytes #[])
   pure (.slice (some a) n.toNat cap)) := rfl
 rw [hd]
 repeat' (first | (with_reducible first | exact near_askRoom _ | exact (mute_pure _).near | exact (mute_stuck _).near | exact (mute_underlying _).near | exact (mute_newRow _ _).near | exact (mute_runtimePanic _).near | exact (mute_choose _).near) | (with_reducible refine Near.bind ?_ (fun _ => ?_)) | split | dsimp only)
theorem extern_evs {f : FuncId} {fn : Func} (hf : P.funcs[f]? = some fn) {args : List Value} {v : Value} {rd wr : Nat → Prop} (h : cextern P fn args N = some (v, N')) : Evs P rd wr (callFunc f (args.map E.m).toArray) w := by
 unfold cextern at h
 split at h
 rotate_left
 ·cases h
 rename_i hb
 split at h
 rotate_left
 ·cases h
 rename_i hn
 split at h
 rotate_left
 ·cases h
 rename_i hname
 have hn' : Extern.findNext fn = none := by simpa using hn
 have key : ∀ {e : Array Value → Sem Value}, Extern.find fn = some e → Evs P rd wr (e (args.map E.m).toArray) w → Evs P rd wr (callFunc f (args.map E.m).toArray) w := by
  intro e he hev x hx
  rw [Go.Conc.events_callFunc_extern hf hname hb hn' he, Sem.events_acc] at hx
  rcases Array.mem_append.1 hx with hx | hx
  ·simp at hx
   subst hx
   exact .inl ⟨f, rfl⟩
  ·exact hev x hx
 split at h
 ·rename_i h1
  split at h
  rotate_left
  ·cases h
  rename_i x
  exact key (find_noEscape h1) (evs_pure (E.m x))
 ·split at h
  rotate_left
  ·cases h
  rename_i h1
  split at h
  rotate_left
  ·cases h
  rename_i n
  exact key (find_makeNoZero h1) (near_makeNoZero _ _ n).evs
theorem call_evs (hP : NoCount P) (R : Rel P E N w) {ev : Ev} {ρ : Operand → Value} (h : EvOk E ev ρ) {o : Oper} {c : Call} (ho : o.op = .call c) {nx : CNx}
  (hc : ccall P ev o c N = some (nx, N')) : Evs P (Rd E N) (Wr E N N') (execOp ρ o) w := by
 unfold ccall at hc
 split at hc
 ·rename_i b hcal
  split at hc
  ·rename_i v hp
   exact pureOp_evs h (by simp [ho]) hp
  ·split at hc
   ·rename_i s x t xt ha ht
    obtain ⟨r, hr, he⟩ := Option.map_eq_some_iff.1 hc
    cases he
    obtain ⟨h1, h2⟩ := evL_ok h ha
    have e1 : c.args.map ρ = #[E.m s, E.m x] := by apply Array.ext'; simpa using h1
    have e2 : c.argTypes = #[t, xt] := by apply Array.ext'; simpa using ht
    simp only [execOp, ho, resolve, hcal, pure_bind, invoke, builtin, e1, e2]
    exact evs_v (append_evs R (h2 s (by simp)) (h2 x (by simp)) hr)
   ·rename_i x t ha ht
    obtain ⟨v, hr, he⟩ := Option.map_eq_some_iff.1 hc
    cases he
    obtain ⟨h1, h2⟩ := evL_ok h ha
    have e1 : c.args.map ρ = #[E.m x] := by apply Array.ext'; simpa using h1
    have e2 : c.argTypes = #[t] := by apply Array.ext'; simpa using ht
    simp only [execOp, ho, resolve, hcal, pure_bind, invoke, builtin, e1, e2]
    exact evs_v (len_evs R (h2 x (by simp)) hr)
   ·rename_i d x t t2 ha ht
    obtain ⟨r, hr, he⟩ := Option.map_eq_some_iff.1 hc
    cases he
    obtain ⟨h1, h2⟩ := evL_ok h ha
    have e1 : c.args.map ρ = #[E.m d, E.m x] := by apply Array.ext'; simpa using h1
    have e2 : c.argTypes = #[t, t2] := by apply Array.ext'; simpa using ht
    simp only [execOp, ho, resolve, hcal, pure_bind, invoke, builtin, e1, e2]
    exact evs_v (copy_evs R (h2 d (by simp)) (h2 x (by simp)) hr)
   ·rename_i m k t t2 ha ht
    obtain ⟨r, hr, he⟩ := Option.map_eq_some_iff.1 hc
    cases he
    obtain ⟨h1, h2⟩ := evL_ok h ha
    have e1 : c.args.map ρ = #[E.m m, E.m k] := by apply Array.ext'; simpa using h1
    have e2 : c.argTypes = #[t, t2] := by apply Array.ext'; simpa using ht
    simp only [execOp, ho, resolve, hcal, pure_bind, invoke, builtin, e1, e2]
    exact evs_v (delete_evs R (h2 m (by simp)) hr)
   ·rename_i x ha
    obtain ⟨v, hr, he⟩ := Option.map_eq_some_iff.1 hc
    cases he
    obtain ⟨h1, h2⟩ := evL_ok h ha
    have e1 : c.args.map ρ = #[E.m x] := by apply Array.ext'; simpa using h1
    simp only [execOp, ho, resolve, hcal, pure_bind, invoke, builtin, e1]
    exact evs_v (sliceData_evs _ _ (h2 x (by simp)) hr)
   ·rename_i a n pt it ha ht
    obtain ⟨r, hr, he⟩ := Option.map_eq_some_iff.1 hc
    cases he
    obtain ⟨h1, h2⟩ := evL_ok h ha
    have e1 : c.args.map ρ = #[E.m (.pointer (some a)), .int .i64 n] := by apply Array.ext'; rw [Array.toList_map]; exact h1
    have e2 : c.argTypes = #[pt, it] := by apply Array.ext'; simpa using ht
    simp only [execOp, ho, resolve, hcal, pure_bind, invoke, builtin, e1, e2]
    exact evs_v (unsafeString_evs R (h2 (.pointer (some a)) (by simp)) hr)
   ·cases hc
 ·rename_i fo hcal
  split at hc
  ·rename_i f p q args hf ha
   split at hc
   ·rename_i fn hfn
    split at hc
    ·rename_i hb
     cases hc
     obtain ⟨h1, h2⟩ := evL_ok h ha
     obtain ⟨hfv, hfc⟩ := h fo _ hf
     have e1 : c.args.map ρ = (args.map E.m).toArray := by apply Array.ext'; simpa using h1
     have e2 : E.m (.func (.func f) p q) = .func (.func f) (p.map E.m) (q.map E.m) := m_func E (.func f) p q
     simp only [execOp, ho, resolve, hcal, hfv, e2, Deferred.ofValue, pure_bind, invoke, e1]
     exact callFunc_evs hP hfn hb _
    ·split at hc
     ·rename_i v hp
      exact pureOp_evs h (by simp [ho]) hp
     ·obtain ⟨r, hr, e'⟩ := Option.map_eq_some_iff.1 hc
      obtain ⟨h1, h2⟩ := evL_ok h ha
      obtain ⟨hfv, hfc⟩ := h fo _ hf
      have e1 : c.args.map ρ = (args.map E.m).toArray := by apply Array.ext'; simpa using h1
      have e2 : E.m (.func (.func f) p q) = .func (.func f) (p.map E.m) (q.map E.m) := m_func E (.func f) p q
      have e3 : ((p.toList ++ args ++ q.toList).map E.m).toArray = p.map E.m ++ (args.map E.m).toArray ++ q.map E.m := by apply Array.ext'; simp
      have := extern_evs (E := E) (w := w) (rd := Rd E N) (wr := Wr E N N') hfn hr
      rw [e3] at this
      simp only [execOp, ho, resolve, hcal, hfv, e2, Deferred.ofValue, pure_bind, invoke, e1]
      exact this
   ·cases hc
  ·rename_i l args hf ha
   split at hc
   ·rename_i r hg
    split at hc
    ·rename_i hlen
     cases hc
     obtain ⟨h1, h2⟩ := evL_ok h ha
     obtain ⟨hfv, hfc⟩ := h fo _ hf
     have hd : E.D l := hfc.1
     obtain ⟨⟨hl1, hl2⟩, hl3⟩ := R.blk l _ hd hg
     have e1 : c.args.map ρ = (args.map E.m).toArray := by apply Array.ext'; simpa using h1
     have e2 : E.m (.func (.yield l) #[] #[]) = .func (.yield (E.f l)) #[] #[] := by rw [m_func]; simp [mvFn]
     simp only [execOp, ho, resolve, hcal, hfv, e2, Deferred.ofValue, pure_bind, invoke, e1]
     unfold Instr.yield
     refine Evs.bind ?_ fun r' w' _ => Mute.evs ?_
     ·unfold Instr.getLoop
      refine (evs_getObj hl3 rfl ⟨l, hd, live_of hg rfl, rfl⟩).ran (run_getObj_ok hl3 (by simp)) ?_
      exact evs_pure _
     ·split
      ·exact (mute_stuck _).bind fun _ => mute_pure _
      ·exact mute_pure _
    ·cases hc
   ·cases hc
  ·rename_i ti name p q args hf ha
   split at hc
   ·rename_i ms t v rest hu hl
    split at hc
    ·rename_i f hm
     split at hc
     ·rename_i fn hfn
      split at hc
      ·rename_i hb
       cases hc
       obtain ⟨h1, h2⟩ := evL_ok h ha
       obtain ⟨hfv, hfc⟩ := h _ _ hf
       have e1 : c.args.map ρ = (args.map E.m).toArray := by apply Array.ext'; simpa using h1
       have e2 : E.m (.func (.methodOf ti name) ⟨p⟩ ⟨q⟩) = .func (.methodOf ti name) (p.map E.m).toArray (q.map E.m).toArray := by
        rw [m_func]
        simp [mvFn]
       have e0 : ((p.map E.m).toArray ++ (args.map E.m).toArray : Array Value) = (.iface t (E.m v) :: rest.map E.m).toArray := by
        apply Array.ext'
        have : p.map E.m ++ args.map E.m = (p ++ args).map E.m := by simp
        simp only [Array.toList_append, this, hl, List.map_cons]
        rfl
       have e3 : ((.iface t (E.m v) :: rest.map E.m).toArray : Array Value)[0]? = some (.iface t (E.m v)) := by simp
       simp only [execOp, ho, resolve, hcal, hfv, e2, Deferred.ofValue, pure_bind, invoke, e1, e0, e3]
       refine Evs.und hu ?_
       exact callMethod_evs hP hm hfn hb _ _
      ·cases hc
     ·cases hc
    ·cases hc
   ·cases hc
  ·cases hc
 ·rename_i r name hcal
  split at hc
  ·rename_i t v args hr ha
   split at hc
   ·rename_i f hm
    split at hc
    ·rename_i fn hfn
     split at hc
     ·rename_i hb
      cases hc
      obtain ⟨h1, h2⟩ := evL_ok h ha
      obtain ⟨hrv, hrc⟩ := h r _ hr
      have e2 : E.m (.iface t v) = .iface t (E.m v) := rfl
      have e1 : c.args.map ρ = (args.map E.m).toArray := by apply Array.ext'; simpa using h1
      have e3 : (#[E.m (.iface t v)] ++ (args.map E.m).toArray : Array Value)[0]? = some (.iface t (E.m v)) := by simp [e2]
      simp only [execOp, ho, resolve, hcal, pure_bind, invoke, e1, hrv, e3]
      exact callMethod_evs hP hm hfn hb _ _
     ·cases hc
    ·cases hc
   ·cases hc
  ·cases hc
theorem cop_evs' (hP : NoCount P) (R : Rel P E N w) {ev : Ev} {ρ : Operand → Value} (h : EvOk E ev ρ) {o : Oper} {nx : CNx} (hc : cop P ev o N = some (nx, N')) :
  Evs P (Rd E N) (Wr E N N') (execOp ρ o) w := by
 unfold cop at hc
 split at hc
 ·rename_i x ho
  simp only [execOp, ho]; exact evs_pure _
 ·rename_i x ho
  simp only [execOp, ho]; exact evs_pure _
 ·rename_i c a b ho
  simp only [execOp, ho]
  exact (mute_asBool _).evs.bind fun _ _ _ => evs_pure _
 ·rename_i e ho
  simp only [execOp, ho]; exact evs_v (mute_alloc _).evs
 ·rename_i e x ho
  simp only [execOp, ho]; exact evs_v (mute_box _ _).evs
 ·rename_i t parts ho
  simp only [execOp, ho]; exact evs_v (mute_build _ _).evs
 ·rename_i t n parts ho
  simp only [execOp, ho]; exact evs_v (mute_buildSlice _ _ _).evs
 ·rename_i t x ho
  simp only [Option.bind_eq_some_iff, Option.map_eq_some_iff] at hc
  obtain ⟨a, ha, v, hr, e'⟩ := hc
  cases e'
  obtain ⟨h1, h2⟩ := h x a ha
  simp only [execOp, ho, h1]; exact evs_v (load_evs R h2 hr)
 ·rename_i t x y ho
  simp only [Option.bind_eq_some_iff, Option.map_eq_some_iff] at hc
  obtain ⟨a, ha, b, hb, N1, hr, e'⟩ := hc
  cases e'
  obtain ⟨h1, h2⟩ := h x a ha
  obtain ⟨h3, h4⟩ := h y b hb
  simp only [execOp, ho, h1, h3]; exact evs_u (store_evs R h2 hr _)
 ·rename_i x ho
  simp only [Option.bind_eq_some_iff, Option.map_eq_some_iff] at hc
  obtain ⟨a, ha, v, hr, e'⟩ := hc
  cases e'
  obtain ⟨h1, h2⟩ := h x a ha
  unfold cnilCheck at hr
  split at hr
  ·simp only [execOp, ho, h1]
   exact evs_pure _
  ·rename_i f p q
   have e2 : E.m (.func (.func f) p q) = .func (.func f) (p.map E.m) (q.map E.m) := m_func E (.func f) p q
   simp only [execOp, ho, h1, e2]
   exact evs_pure _
  ·cases hr
 ·rename_i op t x y yt ho
  split at hc
  ·rename_i v hp
   exact pureOp_evs h (by simp [ho]) hp
  ·split at hc
   ·rename_i a b ha hb
    obtain ⟨r, hr, e'⟩ := Option.map_eq_some_iff.1 hc
    cases e'
    obtain ⟨h1, h2⟩ := h x a ha
    obtain ⟨h3, h4⟩ := h y b hb
    simp only [execOp, ho, h1, h3]; exact evs_v (eq_evs hr x y).1
   ·rename_i a b ha hb
    obtain ⟨r, hr, e'⟩ := Option.map_eq_some_iff.1 hc
    cases e'
    obtain ⟨h1, h2⟩ := h x a ha
    obtain ⟨h3, h4⟩ := h y b hb
    simp only [execOp, ho, h1, h3]; exact evs_v (eq_evs hr x y).2
   ·cases hc
 ·rename_i ho
  obtain ⟨v, hp, e'⟩ := Option.map_eq_some_iff.1 hc
  exact pureOp_evs h (by simp [ho]) hp
 ·rename_i src dst x ho
  split at hc
  ·rename_i v hp
   exact pureOp_evs h (by simp [ho]) hp
  ·split at hc
   ·rename_i s hs
    obtain ⟨r, hr, e'⟩ := Option.map_eq_some_iff.1 hc
    cases e'
    obtain ⟨h1, h2⟩ := h x _ hs
    simp only [execOp, ho, h1]; exact evs_v (bytesOf_evs hr)
   ·rename_i a n c hs
    split at hc
    ·rename_i v hr
     cases hc
     obtain ⟨h1, h2⟩ := h x _ hs
     simp only [execOp, ho, h1]; exact evs_v (same_evs hr)
    ·obtain ⟨v, hr, e'⟩ := Option.map_eq_some_iff.1 hc
     cases e'
     obtain ⟨h1, h2⟩ := h x _ hs
     simp only [execOp, ho, h1]; exact evs_v (stringOf_evs R h2 hr)
   ·rename_i a hs
    obtain ⟨v, hr, e'⟩ := Option.map_eq_some_iff.1 hc
    cases e'
    obtain ⟨h1, h2⟩ := h x _ hs
    simp only [execOp, ho, h1]; exact evs_v (unsafe_evs R h2 hr)
   ·cases hc
 ·rename_i t x ho
  simp only [execOp, ho]; exact evs_v (mute_makeInterface _ _).evs
 ·rename_i g p q ho
  simp only [execOp, ho]
  exact evs_v (evs_pure _)
 ·rename_i t r ho
  simp only [execOp, ho]; exact evs_v (mute_makeMap _ _).evs
 ·rename_i t l c ho
  simp only [execOp, ho]; exact evs_v (near_makeSlice _ _ _).evs
 ·rename_i t x lo hi m ho
  simp only [execOp, ho]; exact evs_v (mute_sliceAt _ _ _ _ _).evs
 ·rename_i t x i ho
  simp only [Option.bind_eq_some_iff, Option.map_eq_some_iff] at hc
  obtain ⟨a, ha, v, hr, e'⟩ := hc
  cases e'
  obtain ⟨h1, h2⟩ := h x a ha
  simp only [execOp, ho, h1]; exact evs_v (fieldAddr_evs hr)
 ·rename_i t x i ho
  simp only [execOp, ho]; exact evs_v (mute_field _ _ _).evs
 ·rename_i t x i ho
  simp only [execOp, ho]; exact evs_v (mute_indexAt _ _ _).evs
 ·rename_i t x ho
  simp only [execOp, ho]; exact evs_v (mute_arrayAt _ _).evs
 ·rename_i ho
  obtain ⟨v, hp, e'⟩ := Option.map_eq_some_iff.1 hc
  exact pureOp_evs h (by simp [ho]) hp
 ·rename_i t x i ok ho
  simp only [Option.bind_eq_some_iff, Option.map_eq_some_iff] at hc
  obtain ⟨a, ha, b, hb, v, hr, e'⟩ := hc
  cases e'
  obtain ⟨h1, h2⟩ := h x a ha
  obtain ⟨h3, _⟩ := h i b hb
  simp only [execOp, ho, h1, h3]; exact evs_v (lookup_evs R h2 hr)
 ·rename_i t m k x ho
  simp only [Option.bind_eq_some_iff, Option.map_eq_some_iff] at hc
  obtain ⟨a, ha, b, hb, c, hcc, N1, hr, e'⟩ := hc
  cases e'
  obtain ⟨h1, h2⟩ := h m a ha
  obtain ⟨h3, _⟩ := h k b hb
  simp only [execOp, ho, h1, h3]; exact evs_u (mapUpdate_evs R h2 hr _)
 ·rename_i t m k x ho
  simp only [Option.bind_eq_some_iff, Option.map_eq_some_iff] at hc
  obtain ⟨a, ha, b, hb, c, hcc, N1, hr, e'⟩ := hc
  cases e'
  obtain ⟨h1, h2⟩ := h m a ha
  obtain ⟨h3, _⟩ := h k b hb
  simp only [execOp, ho, h1, h3]; exact evs_u (mapUpdate_evs R h2 hr _)
 ·rename_i x xt asserted ok ho
  simp only [execOp, ho]; exact evs_v (mute_typeAssert _ _ _ _).evs
 ·rename_i t i ho
  simp only [execOp, ho]; exact evs_v (mute_extract _ _).evs
 ·rename_i t x ho
  simp only [Option.bind_eq_some_iff, Option.map_eq_some_iff] at hc
  obtain ⟨a, ha, ⟨v, N1⟩, hr, e'⟩ := hc
  cases e'
  obtain ⟨h1, h2⟩ := h x a ha
  simp only [execOp, ho, h1]; exact evs_v (range_evs R h2 hr)
 ·rename_i x b ho
  simp only [Option.bind_eq_some_iff, Option.map_eq_some_iff] at hc
  obtain ⟨a, ha, ⟨v, N1⟩, hr, e'⟩ := hc
  cases e'
  obtain ⟨h1, h2⟩ := h x a ha
  simp only [execOp, ho, h1]; exact evs_v (next_evs R o.type h2 hr)
 ·rename_i t m k ho
  simp only [Option.bind_eq_some_iff, Option.map_eq_some_iff] at hc
  obtain ⟨a, ha, b, hb, ⟨v, N1⟩, hr, e'⟩ := hc
  cases e'
  obtain ⟨h1, h2⟩ := h m a ha
  obtain ⟨h3, _⟩ := h k b hb
  simp only [execOp, ho, h1, h3]; exact evs_v (mapEntry_evs R h2 hr)
 ·rename_i t m s x ho
  simp only [Option.bind_eq_some_iff, Option.map_eq_some_iff] at hc
  obtain ⟨a, ha, b, hb, c, hcc, N1, hr, e'⟩ := hc
  cases e'
  obtain ⟨h1, h2⟩ := h m a ha
  obtain ⟨h3, _⟩ := h s b hb
  simp only [execOp, ho, h1, h3]; exact evs_u (entryStore_evs R h2 hr _)
 ·rename_i x ho
  simp only [Option.bind_eq_some_iff, Option.map_eq_some_iff] at hc
  obtain ⟨a, ha, v, hr, e'⟩ := hc
  cases e'
  obtain ⟨h1, h2⟩ := h x a ha
  simp only [execOp, ho, h1]; exact evs_v (entry_evs R h2 hr)
 ·rename_i c ho
  exact call_evs hP R h ho hc
 ·cases hc
theorem Evs.ok {α : Type} {s : Sem α} {O W : Nat → Prop} {lo : Nat} (H : Own O W lo E N w) (hlo : lo ≤ N'.wm) (h : Evs P (Rd E N) (Wr E N N') s w) {w' : World} (hs : w.heap.size ≤ w'.heap.size) : EvOk' O W w w' (s.events P w #[]) := by
 intro e he
 rcases h e he with h1 | h1 | ⟨b, h1, h2, ⟨k, hk, hl, rfl⟩, h4⟩
 ·exact .inl h1
 ·exact .inr (.inl h1)
 ·have := H.img k hk hl
  refine .inr (.inr ⟨E.f k, h1, h2, Nat.lt_of_lt_of_le (H.lt _ this) hs, .inl this, fun hw => ?_⟩)
  obtain ⟨j, hj, hlj, hwm, e⟩ := h4 hw
  rw [← e]
  exact .inl (H.wri j hj hlj (Nat.le_trans hlo hwm))
end
theorem cop_evs {P : Program} (hP : NoCount P) {E E' : Env} {N N' : CH} {w w' : World} {O W : Nat → Prop} {lo : Nat} (R : Rel P E N w) (H : Own O W lo E N w) {ev : Ev} {ρ : Operand → Value} (h : EvOk E ev ρ) {o : Oper} {nx : CNx} (hc : cop P ev o N = some (nx, N')) (hlo : lo ≤ N'.wm) (R' : Rel P E' N' w') (hrun : (execOp ρ o).run P w = .ok (nx.real E') w') :
  EvOk' O W w w' ((execOp ρ o).events P w #[]) := by
 obtain ⟨E1, w1, R1, X1, _, hrun1⟩ := cop_ok hP R h hc
 have : w1 = w' := by
  rw [hrun1] at hrun
  exact (Result.ok.inj hrun).2
 exact (cop_evs' hP R h hc).ok H hlo (by rw [← this]; exact X1.hsize)
end
end Go.Eng
