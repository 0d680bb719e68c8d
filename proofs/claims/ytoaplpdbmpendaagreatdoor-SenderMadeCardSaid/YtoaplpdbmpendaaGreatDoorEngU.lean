/-
  The engine, part U: many goroutines: the trace. Each goroutine that is still at work has places that it may read, and among them such as it may write; what one may write no other may touch.
-/
import Derived.Test.YtoaplpdbmpendaaGreatDoorEngI
import Derived.Conc.Own
import Derived.Conc.Listed
import Derived.Conc.CrowdTrace
import Derived.Conc.CrowdBase
import Derived.Conc.Beside
set_option linter.unusedSectionVars false
set_option linter.unusedSimpArgs false
set_option linter.unusedVariables false
namespace Go.Eng
open Go.Conc
open Go.ConcN (PermW fork_knows RelBy upd upd_same upd_ne)
set_option linter.unusedSimpArgs false
set_option linter.unusedVariables false

/-- What a goroutine may touch: blocks, and single cells. -/
structure Gh where
  O : Nat → Prop
  W : Nat → Prop
  X : Addr → Prop
def Gh.ol (q : Gh) : Loc → Prop
  | .cell a => q.O a.block ∨ q.X a
  | .obj b => q.O b
  | _ => False
def Gh.wl (q : Gh) : Loc → Prop
  | .cell a => q.W a.block ∨ q.X a
  | .obj b => q.W b
  | _ => False
/-- A place in a block that was not there. -/
def fresh (B : Nat) : Loc → Prop
  | .cell a => B ≤ a.block
  | .obj b => B ≤ b
  | _ => False
theorem fresh_low {B : Nat} {l : Loc} (h : fresh B l) : ¬ l.low B := by
  cases l <;> simp only [fresh, Loc.low] at * <;> omega
theorem touch_low {B : Nat} {x : MemAct} {b : Touch} (h : x.low B) (hb : x.touch? = some b) : b.loc.low B := by
  cases x with
  | access e =>
    simp only [MemAct.touch?, Option.some.injEq] at hb
    subst hb
    exact h
  | mark m =>
    cases m <;> simp only [MemAct.touch?, Option.some.injEq, reduceCtorEq] at hb
    · subst hb; exact h
    · subst hb; exact h
  | _ => simp [MemAct.touch?] at hb
/-- What it touches lies below B. -/
def Lo (B : Nat) (x : MemAct) : Prop := ∀ b, x.touch? = some b → b.loc.low B
theorem lo_of {B : Nat} {x : MemAct} (h : x.low B) : Lo B x := fun b hb => touch_low h hb
theorem Lo.mono {B B' : Nat} (hB : B ≤ B') {x : MemAct} (h : Lo B x) : Lo B' x := fun b hb => Loc.low_mono hB (h b hb)
/-- An operation of a goroutine's own: plain touches of what it may touch, or of what is new. -/
def OkP (q : Gh) (B : Nat) (x : MemAct) : Prop := ∀ b, x.touch? = some b → b.kind = .plain ∧ (q.ol b.loc ∨ fresh B b.loc) ∧ (b.write = true → q.wl b.loc ∨ fresh B b.loc)

structure TR (Sh : Loc → Prop) (Lv : Nat → Prop) (Q : Nat → Gh) (B : Nat) (t : Trace) : Prop where
  quiet : Quiet Sh t
  wr : ∀ x, Lv x → ∀ l, (Q x).wl l → Perm t x l
  rd : ∀ x, Lv x → ∀ l, (Q x).ol l → PermW t x l
  nr : ∀ said, ¬ Race said t
  seen : ∀ op ∈ t, Lo B op.act
  lt : ∀ x, Lv x → ∀ l, (Q x).ol l → l.low B ∧ ¬ Sh l
  sub : ∀ x, Lv x → ∀ l, (Q x).wl l → (Q x).ol l
  apart : ∀ x y, Lv x → Lv y → x ≠ y → ∀ l, (Q x).wl l → ¬ (Q y).ol l
  shl : ∀ l, Sh l → l.low B

section
variable {Sh : Loc → Prop} {Lv : Nat → Prop} {Q : Nat → Gh} {B B' : Nat} {t u : Trace}
theorem TR.mono (h : TR Sh Lv Q B t) (hB : B ≤ B') : TR Sh Lv Q B' t :=
  ⟨h.quiet, h.wr, h.rd, h.nr, fun op hop => (h.seen op hop).mono hB, fun x hx l hl => ⟨Loc.low_mono hB (h.lt x hx l hl).1, (h.lt x hx l hl).2⟩, h.sub, h.apart, fun l hl => Loc.low_mono hB (h.shl l hl)⟩
theorem TR.weaken {Lv' : Nat → Prop} {Q' : Nat → Gh} (h : TR Sh Lv Q B t) (hL : ∀ x, Lv' x → Lv x ∧ (∀ l, (Q' x).wl l → (Q x).wl l ∧ (Q' x).ol l) ∧ ∀ l, (Q' x).ol l → (Q x).ol l) : TR Sh Lv' Q' B t :=
  ⟨h.quiet, fun x hx l hl => h.wr x (hL x hx).1 l ((hL x hx).2.1 l hl).1, fun x hx l hl => h.rd x (hL x hx).1 l ((hL x hx).2.2 l hl), h.nr, h.seen,
    fun x hx l hl => h.lt x (hL x hx).1 l ((hL x hx).2.2 l hl), fun x hx l hl => ((hL x hx).2.1 l hl).2,
    fun x y hx hy hne l hl hl' => h.apart x y (hL x hx).1 (hL y hy).1 hne l ((hL x hx).2.1 l hl).1 ((hL y hy).2.2 l hl'), h.shl⟩
/-- What lies in blocks that were not there nobody has touched. -/
theorem perm_fresh (h : TR Sh Lv Q B t) {x : Nat} {l : Loc} (hl : fresh B l) : Perm t x l := by
  intro i a ha he
  obtain ⟨y, hy, hya⟩ := touch_of ha
  exact absurd (he ▸ h.seen y (Array.mem_of_getElem? hy) a hya) (fresh_low hl)
/-- A step of a goroutine's own. -/
theorem TR.plain (h : TR Sh Lv Q B t) {x : Nat} (hx : Lv x) (hu : ∀ op ∈ u, op.g = x ∧ OkP (Q x) B op.act) (hl : ∀ op ∈ u, Lo B' op.act) (hB : B ≤ B') {q : Gh}
    (h1 : ∀ l, q.wl l → (Q x).wl l ∨ fresh B l) (h2 : ∀ l, q.ol l → (Q x).ol l ∨ fresh B l) (h3 : ∀ l, q.wl l → q.ol l) (h4 : ∀ l, q.ol l → l.low B') : TR Sh Lv (upd Q x q) B' (t ++ u) := by
  have hsh : ∀ l, (Q x).ol l ∨ fresh B l → ¬ Sh l := fun l hl hs => by
    rcases hl with hl | hl
    · exact (h.lt x hx l hl).2 hs
    · exact fresh_low hl (h.shl l hs)
  have hother : ∀ y, Lv y → y ≠ x → ∀ l, (Q y).ol l → ¬ ((Q x).wl l ∨ fresh B l) := fun y hy hne l hl hc => by
    rcases hc with hc | hc
    · exact h.apart x y hx hy (Ne.symm hne) l hc hl
    · exact fresh_low hc (h.lt y hy l hl).1
  have hother2 : ∀ y, Lv y → y ≠ x → ∀ l, (Q y).wl l → ¬ ((Q x).ol l ∨ fresh B l) := fun y hy hne l hl hc => by
    rcases hc with hc | hc
    · exact h.apart y x hy hx hne l hl hc
    · exact fresh_low hc (h.lt y hy l (h.sub y hy l hl)).1
  refine ⟨h.quiet.app fun op hop b hb hs => absurd hs (hsh _ ((hu op hop).2 b hb).2.1), fun y hy l hl => ?_, fun y hy l hl => ?_, fun said => ?_, fun op hop => ?_, fun y hy l hl => ?_, fun y hy l hl => ?_, fun y z hy hz hne l hl hl' => ?_, fun l hl => Loc.low_mono hB (h.shl l hl)⟩
  · by_cases e : y = x
    · subst e
      rw [upd_same] at hl
      have h0 : Perm t y l := by
        rcases h1 l hl with h5 | h5
        · exact h.wr y hx l h5
        · exact perm_fresh h h5
      exact h0.app fun op hop _ _ _ => (hu op hop).1
    · rw [upd_ne _ _ e] at hl
      refine (h.wr y hy l hl).app fun op hop b hb hbl => ?_
      exact absurd (hbl ▸ ((hu op hop).2 b hb).2.1) (hother2 y hy e l hl)
  · by_cases e : y = x
    · subst e
      rw [upd_same] at hl
      have h0 : PermW t y l := by
        rcases h2 l hl with h5 | h5
        · exact h.rd y hx l h5
        · exact .of (perm_fresh h h5)
      exact h0.app fun op hop _ _ _ _ => (hu op hop).1
    · rw [upd_ne _ _ e] at hl
      refine (h.rd y hy l hl).app fun op hop b hb hbl hbw => ?_
      exact absurd (hbl ▸ ((hu op hop).2 b hb).2.2 hbw) (hother y hy e l hl)
  · refine noRace_append (h.nr said) (fun op hop => (hu op hop).1) (fun i a ha op hop b hb hc => ?_)
    obtain ⟨_, h5, h6⟩ := (hu op hop).2 b hb
    cases hbw : b.write with
    | true =>
      rcases h6 hbw with h7 | h7
      · exact h.wr x hx b.loc h7 i a ha hc.1
      · exact perm_fresh h h7 i a ha hc.1
    | false =>
      have haw : a.write = true := hc.2.2.1.resolve_right (by simp [hbw])
      rcases h5 with h7 | h7
      · exact h.rd x hx b.loc h7 i a ha hc.1 haw
      · exact perm_fresh h h7 i a ha hc.1
  · rcases Array.mem_append.1 hop with h5 | h5
    · exact (h.seen op h5).mono hB
    · exact hl op h5
  · by_cases e : y = x
    · subst e
      rw [upd_same] at hl
      exact ⟨h4 l hl, hsh l (h2 l hl)⟩
    · rw [upd_ne _ _ e] at hl
      exact ⟨Loc.low_mono hB (h.lt y hy l hl).1, (h.lt y hy l hl).2⟩
  · by_cases e : y = x
    · subst e
      rw [upd_same] at hl ⊢
      exact h3 l hl
    · rw [upd_ne _ _ e] at hl ⊢
      exact h.sub y hy l hl
  · by_cases ey : y = x
    · subst ey
      rw [upd_same] at hl
      rw [upd_ne _ _ (Ne.symm hne)] at hl'
      exact hother z hz (Ne.symm hne) l hl' (h1 l hl)
    · rw [upd_ne _ _ ey] at hl
      by_cases ez : z = x
      · subst ez
        rw [upd_same] at hl'
        exact hother2 y hy ey l hl (h2 l hl')
      · rw [upd_ne _ _ ez] at hl'
        exact h.apart y z hy hz hne l hl hl'
/-- A step that touches shared places alone, and not plainly. -/
theorem TR.shared (h : TR Sh Lv Q B t) {x : Nat} (hu : ∀ op ∈ u, op.g = x ∧ ∀ b, op.act.touch? = some b → Sh b.loc ∧ b.kind ≠ .plain ∧ (b.kind = .said → x = 0)) (hl : ∀ op ∈ u, Lo B op.act) : TR Sh Lv Q B (t ++ u) := by
  refine ⟨h.quiet.app fun op hop b hb _ => ⟨((hu op hop).2 b hb).2.1, fun hs => (hu op hop).1.trans (((hu op hop).2 b hb).2.2 hs)⟩, fun y hy l hl => ?_, fun y hy l hl => ?_, fun said => ?_, fun op hop => ?_, h.lt, h.sub, h.apart, h.shl⟩
  · exact (h.wr y hy l hl).app fun op hop b hb hbl => absurd (hbl ▸ ((hu op hop).2 b hb).1) (h.lt y hy l (h.sub y hy l hl)).2
  · exact (h.rd y hy l hl).app fun op hop b hb hbl _ => absurd (hbl ▸ ((hu op hop).2 b hb).1) (h.lt y hy l hl).2
  · refine noRace_append (h.nr said) (fun op hop => (hu op hop).1) (fun i a ha op hop b hb hc => ?_)
    obtain ⟨h5, h6, h7⟩ := (hu op hop).2 b hb
    exact h.quiet.known h5 h6 h7 i a ha hc
  · rcases Array.mem_append.1 hop with h5 | h5
    · exact h.seen op h5
    · exact hl op h5
/-- A go statement of goroutine 0's: it hands on places. -/
theorem TR.fork (h : TR Sh Lv Q B t) (h0 : Lv 0) {c : Nat} (hc : ¬ Lv c) (hc0 : c ≠ 0) {x y : MemOp} (hx : x.g = 0 ∧ x.act = .go c) (hy : y.g = c ∧ y.act = .start) (hd0 : Deaf t 0 = 0) (hdc : Deaf t c = 0) {q0 qc : Gh}
    (a1 : ∀ l, q0.wl l → (Q 0).wl l ∧ ¬ qc.ol l) (a2 : ∀ l, q0.ol l → (Q 0).ol l ∧ ¬ qc.wl l) (a3 : ∀ l, q0.wl l → q0.ol l)
    (b1 : ∀ l, qc.wl l → (Q 0).wl l) (b2 : ∀ l, qc.ol l → (Q 0).ol l) (b3 : ∀ l, qc.wl l → qc.ol l) :
    TR Sh (fun z => Lv z ∨ z = c) (upd (upd Q 0 q0) c qc) B (t ++ #[x, y]) := by
  have hnt : ∀ op ∈ #[x, y], ∀ b, op.act.touch? = some b → False := by
    intro op hop b hb
    simp only [List.mem_toArray, List.mem_cons, List.not_mem_nil, or_false] at hop
    rcases hop with rfl | rfl
    · rw [hx.2] at hb; cases hb
    · rw [hy.2] at hb; cases hb
  have old : ∀ {i : Nat} {a : Touch}, touchAt (t ++ #[x, y]) i = some a → touchAt t i = some a := by
    intro i a ha
    obtain ⟨z, hz, hza⟩ := touch_of ha
    rcases getElem?_append_cases hz with ⟨_, hz'⟩ | ⟨_, hzu⟩
    · rw [touchAt_of hz']; exact hza
    · exact (hnt z hzu a hza).elim
  have q0e : upd (upd Q 0 q0) c qc 0 = q0 := by rw [upd_ne _ _ (Ne.symm hc0), upd_same]
  have qce : upd (upd Q 0 q0) c qc c = qc := upd_same ..
  have qe : ∀ z, z ≠ 0 → z ≠ c → upd (upd Q 0 q0) c qc z = Q z := fun z h1 h2 => by rw [upd_ne _ _ h2, upd_ne _ _ h1]
  refine ⟨h.quiet.app fun op hop b hb _ => (hnt op hop b hb).elim, fun z hz l hl => ?_, fun z hz l hl => ?_, fun said => ?_, fun op hop => ?_, fun z hz l hl => ?_, fun z hz l hl => ?_, fun y' z hy' hz hne l hl hl' => ?_, h.shl⟩
  · by_cases ec : z = c
    · subst ec
      rw [qce] at hl
      exact fun i a ha e => fork_knows hx hy hd0 hdc (h.wr 0 h0 l (b1 l hl) i a (old ha) e)
    · have hz' : Lv z := hz.resolve_right ec
      by_cases e0 : z = 0
      · subst e0
        rw [q0e] at hl
        exact (h.wr 0 h0 l (a1 l hl).1).app fun op hop b hb _ => (hnt op hop b hb).elim
      · rw [qe z e0 ec] at hl
        exact (h.wr z hz' l hl).app fun op hop b hb _ => (hnt op hop b hb).elim
  · by_cases ec : z = c
    · subst ec
      rw [qce] at hl
      exact fun i a ha e hw => fork_knows hx hy hd0 hdc (h.rd 0 h0 l (b2 l hl) i a (old ha) e hw)
    · have hz' : Lv z := hz.resolve_right ec
      by_cases e0 : z = 0
      · subst e0
        rw [q0e] at hl
        exact (h.rd 0 h0 l (a2 l hl).1).app fun op hop b hb _ _ => (hnt op hop b hb).elim
      · rw [qe z e0 ec] at hl
        exact (h.rd z hz' l hl).app fun op hop b hb _ _ => (hnt op hop b hb).elim
  · have e : t ++ #[x, y] = (t ++ #[x]) ++ #[y] := by apply Array.ext'; simp
    rw [e]
    refine noRace_append (g := c) (noRace_append (g := 0) (h.nr said) (fun op hop => by simp at hop; rw [hop]; exact hx.1) (fun i a _ op hop b hb _ => (hnt op (by simp at hop ⊢; exact .inl hop) b hb).elim))
      (fun op hop => by simp at hop; rw [hop]; exact hy.1) (fun i a _ op hop b hb _ => (hnt op (by simp at hop ⊢; exact .inr hop) b hb).elim)
  · rcases Array.mem_append.1 hop with h5 | h5
    · exact h.seen op h5
    · simp only [List.mem_toArray, List.mem_cons, List.not_mem_nil, or_false] at h5
      rcases h5 with rfl | rfl
      · intro b hb; rw [hx.2] at hb; cases hb
      · intro b hb; rw [hy.2] at hb; cases hb
  · by_cases ec : z = c
    · subst ec
      rw [qce] at hl
      exact h.lt 0 h0 l (b2 l hl)
    · have hz' : Lv z := hz.resolve_right ec
      by_cases e0 : z = 0
      · subst e0
        rw [q0e] at hl
        exact h.lt 0 h0 l (a2 l hl).1
      · rw [qe z e0 ec] at hl
        exact h.lt z hz' l hl
  · by_cases ec : z = c
    · subst ec
      rw [qce] at hl ⊢
      exact b3 l hl
    · have hz' : Lv z := hz.resolve_right ec
      by_cases e0 : z = 0
      · subst e0
        rw [q0e] at hl ⊢
        exact a3 l hl
      · rw [qe z e0 ec] at hl ⊢
        exact h.sub z hz' l hl
  · by_cases ec : y' = c
    · subst ec
      rw [qce] at hl
      have hz' : Lv z := hz.resolve_right (Ne.symm hne)
      by_cases e0 : z = 0
      · subst e0
        rw [q0e] at hl'
        exact (a2 l hl').2 hl
      · rw [qe z e0 (Ne.symm hne)] at hl'
        exact h.apart 0 z h0 hz' (Ne.symm e0) l (b1 l hl) hl'
    · have hyl : Lv y' := hy'.resolve_right ec
      by_cases ez : z = c
      · subst ez
        rw [qce] at hl'
        by_cases e0 : y' = 0
        · subst e0
          rw [q0e] at hl
          exact (a1 l hl).2 hl'
        · rw [qe y' e0 ec] at hl
          exact h.apart y' 0 hyl h0 e0 l hl (b2 l hl')
      · have hz' : Lv z := hz.resolve_right ez
        by_cases e0 : y' = 0
        · subst e0
          rw [q0e] at hl
          rw [qe z (Ne.symm hne) ez] at hl'
          exact h.apart 0 z h0 hz' hne l (a1 l hl).1 hl'
        · rw [qe y' e0 ec] at hl
          by_cases f0 : z = 0
          · subst f0
            rw [q0e] at hl'
            exact h.apart y' 0 hyl h0 e0 l hl (a2 l hl').1
          · rw [qe z f0 ez] at hl'
            exact h.apart y' z hyl hz' hne l hl hl'
end

/-! ### what the others hand over -/
structure HD (Sh : Loc → Prop) (Cur : Nat → Prop) (t : Trace) : Prop where
  kind : ∀ i a, touchAt t i = some a → a.kind = .plain ∨ Sh a.loc
  over : ∀ i g, t.g? i = some g → g ≠ 0 → ¬ Cur g → t.counts i → ∃ j, t.g? j = some 0 ∧ HappensBefore t i j
section
variable {Sh : Loc → Prop} {Cur : Nat → Prop} {t u : Trace}
/-- Operations of goroutine 0's, of one that is still at work, or such as touch nothing. -/
theorem HD.app (h : HD Sh Cur t) (hk : ∀ op ∈ u, ∀ b, op.act.touch? = some b → b.kind = .plain ∨ Sh b.loc) (ho : ∀ op ∈ u, op.g = 0 ∨ Cur op.g ∨ op.act.touch? = none) : HD Sh Cur (t ++ u) := by
  refine ⟨fun i a ha => ?_, fun i g hg hne hc hct => ?_⟩
  · obtain ⟨x, hx, hxa⟩ := touch_of ha
    rcases getElem?_append_cases hx with ⟨hi, hx'⟩ | ⟨_, hxu⟩
    · exact h.kind i a (by rw [touchAt_of hx']; exact hxa)
    · exact hk x hxu a hxa
  · have hct' := hct
    obtain ⟨x, hx, _⟩ := hct
    obtain ⟨op, hop, hox⟩ := touch_of hx
    rcases getElem?_append_cases hop with ⟨hi, hop'⟩ | ⟨_, hopu⟩
    · obtain ⟨j, hj, hb⟩ := h.over i g (by simpa [Trace.g?, getElem?_append_old hi] using hg) hne hc ((counts_old hi).1 hct')
      have hjl : j < t.size := by
        unfold Trace.g? at hj
        obtain ⟨z, hz, _⟩ := Option.map_eq_some_iff.1 hj
        exact lt_size_of_getElem? hz
      exact ⟨j, by simpa [Trace.g?, getElem?_append_old hjl] using hj, hb_app u hb⟩
    · have hgo : op.g = g := by simpa [Trace.g?, hop] using hg
      rcases ho op hopu with h0 | h0 | h0
      · exact absurd (hgo ▸ h0) hne
      · exact absurd (hgo ▸ h0) hc
      · rw [h0] at hox; cases hox
theorem HD.mono {Sh' : Loc → Prop} {Cur' : Nat → Prop} (h : HD Sh Cur t) (h1 : ∀ l, Sh l → Sh' l) (h2 : ∀ g, Cur g → Cur' g) : HD Sh' Cur' t :=
  ⟨fun i a ha => (h.kind i a ha).imp id (h1 _), fun i g hg hne hc => h.over i g hg hne fun hh => hc (h2 g hh)⟩
/-- All is handed over: goroutine 0 may touch whatever is not shared. -/
theorem HD.perm (h : HD Sh (fun _ => False) t) {l : Loc} (hm : l.isMemory = true) (hs : ¬ Sh l) : Perm t 0 l := by
  intro i a ha hl
  obtain ⟨x, hx, hxa⟩ := touch_of ha
  by_cases h0 : x.g = 0
  · have := knows_own hx
    rwa [h0] at this
  · have hk : a.kind = .plain := (h.kind i a ha).resolve_right (fun hh => hs (hl ▸ hh))
    obtain ⟨j, hj, hb⟩ := h.over i x.g (by simp [Trace.g?, hx]) h0 id ⟨a, by simp [Trace.act?, hx, hxa], by rw [hl]; exact hm, .inl (by rw [hk]; simp)⟩
    obtain ⟨z, hz, hzg⟩ := Option.map_eq_some_iff.1 hj
    exact ⟨j, z, hz, hzg, .inr hb⟩
end
theorem ofEvents_g {x : Nat} {fn : FuncId} {pos : String} {es : Array Event} : ∀ op ∈ MemOp.ofEvents x fn pos es, op.g = x := fun op hop => by
  obtain ⟨e, _, rfl⟩ := Go.Conc.mem_ofEvents hop
  rfl
/-- The goroutines' operations bear numbers that are there. -/
def Numbered (n : Nat) (t : Trace) : Prop := ∀ op ∈ t, op.g < n
theorem Numbered.app {n : Nat} {t u : Trace} (h : Numbered n t) (hu : ∀ op ∈ u, op.g < n) : Numbered n (t ++ u) := fun op hop => (Array.mem_append.1 hop).elim (h op) (hu op)
theorem Numbered.deaf {n : Nat} {t : Trace} (h : Numbered n t) {j : Nat} (hj : n ≤ j) : Deaf t j = 0 :=
  Go.ConcN.Deaf_absent fun i op hi e => by
    have := h op (Array.mem_of_getElem? hi)
    omega

/-- Goroutine 0 at work; all others only leave. -/
structure BS (P : Program) (Sh : Loc → Prop) (O W : Nat → Prop) (gs : Array Goroutine) (w : World) (t : Trace) (q : Nat → Nat) : Prop where
  old : ∀ i g, 0 < i → gs[i]? = some g → QuitsD P (q i) (Deaf t i) g
  tr : TR Sh (fun x => x = 0) (fun _ => ⟨O, W, fun _ => False⟩) w.heap.size t
  hd : HD Sh (fun _ => False) t
  hears : Deaf t 0 = 0
  nums : Numbered gs.size t
abbrev KP := (Nat → Prop) → (Nat → Prop) → Goroutine → World → Prop
/-- Every machine in which g is goroutine 0 and all others only leave comes to another such, of which Φ. -/
def Comes (P : Program) (Φ : KP) (O W : Nat → Prop) (g : Goroutine) (w : World) : Prop :=
  ∀ (Sh : Loc → Prop) (gs : Array Goroutine) (sl : Option (Nat × Nat)) (t : Trace) (q : Nat → Nat), gs[0]? = some g → BS P Sh O W gs w t q →
    ∃ (N : Nat) (Sh' : Loc → Prop) (gs' : Array Goroutine) (g' : Goroutine) (w' : World) (sl' : Option (Nat × Nat)) (t' : Trace) (q' : Nat → Nat) (O' W' : Nat → Prop),
      runNT P N (crowd gs w sl) t = (.next (crowd gs' w' sl'), t') ∧ gs'[0]? = some g' ∧ BS P Sh' O' W' gs' w' t' q' ∧ Φ O' W' g' w'
/-- Alone, nothing having been done. -/
theorem BS.solo {P : Program} {O W : Nat → Prop} {g : Goroutine} {w : World} (hwo : ∀ b, W b → O b) (hl : ∀ b, O b → b < w.heap.size) : BS P (fun _ => False) O W #[g] w #[] (fun _ => 0) := by
  refine ⟨fun i x hi hx => ?_, ⟨fun i op x hi => by simp at hi, fun x _ l _ i a ha => by simp [touchAt, Trace.act?] at ha, fun x _ l _ i a ha => by simp [touchAt, Trace.act?] at ha, fun said => ?_, fun op hop => by simp at hop, fun x _ l hl' => ⟨?_, id⟩, fun x _ l hl' => ?_, fun x y hx hy hne => absurd (hx.trans hy.symm) hne, fun l h => h.elim⟩,
    ⟨fun i a ha => by simp [touchAt, Trace.act?] at ha, fun i g hg => by simp [Trace.g?] at hg⟩, rfl, fun op hop => by simp at hop⟩
  · have := (Array.getElem?_eq_some_iff.1 hx).1
    simp at this
    omega
  · rintro ⟨i, j, _, ⟨a, b, ha, _⟩, _⟩
    simp [Trace.act?] at ha
  · cases l with
    | cell c => exact hl _ (hl'.resolve_right id)
    | obj b => exact hl _ hl'
    | _ => trivial
  · cases l with
    | cell c => exact .inl (hwo _ (hl'.resolve_right id))
    | obj b => exact hwo _ hl'
    | _ => exact hl'.elim
end Go.Eng

