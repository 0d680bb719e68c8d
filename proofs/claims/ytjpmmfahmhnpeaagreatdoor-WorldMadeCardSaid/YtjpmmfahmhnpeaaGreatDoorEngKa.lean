/-
  The engine, part Ka: what a part of memory becomes by an operation that sees only some of it.
-/
import Derived.Test.YtjpmmfahmhnpeaaGreatDoorEngJ
namespace Go.Eng
set_option linter.unusedSimpArgs false
set_option linter.unusedVariables false

/-! ### A tree with given leaves -/
def Tr.ofFn (n : Nat) (g : Nat → Option CB) : Tr CB :=
  match n with
  | 0 => .e
  | m + 1 => .nd (g 0) (Tr.ofFn ((m + 1) / 2) fun k => g (2 * k + 1)) (Tr.ofFn (m / 2) fun k => g (2 * k + 2))
  termination_by n
  decreasing_by all_goals omega
theorem Tr.full_ofFn (n : Nat) (g : Nat → Option CB) : (Tr.ofFn n g).Full n := by
  induction n using Nat.strongRecOn generalizing g with
  | _ n ih =>
    cases n with
    | zero => rw [Tr.ofFn]; rfl
    | succ m =>
      rw [Tr.ofFn]
      exact ⟨m, rfl, ih _ (by omega) _, ih _ (by omega) _⟩
theorem Tr.get_ofFn (n : Nat) : ∀ (g : Nat → Option CB) (k : Nat), k < n → (Tr.ofFn n g).get k = g k := by
  induction n using Nat.strongRecOn with
  | _ n ih =>
    intro g k hk
    cases n with
    | zero => omega
    | succ m =>
      rw [Tr.ofFn]
      cases k with
      | zero => rfl
      | succ k =>
        rw [Tr.get_succ]
        split
        · rw [ih _ (by omega) _ _ (by omega)]
          congr 1
          omega
        · rw [ih _ (by omega) _ _ (by omega)]
          congr 1
          omega
def CH.ofFn (sz : Nat) (g : Nat → Option CB) : CH := ⟨sz, 0, 0, Tr.ofFn sz g⟩
theorem CH.ok_ofFn {sz : Nat} (g : Nat → Option CB) : (CH.ofFn sz g).Ok := ⟨Nat.zero_le _, Tr.full_ofFn _ _⟩
theorem CH.get_ofFn {sz : Nat} (g : Nat → Option CB) {k : Nat} (hk : k < sz) : (CH.ofFn sz g).get k = g k := by
  exact Tr.get_ofFn _ _ _ hk

/-! ### From one state to a later one, without a word on which blocks were laid -/
structure Wx (E : Env) (N : CH) (w : World) (E' : Env) (N' : CH) (w' : World) : Prop where
  mono : ∀ k, E.D k → E'.D k ∧ E'.f k = E.f k ∧ E'.x k = E.x k ∧ E'.s k = E.s k
  hsize : w.heap.size ≤ w'.heap.size
  fresh : ∀ k, E'.D k → E.D k ∨ w.heap.size ≤ E'.f k ∨ ∃ j, E.D j ∧ N.live j ∧ ¬ N'.live j ∧ E'.f k = E.f j
  dead : ∀ k, E.D k → N'.live k → N.live k
  frame : ∀ b, b < w.heap.size → (∀ k, E.D k → N.live k → E.f k ≠ b) → w'.heap[b]? = w.heap[b]?
  os : w'.os = w.os
  tape : w'.tape = w.tape
  output : w'.output = w.output
  op : E'.o = E.o
theorem Wx.refl (E : Env) (N : CH) (w : World) : Wx E N w E N w := ⟨fun _ h => ⟨h, rfl, rfl, rfl⟩, Nat.le_refl _, fun _ h => .inl h, fun _ _ h => h, fun _ _ _ => rfl, rfl, rfl, rfl, rfl⟩
theorem Ext.wx {E E' : Env} {N N' : CH} {w w' : World} (h : Ext E N w E' N' w') : Wx E N w E' N' w' := ⟨h.mono, h.hsize, h.fresh, h.dead, h.frame, h.os, h.tape, h.output, h.op⟩
theorem Wx.trans {E E1 E2 : Env} {N N1 N2 : CH} {w w1 w2 : World} (h : Wx E N w E1 N1 w1) (g : Wx E1 N1 w1 E2 N2 w2) : Wx E N w E2 N2 w2 where
  mono k hk := by
    obtain ⟨a, b, c, d⟩ := h.mono k hk
    obtain ⟨a', b', c', d'⟩ := g.mono k a
    exact ⟨a', b'.trans b, c'.trans c, d'.trans d⟩
  hsize := Nat.le_trans h.hsize g.hsize
  fresh k hk := by
    rcases g.fresh k hk with h1 | h1 | ⟨j, h1, h2, hx, h3⟩
    · rcases h.fresh k h1 with h4 | h4 | ⟨j, h4, h5, hy, h6⟩
      · exact .inl h4
      · exact .inr (.inl (by rw [(g.mono k h1).2.1]; exact h4))
      · exact .inr (.inr ⟨j, h4, h5, fun hl => hy (g.dead j (h.mono j h4).1 hl), by rw [(g.mono k h1).2.1]; exact h6⟩)
    · exact .inr (.inl (Nat.le_trans h.hsize h1))
    · rcases h.fresh j h1 with h4 | h4 | ⟨i, h4, h5, hy, h6⟩
      · exact .inr (.inr ⟨j, h4, h.dead j h4 h2, hx, by rw [h3, (h.mono j h4).2.1]⟩)
      · exact .inr (.inl (by rw [h3]; exact h4))
      · exact .inr (.inr ⟨i, h4, h5, fun hl => hy (g.dead i (h.mono i h4).1 hl), by rw [h3, h6]⟩)
  dead k hk hl := h.dead k hk (g.dead k (h.mono k hk).1 hl)
  frame b hb hn := by
    rw [g.frame b (Nat.lt_of_lt_of_le hb h.hsize) ?_, h.frame b hb hn]
    intro k hk hl e
    rcases h.fresh k hk with h1 | h1 | ⟨j, h1, h2, _, h3⟩
    · exact hn k h1 (h.dead k h1 hl) (by rw [← (h.mono k h1).2.1]; exact e)
    · omega
    · exact hn j h1 h2 (by rw [← h3]; exact e)
  os := g.os.trans h.os
  tape := g.tape.trans h.tape
  output := g.output.trans h.output
  op := g.op.trans h.op

/-- Only what the blocks hold counts. -/
theorem Rel.congr {P : Program} {E : Env} {N M : CH} {w : World} (R : Rel P E N w) (hM : M.Ok) (hd : ∀ k, E.D k → k < M.sz) (h : ∀ k, E.D k → M.get k = N.get k) : Rel P E M w := by
  have hl : ∀ k, E.D k → M.live k → N.live k := fun k hk ⟨b, hb, hd⟩ => ⟨b, by rw [← h k hk]; exact hb, hd⟩
  exact ⟨hM, R.gl, hd, fun i j hi hj li lj e => R.inj i j hi hj (hl i hi li) (hl j hj lj) e, fun k b hk hb => R.blk k b hk (by rw [← h k hk]; exact hb)⟩
theorem Wx.congr {E E' : Env} {N N' M M' : CH} {w w' : World} (X : Wx E N w E' N' w') (h : ∀ k, E.D k → M.get k = N.get k) (h' : ∀ k, E.D k → M'.get k = N'.get k) : Wx E M w E' M' w' := by
  have hl : ∀ k, E.D k → (M.live k ↔ N.live k) := fun k hk => by unfold CH.live; rw [h k hk]
  have hl' : ∀ k, E.D k → (M'.live k ↔ N'.live k) := fun k hk => by unfold CH.live; rw [h' k hk]
  refine ⟨X.mono, X.hsize, fun k hk => ?_, fun k hk hh => (hl k hk).2 (X.dead k hk ((hl' k hk).1 hh)), fun b hb hn => X.frame b hb (fun k hk hh => hn k hk ((hl k hk).2 hh)), X.os, X.tape, X.output, X.op⟩
  rcases X.fresh k hk with h1 | h1 | ⟨j, h1, h2, h3, h4⟩
  · exact .inl h1
  · exact .inr (.inl h1)
  · exact .inr (.inr ⟨j, h1, (hl j h1).2 h2, fun hh => h3 ((hl' j h1).1 hh), h4⟩)

/-- What a block's values name. -/
def CBClo (D : Nat → Prop) : CB → Prop
  | .row c _ _ => ∀ v ∈ c, Clo D v
  | .map es _ => ∀ e ∈ es, Clo D e.2.1
  | .loop l => (∀ v ∈ l.tmps.toList, Clo D v) ∧ D l.defers
  | .miter r _ _ _ => ∀ k, r = some k → D k
  | _ => True
theorem BlkRel.clo {P : Program} {E : Env} {k : Nat} {b : CB} {o : Option Obj} (h : BlkRel P E k b o) : CBClo E.D b := by
  cases b with
  | row c e el => exact h.1
  | map es cl => exact fun e he => (h.1 e he).2
  | loop l => exact h.1
  | miter r a b c => exact h.1
  | _ => trivial

mutual
theorem Clo_and {D D' : Nat → Prop} : ∀ v : Value, Clo D v → Clo D' v → Clo (fun k => D k ∧ D' k) v
  | .bool _, _, _ => trivial
  | .int _ _, _, _ => trivial
  | .float _ _, _, _ => trivial
  | .complex _ _ _, _, _ => trivial
  | .string _, _, _ => trivial
  | .pointer none, _, _ => trivial
  | .pointer (some _), c, c' => ⟨⟨c.1, c'.1⟩, c.2⟩
  | .slice none _ _, _, _ => trivial
  | .slice (some _) _ _, c, c' => ⟨c, c'⟩
  | .map none, _, _ => trivial
  | .map (some _), c, c' => ⟨c, c'⟩
  | .chan none, _, _ => trivial
  | .chan (some _), _, _ => trivial
  | .func g ⟨p⟩ ⟨q⟩, c, c' => ⟨by
      have h1 := c.1
      have h2 := c'.1
      cases g <;> simp_all, CloL_and p c.2.1 c'.2.1, CloL_and q c.2.2 c'.2.2⟩
  | .nilFunc, _, _ => trivial
  | .iface t v, c, c' => Clo_and v c c'
  | .nilIface, _, _ => trivial
  | .agg ⟨cs⟩, c, c' => CloL_and cs c c'
  | .tuple ⟨vs⟩, c, c' => CloL_and vs c c'
theorem CloL_and {D D' : Nat → Prop} : ∀ l : List Value, CloL D l → CloL D' l → CloL (fun k => D k ∧ D' k) l
  | [], _, _ => trivial
  | v :: l, c, c' => ⟨Clo_and v c.1 c'.1, CloL_and l c.2 c'.2⟩
end
theorem CBClo.and {D D' : Nat → Prop} {b : CB} (h : CBClo D b) (h' : CBClo D' b) : CBClo (fun k => D k ∧ D' k) b := by
  cases b with
  | row c e el => exact fun v hv => Clo_and v (h v hv) (h' v hv)
  | map es cl => exact fun e he => Clo_and _ (h e he) (h' e he)
  | loop l => exact ⟨fun v hv => Clo_and v (h.1 v hv) (h'.1 v hv), h.2, h'.2⟩
  | miter r a b c => exact fun k hk => ⟨h k hk, h' k hk⟩
  | _ => trivial

/-- Fewer blocks realized: the relation of a block stays, if all that it names is still there. -/
theorem BlkRel.less {P : Program} {E : Env} {D' : Nat → Prop} {k : Nat} {b : CB} {o : Option Obj} (h : BlkRel P E k b o) (hc : CBClo D' b) : BlkRel P { E with D := D' } k b o := by
  cases b with
  | row c e el => exact ⟨hc, h.2⟩
  | map es cl => exact ⟨fun e he => ⟨(h.1 e he).1, hc e he⟩, h.2⟩
  | loop l => exact ⟨hc, h.2⟩
  | miter r a b c => exact ⟨hc, h.2⟩
  | dfr => exact h
  | iter s pos => exact h
  | dead => trivial

/-- E with the values of E'' at what is new. -/
noncomputable def Env.glue (E E'' : Env) (new : Nat → Prop) : Env :=
  open Classical in { E with f := fun k => if new k then E''.f k else E.f k, x := fun k => if new k then E''.x k else E.x k, s := fun k => if new k then E''.s k else E.s k, D := fun k => E.D k ∨ new k }

theorem Rel.lt_size {P : Program} {E : Env} {N : CH} {w : World} (R : Rel P E N w) {k : Nat} (hk : E.D k) (hl : N.live k) : E.f k < w.heap.size := by
  obtain ⟨b, hb, hd⟩ := hl
  have hB := R.blk k b hk hb
  rcases Nat.lt_or_ge (E.f k) w.heap.size with h | h
  · exact h
  · rw [Array.getElem?_eq_none h] at hB
    rw [hB.some] at hd
    cases hd

/-- An operation sees a part of the memory (those blocks of D' for which Vis holds) through a heap of its own; the rest is as it was. -/
theorem recombine {P : Program} {E E'' : Env} {M N N'' M' : CH} {w w'' : World} {D' Vis : Nat → Prop} (R : Rel P E M w) (hsub : ∀ k, D' k → E.D k)
    (hvis : ∀ k, D' k → Vis k → N.get k = M.get k) (hinv : ∀ k, D' k → ¬ Vis k → N.get k = none)
    (R'' : Rel P E'' N'' w'') (X : Ext { E with D := D' } N w E'' N'' w'')
    (hdisj : ∀ k, E.D k → ¬ (N.sz ≤ k ∧ k < N''.sz)) (hM' : M'.Ok) (hsz : ∀ k, E.D k ∨ (N.sz ≤ k ∧ k < N''.sz) → k < M'.sz)
    (hnew : ∀ k, N.sz ≤ k → k < N''.sz → M'.get k = N''.get k) (hold : ∀ k, D' k → Vis k → M'.get k = N''.get k) (hrest : ∀ k, E.D k → ¬ (D' k ∧ Vis k) → M'.get k = M.get k) :
    ∃ E', Rel P E' M' w'' ∧ Wx E M w E' M' w'' ∧ (∀ k, E'.D k ↔ E.D k ∨ (N.sz ≤ k ∧ k < N''.sz)) ∧ (∀ v, Clo E''.D v → Clo E'.D v ∧ E'.m v = E''.m v) := by
  classical
  refine ⟨E.glue E'' (fun k => N.sz ≤ k ∧ k < N''.sz), ?_⟩
  generalize hE' : E.glue E'' (fun k => N.sz ≤ k ∧ k < N''.sz) = E'
  have hDn : ∀ k, E'.D k ↔ E.D k ∨ (N.sz ≤ k ∧ k < N''.sz) := by intro k; subst hE'; rfl
  have hop0 : E'.o = E.o := by subst hE'; rfl
  have hop : E'.o = E''.o := by rw [hop0, X.op]
  have hfo : ∀ k, E.D k → E'.f k = E.f k ∧ E'.x k = E.x k ∧ E'.s k = E.s k := by
    intro k hk
    have := hdisj k hk
    subst hE'
    simp [Env.glue, this]
  have hfn : ∀ k, N.sz ≤ k ∧ k < N''.sz → E'.f k = E''.f k ∧ E'.x k = E''.x k ∧ E'.s k = E''.s k := by
    intro k hk
    subst hE'
    simp [Env.glue, hk]
  -- what the operation's outcome realizes
  have hD'' : ∀ k, E''.D k ↔ D' k ∨ (N.sz ≤ k ∧ k < N''.sz) := by
    intro k
    constructor
    · intro h
      rcases X.new k h with h1 | h1
      · exact .inl h1
      · exact .inr h1
    · rintro (h | h)
      · exact (X.mono k h).1
      · exact X.all k h.1 h.2
  have hf'' : ∀ k, E''.D k → E'.D k ∧ E'.f k = E''.f k ∧ E'.x k = E''.x k ∧ E'.s k = E''.s k := by
    intro k hk
    rcases (hD'' k).1 hk with h | h
    · obtain ⟨_, a, b, c⟩ := X.mono k h
      obtain ⟨a', b', c'⟩ := hfo k (hsub k h)
      exact ⟨(hDn k).2 (.inl (hsub k h)), a'.trans a.symm, b'.trans b.symm, c'.trans c.symm⟩
    · exact ⟨(hDn k).2 (.inr h), hfn k h⟩
  have hclo : ∀ v, Clo E''.D v → Clo E'.D v ∧ E'.m v = E''.m v := fun v hv => ⟨Clo_mono (fun k hk => (hf'' k hk).1) v hv, mv_ext hop (fun k hk => (hf'' k hk).2) v hv⟩
  have hclo0 : ∀ v, Clo E.D v → Clo E'.D v ∧ E'.m v = E.m v := fun v hv => ⟨Clo_mono (fun k hk => (hDn k).2 (.inl hk)) v hv, mv_ext hop0 (fun k hk => hfo k hk) v hv⟩
  -- what is live in the operation's heap is live in the whole one
  have hlN : ∀ k, D' k → N.live k → M.live k ∧ Vis k := by
    intro k hk ⟨b, hb, hd⟩
    by_cases hv : Vis k
    · exact ⟨⟨b, by rw [← hvis k hk hv]; exact hb, hd⟩, hv⟩
    · rw [hinv k hk hv] at hb; cases hb
  -- the rest keeps its contents
  have hkeep : ∀ k, E.D k → ¬ (D' k ∧ Vis k) → M.live k → w''.heap[E.f k]? = w.heap[E.f k]? := by
    intro k hk hn hl
    refine X.frame _ (R.lt_size hk hl) ?_
    intro j hj hlj e
    obtain ⟨hlM, hv⟩ := hlN j hj hlj
    have := R.inj j k (hsub j hj) hk hlM hl e
    subst this
    exact hn ⟨hj, hv⟩
  -- three kinds of blocks
  have hkind : ∀ k, E'.D k → (E''.D k ∧ ((D' k ∧ Vis k) ∨ (N.sz ≤ k ∧ k < N''.sz)) ∧ M'.get k = N''.get k ∧ E'.f k = E''.f k) ∨ (E.D k ∧ ¬ (D' k ∧ Vis k) ∧ M'.get k = M.get k ∧ E'.f k = E.f k) := by
    intro k hk
    by_cases hn : N.sz ≤ k ∧ k < N''.sz
    · exact .inl ⟨(hD'' k).2 (.inr hn), .inr hn, hnew k hn.1 hn.2, (hfn k hn).1⟩
    · have hE : E.D k := ((hDn k).1 hk).resolve_right hn
      by_cases hv : D' k ∧ Vis k
      · exact .inl ⟨(hD'' k).2 (.inl hv.1), .inl hv, hold k hv.1 hv.2, (hf'' k ((hD'' k).2 (.inl hv.1))).2.1⟩
      · exact .inr ⟨hE, hv, hrest k hE hv, (hfo k hE).1⟩
  have live_eq : ∀ {A B : CH} {k}, A.get k = B.get k → A.live k → B.live k := fun h ⟨b, hb, hd⟩ => ⟨b, by rw [← h]; exact hb, hd⟩
  -- no clash between the outcome's blocks and the rest
  have hcross : ∀ i j, E''.D i → ((D' i ∧ Vis i) ∨ (N.sz ≤ i ∧ i < N''.sz)) → N''.live i → E.D j → ¬ (D' j ∧ Vis j) → M.live j → E''.f i ≠ E.f j := by
    intro i j hi hi2 hli hj hnj hlj e
    rcases X.fresh i hi with h | h | ⟨i', h1, h2, h3, h4⟩
    · have hl1 := X.dead i h hli
      obtain ⟨hlM, hv⟩ := hlN i h hl1
      have he : E''.f i = E.f i := (X.mono i h).2.1
      have := R.inj i j (hsub i h) hj hlM hlj (by rw [← he]; exact e)
      subst this
      exact hnj ⟨h, hv⟩
    · have := R.lt_size hj hlj
      omega
    · obtain ⟨hlM, hv⟩ := hlN i' h1 h2
      have := R.inj i' j (hsub i' h1) hj hlM hlj (by rw [← e, h4])
      subst this
      exact hnj ⟨h1, hv⟩
  refine ⟨⟨hM', fun g hg => ⟨(hDn g).2 (.inl (R.gl g hg).1), (hfo g (R.gl g hg).1).1.trans (R.gl g hg).2.1, (hfo g (R.gl g hg).1).2.2.trans (R.gl g hg).2.2⟩, ?_, ?_, ?_⟩, ⟨?_, X.hsize, ?_, ?_, ?_, X.os, X.tape, X.output, hop0⟩, hDn, hclo⟩
  · intro k hk
    exact hsz k ((hDn k).1 hk)
  · intro i j hi hj li lj e
    rcases hkind i hi with ⟨a1, a2, a3, a4⟩ | ⟨a1, a2, a3, a4⟩ <;> rcases hkind j hj with ⟨b1, b2, b3, b4⟩ | ⟨b1, b2, b3, b4⟩
    · exact R''.inj i j a1 b1 (live_eq a3 li) (live_eq b3 lj) (by rw [← a4, ← b4]; exact e)
    · exact absurd (by rw [← a4, ← b4]; exact e) (hcross i j a1 a2 (live_eq a3 li) b1 b2 (live_eq b3 lj))
    · exact absurd (by rw [← a4, ← b4]; exact e.symm) (hcross j i b1 b2 (live_eq b3 lj) a1 a2 (live_eq a3 li))
    · exact R.inj i j a1 b1 (live_eq a3 li) (live_eq b3 lj) (by rw [← a4, ← b4]; exact e)
  · intro k b hk hb
    rcases hkind k hk with ⟨a1, a2, a3, a4⟩ | ⟨a1, a2, a3, a4⟩
    · rw [a3] at hb
      rw [a4]
      obtain ⟨_, _, c, d⟩ := hf'' k a1
      exact (R''.blk k b a1 hb).mono (fun j hj => ⟨(hf'' j hj).1, (hf'' j hj).2.1⟩) (fun v hv => (hclo v hv).2) c d
    · rw [a3] at hb
      rw [a4]
      cases hd : b.isDead with
      | true => cases b <;> simp [CB.isDead] at hd; trivial
      | false =>
        rw [hkeep k a1 a2 ⟨b, hb, hd⟩]
        obtain ⟨_, c, d⟩ := hfo k a1
        exact (R.blk k b a1 hb).mono (fun j hj => ⟨(hDn j).2 (.inl hj), (hfo j hj).1⟩) (fun v hv => (hclo0 v hv).2) c d
  · intro k hk
    exact ⟨(hDn k).2 (.inl hk), hfo k hk⟩
  · intro k hk
    by_cases hE : E.D k
    · exact .inl hE
    · have hn := ((hDn k).1 hk).resolve_left hE
      right
      rw [(hfn k hn).1]
      rcases X.fresh k ((hD'' k).2 (.inr hn)) with h | h | ⟨j, h1, h2, h3, h4⟩
      · exact absurd (hsub k h) hE
      · exact .inl h
      · obtain ⟨hlM, hv⟩ := hlN j h1 h2
        exact .inr ⟨j, hsub j h1, hlM, fun hl => h3 (live_eq (hold j h1 hv) hl), h4⟩
  · intro k hk hl
    by_cases hv : D' k ∧ Vis k
    · exact (hlN k hv.1 (X.dead k hv.1 (live_eq (hold k hv.1 hv.2) hl))).1
    · exact live_eq (hrest k hk hv) hl
  · intro b hb hn
    refine X.frame b hb ?_
    intro k hk hl e
    exact hn k (hsub k hk) (hlN k hk hl).1 e

end Go.Eng
