/-
  The engine, part Ka: what a part of memory becomes by an operation that sees only some of it.
-/
import Derived.Test.YtoaplpdbmpendaaGreatDoorEngJ
set_option linter.unusedSectionVars false
set_option linter.unusedSimpArgs false
set_option linter.unusedVariables false
namespace Go.Eng
set_option linter.unusedSimpArgs false
set_option linter.unusedVariables false
set_option linter.unusedSectionVars false
variable [Hk]

/-! ### A tree with given leaves -/
def Tr.ofFn (n : Nat) (g : Nat → Option CB) : Tr CB :=
  match n with
  | 0 => .e
  | m + 1 => .nd (g 0) (Tr.ofFn ((m + 1) / 2) fun k => g (2 * k + 1)) (Tr.ofFn (m / 2) fun k => g (2 * k + 2))
  termination_by n
  decreasing_by all_goals omega
theorem Tr.full_ofFn (n : Nat) (g : Nat → Option CB) : (Tr.ofFn n g).Full n := by
  induction n using Nat.strongRecOn generalizing g with
  | _ n ih =>
    cases n with
    | zero => rw [Tr.ofFn]; rfl
    | succ m =>
      rw [Tr.ofFn]
      exact ⟨m, rfl, ih _ (by omega) _, ih _ (by omega) _⟩
theorem Tr.get_ofFn (n : Nat) : ∀ (g : Nat → Option CB) (k : Nat), k < n → (Tr.ofFn n g).get k = g k := by
  induction n using Nat.strongRecOn with
  | _ n ih =>
    intro g k hk
    cases n with
    | zero => omega
    | succ m =>
      rw [Tr.ofFn]
      cases k with
      | zero => rfl
      | succ k =>
        rw [Tr.get_succ]
        split
        · rw [ih _ (by omega) _ _ (by omega)]
          congr 1
          omega
        · rw [ih _ (by omega) _ _ (by omega)]
          congr 1
          omega
def CH.ofFn (sz : Nat) (g : Nat → Option CB) : CH := ⟨sz, 0, 0, Tr.ofFn sz g⟩
theorem CH.ok_ofFn {sz : Nat} (g : Nat → Option CB) : (CH.ofFn sz g).Ok := ⟨Nat.zero_le _, Tr.full_ofFn _ _⟩
theorem CH.get_ofFn {sz : Nat} (g : Nat → Option CB) {k : Nat} (hk : k < sz) : (CH.ofFn sz g).get k = g k := by
  exact Tr.get_ofFn _ _ _ hk

/-! ### From one state to a later one, without a word on which blocks were laid -/
structure Wx (O : Nat → Prop) (E : Env) (N : CH) (w : World) (E' : Env) (N' : CH) (w' : World) : Prop where
  mono : ∀ k, E.D k → E'.D k ∧ E'.f k = E.f k ∧ E'.x k = E.x k ∧ E'.s k = E.s k
  hsize : w.heap.size ≤ w'.heap.size
  fresh : ∀ k, E'.D k → E.D k ∨ w.heap.size ≤ E'.f k ∨ ∃ j, E.D j ∧ N.live j ∧ ¬ N'.live j ∧ E'.f k = E.f j
  dead : ∀ k, E.D k → N'.live k → N.live k
  frame : ∀ b, O b → b < w.heap.size → (∀ k, E.D k → N.live k → E.f k ≠ b) → w'.heap[b]? = w.heap[b]?
  os : w'.os = w.os
  tape : w'.tape = w.tape
  output : w'.output = w.output
  op : E'.o = E.o
theorem Wx.refl (O : Nat → Prop) (E : Env) (N : CH) (w : World) : Wx O E N w E N w := ⟨fun _ h => ⟨h, rfl, rfl, rfl⟩, Nat.le_refl _, fun _ h => .inl h, fun _ _ h => h, fun _ _ _ _ => rfl, rfl, rfl, rfl, rfl⟩
theorem Wx.weaken {O O' : Nat → Prop} {E E' : Env} {N N' : CH} {w w' : World} (h : Wx O E N w E' N' w') (hs : ∀ b, O' b → O b) : Wx O' E N w E' N' w' := ⟨h.mono, h.hsize, h.fresh, h.dead, fun b hb => h.frame b (hs b hb), h.os, h.tape, h.output, h.op⟩
theorem ExtC.wx {O : Nat → Prop} {E E' : Env} {N N' : CH} {w w' : World} (h : ExtC O E N w E' N' w') : Wx O E N w E' N' w' := ⟨h.mono, h.hsize, h.fresh, h.dead, h.frame, h.os, h.tape, h.output, h.op⟩
theorem Wx.trans {O O1 : Nat → Prop} {E E1 E2 : Env} {N N1 N2 : CH} {w w1 w2 : World} (h : Wx O E N w E1 N1 w1) (g : Wx O1 E1 N1 w1 E2 N2 w2) (hO : ∀ b, O b → O1 b) : Wx O E N w E2 N2 w2 where
  mono k hk := by
    obtain ⟨a, b, c, d⟩ := h.mono k hk
    obtain ⟨a', b', c', d'⟩ := g.mono k a
    exact ⟨a', b'.trans b, c'.trans c, d'.trans d⟩
  hsize := Nat.le_trans h.hsize g.hsize
  fresh k hk := by
    rcases g.fresh k hk with h1 | h1 | ⟨j, h1, h2, hx, h3⟩
    · rcases h.fresh k h1 with h4 | h4 | ⟨j, h4, h5, hy, h6⟩
      · exact .inl h4
      · exact .inr (.inl (by rw [(g.mono k h1).2.1]; exact h4))
      · exact .inr (.inr ⟨j, h4, h5, fun hl => hy (g.dead j (h.mono j h4).1 hl), by rw [(g.mono k h1).2.1]; exact h6⟩)
    · exact .inr (.inl (Nat.le_trans h.hsize h1))
    · rcases h.fresh j h1 with h4 | h4 | ⟨i, h4, h5, hy, h6⟩
      · exact .inr (.inr ⟨j, h4, h.dead j h4 h2, hx, by rw [h3, (h.mono j h4).2.1]⟩)
      · exact .inr (.inl (by rw [h3]; exact h4))
      · exact .inr (.inr ⟨i, h4, h5, fun hl => hy (g.dead i (h.mono i h4).1 hl), by rw [h3, h6]⟩)
  dead k hk hl := h.dead k hk (g.dead k (h.mono k hk).1 hl)
  frame b hb' hb hn := by
    rw [g.frame b (hO b hb') (Nat.lt_of_lt_of_le hb h.hsize) ?_, h.frame b hb' hb hn]
    intro k hk hl e
    rcases h.fresh k hk with h1 | h1 | ⟨j, h1, h2, _, h3⟩
    · exact hn k h1 (h.dead k h1 hl) (by rw [← (h.mono k h1).2.1]; exact e)
    · omega
    · exact hn j h1 h2 (by rw [← h3]; exact e)
  os := g.os.trans h.os
  tape := g.tape.trans h.tape
  output := g.output.trans h.output
  op := g.op.trans h.op

/-- Only what the blocks hold counts. -/
theorem Rel.congr {P : Program} {E : Env} {N M : CH} {w : World} (R : Rel P E N w) (hM : M.Ok) (hd : ∀ k, E.D k → k < M.sz) (h : ∀ k, E.D k → M.get k = N.get k) : Rel P E M w := by
  have hl : ∀ k, E.D k → M.live k → N.live k := fun k hk ⟨b, hb, hd⟩ => ⟨b, by rw [← h k hk]; exact hb, hd⟩
  exact ⟨hM, R.gl, hd, fun i j hi hj li lj e => R.inj i j hi hj (hl i hi li) (hl j hj lj) e, fun k b hk hb => R.blk k b hk (by rw [← h k hk]; exact hb)⟩
theorem Wx.congr {O : Nat → Prop} {E E' : Env} {N N' M M' : CH} {w w' : World} (X : Wx O E N w E' N' w') (h : ∀ k, E.D k → M.get k = N.get k) (h' : ∀ k, E.D k → M'.get k = N'.get k) : Wx O E M w E' M' w' := by
  have hl : ∀ k, E.D k → (M.live k ↔ N.live k) := fun k hk => by unfold CH.live; rw [h k hk]
  have hl' : ∀ k, E.D k → (M'.live k ↔ N'.live k) := fun k hk => by unfold CH.live; rw [h' k hk]
  refine ⟨X.mono, X.hsize, fun k hk => ?_, fun k hk hh => (hl k hk).2 (X.dead k hk ((hl' k hk).1 hh)), fun b hb' hb hn => X.frame b hb' hb (fun k hk hh => hn k hk ((hl k hk).2 hh)), X.os, X.tape, X.output, X.op⟩
  rcases X.fresh k hk with h1 | h1 | ⟨j, h1, h2, h3, h4⟩
  · exact .inl h1
  · exact .inr (.inl h1)
  · exact .inr (.inr ⟨j, h1, (hl j h1).2 h2, fun hh => h3 ((hl' j h1).1 hh), h4⟩)

/-- What a block's values name. -/
def CBClo (D : Nat → Prop) : CB → Prop
  | .row c _ _ => ∀ v ∈ c, Clo D v
  | .map es _ => ∀ e ∈ es, Clo D e.2.1
  | .loop l => (∀ v ∈ l.tmps.toList, Clo D v) ∧ D l.defers
  | .miter r _ _ _ => ∀ k, r = some k → D k
  | _ => True
theorem BlkRel.clo {P : Program} {E : Env} {k : Nat} {b : CB} {o : Option Obj} (h : BlkRel P E k b o) : CBClo E.D b := by
  cases b with
  | row c e el => exact h.1
  | map es cl => exact fun e he => (h.1 e he).2
  | loop l => exact h.1
  | miter r a b c => exact h.1
  | _ => trivial

mutual
theorem Clo_and {D D' : Nat → Prop} : ∀ v : Value, Clo D v → Clo D' v → Clo (fun k => D k ∧ D' k) v
  | .bool _, _, _ => trivial
  | .int _ _, _, _ => trivial
  | .float _ _, _, _ => trivial
  | .complex _ _ _, _, _ => trivial
  | .string _, _, _ => trivial
  | .pointer none, _, _ => trivial
  | .pointer (some _), c, c' => ⟨⟨c.1, c'.1⟩, c.2⟩
  | .slice none _ _, _, _ => trivial
  | .slice (some _) _ _, c, c' => ⟨c, c'⟩
  | .map none, _, _ => trivial
  | .map (some _), c, c' => ⟨c, c'⟩
  | .chan none, _, _ => trivial
  | .chan (some _), _, _ => trivial
  | .func g ⟨p⟩ ⟨q⟩, c, c' => ⟨by
      have h1 := c.1
      have h2 := c'.1
      cases g <;> simp_all, CloL_and p c.2.1 c'.2.1, CloL_and q c.2.2 c'.2.2⟩
  | .nilFunc, _, _ => trivial
  | .iface t v, c, c' => Clo_and v c c'
  | .nilIface, _, _ => trivial
  | .agg ⟨cs⟩, c, c' => CloL_and cs c c'
  | .tuple ⟨vs⟩, c, c' => CloL_and vs c c'
theorem CloL_and {D D' : Nat → Prop} : ∀ l : List Value, CloL D l → CloL D' l → CloL (fun k => D k ∧ D' k) l
  | [], _, _ => trivial
  | v :: l, c, c' => ⟨Clo_and v c.1 c'.1, CloL_and l c.2 c'.2⟩
end
theorem CBClo.and {D D' : Nat → Prop} {b : CB} (h : CBClo D b) (h' : CBClo D' b) : CBClo (fun k => D k ∧ D' k) b := by
  cases b with
  | row c e el => exact fun v hv => Clo_and v (h v hv) (h' v hv)
  | map es cl => exact fun e he => Clo_and _ (h e he) (h' e he)
  | loop l => exact ⟨fun v hv => Clo_and v (h.1 v hv) (h'.1 v hv), h.2, h'.2⟩
  | miter r a b c => exact fun k hk => ⟨h k hk, h' k hk⟩
  | _ => trivial

/-- Fewer blocks realized: the relation of a block stays, if all that it names is still there. -/
theorem BlkRel.less {P : Program} {E : Env} {D' : Nat → Prop} {k : Nat} {b : CB} {o : Option Obj} (h : BlkRel P E k b o) (hc : CBClo D' b) : BlkRel P { E with D := D' } k b o := by
  cases b with
  | row c e el => exact ⟨hc, h.2⟩
  | map es cl => exact ⟨fun e he => ⟨(h.1 e he).1, hc e he⟩, h.2⟩
  | loop l => exact ⟨hc, h.2⟩
  | miter r a b c => exact ⟨hc, h.2⟩
  | dfr => exact h
  | iter s pos => exact h
  | dead => trivial

/-- E with the values of E'' at what is new. -/
noncomputable def Env.glue (E E'' : Env) (new : Nat → Prop) : Env :=
  open Classical in { E with f := fun k => if new k then E''.f k else E.f k, x := fun k => if new k then E''.x k else E.x k, s := fun k => if new k then E''.s k else E.s k, D := fun k => E.D k ∨ new k }

theorem Rel.lt_size {P : Program} {E : Env} {N : CH} {w : World} (R : Rel P E N w) {k : Nat} (hk : E.D k) (hl : N.live k) : E.f k < w.heap.size := by
  obtain ⟨b, hb, hd⟩ := hl
  have hB := R.blk k b hk hb
  rcases Nat.lt_or_ge (E.f k) w.heap.size with h | h
  · exact h
  · rw [Array.getElem?_eq_none h] at hB
    rw [hB.some] at hd
    cases hd

/-- An operation sees a part of the memory (those blocks of D' for which Vis holds) through a heap of its own; the rest is as it was. -/
theorem recombine {P : Program} {O : Nat → Prop} {E E'' : Env} {M N N'' M' : CH} {w w'' : World} {D' Vis : Nat → Prop} (R : Rel P E M w) (hown : ∀ k, E.D k → M.live k → O (E.f k)) (hsub : ∀ k, D' k → E.D k)
    (hvis : ∀ k, D' k → Vis k → N.get k = M.get k) (hinv : ∀ k, D' k → ¬ Vis k → N.get k = none)
    (R'' : Rel P E'' N'' w'') (X : ExtC O { E with D := D' } N w E'' N'' w'')
    (hdisj : ∀ k, E.D k → ¬ (N.sz ≤ k ∧ k < N''.sz)) (hM' : M'.Ok) (hsz : ∀ k, E.D k ∨ (N.sz ≤ k ∧ k < N''.sz) → k < M'.sz)
    (hnew : ∀ k, N.sz ≤ k → k < N''.sz → M'.get k = N''.get k) (hold : ∀ k, D' k → Vis k → M'.get k = N''.get k) (hrest : ∀ k, E.D k → ¬ (D' k ∧ Vis k) → M'.get k = M.get k) :
    ∃ E', Rel P E' M' w'' ∧ Wx O E M w E' M' w'' ∧ (∀ k, E'.D k ↔ E.D k ∨ (N.sz ≤ k ∧ k < N''.sz)) ∧ (∀ v, Clo E''.D v → Clo E'.D v ∧ E'.m v = E''.m v) ∧
      (∀ k, E'.D k → (E''.D k ∧ M'.get k = N''.get k ∧ E'.f k = E''.f k) ∨ (E.D k ∧ M'.get k = M.get k ∧ E'.f k = E.f k)) := by
  classical
  refine ⟨E.glue E'' (fun k => N.sz ≤ k ∧ k < N''.sz), ?_⟩
  generalize hE' : E.glue E'' (fun k => N.sz ≤ k ∧ k < N''.sz) = E'
  have hDn : ∀ k, E'.D k ↔ E.D k ∨ (N.sz ≤ k ∧ k < N''.sz) := by intro k; subst hE'; rfl
  have hop0 : E'.o = E.o := by subst hE'; rfl
  have hop : E'.o = E''.o := by rw [hop0, X.op]
  have hfo : ∀ k, E.D k → E'.f k = E.f k ∧ E'.x k = E.x k ∧ E'.s k = E.s k := by
    intro k hk
    have := hdisj k hk
    subst hE'
    simp [Env.glue, this]
  have hfn : ∀ k, N.sz ≤ k ∧ k < N''.sz → E'.f k = E''.f k ∧ E'.x k = E''.x k ∧ E'.s k = E''.s k := by
    intro k hk
    subst hE'
    simp [Env.glue, hk]
  -- what the operation's outcome realizes
  have hD'' : ∀ k, E''.D k ↔ D' k ∨ (N.sz ≤ k ∧ k < N''.sz) := by
    intro k
    constructor
    · intro h
      rcases X.new k h with h1 | h1
      · exact .inl h1
      · exact .inr h1
    · rintro (h | h)
      · exact (X.mono k h).1
      · exact X.all k h.1 h.2
  have hf'' : ∀ k, E''.D k → E'.D k ∧ E'.f k = E''.f k ∧ E'.x k = E''.x k ∧ E'.s k = E''.s k := by
    intro k hk
    rcases (hD'' k).1 hk with h | h
    · obtain ⟨_, a, b, c⟩ := X.mono k h
      obtain ⟨a', b', c'⟩ := hfo k (hsub k h)
      exact ⟨(hDn k).2 (.inl (hsub k h)), a'.trans a.symm, b'.trans b.symm, c'.trans c.symm⟩
    · exact ⟨(hDn k).2 (.inr h), hfn k h⟩
  have hclo : ∀ v, Clo E''.D v → Clo E'.D v ∧ E'.m v = E''.m v := fun v hv => ⟨Clo_mono (fun k hk => (hf'' k hk).1) v hv, mv_ext hop (fun k hk => (hf'' k hk).2) v hv⟩
  have hclo0 : ∀ v, Clo E.D v → Clo E'.D v ∧ E'.m v = E.m v := fun v hv => ⟨Clo_mono (fun k hk => (hDn k).2 (.inl hk)) v hv, mv_ext hop0 (fun k hk => hfo k hk) v hv⟩
  -- what is live in the operation's heap is live in the whole one
  have hlN : ∀ k, D' k → N.live k → M.live k ∧ Vis k := by
    intro k hk ⟨b, hb, hd⟩
    by_cases hv : Vis k
    · exact ⟨⟨b, by rw [← hvis k hk hv]; exact hb, hd⟩, hv⟩
    · rw [hinv k hk hv] at hb; cases hb
  -- the rest keeps its contents
  have hkeep : ∀ k, E.D k → ¬ (D' k ∧ Vis k) → M.live k → w''.heap[E.f k]? = w.heap[E.f k]? := by
    intro k hk hn hl
    refine X.frame _ (hown k hk hl) (R.lt_size hk hl) ?_
    intro j hj hlj e
    obtain ⟨hlM, hv⟩ := hlN j hj hlj
    have := R.inj j k (hsub j hj) hk hlM hl e
    subst this
    exact hn ⟨hj, hv⟩
  -- three kinds of blocks
  have hkind : ∀ k, E'.D k → (E''.D k ∧ ((D' k ∧ Vis k) ∨ (N.sz ≤ k ∧ k < N''.sz)) ∧ M'.get k = N''.get k ∧ E'.f k = E''.f k) ∨ (E.D k ∧ ¬ (D' k ∧ Vis k) ∧ M'.get k = M.get k ∧ E'.f k = E.f k) := by
    intro k hk
    by_cases hn : N.sz ≤ k ∧ k < N''.sz
    · exact .inl ⟨(hD'' k).2 (.inr hn), .inr hn, hnew k hn.1 hn.2, (hfn k hn).1⟩
    · have hE : E.D k := ((hDn k).1 hk).resolve_right hn
      by_cases hv : D' k ∧ Vis k
      · exact .inl ⟨(hD'' k).2 (.inl hv.1), .inl hv, hold k hv.1 hv.2, (hf'' k ((hD'' k).2 (.inl hv.1))).2.1⟩
      · exact .inr ⟨hE, hv, hrest k hE hv, (hfo k hE).1⟩
  have live_eq : ∀ {A B : CH} {k}, A.get k = B.get k → A.live k → B.live k := fun h ⟨b, hb, hd⟩ => ⟨b, by rw [← h]; exact hb, hd⟩
  -- no clash between the outcome's blocks and the rest
  have hcross : ∀ i j, E''.D i → ((D' i ∧ Vis i) ∨ (N.sz ≤ i ∧ i < N''.sz)) → N''.live i → E.D j → ¬ (D' j ∧ Vis j) → M.live j → E''.f i ≠ E.f j := by
    intro i j hi hi2 hli hj hnj hlj e
    rcases X.fresh i hi with h | h | ⟨i', h1, h2, h3, h4⟩
    · have hl1 := X.dead i h hli
      obtain ⟨hlM, hv⟩ := hlN i h hl1
      have he : E''.f i = E.f i := (X.mono i h).2.1
      have := R.inj i j (hsub i h) hj hlM hlj (by rw [← he]; exact e)
      subst this
      exact hnj ⟨h, hv⟩
    · have := R.lt_size hj hlj
      omega
    · obtain ⟨hlM, hv⟩ := hlN i' h1 h2
      have := R.inj i' j (hsub i' h1) hj hlM hlj (by rw [← e, h4])
      subst this
      exact hnj ⟨h1, hv⟩
  refine ⟨⟨hM', fun g hg => ⟨(hDn g).2 (.inl (R.gl g hg).1), (hfo g (R.gl g hg).1).1.trans (R.gl g hg).2.1, (hfo g (R.gl g hg).1).2.2.trans (R.gl g hg).2.2⟩, ?_, ?_, ?_⟩, ⟨?_, X.hsize, ?_, ?_, ?_, X.os, X.tape, X.output, hop0⟩, hDn, hclo, fun k hk => (hkind k hk).imp (fun h => ⟨h.1, h.2.2⟩) (fun h => ⟨h.1, h.2.2⟩)⟩
  · intro k hk
    exact hsz k ((hDn k).1 hk)
  · intro i j hi hj li lj e
    rcases hkind i hi with ⟨a1, a2, a3, a4⟩ | ⟨a1, a2, a3, a4⟩ <;> rcases hkind j hj with ⟨b1, b2, b3, b4⟩ | ⟨b1, b2, b3, b4⟩
    · exact R''.inj i j a1 b1 (live_eq a3 li) (live_eq b3 lj) (by rw [← a4, ← b4]; exact e)
    · exact absurd (by rw [← a4, ← b4]; exact e) (hcross i j a1 a2 (live_eq a3 li) b1 b2 (live_eq b3 lj))
    · exact absurd (by rw [← a4, ← b4]; exact e.symm) (hcross j i b1 b2 (live_eq b3 lj) a1 a2 (live_eq a3 li))
    · exact R.inj i j a1 b1 (live_eq a3 li) (live_eq b3 lj) (by rw [← a4, ← b4]; exact e)
  · intro k b hk hb
    rcases hkind k hk with ⟨a1, a2, a3, a4⟩ | ⟨a1, a2, a3, a4⟩
    · rw [a3] at hb
      rw [a4]
      obtain ⟨_, _, c, d⟩ := hf'' k a1
      exact (R''.blk k b a1 hb).mono (fun j hj => ⟨(hf'' j hj).1, (hf'' j hj).2.1⟩) (fun v hv => (hclo v hv).2) c d
    · rw [a3] at hb
      rw [a4]
      cases hd : b.isDead with
      | true => cases b <;> simp [CB.isDead] at hd; trivial
      | false =>
        rw [hkeep k a1 a2 ⟨b, hb, hd⟩]
        obtain ⟨_, c, d⟩ := hfo k a1
        exact (R.blk k b a1 hb).mono (fun j hj => ⟨(hDn j).2 (.inl hj), (hfo j hj).1⟩) (fun v hv => (hclo0 v hv).2) c d
  · intro k hk
    exact ⟨(hDn k).2 (.inl hk), hfo k hk⟩
  · intro k hk
    by_cases hE : E.D k
    · exact .inl hE
    · have hn := ((hDn k).1 hk).resolve_left hE
      right
      rw [(hfn k hn).1]
      rcases X.fresh k ((hD'' k).2 (.inr hn)) with h | h | ⟨j, h1, h2, h3, h4⟩
      · exact absurd (hsub k h) hE
      · exact .inl h
      · obtain ⟨hlM, hv⟩ := hlN j h1 h2
        exact .inr ⟨j, hsub j h1, hlM, fun hl => h3 (live_eq (hold j h1 hv) hl), h4⟩
  · intro k hk hl
    by_cases hv : D' k ∧ Vis k
    · exact (hlN k hv.1 (X.dead k hv.1 (live_eq (hold k hv.1 hv.2) hl))).1
    · exact live_eq (hrest k hk hv) hl
  · intro b hb' hb hn
    refine X.frame b hb' hb ?_
    intro k hk hl e
    exact hn k (hsub k hk) (hlN k hk hl).1 e

end Go.Eng
namespace Go.Eng
set_option linter.unusedSimpArgs false
set_option linter.unusedVariables false
set_option linter.unusedSectionVars false
variable [Hk]

/-- Kinds of operations: b sees no memory but what it lays itself; q writes nothing that was there before; w may. -/
inductive Kd where
  | b | q | w
  deriving DecidableEq
structure DS where
  a : CA
  N : CH
  kd : Kd
  v : Value

def evalOp (P : Program) (R : Rec) (ev : Ev) (o : Oper) (N : CH) : Option (Value × CH) :=
  match cop P ev o N with
  | some (.val v, N') => some (v, N')
  | some (.skip, N') => some (undef, N')
  | some (.enter f args, N') => R.call f args N'
  | some (.round l f tmps as bd, N') => R.round l f tmps as bd N'
  | none => none
def cevOn (ts : List Tmp) (a : CA) : Ev
  | .tmp t => if ts.contains t = true then some (a.tmps.getD t undef) else none
  | x => cev a x
def CH.blind (n : Nat) : CH := ⟨n, n, n, .e⟩
/-- From here on it is noted how far down blocks are written. -/
def CH.guarded (N : CH) : CH := ⟨N.sz, N.sz, N.base, N.t⟩
def CH.back (N G : CH) : CH := ⟨G.sz, if G.wm < N.wm then G.wm else N.wm, G.base, G.t⟩
/-- The blocks that B has beyond N, laid in N too. -/
def merge : Nat → CH → CH → Option CH
  | 0, N, _ => some N
  | c + 1, N, B => match B.get N.sz with
    | some b => if N.fits then merge c (N.push b) B else none
    | none => none
def cstep (P : Program) (R : Rec) (ops : Array Oper) (i : Nat) (a : CA) (N : CH) : Option (Kd × Value × CH) :=
  match ops[i]? with
  | none => none
  | some o =>
    if guardSeen ops a.tmps o = false then none else
    if Region.wanted o (cyielded ops a.tmps) = true then
      match cop P (cevOn (o.looksAt ops) a) o (CH.blind N.sz) with
      | some (.val v, B) => (merge (B.sz - N.sz) N B).map fun N' => (.b, v, N')
      | _ => match evalOp P R (cevOn (o.looksAt ops) a) o N.guarded with
        | some (v, G) => if N.sz ≤ G.wm then some (.q, v, ⟨G.sz, N.wm, G.base, G.t⟩) else some (.w, v, N.back G)
        | none => none
    else some (.b, undef, N)
def dstOf (ops : Array Oper) (i : Nat) : Option Tmp := (ops[i]?).bind (·.dst)
def cruns (P : Program) (R : Rec) (ops : Array Oper) : Nat → Nat → CA → CH → Option (List DS × CA × CH)
  | 0, _, a, N => some ([], a, N)
  | m + 1, i, a, N => (cstep P R ops i a N).bind fun r => (cruns P R ops m (i + 1) (a.put (dstOf ops i) r.2.1) r.2.2).map fun x => (⟨a, N, r.1, r.2.1⟩ :: x.1, x.2)

def names (ops : Array Oper) (j : Nat) : List Tmp := match ops[j]? with
  | some o => o.dst.toList ++ o.looksAt ops
  | none => []
mutual
def veq : Value → Value → Bool
  | .bool a, .bool b => a == b
  | .int k a, .int l b => decide (k = l) && decide (a = b)
  | .string a, .string b => decide (a.data.toList = b.data.toList)
  | .pointer (some a), .pointer (some b) => decide (a.block = b.block) && decide (a.off = b.off) && decide (a.spot = b.spot)
  | .pointer none, .pointer none => true
  | .slice none l c, .slice none l' c' => decide (l = l') && decide (c = c')
  | .slice (some a) l c, .slice (some b) l' c' => decide (a.block = b.block) && decide (a.off = b.off) && decide (a.spot = b.spot) && decide (l = l') && decide (c = c')
  | .map a, .map b => decide (a = b)
  | .chan (some a), .chan (some b) => decide (a = b)
  | .nilFunc, .nilFunc => true
  | .nilIface, .nilIface => true
  | .iface t a, .iface u b => decide (t = u) && veq a b
  | .agg ⟨a⟩, .agg ⟨b⟩ => veqL a b
  | .tuple ⟨a⟩, .tuple ⟨b⟩ => veqL a b
  | _, _ => false
def veqL : List Value → List Value → Bool
  | [], [] => true
  | a :: as, b :: bs => veq a b && veqL as bs
  | _, _ => false
end
theorem bytes_eq {a b : ByteArray} (h : a.data.toList = b.data.toList) : a = b := by
  obtain ⟨⟨l⟩⟩ := a; obtain ⟨⟨l'⟩⟩ := b
  simp only at h
  rw [h]
mutual
theorem veq_ok : ∀ {a b : Value}, veq a b = true → a = b
  | .bool a, b, h => by
    cases b with
    | bool b => simp only [veq, beq_iff_eq] at h; rw [h]
    | _ => simp [veq] at h
  | .int k a, b, h => by
    cases b with
    | int l b => simp only [veq, Bool.and_eq_true, decide_eq_true_eq] at h; rw [h.1, h.2]
    | _ => simp [veq] at h
  | .float _ _, b, h => by cases b <;> simp [veq] at h
  | .complex _ _ _, b, h => by cases b <;> simp [veq] at h
  | .string a, b, h => by
    cases b with
    | string b => simp only [veq, decide_eq_true_eq] at h; rw [bytes_eq h]
    | _ => simp [veq] at h
  | .pointer none, b, h => by
    cases b with
    | pointer b => cases b <;> simp [veq] at h ⊢
    | _ => simp [veq] at h
  | .pointer (some ⟨a1, a2, a3⟩), b, h => by
    cases b with
    | pointer b =>
      cases b with
      | none => simp [veq] at h
      | some b =>
        obtain ⟨b1, b2, b3⟩ := b
        simp only [veq, Bool.and_eq_true, decide_eq_true_eq] at h
        obtain ⟨⟨rfl, rfl⟩, rfl⟩ := h
        rfl
    | _ => simp [veq] at h
  | .slice none l c, b, h => by
    cases b with
    | slice b l' c' =>
      cases b with
      | none => simp only [veq, Bool.and_eq_true, decide_eq_true_eq] at h; rw [h.1, h.2]
      | some b => simp [veq] at h
    | _ => simp [veq] at h
  | .slice (some ⟨a1, a2, a3⟩) l c, b, h => by
    cases b with
    | slice b l' c' =>
      cases b with
      | none => simp [veq] at h
      | some b =>
        obtain ⟨b1, b2, b3⟩ := b
        simp only [veq, Bool.and_eq_true, decide_eq_true_eq] at h
        obtain ⟨⟨⟨⟨rfl, rfl⟩, rfl⟩, rfl⟩, rfl⟩ := h
        rfl
    | _ => simp [veq] at h
  | .map a, b, h => by
    cases b with
    | map b => simp only [veq, decide_eq_true_eq] at h; rw [h]
    | _ => simp [veq] at h
  | .chan none, b, h => by cases b <;> simp [veq] at h
  | .chan (some a), b, h => by
    cases b with
    | chan b =>
      cases b with
      | none => simp [veq] at h
      | some b => simp only [veq, decide_eq_true_eq] at h; rw [h]
    | _ => simp [veq] at h
  | .func _ _ _, b, h => by cases b <;> simp [veq] at h
  | .nilFunc, b, h => by cases b <;> simp [veq] at h ⊢
  | .iface t a, b, h => by
    cases b with
    | iface u b => simp only [veq, Bool.and_eq_true, decide_eq_true_eq] at h; rw [h.1, veq_ok h.2]
    | _ => simp [veq] at h
  | .nilIface, b, h => by cases b <;> simp [veq] at h ⊢
  | .agg ⟨a⟩, b, h => by
    cases b with
    | agg b => obtain ⟨b⟩ := b; simp only [veq] at h; rw [veqL_ok h]
    | _ => simp [veq] at h
  | .tuple ⟨a⟩, b, h => by
    cases b with
    | tuple b => obtain ⟨b⟩ := b; simp only [veq] at h; rw [veqL_ok h]
    | _ => simp [veq] at h
theorem veqL_ok : ∀ {a b : List Value}, veqL a b = true → a = b
  | [], [], _ => rfl
  | [], _ :: _, h => by simp [veqL] at h
  | _ :: _, [], h => by simp [veqL] at h
  | a :: as, b :: bs, h => by
    simp only [veqL, Bool.and_eq_true] at h
    rw [veq_ok h.1, veqL_ok h.2]
end

def bmOf (o : Oper) (bms : List Nat) : Nat := o.after.toList.foldl (fun s e => if Region.binds .any e = true then s ||| (2 ^ e.on ||| bms.getD e.on 0) else s) 0
def force (n : Nat) {α : Type} (k : Nat → α) : α := match n with | 0 => k 0 | m + 1 => k (m + 1)
theorem force_eq (n : Nat) {α : Type} (k : Nat → α) : force n k = k n := by cases n <;> rfl
def bmsGo : List Oper → List Nat → List Nat
  | [], acc => acc
  | o :: r, acc => force (bmOf o acc) fun n => bmsGo r (acc ++ [n])
/-- i is bound to be before j. -/
def bef (bms : List Nat) (i j : Nat) : Bool := (bms.getD j 0).testBit i
def meets (x : Option Tmp) (l : List Tmp) : Bool := match x with
  | some t => l.contains t
  | none => false
def lateEval (P : Program) (R : Rec) (ops : Array Oper) (s : DS) (i : Nat) (N : CH) : Bool :=
  match ops[i]? with
  | some o => guardSeen ops s.a.tmps o && Region.wanted o (cyielded ops s.a.tmps) && match evalOp P R (cevOn (o.looksAt ops) s.a) o N.guarded with
    | some (v, N') => veq v s.v && decide (N'.sz = N.sz) && decide (N.sz ≤ N'.wm)
    | none => false
  | none => false
def isW (l : List DS) (i : Nat) : Bool := match l[i]? with
  | some s => decide (s.kd = .w)
  | none => false
/-- The operations of kind w. -/
def wsOf (l : List DS) (n : Nat) : List Nat := (List.range n).filter fun i => isW l i
def lateOk (P : Program) (R : Rec) (ops : Array Oper) (bms ws : List Nat) (l : List DS) (fin : DS) (n i : Nat) : Bool :=
  (ws ++ [n]).all fun p => !decide (i < p) ||
    !(ws.any fun u => decide (i < u) && decide (u < p)) ||
    (ws.any fun u => decide (i < u) && decide (u < p) && bef bms i u) ||
    (decide ((l.getD i fin).N.sz = (l.getD (i + 1) fin).N.sz) && lateEval P R ops (l.getD i fin) i (l.getD p fin).N)
/-- What hangs on the text alone. -/
def edgesOk (ops : Array Oper) (bms : List Nat) (n : Nat) : Bool :=
  ((List.range n).all fun j => (match ops[j]? with | some o => o.after.toList.all fun e => !Region.binds .any e || decide (e.on < j) | none => true)) &&
  ((List.range n).all fun j => (match ops[j]? with | some o => bms.getD j 0 == bmOf o bms | none => true))
def namesOk (ops : Array Oper) (bms : List Nat) (n : Nat) : Bool :=
  (List.range n).all fun j => (List.range j).all fun i => bef bms i j || (!meets (dstOf ops i) (names ops j) && !meets (dstOf ops j) (names ops i))
def textOk (ops : Array Oper) : Bool := edgesOk ops (bmsGo ops.toList []) ops.size && namesOk ops (bmsGo ops.toList []) ops.size
/-- What hangs on the kinds: there is a pair to look at only where one of them may write. -/
def kindsOk (bms : List Nat) (l : List DS) (fin : DS) (i j : Nat) : Bool :=
  bef bms i j ||
    ((!decide ((l.getD i fin).kd = .w) || decide ((l.getD j fin).kd = .b)) &&
     (!decide ((l.getD j fin).kd = .w) || !decide ((l.getD i fin).kd = .b) || decide ((l.getD i fin).N.sz = (l.getD (i + 1) fin).N.sz)))
def pairsOk (bms ws : List Nat) (l : List DS) (fin : DS) (n : Nat) : Bool :=
  ws.all fun u => (List.range n).all fun j => if j < u then kindsOk bms l fin j u else if u < j then kindsOk bms l fin u j else true
def drawOk (P : Program) (R : Rec) (ops : Array Oper) (l : List DS) (fin : DS) : Bool :=
  textOk ops &&
  ((wsOf l ops.size).isEmpty ||
    (pairsOk (bmsGo ops.toList []) (wsOf l ops.size) l fin ops.size &&
     (List.range ops.size).all fun i => !decide ((l.getD i fin).kd = .q) || lateOk P R ops (bmsGo ops.toList []) (wsOf l ops.size) l fin ops.size i))
def cdraw (P : Program) (R : Rec) (ops : Array Oper) (a : CA) (N : CH) : Option (CA × CH) :=
  match cruns P R ops ops.size 0 a N with
  | some (l, a', N') => if drawOk P R ops l ⟨a', N', .b, undef⟩ = true then some (a', N') else none
  | none => none

end Go.Eng
namespace Go.Eng
open Go.Conc (G)
set_option linter.unusedSimpArgs false
set_option linter.unusedVariables false
set_option linter.unusedSectionVars false
variable [Hk]

/-- What an operation comes to at each memory that N stands for, and at each frame that has a's temporaries where it looks. -/
def Loc (P : Program) (ops : Array Oper) (i : Nat) (o : Oper) (a : CA) (N : CH) (v : Value) (N' : CH) : Prop :=
  ∀ (main : Bool) (J : World → Prop) [Ctx main J] (lo : Nat) (E : Env) (w : World) (O W : Nat → Prop) (A : Act), lo ≤ N'.wm → Rel P E N w → Own O W lo E N w → (∀ x ∈ o.looksAt ops, A.tmps[x]? = (a.tmps[x]?).map E.m ∧ ∀ u, a.tmps[x]? = some u → Clo E.D u) →
    ∀ (b : Frame) (rest : List Nat) (k : List Item) (cs : List Frame) K,
      (∀ O' W' E' w', Later P lo O W E N w O' W' E' N' w' → Clo E'.D v → Will P main J K O' W' (G (fat b (A.put o.dst (E'.m v)) (.inRegion ops rest :: k)) cs) w') →
      Will P main J K O W (G (fat b A (.inRegion ops (i :: rest) :: k)) cs) w
/-- What is laid, for one that is alone. -/
theorem Loc.facts {P : Program} {ops : Array Oper} {i : Nat} {o : Oper} {a : CA} {N N' : CH} {v : Value} (h : Loc P ops i o a N v N') {E : Env} {w : World} {A : Act} (R : Rel P E N w)
    (hA : ∀ x ∈ o.looksAt ops, A.tmps[x]? = (a.tmps[x]?).map E.m ∧ ∀ u, a.tmps[x]? = some u → Clo E.D u) :
    ∃ E' w', Rel P E' N' w' ∧ ExtC (fun b => b < w.heap.size) E N w E' N' w' ∧ Clo E'.D v := by
  obtain ⟨_, _, _, _, hh⟩ := (h true (fun _ => True) 0 E w _ _ A (Nat.zero_le _) R (own_all R) hA default [] [] [] (fun _ _ _ _ => ∃ E' w', Rel P E' N' w' ∧ ExtC (fun b => b < w.heap.size) E N w E' N' w' ∧ Clo E'.D v)
    fun _ _ E' w' L hv => .stop fun _ _ _ => ⟨E', w', L.rel, L.ext, hv⟩).reaches (fun _ h => h) (fun _ h => h)
  exact hh

theorem wanted_look {ops : Array Oper} {o : Oper} {a : CA} {A : Act} {E : Env} (hg : guardSeen ops a.tmps o = true) (h : ∀ x ∈ o.looksAt ops, A.tmps[x]? = (a.tmps[x]?).map E.m) :
    Region.wanted o (yielded ops A.tmps) = Region.wanted o (cyielded ops a.tmps) :=
  wanted_at (E := E) hg (fun g want x hgu hd => h x (by simp [Oper.looksAt, hgu, hd]))
theorem evOk_on {E : Env} {ts : List Tmp} {a : CA} {A : Act} (hgl : E.Gl) (h : ∀ x ∈ ts, A.tmps[x]? = (a.tmps[x]?).map E.m ∧ ∀ u, a.tmps[x]? = some u → Clo E.D u) : EvOk E (cevOn ts a) A.eval := by
  intro x v hx
  cases x with
  | tmp t =>
    simp only [cevOn] at hx
    split at hx
    · rename_i ht
      cases hx
      obtain ⟨h1, h2⟩ := h t (by simpa using ht)
      simp only [Act.eval, Array.getD_eq_getD_getElem?, h1, List.getD_eq_getElem?_getD]
      cases hu : a.tmps[t]? with
      | none => exact ⟨rfl, undef_clo _⟩
      | some u => exact ⟨rfl, h2 u hu⟩
    · cases hx
  | const u =>
    simp only [cevOn, cev] at hx
    split at hx
    · cases hx; exact ⟨(m_plain E (by assumption)).symm, Clo_plain _ _ (by assumption)⟩
    · cases hx
  | func f =>
    simp only [cevOn, cev, Option.some.injEq] at hx
    subst hx
    exact ⟨rfl, ⟨trivial, trivial, trivial⟩⟩
  | global g =>
    simp only [cevOn, cev] at hx
    split at hx
    · rename_i hg
      cases hx
      exact ⟨(m_global (hgl g hg)).symm, clo_global (hgl g hg)⟩
    · cases hx

theorem loc_eval {P : Program} (hP : NoCount P) {R : Rec} (hR : RecOk P R) {ops : Array Oper} {i : Nat} {o : Oper} (ho : ops[i]? = some o) {a : CA} (hgs : guardSeen ops a.tmps o = true) (hw : Region.wanted o (cyielded ops a.tmps) = true)
    {N N' : CH} {v : Value} (h : evalOp P R (cevOn (o.looksAt ops) a) o N = some (v, N')) : Loc P ops i o a N v N' := by
  intro main J hx lo E w O W A hlo hr ow hA b rest k cs K hK
  have hw' : Region.wanted o (yielded ops A.tmps) = true := by rw [wanted_look hgs (fun x hx => (hA x hx).1)]; exact hw
  have hev := evOk_on hr.gl hA
  unfold evalOp at h
  cases hc : cop P (cevOn (o.looksAt ops) a) o N with
  | none => simp [hc] at h
  | some r =>
    obtain ⟨nx, N1⟩ := r
    have hnd : ∀ c, o.op ≠ .defer c := by
      intro c e
      simp [cop, e] at hc
    cases nx with
    | val u =>
      simp only [hc, Option.some.injEq, Prod.mk.injEq] at h
      obtain ⟨rfl, rfl⟩ := h
      exact op_will hP hr ow hev hc hlo (fn := b.fn) (g' := fun n => match n with | .value u => G (fat b (A.put o.dst u) (.inRegion ops rest :: k)) cs | _ => default)
        (fun w1 w2 n hrun ⟨E', hn⟩ => by subst hn; exact g_val ho hw' hnd hrun) fun O' W' E' w' L hclo => hK O' W' E' w' L hclo
    | skip =>
      simp only [hc, Option.some.injEq, Prod.mk.injEq] at h
      obtain ⟨rfl, rfl⟩ := h
      exact op_will hP hr ow hev hc hlo (fn := b.fn) (g' := fun _ => G (fat b (A.put o.dst undef) (.inRegion ops rest :: k)) cs)
        (fun w1 w2 n hrun ⟨E', hn⟩ => by subst hn; exact g_skipv ho hw' hnd hrun) fun O' W' E' w' L hclo => hK O' W' E' w' L (undef_clo _)
    | enter f args =>
      simp only [hc] at h
      have hcall := hR.call _ _ _ _ _ h
      have hlo1 : lo ≤ N1.wm := by
        obtain ⟨E1, w1, hr1, _, hclo, _⟩ := cop_ok hP hr hev hc
        exact Nat.le_trans hlo (hcall.wm hr1 hclo)
      refine op_will hP hr ow hev hc hlo1 (fn := b.fn) (g' := fun n => match n with | .enter f as => G (Frame.enter P f as .normal) (fat b A (.inRegion ops (i :: rest) :: k) :: cs) | _ => default)
        (fun w1 w2 n hrun ⟨E', hn⟩ => by subst hn; exact g_enter ho hw' hnd hrun) fun O1 W1 E1 w1 L1 hclo => ?_
      refine hcall main J lo E1 w1 O1 W1 hlo L1.rel L1.own hclo .normal _ (by exact caller_run (.inl rfl) rfl) K fun O2 W2 E2 w2 fr L2 hv _ hready => ?_
      refine leave_will hready ?_
      rw [fat_finish ho]
      exact hK O2 W2 E2 w2 (L1.trans L2) hv
    | round l f tmps as bd =>
      simp only [hc] at h
      have hround := hR.round _ _ _ _ _ _ _ _ h
      have hlo1 : lo ≤ N1.wm := by
        obtain ⟨E1, w1, hr1, _, hclo, _⟩ := cop_ok hP hr hev hc
        exact Nat.le_trans hlo (hround.wm hr1 hclo.1 hclo.2)
      refine op_will hP hr ow hev hc hlo1 (fn := b.fn) (g' := fun n => match n with | .round l f ts as bd => G (Frame.round l f ts as bd .normal) (fat b A (.inRegion ops (i :: rest) :: k) :: cs) | _ => default)
        (fun w1 w2 n hrun ⟨E', hn⟩ => by subst hn; exact g_round ho hw' hnd hrun) fun O1 W1 E1 w1 L1 hclo => ?_
      refine hround main J lo E1 w1 O1 W1 hlo L1.rel L1.own hclo.1 hclo.2 _ cs K fun O2 W2 E2 w2 L2 hv => ?_
      rw [fat_finish ho]
      exact hK O2 W2 E2 w2 (L1.trans L2) hv
theorem loc_skip {P : Program} {ops : Array Oper} {i : Nat} {o : Oper} (ho : ops[i]? = some o) {a : CA} (hgs : guardSeen ops a.tmps o = true) (hw : Region.wanted o (cyielded ops a.tmps) = false) (N : CH) : Loc P ops i o a N undef N := by
  intro main J hx lo E w O W A hlo hr ow hA b rest k cs K hK
  have hw' : Region.wanted o (yielded ops A.tmps) = false := by rw [wanted_look hgs (fun x hx => (hA x hx).1)]; exact hw
  exact .quiet rfl (fun _ => g_op_skip ho hw') (hK O W E w (Later.refl hr ow) (undef_clo _))

/-! ### what one operation does to the plain heap -/
theorem merge_ok : ∀ (c : Nat) {N N' B : CH}, merge c N B = some N' → N.Ok → N'.sz = N.sz + c ∧ N'.wm = N.wm ∧ N'.Ok ∧ (∀ k, k < N.sz → N'.get k = N.get k) ∧ (∀ k, N.sz ≤ k → k < N'.sz → N'.get k = B.get k)
  | 0, N, N', B, h, hN => by
    simp only [merge, Option.some.injEq] at h
    subst h
    exact ⟨rfl, rfl, hN, fun _ _ => rfl, fun k h1 h2 => by omega⟩
  | c + 1, N, N', B, h, hN => by
    simp only [merge] at h
    split at h
    · rename_i b hb
      split at h
      · rename_i hsz
        obtain ⟨h1, h2, h3, h4, h5⟩ := merge_ok c h (CH.ok_push hN b)
        have hp : (N.push b).sz = N.sz + 1 := rfl
        refine ⟨by rw [h1, hp]; omega, h2, h3, ?_, ?_⟩
        · intro k hk
          rw [h4 k (by rw [hp]; omega), CH.get_push_other hN hk]
        · intro k hk hk'
          by_cases he : k = N.sz
          · subst he
            rw [h4 _ (by rw [hp]; omega), CH.get_push_same hN, hb]
          · exact h5 k (by rw [hp]; omega) hk'
      · cases h
    · cases h

/-- An operation's outcome, sorted by kind. -/
def StepFact (P : Program) (ops : Array Oper) (i : Nat) (o : Oper) (a : CA) (N : CH) (kd : Kd) (v : Value) (N' : CH) : Prop :=
  match kd with
  | .b => ∃ B, Loc P ops i o a (CH.blind N.sz) v B ∧ (N.Ok → N.sz ≤ B.sz → N'.sz = B.sz ∧ N'.wm = N.wm ∧ N'.Ok ∧ (∀ k, k < N.sz → N'.get k = N.get k) ∧ (∀ k, N.sz ≤ k → k < N'.sz → N'.get k = B.get k))
  | .q => ∃ G, Loc P ops i o a N.guarded v G ∧ N.sz ≤ G.wm ∧ N' = ⟨G.sz, N.wm, G.base, G.t⟩
  | .w => ∃ G, Loc P ops i o a N.guarded v G ∧ N' = N.back G
theorem cstep_fact {P : Program} (hP : NoCount P) {R : Rec} (hR : RecOk P R) {ops : Array Oper} {i : Nat} {o : Oper} (ho : ops[i]? = some o) {a : CA} {N N' : CH} {kd : Kd} {v : Value}
    (h : cstep P R ops i a N = some (kd, v, N')) : StepFact P ops i o a N kd v N' := by
  unfold cstep at h
  simp only [ho] at h
  split at h
  · cases h
  rename_i hgs
  have hgs : guardSeen ops a.tmps o = true := by simpa using hgs
  split at h
  · rename_i hw
    split at h
    · rename_i u B hb
      simp only [Option.map_eq_some_iff, Prod.mk.injEq] at h
      obtain ⟨N1, h1, rfl, rfl, rfl⟩ := h
      refine ⟨B, loc_eval hP hR ho hgs hw (by unfold evalOp; rw [hb]), fun hN hle => ?_⟩
      obtain ⟨e1, e2, e3, e4, e5⟩ := merge_ok _ h1 hN
      exact ⟨by omega, e2, e3, e4, e5⟩
    · split at h
      · rename_i u G hq
        split at h
        · rename_i hlow
          simp only [Option.some.injEq, Prod.mk.injEq] at h
          obtain ⟨rfl, rfl, rfl⟩ := h
          exact ⟨G, loc_eval hP hR ho hgs hw hq, hlow, rfl⟩
        · simp only [Option.some.injEq, Prod.mk.injEq] at h
          obtain ⟨rfl, rfl, rfl⟩ := h
          exact ⟨G, loc_eval hP hR ho hgs hw hq, rfl⟩
      · cases h
  · rename_i hw
    simp only [Option.some.injEq, Prod.mk.injEq] at h
    obtain ⟨rfl, rfl, rfl⟩ := h
    exact ⟨CH.blind N.sz, loc_skip ho hgs (by simpa using hw) _, fun hN _ => ⟨rfl, rfl, hN, fun _ _ => rfl, fun k h1 h2 => absurd h2 (Nat.not_lt.2 h1)⟩⟩

/-! ### memory seen in part -/
theorem CH.get_blind (n k : Nat) : (CH.blind n).get k = none := by
  rw [CH.get_def]
  show (if k < n then none else Tr.e.get (k - n)) = none
  by_cases h : k < n
  · rw [if_pos h]
  · rw [if_neg h]; rfl
theorem Rel.blind {P : Program} {E : Env} {w : World} {n : Nat} (hgl : E.Gl) (hd : ∀ k, E.D k → k < n) : Rel P E (CH.blind n) w := by
  have hg : ∀ k, (CH.blind n).get k = none := CH.get_blind n
  have hl : ∀ k, ¬ (CH.blind n).live k := fun k ⟨b, hb, _⟩ => by rw [hg] at hb; cases hb
  exact ⟨⟨Nat.le_refl _, Nat.sub_self n⟩, hgl, hd, fun i _ _ _ h => absurd h (hl i), fun k b _ hb => by rw [hg] at hb; cases hb⟩
theorem Rel.less {P : Program} {E : Env} {M N : CH} {w : World} {D' : Nat → Prop} (R : Rel P E M w) (hsub : ∀ k, D' k → E.D k) (hgl : ∀ g, g < LIM → D' g) (hN : N.Ok) (hlt : ∀ k, D' k → k < N.sz) (hget : ∀ k, D' k → N.get k = M.get k)
    (hc : ∀ k b, D' k → N.get k = some b → CBClo D' b) : Rel P { E with D := D' } N w := by
  have hl : ∀ k, D' k → N.live k → M.live k := fun k hk ⟨b, hb, hd⟩ => ⟨b, by rw [← hget k hk]; exact hb, hd⟩
  exact ⟨hN, fun g hg => ⟨hgl g hg, (R.gl g hg).2⟩, hlt, fun i j hi hj li lj e => R.inj i j (hsub i hi) (hsub j hj) (hl i hi li) (hl j hj lj) e,
    fun k b hk hb => (R.blk k b (hsub k hk) (by rw [← hget k hk]; exact hb)).less (hc k b hk hb)⟩
theorem CBClo.mono {D D' : Nat → Prop} (h : ∀ k, D k → D' k) {b : CB} (hc : CBClo D b) : CBClo D' b := by
  cases b with
  | row c e el => exact fun v hv => Clo_mono h v (hc v hv)
  | map es cl => exact fun e he => Clo_mono h _ (hc e he)
  | loop l => exact ⟨fun v hv => Clo_mono h v (hc.1 v hv), h _ hc.2⟩
  | miter r a b c => exact fun k hk => h k (hc k hk)
  | _ => trivial
theorem Rel.guard {P : Program} {E : Env} {N : CH} {w : World} (R : Rel P E N w) {m : Nat} : Rel P E ⟨N.sz, m, N.base, N.t⟩ w := ⟨⟨R.ok.le, R.ok.full⟩, R.gl, R.dom, R.inj, R.blk⟩

/-- What an operation leaves, as the text's order goes. -/
structure Vs (O : Nat → Prop) (E : Env) (N : CH) (w : World) (E' : Env) (N' : CH) (w' : World) : Prop where
  wx : Wx O E N w E' N' w'
  dom : ∀ k, E'.D k ↔ E.D k ∨ (N.sz ≤ k ∧ k < N'.sz)
  size : N.sz ≤ N'.sz
  wm : N'.wm ≤ N.wm
  keep : ∀ k, k < N.sz → k < N'.wm → N'.get k = N.get k
theorem ExtC.vs {O : Nat → Prop} {E E' : Env} {N N' : CH} {w w' : World} (X : ExtC O E N w E' N' w') : Vs O E N w E' N' w' :=
  ⟨X.wx, fun k => ⟨X.new k, fun h => h.elim (fun h => (X.mono k h).1) (fun h => X.all k h.1 h.2)⟩, X.size, X.wm, X.keep⟩
theorem Vs.ext {O : Nat → Prop} {E E' : Env} {N N' : CH} {w w' : World} (X : Vs O E N w E' N' w') : ExtC O E N w E' N' w' :=
  ⟨X.wx.mono, fun k h => (X.dom k).1 h, fun k h1 h2 => (X.dom k).2 (.inr ⟨h1, h2⟩), X.size, X.wx.hsize, X.wx.fresh, X.wx.dead, X.wm, X.keep, X.wx.frame, X.wx.os, X.wx.tape, X.wx.output, X.wx.op⟩

theorem act_look {E : Env} {a : CA} (ha : a.Clo E.D) {l : List Tmp} : ∀ x ∈ l, (E.act a).tmps[x]? = (a.tmps[x]?).map E.m ∧ ∀ u, a.tmps[x]? = some u → Clo E.D u :=
  fun x _ => ⟨by simp [Env.act], fun u hu => ha.tmps u (List.mem_of_getElem? hu)⟩

/-- One operation in the text's order. -/
theorem vstep {P : Program} {ops : Array Oper} {i : Nat} {o : Oper} {a : CA} {N N' : CH} {kd : Kd} {v : Value} (h : StepFact P ops i o a N kd v N') {E : Env} {w : World} (R : Rel P E N w) (ha : a.Clo E.D) :
    ∃ E' w', Rel P E' N' w' ∧ Vs (fun b => b < w.heap.size) E N w E' N' w' ∧ Clo E'.D v ∧ (kd ≠ .w → ∀ k, k < N.sz → N'.get k = N.get k) := by
  cases kd with
  | w =>
    obtain ⟨G, hG, rfl⟩ := h
    obtain ⟨E', w', R', X, hv⟩ := hG.facts R.guard (act_look ha)
    have hwx : Wx (fun b => b < w.heap.size) E N w E' (N.back G) w' := X.wx.congr (fun _ _ => rfl) (fun _ _ => rfl)
    refine ⟨E', w', R'.guard, ⟨hwx, X.vs.dom, X.size, ?_, fun k h1 h2 => ?_⟩, hv, fun hh => absurd rfl hh⟩
    · simp only [CH.back]
      split <;> omega
    · refine X.keep k h1 ?_
      simp only [CH.back] at h2
      split at h2 <;> omega
  | q =>
    obtain ⟨G, hG, hlow, rfl⟩ := h
    obtain ⟨E', w', R', X, hv⟩ := hG.facts R.guard (act_look ha)
    have hk : ∀ k, k < N.sz → (⟨G.sz, N.wm, G.base, G.t⟩ : CH).get k = N.get k := fun k hk => X.keep k hk (Nat.lt_of_lt_of_le hk hlow)
    have hwx : Wx (fun b => b < w.heap.size) E N w E' ⟨G.sz, N.wm, G.base, G.t⟩ w' := X.wx.congr (fun _ _ => rfl) (fun _ _ => rfl)
    exact ⟨E', w', R'.guard, ⟨hwx, X.vs.dom, X.size, Nat.le_refl _, fun k h1 _ => hk k h1⟩, hv, fun _ => hk⟩
  | b =>
    obtain ⟨B, hB, hrest⟩ := h
    have R0 : Rel P { E with D := E.D } (CH.blind N.sz) w := Rel.blind R.gl R.dom
    obtain ⟨E'', w'', R'', X, hv⟩ := hB.facts R0 (act_look ha)
    obtain ⟨e1, e2, e3, e4, e5⟩ := hrest R.ok X.size
    have hbs : (CH.blind N.sz).sz = N.sz := rfl
    have hsize : N.sz ≤ B.sz := X.size
    have hlt : ∀ k, E.D k ∨ (N.sz ≤ k ∧ k < B.sz) → k < N'.sz := by
      rintro k (hk | hk)
      · have := R.dom k hk
        omega
      · omega
    obtain ⟨E', R', X', hD, hclo, _⟩ := recombine (N := CH.blind N.sz) (D' := E.D) (Vis := fun _ => False) (M' := N') R (fun k hk hl => R.live_lt hk hl) (fun _ h => h) (fun _ _ h => h.elim) (fun k _ _ => CH.get_blind N.sz k) R'' X
      (fun k hk hh => by have := R.dom k hk; rw [hbs] at hh; omega) e3 hlt
      (fun k h1 h2 => e5 k h1 (by omega)) (fun _ _ h => h.elim) (fun k hk _ => e4 k (R.dom k hk))
    refine ⟨E', w'', R', ⟨X', fun k => ?_, by have := X.size; rw [hbs] at this; omega, Nat.le_of_eq e2, fun k h1 _ => e4 k h1⟩, (hclo v hv).1, fun _ => e4⟩
    rw [hD k, hbs, e1]
end Go.Eng
