/-
  The engine, part Kc: one operation of a region that leaves its order open, at whatever memory.
-/
import Derived.Test.YtjpmmfahmhnpeaaGreatDoorEngKb
namespace Go.Eng
set_option linter.unusedSimpArgs false
set_option linter.unusedVariables false

/-- What an operation comes to at each memory that N stands for, and at each frame that has a's temporaries where it looks. -/
def Loc (P : Program) (ops : Array Oper) (i : Nat) (o : Oper) (a : CA) (N : CH) (v : Value) (N' : CH) : Prop :=
  ∀ (E : Env) (w : World) (A : Act), Rel P E N w → (∀ x ∈ o.looksAt ops, A.tmps[x]? = (a.tmps[x]?).map E.m ∧ ∀ u, a.tmps[x]? = some u → Clo E.D u) →
    ∀ (b : Frame) (rest : List Nat) (k : List Item) (cs : List Frame), ∃ E' w', Rel P E' N' w' ∧ Ext E N w E' N' w' ∧ Clo E'.D v ∧
      Steps P (lone (fat b A (.inRegion ops (i :: rest) :: k)) cs w) (lone (fat b (A.put o.dst (E'.m v)) (.inRegion ops rest :: k)) cs w')

theorem wanted_look {ops : Array Oper} {o : Oper} {a : CA} {A : Act} {E : Env} (hg : guardSeen ops a.tmps o = true) (h : ∀ x ∈ o.looksAt ops, A.tmps[x]? = (a.tmps[x]?).map E.m) :
    Region.wanted o (yielded ops A.tmps) = Region.wanted o (cyielded ops a.tmps) :=
  wanted_at (E := E) hg (fun g want x hgu hd => h x (by simp [Oper.looksAt, hgu, hd]))
theorem evOk_on {E : Env} {ts : List Tmp} {a : CA} {A : Act} (hgl : E.Gl) (h : ∀ x ∈ ts, A.tmps[x]? = (a.tmps[x]?).map E.m ∧ ∀ u, a.tmps[x]? = some u → Clo E.D u) : EvOk E (cevOn ts a) A.eval := by
  intro x v hx
  cases x with
  | tmp t =>
    simp only [cevOn] at hx
    split at hx
    · rename_i ht
      cases hx
      obtain ⟨h1, h2⟩ := h t (by simpa using ht)
      simp only [Act.eval, Array.getD_eq_getD_getElem?, h1, List.getD_eq_getElem?_getD]
      cases hu : a.tmps[t]? with
      | none => exact ⟨rfl, undef_clo _⟩
      | some u => exact ⟨rfl, h2 u hu⟩
    · cases hx
  | const u =>
    simp only [cevOn, cev] at hx
    split at hx
    · cases hx; exact ⟨(m_plain E (by assumption)).symm, Clo_plain _ _ (by assumption)⟩
    · cases hx
  | func f =>
    simp only [cevOn, cev, Option.some.injEq] at hx
    subst hx
    exact ⟨rfl, ⟨trivial, trivial, trivial⟩⟩
  | global g =>
    simp only [cevOn, cev] at hx
    split at hx
    · rename_i hg
      cases hx
      exact ⟨(m_global (hgl g hg)).symm, clo_global (hgl g hg)⟩
    · cases hx

theorem loc_eval {P : Program} (hP : NoCount P) {R : Rec} (hR : RecOk P R) {ops : Array Oper} {i : Nat} {o : Oper} (ho : ops[i]? = some o) {a : CA} (hgs : guardSeen ops a.tmps o = true) (hw : Region.wanted o (cyielded ops a.tmps) = true)
    {N N' : CH} {v : Value} (h : evalOp P R (cevOn (o.looksAt ops) a) o N = some (v, N')) : Loc P ops i o a N v N' := by
  intro E w A hr hA b rest k cs
  have hw' : Region.wanted o (yielded ops A.tmps) = true := by rw [wanted_look hgs (fun x hx => (hA x hx).1)]; exact hw
  have hev := evOk_on hr.gl hA
  unfold evalOp at h
  cases hc : cop P (cevOn (o.looksAt ops) a) o N with
  | none => simp [hc] at h
  | some r =>
    obtain ⟨nx, N1⟩ := r
    have hnd : ∀ c, o.op ≠ .defer c := by
      intro c e
      simp [cop, e] at hc
    obtain ⟨E1, w1, hr1, X1, hclo, hrun⟩ := cop_ok hP hr hev hc
    cases nx with
    | val u =>
      simp only [hc, Option.some.injEq, Prod.mk.injEq] at h
      obtain ⟨rfl, rfl⟩ := h
      exact ⟨E1, w1, hr1, X1, hclo, .one (fstep_val ho hw' hnd hrun)⟩
    | skip =>
      simp only [hc, Option.some.injEq, Prod.mk.injEq] at h
      obtain ⟨rfl, rfl⟩ := h
      exact ⟨E1, w1, hr1, X1, undef_clo _, by rw [m_undef]; exact .one (fstep_skipv ho hw' hnd hrun)⟩
    | enter f args =>
      simp only [hc] at h
      obtain ⟨E2, w2, fr, hr2, X2, hv, hsteps, _, hleave⟩ := hR.call _ _ _ _ _ h E1 w1 hr1 hclo .normal (fat b A (.inRegion ops (i :: rest) :: k) :: cs) (.inl rfl)
      refine ⟨E2, w2, hr2, X1.trans X2, hv, ?_⟩
      refine .head (fstep_enter ho hw' hnd hrun) (hsteps.trans (.one ?_))
      rw [← fat_finish ho]
      exact step_leave_returned hleave.leaving
    | round l f tmps as bd =>
      simp only [hc] at h
      obtain ⟨E2, w2, hr2, X2, hv, hsteps⟩ := hR.round _ _ _ _ _ _ _ _ h E1 w1 hr1 hclo.1 hclo.2 (fat b A (.inRegion ops (i :: rest) :: k)) cs
      refine ⟨E2, w2, hr2, X1.trans X2, hv, ?_⟩
      refine .head (fstep_round ho hw' hnd hrun) ?_
      rw [← fat_finish ho]
      exact hsteps
theorem loc_skip {P : Program} {ops : Array Oper} {i : Nat} {o : Oper} (ho : ops[i]? = some o) {a : CA} (hgs : guardSeen ops a.tmps o = true) (hw : Region.wanted o (cyielded ops a.tmps) = false) (N : CH) : Loc P ops i o a N undef N := by
  intro E w A hr hA b rest k cs
  have hw' : Region.wanted o (yielded ops A.tmps) = false := by rw [wanted_look hgs (fun x hx => (hA x hx).1)]; exact hw
  exact ⟨E, w, hr, Ext.refl _ _ _, undef_clo _, by rw [m_undef]; exact .one (fstep_op_skip ho hw')⟩

/-! ### what one operation does to the plain heap -/
theorem merge_ok : ∀ (c : Nat) {N N' B : CH}, merge c N B = some N' → N.Ok → N'.sz = N.sz + c ∧ N'.wm = N.wm ∧ N'.Ok ∧ (∀ k, k < N.sz → N'.get k = N.get k) ∧ (∀ k, N.sz ≤ k → k < N'.sz → N'.get k = B.get k)
  | 0, N, N', B, h, hN => by
    simp only [merge, Option.some.injEq] at h
    subst h
    exact ⟨rfl, rfl, hN, fun _ _ => rfl, fun k h1 h2 => by omega⟩
  | c + 1, N, N', B, h, hN => by
    simp only [merge] at h
    split at h
    · rename_i b hb
      split at h
      · rename_i hsz
        obtain ⟨h1, h2, h3, h4, h5⟩ := merge_ok c h (CH.ok_push hN b)
        have hp : (N.push b).sz = N.sz + 1 := rfl
        refine ⟨by rw [h1, hp]; omega, h2, h3, ?_, ?_⟩
        · intro k hk
          rw [h4 k (by rw [hp]; omega), CH.get_push_other hN hk]
        · intro k hk hk'
          by_cases he : k = N.sz
          · subst he
            rw [h4 _ (by rw [hp]; omega), CH.get_push_same hN, hb]
          · exact h5 k (by rw [hp]; omega) hk'
      · cases h
    · cases h

/-- An operation's outcome, sorted by kind. -/
def StepFact (P : Program) (ops : Array Oper) (i : Nat) (o : Oper) (a : CA) (N : CH) (kd : Kd) (v : Value) (N' : CH) : Prop :=
  match kd with
  | .b => ∃ B, Loc P ops i o a (CH.blind N.sz) v B ∧ (N.Ok → N.sz ≤ B.sz → N'.sz = B.sz ∧ N'.wm = N.wm ∧ N'.Ok ∧ (∀ k, k < N.sz → N'.get k = N.get k) ∧ (∀ k, N.sz ≤ k → k < N'.sz → N'.get k = B.get k))
  | .q => ∃ G, Loc P ops i o a N.guarded v G ∧ N.sz ≤ G.wm ∧ N' = ⟨G.sz, N.wm, G.base, G.t⟩
  | .w => ∃ G, Loc P ops i o a N.guarded v G ∧ N' = N.back G
theorem cstep_fact {P : Program} (hP : NoCount P) {R : Rec} (hR : RecOk P R) {ops : Array Oper} {i : Nat} {o : Oper} (ho : ops[i]? = some o) {a : CA} {N N' : CH} {kd : Kd} {v : Value}
    (h : cstep P R ops i a N = some (kd, v, N')) : StepFact P ops i o a N kd v N' := by
  unfold cstep at h
  simp only [ho] at h
  split at h
  · cases h
  rename_i hgs
  have hgs : guardSeen ops a.tmps o = true := by simpa using hgs
  split at h
  · rename_i hw
    split at h
    · rename_i u B hb
      simp only [Option.map_eq_some_iff, Prod.mk.injEq] at h
      obtain ⟨N1, h1, rfl, rfl, rfl⟩ := h
      refine ⟨B, loc_eval hP hR ho hgs hw (by unfold evalOp; rw [hb]), fun hN hle => ?_⟩
      obtain ⟨e1, e2, e3, e4, e5⟩ := merge_ok _ h1 hN
      exact ⟨by omega, e2, e3, e4, e5⟩
    · split at h
      · rename_i u G hq
        split at h
        · rename_i hlow
          simp only [Option.some.injEq, Prod.mk.injEq] at h
          obtain ⟨rfl, rfl, rfl⟩ := h
          exact ⟨G, loc_eval hP hR ho hgs hw hq, hlow, rfl⟩
        · simp only [Option.some.injEq, Prod.mk.injEq] at h
          obtain ⟨rfl, rfl, rfl⟩ := h
          exact ⟨G, loc_eval hP hR ho hgs hw hq, rfl⟩
      · cases h
  · rename_i hw
    simp only [Option.some.injEq, Prod.mk.injEq] at h
    obtain ⟨rfl, rfl, rfl⟩ := h
    exact ⟨CH.blind N.sz, loc_skip ho hgs (by simpa using hw) _, fun hN _ => ⟨rfl, rfl, hN, fun _ _ => rfl, fun k h1 h2 => absurd h2 (Nat.not_lt.2 h1)⟩⟩

/-! ### memory seen in part -/
theorem CH.get_blind (n k : Nat) : (CH.blind n).get k = none := by
  rw [CH.get_def]
  show (if k < n then none else Tr.e.get (k - n)) = none
  by_cases h : k < n
  · rw [if_pos h]
  · rw [if_neg h]; rfl
theorem Rel.blind {P : Program} {E : Env} {w : World} {n : Nat} (hgl : E.Gl) (hd : ∀ k, E.D k → k < n) : Rel P E (CH.blind n) w := by
  have hg : ∀ k, (CH.blind n).get k = none := CH.get_blind n
  have hl : ∀ k, ¬ (CH.blind n).live k := fun k ⟨b, hb, _⟩ => by rw [hg] at hb; cases hb
  exact ⟨⟨Nat.le_refl _, Nat.sub_self n⟩, hgl, hd, fun i _ _ _ h => absurd h (hl i), fun k b _ hb => by rw [hg] at hb; cases hb⟩
theorem Rel.less {P : Program} {E : Env} {M N : CH} {w : World} {D' : Nat → Prop} (R : Rel P E M w) (hsub : ∀ k, D' k → E.D k) (hgl : ∀ g, g < LIM → D' g) (hN : N.Ok) (hlt : ∀ k, D' k → k < N.sz) (hget : ∀ k, D' k → N.get k = M.get k)
    (hc : ∀ k b, D' k → N.get k = some b → CBClo D' b) : Rel P { E with D := D' } N w := by
  have hl : ∀ k, D' k → N.live k → M.live k := fun k hk ⟨b, hb, hd⟩ => ⟨b, by rw [← hget k hk]; exact hb, hd⟩
  exact ⟨hN, fun g hg => ⟨hgl g hg, (R.gl g hg).2⟩, hlt, fun i j hi hj li lj e => R.inj i j (hsub i hi) (hsub j hj) (hl i hi li) (hl j hj lj) e,
    fun k b hk hb => (R.blk k b (hsub k hk) (by rw [← hget k hk]; exact hb)).less (hc k b hk hb)⟩
theorem CBClo.mono {D D' : Nat → Prop} (h : ∀ k, D k → D' k) {b : CB} (hc : CBClo D b) : CBClo D' b := by
  cases b with
  | row c e el => exact fun v hv => Clo_mono h v (hc v hv)
  | map es cl => exact fun e he => Clo_mono h _ (hc e he)
  | loop l => exact ⟨fun v hv => Clo_mono h v (hc.1 v hv), h _ hc.2⟩
  | miter r a b c => exact fun k hk => h k (hc k hk)
  | _ => trivial
theorem Rel.guard {P : Program} {E : Env} {N : CH} {w : World} (R : Rel P E N w) {m : Nat} : Rel P E ⟨N.sz, m, N.base, N.t⟩ w := ⟨⟨R.ok.le, R.ok.full⟩, R.gl, R.dom, R.inj, R.blk⟩

/-- What an operation leaves, as the text's order goes. -/
structure Vs (E : Env) (N : CH) (w : World) (E' : Env) (N' : CH) (w' : World) : Prop where
  wx : Wx E N w E' N' w'
  dom : ∀ k, E'.D k ↔ E.D k ∨ (N.sz ≤ k ∧ k < N'.sz)
  size : N.sz ≤ N'.sz
  wm : N'.wm ≤ N.wm
  keep : ∀ k, k < N.sz → k < N'.wm → N'.get k = N.get k
theorem Ext.vs {E E' : Env} {N N' : CH} {w w' : World} (X : Ext E N w E' N' w') : Vs E N w E' N' w' :=
  ⟨X.wx, fun k => ⟨X.new k, fun h => h.elim (fun h => (X.mono k h).1) (fun h => X.all k h.1 h.2)⟩, X.size, X.wm, X.keep⟩
theorem Vs.ext {E E' : Env} {N N' : CH} {w w' : World} (X : Vs E N w E' N' w') : Ext E N w E' N' w' :=
  ⟨X.wx.mono, fun k h => (X.dom k).1 h, fun k h1 h2 => (X.dom k).2 (.inr ⟨h1, h2⟩), X.size, X.wx.hsize, X.wx.fresh, X.wx.dead, X.wm, X.keep, X.wx.frame, X.wx.os, X.wx.tape, X.wx.output, X.wx.op⟩

theorem act_look {E : Env} {a : CA} (ha : a.Clo E.D) {l : List Tmp} : ∀ x ∈ l, (E.act a).tmps[x]? = (a.tmps[x]?).map E.m ∧ ∀ u, a.tmps[x]? = some u → Clo E.D u :=
  fun x _ => ⟨by simp [Env.act], fun u hu => ha.tmps u (List.mem_of_getElem? hu)⟩

/-- One operation in the text's order. -/
theorem vstep {P : Program} {ops : Array Oper} {i : Nat} {o : Oper} {a : CA} {N N' : CH} {kd : Kd} {v : Value} (h : StepFact P ops i o a N kd v N') {E : Env} {w : World} (R : Rel P E N w) (ha : a.Clo E.D) :
    ∃ E' w', Rel P E' N' w' ∧ Vs E N w E' N' w' ∧ Clo E'.D v ∧ (kd ≠ .w → ∀ k, k < N.sz → N'.get k = N.get k) := by
  cases kd with
  | w =>
    obtain ⟨G, hG, rfl⟩ := h
    obtain ⟨E', w', R', X, hv, _⟩ := hG E w (E.act a) R.guard (act_look ha) default [] [] []
    have hwx : Wx E N w E' (N.back G) w' := X.wx.congr (fun _ _ => rfl) (fun _ _ => rfl)
    refine ⟨E', w', R'.guard, ⟨hwx, X.vs.dom, X.size, ?_, fun k h1 h2 => ?_⟩, hv, fun hh => absurd rfl hh⟩
    · simp only [CH.back]
      split <;> omega
    · refine X.keep k h1 ?_
      simp only [CH.back] at h2
      split at h2 <;> omega
  | q =>
    obtain ⟨G, hG, hlow, rfl⟩ := h
    obtain ⟨E', w', R', X, hv, _⟩ := hG E w (E.act a) R.guard (act_look ha) default [] [] []
    have hk : ∀ k, k < N.sz → (⟨G.sz, N.wm, G.base, G.t⟩ : CH).get k = N.get k := fun k hk => X.keep k hk (Nat.lt_of_lt_of_le hk hlow)
    have hwx : Wx E N w E' ⟨G.sz, N.wm, G.base, G.t⟩ w' := X.wx.congr (fun _ _ => rfl) (fun _ _ => rfl)
    exact ⟨E', w', R'.guard, ⟨hwx, X.vs.dom, X.size, Nat.le_refl _, fun k h1 _ => hk k h1⟩, hv, fun _ => hk⟩
  | b =>
    obtain ⟨B, hB, hrest⟩ := h
    have R0 : Rel P { E with D := E.D } (CH.blind N.sz) w := Rel.blind R.gl R.dom
    obtain ⟨E'', w'', R'', X, hv, _⟩ := hB E w (E.act a) R0 (act_look ha) default [] [] []
    obtain ⟨e1, e2, e3, e4, e5⟩ := hrest R.ok X.size
    have hbs : (CH.blind N.sz).sz = N.sz := rfl
    have hsize : N.sz ≤ B.sz := X.size
    have hlt : ∀ k, E.D k ∨ (N.sz ≤ k ∧ k < B.sz) → k < N'.sz := by
      rintro k (hk | hk)
      · have := R.dom k hk
        omega
      · omega
    obtain ⟨E', R', X', hD, hclo⟩ := recombine (N := CH.blind N.sz) (D' := E.D) (Vis := fun _ => False) (M' := N') R (fun _ h => h) (fun _ _ h => h.elim) (fun k _ _ => CH.get_blind N.sz k) R'' X
      (fun k hk hh => by have := R.dom k hk; rw [hbs] at hh; omega) e3 hlt
      (fun k h1 h2 => e5 k h1 (by omega)) (fun _ _ h => h.elim) (fun k hk _ => e4 k (R.dom k hk))
    refine ⟨E', w'', R', ⟨X', fun k => ?_, by have := X.size; rw [hbs] at this; omega, Nat.le_of_eq e2, fun k h1 _ => e4 k h1⟩, (hclo v hv).1, fun _ => e4⟩
    rw [hD k, hbs, e1]
end Go.Eng
