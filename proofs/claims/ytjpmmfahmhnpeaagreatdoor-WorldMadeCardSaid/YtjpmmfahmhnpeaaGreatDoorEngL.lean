/-
  The engine, part L: code, calls, rounds; the whole.
-/
import Derived.Test.YtjpmmfahmhnpeaaGreatDoorEngK
namespace Go.Eng
set_option linter.unusedSimpArgs false
set_option linter.unusedVariables false

def iter (f : CA → CH → Option (Ex × CA × CH)) : Nat → CA → CH → Option (Ex × CA × CH)
  | 0, _, _ => none
  | n + 1, a, N => match f a N with
    | some (.normal, a', N') => iter f n a' N'
    | r => r

/-- The function that a loop ranges over is called. -/
def crangeCall (P : Program) (R : Rec) (a : CA) (f : Operand) (l : Nat) (N : CH) : Option (Value × CH) :=
  match cev a f with
  | some (.func (.func g) p q) =>
    match P.funcs[g]? with
    | some fn => if fn.body.isSome = true then R.call g (p.toList ++ [.func (.yield l) #[] #[]] ++ q.toList) N else none
    | none => none
  | _ => none
def jumpEx : Option Code → Option Ex
  | none => some .normal
  | some .ret => some .ret
  | some (.exit id) => some (.exit id)
  | _ => none

def exec (P : Program) (R : Rec) (L : Nat) (fn : FuncId) (ar : Option Nat) : Code → CA → CH → Option (Ex × CA × CH)
  | .skip, a, N => some (.normal, a, N)
  | .region _ ops draw, a, N => if draw = true then (cdraw P R ops a N).map fun r => (.normal, r.1, r.2) else (opList P R ops ar (List.range ops.size) a N).map fun r => (.normal, r.1, r.2)
  | .seq x y, a, N => match exec P R L fn ar x a N with
    | some (.normal, a', N') => exec P R L fn ar y a' N'
    | r => r
  | .cond c x y, a, N => match cev a c with
    | some (.bool true) => exec P R L fn ar x a N
    | some (.bool false) => exec P R L fn ar y a N
    | _ => none
  | .block id c, a, N => match exec P R L fn ar c a N with
    | some (.exit id', a', N') => if id' = id then some (.normal, a', N') else some (.exit id', a', N')
    | r => r
  | .loop c, a, N => iter (exec P R L fn ar c) L a N
  | .exit id, a, N => some (.exit id, a, N)
  | .ret, a, N => some (.ret, a, N)
  | .rangeFunc f params as bd, a, N =>
    (centerLoop fn a params as bd ar N).bind fun (l, a', N1) =>
    (crangeCall P R a f l N1).bind fun (_, N2) =>
    (cendLoop l N2).bind fun (jump, N3) =>
    (jumpEx jump).map fun e => (e, a', N3)
  | _, _, _ => none

def ExecOk (P : Program) (fn : FuncId) (ar : Option Nat) (c : Code) (a : CA) (N : CH) (e : Ex) (a' : CA) (N' : CH) : Prop :=
  ∀ E w, Rel P E N w → a.Clo E.D → (∀ l, ar = some l → E.D l) → ∀ (b : Frame), b.fn = fn → b.roundOf = ar.map E.f → ∀ (k : List Item) (cs : List Frame), Calm b cs →
    ∃ E' w', Rel P E' N' w' ∧ Ext E N w E' N' w' ∧ a'.Clo E'.D ∧ Arr P (lone (fat b (E.act a) (.code c :: k)) cs w) b k cs e (E'.act a') w'

theorem ar_ext {E E' : Env} {N N' : CH} {w w' : World} (X : Ext E N w E' N' w') {ar : Option Nat} (h : ∀ l, ar = some l → E.D l) : (∀ l, ar = some l → E'.D l) ∧ ar.map E'.f = ar.map E.f := by
  cases ar with
  | none => exact ⟨by simp, rfl⟩
  | some l =>
    obtain ⟨h1, h2, _⟩ := X.mono l (h l rfl)
    exact ⟨fun l' e => by cases e; exact h1, by simp [h2]⟩

theorem iter_ok {P : Program} {fn : FuncId} {ar : Option Nat} {c : Code} {f : CA → CH → Option (Ex × CA × CH)} (hf : ∀ a N e a' N', f a N = some (e, a', N') → ExecOk P fn ar c a N e a' N') :
    ∀ (n : Nat) (a : CA) (N : CH) (e : Ex) (a' : CA) (N' : CH), iter f n a N = some (e, a', N') →
    ∀ E w, Rel P E N w → a.Clo E.D → (∀ l, ar = some l → E.D l) → ∀ (b : Frame), b.fn = fn → b.roundOf = ar.map E.f → ∀ (k : List Item) (cs : List Frame), Calm b cs →
      ∃ E' w', Rel P E' N' w' ∧ Ext E N w E' N' w' ∧ a'.Clo E'.D ∧ Arr P (lone (fat b (E.act a) (.code c :: .inLoop c :: k)) cs w) b k cs e (E'.act a') w'
  | 0, _, _, _, _, _, h => by cases h
  | n + 1, a, N, e, a', N', h => by
    intro E w hr ha har b hfn hro k cs hcalm
    simp only [iter] at h
    cases hx : f a N with
    | none => simp [hx] at h
    | some r =>
      obtain ⟨e1, a1, N1⟩ := r
      obtain ⟨E1, w1, hr1, X1, ha1, s1⟩ := hf _ _ _ _ _ hx E w hr ha har b hfn hro (.inLoop c :: k) cs hcalm
      obtain ⟨har1, hre⟩ := ar_ext X1 har
      cases e1 with
      | normal =>
        simp only [hx] at h
        obtain ⟨E2, w2, hr2, X2, ha2, s2⟩ := iter_ok hf n a1 N1 e a' N' h E1 w1 hr1 ha1 har1 b hfn (by rw [hre]; exact hro) k cs hcalm
        exact ⟨E2, w2, hr2, X1.trans X2, ha2, .of_steps (Steps.trans s1 (.one fstep_inLoop)) s2⟩
      | ret =>
        simp only [hx, Option.some.injEq, Prod.mk.injEq] at h
        obtain ⟨rfl, rfl, rfl⟩ := h
        exact ⟨E1, w1, hr1, X1, ha1, s1⟩
      | exit id =>
        simp only [hx, Option.some.injEq, Prod.mk.injEq] at h
        obtain ⟨rfl, rfl, rfl⟩ := h
        obtain ⟨t, ht, hs⟩ := s1
        exact ⟨E1, w1, hr1, X1, ha1, t, ht.trans rfl, hs⟩

theorem exec_ok {P : Program} (hP : NoCount P) (hm : P.follows .mixedOrders = true) {R : Rec} (hR : RecOk P R) (L : Nat) (fn : FuncId) (ar : Option Nat) :
    ∀ (c : Code) (a : CA) (N : CH) (e : Ex) (a' : CA) (N' : CH), exec P R L fn ar c a N = some (e, a', N') → ExecOk P fn ar c a N e a' N' := by
  intro c
  induction c with
  | skip =>
    intro a N e a' N' h E w hr ha har b hfn hro k cs hcalm
    simp only [exec, Option.some.injEq, Prod.mk.injEq] at h
    obtain ⟨rfl, rfl, rfl⟩ := h
    exact ⟨E, w, hr, Ext.refl _ _ _, ha, .one fstep_skip⟩
  | region id ops draw =>
    intro a N e a' N' h E w hr ha har b hfn hro k cs hcalm
    simp only [exec] at h
    cases draw with
    | true =>
      simp only [if_true] at h
      obtain ⟨⟨a1, N1⟩, h1, h2⟩ := Option.map_eq_some_iff.1 h
      simp only [Prod.mk.injEq] at h2
      obtain ⟨rfl, rfl, rfl⟩ := h2
      obtain ⟨E1, w1, hr1, X1, ha1, s1⟩ := cdraw_ok hP hm hR h1 hr ha b id k cs
      exact ⟨E1, w1, hr1, X1, ha1, s1⟩
    | false =>
      simp only [Bool.false_eq_true, if_false] at h
      obtain ⟨⟨a1, N1⟩, h1, h2⟩ := Option.map_eq_some_iff.1 h
      simp only [Prod.mk.injEq] at h2
      obtain ⟨rfl, rfl, rfl⟩ := h2
      obtain ⟨E1, w1, hr1, X1, ha1, s1⟩ := opList_ok hP hR _ h1 hr ha b (fun e => by rw [hro, e]; rfl) k cs hcalm
      exact ⟨E1, w1, hr1, X1, ha1, .head fstep_region s1⟩
  | seq x y ix iy =>
    intro a N e a' N' h E w hr ha har b hfn hro k cs hcalm
    simp only [exec] at h
    cases hx : exec P R L fn ar x a N with
    | none => simp [hx] at h
    | some r =>
      obtain ⟨e1, a1, N1⟩ := r
      obtain ⟨E1, w1, hr1, X1, ha1, s1⟩ := ix _ _ _ _ _ hx E w hr ha har b hfn hro (.code y :: k) cs hcalm
      obtain ⟨har1, hre⟩ := ar_ext X1 har
      cases e1 with
      | normal =>
        simp only [hx] at h
        obtain ⟨E2, w2, hr2, X2, ha2, s2⟩ := iy _ _ _ _ _ h E1 w1 hr1 ha1 har1 b hfn (by rw [hre]; exact hro) k cs hcalm
        exact ⟨E2, w2, hr2, X1.trans X2, ha2, .of_steps (.head fstep_seq s1) s2⟩
      | ret =>
        simp only [hx, Option.some.injEq, Prod.mk.injEq] at h
        obtain ⟨rfl, rfl, rfl⟩ := h
        exact ⟨E1, w1, hr1, X1, ha1, .of_steps (e := .ret) (k := k) (.one fstep_seq) s1⟩
      | exit id =>
        simp only [hx, Option.some.injEq, Prod.mk.injEq] at h
        obtain ⟨rfl, rfl, rfl⟩ := h
        obtain ⟨t, ht, hs⟩ := s1
        exact ⟨E1, w1, hr1, X1, ha1, t, ht.trans rfl, .head fstep_seq hs⟩
  | cond c x y ix iy =>
    intro a N e a' N' h E w hr ha har b hfn hro k cs hcalm
    simp only [exec] at h
    cases hc : cev a c with
    | none => simp [hc] at h
    | some v =>
      have hev := (cev_ok hr.gl ha c v hc).1
      cases v with
      | bool t =>
        have hb : (E.act a).eval c = .bool t := hev
        cases t with
        | true =>
          simp only [hc] at h
          obtain ⟨E1, w1, hr1, X1, ha1, s1⟩ := ix _ _ _ _ _ h E w hr ha har b hfn hro k cs hcalm
          exact ⟨E1, w1, hr1, X1, ha1, .of_steps (.one (fstep_cond hb)) s1⟩
        | false =>
          simp only [hc] at h
          obtain ⟨E1, w1, hr1, X1, ha1, s1⟩ := iy _ _ _ _ _ h E w hr ha har b hfn hro k cs hcalm
          exact ⟨E1, w1, hr1, X1, ha1, .of_steps (.one (fstep_cond hb)) s1⟩
      | _ => simp [hc] at h
  | block id c ic =>
    intro a N e a' N' h E w hr ha har b hfn hro k cs hcalm
    simp only [exec] at h
    cases hx : exec P R L fn ar c a N with
    | none => simp [hx] at h
    | some r =>
      obtain ⟨e1, a1, N1⟩ := r
      obtain ⟨E1, w1, hr1, X1, ha1, s1⟩ := ic _ _ _ _ _ hx E w hr ha har b hfn hro (.inBlock id :: k) cs hcalm
      cases e1 with
      | normal =>
        simp only [hx, Option.some.injEq, Prod.mk.injEq] at h
        obtain ⟨rfl, rfl, rfl⟩ := h
        exact ⟨E1, w1, hr1, X1, ha1, .head fstep_block (Steps.trans s1 (.one fstep_inBlock))⟩
      | ret =>
        simp only [hx, Option.some.injEq, Prod.mk.injEq] at h
        obtain ⟨rfl, rfl, rfl⟩ := h
        exact ⟨E1, w1, hr1, X1, ha1, .of_steps (e := .ret) (k := k) (.one fstep_block) s1⟩
      | exit id' =>
        obtain ⟨t, ht, hs⟩ := s1
        simp only [hx] at h
        split at h
        · rename_i he
          simp only [Option.some.injEq, Prod.mk.injEq] at h
          obtain ⟨rfl, rfl, rfl⟩ := h
          subst he
          refine ⟨E1, w1, hr1, X1, ha1, .head fstep_block (hs.trans (.one (fstep_exit ?_)))⟩
          rw [ht]
          simp [exitTo]
        · rename_i he
          simp only [Option.some.injEq, Prod.mk.injEq] at h
          obtain ⟨rfl, rfl, rfl⟩ := h
          refine ⟨E1, w1, hr1, X1, ha1, t, ?_, .head fstep_block hs⟩
          rw [ht]
          have : (id == id') = false := by simpa using fun h => he h.symm
          simp [exitTo, this]
  | loop c ic =>
    intro a N e a' N' h E w hr ha har b hfn hro k cs hcalm
    simp only [exec] at h
    obtain ⟨E1, w1, hr1, X1, ha1, s1⟩ := iter_ok (fun a N e a' N' hx => ic a N e a' N' hx) L a N e a' N' h E w hr ha har b hfn hro k cs hcalm
    exact ⟨E1, w1, hr1, X1, ha1, .of_steps (.one fstep_loop) s1⟩
  | exit id =>
    intro a N e a' N' h E w hr ha har b hfn hro k cs hcalm
    simp only [exec, Option.some.injEq, Prod.mk.injEq] at h
    obtain ⟨rfl, rfl, rfl⟩ := h
    exact ⟨E, w, hr, Ext.refl _ _ _, ha, k, rfl, .refl _ _⟩
  | ret =>
    intro a N e a' N' h E w hr ha har b hfn hro k cs hcalm
    simp only [exec, Option.some.injEq, Prod.mk.injEq] at h
    obtain ⟨rfl, rfl, rfl⟩ := h
    exact ⟨E, w, hr, Ext.refl _ _ _, ha, k, .refl _ _⟩
  | rangeFunc f params as bd _ _ =>
    intro a N e a' N' h E w hr ha har b hfn hro k cs hcalm
    simp only [exec, Option.bind_eq_some_iff, Option.map_eq_some_iff] at h
    obtain ⟨⟨l, a1, N1⟩, h1, ⟨v, N2⟩, h2, ⟨jump, N3⟩, h3, e', h4, h5⟩ := h
    simp only [Prod.mk.injEq] at h5
    obtain ⟨rfl, rfl, rfl⟩ := h5
    obtain ⟨E1, w1, mark, hr1, X1, ha1, hl, hact, hrun⟩ := enterLoop_ok hr ha har h1
    unfold crangeCall at h2
    cases hf : cev a f with
    | none => simp [hf] at h2
    | some fv =>
      obtain ⟨hev, hcl⟩ := cev_ok hr.gl ha f fv hf
      cases fv with
      | func g p q =>
        cases g with
        | func g =>
          simp only [hf] at h2
          cases hfn2 : P.funcs[g]? with
          | none => simp [hfn2] at h2
          | some fn2 =>
            simp only [hfn2] at h2
            split at h2
            · rename_i hbody
              have hpq : (∀ u ∈ p.toList, Clo E.D u) ∧ (∀ u ∈ q.toList, Clo E.D u) := by
                obtain ⟨p⟩ := p; obtain ⟨q⟩ := q
                exact ⟨CloL_all.1 hcl.2.1, CloL_all.1 hcl.2.2⟩
              have hargs : ∀ u ∈ p.toList ++ [.func (.yield l) #[] #[]] ++ q.toList, Clo E1.D u := by
                intro u hu
                rcases List.mem_append.1 hu with h6 | h6
                · rcases List.mem_append.1 h6 with h7 | h7
                  · exact X1.clo (hpq.1 u h7)
                  · simp only [List.mem_singleton] at h7
                    subst h7
                    exact ⟨hl, trivial, trivial⟩
                · exact X1.clo (hpq.2 u h6)
              obtain ⟨E2, w2, fr, hr2, X2, hv, hsteps, _, hleave⟩ := hR.call _ _ _ _ _ h2 E1 w1 hr1 hargs .normal (fat b { E.act a with defers := mark ++ (E.act a).defers } (.inRangeFunc (E1.f l) :: k) :: cs) (.inl rfl)
              obtain ⟨w3, hr3, X3, hend⟩ := endLoop_ok hr2 ((X2.mono l hl).1) h3
              obtain ⟨hact2, ha2⟩ := X2.act ha1
              obtain ⟨hact3, ha3⟩ := X3.act ha2
              have hlf : E2.f l = E1.f l := (X2.mono l hl).2.1
              have hinv : (do let d ← resolve (E.act a).eval { callee := .value f, args := #[.const (.func (.yield (E1.f l)) #[] #[])], argTypes := #[] } 0; invoke d.target d.args : Sem Next).run P w1 =
                  .ok (.enter g ((p.toList ++ [Value.func (.yield l) #[] #[]] ++ q.toList).map E1.m).toArray) w1 := by
                have e2 : E.m (.func (.func g) p q) = .func (.func g) (p.map E.m) (q.map E.m) := m_func E (.func g) p q
                simp only [resolve, hev, e2, Deferred.ofValue, pure_bind, invoke]
                rw [run_callFunc hP hfn2 hbody]
                congr 2
                apply Array.ext'
                have hp1 : p.toList.map E1.m = p.toList.map E.m := List.map_congr_left fun u hu => X1.m (hpq.1 u hu)
                have hq1 : q.toList.map E1.m = q.toList.map E.m := List.map_congr_left fun u hu => X1.m (hpq.2 u hu)
                have hy : E1.m (Value.func (.yield l) #[] #[]) = Value.func (.yield (E1.f l)) #[] #[] := by rw [m_func]; simp [mvFn]
                simp [hp1, hq1, hy, Act.eval]
              have hst := fstep_rangeFunc (b := b) (a := E.act a) (k := k) (cs := cs) (w := w) (P := P) (f := f) (params := params) (assign := as) (body := bd) (by rw [hfn, hro]; exact hrun) hinv
              have hback := step_leave_returned (P := P) (c := fat b { E.act a with defers := mark ++ (E.act a).defers } (.inRangeFunc (E1.f l) :: k)) (cs := cs) hleave.leaving
              rw [fat_finish_range] at hback
              have hend' := fstep_endRangeFunc (b := b) (a := { E.act a with defers := mark ++ (E.act a).defers }) (k := k) (cs := cs) (w := w2) (l := E1.f l) (by rw [← hlf]; exact hend)
              have hall : Steps P (lone (fat b (E.act a) (.code (.rangeFunc f params as bd) :: k)) cs w) (lone (fat b (E2.act a1) ((jump.map Item.code).toList ++ k)) cs w3) := by
                rw [hact2, hact]
                exact .head hst (hsteps.trans (.head hback (.one hend')))
              refine ⟨E2, w3, hr3, X1.trans (X2.trans X3), ha3, ?_⟩
              cases jump with
              | none => cases h4; exact hall
              | some j =>
                cases j with
                | ret => cases h4; exact ⟨k, hall⟩
                | exit id => cases h4; exact ⟨k, rfl, hall⟩
                | _ => cases h4
            · cases h2
        | _ => simp [hf] at h2
      | _ => simp [hf] at h2
  | scope c _ => intro a N e a' N' h; simp [exec] at h
  | label l => intro a N e a' N' h; simp [exec] at h
  | goto l => intro a N e a' N' h; simp [exec] at h
  | refuse s => intro a N e a' N' h; simp [exec] at h

/-! ### calls and rounds -/
def takeAll (R : Rec) : List DM → CH → Option CH
  | [], N => some N
  | .coll k :: r, N => match N.get k with
    | some .dfr => (N.wset k .dead).bind (takeAll R r)
    | _ => none
  | .call f q args :: r, N => (R.call f (args ++ q) N).bind fun x => takeAll R r x.2
theorem takeAll_ok {P : Program} (hP : NoCount P) {R : Rec} (hR : RecOk P R) (hb : ∀ f args N v N', R.call f args N = some (v, N') → ∃ fn, P.funcs[f]? = some fn ∧ fn.body.isSome = true) :
    ∀ (dm : List DM) {N N' : CH}, takeAll R dm N = some N' → ∀ {E : Env} {w : World}, Rel P E N w → (∀ d ∈ dm, d.Clo E.D) →
    ∀ (fr : Frame) (cs : List Frame), fr.mode = .returning → fr.defers = dm.map E.dm →
    ∃ E' w', Rel P E' N' w' ∧ Ext E N w E' N' w' ∧ Steps P (lone fr cs w) (lone { fr with defers := [] } cs w')
  | [], N, N', h, E, w, hr, _, fr, cs, _, hd => by
    simp only [takeAll, Option.some.injEq] at h
    subst h
    refine ⟨E, w, hr, Ext.refl _ _ _, ?_⟩
    have : ({ fr with defers := [] } : Frame) = fr := by
      obtain ⟨fn, tmps, todo, defers, mode, kind, ro⟩ := fr
      simp only [List.map_nil] at hd
      subst hd
      rfl
    rw [this]
    exact .refl _ _
  | .coll k :: r, N, N', h, E, w, hr, hk, fr, cs, hm, hd => by
    simp only [takeAll] at h
    cases hg : N.get k with
    | none => simp [hg] at h
    | some b =>
      cases b with
      | dfr =>
        simp only [hg, Option.bind_eq_some_iff] at h
        obtain ⟨N1, hN1, h⟩ := h
        obtain ⟨hwm, rfl⟩ := CH.wset_some hN1
        have hD : E.D k := hk (.coll k) (by simp)
        have ho : w.heap[E.f k]? = some (.deferred (some [])) := hr.blk k _ hD hg
        obtain ⟨hr1, X1⟩ := hr.setObj hD hwm hg rfl ho (b' := .dead) (o' := .deferred none) trivial
        have hrun : (Instr.takeDeferred (E.f k)).run P w = .ok [] { w with heap := w.heap.setIfInBounds (E.f k) (.deferred none) } := by
          simp [Instr.takeDeferred, getObj, setObj, Sem.run, ho]
        obtain ⟨E', w', hr', X', hs⟩ := takeAll_ok hP hR hb r h hr1 (fun j hj => hk j (by simp [hj])) { fr with defers := r.map E.dm } cs hm rfl
        refine ⟨E', w', hr', X1.trans X', .head (fstep_taken hm (by rw [hd]; rfl) hrun) hs⟩
      | _ => simp [hg] at h
  | .call f q args :: r, N, N', h, E, w, hr, hk, fr, cs, hm, hd => by
    simp only [takeAll, Option.bind_eq_some_iff] at h
    obtain ⟨⟨v, N1⟩, h1, h⟩ := h
    obtain ⟨hq, ha⟩ : DM.Clo E.D (.call f q args) := hk _ (by simp)
    obtain ⟨fn, hf, hbody⟩ := hb _ _ _ _ _ h1
    obtain ⟨E1, w1, fr1, hr1, X1, _, hs1, hfn1, hm1, hd1, hk1, fn1, hf1, hres1⟩ := hR.call _ _ _ _ _ h1 E w hr (by
      intro u hu
      rcases List.mem_append.1 hu with hu | hu
      · exact ha u hu
      · exact hq u hu) .deferred ({ fr with defers := r.map E.dm } :: cs) (.inr ⟨rfl, _, _, rfl, hm⟩)
    have hrun : (invoke (E.dm (.call f q args)).target (E.dm (.call f q args)).args).run P w = .ok (.enter f ((args ++ q).map E.m).toArray) w := by
      simp only [Env.dm, invoke]
      rw [run_callFunc hP hf hbody]
      congr 2
      apply Array.ext'
      simp
    have hdm : r.map E1.dm = r.map E.dm := List.map_congr_left fun d hd => dm_ext X1.op (fun k hk => (X1.mono k hk).2) (hk d (by simp [hd]))
    obtain ⟨E', w', hr', X', hs⟩ := takeAll_ok hP hR hb r h hr1 (fun j hj => (hk j (by simp [hj])).mono fun k hk => (X1.mono k hk).1) { fr with defers := r.map E.dm } cs hm (by rw [hdm])
    refine ⟨E', w', hr', X1.trans X', .head (fstep_deferred hm (by rw [hd]; rfl) ⟨_, _, rfl⟩ hrun) (hs1.trans (.head (fstep_deferred_end hm1 hd1 hk1 hm hf1 hres1) hs))⟩
def cresult (P : Program) (tmps : List Value) (N : CH) : List ResultVar → Option (List Value)
  | [] => some []
  | .tmp t :: r => (cresult P tmps N r).map (tmps.getD t undef :: ·)
  | .cell a t :: r => (cload P t (tmps.getD a undef) N).bind fun v => (cresult P tmps N r).map (v :: ·)
def cresults (P : Program) (fn : Func) (tmps : List Value) (N : CH) : Option Value :=
  (cresult P tmps N fn.results.toList).map fun vs => match vs with
    | [v] => v
    | vs => .tuple vs.toArray
theorem getD_m {E : Env} {tmps : List Value} (h : ∀ v ∈ tmps, Clo E.D v) (t : Nat) : (tmps.map E.m).toArray.getD t undef = E.m (tmps.getD t undef) ∧ Clo E.D (tmps.getD t undef) := by
  refine ⟨?_, ?_⟩
  · simp only [Array.getD_eq_getD_getElem?, List.getElem?_toArray, List.getElem?_map, List.getD_eq_getElem?_getD]
    cases tmps[t]? <;> rfl
  · rw [List.getD_eq_getElem?_getD]
    cases ht : tmps[t]? with
    | none => exact undef_clo _
    | some u => exact h u (List.mem_of_getElem? ht)
theorem result_ok {P : Program} {E : Env} {N : CH} {w : World} (R : Rel P E N w) {tmps : List Value} (h : ∀ v ∈ tmps, Clo E.D v) : ∀ (l : List ResultVar) {vs : List Value}, cresult P tmps N l = some vs →
    (l.mapM (fun (r : ResultVar) => match r with
      | .tmp t => pure ((tmps.map E.m).toArray.getD t undef)
      | .cell a t => do loadVar t (← asAddr ((tmps.map E.m).toArray.getD a undef))) : Sem (List Value)).run P w = .ok (vs.map E.m) w ∧ ∀ v ∈ vs, Clo E.D v
  | [], vs, hc => by
    simp only [cresult, Option.some.injEq] at hc
    subst hc
    exact ⟨rfl, by simp⟩
  | .tmp t :: r, vs, hc => by
    simp only [cresult, Option.map_eq_some_iff] at hc
    obtain ⟨us, hu, rfl⟩ := hc
    obtain ⟨h1, h2⟩ := result_ok R h r hu
    obtain ⟨h3, h4⟩ := getD_m (E := E) h t
    refine ⟨?_, ?_⟩
    · simp only [List.mapM_cons, Sem.run_bind, Sem.run_pure, Result.andThen_ok, h1, h3, List.map_cons]
    · intro v hv
      rcases List.mem_cons.1 hv with rfl | hv
      · exact h4
      · exact h2 v hv
  | .cell a t :: r, vs, hc => by
    simp only [cresult, Option.bind_eq_some_iff, Option.map_eq_some_iff] at hc
    obtain ⟨v, hv, us, hu, rfl⟩ := hc
    obtain ⟨h1, h2⟩ := result_ok R h r hu
    obtain ⟨h3, h4⟩ := getD_m (E := E) h a
    obtain ⟨h5, h6⟩ := load_ok R h4 hv
    have h7 : (do loadVar t (← asAddr (E.m (tmps.getD a undef))) : Sem Value).run P w = .ok (E.m v) w := by
      have hp : ∃ ad, tmps.getD a undef = .pointer (some ad) := by
        unfold cload at hv
        split at hv
        · exact ⟨_, by assumption⟩
        · cases hv
      obtain ⟨ad, hp⟩ := hp
      rw [hp] at h5 ⊢
      exact h5
    refine ⟨?_, ?_⟩
    · simp only [List.mapM_cons, h3]
      rw [Sem.run_bind, h7]
      simp only [Result.andThen_ok, Sem.run_bind, h1, Sem.run_pure, List.map_cons]
    · intro u hu'
      rcases List.mem_cons.1 hu' with rfl | hu'
      · exact h6
      · exact h2 u hu'
theorem results_ok {P : Program} {E : Env} {N : CH} {w : World} (R : Rel P E N w) {fn : Func} {tmps : List Value} (h : ∀ v ∈ tmps, Clo E.D v) {v : Value} (hc : cresults P fn tmps N = some v) :
    (results fn (tmps.map E.m).toArray).run P w = .ok (E.m v) w ∧ Clo E.D v := by
  unfold cresults at hc
  obtain ⟨vs, hvs, e⟩ := Option.map_eq_some_iff.1 hc
  obtain ⟨h1, h2⟩ := result_ok R h _ hvs
  have hrun : (results fn (tmps.map E.m).toArray).run P w = .ok (if hs : (vs.map E.m).toArray.size = 1 then (vs.map E.m).toArray[0] else .tuple (vs.map E.m).toArray) w := by
    unfold results
    rw [Array.mapM_eq_mapM_toList]
    simp only [Sem.run_bind, Sem.run_map, bind_map_left]
    exact congrArg (fun r => Result.andThen r fun a w' => Sem.run P (pure (if h : a.toArray.size = 1 then a.toArray[0] else Value.tuple a.toArray)) w') h1
  rw [hrun]
  match vs, e, h2 with
  | [u], e, h2 =>
    simp only at e
    subst e
    exact ⟨by simp, h2 u (by simp)⟩
  | [], e, h2 =>
    simp only at e
    subst e
    exact ⟨by simp [Env.m, mv_tuple], Clo_tuple.2 (by simp)⟩
  | u1 :: u2 :: us, e, h2 =>
    simp only at e
    subst e
    refine ⟨?_, Clo_tuple.2 (by simpa using h2)⟩
    have : ¬ (((u1 :: u2 :: us).map E.m).toArray.size = 1) := by simp
    rw [dif_neg this]
    simp only [Env.m, mv_tuple, List.map_toArray]
    rfl

def callBody (P : Program) (R : Rec) (L : Nat) (f : FuncId) (args : List Value) (N : CH) : Option (Value × CH) :=
  match P.funcs[f]? with
  | none => none
  | some fn =>
    match fn.body with
    | none => none
    | some c =>
      match exec P R L f none c ⟨args ++ List.replicate (fn.ntmps - args.length) undef, []⟩ N with
      | some (.exit _, _, _) => none
      | some (_, a, N1) => (takeAll R a.dm N1).bind fun N2 => (cresults P fn a.tmps N2).map fun v => (v, N2)
      | none => none
theorem callBody_ok {P : Program} (hP : NoCount P) (hm : P.follows .mixedOrders = true) {R : Rec} (hR : RecOk P R) (hcb : ∀ f args N v N', R.call f args N = some (v, N') → ∃ fn, P.funcs[f]? = some fn ∧ fn.body.isSome = true) {L : Nat} {f : FuncId} {args : List Value} {N N' : CH} {v : Value} (h : callBody P R L f args N = some (v, N')) : CallOk P f args N v N' := by
  intro E w hr hargs kd cs hcaller
  unfold callBody at h
  cases hf : P.funcs[f]? with
  | none => simp [hf] at h
  | some fn =>
    cases hb : fn.body with
    | none => simp [hf, hb] at h
    | some c =>
      simp only [hf, hb] at h
      have ha0 : CA.Clo E.D ⟨args ++ List.replicate (fn.ntmps - args.length) undef, []⟩ := by
        refine ⟨?_, by simp⟩
        intro u hu
        rcases List.mem_append.1 hu with h1 | h1
        · exact hargs u h1
        · rw [(List.mem_replicate.1 h1).2]; exact undef_clo _
      have henter : Frame.enter P f (args.map E.m).toArray kd = fat { (default : Frame) with fn := f, kind := kd } (E.act ⟨args ++ List.replicate (fn.ntmps - args.length) undef, []⟩) [.code c] := by
        simp only [Frame.enter, hf, Option.bind_some, hb, Option.map_some, Option.getD_some, fat, Env.act, List.map_nil]
        congr 1
        apply Array.ext'
        simp [m_undef]
      -- the body has come to its end, or to a return
      have fin : ∀ (e : Ex) (a : CA) (N1 : CH) (E1 : Env) (w1 : World), (takeAll R a.dm N1).bind (fun N2 => (cresults P fn a.tmps N2).map fun v => (v, N2)) = some (v, N') → Rel P E1 N1 w1 → a.Clo E1.D → ∀ fr : Frame,
          fr.mode = .returning → fr.defers = (E1.act a).defers → fr.tmps = (E1.act a).tmps → fr.fn = f → fr.kind = kd →
          ∃ E2 w' fr', Rel P E2 N' w' ∧ Ext E1 N1 w1 E2 N' w' ∧ Clo E2.D v ∧ Steps P (lone fr cs w1) (lone fr' cs w') ∧ fr'.fn = f ∧ Ready P fr' kd w' (E2.m v) := by
        intro e a N1 E1 w1 hh hr1 ha1 fr hmode hdef htm hfn hkind
        simp only [Option.bind_eq_some_iff, Option.map_eq_some_iff] at hh
        obtain ⟨N2, h2, v', h3, h4⟩ := hh
        cases h4
        obtain ⟨E2, w', hr2, X2, hs⟩ := takeAll_ok hP hR hcb a.dm h2 hr1 ha1.dm fr cs hmode hdef
        obtain ⟨hact, ha2⟩ := X2.act ha1
        obtain ⟨hres, hv⟩ := results_ok hr2 ha2.tmps h3
        refine ⟨E2, w', _, hr2, X2, hv, hs, hfn, hmode, rfl, hkind, fn, by rw [← hf, ← hfn], ?_⟩
        rw [← hres]
        show (results fn fr.tmps).run P w' = _
        rw [htm, ← hact]
        rfl
      cases hx : exec P R L f none c ⟨args ++ List.replicate (fn.ntmps - args.length) undef, []⟩ N with
      | none => simp [hx] at h
      | some r =>
        obtain ⟨e, a, N1⟩ := r
        obtain ⟨E1, w1, hr1, X1, ha1, s1⟩ := exec_ok hP hm hR L f none c _ _ _ _ _ hx E w hr ha0 (by simp) { (default : Frame) with fn := f, kind := kd } rfl rfl [] cs (fun _ => hcaller)
        rw [← henter] at s1
        cases e with
        | exit id => simp [hx] at h
        | normal =>
          simp only [hx] at h
          obtain ⟨E2, w', fr', hr', X', hv, hs, h1, h2⟩ := fin .normal a N1 E1 w1 h hr1 ha1 { fat { (default : Frame) with fn := f, kind := kd } (E1.act a) [] with mode := .returning } rfl rfl rfl rfl rfl
          exact ⟨E2, w', fr', hr', X1.trans X', hv, Steps.trans s1 (.head (fstep_end rfl) hs), h1, h2⟩
        | ret =>
          simp only [hx] at h
          obtain ⟨t, ht⟩ := s1
          obtain ⟨E2, w', fr', hr', X', hv, hs, h1, h2⟩ := fin .ret a N1 E1 w1 h hr1 ha1 { fat { (default : Frame) with fn := f, kind := kd } (E1.act a) (.code .ret :: t) with mode := .returning } rfl rfl rfl rfl rfl
          exact ⟨E2, w', fr', hr', X1.trans X', hv, ht.trans (.head (fstep_ret rfl) hs), h1, h2⟩

def roundBody (P : Program) (R : Rec) (L : Nat) (l : Nat) (f : FuncId) (tmps : List Value) (as bd : Code) (N : CH) : Option (Value × CH) :=
  match exec P R L f (some l) as ⟨tmps, []⟩ N with
  | some (.normal, a1, N1) =>
    (cbegin l N1).bind fun N2 =>
    match exec P R L f (some l) bd a1 N2 with
    | some (e, _, N3) => cendRound l e.jump N3
    | none => none
  | _ => none
theorem roundBody_ok {P : Program} (hP : NoCount P) (hm : P.follows .mixedOrders = true) {R : Rec} (hR : RecOk P R) {L : Nat} {l : Nat} {f : FuncId} {tmps : List Value} {as bd : Code} {N N' : CH} {v : Value}
    (h : roundBody P R L l f tmps as bd N = some (v, N')) : RoundOk P l f tmps as bd N v N' := by
  intro E w hr hl htmps c cs
  unfold roundBody at h
  cases hx : exec P R L f (some l) as ⟨tmps, []⟩ N with
  | none => simp [hx] at h
  | some r =>
    obtain ⟨e1, a1, N1⟩ := r
    cases e1 with
    | ret => simp [hx] at h
    | exit id => simp [hx] at h
    | normal =>
      simp only [hx, Option.bind_eq_some_iff] at h
      obtain ⟨N2, h2, h⟩ := h
      have hl' : ∀ j, some l = some j → E.D j := fun j e => by cases e; exact hl
      have hfr : Frame.round (E.f l) f (tmps.map E.m).toArray as bd .normal = fat { (default : Frame) with fn := f, kind := .normal, roundOf := some (E.f l) } (E.act ⟨tmps, []⟩) [.code as, .beginRound, .code bd] := rfl
      obtain ⟨E1, w1, hr1, X1, ha1, s1⟩ := exec_ok hP hm hR L f (some l) as _ _ _ _ _ hx E w hr ⟨htmps, by simp⟩ hl' { (default : Frame) with fn := f, kind := .normal, roundOf := some (E.f l) } rfl rfl [.beginRound, .code bd] (c :: cs) (fun h => by cases h)
      obtain ⟨hlD, hlf, _⟩ := X1.mono l hl
      obtain ⟨w2, hr2, X2, hbeg⟩ := beginRound_ok hr1 hlD h2
      have hstb := fstep_beginRound (P := P) (b := { (default : Frame) with fn := f, kind := .normal, roundOf := some (E.f l) }) (a := E1.act a1) (k := [.code bd]) (cs := c :: cs) (w := w1) (l := E.f l) rfl (by rw [← hlf]; exact hbeg)
      obtain ⟨hact2, ha2⟩ := X2.act ha1
      cases hx2 : exec P R L f (some l) bd a1 N2 with
      | none => simp [hx2] at h
      | some r2 =>
        obtain ⟨e, a2, N3⟩ := r2
        simp only [hx2] at h
        obtain ⟨E3, w3, hr3, X3, ha3, s3⟩ := exec_ok hP hm hR L f (some l) bd _ _ _ _ _ hx2 E1 w2 hr2 ha2 (fun j e => by cases e; exact hlD) { (default : Frame) with fn := f, kind := .normal, roundOf := some (E.f l) } rfl (by simp [hlf]) [] (c :: cs) (fun h => by cases h)
        obtain ⟨hlD3, hlf3, _⟩ := X3.mono l hlD
        obtain ⟨w4, hr4, X4, hv, hend⟩ := endRound_ok hr3 hlD3 h
        rw [hlf3, hlf] at hend
        have hto : Steps P (lone (Frame.round (E.f l) f (tmps.map E.m).toArray as bd .normal) (c :: cs) w) (lone (fat { (default : Frame) with fn := f, kind := .normal, roundOf := some (E.f l) } (E1.act a1) [.code bd]) (c :: cs) w2) := by
          rw [hfr]
          exact Steps.trans s1 (.one hstb)
        refine ⟨E3, w4, hr4, X1.trans (X2.trans (X3.trans X4)), hv, hto.trans ?_⟩
        cases e with
        | normal => exact Steps.trans s3 (.one (fstep_round_end rfl rfl hend))
        | ret =>
          obtain ⟨t, ht⟩ := s3
          exact ht.trans (.one (fstep_round_ret rfl rfl hend))
        | exit id =>
          obtain ⟨t, hte, ht⟩ := s3
          exact ht.trans (.one (fstep_round_exit rfl rfl hte hend))

def noRec : Rec := ⟨fun _ _ _ => none, fun _ _ _ _ _ _ => none⟩
/-- Calls nested at most n deep, loops of at most L rounds. -/
def mkRec (P : Program) (L : Nat) : Nat → Rec
  | 0 => noRec
  | n + 1 => ⟨callBody P (mkRec P L n) L, roundBody P (mkRec P L n) L⟩
theorem mkRec_body {P : Program} {L : Nat} : ∀ n f args N v N', (mkRec P L n).call f args N = some (v, N') → ∃ fn, P.funcs[f]? = some fn ∧ fn.body.isSome = true
  | 0, _, _, _, _, _, h => by cases h
  | n + 1, f, args, N, v, N', h => by
    simp only [mkRec, callBody] at h
    split at h
    · cases h
    · rename_i fn hf
      split at h
      · cases h
      · rename_i c hb
        exact ⟨fn, hf, by rw [hb]; rfl⟩
theorem mkRec_ok {P : Program} (hP : NoCount P) (hm : P.follows .mixedOrders = true) (L : Nat) : ∀ n, RecOk P (mkRec P L n)
  | 0 => ⟨fun _ _ _ _ _ h => (by cases h), fun _ _ _ _ _ _ _ _ h => (by cases h)⟩
  | n + 1 => ⟨fun _ _ _ _ _ h => callBody_ok hP hm (mkRec_ok hP hm L n) (mkRec_body n) h, fun _ _ _ _ _ _ _ _ h => roundBody_ok hP hm (mkRec_ok hP hm L n) h⟩

/-- Nothing realized but the package's variables; 'o' for what is only handed on. -/
def Env.bare (o : Nat → Value) (one : ∀ r, (o r).oneCell' = true) : Env := ⟨⟨fun k => k, fun _ => 0, fun _ => 0, o, one⟩, fun k => k < LIM⟩
/-- The first heap: it holds these variables. -/
def CH.first (l : List (Option CB)) : CH := CH.ofFn LIM fun k => (l[k]?).getD none
def CH.heads (N : CH) : List (Option CB) := (List.range LIM).map N.get
/-- The model's memory has these variables. -/
def Laid (l : List (Option CB)) (w : World) : Prop := ∀ k b, k < LIM → l[k]? = some (some b) → ∃ c e, b = .row c e false ∧ plainL c = true ∧ w.heap[k]? = some (.cells c.toArray e)
theorem CH.first_get {l : List (Option CB)} {k : Nat} (h : k < LIM) {b : CB} : (CH.first l).get k = some b ↔ l[k]? = some (some b) := by
  unfold CH.first
  rw [CH.get_ofFn _ h]
  cases hl : l[k]? with
  | none => simp
  | some x => simp
theorem rel_first {P : Program} {l : List (Option CB)} {w : World} (h : Laid l w) (o : Nat → Value) (one : ∀ r, (o r).oneCell' = true) : Rel P (Env.bare o one) (CH.first l) w := by
  refine ⟨CH.ok_ofFn _, fun g hg => ⟨hg, rfl, rfl⟩, fun k hk => hk, fun i j _ _ _ _ e => e, ?_⟩
  intro k b hk hb
  have hk : k < LIM := hk
  obtain ⟨c, e, rfl, hc, hw⟩ := h k b hk ((CH.first_get hk).1 hb)
  refine ⟨fun v hv => Clo_plain _ _ (plainL_all.1 hc v hv), [], [], 0, 0, ?_, rfl, ⟨Nat.le_refl _, fun i _ h => by omega⟩, by simp [Env.bare], fun _ => ⟨rfl, rfl⟩⟩
  rw [map_plain _ (plainL_all.1 hc)]
  show w.heap[k]? = _
  rw [hw]
  simp
theorem kept_first {P : Program} {l : List (Option CB)} {w w' : World} (h : Laid l w) {o : Nat → Value} {one : ∀ r, (o r).oneCell' = true} {E' : Env} {N' : CH} (R' : Rel P E' N' w') (X : Ext (Env.bare o one) (CH.first l) w E' N' w')
    (hk : N'.heads = (CH.first l).heads) : ∀ b, b < w.heap.size → w'.heap[b]? = w.heap[b]? := by
  intro b hb
  by_cases hl : b < LIM ∧ ∃ cb, l[b]? = some (some cb)
  · obtain ⟨hlt, cb, hcb⟩ := hl
    obtain ⟨c, e, rfl, hc, hw⟩ := h b cb hlt hcb
    have hg : N'.get b = some (.row c e false) := by
      have h1 := congrArg (fun x => x[b]?) hk
      simp only [CH.heads, List.getElem?_map, List.getElem?_range hlt, Option.map_some, Option.some.injEq] at h1
      rw [h1]
      exact (CH.first_get hlt).2 hcb
    obtain ⟨hD, hf, hs⟩ := R'.gl b hlt
    obtain ⟨_, pre, sp, lo, hi, hh, hp, _, hel, hm⟩ := R'.row hD hg
    obtain ⟨rfl, rfl⟩ := hm hlt
    simp only [Bool.false_eq_true, if_false] at hel
    obtain ⟨rfl, _⟩ := hel
    rw [hs] at hp
    have hp : pre = [] := List.length_eq_zero_iff.1 hp
    subst hp
    rw [hf, map_plain _ (plainL_all.1 hc)] at hh
    rw [hh, hw]
    simp
  · refine X.frame b hb ?_
    intro k hk' hlive e
    have hk' : k < LIM := hk'
    have e : k = b := e
    subst e
    obtain ⟨cb, hcb, _⟩ := hlive
    exact hl ⟨hk', cb, (CH.first_get hk').1 hcb⟩
/-- A call from the first heap, with arguments that name no block and may hold values that are only handed on: what it answers, the model answers from any memory that has these variables, and it leaves that as it was. -/
theorem calls_opaque {P : Program} (hP : NoCount P) (hm : P.follows .mixedOrders = true) {L n : Nat} {f : FuncId} {args : List Value} {v : Value} (l : List (Option CB)) (o : Nat → Value) (one : ∀ r, (o r).oneCell' = true)
    (hargs : ∀ u ∈ args, Clo (fun k => k < LIM) u) (hv : plain v = true)
    (h : ((mkRec P L n).call f args (CH.first l)).map (fun r => (r.1, r.2.heads)) = some (v, (CH.first l).heads)) (w : World) (hw : Laid l w) :
    Calls P f (args.map (Env.m (Env.bare o one))).toArray w fun e w' => e = .returned v ∧ w.heap.size ≤ w'.heap.size ∧ (∀ b, b < w.heap.size → w'.heap[b]? = w.heap[b]?) ∧ w'.os = w.os ∧ w'.tape = w.tape ∧ w'.output = w.output := by
  intro cs
  obtain ⟨⟨v', N'⟩, h1, h2⟩ := Option.map_eq_some_iff.1 h
  simp only [Prod.mk.injEq] at h2
  obtain ⟨rfl, h2⟩ := h2
  obtain ⟨E', w', fr, hr', X, _, hs, hfn, hl⟩ := (mkRec_ok hP hm L n).call _ _ _ _ _ h1 _ w (rel_first hw o one) hargs .normal cs (.inl rfl)
  rw [m_plain E' hv] at hl
  exact ⟨.returned v', w', fr, ⟨rfl, X.hsize, kept_first hw hr' X h2, X.os, X.tape, X.output⟩, hs, hfn, hl.leaving⟩
/-- A call with arguments that name no block. -/
theorem calls_closed {P : Program} (hP : NoCount P) (hm : P.follows .mixedOrders = true) {L n : Nat} {f : FuncId} {args : List Value} {v : Value} (l : List (Option CB)) (hargs : plainL args = true) (hv : plain v = true)
    (h : ((mkRec P L n).call f args (CH.first l)).map (fun r => (r.1, r.2.heads)) = some (v, (CH.first l).heads)) (w : World) (hw : Laid l w) :
    Calls P f args.toArray w fun e w' => e = .returned v ∧ w.heap.size ≤ w'.heap.size ∧ (∀ b, b < w.heap.size → w'.heap[b]? = w.heap[b]?) ∧ w'.os = w.os ∧ w'.tape = w.tape ∧ w'.output = w.output := by
  have := calls_opaque hP hm l (fun _ => .nilFunc) (fun _ => rfl) (fun u hu => Clo_plain _ u (plainL_all.1 hargs u hu)) hv h w hw
  rwa [map_plain _ (plainL_all.1 hargs)] at this
theorem laid_none (w : World) : Laid [] w := fun _ _ _ h => by cases h

end Go.Eng
