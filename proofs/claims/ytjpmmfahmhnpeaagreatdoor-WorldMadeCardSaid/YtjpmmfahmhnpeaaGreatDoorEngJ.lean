/-
  The engine, part J: the plain doing of code, of calls and of rounds, and that the model does just that. (Regions that leave their order open: part K.)
-/
import Derived.Test.YtjpmmfahmhnpeaaGreatDoorEngI
namespace Go.Eng
set_option linter.unusedSimpArgs false
set_option linter.unusedVariables false

/-- What is deferred: the mark of a loop over a function, or a call (what is captured; the arguments). -/
inductive DM where
  | coll (k : Nat)
  | call (f : FuncId) (q args : List Value)
def Env.dm (E : Env) : DM → Deferred
  | .coll k => { target := .collected (E.f k), args := #[] }
  | .call f q args => { target := .fn (.func f) (q.map E.m).toArray, args := (args.map E.m).toArray }
def DM.Clo (D : Nat → Prop) : DM → Prop
  | .coll k => D k
  | .call _ q args => (∀ v ∈ q, Eng.Clo D v) ∧ ∀ v ∈ args, Eng.Clo D v
structure CA where
  tmps : List Value
  dm : List DM

def Env.act (E : Env) (a : CA) : Act := { tmps := (a.tmps.map E.m).toArray, defers := a.dm.map E.dm }
structure CA.Clo (D : Nat → Prop) (a : CA) : Prop where
  tmps : ∀ v ∈ a.tmps, Eng.Clo D v
  dm : ∀ d ∈ a.dm, d.Clo D
theorem DM.Clo.mono {D D' : Nat → Prop} (h : ∀ k, D k → D' k) {d : DM} (hd : d.Clo D) : d.Clo D' := by
  cases d with
  | coll k => exact h k hd
  | call f q args => exact ⟨fun v hv => Clo_mono h v (hd.1 v hv), fun v hv => Clo_mono h v (hd.2 v hv)⟩
theorem dm_ext {E E' : Env} (ho : E'.o = E.o) (h : ∀ k, E.D k → E'.f k = E.f k ∧ E'.x k = E.x k ∧ E'.s k = E.s k) {d : DM} (hd : d.Clo E.D) : E'.dm d = E.dm d := by
  have hm : ∀ v, Eng.Clo E.D v → E'.m v = E.m v := fun v hv => mv_ext ho h v hv
  cases d with
  | coll k => simp only [Env.dm, (h k hd).1]
  | call f q args =>
    simp only [Env.dm]
    rw [List.map_congr_left fun v hv => hm v (hd.1 v hv), List.map_congr_left fun v hv => hm v (hd.2 v hv)]
def CA.put (a : CA) (dst : Option Tmp) (v : Value) : CA :=
  match dst with
  | some d => { a with tmps := a.tmps.set d v }
  | none => a
theorem act_put (E : Env) (a : CA) (dst : Option Tmp) (v : Value) : (E.act a).put dst (E.m v) = E.act (a.put dst v) := by
  cases dst with
  | none => rfl
  | some d => simp [Env.act, Act.put, CA.put, List.map_set]
theorem act_put_undef (E : Env) (a : CA) (dst : Option Tmp) : (E.act a).put dst undef = E.act (a.put dst undef) := act_put E a dst undef
theorem CA.Clo.put {D : Nat → Prop} {a : CA} (h : a.Clo D) (dst : Option Tmp) {v : Value} (hv : Eng.Clo D v) : (a.put dst v).Clo D := by
  cases dst with
  | none => exact h
  | some d =>
    refine ⟨?_, h.dm⟩
    intro u hu
    rcases List.mem_or_eq_of_mem_set hu with h1 | h1
    · exact h.tmps u h1
    · rw [h1]; exact hv
theorem Ext.act {E E' : Env} {N N' : CH} {w w' : World} (X : Ext E N w E' N' w') {a : CA} (h : a.Clo E.D) : E'.act a = E.act a ∧ a.Clo E'.D := by
  refine ⟨?_, ⟨fun v hv => X.clo (h.tmps v hv), fun d hd => (h.dm d hd).mono fun k hk => (X.mono k hk).1⟩⟩
  have h1 : a.tmps.map E'.m = a.tmps.map E.m := List.map_congr_left fun v hv => X.m (h.tmps v hv)
  have h2 : a.dm.map E'.dm = a.dm.map E.dm := List.map_congr_left fun d hd => dm_ext X.op (fun k hk => (X.mono k hk).2) (h.dm d hd)
  unfold Env.act
  rw [h1, h2]

def cev (a : CA) : Ev
  | .tmp t => some (a.tmps.getD t undef)
  | .const v => if plain v = true then some v else none
  | .func f => some (.func (.func f) #[] #[])
  | .global g => if g < LIM then some (.pointer (some ⟨g, 0, none⟩)) else none
theorem undef_clo (D : Nat → Prop) : Clo D undef := Clo_tuple.2 (by simp)
theorem m_undef (E : Env) : E.m undef = undef := rfl
theorem m_global {E : Env} {g : Nat} (h : E.D g ∧ E.f g = g ∧ E.s g = 0) : E.m (.pointer (some ⟨g, 0, none⟩)) = .pointer (some ⟨g, 0, none⟩) := by
  simp [Env.m, mv, h.2.1, h.2.2]
theorem clo_global {E : Env} {g : Nat} (h : E.D g ∧ E.f g = g ∧ E.s g = 0) : Clo E.D (.pointer (some ⟨g, 0, none⟩)) := by
  simp [Clo, h.1]
theorem cev_ok {E : Env} {a : CA} (hgl : E.Gl) (h : a.Clo E.D) : EvOk E (cev a) (E.act a).eval := by
  intro x v hx
  cases x with
  | tmp t =>
    simp only [cev, Option.some.injEq] at hx
    subst hx
    refine ⟨?_, ?_⟩
    · simp only [Act.eval, Env.act, Array.getD_eq_getD_getElem?, List.getElem?_toArray, List.getElem?_map, List.getD_eq_getElem?_getD]
      cases a.tmps[t]? <;> rfl
    · rw [List.getD_eq_getElem?_getD]
      cases ht : a.tmps[t]? with
      | none => exact undef_clo _
      | some u => exact h.tmps u (List.mem_of_getElem? ht)
  | const u =>
    simp only [cev] at hx
    split at hx
    · cases hx; exact ⟨(m_plain E (by assumption)).symm, Clo_plain _ _ (by assumption)⟩
    · cases hx
  | func f =>
    simp only [cev, Option.some.injEq] at hx
    subst hx
    exact ⟨rfl, ⟨trivial, trivial, trivial⟩⟩
  | global g =>
    simp only [cev] at hx
    split at hx
    · rename_i hg
      cases hx
      exact ⟨(m_global (hgl g hg)).symm, clo_global (hgl g hg)⟩
    · cases hx

def cyielded (ops : Array Oper) (tmps : List Value) (j : Nat) : Option Bool :=
  match ((ops[j]?).bind (·.dst)).bind (tmps[·]?) with
  | some (.bool b) => some b
  | _ => none
/-- What an operation's guard yields is known: it is none of the values that are only handed on. -/
def guardSeen (ops : Array Oper) (tmps : List Value) (o : Oper) : Bool :=
  match o.guard with
  | none => true
  | some (g, _) => match ((ops[g]?).bind (·.dst)).bind (tmps[·]?) with
    | some (.chan (some _)) => false
    | _ => true
theorem m_bool_iff (E : Env) (v : Value) (b : Bool) (hv : ∀ r, v ≠ .chan (some r)) : E.m v = .bool b ↔ v = .bool b := by
  cases v with
  | pointer a => cases a <;> simp [Env.m, mv]
  | slice a => cases a <;> simp [Env.m, mv]
  | map a => cases a <;> simp [Env.m, mv]
  | chan a =>
    cases a with
    | none => simp [Env.m, mv]
    | some r => exact absurd rfl (hv r)
  | func g p q => rw [m_func]; simp
  | agg cs => simp [Env.m, mv_agg]
  | tuple cs => simp [Env.m, mv_tuple]
  | _ => simp [Env.m, mv]
theorem yielded_at {E : Env} {ops : Array Oper} {a : CA} {tmps : Array Value} {g : Nat} (ht : ∀ x, ((ops[g]?).bind (·.dst)) = some x → tmps[x]? = (a.tmps[x]?).map E.m)
    (h : ∀ r, ((ops[g]?).bind (·.dst)).bind (a.tmps[·]?) ≠ some (.chan (some r))) : yielded ops tmps g = cyielded ops a.tmps g := by
  unfold yielded cyielded
  have h1 : ((ops[g]?).bind (·.dst)).bind (tmps[·]?) = (((ops[g]?).bind (·.dst)).bind (a.tmps[·]?)).map E.m := by
    cases hd : (ops[g]?).bind (·.dst) with
    | none => rfl
    | some x => exact ht x hd
  rw [h1]
  cases hv : ((ops[g]?).bind (·.dst)).bind (a.tmps[·]?) with
  | none => rfl
  | some v =>
    have hne : ∀ r, v ≠ .chan (some r) := fun r e => h r (by rw [hv, e])
    simp only [Option.map_some]
    by_cases hb : ∃ b, v = .bool b
    · obtain ⟨b, rfl⟩ := hb; rfl
    · have h1 : ∀ b, E.m v ≠ .bool b := fun b e => hb ⟨b, (m_bool_iff E v b hne).1 e⟩
      split
      · rename_i b he; simp only [Option.some.injEq] at he; exact absurd he (h1 b)
      · split
        · rename_i b he; simp only [Option.some.injEq] at he; exact absurd ⟨b, he⟩ hb
        · rfl
theorem wanted_at {E : Env} {ops : Array Oper} {a : CA} {tmps : Array Value} {o : Oper} (hg : guardSeen ops a.tmps o = true)
    (ht : ∀ g want x, o.guard = some (g, want) → (ops[g]?).bind (·.dst) = some x → tmps[x]? = (a.tmps[x]?).map E.m) : Region.wanted o (yielded ops tmps) = Region.wanted o (cyielded ops a.tmps) := by
  unfold Region.wanted
  unfold guardSeen at hg
  cases hgu : o.guard with
  | none => rfl
  | some gw =>
    obtain ⟨g, want⟩ := gw
    simp only [hgu] at hg ⊢
    rw [yielded_at (ht g want · hgu) (fun r e => by rw [e] at hg; cases hg)]
theorem wanted_act (E : Env) {ops : Array Oper} {a : CA} {o : Oper} (hg : guardSeen ops a.tmps o = true) : Region.wanted o (yielded ops (E.act a).tmps) = Region.wanted o (cyielded ops a.tmps) :=
  wanted_at (E := E) hg (fun _ _ x _ _ => by simp [Env.act])

/-- What calls and rounds come to. -/
structure Rec where
  call : FuncId → List Value → CH → Option (Value × CH)
  round : Nat → FuncId → List Value → Code → Code → CH → Option (Value × CH)

/-- A call is deferred; recover, where nothing panics. (Neither in a loop's round.) -/
def cdefer (ev : Ev) (o : Oper) : Option DM :=
  match o.op with
  | .defer c => match c.callee with
    | .value f => match ev f, evL ev c.args.toList with
      | some (.func (.func f) p q), some args => some (.call f q.toList (p.toList ++ args))
      | _, _ => none
    | _ => none
  | _ => none
def crecover (o : Oper) : Bool :=
  match o.op with
  | .call c => match c.callee with
    | .builtin .recover => true
    | _ => false
  | _ => false
theorem cdefer_ok {E : Env} {a : CA} (hgl : E.Gl) (ha : a.Clo E.D) {o : Oper} {d : DM} (h : cdefer (cev a) o = some d) (w : World) (P : Program) :
    d.Clo E.D ∧ ∃ c, o.op = .defer c ∧ (execOp (E.act a).eval o).run P w = .ok (.defer (E.dm d)) w := by
  unfold cdefer at h
  split at h
  · rename_i c ho'
    split at h
    · rename_i fo hcal
      split at h
      · rename_i g p q args hf hargs
        cases h
        obtain ⟨hf1, hf2⟩ := cev_ok hgl ha fo _ hf
        obtain ⟨ha1, ha2⟩ := evL_ok (cev_ok hgl ha) hargs
        have hpq : (∀ u ∈ p.toList, Clo E.D u) ∧ (∀ u ∈ q.toList, Clo E.D u) := by
          obtain ⟨p⟩ := p; obtain ⟨q⟩ := q
          exact ⟨CloL_all.1 hf2.2.1, CloL_all.1 hf2.2.2⟩
        refine ⟨⟨hpq.2, ?_⟩, c, ho', ?_⟩
        · intro u hu
          rcases List.mem_append.1 hu with hu | hu
          · exact hpq.1 u hu
          · exact ha2 u hu
        · have e1 : c.args.map (E.act a).eval = (args.map E.m).toArray := by apply Array.ext'; simpa using ha1
          have e2 : E.m (.func (.func g) p q) = .func (.func g) (p.map E.m) (q.map E.m) := m_func E (.func g) p q
          simp only [execOp, ho', resolve, hcal, e1, hf1, e2, Deferred.ofValue, pure_bind, Sem.run_pure, Env.dm]
          have e3 : (q.toList.map E.m).toArray = q.map E.m := by apply Array.ext'; simp
          have e4 : ((p.toList ++ args).map E.m).toArray = p.map E.m ++ (args.map E.m).toArray := by apply Array.ext'; simp
          rw [e3, e4]
      · cases h
    · cases h
  · cases h
theorem crecover_ok {a : Act} {o : Oper} (h : crecover o = true) (P : Program) (w : World) : ∃ c, o.op = .call c ∧ (execOp a.eval o).run P w = .ok .recover w := by
  unfold crecover at h
  split at h
  · rename_i c ho'
    split at h
    · rename_i hcal
      exact ⟨c, ho', by simp [execOp, ho', resolve, hcal, invoke, builtin]⟩
    · cases h
  · cases h
def opStep (P : Program) (R : Rec) (ops : Array Oper) (ar : Option Nat) (i : Nat) (a : CA) (N : CH) : Option (CA × CH) :=
  match ops[i]? with
  | none => none
  | some o =>
    if guardSeen ops a.tmps o = false then none else
    if Region.wanted o (cyielded ops a.tmps) = true then
      match cop P (cev a) o N with
      | some (.val v, N') => some (a.put o.dst v, N')
      | some (.skip, N') => some (a.put o.dst undef, N')
      | some (.enter f args, N') => (R.call f args N').map fun r => (a.put o.dst r.1, r.2)
      | some (.round l f tmps as bd, N') => (R.round l f tmps as bd N').map fun r => (a.put o.dst r.1, r.2)
      | none => if ar.isSome = true then none else match cdefer (cev a) o with
        | some d => some ({ a.put o.dst undef with dm := d :: a.dm }, N)
        | none => if crecover o = true then some (a.put o.dst .nilIface, N) else none
    else some (a.put o.dst undef, N)
def opList (P : Program) (R : Rec) (ops : Array Oper) (ar : Option Nat) : List Nat → CA → CH → Option (CA × CH)
  | [], a, N => some (a, N)
  | i :: r, a, N => (opStep P R ops ar i a N).bind fun x => opList P R ops ar r x.1 x.2

inductive Ex where
  | normal
  | ret
  | exit (id : Nat)

def Arr (P : Program) (m : Machine) (b : Frame) (k : List Item) (cs : List Frame) : Ex → Act → World → Prop
  | .normal, a, w => Steps P m (lone (fat b a k) cs w)
  | .ret, a, w => ∃ todo, Steps P m (lone (fat b a (.code .ret :: todo)) cs w)
  | .exit id, a, w => ∃ todo, exitTo id todo = exitTo id k ∧ Steps P m (lone (fat b a (.code (.exit id) :: todo)) cs w)
theorem Arr.of_steps {P : Program} {m m1 : Machine} {b : Frame} {k : List Item} {cs : List Frame} {e : Ex} {a : Act} {w : World} (h : Steps P m m1) (h' : Arr P m1 b k cs e a w) : Arr P m b k cs e a w := by
  cases e with
  | normal => exact h.trans h'
  | ret => obtain ⟨t, ht⟩ := h'; exact ⟨t, h.trans ht⟩
  | exit id => obtain ⟨t, h1, ht⟩ := h'; exact ⟨t, h1, h.trans ht⟩

/-- A frame is about to hand its result back. -/
def Ready (P : Program) (fr : Frame) (kd : CallKind) (w : World) (v : Value) : Prop :=
  fr.mode = .returning ∧ fr.defers = [] ∧ fr.kind = kd ∧ ∃ fn, P.funcs[fr.fn]? = some fn ∧ (results fn fr.tmps).run P w = .ok v w
theorem Ready.leaving {P : Program} {fr : Frame} {w : World} {v : Value} (h : Ready P fr .normal w v) : fr.leaving P w (.returned v) := h
/-- Who calls: an operation, or a frame that returns and has deferred it. -/
def Caller (kd : CallKind) (cs : List Frame) : Prop := kd = .normal ∨ (kd = .deferred ∧ ∃ c r, cs = c :: r ∧ c.mode = .returning)
/-- Nothing is to be recovered. -/
def Calm (b : Frame) (cs : List Frame) : Prop := b.roundOf = none → Caller b.kind cs
def CallOk (P : Program) (f : FuncId) (args : List Value) (N : CH) (v : Value) (N' : CH) : Prop :=
  ∀ E w, Rel P E N w → (∀ u ∈ args, Clo E.D u) → ∀ kd cs, Caller kd cs → ∃ E' w' fr, Rel P E' N' w' ∧ Ext E N w E' N' w' ∧ Clo E'.D v ∧
    Steps P (lone (Frame.enter P f (args.map E.m).toArray kd) cs w) (lone fr cs w') ∧ fr.fn = f ∧ Ready P fr kd w' (E'.m v)
def RoundOk (P : Program) (l : Nat) (f : FuncId) (tmps : List Value) (as bd : Code) (N : CH) (v : Value) (N' : CH) : Prop :=
  ∀ E w, Rel P E N w → E.D l → (∀ u ∈ tmps, Clo E.D u) → ∀ (c : Frame) cs, ∃ E' w', Rel P E' N' w' ∧ Ext E N w E' N' w' ∧ Clo E'.D v ∧
    Steps P (lone (Frame.round (E.f l) f (tmps.map E.m).toArray as bd .normal) (c :: cs) w) (lone (c.finish (E'.m v)) cs w')
structure RecOk (P : Program) (R : Rec) : Prop where
  call : ∀ f args N v N', R.call f args N = some (v, N') → CallOk P f args N v N'
  round : ∀ l f tmps as bd N v N', R.round l f tmps as bd N = some (v, N') → RoundOk P l f tmps as bd N v N'

theorem opStep_ok {P : Program} (hP : NoCount P) {R : Rec} (hR : RecOk P R) {ops : Array Oper} {i : Nat} {ar : Option Nat} {a a' : CA} {N N' : CH} (h : opStep P R ops ar i a N = some (a', N'))
    {E : Env} {w : World} (hr : Rel P E N w) (ha : a.Clo E.D) (b : Frame) (hro : ar = none → b.roundOf = none) (rest : List Nat) (k : List Item) (cs : List Frame) (hcalm : Calm b cs) :
    ∃ E' w', Rel P E' N' w' ∧ Ext E N w E' N' w' ∧ a'.Clo E'.D ∧
      Steps P (lone (fat b (E.act a) (.inRegion ops (i :: rest) :: k)) cs w) (lone (fat b (E'.act a') (.inRegion ops rest :: k)) cs w') := by
  unfold opStep at h
  cases ho : ops[i]? with
  | none => simp [ho] at h
  | some o =>
    simp only [ho] at h
    split at h
    · cases h
    rename_i hgs
    have hgs : guardSeen ops a.tmps o = true := by simpa using hgs
    split at h
    · rename_i hw
      have hw' : Region.wanted o (yielded ops (E.act a).tmps) = true := by rw [wanted_act E hgs]; exact hw
      cases hc : cop P (cev a) o N with
      | none =>
        simp only [hc] at h
        split at h
        · cases h
        rename_i har
        have har' : ar = none := by cases ar <;> simp_all
        have hro' := hro har'
        cases hcd : cdefer (cev a) o with
        | some d =>
          simp only [hcd, Option.some.injEq, Prod.mk.injEq] at h
          obtain ⟨rfl, rfl⟩ := h
          unfold cdefer at hcd
          split at hcd
          · rename_i c ho'
            split at hcd
            · rename_i fo hcal
              split at hcd
              · rename_i g p q args hf hargs
                cases hcd
                obtain ⟨hf1, hf2⟩ := cev_ok hr.gl ha fo _ hf
                obtain ⟨ha1, ha2⟩ := evL_ok (cev_ok hr.gl ha) hargs
                have hpq : (∀ u ∈ p.toList, Clo E.D u) ∧ (∀ u ∈ q.toList, Clo E.D u) := by
                  obtain ⟨p⟩ := p; obtain ⟨q⟩ := q
                  exact ⟨CloL_all.1 hf2.2.1, CloL_all.1 hf2.2.2⟩
                have hrun : (execOp (E.act a).eval o).run P w = .ok (.defer (E.dm (.call g q.toList (p.toList ++ args)))) w := by
                  have e1 : c.args.map (E.act a).eval = (args.map E.m).toArray := by apply Array.ext'; simpa using ha1
                  have e2 : E.m (.func (.func g) p q) = .func (.func g) (p.map E.m) (q.map E.m) := m_func E (.func g) p q
                  simp only [execOp, ho', resolve, hcal, e1, hf1, e2, Deferred.ofValue, pure_bind, Sem.run_pure, Env.dm]
                  have e3 : (q.toList.map E.m).toArray = q.map E.m := by apply Array.ext'; simp
                  have e4 : ((p.toList ++ args).map E.m).toArray = p.map E.m ++ (args.map E.m).toArray := by apply Array.ext'; simp
                  rw [e3, e4]
                have hst := fstep_defer (b := b) (a := E.act a) (k := k) (cs := cs) (rest := rest) ho hw' hro' ⟨c, ho'⟩ hrun
                have hd : (⟨(a.put o.dst undef).tmps, DM.call g q.toList (p.toList ++ args) :: a.dm⟩ : CA).Clo E.D := by
                  refine ⟨(ha.put o.dst (undef_clo _)).tmps, ?_⟩
                  intro d hd
                  rcases List.mem_cons.1 hd with rfl | hd
                  · refine ⟨hpq.2, ?_⟩
                    intro u hu
                    rcases List.mem_append.1 hu with hu | hu
                    · exact hpq.1 u hu
                    · exact ha2 u hu
                  · exact ha.dm d hd
                refine ⟨E, w, hr, Ext.refl _ _ _, hd, ?_⟩
                have hact : E.act (⟨(a.put o.dst undef).tmps, DM.call g q.toList (p.toList ++ args) :: a.dm⟩ : CA) = { (E.act a).put o.dst undef with defers := E.dm (.call g q.toList (p.toList ++ args)) :: (E.act a).defers } := by
                  rw [act_put_undef]
                  rfl
                rw [show ({ a.put o.dst undef with dm := DM.call g q.toList (p.toList ++ args) :: a.dm } : CA) = ⟨(a.put o.dst undef).tmps, DM.call g q.toList (p.toList ++ args) :: a.dm⟩ from rfl, hact]
                exact .one hst
              · cases hcd
            · cases hcd
          · cases hcd
        | none =>
          simp only [hcd] at h
          split at h
          · rename_i hre
            simp only [Option.some.injEq, Prod.mk.injEq] at h
            obtain ⟨rfl, rfl⟩ := h
            unfold crecover at hre
            split at hre
            · rename_i c ho'
              split at hre
              · rename_i hcal
                refine ⟨E, w, hr, Ext.refl _ _ _, ha.put _ trivial, ?_⟩
                rw [← act_put]
                exact .one (fstep_recover ho hw' hro' (hcalm hro') (fun c' => by rw [ho']; intro e; cases e) (by
                  simp [execOp, ho', resolve, hcal, invoke, builtin]))
              · cases hre
            · cases hre
          · cases h
      | some r =>
        obtain ⟨nx, N1⟩ := r
        have hnd : ∀ c, o.op ≠ .defer c := by
          intro c e
          simp [cop, e] at hc
        obtain ⟨E1, w1, hr1, X1, hclo, hrun⟩ := cop_ok hP hr (cev_ok hr.gl ha) hc
        obtain ⟨hact, ha1⟩ := X1.act ha
        cases nx with
        | val v =>
          simp only [hc, Option.some.injEq, Prod.mk.injEq] at h
          obtain ⟨rfl, rfl⟩ := h
          refine ⟨E1, w1, hr1, X1, ha1.put _ hclo, ?_⟩
          rw [← act_put, hact]
          exact .one (fstep_val ho hw' hnd hrun)
        | skip =>
          simp only [hc, Option.some.injEq, Prod.mk.injEq] at h
          obtain ⟨rfl, rfl⟩ := h
          refine ⟨E1, w1, hr1, X1, ha1.put _ (undef_clo _), ?_⟩
          rw [← act_put_undef, hact]
          exact .one (fstep_skipv ho hw' hnd hrun)
        | enter f args =>
          simp only [hc] at h
          obtain ⟨r, hr', e⟩ := Option.map_eq_some_iff.1 h
          obtain ⟨v, N2⟩ := r
          cases e
          obtain ⟨E2, w2, fr, hr2, X2, hv, hsteps, _, hleave⟩ := hR.call _ _ _ _ _ hr' E1 w1 hr1 hclo .normal (fat b (E.act a) (.inRegion ops (i :: rest) :: k) :: cs) (.inl rfl)
          obtain ⟨hact2, ha2⟩ := X2.act ha1
          refine ⟨E2, w2, hr2, X1.trans X2, ha2.put _ hv, ?_⟩
          rw [← act_put, hact2, hact]
          refine .head (fstep_enter ho hw' hnd hrun) (hsteps.trans (.one ?_))
          rw [← fat_finish ho]
          exact step_leave_returned hleave.leaving
        | round l f tmps as bd =>
          simp only [hc] at h
          obtain ⟨r, hr', e⟩ := Option.map_eq_some_iff.1 h
          obtain ⟨v, N2⟩ := r
          cases e
          obtain ⟨E2, w2, hr2, X2, hv, hsteps⟩ := hR.round _ _ _ _ _ _ _ _ hr' E1 w1 hr1 hclo.1 hclo.2 (fat b (E.act a) (.inRegion ops (i :: rest) :: k)) cs
          obtain ⟨hact2, ha2⟩ := X2.act ha1
          refine ⟨E2, w2, hr2, X1.trans X2, ha2.put _ hv, ?_⟩
          rw [← act_put, hact2, hact]
          refine .head (fstep_round ho hw' hnd hrun) ?_
          rw [← fat_finish ho]
          exact hsteps
    · rename_i hw
      have hw' : Region.wanted o (yielded ops (E.act a).tmps) = false := by rw [wanted_act E hgs]; simpa using hw
      simp only [Option.some.injEq, Prod.mk.injEq] at h
      obtain ⟨rfl, rfl⟩ := h
      refine ⟨E, w, hr, Ext.refl _ _ _, ha.put _ (undef_clo _), ?_⟩
      rw [← act_put_undef]
      exact .one (fstep_op_skip ho hw')

theorem opList_ok {P : Program} (hP : NoCount P) {R : Rec} (hR : RecOk P R) {ops : Array Oper} {ar : Option Nat} : ∀ (l : List Nat) {a a' : CA} {N N' : CH}, opList P R ops ar l a N = some (a', N') →
    ∀ {E : Env} {w : World}, Rel P E N w → a.Clo E.D → ∀ (b : Frame) (_ : ar = none → b.roundOf = none) (k : List Item) (cs : List Frame) (_ : Calm b cs),
    ∃ E' w', Rel P E' N' w' ∧ Ext E N w E' N' w' ∧ a'.Clo E'.D ∧ Steps P (lone (fat b (E.act a) (.inRegion ops l :: k)) cs w) (lone (fat b (E'.act a') k) cs w')
  | [], a, a', N, N', h, E, w, hr, ha, b, hro, k, cs, hcalm => by
    simp only [opList, Option.some.injEq, Prod.mk.injEq] at h
    obtain ⟨rfl, rfl⟩ := h
    exact ⟨E, w, hr, Ext.refl _ _ _, ha, .one fstep_region_end⟩
  | i :: rest, a, a', N, N', h, E, w, hr, ha, b, hro, k, cs, hcalm => by
    simp only [opList, Option.bind_eq_some_iff] at h
    obtain ⟨⟨a1, N1⟩, h1, h2⟩ := h
    obtain ⟨E1, w1, hr1, X1, ha1, s1⟩ := opStep_ok hP hR h1 hr ha b hro rest k cs hcalm
    obtain ⟨E2, w2, hr2, X2, ha2, s2⟩ := opList_ok hP hR rest h2 hr1 ha1 b hro k cs hcalm
    exact ⟨E2, w2, hr2, X1.trans X2, ha2, s1.trans s2⟩

/-! ### records of loops over functions -/
theorem Rel.setObj {P : Program} {E : Env} {N : CH} {w : World} (R : Rel P E N w) {l : Nat} {b b' : CB} {o o' : Obj} (hl : E.D l) (hwm : True) (hg : N.get l = some b) (hb : b.isDead = false) (ho : w.heap[E.f l]? = some o)
    (h' : BlkRel P E l b' (some o')) : Rel P E (N.set l b') { w with heap := w.heap.setIfInBounds (E.f l) o' } ∧ Ext E N w E (N.set l b') { w with heap := w.heap.setIfInBounds (E.f l) o' } := by
  have hlt : E.f l < w.heap.size := (Array.getElem?_eq_some_iff.1 ho).1
  refine R.change hl hwm ⟨_, hg, hb⟩ ?_ (fun j hj => heap_setObj_other w _ j _ hj) (by simp) rfl rfl rfl
  rw [heap_setObj w _ _ hlt]
  exact h'
theorem run_getLoop {P : Program} {w : World} {l : Nat} {r : Loop} (h : w.heap[l]? = some (.loop r)) : (Instr.getLoop l).run P w = .ok r w := by
  simp [Instr.getLoop, getObj, Sem.run, h]
theorem run_setLoop {P : Program} {w : World} {l : Nat} {r : Loop} (o : Obj) (h : w.heap[l]? = some (.loop r)) : (setObj l o).run P w = .ok () { w with heap := w.heap.setIfInBounds l o } := by
  simp [setObj, Sem.run, h]

/-- The loop begins. -/
def centerLoop (fn : FuncId) (a : CA) (params : Array Tmp) (as bd : Code) (ar : Option Nat) (N : CH) : Option (Nat × CA × CH) :=
  match ar with
  | some l =>
    match N.get l with
    | some (.loop r) => if N.fits then some (N.sz, a, N.push (.loop { state := .ready, pending := none, fn, tmps := a.tmps.toArray, params, assign := as, body := bd, defers := r.defers })) else none
    | _ => none
  | none =>
    if N.fits then
      some (N.sz + 1, { a with dm := .coll N.sz :: a.dm }, (N.push .dfr).push (.loop { state := .ready, pending := none, fn, tmps := a.tmps.toArray, params, assign := as, body := bd, defers := N.sz }))
    else none
theorem enterLoop_ok {P : Program} {E : Env} {N N' : CH} {w : World} (R : Rel P E N w) {fn : FuncId} {a a' : CA} (ha : a.Clo E.D) {params : Array Tmp} {as bd : Code} {ar : Option Nat} (har : ∀ l, ar = some l → E.D l) {l : Nat}
    (h : centerLoop fn a params as bd ar N = some (l, a', N')) :
    ∃ E' w' mark, Rel P E' N' w' ∧ Ext E N w E' N' w' ∧ a'.Clo E'.D ∧ E'.D l ∧ E'.act a' = { E.act a with defers := mark ++ (E.act a).defers } ∧
      (Instr.enterLoop fn (E.act a).tmps params as bd (ar.map E.f)).run P w = .ok (E'.f l, mark) w' := by
  unfold centerLoop at h
  cases ar with
  | some l0 =>
    simp only at h
    cases hg : N.get l0 with
    | none => simp [hg] at h
    | some b =>
      cases b with
      | loop r =>
        simp only [hg] at h
        split at h
        · rename_i hsz
          simp only [Option.some.injEq, Prod.mk.injEq] at h
          obtain ⟨rfl, rfl, rfl⟩ := h
          have hd := har l0 rfl
          obtain ⟨⟨_, hdf⟩, ho⟩ := R.blk l0 _ hd hg
          have hne : ∀ j, E.D j → j ≠ N.sz := fun j hj => by have := R.dom j hj; omega
          obtain ⟨R', X⟩ := R.new hsz (b := .loop { state := .ready, pending := none, fn, tmps := a.tmps.toArray, params, assign := as, body := bd, defers := r.defers })
            (o := .loop { state := .ready, pending := none, fn, tmps := (E.act a).tmps, params, assign := as, body := bd, defers := E.f r.defers }) (y := 0) (z := 0) (by
              refine ⟨⟨fun v hv => Clo_mono (fun _ h => .inr h) v (ha.tmps v (by simpa using hv)), .inr hdf⟩, ?_⟩
              have h1 : a.tmps.toArray.map (E.add N.sz w.heap.size 0 0).m = (E.act a).tmps := by
                apply Array.ext'
                simp only [Array.toList_map, Env.act]
                exact List.map_congr_left fun v hv => R.clo_lt (ha.tmps v hv)
              have h2 : (E.add N.sz w.heap.size 0 0).f r.defers = E.f r.defers := by simp [Env.add, hne _ hdf]
              simp only [h1, h2])
          obtain ⟨hact, ha'⟩ := X.act ha
          refine ⟨_, _, [], R', X, ha', Env.add_D .., by rw [hact]; rfl, ?_⟩
          simp [Instr.enterLoop, run_getLoop ho, Env.add]
        · cases h
      | _ => simp [hg] at h
  | none =>
    simp only at h
    split at h
    · rename_i hsz
      simp only [Option.some.injEq, Prod.mk.injEq] at h
      obtain ⟨rfl, rfl, rfl⟩ := h
      obtain ⟨R1, X1⟩ := R.new hsz (b := .dfr) (o := .deferred (some [])) (y := 0) (z := 0) rfl
      obtain ⟨hact1, ha1⟩ := X1.act ha
      have hs1 : (N.push .dfr).sz = N.sz + 1 := rfl
      have hD1 : (E.add N.sz w.heap.size 0 0).D N.sz := Env.add_D ..
      have hne : ∀ j, (E.add N.sz w.heap.size 0 0).D j → j ≠ N.sz + 1 := fun j hj => by have := R1.dom j hj; omega
      obtain ⟨R2, X2⟩ := R1.new trivial (b := .loop { state := .ready, pending := none, fn, tmps := a.tmps.toArray, params, assign := as, body := bd, defers := N.sz })
        (o := .loop { state := .ready, pending := none, fn, tmps := (E.act a).tmps, params, assign := as, body := bd, defers := w.heap.size }) (y := 0) (z := 0) (by
          refine ⟨⟨fun v hv => Clo_mono (fun _ h => .inr h) v (ha1.tmps v (by simpa using hv)), .inr hD1⟩, ?_⟩
          have h1 : a.tmps.toArray.map ((E.add N.sz w.heap.size 0 0).add (N.push .dfr).sz (w.alloc (.deferred (some []))).heap.size 0 0).m = (E.act a).tmps := by
            rw [← hact1]
            apply Array.ext'
            simp only [Array.toList_map, Env.act]
            exact List.map_congr_left fun v hv => R1.clo_lt (ha1.tmps v hv)
          have h2 : ((E.add N.sz w.heap.size 0 0).add (N.push .dfr).sz (w.alloc (.deferred (some []))).heap.size 0 0).f N.sz = w.heap.size := by
            rw [hs1]
            simp [Env.add]
          simp only [h1, h2])
      obtain ⟨hact2, ha2⟩ := X2.act ha1
      refine ⟨_, _, [{ target := .collected w.heap.size, args := #[] }], R2, X1.trans X2, ⟨ha2.tmps, ?_⟩, Env.add_D .., ?_, ?_⟩
      · intro k hk
        rcases List.mem_cons.1 hk with rfl | hk
        · exact .inr hD1
        · exact ha2.dm k hk
      · have hf : ((E.add N.sz w.heap.size 0 0).add (N.push .dfr).sz (w.alloc (.deferred (some []))).heap.size 0 0).f N.sz = w.heap.size := by rw [hs1]; simp [Env.add]
        rw [← hact1, ← hact2]
        simp only [Env.act, List.map_cons, Env.dm, hf]
        rfl
      · have hf : ((E.add N.sz w.heap.size 0 0).add (N.push .dfr).sz (w.alloc (.deferred (some []))).heap.size 0 0).f (N.sz + 1) = (w.alloc (.deferred (some []))).heap.size := by rw [hs1]; simp [Env.add]
        rw [hf]
        simp [Instr.enterLoop]
    · cases h
def cendLoop (l : Nat) (N : CH) : Option (Option Code × CH) :=
  match N.get l with
  | some (.loop r) => if r.state = .busy then none else (N.wset l (.loop { r with state := .exhausted })).map fun N' => (r.pending, N')
  | _ => none
theorem endLoop_ok {P : Program} {E : Env} {N N' : CH} {w : World} (R : Rel P E N w) {l : Nat} (hl : E.D l) {jump : Option Code} (h : cendLoop l N = some (jump, N')) :
    ∃ w', Rel P E N' w' ∧ Ext E N w E N' w' ∧ (Instr.endLoop (E.f l)).run P w = .ok jump w' := by
  unfold cendLoop at h
  split at h
  · rename_i r hg
    split at h
    · cases h
    · rename_i hb
      obtain ⟨N1, hN1, e⟩ := Option.map_eq_some_iff.1 h
      cases e
      obtain ⟨hwm, rfl⟩ := CH.wset_some hN1
      obtain ⟨hc, ho⟩ := R.blk l _ hl hg
      obtain ⟨R', X⟩ := R.setObj hl hwm hg rfl ho (b' := .loop { r with state := .exhausted }) ⟨hc, rfl⟩
      refine ⟨_, R', X, ?_⟩
      have hb' : (r.state == LoopState.busy) = false := by simpa using hb
      simp only [Instr.endLoop, Sem.run_bind, run_getLoop ho, Result.andThen_ok, hb', Bool.false_eq_true, if_false, Sem.run_pure]
      rw [run_setLoop _ ho]
      rfl
  · cases h
def cbegin (l : Nat) (N : CH) : Option CH :=
  match N.get l with
  | some (.loop r) => if r.state = .ready then N.wset l (.loop { r with state := .busy }) else none
  | _ => none
theorem beginRound_ok {P : Program} {E : Env} {N N' : CH} {w : World} (R : Rel P E N w) {l : Nat} (hl : E.D l) (h : cbegin l N = some N') :
    ∃ w', Rel P E N' w' ∧ Ext E N w E N' w' ∧ (Instr.beginRound (E.f l)).run P w = .ok () w' := by
  unfold cbegin at h
  split at h
  · rename_i r hg
    split at h
    · rename_i hb
      obtain ⟨hwm, rfl⟩ := CH.wset_some h
      obtain ⟨hc, ho⟩ := R.blk l _ hl hg
      obtain ⟨R', X⟩ := R.setObj hl hwm hg rfl ho (b' := .loop { r with state := .busy }) ⟨hc, rfl⟩
      refine ⟨_, R', X, ?_⟩
      simp only [Instr.beginRound, Sem.run_bind, run_getLoop ho, Result.andThen_ok]
      rw [run_setLoop _ ho]
      simp only [Result.andThen_ok, hb]
      rfl
    · cases h
  · cases h
def Ex.jump : Ex → Option Code
  | .normal => none
  | .ret => some .ret
  | .exit id => some (.exit id)
def cendRound (l : Nat) (jump : Option Code) (N : CH) : Option (Value × CH) :=
  match N.get l with
  | some (.loop r) => (N.wset l (.loop { r with state := if jump.isNone then .ready else .done, pending := jump })).map fun N' => (.bool jump.isNone, N')
  | _ => none
theorem endRound_ok {P : Program} {E : Env} {N N' : CH} {w : World} (R : Rel P E N w) {l : Nat} (hl : E.D l) {jump : Option Code} {v : Value} (h : cendRound l jump N = some (v, N')) :
    ∃ w', Rel P E N' w' ∧ Ext E N w E N' w' ∧ Clo E.D v ∧ (Instr.endRound (E.f l) jump).run P w = .ok (E.m v) w' := by
  unfold cendRound at h
  split at h
  · rename_i r hg
    obtain ⟨N1, hN1, e⟩ := Option.map_eq_some_iff.1 h
    cases e
    obtain ⟨hwm, rfl⟩ := CH.wset_some hN1
    obtain ⟨hc, ho⟩ := R.blk l _ hl hg
    obtain ⟨R', X⟩ := R.setObj hl hwm hg rfl ho (b' := .loop { r with state := if jump.isNone then .ready else .done, pending := jump }) ⟨hc, rfl⟩
    refine ⟨_, R', X, trivial, ?_⟩
    simp only [Instr.endRound, Sem.run_bind, run_getLoop ho, Result.andThen_ok]
    rw [run_setLoop _ ho]
    rfl
  · cases h

end Go.Eng
