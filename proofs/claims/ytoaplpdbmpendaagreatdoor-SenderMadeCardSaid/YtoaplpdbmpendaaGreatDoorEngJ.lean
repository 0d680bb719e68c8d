/-
  The engine, part J: the plain doing of code, of calls and of rounds, and that the model does just that. (Regions that leave their order open: part K.)
-/
import Derived.Test.YtoaplpdbmpendaaGreatDoorEngT
set_option linter.unusedSectionVars false
set_option linter.unusedSimpArgs false
set_option linter.unusedVariables false
namespace Go.Eng
open Go.Conc (G)
set_option linter.unusedSimpArgs false
set_option linter.unusedVariables false
set_option linter.unusedSectionVars false
variable [Hk]

/-- What is deferred: the mark of a loop over a function, or a call (what is captured; the arguments). -/
inductive DM where
  | coll (k : Nat)
  | call (f : FuncId) (q args : List Value)
def Env.dm (E : Env) : DM → Deferred
  | .coll k => { target := .collected (E.f k), args := #[] }
  | .call f q args => { target := .fn (.func f) (q.map E.m).toArray, args := (args.map E.m).toArray }
def DM.Clo (D : Nat → Prop) : DM → Prop
  | .coll k => D k
  | .call _ q args => (∀ v ∈ q, Eng.Clo D v) ∧ ∀ v ∈ args, Eng.Clo D v
structure CA where
  tmps : List Value
  dm : List DM

def Env.act (E : Env) (a : CA) : Act := { tmps := (a.tmps.map E.m).toArray, defers := a.dm.map E.dm }
structure CA.Clo (D : Nat → Prop) (a : CA) : Prop where
  tmps : ∀ v ∈ a.tmps, Eng.Clo D v
  dm : ∀ d ∈ a.dm, d.Clo D
theorem DM.Clo.mono {D D' : Nat → Prop} (h : ∀ k, D k → D' k) {d : DM} (hd : d.Clo D) : d.Clo D' := by
  cases d with
  | coll k => exact h k hd
  | call f q args => exact ⟨fun v hv => Clo_mono h v (hd.1 v hv), fun v hv => Clo_mono h v (hd.2 v hv)⟩
theorem dm_ext {E E' : Env} (ho : E'.o = E.o) (h : ∀ k, E.D k → E'.f k = E.f k ∧ E'.x k = E.x k ∧ E'.s k = E.s k) {d : DM} (hd : d.Clo E.D) : E'.dm d = E.dm d := by
  have hm : ∀ v, Eng.Clo E.D v → E'.m v = E.m v := fun v hv => mv_ext ho h v hv
  cases d with
  | coll k => simp only [Env.dm, (h k hd).1]
  | call f q args =>
    simp only [Env.dm]
    rw [List.map_congr_left fun v hv => hm v (hd.1 v hv), List.map_congr_left fun v hv => hm v (hd.2 v hv)]
def CA.put (a : CA) (dst : Option Tmp) (v : Value) : CA :=
  match dst with
  | some d => { a with tmps := a.tmps.set d v }
  | none => a
theorem act_put (E : Env) (a : CA) (dst : Option Tmp) (v : Value) : (E.act a).put dst (E.m v) = E.act (a.put dst v) := by
  cases dst with
  | none => rfl
  | some d => simp [Env.act, Act.put, CA.put, List.map_set]
theorem act_put_undef (E : Env) (a : CA) (dst : Option Tmp) : (E.act a).put dst undef = E.act (a.put dst undef) := act_put E a dst undef
theorem CA.Clo.put {D : Nat → Prop} {a : CA} (h : a.Clo D) (dst : Option Tmp) {v : Value} (hv : Eng.Clo D v) : (a.put dst v).Clo D := by
  cases dst with
  | none => exact h
  | some d =>
    refine ⟨?_, h.dm⟩
    intro u hu
    rcases List.mem_or_eq_of_mem_set hu with h1 | h1
    · exact h.tmps u h1
    · rw [h1]; exact hv
theorem Ext.act {E E' : Env} {N N' : CH} {w w' : World} (X : Ext E N w E' N' w') {a : CA} (h : a.Clo E.D) : E'.act a = E.act a ∧ a.Clo E'.D := by
  refine ⟨?_, ⟨fun v hv => X.clo (h.tmps v hv), fun d hd => (h.dm d hd).mono fun k hk => (X.mono k hk).1⟩⟩
  have h1 : a.tmps.map E'.m = a.tmps.map E.m := List.map_congr_left fun v hv => X.m (h.tmps v hv)
  have h2 : a.dm.map E'.dm = a.dm.map E.dm := List.map_congr_left fun d hd => dm_ext X.op (fun k hk => (X.mono k hk).2) (h.dm d hd)
  unfold Env.act
  rw [h1, h2]

theorem ExtC.act {O : Nat → Prop} {E E' : Env} {N N' : CH} {w w' : World} (X : ExtC O E N w E' N' w') {a : CA} (h : a.Clo E.D) : E'.act a = E.act a ∧ a.Clo E'.D := by
  refine ⟨?_, ⟨fun v hv => X.clo (h.tmps v hv), fun d hd => (h.dm d hd).mono fun k hk => (X.mono k hk).1⟩⟩
  have h1 : a.tmps.map E'.m = a.tmps.map E.m := List.map_congr_left fun v hv => X.m (h.tmps v hv)
  have h2 : a.dm.map E'.dm = a.dm.map E.dm := List.map_congr_left fun d hd => dm_ext X.op (fun k hk => (X.mono k hk).2) (h.dm d hd)
  unfold Env.act
  rw [h1, h2]

def cev (a : CA) : Ev
  | .tmp t => some (a.tmps.getD t undef)
  | .const v => if plain v = true then some v else none
  | .func f => some (.func (.func f) #[] #[])
  | .global g => if g < LIM then some (.pointer (some ⟨g, 0, none⟩)) else none
theorem undef_clo (D : Nat → Prop) : Clo D undef := Clo_tuple.2 (by simp)
theorem m_undef (E : Env) : E.m undef = undef := rfl
theorem m_global {E : Env} {g : Nat} (h : E.D g ∧ E.f g = g ∧ E.s g = 0) : E.m (.pointer (some ⟨g, 0, none⟩)) = .pointer (some ⟨g, 0, none⟩) := by
  simp [Env.m, mv, h.2.1, h.2.2]
theorem clo_global {E : Env} {g : Nat} (h : E.D g ∧ E.f g = g ∧ E.s g = 0) : Clo E.D (.pointer (some ⟨g, 0, none⟩)) := by
  simp [Clo, h.1]
theorem cev_ok {E : Env} {a : CA} (hgl : E.Gl) (h : a.Clo E.D) : EvOk E (cev a) (E.act a).eval := by
  intro x v hx
  cases x with
  | tmp t =>
    simp only [cev, Option.some.injEq] at hx
    subst hx
    refine ⟨?_, ?_⟩
    · simp only [Act.eval, Env.act, Array.getD_eq_getD_getElem?, List.getElem?_toArray, List.getElem?_map, List.getD_eq_getElem?_getD]
      cases a.tmps[t]? <;> rfl
    · rw [List.getD_eq_getElem?_getD]
      cases ht : a.tmps[t]? with
      | none => exact undef_clo _
      | some u => exact h.tmps u (List.mem_of_getElem? ht)
  | const u =>
    simp only [cev] at hx
    split at hx
    · cases hx; exact ⟨(m_plain E (by assumption)).symm, Clo_plain _ _ (by assumption)⟩
    · cases hx
  | func f =>
    simp only [cev, Option.some.injEq] at hx
    subst hx
    exact ⟨rfl, ⟨trivial, trivial, trivial⟩⟩
  | global g =>
    simp only [cev] at hx
    split at hx
    · rename_i hg
      cases hx
      exact ⟨(m_global (hgl g hg)).symm, clo_global (hgl g hg)⟩
    · cases hx

def cyielded (ops : Array Oper) (tmps : List Value) (j : Nat) : Option Bool :=
  match ((ops[j]?).bind (·.dst)).bind (tmps[·]?) with
  | some (.bool b) => some b
  | _ => none
/-- What an operation's guard yields is known: it is none of the values that are only handed on. -/
def guardSeen (ops : Array Oper) (tmps : List Value) (o : Oper) : Bool :=
  match o.guard with
  | none => true
  | some (g, _) => match ((ops[g]?).bind (·.dst)).bind (tmps[·]?) with
    | some (.chan (some _)) => false
    | _ => true
theorem m_bool_iff (E : Env) (v : Value) (b : Bool) (hv : ∀ r, v ≠ .chan (some r)) : E.m v = .bool b ↔ v = .bool b := by
  cases v with
  | pointer a => cases a <;> simp [Env.m, mv]
  | slice a => cases a <;> simp [Env.m, mv]
  | map a => cases a <;> simp [Env.m, mv]
  | chan a =>
    cases a with
    | none => simp [Env.m, mv]
    | some r => exact absurd rfl (hv r)
  | func g p q => rw [m_func]; simp
  | agg cs => simp [Env.m, mv_agg]
  | tuple cs => simp [Env.m, mv_tuple]
  | _ => simp [Env.m, mv]
theorem yielded_at {E : Env} {ops : Array Oper} {a : CA} {tmps : Array Value} {g : Nat} (ht : ∀ x, ((ops[g]?).bind (·.dst)) = some x → tmps[x]? = (a.tmps[x]?).map E.m)
    (h : ∀ r, ((ops[g]?).bind (·.dst)).bind (a.tmps[·]?) ≠ some (.chan (some r))) : yielded ops tmps g = cyielded ops a.tmps g := by
  unfold yielded cyielded
  have h1 : ((ops[g]?).bind (·.dst)).bind (tmps[·]?) = (((ops[g]?).bind (·.dst)).bind (a.tmps[·]?)).map E.m := by
    cases hd : (ops[g]?).bind (·.dst) with
    | none => rfl
    | some x => exact ht x hd
  rw [h1]
  cases hv : ((ops[g]?).bind (·.dst)).bind (a.tmps[·]?) with
  | none => rfl
  | some v =>
    have hne : ∀ r, v ≠ .chan (some r) := fun r e => h r (by rw [hv, e])
    simp only [Option.map_some]
    by_cases hb : ∃ b, v = .bool b
    · obtain ⟨b, rfl⟩ := hb; rfl
    · have h1 : ∀ b, E.m v ≠ .bool b := fun b e => hb ⟨b, (m_bool_iff E v b hne).1 e⟩
      split
      · rename_i b he; simp only [Option.some.injEq] at he; exact absurd he (h1 b)
      · split
        · rename_i b he; simp only [Option.some.injEq] at he; exact absurd ⟨b, he⟩ hb
        · rfl
theorem wanted_at {E : Env} {ops : Array Oper} {a : CA} {tmps : Array Value} {o : Oper} (hg : guardSeen ops a.tmps o = true)
    (ht : ∀ g want x, o.guard = some (g, want) → (ops[g]?).bind (·.dst) = some x → tmps[x]? = (a.tmps[x]?).map E.m) : Region.wanted o (yielded ops tmps) = Region.wanted o (cyielded ops a.tmps) := by
  unfold Region.wanted
  unfold guardSeen at hg
  cases hgu : o.guard with
  | none => rfl
  | some gw =>
    obtain ⟨g, want⟩ := gw
    simp only [hgu] at hg ⊢
    rw [yielded_at (ht g want · hgu) (fun r e => by rw [e] at hg; cases hg)]
theorem wanted_act (E : Env) {ops : Array Oper} {a : CA} {o : Oper} (hg : guardSeen ops a.tmps o = true) : Region.wanted o (yielded ops (E.act a).tmps) = Region.wanted o (cyielded ops a.tmps) :=
  wanted_at (E := E) hg (fun _ _ x _ _ => by simp [Env.act])

/-- What calls and rounds come to. -/
structure Rec where
  call : FuncId → List Value → CH → Option (Value × CH)
  round : Nat → FuncId → List Value → Code → Code → CH → Option (Value × CH)

/-- A call is deferred; recover, where nothing panics. (Neither in a loop's round.) -/
def cdefer (ev : Ev) (o : Oper) : Option DM :=
  match o.op with
  | .defer c => match c.callee with
    | .value f => match ev f, evL ev c.args.toList with
      | some (.func (.func f) p q), some args => some (.call f q.toList (p.toList ++ args))
      | _, _ => none
    | _ => none
  | _ => none
def crecover (o : Oper) : Bool :=
  match o.op with
  | .call c => match c.callee with
    | .builtin .recover => true
    | _ => false
  | _ => false
theorem cdefer_ok {E : Env} {a : CA} (hgl : E.Gl) (ha : a.Clo E.D) {o : Oper} {d : DM} (h : cdefer (cev a) o = some d) (w : World) (P : Program) :
    d.Clo E.D ∧ ∃ c, o.op = .defer c ∧ (execOp (E.act a).eval o).run P w = .ok (.defer (E.dm d)) w := by
  unfold cdefer at h
  split at h
  · rename_i c ho'
    split at h
    · rename_i fo hcal
      split at h
      · rename_i g p q args hf hargs
        cases h
        obtain ⟨hf1, hf2⟩ := cev_ok hgl ha fo _ hf
        obtain ⟨ha1, ha2⟩ := evL_ok (cev_ok hgl ha) hargs
        have hpq : (∀ u ∈ p.toList, Clo E.D u) ∧ (∀ u ∈ q.toList, Clo E.D u) := by
          obtain ⟨p⟩ := p; obtain ⟨q⟩ := q
          exact ⟨CloL_all.1 hf2.2.1, CloL_all.1 hf2.2.2⟩
        refine ⟨⟨hpq.2, ?_⟩, c, ho', ?_⟩
        · intro u hu
          rcases List.mem_append.1 hu with hu | hu
          · exact hpq.1 u hu
          · exact ha2 u hu
        · have e1 : c.args.map (E.act a).eval = (args.map E.m).toArray := by apply Array.ext'; simpa using ha1
          have e2 : E.m (.func (.func g) p q) = .func (.func g) (p.map E.m) (q.map E.m) := m_func E (.func g) p q
          simp only [execOp, ho', resolve, hcal, e1, hf1, e2, Deferred.ofValue, pure_bind, Sem.run_pure, Env.dm]
          have e3 : (q.toList.map E.m).toArray = q.map E.m := by apply Array.ext'; simp
          have e4 : ((p.toList ++ args).map E.m).toArray = p.map E.m ++ (args.map E.m).toArray := by apply Array.ext'; simp
          rw [e3, e4]
      · cases h
    · cases h
  · cases h
theorem crecover_ok {a : Act} {o : Oper} (h : crecover o = true) (P : Program) (w : World) : ∃ c, o.op = .call c ∧ (execOp a.eval o).run P w = .ok .recover w := by
  unfold crecover at h
  split at h
  · rename_i c ho'
    split at h
    · rename_i hcal
      exact ⟨c, ho', by simp [execOp, ho', resolve, hcal, invoke, builtin]⟩
    · cases h
  · cases h
def opStep (P : Program) (R : Rec) (ops : Array Oper) (ar : Option Nat) (i : Nat) (a : CA) (N : CH) : Option (CA × CH) :=
  match ops[i]? with
  | none => none
  | some o =>
    if guardSeen ops a.tmps o = false then none else
    if Region.wanted o (cyielded ops a.tmps) = true then
      match cop P (cev a) o N with
      | some (.val v, N') => some (a.put o.dst v, N')
      | some (.skip, N') => some (a.put o.dst undef, N')
      | some (.enter f args, N') => (R.call f args N').map fun r => (a.put o.dst r.1, r.2)
      | some (.round l f tmps as bd, N') => (R.round l f tmps as bd N').map fun r => (a.put o.dst r.1, r.2)
      | none => if ar.isSome = true then none else match cdefer (cev a) o with
        | some d => some ({ a.put o.dst undef with dm := d :: a.dm }, N)
        | none => if crecover o = true then some (a.put o.dst .nilIface, N) else none
    else some (a.put o.dst undef, N)
def opList (P : Program) (R : Rec) (ops : Array Oper) (ar : Option Nat) : List Nat → CA → CH → Option (CA × CH)
  | [], a, N => some (a, N)
  | i :: r, a, N => (opStep P R ops ar i a N).bind fun x => opList P R ops ar r x.1 x.2

inductive Ex where
  | normal
  | ret
  | exit (id : Nat)

/-- How a piece of code is left. -/
def Arr (b : Frame) (k : List Item) : Ex → Act → Frame → Prop
  | .normal, a, fr => fr = fat b a k
  | .ret, a, fr => ∃ todo, fr = fat b a (.code .ret :: todo)
  | .exit id, a, fr => ∃ todo, exitTo id todo = exitTo id k ∧ fr = fat b a (.code (.exit id) :: todo)

/-- A frame is about to hand its result back. -/
def Ready (P : Program) (O : Nat → Prop) (w : World) (fr : Frame) (kd : CallKind) (v : Value) : Prop :=
  fr.mode = .returning ∧ fr.defers = [] ∧ fr.kind = kd ∧ ∃ fn, P.funcs[fr.fn]? = some fn ∧ ∀ w1, Rely O w w1 → (results fn fr.tmps).run P w1 = .ok v w1 ∧ EvOk' O (fun _ => False) w1 w1 ((results fn fr.tmps).events P w1 #[])
theorem Ready.rely {P : Program} {O : Nat → Prop} {w w1 : World} {fr : Frame} {kd : CallKind} {v : Value} (h : Ready P O w fr kd v) (hr : Rely O w w1) : Ready P O w1 fr kd v := by
  obtain ⟨h1, h2, h3, fn, h4, h5⟩ := h
  exact ⟨h1, h2, h3, fn, h4, fun w2 h6 => h5 w2 (hr.trans h6)⟩
theorem EvOk'.mono {O W W' : Nat → Prop} {w w' : World} {es : Array Event} (h : EvOk' O W w w' es) (hw : ∀ b, W b → W' b) : EvOk' O W' w w' es := fun e he => (h e he).imp id fun hf => hf.imp id fun ⟨b, h1, h2, h3, h4, h5⟩ => ⟨b, h1, h2, h3, h4, fun hh => (h5 hh).imp (hw b) id⟩
/-- Who calls: an operation, or a frame from which nothing can be recovered. -/
def Caller (kd : CallKind) (cs : List Frame) : Prop := (kd = .normal ∨ kd = .deferred) ∧ ∀ fr : Frame, fr.kind = .deferred → tryRecover fr cs = none
theorem caller_nil {kd : CallKind} (h : kd = .normal ∨ kd = .deferred) : Caller kd [] := ⟨h, fun fr hk => by simp [tryRecover, hk]⟩
theorem caller_run {kd : CallKind} (h : kd = .normal ∨ kd = .deferred) {c : Frame} {r : List Frame} (hm : c.mode = .run) : Caller kd (c :: r) := ⟨h, fun fr hk => by simp [tryRecover, hk, hm]⟩
theorem Caller.any {kd : CallKind} {cs : List Frame} (h : Caller kd cs) : Caller .deferred cs := ⟨.inr rfl, h.2⟩
theorem Caller.none {kd : CallKind} {cs : List Frame} (h : Caller kd cs) {fr : Frame} (hk : fr.kind = kd) : tryRecover fr cs = Option.none := by
  rcases h.1 with h1 | h1
  · simp [tryRecover, hk, h1]
  · exact h.2 fr (hk.trans h1)
theorem caller_returning (c : Frame) (r : List Frame) (h : c.mode = .returning) : Caller .deferred (c :: r) := ⟨.inr rfl, fun fr hk => by simp [tryRecover, hk, h]⟩
/-- Nothing is to be recovered. -/
def Calm (b : Frame) (cs : List Frame) : Prop := b.roundOf = none → Caller b.kind cs
def CallOk (P : Program) (f : FuncId) (args : List Value) (N : CH) (v : Value) (N' : CH) : Prop :=
  ∀ (main : Bool) (J : World → Prop) [Ctx main J] (lo : Nat) (E : Env) (w : World) (O W : Nat → Prop), lo ≤ N'.wm → Rel P E N w → Own O W lo E N w → (∀ u ∈ args, Clo E.D u) → ∀ kd cs, Caller kd cs → ∀ K,
    (∀ O' W' E' w' fr, Later P lo O W E N w O' W' E' N' w' → Clo E'.D v → fr.fn = f → Ready P O' w' fr kd (E'.m v) → Will P main J K O' W' (G fr cs) w') →
    Will P main J K O W (G (Frame.enter P f (args.map E.m).toArray kd) cs) w
def RoundOk (P : Program) (l : Nat) (f : FuncId) (tmps : List Value) (as bd : Code) (N : CH) (v : Value) (N' : CH) : Prop :=
  ∀ (main : Bool) (J : World → Prop) [Ctx main J] (lo : Nat) (E : Env) (w : World) (O W : Nat → Prop), lo ≤ N'.wm → Rel P E N w → Own O W lo E N w → E.D l → (∀ u ∈ tmps, Clo E.D u) → ∀ (c : Frame) cs K,
    (∀ O' W' E' w', Later P lo O W E N w O' W' E' N' w' → Clo E'.D v → Will P main J K O' W' (G (c.finish (E'.m v)) cs) w') →
    Will P main J K O W (G (Frame.round (E.f l) f (tmps.map E.m).toArray as bd .normal) (c :: cs)) w
structure RecOk (P : Program) (R : Rec) : Prop where
  call : ∀ f args N v N', R.call f args N = some (v, N') → CallOk P f args N v N'
  round : ∀ l f tmps as bd N v N', R.round l f tmps as bd N = some (v, N') → RoundOk P l f tmps as bd N v N'

/-- All blocks, for one that is alone. -/
theorem own_all {P : Program} {E : Env} {N : CH} {w : World} (R : Rel P E N w) : Own (fun b => b < w.heap.size) (fun b => b < w.heap.size) 0 E N w :=
  ⟨fun k hk hl => R.live_lt hk hl, fun k hk hl _ => R.live_lt hk hl, fun _ h => h, Nat.zero_le _⟩
theorem CallOk.wm {P : Program} {f : FuncId} {args : List Value} {N N' : CH} {v : Value} (h : CallOk P f args N v N') {E : Env} {w : World} (R : Rel P E N w) (ha : ∀ u ∈ args, Clo E.D u) : N'.wm ≤ N.wm := by
  obtain ⟨_, _, _, _, hh⟩ := (h true (fun _ => True) 0 E w _ _ (Nat.zero_le _) R (own_all R) ha .normal [] (caller_nil (.inl rfl)) (fun _ _ _ _ => N'.wm ≤ N.wm) fun _ _ _ _ _ L _ _ _ => .stop fun _ _ _ => L.ext.wm).reaches (fun _ h => h) (fun _ h => h)
  exact hh
theorem RoundOk.wm {P : Program} {l : Nat} {f : FuncId} {tmps : List Value} {as bd : Code} {N N' : CH} {v : Value} (h : RoundOk P l f tmps as bd N v N') {E : Env} {w : World} (R : Rel P E N w) (hl : E.D l) (ha : ∀ u ∈ tmps, Clo E.D u) : N'.wm ≤ N.wm := by
  obtain ⟨_, _, _, _, hh⟩ := (h true (fun _ => True) 0 E w _ _ (Nat.zero_le _) R (own_all R) hl ha default [] (fun _ _ _ _ => N'.wm ≤ N.wm) fun _ _ _ _ L _ => .stop fun _ _ _ => L.ext.wm).reaches (fun _ h => h) (fun _ h => h)
  exact hh

section
variable {P : Program} {main : Bool} {J : World → Prop} {lo : Nat} {E : Env} {N : CH} {w : World} {O W : Nat → Prop} {K : (Nat → Prop) → (Nat → Prop) → Goroutine → World → Prop}
/-- An operation, in company: what is to be shown once it has been carried out. -/
theorem op_will (hP : NoCount P) (hr : Rel P E N w) (ho : Own O W lo E N w) {ev : Ev} {ρ : Operand → Value} (hev : EvOk E ev ρ) {o : Oper} {nx : CNx} {N1 : CH} (hc : cop P ev o N = some (nx, N1)) (hlo : lo ≤ N1.wm) {fn : FuncId}
    {fr : Frame} {cs : List Frame} {g' : Next → Goroutine}
    (hst : ∀ w1 w2 n, (execOp ρ o).run P w1 = .ok n w2 → (∃ E', n = nx.real E') → ∃ es, Lists P fn ((execOp ρ o).events P w1 #[]) es ∧ stepG P main (G fr cs) w1 = .go (g' n) w2 es)
    (hK : ∀ O' W' E' w', Later P lo O W E N w O' W' E' N1 w' → nx.clo E'.D → Will P main J K O' W' (g' (nx.real E')) w') : Will P main J K O W (G fr cs) w := by
  refine .step rfl fun w1 h1 _ => ?_
  have hr1 := hr.rely ho h1
  have ho1 := ho.rely h1
  obtain ⟨E2, w2, hr2, X2, hclo, hrun⟩ := cop_ok hP hr1 hev hc
  obtain ⟨es, hl, hs⟩ := hst w1 w2 _ hrun ⟨E2, rfl⟩
  exact ⟨_, w2, es, hs, guar_of ho1 hr1 X2 hlo (hl.ok (cop_evs hP hr1 ho1 hev hc hlo hr2 hrun)), hK _ _ E2 w2 ((Later.of_rely hr ho h1).trans (Later.of_step hr1 ho1 hr2 X2 hlo)) hclo⟩
/-- A frame hands its result back. -/
theorem leave_will {fr c : Frame} {cs : List Frame} {v : Value} (h : Ready P O w fr .normal v) (hK : Will P main J K O W (G (c.finish v) cs) w) : Will P main J K O W (G fr (c :: cs)) w := by
  obtain ⟨h1, h2, h3, fn, h4, h5⟩ := h
  refine .step rfl fun w1 hr _ => ?_
  obtain ⟨hrun, hev⟩ := h5 w1 hr
  obtain ⟨es, hl, hs⟩ := g_leave (main := main) (cs := cs) (c := c) h1 h2 h3 h4 hrun
  exact ⟨_, w1, es, hs, ⟨fun _ _ _ => rfl, Nat.le_refl _, rfl, rfl, rfl, hl.ok (hev.mono fun _ h => h.elim)⟩, by rw [grow_self, grow_self]; exact hK.rely hr⟩
end

theorem opStep_ok {P : Program} (hP : NoCount P) {R : Rec} (hR : RecOk P R) {ops : Array Oper} {i : Nat} {ar : Option Nat} {a a' : CA} {N N' : CH} (h : opStep P R ops ar i a N = some (a', N'))
    {main : Bool} {J : World → Prop} [Ctx main J] {lo : Nat} {E : Env} {w : World} {O W : Nat → Prop} (hlo : lo ≤ N'.wm) (hr : Rel P E N w) (ow : Own O W lo E N w) (ha : a.Clo E.D) (b : Frame) (hro : ar = none → b.roundOf = none) (rest : List Nat) (k : List Item) (cs : List Frame) (hcalm : Calm b cs)
    {K : (Nat → Prop) → (Nat → Prop) → Goroutine → World → Prop}
    (hK : ∀ O' W' E' w', Later P lo O W E N w O' W' E' N' w' → a'.Clo E'.D → Will P main J K O' W' (G (fat b (E'.act a') (.inRegion ops rest :: k)) cs) w') :
    Will P main J K O W (G (fat b (E.act a) (.inRegion ops (i :: rest) :: k)) cs) w := by
  unfold opStep at h
  cases ho : ops[i]? with
  | none => simp [ho] at h
  | some o =>
    simp only [ho] at h
    split at h
    · cases h
    rename_i hgs
    have hgs : guardSeen ops a.tmps o = true := by simpa using hgs
    split at h
    · rename_i hw
      have hw' : Region.wanted o (yielded ops (E.act a).tmps) = true := by rw [wanted_act E hgs]; exact hw
      cases hc : cop P (cev a) o N with
      | none =>
        simp only [hc] at h
        split at h
        · cases h
        rename_i har
        have har' : ar = none := by cases ar <;> simp_all
        have hro' := hro har'
        cases hcd : cdefer (cev a) o with
        | some d =>
          simp only [hcd, Option.some.injEq, Prod.mk.injEq] at h
          obtain ⟨rfl, rfl⟩ := h
          unfold cdefer at hcd
          split at hcd
          · rename_i c ho'
            split at hcd
            · rename_i fo hcal
              split at hcd
              · rename_i g p q args hf hargs
                cases hcd
                obtain ⟨hf1, hf2⟩ := cev_ok hr.gl ha fo _ hf
                obtain ⟨ha1, ha2⟩ := evL_ok (cev_ok hr.gl ha) hargs
                have hpq : (∀ u ∈ p.toList, Clo E.D u) ∧ (∀ u ∈ q.toList, Clo E.D u) := by
                  obtain ⟨p⟩ := p; obtain ⟨q⟩ := q
                  exact ⟨CloL_all.1 hf2.2.1, CloL_all.1 hf2.2.2⟩
                have hex : execOp (E.act a).eval o = pure (.defer (E.dm (.call g q.toList (p.toList ++ args)))) := by
                  have e1 : c.args.map (E.act a).eval = (args.map E.m).toArray := by apply Array.ext'; simpa using ha1
                  have e2 : E.m (.func (.func g) p q) = .func (.func g) (p.map E.m) (q.map E.m) := m_func E (.func g) p q
                  have e3 : (q.toList.map E.m).toArray = q.map E.m := by apply Array.ext'; simp
                  have e4 : ((p.toList ++ args).map E.m).toArray = p.map E.m ++ (args.map E.m).toArray := by apply Array.ext'; simp
                  simp only [execOp, ho', resolve, hcal, e1, hf1, e2, Deferred.ofValue, pure_bind, Env.dm, e3, e4]
                have hd : (⟨(a.put o.dst undef).tmps, DM.call g q.toList (p.toList ++ args) :: a.dm⟩ : CA).Clo E.D := by
                  refine ⟨(ha.put o.dst (undef_clo _)).tmps, ?_⟩
                  intro d hd
                  rcases List.mem_cons.1 hd with rfl | hd
                  · refine ⟨hpq.2, ?_⟩
                    intro u hu
                    rcases List.mem_append.1 hu with hu | hu
                    · exact hpq.1 u hu
                    · exact ha2 u hu
                  · exact ha.dm d hd
                have hact : E.act (⟨(a.put o.dst undef).tmps, DM.call g q.toList (p.toList ++ args) :: a.dm⟩ : CA) = { (E.act a).put o.dst undef with defers := E.dm (.call g q.toList (p.toList ++ args)) :: (E.act a).defers } := by
                  rw [act_put_undef]
                  rfl
                refine .step rfl fun w1 h1 _ => ?_
                obtain ⟨es, hl, hs⟩ := g_defer (P := P) (main := main) (w := w1) (w' := w1) (b := b) (a := E.act a) (k := k) (cs := cs) (rest := rest) ho hw' hro' (by rw [hex]; rfl)
                rw [hex] at hl
                refine ⟨_, w1, es, hs, ⟨fun _ _ _ => rfl, Nat.le_refl _, rfl, rfl, rfl, hl.ok fun e he => by simp [Sem.events, Sem.runT, pure] at he⟩, ?_⟩
                rw [grow_self, grow_self, ← hact]
                exact hK O W E w1 (Later.of_rely hr ow h1) hd
              · cases hcd
            · cases hcd
          · cases hcd
        | none =>
          simp only [hcd] at h
          split at h
          · rename_i hre
            simp only [Option.some.injEq, Prod.mk.injEq] at h
            obtain ⟨rfl, rfl⟩ := h
            unfold crecover at hre
            split at hre
            · rename_i c ho'
              split at hre
              · rename_i hcal
                refine .step rfl fun w1 h1 _ => ?_
                obtain ⟨es, hl, hs⟩ := g_recover (P := P) (main := main) (w := w1) (w' := w1) (b := b) (a := E.act a) (k := k) (cs := cs) (rest := rest) ho hw' hro' (fun fr hk => (hcalm hro').none hk) (fun c' => by rw [ho']; intro e; cases e) (by
                  simp [execOp, ho', resolve, hcal, invoke, builtin])
                refine ⟨_, w1, es, hs, ⟨fun _ _ _ => rfl, Nat.le_refl _, rfl, rfl, rfl, hl.ok fun e he => by
                  have hex : execOp (E.act a).eval o = pure .recover := by simp [execOp, ho', resolve, hcal, invoke, builtin]
                  rw [hex] at he
                  simp [Sem.events, Sem.runT, pure] at he⟩, ?_⟩
                rw [grow_self, grow_self]
                have := hK O W E w1 (Later.of_rely hr ow h1) (ha.put _ trivial)
                rw [← act_put] at this
                exact this
              · cases hre
            · cases hre
          · cases h
      | some r =>
        obtain ⟨nx, N1⟩ := r
        have hnd : ∀ c, o.op ≠ .defer c := by
          intro c e
          simp [cop, e] at hc
        have hev := cev_ok hr.gl ha
        cases nx with
        | val v =>
          simp only [hc, Option.some.injEq, Prod.mk.injEq] at h
          obtain ⟨rfl, rfl⟩ := h
          refine op_will hP hr ow hev hc hlo (fn := b.fn) (g' := fun n => match n with | .value u => G (fat b ((E.act a).put o.dst u) (.inRegion ops rest :: k)) cs | _ => default)
            (fun w1 w2 n hrun ⟨E', hn⟩ => by subst hn; exact g_val ho hw' hnd hrun) fun O' W' E' w' L hclo => ?_
          obtain ⟨hact, ha1⟩ := L.ext.act ha
          have := hK O' W' E' w' L (ha1.put _ hclo)
          rw [← act_put, hact] at this
          exact this
        | skip =>
          simp only [hc, Option.some.injEq, Prod.mk.injEq] at h
          obtain ⟨rfl, rfl⟩ := h
          refine op_will hP hr ow hev hc hlo (fn := b.fn) (g' := fun _ => G (fat b ((E.act a).put o.dst undef) (.inRegion ops rest :: k)) cs)
            (fun w1 w2 n hrun ⟨E', hn⟩ => by subst hn; exact g_skipv ho hw' hnd hrun) fun O' W' E' w' L hclo => ?_
          obtain ⟨hact, ha1⟩ := L.ext.act ha
          have := hK O' W' E' w' L (ha1.put _ (undef_clo _))
          rw [← act_put_undef, hact] at this
          exact this
        | enter f args =>
          simp only [hc] at h
          obtain ⟨r, hr', e⟩ := Option.map_eq_some_iff.1 h
          obtain ⟨v, N2⟩ := r
          cases e
          have hcall := hR.call _ _ _ _ _ hr'
          have hlo1 : lo ≤ N1.wm := by
            obtain ⟨E1, w1, hr1, _, hclo, _⟩ := cop_ok hP hr hev hc
            exact Nat.le_trans hlo (hcall.wm hr1 hclo)
          refine op_will hP hr ow hev hc hlo1 (fn := b.fn) (g' := fun n => match n with | .enter f as => G (Frame.enter P f as .normal) (fat b (E.act a) (.inRegion ops (i :: rest) :: k) :: cs) | _ => default)
            (fun w1 w2 n hrun ⟨E', hn⟩ => by subst hn; exact g_enter ho hw' hnd hrun) fun O1 W1 E1 w1 L1 hclo => ?_
          refine hcall main J lo E1 w1 O1 W1 hlo L1.rel L1.own hclo .normal _ (by exact caller_run (.inl rfl) rfl) K fun O2 W2 E2 w2 fr L2 hv _ hready => ?_
          refine leave_will hready ?_
          rw [fat_finish ho]
          have L := L1.trans L2
          obtain ⟨hact, ha1⟩ := L.ext.act ha
          have := hK O2 W2 E2 w2 L (ha1.put _ hv)
          rw [← act_put, hact] at this
          exact this
        | round l f tmps as bd =>
          simp only [hc] at h
          obtain ⟨r, hr', e⟩ := Option.map_eq_some_iff.1 h
          obtain ⟨v, N2⟩ := r
          cases e
          have hround := hR.round _ _ _ _ _ _ _ _ hr'
          have hlo1 : lo ≤ N1.wm := by
            obtain ⟨E1, w1, hr1, _, hclo, _⟩ := cop_ok hP hr hev hc
            exact Nat.le_trans hlo (hround.wm hr1 hclo.1 hclo.2)
          refine op_will hP hr ow hev hc hlo1 (fn := b.fn) (g' := fun n => match n with | .round l f ts as bd => G (Frame.round l f ts as bd .normal) (fat b (E.act a) (.inRegion ops (i :: rest) :: k) :: cs) | _ => default)
            (fun w1 w2 n hrun ⟨E', hn⟩ => by subst hn; exact g_round ho hw' hnd hrun) fun O1 W1 E1 w1 L1 hclo => ?_
          refine hround main J lo E1 w1 O1 W1 hlo L1.rel L1.own hclo.1 hclo.2 _ cs K fun O2 W2 E2 w2 L2 hv => ?_
          rw [fat_finish ho]
          have L := L1.trans L2
          obtain ⟨hact, ha1⟩ := L.ext.act ha
          have := hK O2 W2 E2 w2 L (ha1.put _ hv)
          rw [← act_put, hact] at this
          exact this
    · rename_i hw
      have hw' : Region.wanted o (yielded ops (E.act a).tmps) = false := by rw [wanted_act E hgs]; simpa using hw
      simp only [Option.some.injEq, Prod.mk.injEq] at h
      obtain ⟨rfl, rfl⟩ := h
      refine .quiet rfl (fun w => g_op_skip ho hw') ?_
      have := hK O W E w (Later.refl hr ow) (ha.put _ (undef_clo _))
      rw [← act_put_undef] at this
      exact this
/-- How far memory has been written goes down alone. -/
theorem opStep_wm {P : Program} (hP : NoCount P) {R : Rec} (hR : RecOk P R) {ops : Array Oper} {i : Nat} {ar : Option Nat} {a a' : CA} {N N' : CH} (h : opStep P R ops ar i a N = some (a', N')) {E : Env} {w : World} (hr : Rel P E N w) (ha : a.Clo E.D) :
    ∃ E' w', Rel P E' N' w' ∧ a'.Clo E'.D ∧ N'.wm ≤ N.wm := by
  obtain ⟨_, _, _, _, hh⟩ := (opStep_ok hP hR h (main := true) (J := fun _ => True) (lo := 0) (Nat.zero_le _) hr (own_all hr) ha (b := { (default : Frame) with kind := .normal, roundOf := none }) (fun _ => rfl) [] [] [] (fun _ => caller_nil (.inl rfl))
    (K := fun _ _ _ _ => ∃ E' w', Rel P E' N' w' ∧ a'.Clo E'.D ∧ N'.wm ≤ N.wm) fun _ _ E' w' L hc => .stop fun _ _ _ => ⟨E', w', L.rel, hc, L.ext.wm⟩).reaches (fun _ h => h) (fun _ h => h)
  exact hh

theorem opList_wm {P : Program} (hP : NoCount P) {R : Rec} (hR : RecOk P R) {ops : Array Oper} {ar : Option Nat} : ∀ (l : List Nat) {a a' : CA} {N N' : CH}, opList P R ops ar l a N = some (a', N') →
    ∀ {E : Env} {w : World}, Rel P E N w → a.Clo E.D → N'.wm ≤ N.wm
  | [], a, a', N, N', h, E, w, hr, ha => by
    simp only [opList, Option.some.injEq, Prod.mk.injEq] at h
    obtain ⟨rfl, rfl⟩ := h
    exact Nat.le_refl _
  | i :: rest, a, a', N, N', h, E, w, hr, ha => by
    simp only [opList, Option.bind_eq_some_iff] at h
    obtain ⟨⟨a1, N1⟩, h1, h2⟩ := h
    obtain ⟨E1, w1, hr1, ha1, hle⟩ := opStep_wm hP hR h1 hr ha
    exact Nat.le_trans (opList_wm hP hR rest h2 hr1 ha1) hle
theorem opList_ok {P : Program} (hP : NoCount P) {R : Rec} (hR : RecOk P R) {ops : Array Oper} {ar : Option Nat} : ∀ (l : List Nat) {a a' : CA} {N N' : CH}, opList P R ops ar l a N = some (a', N') →
    ∀ {main : Bool} {J : World → Prop} [Ctx main J] {lo : Nat} {E : Env} {w : World} {O W : Nat → Prop}, lo ≤ N'.wm → Rel P E N w → Own O W lo E N w → a.Clo E.D → ∀ (b : Frame) (_ : ar = none → b.roundOf = none) (k : List Item) (cs : List Frame) (_ : Calm b cs)
      {K : (Nat → Prop) → (Nat → Prop) → Goroutine → World → Prop},
    (∀ O' W' E' w', Later P lo O W E N w O' W' E' N' w' → a'.Clo E'.D → Will P main J K O' W' (G (fat b (E'.act a') k) cs) w') → Will P main J K O W (G (fat b (E.act a) (.inRegion ops l :: k)) cs) w
  | [], a, a', N, N', h, main, J, _, lo, E, w, O, W, hlo, hr, ow, ha, b, hro, k, cs, hcalm, K, hK => by
    simp only [opList, Option.some.injEq, Prod.mk.injEq] at h
    obtain ⟨rfl, rfl⟩ := h
    exact .quiet rfl (fun _ => g_region_end) (hK O W E w (Later.refl hr ow) ha)
  | i :: rest, a, a', N, N', h, main, J, _, lo, E, w, O, W, hlo, hr, ow, ha, b, hro, k, cs, hcalm, K, hK => by
    simp only [opList, Option.bind_eq_some_iff] at h
    obtain ⟨⟨a1, N1⟩, h1, h2⟩ := h
    have hlo1 : lo ≤ N1.wm := by
      obtain ⟨E1, w1, hr1, ha1, _⟩ := opStep_wm hP hR h1 hr ha
      exact Nat.le_trans hlo (opList_wm hP hR rest h2 hr1 ha1)
    refine opStep_ok hP hR h1 hlo1 hr ow ha b hro rest k cs hcalm fun O1 W1 E1 w1 L1 ha1 => ?_
    exact opList_ok hP hR rest h2 hlo L1.rel L1.own ha1 b hro k cs hcalm fun O2 W2 E2 w2 L2 ha2 => hK O2 W2 E2 w2 (L1.trans L2) ha2

/-! ### records of loops over functions -/
theorem Rel.setObj {P : Program} {E : Env} {N : CH} {w : World} (R : Rel P E N w) {l : Nat} {b b' : CB} {o o' : Obj} (hl : E.D l) (hwm : True) (hg : N.get l = some b) (hb : b.isDead = false) (ho : w.heap[E.f l]? = some o)
    (h' : BlkRel P E l b' (some o')) : Rel P E (N.set l b') { w with heap := w.heap.setIfInBounds (E.f l) o' } ∧ Ext E N w E (N.set l b') { w with heap := w.heap.setIfInBounds (E.f l) o' } := by
  have hlt : E.f l < w.heap.size := (Array.getElem?_eq_some_iff.1 ho).1
  refine R.change hl hwm ⟨_, hg, hb⟩ ?_ (fun j hj => heap_setObj_other w _ j _ hj) (by simp) rfl rfl rfl
  rw [heap_setObj w _ _ hlt]
  exact h'
theorem run_getLoop {P : Program} {w : World} {l : Nat} {r : Loop} (h : w.heap[l]? = some (.loop r)) : (Instr.getLoop l).run P w = .ok r w := by
  simp [Instr.getLoop, getObj, Sem.run, h]
theorem run_setLoop {P : Program} {w : World} {l : Nat} {r : Loop} (o : Obj) (h : w.heap[l]? = some (.loop r)) : (setObj l o).run P w = .ok () { w with heap := w.heap.setIfInBounds l o } := by
  simp [setObj, Sem.run, h]

/-- The loop begins. -/
def centerLoop (fn : FuncId) (a : CA) (params : Array Tmp) (as bd : Code) (ar : Option Nat) (N : CH) : Option (Nat × CA × CH) :=
  match ar with
  | some l =>
    match N.get l with
    | some (.loop r) => if N.fits then some (N.sz, a, N.push (.loop { state := .ready, pending := none, fn, tmps := a.tmps.toArray, params, assign := as, body := bd, defers := r.defers })) else none
    | _ => none
  | none =>
    if N.fits then
      some (N.sz + 1, { a with dm := .coll N.sz :: a.dm }, (N.push .dfr).push (.loop { state := .ready, pending := none, fn, tmps := a.tmps.toArray, params, assign := as, body := bd, defers := N.sz }))
    else none
theorem enterLoop_ok {P : Program} {E : Env} {N N' : CH} {w : World} (R : Rel P E N w) {fn : FuncId} {a a' : CA} (ha : a.Clo E.D) {params : Array Tmp} {as bd : Code} {ar : Option Nat} (har : ∀ l, ar = some l → E.D l) {l : Nat}
    (h : centerLoop fn a params as bd ar N = some (l, a', N')) :
    ∃ E' w' mark, Rel P E' N' w' ∧ Ext E N w E' N' w' ∧ a'.Clo E'.D ∧ E'.D l ∧ E'.act a' = { E.act a with defers := mark ++ (E.act a).defers } ∧
      (Instr.enterLoop fn (E.act a).tmps params as bd (ar.map E.f)).run P w = .ok (E'.f l, mark) w' := by
  unfold centerLoop at h
  cases ar with
  | some l0 =>
    simp only at h
    cases hg : N.get l0 with
    | none => simp [hg] at h
    | some b =>
      cases b with
      | loop r =>
        simp only [hg] at h
        split at h
        · rename_i hsz
          simp only [Option.some.injEq, Prod.mk.injEq] at h
          obtain ⟨rfl, rfl, rfl⟩ := h
          have hd := har l0 rfl
          obtain ⟨⟨_, hdf⟩, ho⟩ := R.blk l0 _ hd hg
          have hne : ∀ j, E.D j → j ≠ N.sz := fun j hj => by have := R.dom j hj; omega
          obtain ⟨R', X⟩ := R.new hsz (b := .loop { state := .ready, pending := none, fn, tmps := a.tmps.toArray, params, assign := as, body := bd, defers := r.defers })
            (o := .loop { state := .ready, pending := none, fn, tmps := (E.act a).tmps, params, assign := as, body := bd, defers := E.f r.defers }) (y := 0) (z := 0) (by
              refine ⟨⟨fun v hv => Clo_mono (fun _ h => .inr h) v (ha.tmps v (by simpa using hv)), .inr hdf⟩, ?_⟩
              have h1 : a.tmps.toArray.map (E.add N.sz w.heap.size 0 0).m = (E.act a).tmps := by
                apply Array.ext'
                simp only [Array.toList_map, Env.act]
                exact List.map_congr_left fun v hv => R.clo_lt (ha.tmps v hv)
              have h2 : (E.add N.sz w.heap.size 0 0).f r.defers = E.f r.defers := by simp [Env.add, hne _ hdf]
              simp only [h1, h2])
          obtain ⟨hact, ha'⟩ := X.act ha
          refine ⟨_, _, [], R', X, ha', Env.add_D .., by rw [hact]; rfl, ?_⟩
          simp [Instr.enterLoop, run_getLoop ho, Env.add]
        · cases h
      | _ => simp [hg] at h
  | none =>
    simp only at h
    split at h
    · rename_i hsz
      simp only [Option.some.injEq, Prod.mk.injEq] at h
      obtain ⟨rfl, rfl, rfl⟩ := h
      obtain ⟨R1, X1⟩ := R.new hsz (b := .dfr) (o := .deferred (some [])) (y := 0) (z := 0) rfl
      obtain ⟨hact1, ha1⟩ := X1.act ha
      have hs1 : (N.push .dfr).sz = N.sz + 1 := rfl
      have hD1 : (E.add N.sz w.heap.size 0 0).D N.sz := Env.add_D ..
      have hne : ∀ j, (E.add N.sz w.heap.size 0 0).D j → j ≠ N.sz + 1 := fun j hj => by have := R1.dom j hj; omega
      obtain ⟨R2, X2⟩ := R1.new trivial (b := .loop { state := .ready, pending := none, fn, tmps := a.tmps.toArray, params, assign := as, body := bd, defers := N.sz })
        (o := .loop { state := .ready, pending := none, fn, tmps := (E.act a).tmps, params, assign := as, body := bd, defers := w.heap.size }) (y := 0) (z := 0) (by
          refine ⟨⟨fun v hv => Clo_mono (fun _ h => .inr h) v (ha1.tmps v (by simpa using hv)), .inr hD1⟩, ?_⟩
          have h1 : a.tmps.toArray.map ((E.add N.sz w.heap.size 0 0).add (N.push .dfr).sz (w.alloc (.deferred (some []))).heap.size 0 0).m = (E.act a).tmps := by
            rw [← hact1]
            apply Array.ext'
            simp only [Array.toList_map, Env.act]
            exact List.map_congr_left fun v hv => R1.clo_lt (ha1.tmps v hv)
          have h2 : ((E.add N.sz w.heap.size 0 0).add (N.push .dfr).sz (w.alloc (.deferred (some []))).heap.size 0 0).f N.sz = w.heap.size := by
            rw [hs1]
            simp [Env.add]
          simp only [h1, h2])
      obtain ⟨hact2, ha2⟩ := X2.act ha1
      refine ⟨_, _, [{ target := .collected w.heap.size, args := #[] }], R2, X1.trans X2, ⟨ha2.tmps, ?_⟩, Env.add_D .., ?_, ?_⟩
      · intro k hk
        rcases List.mem_cons.1 hk with rfl | hk
        · exact .inr hD1
        · exact ha2.dm k hk
      · have hf : ((E.add N.sz w.heap.size 0 0).add (N.push .dfr).sz (w.alloc (.deferred (some []))).heap.size 0 0).f N.sz = w.heap.size := by rw [hs1]; simp [Env.add]
        rw [← hact1, ← hact2]
        simp only [Env.act, List.map_cons, Env.dm, hf]
        rfl
      · have hf : ((E.add N.sz w.heap.size 0 0).add (N.push .dfr).sz (w.alloc (.deferred (some []))).heap.size 0 0).f (N.sz + 1) = (w.alloc (.deferred (some []))).heap.size := by rw [hs1]; simp [Env.add]
        rw [hf]
        simp [Instr.enterLoop]
    · cases h
def cendLoop (l : Nat) (N : CH) : Option (Option Code × CH) :=
  match N.get l with
  | some (.loop r) => if r.state = .busy then none else (N.wset l (.loop { r with state := .exhausted })).map fun N' => (r.pending, N')
  | _ => none
theorem endLoop_ok {P : Program} {E : Env} {N N' : CH} {w : World} (R : Rel P E N w) {l : Nat} (hl : E.D l) {jump : Option Code} (h : cendLoop l N = some (jump, N')) :
    ∃ w', Rel P E N' w' ∧ Ext E N w E N' w' ∧ (Instr.endLoop (E.f l)).run P w = .ok jump w' := by
  unfold cendLoop at h
  split at h
  · rename_i r hg
    split at h
    · cases h
    · rename_i hb
      obtain ⟨N1, hN1, e⟩ := Option.map_eq_some_iff.1 h
      cases e
      obtain ⟨hwm, rfl⟩ := CH.wset_some hN1
      obtain ⟨hc, ho⟩ := R.blk l _ hl hg
      obtain ⟨R', X⟩ := R.setObj hl hwm hg rfl ho (b' := .loop { r with state := .exhausted }) ⟨hc, rfl⟩
      refine ⟨_, R', X, ?_⟩
      have hb' : (r.state == LoopState.busy) = false := by simpa using hb
      simp only [Instr.endLoop, Sem.run_bind, run_getLoop ho, Result.andThen_ok, hb', Bool.false_eq_true, if_false, Sem.run_pure]
      rw [run_setLoop _ ho]
      rfl
  · cases h
def cbegin (l : Nat) (N : CH) : Option CH :=
  match N.get l with
  | some (.loop r) => if r.state = .ready then N.wset l (.loop { r with state := .busy }) else none
  | _ => none
theorem beginRound_ok {P : Program} {E : Env} {N N' : CH} {w : World} (R : Rel P E N w) {l : Nat} (hl : E.D l) (h : cbegin l N = some N') :
    ∃ w', Rel P E N' w' ∧ Ext E N w E N' w' ∧ (Instr.beginRound (E.f l)).run P w = .ok () w' := by
  unfold cbegin at h
  split at h
  · rename_i r hg
    split at h
    · rename_i hb
      obtain ⟨hwm, rfl⟩ := CH.wset_some h
      obtain ⟨hc, ho⟩ := R.blk l _ hl hg
      obtain ⟨R', X⟩ := R.setObj hl hwm hg rfl ho (b' := .loop { r with state := .busy }) ⟨hc, rfl⟩
      refine ⟨_, R', X, ?_⟩
      simp only [Instr.beginRound, Sem.run_bind, run_getLoop ho, Result.andThen_ok]
      rw [run_setLoop _ ho]
      simp only [Result.andThen_ok, hb]
      rfl
    · cases h
  · cases h
def Ex.jump : Ex → Option Code
  | .normal => none
  | .ret => some .ret
  | .exit id => some (.exit id)
def cendRound (l : Nat) (jump : Option Code) (N : CH) : Option (Value × CH) :=
  match N.get l with
  | some (.loop r) => (N.wset l (.loop { r with state := if jump.isNone then .ready else .done, pending := jump })).map fun N' => (.bool jump.isNone, N')
  | _ => none
theorem endRound_ok {P : Program} {E : Env} {N N' : CH} {w : World} (R : Rel P E N w) {l : Nat} (hl : E.D l) {jump : Option Code} {v : Value} (h : cendRound l jump N = some (v, N')) :
    ∃ w', Rel P E N' w' ∧ Ext E N w E N' w' ∧ Clo E.D v ∧ (Instr.endRound (E.f l) jump).run P w = .ok (E.m v) w' := by
  unfold cendRound at h
  split at h
  · rename_i r hg
    obtain ⟨N1, hN1, e⟩ := Option.map_eq_some_iff.1 h
    cases e
    obtain ⟨hwm, rfl⟩ := CH.wset_some hN1
    obtain ⟨hc, ho⟩ := R.blk l _ hl hg
    obtain ⟨R', X⟩ := R.setObj hl hwm hg rfl ho (b' := .loop { r with state := if jump.isNone then .ready else .done, pending := jump }) ⟨hc, rfl⟩
    refine ⟨_, R', X, trivial, ?_⟩
    simp only [Instr.endRound, Sem.run_bind, run_getLoop ho, Result.andThen_ok]
    rw [run_setLoop _ ho]
    rfl
  · cases h

end Go.Eng

