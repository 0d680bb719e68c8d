/-
  The engine, part J: the plain doing of code, of calls and of rounds, and that the model does just that. (Regions that leave their order open: part K.)
-/
import Derived.Test.YtjoelgicffojcaaGreatDoorEngT
set_option linter.unusedSectionVars false
set_option linter.unusedSimpArgs false
set_option linter.unusedVariables false
namespace Go.Eng
noncomputable section
open Go.Conc (G)
set_option linter.unusedSimpArgs false
set_option linter.unusedVariables false
set_option linter.unusedSectionVars false
variable [Hk]
inductive DM where
 | coll (k : Nat)
 | call (f : FuncId) (q args : List Value)
def Env.dm (E : Env) : DM → Deferred
 | .coll k => { target := .collected (E.f k), args := #[] }
 | .call f q args => { target := .fn (.func f) (q.map E.m).toArray, args := (args.map E.m).toArray }
def DM.Clo (D : Nat → Prop) : DM → Prop
 | .coll k => D k
 | .call _ q args => (∀ v ∈ q, Eng.Clo D v) ∧ ∀ v ∈ args, Eng.Clo D v
structure CA where
 tmps : List Value
 dm : List DM
def Env.act (E : Env) (a : CA) : Act := { tmps := (a.tmps.map E.m).toArray, defers := a.dm.map E.dm }
structure CA.Clo (D : Nat → Prop) (a : CA) : Prop where
 tmps : ∀ v ∈ a.tmps, Eng.Clo D v
 dm : ∀ d ∈ a.dm, d.Clo D
theorem DM.Clo.mono {D D' : Nat → Prop} (h : ∀ k, D k → D' k) {d : DM} (hd : d.Clo D) : d.Clo D' := by
 cases d with
 | coll k => exact h k hd
 | call f q args => exact ⟨fun v hv => Clo_mono h v (hd.1 v hv), fun v hv => Clo_mono h v (hd.2 v hv)⟩
theorem dm_ext {E E' : Env} (ho : E'.o = E.o) (h : ∀ k, E.D k → E'.f k = E.f k ∧ E'.x k = E.x k ∧ E'.s k = E.s k) {d : DM} (hd : d.Clo E.D) : E'.dm d = E.dm d := by
 have hm : ∀ v, Eng.Clo E.D v → E'.m v = E.m v := fun v hv => mv_ext ho h v hv
 cases d with
 | coll k => simp only [Env.dm, (h k hd).1]
 | call f q args =>
  simp only [Env.dm]
  rw [List.map_congr_left fun v hv => hm v (hd.1 v hv), List.map_congr_left fun v hv => hm v (hd.2 v hv)]
def CA.put (a : CA) (dst : Option Tmp) (v : Value) : CA :=
 match dst with
 | some d => { a with tmps := a.tmps.set d v }
 | none => a
theorem act_put (E : Env) (a : CA) (dst : Option Tmp) (v : Value) : (E.act a).put dst (E.m v) = E.act (a.put dst v) := by
 cases dst with
 | none => rfl
 | some d => simp [Env.act, Act.put, CA.put, List.map_set]
theorem act_put_undef (E : Env) (a : CA) (dst : Option Tmp) : (E.act a).put dst undef = E.act (a.put dst undef) := act_put E a dst undef
theorem CA.Clo.put {D : Nat → Prop} {a : CA} (h : a.Clo D) (dst : Option Tmp) {v : Value} (hv : Eng.Clo D v) : (a.put dst v).Clo D := by
 cases dst with
 | none => exact h
 | some d =>
  refine ⟨?_, h.dm⟩
  intro u hu
  rcases List.mem_or_eq_of_mem_set hu with h1 | h1
  ·exact h.tmps u h1
  ·rw [h1]; exact hv
theorem Ext.act {E E' : Env} {N N' : CH} {w w' : World} (X : Ext E N w E' N' w') {a : CA} (h : a.Clo E.D) : E'.act a = E.act a ∧ a.Clo E'.D := by
 refine ⟨?_, ⟨fun v hv => X.clo (h.tmps v hv), fun d hd => (h.dm d hd).mono fun k hk => (X.mono k hk).1⟩⟩
 have h1 : a.tmps.map E'.m = a.tmps.map E.m := List.map_congr_left fun v hv => X.m (h.tmps v hv)
 have h2 : a.dm.map E'.dm = a.dm.map E.dm := List.map_congr_left fun d hd => dm_ext X.op (fun k hk => (X.mono k hk).2) (h.dm d hd)
 unfold Env.act
 rw [h1, h2]
theorem ExtC.act {O : Nat → Prop} {E E' : Env} {N N' : CH} {w w' : World} (X : ExtC O E N w E' N' w') {a : CA} (h : a.Clo E.D) : E'.act a = E.act a ∧ a.Clo E'.D := by
 refine ⟨?_, ⟨fun v hv => X.clo (h.tmps v hv), fun d hd => (h.dm d hd).mono fun k hk => (X.mono k hk).1⟩⟩
 have h1 : a.tmps.map E'.m = a.tmps.map E.m := List.map_congr_left fun v hv => X.m (h.tmps v hv)
 have h2 : a.dm.map E'.dm = a.dm.map E.dm := List.map_congr_left fun d hd => dm_ext X.op (fun k hk => (X.mono k hk).2) (h.dm d hd)
 unfold Env.act
 rw [h1, h2]
def cev (a : CA) : Ev
 | .tmp t => some (a.tmps.getD t undef)
 | .const v => if plain v = true then some v else none
 | .func f => some (.func (.func f) #[] #[])
 | .global g => if g < LIM then some (.pointer (some ⟨g, 0, none⟩)) else none
theorem undef_clo (D : Nat → Prop) : Clo D undef := Clo_tuple.2 (by simp)
theorem m_undef (E : Env) : E.m undef = undef := rfl
theorem m_global {E : Env} {g : Nat} (h : E.D g ∧ E.f g = g ∧ E.s g = 0) : E.m (.pointer (some ⟨g, 0, none⟩)) = .pointer (some ⟨g, 0, none⟩) := by
 simp [Env.m, mv, h.2.1, h.2.2]
theorem clo_global {E : Env} {g : Nat} (h : E.D g ∧ E.f g = g ∧ E.s g = 0) : Clo E.D (.pointer (some ⟨g, 0, none⟩)) := by
 simp [Clo, h.1]
theorem cev_ok {E : Env} {a : CA} (hgl : E.Gl) (h : a.Clo E.D) : EvOk E (cev a) (E.act a).eval := by
 intro x v hx
 cases x with
 | tmp t =>
  simp only [cev, Option.some.injEq] at hx
  subst hx
  refine ⟨?_, ?_⟩
  ·simp only [Act.eval, Env.act, Array.getD_eq_getD_getElem?, List.getElem?_toArray, List.getElem?_map, List.getD_eq_getElem?_getD]
   cases a.tmps[t]? <;> rfl
  ·rw [List.getD_eq_getElem?_getD]
   cases ht : a.tmps[t]? with
   | none => exact undef_clo _
   | some u => exact h.tmps u (List.mem_of_getElem? ht)
 | const u =>
  simp only [cev] at hx
  split at hx
  ·cases hx; exact ⟨(m_plain E (by assumption)).symm, Clo_plain _ _ (by assumption)⟩
  ·cases hx
 | func f =>
  simp only [cev, Option.some.injEq] at hx
  subst hx
  exact ⟨rfl, ⟨trivial, trivial, trivial⟩⟩
 | global g =>
  simp only [cev] at hx
  split at hx
  ·rename_i hg
   cases hx
   exact ⟨(m_global (hgl g hg)).symm, clo_global (hgl g hg)⟩
  ·cases hx
def cyielded (ops : Array Oper) (tmps : List Value) (j : Nat) : Option Bool :=
 match ((ops[j]?).bind (·.dst)).bind (tmps[·]?) with
 | some (.bool b) => some b
 | _ => none
def guardSeen (ops : Array Oper) (tmps : List Value) (o : Oper) : Bool :=
 match o.guard with
 | none => true
 | some (g, _) => match ((ops[g]?).bind (·.dst)).bind (tmps[·]?) with
  | some (.chan (some _)) => false
  | _ => true
theorem m_bool_iff (E : Env) (v : Value) (b : Bool) (hv : ∀ r, v ≠ .chan (some r)) : E.m v = .bool b ↔ v = .bool b := by
 cases v with
 | pointer a => cases a <;> simp [Env.m, mv]
 | slice a => cases a <;> simp [Env.m, mv]
 | map a => cases a <;> simp [Env.m, mv]
 | chan a =>
  cases a with
  | none => simp [Env.m, mv]
  | some r => exact absurd rfl (hv r)
 | func g p q => rw [m_func]; simp
 | agg cs => simp [Env.m, mv_agg]
 | tuple cs => simp [Env.m, mv_tuple]
 | _ => simp [Env.m, mv]
theorem yielded_at {E : Env} {ops : Array Oper} {a : CA} {tmps : Array Value} {g : Nat} (ht : ∀ x, ((ops[g]?).bind (·.dst)) = some x → tmps[x]? = (a.tmps[x]?).map E.m)
  (h : ∀ r, ((ops[g]?).bind (·.dst)).bind (a.tmps[·]?) ≠ some (.chan (some r))) : yielded ops tmps g = cyielded ops a.tmps g := by
 unfold yielded cyielded
 have h1 : ((ops[g]?).bind (·.dst)).bind (tmps[·]?) = (((ops[g]?).bind (·.dst)).bind (a.tmps[·]?)).map E.m := by
  cases hd : (ops[g]?).bind (·.dst) with
  | none => rfl
  | some x => exact ht x hd
 rw [h1]
 cases hv : ((ops[g]?).bind (·.dst)).bind (a.tmps[·]?) with
 | none => rfl
 | some v =>
  have hne : ∀ r, v ≠ .chan (some r) := fun r e => h r (by rw [hv, e])
  simp only [Option.map_some]
  by_cases hb : ∃ b, v = .bool b
  ·obtain ⟨b, rfl⟩ := hb; rfl
  ·have h1 : ∀ b, E.m v ≠ .bool b := fun b e => hb ⟨b, (m_bool_iff E v b hne).1 e⟩
   split
   ·rename_i b he; simp only [Option.some.injEq] at he; exact absurd he (h1 b)
   ·split
    ·rename_i b he; simp only [Option.some.injEq] at he; exact absurd ⟨b, he⟩ hb
    ·rfl
theorem wanted_at {E : Env} {ops : Array Oper} {a : CA} {tmps : Array Value} {o : Oper} (hg : guardSeen ops a.tmps o = true)
  (ht : ∀ g want x, o.guard = some (g, want) → (ops[g]?).bind (·.dst) = some x → tmps[x]? = (a.tmps[x]?).map E.m) : Region.wanted o (yielded ops tmps) = Region.wanted o (cyielded ops a.tmps) := by
 unfold Region.wanted
 unfold guardSeen at hg
 cases hgu : o.guard with
 | none => rfl
 | some gw =>
  obtain ⟨g, want⟩ := gw
  simp only [hgu] at hg ⊢
  rw [yielded_at (ht g want · hgu) (fun r e => by rw [e] at hg; cases hg)]
theorem wanted_act (E : Env) {ops : Array Oper} {a : CA} {o : Oper} (hg : guardSeen ops a.tmps o = true) : Region.wanted o (yielded ops (E.act a).tmps) = Region.wanted o (cyielded ops a.tmps) :=
 wanted_at (E := E) hg (fun _ _ x _ _ => by simp [Env.act])
structure Rec where
 call : FuncId → List Value → CH → Option (Value × CH)
 round : Nat → FuncId → List Value → Code → Code → CH → Option (Value × CH)
def cdefer (ev : Ev) (o : Oper) : Option DM :=
 match o.op with
 | .defer c => match c.callee with
  | .value f => match ev f, evL ev c.args.toList with
   | some (.func (.func f) p q), some args => some (.call f q.toList (p.toList ++ args))
   | _, _ => none
  | _ => none
 | _ => none
def crecover (o : Oper) : Bool :=
 match o.op with
 | .call c => match c.callee with
  | .builtin .recover => true
  | _ => false
 | _ => false
theorem cdefer_ok {E : Env} {a : CA} (hgl : E.Gl) (ha : a.Clo E.D) {o : Oper} {d : DM} (h : cdefer (cev a) o = some d) (w : World) (P : Program) :
  d.Clo E.D ∧ ∃ c, o.op = .defer c ∧ (execOp (E.act a).eval o).run P w = .ok (.defer (E.dm d)) w := by
 unfold cdefer at h
 split at h
 ·rename_i c ho'
  split at h
  ·rename_i fo hcal
   split at h
   ·rename_i g p q args hf hargs
    cases h
    obtain ⟨hf1, hf2⟩ := cev_ok hgl ha fo _ hf
    obtain ⟨ha1, ha2⟩ := evL_ok (cev_ok hgl ha) hargs
    have hpq : (∀ u ∈ p.toList, Clo E.D u) ∧ (∀ u ∈ q.toList, Clo E.D u) := by
     obtain ⟨p⟩ := p; obtain ⟨q⟩ := q
     exact ⟨CloL_all.1 hf2.2.1, CloL_all.1 hf2.2.2⟩
    refine ⟨⟨hpq.2, ?_⟩, c, ho', ?_⟩
    ·intro u hu
     rcases List.mem_append.1 hu with hu | hu
     ·exact hpq.1 u hu
     ·exact ha2 u hu
    ·have e1 : c.args.map (E.act a).eval = (args.map E.m).toArray := by apply Array.ext'; simpa using ha1
     have e2 : E.m (.func (.func g) p q) = .func (.func g) (p.map E.m) (q.map E.m) := m_func E (.func g) p q
     simp only [execOp, ho', resolve, hcal, e1, hf1, e2, Deferred.ofValue, pure_bind, Sem.run_pure, Env.dm]
     have e3 : (q.toList.map E.m).toArray = q.map E.m := by apply Array.ext'; simp
     have e4 : ((p.toList ++ args).map E.m).toArray = p.map E.m ++ (args.map E.m).toArray := by apply Array.ext'; simp
     rw [e3, e4]
   ·cases h
  ·cases h
 ·cases h
theorem crecover_ok {a : Act} {o : Oper} (h : crecover o = true) (P : Program) (w : World) : ∃ c, o.op = .call c ∧ (execOp a.eval o).run P w = .ok .recover w := by
 unfold crecover at h
 split at h
 ·rename_i c ho'
  split at h
  ·rename_i hcal
   exact ⟨c, ho', by simp [execOp, ho', resolve, hcal, invoke, builtin]⟩
  ·cases h
 ·cases h
def opStep (P : Program) (R : Rec) (ops : Array Oper) (ar : Option Nat) (i : Nat) (a : CA) (N : CH) : Option (CA × CH) :=
 match ops[i]? with
 | none => none
 | some o =>
  if guardSeen ops a.tmps o = false then none else
  if Region.wanted o (cyielded ops a.tmps) = true then
   match cop P (cev a) o N with
   | some (.val v, N') => some (a.put o.dst v, N')
   | some (.skip, N') => some (a.put o.dst undef, N')
   | some (.enter f args, N') => (R.call f args N').map fun r => (a.put o.dst r.1, r.2)
   | some (.round l f tmps as bd, N') => (R.round l f tmps as bd N').map fun r => (a.put o.dst r.1, r.2)
   | none => if ar.isSome = true then none else match cdefer (cev a) o with
    | some d => some ({ a.put o.dst undef with dm := d :: a.dm }, N)
    | none => if crecover o = true then some (a.put o.dst .nilIface, N) else none
  else some (a.put o.dst undef, N)
def opList (P : Program) (R : Rec) (ops : Array Oper) (ar : Option Nat) : List Nat → CA → CH → Option (CA × CH)
 | [], a, N => some (a, N)
 | i :: r, a, N => (opStep P R ops ar i a N).bind fun x => opList P R ops ar r x.1 x.2
inductive Ex where
 | normal
 | ret
 | exit (id : Nat)
def Arr (b : Frame) (k : List Item) : Ex → Act → Frame → Prop
 | .normal, a, fr => fr = fat b a k
 | .ret, a, fr => ∃ todo, fr = fat b a (.code .ret :: todo)
 | .exit id, a, fr => ∃ todo, exitTo id todo = exitTo id k ∧ fr = fat b a (.code (.exit id) :: todo)
def Ready (P : Program) (O : Nat → Prop) (w : World) (fr : Frame) (kd : CallKind) (v : Value) : Prop :=
 fr.mode = .returning ∧ fr.defers = [] ∧ fr.kind = kd ∧ ∃ fn, P.funcs[fr.fn]? = some fn ∧ ∀ w1, Rely O w w1 → (results fn fr.tmps).run P w1 = .ok v w1 ∧ EvOk' O (fun _ => False) w1 w1 ((results fn fr.tmps).events P w1 #[])
theorem Ready.rely {P : Program} {O : Nat → Prop} {w w1 : World} {fr : Frame} {kd : CallKind} {v : Value} (h : Ready P O w fr kd v) (hr : Rely O w w1) : Ready P O w1 fr kd v := by
 obtain ⟨h1, h2, h3, fn, h4, h5⟩ := h
 exact ⟨h1, h2, h3, fn, h4, fun w2 h6 => h5 w2 (hr.trans h6)⟩
theorem EvOk'.mono {O W W' : Nat → Prop} {w w' : World} {es : Array Event} (h : EvOk' O W w w' es) (hw : ∀ b, W b → W' b) : EvOk' O W' w w' es := fun e he => (h e he).imp id fun hf => hf.imp id fun ⟨b, h1, h2, h3, h4, h5⟩ => ⟨b, h1, h2, h3, h4, fun hh => (h5 hh).imp (hw b) id⟩
def Caller (kd : CallKind) (cs : List Frame) : Prop := (kd = .normal ∨ kd = .deferred) ∧ ∀ fr : Frame, fr.kind = .deferred → tryRecover fr cs = none
theorem caller_nil {kd : CallKind} (h : kd = .normal ∨ kd = .deferred) : Caller kd [] := ⟨h, fun fr hk => by simp [tryRecover, hk]⟩
theorem caller_run {kd : CallKind} (h : kd = .normal ∨ kd = .deferred) {c : Frame} {r : List Frame} (hm : c.mode = .run) : Caller kd (c :: r) := ⟨h, fun fr hk => by simp [tryRecover, hk, hm]⟩
theorem Caller.any {kd : CallKind} {cs : List Frame} (h : Caller kd cs) : Caller .deferred cs := ⟨.inr rfl, h.2⟩
theorem Caller.none {kd : CallKind} {cs : List Frame} (h : Caller kd cs) {fr : Frame} (hk : fr.kind = kd) : tryRecover fr cs = Option.none := by
 rcases h.1 with h1 | h1
 ·simp [tryRecover, hk, h1]
 ·exact h.2 fr (hk.trans h1)
theorem caller_returning (c : Frame) (r : List Frame) (h : c.mode = .returning) : Caller .deferred (c :: r) := ⟨.inr rfl, fun fr hk => by simp [tryRecover, hk, h]⟩
def Calm (b : Frame) (cs : List Frame) : Prop := b.roundOf = none → Caller b.kind cs
def CallOk (P : Program) (f : FuncId) (args : List Value) (N : CH) (v : Value) (N' : CH) : Prop :=
 ∀ (main : Bool) (J : World → Prop) [Ctx main J] (lo : Nat) (E : Env) (w : World) (O W : Nat → Prop), lo ≤ N'.wm → Rel P E N w → Own O W lo E N w → (∀ u ∈ args, Clo E.D u) → ∀ kd cs, Caller kd cs → ∀ K,
  (∀ O' W' E' w' fr, Later P lo O W E N w O' W' E' N' w' → Clo E'.D v → fr.fn = f → Ready P O' w' fr kd (E'.m v) → Will P main J K O' W' (G fr cs) w') →
  Will P main J K O W (G (Frame.enter P f (args.map E.m).toArray kd) cs) w
def RoundOk (P : Program) (l : Nat) (f : FuncId) (tmps : List Value) (as bd : Code) (N : CH) (v : Value) (N' : CH) : Prop :=
 ∀ (main : Bool) (J : World → Prop) [Ctx main J] (lo : Nat) (E : Env) (w : World) (O W : Nat → Prop), lo ≤ N'.wm → Rel P E N w → Own O W lo E N w → E.D l → (∀ u ∈ tmps, Clo E.D u) → ∀ (c : Frame) cs K,
  (∀ O' W' E' w', Later P lo O W E N w O' W' E' N' w' → Clo E'.D v → Will P main J K O' W' (G (c.finish (E'.m v)) cs) w') →
  Will P main J K O W (G (Frame.round (E.f l) f (tmps.map E.m).toArray as bd .normal) (c :: cs)) w
structure RecOk (P : Program) (R : Rec) : Prop where
 call : ∀ f args N v N', R.call f args N = some (v, N') → CallOk P f args N v N'
 round : ∀ l f tmps as bd N v N', R.round l f tmps as bd N = some (v, N') → RoundOk P l f tmps as bd N v N'
theorem own_all {P : Program} {E : Env} {N : CH} {w : World} (R : Rel P E N w) : Own (fun b => b < w.heap.size) (fun b => b < w.heap.size) 0 E N w :=
 ⟨fun k hk hl => R.live_lt hk hl, fun k hk hl _ => R.live_lt hk hl, fun _ h => h, Nat.zero_le _⟩
theorem CallOk.wm {P : Program} {f : FuncId} {args : List Value} {N N' : CH} {v : Value} (h : CallOk P f args N v N') {E : Env} {w : World} (R : Rel P E N w) (ha : ∀ u ∈ args, Clo E.D u) : N'.wm ≤ N.wm := by
 obtain ⟨_, _, _, _, hh⟩ := (h true (fun _ => True) 0 E w _ _ (Nat.zero_le _) R (own_all R) ha .normal [] (caller_nil (.inl rfl)) (fun _ _ _ _ => N'.wm ≤ N.wm) fun _ _ _ _ _ L _ _ _ => .stop fun _ _ _ => L.ext.wm).reaches (fun _ h => h) (fun _ h => h)
 exact hh
theorem RoundOk.wm {P : Program} {l : Nat} {f : FuncId} {tmps : List Value} {as bd : Code} {N N' : CH} {v : Value} (h : RoundOk P l f tmps as bd N v N') {E : Env} {w : World} (R : Rel P E N w) (hl : E.D l) (ha : ∀ u ∈ tmps, Clo E.D u) : N'.wm ≤ N.wm := by
 obtain ⟨_, _, _, _, hh⟩ := (h true (fun _ => True) 0 E w _ _ (Nat.zero_le _) R (own_all R) hl ha default [] (fun _ _ _ _ => N'.wm ≤ N.wm) fun _ _ _ _ L _ => .stop fun _ _ _ => L.ext.wm).reaches (fun _ h => h) (fun _ h => h)
 exact hh
section
variable {P : Program} {main : Bool} {J : World → Prop} {lo : Nat} {E : Env} {N : CH} {w : World} {O W : Nat → Prop} {K : (Nat → Prop) → (Nat → Prop) → Goroutine → World → Prop}
theorem op_will (hP : NoCount P) (hr : Rel P E N w) (ho : Own O W lo E N w) {ev : Ev} {ρ : Operand → Value} (hev : EvOk E ev ρ) {o : Oper} {nx : CNx} {N1 : CH} (hc : cop P ev o N = some (nx, N1)) (hlo : lo ≤ N1.wm) {fn : FuncId}
  {fr : Frame} {cs : List Frame} {g' : Next → Goroutine}
  (hst : ∀ w1 w2 n, (execOp ρ o).run P w1 = .ok n w2 → (∃ E', n = nx.real E') → ∃ es, Lists P fn ((execOp ρ o).events P w1 #[]) es ∧ stepG P main (G fr cs) w1 = .go (g' n) w2 es)
  (hK : ∀ O' W' E' w', Later P lo O W E N w O' W' E' N1 w' → nx.clo E'.D → Will P main J K O' W' (g' (nx.real E')) w') : Will P main J K O W (G fr cs) w := by
 refine .step rfl fun w1 h1 _ => ?_
 have hr1 := hr.rely ho h1
 have ho1 := ho.rely h1
 obtain ⟨E2, w2, hr2, X2, hclo, hrun⟩ := cop_ok hP hr1 hev hc
 obtain ⟨es, hl, hs⟩ := hst w1 w2 _ hrun ⟨E2, rfl⟩
 exact ⟨_, w2, es, hs, guar_of ho1 hr1 X2 hlo (hl.ok (cop_evs hP hr1 ho1 hev hc hlo hr2 hrun)), hK _ _ E2 w2 ((Later.of_rely hr ho h1).trans (Later.of_step hr1 ho1 hr2 X2 hlo)) hclo⟩
theorem leave_will {fr c : Frame} {cs : List Frame} {v : Value} (h : Ready P O w fr .normal v) (hK : Will P main J K O W (G (c.finish v) cs) w) : Will P main J K O W (G fr (c :: cs)) w := by
 obtain ⟨h1, h2, h3, fn, h4, h5⟩ := h
 refine .step rfl fun w1 hr _ => ?_
 obtain ⟨hrun, hev⟩ := h5 w1 hr
 obtain ⟨es, hl, hs⟩ := g_leave (main := main) (cs := cs) (c := c) h1 h2 h3 h4 hrun
 exact ⟨_, w1, es, hs, ⟨fun _ _ _ => rfl, Nat.le_refl _, rfl, rfl, rfl, hl.ok (hev.mono fun _ h => h.elim)⟩, by rw [grow_self, grow_self]; exact hK.rely hr⟩
end
theorem opStep_ok {P : Program} (hP : NoCount P) {R : Rec} (hR : RecOk P R) {ops : Array Oper} {i : Nat} {ar : Option Nat} {a a' : CA} {N N' : CH} (h : opStep P R ops ar i a N = some (a', N'))
  {main : Bool} {J : World → Prop} [Ctx main J] {lo : Nat} {E : Env} {w : World} {O W : Nat → Prop} (hlo : lo ≤ N'.wm) (hr : Rel P E N w) (ow : Own O W lo E N w) (ha : a.Clo E.D) (b : Frame) (hro : ar = none → b.roundOf = none) (rest : List Nat) (k : List Item) (cs : List Frame) (hcalm : Calm b cs)
  {K : (Nat → Prop) → (Nat → Prop) → Goroutine → World → Prop}
  (hK : ∀ O' W' E' w', Later P lo O W E N w O' W' E' N' w' → a'.Clo E'.D → Will P main J K O' W' (G (fat b (E'.act a') (.inRegion ops rest :: k)) cs) w') :
  Will P main J K O W (G (fat b (E.act a) (.inRegion ops (i :: rest) :: k)) cs) w := by
 unfold opStep at h
 cases ho : ops[i]? with
 | none => simp [ho] at h
 | some o =>
  simp only [ho] at h
  split at h
  ·cases h
  rename_i hgs
  have hgs : guardSeen ops a.tmps o = true := by simpa using hgs
  split at h
  ·rename_i hw
   have hw' : Region.wanted o (yielded ops (E.act a).tmps) = true := by rw [wanted_act E hgs]; exact hw
   cases hc : cop P (cev a) o N with
   | none =>
    simp only [hc] at h
    split at h
    ·cases h
    rename_i har
    have har' : ar = none := by cases ar <;> simp_all
    have hro' := hro har'
    cases hcd : cdefer (cev a) o with
    | some d =>
     simp only [hcd, Option.some.injEq, Prod.mk.injEq] at h
     obtain ⟨rfl, rfl⟩ := h
     unfold cdefer at hcd
     split at hcd
     ·rename_i c ho'
      split at hcd
      ·rename_i fo hcal
       split at hcd
       ·rename_i g p q args hf hargs
        cases hcd
        obtain ⟨hf1, hf2⟩ := cev_ok hr.gl ha fo _ hf
        obtain ⟨ha1, ha2⟩ := evL_ok (cev_ok hr.gl ha) hargs
        have hpq : (∀ u ∈ p.toList, Clo E.D u) ∧ (∀ u ∈ q.toList, Clo E.D u) := by
         obtain ⟨p⟩ := p; obtain ⟨q⟩ := q
         exact ⟨CloL_all.1 hf2.2.1, CloL_all.1 hf2.2.2⟩
        have hex : execOp (E.act a).eval o = pure (.defer (E.dm (.call g q.toList (p.toList ++ args)))) := by
         have e1 : c.args.map (E.act a).eval = (args.map E.m).toArray := by apply Array.ext'; simpa using ha1
         have e2 : E.m (.func (.func g) p q) = .func (.func g) (p.map E.m) (q.map E.m) := m_func E (.func g) p q
         have e3 : (q.toList.map E.m).toArray = q.map E.m := by apply Array.ext'; simp
         have e4 : ((p.toList ++ args).map E.m).toArray = p.map E.m ++ (args.map E.m).toArray := by apply Array.ext'; simp
         simp only [execOp, ho', resolve, hcal, e1, hf1, e2, Deferred.ofValue, pure_bind, Env.dm, e3, e4]
        have hd : (⟨(a.put o.dst undef).tmps, DM.call g q.toList (p.toList ++ args) :: a.dm⟩ : CA).Clo E.D := by
         refine ⟨(ha.put o.dst (undef_clo _)).tmps, ?_⟩
         intro d hd
         rcases List.mem_cons.1 hd with rfl | hd
         ·refine ⟨hpq.2, ?_⟩
          intro u hu
          rcases List.mem_append.1 hu with hu | hu
          ·exact hpq.1 u hu
          ·exact ha2 u hu
         ·exact ha.dm d hd
        have hact : E.act (⟨(a.put o.dst undef).tmps, DM.call g q.toList (p.toList ++ args) :: a.dm⟩ : CA) = { (E.act a).put o.dst undef with defers := E.dm (.call g q.toList (p.toList ++ args)) :: (E.act a).defers } := by
         rw [act_put_undef]
         rfl
        refine .step rfl fun w1 h1 _ => ?_
        obtain ⟨es, hl, hs⟩ := g_defer (P := P) (main := main) (w := w1) (w' := w1) (b := b) (a := E.act a) (k := k) (cs := cs) (rest := rest) ho hw' hro' (by rw [hex]; rfl)
        rw [hex] at hl
        refine ⟨_, w1, es, hs, ⟨fun _ _ _ => rfl, Nat.le_refl _, rfl, rfl, rfl, hl.ok fun e he => by simp [Sem.events, Sem.runT, pure] at he⟩, ?_⟩
        rw [grow_self, grow_self, ← hact]
        exact hK O W E w1 (Later.of_rely hr ow h1) hd
       ·cases hcd
      ·cases hcd
     ·cases hcd
    | none =>
     simp only [hcd] at h
     split at h
     ·rename_i hre
      simp only [Option.some.injEq, Prod.mk.injEq] at h
      obtain ⟨rfl, rfl⟩ := h
      unfold crecover at hre
      split at hre
      ·rename_i c ho'
       split at hre
       ·rename_i hcal
        refine .step rfl fun w1 h1 _ => ?_
        obtain ⟨es, hl, hs⟩ := g_recover (P := P) (main := main) (w := w1) (w' := w1) (b := b) (a := E.act a) (k := k) (cs := cs) (rest := rest) ho hw' hro' (fun fr hk => (hcalm hro').none hk) (fun c' => by rw [ho']; intro e; cases e) (by
         simp [execOp, ho', resolve, hcal, invoke, builtin])
        refine ⟨_, w1, es, hs, ⟨fun _ _ _ => rfl, Nat.le_refl _, rfl, rfl, rfl, hl.ok fun e he => by
         have hex : execOp (E.act a).eval o = pure .recover := by simp [execOp, ho', resolve, hcal, invoke, builtin]
         rw [hex] at he
         simp [Sem.events, Sem.runT, pure] at he⟩, ?_⟩
        rw [grow_self, grow_self]
        have := hK O W E w1 (Later.of_rely hr ow h1) (ha.put _ trivial)
        rw [← act_put] at this
        exact this
       ·cases hre
      ·cases hre
     ·cases h
   | some r =>
    obtain ⟨nx, N1⟩ := r
    have hnd : ∀ c, o.op ≠ .defer c := by
     intro c e
     simp [cop, e] at hc
    have hev := cev_ok hr.gl ha
    cases nx with
    | val v =>
     simp only [hc, Option.some.injEq, Prod.mk.injEq] at h
     obtain ⟨rfl, rfl⟩ := h
     refine op_will hP hr ow hev hc hlo (fn := b.fn) (g' := fun n => match n with | .value u => G (fat b ((E.act a).put o.dst u) (.inRegion ops rest :: k)) cs | _ => default)
      (fun w1 w2 n hrun ⟨E', hn⟩ => by subst hn; exact g_val ho hw' hnd hrun) fun O' W' E' w' L hclo => ?_
     obtain ⟨hact, ha1⟩ := L.ext.act ha
     have := hK O' W' E' w' L (ha1.put _ hclo)
     rw [← act_put, hact] at this
     exact this
    | skip =>
     simp only [hc, Option.some.injEq, Prod.mk.injEq] at h
     obtain ⟨rfl, rfl⟩ := h
     refine op_will hP hr ow hev hc hlo (fn := b.fn) (g' := fun _ => G (fat b ((E.act a).put o.dst undef) (.inRegion ops rest :: k)) cs)
      (fun w1 w2 n hrun ⟨E', hn⟩ => by subst hn; exact g_skipv ho hw' hnd hrun) fun O' W' E' w' L hclo => ?_
     obtain ⟨hact, ha1⟩ := L.ext.act ha
     have := hK O' W' E' w' L (ha1.put _ (undef_clo _))
     rw [← act_put_undef, hact] at this
     exact this
    | enter f args =>
     simp only [hc] at h
     obtain ⟨r, hr', e⟩ := Option.map_eq_some_iff.1 h
     obtain ⟨v, N2⟩ := r
     cases e
     have hcall := hR.call _ _ _ _ _ hr'
     have hlo1 : lo ≤ N1.wm := by
      obtain ⟨E1, w1, hr1, _, hclo, _⟩ := cop_ok hP hr hev hc
      exact Nat.le_trans hlo (hcall.wm hr1 hclo)
     refine op_will hP hr ow hev hc hlo1 (fn := b.fn) (g' := fun n => match n with | .enter f as => G (Frame.enter P f as .normal) (fat b (E.act a) (.inRegion ops (i :: rest) :: k) :: cs) | _ => default)
      (fun w1 w2 n hrun ⟨E', hn⟩ => by subst hn; exact g_enter ho hw' hnd hrun) fun O1 W1 E1 w1 L1 hclo => ?_
     refine hcall main J lo E1 w1 O1 W1 hlo L1.rel L1.own hclo .normal _ (by exact caller_run (.inl rfl) rfl) K fun O2 W2 E2 w2 fr L2 hv _ hready => ?_
     refine leave_will hready ?_
     rw [fat_finish ho]
     have L := L1.trans L2
     obtain ⟨hact, ha1⟩ := L.ext.act ha
     have := hK O2 W2 E2 w2 L (ha1.put _ hv)
     rw [← act_put, hact] at this
     exact this
    | round l f tmps as bd =>
     simp only [hc] at h
     obtain ⟨r, hr', e⟩ := Option.map_eq_some_iff.1 h
     obtain ⟨v, N2⟩ := r
     cases e
     have hround := hR.round _ _ _ _ _ _ _ _ hr'
     have hlo1 : lo ≤ N1.wm := by
      obtain ⟨E1, w1, hr1, _, hclo, _⟩ := cop_ok hP hr hev hc
      exact Nat.le_trans hlo (hround.wm hr1 hclo.1 hclo.2)
     refine op_will hP hr ow hev hc hlo1 (fn := b.fn) (g' := fun n => match n with | .round l f ts as bd => G (Frame.round l f ts as bd .normal) (fat b (E.act a) (.inRegion ops (i :: rest) :: k) :: cs) | _ => default)
      (fun w1 w2 n hrun ⟨E', hn⟩ => by subst hn; exact g_round ho hw' hnd hrun) fun O1 W1 E1 w1 L1 hclo => ?_
     refine hround main J lo E1 w1 O1 W1 hlo L1.rel L1.own hclo.1 hclo.2 _ cs K fun O2 W2 E2 w2 L2 hv => ?_
     rw [fat_finish ho]
     have L := L1.trans L2
     obtain ⟨hact, ha1⟩ := L.ext.act ha
     have := hK O2 W2 E2 w2 L (ha1.put _ hv)
     rw [← act_put, hact] at this
     exact this
  ·rename_i hw
   have hw' : Region.wanted o (yielded ops (E.act a).tmps) = false := by rw [wanted_act E hgs]; simpa using hw
   simp only [Option.some.injEq, Prod.mk.injEq] at h
   obtain ⟨rfl, rfl⟩ := h
   refine .quiet rfl (fun w => g_op_skip ho hw') ?_
   have := hK O W E w (Later.refl hr ow) (ha.put _ (undef_clo _))
   rw [← act_put_undef] at this
   exact this
theorem opStep_wm {P : Program} (hP : NoCount P) {R : Rec} (hR : RecOk P R) {ops : Array Oper} {i : Nat} {ar : Option Nat} {a a' : CA} {N N' : CH} (h : opStep P R ops ar i a N = some (a', N')) {E : Env} {w : World} (hr : Rel P E N w) (ha : a.Clo E.D) :
  ∃ E' w', Rel P E' N' w' ∧ a'.Clo E'.D ∧ N'.wm ≤ N.wm := by
 obtain ⟨_, _, _, _, hh⟩ := (opStep_ok hP hR h (main := true) (J := fun _ => True) (lo := 0) (Nat.zero_le _) hr (own_all hr) ha (b := { (default : Frame) with kind := .normal, roundOf := none }) (fun _ => rfl) [] [] [] (fun _ => caller_nil (.inl rfl))
  (K := fun _ _ _ _ => ∃ E' w', Rel P E' N' w' ∧ a'.Clo E'.D ∧ N'.wm ≤ N.wm) fun _ _ E' w' L hc => .stop fun _ _ _ => ⟨E', w', L.rel, hc, L.ext.wm⟩).reaches (fun _ h => h) (fun _ h => h)
 exact hh
theorem opList_wm {P : Program} (hP : NoCount P) {R : Rec} (hR : RecOk P R) {ops : Array Oper} {ar : Option Nat} : ∀ (l : List Nat) {a a' : CA} {N N' : CH}, opList P R ops ar l a N = some (a', N') →
  ∀ {E : Env} {w : World}, Rel P E N w → a.Clo E.D → N'.wm ≤ N.wm
 | [], a, a', N, N', h, E, w, hr, ha => by
  simp only [opList, Option.some.injEq, Prod.mk.injEq] at h
  obtain ⟨rfl, rfl⟩ := h
  exact Nat.le_refl _
 | i :: rest, a, a', N, N', h, E, w, hr, ha => by
  simp only [opList, Option.bind_eq_some_iff] at h
  obtain ⟨⟨a1, N1⟩, h1, h2⟩ := h
  obtain ⟨E1, w1, hr1, ha1, hle⟩ := opStep_wm hP hR h1 hr ha
  exact Nat.le_trans (opList_wm hP hR rest h2 hr1 ha1) hle
theorem opList_ok {P : Program} (hP : NoCount P) {R : Rec} (hR : RecOk P R) {ops : Array Oper} {ar : Option Nat} : ∀ (l : List Nat) {a a' : CA} {N N' : CH}, opList P R ops ar l a N = some (a', N') →
  ∀ {main : Bool} {J : World → Prop} [Ctx main J] {lo : Nat} {E : Env} {w : World} {O W : Nat → Prop}, lo ≤ N'.wm → Rel P E N w → Own O W lo E N w → a.Clo E.D → ∀ (b : Frame) (_ : ar = none → b.roundOf = none) (k : List Item) (cs : List Frame) (_ : Calm b cs)
   {K : (Nat → Prop) → (Nat → Prop) → Goroutine → World → Prop},
  (∀ O' W' E' w', Later P lo O W E N w O' W' E' N' w' → a'.Clo E'.D → Will P main J K O' W' (G (fat b (E'.act a') k) cs) w') → Will P main J K O W (G (fat b (E.act a) (.inRegion ops l :: k)) cs) w
 | [], a, a', N, N', h, main, J, _, lo, E, w, O, W, hlo, hr, ow, ha, b, hro, k, cs, hcalm, K, hK => by
  simp only [opList, Option.some.injEq, Prod.mk.injEq] at h
  obtain ⟨rfl, rfl⟩ := h
  exact .quiet rfl (fun _ => g_region_end) (hK O W E w (Later.refl hr ow) ha)
 | i :: rest, a, a', N, N', h, main, J, _, lo, E, w, O, W, hlo, hr, ow, ha, b, hro, k, cs, hcalm, K, hK => by
  simp only [opList, Option.bind_eq_some_iff] at h
  obtain ⟨⟨a1, N1⟩, h1, h2⟩ := h
  have hlo1 : lo ≤ N1.wm := by
   obtain ⟨E1, w1, hr1, ha1, _⟩ := opStep_wm hP hR h1 hr ha
   exact Nat.le_trans hlo (opList_wm hP hR rest h2 hr1 ha1)
  refine opStep_ok hP hR h1 hlo1 hr ow ha b hro rest k cs hcalm fun O1 W1 E1 w1 L1 ha1 => ?_
  exact opList_ok hP hR rest h2 hlo L1.rel L1.own ha1 b hro k cs hcalm fun O2 W2 E2 w2 L2 ha2 => hK O2 W2 E2 w2 (L1.trans L2) ha2
theorem Rel.setObj {P : Program} {E : Env} {N : CH} {w : World} (R : Rel P E N w) {l : Nat} {b b' : CB} {o o' : Obj} (hl : E.D l) (hwm : True) (hg : N.get l = some b) (hb : b.isDead = false) (ho : w.heap[E.f l]? = some o)
  (h' : BlkRel P E l b' (some o')) : Rel P E (N.set l b') { w with heap := w.heap.setIfInBounds (E.f l) o' } ∧ Ext E N w E (N.set l b') { w with heap := w.heap.setIfInBounds (E.f l) o' } := by
 have hlt : E.f l < w.heap.size := (Array.getElem?_eq_some_iff.1 ho).1
 refine R.change hl hwm ⟨_, hg, hb⟩ ?_ (fun j hj => heap_setObj_other w _ j _ hj) (by simp) rfl rfl rfl
 rw [heap_setObj w _ _ hlt]
 exact h'
theorem run_getLoop {P : Program} {w : World} {l : Nat} {r : Loop} (h : w.heap[l]? = some (.loop r)) : (Instr.getLoop l).run P w = .ok r w := by
 simp [Instr.getLoop, getObj, Sem.run, h]
theorem run_setLoop {P : Program} {w : World} {l : Nat} {r : Loop} (o : Obj) (h : w.heap[l]? = some (.loop r)) : (setObj l o).run P w = .ok () { w with heap := w.heap.setIfInBounds l o } := by
 simp [setObj, Sem.run, h]
def centerLoop (fn : FuncId) (a : CA) (params : Array Tmp) (as bd : Code) (ar : Option Nat) (N : CH) : Option (Nat × CA × CH) :=
 match ar with
 | some l =>
  match N.get l with
  | some (.loop r) => if N.fits then some (N.sz, a, N.push (.loop { state := .ready, pending := none, fn, tmps := a.tmps.toArray, params, assign := as, body := bd, defers := r.defers })) else none
  | _ => none
 | none =>
  if N.fits then
   some (N.sz + 1, { a with dm := .coll N.sz :: a.dm }, (N.push .dfr).push (.loop { state := .ready, pending := none, fn, tmps := a.tmps.toArray, params, assign := as, body := bd, defers := N.sz }))
  else none
theorem enterLoop_ok {P : Program} {E : Env} {N N' : CH} {w : World} (R : Rel P E N w) {fn : FuncId} {a a' : CA} (ha : a.Clo E.D) {params : Array Tmp} {as bd : Code} {ar : Option Nat} (har : ∀ l, ar = some l → E.D l) {l : Nat}
  (h : centerLoop fn a params as bd ar N = some (l, a', N')) :
  ∃ E' w' mark, Rel P E' N' w' ∧ Ext E N w E' N' w' ∧ a'.Clo E'.D ∧ E'.D l ∧ E'.act a' = { E.act a with defers := mark ++ (E.act a).defers } ∧
   (Instr.enterLoop fn (E.act a).tmps params as bd (ar.map E.f)).run P w = .ok (E'.f l, mark) w' := by
 unfold centerLoop at h
 cases ar with
 | some l0 =>
  simp only at h
  cases hg : N.get l0 with
  | none => simp [hg] at h
  | some b =>
   cases b with
   | loop r =>
    simp only [hg] at h
    split at h
    ·rename_i hsz
     simp only [Option.some.injEq, Prod.mk.injEq] at h
     obtain ⟨rfl, rfl, rfl⟩ := h
     have hd := har l0 rfl
     obtain ⟨⟨_, hdf⟩, ho⟩ := R.blk l0 _ hd hg
     have hne : ∀ j, E.D j → j ≠ N.sz := fun j hj => by have := R.dom j hj; omega
     obtain ⟨R', X⟩ := R.new hsz (b := .loop { state := .ready, pending := none, fn, tmps := a.tmps.toArray, params, assign := as, body := bd, defers := r.defers })
      (o := .loop { state := .ready, pending := none, fn, tmps := (E.act a).tmps, params, assign := as, body := bd, defers := E.f r.defers }) (y := 0) (z := 0) (by
       refine ⟨⟨fun v hv => Clo_mono (fun _ h => .inr h) v (ha.tmps v (by simpa using hv)), .inr hdf⟩, ?_⟩
       have h1 : a.tmps.toArray.map (E.add N.sz w.heap.size 0 0).m = (E.act a).tmps := by
        apply Array.ext'
        simp only [Array.toList_map, Env.act]
        exact List.map_congr_left fun v hv => R.clo_lt (ha.tmps v hv)
       have h2 : (E.add N.sz w.heap.size 0 0).f r.defers = E.f r.defers := by simp [Env.add, hne _ hdf]
       simp only [h1, h2])
     obtain ⟨hact, ha'⟩ := X.act ha
     refine ⟨_, _, [], R', X, ha', Env.add_D .., by rw [hact]; rfl, ?_⟩
     simp [Instr.enterLoop, run_getLoop ho, Env.add]
    ·cases h
   | _ => simp [hg] at h
 | none =>
  simp only at h
  split at h
  ·rename_i hsz
   simp only [Option.some.injEq, Prod.mk.injEq] at h
   obtain ⟨rfl, rfl, rfl⟩ := h
   obtain ⟨R1, X1⟩ := R.new hsz (b := .dfr) (o := .deferred (some [])) (y := 0) (z := 0) rfl
   obtain ⟨hact1, ha1⟩ := X1.act ha
   have hs1 : (N.push .dfr).sz = N.sz + 1 := rfl
   have hD1 : (E.add N.sz w.heap.size 0 0).D N.sz := Env.add_D ..
   have hne : ∀ j, (E.add N.sz w.heap.size 0 0).D j → j ≠ N.sz + 1 := fun j hj => by have := R1.dom j hj; omega
   obtain ⟨R2, X2⟩ := R1.new trivial (b := .loop { state := .ready, pending := none, fn, tmps := a.tmps.toArray, params, assign := as, body := bd, defers := N.sz })
    (o := .loop { state := .ready, pending := none, fn, tmps := (E.act a).tmps, params, assign := as, body := bd, defers := w.heap.size }) (y := 0) (z := 0) (by
     refine ⟨⟨fun v hv => Clo_mono (fun _ h => .inr h) v (ha1.tmps v (by simpa using hv)), .inr hD1⟩, ?_⟩
     have h1 : a.tmps.toArray.map ((E.add N.sz w.heap.size 0 0).add (N.push .dfr).sz (w.alloc (.deferred (some []))).heap.size 0 0).m = (E.act a).tmps := by
      rw [← hact1]
      apply Array.ext'
      simp only [Array.toList_map, Env.act]
      exact List.map_congr_left fun v hv => R1.clo_lt (ha1.tmps v hv)
     have h2 : ((E.add N.sz w.heap.size 0 0).add (N.push .dfr).sz (w.alloc (.deferred (some []))).heap.size 0 0).f N.sz = w.heap.size := by
      rw [hs1]
      simp [Env.add]
     simp only [h1, h2])
   obtain ⟨hact2, ha2⟩ := X2.act ha1
   refine ⟨_, _, [{ target := .collected w.heap.size, args := #[] }], R2, X1.trans X2, ⟨ha2.tmps, ?_⟩, Env.add_D .., ?_, ?_⟩
   ·intro k hk
    rcases List.mem_cons.1 hk with rfl | hk
    ·exact .inr hD1
    ·exact ha2.dm k hk
   ·have hf : ((E.add N.sz w.heap.size 0 0).add (N.push .dfr).sz (w.alloc (.deferred (some []))).heap.size 0 0).f N.sz = w.heap.size := by rw [hs1]; simp [Env.add]
    rw [← hact1, ← hact2]
    simp only [Env.act, List.map_cons, Env.dm, hf]
    rfl
   ·have hf : ((E.add N.sz w.heap.size 0 0).add (N.push .dfr).sz (w.alloc (.deferred (some []))).heap.size 0 0).f (N.sz + 1) = (w.alloc (.deferred (some []))).heap.size := by rw [hs1]; simp [Env.add]
    rw [hf]
    simp [Instr.enterLoop]
  ·cases h
def cendLoop (l : Nat) (N : CH) : Option (Option Code × CH) :=
 match N.get l with
 | some (.loop r) => if r.state = .busy then none else (N.wset l (.loop { r with state := .exhausted })).map fun N' => (r.pending, N')
 | _ => none
theorem endLoop_ok {P : Program} {E : Env} {N N' : CH} {w : World} (R : Rel P E N w) {l : Nat} (hl : E.D l) {jump : Option Code} (h : cendLoop l N = some (jump, N')) :
  ∃ w', Rel P E N' w' ∧ Ext E N w E N' w' ∧ (Instr.endLoop (E.f l)).run P w = .ok jump w' := by
 unfold cendLoop at h
 split at h
 ·rename_i r hg
  split at h
  ·cases h
  ·rename_i hb
   obtain ⟨N1, hN1, e⟩ := Option.map_eq_some_iff.1 h
   cases e
   obtain ⟨hwm, rfl⟩ := CH.wset_some hN1
   obtain ⟨hc, ho⟩ := R.blk l _ hl hg
   obtain ⟨R', X⟩ := R.setObj hl hwm hg rfl ho (b' := .loop { r with state := .exhausted }) ⟨hc, rfl⟩
   refine ⟨_, R', X, ?_⟩
   have hb' : (r.state == LoopState.busy) = false := by simpa using hb
   simp only [Instr.endLoop, Sem.run_bind, run_getLoop ho, Result.andThen_ok, hb', Bool.false_eq_true, if_false, Sem.run_pure]
   rw [run_setLoop _ ho]
   rfl
 ·cases h
def cbegin (l : Nat) (N : CH) : Option CH :=
 match N.get l with
 | some (.loop r) => if r.state = .ready then N.wset l (.loop { r with state := .busy }) else none
 | _ => none
theorem beginRound_ok {P : Program} {E : Env} {N N' : CH} {w : World} (R : Rel P E N w) {l : Nat} (hl : E.D l) (h : cbegin l N = some N') :
  ∃ w', Rel P E N' w' ∧ Ext E N w E N' w' ∧ (Instr.beginRound (E.f l)).run P w = .ok () w' := by
 unfold cbegin at h
 split at h
 ·rename_i r hg
  split at h
  ·rename_i hb
   obtain ⟨hwm, rfl⟩ := CH.wset_some h
   obtain ⟨hc, ho⟩ := R.blk l _ hl hg
   obtain ⟨R', X⟩ := R.setObj hl hwm hg rfl ho (b' := .loop { r with state := .busy }) ⟨hc, rfl⟩
   refine ⟨_, R', X, ?_⟩
   simp only [Instr.beginRound, Sem.run_bind, run_getLoop ho, Result.andThen_ok]
   rw [run_setLoop _ ho]
   simp only [Result.andThen_ok, hb]
   rfl
  ·cases h
 ·cases h
def Ex.jump : Ex → Option Code
 | .normal => none
 | .ret => some .ret
 | .exit id => some (.exit id)
def cendRound (l : Nat) (jump : Option Code) (N : CH) : Option (Value × CH) :=
 match N.get l with
 | some (.loop r) => (N.wset l (.loop { r with state := if jump.isNone then .ready else .done, pending := jump })).map fun N' => (.bool jump.isNone, N')
 | _ => none
theorem endRound_ok {P : Program} {E : Env} {N N' : CH} {w : World} (R : Rel P E N w) {l : Nat} (hl : E.D l) {jump : Option Code} {v : Value} (h : cendRound l jump N = some (v, N')) :
  ∃ w', Rel P E N' w' ∧ Ext E N w E N' w' ∧ Clo E.D v ∧ (Instr.endRound (E.f l) jump).run P w = .ok (E.m v) w' := by
 unfold cendRound at h
 split at h
 ·rename_i r hg
  obtain ⟨N1, hN1, e⟩ := Option.map_eq_some_iff.1 h
  cases e
  obtain ⟨hwm, rfl⟩ := CH.wset_some hN1
  obtain ⟨hc, ho⟩ := R.blk l _ hl hg
  obtain ⟨R', X⟩ := R.setObj hl hwm hg rfl ho (b' := .loop { r with state := if jump.isNone then .ready else .done, pending := jump }) ⟨hc, rfl⟩
  refine ⟨_, R', X, trivial, ?_⟩
  simp only [Instr.endRound, Sem.run_bind, run_getLoop ho, Result.andThen_ok]
  rw [run_setLoop _ ho]
  rfl
 ·cases h
end
end Go.Eng
namespace Go.Eng
noncomputable section
set_option linter.unusedSimpArgs false
set_option linter.unusedVariables false
set_option linter.unusedSectionVars false
variable [Hk]
def Tr.ofFn (n : Nat) (g : Nat → Option CB) : Tr CB :=
 match n with
 | 0 => .e
 | m + 1 => .nd (g 0) (Tr.ofFn ((m + 1) / 2) fun k => g (2 * k + 1)) (Tr.ofFn (m / 2) fun k => g (2 * k + 2))
 termination_by n
 decreasing_by all_goals omega
theorem Tr.full_ofFn (n : Nat) (g : Nat → Option CB) : (Tr.ofFn n g).Full n := by
 induction n using Nat.strongRecOn generalizing g with
 | _ n ih =>
  cases n with
  | zero => rw [Tr.ofFn]; rfl
  | succ m =>
   rw [Tr.ofFn]
   exact ⟨m, rfl, ih _ (by omega) _, ih _ (by omega) _⟩
theorem Tr.get_ofFn (n : Nat) : ∀ (g : Nat → Option CB) (k : Nat), k < n → (Tr.ofFn n g).get k = g k := by
 induction n using Nat.strongRecOn with
 | _ n ih =>
  intro g k hk
  cases n with
  | zero => omega
  | succ m =>
   rw [Tr.ofFn]
   cases k with
   | zero => rfl
   | succ k =>
    rw [Tr.get_succ]
    split
    ·rw [ih _ (by omega) _ _ (by omega)]
     congr 1
     omega
    ·rw [ih _ (by omega) _ _ (by omega)]
     congr 1
     omega
def CH.ofFn (sz : Nat) (g : Nat → Option CB) : CH := ⟨sz, 0, 0, Tr.ofFn sz g⟩
theorem CH.ok_ofFn {sz : Nat} (g : Nat → Option CB) : (CH.ofFn sz g).Ok := ⟨Nat.zero_le _, Tr.full_ofFn _ _⟩
theorem CH.get_ofFn {sz : Nat} (g : Nat → Option CB) {k : Nat} (hk : k < sz) : (CH.ofFn sz g).get k = g k := by
 exact Tr.get_ofFn _ _ _ hk
structure Wx (O : Nat → Prop) (E : Env) (N : CH) (w : World) (E' : Env) (N' : CH) (w' : World) : Prop where
 mono : ∀ k, E.D k → E'.D k ∧ E'.f k = E.f k ∧ E'.x k = E.x k ∧ E'.s k = E.s k
 hsize : w.heap.size ≤ w'.heap.size
 fresh : ∀ k, E'.D k → E.D k ∨ w.heap.size ≤ E'.f k ∨ ∃ j, E.D j ∧ N.live j ∧ ¬ N'.live j ∧ E'.f k = E.f j
 dead : ∀ k, E.D k → N'.live k → N.live k
 frame : ∀ b, O b → b < w.heap.size → (∀ k, E.D k → N.live k → E.f k ≠ b) → w'.heap[b]? = w.heap[b]?
 os : w'.os = w.os
 tape : w'.tape = w.tape
 output : w'.output = w.output
 op : E'.o = E.o
theorem Wx.refl (O : Nat → Prop) (E : Env) (N : CH) (w : World) : Wx O E N w E N w := ⟨fun _ h => ⟨h, rfl, rfl, rfl⟩, Nat.le_refl _, fun _ h => .inl h, fun _ _ h => h, fun _ _ _ _ => rfl, rfl, rfl, rfl, rfl⟩
theorem Wx.weaken {O O' : Nat → Prop} {E E' : Env} {N N' : CH} {w w' : World} (h : Wx O E N w E' N' w') (hs : ∀ b, O' b → O b) : Wx O' E N w E' N' w' := ⟨h.mono, h.hsize, h.fresh, h.dead, fun b hb => h.frame b (hs b hb), h.os, h.tape, h.output, h.op⟩
theorem ExtC.wx {O : Nat → Prop} {E E' : Env} {N N' : CH} {w w' : World} (h : ExtC O E N w E' N' w') : Wx O E N w E' N' w' := ⟨h.mono, h.hsize, h.fresh, h.dead, h.frame, h.os, h.tape, h.output, h.op⟩
theorem Wx.trans {O O1 : Nat → Prop} {E E1 E2 : Env} {N N1 N2 : CH} {w w1 w2 : World} (h : Wx O E N w E1 N1 w1) (g : Wx O1 E1 N1 w1 E2 N2 w2) (hO : ∀ b, O b → O1 b) : Wx O E N w E2 N2 w2 where
 mono k hk := by
  obtain ⟨a, b, c, d⟩ := h.mono k hk
  obtain ⟨a', b', c', d'⟩ := g.mono k a
  exact ⟨a', b'.trans b, c'.trans c, d'.trans d⟩
 hsize := Nat.le_trans h.hsize g.hsize
 fresh k hk := by
  rcases g.fresh k hk with h1 | h1 | ⟨j, h1, h2, hx, h3⟩
  ·rcases h.fresh k h1 with h4 | h4 | ⟨j, h4, h5, hy, h6⟩
   ·exact .inl h4
   ·exact .inr (.inl (by rw [(g.mono k h1).2.1]; exact h4))
   ·exact .inr (.inr ⟨j, h4, h5, fun hl => hy (g.dead j (h.mono j h4).1 hl), by rw [(g.mono k h1).2.1]; exact h6⟩)
  ·exact .inr (.inl (Nat.le_trans h.hsize h1))
  ·rcases h.fresh j h1 with h4 | h4 | ⟨i, h4, h5, hy, h6⟩
   ·exact .inr (.inr ⟨j, h4, h.dead j h4 h2, hx, by rw [h3, (h.mono j h4).2.1]⟩)
   ·exact .inr (.inl (by rw [h3]; exact h4))
   ·exact .inr (.inr ⟨i, h4, h5, fun hl => hy (g.dead i (h.mono i h4).1 hl), by rw [h3, h6]⟩)
 dead k hk hl := h.dead k hk (g.dead k (h.mono k hk).1 hl)
 frame b hb' hb hn := by
  rw [g.frame b (hO b hb') (Nat.lt_of_lt_of_le hb h.hsize) ?_, h.frame b hb' hb hn]
  intro k hk hl e
  rcases h.fresh k hk with h1 | h1 | ⟨j, h1, h2, _, h3⟩
  ·exact hn k h1 (h.dead k h1 hl) (by rw [← (h.mono k h1).2.1]; exact e)
  ·omega
  ·exact hn j h1 h2 (by rw [← h3]; exact e)
 os := g.os.trans h.os
 tape := g.tape.trans h.tape
 output := g.output.trans h.output
 op := g.op.trans h.op
theorem Rel.congr {P : Program} {E : Env} {N M : CH} {w : World} (R : Rel P E N w) (hM : M.Ok) (hd : ∀ k, E.D k → k < M.sz) (h : ∀ k, E.D k → M.get k = N.get k) : Rel P E M w := by
 have hl : ∀ k, E.D k → M.live k → N.live k := fun k hk ⟨b, hb, hd⟩ => ⟨b, by rw [← h k hk]; exact hb, hd⟩
 exact ⟨hM, R.gl, hd, fun i j hi hj li lj e => R.inj i j hi hj (hl i hi li) (hl j hj lj) e, fun k b hk hb => R.blk k b hk (by rw [← h k hk]; exact hb)⟩
theorem Wx.congr {O : Nat → Prop} {E E' : Env} {N N' M M' : CH} {w w' : World} (X : Wx O E N w E' N' w') (h : ∀ k, E.D k → M.get k = N.get k) (h' : ∀ k, E.D k → M'.get k = N'.get k) : Wx O E M w E' M' w' := by
 have hl : ∀ k, E.D k → (M.live k ↔ N.live k) := fun k hk => by unfold CH.live; rw [h k hk]
 have hl' : ∀ k, E.D k → (M'.live k ↔ N'.live k) := fun k hk => by unfold CH.live; rw [h' k hk]
 refine ⟨X.mono, X.hsize, fun k hk => ?_, fun k hk hh => (hl k hk).2 (X.dead k hk ((hl' k hk).1 hh)), fun b hb' hb hn => X.frame b hb' hb (fun k hk hh => hn k hk ((hl k hk).2 hh)), X.os, X.tape, X.output, X.op⟩
 rcases X.fresh k hk with h1 | h1 | ⟨j, h1, h2, h3, h4⟩
 ·exact .inl h1
 ·exact .inr (.inl h1)
 ·exact .inr (.inr ⟨j, h1, (hl j h1).2 h2, fun hh => h3 ((hl' j h1).1 hh), h4⟩)
def CBClo (D : Nat → Prop) : CB → Prop
 | .row c _ _ => ∀ v ∈ c, Clo D v
 | .map es _ => ∀ e ∈ es, Clo D e.2.1
 | .loop l => (∀ v ∈ l.tmps.toList, Clo D v) ∧ D l.defers
 | .miter r _ _ _ => ∀ k, r = some k → D k
 | .far n f _ => ∀ v ∈ (List.range n).map f, Clo D v
 | _ => True
theorem BlkRel.clo {P : Program} {E : Env} {k : Nat} {b : CB} {o : Option Obj} (h : BlkRel P E k b o) : CBClo E.D b := by
 cases b with
 | row c e el => exact h.1
 | map es cl => exact fun e he => (h.1 e he).2
 | loop l => exact h.1
 | miter r a b c => exact h.1
 | far n f e => exact h.1
 | _ => trivial
mutual
theorem Clo_and {D D' : Nat → Prop} : ∀ v : Value, Clo D v → Clo D' v → Clo (fun k => D k ∧ D' k) v
 | .bool _, _, _ => trivial
 | .int _ _, _, _ => trivial
 | .float _ _, _, _ => trivial
 | .complex _ _ _, _, _ => trivial
 | .string _, _, _ => trivial
 | .pointer none, _, _ => trivial
 | .pointer (some _), c, c' => ⟨⟨c.1, c'.1⟩, c.2⟩
 | .slice none _ _, _, _ => trivial
 | .slice (some _) _ _, c, c' => ⟨c, c'⟩
 | .map none, _, _ => trivial
 | .map (some _), c, c' => ⟨c, c'⟩
 | .chan none, _, _ => trivial
 | .chan (some _), _, _ => trivial
 | .func g ⟨p⟩ ⟨q⟩, c, c' => ⟨by
   have h1 := c.1
   have h2 := c'.1
   cases g <;> simp_all, CloL_and p c.2.1 c'.2.1, CloL_and q c.2.2 c'.2.2⟩
 | .nilFunc, _, _ => trivial
 | .iface t v, c, c' => Clo_and v c c'
 | .nilIface, _, _ => trivial
 | .agg ⟨cs⟩, c, c' => CloL_and cs c c'
 | .tuple ⟨vs⟩, c, c' => CloL_and vs c c'
theorem CloL_and {D D' : Nat → Prop} : ∀ l : List Value, CloL D l → CloL D' l → CloL (fun k => D k ∧ D' k) l
 | [], _, _ => trivial
 | v :: l, c, c' => ⟨Clo_and v c.1 c'.1, CloL_and l c.2 c'.2⟩
end
theorem CBClo.and {D D' : Nat → Prop} {b : CB} (h : CBClo D b) (h' : CBClo D' b) : CBClo (fun k => D k ∧ D' k) b := by
 cases b with
 | row c e el => exact fun v hv => Clo_and v (h v hv) (h' v hv)
 | map es cl => exact fun e he => Clo_and _ (h e he) (h' e he)
 | loop l => exact ⟨fun v hv => Clo_and v (h.1 v hv) (h'.1 v hv), h.2, h'.2⟩
 | miter r a b c => exact fun k hk => ⟨h k hk, h' k hk⟩
 | far n f e => exact fun v hv => Clo_and v (h v hv) (h' v hv)
 | _ => trivial
theorem BlkRel.less {P : Program} {E : Env} {D' : Nat → Prop} {k : Nat} {b : CB} {o : Option Obj} (h : BlkRel P E k b o) (hc : CBClo D' b) : BlkRel P { E with D := D' } k b o := by
 cases b with
 | row c e el => exact ⟨hc, h.2⟩
 | map es cl => exact ⟨fun e he => ⟨(h.1 e he).1, hc e he⟩, h.2⟩
 | loop l => exact ⟨hc, h.2⟩
 | miter r a b c => exact ⟨hc, h.2⟩
 | far n f e => exact ⟨hc, h.2⟩
 | win c => exact h
 | dfr => exact h
 | iter s pos => exact h
 | dead => trivial
noncomputable def Env.glue (E E'' : Env) (new : Nat → Prop) : Env :=
 open Classical in { E with f := fun k => if new k then E''.f k else E.f k, x := fun k => if new k then E''.x k else E.x k, s := fun k => if new k then E''.s k else E.s k, D := fun k => E.D k ∨ new k }
theorem Rel.lt_size {P : Program} {E : Env} {N : CH} {w : World} (R : Rel P E N w) {k : Nat} (hk : E.D k) (hl : N.live k) : E.f k < w.heap.size := by
 obtain ⟨b, hb, hd⟩ := hl
 have hB := R.blk k b hk hb
 rcases Nat.lt_or_ge (E.f k) w.heap.size with h | h
 ·exact h
 ·rw [Array.getElem?_eq_none h] at hB
  rw [hB.some] at hd
  cases hd
theorem recombine {P : Program} {O : Nat → Prop} {E E'' : Env} {M N N'' M' : CH} {w w'' : World} {D' Vis : Nat → Prop} (R : Rel P E M w) (hown : ∀ k, E.D k → M.live k → O (E.f k)) (hsub : ∀ k, D' k → E.D k)
  (hvis : ∀ k, D' k → Vis k → N.get k = M.get k) (hinv : ∀ k, D' k → ¬ Vis k → N.get k = none)
  (R'' : Rel P E'' N'' w'') (X : ExtC O { E with D := D' } N w E'' N'' w'')
  (hdisj : ∀ k, E.D k → ¬ (N.sz ≤ k ∧ k < N''.sz)) (hM' : M'.Ok) (hsz : ∀ k, E.D k ∨ (N.sz ≤ k ∧ k < N''.sz) → k < M'.sz)
  (hnew : ∀ k, N.sz ≤ k → k < N''.sz → M'.get k = N''.get k) (hold : ∀ k, D' k → Vis k → M'.get k = N''.get k) (hrest : ∀ k, E.D k → ¬ (D' k ∧ Vis k) → M'.get k = M.get k) :
  ∃ E', Rel P E' M' w'' ∧ Wx O E M w E' M' w'' ∧ (∀ k, E'.D k ↔ E.D k ∨ (N.sz ≤ k ∧ k < N''.sz)) ∧ (∀ v, Clo E''.D v → Clo E'.D v ∧ E'.m v = E''.m v) ∧
   (∀ k, E'.D k → (E''.D k ∧ M'.get k = N''.get k ∧ E'.f k = E''.f k) ∨ (E.D k ∧ M'.get k = M.get k ∧ E'.f k = E.f k)) := by
 classical
 refine ⟨E.glue E'' (fun k => N.sz ≤ k ∧ k < N''.sz), ?_⟩
 generalize hE' : E.glue E'' (fun k => N.sz ≤ k ∧ k < N''.sz) = E'
 have hDn : ∀ k, E'.D k ↔ E.D k ∨ (N.sz ≤ k ∧ k < N''.sz) := by intro k; subst hE'; rfl
 have hop0 : E'.o = E.o := by subst hE'; rfl
 have hop : E'.o = E''.o := by rw [hop0, X.op]
 have hfo : ∀ k, E.D k → E'.f k = E.f k ∧ E'.x k = E.x k ∧ E'.s k = E.s k := by
  intro k hk
  have := hdisj k hk
  subst hE'
  simp [Env.glue, this]
 have hfn : ∀ k, N.sz ≤ k ∧ k < N''.sz → E'.f k = E''.f k ∧ E'.x k = E''.x k ∧ E'.s k = E''.s k := by
  intro k hk
  subst hE'
  simp [Env.glue, hk]
 -- what the operation's outcome realizes
 have hD'' : ∀ k, E''.D k ↔ D' k ∨ (N.sz ≤ k ∧ k < N''.sz) := by
  intro k
  constructor
  ·intro h
   rcases X.new k h with h1 | h1
   ·exact .inl h1
   ·exact .inr h1
  ·rintro (h | h)
   ·exact (X.mono k h).1
   ·exact X.all k h.1 h.2
 have hf'' : ∀ k, E''.D k → E'.D k ∧ E'.f k = E''.f k ∧ E'.x k = E''.x k ∧ E'.s k = E''.s k := by
  intro k hk
  rcases (hD'' k).1 hk with h | h
  ·obtain ⟨_, a, b, c⟩ := X.mono k h
   obtain ⟨a', b', c'⟩ := hfo k (hsub k h)
   exact ⟨(hDn k).2 (.inl (hsub k h)), a'.trans a.symm, b'.trans b.symm, c'.trans c.symm⟩
  ·exact ⟨(hDn k).2 (.inr h), hfn k h⟩
 have hclo : ∀ v, Clo E''.D v → Clo E'.D v ∧ E'.m v = E''.m v := fun v hv => ⟨Clo_mono (fun k hk => (hf'' k hk).1) v hv, mv_ext hop (fun k hk => (hf'' k hk).2) v hv⟩
 have hclo0 : ∀ v, Clo E.D v → Clo E'.D v ∧ E'.m v = E.m v := fun v hv => ⟨Clo_mono (fun k hk => (hDn k).2 (.inl hk)) v hv, mv_ext hop0 (fun k hk => hfo k hk) v hv⟩
 -- what is live in the operation's heap is live in the whole one
 have hlN : ∀ k, D' k → N.live k → M.live k ∧ Vis k := by
  intro k hk ⟨b, hb, hd⟩
  by_cases hv : Vis k
  ·exact ⟨⟨b, by rw [← hvis k hk hv]; exact hb, hd⟩, hv⟩
  ·rw [hinv k hk hv] at hb; cases hb
 -- the rest keeps its contents
 have hkeep : ∀ k, E.D k → ¬ (D' k ∧ Vis k) → M.live k → w''.heap[E.f k]? = w.heap[E.f k]? := by
  intro k hk hn hl
  refine X.frame _ (hown k hk hl) (R.lt_size hk hl) ?_
  intro j hj hlj e
  obtain ⟨hlM, hv⟩ := hlN j hj hlj
  have := R.inj j k (hsub j hj) hk hlM hl e
  subst this
  exact hn ⟨hj, hv⟩
 -- three kinds of blocks
 have hkind : ∀ k, E'.D k → (E''.D k ∧ ((D' k ∧ Vis k) ∨ (N.sz ≤ k ∧ k < N''.sz)) ∧ M'.get k = N''.get k ∧ E'.f k = E''.f k) ∨ (E.D k ∧ ¬ (D' k ∧ Vis k) ∧ M'.get k = M.get k ∧ E'.f k = E.f k) := by
  intro k hk
  by_cases hn : N.sz ≤ k ∧ k < N''.sz
  ·exact .inl ⟨(hD'' k).2 (.inr hn), .inr hn, hnew k hn.1 hn.2, (hfn k hn).1⟩
  ·have hE : E.D k := ((hDn k).1 hk).resolve_right hn
   by_cases hv : D' k ∧ Vis k
   ·exact .inl ⟨(hD'' k).2 (.inl hv.1), .inl hv, hold k hv.1 hv.2, (hf'' k ((hD'' k).2 (.inl hv.1))).2.1⟩
   ·exact .inr ⟨hE, hv, hrest k hE hv, (hfo k hE).1⟩
 have live_eq : ∀ {A B : CH} {k}, A.get k = B.get k → A.live k → B.live k := fun h ⟨b, hb, hd⟩ => ⟨b, by rw [← h]; exact hb, hd⟩
 -- no clash between the outcome's blocks and the rest
 have hcross : ∀ i j, E''.D i → ((D' i ∧ Vis i) ∨ (N.sz ≤ i ∧ i < N''.sz)) → N''.live i → E.D j → ¬ (D' j ∧ Vis j) → M.live j → E''.f i ≠ E.f j := by
  intro i j hi hi2 hli hj hnj hlj e
  rcases X.fresh i hi with h | h | ⟨i', h1, h2, h3, h4⟩
  ·have hl1 := X.dead i h hli
   obtain ⟨hlM, hv⟩ := hlN i h hl1
   have he : E''.f i = E.f i := (X.mono i h).2.1
   have := R.inj i j (hsub i h) hj hlM hlj (by rw [← he]; exact e)
   subst this
   exact hnj ⟨h, hv⟩
  ·have := R.lt_size hj hlj
   omega
  ·obtain ⟨hlM, hv⟩ := hlN i' h1 h2
   have := R.inj i' j (hsub i' h1) hj hlM hlj (by rw [← e, h4])
   subst this
   exact hnj ⟨h1, hv⟩
 refine ⟨⟨hM', fun g hg => ⟨(hDn g).2 (.inl (R.gl g hg).1), (hfo g (R.gl g hg).1).1.trans (R.gl g hg).2.1, (hfo g (R.gl g hg).1).2.2.trans (R.gl g hg).2.2⟩, ?_, ?_, ?_⟩, ⟨?_, X.hsize, ?_, ?_, ?_, X.os, X.tape, X.output, hop0⟩, hDn, hclo, fun k hk => (hkind k hk).imp (fun h => ⟨h.1, h.2.2⟩) (fun h => ⟨h.1, h.2.2⟩)⟩
 ·intro k hk
  exact hsz k ((hDn k).1 hk)
 ·intro i j hi hj li lj e
  rcases hkind i hi with ⟨a1, a2, a3, a4⟩ | ⟨a1, a2, a3, a4⟩ <;> rcases hkind j hj with ⟨b1, b2, b3, b4⟩ | ⟨b1, b2, b3, b4⟩
  ·exact R''.inj i j a1 b1 (live_eq a3 li) (live_eq b3 lj) (by rw [← a4, ← b4]; exact e)
  ·exact absurd (by rw [← a4, ← b4]; exact e) (hcross i j a1 a2 (live_eq a3 li) b1 b2 (live_eq b3 lj))
  ·exact absurd (by rw [← a4, ← b4]; exact e.symm) (hcross j i b1 b2 (live_eq b3 lj) a1 a2 (live_eq a3 li))
  ·exact R.inj i j a1 b1 (live_eq a3 li) (live_eq b3 lj) (by rw [← a4, ← b4]; exact e)
 ·intro k b hk hb
  rcases hkind k hk with ⟨a1, a2, a3, a4⟩ | ⟨a1, a2, a3, a4⟩
  ·rw [a3] at hb
   rw [a4]
   obtain ⟨_, _, c, d⟩ := hf'' k a1
   exact (R''.blk k b a1 hb).mono (fun j hj => ⟨(hf'' j hj).1, (hf'' j hj).2.1⟩) (fun v hv => (hclo v hv).2) c d
  ·rw [a3] at hb
   rw [a4]
   cases hd : b.isDead with
   | true => cases b <;> simp [CB.isDead] at hd; trivial
   | false =>
    rw [hkeep k a1 a2 ⟨b, hb, hd⟩]
    obtain ⟨_, c, d⟩ := hfo k a1
    exact (R.blk k b a1 hb).mono (fun j hj => ⟨(hDn j).2 (.inl hj), (hfo j hj).1⟩) (fun v hv => (hclo0 v hv).2) c d
 ·intro k hk
  exact ⟨(hDn k).2 (.inl hk), hfo k hk⟩
 ·intro k hk
  by_cases hE : E.D k
  ·exact .inl hE
  ·have hn := ((hDn k).1 hk).resolve_left hE
   right
   rw [(hfn k hn).1]
   rcases X.fresh k ((hD'' k).2 (.inr hn)) with h | h | ⟨j, h1, h2, h3, h4⟩
   ·exact absurd (hsub k h) hE
   ·exact .inl h
   ·obtain ⟨hlM, hv⟩ := hlN j h1 h2
    exact .inr ⟨j, hsub j h1, hlM, fun hl => h3 (live_eq (hold j h1 hv) hl), h4⟩
 ·intro k hk hl
  by_cases hv : D' k ∧ Vis k
  ·exact (hlN k hv.1 (X.dead k hv.1 (live_eq (hold k hv.1 hv.2) hl))).1
  ·exact live_eq (hrest k hk hv) hl
 ·intro b hb' hb hn
  refine X.frame b hb' hb ?_
  intro k hk hl e
  exact hn k (hsub k hk) (hlN k hk hl).1 e
end
end Go.Eng
namespace Go.Eng
noncomputable section
set_option linter.unusedSimpArgs false
set_option linter.unusedVariables false
set_option linter.unusedSectionVars false
variable [Hk]
inductive Kd where
 | b | q | w
 deriving DecidableEq
structure DS where
 a : CA
 N : CH
 kd : Kd
 v : Value
def evalOp (P : Program) (R : Rec) (ev : Ev) (o : Oper) (N : CH) : Option (Value × CH) :=
 match cop P ev o N with
 | some (.val v, N') => some (v, N')
 | some (.skip, N') => some (undef, N')
 | some (.enter f args, N') => R.call f args N'
 | some (.round l f tmps as bd, N') => R.round l f tmps as bd N'
 | none => none
def cevOn (ts : List Tmp) (a : CA) : Ev
 | .tmp t => if ts.contains t = true then some (a.tmps.getD t undef) else none
 | x => cev a x
def CH.blind (n : Nat) : CH := ⟨n, n, n, .e⟩
def CH.guarded (N : CH) : CH := ⟨N.sz, N.sz, N.base, N.t⟩
def CH.back (N G : CH) : CH := ⟨G.sz, if G.wm < N.wm then G.wm else N.wm, G.base, G.t⟩
def merge : Nat → CH → CH → Option CH
 | 0, N, _ => some N
 | c + 1, N, B => match B.get N.sz with
  | some b => if N.fits then merge c (N.push b) B else none
  | none => none
def cstep (P : Program) (R : Rec) (ops : Array Oper) (i : Nat) (a : CA) (N : CH) : Option (Kd × Value × CH) :=
 match ops[i]? with
 | none => none
 | some o =>
  if guardSeen ops a.tmps o = false then none else
  if Region.wanted o (cyielded ops a.tmps) = true then
   match cop P (cevOn (o.looksAt ops) a) o (CH.blind N.sz) with
   | some (.val v, B) => (merge (B.sz - N.sz) N B).map fun N' => (.b, v, N')
   | _ => match evalOp P R (cevOn (o.looksAt ops) a) o N.guarded with
    | some (v, G) => if N.sz ≤ G.wm then some (.q, v, ⟨G.sz, N.wm, G.base, G.t⟩) else some (.w, v, N.back G)
    | none => none
  else some (.b, undef, N)
def dstOf (ops : Array Oper) (i : Nat) : Option Tmp := (ops[i]?).bind (·.dst)
def cruns (P : Program) (R : Rec) (ops : Array Oper) : Nat → Nat → CA → CH → Option (List DS × CA × CH)
 | 0, _, a, N => some ([], a, N)
 | m + 1, i, a, N => (cstep P R ops i a N).bind fun r => (cruns P R ops m (i + 1) (a.put (dstOf ops i) r.2.1) r.2.2).map fun x => (⟨a, N, r.1, r.2.1⟩ :: x.1, x.2)
def names (ops : Array Oper) (j : Nat) : List Tmp := match ops[j]? with
 | some o => o.dst.toList ++ o.looksAt ops
 | none => []
mutual
def veq : Value → Value → Bool
 | .bool a, .bool b => a == b
 | .int k a, .int l b => decide (k = l) && decide (a = b)
 | .string a, .string b => decide (a.data.toList = b.data.toList)
 | .pointer (some a), .pointer (some b) => decide (a.block = b.block) && decide (a.off = b.off) && decide (a.spot = b.spot)
 | .pointer none, .pointer none => true
 | .slice none l c, .slice none l' c' => decide (l = l') && decide (c = c')
 | .slice (some a) l c, .slice (some b) l' c' => decide (a.block = b.block) && decide (a.off = b.off) && decide (a.spot = b.spot) && decide (l = l') && decide (c = c')
 | .map a, .map b => decide (a = b)
 | .chan (some a), .chan (some b) => decide (a = b)
 | .nilFunc, .nilFunc => true
 | .nilIface, .nilIface => true
 | .iface t a, .iface u b => decide (t = u) && veq a b
 | .agg ⟨a⟩, .agg ⟨b⟩ => veqL a b
 | .tuple ⟨a⟩, .tuple ⟨b⟩ => veqL a b
 | _, _ => false
def veqL : List Value → List Value → Bool
 | [], [] => true
 | a :: as, b :: bs => veq a b && veqL as bs
 | _, _ => false
end
theorem bytes_eq {a b : ByteArray} (h : a.data.toList = b.data.toList) : a = b := by
 obtain ⟨⟨l⟩⟩ := a; obtain ⟨⟨l'⟩⟩ := b
 simp only at h
 rw [h]
mutual
theorem veq_ok : ∀ {a b : Value}, veq a b = true → a = b
 | .bool a, b, h => by
  cases b with
  | bool b => simp only [veq, beq_iff_eq] at h; rw [h]
  | _ => simp [veq] at h
 | .int k a, b, h => by
  cases b with
  | int l b => simp only [veq, Bool.and_eq_true, decide_eq_true_eq] at h; rw [h.1, h.2]
  | _ => simp [veq] at h
 | .float _ _, b, h => by cases b <;> simp [veq] at h
 | .complex _ _ _, b, h => by cases b <;> simp [veq] at h
 | .string a, b, h => by
  cases b with
  | string b => simp only [veq, decide_eq_true_eq] at h; rw [bytes_eq h]
  | _ => simp [veq] at h
 | .pointer none, b, h => by
  cases b with
  | pointer b => cases b <;> simp [veq] at h ⊢
  | _ => simp [veq] at h
 | .pointer (some ⟨a1, a2, a3⟩), b, h => by
  cases b with
  | pointer b =>
   cases b with
   | none => simp [veq] at h
   | some b =>
    obtain ⟨b1, b2, b3⟩ := b
    simp only [veq, Bool.and_eq_true, decide_eq_true_eq] at h
    obtain ⟨⟨rfl, rfl⟩, rfl⟩ := h
    rfl
  | _ => simp [veq] at h
 | .slice none l c, b, h => by
  cases b with
  | slice b l' c' =>
   cases b with
   | none => simp only [veq, Bool.and_eq_true, decide_eq_true_eq] at h; rw [h.1, h.2]
   | some b => simp [veq] at h
  | _ => simp [veq] at h
 | .slice (some ⟨a1, a2, a3⟩) l c, b, h => by
  cases b with
  | slice b l' c' =>
   cases b with
   | none => simp [veq] at h
   | some b =>
    obtain ⟨b1, b2, b3⟩ := b
    simp only [veq, Bool.and_eq_true, decide_eq_true_eq] at h
    obtain ⟨⟨⟨⟨rfl, rfl⟩, rfl⟩, rfl⟩, rfl⟩ := h
    rfl
  | _ => simp [veq] at h
 | .map a, b, h => by
  cases b with
  | map b => simp only [veq, decide_eq_true_eq] at h; rw [h]
  | _ => simp [veq] at h
 | .chan none, b, h => by cases b <;> simp [veq] at h
 | .chan (some a), b, h => by
  cases b with
  | chan b =>
   cases b with
   | none => simp [veq] at h
   | some b => simp only [veq, decide_eq_true_eq] at h; rw [h]
  | _ => simp [veq] at h
 | .func _ _ _, b, h => by cases b <;> simp [veq] at h
 | .nilFunc, b, h => by cases b <;> simp [veq] at h ⊢
 | .iface t a, b, h => by
  cases b with
  | iface u b => simp only [veq, Bool.and_eq_true, decide_eq_true_eq] at h; rw [h.1, veq_ok h.2]
  | _ => simp [veq] at h
 | .nilIface, b, h => by cases b <;> simp [veq] at h ⊢
 | .agg ⟨a⟩, b, h => by
  cases b with
  | agg b => obtain ⟨b⟩ := b; simp only [veq] at h; rw [veqL_ok h]
  | _ => simp [veq] at h
 | .tuple ⟨a⟩, b, h => by
  cases b with
  | tuple b => obtain ⟨b⟩ := b; simp only [veq] at h; rw [veqL_ok h]
  | _ => simp [veq] at h
theorem veqL_ok : ∀ {a b : List Value}, veqL a b = true → a = b
 | [], [], _ => rfl
 | [], _ :: _, h => by simp [veqL] at h
 | _ :: _, [], h => by simp [veqL] at h
 | a :: as, b :: bs, h => by
  simp only [veqL, Bool.and_eq_true] at h
  rw [veq_ok h.1, veqL_ok h.2]
end
def bmOf (o : Oper) (bms : List Nat) : Nat := o.after.toList.foldl (fun s e => if Region.binds .any e = true then s ||| (2 ^ e.on ||| bms.getD e.on 0) else s) 0
def force (n : Nat) {α : Type} (k : Nat → α) : α := match n with | 0 => k 0 | m + 1 => k (m + 1)
def bmsGo : List Oper → List Nat → List Nat
 | [], acc => acc
 | o :: r, acc => force (bmOf o acc) fun n => bmsGo r (acc ++ [n])
def bef (bms : List Nat) (i j : Nat) : Bool := (bms.getD j 0).testBit i
def meets (x : Option Tmp) (l : List Tmp) : Bool := match x with
 | some t => l.contains t
 | none => false
def lateEval (P : Program) (R : Rec) (ops : Array Oper) (s : DS) (i : Nat) (N : CH) : Bool :=
 match ops[i]? with
 | some o => guardSeen ops s.a.tmps o && Region.wanted o (cyielded ops s.a.tmps) && match evalOp P R (cevOn (o.looksAt ops) s.a) o N.guarded with
  | some (v, N') => veq v s.v && decide (N'.sz = N.sz) && decide (N.sz ≤ N'.wm)
  | none => false
 | none => false
def isW (l : List DS) (i : Nat) : Bool := match l[i]? with
 | some s => decide (s.kd = .w)
 | none => false
def wsOf (l : List DS) (n : Nat) : List Nat := (List.range n).filter fun i => isW l i
def lateOk (P : Program) (R : Rec) (ops : Array Oper) (bms ws : List Nat) (l : List DS) (fin : DS) (n i : Nat) : Bool :=
 (ws ++ [n]).all fun p => !decide (i < p) ||
  !(ws.any fun u => decide (i < u) && decide (u < p)) ||
  (ws.any fun u => decide (i < u) && decide (u < p) && bef bms i u) ||
  (decide ((l.getD i fin).N.sz = (l.getD (i + 1) fin).N.sz) && lateEval P R ops (l.getD i fin) i (l.getD p fin).N)
def edgesOk (ops : Array Oper) (bms : List Nat) (n : Nat) : Bool :=
 ((List.range n).all fun j => (match ops[j]? with | some o => o.after.toList.all fun e => !Region.binds .any e || decide (e.on < j) | none => true)) &&
 ((List.range n).all fun j => (match ops[j]? with | some o => bms.getD j 0 == bmOf o bms | none => true))
def namesOk (ops : Array Oper) (bms : List Nat) (n : Nat) : Bool :=
 (List.range n).all fun j => (List.range j).all fun i => bef bms i j || (!meets (dstOf ops i) (names ops j) && !meets (dstOf ops j) (names ops i))
def textOk (ops : Array Oper) : Bool := edgesOk ops (bmsGo ops.toList []) ops.size && namesOk ops (bmsGo ops.toList []) ops.size
def kindsOk (bms : List Nat) (l : List DS) (fin : DS) (i j : Nat) : Bool :=
 bef bms i j ||
  ((!decide ((l.getD i fin).kd = .w) || decide ((l.getD j fin).kd = .b)) &&
   (!decide ((l.getD j fin).kd = .w) || !decide ((l.getD i fin).kd = .b) || decide ((l.getD i fin).N.sz = (l.getD (i + 1) fin).N.sz)))
def pairsOk (bms ws : List Nat) (l : List DS) (fin : DS) (n : Nat) : Bool :=
 ws.all fun u => (List.range n).all fun j => if j < u then kindsOk bms l fin j u else if u < j then kindsOk bms l fin u j else true
def drawOk (P : Program) (R : Rec) (ops : Array Oper) (l : List DS) (fin : DS) : Bool :=
 textOk ops &&
 ((wsOf l ops.size).isEmpty ||
  (pairsOk (bmsGo ops.toList []) (wsOf l ops.size) l fin ops.size &&
   (List.range ops.size).all fun i => !decide ((l.getD i fin).kd = .q) || lateOk P R ops (bmsGo ops.toList []) (wsOf l ops.size) l fin ops.size i))
def cdraw (P : Program) (R : Rec) (ops : Array Oper) (a : CA) (N : CH) : Option (CA × CH) :=
 match cruns P R ops ops.size 0 a N with
 | some (l, a', N') => if drawOk P R ops l ⟨a', N', .b, undef⟩ = true then some (a', N') else none
 | none => none
end
end Go.Eng
namespace Go.Eng
noncomputable section
open Go.Conc (G)
set_option linter.unusedSimpArgs false
set_option linter.unusedVariables false
set_option linter.unusedSectionVars false
variable [Hk]
def Loc (P : Program) (ops : Array Oper) (i : Nat) (o : Oper) (a : CA) (N : CH) (v : Value) (N' : CH) : Prop :=
 ∀ (main : Bool) (J : World → Prop) [Ctx main J] (lo : Nat) (E : Env) (w : World) (O W : Nat → Prop) (A : Act), lo ≤ N'.wm → Rel P E N w → Own O W lo E N w → (∀ x ∈ o.looksAt ops, A.tmps[x]? = (a.tmps[x]?).map E.m ∧ ∀ u, a.tmps[x]? = some u → Clo E.D u) →
  ∀ (b : Frame) (rest : List Nat) (k : List Item) (cs : List Frame) K,
   (∀ O' W' E' w', Later P lo O W E N w O' W' E' N' w' → Clo E'.D v → Will P main J K O' W' (G (fat b (A.put o.dst (E'.m v)) (.inRegion ops rest :: k)) cs) w') →
   Will P main J K O W (G (fat b A (.inRegion ops (i :: rest) :: k)) cs) w
theorem Loc.facts {P : Program} {ops : Array Oper} {i : Nat} {o : Oper} {a : CA} {N N' : CH} {v : Value} (h : Loc P ops i o a N v N') {E : Env} {w : World} {A : Act} (R : Rel P E N w)
  (hA : ∀ x ∈ o.looksAt ops, A.tmps[x]? = (a.tmps[x]?).map E.m ∧ ∀ u, a.tmps[x]? = some u → Clo E.D u) :
  ∃ E' w', Rel P E' N' w' ∧ ExtC (fun b => b < w.heap.size) E N w E' N' w' ∧ Clo E'.D v := by
 obtain ⟨_, _, _, _, hh⟩ := (h true (fun _ => True) 0 E w _ _ A (Nat.zero_le _) R (own_all R) hA default [] [] [] (fun _ _ _ _ => ∃ E' w', Rel P E' N' w' ∧ ExtC (fun b => b < w.heap.size) E N w E' N' w' ∧ Clo E'.D v)
  fun _ _ E' w' L hv => .stop fun _ _ _ => ⟨E', w', L.rel, L.ext, hv⟩).reaches (fun _ h => h) (fun _ h => h)
 exact hh
theorem wanted_look {ops : Array Oper} {o : Oper} {a : CA} {A : Act} {E : Env} (hg : guardSeen ops a.tmps o = true) (h : ∀ x ∈ o.looksAt ops, A.tmps[x]? = (a.tmps[x]?).map E.m) :
  Region.wanted o (yielded ops A.tmps) = Region.wanted o (cyielded ops a.tmps) :=
 wanted_at (E := E) hg (fun g want x hgu hd => h x (by simp [Oper.looksAt, hgu, hd]))
theorem evOk_on {E : Env} {ts : List Tmp} {a : CA} {A : Act} (hgl : E.Gl) (h : ∀ x ∈ ts, A.tmps[x]? = (a.tmps[x]?).map E.m ∧ ∀ u, a.tmps[x]? = some u → Clo E.D u) : EvOk E (cevOn ts a) A.eval := by
 intro x v hx
 cases x with
 | tmp t =>
  simp only [cevOn] at hx
  split at hx
  ·rename_i ht
   cases hx
   obtain ⟨h1, h2⟩ := h t (by simpa using ht)
   simp only [Act.eval, Array.getD_eq_getD_getElem?, h1, List.getD_eq_getElem?_getD]
   cases hu : a.tmps[t]? with
   | none => exact ⟨rfl, undef_clo _⟩
   | some u => exact ⟨rfl, h2 u hu⟩
  ·cases hx
 | const u =>
  simp only [cevOn, cev] at hx
  split at hx
  ·cases hx; exact ⟨(m_plain E (by assumption)).symm, Clo_plain _ _ (by assumption)⟩
  ·cases hx
 | func f =>
  simp only [cevOn, cev, Option.some.injEq] at hx
  subst hx
  exact ⟨rfl, ⟨trivial, trivial, trivial⟩⟩
 | global g =>
  simp only [cevOn, cev] at hx
  split at hx
  ·rename_i hg
   cases hx
   exact ⟨(m_global (hgl g hg)).symm, clo_global (hgl g hg)⟩
  ·cases hx
theorem loc_eval {P : Program} (hP : NoCount P) {R : Rec} (hR : RecOk P R) {ops : Array Oper} {i : Nat} {o : Oper} (ho : ops[i]? = some o) {a : CA} (hgs : guardSeen ops a.tmps o = true) (hw : Region.wanted o (cyielded ops a.tmps) = true)
  {N N' : CH} {v : Value} (h : evalOp P R (cevOn (o.looksAt ops) a) o N = some (v, N')) : Loc P ops i o a N v N' := by
 intro main J hx lo E w O W A hlo hr ow hA b rest k cs K hK
 have hw' : Region.wanted o (yielded ops A.tmps) = true := by rw [wanted_look hgs (fun x hx => (hA x hx).1)]; exact hw
 have hev := evOk_on hr.gl hA
 unfold evalOp at h
 cases hc : cop P (cevOn (o.looksAt ops) a) o N with
 | none => simp [hc] at h
 | some r =>
  obtain ⟨nx, N1⟩ := r
  have hnd : ∀ c, o.op ≠ .defer c := by
   intro c e
   simp [cop, e] at hc
  cases nx with
  | val u =>
   simp only [hc, Option.some.injEq, Prod.mk.injEq] at h
   obtain ⟨rfl, rfl⟩ := h
   exact op_will hP hr ow hev hc hlo (fn := b.fn) (g' := fun n => match n with | .value u => G (fat b (A.put o.dst u) (.inRegion ops rest :: k)) cs | _ => default)
    (fun w1 w2 n hrun ⟨E', hn⟩ => by subst hn; exact g_val ho hw' hnd hrun) fun O' W' E' w' L hclo => hK O' W' E' w' L hclo
  | skip =>
   simp only [hc, Option.some.injEq, Prod.mk.injEq] at h
   obtain ⟨rfl, rfl⟩ := h
   exact op_will hP hr ow hev hc hlo (fn := b.fn) (g' := fun _ => G (fat b (A.put o.dst undef) (.inRegion ops rest :: k)) cs)
    (fun w1 w2 n hrun ⟨E', hn⟩ => by subst hn; exact g_skipv ho hw' hnd hrun) fun O' W' E' w' L hclo => hK O' W' E' w' L (undef_clo _)
  | enter f args =>
   simp only [hc] at h
   have hcall := hR.call _ _ _ _ _ h
   have hlo1 : lo ≤ N1.wm := by
    obtain ⟨E1, w1, hr1, _, hclo, _⟩ := cop_ok hP hr hev hc
    exact Nat.le_trans hlo (hcall.wm hr1 hclo)
   refine op_will hP hr ow hev hc hlo1 (fn := b.fn) (g' := fun n => match n with | .enter f as => G (Frame.enter P f as .normal) (fat b A (.inRegion ops (i :: rest) :: k) :: cs) | _ => default)
    (fun w1 w2 n hrun ⟨E', hn⟩ => by subst hn; exact g_enter ho hw' hnd hrun) fun O1 W1 E1 w1 L1 hclo => ?_
   refine hcall main J lo E1 w1 O1 W1 hlo L1.rel L1.own hclo .normal _ (by exact caller_run (.inl rfl) rfl) K fun O2 W2 E2 w2 fr L2 hv _ hready => ?_
   refine leave_will hready ?_
   rw [fat_finish ho]
   exact hK O2 W2 E2 w2 (L1.trans L2) hv
  | round l f tmps as bd =>
   simp only [hc] at h
   have hround := hR.round _ _ _ _ _ _ _ _ h
   have hlo1 : lo ≤ N1.wm := by
    obtain ⟨E1, w1, hr1, _, hclo, _⟩ := cop_ok hP hr hev hc
    exact Nat.le_trans hlo (hround.wm hr1 hclo.1 hclo.2)
   refine op_will hP hr ow hev hc hlo1 (fn := b.fn) (g' := fun n => match n with | .round l f ts as bd => G (Frame.round l f ts as bd .normal) (fat b A (.inRegion ops (i :: rest) :: k) :: cs) | _ => default)
    (fun w1 w2 n hrun ⟨E', hn⟩ => by subst hn; exact g_round ho hw' hnd hrun) fun O1 W1 E1 w1 L1 hclo => ?_
   refine hround main J lo E1 w1 O1 W1 hlo L1.rel L1.own hclo.1 hclo.2 _ cs K fun O2 W2 E2 w2 L2 hv => ?_
   rw [fat_finish ho]
   exact hK O2 W2 E2 w2 (L1.trans L2) hv
theorem loc_skip {P : Program} {ops : Array Oper} {i : Nat} {o : Oper} (ho : ops[i]? = some o) {a : CA} (hgs : guardSeen ops a.tmps o = true) (hw : Region.wanted o (cyielded ops a.tmps) = false) (N : CH) : Loc P ops i o a N undef N := by
 intro main J hx lo E w O W A hlo hr ow hA b rest k cs K hK
 have hw' : Region.wanted o (yielded ops A.tmps) = false := by rw [wanted_look hgs (fun x hx => (hA x hx).1)]; exact hw
 exact .quiet rfl (fun _ => g_op_skip ho hw') (hK O W E w (Later.refl hr ow) (undef_clo _))
theorem merge_ok : ∀ (c : Nat) {N N' B : CH}, merge c N B = some N' → N.Ok → N'.sz = N.sz + c ∧ N'.wm = N.wm ∧ N'.Ok ∧ (∀ k, k < N.sz → N'.get k = N.get k) ∧ (∀ k, N.sz ≤ k → k < N'.sz → N'.get k = B.get k)
 | 0, N, N', B, h, hN => by
  simp only [merge, Option.some.injEq] at h
  subst h
  exact ⟨rfl, rfl, hN, fun _ _ => rfl, fun k h1 h2 => by omega⟩
 | c + 1, N, N', B, h, hN => by
  simp only [merge] at h
  split at h
  ·rename_i b hb
   split at h
   ·rename_i hsz
    obtain ⟨h1, h2, h3, h4, h5⟩ := merge_ok c h (CH.ok_push hN b)
    have hp : (N.push b).sz = N.sz + 1 := rfl
    refine ⟨by rw [h1, hp]; omega, h2, h3, ?_, ?_⟩
    ·intro k hk
     rw [h4 k (by rw [hp]; omega), CH.get_push_other hN hk]
    ·intro k hk hk'
     by_cases he : k = N.sz
     ·subst he
      rw [h4 _ (by rw [hp]; omega), CH.get_push_same hN, hb]
     ·exact h5 k (by rw [hp]; omega) hk'
   ·cases h
  ·cases h
def StepFact (P : Program) (ops : Array Oper) (i : Nat) (o : Oper) (a : CA) (N : CH) (kd : Kd) (v : Value) (N' : CH) : Prop :=
 match kd with
 | .b => ∃ B, Loc P ops i o a (CH.blind N.sz) v B ∧ (N.Ok → N.sz ≤ B.sz → N'.sz = B.sz ∧ N'.wm = N.wm ∧ N'.Ok ∧ (∀ k, k < N.sz → N'.get k = N.get k) ∧ (∀ k, N.sz ≤ k → k < N'.sz → N'.get k = B.get k))
 | .q => ∃ G, Loc P ops i o a N.guarded v G ∧ N.sz ≤ G.wm ∧ N' = ⟨G.sz, N.wm, G.base, G.t⟩
 | .w => ∃ G, Loc P ops i o a N.guarded v G ∧ N' = N.back G
theorem cstep_fact {P : Program} (hP : NoCount P) {R : Rec} (hR : RecOk P R) {ops : Array Oper} {i : Nat} {o : Oper} (ho : ops[i]? = some o) {a : CA} {N N' : CH} {kd : Kd} {v : Value}
  (h : cstep P R ops i a N = some (kd, v, N')) : StepFact P ops i o a N kd v N' := by
 unfold cstep at h
 simp only [ho] at h
 split at h
 ·cases h
 rename_i hgs
 have hgs : guardSeen ops a.tmps o = true := by simpa using hgs
 split at h
 ·rename_i hw
  split at h
  ·rename_i u B hb
   simp only [Option.map_eq_some_iff, Prod.mk.injEq] at h
   obtain ⟨N1, h1, rfl, rfl, rfl⟩ := h
   refine ⟨B, loc_eval hP hR ho hgs hw (by unfold evalOp; rw [hb]), fun hN hle => ?_⟩
   obtain ⟨e1, e2, e3, e4, e5⟩ := merge_ok _ h1 hN
   exact ⟨by omega, e2, e3, e4, e5⟩
  ·split at h
   ·rename_i u G hq
    split at h
    ·rename_i hlow
     simp only [Option.some.injEq, Prod.mk.injEq] at h
     obtain ⟨rfl, rfl, rfl⟩ := h
     exact ⟨G, loc_eval hP hR ho hgs hw hq, hlow, rfl⟩
    ·simp only [Option.some.injEq, Prod.mk.injEq] at h
     obtain ⟨rfl, rfl, rfl⟩ := h
     exact ⟨G, loc_eval hP hR ho hgs hw hq, rfl⟩
   ·cases h
 ·rename_i hw
  simp only [Option.some.injEq, Prod.mk.injEq] at h
  obtain ⟨rfl, rfl, rfl⟩ := h
  exact ⟨CH.blind N.sz, loc_skip ho hgs (by simpa using hw) _, fun hN _ => ⟨rfl, rfl, hN, fun _ _ => rfl, fun k h1 h2 => absurd h2 (Nat.not_lt.2 h1)⟩⟩
theorem CH.get_blind (n k : Nat) : (CH.blind n).get k = none := by
 rw [CH.get_def]
 show (if k < n then none else Tr.e.get (k - n)) = none
 by_cases h : k < n
 ·rw [if_pos h]
 ·rw [if_neg h]; rfl
theorem Rel.blind {P : Program} {E : Env} {w : World} {n : Nat} (hgl : E.Gl) (hd : ∀ k, E.D k → k < n) : Rel P E (CH.blind n) w := by
 have hg : ∀ k, (CH.blind n).get k = none := CH.get_blind n
 have hl : ∀ k, ¬ (CH.blind n).live k := fun k ⟨b, hb, _⟩ => by rw [hg] at hb; cases hb
 exact ⟨⟨Nat.le_refl _, Nat.sub_self n⟩, hgl, hd, fun i _ _ _ h => absurd h (hl i), fun k b _ hb => by rw [hg] at hb; cases hb⟩
theorem Rel.less {P : Program} {E : Env} {M N : CH} {w : World} {D' : Nat → Prop} (R : Rel P E M w) (hsub : ∀ k, D' k → E.D k) (hgl : ∀ g, g < LIM → D' g) (hN : N.Ok) (hlt : ∀ k, D' k → k < N.sz) (hget : ∀ k, D' k → N.get k = M.get k)
  (hc : ∀ k b, D' k → N.get k = some b → CBClo D' b) : Rel P { E with D := D' } N w := by
 have hl : ∀ k, D' k → N.live k → M.live k := fun k hk ⟨b, hb, hd⟩ => ⟨b, by rw [← hget k hk]; exact hb, hd⟩
 exact ⟨hN, fun g hg => ⟨hgl g hg, (R.gl g hg).2⟩, hlt, fun i j hi hj li lj e => R.inj i j (hsub i hi) (hsub j hj) (hl i hi li) (hl j hj lj) e,
  fun k b hk hb => (R.blk k b (hsub k hk) (by rw [← hget k hk]; exact hb)).less (hc k b hk hb)⟩
theorem CBClo.mono {D D' : Nat → Prop} (h : ∀ k, D k → D' k) {b : CB} (hc : CBClo D b) : CBClo D' b := by
 cases b with
 | row c e el => exact fun v hv => Clo_mono h v (hc v hv)
 | map es cl => exact fun e he => Clo_mono h _ (hc e he)
 | loop l => exact ⟨fun v hv => Clo_mono h v (hc.1 v hv), h _ hc.2⟩
 | miter r a b c => exact fun k hk => h k (hc k hk)
 | far n f e => exact fun v hv => Clo_mono h v (hc v hv)
 | _ => trivial
theorem Rel.guard {P : Program} {E : Env} {N : CH} {w : World} (R : Rel P E N w) {m : Nat} : Rel P E ⟨N.sz, m, N.base, N.t⟩ w := ⟨⟨R.ok.le, R.ok.full⟩, R.gl, R.dom, R.inj, R.blk⟩
structure Vs (O : Nat → Prop) (E : Env) (N : CH) (w : World) (E' : Env) (N' : CH) (w' : World) : Prop where
 wx : Wx O E N w E' N' w'
 dom : ∀ k, E'.D k ↔ E.D k ∨ (N.sz ≤ k ∧ k < N'.sz)
 size : N.sz ≤ N'.sz
 wm : N'.wm ≤ N.wm
 keep : ∀ k, k < N.sz → k < N'.wm → N'.get k = N.get k
theorem ExtC.vs {O : Nat → Prop} {E E' : Env} {N N' : CH} {w w' : World} (X : ExtC O E N w E' N' w') : Vs O E N w E' N' w' :=
 ⟨X.wx, fun k => ⟨X.new k, fun h => h.elim (fun h => (X.mono k h).1) (fun h => X.all k h.1 h.2)⟩, X.size, X.wm, X.keep⟩
theorem Vs.ext {O : Nat → Prop} {E E' : Env} {N N' : CH} {w w' : World} (X : Vs O E N w E' N' w') : ExtC O E N w E' N' w' :=
 ⟨X.wx.mono, fun k h => (X.dom k).1 h, fun k h1 h2 => (X.dom k).2 (.inr ⟨h1, h2⟩), X.size, X.wx.hsize, X.wx.fresh, X.wx.dead, X.wm, X.keep, X.wx.frame, X.wx.os, X.wx.tape, X.wx.output, X.wx.op⟩
theorem act_look {E : Env} {a : CA} (ha : a.Clo E.D) {l : List Tmp} : ∀ x ∈ l, (E.act a).tmps[x]? = (a.tmps[x]?).map E.m ∧ ∀ u, a.tmps[x]? = some u → Clo E.D u :=
 fun x _ => ⟨by simp [Env.act], fun u hu => ha.tmps u (List.mem_of_getElem? hu)⟩
theorem vstep {P : Program} {ops : Array Oper} {i : Nat} {o : Oper} {a : CA} {N N' : CH} {kd : Kd} {v : Value} (h : StepFact P ops i o a N kd v N') {E : Env} {w : World} (R : Rel P E N w) (ha : a.Clo E.D) :
  ∃ E' w', Rel P E' N' w' ∧ Vs (fun b => b < w.heap.size) E N w E' N' w' ∧ Clo E'.D v ∧ (kd ≠ .w → ∀ k, k < N.sz → N'.get k = N.get k) := by
 cases kd with
 | w =>
  obtain ⟨G, hG, rfl⟩ := h
  obtain ⟨E', w', R', X, hv⟩ := hG.facts R.guard (act_look ha)
  have hwx : Wx (fun b => b < w.heap.size) E N w E' (N.back G) w' := X.wx.congr (fun _ _ => rfl) (fun _ _ => rfl)
  refine ⟨E', w', R'.guard, ⟨hwx, X.vs.dom, X.size, ?_, fun k h1 h2 => ?_⟩, hv, fun hh => absurd rfl hh⟩
  ·simp only [CH.back]
   split <;> omega
  ·refine X.keep k h1 ?_
   simp only [CH.back] at h2
   split at h2 <;> omega
 | q =>
  obtain ⟨G, hG, hlow, rfl⟩ := h
  obtain ⟨E', w', R', X, hv⟩ := hG.facts R.guard (act_look ha)
  have hk : ∀ k, k < N.sz → (⟨G.sz, N.wm, G.base, G.t⟩ : CH).get k = N.get k := fun k hk => X.keep k hk (Nat.lt_of_lt_of_le hk hlow)
  have hwx : Wx (fun b => b < w.heap.size) E N w E' ⟨G.sz, N.wm, G.base, G.t⟩ w' := X.wx.congr (fun _ _ => rfl) (fun _ _ => rfl)
  exact ⟨E', w', R'.guard, ⟨hwx, X.vs.dom, X.size, Nat.le_refl _, fun k h1 _ => hk k h1⟩, hv, fun _ => hk⟩
 | b =>
  obtain ⟨B, hB, hrest⟩ := h
  have R0 : Rel P { E with D := E.D } (CH.blind N.sz) w := Rel.blind R.gl R.dom
  obtain ⟨E'', w'', R'', X, hv⟩ := hB.facts R0 (act_look ha)
  obtain ⟨e1, e2, e3, e4, e5⟩ := hrest R.ok X.size
  have hbs : (CH.blind N.sz).sz = N.sz := rfl
  have hsize : N.sz ≤ B.sz := X.size
  have hlt : ∀ k, E.D k ∨ (N.sz ≤ k ∧ k < B.sz) → k < N'.sz := by
   rintro k (hk | hk)
   ·have := R.dom k hk
    omega
   ·omega
  obtain ⟨E', R', X', hD, hclo, _⟩ := recombine (N := CH.blind N.sz) (D' := E.D) (Vis := fun _ => False) (M' := N') R (fun k hk hl => R.live_lt hk hl) (fun _ h => h) (fun _ _ h => h.elim) (fun k _ _ => CH.get_blind N.sz k) R'' X
   (fun k hk hh => by have := R.dom k hk; rw [hbs] at hh; omega) e3 hlt
   (fun k h1 h2 => e5 k h1 (by omega)) (fun _ _ h => h.elim) (fun k hk _ => e4 k (R.dom k hk))
  refine ⟨E', w'', R', ⟨X', fun k => ?_, by have := X.size; rw [hbs] at this; omega, Nat.le_of_eq e2, fun k h1 _ => e4 k h1⟩, (hclo v hv).1, fun _ => e4⟩
  rw [hD k, hbs, e1]
end
end Go.Eng
namespace Go.Eng
noncomputable section
set_option linter.unusedSimpArgs false
set_option linter.unusedVariables false
set_option linter.unusedSectionVars false
variable [Hk]
theorem Vs.trans {O O1 : Nat → Prop} {E E1 E2 : Env} {N N1 N2 : CH} {w w1 w2 : World} (h : Vs O E N w E1 N1 w1) (g : Vs O1 E1 N1 w1 E2 N2 w2) (hO : ∀ b, O b → O1 b) : Vs O E N w E2 N2 w2 := (h.ext.trans g.ext hO).vs
theorem Vs.refl (O : Nat → Prop) (E : Env) (N : CH) (w : World) : Vs O E N w E N w := (ExtC.refl O E N w).vs
theorem Vs.weaken {O O' : Nat → Prop} {E E1 : Env} {N N1 : CH} {w w1 : World} (h : Vs O E N w E1 N1 w1) (hs : ∀ b, O' b → O b) : Vs O' E N w E1 N1 w1 := ⟨h.wx.weaken hs, h.dom, h.size, h.wm, h.keep⟩
structure Run (P : Program) (ops : Array Oper) (s : Nat → DS) (bm : Nat → Nat → Prop) (n : Nat) : Prop where
 size : n ≤ ops.size
 edge : ∀ j o, ops[j]? = some o → ∀ e ∈ o.after, Region.binds .any e = true → e.on < j
 bms : ∀ i j, j < ops.size → bm i j → ∃ o, ops[j]? = some o ∧ ∃ e ∈ o.after, Region.binds .any e = true ∧ (e.on = i ∨ bm i e.on)
 step : ∀ j o, j < n → ops[j]? = some o → StepFact P ops j o (s j).a (s j).N (s j).kd (s j).v (s (j + 1)).N
 put : ∀ j o, j < n → ops[j]? = some o → (s (j + 1)).a = (s j).a.put o.dst (s j).v
 tmps : ∀ i j x, i < j → j < n → ((dstOf ops i = some x ∧ x ∈ names ops j) ∨ (dstOf ops j = some x ∧ x ∈ names ops i)) → bm i j
 cw : ∀ i j, i < j → j < n → (s i).kd = .w → (s j).kd = .b ∨ bm i j
 cb : ∀ i j, i < j → j < n → (s j).kd = .w → (s i).kd = .b → (s i).N.sz = (s (i + 1)).N.sz ∨ bm i j
 cl : ∀ i p o, i < p → p ≤ n → ops[i]? = some o → (s i).kd = .q → (p = n ∨ (s p).kd = .w) → (∃ u, i < u ∧ u < p ∧ (s u).kd = .w) →
  (∃ u, i < u ∧ u < p ∧ (s u).kd = .w ∧ bm i u) ∨ ((s i).N.sz = (s (i + 1)).N.sz ∧ ∃ G, Loc P ops i o (s i).a (s p).N.guarded (s i).v G ∧ G.sz = (s p).N.sz ∧ (s p).N.sz ≤ G.wm)
section
variable {P : Program} {ops : Array Oper} {s : Nat → DS} {bm : Nat → Nat → Prop} {n : Nat}
theorem Run.op (U : Run P ops s bm n) {j : Nat} (h : j < n) : ∃ o, ops[j]? = some o := ⟨_, Array.getElem?_eq_getElem (Nat.lt_of_lt_of_le h U.size)⟩
theorem Run.virt (U : Run P ops s bm n) {E0 : Env} {w0 : World} (R0 : Rel P E0 (s 0).N w0) (ha0 : (s 0).a.Clo E0.D) : ∀ j, j ≤ n → ∃ E w, Rel P E (s j).N w ∧ (s j).a.Clo E.D ∧ Vs (fun _ => False) E0 (s 0).N w0 E (s j).N w
 | 0, _ => ⟨E0, w0, R0, ha0, Vs.refl _ _ _ _⟩
 | j + 1, h => by
  obtain ⟨E, w, R, ha, V⟩ := U.virt R0 ha0 j (by omega)
  obtain ⟨o, ho⟩ := U.op (show j < n by omega)
  obtain ⟨E', w', R', V', hv, _⟩ := vstep (U.step j o (by omega) ho) R ha
  refine ⟨E', w', R', ?_, V.trans V' (fun _ h => h.elim)⟩
  rw [U.put j o (by omega) ho]
  exact (V'.ext.act ha).2.put _ hv
theorem Run.next (U : Run P ops s bm n) {E0 : Env} {w0 : World} (R0 : Rel P E0 (s 0).N w0) (ha0 : (s 0).a.Clo E0.D) (j : Nat) (h : j < n) :
  (s j).N.sz ≤ (s (j + 1)).N.sz ∧ ((s j).kd ≠ .w → ∀ k, k < (s j).N.sz → (s (j + 1)).N.get k = (s j).N.get k) ∧ (s (j + 1)).N.wm ≤ (s j).N.wm := by
 obtain ⟨E, w, R, ha, V⟩ := U.virt R0 ha0 j (by omega)
 obtain ⟨o, ho⟩ := U.op h
 obtain ⟨E', w', R', V', hv, hk⟩ := vstep (U.step j o (by omega) ho) R ha
 exact ⟨V'.size, hk, V'.wm⟩
theorem Run.mono (U : Run P ops s bm n) {E0 : Env} {w0 : World} (R0 : Rel P E0 (s 0).N w0) (ha0 : (s 0).a.Clo E0.D) (i : Nat) : ∀ d, i + d ≤ n → (s i).N.sz ≤ (s (i + d)).N.sz
 | 0, _ => Nat.le_refl _
 | d + 1, h => Nat.le_trans (U.mono R0 ha0 i d (by omega)) (U.next R0 ha0 (i + d) (by omega)).1
theorem Run.le (U : Run P ops s bm n) {E0 : Env} {w0 : World} (R0 : Rel P E0 (s 0).N w0) (ha0 : (s 0).a.Clo E0.D) {i j : Nat} (h : i ≤ j) (hj : j ≤ n) : (s i).N.sz ≤ (s j).N.sz := by
 have := U.mono R0 ha0 i (j - i) (by omega)
 rwa [show i + (j - i) = j by omega] at this
theorem Run.wms (U : Run P ops s bm n) {E0 : Env} {w0 : World} (R0 : Rel P E0 (s 0).N w0) (ha0 : (s 0).a.Clo E0.D) (i : Nat) : ∀ d, i + d ≤ n → (s (i + d)).N.wm ≤ (s i).N.wm
 | 0, _ => Nat.le_refl _
 | d + 1, h => Nat.le_trans (U.next R0 ha0 (i + d) (by omega)).2.2 (U.wms R0 ha0 i d (by omega))
theorem Run.wle (U : Run P ops s bm n) {E0 : Env} {w0 : World} (R0 : Rel P E0 (s 0).N w0) (ha0 : (s 0).a.Clo E0.D) {i : Nat} (h : i ≤ n) : (s n).N.wm ≤ (s i).N.wm := by
 have := U.wms R0 ha0 i (n - i) (by omega)
 rwa [show i + (n - i) = n by omega] at this
theorem Run.seg (U : Run P ops s bm n) {E0 : Env} {w0 : World} (R0 : Rel P E0 (s 0).N w0) (ha0 : (s 0).a.Clo E0.D) (i : Nat) : ∀ d, i + d ≤ n → (∀ u, i ≤ u → u < i + d → (s u).kd ≠ .w) →
  ∀ k, k < (s i).N.sz → (s (i + d)).N.get k = (s i).N.get k
 | 0, _, _, _, _ => rfl
 | d + 1, h, hu, k, hk => by
  have h1 := (U.next R0 ha0 (i + d) (by omega)).2.1 (hu (i + d) (by omega) (by omega)) k (Nat.lt_of_lt_of_le hk (U.mono R0 ha0 i d (by omega)))
  exact h1.trans (U.seg R0 ha0 i d (by omega) (fun u h1 h2 => hu u h1 (by omega)) k hk)
theorem Run.same (U : Run P ops s bm n) {E0 : Env} {w0 : World} (R0 : Rel P E0 (s 0).N w0) (ha0 : (s 0).a.Clo E0.D) {i j : Nat} (h : i ≤ j) (hj : j ≤ n) (hu : ∀ u, i ≤ u → u < j → (s u).kd ≠ .w)
  {k : Nat} (hk : k < (s i).N.sz) : (s j).N.get k = (s i).N.get k := by
 have := U.seg R0 ha0 i (j - i) (by omega) (fun u h1 h2 => hu u h1 (by omega)) k hk
 rwa [show i + (j - i) = j by omega] at this
theorem Run.wfb (U : Run P ops s bm n) {E0 : Env} {w0 : World} (R0 : Rel P E0 (s 0).N w0) (ha0 : (s 0).a.Clo E0.D) {p : Nat} (hp : p ≤ n) {k : Nat} {b : CB} (hk : E0.D k ∨ (s 0).N.sz ≤ k) (hlt : k < (s p).N.sz)
  (hb : (s p).N.get k = some b) : CBClo (fun k => k < (s p).N.sz) b := by
 obtain ⟨E, w, R, ha, V⟩ := U.virt R0 ha0 p hp
 have hD : E.D k := (V.dom k).2 (hk.imp id fun h => ⟨h, hlt⟩)
 exact (R.blk k b hD hb).clo.mono R.dom
theorem Run.wfa (U : Run P ops s bm n) {E0 : Env} {w0 : World} (R0 : Rel P E0 (s 0).N w0) (ha0 : (s 0).a.Clo E0.D) {p : Nat} (hp : p ≤ n) {u : Value} (hu : u ∈ (s p).a.tmps) : Clo (fun k => k < (s p).N.sz) u := by
 obtain ⟨E, w, R, ha, V⟩ := U.virt R0 ha0 p hp
 exact Clo_mono R.dom u (ha.tmps u hu)
theorem Run.ok (U : Run P ops s bm n) {E0 : Env} {w0 : World} (R0 : Rel P E0 (s 0).N w0) (ha0 : (s 0).a.Clo E0.D) {p : Nat} (hp : p ≤ n) : (s p).N.Ok := by
 obtain ⟨E, w, R, ha, V⟩ := U.virt R0 ha0 p hp
 exact R.ok
structure Tm (ops : Array Oper) (s : Nat → DS) (n : Nat) (S : Nat → Prop) (c : List Value) : Prop where
 len : c.length = (s 0).a.tmps.length
 set : ∀ x i, S i → i < n → dstOf ops i = some x → (∀ i', S i' → i' < n → dstOf ops i' = some x → i' ≤ i) → x < c.length → c[x]? = some (s i).v
 old : ∀ x, (∀ i, S i → i < n → dstOf ops i ≠ some x) → c[x]? = (s 0).a.tmps[x]?
theorem Tm.agree {S S' : Nat → Prop} {c c' : List Value} (h : Tm ops s n S c) (h' : Tm ops s n S' c') {x : Nat} (hs : ∀ i, i < n → dstOf ops i = some x → (S i ↔ S' i)) : c[x]? = c'[x]? := by
 classical
 by_cases hx : x < c.length
 ·by_cases hex : ∃ i, S i ∧ i < n ∧ dstOf ops i = some x
  ·-- the last of them
   have hmax : ∃ i, (S i ∧ i < n ∧ dstOf ops i = some x) ∧ ∀ i', (S i' ∧ i' < n ∧ dstOf ops i' = some x) → i' ≤ i := by
    have key : ∀ d, (∃ i, i < d ∧ S i ∧ i < n ∧ dstOf ops i = some x) → ∃ i, (i < d ∧ S i ∧ i < n ∧ dstOf ops i = some x) ∧ ∀ i', (i' < d ∧ S i' ∧ i' < n ∧ dstOf ops i' = some x) → i' ≤ i := by
     intro d
     induction d with
     | zero => rintro ⟨i, h, _⟩; omega
     | succ d ih =>
      rintro ⟨i, hi, h1⟩
      by_cases hd : S d ∧ d < n ∧ dstOf ops d = some x
      ·exact ⟨d, ⟨by omega, hd⟩, fun i' h => by omega⟩
      ·have hne : i ≠ d := fun e => hd (e ▸ h1)
       obtain ⟨m, ⟨hm, hm1⟩, hm2⟩ := ih ⟨i, by omega, h1⟩
       refine ⟨m, ⟨by omega, hm1⟩, fun i' h => ?_⟩
       have hne' : i' ≠ d := fun e => hd (e ▸ h.2)
       exact hm2 i' ⟨by omega, h.2⟩
    obtain ⟨i, hi⟩ := hex
    obtain ⟨m, ⟨_, hm1⟩, hm2⟩ := key n ⟨i, hi.2.1, hi⟩
    exact ⟨m, hm1, fun i' h => hm2 i' ⟨h.2.1, h⟩⟩
   obtain ⟨i, ⟨h1, h2, h3⟩, h4⟩ := hmax
   rw [h.set x i h1 h2 h3 (fun i' a b c => h4 i' ⟨a, b, c⟩) hx]
   rw [h'.set x i ((hs i h2 h3).1 h1) h2 h3 (fun i' a b c => h4 i' ⟨(hs i' b c).2 a, b, c⟩) (by rw [h'.len, ← h.len]; exact hx)]
  ·rw [h.old x (fun i a b c => hex ⟨i, a, b, c⟩), h'.old x (fun i a b c => hex ⟨i, (hs i b c).2 a, b, c⟩)]
 ·rw [List.getElem?_eq_none (by omega), List.getElem?_eq_none (by rw [h'.len, ← h.len]; omega)]
theorem Tm.put {S : Nat → Prop} {c : List Value} (h : Tm ops s n S c) {j : Nat} (hj : j < n) {o : Oper} (ho : ops[j]? = some o) (hlast : ∀ i, S i → i < n → ∀ x, dstOf ops i = some x → dstOf ops j = some x → i ≤ j) (dm : List DM) :
  Tm ops s n (fun i => S i ∨ i = j) ((⟨c, dm⟩ : CA).put o.dst (s j).v).tmps := by
 have hd : dstOf ops j = o.dst := by simp [dstOf, ho]
 cases hdst : o.dst with
 | none =>
  refine ⟨h.len, fun x i hi hin hx hm hl => ?_, fun x hx => h.old x (fun i a b => hx i (.inl a) b)⟩
  rcases hi with hi | rfl
  ·exact h.set x i hi hin hx (fun i' a b d => hm i' (.inl a) b d) hl
  ·rw [hd, hdst] at hx; cases hx
 | some y =>
  have hdy : dstOf ops j = some y := by rw [hd, hdst]
  refine ⟨by simp [CA.put, h.len], fun x i hi hin hx hm hl => ?_, fun x hx => ?_⟩
  ·simp only [CA.put, List.length_set] at hl
   simp only [CA.put]
   by_cases hxy : y = x
   ·subst hxy
    have hij : i = j := by
     have h1 := hm j (.inr rfl) hj hdy
     rcases hi with hi | hi
     ·have := hlast i hi hin y hx hdy; omega
     ·exact hi
    subst hij
    rw [List.getElem?_set_self hl]
   ·rw [List.getElem?_set_ne hxy]
    rcases hi with hi | rfl
    ·exact h.set x i hi hin hx (fun i' a b d => hm i' (.inl a) b d) hl
    ·rw [hdy] at hx; cases hx; exact absurd rfl hxy
  ·have hxy : y ≠ x := fun e => hx j (.inr rfl) hj (by rw [hdy, e])
   simp only [CA.put]
   rw [List.getElem?_set_ne hxy]
   exact h.old x (fun i a b => hx i (.inl a) b)
theorem Run.tm (U : Run P ops s bm n) : ∀ j, j ≤ n → Tm ops s n (fun i => i < j) (s j).a.tmps
 | 0, _ => ⟨rfl, fun x i hi => absurd hi (Nat.not_lt_zero _), fun x _ => rfl⟩
 | j + 1, h => by
  obtain ⟨o, ho⟩ := U.op (show j < n by omega)
  have := (U.tm j (by omega)).put (by omega) ho (fun i hi _ x _ _ => Nat.le_of_lt hi) (s j).a.dm
  rw [U.put j o (by omega) ho]
  refine ⟨this.len, fun x i hi hin hx hm hl => this.set x i ?_ hin hx (fun i' a b d => hm i' ?_ b d) hl, fun x hx => this.old x (fun i a b => hx i ?_ b)⟩
  ·have : i < j + 1 := hi
   omega
  ·show i' < j + 1
   omega
  ·show i < j + 1
   omega
def Closed (ops : Array Oper) (S : Nat → Prop) : Prop := ∀ j o, S j → ops[j]? = some o → ∀ e ∈ o.after, Region.binds .any e = true → S e.on
theorem Run.down (U : Run P ops s bm n) {S : Nat → Prop} (hS : Closed ops S) {j : Nat} {o : Oper} (ho : ops[j]? = some o) (hr : ∀ e ∈ o.after, Region.binds .any e = true → S e.on) {i : Nat} (h : bm i j) : S i := by
 have key : ∀ j, j < ops.size → (∀ o, ops[j]? = some o → ∀ e ∈ o.after, Region.binds .any e = true → S e.on) → ∀ i, bm i j → S i := by
  intro j
  induction j using Nat.strongRecOn with
  | _ j ih =>
   intro hj hr i h
   obtain ⟨o, ho, e, he, hb, h1⟩ := U.bms i j hj h
   rcases h1 with rfl | h1
   ·exact hr o ho e he hb
   ·have hlt := U.edge j o ho e he hb
    exact ih e.on hlt (by omega) (fun o' ho' e' he' hb' => hS e.on o' (hr o ho e he hb) ho' e' he' hb') i h1
 exact key j (Array.getElem?_eq_some_iff.1 ho).1 (fun o' ho' => by rw [ho] at ho'; cases ho'; exact hr) i h
theorem Run.down' (U : Run P ops s bm n) {S : Nat → Prop} (hS : Closed ops S) {i j : Nat} (hj : j < n) (hs : S j) (h : bm i j) : S i := by
 obtain ⟨o, ho⟩ := U.op hj
 exact U.down hS ho (hS j o hs ho) h
structure Nxt (s : Nat → DS) (n : Nat) (S : Nat → Prop) (q : Nat) : Prop where
 le : q ≤ n
 kd : q < n → (s q).kd = .w
 lt : ∀ u, u < n → (s u).kd = .w → (S u ↔ u < q)
theorem first_w (s : Nat → DS) (n : Nat) : ∀ d i, i + d = n → ∃ q, i ≤ q ∧ q ≤ n ∧ (q < n → (s q).kd = .w) ∧ ∀ u, i ≤ u → u < q → (s u).kd ≠ .w
 | 0, i, h => ⟨i, Nat.le_refl _, by omega, fun h' => by omega, fun u h1 h2 => by omega⟩
 | d + 1, i, h => by
  by_cases hk : (s i).kd = .w
  ·exact ⟨i, Nat.le_refl _, by omega, fun _ => hk, fun u h1 h2 => by omega⟩
  ·obtain ⟨q, h1, h2, h3, h4⟩ := first_w s n d (i + 1) (by omega)
   refine ⟨q, by omega, h2, h3, fun u hu hq => ?_⟩
   by_cases he : u = i
   ·subst he; exact hk
   ·exact h4 u (by omega) hq
structure Inv (P : Program) (ops : Array Oper) (s : Nat → DS) (n : Nat) (E0 : Env) (w0 : World) (O0 W0 : Nat → Prop) (lo : Nat) (dm : List DM) (S : Nat → Prop) (q : Nat) (E : Env) (M : CH) (w : World) (c : List Value) (O W : Nat → Prop) : Prop where
 own : Own O W lo E M w
 oo : ∀ b, O0 b → O b
 ww : (∀ b, W0 b → W b) ∧ ∀ b, O b → O0 b ∨ w0.heap.size ≤ b
 rel : Rel P E M w
 wx : Wx O0 E0 (s 0).N w0 E M w
 dom : ∀ k, E.D k ↔ E0.D k ∨ ∃ i, S i ∧ i < n ∧ (s i).N.sz ≤ k ∧ k < (s (i + 1)).N.sz
 sz : M.sz = (s n).N.sz
 c1 : ∀ k, E.D k → k < (s q).N.sz → M.get k = (s q).N.get k
 c2 : ∀ k i, E.D k → (s q).N.sz ≤ k → i < n → (s i).N.sz ≤ k → k < (s (i + 1)).N.sz → M.get k = (s (i + 1)).N.get k
 clo : CA.Clo E.D ⟨c, dm⟩
 tm : Tm ops s n S c
 nxt : Nxt s n S q
end
end
end Go.Eng
namespace Go.Eng
noncomputable section
open Go.Conc (G)
set_option linter.unusedSimpArgs false
set_option linter.unusedVariables false
set_option linter.unusedSectionVars false
variable [Hk]
section
variable {P : Program} {ops : Array Oper} {s : Nat → DS} {bm : Nat → Nat → Prop} {n : Nat}
theorem looks_names {o : Oper} {j x : Nat} (ho : ops[j]? = some o) (h : x ∈ o.looksAt ops) : x ∈ names ops j := by simp [names, ho, h]
theorem dst_names {o : Oper} {j x : Nat} (ho : ops[j]? = some o) (h : dstOf ops j = some x) : x ∈ names ops j := by
 have : o.dst = some x := by simpa [dstOf, ho] using h
 simp [names, ho, this]
theorem mid (U : Run P ops s bm n) {E0 : Env} {w0 : World} (R0 : Rel P E0 (s 0).N w0) (ha0 : (s 0).a.Clo E0.D) {dm : List DM} {S : Nat → Prop} {q : Nat} {E : Env} {M : CH} {w : World} {c : List Value}
  {O0 W0 O W : Nat → Prop} {lo : Nat} (I : Inv P ops s n E0 w0 O0 W0 lo dm S q E M w c O W) (hS : Closed ops S) {j : Nat} {o : Oper} (hj : j < n) (ho : ops[j]? = some o) (hnS : ¬ S j) (hr : ∀ e ∈ o.after, Region.binds .any e = true → S e.on)
  {Nl Gh : CH} (vis : Bool) (hloc : Loc P ops j o (s j).a Nl (s j).v Gh) {lo' : Nat} (hlo' : lo' ≤ Gh.wm) (hlN : lo' ≤ Nl.sz) (hvl : vis = true → lo' = lo) (hvn : vis = false → lo' = 0) (hjN : (s j).N.sz ≤ Nl.sz) (hnl : Rel P { E with D := fun k => E.D k ∧ k < Nl.sz } Nl w)
  (hvis : vis = true → ∀ k, E.D k → k < Nl.sz → Nl.get k = M.get k) (hinv : vis = false → ∀ k, Nl.get k = none)
  (hdisj : ∀ k, E.D k → ¬ (Nl.sz ≤ k ∧ k < Gh.sz)) (hGsz : Nl.sz ≤ (s n).N.sz ∧ (Nl.sz ≤ Gh.sz → Gh.sz ≤ (s n).N.sz))
  (main : Bool) (J : World → Prop) [Ctx main J] (b : Frame) (rest : List Nat) (k : List Item) (cs : List Frame) (K : (Nat → Prop) → (Nat → Prop) → Goroutine → World → Prop)
  (hK : ∀ O' W' E' M' w', Rel P E' M' w' → Own O' W' lo E' M' w' → (∀ b, O b → O' b) → ((∀ b, W b → W' b) ∧ ∀ b, O' b → O b ∨ w.heap.size ≤ b) → Wx O E M w E' M' w' → (∀ k, E'.D k ↔ E.D k ∨ (Nl.sz ≤ k ∧ k < Gh.sz)) → M'.sz = (s n).N.sz → Nl.sz ≤ Gh.sz →
   (∀ k, Nl.sz ≤ k → k < Gh.sz → M'.get k = Gh.get k) → (vis = true → ∀ k, E.D k → k < Nl.sz → M'.get k = Gh.get k) → (∀ k, E.D k → ¬ (k < Nl.sz ∧ vis = true) → M'.get k = M.get k) →
   (∀ k, k < Nl.sz → k < Gh.wm → Gh.get k = Nl.get k) →
   CA.Clo E'.D ((⟨c, dm⟩ : CA).put o.dst (s j).v) → Will P main J K O' W' (G (fat b (E'.act ((⟨c, dm⟩ : CA).put o.dst (s j).v)) (.inRegion ops rest :: k)) cs) w') :
  Will P main J K O W (G (fat b (E.act ⟨c, dm⟩) (.inRegion ops (j :: rest) :: k)) cs) w := by
 classical
 -- the temporaries that it looks at are those of the text's order
 have hagree : ∀ x ∈ o.looksAt ops, c[x]? = (s j).a.tmps[x]? := by
  intro x hx
  refine I.tm.agree (U.tm j (by omega)) ?_
  intro i hi hd
  constructor
  ·intro hSi
   rcases Nat.lt_trichotomy i j with h | h | h
   ·exact h
   ·subst h; exact absurd hSi hnS
   ·have := U.tmps j i x h hi (.inr ⟨hd, looks_names ho hx⟩)
    exact absurd (U.down' hS hi hSi this) hnS
  ·intro hij
   exact U.down hS ho hr (U.tmps i j x hij hj (.inl ⟨hd, looks_names ho hx⟩))
 have hA : ∀ x ∈ o.looksAt ops, (E.act ⟨c, dm⟩).tmps[x]? = ((s j).a.tmps[x]?).map (Env.m { E with D := fun k => E.D k ∧ k < Nl.sz }) ∧ ∀ u, (s j).a.tmps[x]? = some u → Clo (fun k => E.D k ∧ k < Nl.sz) u := by
  intro x hx
  have h1 := hagree x hx
  refine ⟨?_, ?_⟩
  ·rw [← h1]
   simp only [Env.act, List.getElem?_toArray, List.getElem?_map]
   rfl
  ·intro u hu
   refine Clo_and u ?_ ?_
   ·exact I.clo.tmps u (List.mem_of_getElem? (by rw [h1]; exact hu))
   ·exact Clo_mono (fun k hk => Nat.lt_of_lt_of_le hk hjN) u (U.wfa R0 ha0 (Nat.le_of_lt hj) (List.mem_of_getElem? hu))
 have hown : Own O W lo' { E with D := fun k => E.D k ∧ k < Nl.sz } Nl w := by
  cases hv : vis with
  | true =>
   have hlive : ∀ k, (E.D k ∧ k < Nl.sz) → Nl.live k → M.live k := fun k hk ⟨b, hb, hd⟩ => ⟨b, by rw [← hvis hv k hk.1 hk.2]; exact hb, hd⟩
   obtain rfl := hvl hv
   exact ⟨fun k hk hl => I.own.img k hk.1 (hlive k hk hl), fun k hk hl h => I.own.wri k hk.1 (hlive k hk hl) h, I.own.lt, hlN⟩
  | false =>
   have hno : ∀ k, ¬ Nl.live k := fun k ⟨b, hb, _⟩ => by rw [hinv hv k] at hb; cases hb
   exact ⟨fun k _ hl => absurd hl (hno k), fun k _ hl => absurd hl (hno k), I.own.lt, hlN⟩
 refine hloc main J lo' _ w O W (E.act ⟨c, dm⟩) hlo' hnl hown hA b rest k cs K fun O' W' E'' w'' L hv => ?_
 have R'' := L.rel
 have X := L.ext
 have hGn := hGsz.2 X.size
 have hMok := I.rel.ok
 let g : Nat → Option CB := fun k => if Nl.sz ≤ k ∧ k < Gh.sz then Gh.get k else if k < Nl.sz ∧ vis = true then Gh.get k else M.get k
 have hg : ∀ k, k < (s n).N.sz → (CH.ofFn (s n).N.sz g).get k = g k := fun k hk => CH.get_ofFn g hk
 have hEn : ∀ k, E.D k → k < (s n).N.sz := fun k hk => by rw [← I.sz]; exact I.rel.dom k hk
 have hn1 : ∀ k, Nl.sz ≤ k → k < Gh.sz → (CH.ofFn (s n).N.sz g).get k = Gh.get k := fun k h1 h2 => by
  rw [hg k (by omega)]
  simp only [g, h1, h2, and_self, if_true]
 have hn2 : vis = true → ∀ k, E.D k → k < Nl.sz → (CH.ofFn (s n).N.sz g).get k = Gh.get k := fun hvt k h1 h2 => by
  rw [hg k (hEn k h1)]
  have : ¬ (Nl.sz ≤ k ∧ k < Gh.sz) := by omega
  simp only [g, this, if_false, h2, hvt, and_self, if_true]
 have hn3 : ∀ k, E.D k → ¬ (k < Nl.sz ∧ vis = true) → (CH.ofFn (s n).N.sz g).get k = M.get k := fun k h1 h2 => by
  rw [hg k (hEn k h1)]
  have := hdisj k h1
  simp only [g, this, if_false, h2]
 obtain ⟨E', R', X', hD, hclo, hkind⟩ := recombine (N := Nl) (D' := fun k => E.D k ∧ k < Nl.sz) (Vis := fun _ => vis = true) (M' := CH.ofFn (s n).N.sz g) I.rel I.own.img (fun _ h => h.1)
  (fun k h1 h2 => hvis h2 k h1.1 h1.2) (fun k _ h2 => hinv (by simpa using h2) k) R'' X hdisj (CH.ok_ofFn g)
  (by
   rintro k (hk | hk)
   ·exact hEn k hk
   ·show k < (s n).N.sz
    omega) hn1 (fun k h1 h2 => hn2 h2 k h1.1 h1.2) (fun k h1 h2 => hn3 k h1 (fun hh => h2 ⟨⟨h1, hh.1⟩, hh.2⟩))
 have hactE : E'.act ⟨c, dm⟩ = E.act ⟨c, dm⟩ ∧ CA.Clo E'.D ⟨c, dm⟩ := by
  refine ⟨?_, ⟨fun v hv => Clo_mono (fun k hk => (X'.mono k hk).1) v (I.clo.tmps v hv), fun d hd => (I.clo.dm d hd).mono fun k hk => (X'.mono k hk).1⟩⟩
  have h1 : c.map E'.m = c.map E.m := List.map_congr_left fun v hv => mv_ext X'.op (fun k hk => (X'.mono k hk).2) v (I.clo.tmps v hv)
  have h2 : dm.map E'.dm = dm.map E.dm := List.map_congr_left fun d hd => dm_ext X'.op (fun k hk => (X'.mono k hk).2) (I.clo.dm d hd)
  unfold Env.act
  simp only [h1, h2]
 have hle : lo' ≤ lo := by
  cases hv : vis with
  | true => rw [hvl hv]; exact Nat.le_refl _
  | false => rw [hvn hv]; exact Nat.zero_le _
 have hown' : Own O' W' lo E' (CH.ofFn (s n).N.sz g) w'' := by
  refine ⟨fun k hk hl => ?_, fun k hk hl h => ?_, L.own.lt, by have := I.own.low; rw [I.sz] at this; exact this⟩
  ·obtain ⟨b, hb, hd⟩ := hl
   rcases hkind k hk with ⟨a1, a2, a3⟩ | ⟨a1, a2, a3⟩
   ·rw [a3]; exact L.own.img k a1 ⟨b, by rw [← a2]; exact hb, hd⟩
   ·rw [a3]; exact L.oo _ (I.own.img k a1 ⟨b, by rw [← a2]; exact hb, hd⟩)
  ·obtain ⟨b, hb, hd⟩ := hl
   rcases hkind k hk with ⟨a1, a2, a3⟩ | ⟨a1, a2, a3⟩
   ·rw [a3]; exact L.own.wri k a1 ⟨b, by rw [← a2]; exact hb, hd⟩ (by omega)
   ·rw [a3]; exact L.ww _ (I.own.wri k a1 ⟨b, by rw [← a2]; exact hb, hd⟩ h)
 have := hK O' W' E' (CH.ofFn (s n).N.sz g) w'' R' hown' L.oo ⟨L.ww, L.ou⟩ X' hD rfl X.size hn1 hn2 hn3 X.keep (hactE.2.put _ (hclo _ hv).1)
 rw [← act_put, hactE.1, (hclo _ hv).2] at this
 exact this
theorem nxt_keep {S : Nat → Prop} {q j : Nat} (h : Nxt s n S q) (hk : (s j).kd ≠ .w) : Nxt s n (fun i => S i ∨ i = j) q :=
 ⟨h.le, h.kd, fun u hu hw => ⟨fun hh => hh.elim (fun hh => (h.lt u hu hw).1 hh) (fun e => absurd (e ▸ hw) hk), fun hq => .inl ((h.lt u hu hw).2 hq)⟩⟩
theorem istep (U : Run P ops s bm n) {E0 : Env} {w0 : World} (R0 : Rel P E0 (s 0).N w0) (ha0 : (s 0).a.Clo E0.D) {dm : List DM} {S : Nat → Prop} {q : Nat} {E : Env} {M : CH} {w : World} {c : List Value}
  {O0 W0 O W : Nat → Prop} {lo : Nat} (I : Inv P ops s n E0 w0 O0 W0 lo dm S q E M w c O W) (hS : Closed ops S) {j : Nat} {o : Oper} (hj : j < n) (ho : ops[j]? = some o) (hnS : ¬ S j) (hr : ∀ e ∈ o.after, Region.binds .any e = true → S e.on)
  (hlo : lo ≤ (s n).N.wm) (hlo0 : lo ≤ (s 0).N.sz) (main : Bool) (J : World → Prop) [Ctx main J] (b : Frame) (rest : List Nat) (k : List Item) (cs : List Frame) (K : (Nat → Prop) → (Nat → Prop) → Goroutine → World → Prop)
  (hK : ∀ q' E' M' w' O' W', Inv P ops s n E0 w0 O0 W0 lo dm (fun i => S i ∨ i = j) q' E' M' w' ((⟨c, dm⟩ : CA).put o.dst (s j).v).tmps O' W' →
   Will P main J K O' W' (G (fat b (E'.act ((⟨c, dm⟩ : CA).put o.dst (s j).v)) (.inRegion ops rest :: k)) cs) w') :
  Will P main J K O W (G (fat b (E.act ⟨c, dm⟩) (.inRegion ops (j :: rest) :: k)) cs) w := by
 have hqn := I.nxt.le
 have hput : ∀ a : CA, (a.put o.dst (s j).v).dm = a.dm := by intro a; cases o.dst <;> rfl
 have hputc : (⟨((⟨c, dm⟩ : CA).put o.dst (s j).v).tmps, dm⟩ : CA) = (⟨c, dm⟩ : CA).put o.dst (s j).v := by cases o.dst <;> rfl
 have hjn := U.next R0 ha0 j hj
 have hle : ∀ {i j : Nat}, i ≤ j → j ≤ n → (s i).N.sz ≤ (s j).N.sz := fun h1 h2 => U.le R0 ha0 h1 h2
 -- what is realized lies where it was laid
 have hDlt : ∀ k, E.D k → E0.D k ∨ (s 0).N.sz ≤ k := by
  intro k hk
  rcases (I.dom k).1 hk with h | ⟨i, _, hi, h, _⟩
  ·exact .inl h
  ·exact .inr (Nat.le_trans (hle (Nat.zero_le i) (by omega)) h)
 have hdisj : ∀ k, E.D k → ¬ ((s j).N.sz ≤ k ∧ k < (s (j + 1)).N.sz) := by
  intro k hk hh
  rcases (I.dom k).1 hk with h | ⟨i, hSi, hi, h1, h2⟩
  ·have h3 := R0.dom k h
   have := hle (Nat.zero_le j) (by omega)
   omega
  ·rcases Nat.lt_trichotomy i j with h | h | h
   ·have := hle (show i + 1 ≤ j by omega) (by omega)
    omega
   ·subst h; exact hnS hSi
   ·have := hle (show j + 1 ≤ i by omega) (by omega)
    omega
 have hdom : ∀ {E' : Env}, (∀ k, E'.D k ↔ E.D k ∨ ((s j).N.sz ≤ k ∧ k < (s (j + 1)).N.sz)) → ∀ k, E'.D k ↔ E0.D k ∨ ∃ i, (S i ∨ i = j) ∧ i < n ∧ (s i).N.sz ≤ k ∧ k < (s (i + 1)).N.sz := by
  intro E' h k
  rw [h k, I.dom k]
  constructor
  ·rintro ((h1 | ⟨i, h1, h2⟩) | h1)
   ·exact .inl h1
   ·exact .inr ⟨i, .inl h1, h2⟩
   ·exact .inr ⟨j, .inr rfl, hj, h1⟩
  ·rintro (h1 | ⟨i, h1 | rfl, h2⟩)
   ·exact .inl (.inl h1)
   ·exact .inl (.inr ⟨i, h1, h2⟩)
   ·exact .inr h2.2
 have htm : Tm ops s n (fun i => S i ∨ i = j) ((⟨c, dm⟩ : CA).put o.dst (s j).v).tmps := by
  refine I.tm.put hj ho ?_ dm
  intro i hSi hi x h1 h2
  rcases Nat.lt_or_ge j i with h | h
  ·have := U.tmps j i x h hi (.inr ⟨h1, dst_names ho h2⟩)
   exact absurd (U.down' hS hi hSi this) hnS
  ·exact h
 -- memory, seen at an index of the text's order
 have hseen : ∀ p, p ≤ n → (∀ k, E.D k → k < (s p).N.sz → (s p).N.get k = M.get k) → Rel P { E with D := fun k => E.D k ∧ k < (s p).N.sz } (s p).N w := by
  intro p hp hget
  refine I.rel.less (fun _ h => h.1) (fun g hg => ⟨(I.rel.gl g hg).1, Nat.lt_of_lt_of_le (R0.dom g (R0.gl g hg).1) (U.le R0 ha0 (Nat.zero_le p) hp)⟩) (U.ok R0 ha0 hp) (fun _ h => h.2) (fun k h => hget k h.1 h.2) ?_
  intro k b hk hb
  have hEc : CBClo E.D b := (I.rel.blk k b hk.1 (by rw [← hget k hk.1 hk.2]; exact hb)).clo
  exact hEc.and (U.wfb R0 ha0 hp (hDlt k hk.1) hk.2 hb)
 cases hkd : (s j).kd with
 | w =>
  obtain ⟨G, hfact, hG⟩ : ∃ G, Loc P ops j o (s j).a (s j).N.guarded (s j).v G ∧ (s (j + 1)).N = (s j).N.back G := by
   have := U.step j o (by omega) ho
   rw [hkd] at this
   exact this
  have hGsz : G.sz = (s (j + 1)).N.sz := by rw [hG]; rfl
  have hGget : ∀ k, G.get k = (s (j + 1)).N.get k := fun k => by rw [hG]; rfl
  have hgs : (s j).N.guarded.sz = (s j).N.sz := rfl
  -- it is the next of kind w
  have hjq : j = q := by
   rcases Nat.lt_trichotomy j q with h | h | h
   ·exact absurd ((I.nxt.lt j hj hkd).2 h) hnS
   ·exact h
   ·have hqw := I.nxt.kd (by omega)
    rcases U.cw q j h hj hqw with h1 | h1
    ·rw [hkd] at h1; cases h1
    ·have := (I.nxt.lt q (by omega) hqw).1 (U.down hS ho hr h1)
     omega
  subst hjq
  have hget : ∀ k, E.D k → k < (s j).N.sz → (s j).N.get k = M.get k := fun k h1 h2 => (I.c1 k h1 h2).symm
  have hGw : lo ≤ G.wm := by
   have h1 := U.wle R0 ha0 (show j + 1 ≤ n by omega)
   rw [hG] at h1
   simp only [CH.back] at h1
   split at h1 <;> omega
  refine mid U R0 ha0 I hS hj ho hnS hr true hfact (lo' := lo) hGw (by rw [hgs]; exact Nat.le_trans hlo0 (hle (Nat.zero_le j) (by omega))) (fun _ => rfl) (fun h => by cases h) (Nat.le_refl _) (hseen j (by omega) hget).guard (fun _ => hget) (fun h => by cases h) (by rw [hGsz]; exact hdisj)
   ⟨by rw [hgs]; exact hle (by omega) (Nat.le_refl _), fun _ => by rw [hGsz]; exact hle (by omega) (Nat.le_refl _)⟩ main J b rest k cs K fun O' W' E' M' w' R' ow' hoo hww X' hD hsz _ h1 h2 h3 _ hcl => ?_
  rw [hgs] at hD h1 h2 h3
  rw [hGsz] at hD h1
  obtain ⟨q', hq1, hq2, hq3, hq4⟩ := first_w s n (n - (j + 1)) (j + 1) (by omega)
  have hseg : ∀ i k, j < i → i ≤ q' → k < (s i).N.sz → (s q').N.get k = (s i).N.get k := fun i k h1 h2 h3 => U.same R0 ha0 h2 hq2 (fun u hu1 hu2 => hq4 u (by omega) hu2) h3
  refine hK q' E' M' w' O' W' ⟨ow', fun b hb => hoo b (I.oo b hb), ⟨fun b hb => hww.1 b (I.ww.1 b hb), fun b hb => (hww.2 b hb).elim (I.ww.2 b) fun hs => .inr (Nat.le_trans I.wx.hsize hs)⟩, R', I.wx.trans X' I.oo, hdom hD, hsz, ?_, ?_, by rw [hputc]; exact hcl, htm, ?_⟩
  ·intro k hk hlt
   rcases (hD k).1 hk with hE | hE
   ·by_cases hkj : k < (s j).N.sz
    ·rw [h2 rfl k hE hkj, hGget, hseg (j + 1) k (by omega) hq1 (by omega)]
    ·rw [h3 k hE (fun hh => hkj hh.1)]
     rcases (I.dom k).1 hE with h | ⟨i, hSi, hi, hi1, hi2⟩
     ·have := R0.dom k h
      have := hle (Nat.zero_le j) (by omega)
      omega
     ·rw [I.c2 k i hE (by omega) hi hi1 hi2]
      have hij : j < i := by
       rcases Nat.lt_trichotomy j i with h | h | h
       ·exact h
       ·subst h; exact absurd hSi hnS
       ·have := hle (show i + 1 ≤ j by omega) (by omega)
        omega
      have hiq : i + 1 ≤ q' := by
       rcases Nat.lt_or_ge i q' with h | h
       ·exact h
       ·have := hle h (by omega)
        omega
      exact (hseg (i + 1) k (by omega) hiq hi2).symm
   ·rw [h1 k hE.1 hE.2, hGget, hseg (j + 1) k (by omega) hq1 hE.2]
  ·intro k i hk hge hi hi1 hi2
   have hkj : ¬ k < (s j).N.sz := by
    have := hle (show j ≤ q' by omega) hq2
    omega
   rcases (hD k).1 hk with hE | hE
   ·rw [h3 k hE (fun hh => hkj hh.1)]
    exact I.c2 k i hE (by omega) hi hi1 hi2
   ·have := hle hq1 hq2
    omega
  ·refine ⟨hq2, hq3, fun u hu hw => ⟨?_, ?_⟩⟩
   ·rintro (h | rfl)
    ·have := (I.nxt.lt u hu hw).1 h
     omega
    ·omega
   ·intro huq
    rcases Nat.lt_trichotomy u j with h | h | h
    ·exact .inl ((I.nxt.lt u hu hw).2 h)
    ·exact .inr h
    ·exact absurd hw (hq4 u (by omega) huq)
 | q =>
  obtain ⟨G, hfact, hGl, hG⟩ : ∃ G, Loc P ops j o (s j).a (s j).N.guarded (s j).v G ∧ (s j).N.sz ≤ G.wm ∧ (s (j + 1)).N = ⟨G.sz, (s j).N.wm, G.base, G.t⟩ := by
   have := U.step j o (by omega) ho
   rw [hkd] at this
   obtain ⟨G, h1, h2, h3⟩ := this
   exact ⟨G, h1, h2, h3⟩
  have hnw : (s j).kd ≠ .w := by rw [hkd]; intro h; cases h
  have hGsz : G.sz = (s (j + 1)).N.sz := by rw [hG]
  have hGget : ∀ k, G.get k = (s (j + 1)).N.get k := fun k => by rw [hG]; rfl
  -- all of kind w ahead of it are done
  have hjq : j < q := by
   rcases Nat.lt_trichotomy j q with h | h | h
   ·exact h
   ·subst h
    exact absurd (I.nxt.kd hj) hnw
   ·have hqw := I.nxt.kd (by omega)
    rcases U.cw q j h hj hqw with h1 | h1
    ·rw [hkd] at h1; cases h1
    ·have := (I.nxt.lt q (by omega) hqw).1 (U.down hS ho hr h1)
     omega
  by_cases hseg0 : ∃ u, j < u ∧ u < q ∧ (s u).kd = .w
  ·-- it reads later than the text has it
   have hlate := (U.cl j q o hjq hqn ho hkd ((Nat.lt_or_ge q n).elim (fun h => .inr (I.nxt.kd h)) (fun h => .inl (by omega))) hseg0).resolve_left (by
    rintro ⟨u, hu1, hu2, hu3, hu4⟩
    exact hnS (U.down' hS (show u < n by omega) ((I.nxt.lt u (by omega) hu3).2 hu2) hu4))
   obtain ⟨hno, G', hloc, hGs, hGw⟩ := hlate
   have hgs : (s q).N.guarded.sz = (s q).N.sz := rfl
   have hget : ∀ k, E.D k → k < (s q).N.sz → (s q).N.get k = M.get k := fun k h1 h2 => (I.c1 k h1 h2).symm
   have hlq : lo ≤ (s q).N.sz := Nat.le_trans hlo0 (hle (Nat.zero_le q) hqn)
   refine mid U R0 ha0 I hS hj ho hnS hr true hloc (lo' := lo) (Nat.le_trans hlq hGw) (by rw [hgs]; exact hlq) (fun _ => rfl) (fun h => by cases h) (by rw [hgs]; exact hle (by omega) hqn) (hseen q hqn hget).guard (fun _ => hget) (fun h => by cases h)
    (fun k _ hh => by rw [hgs] at hh; omega) ⟨by rw [hgs]; exact hle hqn (Nat.le_refl _), fun _ => by rw [hGs]; exact hle hqn (Nat.le_refl _)⟩ main J b rest k cs K fun O' W' E' M' w' R' ow' hoo hww X' hD hsz _ h1 h2 h3 hkeep hcl => ?_
   have hD' : ∀ k, E'.D k ↔ E.D k ∨ ((s j).N.sz ≤ k ∧ k < (s (j + 1)).N.sz) := by
    intro k
    rw [hD k, hgs]
    constructor
    ·rintro (h | h)
     ·exact .inl h
     ·omega
    ·rintro (h | h)
     ·exact .inl h
     ·omega
   have hDE : ∀ k, E'.D k → E.D k := fun k hk => ((hD k).1 hk).resolve_right (by rw [hgs]; omega)
   refine hK q E' M' w' O' W' ⟨ow', fun b hb => hoo b (I.oo b hb), ⟨fun b hb => hww.1 b (I.ww.1 b hb), fun b hb => (hww.2 b hb).elim (I.ww.2 b) fun hs => .inr (Nat.le_trans I.wx.hsize hs)⟩, R', I.wx.trans X' I.oo, hdom hD', hsz, ?_, ?_, by rw [hputc]; exact hcl, htm, nxt_keep I.nxt hnw⟩
   ·intro k hk hlt
    rw [h2 rfl k (hDE k hk) hlt]
    exact hkeep k hlt (Nat.lt_of_lt_of_le hlt hGw)
   ·intro k i hk hge hi hi1 hi2
    rw [h3 k (hDE k hk) (fun hh => by rw [hgs] at hh; omega)]
    exact I.c2 k i (hDE k hk) hge hi hi1 hi2
  ·have hnow : ∀ u, j ≤ u → u < q → (s u).kd ≠ .w := by
    intro u h1 h2 hw
    by_cases he : u = j
    ·subst he; exact hnw hw
    ·exact hseg0 ⟨u, by omega, h2, hw⟩
   have hgs : (s j).N.guarded.sz = (s j).N.sz := rfl
   have hsame : ∀ i k, j ≤ i → i ≤ q → k < (s i).N.sz → (s q).N.get k = (s i).N.get k := fun i k h1 h2 h3 => U.same R0 ha0 h2 hqn (fun u hu1 hu2 => hnow u (by omega) hu2) h3
   have hget : ∀ k, E.D k → k < (s j).N.sz → (s j).N.get k = M.get k := fun k h1 h2 => by
    rw [I.c1 k h1 (Nat.lt_of_lt_of_le h2 (hle (by omega) hqn)), hsame j k (Nat.le_refl _) (by omega) h2]
   have hlj : lo ≤ (s j).N.sz := Nat.le_trans hlo0 (hle (Nat.zero_le j) (by omega))
   refine mid U R0 ha0 I hS hj ho hnS hr true hfact (lo' := lo) (Nat.le_trans hlj hGl) (by rw [hgs]; exact hlj) (fun _ => rfl) (fun h => by cases h) (Nat.le_refl _) (hseen j (by omega) hget).guard (fun _ => hget) (fun h => by cases h)
    (by rw [hGsz]; exact hdisj) ⟨by rw [hgs]; exact hle (by omega) (Nat.le_refl _), fun _ => by rw [hGsz]; exact hle (by omega) (Nat.le_refl _)⟩ main J b rest k cs K fun O' W' E' M' w' R' ow' hoo hww X' hD hsz _ h1 h2 h3 _ hcl => ?_
   rw [hgs] at hD h1 h2 h3
   rw [hGsz] at hD h1
   refine hK q E' M' w' O' W' ⟨ow', fun b hb => hoo b (I.oo b hb), ⟨fun b hb => hww.1 b (I.ww.1 b hb), fun b hb => (hww.2 b hb).elim (I.ww.2 b) fun hs => .inr (Nat.le_trans I.wx.hsize hs)⟩, R', I.wx.trans X' I.oo, hdom hD, hsz, ?_, ?_, by rw [hputc]; exact hcl, htm, nxt_keep I.nxt hnw⟩
   ·intro k hk hlt
    rcases (hD k).1 hk with hE | hE
    ·by_cases hkj : k < (s j).N.sz
     ·rw [h2 rfl k hE hkj, hGget, hsame (j + 1) k (by omega) (by omega) (by omega)]
     ·rw [h3 k hE (fun hh => hkj hh.1), I.c1 k hE hlt]
    ·rw [h1 k hE.1 hE.2, hGget, hsame (j + 1) k (by omega) (by omega) hE.2]
   ·intro k i hk hge hi hi1 hi2
    have hjq' := hle (show j + 1 ≤ q by omega) hqn
    rcases (hD k).1 hk with hE | hE
    ·rw [h3 k hE (fun hh => by omega)]
     exact I.c2 k i hE hge hi hi1 hi2
    ·omega
 | b =>
  obtain ⟨B, hfact, hrest⟩ : ∃ B, Loc P ops j o (s j).a (CH.blind (s j).N.sz) (s j).v B ∧ ((s j).N.Ok → (s j).N.sz ≤ B.sz → (s (j + 1)).N.sz = B.sz ∧ (s (j + 1)).N.wm = (s j).N.wm ∧ (s (j + 1)).N.Ok ∧
    (∀ k, k < (s j).N.sz → (s (j + 1)).N.get k = (s j).N.get k) ∧ (∀ k, (s j).N.sz ≤ k → k < (s (j + 1)).N.sz → (s (j + 1)).N.get k = B.get k)) := by
   have := U.step j o (by omega) ho
   rw [hkd] at this
   exact this
  have hnw : (s j).kd ≠ .w := by rw [hkd]; intro h; cases h
  have hjok := U.ok R0 ha0 (Nat.le_of_lt hj)
  have hgs : (CH.blind (s j).N.sz).sz = (s j).N.sz := rfl
  -- how much the outcome lays
  have hBsz : (s j).N.sz ≤ B.sz := by
   obtain ⟨Ev, wv, Rv, hav, _⟩ := U.virt R0 ha0 j (by omega)
   obtain ⟨_, _, _, X, _⟩ := hfact.facts (w := wv) (Rel.blind Rv.gl Rv.dom) (act_look hav)
   exact X.size
  obtain ⟨e1, e2, e3, e4, e5⟩ := hrest hjok hBsz
  have hb0 : Rel P { E with D := fun k => E.D k ∧ k < (CH.blind (s j).N.sz).sz } (CH.blind (s j).N.sz) w := Rel.blind (fun g hg => ⟨⟨(I.rel.gl g hg).1, Nat.lt_of_lt_of_le (R0.dom g (R0.gl g hg).1) (U.le R0 ha0 (Nat.zero_le j) (Nat.le_of_lt hj))⟩, (I.rel.gl g hg).2⟩) (fun k hk => hk.2)
  refine mid U R0 ha0 I hS hj ho hnS hr false hfact (lo' := 0) (Nat.zero_le _) (Nat.zero_le _) (fun h => by cases h) (fun _ => rfl) (Nat.le_refl _) hb0 (fun h => by cases h) (fun _ k => CH.get_blind _ k)
   (by rw [hgs, ← e1]; exact hdisj) ⟨by rw [hgs]; exact hle (by omega) (Nat.le_refl _), fun _ => by rw [← e1]; exact hle (by omega) (Nat.le_refl _)⟩ main J b rest k cs K fun O' W' E' M' w' R' ow' hoo hww X' hD hsz _ h1 h2 h3 _ hcl => ?_
  rw [hgs] at hD h1
  rw [← e1] at hD h1
  have h3' : ∀ k, E.D k → M'.get k = M.get k := fun k hk => h3 k hk (fun hh => by cases hh.2)
  refine hK q E' M' w' O' W' ⟨ow', fun b hb => hoo b (I.oo b hb), ⟨fun b hb => hww.1 b (I.ww.1 b hb), fun b hb => (hww.2 b hb).elim (I.ww.2 b) fun hs => .inr (Nat.le_trans I.wx.hsize hs)⟩, R', I.wx.trans X' I.oo, hdom hD, hsz, ?_, ?_, by rw [hputc]; exact hcl, htm, nxt_keep I.nxt hnw⟩
  ·intro k hk hlt
   rcases (hD k).1 hk with hE | hE
   ·rw [h3' k hE, I.c1 k hE hlt]
   ·-- nothing of kind w lies between
    have hjq : j < q := by
     rcases Nat.lt_or_ge j q with h | h
     ·exact h
     ·have := hle h (Nat.le_of_lt hj)
      omega
    have hnow : ∀ u, j + 1 ≤ u → u < q → (s u).kd ≠ .w := by
     intro u hu1 hu2 hw
     rcases U.cb j u (by omega) (by omega) hw hkd with h | h
     ·omega
     ·exact hnS (U.down' hS (show u < n by omega) ((I.nxt.lt u (by omega) hw).2 hu2) h)
    rw [h1 k hE.1 hE.2, ← e5 k hE.1 hE.2]
    exact (U.same R0 ha0 (show j + 1 ≤ q by omega) hqn hnow hE.2).symm
  ·intro k i hk hge hi hi1 hi2
   rcases (hD k).1 hk with hE | hE
   ·rw [h3' k hE]
    exact I.c2 k i hE hge hi hi1 hi2
   ·have hij : i = j := by
     rcases Nat.lt_trichotomy i j with h | h | h
     ·have := hle (show i + 1 ≤ j by omega) (by omega)
      omega
     ·exact h
     ·have := hle (show j + 1 ≤ i by omega) (by omega)
      omega
    subst hij
    rw [h1 k hE.1 hE.2, ← e5 k hE.1 hE.2]
end
end
end Go.Eng
namespace Go.Eng
noncomputable section
open Go.Conc (G)
set_option linter.unusedSimpArgs false
set_option linter.unusedVariables false
set_option linter.unusedSectionVars false
variable [Hk]
section
variable {P : Program} {ops : Array Oper} {s : Nat → DS} {bm : Nat → Nat → Prop} {n : Nat}
theorem go_none {listed : Array Bool} (hall : ∀ i, i < ops.size → listed.getD i false = true) (fuel t : Nat) : Region.linearise.go .any ops fuel t listed [] = [] := by
 have hnil : Region.ready .any ops listed = [] := by
  rw [List.eq_nil_iff_forall_not_mem]
  intro i hi
  obtain ⟨h0, o, ho, _⟩ := mem_ready.1 hi
  have := hall i (Array.getElem?_eq_some_iff.1 ho).1
  rcases Nat.lt_or_ge i listed.size with h | h
  ·simp [h] at h0 this
   simp [h0] at this
  ·simp [Array.getElem?_eq_none h] at h0
 cases fuel with
 | zero => rfl
 | succ fuel =>
  simp only [Region.linearise.go]
  change (match (Region.ready .any ops listed)[t % (Region.ready .any ops listed).length]? with
   | some i => Region.linearise.go .any ops fuel (t / (Region.ready .any ops listed).length) (listed.setIfInBounds i true) [i]
   | none => [].reverse) = []
  rw [hnil]
  rfl
theorem go_last (hn : n ≤ ops.size) (hs : ops.size ≤ n + 1) {listed : Array Bool} (hsz : listed.size = ops.size) (hall : ∀ i, i < n → listed.getD i false = true) (hno : ∀ j, n ≤ j → listed.getD j false = false)
  (hedge : ∀ o, ops[n]? = some o → ∀ e ∈ o.after, Region.binds .any e = true → e.on < n) {fuel : Nat} (hf : ops.size - n ≤ fuel) (t : Nat) : Region.linearise.go .any ops fuel t listed [] = List.range' n (ops.size - n) := by
 rcases Nat.lt_or_ge n ops.size with h | h
 rotate_left
 ·have e : ops.size = n := by omega
  rw [go_none (fun i hi => hall i (by omega)) fuel t, e]
  simp
 have e : ops.size = n + 1 := by omega
 obtain ⟨f, rfl⟩ : ∃ f, fuel = f + 1 := ⟨fuel - 1, by omega⟩
 have hmem : ∀ i, i ∈ Region.ready .any ops listed ↔ i = n := by
  intro i
  rw [mem_ready]
  constructor
  ·rintro ⟨h0, o, ho, _⟩
   have hi := (Array.getElem?_eq_some_iff.1 ho).1
   rcases Nat.lt_or_ge i n with h1 | h1
   ·exfalso
    have := hall i h1
    have hl : i < listed.size := by omega
    simp [hl] at h0 this
    simp [h0] at this
   ·omega
  ·rintro rfl
   have hl : i < listed.size := by omega
   refine ⟨?_, ops[i], Array.getElem?_eq_getElem h, fun e he hb => hall _ (hedge _ (Array.getElem?_eq_getElem h) e he hb)⟩
   have := hno i (Nat.le_refl _)
   simp [hl] at this ⊢
   exact this
 simp only [Region.linearise.go]
 change (match (Region.ready .any ops listed)[t % (Region.ready .any ops listed).length]? with
  | some i => Region.linearise.go .any ops f (t / (Region.ready .any ops listed).length) (listed.setIfInBounds i true) [i]
  | none => [].reverse) = _
 have hpos : 0 < (Region.ready .any ops listed).length := List.length_pos_of_mem ((hmem n).2 rfl)
 have hlt := Nat.mod_lt t hpos
 have hget : (Region.ready .any ops listed)[t % (Region.ready .any ops listed).length]? = some n := by
  rw [List.getElem?_eq_getElem hlt]
  exact congrArg some ((hmem _).1 (List.getElem_mem hlt))
 rw [hget]
 simp only []
 rw [linearise_go_acc, go_none]
 ·rw [e]
  simp [List.range']
 ·intro i hi
  by_cases hin : i = n
  ·subst hin
   have hl : i < listed.size := by omega
   simp [hl]
  ·rw [getD_set_ne false (Ne.symm hin)]
   exact hall i (by omega)
theorem order_ok (U : Run P ops s bm n) (hs : ops.size ≤ n + 1) (hlast : n < ops.size → ∀ i, i < n → bm i n) {E0 : Env} {w0 : World} (R0 : Rel P E0 (s 0).N w0) (ha0 : (s 0).a.Clo E0.D) {O0 W0 : Nat → Prop} {lo : Nat} (hlo : lo ≤ (s n).N.wm) (hlo0 : lo ≤ (s 0).N.sz) {dm : List DM} (main : Bool) (J : World → Prop) [Ctx main J] (b : Frame) (k : List Item) (cs : List Frame)
  (K : (Nat → Prop) → (Nat → Prop) → Goroutine → World → Prop)
  (hK : ∀ E' M' w' O' W', (∃ q', Inv P ops s n E0 w0 O0 W0 lo dm (fun i => i < n) q' E' M' w' (s n).a.tmps O' W') → Will P main J K O' W' (G (fat b (E'.act ⟨(s n).a.tmps, dm⟩) (.inRegion ops (List.range' n (ops.size - n)) :: k)) cs) w') :
  ∀ (fuel t : Nat) (listed : Array Bool) (left : List Nat) (q : Nat) (E : Env) (M : CH) (w : World) (c : List Value) (O W : Nat → Prop), listed.size = ops.size → left.length ≤ fuel → (∀ i, i < ops.size → listed.getD i false = false → i ∈ left) → (∀ j, n ≤ j → listed.getD j false = false) →
   Closed ops (fun i => listed.getD i false = true) → Inv P ops s n E0 w0 O0 W0 lo dm (fun i => listed.getD i false = true) q E M w c O W →
   Will P main J K O W (G (fat b (E.act ⟨c, dm⟩) (.inRegion ops (Region.linearise.go .any ops fuel t listed []) :: k)) cs) w := by
 intro fuel
 -- when all is done
 have fin : ∀ (fuel t : Nat) (listed : Array Bool) (left : List Nat) (q : Nat) (E : Env) (M : CH) (w : World) (c : List Value) (O W : Nat → Prop), listed.size = ops.size → left.length ≤ fuel → (∀ i, i < ops.size → listed.getD i false = false → i ∈ left) → (∀ j, n ≤ j → listed.getD j false = false) → (∀ i, i < n → listed.getD i false = true) → Inv P ops s n E0 w0 O0 W0 lo dm (fun i => listed.getD i false = true) q E M w c O W →
   Will P main J K O W (G (fat b (E.act ⟨c, dm⟩) (.inRegion ops (Region.linearise.go .any ops fuel t listed []) :: k)) cs) w := by
  intro fuel t listed left q E M w c O W hsz hlen hleft hno hall I
  have hf : ops.size - n ≤ fuel := by
   rcases Nat.lt_or_ge n ops.size with h | h
   ·have := List.length_pos_of_mem (hleft n h (hno n (Nat.le_refl _)))
    omega
   ·omega
  rw [go_last U.size hs hsz hall hno (fun o ho e he hb => U.edge n o ho e he hb) hf t]
  have hc : c = (s n).a.tmps := by
   apply List.ext_getElem?
   intro x
   exact I.tm.agree (U.tm n (Nat.le_refl _)) (fun i hi _ => ⟨fun _ => hi, fun _ => hall i hi⟩)
  subst hc
  refine hK E M w O W ⟨q, ⟨I.own, I.oo, I.ww, I.rel, I.wx, fun k => ?_, I.sz, I.c1, I.c2, I.clo, U.tm n (Nat.le_refl _), ⟨I.nxt.le, I.nxt.kd, fun u hu hw => ⟨fun _ => (I.nxt.lt u hu hw).1 (hall u hu), fun _ => hu⟩⟩⟩⟩
  rw [I.dom k]
  constructor
  ·rintro (h | ⟨i, h1, h2, h3⟩)
   ·exact .inl h
   ·exact .inr ⟨i, h2, h2, h3⟩
  ·rintro (h | ⟨i, h1, h2, h3⟩)
   ·exact .inl h
   ·exact .inr ⟨i, hall i h1, h2, h3⟩
 induction fuel with
 | zero =>
  intro t listed left q E M w c O W hsz hlen hleft hno hcl I
  have hl : left = [] := List.length_eq_zero_iff.1 (by omega)
  exact fin 0 t listed left q E M w c O W hsz hlen hleft hno (fun i hi => by
   cases h : listed.getD i false with
   | true => rfl
   | false => have := hleft i (Nat.lt_of_lt_of_le hi U.size) h; rw [hl] at this; cases this) I
 | succ fuel ih =>
  intro t listed left q E M w c O W hsz hlen hleft hno hcl I
  by_cases hall : ∀ i, i < n → listed.getD i false = true
  ·exact fin _ t listed left q E M w c O W hsz hlen hleft hno hall I
  simp only [Region.linearise.go]
  change Will P main J K O W (G (fat b (E.act ⟨c, dm⟩) (.inRegion ops (match (Region.ready .any ops listed)[t % (Region.ready .any ops listed).length]? with
   | some i => Region.linearise.go .any ops fuel (t / (Region.ready .any ops listed).length) (listed.setIfInBounds i true) [i]
   | none => [].reverse) :: k)) cs) w
  cases hi : (Region.ready .any ops listed)[t % (Region.ready .any ops listed).length]? with
  | none =>
   exfalso
   have hnil : Region.ready .any ops listed = [] := by
    cases hr : Region.ready .any ops listed with
    | nil => rfl
    | cons x xs =>
     rw [hr] at hi
     have hlt : t % (x :: xs).length < (x :: xs).length := Nat.mod_lt _ (by simp)
     simp at hi
     simp at hlt
     omega
   refine hall ?_
   intro i
   induction i using Nat.strongRecOn with
   | _ i ihi =>
    intro hin
    cases hli : listed.getD i false with
    | true => rfl
    | false =>
     exfalso
     obtain ⟨o, ho⟩ := U.op hin
     have hmem : i ∈ Region.ready .any ops listed := by
      rw [mem_ready]
      refine ⟨?_, o, ho, fun e he hb => ihi e.on (U.edge i o ho e he hb) (by have := U.edge i o ho e he hb; omega)⟩
      have : i < listed.size := by have := U.size; omega
      simp [this] at hli ⊢
      exact hli
     rw [hnil] at hmem
     cases hmem
  | some i =>
   simp only []
   rw [linearise_go_acc, List.reverse_singleton, List.singleton_append]
   have hmem := List.mem_of_getElem? hi
   obtain ⟨h0, o, ho, hdone⟩ := mem_ready.1 hmem
   have his := (Array.getElem?_eq_some_iff.1 ho).1
   have hin : i < n := by
    rcases Nat.lt_or_ge i n with h | h
    ·exact h
    ·exfalso
     have e : i = n := by omega
     subst e
     exact hall fun u hu => U.down hcl ho (fun e he hb => hdone e he hb) (hlast his u hu)
   have hlt : i < listed.size := by omega
   have hnS : ¬ listed.getD i false = true := by
    simp [hlt] at h0 ⊢
    exact h0
   refine istep U R0 ha0 I hcl hin ho hnS (fun e he hb => hdone e he hb) hlo hlo0 main J b (Region.linearise.go .any ops fuel (t / (Region.ready .any ops listed).length) (listed.setIfInBounds i true) []) k cs K fun q' E1 M1 w1 O1 W1 I1 => ?_
   have hset : ∀ u, (listed.setIfInBounds i true).getD u false = true ↔ (listed.getD u false = true ∨ u = i) := by
    intro u
    by_cases hu : u = i
    ·subst hu
     simp [hlt]
    ·rw [getD_set_ne false (Ne.symm hu)]
     simp [hu]
   have hfun : (fun u => (listed.setIfInBounds i true).getD u false = true) = (fun u => listed.getD u false = true ∨ u = i) := by
    funext u
    exact propext (hset u)
   have hil : i ∈ left := hleft i his (by simpa using hnS)
   have hcl1 : Closed ops (fun u => (listed.setIfInBounds i true).getD u false = true) := by
    intro j oj hj hoj e he hb
    rw [hset] at hj ⊢
    rcases hj with hj | rfl
    ·exact .inl (hcl j oj hj hoj e he hb)
    ·rw [ho] at hoj
     cases hoj
     exact .inl (hdone e he hb)
   have hputc : (⟨((⟨c, dm⟩ : CA).put o.dst (s i).v).tmps, dm⟩ : CA) = (⟨c, dm⟩ : CA).put o.dst (s i).v := by cases o.dst <;> rfl
   have hst2 := ih (t / (Region.ready .any ops listed).length) (listed.setIfInBounds i true) (left.erase i) q' E1 M1 w1 _ O1 W1 (by simp [hsz])
    (by rw [List.length_erase_of_mem hil]; omega)
    (fun u hu hlu => by
     have hne : u ≠ i := by
      intro e
      have := (hset u).2 (.inr e)
      rw [this] at hlu
      cases hlu
     rw [getD_set_ne false (Ne.symm hne)] at hlu
     exact (List.mem_erase_of_ne hne).2 (hleft u hu hlu))
    (fun u hu => by
     have hne : u ≠ i := by omega
     rw [getD_set_ne false (Ne.symm hne)]
     exact hno u hu) hcl1 (by rw [hfun]; exact I1)
   rw [hputc] at hst2
   exact hst2
theorem region_ok (U : Run P ops s bm n) (hs : ops.size ≤ n + 1) (hlast : n < ops.size → ∀ i, i < n → bm i n) (hm : P.follows .mixedOrders = true) {E0 : Env} {wz : World} (Rz : Rel P E0 (s 0).N wz) (ha0 : (s 0).a.Clo E0.D) {O W : Nat → Prop} {lo : Nat} (ow : Own O W lo E0 (s 0).N wz) (hlo : lo ≤ (s n).N.wm) (main : Bool) (J : World → Prop) [Ctx main J]
  (b : Frame) (id : Nat) (k : List Item) (cs : List Frame) (K : (Nat → Prop) → (Nat → Prop) → Goroutine → World → Prop)
  (hK : ∀ O' W' E' w', Later P lo O W E0 (s 0).N wz O' W' E' (s n).N w' → (s n).a.Clo E'.D → Will P main J K O' W' (G (fat b (E'.act (s n).a) (.inRegion ops (List.range' n (ops.size - n)) :: k)) cs) w') :
  Will P main J K O W (G (fat b (E0.act (s 0).a) (.code (.region id ops true) :: k)) cs) wz := by
 refine .step rfl fun w0 hrel _ => ?_
 have R0 := Rz.rely ow hrel
 refine ⟨_, w0.drew, #[], g_region_draw, ⟨fun _ _ _ => rfl, Nat.le_refl _, rfl, rfl, rfl, fun e he => by simp at he⟩, ?_⟩
 have hg1 : grow O w0 w0.drew = O := grow_self O w0
 have hg2 : grow W w0 w0.drew = W := grow_self W w0
 rw [hg1, hg2]
 have hsched : Region.schedule (P.follows .mixedOrders) ops (w0.tape w0.drawn (.order b.fn id)) = Region.linearise.go .any ops ops.size (w0.tape w0.drawn (.order b.fn id)) (Array.replicate ops.size false) [] := by
  simp [Region.schedule, hm, Region.linearise]
 rw [hsched]
 obtain ⟨R1, X1⟩ := R0.drew
 -- defers stay
 have hdm : ∀ j, j ≤ n → (s j).a.dm = (s 0).a.dm := by
  intro j
  induction j with
  | zero => intro _; rfl
  | succ j ih =>
   intro h
   obtain ⟨o, ho⟩ := U.op (show j < n by omega)
   rw [U.put j o (by omega) ho, ← ih (by omega)]
   cases o.dst <;> rfl
 obtain ⟨q, _, hq2, hq3, hq4⟩ := first_w s n n 0 (by omega)
 have hle : ∀ {i j : Nat}, i ≤ j → j ≤ n → (s i).N.sz ≤ (s j).N.sz := fun h1 h2 => U.le R0 ha0 h1 h2
 have hnok := U.ok R0 ha0 (Nat.le_refl n)
 have hgetM : ∀ k, E0.D k → (CH.ofFn (s n).N.sz (s 0).N.get).get k = (s 0).N.get k := fun k hk => CH.get_ofFn _ (Nat.lt_of_lt_of_le (R0.dom k hk) (hle (Nat.zero_le n) (Nat.le_refl _)))
 have hI : Inv P ops s n E0 w0.drew O W lo (s 0).a.dm (fun i => (Array.replicate ops.size false).getD i false = true) q E0 (CH.ofFn (s n).N.sz (s 0).N.get) w0.drew (s 0).a.tmps O W := by
  have hno : ∀ i, ¬ (Array.replicate ops.size false).getD i false = true := by
   intro i
   rcases Nat.lt_or_ge i ops.size with h | h
   ·simp [h]
   ·simp [Array.getElem?_eq_none, h]
  have hlv : ∀ k, E0.D k → (CH.ofFn (s n).N.sz (s 0).N.get).live k → (s 0).N.live k := fun k hk ⟨b, hb, hd⟩ => ⟨b, by rw [← hgetM k hk]; exact hb, hd⟩
  have ow1 := (ow.rely hrel)
  refine ⟨⟨fun k hk hl => ow1.img k hk (hlv k hk hl), fun k hk hl => ow1.wri k hk (hlv k hk hl), ow1.lt, Nat.le_trans ow1.low (hle (Nat.zero_le n) (Nat.le_refl _))⟩, fun _ h => h, ⟨fun _ h => h, fun _ h => .inl h⟩, R1.congr (CH.ok_ofFn _) (fun k hk => Nat.lt_of_lt_of_le (R0.dom k hk) (hle (Nat.zero_le n) (Nat.le_refl _))) hgetM, (Wx.refl O E0 (s 0).N w0.drew).congr (fun _ _ => rfl) hgetM, ?_, rfl, ?_, ?_, ⟨ha0.tmps, ha0.dm⟩, ⟨rfl, fun x i hi => absurd hi (hno i), fun x _ => rfl⟩,
   ⟨hq2, hq3, fun u hu hw => ⟨fun h => absurd h (hno u), fun h => absurd hw (hq4 u (Nat.zero_le _) h)⟩⟩⟩
  ·intro k
   constructor
   ·exact .inl
   ·rintro (h | ⟨i, h, _⟩)
    ·exact h
    ·exact absurd h (hno i)
  ·intro k hk _
   rw [hgetM k hk]
   exact (U.same R0 ha0 (Nat.zero_le q) hq2 (fun u h1 h2 => hq4 u h1 h2) (R0.dom k hk)).symm
  ·intro k i hk hge
   have h1 := R0.dom k hk
   have h2 := hle (Nat.zero_le q) hq2
   intro h3 h4 h5
   omega
 refine order_ok U hs hlast (w0 := w0.drew) R1 ha0 (O0 := O) (W0 := W) hlo ow.low main J b k cs K ?_ ops.size (w0.tape w0.drawn (.order b.fn id)) (Array.replicate ops.size false) (List.range ops.size) q E0 _ w0.drew (s 0).a.tmps O W (by simp) (by simp)
  (fun i hi _ => List.mem_range.2 hi) (fun j _ => by
   rcases Nat.lt_or_ge j ops.size with h | h
   ·simp [h]
   ·simp [Array.getElem?_eq_none, h]) (by
   intro j o hj
   exfalso
   rcases Nat.lt_or_ge j ops.size with h | h
   ·simp [h] at hj
   ·simp [Array.getElem?_eq_none, h] at hj) hI
 rintro E' M' w' O' W' ⟨q', I'⟩
 have hqn : q' = n := by
  rcases Nat.lt_or_ge q' n with h | h
  ·have := (I'.nxt.lt q' h (I'.nxt.kd h)).1 h
   omega
  ·have := I'.nxt.le
   omega
 subst hqn
 -- all is realized
 obtain ⟨Ev, wv, Rv, hav, Vv⟩ := U.virt R0 ha0 q' (Nat.le_refl _)
 have hrange : ∀ k, (s 0).N.sz ≤ k → k < (s q').N.sz → ∃ i, i < q' ∧ (s i).N.sz ≤ k ∧ k < (s (i + 1)).N.sz := by
  intro k h1 h2
  have key : ∀ d, d ≤ q' → k < (s d).N.sz → ∃ i, i < d ∧ (s i).N.sz ≤ k ∧ k < (s (i + 1)).N.sz := by
   intro d
   induction d with
   | zero => intro _ h; omega
   | succ d ih =>
    intro hd h
    by_cases hk : k < (s d).N.sz
    ·obtain ⟨i, h1, h2⟩ := ih (by omega) hk
     exact ⟨i, by omega, h2⟩
    ·exact ⟨d, by omega, by omega, h⟩
  exact key q' (Nat.le_refl _) h2
 have hdom : ∀ k, E'.D k ↔ E0.D k ∨ ((s 0).N.sz ≤ k ∧ k < (s q').N.sz) := by
  intro k
  rw [I'.dom k]
  constructor
  ·rintro (h | ⟨i, h1, _, h2, h3⟩)
   ·exact .inl h
   ·exact .inr ⟨Nat.le_trans (hle (Nat.zero_le i) (by omega)) h2, Nat.lt_of_lt_of_le h3 (hle (by omega) (Nat.le_refl _))⟩
  ·rintro (h | h)
   ·exact .inl h
   ·obtain ⟨i, h1, h2, h3⟩ := hrange k h.1 h.2
    exact .inr ⟨i, h1, h1, h2, h3⟩
 have hlt : ∀ k, E'.D k → k < (s q').N.sz := fun k hk => by rw [← I'.sz]; exact I'.rel.dom k hk
 have hget : ∀ k, E'.D k → (s q').N.get k = M'.get k := fun k hk => (I'.c1 k hk (hlt k hk)).symm
 have hRn : Rel P E' (s q').N w' := I'.rel.congr hnok hlt hget
 have hwx : Wx O E0 (s 0).N w0.drew E' (s q').N w' := I'.wx.congr (fun _ _ => rfl) (fun k hk => hget k (I'.wx.mono k hk).1)
 have hV : Vs O E0 (s 0).N w0.drew E' (s q').N w' := ⟨hwx, hdom, Vv.size, Vv.wm, Vv.keep⟩
 have hfin : (⟨(s q').a.tmps, (s 0).a.dm⟩ : CA) = (s q').a := by rw [← hdm q' (Nat.le_refl _)]
 have hclo := I'.clo
 rw [hfin] at hclo ⊢
 have hlv : ∀ k, E'.D k → (s q').N.live k → M'.live k := fun k hk ⟨b, hb, hd⟩ => ⟨b, by rw [← hget k hk]; exact hb, hd⟩
 have hown : Own O' W' lo E' (s q').N w' := ⟨fun k hk hl => I'.own.img k hk (hlv k hk hl), fun k hk hl => I'.own.wri k hk (hlv k hk hl), I'.own.lt, by have := I'.own.low; rwa [I'.sz] at this⟩
 exact hK O' W' E' w' ⟨hRn, hown, ((ExtC.of_rely hrel E0 (s 0).N).trans (X1.toC O) (fun _ h => h)).trans hV.ext (fun _ h => h), I'.oo, I'.ww.1, fun b hb => (I'.ww.2 b hb).imp (fun h => h) fun (hs : w0.heap.size ≤ b) => Nat.le_trans hrel.size hs⟩ hclo
end
theorem cruns_ok {P : Program} {R : Rec} {ops : Array Oper} : ∀ (m i : Nat) {a a' : CA} {N N' : CH} {l : List DS}, cruns P R ops m i a N = some (l, a', N') → ∀ fin : DS, fin.a = a' → fin.N = N' →
  l.length = m ∧ (l.getD 0 fin).a = a ∧ (l.getD 0 fin).N = N ∧
   ∀ j, j < m → cstep P R ops (i + j) (l.getD j fin).a (l.getD j fin).N = some ((l.getD j fin).kd, (l.getD j fin).v, (l.getD (j + 1) fin).N) ∧ (l.getD (j + 1) fin).a = (l.getD j fin).a.put (dstOf ops (i + j)) (l.getD j fin).v
 | 0, i, a, a', N, N', l, h, fin, h1, h2 => by
  simp only [cruns, Option.some.injEq, Prod.mk.injEq] at h
  obtain ⟨rfl, rfl, rfl⟩ := h
  exact ⟨rfl, h1, h2, fun j hj => absurd hj (Nat.not_lt_zero _)⟩
 | m + 1, i, a, a', N, N', l, h, fin, h1, h2 => by
  simp only [cruns, Option.bind_eq_some_iff, Option.map_eq_some_iff] at h
  obtain ⟨⟨kd, v, N1⟩, hs, ⟨l1, a1, N2⟩, hr, e⟩ := h
  simp only [Prod.mk.injEq] at e
  obtain ⟨rfl, rfl, rfl⟩ := e
  obtain ⟨g1, g2, g3, g4⟩ := cruns_ok m (i + 1) hr fin h1 h2
  refine ⟨by simp [g1], rfl, rfl, ?_⟩
  intro j hj
  cases j with
  | zero =>
   simp only [List.getD_cons_zero, List.getD_cons_succ, Nat.add_zero, Nat.zero_add, g2, g3]
   exact ⟨hs, trivial⟩
  | succ j =>
   have := g4 j (by omega)
   simp only [List.getD_cons_succ]
   rw [show i + (j + 1) = i + 1 + j by omega]
   exact this
theorem bmOf_spec {o : Oper} {bms : List Nat} {i : Nat} (h : (bmOf o bms).testBit i = true) : ∃ e ∈ o.after, Region.binds .any e = true ∧ (e.on = i ∨ (bms.getD e.on 0).testBit i = true) := by
 have key : ∀ (es : List Edge) (n : Nat), (es.foldl (fun s e => if Region.binds .any e = true then s ||| (2 ^ e.on ||| bms.getD e.on 0) else s) n).testBit i = true → n.testBit i = true ∨ ∃ e ∈ es, Region.binds .any e = true ∧ (e.on = i ∨ (bms.getD e.on 0).testBit i = true) := by
  intro es
  induction es with
  | nil => intro n h; exact .inl h
  | cons e es ih =>
   intro n h
   rw [List.foldl_cons] at h
   rcases ih _ h with h1 | ⟨e', he', h1⟩
   ·split at h1
    ·rename_i hb
     rw [Nat.testBit_or, Nat.testBit_or, Bool.or_eq_true, Bool.or_eq_true] at h1
     rcases h1 with h1 | h1 | h1
     ·exact .inl h1
     ·rw [Nat.testBit_two_pow] at h1
      exact .inr ⟨e, by simp, hb, .inl (by simpa using h1)⟩
     ·exact .inr ⟨e, by simp, hb, .inr h1⟩
    ·exact .inl h1
   ·exact .inr ⟨e', by simp [he'], h1⟩
 rcases key _ _ h with h1 | ⟨e, he, h1⟩
 ·simp at h1
 ·exact ⟨e, by simpa using he, h1⟩
def drawOkN (P : Program) (R : Rec) (ops : Array Oper) (n : Nat) (l : List DS) (fin : DS) : Bool :=
 textOk ops &&
 ((wsOf l n).isEmpty ||
  (pairsOk (bmsGo ops.toList []) (wsOf l n) l fin n &&
   (List.range n).all fun i => !decide ((l.getD i fin).kd = .q) || lateOk P R ops (bmsGo ops.toList []) (wsOf l n) l fin n i))
theorem draw_core {P : Program} (hP : NoCount P) (hm : P.follows .mixedOrders = true) {R : Rec} (hR : RecOk P R) {ops : Array Oper} {n : Nat} (hn : n ≤ ops.size) (hs : ops.size ≤ n + 1) (hlast : n < ops.size → ∀ i, i < n → bef (bmsGo ops.toList []) i n = true)
  {a a1 : CA} {N N1 : CH} {l : List DS} (hc : cruns P R ops n 0 a N = some (l, a1, N1)) (hok : drawOkN P R ops n l ⟨a1, N1, .b, undef⟩ = true)
  {main : Bool} {J : World → Prop} [Ctx main J] {lo : Nat} {E : Env} {w : World} {O W : Nat → Prop} (hlo : lo ≤ N1.wm) (hr : Rel P E N w) (ow : Own O W lo E N w) (ha : a.Clo E.D) (b : Frame) (id : Nat) (k : List Item) (cs : List Frame)
  {K : (Nat → Prop) → (Nat → Prop) → Goroutine → World → Prop}
  (hK : ∀ O' W' E' w', Later P lo O W E N w O' W' E' N1 w' → a1.Clo E'.D → Will P main J K O' W' (G (fat b (E'.act a1) (.inRegion ops (List.range' n (ops.size - n)) :: k)) cs) w') :
  Will P main J K O W (G (fat b (E.act a) (.code (.region id ops true) :: k)) cs) w := by
 generalize hfin : (⟨a1, N1, .b, undef⟩ : DS) = fin at hok
 obtain ⟨g1, g2, g3, g4⟩ := cruns_ok _ _ hc fin (by rw [← hfin]) (by rw [← hfin])
 have hisW : ∀ u, u < n → (isW l u = true ↔ (l.getD u fin).kd = .w) := by
  intro u hu
  have hul : u < l.length := by omega
  simp [isW, hul]
 have hws : ∀ u, u ∈ wsOf l n ↔ u < n ∧ (l.getD u fin).kd = .w := by
  intro u
  simp only [wsOf, List.mem_filter, List.mem_range]
  exact and_congr_right fun hu => hisW u hu
 simp only [drawOkN, textOk, edgesOk, namesOk] at hok
 generalize bmsGo ops.toList [] = bms at hok hlast
 simp only [Bool.and_eq_true, List.all_eq_true, List.mem_range] at hok
 obtain ⟨⟨⟨c1, c2⟩, c3⟩, c4⟩ := hok
 have hpair : ∀ i j, i < j → j < n → bef bms i j = false → (meets (dstOf ops i) (names ops j) = false ∧ meets (dstOf ops j) (names ops i) = false) ∧
   ((l.getD i fin).kd = .w → (l.getD j fin).kd = .b) ∧ ((l.getD j fin).kd = .w → (l.getD i fin).kd = .b → (l.getD i fin).N.sz = (l.getD (i + 1) fin).N.sz) := by
  intro i j hij hj hb
  have h1 := c3 j (by omega) i hij
  simp only [hb, Bool.false_or, Bool.and_eq_true, Bool.not_eq_true'] at h1
  have hk : ∀ u, u = i ∨ u = j → (l.getD u fin).kd = .w → kindsOk bms l fin i j = true := by
   intro u hu huw
   have hum := (hws u).2 ⟨by omega, huw⟩
   rw [Bool.or_eq_true] at c4
   rcases c4 with c4 | c4
   ·rw [List.isEmpty_iff] at c4
    rw [c4] at hum
    cases hum
   ·simp only [Bool.and_eq_true, pairsOk, List.all_eq_true, List.mem_range] at c4
    rcases hu with rfl | rfl
    ·have := c4.1 u hum j hj
     rwa [if_neg (by omega), if_pos hij] at this
    ·have := c4.1 u hum i (by omega)
     rwa [if_pos hij] at this
  refine ⟨h1, fun hh => ?_, fun hh hh' => ?_⟩
  ·have := hk i (.inl rfl) hh
   simp only [kindsOk, hb, Bool.false_or, Bool.and_eq_true, Bool.or_eq_true, Bool.not_eq_true', decide_eq_true_eq, decide_eq_false_iff_not] at this
   exact this.1.resolve_left (fun hn => hn hh)
  ·have := hk j (.inr rfl) hh
   simp only [kindsOk, hb, Bool.false_or, Bool.and_eq_true, Bool.or_eq_true, Bool.not_eq_true', decide_eq_true_eq, decide_eq_false_iff_not] at this
   rcases this.2 with (h3 | h3) | h3
   ·exact absurd hh h3
   ·exact absurd hh' h3
   ·exact h3
 have hU : Run P ops (fun i => l.getD i fin) (fun i j => bef bms i j = true) n := by
  refine ⟨hn, ?_, ?_, ?_, ?_, ?_, ?_, ?_, ?_⟩
  ·intro j o ho e he hb
   have hj := (Array.getElem?_eq_some_iff.1 ho).1
   have := c1 j hj
   rw [ho] at this
   simp only [List.all_eq_true] at this
   have := this e (by simpa using he)
   simpa [hb] using this
  ·intro i j hj hbf
   have ho : ops[j]? = some ops[j] := Array.getElem?_eq_getElem hj
   have := c2 j hj
   rw [ho] at this
   simp only [beq_iff_eq] at this
   refine ⟨_, ho, ?_⟩
   have hb' : (bmOf ops[j] bms).testBit i = true := by rw [← this]; exact hbf
   exact bmOf_spec hb'
  ·intro j o hj ho
   have := (g4 j hj).1
   rw [Nat.zero_add] at this
   exact cstep_fact hP hR ho this
  ·intro j o hj ho
   have := (g4 j hj).2
   rw [Nat.zero_add] at this
   have hd : dstOf ops j = o.dst := by simp [dstOf, ho]
   rw [hd] at this
   exact this
  ·intro i j x hij hj hx
   cases hb : bef bms i j with
   | true => rfl
   | false =>
    exfalso
    obtain ⟨⟨h1, h2⟩, _⟩ := hpair i j hij hj hb
    rcases hx with ⟨h3, h4⟩ | ⟨h3, h4⟩
    ·simp [meets, h3, h4] at h1
    ·simp [meets, h3, h4] at h2
  ·intro i j hij hj hw
   cases hb : bef bms i j with
   | true => exact .inr rfl
   | false => exact .inl ((hpair i j hij hj hb).2.1 hw)
  ·intro i j hij hj hw hkb
   cases hb : bef bms i j with
   | true => exact .inr rfl
   | false => exact .inl ((hpair i j hij hj hb).2.2 hw hkb)
  ·intro i p o hip hp ho hkq hpw hex
   have hi : i < n := by omega
   obtain ⟨u, hu1, hu2, hu3⟩ := hex
   have hum : u ∈ wsOf l n := (hws u).2 ⟨by omega, hu3⟩
   rw [Bool.or_eq_true] at c4
   have hc4 := (c4.resolve_left (fun hn => by rw [List.isEmpty_iff] at hn; rw [hn] at hum; cases hum))
   simp only [Bool.and_eq_true, List.all_eq_true, List.mem_range] at hc4
   have hc4 := hc4.2 i hi
   simp only [hkq, decide_true, Bool.not_true, Bool.false_or] at hc4
   unfold lateOk at hc4
   simp only [List.all_eq_true] at hc4
   have hc5 := hc4 p (by
    rw [List.mem_append]
    rcases hpw with rfl | hpw
    ·exact .inr (by simp)
    ·by_cases hpn : p = n
     ·exact .inr (by simp [hpn])
     ·exact .inl ((hws p).2 ⟨by omega, hpw⟩))
   have e1 : decide (i < p) = true := by simpa using hip
   have e3 : ((wsOf l n).any fun u => decide (i < u) && decide (u < p)) = true := by
    rw [List.any_eq_true]
    exact ⟨u, hum, by simp [hu1, hu2]⟩
   rw [e1, e3] at hc5
   simp only [Bool.not_true, Bool.false_or, Bool.or_eq_true, List.any_eq_true, Bool.and_eq_true, decide_eq_true_eq] at hc5
   rcases hc5 with ⟨v, hv1, ⟨hv2, hv3⟩, hv4⟩ | ⟨hs, hl⟩
   ·exact .inl ⟨v, hv2, hv3, ((hws v).1 hv1).2, hv4⟩
   ·right
    refine ⟨hs, ?_⟩
    unfold lateEval at hl
    simp only [ho, Bool.and_eq_true] at hl
    obtain ⟨⟨hgs, hw⟩, hl⟩ := hl
    split at hl
    ·rename_i v G hev
     simp only [Bool.and_eq_true, decide_eq_true_eq] at hl
     have := veq_ok hl.1.1
     subst this
     exact ⟨G, loc_eval hP hR ho hgs hw hev, hl.1.2, hl.2⟩
    ·cases hl
 have hg0 : ((fun i => l.getD i fin) 0).N = N := g3
 have hga : ((fun i => l.getD i fin) 0).a = a := g2
 have hnn : l.getD n fin = fin := by
  rw [List.getD_eq_getElem?_getD, List.getElem?_eq_none (by omega)]
  rfl
 have := region_ok hU hs hlast hm (E0 := E) (wz := w) (by rw [hg0]; exact hr) (by rw [hga]; exact ha) (O := O) (W := W) (lo := lo) (by rw [hg0]; exact ow) (by rw [hnn, ← hfin]; exact hlo) main J b id k cs K (by
  rw [hg0, hnn, ← hfin]
  exact hK)
 rw [hga] at this
 exact this
theorem cdraw_ok {P : Program} (hP : NoCount P) (hm : P.follows .mixedOrders = true) {R : Rec} (hR : RecOk P R) {ops : Array Oper} {a a' : CA} {N N' : CH} (h : cdraw P R ops a N = some (a', N'))
  {main : Bool} {J : World → Prop} [Ctx main J] {lo : Nat} {E : Env} {w : World} {O W : Nat → Prop} (hlo : lo ≤ N'.wm) (hr : Rel P E N w) (ow : Own O W lo E N w) (ha : a.Clo E.D) (b : Frame) (id : Nat) (k : List Item) (cs : List Frame)
  {K : (Nat → Prop) → (Nat → Prop) → Goroutine → World → Prop}
  (hK : ∀ O' W' E' w', Later P lo O W E N w O' W' E' N' w' → a'.Clo E'.D → Will P main J K O' W' (G (fat b (E'.act a') k) cs) w') :
  Will P main J K O W (G (fat b (E.act a) (.code (.region id ops true) :: k)) cs) w := by
 unfold cdraw at h
 split at h
 ·rename_i l a1 N1 hc
  split at h
  ·rename_i hok
   simp only [Option.some.injEq, Prod.mk.injEq] at h
   obtain ⟨rfl, rfl⟩ := h
   refine draw_core hP hm hR (Nat.le_refl _) (Nat.le_succ _) (fun h => absurd h (Nat.lt_irrefl _)) hc hok hlo hr ow ha b id k cs fun O' W' E' w' L hcl => ?_
   rw [Nat.sub_self]
   exact .quiet rfl (fun _ => g_region_end) (hK O' W' E' w' L hcl)
  ·cases h
 ·cases h
end
end Go.Eng
