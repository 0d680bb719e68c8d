/-
  The engine, part J: the plain doing of code, of calls and of rounds, and that the model does just that. (Regions that leave their order open: part K.)
-/
import Derived.Test.YtbffppnnlkhnaaaEngI
namespace Go.Eng
set_option linter.unusedSimpArgs false

structure CA where
  tmps : List Value
  dm : List Nat

def Env.act (E : Env) (a : CA) : Act := { tmps := (a.tmps.map E.m).toArray, defers := a.dm.map fun k => { target := .collected (E.f k), args := #[] } }
structure CA.Clo (D : Nat → Prop) (a : CA) : Prop where
  tmps : ∀ v ∈ a.tmps, Eng.Clo D v
  dm : ∀ k ∈ a.dm, D k
def CA.put (a : CA) (dst : Option Tmp) (v : Value) : CA :=
  match dst with
  | some d => { a with tmps := a.tmps.set d v }
  | none => a
theorem act_put (E : Env) (a : CA) (dst : Option Tmp) (v : Value) : (E.act a).put dst (E.m v) = E.act (a.put dst v) := by
  cases dst with
  | none => rfl
  | some d => simp [Env.act, Act.put, CA.put, List.map_set]
theorem act_put_undef (E : Env) (a : CA) (dst : Option Tmp) : (E.act a).put dst undef = E.act (a.put dst undef) := act_put E a dst undef
theorem CA.Clo.put {D : Nat → Prop} {a : CA} (h : a.Clo D) (dst : Option Tmp) {v : Value} (hv : Eng.Clo D v) : (a.put dst v).Clo D := by
  cases dst with
  | none => exact h
  | some d =>
    refine ⟨?_, h.dm⟩
    intro u hu
    rcases List.mem_or_eq_of_mem_set hu with h1 | h1
    · exact h.tmps u h1
    · rw [h1]; exact hv
theorem Ext.act {E E' : Env} {N N' : CH} {w w' : World} (X : Ext E N w E' N' w') {a : CA} (h : a.Clo E.D) : E'.act a = E.act a ∧ a.Clo E'.D := by
  refine ⟨?_, ⟨fun v hv => X.clo (h.tmps v hv), fun k hk => (X.mono k (h.dm k hk)).1⟩⟩
  have h1 : a.tmps.map E'.m = a.tmps.map E.m := List.map_congr_left fun v hv => X.m (h.tmps v hv)
  have h2 : a.dm.map (fun k => ({ target := .collected (E'.f k), args := #[] } : Deferred)) = a.dm.map (fun k => { target := .collected (E.f k), args := #[] }) :=
    List.map_congr_left fun k hk => by rw [(X.mono k (h.dm k hk)).2.1]
  unfold Env.act
  rw [h1, h2]

def cev (a : CA) : Ev
  | .tmp t => some (a.tmps.getD t undef)
  | .const v => if plain v = true then some v else none
  | .func f => some (.func (.func f) #[] #[])
  | .global _ => none
theorem undef_clo (D : Nat → Prop) : Clo D undef := Clo_tuple.2 (by simp)
theorem m_undef (E : Env) : E.m undef = undef := rfl
theorem cev_ok {E : Env} {a : CA} (h : a.Clo E.D) : EvOk E (cev a) (E.act a).eval := by
  intro x v hx
  cases x with
  | tmp t =>
    simp only [cev, Option.some.injEq] at hx
    subst hx
    refine ⟨?_, ?_⟩
    · simp only [Act.eval, Env.act, Array.getD_eq_getD_getElem?, List.getElem?_toArray, List.getElem?_map, List.getD_eq_getElem?_getD]
      cases a.tmps[t]? <;> rfl
    · rw [List.getD_eq_getElem?_getD]
      cases ht : a.tmps[t]? with
      | none => exact undef_clo _
      | some u => exact h.tmps u (List.mem_of_getElem? ht)
  | const u =>
    simp only [cev] at hx
    split at hx
    · cases hx; exact ⟨(m_plain E (by assumption)).symm, Clo_plain _ _ (by assumption)⟩
    · cases hx
  | func f =>
    simp only [cev, Option.some.injEq] at hx
    subst hx
    exact ⟨rfl, ⟨trivial, trivial, trivial⟩⟩
  | global g => cases hx

def cyielded (ops : Array Oper) (tmps : List Value) (j : Nat) : Option Bool :=
  match ((ops[j]?).bind (·.dst)).bind (tmps[·]?) with
  | some (.bool b) => some b
  | _ => none
theorem m_bool_iff (E : Env) (v : Value) (b : Bool) : E.m v = .bool b ↔ v = .bool b := by
  cases v with
  | pointer a => cases a <;> simp [Env.m, mv]
  | slice a => cases a <;> simp [Env.m, mv]
  | map a => cases a <;> simp [Env.m, mv]
  | chan a => cases a <;> simp [Env.m, mv]
  | func g p q => rw [m_func]; simp
  | agg cs => simp [Env.m, mv_agg]
  | tuple cs => simp [Env.m, mv_tuple]
  | _ => simp [Env.m, mv]
theorem yielded_act (E : Env) (ops : Array Oper) (a : CA) : yielded ops (E.act a).tmps = cyielded ops a.tmps := by
  funext j
  unfold yielded cyielded
  have h : ((ops[j]?).bind (·.dst)).bind ((E.act a).tmps[·]?) = (((ops[j]?).bind (·.dst)).bind (a.tmps[·]?)).map E.m := by
    cases (ops[j]?).bind (·.dst) with
    | none => rfl
    | some d => simp [Env.act]
  rw [h]
  cases hv : ((ops[j]?).bind (·.dst)).bind (a.tmps[·]?) with
  | none => rfl
  | some v =>
    simp only [Option.map_some]
    by_cases hb : ∃ b, v = .bool b
    · obtain ⟨b, rfl⟩ := hb; rfl
    · have h1 : ∀ b, E.m v ≠ .bool b := fun b e => hb ⟨b, (m_bool_iff E v b).1 e⟩
      split
      · rename_i b he; simp only [Option.some.injEq] at he; exact absurd he (h1 b)
      · split
        · rename_i b he; simp only [Option.some.injEq] at he; exact absurd ⟨b, he⟩ hb
        · rfl

/-- What calls and rounds come to. -/
structure Rec where
  call : FuncId → List Value → CH → Option (Value × CH)
  round : Nat → FuncId → List Value → Code → Code → CH → Option (Value × CH)

def opStep (P : Program) (R : Rec) (ops : Array Oper) (i : Nat) (a : CA) (N : CH) : Option (CA × CH) :=
  match ops[i]? with
  | none => none
  | some o =>
    if Region.wanted o (cyielded ops a.tmps) = true then
      match cop P (cev a) o N with
      | some (.val v, N') => some (a.put o.dst v, N')
      | some (.skip, N') => some (a.put o.dst undef, N')
      | some (.enter f args, N') => (R.call f args N').map fun r => (a.put o.dst r.1, r.2)
      | some (.round l f tmps as bd, N') => (R.round l f tmps as bd N').map fun r => (a.put o.dst r.1, r.2)
      | none => none
    else some (a.put o.dst undef, N)
def opList (P : Program) (R : Rec) (ops : Array Oper) : List Nat → CA → CH → Option (CA × CH)
  | [], a, N => some (a, N)
  | i :: r, a, N => (opStep P R ops i a N).bind fun x => opList P R ops r x.1 x.2

inductive Ex where
  | normal
  | ret
  | exit (id : Nat)

def Arr (P : Program) (m : Machine) (b : Frame) (k : List Item) (cs : List Frame) : Ex → Act → World → Prop
  | .normal, a, w => Steps P m (lone (fat b a k) cs w)
  | .ret, a, w => ∃ todo, Steps P m (lone (fat b a (.code .ret :: todo)) cs w)
  | .exit id, a, w => ∃ todo, exitTo id todo = exitTo id k ∧ Steps P m (lone (fat b a (.code (.exit id) :: todo)) cs w)
theorem Arr.of_steps {P : Program} {m m1 : Machine} {b : Frame} {k : List Item} {cs : List Frame} {e : Ex} {a : Act} {w : World} (h : Steps P m m1) (h' : Arr P m1 b k cs e a w) : Arr P m b k cs e a w := by
  cases e with
  | normal => exact h.trans h'
  | ret => obtain ⟨t, ht⟩ := h'; exact ⟨t, h.trans ht⟩
  | exit id => obtain ⟨t, h1, ht⟩ := h'; exact ⟨t, h1, h.trans ht⟩

def CallOk (P : Program) (f : FuncId) (args : List Value) (N : CH) (v : Value) (N' : CH) : Prop :=
  ∀ E w, Rel P E N w → (∀ u ∈ args, Clo E.D u) → ∀ cs, ∃ E' w' fr, Rel P E' N' w' ∧ Ext E N w E' N' w' ∧ Clo E'.D v ∧
    Steps P (lone (Frame.enter P f (args.map E.m).toArray .normal) cs w) (lone fr cs w') ∧ fr.fn = f ∧ fr.leaving P w' (.returned (E'.m v))
def RoundOk (P : Program) (l : Nat) (f : FuncId) (tmps : List Value) (as bd : Code) (N : CH) (v : Value) (N' : CH) : Prop :=
  ∀ E w, Rel P E N w → E.D l → (∀ u ∈ tmps, Clo E.D u) → ∀ (c : Frame) cs, ∃ E' w', Rel P E' N' w' ∧ Ext E N w E' N' w' ∧ Clo E'.D v ∧
    Steps P (lone (Frame.round (E.f l) f (tmps.map E.m).toArray as bd .normal) (c :: cs) w) (lone (c.finish (E'.m v)) cs w')
structure RecOk (P : Program) (R : Rec) : Prop where
  call : ∀ f args N v N', R.call f args N = some (v, N') → CallOk P f args N v N'
  round : ∀ l f tmps as bd N v N', R.round l f tmps as bd N = some (v, N') → RoundOk P l f tmps as bd N v N'

theorem opStep_ok {P : Program} (hP : NoCount P) {R : Rec} (hR : RecOk P R) {ops : Array Oper} {i : Nat} {a a' : CA} {N N' : CH} (h : opStep P R ops i a N = some (a', N'))
    {E : Env} {w : World} (hr : Rel P E N w) (ha : a.Clo E.D) (b : Frame) (rest : List Nat) (k : List Item) (cs : List Frame) :
    ∃ E' w', Rel P E' N' w' ∧ Ext E N w E' N' w' ∧ a'.Clo E'.D ∧
      Steps P (lone (fat b (E.act a) (.inRegion ops (i :: rest) :: k)) cs w) (lone (fat b (E'.act a') (.inRegion ops rest :: k)) cs w') := by
  unfold opStep at h
  cases ho : ops[i]? with
  | none => simp [ho] at h
  | some o =>
    simp only [ho] at h
    split at h
    · rename_i hw
      have hw' : Region.wanted o (yielded ops (E.act a).tmps) = true := by rw [yielded_act]; exact hw
      cases hc : cop P (cev a) o N with
      | none => simp [hc] at h
      | some r =>
        obtain ⟨nx, N1⟩ := r
        have hnd : ∀ c, o.op ≠ .defer c := by
          intro c e
          simp [cop, e] at hc
        obtain ⟨E1, w1, hr1, X1, hclo, hrun⟩ := cop_ok hP hr (cev_ok ha) hc
        obtain ⟨hact, ha1⟩ := X1.act ha
        cases nx with
        | val v =>
          simp only [hc, Option.some.injEq, Prod.mk.injEq] at h
          obtain ⟨rfl, rfl⟩ := h
          refine ⟨E1, w1, hr1, X1, ha1.put _ hclo, ?_⟩
          rw [← act_put, hact]
          exact .one (fstep_val ho hw' hnd hrun)
        | skip =>
          simp only [hc, Option.some.injEq, Prod.mk.injEq] at h
          obtain ⟨rfl, rfl⟩ := h
          refine ⟨E1, w1, hr1, X1, ha1.put _ (undef_clo _), ?_⟩
          rw [← act_put_undef, hact]
          exact .one (fstep_skipv ho hw' hnd hrun)
        | enter f args =>
          simp only [hc] at h
          obtain ⟨r, hr', e⟩ := Option.map_eq_some_iff.1 h
          obtain ⟨v, N2⟩ := r
          cases e
          obtain ⟨E2, w2, fr, hr2, X2, hv, hsteps, _, hleave⟩ := hR.call _ _ _ _ _ hr' E1 w1 hr1 hclo (fat b (E.act a) (.inRegion ops (i :: rest) :: k) :: cs)
          obtain ⟨hact2, ha2⟩ := X2.act ha1
          refine ⟨E2, w2, hr2, X1.trans X2, ha2.put _ hv, ?_⟩
          rw [← act_put, hact2, hact]
          refine .head (fstep_enter ho hw' hnd hrun) (hsteps.trans (.one ?_))
          rw [← fat_finish ho]
          exact step_leave_returned hleave
        | round l f tmps as bd =>
          simp only [hc] at h
          obtain ⟨r, hr', e⟩ := Option.map_eq_some_iff.1 h
          obtain ⟨v, N2⟩ := r
          cases e
          obtain ⟨E2, w2, hr2, X2, hv, hsteps⟩ := hR.round _ _ _ _ _ _ _ _ hr' E1 w1 hr1 hclo.1 hclo.2 (fat b (E.act a) (.inRegion ops (i :: rest) :: k)) cs
          obtain ⟨hact2, ha2⟩ := X2.act ha1
          refine ⟨E2, w2, hr2, X1.trans X2, ha2.put _ hv, ?_⟩
          rw [← act_put, hact2, hact]
          refine .head (fstep_round ho hw' hnd hrun) ?_
          rw [← fat_finish ho]
          exact hsteps
    · rename_i hw
      have hw' : Region.wanted o (yielded ops (E.act a).tmps) = false := by rw [yielded_act]; simpa using hw
      simp only [Option.some.injEq, Prod.mk.injEq] at h
      obtain ⟨rfl, rfl⟩ := h
      refine ⟨E, w, hr, Ext.refl _ _ _, ha.put _ (undef_clo _), ?_⟩
      rw [← act_put_undef]
      exact .one (fstep_op_skip ho hw')

theorem opList_ok {P : Program} (hP : NoCount P) {R : Rec} (hR : RecOk P R) {ops : Array Oper} : ∀ (l : List Nat) {a a' : CA} {N N' : CH}, opList P R ops l a N = some (a', N') →
    ∀ {E : Env} {w : World}, Rel P E N w → a.Clo E.D → ∀ (b : Frame) (k : List Item) (cs : List Frame),
    ∃ E' w', Rel P E' N' w' ∧ Ext E N w E' N' w' ∧ a'.Clo E'.D ∧ Steps P (lone (fat b (E.act a) (.inRegion ops l :: k)) cs w) (lone (fat b (E'.act a') k) cs w')
  | [], a, a', N, N', h, E, w, hr, ha, b, k, cs => by
    simp only [opList, Option.some.injEq, Prod.mk.injEq] at h
    obtain ⟨rfl, rfl⟩ := h
    exact ⟨E, w, hr, Ext.refl _ _ _, ha, .one fstep_region_end⟩
  | i :: rest, a, a', N, N', h, E, w, hr, ha, b, k, cs => by
    simp only [opList, Option.bind_eq_some_iff] at h
    obtain ⟨⟨a1, N1⟩, h1, h2⟩ := h
    obtain ⟨E1, w1, hr1, X1, ha1, s1⟩ := opStep_ok hP hR h1 hr ha b rest k cs
    obtain ⟨E2, w2, hr2, X2, ha2, s2⟩ := opList_ok hP hR rest h2 hr1 ha1 b k cs
    exact ⟨E2, w2, hr2, X1.trans X2, ha2, s1.trans s2⟩

/-! ### records of loops over functions -/
theorem Rel.setObj {P : Program} {E : Env} {N : CH} {w : World} (R : Rel P E N w) {l : Nat} {b b' : CB} {o o' : Obj} (hl : E.D l) (hwm : N.wm ≤ l) (hg : N.get l = some b) (hb : b.isDead = false) (ho : w.heap[E.f l]? = some o)
    (h' : BlkRel P E l b' (some o')) : Rel P E (N.set l b') { w with heap := w.heap.setIfInBounds (E.f l) o' } ∧ Ext E N w E (N.set l b') { w with heap := w.heap.setIfInBounds (E.f l) o' } := by
  have hlt : E.f l < w.heap.size := (Array.getElem?_eq_some_iff.1 ho).1
  refine R.change hl hwm ⟨_, hg, hb⟩ ?_ (fun j hj => heap_setObj_other w _ j _ hj) (by simp) rfl rfl rfl
  rw [heap_setObj w _ _ hlt]
  exact h'
theorem run_getLoop {P : Program} {w : World} {l : Nat} {r : Loop} (h : w.heap[l]? = some (.loop r)) : (Instr.getLoop l).run P w = .ok r w := by
  simp [Instr.getLoop, getObj, Sem.run, h]
theorem run_setLoop {P : Program} {w : World} {l : Nat} {r : Loop} (o : Obj) (h : w.heap[l]? = some (.loop r)) : (setObj l o).run P w = .ok () { w with heap := w.heap.setIfInBounds l o } := by
  simp [setObj, Sem.run, h]

/-- The loop begins. -/
def centerLoop (fn : FuncId) (a : CA) (params : Array Tmp) (as bd : Code) (ar : Option Nat) (N : CH) : Option (Nat × CA × CH) :=
  match ar with
  | some l =>
    match N.get l with
    | some (.loop r) => if N.sz < 2 ^ depth then some (N.sz, a, N.push (.loop { state := .ready, pending := none, fn, tmps := a.tmps.toArray, params, assign := as, body := bd, defers := r.defers })) else none
    | _ => none
  | none =>
    if N.sz + 1 < 2 ^ depth then
      some (N.sz + 1, { a with dm := N.sz :: a.dm }, (N.push .dfr).push (.loop { state := .ready, pending := none, fn, tmps := a.tmps.toArray, params, assign := as, body := bd, defers := N.sz }))
    else none
theorem enterLoop_ok {P : Program} {E : Env} {N N' : CH} {w : World} (R : Rel P E N w) {fn : FuncId} {a a' : CA} (ha : a.Clo E.D) {params : Array Tmp} {as bd : Code} {ar : Option Nat} (har : ∀ l, ar = some l → E.D l) {l : Nat}
    (h : centerLoop fn a params as bd ar N = some (l, a', N')) :
    ∃ E' w' mark, Rel P E' N' w' ∧ Ext E N w E' N' w' ∧ a'.Clo E'.D ∧ E'.D l ∧ E'.act a' = { E.act a with defers := mark ++ (E.act a).defers } ∧
      (Instr.enterLoop fn (E.act a).tmps params as bd (ar.map E.f)).run P w = .ok (E'.f l, mark) w' := by
  unfold centerLoop at h
  cases ar with
  | some l0 =>
    simp only at h
    cases hg : N.get l0 with
    | none => simp [hg] at h
    | some b =>
      cases b with
      | loop r =>
        simp only [hg] at h
        split at h
        · rename_i hsz
          simp only [Option.some.injEq, Prod.mk.injEq] at h
          obtain ⟨rfl, rfl, rfl⟩ := h
          have hd := har l0 rfl
          obtain ⟨⟨_, hdf⟩, ho⟩ := R.blk l0 _ hd hg
          have hne : ∀ j, E.D j → j ≠ N.sz := fun j hj => by have := R.dom j hj; omega
          obtain ⟨R', X⟩ := R.new hsz (b := .loop { state := .ready, pending := none, fn, tmps := a.tmps.toArray, params, assign := as, body := bd, defers := r.defers })
            (o := .loop { state := .ready, pending := none, fn, tmps := (E.act a).tmps, params, assign := as, body := bd, defers := E.f r.defers }) (y := 0) (z := 0) (by
              refine ⟨⟨fun v hv => Clo_mono (fun _ h => .inr h) v (ha.tmps v (by simpa using hv)), .inr hdf⟩, ?_⟩
              have h1 : a.tmps.toArray.map (E.add N.sz w.heap.size 0 0).m = (E.act a).tmps := by
                apply Array.ext'
                simp only [Array.toList_map, Env.act]
                exact List.map_congr_left fun v hv => R.clo_lt (ha.tmps v hv)
              have h2 : (E.add N.sz w.heap.size 0 0).f r.defers = E.f r.defers := by simp [Env.add, hne _ hdf]
              simp only [h1, h2])
          obtain ⟨hact, ha'⟩ := X.act ha
          refine ⟨_, _, [], R', X, ha', Env.add_D .., by rw [hact]; rfl, ?_⟩
          simp [Instr.enterLoop, run_getLoop ho, Env.add]
        · cases h
      | _ => simp [hg] at h
  | none =>
    simp only at h
    split at h
    · rename_i hsz
      simp only [Option.some.injEq, Prod.mk.injEq] at h
      obtain ⟨rfl, rfl, rfl⟩ := h
      obtain ⟨R1, X1⟩ := R.new (show N.sz < 2 ^ depth by omega) (b := .dfr) (o := .deferred (some [])) (y := 0) (z := 0) rfl
      obtain ⟨hact1, ha1⟩ := X1.act ha
      have hs1 : (N.push .dfr).sz = N.sz + 1 := rfl
      have hD1 : (E.add N.sz w.heap.size 0 0).D N.sz := Env.add_D ..
      have hne : ∀ j, (E.add N.sz w.heap.size 0 0).D j → j ≠ N.sz + 1 := fun j hj => by have := R1.dom j hj; omega
      obtain ⟨R2, X2⟩ := R1.new (by rw [hs1]; exact hsz) (b := .loop { state := .ready, pending := none, fn, tmps := a.tmps.toArray, params, assign := as, body := bd, defers := N.sz })
        (o := .loop { state := .ready, pending := none, fn, tmps := (E.act a).tmps, params, assign := as, body := bd, defers := w.heap.size }) (y := 0) (z := 0) (by
          refine ⟨⟨fun v hv => Clo_mono (fun _ h => .inr h) v (ha1.tmps v (by simpa using hv)), .inr hD1⟩, ?_⟩
          have h1 : a.tmps.toArray.map ((E.add N.sz w.heap.size 0 0).add (N.push .dfr).sz (w.alloc (.deferred (some []))).heap.size 0 0).m = (E.act a).tmps := by
            rw [← hact1]
            apply Array.ext'
            simp only [Array.toList_map, Env.act]
            exact List.map_congr_left fun v hv => R1.clo_lt (ha1.tmps v hv)
          have h2 : ((E.add N.sz w.heap.size 0 0).add (N.push .dfr).sz (w.alloc (.deferred (some []))).heap.size 0 0).f N.sz = w.heap.size := by
            rw [hs1]
            simp [Env.add]
          simp only [h1, h2])
      obtain ⟨hact2, ha2⟩ := X2.act ha1
      refine ⟨_, _, [{ target := .collected w.heap.size, args := #[] }], R2, X1.trans X2, ⟨ha2.tmps, ?_⟩, Env.add_D .., ?_, ?_⟩
      · intro k hk
        rcases List.mem_cons.1 hk with rfl | hk
        · exact .inr hD1
        · exact ha2.dm k hk
      · have hf : ((E.add N.sz w.heap.size 0 0).add (N.push .dfr).sz (w.alloc (.deferred (some []))).heap.size 0 0).f N.sz = w.heap.size := by rw [hs1]; simp [Env.add]
        rw [← hact1, ← hact2]
        simp only [Env.act, List.map_cons, hf]
        rfl
      · have hf : ((E.add N.sz w.heap.size 0 0).add (N.push .dfr).sz (w.alloc (.deferred (some []))).heap.size 0 0).f (N.sz + 1) = (w.alloc (.deferred (some []))).heap.size := by rw [hs1]; simp [Env.add]
        rw [hf]
        simp [Instr.enterLoop]
    · cases h
def cendLoop (l : Nat) (N : CH) : Option (Option Code × CH) :=
  match N.get l with
  | some (.loop r) => if r.state = .busy then none else (N.wset l (.loop { r with state := .exhausted })).map fun N' => (r.pending, N')
  | _ => none
theorem endLoop_ok {P : Program} {E : Env} {N N' : CH} {w : World} (R : Rel P E N w) {l : Nat} (hl : E.D l) {jump : Option Code} (h : cendLoop l N = some (jump, N')) :
    ∃ w', Rel P E N' w' ∧ Ext E N w E N' w' ∧ (Instr.endLoop (E.f l)).run P w = .ok jump w' := by
  unfold cendLoop at h
  split at h
  · rename_i r hg
    split at h
    · cases h
    · rename_i hb
      obtain ⟨N1, hN1, e⟩ := Option.map_eq_some_iff.1 h
      cases e
      obtain ⟨hwm, rfl⟩ := CH.wset_some hN1
      obtain ⟨hc, ho⟩ := R.blk l _ hl hg
      obtain ⟨R', X⟩ := R.setObj hl hwm hg rfl ho (b' := .loop { r with state := .exhausted }) ⟨hc, rfl⟩
      refine ⟨_, R', X, ?_⟩
      have hb' : (r.state == LoopState.busy) = false := by simpa using hb
      simp only [Instr.endLoop, Sem.run_bind, run_getLoop ho, Result.andThen_ok, hb', Bool.false_eq_true, if_false, Sem.run_pure]
      rw [run_setLoop _ ho]
      rfl
  · cases h
def cbegin (l : Nat) (N : CH) : Option CH :=
  match N.get l with
  | some (.loop r) => if r.state = .ready then N.wset l (.loop { r with state := .busy }) else none
  | _ => none
theorem beginRound_ok {P : Program} {E : Env} {N N' : CH} {w : World} (R : Rel P E N w) {l : Nat} (hl : E.D l) (h : cbegin l N = some N') :
    ∃ w', Rel P E N' w' ∧ Ext E N w E N' w' ∧ (Instr.beginRound (E.f l)).run P w = .ok () w' := by
  unfold cbegin at h
  split at h
  · rename_i r hg
    split at h
    · rename_i hb
      obtain ⟨hwm, rfl⟩ := CH.wset_some h
      obtain ⟨hc, ho⟩ := R.blk l _ hl hg
      obtain ⟨R', X⟩ := R.setObj hl hwm hg rfl ho (b' := .loop { r with state := .busy }) ⟨hc, rfl⟩
      refine ⟨_, R', X, ?_⟩
      simp only [Instr.beginRound, Sem.run_bind, run_getLoop ho, Result.andThen_ok]
      rw [run_setLoop _ ho]
      simp only [Result.andThen_ok, hb]
      rfl
    · cases h
  · cases h
def Ex.jump : Ex → Option Code
  | .normal => none
  | .ret => some .ret
  | .exit id => some (.exit id)
def cendRound (l : Nat) (jump : Option Code) (N : CH) : Option (Value × CH) :=
  match N.get l with
  | some (.loop r) => (N.wset l (.loop { r with state := if jump.isNone then .ready else .done, pending := jump })).map fun N' => (.bool jump.isNone, N')
  | _ => none
theorem endRound_ok {P : Program} {E : Env} {N N' : CH} {w : World} (R : Rel P E N w) {l : Nat} (hl : E.D l) {jump : Option Code} {v : Value} (h : cendRound l jump N = some (v, N')) :
    ∃ w', Rel P E N' w' ∧ Ext E N w E N' w' ∧ Clo E.D v ∧ (Instr.endRound (E.f l) jump).run P w = .ok (E.m v) w' := by
  unfold cendRound at h
  split at h
  · rename_i r hg
    obtain ⟨N1, hN1, e⟩ := Option.map_eq_some_iff.1 h
    cases e
    obtain ⟨hwm, rfl⟩ := CH.wset_some hN1
    obtain ⟨hc, ho⟩ := R.blk l _ hl hg
    obtain ⟨R', X⟩ := R.setObj hl hwm hg rfl ho (b' := .loop { r with state := if jump.isNone then .ready else .done, pending := jump }) ⟨hc, rfl⟩
    refine ⟨_, R', X, trivial, ?_⟩
    simp only [Instr.endRound, Sem.run_bind, run_getLoop ho, Result.andThen_ok]
    rw [run_setLoop _ ho]
    rfl
  · cases h

end Go.Eng
