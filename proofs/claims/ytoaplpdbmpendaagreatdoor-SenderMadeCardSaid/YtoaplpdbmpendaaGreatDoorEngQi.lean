/-
  The engine, part Qh: what a row's proof begins with, for a call that starts goroutines and whose row lists tables: the condition's parts; a table in memory.
-/
import Derived.Test.YtoaplpdbmpendaaGreatDoorEngQg
import Derived.Lib.LaidTab
import Derived.LaidSub
set_option linter.unusedSectionVars false
set_option linter.unusedSimpArgs false
set_option linter.unusedVariables false
namespace Go.Eng
open Go.Conc
set_option linter.unusedSimpArgs false
set_option linter.unusedVariables false
set_option linter.unusedSectionVars false

section
variable {H : Type} {enc : TypeId × Value → H}
/-- One good run from every start: as the row asks for it. -/
theorem returnsInLeavingWide_of_change_and {a : Assume} {C : Checked} {os : Os} {f : FuncId} {fn : Func} {s : ChangeSpec} {conds : List PathCond} {apart fresh handsOn again : Bool} {X : World → Array Value → Prop}
    (hX : ∀ (w w' : World) (args : Array Value), w.heap = w'.heap → X w args → X w' args)
    (own : ownKnob C.prog.godebug = none) (started : os.Started) (hfn : C.prog.funcs[f]? = some fn)
    (witness : ∃ (w : World) (tape : Tape) (i : Input), w.os = os ∧ (w.forCall tape i).Shaped C.prog ∧ i.vars = [] ∧ Input.okWide C.prog (w.forCall tape i) .any w.heap.size f i ∧
      ((s.pre enc C.prog fn conds apart (w.forCall tape i).memory i.args ∧ X (w.forCall tape i).memory i.args) ∧ sizedMet enc C.prog fn (OpenSpec.ofChange s) apart (w.forCall tape i).memory i.args) ∧ a.holds C.prog (lone (Frame.enter C.prog f i.args .normal) [] (w.forCall tape i)))
    (runs : ∀ (W : World) (base : Nat) (args : Array Value) (ds gs : List (DataW H)) (before : List MemPlace),
      (∀ (j : Nat) t v, fn.params[j]? = some t → args[j]? = some v → Value.okWide C.prog W .any base t v) →
      DataW.Whole enc C.prog fn.params.toList s.vars apart W args.toList ds gs before →
      conds.all (PathCond.test C.prog ⟨fn.params.toList, ds, s.plain.varTypes C.prog, gs⟩) = true →
      (DataW.weightsEach C.prog (fn.params.toList ++ s.plain.varTypes C.prog) (ds ++ gs)).all (· ≤ reachBytes) = true → X W args → W.ShapedOpen C.prog →
      a.holds C.prog (lone (Frame.enter C.prog f args .normal) [] W) →
      ∃ M last o w' t', runNT C.prog (M + 1) (solo (G (Frame.enter C.prog f args .normal) []) W) #[] = (.ended o w', t') ∧ runN C.prog M (solo (G (Frame.enter C.prog f args .normal) []) W) = .next last ∧
        step C.prog last = .ended o w' ∧ Conc.Good C.prog (fun v W' => s.post enc C.prog fn apart fresh handsOn again W args v W') last o w' t') :
    ReturnsInLeavingWide a C os f .any (fun w args => (s.pre enc C.prog fn conds apart w args ∧ X w args) ∧ sizedMet enc C.prog fn (OpenSpec.ofChange s) apart w args) (s.post enc C.prog fn apart fresh handsOn again) := by
  refine returnsInLeavingWide_of_good own started witness ?_
  intro w tape i _ hshape _ hok hpre hholds
  obtain ⟨_, _, _, fn', hfn', _, _, _, _, hval⟩ := hok
  have e : fn' = fn := Option.some.inj (hfn'.symm.trans hfn)
  subst e
  obtain ⟨⟨⟨ds, gs, before, hw, hc⟩, hx⟩, hz⟩ := hpre
  have hw' := DataW.Whole.of_heap (w' := w.forCall tape i) (by rfl) hw
  obtain ⟨M, last, o, w', t', h1, h2, h3, h4⟩ := runs (w.forCall tape i) w.heap.size i.args ds gs before hval hw' hc (hz.weights hw) (hX _ _ _ (by rfl) hx) hshape hholds
  exact ⟨M, last, o, w', t', h1, h2, h3, h4.mono fun v hp => ChangeSpec.post_blind hp⟩
end
/-- A table that a row lists, in memory. -/
theorem laid_tab {P : Program} {W : World} {laid : List (String × DataW Unit)} {name : String} {k : IntKind} {zs : List Int} {g : Nat} {t e ty : TypeId} {n : Nat}
    (hg : P.globalNamed name = some g) (hty : (P.globals[g]?).map (·.type) = some t) (ht : P.underlying t = some (.array n e)) (he : P.underlying e = some (.int k)) (hce : P.cellsOf e = 1) (hct : P.cellsOf t = n)
    (hl : laid.filter (fun x => x.1 == name) = [(name, Lib.tabData k zs)]) (hrow : (((begin P (fun _ _ => 0) default).world.heap[g]?).bind Obj.row?).map (·.2) = some ty) (hlt : g < P.globals.size)
    (h : laidMet P laid W) (hs : W.ShapedOpen P) : W.heap[g]? = some (.cells (zs.map fun z => Value.int k z).toArray ty) := by
  have h1 := laidMet.filter (fun x => x.1 == name) h
  rw [hl] at h1
  have h2 := Lib.tabIs_of_head hg hty ht he hce hct h1
  obtain ⟨⟨zero, t'⟩, h3, h4⟩ := Option.map_eq_some_iff.1 hrow
  simp only at h4
  subst h4
  obtain ⟨cs, h5, _⟩ := hs.1 g zero t' hlt h3
  unfold Lib.TabIs World.var? at h2
  rw [hg] at h2
  simp only [Option.bind_some, h5, Option.some.injEq] at h2
  rw [h5, h2]
/-- .. as the engine has it. -/
theorem laid_at {w : World} {g : Nat} {c : List Value} {e : TypeId} (hc : plainL c = true) (h : w.heap[g]? = some (.cells c.toArray e)) : Laid (List.replicate g none ++ [some (.row c e false)]) w := by
  intro k b hk hb
  rcases Nat.lt_or_ge k g with h1 | h1
  · rw [List.getElem?_append_left (by simpa using h1)] at hb
    simp [h1] at hb
  · rw [List.getElem?_append_right (by simpa using h1)] at hb
    simp only [List.length_replicate] at hb
    cases hd : k - g with
    | zero =>
      rw [hd] at hb
      simp only [List.getElem?_cons_zero, Option.some.injEq] at hb
      have : k = g := by omega
      subst this
      exact ⟨c, e, hb.symm, hc, h⟩
    | succ d =>
      rw [hd] at hb
      simp at hb
end Go.Eng
namespace Go.Eng
open Go.Conc
open Go.Conc.Lib (WgLib WgLink)
open Go.ConcR (Payload)
set_option linter.unusedSimpArgs false
set_option linter.unusedVariables false
set_option linter.unusedSectionVars false

/-- The library's functions without a body. -/
def xf (L : WgLink) : XF := ⟨L.disable, L.enable, L.acquire, L.raceRead, L.raceWrite, L.addU64, L.loadU64, L.casU64, L.semacquire⟩
open Go.Conc.Lib Go.ConcR.Gen in
theorem xf_ok {P : Program} {L : WgLink} (H : WgLib P L) : XOk P (xf L) :=
  ⟨⟨_, H.f_disable, x_disable_n L, x_disable_b L, x_disable_x L, x_disable_f L⟩, ⟨_, H.f_enable, x_enable_n L, x_enable_b L, x_enable_x L, x_enable_f L⟩, ⟨_, H.f_acquire, x_acquire_n L, x_acquire_b L, x_acquire_x L, x_acquire_f L⟩,
    ⟨_, H.f_raceRead, x_raceRead_n L, x_raceRead_b L, x_raceRead_x L, x_raceRead_f L⟩, ⟨_, H.f_raceWrite, x_raceWrite_n L, x_raceWrite_b L, x_raceWrite_x L, x_raceWrite_f L⟩, ⟨_, H.f_addU64, x_addU64_n L, x_addU64_b L, x_addU64_x L, x_addU64_f L⟩,
    ⟨_, H.f_loadU64, x_loadU64_n L, x_loadU64_b L, x_loadU64_x L, x_loadU64_f L⟩, ⟨_, H.f_casU64, x_casU64_n L, x_casU64_b L, x_casU64_x L, x_casU64_f L⟩, ⟨_, H.f_semacquire, x_semacquire_n L, x_semacquire_b L, x_semacquire_x L, x_semacquire_f L⟩⟩
section
variable {P : Program} {fuel na m k kC Ld d : Nat} {L : WgLink} {f : FuncId} {args : List Value} {v : Value} {kp kch keys : List Nat}
/-- The run, asked of both kinds of call. -/
structure OneRan (P : Program) (fuel na m k kC Ld d : Nat) (L : WgLink) (f : FuncId) (args : List Value) (v : Value) (kp kch keys : List Nat) (kd : CallKind) : Prop where
  some : (oneEnd P (fRec P noHook Ld d) fuel na m k kC L.tWg L.done (xf L) f args v kd kp kch keys).isSome = true
  same : (oneEnd P (fRec P noHook Ld d) fuel na m k kC L.tWg L.done (xf L) f args v kd kp kch keys).map Prod.fst = (oneEnd P (fRec P noHook Ld d) fuel na m k kC L.tWg L.done (xf L) f args v kd kp kch keys).map Prod.snd
theorem known_comes [Payload] (hP : NoCount P) (hm : P.follows .mixedOrders = true) (wg : WgLib P L) (hargs : plainL args = true) (hv : plain v = true) (h1 : OneRan P fuel na m k kC Ld d L f args v kp kch keys .normal) (h2 : OneRan P fuel na m k kC Ld d L f args v kp kch keys .deferred)
    {kd : CallKind} {cs : List Frame} (hcs : Caller kd cs) (O W : Nat → Prop) (w : World) : Comes P (BackK P f kd v cs O W w) O W (G (Frame.enter P f args.toArray kd) cs) w := by
  letI : Hk := ⟨false⟩
  have hok : RecOk P (mkRec P noHook Ld d) := mkRec_ok hP hm (noHook_ok P) Ld d
  have hle : (fRec P noHook Ld d).Le (mkRec P noHook Ld d) := fRec_le noHook Ld d
  have hb : Base P (fRec P noHook Ld d) (mkRec P noHook Ld d) L (xf L) := ⟨hP, hm, hle, hok, xf_ok wg, wg⟩
  rcases hcs.1 with rfl | rfl
  · exact one_comes rfl hb hargs hv (one_ok hP hm hle hok h1.some h1.same) hcs O W w
  · exact one_comes rfl hb hargs hv (one_ok hP hm hle hok h2.some h2.same) hcs O W w
/-- A hook that knows one call. -/
def hook1 (f : FuncId) (is : List Value → Bool) (v : Value) : Hook := fun g args N => if Nat.beq g f = true then if is args = true then some (v, N) else none else none
theorem hook1_ok [Payload] (hP : NoCount P) (hm : P.follows .mixedOrders = true) (wg : WgLib P L) {is : List Value → Bool} (his : ∀ as, is as = true → as = args) (hargs : plainL args = true) (hv : plain v = true) (hb : (P.funcs[f]?).any (fun fn => fn.body.isSome) = true)
    (h1 : OneRan P fuel na m k kC Ld d L f args v kp kch keys .normal) (h2 : OneRan P fuel na m k kC Ld d L f args v kp kch keys .deferred) : @HookOk ⟨true⟩ P (hook1 f is v) := by
  letI : Hk := ⟨true⟩
  intro g as N u N' h
  unfold hook1 at h
  split at h
  rotate_left
  · cases h
  rename_i hg
  split at h
  rotate_left
  · cases h
  rename_i ha
  simp only [Option.some.injEq, Prod.mk.injEq] at h
  obtain ⟨rfl, rfl⟩ := h
  obtain rfl := Nat.eq_of_beq_eq_true hg
  obtain rfl := his as ha
  refine ⟨call_of_comes rfl hargs hv (fun kd cs hcs O W w => known_comes hP hm wg hargs hv h1 h2 hcs O W w) N, ?_⟩
  cases hf : P.funcs[g]? with
  | none => rw [hf] at hb; cases hb
  | some fn => exact ⟨fn, rfl, by rw [hf] at hb; exact hb⟩
end
end Go.Eng
