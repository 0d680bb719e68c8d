/-
  The engine, part L: code, calls, rounds; the whole.
-/
import Derived.Test.YtjoelgicffojcaaGreatDoorEngK
import Derived.Test.YtjoelgicffojcaaGreatDoorEngI
set_option linter.unusedSectionVars false
set_option linter.unusedSimpArgs false
set_option linter.unusedVariables false
namespace Go.Eng
noncomputable section
open Go.Conc (G)
set_option linter.unusedSimpArgs false
set_option linter.unusedVariables false
set_option linter.unusedSectionVars false
variable [Hk]
def iter (f : CA → CH → Option (Ex × CA × CH)) : Nat → CA → CH → Option (Ex × CA × CH)
 | 0, _, _ => none
 | n + 1, a, N => match f a N with
  | some (.normal, a', N') => iter f n a' N'
  | r => r
def crangeCall (P : Program) (R : Rec) (a : CA) (f : Operand) (l : Nat) (N : CH) : Option (Value × CH) :=
 match cev a f with
 | some (.func (.func g) p q) =>
  match P.funcs[g]? with
  | some fn => if fn.body.isSome = true then R.call g (p.toList ++ [.func (.yield l) #[] #[]] ++ q.toList) N else none
  | none => none
 | _ => none
def jumpEx : Option Code → Option Ex
 | none => some .normal
 | some .ret => some .ret
 | some (.exit id) => some (.exit id)
 | _ => none
def exec (P : Program) (R : Rec) (L : Nat) (fn : FuncId) (ar : Option Nat) : Code → CA → CH → Option (Ex × CA × CH)
 | .skip, a, N => some (.normal, a, N)
 | .region _ ops draw, a, N => if draw = true then (cdraw P R ops a N).map fun r => (.normal, r.1, r.2) else (opList P R ops ar (List.range ops.size) a N).map fun r => (.normal, r.1, r.2)
 | .seq x y, a, N => match exec P R L fn ar x a N with
  | some (.normal, a', N') => exec P R L fn ar y a' N'
  | r => r
 | .cond c x y, a, N => match cev a c with
  | some (.bool true) => exec P R L fn ar x a N
  | some (.bool false) => exec P R L fn ar y a N
  | _ => none
 | .block id c, a, N => match exec P R L fn ar c a N with
  | some (.exit id', a', N') => if id' = id then some (.normal, a', N') else some (.exit id', a', N')
  | r => r
 | .loop c, a, N => iter (exec P R L fn ar c) L a N
 | .exit id, a, N => some (.exit id, a, N)
 | .ret, a, N => some (.ret, a, N)
 | .rangeFunc f params as bd, a, N =>
  (centerLoop fn a params as bd ar N).bind fun (l, a', N1) =>
  (crangeCall P R a f l N1).bind fun (_, N2) =>
  (cendLoop l N2).bind fun (jump, N3) =>
  (jumpEx jump).map fun e => (e, a', N3)
 | _, _, _ => none
theorem events_callFunc {P : Program} (hP : NoCount P) {f : FuncId} {fn : Func} (hf : P.funcs[f]? = some fn) (hb : fn.body.isSome = true) (args : Array Value) (w : World) : (callFunc f args).events P w #[] = #[] := by
 have h1 : ¬ fn.name = "runtime.NumGoroutine" := by simpa using hP f fn hf hb
 have h2 : ¬ fn.body = none := by intro h; rw [h] at hb; cases hb
 simp [callFunc, hf, h1, h2]
theorem enter_loop {fn : FuncId} {a a' : CA} {params : Array Tmp} {as bd : Code} {ar : Option Nat} {N N' : CH} {l : Nat} (h : centerLoop fn a params as bd ar N = some (l, a', N')) : ∀ j, ar = some j → ∃ r, N.get j = some (.loop r) := by
 intro j hj
 subst hj
 unfold centerLoop at h
 split at h
 ·rename_i l0 hl
  cases hl
  split at h
  ·rename_i r hg
   exact ⟨r, hg⟩
  ·cases h
 ·rename_i hl
  cases hl
theorem getLoop_evs {P : Program} {E : Env} {N : CH} {w : World} (R : Rel P E N w) {wr : Nat → Prop} {l : Nat} (hl : E.D l) {r : Loop} (hg : N.get l = some (.loop r)) : Evs P (Rd E N) wr (Instr.getLoop (E.f l)) w := by
 obtain ⟨_, ho⟩ := R.blk l _ hl hg
 unfold Instr.getLoop
 exact (evs_getObj ho rfl ⟨l, hl, live_of hg rfl, rfl⟩).ran (run_getObj_ok ho (by simp)) (evs_pure _)
theorem setLoop_evs {P : Program} {E : Env} {N N' : CH} {w : World} (R : Rel P E N w) {l : Nat} (hl : E.D l) {r : Loop} (hg : N.get l = some (.loop r)) (hwm : N'.wm ≤ l) (r' : Loop) : Evs P (Rd E N) (Wr E N N') (setObj (E.f l) (.loop r')) w := by
 obtain ⟨_, ho⟩ := R.blk l _ hl hg
 exact evs_setObj ho rfl ⟨l, hl, live_of hg rfl, rfl⟩ ⟨l, hl, live_of hg rfl, hwm, rfl⟩
theorem enterLoop_evs {P : Program} {E E1 : Env} {N N1 : CH} {w w1 : World} {O W : Nat → Prop} {lo : Nat} (R : Rel P E N w) (H : Own O W lo E N w) {fn : FuncId} {tm : Array Value} {params : Array Tmp} {as bd : Code} {ar : Option Nat} (har : ∀ l, ar = some l → E.D l ∧ ∃ r, N.get l = some (.loop r)) {l : Nat} {mark : List Deferred}
  (R1 : Rel P E1 N1 w1) (hrun : (Instr.enterLoop fn tm params as bd (ar.map E.f)).run P w = .ok (l, mark) w1) : EvOk' O W w w1 ((Instr.enterLoop fn tm params as bd (ar.map E.f)).events P w #[]) := by
 have hlo : lo ≤ N.sz := H.low
 have key : Evs P (Rd E N) (fun _ => False) (Instr.enterLoop fn tm params as bd (ar.map E.f)) w := by
  unfold Instr.enterLoop
  cases ar with
  | none =>
   dsimp only [Option.map_none]
   exact (mute_newObj _).evs.bind fun _ _ _ => (evs_pure _).bind fun _ _ _ => (mute_newObj _).evs.bind fun _ _ _ => evs_pure _
  | some l0 =>
   obtain ⟨hl0, r, hg⟩ := har l0 rfl
   dsimp only [Option.map_some]
   exact (getLoop_evs R hl0 hg).bind fun _ _ _ => (evs_pure _).bind fun _ _ _ => (mute_newObj _).evs.bind fun _ _ _ => evs_pure _
 have hsz : w.heap.size ≤ w1.heap.size := by
  unfold Instr.enterLoop at hrun
  cases ar with
  | none =>
   simp [Option.map_none] at hrun
   rw [← hrun.2]
   simp
   omega
  | some l0 =>
   obtain ⟨hl0, r, hg⟩ := har l0 rfl
   obtain ⟨_, ho⟩ := R.blk l0 _ hl0 hg
   simp [Option.map_some, run_getLoop ho] at hrun
   rw [← hrun.2]
   simp
 intro e he
 rcases key e he with h1 | h1 | ⟨b, h1, h2, ⟨k, hk, hl, rfl⟩, h4⟩
 ·exact .inl h1
 ·exact .inr (.inl h1)
 ·have := H.img k hk hl
  exact .inr (.inr ⟨E.f k, h1, h2, Nat.lt_of_lt_of_le (H.lt _ this) hsz, .inl this, fun hw => (h4 hw).elim⟩)
theorem endLoop_evs {P : Program} {E : Env} {N N' : CH} {w w' : World} {O W : Nat → Prop} {lo : Nat} (R : Rel P E N w) (H : Own O W lo E N w) {l : Nat} (hl : E.D l) {jump : Option Code} (hc : cendLoop l N = some (jump, N')) (hlo : lo ≤ N'.wm) (R' : Rel P E N' w')
  (hrun : (Instr.endLoop (E.f l)).run P w = .ok jump w') : EvOk' O W w w' ((Instr.endLoop (E.f l)).events P w #[]) := by
 obtain ⟨w1, _, X, hr⟩ := endLoop_ok R hl hc
 rw [hrun] at hr
 cases hr
 refine Evs.ok H hlo ?_ X.hsize
 unfold cendLoop at hc
 split at hc
 ·rename_i r hg
  split at hc
  ·cases hc
  ·obtain ⟨N1, hN1, e⟩ := Option.map_eq_some_iff.1 hc
   cases e
   obtain ⟨_, ho⟩ := R.blk l _ hl hg
   unfold Instr.endLoop
   refine (getLoop_evs R hl hg).ran (run_getLoop ho) ?_
   dsimp only
   split
   ·exact (mute_runtimePanic _).evs.bind fun _ _ h => by simp [runtimePanic] at h
   ·exact (setLoop_evs R hl hg (wset_wm hN1) _).bind fun _ _ _ => evs_pure _
 ·cases hc
theorem beginRound_evs {P : Program} {E : Env} {N N' : CH} {w w' : World} {O W : Nat → Prop} {lo : Nat} (R : Rel P E N w) (H : Own O W lo E N w) {l : Nat} (hl : E.D l) (hc : cbegin l N = some N') (hlo : lo ≤ N'.wm) (R' : Rel P E N' w')
  (hrun : (Instr.beginRound (E.f l)).run P w = .ok () w') : EvOk' O W w w' ((do Instr.beginRound (E.f l); pure .skip : Sem Next).events P w #[]) := by
 obtain ⟨w1, _, X, hr⟩ := beginRound_ok R hl hc
 rw [hrun] at hr
 cases hr
 refine Evs.ok H hlo (evs_u ?_) X.hsize
 unfold cbegin at hc
 split at hc
 ·rename_i r hg
  split at hc
  ·obtain ⟨_, ho⟩ := R.blk l _ hl hg
   unfold Instr.beginRound
   refine (getLoop_evs R hl hg).ran (run_getLoop ho) ?_
   dsimp only
   refine (setLoop_evs R hl hg (wset_wm hc) _).bind fun _ _ _ => ?_
   split <;> first | exact evs_pure _ | exact (mute_runtimePanic _).evs
  ·cases hc
 ·cases hc
theorem endRound_evs {P : Program} {E : Env} {N N' : CH} {w w' : World} {O W : Nat → Prop} {lo : Nat} (R : Rel P E N w) (H : Own O W lo E N w) {l : Nat} (hl : E.D l) {jump : Option Code} {v : Value} (hc : cendRound l jump N = some (v, N')) (hlo : lo ≤ N'.wm) (R' : Rel P E N' w')
  (hrun : (Instr.endRound (E.f l) jump).run P w = .ok (E.m v) w') : EvOk' O W w w' ((Instr.endRound (E.f l) jump).events P w #[]) := by
 obtain ⟨w1, _, X, _, hr⟩ := endRound_ok R hl hc
 rw [hrun] at hr
 have : w' = w1 := (Result.ok.inj hr).2
 subst this
 refine Evs.ok H hlo ?_ X.hsize
 unfold cendRound at hc
 split at hc
 ·rename_i r hg
  obtain ⟨N1, hN1, e⟩ := Option.map_eq_some_iff.1 hc
  cases e
  obtain ⟨_, ho⟩ := R.blk l _ hl hg
  unfold Instr.endRound
  refine (getLoop_evs R hl hg).ran (run_getLoop ho) ?_
  dsimp only
  exact (setLoop_evs R hl hg (wset_wm hN1) _).bind fun _ _ _ => evs_pure _
 ·cases hc
theorem takeDeferred_evs {P : Program} {O W : Nat → Prop} {w w' : World} {k : Nat} (hO : O k) (hW : W k) (hb : k < w.heap.size) (ho : w.heap[k]? = some (.deferred (some []))) (hrun : (Instr.takeDeferred k).run P w = .ok [] w') : EvOk' O W w w' ((Instr.takeDeferred k).events P w #[]) := by
 have hg : (getObj k).run P w = .ok (.deferred (some [])) w := run_getObj_ok ho (by simp)
 have hsz : w'.heap.size = w.heap.size := by
  unfold Instr.takeDeferred at hrun
  simp [hg, setObj, Sem.run, ho] at hrun
  rw [← hrun]
  simp
 have key : Evs P (fun b => b = k) (fun b => b = k) (Instr.takeDeferred k) w := by
  unfold Instr.takeDeferred
  refine Evs.ran (evs_getObj (rd := fun b => b = k) (wr := fun b => b = k) ho rfl rfl) hg ?_
  dsimp only
  exact (evs_setObj (rd := fun b => b = k) (wr := fun b => b = k) ho rfl rfl rfl).bind fun _ _ _ => evs_pure _
 intro e he
 rcases key e he with h1 | h1 | ⟨b, h1, h2, rfl, h4⟩
 ·exact .inl h1
 ·exact .inr (.inl h1)
 ·exact .inr (.inr ⟨b, h1, h2, by omega, .inl hO, fun _ => .inl hW⟩)
def ExecOk (P : Program) (fn : FuncId) (ar : Option Nat) (c : Code) (a : CA) (N : CH) (e : Ex) (a' : CA) (N' : CH) : Prop :=
 ∀ (main : Bool) (J : World → Prop) [Ctx main J] (lo : Nat) (E : Env) (w : World) (O W : Nat → Prop), lo ≤ N'.wm → Rel P E N w → Own O W lo E N w → a.Clo E.D → (∀ l, ar = some l → E.D l) → ∀ (b : Frame), b.fn = fn → b.roundOf = ar.map E.f → ∀ (k : List Item) (cs : List Frame), Calm b cs → ∀ K,
  (∀ O' W' E' w' fr, Later P lo O W E N w O' W' E' N' w' → a'.Clo E'.D → Arr b k e (E'.act a') fr → Will P main J K O' W' (G fr cs) w') → Will P main J K O W (G (fat b (E.act a) (.code c :: k)) cs) w
theorem ar_ext {O : Nat → Prop} {E E' : Env} {N N' : CH} {w w' : World} (X : ExtC O E N w E' N' w') {ar : Option Nat} (h : ∀ l, ar = some l → E.D l) : (∀ l, ar = some l → E'.D l) ∧ ar.map E'.f = ar.map E.f := by
 cases ar with
 | none => exact ⟨by simp, rfl⟩
 | some l =>
  obtain ⟨h1, h2, _⟩ := X.mono l (h l rfl)
  exact ⟨fun l' e => by cases e; exact h1, by simp [h2]⟩
theorem ExecOk.facts {P : Program} {fn : FuncId} {ar : Option Nat} {c : Code} {a a' : CA} {N N' : CH} {e : Ex} (h : ExecOk P fn ar c a N e a' N') {E : Env} {w : World} (R : Rel P E N w) (ha : a.Clo E.D) (har : ∀ l, ar = some l → E.D l) :
  ∃ E' w', Rel P E' N' w' ∧ a'.Clo E'.D ∧ N'.wm ≤ N.wm ∧ (∀ l, ar = some l → E'.D l) := by
 obtain ⟨_, _, _, _, hh⟩ := (h true (fun _ => True) 0 E w _ _ (Nat.zero_le _) R (own_all R) ha har { (default : Frame) with fn := fn, kind := .normal, roundOf := ar.map E.f } rfl rfl [] [] (fun _ => caller_nil (.inl rfl))
  (fun _ _ _ _ => ∃ E' w', Rel P E' N' w' ∧ a'.Clo E'.D ∧ N'.wm ≤ N.wm ∧ (∀ l, ar = some l → E'.D l)) fun _ _ E' w' _ L hc _ => .stop fun _ _ _ => ⟨E', w', L.rel, hc, L.ext.wm, (ar_ext L.ext har).1⟩).reaches (fun _ h => h) (fun _ h => h)
 exact hh
theorem iter_wm {P : Program} {fn : FuncId} {ar : Option Nat} {c : Code} {f : CA → CH → Option (Ex × CA × CH)} (hf : ∀ a N e a' N', f a N = some (e, a', N') → ExecOk P fn ar c a N e a' N') :
  ∀ (n : Nat) (a : CA) (N : CH) (e : Ex) (a' : CA) (N' : CH), iter f n a N = some (e, a', N') → ∀ E w, Rel P E N w → a.Clo E.D → (∀ l, ar = some l → E.D l) → N'.wm ≤ N.wm
 | 0, _, _, _, _, _, h => by cases h
 | n + 1, a, N, e, a', N', h => by
  intro E w hr ha har
  simp only [iter] at h
  cases hx : f a N with
  | none => simp [hx] at h
  | some r =>
   obtain ⟨e1, a1, N1⟩ := r
   obtain ⟨E1, w1, hr1, ha1, hw1, har1⟩ := (hf _ _ _ _ _ hx).facts hr ha har
   cases e1 with
   | normal =>
    simp only [hx] at h
    exact Nat.le_trans (iter_wm hf n a1 N1 e a' N' h E1 w1 hr1 ha1 har1) hw1
   | ret =>
    simp only [hx, Option.some.injEq, Prod.mk.injEq] at h
    obtain ⟨rfl, rfl, rfl⟩ := h
    exact hw1
   | exit id =>
    simp only [hx, Option.some.injEq, Prod.mk.injEq] at h
    obtain ⟨rfl, rfl, rfl⟩ := h
    exact hw1
theorem iter_ok {P : Program} {fn : FuncId} {ar : Option Nat} {c : Code} {f : CA → CH → Option (Ex × CA × CH)} (hf : ∀ a N e a' N', f a N = some (e, a', N') → ExecOk P fn ar c a N e a' N') :
  ∀ (n : Nat) (a : CA) (N : CH) (e : Ex) (a' : CA) (N' : CH), iter f n a N = some (e, a', N') →
  ∀ (main : Bool) (J : World → Prop) [Ctx main J] (lo : Nat) (E : Env) (w : World) (O W : Nat → Prop), lo ≤ N'.wm → Rel P E N w → Own O W lo E N w → a.Clo E.D → (∀ l, ar = some l → E.D l) → ∀ (b : Frame), b.fn = fn → b.roundOf = ar.map E.f → ∀ (k : List Item) (cs : List Frame), Calm b cs → ∀ K,
   (∀ O' W' E' w' fr, Later P lo O W E N w O' W' E' N' w' → a'.Clo E'.D → Arr b k e (E'.act a') fr → Will P main J K O' W' (G fr cs) w') → Will P main J K O W (G (fat b (E.act a) (.code c :: .inLoop c :: k)) cs) w
 | 0, _, _, _, _, _, h => by cases h
 | n + 1, a, N, e, a', N', h => by
  intro main J hx lo E w O W hlo hr ow ha har b hfn hro k cs hcalm K hK
  simp only [iter] at h
  cases hx : f a N with
  | none => simp [hx] at h
  | some r =>
   obtain ⟨e1, a1, N1⟩ := r
   have hfx := hf _ _ _ _ _ hx
   cases e1 with
   | normal =>
    simp only [hx] at h
    have hlo1 : lo ≤ N1.wm := by
     obtain ⟨E1, w1, hr1, ha1, _, har1⟩ := hfx.facts hr ha har
     exact Nat.le_trans hlo (iter_wm hf n a1 N1 e a' N' h E1 w1 hr1 ha1 har1)
    refine hfx main J lo E w O W hlo1 hr ow ha har b hfn hro (.inLoop c :: k) cs hcalm K fun O1 W1 E1 w1 fr L1 ha1 hfr => ?_
    cases hfr
    obtain ⟨har1, hre⟩ := ar_ext L1.ext har
    refine .quiet rfl (fun _ => g_inLoop) ?_
    exact iter_ok hf n a1 N1 e a' N' h main J lo E1 w1 O1 W1 hlo L1.rel L1.own ha1 har1 b hfn (by rw [hre]; exact hro) k cs hcalm K fun O2 W2 E2 w2 fr L2 ha2 hfr => hK O2 W2 E2 w2 fr (L1.trans L2) ha2 hfr
   | ret =>
    simp only [hx, Option.some.injEq, Prod.mk.injEq] at h
    obtain ⟨rfl, rfl, rfl⟩ := h
    exact hfx main J lo E w O W hlo hr ow ha har b hfn hro (.inLoop c :: k) cs hcalm K fun O1 W1 E1 w1 fr L1 ha1 hfr => hK O1 W1 E1 w1 fr L1 ha1 hfr
   | exit id =>
    simp only [hx, Option.some.injEq, Prod.mk.injEq] at h
    obtain ⟨rfl, rfl, rfl⟩ := h
    refine hfx main J lo E w O W hlo hr ow ha har b hfn hro (.inLoop c :: k) cs hcalm K fun O1 W1 E1 w1 fr L1 ha1 hfr => hK O1 W1 E1 w1 fr L1 ha1 ?_
    obtain ⟨t, ht, hs⟩ := hfr
    exact ⟨t, ht.trans rfl, hs⟩
theorem exec_ok {P : Program} (hP : NoCount P) (hm : P.follows .mixedOrders = true) {R : Rec} (hR : RecOk P R) (L : Nat) (fn : FuncId) (ar : Option Nat) :
  ∀ (c : Code) (a : CA) (N : CH) (e : Ex) (a' : CA) (N' : CH), exec P R L fn ar c a N = some (e, a', N') → ExecOk P fn ar c a N e a' N' := by
 intro c
 induction c with
 | skip =>
  intro a N e a' N' h main J _ lo E w O W hlo hr ow ha har b hfn hro k cs hcalm K hK
  simp only [exec, Option.some.injEq, Prod.mk.injEq] at h
  obtain ⟨rfl, rfl, rfl⟩ := h
  exact .quiet rfl (fun _ => g_skip) (hK O W E w _ (Later.refl hr ow) ha rfl)
 | region id ops draw =>
  intro a N e a' N' h main J _ lo E w O W hlo hr ow ha har b hfn hro k cs hcalm K hK
  simp only [exec] at h
  cases draw with
  | true =>
   simp only [if_true] at h
   obtain ⟨⟨a1, N1⟩, h1, h2⟩ := Option.map_eq_some_iff.1 h
   simp only [Prod.mk.injEq] at h2
   obtain ⟨rfl, rfl, rfl⟩ := h2
   exact cdraw_ok hP hm hR h1 hlo hr ow ha b id k cs fun O' W' E' w' L ha' => hK O' W' E' w' _ L ha' rfl
  | false =>
   simp only [Bool.false_eq_true, if_false] at h
   obtain ⟨⟨a1, N1⟩, h1, h2⟩ := Option.map_eq_some_iff.1 h
   simp only [Prod.mk.injEq] at h2
   obtain ⟨rfl, rfl, rfl⟩ := h2
   refine .quiet rfl (fun _ => g_region) ?_
   exact opList_ok hP hR _ h1 hlo hr ow ha b (fun e => by rw [hro, e]; rfl) k cs hcalm fun O' W' E' w' L ha' => hK O' W' E' w' _ L ha' rfl
 | seq x y ix iy =>
  intro a N e a' N' h main J _ lo E w O W hlo hr ow ha har b hfn hro k cs hcalm K hK
  simp only [exec] at h
  cases hx : exec P R L fn ar x a N with
  | none => simp [hx] at h
  | some r =>
   obtain ⟨e1, a1, N1⟩ := r
   have hex := ix _ _ _ _ _ hx
   refine .quiet rfl (fun _ => g_seq) ?_
   cases e1 with
   | normal =>
    simp only [hx] at h
    have hey := iy _ _ _ _ _ h
    have hlo1 : lo ≤ N1.wm := by
     obtain ⟨E1, w1, hr1, ha1, _, har1⟩ := hex.facts hr ha har
     obtain ⟨_, _, _, _, hw2, _⟩ := hey.facts hr1 ha1 har1
     exact Nat.le_trans hlo hw2
    refine hex main J lo E w O W hlo1 hr ow ha har b hfn hro (.code y :: k) cs hcalm K fun O1 W1 E1 w1 fr L1 ha1 hfr => ?_
    cases hfr
    obtain ⟨har1, hre⟩ := ar_ext L1.ext har
    exact hey main J lo E1 w1 O1 W1 hlo L1.rel L1.own ha1 har1 b hfn (by rw [hre]; exact hro) k cs hcalm K fun O2 W2 E2 w2 fr L2 ha2 hfr => hK O2 W2 E2 w2 fr (L1.trans L2) ha2 hfr
   | ret =>
    simp only [hx, Option.some.injEq, Prod.mk.injEq] at h
    obtain ⟨rfl, rfl, rfl⟩ := h
    exact hex main J lo E w O W hlo hr ow ha har b hfn hro (.code y :: k) cs hcalm K fun O1 W1 E1 w1 fr L1 ha1 hfr => hK O1 W1 E1 w1 fr L1 ha1 hfr
   | exit id =>
    simp only [hx, Option.some.injEq, Prod.mk.injEq] at h
    obtain ⟨rfl, rfl, rfl⟩ := h
    refine hex main J lo E w O W hlo hr ow ha har b hfn hro (.code y :: k) cs hcalm K fun O1 W1 E1 w1 fr L1 ha1 hfr => hK O1 W1 E1 w1 fr L1 ha1 ?_
    obtain ⟨t, ht, hs⟩ := hfr
    exact ⟨t, ht.trans rfl, hs⟩
 | cond c x y ix iy =>
  intro a N e a' N' h main J _ lo E w O W hlo hr ow ha har b hfn hro k cs hcalm K hK
  simp only [exec] at h
  cases hc : cev a c with
  | none => simp [hc] at h
  | some v =>
   have hev := (cev_ok hr.gl ha c v hc).1
   cases v with
   | bool t =>
    have hb : (E.act a).eval c = .bool t := hev
    refine .quiet rfl (fun _ => g_cond hb) ?_
    cases t with
    | true =>
     simp only [hc] at h
     exact ix _ _ _ _ _ h main J lo E w O W hlo hr ow ha har b hfn hro k cs hcalm K hK
    | false =>
     simp only [hc] at h
     exact iy _ _ _ _ _ h main J lo E w O W hlo hr ow ha har b hfn hro k cs hcalm K hK
   | _ => simp [hc] at h
 | block id c ic =>
  intro a N e a' N' h main J _ lo E w O W hlo hr ow ha har b hfn hro k cs hcalm K hK
  simp only [exec] at h
  cases hx : exec P R L fn ar c a N with
  | none => simp [hx] at h
  | some r =>
   obtain ⟨e1, a1, N1⟩ := r
   have hex := ic _ _ _ _ _ hx
   refine .quiet rfl (fun _ => g_block) ?_
   cases e1 with
   | normal =>
    simp only [hx, Option.some.injEq, Prod.mk.injEq] at h
    obtain ⟨rfl, rfl, rfl⟩ := h
    refine hex main J lo E w O W hlo hr ow ha har b hfn hro (.inBlock id :: k) cs hcalm K fun O1 W1 E1 w1 fr L1 ha1 hfr => ?_
    cases hfr
    exact .quiet rfl (fun _ => g_inBlock) (hK O1 W1 E1 w1 _ L1 ha1 rfl)
   | ret =>
    simp only [hx, Option.some.injEq, Prod.mk.injEq] at h
    obtain ⟨rfl, rfl, rfl⟩ := h
    exact hex main J lo E w O W hlo hr ow ha har b hfn hro (.inBlock id :: k) cs hcalm K fun O1 W1 E1 w1 fr L1 ha1 hfr => hK O1 W1 E1 w1 fr L1 ha1 hfr
   | exit id' =>
    simp only [hx] at h
    split at h
    ·rename_i he
     simp only [Option.some.injEq, Prod.mk.injEq] at h
     obtain ⟨rfl, rfl, rfl⟩ := h
     subst he
     refine hex main J lo E w O W hlo hr ow ha har b hfn hro (.inBlock id' :: k) cs hcalm K fun O1 W1 E1 w1 fr L1 ha1 hfr => ?_
     obtain ⟨t, ht, rfl⟩ := hfr
     exact .quiet rfl (fun _ => g_exit (by rw [ht]; simp [exitTo])) (hK O1 W1 E1 w1 _ L1 ha1 rfl)
    ·rename_i he
     simp only [Option.some.injEq, Prod.mk.injEq] at h
     obtain ⟨rfl, rfl, rfl⟩ := h
     refine hex main J lo E w O W hlo hr ow ha har b hfn hro (.inBlock id :: k) cs hcalm K fun O1 W1 E1 w1 fr L1 ha1 hfr => hK O1 W1 E1 w1 fr L1 ha1 ?_
     obtain ⟨t, ht, hs⟩ := hfr
     refine ⟨t, ?_, hs⟩
     rw [ht]
     have : (id == id') = false := by simpa using fun h => he h.symm
     simp [exitTo, this]
 | loop c ic =>
  intro a N e a' N' h main J _ lo E w O W hlo hr ow ha har b hfn hro k cs hcalm K hK
  simp only [exec] at h
  refine .quiet rfl (fun _ => g_loop) ?_
  exact iter_ok (fun a N e a' N' hx => ic a N e a' N' hx) L a N e a' N' h main J lo E w O W hlo hr ow ha har b hfn hro k cs hcalm K hK
 | exit id =>
  intro a N e a' N' h main J _ lo E w O W hlo hr ow ha har b hfn hro k cs hcalm K hK
  simp only [exec, Option.some.injEq, Prod.mk.injEq] at h
  obtain ⟨rfl, rfl, rfl⟩ := h
  exact hK O W E w _ (Later.refl hr ow) ha ⟨k, rfl, rfl⟩
 | ret =>
  intro a N e a' N' h main J _ lo E w O W hlo hr ow ha har b hfn hro k cs hcalm K hK
  simp only [exec, Option.some.injEq, Prod.mk.injEq] at h
  obtain ⟨rfl, rfl, rfl⟩ := h
  exact hK O W E w _ (Later.refl hr ow) ha ⟨k, rfl⟩
 | rangeFunc f params as bd _ _ =>
  intro a N e a' N' h main J _ lo E w O W hlo hr ow ha har b hfn hro k cs hcalm K hK
  simp only [exec, Option.bind_eq_some_iff, Option.map_eq_some_iff] at h
  obtain ⟨⟨l, a1, N1⟩, h1, ⟨v, N2⟩, h2, ⟨jump, N3⟩, h3, e', h4, h5⟩ := h
  simp only [Prod.mk.injEq] at h5
  obtain ⟨rfl, rfl, rfl⟩ := h5
  unfold crangeCall at h2
  cases hf : cev a f with
  | none => simp [hf] at h2
  | some fv =>
   obtain ⟨hev, hcl⟩ := cev_ok hr.gl ha f fv hf
   cases fv with
   | func g p q =>
    cases g with
    | func g =>
     simp only [hf] at h2
     cases hfn2 : P.funcs[g]? with
     | none => simp [hfn2] at h2
     | some fn2 =>
      simp only [hfn2] at h2
      split at h2
      ·rename_i hbody
       have hpq : (∀ u ∈ p.toList, Clo E.D u) ∧ (∀ u ∈ q.toList, Clo E.D u) := by
        obtain ⟨p⟩ := p; obtain ⟨q⟩ := q
        exact ⟨CloL_all.1 hcl.2.1, CloL_all.1 hcl.2.2⟩
       have hargs : ∀ {E1 : Env} {w w1 : World}, Ext E N w E1 N1 w1 → E1.D l → ∀ u ∈ p.toList ++ [.func (.yield l) #[] #[]] ++ q.toList, Clo E1.D u := by
        intro E1 w w1 X1 hl u hu
        rcases List.mem_append.1 hu with h6 | h6
        ·rcases List.mem_append.1 h6 with h7 | h7
         ·exact X1.clo (hpq.1 u h7)
         ·simp only [List.mem_singleton] at h7
          subst h7
          exact ⟨hl, trivial, trivial⟩
        ·exact X1.clo (hpq.2 u h6)
       have hcall := hR.call _ _ _ _ _ h2
       -- how far memory has been written
       have hwms : N2.wm ≤ N1.wm ∧ N3.wm ≤ N2.wm := by
        obtain ⟨E1, w1, mark, hr1, X1, ha1, hl, _, _⟩ := enterLoop_ok hr ha har h1
        obtain ⟨_, _, _, _, E2, w2, hr2, hlD2, hw2⟩ := (hcall true (fun _ => True) 0 E1 w1 _ _ (Nat.zero_le _) hr1 (own_all hr1) (hargs X1 hl) .normal [] (caller_nil (.inl rfl)) (fun _ _ _ _ => ∃ E2 w2, Rel P E2 N2 w2 ∧ E2.D l ∧ N2.wm ≤ N1.wm)
         fun _ _ E' w' _ L _ _ _ => .stop fun _ _ _ => ⟨E', w', L.rel, (L.ext.mono l hl).1, L.ext.wm⟩).reaches (fun _ h => h) (fun _ h => h)
        obtain ⟨_, _, X3, _⟩ := endLoop_ok hr2 hlD2 h3
        exact ⟨hw2, X3.wm⟩
       have hlo2 : lo ≤ N2.wm := Nat.le_trans hlo hwms.2
       have hlo1 : lo ≤ N1.wm := Nat.le_trans hlo2 hwms.1
       refine .step rfl fun wr hrel _ => ?_
       have hr0 := hr.rely ow hrel
       have ow0 := ow.rely hrel
       obtain ⟨E1, w1, mark, hr1, X1, ha1, hl, hact, hrun⟩ := enterLoop_ok hr0 ha har h1
       have hinv0 : (do let d ← resolve (E.act a).eval { callee := .value f, args := #[.const (.func (.yield (E1.f l)) #[] #[])], argTypes := #[] } 0; invoke d.target d.args : Sem Next) =
         callFunc g ((p.toList ++ [Value.func (.yield l) #[] #[]] ++ q.toList).map E1.m).toArray := by
        have e2 : E.m (.func (.func g) p q) = .func (.func g) (p.map E.m) (q.map E.m) := m_func E (.func g) p q
        simp only [resolve, hev, e2, Deferred.ofValue, pure_bind, invoke]
        congr 1
        apply Array.ext'
        have hp1 : p.toList.map E1.m = p.toList.map E.m := List.map_congr_left fun u hu => X1.m (hpq.1 u hu)
        have hq1 : q.toList.map E1.m = q.toList.map E.m := List.map_congr_left fun u hu => X1.m (hpq.2 u hu)
        have hy : E1.m (Value.func (.yield l) #[] #[]) = Value.func (.yield (E1.f l)) #[] #[] := by rw [m_func]; simp [mvFn]
        simp [hp1, hq1, hy, Act.eval]
       have hinv : (do let d ← resolve (E.act a).eval { callee := .value f, args := #[.const (.func (.yield (E1.f l)) #[] #[])], argTypes := #[] } 0; invoke d.target d.args : Sem Next).run P w1 =
         .ok (.enter g ((p.toList ++ [Value.func (.yield l) #[] #[]] ++ q.toList).map E1.m).toArray) w1 := by
        rw [hinv0]
        exact run_callFunc hP hfn2 hbody _ _
       have hinve : (do let d ← resolve (E.act a).eval { callee := .value f, args := #[.const (.func (.yield (E1.f l)) #[] #[])], argTypes := #[] } 0; invoke d.target d.args : Sem Next).events P w1 #[] = #[] := by
        rw [hinv0]
        exact events_callFunc hP hfn2 hbody _ _
       obtain ⟨es, hes, hst⟩ := g_rangeFunc (main := main) (b := b) (a := E.act a) (k := k) (cs := cs) (w := wr) (P := P) (f := f) (params := params) (assign := as) (body := bd) (by rw [hfn, hro]; exact hrun) hinv
       have hevs := enterLoop_evs hr0 ow0 (fun j hj => ⟨har j hj, enter_loop h1 j hj⟩) hr1 hrun
       refine ⟨_, w1, es, hst, guar_of ow0 hr0 X1 hlo1 (fun e he => ?_), ?_⟩
       ·rcases hes e he with h6 | h6
        ·rw [hfn, hro] at h6
         exact (hevs e (Go.Conc.mem_seen h6)).resolve_left fun ⟨f, hf⟩ => not_extern h6 f hf
        ·rw [hinve] at h6
         have := Go.Conc.mem_seen h6
         simp at this
       have L1 := (Later.of_rely hr ow hrel).trans (Later.of_step hr0 ow0 hr1 X1 hlo1)
       refine hcall main J lo E1 w1 _ _ hlo2 hr1 L1.own (hargs X1 hl) .normal _ (by exact caller_run (.inl rfl) rfl) K fun O2 W2 E2 w2 fr L2 hv _ hready => ?_
       refine leave_will hready ?_
       rw [fat_finish_range]
       refine .step rfl fun w2' hrel2 _ => ?_
       have hr2 := L2.rel.rely L2.own hrel2
       have ow2 := L2.own.rely hrel2
       have hlD2 := (L2.ext.mono l hl).1
       have hlf : E2.f l = E1.f l := (L2.ext.mono l hl).2.1
       obtain ⟨w3, hr3, X3, hend⟩ := endLoop_ok hr2 hlD2 h3
       obtain ⟨es2, hes2, hst2⟩ := g_endRangeFunc (main := main) (b := b) (a := { E.act a with defers := mark ++ (E.act a).defers }) (k := k) (cs := cs) (w := w2') (l := E1.f l) (P := P) (by rw [← hlf]; exact hend)
       have hevs2 := endLoop_evs hr2 ow2 hlD2 h3 hlo hr3 hend
       rw [hlf] at hevs2
       refine ⟨_, w3, es2, hst2, guar_of ow2 hr2 X3 hlo (hes2.ok hevs2), ?_⟩
       have L3 := (Later.of_rely L2.rel L2.own hrel2).trans (Later.of_step hr2 ow2 hr3 X3 hlo)
       have LL := L1.trans (L2.trans L3)
       obtain ⟨hact2, ha2⟩ := L2.ext.act ha1
       obtain ⟨hact3, ha3⟩ := X3.act ha2
       have hfin := hK _ _ E2 w3 (fat b (E2.act a1) ((jump.map Item.code).toList ++ k)) LL ha3
       rw [hact2, hact] at hfin
       refine hfin ?_
       cases jump with
       | none => cases h4; rfl
       | some j =>
        cases j with
        | ret => cases h4; exact ⟨k, rfl⟩
        | exit id => cases h4; exact ⟨k, rfl, rfl⟩
        | _ => cases h4
      ·cases h2
    | _ => simp [hf] at h2
   | _ => simp [hf] at h2
 | scope c _ => intro a N e a' N' h; simp [exec] at h
 | label l => intro a N e a' N' h; simp [exec] at h
 | goto l => intro a N e a' N' h; simp [exec] at h
 | refuse s => intro a N e a' N' h; simp [exec] at h
def takeAll (R : Rec) : List DM → CH → Option CH
 | [], N => some N
 | .coll k :: r, N => match N.get k with
  | some .dfr => (N.wset k .dead).bind (takeAll R r)
  | _ => none
 | .call f q args :: r, N => (R.call f (args ++ q) N).bind fun x => takeAll R r x.2
theorem CallOk.facts {P : Program} {f : FuncId} {args : List Value} {N N' : CH} {v : Value} (h : CallOk P f args N v N') {E : Env} {w : World} (R : Rel P E N w) (ha : ∀ u ∈ args, Clo E.D u) : ∃ E' w', Rel P E' N' w' ∧ (∀ k, E.D k → E'.D k) ∧ N'.wm ≤ N.wm := by
 obtain ⟨_, _, _, _, hh⟩ := (h true (fun _ => True) 0 E w _ _ (Nat.zero_le _) R (own_all R) ha .normal [] (caller_nil (.inl rfl)) (fun _ _ _ _ => ∃ E' w', Rel P E' N' w' ∧ (∀ k, E.D k → E'.D k) ∧ N'.wm ≤ N.wm) fun _ _ E' w' _ L _ _ _ => .stop fun _ _ _ => ⟨E', w', L.rel, fun k hk => (L.ext.mono k hk).1, L.ext.wm⟩).reaches (fun _ h => h) (fun _ h => h)
 exact hh
theorem takeAll_wm {P : Program} {R : Rec} (hR : RecOk P R) : ∀ (dm : List DM) {N N' : CH}, takeAll R dm N = some N' → ∀ {E : Env} {w : World}, Rel P E N w → (∀ d ∈ dm, d.Clo E.D) → N'.wm ≤ N.wm
 | [], N, N', h, E, w, hr, _ => by
  simp only [takeAll, Option.some.injEq] at h
  subst h
  exact Nat.le_refl _
 | .coll k :: r, N, N', h, E, w, hr, hk => by
  simp only [takeAll] at h
  cases hg : N.get k with
  | none => simp [hg] at h
  | some b =>
   cases b with
   | dfr =>
    simp only [hg, Option.bind_eq_some_iff] at h
    obtain ⟨N1, hN1, h⟩ := h
    obtain ⟨hwm, rfl⟩ := CH.wset_some hN1
    have hD : E.D k := hk (.coll k) (by simp)
    have ho : w.heap[E.f k]? = some (.deferred (some [])) := hr.blk k _ hD hg
    obtain ⟨hr1, X1⟩ := hr.setObj hD hwm hg rfl ho (b' := .dead) (o' := .deferred none) trivial
    exact Nat.le_trans (takeAll_wm hR r h hr1 (fun j hj => hk j (by simp [hj]))) X1.wm
   | _ => simp [hg] at h
 | .call f q args :: r, N, N', h, E, w, hr, hk => by
  simp only [takeAll, Option.bind_eq_some_iff] at h
  obtain ⟨⟨v, N1⟩, h1, h⟩ := h
  obtain ⟨hq, ha⟩ : DM.Clo E.D (.call f q args) := hk _ (by simp)
  obtain ⟨E1, w1, hr1, hm1, hw⟩ := (hR.call _ _ _ _ _ h1).facts hr (by
   intro u hu
   rcases List.mem_append.1 hu with hu | hu
   ·exact ha u hu
   ·exact hq u hu)
  exact Nat.le_trans (takeAll_wm hR r h hr1 (fun j hj => (hk j (by simp [hj])).mono hm1)) hw
theorem takeAll_ok {P : Program} (hP : NoCount P) {R : Rec} (hR : RecOk P R) (hb : ∀ f args N v N', R.call f args N = some (v, N') → ∃ fn, P.funcs[f]? = some fn ∧ fn.body.isSome = true) :
  ∀ (dm : List DM) {N N' : CH}, takeAll R dm N = some N' → ∀ {main : Bool} {J : World → Prop} [Ctx main J] {lo : Nat} {E : Env} {w : World} {O W : Nat → Prop}, lo ≤ N'.wm → Rel P E N w → Own O W lo E N w → (∀ d ∈ dm, d.Clo E.D) →
  ∀ (fr : Frame) (cs : List Frame), fr.mode = .returning → fr.defers = dm.map E.dm → ∀ {K : (Nat → Prop) → (Nat → Prop) → Goroutine → World → Prop},
  (∀ O' W' E' w', Later P lo O W E N w O' W' E' N' w' → Will P main J K O' W' (G { fr with defers := [] } cs) w') → Will P main J K O W (G fr cs) w
 | [], N, N', h, main, J, _, lo, E, w, O, W, hlo, hr, ow, _, fr, cs, _, hd, K, hK => by
  simp only [takeAll, Option.some.injEq] at h
  subst h
  have : ({ fr with defers := [] } : Frame) = fr := by
   obtain ⟨fn, tmps, todo, defers, mode, kind, ro⟩ := fr
   simp only [List.map_nil] at hd
   subst hd
   rfl
  have hh := hK O W E w (Later.refl hr ow)
  rw [this] at hh
  exact hh
 | .coll k :: r, N, N', h, main, J, _, lo, E, w, O, W, hlo, hr, ow, hk, fr, cs, hm, hd, K, hK => by
  simp only [takeAll] at h
  cases hg : N.get k with
  | none => simp [hg] at h
  | some b =>
   cases b with
   | dfr =>
    simp only [hg, Option.bind_eq_some_iff] at h
    obtain ⟨N1, hN1, h⟩ := h
    obtain ⟨hwm, rfl⟩ := CH.wset_some hN1
    have hD : E.D k := hk (.coll k) (by simp)
    refine .step rfl fun w1 hrel _ => ?_
    have hr0 := hr.rely ow hrel
    have ow0 := ow.rely hrel
    have ho : w1.heap[E.f k]? = some (.deferred (some [])) := hr0.blk k _ hD hg
    obtain ⟨hr1, X1⟩ := hr0.setObj hD hwm hg rfl ho (b' := .dead) (o' := .deferred none) trivial
    have hrun : (Instr.takeDeferred (E.f k)).run P w1 = .ok [] { w1 with heap := w1.heap.setIfInBounds (E.f k) (.deferred none) } := by
     simp [Instr.takeDeferred, getObj, setObj, Sem.run, ho]
    have hlo1 : lo ≤ (N.set k .dead).wm := Nat.le_trans hlo (takeAll_wm hR r h hr1 (fun j hj => hk j (by simp [hj])))
    have hlive : N.live k := ⟨_, hg, rfl⟩
    obtain ⟨es, hes, hst⟩ := g_taken (main := main) (cs := cs) hm (by rw [hd]; rfl) hrun
    have hevs := takeDeferred_evs (O := O) (W := W) (ow0.img k hD hlive) (ow0.wri k hD hlive (by have := (CH.set_wm N k .dead).2; omega)) (ow0.lt _ (ow0.img k hD hlive)) ho hrun
    refine ⟨_, _, es, hst, guar_of ow0 hr0 X1 hlo1 (hes.ok hevs), ?_⟩
    have L1 := (Later.of_rely hr ow hrel).trans (Later.of_step hr0 ow0 hr1 X1 hlo1)
    exact takeAll_ok hP hR hb r h hlo hr1 L1.own (fun j hj => hk j (by simp [hj])) { fr with defers := r.map E.dm } cs hm rfl fun O' W' E' w' L' => hK O' W' E' w' (L1.trans L')
   | _ => simp [hg] at h
 | .call f q args :: r, N, N', h, main, J, _, lo, E, w, O, W, hlo, hr, ow, hk, fr, cs, hm, hd, K, hK => by
  simp only [takeAll, Option.bind_eq_some_iff] at h
  obtain ⟨⟨v, N1⟩, h1, h⟩ := h
  obtain ⟨hq, ha⟩ : DM.Clo E.D (.call f q args) := hk _ (by simp)
  obtain ⟨fn, hf, hbody⟩ := hb _ _ _ _ _ h1
  have hargs : ∀ u ∈ args ++ q, Clo E.D u := by
   intro u hu
   rcases List.mem_append.1 hu with hu | hu
   ·exact ha u hu
   ·exact hq u hu
  have hcall := hR.call _ _ _ _ _ h1
  have hlo1 : lo ≤ N1.wm := by
   obtain ⟨E1, w1, hr1, hm1, hw⟩ := hcall.facts hr hargs
   exact Nat.le_trans hlo (takeAll_wm hR r h hr1 (fun j hj => (hk j (by simp [hj])).mono hm1))
  have hcf : invoke (E.dm (.call f q args)).target (E.dm (.call f q args)).args = callFunc f ((args ++ q).map E.m).toArray := by
   simp only [Env.dm, invoke]
   congr 1
   apply Array.ext'
   simp
  refine .step rfl fun w0 hrel _ => ?_
  have hrun : (invoke (E.dm (.call f q args)).target (E.dm (.call f q args)).args).run P w0 = .ok (.enter f ((args ++ q).map E.m).toArray) w0 := by
   rw [hcf]
   exact run_callFunc hP hf hbody _ _
  obtain ⟨es, hes, hst⟩ := g_deferred (main := main) (cs := cs) hm (by rw [hd]; rfl) ⟨_, _, rfl⟩ hrun
  rw [hcf, events_callFunc hP hf hbody] at hes
  refine ⟨_, w0, es, hst, ⟨fun _ _ _ => rfl, Nat.le_refl _, rfl, rfl, rfl, hes.ok fun e he => by simp at he⟩, ?_⟩
  rw [grow_self, grow_self]
  have hr0 := hr.rely ow hrel
  have ow0 := ow.rely hrel
  refine hcall main J lo E w0 O W hlo1 hr0 ow0 hargs .deferred ({ fr with defers := r.map E.dm } :: cs) (caller_returning _ _ hm) K fun O1 W1 E1 w1 fr1 L1 _ hfn1 hready => ?_
  obtain ⟨hm1, hd1, hk1, fn1, hf1, hres1⟩ := hready
  refine .step rfl fun w2 hrel2 _ => ?_
  obtain ⟨hrun2, hev2⟩ := hres1 w2 hrel2
  obtain ⟨es2, hes2, hst2⟩ := g_deferred_end (main := main) (c := { fr with defers := r.map E.dm }) (cs := cs) hm1 hd1 hk1 (fun v g l hh => by rw [show ({ fr with defers := r.map E.dm } : Frame).mode = fr.mode from rfl, hm] at hh; cases hh) hf1 hrun2
  refine ⟨_, w2, es2, hst2, ⟨fun _ _ _ => rfl, Nat.le_refl _, rfl, rfl, rfl, hes2.ok (hev2.mono fun _ h => h.elim)⟩, ?_⟩
  rw [grow_self, grow_self]
  have LL := (Later.of_rely hr ow hrel).trans (L1.trans (Later.of_rely L1.rel L1.own hrel2))
  have hdm : r.map E1.dm = r.map E.dm := List.map_congr_left fun d hd => dm_ext L1.ext.op (fun k hk => (L1.ext.mono k hk).2) (hk d (by simp [hd]))
  exact takeAll_ok hP hR hb r h hlo LL.rel LL.own (fun j hj => (hk j (by simp [hj])).mono fun k hk => (L1.ext.mono k hk).1) { fr with defers := r.map E.dm } cs hm (by rw [hdm]) fun O' W' E' w' L' => hK O' W' E' w' (LL.trans L')
def cresult (P : Program) (tmps : List Value) (N : CH) : List ResultVar → Option (List Value)
 | [] => some []
 | .tmp t :: r => (cresult P tmps N r).map (tmps.getD t undef :: ·)
 | .cell a t :: r => (cload P t (tmps.getD a undef) N).bind fun v => (cresult P tmps N r).map (v :: ·)
def cresults (P : Program) (fn : Func) (tmps : List Value) (N : CH) : Option Value :=
 (cresult P tmps N fn.results.toList).map fun vs => match vs with
  | [v] => v
  | vs => .tuple vs.toArray
theorem getD_m {E : Env} {tmps : List Value} (h : ∀ v ∈ tmps, Clo E.D v) (t : Nat) : (tmps.map E.m).toArray.getD t undef = E.m (tmps.getD t undef) ∧ Clo E.D (tmps.getD t undef) := by
 refine ⟨?_, ?_⟩
 ·simp only [Array.getD_eq_getD_getElem?, List.getElem?_toArray, List.getElem?_map, List.getD_eq_getElem?_getD]
  cases tmps[t]? <;> rfl
 ·rw [List.getD_eq_getElem?_getD]
  cases ht : tmps[t]? with
  | none => exact undef_clo _
  | some u => exact h u (List.mem_of_getElem? ht)
theorem result_ok {P : Program} {E : Env} {N : CH} {w : World} (R : Rel P E N w) {tmps : List Value} (h : ∀ v ∈ tmps, Clo E.D v) : ∀ (l : List ResultVar) {vs : List Value}, cresult P tmps N l = some vs →
  (l.mapM (fun (r : ResultVar) => match r with
   | .tmp t => pure ((tmps.map E.m).toArray.getD t undef)
   | .cell a t => do loadVar t (← asAddr ((tmps.map E.m).toArray.getD a undef))) : Sem (List Value)).run P w = .ok (vs.map E.m) w ∧ ∀ v ∈ vs, Clo E.D v
 | [], vs, hc => by
  simp only [cresult, Option.some.injEq] at hc
  subst hc
  exact ⟨rfl, by simp⟩
 | .tmp t :: r, vs, hc => by
  simp only [cresult, Option.map_eq_some_iff] at hc
  obtain ⟨us, hu, rfl⟩ := hc
  obtain ⟨h1, h2⟩ := result_ok R h r hu
  obtain ⟨h3, h4⟩ := getD_m (E := E) h t
  refine ⟨?_, ?_⟩
  ·simp only [List.mapM_cons, Sem.run_bind, Sem.run_pure, Result.andThen_ok, h1, h3, List.map_cons]
  ·intro v hv
   rcases List.mem_cons.1 hv with rfl | hv
   ·exact h4
   ·exact h2 v hv
 | .cell a t :: r, vs, hc => by
  simp only [cresult, Option.bind_eq_some_iff, Option.map_eq_some_iff] at hc
  obtain ⟨v, hv, us, hu, rfl⟩ := hc
  obtain ⟨h1, h2⟩ := result_ok R h r hu
  obtain ⟨h3, h4⟩ := getD_m (E := E) h a
  obtain ⟨h5, h6⟩ := load_ok R h4 hv
  have h7 : (do loadVar t (← asAddr (E.m (tmps.getD a undef))) : Sem Value).run P w = .ok (E.m v) w := by
   have hp : ∃ ad, tmps.getD a undef = .pointer (some ad) := by
    unfold cload at hv
    split at hv
    ·exact ⟨_, by assumption⟩
    ·cases hv
   obtain ⟨ad, hp⟩ := hp
   rw [hp] at h5 ⊢
   exact h5
  refine ⟨?_, ?_⟩
  ·simp only [List.mapM_cons, h3]
   rw [Sem.run_bind, h7]
   simp only [Result.andThen_ok, Sem.run_bind, h1, Sem.run_pure, List.map_cons]
  ·intro u hu'
   rcases List.mem_cons.1 hu' with rfl | hu'
   ·exact h6
   ·exact h2 u hu'
theorem results_ok {P : Program} {E : Env} {N : CH} {w : World} (R : Rel P E N w) {fn : Func} {tmps : List Value} (h : ∀ v ∈ tmps, Clo E.D v) {v : Value} (hc : cresults P fn tmps N = some v) :
  (results fn (tmps.map E.m).toArray).run P w = .ok (E.m v) w ∧ Clo E.D v := by
 unfold cresults at hc
 obtain ⟨vs, hvs, e⟩ := Option.map_eq_some_iff.1 hc
 obtain ⟨h1, h2⟩ := result_ok R h _ hvs
 have hrun : (results fn (tmps.map E.m).toArray).run P w = .ok (if hs : (vs.map E.m).toArray.size = 1 then (vs.map E.m).toArray[0] else .tuple (vs.map E.m).toArray) w := by
  unfold results
  rw [Array.mapM_eq_mapM_toList]
  simp only [Sem.run_bind, Sem.run_map, bind_map_left]
  exact congrArg (fun r => Result.andThen r fun a w' => Sem.run P (pure (if h : a.toArray.size = 1 then a.toArray[0] else Value.tuple a.toArray)) w') h1
 rw [hrun]
 match vs, e, h2 with
 | [u], e, h2 =>
  simp only at e
  subst e
  exact ⟨by simp, h2 u (by simp)⟩
 | [], e, h2 =>
  simp only at e
  subst e
  exact ⟨by simp [Env.m, mv_tuple], Clo_tuple.2 (by simp)⟩
 | u1 :: u2 :: us, e, h2 =>
  simp only at e
  subst e
  refine ⟨?_, Clo_tuple.2 (by simpa using h2)⟩
  have : ¬ (((u1 :: u2 :: us).map E.m).toArray.size = 1) := by simp
  rw [dif_neg this]
  simp only [Env.m, mv_tuple, List.map_toArray]
  rfl
theorem result_evs {P : Program} {E : Env} {N : CH} {w : World} (R : Rel P E N w) {tmps : List Value} (h : ∀ v ∈ tmps, Clo E.D v) : ∀ (l : List ResultVar) {vs : List Value}, cresult P tmps N l = some vs →
  Evs P (Rd E N) (fun _ => False) (l.mapM (fun (r : ResultVar) => match r with
   | .tmp t => pure ((tmps.map E.m).toArray.getD t undef)
   | .cell a t => do loadVar t (← asAddr ((tmps.map E.m).toArray.getD a undef))) : Sem (List Value)) w
 | [], vs, hc => evs_pure _
 | .tmp t :: r, vs, hc => by
  simp only [cresult, Option.map_eq_some_iff] at hc
  obtain ⟨us, hu, rfl⟩ := hc
  simp only [List.mapM_cons]
  refine Evs.ran (a := (tmps.map E.m).toArray.getD t undef) (w' := w) (evs_pure _) rfl ?_
  exact (result_evs R h r hu).bind fun _ _ _ => evs_pure _
 | .cell a t :: r, vs, hc => by
  simp only [cresult, Option.bind_eq_some_iff, Option.map_eq_some_iff] at hc
  obtain ⟨v, hv, us, hu, rfl⟩ := hc
  obtain ⟨h3, h4⟩ := getD_m (E := E) h a
  obtain ⟨h5, h6⟩ := load_ok R h4 hv
  have hp : ∃ ad, tmps.getD a undef = .pointer (some ad) := by
   unfold cload at hv
   split at hv
   ·exact ⟨_, by assumption⟩
   ·cases hv
  obtain ⟨ad, hp⟩ := hp
  have h8 : Evs P (Rd E N) (fun _ => False) (Instr.loadAt t (E.m (tmps.getD a undef))) w := load_evs R h4 hv
  have h7 : (do loadVar t (← asAddr (E.m (tmps.getD a undef))) : Sem Value).run P w = .ok (E.m v) w := by
   rw [hp] at h5 ⊢
   exact h5
  have h9 : Evs P (Rd E N) (fun _ => False) (do loadVar t (← asAddr (E.m (tmps.getD a undef))) : Sem Value) w := by
   rw [hp] at h8 ⊢
   exact h8
  simp only [List.mapM_cons, h3]
  refine h9.ran h7 ?_
  exact (result_evs R h r hu).bind fun _ _ _ => evs_pure _
theorem results_evs {P : Program} {E : Env} {N : CH} {w : World} {O W : Nat → Prop} {lo : Nat} (R : Rel P E N w) (H : Own O W lo E N w) {fn : Func} {tmps : List Value} (h : ∀ v ∈ tmps, Clo E.D v) {v : Value} (hc : cresults P fn tmps N = some v) :
  EvOk' O (fun _ => False) w w ((results fn (tmps.map E.m).toArray).events P w #[]) := by
 obtain ⟨vs, hvs, _⟩ := Option.map_eq_some_iff.1 hc
 have key : Evs P (Rd E N) (fun _ => False) (results fn (tmps.map E.m).toArray) w := by
  unfold results
  refine Evs.bind ?_ fun _ _ _ => evs_pure _
  rw [Array.mapM_eq_mapM_toList]
  exact (result_evs R h _ hvs).map _
 intro e he
 rcases key e he with h1 | h1 | ⟨b, h1, h2, ⟨k, hk, hl, rfl⟩, h4⟩
 ·exact .inl h1
 ·exact .inr (.inl h1)
 ·have := H.img k hk hl
  exact .inr (.inr ⟨E.f k, h1, h2, H.lt _ this, .inl this, fun hw => (h4 hw).elim⟩)
def callBody (P : Program) (R : Rec) (L : Nat) (f : FuncId) (args : List Value) (N : CH) : Option (Value × CH) :=
 match P.funcs[f]? with
 | none => none
 | some fn =>
  match fn.body with
  | none => none
  | some c =>
   match exec P R L f none c ⟨args ++ List.replicate (fn.ntmps - args.length) undef, []⟩ N with
   | some (.exit _, _, _) => none
   | some (_, a, N1) => (takeAll R a.dm N1).bind fun N2 => (cresults P fn a.tmps N2).map fun v => (v, N2)
   | none => none
theorem callBody_ok {P : Program} (hP : NoCount P) (hm : P.follows .mixedOrders = true) {R : Rec} (hR : RecOk P R) (hcb : ∀ f args N v N', R.call f args N = some (v, N') → ∃ fn, P.funcs[f]? = some fn ∧ fn.body.isSome = true) {L : Nat} {f : FuncId} {args : List Value} {N N' : CH} {v : Value} (h : callBody P R L f args N = some (v, N')) : CallOk P f args N v N' := by
 intro main J hx lo E w O W hlo hr ow hargs kd cs hcaller K hK
 unfold callBody at h
 cases hf : P.funcs[f]? with
 | none => simp [hf] at h
 | some fn =>
  cases hb : fn.body with
  | none => simp [hf, hb] at h
  | some c =>
   simp only [hf, hb] at h
   have ha0 : CA.Clo E.D ⟨args ++ List.replicate (fn.ntmps - args.length) undef, []⟩ := by
    refine ⟨?_, by simp⟩
    intro u hu
    rcases List.mem_append.1 hu with h1 | h1
    ·exact hargs u h1
    ·rw [(List.mem_replicate.1 h1).2]; exact undef_clo _
   have henter : Frame.enter P f (args.map E.m).toArray kd = fat { (default : Frame) with fn := f, kind := kd } (E.act ⟨args ++ List.replicate (fn.ntmps - args.length) undef, []⟩) [.code c] := by
    simp only [Frame.enter, hf, Option.bind_some, hb, Option.map_some, Option.getD_some, fat, Env.act, List.map_nil]
    congr 1
    apply Array.ext'
    simp [m_undef]
   -- the body has come to its end, or to a return
   have fin : ∀ (a : CA) (N1 : CH) (O1 W1 : Nat → Prop) (E1 : Env) (w1 : World), (takeAll R a.dm N1).bind (fun N2 => (cresults P fn a.tmps N2).map fun v => (v, N2)) = some (v, N') → Later P lo O W E N w O1 W1 E1 N1 w1 → a.Clo E1.D → ∀ fr : Frame,
     fr.mode = .returning → fr.defers = (E1.act a).defers → fr.tmps = (E1.act a).tmps → fr.fn = f → fr.kind = kd → Will P main J K O1 W1 (G fr cs) w1 := by
    intro a N1 O1 W1 E1 w1 hh L1 ha1 fr hmode hdef htm hfn hkind
    simp only [Option.bind_eq_some_iff, Option.map_eq_some_iff] at hh
    obtain ⟨N2, h2, v', h3, h4⟩ := hh
    cases h4
    refine takeAll_ok hP hR hcb a.dm h2 hlo L1.rel L1.own ha1.dm fr cs hmode hdef fun O2 W2 E2 w' L2 => ?_
    obtain ⟨hact, ha2⟩ := L2.ext.act ha1
    have htm2 : fr.tmps = (a.tmps.map E2.m).toArray := by rw [htm, ← hact]; rfl
    refine hK O2 W2 E2 w' _ (L1.trans L2) (results_ok L2.rel ha2.tmps h3).2 hfn ⟨hmode, rfl, hkind, fn, by rw [← hf, ← hfn], fun w2 hrel => ?_⟩
    show (results fn fr.tmps).run P w2 = _ ∧ EvOk' _ _ _ _ ((results fn fr.tmps).events P w2 #[])
    rw [htm2]
    exact ⟨(results_ok (L2.rel.rely L2.own hrel) ha2.tmps h3).1, results_evs (L2.rel.rely L2.own hrel) (L2.own.rely hrel) ha2.tmps h3⟩
   have hwm : ∀ (a : CA) (N1 : CH) (E1 : Env) (w1 : World), (takeAll R a.dm N1).bind (fun N2 => (cresults P fn a.tmps N2).map fun v => (v, N2)) = some (v, N') → Rel P E1 N1 w1 → a.Clo E1.D → N'.wm ≤ N1.wm := by
    intro a N1 E1 w1 hh R1 ha1
    simp only [Option.bind_eq_some_iff, Option.map_eq_some_iff] at hh
    obtain ⟨N2, h2, v', h3, h4⟩ := hh
    cases h4
    exact takeAll_wm hR a.dm h2 R1 ha1.dm
   cases hx : exec P R L f none c ⟨args ++ List.replicate (fn.ntmps - args.length) undef, []⟩ N with
   | none => simp [hx] at h
   | some r =>
    obtain ⟨e, a, N1⟩ := r
    have hex := exec_ok hP hm hR L f none c _ _ _ _ _ hx
    rw [henter]
    cases e with
    | exit id => simp [hx] at h
    | normal =>
     simp only [hx] at h
     have hlo1 : lo ≤ N1.wm := by
      obtain ⟨E1, w1, hr1, ha1, _, _⟩ := hex.facts hr ha0 (by simp)
      exact Nat.le_trans hlo (hwm a N1 E1 w1 h hr1 ha1)
     refine hex main J lo E w O W hlo1 hr ow ha0 (by simp) { (default : Frame) with fn := f, kind := kd } rfl rfl [] cs (fun _ => hcaller) K fun O1 W1 E1 w1 fr L1 ha1 hfr => ?_
     cases hfr
     exact .quiet rfl (fun _ => g_end rfl) (fin a N1 O1 W1 E1 w1 h L1 ha1 { fat { (default : Frame) with fn := f, kind := kd } (E1.act a) [] with mode := .returning } rfl rfl rfl rfl rfl)
    | ret =>
     simp only [hx] at h
     have hlo1 : lo ≤ N1.wm := by
      obtain ⟨E1, w1, hr1, ha1, _, _⟩ := hex.facts hr ha0 (by simp)
      exact Nat.le_trans hlo (hwm a N1 E1 w1 h hr1 ha1)
     refine hex main J lo E w O W hlo1 hr ow ha0 (by simp) { (default : Frame) with fn := f, kind := kd } rfl rfl [] cs (fun _ => hcaller) K fun O1 W1 E1 w1 fr L1 ha1 hfr => ?_
     obtain ⟨t, rfl⟩ := hfr
     exact .quiet rfl (fun _ => g_ret rfl) (fin a N1 O1 W1 E1 w1 h L1 ha1 { fat { (default : Frame) with fn := f, kind := kd } (E1.act a) (.code .ret :: t) with mode := .returning } rfl rfl rfl rfl rfl)
def roundBody (P : Program) (R : Rec) (L : Nat) (l : Nat) (f : FuncId) (tmps : List Value) (as bd : Code) (N : CH) : Option (Value × CH) :=
 match exec P R L f (some l) as ⟨tmps, []⟩ N with
 | some (.normal, a1, N1) =>
  (cbegin l N1).bind fun N2 =>
  match exec P R L f (some l) bd a1 N2 with
  | some (e, _, N3) => cendRound l e.jump N3
  | none => none
 | _ => none
theorem roundBody_ok {P : Program} (hP : NoCount P) (hm : P.follows .mixedOrders = true) {R : Rec} (hR : RecOk P R) {L : Nat} {l : Nat} {f : FuncId} {tmps : List Value} {as bd : Code} {N N' : CH} {v : Value}
  (h : roundBody P R L l f tmps as bd N = some (v, N')) : RoundOk P l f tmps as bd N v N' := by
 intro main J hx lo E w O W hlo hr ow hl htmps c cs K hK
 unfold roundBody at h
 cases hx : exec P R L f (some l) as ⟨tmps, []⟩ N with
 | none => simp [hx] at h
 | some r =>
  obtain ⟨e1, a1, N1⟩ := r
  cases e1 with
  | ret => simp [hx] at h
  | exit id => simp [hx] at h
  | normal =>
   simp only [hx, Option.bind_eq_some_iff] at h
   obtain ⟨N2, h2, h⟩ := h
   have hl' : ∀ j, some l = some j → E.D j := fun j e => by cases e; exact hl
   have hfr : Frame.round (E.f l) f (tmps.map E.m).toArray as bd .normal = fat { (default : Frame) with fn := f, kind := .normal, roundOf := some (E.f l) } (E.act ⟨tmps, []⟩) [.code as, .beginRound, .code bd] := rfl
   have hex := exec_ok hP hm hR L f (some l) as _ _ _ _ _ hx
   cases hx2 : exec P R L f (some l) bd a1 N2 with
   | none => simp [hx2] at h
   | some r2 =>
    obtain ⟨e, a2, N3⟩ := r2
    simp only [hx2] at h
    have hex2 := exec_ok hP hm hR L f (some l) bd _ _ _ _ _ hx2
    -- how far memory has been written
    have hwms : N'.wm ≤ N3.wm ∧ N3.wm ≤ N2.wm ∧ N2.wm ≤ N1.wm := by
     obtain ⟨E1, w1, hr1, ha1, _, har1⟩ := hex.facts hr ⟨htmps, by simp⟩ hl'
     have hlD := har1 l rfl
     obtain ⟨w2, hr2, X2, _⟩ := beginRound_ok hr1 hlD h2
     obtain ⟨_, ha2⟩ := X2.act ha1
     obtain ⟨E3, w3, hr3, ha3, hw3, har3⟩ := hex2.facts hr2 ha2 har1
     obtain ⟨w4, hr4, X4, _⟩ := endRound_ok hr3 (har3 l rfl) h
     exact ⟨X4.wm, hw3, X2.wm⟩
    have hlo3 : lo ≤ N3.wm := Nat.le_trans hlo hwms.1
    have hlo2 : lo ≤ N2.wm := Nat.le_trans hlo3 hwms.2.1
    have hlo1 : lo ≤ N1.wm := Nat.le_trans hlo2 hwms.2.2
    rw [hfr]
    refine hex main J lo E w O W hlo1 hr ow ⟨htmps, by simp⟩ hl' { (default : Frame) with fn := f, kind := .normal, roundOf := some (E.f l) } rfl rfl [.beginRound, .code bd] (c :: cs) (fun h => by cases h) K fun O1 W1 E1 w1 fr L1 ha1 hfr1 => ?_
    cases hfr1
    obtain ⟨hlD, hlf, _⟩ := L1.ext.mono l hl
    refine .step rfl fun w1' hrel _ => ?_
    have hr1 := L1.rel.rely L1.own hrel
    have ow1 := L1.own.rely hrel
    obtain ⟨w2, hr2, X2, hbeg⟩ := beginRound_ok hr1 hlD h2
    obtain ⟨es, hes, hst⟩ := g_beginRound (P := P) (main := main) (b := { (default : Frame) with fn := f, kind := .normal, roundOf := some (E.f l) }) (a := E1.act a1) (k := [.code bd]) (cs := c :: cs) (w := w1') (l := E.f l) rfl (by rw [← hlf]; exact hbeg)
    have hevs := beginRound_evs hr1 ow1 hlD h2 hlo2 hr2 hbeg
    rw [hlf] at hevs
    refine ⟨_, w2, es, hst, guar_of ow1 hr1 X2 hlo2 (hes.ok hevs), ?_⟩
    have L2 := (Later.of_rely L1.rel L1.own hrel).trans (Later.of_step hr1 ow1 hr2 X2 hlo2)
    obtain ⟨hact2, ha2⟩ := X2.act ha1
    refine hex2 main J lo E1 w2 _ _ hlo3 hr2 L2.own ha2 (fun j e => by cases e; exact hlD) { (default : Frame) with fn := f, kind := .normal, roundOf := some (E.f l) } rfl (by simp [hlf]) [] (c :: cs) (fun h => by cases h) K fun O3 W3 E3 w3 fr L3 ha3 hfr3 => ?_
    obtain ⟨hlD3, hlf3, _⟩ := L3.ext.mono l hlD
    have hend : ∀ (todo : List Item) (hto : ∀ w3' w4 v', (Instr.endRound (E.f l) e.jump).run P w3' = .ok v' w4 → ∃ es, Lists P f ((Instr.endRound (E.f l) e.jump).events P w3' #[]) es ∧ stepG P main (G fr (c :: cs)) w3' = .go (G (c.finish v') cs) w4 es), Will P main J K O3 W3 (G fr (c :: cs)) w3 := by
     intro todo hto
     refine .step rfl fun w3' hrel3 _ => ?_
     have hr3 := L3.rel.rely L3.own hrel3
     have ow3 := L3.own.rely hrel3
     obtain ⟨w4, hr4, X4, hv, hend⟩ := endRound_ok hr3 hlD3 h
     have hevs4 := endRound_evs hr3 ow3 hlD3 h hlo hr4 hend
     rw [hlf3, hlf] at hend hevs4
     obtain ⟨es4, hes4, hst4⟩ := hto w3' w4 _ hend
     refine ⟨_, w4, es4, hst4, guar_of ow3 hr3 X4 hlo (hes4.ok hevs4), ?_⟩
     exact hK _ _ E3 w4 (L1.trans (L2.trans (L3.trans ((Later.of_rely L3.rel L3.own hrel3).trans (Later.of_step hr3 ow3 hr4 X4 hlo))))) hv
    cases e with
    | normal =>
     cases hfr3
     exact hend [] fun w3' w4 v' hrun => g_round_end (b := { (default : Frame) with fn := f, kind := .normal, roundOf := some (E.f l) }) rfl rfl hrun
    | ret =>
     obtain ⟨t, rfl⟩ := hfr3
     exact hend [] fun w3' w4 v' hrun => g_round_ret (b := { (default : Frame) with fn := f, kind := .normal, roundOf := some (E.f l) }) rfl rfl hrun
    | exit id =>
     obtain ⟨t, hte, rfl⟩ := hfr3
     exact hend [] fun w3' w4 v' hrun => g_round_exit (b := { (default : Frame) with fn := f, kind := .normal, roundOf := some (E.f l) }) rfl rfl hte hrun
def noRec : Rec := ⟨fun _ _ _ => none, fun _ _ _ _ _ _ => none⟩
abbrev Hook := FuncId → List Value → CH → Option (Value × CH)
def noHook : Hook := fun _ _ _ => none
def HookOk (P : Program) (Hf : Hook) : Prop := ∀ f args N v N', Hf f args N = some (v, N') → CallOk P f args N v N' ∧ ∃ fn, P.funcs[f]? = some fn ∧ fn.body.isSome = true
theorem noHook_ok (P : Program) : HookOk P noHook := fun _ _ _ _ _ h => by cases h
def hooked (Hf : Hook) (c : FuncId → List Value → CH → Option (Value × CH)) (f : FuncId) (args : List Value) (N : CH) : Option (Value × CH) :=
 match Hf f args N with
 | some r => some r
 | none => c f args N
def mkRec (P : Program) (Hf : Hook) (L : Nat) : Nat → Rec
 | 0 => noRec
 | n + 1 => ⟨hooked Hf (callBody P (mkRec P Hf L n) L), roundBody P (mkRec P Hf L n) L⟩
theorem mkRec_body {P : Program} {Hf : Hook} (hH : HookOk P Hf) {L : Nat} : ∀ n f args N v N', (mkRec P Hf L n).call f args N = some (v, N') → ∃ fn, P.funcs[f]? = some fn ∧ fn.body.isSome = true
 | 0, _, _, _, _, _, h => by cases h
 | n + 1, f, args, N, v, N', h => by
  simp only [mkRec, hooked] at h
  split at h
  ·rename_i r hr
   cases h
   exact (hH _ _ _ _ _ hr).2
  ·simp only [callBody] at h
   split at h
   ·cases h
   ·rename_i fn hf
    split at h
    ·cases h
    ·rename_i c hb
     exact ⟨fn, hf, by rw [hb]; rfl⟩
theorem mkRec_ok {P : Program} (hP : NoCount P) (hm : P.follows .mixedOrders = true) {Hf : Hook} (hH : HookOk P Hf) (L : Nat) : ∀ n, RecOk P (mkRec P Hf L n)
 | 0 => ⟨fun _ _ _ _ _ h => (by cases h), fun _ _ _ _ _ _ _ _ h => (by cases h)⟩
 | n + 1 => ⟨fun f args N v N' h => by
   simp only [mkRec, hooked] at h
   split at h
   ·rename_i r hr
    cases h
    exact (hH _ _ _ _ _ hr).1
   ·exact callBody_ok hP hm (mkRec_ok hP hm hH L n) (mkRec_body hH n) h, fun _ _ _ _ _ _ _ _ h => roundBody_ok hP hm (mkRec_ok hP hm hH L n) h⟩
def Env.bare (o : Nat → Value) (one : Toks o) : Env := ⟨⟨fun k => k, fun _ => 0, fun _ => 0, o, one⟩, fun k => k < LIM⟩
def CH.first (l : List (Option CB)) : CH := CH.ofFn LIM fun k => (l[k]?).getD none
def CH.heads (N : CH) : List (Option CB) := (List.range LIM).map N.get
def Laid (l : List (Option CB)) (w : World) : Prop := ∀ k b, k < LIM → l[k]? = some (some b) → ∃ c e, b = .row c e false ∧ plainL c = true ∧ w.heap[k]? = some (.cells c.toArray e)
theorem CH.first_get {l : List (Option CB)} {k : Nat} (h : k < LIM) {b : CB} : (CH.first l).get k = some b ↔ l[k]? = some (some b) := by
 unfold CH.first
 rw [CH.get_ofFn _ h]
 cases hl : l[k]? with
 | none => simp
 | some x => simp
theorem rel_first {P : Program} {l : List (Option CB)} {w : World} (h : Laid l w) (o : Nat → Value) (one : Toks o) : Rel P (Env.bare o one) (CH.first l) w := by
 refine ⟨CH.ok_ofFn _, fun g hg => ⟨hg, rfl, rfl⟩, fun k hk => hk, fun i j _ _ _ _ e => e, ?_⟩
 intro k b hk hb
 have hk : k < LIM := hk
 obtain ⟨c, e, rfl, hc, hw⟩ := h k b hk ((CH.first_get hk).1 hb)
 refine ⟨fun v hv => Clo_plain _ _ (plainL_all.1 hc v hv), [], [], 0, 0, ?_, rfl, ⟨Nat.le_refl _, fun i _ h => by omega⟩, by simp [Env.bare], fun _ => ⟨rfl, rfl⟩⟩
 rw [map_plain _ (plainL_all.1 hc)]
 show w.heap[k]? = _
 rw [hw]
 simp
theorem laid_none (w : World) : Laid [] w := fun _ _ _ h => by cases h
end
end Go.Eng
namespace Go.Eng
noncomputable section
set_option linter.unusedSimpArgs false
set_option linter.unusedVariables false
set_option linter.unusedSectionVars false
def kret (N : CH) : Option Value → Option (CNx × CH)
 | some v => some (.val v, N)
 | none => none
def kret2 : Option (Value × CH) → Option (CNx × CH)
 | some (v, N) => some (.val v, N)
 | none => none
def kskip : Option CH → Option (CNx × CH)
 | some N => some (.skip, N)
 | none => none
theorem kret_eq (N : CH) (o : Option Value) : kret N o = o.map fun v => (.val v, N) := by cases o <;> rfl
theorem kret2_eq (o : Option (Value × CH)) : kret2 o = o.map fun r => (.val r.1, r.2) := by cases o <;> rfl
theorem kskip_eq (o : Option CH) : kskip o = o.map fun N => (.skip, N) := by cases o <;> rfl
def kint (op : BinOp) (k : IntKind) (a b : Int) : Option Value :=
 match op with
 | .add => some (.int k (k.wrap (a + b)))
 | .sub => some (.int k (k.wrap (a - b)))
 | .eql => some (.bool (a == b))
 | .neq => some (.bool (a != b))
 | .lss => some (.bool (decide (a < b)))
 | .leq => some (.bool (decide (a ≤ b)))
 | .gtr => some (.bool (decide (a > b)))
 | .geq => some (.bool (decide (a ≥ b)))
 | _ => none
def kbin (op : BinOp) (x y : Option Value) : Option Value :=
 match x, y with
 | some (.int k a), some (.int l b) => if k = l then kint op k a b else none
 | _, _ => none
theorem kbin_ok {P : Program} {ev : Ev} {o : Oper} {op : BinOp} {t yt : TypeId} {x y : Operand} {v : Value} (ho : o.op = .binOp op t x y yt) (h : kbin op (ev x) (ev y) = some v) : cpure P ev o = some v := by
 unfold kbin at h
 split at h
 ·rename_i k a l b hx hy
  split at h
  ·rename_i hk
   subst hk
   have hall : o.op.operands.all (okPlain ev) = true := by
    rw [ho]
    simp [Op.operands, okPlain, hx, hy, plain]
   have hpl : plain v = true := by
    unfold kint at h
    split at h <;> cases h <;> rfl
   have hrun : pureRun P (execOp (fun x => (ev x).getD undef) o) = some (.value v) := by
    simp only [execOp, ho, hx, hy, Option.getD_some]
    unfold kint at h
    split at h <;> cases h <;> simp [eqGuard, binOp, Op.intArith, Op.intCmp, pureRun, Sem.bind, bind, pure] <;> rfl
   unfold cpure
   rw [if_pos hall, hrun]
   simp only
   rw [if_pos hpl]
  ·cases h
 ·cases h
section
variable (P : Program) (ev : Ev) (o : Oper) (N : CH)
def kpick (c a b : Operand) : Option (CNx × CH) := match ev c with
 | some (.bool true) => kret N (ev a)
 | some (.bool false) => kret N (ev b)
 | _ => none
def kbox (e : TypeId) (x : Operand) : Option (CNx × CH) := match ev x with
 | some v => kret2 (cbox e v N)
 | none => none
def kbuild (t : TypeId) (parts : Array (Nat × Operand)) : Option (CNx × CH) := match evP ev parts.toList with
 | some ps => kret N (cbuild P t ps)
 | none => none
def kbuildSlice (t : TypeId) (n : Nat) (parts : Array (Nat × Operand)) : Option (CNx × CH) := match evP ev parts.toList with
 | some ps => kret2 (cbuildSlice P t n ps N)
 | none => none
def kload (t : TypeId) (a : Operand) : Option (CNx × CH) := match ev a with
 | some a => kret N (cload P t a N)
 | none => none
def kstore (t : TypeId) (a x : Operand) : Option (CNx × CH) := match ev a with
 | some a => match ev x with
  | some x => kskip (cstore P t a x N)
  | none => none
 | none => none
def knil (x : Operand) : Option (CNx × CH) := match ev x with
 | some v => kret N (cnilCheck v)
 | none => none
def kbinOp (op : BinOp) (t : TypeId) (x y : Operand) : Option (CNx × CH) := match kbin op (ev x) (ev y) with
 | some v => some (.val v, N)
 | none => match cpure P ev o with
  | some v => some (.val v, N)
  | none => match op, ev x, ev y with
   | .eql, some a, some b => (ceq P t a b).map fun r => (.val (.bool r), N)
   | .neq, some a, some b => (ceq P t a b).map fun r => (.val (.bool (!r)), N)
   | _, _, _ => none
def kpure : Option (CNx × CH) := kret N (cpure P ev o)
def kfieldAddr (t : TypeId) (x : Operand) (i : Nat) : Option (CNx × CH) := match ev x with
 | some x => kret N (cfieldAddr P t x i)
 | none => none
def kfield (t : TypeId) (x : Operand) (i : Nat) : Option (CNx × CH) := match ev x with
 | some x => kret N (cfield P t x i)
 | none => none
def ksta (t : TypeId) (x : Operand) : Option (CNx × CH) := match ev x with
 | some x => kret N (csta P t x)
 | none => none
def kindexAddr (t : TypeId) (x i : Operand) : Option (CNx × CH) := match ev x with
 | some x => match ev i with
  | some i => kret N (cindexAddr P t x i)
  | none => none
 | none => none
def kmap (t : TypeId) (m k x : Operand) : Option (CNx × CH) := match ev m with
 | some m => match ev k with
  | some k => match ev x with
   | some x => kskip (cmapUpdate P t m k x N)
   | none => none
  | none => none
 | none => none
def kextract (t : Operand) (i : Nat) : Option (CNx × CH) := match ev t with
 | some t => kret N (cextract t i)
 | none => none
def kcall (c : Call) : Option (CNx × CH) := ccall P ev o c N
def krest : Option (CNx × CH) := cop P ev o N
def kop : Option (CNx × CH) :=
 match o.op with
 | .move x => kret N (ev x)
 | .assign x => kret N (ev x)
 | .pick c a b => kpick ev N c a b
 | .alloc e => kret2 (calloc P e N)
 | .box e x => kbox ev N e x
 | .build t parts => kbuild P ev N t parts
 | .buildSlice t n parts => kbuildSlice P ev N t n parts
 | .load t a => kload P ev N t a
 | .store t a x => kstore P ev N t a x
 | .nilCheck x => knil ev N x
 | .binOp op t x y _ => kbinOp P ev o N op t x y
 | .unOp _ _ _ => kpure P ev o N
 | .fieldAddr t x i => kfieldAddr P ev N t x i
 | .field t x i => kfield P ev N t x i
 | .indexAddr t x i => kindexAddr P ev N t x i
 | .sliceToArrayPointer t x => ksta P ev N t x
 | .insert t m k x => kmap P ev N t m k x
 | .mapUpdate t m k x => kmap P ev N t m k x
 | .extract t i => kextract ev N t i
 | .call c => kcall P ev o N c
 | _ => krest P ev o N
end
theorem kop_eq (P : Program) (ev : Ev) (o : Oper) (N : CH) : kop P ev o N = cop P ev o N := by
 unfold kop
 split
 ·rename_i x ho; unfold cop; simp only [ho, kret_eq]
 ·rename_i x ho; unfold cop; simp only [ho, kret_eq]
 ·rename_i c a b ho; unfold cop kpick; simp only [ho, kret_eq]; cases ev c with
  | none => rfl
  | some v => cases v with
   | bool b => cases b <;> rfl
   | _ => rfl
 ·rename_i e ho; unfold cop; simp only [ho, kret2_eq]
 ·rename_i e x ho; unfold cop kbox; simp only [ho, kret2_eq]; cases ev x <;> rfl
 ·rename_i t parts ho; unfold cop kbuild; simp only [ho, kret_eq]; cases evP ev parts.toList <;> rfl
 ·rename_i t n parts ho; unfold cop kbuildSlice; simp only [ho, kret2_eq]; cases evP ev parts.toList <;> rfl
 ·rename_i t a ho; unfold cop kload; simp only [ho, kret_eq]; cases ev a <;> rfl
 ·rename_i t a x ho; unfold cop kstore; simp only [ho, kskip_eq]; cases ev a with
  | none => rfl
  | some v => cases ev x <;> rfl
 ·rename_i x ho; unfold cop knil; simp only [ho, kret_eq]; cases ev x <;> rfl
 ·rename_i op t x y yt ho
  unfold cop kbinOp
  simp only [ho]
  cases hk : kbin op (ev x) (ev y) with
  | none => rfl
  | some v => simp only [kbin_ok (P := P) ho hk]
 ·rename_i a b c ho; unfold cop kpure; simp only [ho, kret_eq]
 ·rename_i t x i ho; unfold cop kfieldAddr; simp only [ho, kret_eq]; cases ev x <;> rfl
 ·rename_i t x i ho; unfold cop kfield; simp only [ho, kret_eq]; cases ev x <;> rfl
 ·rename_i t x i ho; unfold cop kindexAddr; simp only [ho, kret_eq]; cases ev x with
  | none => rfl
  | some v => cases ev i <;> rfl
 ·rename_i t x ho; unfold cop ksta; simp only [ho, kret_eq]; cases ev x <;> rfl
 ·rename_i t m k x ho; unfold cop kmap; simp only [ho, kskip_eq]; cases ev m with
  | none => rfl
  | some v => cases ev k with
   | none => rfl
   | some u => cases ev x <;> rfl
 ·rename_i t m k x ho; unfold cop kmap; simp only [ho, kskip_eq]; cases ev m with
  | none => rfl
  | some v => cases ev k with
   | none => rfl
   | some u => cases ev x <;> rfl
 ·rename_i t i ho; unfold cop kextract; simp only [ho, kret_eq]; cases ev t <;> rfl
 ·rename_i c ho; unfold cop kcall; simp only [ho]
 ·rfl
end
end Go.Eng
