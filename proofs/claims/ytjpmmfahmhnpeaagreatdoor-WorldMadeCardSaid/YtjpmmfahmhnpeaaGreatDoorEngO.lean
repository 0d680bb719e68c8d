/-
  The engine, part O: the same doing step by step, with the stack of calls in the open: so that a long run can be cut.
-/
import Derived.Test.YtjpmmfahmhnpeaaGreatDoorEngM
namespace Go.Eng
set_option linter.unusedSimpArgs false
set_option linter.unusedVariables false

/-- What a frame has still to do. -/
inductive It where
  | code (c : Code)
  | inBlock (id : Nat)
  | inLoop (c : Code)
  | reg (ops : Array Oper) (i : Nat) (l : List Oper)
  | inRange (l : Nat)
  | endRange (l : Nat)
  | beginRound
structure SF where
  fn : FuncId
  ar : Option Nat
  kd : CallKind
  ret : Bool
  a : FA
  k : List It
structure St where
  top : SF
  cs : List SF
  N : CH

def It.item (E : Env) : It → Item
  | .code c => .code c
  | .inBlock id => .inBlock id
  | .inLoop c => .inLoop c
  | .reg ops i l => .inRegion ops (List.range' i l.length)
  | .inRange l => .inRangeFunc (E.f l)
  | .endRange l => .endRangeFunc (E.f l)
  | .beginRound => .beginRound
def It.Ok (D : Nat → Prop) : It → Prop
  | .reg ops i l => ∀ j o, l[j]? = some o → ops[i + j]? = some o
  | .inRange l => D l
  | .endRange l => D l
  | _ => True
def SF.base (E : Env) (s : SF) : Frame := { (default : Frame) with fn := s.fn, kind := s.kd, roundOf := s.ar.map E.f }
def SF.frame (E : Env) (s : SF) : Frame :=
  { fn := s.fn, tmps := (E.act s.a.abs).tmps, todo := s.k.map (It.item E), defers := (E.act s.a.abs).defers, mode := if s.ret = true then .returning else .run, kind := s.kd, roundOf := s.ar.map E.f }
theorem SF.frame_run (E : Env) {s : SF} (h : s.ret = false) : s.frame E = fat (s.base E) (E.act s.a.abs) (s.k.map (It.item E)) := by
  simp [SF.frame, fat, SF.base, h]
structure SF.Ok (D : Nat → Prop) (s : SF) : Prop where
  a : s.a.Ok
  clo : s.a.abs.Clo D
  ar : ∀ l, s.ar = some l → D l
  its : ∀ it ∈ s.k, it.Ok D
  ret : s.ret = true → s.ar = none
  kd : s.ar.isSome = true → s.kd = .normal
def StkOk : List SF → Prop
  | [] => True
  | s :: r => (s.kd = .normal ∨ (s.kd = .deferred ∧ ∃ c r', r = c :: r' ∧ c.ret = true)) ∧ StkOk r

theorem SF.ext {E E' : Env} {N N' : CH} {w w' : World} (X : Ext E N w E' N' w') {s : SF} (h : s.Ok E.D) : s.frame E' = s.frame E ∧ s.Ok E'.D := by
  obtain ⟨h1, h2⟩ := X.act h.clo
  refine ⟨?_, ⟨h.a, h2, fun l hl => (X.mono l (h.ar l hl)).1, fun it hit => ?_, h.ret, h.kd⟩⟩
  · have e1 : s.k.map (It.item E') = s.k.map (It.item E) := List.map_congr_left fun it hit => by
      have := h.its it hit
      cases it with
      | inRange l => simp only [It.item, (X.mono l this).2.1]
      | endRange l => simp only [It.item, (X.mono l this).2.1]
      | _ => rfl
    have e2 : s.ar.map E'.f = s.ar.map E.f := by
      cases hs : s.ar with
      | none => rfl
      | some l => simp only [Option.map_some, (X.mono l (h.ar l hs)).2.1]
    simp only [SF.frame, h1, e1, e2]
  · have := h.its it hit
    cases it with
    | inRange l => exact (X.mono l this).1
    | endRange l => exact (X.mono l this).1
    | reg ops i l => exact this
    | _ => trivial
theorem frames_ext {E E' : Env} {N N' : CH} {w w' : World} (X : Ext E N w E' N' w') {cs : List SF} (h : ∀ s ∈ cs, s.Ok E.D) : cs.map (SF.frame E') = cs.map (SF.frame E) ∧ ∀ s ∈ cs, s.Ok E'.D :=
  ⟨List.map_congr_left fun s hs => (SF.ext X (h s hs)).1, fun s hs => (SF.ext X (h s hs)).2⟩

structure SRel (P : Program) (E : Env) (S : St) (w : World) : Prop where
  rel : Rel P E S.N w
  top : S.top.Ok E.D
  cs : ∀ s ∈ S.cs, s.Ok E.D
  stk : StkOk (S.top :: S.cs)
def St.mach (E : Env) (S : St) (under : List Frame) (w : World) : Machine := lone (S.top.frame E) (S.cs.map (SF.frame E) ++ under) w
/-- From the one state the model comes to the other. -/
def Reach (P : Program) (S S' : St) : Prop := ∀ E w, SRel P E S w → ∀ under, ∃ E' w', SRel P E' S' w' ∧ Ext E S.N w E' S'.N w' ∧ Steps P (S.mach E under w) (S'.mach E' under w')
theorem Reach.refl (P : Program) (S : St) : Reach P S S := fun E w h under => ⟨E, w, h, Ext.refl _ _ _, .refl _ _⟩
theorem Reach.trans {P : Program} {S S1 S2 : St} (h : Reach P S S1) (g : Reach P S1 S2) : Reach P S S2 := fun E w hr under => by
  obtain ⟨E1, w1, h1, X1, s1⟩ := h E w hr under
  obtain ⟨E2, w2, h2, X2, s2⟩ := g E1 w1 h1 under
  exact ⟨E2, w2, h2, X1.trans X2, s1.trans s2⟩

/-! ### the steps -/
def kenter (P : Program) (f : FuncId) (args : List Value) (kd : CallKind) : Option SF :=
  match P.funcs[f]? with
  | some fn => match fn.body with
    | some c => if args.length ≤ fn.ntmps then some ⟨f, none, kd, false, FA.init fn.ntmps args, [.code c]⟩ else none
    | none => none
  | none => none
def kfin : SF → Value → Option SF
  | ⟨fn, ar, kd, false, a, .reg ops i (o :: r) :: k⟩, v => some ⟨fn, ar, kd, false, a.put o.dst v, .reg ops (Nat.succ i) r :: k⟩
  | ⟨fn, ar, kd, false, a, .inRange l :: k⟩, _ => some ⟨fn, ar, kd, false, a, .endRange l :: k⟩
  | _, _ => none
def kexit (id : Nat) : List It → Option (List It)
  | .inBlock id' :: k => if id' = id then some k else kexit id k
  | _ :: k => kexit id k
  | [] => none
/-- A round ends. -/
def kround (l : Nat) (jump : Option Code) (cs : List SF) (N : CH) : Option St :=
  match cendRound l jump N with
  | some (v, N') => match cs with
    | c :: cs' => match kfin c v with
      | some c' => some ⟨c', cs', N'⟩
      | none => none
    | [] => none
  | none => none
def kresult : List Value → Value
  | [v] => v
  | vs => .tuple vs.toArray
/-- A frame returns. -/
def kreturn (P : Program) (fn : FuncId) (ar : Option Nat) (kd : CallKind) (a : FA) (k : List It) (cs : List SF) (N : CH) : Option St :=
  match a with
  | ⟨n, t, .coll m :: ds⟩ => match N.get m with
    | some .dfr => match N.wset m .dead with
      | some N' => some ⟨⟨fn, ar, kd, true, ⟨n, t, ds⟩, k⟩, cs, N'⟩
      | none => none
    | _ => none
  | ⟨n, t, .call f q args :: ds⟩ => match kenter P f (args ++ q) .deferred with
    | some s => some ⟨s, ⟨fn, ar, kd, true, ⟨n, t, ds⟩, k⟩ :: cs, N⟩
    | none => none
  | ⟨n, t, []⟩ => match P.funcs[fn]? with
    | some f => match fresult P ⟨n, t, []⟩ N f.results.toList with
      | some vs => match cs with
        | c :: cs' => match kd with
          | .normal => match kfin c (kresult vs) with
            | some c' => some ⟨c', cs', N⟩
            | none => none
          | .deferred => some ⟨c, cs', N⟩
          | _ => none
        | [] => none
      | none => none
    | none => none
def kcode (P : Program) (R : Rec) (fn : FuncId) (ar : Option Nat) (kd : CallKind) (a : FA) (c : Code) (k : List It) (cs : List SF) (N : CH) : Option St :=
  match c with
  | .skip => some ⟨⟨fn, ar, kd, false, a, k⟩, cs, N⟩
  | .seq x y => some ⟨⟨fn, ar, kd, false, a, .code x :: .code y :: k⟩, cs, N⟩
  | .cond c x y => match fev a c with
    | some (.bool true) => some ⟨⟨fn, ar, kd, false, a, .code x :: k⟩, cs, N⟩
    | some (.bool false) => some ⟨⟨fn, ar, kd, false, a, .code y :: k⟩, cs, N⟩
    | _ => none
  | .block id c => some ⟨⟨fn, ar, kd, false, a, .code c :: .inBlock id :: k⟩, cs, N⟩
  | .loop c => some ⟨⟨fn, ar, kd, false, a, .code c :: .inLoop c :: k⟩, cs, N⟩
  | .exit id => match kexit id k with
    | some k' => some ⟨⟨fn, ar, kd, false, a, k'⟩, cs, N⟩
    | none => match ar with
      | some l => kround l (some (.exit id)) cs N
      | none => none
  | .ret => match ar with
    | none => some ⟨⟨fn, none, kd, true, a, .code .ret :: k⟩, cs, N⟩
    | some l => kround l (some .ret) cs N
  | .region _ ops draw => match draw with
    | false => some ⟨⟨fn, ar, kd, false, a, .reg ops 0 ops.toList :: k⟩, cs, N⟩
    | true => match fcdraw P R ops a N with
      | some (a', N') => some ⟨⟨fn, ar, kd, false, a', k⟩, cs, N'⟩
      | none => none
  | .rangeFunc f params as bd => match centerLoop fn a.abs params as bd ar N with
    | some (l, a', N1) => match fev a f with
      | some (.func (.func g) p q) => match kenter P g (p.toList ++ [.func (.yield l) #[] #[]] ++ q.toList) .normal with
        | some s => some ⟨s, ⟨fn, ar, kd, false, { a with dm := a'.dm }, .inRange l :: k⟩ :: cs, N1⟩
        | none => none
      | _ => none
    | none => none
  | _ => none
def kgo (P : Program) (fn : FuncId) (ar : Option Nat) (kd : CallKind) (a : FA) (ops : Array Oper) (i : Nat) (o : Oper) (r : List Oper) (k : List It) (cs : List SF) (N : CH) : Option St :=
  match kop P (fev a) o N with
  | some (.val v, N') => some ⟨⟨fn, ar, kd, false, a.put o.dst v, .reg ops (Nat.succ i) r :: k⟩, cs, N'⟩
  | some (.skip, N') => some ⟨⟨fn, ar, kd, false, a.put o.dst undef, .reg ops (Nat.succ i) r :: k⟩, cs, N'⟩
  | some (.enter f args, N') => match kenter P f args .normal with
    | some s => some ⟨s, ⟨fn, ar, kd, false, a, .reg ops i (o :: r) :: k⟩ :: cs, N'⟩
    | none => none
  | some (.round l f tmps as bd, N') => some ⟨⟨f, some l, .normal, false, FA.ofList tmps, [.code as, .beginRound, .code bd]⟩, ⟨fn, ar, kd, false, a, .reg ops i (o :: r) :: k⟩ :: cs, N'⟩
  | none => match ar with
    | some _ => none
    | none => match cdefer (fev a) o with
      | some d => some ⟨⟨fn, none, kd, false, { a.put o.dst undef with dm := d :: a.dm }, .reg ops (Nat.succ i) r :: k⟩, cs, N⟩
      | none => if crecover o = true then some ⟨⟨fn, none, kd, false, a.put o.dst .nilIface, .reg ops (Nat.succ i) r :: k⟩, cs, N⟩ else none
def koper (P : Program) (fn : FuncId) (ar : Option Nat) (kd : CallKind) (a : FA) (ops : Array Oper) (i : Nat) (o : Oper) (r : List Oper) (k : List It) (cs : List SF) (N : CH) : Option St :=
  match o.guard with
  | none => kgo P fn ar kd a ops i o r k cs N
  | some _ => if fguardSeen ops a o = true then if Region.wanted o (fyielded ops a) = true then kgo P fn ar kd a ops i o r k cs N else some ⟨⟨fn, ar, kd, false, a.put o.dst undef, .reg ops (Nat.succ i) r :: k⟩, cs, N⟩ else none
def kstep (P : Program) (R : Rec) : St → Option St
  | ⟨⟨fn, ar, kd, true, a, k⟩, cs, N⟩ => kreturn P fn ar kd a k cs N
  | ⟨⟨fn, ar, kd, false, a, []⟩, cs, N⟩ => match ar with
    | none => some ⟨⟨fn, none, kd, true, a, []⟩, cs, N⟩
    | some l => kround l none cs N
  | ⟨⟨fn, ar, kd, false, a, it :: k⟩, cs, N⟩ => match it with
    | .code c => kcode P R fn ar kd a c k cs N
    | .inBlock _ => some ⟨⟨fn, ar, kd, false, a, k⟩, cs, N⟩
    | .inLoop c => some ⟨⟨fn, ar, kd, false, a, .code c :: .inLoop c :: k⟩, cs, N⟩
    | .reg ops i l => match l with
      | [] => some ⟨⟨fn, ar, kd, false, a, k⟩, cs, N⟩
      | o :: r => koper P fn ar kd a ops i o r k cs N
    | .inRange _ => none
    | .endRange l => match cendLoop l N with
      | some (jump, N') => match jump with
        | none => some ⟨⟨fn, ar, kd, false, a, k⟩, cs, N'⟩
        | some j => some ⟨⟨fn, ar, kd, false, a, .code j :: k⟩, cs, N'⟩
      | none => none
    | .beginRound => match ar with
      | some l => match cbegin l N with
        | some N' => some ⟨⟨fn, ar, kd, false, a, k⟩, cs, N'⟩
        | none => none
      | none => none
def krun (P : Program) (R : Rec) : Nat → St → Option St
  | 0, S => some S
  | n + 1, S => match kstep P R S with
    | some S' => krun P R n S'
    | none => none

theorem kenter_ok {P : Program} {E : Env} {f : FuncId} {args : List Value} {kd : CallKind} {s : SF} (h : kenter P f args kd = some s) (ha : ∀ u ∈ args, Clo E.D u) :
    s.frame E = Frame.enter P f (args.map E.m).toArray kd ∧ s.Ok E.D ∧ s.kd = kd ∧ s.ret = false ∧ ∃ fn, P.funcs[f]? = some fn ∧ fn.body.isSome = true := by
  unfold kenter at h
  split at h
  · rename_i fn hf
    split at h
    · rename_i c hb
      split at h
      · rename_i hlen
        cases h
        obtain ⟨h1, h2⟩ := FA.init_ok hlen
        refine ⟨?_, ⟨h1, ?_, by simp, ?_, by simp, by simp⟩, rfl, rfl, fn, hf, by rw [hb]; rfl⟩
        · simp only [SF.frame, h2, Frame.enter, hf, Option.bind_some, hb, Option.map_some, Option.getD_some, Env.act, List.map_nil, List.map_cons, It.item, Bool.false_eq_true, if_false, Option.map_none]
          congr 1
          apply Array.ext'
          simp [m_undef]
        · rw [h2]
          refine ⟨?_, by simp⟩
          intro u hu
          rcases List.mem_append.1 hu with h3 | h3
          · exact ha u h3
          · rw [(List.mem_replicate.1 h3).2]; exact undef_clo _
        · intro it hit
          simp only [List.mem_singleton] at hit
          subst hit
          trivial
      · cases h
    · cases h
  · cases h

theorem kfin_ok {E : Env} {c c' : SF} {v : Value} (h : kfin c v = some c') (hc : c.Ok E.D) (hv : Clo E.D v) : c'.frame E = (c.frame E).finish (E.m v) ∧ c'.Ok E.D ∧ c'.kd = c.kd ∧ c'.ret = c.ret ∧ c'.ar = c.ar := by
  unfold kfin at h
  split at h
  · rename_i v0 fn ar kd a ops i o r k
    cases h
    have ho : ops[i]? = some o := by
      have := hc.its (.reg ops i (o :: r)) (by simp) 0 o rfl
      simpa using this
    obtain ⟨h1, h2⟩ := FA.put_ok hc.a o.dst v
    refine ⟨?_, ⟨h1, ?_, hc.ar, ?_, hc.ret, hc.kd⟩, rfl, rfl, rfl⟩
    · rw [SF.frame_run E rfl, SF.frame_run E rfl]
      simp only [List.map_cons, It.item, List.length_cons, List.range'_succ, h2]
      rw [fat_finish ho, act_put]
      rfl
    · rw [h2]; exact hc.clo.put _ hv
    · intro it hit
      rcases List.mem_cons.1 hit with rfl | hit
      · intro j o' hj
        have := hc.its (.reg ops i (o :: r)) (by simp) (j + 1) o' (by simpa using hj)
        rwa [show i + (j + 1) = i + 1 + j by omega] at this
      · exact hc.its it (by simp [hit])
  · rename_i v0 fn ar kd a l k
    cases h
    refine ⟨?_, ⟨hc.a, hc.clo, hc.ar, ?_, hc.ret, hc.kd⟩, rfl, rfl, rfl⟩
    · rw [SF.frame_run E rfl, SF.frame_run E rfl]
      simp only [List.map_cons, It.item]
      rw [fat_finish_range]
      rfl
    · intro it hit
      rcases List.mem_cons.1 hit with rfl | hit
      · exact hc.its (.inRange l) (by simp)
      · exact hc.its it (by simp [hit])
  · cases h
theorem kexit_ok {E : Env} {id : Nat} : ∀ {k : List It}, exitTo id (k.map (It.item E)) = (kexit id k).map (List.map (It.item E)) := by
  intro k
  induction k with
  | nil => rfl
  | cons it k ih =>
    cases it with
    | inBlock id' =>
      simp only [List.map_cons, It.item, exitTo, kexit]
      by_cases h : id' = id
      · simp [h]
      · have : (id' == id) = false := by simpa using h
        simp [this, h, ih]
    | _ => simp only [List.map_cons, It.item, exitTo, kexit, ih]
theorem kexit_mem {id : Nat} : ∀ {k k' : List It}, kexit id k = some k' → ∀ it ∈ k', it ∈ k := by
  intro k
  induction k with
  | nil => intro k' h; cases h
  | cons it k ih =>
    intro k' h x hx
    cases it with
    | inBlock id' =>
      simp only [kexit] at h
      split at h
      · cases h; simp [hx]
      · exact List.mem_cons_of_mem _ (ih h x hx)
    | _ => exact List.mem_cons_of_mem _ (ih h x hx)

theorem stk_top {s s' : SF} {cs : List SF} (h : StkOk (s :: cs)) (hk : s'.kd = s.kd) : StkOk (s' :: cs) := by
  obtain ⟨h1, h2⟩ := h
  exact ⟨by rw [hk]; exact h1, h2⟩
/-- The top frame alone turns, and the memory. -/
theorem SRel.turn {P : Program} {E E' : Env} {s s' : SF} {cs : List SF} {N N' : CH} {w w' : World} (h : SRel P E ⟨s, cs, N⟩ w) (R' : Rel P E' N' w') (X : Ext E N w E' N' w') (hs : s'.Ok E'.D) (hk : s'.kd = s.kd) :
    SRel P E' ⟨s', cs, N'⟩ w' := ⟨R', hs, (frames_ext X h.cs).2, stk_top h.stk hk⟩
theorem SF.Ok.its' {D D' : Nat → Prop} (hD : ∀ k, D k → D' k) {it : It} (h : it.Ok D) : it.Ok D' := by
  cases it with
  | inRange l => exact hD _ h
  | endRange l => exact hD _ h
  | reg ops i l => exact h
  | _ => trivial
theorem mach_eq {E E' : Env} {N N' : CH} {w w' : World} (X : Ext E N w E' N' w') {s : SF} {cs : List SF} {M : CH} (h : ∀ c ∈ cs, c.Ok E.D) (under : List Frame) :
    St.mach E' ⟨s, cs, M⟩ under w' = lone (s.frame E') (cs.map (SF.frame E) ++ under) w' := by
  unfold St.mach
  simp only [(frames_ext X h).1]

section
variable {P : Program} {fn : FuncId} {ar : Option Nat} {kd : CallKind} {a : FA} {k k0 k1 : List It} {cs : List SF} {N : CH}
/-- Only what is still to be done turns. -/
theorem reach_todo (hst : ∀ E w under, SRel P E ⟨⟨fn, ar, kd, false, a, k0⟩, cs, N⟩ w →
      step P (lone (fat (SF.base E ⟨fn, ar, kd, false, a, k0⟩) (E.act a.abs) (k0.map (It.item E))) (cs.map (SF.frame E) ++ under) w) = .next (lone (fat (SF.base E ⟨fn, ar, kd, false, a, k0⟩) (E.act a.abs) (k1.map (It.item E))) (cs.map (SF.frame E) ++ under) w))
    (hk : ∀ D : Nat → Prop, (∀ it ∈ k0, it.Ok D) → ∀ it ∈ k1, it.Ok D) : Reach P ⟨⟨fn, ar, kd, false, a, k0⟩, cs, N⟩ ⟨⟨fn, ar, kd, false, a, k1⟩, cs, N⟩ := by
  intro E w h under
  have hs := h.top
  refine ⟨E, w, ⟨h.rel, ⟨hs.a, hs.clo, hs.ar, hk _ hs.its, hs.ret, hs.kd⟩, h.cs, stk_top h.stk rfl⟩, Ext.refl _ _ _, .one ?_⟩
  have := hst E w under h
  unfold St.mach
  rw [SF.frame_run E rfl, SF.frame_run E rfl]
  exact this
theorem caller_of {E : Env} {s : SF} {cs : List SF} {under : List Frame} (h : StkOk (s :: cs)) : Caller s.kd (cs.map (SF.frame E) ++ under) := by
  rcases h.1 with h1 | ⟨h1, c, r', rfl, hc⟩
  · exact .inl h1
  · exact .inr ⟨h1, c.frame E, r'.map (SF.frame E) ++ under, rfl, by simp [SF.frame, hc]⟩
end

/-- A round's end. -/
theorem kround_ok {P : Program} {fn : FuncId} {l : Nat} {kd : CallKind} {a : FA} {k : List It} {cs : List SF} {N : CH} {jump : Option Code} {S' : St} (h : kround l jump cs N = some S')
    (hst : ∀ E w (c : Frame) under v w', SRel P E ⟨⟨fn, some l, kd, false, a, k⟩, cs, N⟩ w → (Instr.endRound (E.f l) jump).run P w = .ok v w' →
      step P (lone (fat (SF.base E ⟨fn, some l, kd, false, a, k⟩) (E.act a.abs) (k.map (It.item E))) (c :: under) w) = .next (lone (c.finish v) under w')) :
    Reach P ⟨⟨fn, some l, kd, false, a, k⟩, cs, N⟩ S' := by
  intro E w hs under
  unfold kround at h
  split at h
  · rename_i v N' hr
    split at h
    · rename_i c cs' 
      split at h
      · rename_i c' hf
        cases h
        have hl : E.D l := hs.top.ar l rfl
        obtain ⟨w', R', X, hv, hend⟩ := endRound_ok hs.rel hl hr
        have hc : c.Ok E.D := hs.cs c (by simp)
        have hcs' : ∀ s ∈ cs', s.Ok E.D := fun s h => hs.cs s (by simp [h])
        obtain ⟨h1, h2, h3, h4, h5⟩ := kfin_ok hf (SF.ext X hc).2 hv
        refine ⟨E, w', ⟨R', h2, fun s hh => (SF.ext X (hcs' s hh)).2, stk_top hs.stk.2 h3⟩, X, .one ?_⟩
        have := hst E w (c.frame E) (cs'.map (SF.frame E) ++ under) _ w' hs hend
        unfold St.mach
        rw [SF.frame_run E rfl]
        simp only [List.map_cons, List.cons_append]
        rw [this, h1, (SF.ext X hc).1]
      · cases h
    · cases h
  · cases h

theorem kreturn_ok {P : Program} (hP : NoCount P) {fn : FuncId} {ar : Option Nat} {kd : CallKind} {a : FA} {k : List It} {cs : List SF} {N : CH} {S' : St} (h : kreturn P fn ar kd a k cs N = some S') :
    Reach P ⟨⟨fn, ar, kd, true, a, k⟩, cs, N⟩ S' := by
  intro E w hs under
  have hmode : (SF.frame E ⟨fn, ar, kd, true, a, k⟩).mode = .returning := rfl
  unfold kreturn at h
  split at h
  · rename_i n t m ds
    split at h
    · rename_i hg
      split at h
      · rename_i N' hw
        cases h
        obtain ⟨hwm, rfl⟩ := CH.wset_some hw
        have hD : E.D m := hs.top.clo.dm (.coll m) (by simp [FA.abs])
        have ho : w.heap[E.f m]? = some (.deferred (some [])) := hs.rel.blk m _ hD hg
        obtain ⟨hr1, X1⟩ := hs.rel.setObj hD hwm hg rfl ho (b' := .dead) (o' := .deferred none) trivial
        have hrun : (Instr.takeDeferred (E.f m)).run P w = .ok [] { w with heap := w.heap.setIfInBounds (E.f m) (.deferred none) } := by
          simp [Instr.takeDeferred, getObj, setObj, Sem.run, ho]
        have hclo : (⟨n, t, ds⟩ : FA).abs.Clo E.D := ⟨hs.top.clo.tmps, fun d hd => hs.top.clo.dm d (by
          have : d ∈ ds := hd
          simp [FA.abs, this])⟩
        refine ⟨E, _, ⟨hr1, ⟨hs.top.a, hclo, hs.top.ar, hs.top.its, hs.top.ret, hs.top.kd⟩, hs.cs, stk_top hs.stk rfl⟩, X1, .one ?_⟩
        exact fstep_taken (fr := SF.frame E ⟨fn, ar, kd, true, ⟨n, t, .coll m :: ds⟩, k⟩) (cs := cs.map (SF.frame E) ++ under) hmode (ds := ds.map E.dm) rfl hrun
      · cases h
    · cases h
  · rename_i n t f q args ds
    split at h
    · rename_i s hk
      cases h
      obtain ⟨hq, ha⟩ : DM.Clo E.D (.call f q args) := hs.top.clo.dm _ (by simp [FA.abs])
      obtain ⟨e1, e2, e3, e4, fn', hf, hb⟩ := kenter_ok (E := E) hk (by
        intro u hu
        rcases List.mem_append.1 hu with hu | hu
        · exact ha u hu
        · exact hq u hu)
      have hclo : (⟨n, t, ds⟩ : FA).abs.Clo E.D := ⟨hs.top.clo.tmps, fun d hd => hs.top.clo.dm d (by
        have : d ∈ ds := hd
        simp [FA.abs, this])⟩
      have htop : SF.Ok E.D ⟨fn, ar, kd, true, ⟨n, t, ds⟩, k⟩ := ⟨hs.top.a, hclo, hs.top.ar, hs.top.its, hs.top.ret, hs.top.kd⟩
      refine ⟨E, w, ⟨hs.rel, e2, ?_, ⟨.inr ⟨e3, _, _, rfl, rfl⟩, stk_top hs.stk rfl⟩⟩, Ext.refl _ _ _, .one ?_⟩
      · intro s' hs'
        rcases List.mem_cons.1 hs' with rfl | hs'
        · exact htop
        · exact hs.cs s' hs'
      · have hrun : (invoke (E.dm (.call f q args)).target (E.dm (.call f q args)).args).run P w = .ok (.enter f ((args ++ q).map E.m).toArray) w := by
          simp only [Env.dm, invoke]
          rw [run_callFunc hP hf hb]
          congr 2
          apply Array.ext'
          simp
        have := fstep_deferred (fr := SF.frame E ⟨fn, ar, kd, true, ⟨n, t, .call f q args :: ds⟩, k⟩) (cs := cs.map (SF.frame E) ++ under) hmode (d := E.dm (.call f q args)) (ds := ds.map E.dm) rfl ⟨_, _, rfl⟩ hrun
        unfold St.mach
        simp only [e1, List.map_cons, List.cons_append]
        exact this
    · cases h
  · rename_i n t
    split at h
    · rename_i f hf
      split at h
      · rename_i vs hvs
        have hres : cresults P f (⟨n, t, []⟩ : FA).abs.tmps N = some (kresult vs) := by
          unfold cresults
          rw [fresult_eq hs.top.a _ hvs, Option.map_some]
          cases vs with
          | nil => rfl
          | cons v r => cases r <;> rfl
        obtain ⟨hrun, hv⟩ := results_ok hs.rel hs.top.clo.tmps hres
        split at h
        · rename_i c cs'
          have hc : c.Ok E.D := hs.cs c (by simp)
          have hcs' : ∀ s ∈ cs', s.Ok E.D := fun s h => hs.cs s (by simp [h])
          have hready : ∀ kd', kd' = kd → Ready P (SF.frame E ⟨fn, ar, kd, true, ⟨n, t, []⟩, k⟩) kd' w (E.m (kresult vs)) := fun kd' e => ⟨rfl, rfl, e.symm, f, hf, hrun⟩
          split at h
          · split at h
            · rename_i c' hfin
              cases h
              obtain ⟨h1, h2, h3, h4, h5⟩ := kfin_ok hfin hc hv
              refine ⟨E, w, ⟨hs.rel, h2, hcs', stk_top hs.stk.2 h3⟩, Ext.refl _ _ _, .one ?_⟩
              unfold St.mach
              simp only [List.map_cons, List.cons_append, h1]
              exact step_leave_returned (hready _ rfl).leaving
            · cases h
          · cases h
            have hret : c.ret = true := by
              rcases hs.stk.1 with h1 | ⟨_, c1, r1, he, hr⟩
              · cases h1
              · cases he; exact hr
            refine ⟨E, w, ⟨hs.rel, hc, hcs', hs.stk.2⟩, Ext.refl _ _ _, .one ?_⟩
            unfold St.mach
            simp only [List.map_cons, List.cons_append]
            exact fstep_deferred_end (hready _ rfl).1 rfl rfl (by simp [SF.frame, hret]) hf hrun
          · cases h
        · cases h
      · cases h
    · cases h

theorem kcode_ok {P : Program} (hP : NoCount P) (hm : P.follows .mixedOrders = true) {A B : Rec} (hAB : A.Le B) (hB : RecOk P B) {fn : FuncId} {ar : Option Nat} {kd : CallKind} {a : FA} {c : Code} {k : List It} {cs : List SF} {N : CH} {S' : St}
    (h : kcode P A fn ar kd a c k cs N = some S') : Reach P ⟨⟨fn, ar, kd, false, a, .code c :: k⟩, cs, N⟩ S' := by
  unfold kcode at h
  split at h
  · cases h
    exact reach_todo (fun E w under _ => fstep_skip) (fun D hh it hit => hh it (by simp [hit]))
  · cases h
    exact reach_todo (fun E w under _ => fstep_seq) (fun D hh it hit => by
      rcases List.mem_cons.1 hit with rfl | hit
      · trivial
      · rcases List.mem_cons.1 hit with rfl | hit
        · trivial
        · exact hh it (by simp [hit]))
  · rename_i c x y
    split at h
    · rename_i hev
      cases h
      exact reach_todo (fun E w under hs => by
        rw [fev_eq hs.top.a] at hev
        exact fstep_cond (t := true) (cev_ok hs.rel.gl hs.top.clo c _ hev).1) (fun D hh it hit => by
        rcases List.mem_cons.1 hit with rfl | hit
        · trivial
        · exact hh it (by simp [hit]))
    · rename_i hev
      cases h
      exact reach_todo (fun E w under hs => by
        rw [fev_eq hs.top.a] at hev
        exact fstep_cond (t := false) (cev_ok hs.rel.gl hs.top.clo c _ hev).1) (fun D hh it hit => by
        rcases List.mem_cons.1 hit with rfl | hit
        · trivial
        · exact hh it (by simp [hit]))
    · cases h
  · cases h
    exact reach_todo (fun E w under _ => fstep_block) (fun D hh it hit => by
      rcases List.mem_cons.1 hit with rfl | hit
      · trivial
      · rcases List.mem_cons.1 hit with rfl | hit
        · trivial
        · exact hh it (by simp [hit]))
  · cases h
    exact reach_todo (fun E w under _ => fstep_loop) (fun D hh it hit => by
      rcases List.mem_cons.1 hit with rfl | hit
      · trivial
      · rcases List.mem_cons.1 hit with rfl | hit
        · trivial
        · exact hh it (by simp [hit]))
  · rename_i id
    split at h
    · rename_i k' hk
      cases h
      exact reach_todo (fun E w under _ => fstep_exit (by rw [kexit_ok, hk]; rfl)) (fun D hh it hit => hh it (by simp [kexit_mem hk it hit]))
    · rename_i hk
      split at h
      · rename_i l
        refine kround_ok h (fun E w c under v w' hs hend => fstep_round_exit rfl (hs.top.kd rfl) (by rw [kexit_ok, hk]; rfl) hend)
      · cases h
  · split at h
    · cases h
      intro E w hs under
      have ht := hs.top
      refine ⟨E, w, ⟨hs.rel, ⟨ht.a, ht.clo, by simp, ht.its, fun _ => rfl, by simp⟩, hs.cs, stk_top hs.stk rfl⟩, Ext.refl _ _ _, .one ?_⟩
      unfold St.mach
      rw [SF.frame_run E rfl]
      exact fstep_ret rfl
    · rename_i l
      exact kround_ok h (fun E w c under v w' hs hend => fstep_round_ret rfl (hs.top.kd rfl) hend)
  · rename_i id ops draw
    split at h
    · cases h
      refine reach_todo (fun E w under _ => ?_) (fun D hh it hit => ?_)
      · have : ops.toList.length = ops.size := by simp
        simp only [List.map_cons, It.item, this, ← List.range_eq_range']
        exact fstep_region
      · rcases List.mem_cons.1 hit with rfl | hit
        · intro j o hj
          simpa using hj
        · exact hh it (by simp [hit])
    · split at h
      · rename_i a' N' hd
        cases h
        intro E w hs under
        have ht := hs.top
        obtain ⟨h1, h2⟩ := fcdraw_ok hAB ht.a hd
        have hk : ∀ it ∈ k, it.Ok E.D := fun it hit => ht.its it (by simp [hit])
        obtain ⟨E', w', R', X, hclo, hst⟩ := cdraw_ok hP hm hB h1 hs.rel ht.clo (SF.base E ⟨fn, ar, kd, false, a, k⟩) id (k.map (It.item E)) (cs.map (SF.frame E) ++ under)
        have hold : SF.Ok E.D ⟨fn, ar, kd, false, a, k⟩ := ⟨ht.a, ht.clo, ht.ar, hk, ht.ret, ht.kd⟩
        obtain ⟨x1, x2⟩ := SF.ext X hold
        refine ⟨E', w', hs.turn R' X ⟨h2, hclo, x2.ar, x2.its, x2.ret, x2.kd⟩ rfl, X, ?_⟩
        rw [mach_eq X hs.cs, SF.frame_run E' rfl]
        have eb : SF.base E' ⟨fn, ar, kd, false, a', k⟩ = SF.base E ⟨fn, ar, kd, false, a, k⟩ := by
          have := congrArg Frame.roundOf x1
          simp only [SF.frame] at this
          simp only [SF.base, this]
        have ek : k.map (It.item E') = k.map (It.item E) := by
          have := congrArg Frame.todo x1
          simpa [SF.frame] using this
        simp only
        rw [eb, ek]
        unfold St.mach
        rw [SF.frame_run E rfl]
        exact hst
      · cases h
  · rename_i f params as bd
    split at h
    · rename_i l a' N1 hcl
      split at h
      · rename_i g p q hev
        split at h
        · rename_i s hk
          cases h
          intro E w hs under
          have ht := hs.top
          obtain ⟨E1, w1, mark, hr1, X1, ha1, hl, hact, hrun⟩ := enterLoop_ok hs.rel ht.clo ht.ar hcl
          rw [fev_eq ht.a] at hev
          obtain ⟨hev1, hcl1⟩ := cev_ok hs.rel.gl ht.clo f _ hev
          have hpq : (∀ u ∈ p.toList, Clo E.D u) ∧ (∀ u ∈ q.toList, Clo E.D u) := by
            obtain ⟨p⟩ := p; obtain ⟨q⟩ := q
            exact ⟨CloL_all.1 hcl1.2.1, CloL_all.1 hcl1.2.2⟩
          have hargs : ∀ u ∈ p.toList ++ [.func (.yield l) #[] #[]] ++ q.toList, Clo E1.D u := by
            intro u hu
            rcases List.mem_append.1 hu with h6 | h6
            · rcases List.mem_append.1 h6 with h7 | h7
              · exact X1.clo (hpq.1 u h7)
              · simp only [List.mem_singleton] at h7
                subst h7
                exact ⟨hl, trivial, trivial⟩
            · exact X1.clo (hpq.2 u h6)
          obtain ⟨e1, e2, e3, e4, fn2, hf2, hb2⟩ := kenter_ok (E := E1) hk hargs
          have hinv : (do let d ← resolve (E.act a.abs).eval { callee := .value f, args := #[.const (.func (.yield (E1.f l)) #[] #[])], argTypes := #[] } 0; invoke d.target d.args : Sem Next).run P w1 =
              .ok (.enter g ((p.toList ++ [Value.func (.yield l) #[] #[]] ++ q.toList).map E1.m).toArray) w1 := by
            have e2 : E.m (.func (.func g) p q) = .func (.func g) (p.map E.m) (q.map E.m) := m_func E (.func g) p q
            simp only [resolve, hev1, e2, Deferred.ofValue, pure_bind, invoke]
            rw [run_callFunc hP hf2 hb2]
            congr 2
            apply Array.ext'
            have hp1 : p.toList.map E1.m = p.toList.map E.m := List.map_congr_left fun u hu => X1.m (hpq.1 u hu)
            have hq1 : q.toList.map E1.m = q.toList.map E.m := List.map_congr_left fun u hu => X1.m (hpq.2 u hu)
            have hy : E1.m (Value.func (.yield l) #[] #[]) = Value.func (.yield (E1.f l)) #[] #[] := by rw [m_func]; simp [mvFn]
            simp [hp1, hq1, hy, Act.eval]
          have hk0 : ∀ it ∈ k, it.Ok E.D := fun it hit => ht.its it (by simp [hit])
          have hold : SF.Ok E.D ⟨fn, ar, kd, false, a, k⟩ := ⟨ht.a, ht.clo, ht.ar, hk0, ht.ret, ht.kd⟩
          obtain ⟨x1, x2⟩ := SF.ext X1 hold
          have eabs : ({ a with dm := a'.dm } : FA).abs = a' := by
            have := centerLoop_tmps hcl
            obtain ⟨t1, d1⟩ := a'
            simp only at this
            subst this
            rfl
          have hnew : SF.Ok E1.D ⟨fn, ar, kd, false, { a with dm := a'.dm }, .inRange l :: k⟩ := by
            refine ⟨ht.a, ?_, x2.ar, ?_, x2.ret, x2.kd⟩
            · show CA.Clo E1.D ({ a with dm := a'.dm } : FA).abs
              rw [eabs]; exact ha1
            · intro it hit
              rcases List.mem_cons.1 hit with rfl | hit
              · exact hl
              · exact x2.its it hit
          refine ⟨E1, w1, ⟨hr1, e2, ?_, ⟨.inl e3, ?_⟩⟩, X1, .one ?_⟩
          · intro s' hs'
            rcases List.mem_cons.1 hs' with rfl | hs'
            · exact hnew
            · exact (frames_ext X1 hs.cs).2 s' hs'
          · exact stk_top hs.stk rfl
          · have hst := fstep_rangeFunc (b := SF.base E ⟨fn, ar, kd, false, a, k⟩) (a := E.act a.abs) (k := k.map (It.item E)) (cs := cs.map (SF.frame E) ++ under) (w := w) (P := P) (f := f) (params := params) (assign := as) (body := bd) hrun hinv
            unfold St.mach
            rw [SF.frame_run E rfl]
            simp only [List.map_cons, List.cons_append, (frames_ext X1 hs.cs).1]
            rw [e1, SF.frame_run E1 rfl]
            have eb : SF.base E1 ⟨fn, ar, kd, false, { a with dm := a'.dm }, .inRange l :: k⟩ = SF.base E ⟨fn, ar, kd, false, a, k⟩ := by
              have := congrArg Frame.roundOf x1
              simp only [SF.frame] at this
              simp only [SF.base, this]
            have ek : k.map (It.item E1) = k.map (It.item E) := by
              have := congrArg Frame.todo x1
              simpa [SF.frame] using this
            simp only [List.map_cons, It.item, eb, ek, eabs, hact]
            exact hst
        · cases h
      · cases h
    · cases h
  · cases h

theorem kgo_ok {P : Program} (hP : NoCount P) {fn : FuncId} {ar : Option Nat} {kd : CallKind} {a : FA} {ops : Array Oper} {i : Nat} {o : Oper} {r : List Oper} {k : List It} {cs : List SF} {N : CH} {S' : St}
    (h : kgo P fn ar kd a ops i o r k cs N = some S') {E : Env} {w : World} (hs : SRel P E ⟨⟨fn, ar, kd, false, a, .reg ops i (o :: r) :: k⟩, cs, N⟩ w) (hw : Region.wanted o (yielded ops (E.act a.abs).tmps) = true) (under : List Frame) :
    ∃ E' w', SRel P E' S' w' ∧ Ext E N w E' S'.N w' ∧ Steps P (St.mach E ⟨⟨fn, ar, kd, false, a, .reg ops i (o :: r) :: k⟩, cs, N⟩ under w) (S'.mach E' under w') := by
  have ht := hs.top
  have hit : ∀ j o', (o :: r)[j]? = some o' → ops[i + j]? = some o' := ht.its (.reg ops i (o :: r)) (by simp)
  have ho : ops[i]? = some o := by simpa using hit 0 o rfl
  have hr : ∀ j o', r[j]? = some o' → ops[i + 1 + j]? = some o' := fun j o' hj => by
    have := hit (j + 1) o' (by simpa using hj)
    rwa [show i + (j + 1) = i + 1 + j by omega] at this
  have hstart : St.mach E ⟨⟨fn, ar, kd, false, a, .reg ops i (o :: r) :: k⟩, cs, N⟩ under w =
      lone (fat (SF.base E ⟨fn, ar, kd, false, a, .reg ops i (o :: r) :: k⟩) (E.act a.abs) (.inRegion ops (i :: List.range' (i + 1) r.length) :: k.map (It.item E))) (cs.map (SF.frame E) ++ under) w := by
    unfold St.mach
    rw [SF.frame_run E rfl]
    simp only [List.map_cons, It.item, List.length_cons, List.range'_succ]
  -- the frame behind the operation, for whatever temporaries
  have next : ∀ (E1 : Env) (w1 : World) (N1 : CH) (a1 : FA), Rel P E1 N1 w1 → Ext E N w E1 N1 w1 → a1.Ok → a1.abs.Clo E1.D →
      SRel P E1 ⟨⟨fn, ar, kd, false, a1, .reg ops (i + 1) r :: k⟩, cs, N1⟩ w1 ∧
      St.mach E1 ⟨⟨fn, ar, kd, false, a1, .reg ops (i + 1) r :: k⟩, cs, N1⟩ under w1 =
        lone (fat (SF.base E ⟨fn, ar, kd, false, a, .reg ops i (o :: r) :: k⟩) (E1.act a1.abs) (.inRegion ops (List.range' (i + 1) r.length) :: k.map (It.item E))) (cs.map (SF.frame E) ++ under) w1 := by
    intro E1 w1 N1 a1 R1 X1 h1 h2
    obtain ⟨x1, x2⟩ := SF.ext X1 ht
    have e1 := congrArg Frame.roundOf x1
    have e2 := congrArg Frame.todo x1
    simp only [SF.frame, List.map_cons, It.item, List.cons.injEq, true_and] at e1 e2
    refine ⟨hs.turn R1 X1 ⟨h1, h2, x2.ar, ?_, x2.ret, x2.kd⟩ rfl, ?_⟩
    · intro it hit'
      rcases List.mem_cons.1 hit' with rfl | hit'
      · exact hr
      · exact x2.its it (by simp [hit'])
    · rw [mach_eq X1 hs.cs, SF.frame_run E1 rfl]
      simp only [SF.base, e1, List.map_cons, It.item, e2]
  unfold kgo at h
  rw [kop_eq, fev_eq ht.a] at h
  cases hc : cop P (cev a.abs) o N with
  | none =>
    simp only [hc] at h
    cases har : ar with
    | some l => rw [har] at h; cases h
    | none =>
      subst har
      simp only at h
      have hro : (SF.base E ⟨fn, none, kd, false, a, .reg ops i (o :: r) :: k⟩).roundOf = none := rfl
      cases hd : cdefer (cev a.abs) o with
      | some d =>
        simp only [hd, Option.some.injEq] at h
        subst h
        obtain ⟨hdc, c, ho', hrun⟩ := cdefer_ok (E := E) hs.rel.gl ht.clo hd w P
        obtain ⟨h1, h2⟩ := FA.put_ok ht.a o.dst undef
        have hclo := ht.clo.put o.dst (undef_clo E.D)
        obtain ⟨n1, n2⟩ := next E w N { a.put o.dst undef with dm := d :: a.dm } hs.rel (Ext.refl _ _ _) h1 ⟨by
            have := hclo.tmps
            rw [← h2] at this
            exact this, fun d' hd' => by
            rcases List.mem_cons.1 hd' with rfl | hd'
            · exact hdc
            · exact ht.clo.dm d' hd'⟩
        refine ⟨E, w, n1, Ext.refl _ _ _, ?_⟩
        show Steps P _ (St.mach E ⟨⟨fn, none, kd, false, { a.put o.dst undef with dm := d :: a.dm }, .reg ops (i + 1) r :: k⟩, cs, N⟩ under w)
        rw [hstart, n2]
        have hst := fstep_defer (b := SF.base E ⟨fn, none, kd, false, a, .reg ops i (o :: r) :: k⟩) (a := E.act a.abs) (k := k.map (It.item E)) (cs := cs.map (SF.frame E) ++ under) (rest := List.range' (i + 1) r.length) ho hw hro ⟨c, ho'⟩ hrun
        have hact : E.act ({ a.put o.dst undef with dm := d :: a.dm } : FA).abs = { (E.act a.abs).put o.dst undef with defers := E.dm d :: (E.act a.abs).defers } := by
          rw [act_put_undef, ← h2]
          rfl
        rw [hact]
        exact .one hst
      | none =>
        simp only [hd] at h
        split at h
        · rename_i hre
          simp only [Option.some.injEq] at h
          subst h
          obtain ⟨c, ho', hrun⟩ := crecover_ok (a := E.act a.abs) hre P w
          obtain ⟨h1, h2⟩ := FA.put_ok ht.a o.dst .nilIface
          obtain ⟨n1, n2⟩ := next E w N (a.put o.dst .nilIface) hs.rel (Ext.refl _ _ _) h1 (by rw [h2]; exact ht.clo.put _ trivial)
          refine ⟨E, w, n1, Ext.refl _ _ _, ?_⟩
          show Steps P _ (St.mach E ⟨⟨fn, none, kd, false, a.put o.dst .nilIface, .reg ops (i + 1) r :: k⟩, cs, N⟩ under w)
          rw [hstart, n2, h2, ← act_put]
          exact .one (fstep_recover ho hw hro (caller_of (E := E) (under := under) hs.stk) (fun c' => by rw [ho']; intro e; cases e) hrun)
        · cases h
  | some x =>
    obtain ⟨nx, N1⟩ := x
    have hnd : ∀ c, o.op ≠ .defer c := by
      intro c e
      simp [cop, e] at hc
    obtain ⟨E1, w1, R1, X1, hclo, hrun⟩ := cop_ok hP hs.rel (cev_ok hs.rel.gl ht.clo) hc
    obtain ⟨hact, ha1⟩ := X1.act ht.clo
    cases nx with
    | val v =>
      simp only [hc, Option.some.injEq] at h
      subst h
      obtain ⟨h1, h2⟩ := FA.put_ok ht.a o.dst v
      obtain ⟨n1, n2⟩ := next E1 w1 N1 (a.put o.dst v) R1 X1 h1 (by rw [h2]; exact ha1.put _ hclo)
      refine ⟨E1, w1, n1, X1, ?_⟩
      show Steps P _ (St.mach E1 ⟨⟨fn, ar, kd, false, a.put o.dst v, .reg ops (i + 1) r :: k⟩, cs, N1⟩ under w1)
      rw [hstart, n2, h2, ← act_put, hact]
      exact .one (fstep_val ho hw hnd hrun)
    | skip =>
      simp only [hc, Option.some.injEq] at h
      subst h
      obtain ⟨h1, h2⟩ := FA.put_ok ht.a o.dst undef
      obtain ⟨n1, n2⟩ := next E1 w1 N1 (a.put o.dst undef) R1 X1 h1 (by rw [h2]; exact ha1.put _ (undef_clo _))
      refine ⟨E1, w1, n1, X1, ?_⟩
      show Steps P _ (St.mach E1 ⟨⟨fn, ar, kd, false, a.put o.dst undef, .reg ops (i + 1) r :: k⟩, cs, N1⟩ under w1)
      rw [hstart, n2, h2, ← act_put_undef, hact]
      exact .one (fstep_skipv ho hw hnd hrun)
    | enter f args =>
      simp only [hc] at h
      split at h
      · rename_i s hk
        simp only [Option.some.injEq] at h
        subst h
        obtain ⟨e1, e2, e3, e4, _⟩ := kenter_ok (E := E1) hk hclo
        obtain ⟨x1, x2⟩ := SF.ext X1 ht
        refine ⟨E1, w1, ⟨R1, e2, ?_, ⟨.inl e3, hs.stk⟩⟩, X1, ?_⟩
        · intro s' hs'
          rcases List.mem_cons.1 hs' with rfl | hs'
          · exact x2
          · exact (frames_ext X1 hs.cs).2 s' hs'
        · rw [hstart]
          unfold St.mach
          simp only [e1, List.map_cons, List.cons_append, x1, (frames_ext X1 hs.cs).1]
          rw [SF.frame_run E rfl]
          simp only [List.map_cons, It.item, List.length_cons, List.range'_succ]
          exact .one (fstep_enter ho hw hnd hrun)
      · cases h
    | round l f tmps as bd =>
      simp only [hc, Option.some.injEq] at h
      subst h
      obtain ⟨x1, x2⟩ := SF.ext X1 ht
      obtain ⟨h1, h2⟩ := FA.ofList_ok tmps
      refine ⟨E1, w1, ⟨R1, ⟨h1, ?_, (fun l' e => by cases e; exact hclo.1), ?_, (fun e => by cases e), fun _ => rfl⟩, ?_, ⟨.inl rfl, hs.stk⟩⟩, X1, ?_⟩
      · show CA.Clo E1.D (FA.ofList tmps).abs
        rw [h2]
        exact ⟨hclo.2, by simp⟩
      · intro it hit'
        simp only [List.mem_cons, List.mem_nil_iff, or_false] at hit'
        rcases hit' with rfl | rfl | rfl <;> trivial
      · intro s' hs'
        rcases List.mem_cons.1 hs' with rfl | hs'
        · exact x2
        · exact (frames_ext X1 hs.cs).2 s' hs'
      · rw [hstart]
        unfold St.mach
        simp only [List.map_cons, List.cons_append, x1, (frames_ext X1 hs.cs).1]
        rw [SF.frame_run E rfl]
        simp only [List.map_cons, It.item, List.length_cons, List.range'_succ]
        have hfr : SF.frame E1 ⟨f, some l, .normal, false, FA.ofList tmps, [.code as, .beginRound, .code bd]⟩ = Frame.round (E1.f l) f (tmps.map E1.m).toArray as bd .normal := by
          simp only [SF.frame, h2, Env.act, List.map_cons, List.map_nil, It.item, Frame.round, Bool.false_eq_true, if_false, Option.map_some]
        rw [hfr]
        exact .one (fstep_round ho hw hnd hrun)

theorem koper_ok {P : Program} (hP : NoCount P) {fn : FuncId} {ar : Option Nat} {kd : CallKind} {a : FA} {ops : Array Oper} {i : Nat} {o : Oper} {r : List Oper} {k : List It} {cs : List SF} {N : CH} {S' : St}
    (h : koper P fn ar kd a ops i o r k cs N = some S') : Reach P ⟨⟨fn, ar, kd, false, a, .reg ops i (o :: r) :: k⟩, cs, N⟩ S' := by
  intro E w hs under
  have ht := hs.top
  unfold koper at h
  split at h
  · rename_i hg
    exact kgo_ok hP h hs (by simp [Region.wanted, hg]) under
  · split at h
    · rename_i hg
      rw [fguardSeen_eq] at hg
      rw [fyielded_eq] at h
      split at h
      · rename_i hw
        exact kgo_ok hP h hs (by rw [wanted_act E hg]; exact hw) under
      · rename_i hw
        cases h
        have hit : ∀ j o', (o :: r)[j]? = some o' → ops[i + j]? = some o' := ht.its (.reg ops i (o :: r)) (by simp)
        have ho : ops[i]? = some o := by simpa using hit 0 o rfl
        have hr : ∀ j o', r[j]? = some o' → ops[i + 1 + j]? = some o' := fun j o' hj => by
          have := hit (j + 1) o' (by simpa using hj)
          rwa [show i + (j + 1) = i + 1 + j by omega] at this
        have hw' : Region.wanted o (yielded ops (E.act a.abs).tmps) = false := by rw [wanted_act E hg]; simpa using hw
        obtain ⟨h1, h2⟩ := FA.put_ok ht.a o.dst undef
        refine ⟨E, w, ⟨hs.rel, ⟨h1, by show CA.Clo E.D (a.put o.dst undef).abs; rw [h2]; exact ht.clo.put _ (undef_clo _), ht.ar, ?_, ht.ret, ht.kd⟩, hs.cs, stk_top hs.stk rfl⟩, Ext.refl _ _ _, ?_⟩
        · intro it hit'
          rcases List.mem_cons.1 hit' with rfl | hit'
          · exact hr
          · exact ht.its it (by simp [hit'])
        · unfold St.mach
          rw [SF.frame_run E rfl, SF.frame_run E rfl]
          simp only [List.map_cons, It.item, List.length_cons, List.range'_succ, h2, ← act_put_undef]
          exact .one (fstep_op_skip ho hw')
    · cases h

theorem kstep_ok {P : Program} (hP : NoCount P) (hm : P.follows .mixedOrders = true) {A B : Rec} (hAB : A.Le B) (hB : RecOk P B) {S S' : St} (h : kstep P A S = some S') : Reach P S S' := by
  obtain ⟨⟨fn, ar, kd, ret, a, k⟩, cs, N⟩ := S
  cases ret with
  | true => exact kreturn_ok hP h
  | false =>
    cases k with
    | nil =>
      cases ar with
      | none =>
        simp only [kstep, Option.some.injEq] at h
        subst h
        intro E w hs under
        have ht := hs.top
        refine ⟨E, w, ⟨hs.rel, ⟨ht.a, ht.clo, by simp, ht.its, fun _ => rfl, by simp⟩, hs.cs, stk_top hs.stk rfl⟩, Ext.refl _ _ _, .one ?_⟩
        unfold St.mach
        rw [SF.frame_run E rfl]
        exact fstep_end rfl
      | some l => exact kround_ok h (fun E w c under v w' hs hend => fstep_round_end rfl (hs.top.kd rfl) hend)
    | cons it k =>
      cases it with
      | code c => exact kcode_ok hP hm hAB hB h
      | inBlock id =>
        simp only [kstep, Option.some.injEq] at h
        subst h
        exact reach_todo (fun E w under _ => fstep_inBlock) (fun D hh it hit => hh it (by simp [hit]))
      | inLoop c =>
        simp only [kstep, Option.some.injEq] at h
        subst h
        exact reach_todo (fun E w under _ => fstep_inLoop) (fun D hh it hit => by
          rcases List.mem_cons.1 hit with rfl | hit
          · trivial
          · exact hh it hit)
      | reg ops i l =>
        cases l with
        | nil =>
          simp only [kstep, Option.some.injEq] at h
          subst h
          exact reach_todo (fun E w under _ => fstep_region_end) (fun D hh it hit => hh it (by simp [hit]))
        | cons o r => exact koper_ok hP h
      | inRange l => cases h
      | endRange l =>
        simp only [kstep] at h
        split at h
        · rename_i jump N' hj
          intro E w hs under
          have ht := hs.top
          have hl : E.D l := ht.its (.endRange l) (by simp)
          obtain ⟨w', R', X, hend⟩ := endLoop_ok hs.rel hl hj
          obtain ⟨x1, x2⟩ := SF.ext X ht
          have hst := fstep_endRangeFunc (b := SF.base E ⟨fn, ar, kd, false, a, .endRange l :: k⟩) (a := E.act a.abs) (k := k.map (It.item E)) (cs := cs.map (SF.frame E) ++ under) hend
          cases jump with
          | none =>
            simp only [Option.some.injEq] at h
            subst h
            refine ⟨E, w', hs.turn R' X ⟨ht.a, x2.clo, x2.ar, fun it hit => x2.its it (by simp [hit]), x2.ret, x2.kd⟩ rfl, X, .one ?_⟩
            unfold St.mach
            rw [SF.frame_run E rfl, SF.frame_run E rfl]
            exact hst
          | some j =>
            simp only [Option.some.injEq] at h
            subst h
            refine ⟨E, w', hs.turn R' X ⟨ht.a, x2.clo, x2.ar, fun it hit => by
              rcases List.mem_cons.1 hit with rfl | hit
              · trivial
              · exact x2.its it (by simp [hit]), x2.ret, x2.kd⟩ rfl, X, .one ?_⟩
            unfold St.mach
            rw [SF.frame_run E rfl, SF.frame_run E rfl]
            exact hst
        · cases h
      | beginRound =>
        cases ar with
        | none => cases h
        | some l =>
          simp only [kstep] at h
          split at h
          · rename_i N' hj
            simp only [Option.some.injEq] at h
            subst h
            intro E w hs under
            have ht := hs.top
            have hl : E.D l := ht.ar l rfl
            obtain ⟨w', R', X, hbeg⟩ := beginRound_ok hs.rel hl hj
            obtain ⟨x1, x2⟩ := SF.ext X ht
            refine ⟨E, w', hs.turn R' X ⟨ht.a, x2.clo, x2.ar, fun it hit => x2.its it (by simp [hit]), x2.ret, x2.kd⟩ rfl, X, .one ?_⟩
            unfold St.mach
            rw [SF.frame_run E rfl, SF.frame_run E rfl]
            exact fstep_beginRound (l := E.f l) rfl hbeg
          · cases h
theorem krun_ok {P : Program} (hP : NoCount P) (hm : P.follows .mixedOrders = true) {A B : Rec} (hAB : A.Le B) (hB : RecOk P B) : ∀ (n : Nat) {S S' : St}, krun P A n S = some S' → Reach P S S'
  | 0, S, S', h => by
    simp only [krun, Option.some.injEq] at h
    subst h
    exact Reach.refl P S
  | n + 1, S, S', h => by
    simp only [krun] at h
    split at h
    · rename_i S1 h1
      exact (kstep_ok hP hm hAB hB h1).trans (krun_ok hP hm hAB hB n h)
    · cases h
end Go.Eng
