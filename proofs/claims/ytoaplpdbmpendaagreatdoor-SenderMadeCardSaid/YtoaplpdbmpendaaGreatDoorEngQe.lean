/-
  The engine, part Qd: a call that starts one worker under a sync.WaitGroup and waits for it: from its entry to its return, beside such as only leave.
-/
import Derived.Test.YtoaplpdbmpendaaGreatDoorEngQc
import Derived.Test.YtoaplpdbmpendaaGreatDoorEngZe
set_option linter.unusedSectionVars false
set_option linter.unusedSimpArgs false
set_option linter.unusedVariables false
namespace Go.Eng
open Go.Conc
open Go.Conc.Lib (WgLib WgLink)
open Go.ConcN (WgLive ShN Has WSit AtR0 RW DWs sumTo)
open Go.ConcR (KK wgBlock WgAt stA smA rd mk Payload)
set_option linter.unusedSimpArgs false
set_option linter.unusedVariables false
set_option linter.unusedSectionVars false
variable [Hk]

/-! ### the group's block is laid -/
theorem TR.lay {Sh : Go.Loc → Prop} {Lv : Nat → Prop} {Q : Nat → Gh} {B : Nat} {t : Trace} (h : TR Sh Lv Q B t) : TR (fun l => Sh l ∨ ShN B l) Lv Q (B + 1) t := by
  have h' := h.mono (B' := B + 1) (by omega)
  refine ⟨fun i op x hi hx hs => ?_, h'.wr, h'.rd, h'.nr, h'.seen, fun x hx l hl => ⟨(h'.lt x hx l hl).1, ?_⟩, h'.sub, h'.apart, fun l hl => ?_⟩
  · rcases hs with hs | ⟨a, ha, hb⟩
    · exact h.quiet i op x hi hx hs
    · have := h.seen op (Array.mem_of_getElem? hi) x hx
      rw [ha] at this
      have : a.block < B := this
      omega
  · rintro (hs | ⟨a, rfl, hb⟩)
    · exact (h.lt x hx l hl).2 hs
    · have : a.block < B := (h.lt x hx _ hl).1
      omega
  · rcases hl with hl | ⟨a, rfl, hb⟩
    · exact h'.shl l hl
    · show a.block < B + 1
      omega
theorem ofEvents_none (x : Nat) (fn : FuncId) (pos : String) : MemOp.ofEvents x fn pos #[] = #[] := by rw [Go.Conc.ofEvents_eq]; simp
section
variable {P : Program} {Sh : Go.Loc → Prop} {O W : Nat → Prop} {gs : Array Goroutine} {w w2 : World} {t : Trace} {q : Nat → Nat}
theorem BS.lay {g g' : Goroutine} (h : BS P Sh O W gs w t q) (h0 : gs[0]? = some g) (hsz : w2.heap.size = w.heap.size + 1) : BS P (fun l => Sh l ∨ ShN w.heap.size l) O W ((gs.map (woken P g g' w2)).setIfInBounds 0 g') w2 t q := by
  refine ⟨fun j x hj hx => ?_, by rw [hsz]; exact h.tr.lay, h.hd.mono (fun _ h => .inl h) (fun _ h => h), h.hears, ?_⟩
  · have hne : 0 ≠ j := by omega
    rw [Array.getElem?_setIfInBounds_ne hne, Array.getElem?_map] at hx
    obtain ⟨y, hy, rfl⟩ := Option.map_eq_some_iff.1 hx
    have hq := h.old j y hj hy
    rw [woken_quitsD hq]
    exact hq
  · have : ((gs.map (woken P g g' w2)).setIfInBounds 0 g').size = gs.size := by simp
    rw [this]
    exact h.nums
/-- Goroutine 0's next step, when it comes. -/
theorem beside_own {g : Goroutine} {Ψ : World → Goroutine → World → Prop} (hr : g.status = .running) : ∀ (S : Nat) (w : World), (∀ w1, Rely O w w1 → ∃ g' w2, stepG P true g w1 = .go g' w2 #[] ∧ Ψ w1 g' w2) →
    ∀ (gs : Array Goroutine) (sl : Option (Nat × Nat)) (t : Trace) (q : Nat → Nat), sumTo gs.size q ≤ S → gs[0]? = some g → BS P Sh O W gs w t q →
      ∃ N gs1 w1 sl1 t1 q1 g' w2, Rely O w w1 ∧ BS P Sh O W gs1 w1 t1 q1 ∧ gs1[0]? = some g ∧ Ψ w1 g' w2 ∧ runNT P N (crowd gs w sl) t = (.next (crowd ((gs1.map (woken P g g' w2)).setIfInBounds 0 g') w2 sl1), t1) := by
  intro S
  induction S using Nat.strongRecOn with
  | ind S ihS =>
    intro w hE gs sl t q hS h0 hB
    rcases beside_pick hB h0 hr sl with ⟨d, sl', hst⟩ | ⟨gs', d, sl', ops, q', hst, hsz, h0', hB', hlt⟩
    · obtain ⟨g', w2, hgo, hψ⟩ := hE (w.at d) (rely_at _ _ d)
      have hrunT := runT_crowd_go (P := P) (sl := sl') (i := 0) h0 (show stepG P (0 == 0) g (w.at d) = _ from hgo)
      refine ⟨1, gs, w.at d, sl', t, q, g', w2, rely_at _ _ d, hB.at d, h0, hψ, ?_⟩
      have e : t ++ MemOp.ofEvents 0 g.frame.fn g.frame.place #[] = t := by rw [ofEvents_none]; simp
      simp only [runNT, hst, hrunT]
      rw [e]
    · obtain ⟨N, gs1, w1, sl1, t1, q1, g', w2, a1, a2, a3, a4, a5⟩ := ihS (sumTo gs.size q') (by omega) (w.at d) (fun w1 h1 => hE w1 ((rely_at _ _ d).trans h1)) gs' sl' (t ++ ops) q' (by rw [hsz]; exact Nat.le_refl _) h0' hB'
      exact ⟨N + 1, gs1, w1, sl1, t1, q1, g', w2, (rely_at _ _ d).trans a1, a2, a3, a4, by simp only [runNT, hst]; exact a5⟩
end
/-- A block is laid that nobody looks at: the group's. -/
def xal (lo : Nat) (ty : TypeId) (S : St) : Option St := match S.opn lo with
  | some (o, nx) => match o.op with
    | .alloc t => if t = ty then some ⟨(nx (.pointer (some ⟨S.N.sz, 0, none⟩))).top, (nx (.pointer (some ⟨S.N.sz, 0, none⟩))).cs, S.N.push .dead⟩ else none
    | _ => none
  | none => none
theorem xal_step {P : Program} {lo : Nat} {tie : KT} {S S' : St} {under : List Frame} {O W : Nat → Prop} {g : Goroutine} {w : World} {E : Env} {L : WgLink} (H : WgLib P L) (ht : Tie P tie) (h : At P lo tie S under O W g w E) (hx : xal lo L.tWg S = some S') (main : Bool) :
    ∃ E' g', stepG P main g w = .go g' (w.alloc (wgBlock L.tWg 0 0)) #[] ∧ At P lo tie S' under O W g' (w.alloc (wgBlock L.tWg 0 0)) E' ∧ E'.D S.N.sz ∧ E'.f S.N.sz = w.heap.size ∧ E'.s S.N.sz = 0 ∧ S'.N = S.N.push .dead ∧ (∀ k, E.D k → E'.D k ∧ E'.f k = E.f k) ∧ ∀ k, E'.D k → S'.N.live k → E.D k ∧ S.N.live k := by
  unfold xal at hx
  split at hx
  rotate_left
  · cases hx
  rename_i o nx ho
  split at hx
  rotate_left
  · cases hx
  rename_i t hop
  split at hx
  rotate_left
  · cases hx
  rename_i e
  subst e
  cases hx
  obtain ⟨R', X⟩ := h.rel.rel.new (b := .dead) (o := wgBlock L.tWg 0 0) (y := 0) (z := 0) trivial trivial
  have hR := h.rel.rel
  have hrun : (execOp (E.act S.top.a.abs).eval o).run P w = .ok (.value (.pointer (some ⟨w.heap.size, 0, none⟩))) (w.alloc (wgBlock L.tWg 0 0)) := by
    simp only [execOp, hop]
    refine run_v ?_
    simp only [Instr.alloc, Sem.run_bind, H.zeroValue_tWg, Result.andThen_ok, newVar, newRow, run_newObj, Sem.run_pure]
    rfl
  have hev : (execOp (E.act S.top.a.abs).eval o).events P w #[] = #[] := by
    simp only [execOp, hop]
    exact ((mute_alloc L.tWg).bind fun _ => mute_pure _) w #[]
  have hlive : ∀ j, (E.add S.N.sz w.heap.size 0 0).D j → (S.N.push .dead).live j → E.D j ∧ S.N.live j := by
    rintro j hj ⟨b, hb, hd⟩
    rw [CH.get_push hR.ok] at hb
    split at hb
    · cases hb; cases hd
    · rename_i hne
      exact ⟨hj.resolve_left hne, b, hb, hd⟩
  have hf : ∀ j, E.D j → (E.add S.N.sz w.heap.size 0 0).f j = E.f j := fun j hj => (Env.add_old E (by have := hR.dom j hj; omega)).1
  have hown : Own O W lo (E.add S.N.sz w.heap.size 0 0) (S.N.push .dead) (w.alloc (wgBlock L.tWg 0 0)) := by
    refine ⟨fun j hj hl => ?_, fun j hj hl hlo => ?_, fun b hb => ?_, ?_⟩
    · obtain ⟨h1, h2⟩ := hlive j hj hl
      rw [hf j h1]
      exact h.own.img j h1 h2
    · obtain ⟨h1, h2⟩ := hlive j hj hl
      rw [hf j h1]
      exact h.own.wri j h1 h2 hlo
    · have := h.own.lt b hb
      show b < (w.heap.push (wgBlock L.tWg 0 0)).size
      rw [Array.size_push]
      omega
    · rw [CH.push_def]
      exact Nat.le_succ_of_le h.own.low
  have hL : Later P lo O W E S.N w O W (E.add S.N.sz w.heap.size 0 0) (S.N.push .dead) (w.alloc (wgBlock L.tWg 0 0)) := ⟨R', hown, X.toC O, fun _ h => h, fun _ h => h, fun _ h => .inl h⟩
  have htie := ht _ _ _ _ _ _ _ _ _ _ _ hR h.own hL h.tie
  have hrel := h.rel
  have hg := h.g
  obtain ⟨fn, kd, a, ops, i, r, k, cs, N, rfl, hgd, hlo, rfl⟩ := opn_eq ho
  have XC := X.toC (fun _ => False)
  obtain ⟨x1, x2⟩ := SF.ext XC hrel.top
  have hv : Clo (E.add N.sz w.heap.size 0 0).D (.pointer (some ⟨N.sz, 0, none⟩)) := ⟨Env.add_D .., rfl⟩
  have hs' : SF.Ok (E.add N.sz w.heap.size 0 0).D ⟨fn, none, kd, false, a.put o.dst (.pointer (some ⟨N.sz, 0, none⟩)), .reg ops (i + 1) r :: k⟩ := by
    refine ⟨(FA.put_ok x2.a o.dst _).1, ?_, x2.ar, fun it hit => ?_, x2.ret, x2.kd⟩
    · show CA.Clo _ (a.put o.dst _).abs
      rw [(FA.put_ok x2.a o.dst _).2]
      exact x2.clo.put _ hv
    · rcases List.mem_cons.1 hit with rfl | hit
      · intro j o' hj
        have := x2.its (.reg ops i (o :: r)) (by simp) (j + 1) o' (by simpa using hj)
        rw [show i + 1 + j = i + (j + 1) by omega]
        exact this
      · exact x2.its it (by simp [hit])
  refine ⟨E.add N.sz w.heap.size 0 0, St.gor (E.add N.sz w.heap.size 0 0) ⟨⟨fn, none, kd, false, a.put o.dst (.pointer (some ⟨N.sz, 0, none⟩)), .reg ops (i + 1) r :: k⟩, cs, N.push .dead⟩ under, ?_, ⟨rfl, hrel.turn R' XC hs' rfl, hown, htie⟩, Env.add_D .., Env.add_f .., Env.add_s .., rfl, fun j hj => ⟨.inr hj, hf j hj⟩, hlive⟩
  have hop' := h.op
  have hst := stepG_value (P := P) (main := main) (b := SF.base E ⟨fn, none, kd, false, a, k⟩) (k := k.map (It.item E)) (cs := cs.map (SF.frame E) ++ under) (rest := List.range' (i + 1) r.length) h.op (wanted_of hgd _) h.kind hrun
  rw [hg, gor_reg, hst, gor_eq XC hrel.cs]
  unfold listed
  rw [show ((execOp (E.act a.abs).eval o).events P w #[]) = #[] from hev, seen_none]
  have hact : (E.add N.sz w.heap.size 0 0).act a.abs = E.act a.abs := (XC.act hrel.top.clo).1
  have hp : (E.add N.sz w.heap.size 0 0).m (.pointer (some ⟨N.sz, 0, none⟩)) = .pointer (some ⟨w.heap.size, 0, none⟩) := by simp [Env.m, mv, Env.add]
  have e1 : (E.act a.abs).put o.dst (.pointer (some ⟨w.heap.size, 0, none⟩)) = (E.add N.sz w.heap.size 0 0).act (a.put o.dst (.pointer (some ⟨N.sz, 0, none⟩))).abs := by
    rw [← hact, ← hp, act_put_at hrel.top.a]
  rw [e1]
  have e2 : k.map (It.item (E.add N.sz w.heap.size 0 0)) = k.map (It.item E) := by
    have := congrArg Frame.todo x1
    simp only [SF.frame, List.map_cons, It.item, List.cons.injEq, true_and] at this
    exact this
  congr 2
  unfold SF.frame
  simp only [List.map_cons, It.item, e2]
  rfl

/-! ### the end -/
/-- A frame that is about to hand this back, whatever memory holds. -/
def finVal (P : Program) (f : FuncId) (kd : CallKind) : St → Option Value
  | ⟨⟨fn, none, kd', true, ⟨n, t, []⟩, _⟩, [], N⟩ => if fn = f then if kd' = kd then match P.funcs[fn]? with
    | some fd => match fresult P ⟨n, t, []⟩ (N.only [] 0) fd.results.toList with
      | some vs => some (kresult vs)
      | none => none
    | none => none
    else none else none
  | _ => none
theorem EvOk'.widen {O W O' : Nat → Prop} {w w' : World} {es : Array Event} (h : EvOk' O W w w' es) (hO : ∀ b, O b → O' b) : EvOk' O' W w w' es := fun e he => (h e he).imp (fun x => x) fun hf => hf.imp (fun x => x) fun ⟨b, h1, h2, h3, h4, h5⟩ => ⟨b, h1, h2, h3, h4.imp (hO b) (fun x => x), h5⟩
theorem ready_of {P : Program} {lo : Nat} {tie : KT} {S : St} {under : List Frame} {O W : Nat → Prop} {g : Goroutine} {w : World} {E : Env} {f : FuncId} {kd : CallKind} {v : Value} (h : At P lo tie S under O W g w E) (hf : finVal P f kd S = some v) (hv : plain v = true) :
    ∃ fr, g = G fr under ∧ fr.fn = f ∧ ∀ (O' : Nat → Prop) (w' : World), Ready P O' w' fr kd v := by
  unfold finVal at hf
  split at hf
  rotate_left
  · cases hf
  rename_i fn kd' n t kk N
  split at hf
  rotate_left
  · cases hf
  rename_i e1
  split at hf
  rotate_left
  · cases hf
  rename_i e2
  subst e1; subst e2
  split at hf
  rotate_left
  · cases hf
  rename_i fd hfd
  split at hf
  rotate_left
  · cases hf
  rename_i vs hvs
  cases hf
  refine ⟨SF.frame E ⟨fn, none, kd', true, ⟨n, t, []⟩, kk⟩, h.g, rfl, fun O' w' => ⟨rfl, rfl, rfl, fd, hfd, fun w1 _ => ?_⟩⟩
  have hR := h.rel.rel
  have hno : ∀ k, E.D k → ¬ (N.only [] 0).live k := fun k hk hl => by
    have := (CH.only_live (hR.dom k hk) hl).1
    simp at this
  have hget : ∀ k b, E.D k → (N.only [] 0).get k = some b → False := fun k b hk hb => by
    have hk' : k < N.sz := hR.dom k hk
    rw [CH.get_only N [] 0 hk'] at hb
    simp at hb
  have R1 : Rel P E (N.only [] 0) w1 := ⟨⟨Nat.zero_le _, Tr.full_ofFn _ _⟩, hR.gl, hR.dom, fun i j hi _ li _ _ => absurd li (hno i hi), fun k b hk hb => (hget k b hk hb).elim⟩
  have hres : cresults P fd (⟨n, t, []⟩ : FA).abs.tmps (N.only [] 0) = some (kresult vs) := by
    unfold cresults
    rw [fresult_eq h.rel.top.a _ hvs, Option.map_some]
    cases vs with
    | nil => rfl
    | cons v r => cases r <;> rfl
  obtain ⟨hrun, _⟩ := results_ok R1 h.rel.top.clo.tmps hres
  rw [m_plain E hv] at hrun
  refine ⟨hrun, ?_⟩
  have ow : Own (fun _ => False) (fun _ => False) 0 E (N.only [] 0) w1 := ⟨fun k hk hl => hno k hk hl, fun k hk hl _ => hno k hk hl, fun _ h => h.elim, Nat.zero_le _⟩
  exact ((results_evs R1 ow h.rel.top.clo.tmps hres).mono fun _ h => h.elim).widen fun _ h => h.elim
end Go.Eng
namespace Go.Eng
open Go.Conc
open Go.Conc.Lib (WgLib WgLink)
open Go.ConcN (WgLive ShN Has WSit AtR0 RW DWs sumTo)
open Go.ConcR (KK wgBlock WgAt stA smA rd mk Payload)
set_option linter.unusedSimpArgs false
set_option linter.unusedVariables false
set_option linter.unusedSectionVars false
variable [Hk]

/-- The checks on such a call. -/
structure OneOk (P : Program) (A : Rec) (fuel na m k kC : Nat) (L : WgLink) (x : XF) (f : FuncId) (args : List Value) (v : Value) (kd : CallKind) : Prop where
  ok : ∃ s0 S1 S2 SG SP kp kch mw, ∃ a : Nat → St,
    kenter P f args kd = some s0 ∧ krun P A na ⟨s0, [], CH.first []⟩ = some S1 ∧ S1.N.sz = k ∧ xal 0 L.tWg S1 = some S2 ∧ AddOk P A fuel 0 k x 0 S2 SG ∧ GoOk P A m k kC L.done SG SP kp kch ∧
    xm0 0 x.disable (toStop P A fuel SP) = some (a 0) ∧ WaitOk P A fuel 0 k x 1 mw a (fun S => finVal P f kd (toStop P A fuel S) = some v)
/-- What is asked of the program, once. -/
structure Base (P : Program) (A B : Rec) (L : WgLink) (x : XF) : Prop where
  hP : NoCount P
  hm : P.follows .mixedOrders = true
  le : A.Le B
  ok : RecOk P B
  x : XOk P x
  wg : WgLib P L
/-- Behind the call. -/
def BackK (P : Program) (f : FuncId) (kd : CallKind) (v : Value) (cs : List Frame) (O W : Nat → Prop) (w : World) : KP := fun O' W' g' w' => O' = O ∧ W' = W ∧ Rely O w w' ∧ ∃ fr, g' = G fr cs ∧ fr.fn = f ∧ ∀ (O2 : Nat → Prop) (w2 : World), Ready P O2 w2 fr kd v
theorem no_live {k : Nat} (hk : k < LIM) : ¬ (CH.first []).live k := by
  rintro ⟨b, hb, _⟩
  have := (CH.first_get hk).1 hb
  simp at this
section
variable [Payload]
variable {P : Program} {A B : Rec} {fuel na m k kC : Nat} {L : WgLink} {x : XF} {f : FuncId} {args : List Value} {v : Value} {kd : CallKind}
theorem one_comes (hoff : Hk.on = false) (b0 : Base P A B L x) (hargs : plainL args = true) (hv : plain v = true) (h : OneOk P A fuel na m k kC L x f args v kd) {cs : List Frame} (hcs : Caller kd cs) (O W : Nat → Prop) (w : World) :
    Comes P (BackK P f kd v cs O W w) O W (G (Frame.enter P f args.toArray kd) cs) w := by
  intro Sh gs sl t q h0 hB
  obtain ⟨s0, S1, S2, SG, SP, kp, kch, mw, a, hk0, hk1, hsz, hal, hadd, hgo, hdis, hwait⟩ := h.ok
  have hwo : ∀ b, W b → O b := fun b hb => hB.tr.sub 0 rfl (.obj b) hb
  have hlt : ∀ b, O b → b < w.heap.size := fun b hb => (hB.tr.lt 0 rfl (.obj b) hb).1
  have hpl : args.map (Env.bare (fun _ => .nilFunc) (fun _ => rfl)).m = args := by
    have : ∀ u ∈ args, (Env.bare (fun _ => .nilFunc) (fun _ => rfl)).m u = u := fun u hu => m_plain _ (plainL_all.1 hargs u hu)
    exact (List.map_congr_left this).trans (List.map_id _)
  -- to where the group's block is laid
  have R0 : Rel P (Env.bare (fun _ => .nilFunc) (fun _ => rfl)) (CH.first []) w := rel_first (laid_none w) _ _
  obtain ⟨e1, e2, e3, e4, _⟩ := kenter_ok (E := Env.bare (fun _ => .nilFunc) (fun _ => rfl)) hk0 (fun u hu => Clo_plain _ _ (plainL_all.1 hargs u hu))
  rw [hpl] at e1
  have G0 : Gds w.heap.size (fun b => w.heap.size ≤ b) O := ⟨fun b h => h, fun b h hb => by have := hlt b hb; omega⟩
  have ht0 := tieSafe_ok P G0 W w
  have hat0 : At P 0 (tieSafe w.heap.size (fun b => w.heap.size ≤ b) O W w) ⟨s0, [], CH.first []⟩ cs O W (G (Frame.enter P f args.toArray kd) cs) w (Env.bare (fun _ => .nilFunc) (fun _ => rfl)) := by
    refine ⟨?_, ⟨R0, e2, by simp, ⟨?_, trivial⟩⟩, ⟨fun j hj hl => absurd hl (no_live hj), fun j hj hl _ => absurd hl (no_live hj), hlt, Nat.zero_le _⟩, ⟨fun j hj hl => absurd hl (no_live hj), Nat.le_refl _, fun b hb => ⟨hb, rfl⟩, fun b hb => hb, fun j hj => hj, rfl, rfl, rfl⟩⟩
    · unfold St.gor
      rw [e1]
      rfl
    · rw [e3]
      exact hcs.1.imp (fun h => h) fun h => ⟨h, .inl rfl⟩
  have W1 : Will P true (fun _ => True) (fun O' W' g' w' => ∃ E, At P 0 (tieSafe w.heap.size (fun b => w.heap.size ≤ b) O W w) S1 cs O' W' g' w' E) O W (G (Frame.enter P f args.toArray kd) cs) w :=
    hat0.upto ht0 (krun_ok b0.hP b0.hm b0.le b0.ok na hk1) (Nat.zero_le _) hcs.any fun O' W' g' w' E _ h => ⟨E, h⟩
  obtain ⟨N1, Sh1, gs1, g1, w1, sl1, t1, q1, O1, W1', hr1, h01, hK1, hB1⟩ := beside_walk W1 w (Rely.refl _ _) _ Sh gs sl t q (Nat.le_refl _) h0 hB
  obtain ⟨E1, hat1⟩ := hK1 w1 (Rely.refl _ _)
  -- it is laid
  obtain ⟨N2, gs2, w2, sl2, t2, q2, g3, w3, hrel2, hB2, h02, ⟨E3, hat3, hw3, hD3, hf3, hs3, hlive3, hat2⟩, hr2⟩ := beside_own (P := P) (Sh := Sh1) (g := g1)
    (Ψ := fun w' g' w'' => ∃ E', At P 0 (tieSafe w.heap.size (fun b => w.heap.size ≤ b) O W w) S2 cs O1 W1' g' w'' E' ∧ w'' = w'.alloc (wgBlock L.tWg 0 0) ∧ E'.D k ∧ E'.f k = w'.heap.size ∧ E'.s k = 0 ∧ (∀ j, E'.D j → S2.N.live j → O1 (E'.f j)) ∧ ∃ E'', At P 0 (tieSafe w.heap.size (fun b => w.heap.size ≤ b) O W w) S1 cs O1 W1' g1 w' E'')
    hat1.running _ w1 (fun w' hr => by
      have hat := hat1.rely ht0 hr
      obtain ⟨E', g', c1, c2, c3, c4, c5, c6, c7, c8⟩ := xal_step b0.wg ht0 hat hal true
      rw [hsz] at c3 c4 c5
      refine ⟨g', _, c1, E', c2, rfl, c3, c4, c5, fun j hj hl => ?_, E1, hat⟩
      obtain ⟨d1, d2⟩ := c8 j hj hl
      rw [(c7 j d1).2]
      exact hat.own.img j d1 d2) gs1 sl1 t1 q1 (Nat.le_refl _) h01 hB1
  obtain ⟨E2, hat2⟩ := hat2
  have hw3s : w3.heap.size = w2.heap.size + 1 := by
    rw [hw3]
    show (w2.heap.push _).size = _
    rw [Array.size_push]
  have hB3 := hB2.lay (g := g1) (g' := g3) (w2 := w3) h02 hw3s
  have h03 : ((gs2.map (woken P g1 g3 w3)).setIfInBounds 0 g3)[0]? = some g3 := by
    have := (Array.getElem?_eq_some_iff.1 h02).1
    simp [this]
  have hO1 : ∀ b, O1 b → b < w2.heap.size := fun b hb => (hB2.tr.lt 0 rfl (.obj b) hb).1
  have hbase : w.heap.size ≤ w2.heap.size := hat2.tie.2.1
  -- the group
  let Gd : Nat → Prop := fun b => (O1 b ∨ w2.heap.size ≤ b) ∧ b ≠ w2.heap.size ∧ w.heap.size ≤ b
  have G1 : Gds (w2.heap.size + 1) Gd O := ⟨fun b h => ⟨.inr (by omega), by omega, by omega⟩, fun b h hb => by have := hlt b hb; have := h.2.2; omega⟩
  obtain ⟨i1, i2, i3, i4, i5, i6, i7, i8⟩ := hat3.tie
  have hatG : At P 0 (tieAll k w2.heap.size (w2.heap.size + 1) Gd O w) S2 cs O1 W1' g3 w3 E3 := by
    refine ⟨hat3.g, hat3.rel, hat3.own, ⟨hD3, hf3, hs3, fun h => by have := hO1 _ h; omega, by omega⟩, fun j hj hl => ?_, by omega, i3, fun _ h => h.elim, i5, i6, i7, i8⟩
    have := hlive3 j hj hl
    have hlt1 := hO1 _ this
    exact ⟨.inl this, by omega, i1 j hj hl⟩
  have c : Cx P A B x k w2.heap.size (tieAll k w2.heap.size (w2.heap.size + 1) Gd O w) cs :=
    ⟨b0.hP, b0.hm, b0.le, b0.ok, b0.x, tieAll_ok P G1 w, fun _ _ _ _ _ h => h.1, hoff, hcs.any⟩
  have hGb : ∀ d, Gd d → d ≠ w2.heap.size := fun d h => h.2.1
  have hsp : nSp P L.tWg w2.heap.size (fun _ => True) 1 (AnchK P 0 (tieAll k w2.heap.size (w2.heap.size + 1) Gd O w) cs mw a) (fun _ _ => False) (fun _ _ => True) (fun _ => False) 1 O1 W1' g3 w3 :=
    c.add (j := 0) (by decide) hadd (fun O' W' g' w' E' hj h' => c.go (X := fun _ _ => False) (Don := fun _ _ => True) (S2 := fun _ => False) (i := 0) G1 hGb b0.wg hgo (fun _ => trivial) (fun O' W' g' w' E' h'' => by
      show MM P L.tWg w2.heap.size (fun _ => True) (nKd P L.tWg w2.heap.size (fun _ => True) (AnchK P 0 (tieAll k w2.heap.size (w2.heap.size + 1) Gd O w) cs mw a)) O' W' g' w'
      exact c.wait hdis h'') hj h') hatG
  have hF : Fix P L.tWg w2.heap.size (fun _ => True) (fun _ _ => False) (fun _ _ => True) (fun _ => False) 1 (KeK P 0 (tieAll k w2.heap.size (w2.heap.size + 1) Gd O w) cs (fun S => finVal P f kd (toStop P A fuel S) = some v))
      (AnchK P 0 (tieAll k w2.heap.size (w2.heap.size + 1) Gd O w) cs mw a) (fun l => Sh1 l ∨ ShN w2.heap.size l) ((gs2.map (woken P g1 g3 w3)).setIfInBounds 0 g3).size := by
    refine ⟨(Array.getElem?_eq_some_iff.1 h03).1, fun l hl => .inr hl, fun _ _ _ _ => trivial, fun _ _ h => h.elim, fun _ _ _ h => h.elim, fun h => h, fun _ _ _ _ _ => trivial, ?_, ?_, by decide⟩
    · rintro O' W' g' w' ⟨i, E', _, h'⟩
      exact h'.running
    · intro O' W' g' w' h' _
      exact c.anch hwait h'
  have hwgat : WgAt L.tWg w2.heap.size w3 0 0 := by
    rw [hw3]
    show (w2.heap.push (wgBlock L.tWg 0 0))[w2.heap.size]? = _
    simp
  obtain ⟨N3, m3, t3, hr3, hdone⟩ := group hF hB3 h03 (O' := O1) (W' := W1') (fun b hb => ⟨hb, id⟩) (fun b hb => ⟨hb, hB3.tr.sub 0 rfl (.obj b) hb⟩) (fun _ _ _ h => h.elim) (fun _ h => h.elim) hwgat trivial hsp sl2
  obtain ⟨gs4, w4, sl4, g4, O3, W3, q4, rfl, _, h04, ⟨SF, E4, hfin, hat4⟩, _, _, hBS⟩ := hdone
  -- behind it
  obtain ⟨⟨y1, y2, y3, y4, y5⟩, z1, z2, z3, z4, z5, z6, z7, z8⟩ := hat4.tie
  have hnSh : ∀ b, (O1 b ∨ w2.heap.size ≤ b) → b ≠ w2.heap.size → ¬ (Sh1 (.obj b) ∨ ShN w2.heap.size (.obj b)) ∧ ∀ c : Addr, c.block = b → ¬ (Sh1 (.cell c) ∨ ShN w2.heap.size (.cell c)) := by
    intro b h1 h2
    refine ⟨?_, ?_⟩
    · rintro (h | ⟨a, h, _⟩)
      · rcases h1 with h1 | h1
        · exact (hB2.tr.lt 0 rfl (.obj b) h1).2 h
        · have : b < w2.heap.size := hB2.tr.shl _ h
          omega
      · cases h
    · rintro c rfl (h | ⟨a, h, ha⟩)
      · rcases h1 with h1 | h1
        · exact (hB2.tr.lt 0 rfl (.cell c) (.inl h1)).2 h
        · have : c.block < w2.heap.size := hB2.tr.shl _ h
          omega
      · cases h
        exact h2 ha
  have hB4 := hBS (fun d => d < w4.heap.size ∧ ¬ (Sh1 (.obj d) ∨ ShN w2.heap.size (.obj d)) ∧ ∀ c : Addr, c.block = d → ¬ (Sh1 (.cell c) ∨ ShN w2.heap.size (.cell c))) (fun d => d < w4.heap.size ∧ ¬ (Sh1 (.obj d) ∨ ShN w2.heap.size (.obj d)) ∧ ∀ c : Addr, c.block = d → ¬ (Sh1 (.cell c) ∨ ShN w2.heap.size (.cell c)))
    (fun b h => h) (fun b h => h)
  have hO4 : ∀ b, O b → b < w4.heap.size ∧ ¬ (Sh1 (.obj b) ∨ ShN w2.heap.size (.obj b)) ∧ ∀ c : Addr, c.block = b → ¬ (Sh1 (.cell c) ∨ ShN w2.heap.size (.cell c)) := by
    intro b hb
    have hb1 : O1 b := (hat2.tie.2.2.1 b hb).1
    exact ⟨hat4.own.lt b (z3 b hb).1, hnSh b (.inl hb1) (by have := hO1 b hb1; omega)⟩
  have hat5 : At P 0 (tieSafe w.heap.size (fun b => w.heap.size ≤ b) O W w) SF cs (fun d => d < w4.heap.size ∧ ¬ (Sh1 (.obj d) ∨ ShN w2.heap.size (.obj d)) ∧ ∀ c : Addr, c.block = d → ¬ (Sh1 (.cell c) ∨ ShN w2.heap.size (.cell c)))
      (fun d => d < w4.heap.size ∧ ¬ (Sh1 (.obj d) ∨ ShN w2.heap.size (.obj d)) ∧ ∀ c : Addr, c.block = d → ¬ (Sh1 (.cell c) ∨ ShN w2.heap.size (.cell c))) g4 w4 E4 := by
    have himg : ∀ j, E4.D j → SF.N.live j → E4.f j < w4.heap.size ∧ ¬ (Sh1 (.obj (E4.f j)) ∨ ShN w2.heap.size (.obj (E4.f j))) ∧ ∀ c : Addr, c.block = E4.f j → ¬ (Sh1 (.cell c) ∨ ShN w2.heap.size (.cell c)) := by
      intro j hj hl
      obtain ⟨d1, d2, d3⟩ := z1 j hj hl
      exact ⟨hat4.own.lt _ (hat4.own.img j hj hl), hnSh _ d1 d2⟩
    exact ⟨hat4.g, hat4.rel, ⟨himg, fun j hj hl _ => himg j hj hl, fun b hb => hb.1, Nat.zero_le _⟩, ⟨fun j hj hl => (z1 j hj hl).2.2, by omega, fun b hb => ⟨hO4 b hb, (z3 b hb).2⟩, fun b hb => hO4 b (hwo b hb), z5, z6, z7, z8⟩⟩
  have W5 : Will P true (fun _ => True) (fun O' W' g' w' => ∃ E, At P 0 (tieSafe w.heap.size (fun b => w.heap.size ≤ b) O W w) (toStop P A fuel SF) cs O' W' g' w' E)
      (fun d => d < w4.heap.size ∧ ¬ (Sh1 (.obj d) ∨ ShN w2.heap.size (.obj d)) ∧ ∀ c : Addr, c.block = d → ¬ (Sh1 (.cell c) ∨ ShN w2.heap.size (.cell c)))
      (fun d => d < w4.heap.size ∧ ¬ (Sh1 (.obj d) ∨ ShN w2.heap.size (.obj d)) ∧ ∀ c : Addr, c.block = d → ¬ (Sh1 (.cell c) ∨ ShN w2.heap.size (.cell c))) g4 w4 :=
    hat5.upto ht0 (toStop_reach b0.hP b0.hm b0.le b0.ok fuel SF) (Nat.zero_le _) hcs.any fun O' W' g' w' E _ h => ⟨E, h⟩
  obtain ⟨N5, Sh5, gs5, g5, w5, sl5, t5, q5, O5, W5', hr5, h05, hK5, hB5⟩ := beside_walk W5 w4 (Rely.refl _ _) _ _ gs4 sl4 t3 q4 (Nat.le_refl _) h04 hB4
  obtain ⟨E5, hat6⟩ := hK5 w5 (Rely.refl _ _)
  obtain ⟨k1, k2, k3, k4, k5, k6, k7, k8⟩ := hat6.tie
  obtain ⟨fr, f1, f2, f3⟩ := ready_of hat6 hfin hv
  refine ⟨N1 + (N2 + (N3 + N5)), Sh5, gs5, g5, w5, sl5, t5, q5, O, W, ?_, h05, ⟨hB5.old, hB5.tr.weaken fun y hy => ⟨hy, fun l hl => ?_, fun l hl => ?_⟩, hB5.hd, hB5.hears, hB5.nums⟩, rfl, rfl, ⟨fun b hb => (k3 b hb).2, k2, k6, k7, k8⟩, fr, f1, f2, f3⟩
  · rw [runNT_add, hr1]
    simp only
    rw [runNT_add, hr2]
    simp only
    rw [runNT_add, hr3]
    exact hr5
  · cases l with
    | cell cc =>
      rcases hl with hl | hl
      · exact ⟨.inl (k4 _ hl), .inl (hwo _ hl)⟩
      · exact hl.elim
    | obj b => exact ⟨k4 b hl, hwo b hl⟩
    | _ => exact hl.elim
  · cases l with
    | cell cc =>
      rcases hl with hl | hl
      · exact .inl (k3 _ hl).1
      · exact hl.elim
    | obj b => exact (k3 b hl).1
    | _ => exact hl.elim
end

/-- As a known call: whatever memory holds, it is left as it was. -/
theorem call_of_comes (hon : Hk.on = true) {P : Program} {f : FuncId} {args : List Value} {v : Value} (hargs : plainL args = true) (hv : plain v = true)
    (h : ∀ kd cs, Caller kd cs → ∀ (O W : Nat → Prop) (w : World), Comes P (BackK P f kd v cs O W w) O W (G (Frame.enter P f args.toArray kd) cs) w) (N : CH) : CallOk P f args N v N := by
  intro main J hctx lo E w O W hlo R own hcl kd cs hcs K hK
  obtain ⟨rfl, hj⟩ := hctx.out hon
  have hpl : args.map E.m = args := by
    have : ∀ u ∈ args, E.m u = u := fun u hu => m_plain E (plainL_all.1 hargs u hu)
    exact (List.map_congr_left this).trans (List.map_id _)
  rw [hpl]
  refine .jump (BackK P f kd v cs O W w) rfl hj (fun w1 hr Sh gs sl t q h0 hB => ?_) ?_
  · obtain ⟨N, Sh', gs', g', w', sl', t', q', O', W', a1, a2, a3, a4, a5, a6, a7⟩ := h kd cs hcs O W w1 Sh gs sl t q h0 hB
    exact ⟨N, Sh', gs', g', w', sl', t', q', O', W', a1, a2, a3, a4, a5, hr.trans a6, a7⟩
  · rintro O' W' g' w' ⟨rfl, rfl, hr, fr, rfl, h2, h3⟩
    refine hK O' W' E w' fr (Later.of_rely R own hr) (Clo_plain _ _ hv) h2 ?_
    rw [m_plain E hv]
    exact h3 O' w'
end Go.Eng
