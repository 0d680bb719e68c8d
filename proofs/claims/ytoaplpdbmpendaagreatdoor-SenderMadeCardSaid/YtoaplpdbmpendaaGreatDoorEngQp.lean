/-
  The engine, part Qp: a call that leaves new memory behind, known out of its run on the blocks that it reads.
-/
import Derived.Test.YtoaplpdbmpendaaGreatDoorEngQo
set_option linter.unusedSectionVars false
set_option linter.unusedSimpArgs false
set_option linter.unusedVariables false
namespace Go.Eng
open Go.Conc
set_option linter.unusedSimpArgs false
set_option linter.unusedVariables false
set_option linter.unusedSectionVars false

/-! ### blocks laid one behind the other -/
def CH.pushL : CH → List CB → CH
  | N, [] => N
  | N, b :: l => (N.push b).pushL l
theorem CH.pushL_facts : ∀ (l : List CB) {N : CH}, N.Ok → (N.pushL l).Ok ∧ (N.pushL l).sz = N.sz + l.length ∧ (N.pushL l).wm = N.wm ∧ (∀ j, j < N.sz → (N.pushL l).get j = N.get j) ∧ ∀ i, i < l.length → (N.pushL l).get (N.sz + i) = l[i]?
  | [], N, hN => ⟨hN, by simp [CH.pushL], rfl, fun _ _ => rfl, fun i hi => absurd hi (Nat.not_lt_zero _)⟩
  | b :: l, N, hN => by
    obtain ⟨h1, h2, h3, h4, h5⟩ := CH.pushL_facts l (CH.ok_push hN b)
    have hs : (N.push b).sz = N.sz + 1 := by rw [CH.push_def]
    have hw : (N.push b).wm = N.wm := by rw [CH.push_def]
    refine ⟨h1, ?_, h3.trans hw, fun j hj => ?_, fun i hi => ?_⟩
    · simp only [CH.pushL, List.length_cons]
      rw [h2, hs]
      omega
    · simp only [CH.pushL]
      rw [h4 j (by omega), CH.get_push_other hN hj]
    · simp only [CH.pushL]
      cases i with
      | zero =>
        rw [Nat.add_zero, h4 N.sz (by omega), CH.get_push_same hN]
        rfl
      | succ i =>
        have := h5 i (by simpa using hi)
        rw [hs] at this
        rw [show N.sz + (i + 1) = N.sz + 1 + i by omega, this]
        rfl
variable [Hk]
/-- A frame that is about to hand this back. -/
theorem ready_mem {P : Program} {lo : Nat} {tie : KT} {S : St} {under : List Frame} {O W : Nat → Prop} {g : Goroutine} {w : World} {E : Env} {f : FuncId} {kd : CallKind} {v : Value} (h : At P lo tie S under O W g w E) (hf : finVal P f kd S = some v) :
    Clo E.D v ∧ ∃ fr, g = G fr under ∧ fr.fn = f ∧ ∀ (O' : Nat → Prop) (w' : World), Ready P O' w' fr kd (E.m v) := by
  unfold finVal at hf
  split at hf
  rotate_left
  · cases hf
  rename_i fn kd' n t kk N
  split at hf
  rotate_left
  · cases hf
  rename_i e1
  split at hf
  rotate_left
  · cases hf
  rename_i e2
  subst e1; subst e2
  split at hf
  rotate_left
  · cases hf
  rename_i fd hfd
  split at hf
  rotate_left
  · cases hf
  rename_i vs hvs
  cases hf
  have hR := h.rel.rel
  have hno : ∀ k, E.D k → ¬ (N.only [] 0).live k := fun k hk hl => by
    have := (CH.only_live (hR.dom k hk) hl).1
    simp at this
  have hget : ∀ k b, E.D k → (N.only [] 0).get k = some b → False := fun k b hk hb => by
    have hk' : k < N.sz := hR.dom k hk
    rw [CH.get_only N [] 0 hk'] at hb
    simp at hb
  have R1 : ∀ w1, Rel P E (N.only [] 0) w1 := fun w1 => ⟨⟨Nat.zero_le _, Tr.full_ofFn _ _⟩, hR.gl, hR.dom, fun i j hi _ li _ _ => absurd li (hno i hi), fun k b hk hb => (hget k b hk hb).elim⟩
  have hres : cresults P fd (⟨n, t, []⟩ : FA).abs.tmps (N.only [] 0) = some (kresult vs) := by
    unfold cresults
    rw [fresult_eq h.rel.top.a _ hvs, Option.map_some]
    cases vs with
    | nil => rfl
    | cons v r => cases r <;> rfl
  refine ⟨(results_ok (R1 w) h.rel.top.clo.tmps hres).2, SF.frame E ⟨fn, none, kd', true, ⟨n, t, []⟩, kk⟩, h.g, rfl, fun O' w' => ⟨rfl, rfl, rfl, fd, hfd, fun w1 _ => ?_⟩⟩
  obtain ⟨hrun, _⟩ := results_ok (R1 w1) h.rel.top.clo.tmps hres
  refine ⟨hrun, ?_⟩
  have ow : Own (fun _ => False) (fun _ => False) 0 E (N.only [] 0) w1 := ⟨fun k hk hl => hno k hk hl, fun k hk hl _ => hno k hk hl, fun _ h => h.elim, Nat.zero_le _⟩
  exact ((results_evs (R1 w1) ow h.rel.top.clo.tmps hres).mono fun _ h => h.elim).widen fun _ h => h.elim
/-- The blocks that a call reads. -/
def CH.small (sz : Nat) (keys : List Nat) (bs : List (Option CB)) : CH := ⟨sz, sz, 0, fill sz keys bs (Tr.skel sz sz)⟩
theorem mem_call {P : Program} {f : FuncId} {args : List Value} {v : Value} {sz : Nat} {keys : List Nat} {bs : List (Option CB)} {news : List CB} {N : CH} (hsz : N.sz = sz) (hbs : keys.map N.get = bs)
    (h : ∀ kd, kd = .normal ∨ kd = .deferred → ∃ s0 S, kenter P f args kd = some s0 ∧ Reach P ⟨s0, [], CH.small sz keys bs⟩ S ∧ finVal P f kd S = some v ∧ sz ≤ S.N.wm ∧ S.N.sz = sz + news.length ∧ ∀ i b, news[i]? = some b → b.isDead = true ∨ S.N.get (sz + i) = some b) : CallOk P f args N v (N.pushL news) := by
  intro main J hctx lo E w O W hlo R own hcl kd cs hcs K hK
  obtain ⟨s0, S, hk, hr, hf, hwm, hSsz, hnews⟩ := h kd hcs.1
  subst hsz
  subst hbs
  obtain ⟨p1, p2, p3, p4, p5⟩ := CH.pushL_facts news R.ok
  obtain ⟨h1, h2⟩ := fill_ok (sz := N.sz) (g := N.get) keys (Tr.skel N.sz N.sz) (Tr.full_skel _ _ (Nat.le_refl _)) (fun k b h => by rw [Tr.get_skel] at h; cases h)
  have hget : ∀ k b, (CH.small N.sz keys (keys.map N.get)).get k = some b → N.get k = some b := fun k b h => h2 k b (by
    rw [CH.get_def] at h
    simpa [CH.small] using h)
  have hlive : ∀ k, (CH.small N.sz keys (keys.map N.get)).live k → N.live k := fun k ⟨b, hb, hd⟩ => ⟨b, hget k b hb, hd⟩
  have R0 : Rel P E (CH.small N.sz keys (keys.map N.get)) w := ⟨⟨Nat.zero_le _, h1⟩, R.gl, R.dom, fun i j hi hj li lj e => R.inj i j hi hj (hlive i li) (hlive j lj) e, fun k b hk hb => R.blk k b hk (hget k b hb)⟩
  obtain ⟨e1, e2, e3, e4, _⟩ := kenter_ok (E := E) hk hcl
  have hs0 : SRel P E ⟨s0, [], CH.small N.sz keys (keys.map N.get)⟩ w := ⟨R0, e2, by simp, by
    refine ⟨?_, trivial⟩
    rw [e3]
    exact hcs.1.imp (fun h => h) fun h => ⟨h, .inl rfl⟩⟩
  have own0 : Own O W N.sz E (CH.small N.sz keys (keys.map N.get)) w := ⟨fun j hj hl => own.img j hj (hlive j hl), fun j hj hl hlo => by have := R.dom j hj; omega, own.lt, Nat.le_refl _⟩
  have hg0 : St.gor E ⟨s0, [], CH.small N.sz keys (keys.map N.get)⟩ cs = G (Frame.enter P f (args.map E.m).toArray kd) cs := by
    unfold St.gor
    rw [e1]
    rfl
  rw [← hg0]
  refine hr main J N.sz E w O W hwm hs0 own0 cs hcs.any K fun O' W' E' w' hs L => ?_
  have hat : At P N.sz (fun _ _ _ _ _ => True) S cs O' W' (S.gor E' cs) w' E' := ⟨rfl, hs, L.own, trivial⟩
  obtain ⟨hv, fr, f1, f2, f3⟩ := ready_mem hat hf
  -- the memory that is left
  have hsame : ∀ j, j < N.sz → S.N.get j = (CH.small N.sz keys (keys.map N.get)).get j := fun j hj => L.ext.keep j hj (by omega)
  have hnewI : ∀ j, E'.D j → ¬ E.D j → N.sz ≤ j ∧ w.heap.size ≤ E'.f j := by
    intro j hj hnj
    refine ⟨((L.ext.new j hj).resolve_left hnj).1, ?_⟩
    rcases L.ext.fresh j hj with h | h | ⟨i, h3, ⟨bl, h4, h4'⟩, h5, _⟩
    · exact absurd h hnj
    · exact h
    · have hi : i < N.sz := R.dom i h3
      exact absurd ⟨bl, by rw [hsame i hi]; exact h4, h4'⟩ h5
  have hold : ∀ j, E'.D j → j < N.sz → E.D j := fun j hj hlt => (L.ext.new j hj).resolve_right fun h => by
    have : N.sz ≤ j := h.1
    omega
  have hlv : ∀ j, E'.D j → (N.pushL news).live j → (j < N.sz ∧ N.live j) ∨ (N.sz ≤ j ∧ S.N.live j ∧ (N.pushL news).get j = S.N.get j) := by
    rintro j hDj ⟨b, hb, hd⟩
    rcases Nat.lt_or_ge j N.sz with hj | hj
    · exact .inl ⟨hj, b, by rw [← p4 j hj]; exact hb, hd⟩
    · right
      refine ⟨hj, ?_⟩
      by_cases hlt : j - N.sz < news.length
      · have := p5 (j - N.sz) hlt
        rw [show N.sz + (j - N.sz) = j by omega] at this
        rw [this] at hb ⊢
        rcases hnews _ _ hb with h | h
        · rw [hd] at h; cases h
        · rw [show N.sz + (j - N.sz) = j by omega] at h
          exact ⟨⟨b, h, hd⟩, by rw [hb, h]⟩
      · exfalso
        have : j < S.N.sz := L.rel.dom j hDj
        omega
  have hfar : ∀ i j, E.D i → N.live i → ¬ E.D j → E'.D j → E.f i ≠ E'.f j := fun i j hi hl hnj hj e => by
    have h1 := own.lt _ (own.img i hi hl)
    have h2 := (hnewI j hj hnj).2
    omega
  have hm := L.ext.mono
  have hkeep : ∀ j, E.D j → N.live j → w'.heap[E.f j]? = w.heap[E.f j]? ∨ (CH.small N.sz keys (keys.map N.get)).live j := by
    intro j hj hl
    by_cases hs : (CH.small N.sz keys (keys.map N.get)).live j
    · exact .inr hs
    · refine .inl (L.ext.frame _ (own.img j hj hl) (own.lt _ (own.img j hj hl)) fun i hi hli e => hs ?_)
      rw [← R.inj i j hi hj (hlive i hli) hl e]
      exact hli
  have rel' : Rel P E' (N.pushL news) w' := by
    refine ⟨p1, L.rel.gl, fun j hj => ?_, fun i j hi hj li lj e => ?_, fun j b hj hb => ?_⟩
    · have : j < S.N.sz := L.rel.dom j hj
      rw [p2]
      omega
    · rcases hlv i hi li with ⟨a1, a2⟩ | ⟨a1, a2, _⟩
      · have hDi := hold i hi a1
        rcases hlv j hj lj with ⟨b1, b2⟩ | ⟨b1, b2, _⟩
        · have hDj := hold j hj b1
          rw [(hm i hDi).2.1, (hm j hDj).2.1] at e
          exact R.inj i j hDi hDj a2 b2 e
        · by_cases hDj : E.D j
          · have := R.dom j hDj
            omega
          · rw [(hm i hDi).2.1] at e
            exact absurd e (hfar i j hDi a2 hDj hj)
      · rcases hlv j hj lj with ⟨b1, b2⟩ | ⟨b1, b2, _⟩
        · have hDj := hold j hj b1
          by_cases hDi : E.D i
          · have := R.dom i hDi
            omega
          · rw [(hm j hDj).2.1] at e
            exact absurd e.symm (hfar j i hDj b2 hDi hi)
        · exact L.rel.inj i j hi hj a2 b2 e
    · cases hd : b.isDead with
      | true => cases b <;> simp [CB.isDead] at hd; trivial
      | false =>
        rcases hlv j hj ⟨b, hb, hd⟩ with ⟨a1, a2⟩ | ⟨a1, a2, a3⟩
        · have hDj := hold j hj a1
          rw [p4 j a1] at hb
          rcases hkeep j hDj a2 with hk' | hk'
          · rw [(hm j hDj).2.1, hk']
            exact (R.blk j b hDj hb).mono (fun i hi => ⟨(hm i hi).1, (hm i hi).2.1⟩) (fun v hv => L.ext.m hv) (hm j hDj).2.2.1 (hm j hDj).2.2.2
          · refine L.rel.blk j b hj ?_
            rw [hsame j a1]
            obtain ⟨b', hb', _⟩ := hk'
            rw [hb']
            have := hget j b' hb'
            rw [hb] at this
            exact this.symm
        · exact L.rel.blk j b hj (by rw [← a3]; exact hb)
  have own' : Own O' W' lo E' (N.pushL news) w' := by
    refine ⟨fun j hj hl => ?_, fun j hj hl hlo' => ?_, L.own.lt, ?_⟩
    · rcases hlv j hj hl with ⟨a1, a2⟩ | ⟨a1, a2, _⟩
      · have hDj := hold j hj a1
        rw [(hm j hDj).2.1]
        exact L.oo _ (own.img j hDj a2)
      · exact L.own.img j hj a2
    · rcases hlv j hj hl with ⟨a1, a2⟩ | ⟨a1, a2, _⟩
      · have hDj := hold j hj a1
        rw [(hm j hDj).2.1]
        exact L.ww _ (own.wri j hDj a2 hlo')
      · exact L.own.wri j hj a2 a1
    · have := own.low
      rw [p2]
      omega
  have ext' : ExtC O E N w E' (N.pushL news) w' := by
    refine ⟨hm, fun j hj => ?_, fun j h1 h2 => L.ext.all j h1 ?_, by rw [p2]; omega, L.ext.hsize, fun j hj => ?_, fun j hj hl => ?_, by rw [p3]; exact Nat.le_refl _, fun j hj _ => p4 j hj, fun b hb hlt hn => L.ext.frame b hb hlt fun j hj hl => hn j hj (hlive j hl), L.ext.os, L.ext.tape, L.ext.output, L.ext.op⟩
    · rcases L.ext.new j hj with h | h
      · exact .inl h
      · refine .inr ⟨h.1, ?_⟩
        have : j < S.N.sz := h.2
        rw [p2]
        omega
    · rw [p2] at h2
      show j < S.N.sz
      omega
    · by_cases hd : E.D j
      · exact .inl hd
      · exact .inr (.inl (hnewI j hj hd).2)
    · rcases hlv j (hm j hj).1 hl with ⟨_, a2⟩ | ⟨a1, _, _⟩
      · exact a2
      · have := R.dom j hj
        omega
  have L' : Later P lo O W E N w O' W' E' (N.pushL news) w' := ⟨rel', own', ext', L.oo, L.ww, L.ou⟩
  rw [f1]
  exact hK O' W' E' w' fr L' hv f2 (f3 O' w')
end Go.Eng

