/-
  The engine, part Qj: a call of plain arguments, known out of its run on no memory.
-/
import Derived.Test.YtjoelgicffojcaaGreatDoorEngQi
set_option linter.unusedSectionVars false
set_option linter.unusedSimpArgs false
set_option linter.unusedVariables false
namespace Go.Eng
noncomputable section
open Go.Conc
set_option linter.unusedSimpArgs false
set_option linter.unusedVariables false
set_option linter.unusedSectionVars false
variable [Hk]
def hooks (l : List Hook) : Hook := fun f args N => l.findSome? fun h => h f args N
theorem hooks_ok {P : Program} : ∀ {l : List Hook}, (∀ h ∈ l, HookOk P h) → HookOk P (hooks l)
 | [], _ => fun f args N v N' h => by cases h
 | a :: l, hl => fun f args N v N' h => by
  unfold hooks at h
  rw [List.findSome?_cons] at h
  split at h
  ·rename_i x hx
   cases h
   exact hl a (by simp) f args N v N' hx
  ·exact hooks_ok (l := l) (fun b hb => hl b (by simp [hb])) f args N v N' h
end
end Go.Eng
namespace Go.Eng
noncomputable section
open Go.Conc
set_option linter.unusedSimpArgs false
set_option linter.unusedVariables false
set_option linter.unusedSectionVars false
variable [Hk]
end
end Go.Eng
namespace Go.Eng
noncomputable section
open Go.Conc
set_option linter.unusedSimpArgs false
set_option linter.unusedVariables false
set_option linter.unusedSectionVars false
variable [Hk]
def xst (P : Program) (lo k off : Nat) (vs : List Value) (S : St) : Option St := match S.opn lo with
 | some (o, nx) => match o.op with
  | .store t a x => match S.ev a with
   | some p => match S.ev x with
    | some v => match sizeT P t with
     | some n => if and (isPtr k off p) (and (sameL v.cells.toList vs) (and (Nat.beq n vs.length) (and (plain v) (and (plainL vs) (vs.all (·.oneCell')))))) = true then some (nx undef) else none
     | none => none
    | none => none
   | none => none
  | _ => none
 | none => none
end
end Go.Eng
namespace Go.Eng
noncomputable section
open Go.Conc
open Go.Conc.Lib (WgLib WgLink)
open Go.ConcN (WgLive Has WSit AtR0 RW DWs)
open Go.ConcR (KK wgBlock WgAt stA smA rd mk Payload)
set_option linter.unusedSimpArgs false
set_option linter.unusedVariables false
set_option linter.unusedSectionVars false
variable [Hk]
inductive XWays (P : Program) (lo k kS : Nat) (d f : FuncId) (kC : Nat) : List (Nat × List Value) → St → Prop
 | fin {S S1 : St} : Reach P S S1 → xdd lo k d f S1 = true → hasCell S1.N kC = true → XWays P lo k kS d f kC [] S
 | put {S S1 S2 : St} {off : Nat} {vs : List Value} {r : List (Nat × List Value)} : Reach P S S1 → xst P lo kS off vs S1 = some S2 → XWays P lo k kS d f kC r S2 → XWays P lo k kS d f kC ((off, vs) :: r) S
theorem XWays.from {P : Program} {lo k kS : Nat} {d f : FuncId} {kC : Nat} {l : List (Nat × List Value)} {S S' : St} (h : Reach P S S') (hx : XWays P lo k kS d f kC l S') : XWays P lo k kS d f kC l S := by
 cases hx with
 | fin h1 h2 h3 => exact .fin (h.trans h1) h2 h3
 | put h1 h2 h3 => exact .put (h.trans h1) h2 h3
section
variable [Payload]
variable {P : Program} {A B : Rec} {fuel m lo k b kS bS kC c0 off nS : Nat} {tyS : TypeId} {vs : List Value} {x : XF} {S : St} {O W : Nat → Prop} {g : Goroutine} {w : World} {E : Env} {n : Nat} {L : WgLink}
variable {X : Nat → Addr → Prop} {Don : Nat → Nat → World → Prop} {S2 : Nat → Prop}
end
end
end Go.Eng
namespace Go.Eng
noncomputable section
open Go.Conc
open Go.Conc.Lib (WgLib WgLink)
open Go.ConcN (WgLive Has WSit AtR0 RW DWs)
open Go.ConcR (KK wgBlock WgAt stA smA rd mk Payload)
set_option linter.unusedSimpArgs false
set_option linter.unusedVariables false
set_option linter.unusedSectionVars false
variable [Hk]
def St.drop (k : Nat) (S : St) : St := ⟨S.top, S.cs, S.N.set k .dead⟩
section
variable [Payload]
variable {P : Program} {A B : Rec} {k b kS bS lo nS kC : Nat} {tyS : TypeId} {sts : List (Nat × List Value)} {x : XF} {SG SP : St} {under : List Frame} {O W : Nat → Prop} {g : Goroutine} {w : World} {E : Env} {n : Nat} {L : WgLink}
variable {X : Nat → Addr → Prop} {Don : Nat → Nat → World → Prop} {S2 : Nat → Prop} {Ob : Nat → Prop} {E0 : Env} {N0 : CH} {w0 : World}
end
end
end Go.Eng
namespace Go.Eng
noncomputable section
open Go.Conc
open Go.Conc.Lib (WgLib WgLink)
open Go.ConcN (WgLive ShN Has WSit AtR0 RW DWs sumTo)
open Go.ConcR (KK wgBlock WgAt stA smA rd mk Payload)
set_option linter.unusedSimpArgs false
set_option linter.unusedVariables false
set_option linter.unusedSectionVars false
variable [Hk]
theorem CH.get_guarded (N : CH) (j : Nat) : N.guarded.get j = N.get j := by rw [CH.get_def, CH.get_def]; rfl
theorem Rel.guarded {P : Program} {E : Env} {N : CH} {w : World} (R : Rel P E N w) : Rel P E N.guarded w := by
 have hl : ∀ k, N.guarded.live k → N.live k := fun k ⟨b, hb, hd⟩ => ⟨b, by rw [← CH.get_guarded]; exact hb, hd⟩
 exact ⟨⟨R.ok.le, R.ok.full⟩, R.gl, R.dom, fun i j hi hj li lj e => R.inj i j hi hj (hl i li) (hl j lj) e, fun k b hk hb => R.blk k b hk (by rw [← CH.get_guarded]; exact hb)⟩
section
variable [Payload]
variable {P : Program} {A B : Rec} {fuel k kS wm n : Nat} {tyS : TypeId} {L : WgLink} {x : XF} {fin : List Value} {S SF : St}
end
end
end Go.Eng
namespace Go.Eng
noncomputable section
open Go.Conc
set_option linter.unusedSimpArgs false
set_option linter.unusedVariables false
set_option linter.unusedSectionVars false
def CH.pushL : CH → List CB → CH
 | N, [] => N
 | N, b :: l => (N.push b).pushL l
theorem CH.pushL_facts : ∀ (l : List CB) {N : CH}, N.Ok → (N.pushL l).Ok ∧ (N.pushL l).sz = N.sz + l.length ∧ (N.pushL l).wm = N.wm ∧ (∀ j, j < N.sz → (N.pushL l).get j = N.get j) ∧ ∀ i, i < l.length → (N.pushL l).get (N.sz + i) = l[i]?
 | [], N, hN => ⟨hN, by simp [CH.pushL], rfl, fun _ _ => rfl, fun i hi => absurd hi (Nat.not_lt_zero _)⟩
 | b :: l, N, hN => by
  obtain ⟨h1, h2, h3, h4, h5⟩ := CH.pushL_facts l (CH.ok_push hN b)
  have hs : (N.push b).sz = N.sz + 1 := by rw [CH.push_def]
  have hw : (N.push b).wm = N.wm := by rw [CH.push_def]
  refine ⟨h1, ?_, h3.trans hw, fun j hj => ?_, fun i hi => ?_⟩
  ·simp only [CH.pushL, List.length_cons]
   rw [h2, hs]
   omega
  ·simp only [CH.pushL]
   rw [h4 j (by omega), CH.get_push_other hN hj]
  ·simp only [CH.pushL]
   cases i with
   | zero =>
    rw [Nat.add_zero, h4 N.sz (by omega), CH.get_push_same hN]
    rfl
   | succ i =>
    have := h5 i (by simpa using hi)
    rw [hs] at this
    rw [show N.sz + (i + 1) = N.sz + 1 + i by omega, this]
    rfl
variable [Hk]
def CH.small (sz : Nat) (keys : List Nat) (bs : List (Option CB)) : CH := ⟨sz, sz, 0, fill sz keys bs (Tr.skel sz sz)⟩
def Fin (P : Program) (f : FuncId) (kd : CallKind) (v : Value) (S : St) : Prop :=
 ∀ {lo : Nat} {E : Env} {w : World} {O W : Nat → Prop} {under : List Frame}, SRel P E S w → Own O W lo E S.N w → Clo E.D v ∧ ∃ fr, S.gor E under = G fr under ∧ fr.fn = f ∧ Ready P O w fr kd (E.m v)
theorem mem_callF {P : Program} {f : FuncId} {args : List Value} {v : Value} {sz : Nat} {keys : List Nat} {bs : List (Option CB)} {news : List CB} {N : CH} (hsz : N.sz = sz) (hbs : keys.map N.get = bs)
  (h : ∀ kd, kd = .normal ∨ kd = .deferred → ∃ s0 S, kenter P f args kd = some s0 ∧ Reach P ⟨s0, [], CH.small sz keys bs⟩ S ∧ Fin P f kd v S ∧ sz ≤ S.N.wm ∧ S.N.sz = sz + news.length ∧ ∀ i b, news[i]? = some b → b.isDead = true ∨ S.N.get (sz + i) = some b) : CallOk P f args N v (N.pushL news) := by
 intro main J hctx lo E w O W hlo R own hcl kd cs hcs K hK
 obtain ⟨s0, S, hk, hr, hf, hwm, hSsz, hnews⟩ := h kd hcs.1
 subst hsz
 subst hbs
 obtain ⟨p1, p2, p3, p4, p5⟩ := CH.pushL_facts news R.ok
 obtain ⟨h1, h2⟩ := fill_ok (sz := N.sz) (g := N.get) keys (Tr.skel N.sz N.sz) (Tr.full_skel _ _ (Nat.le_refl _)) (fun k b h => by rw [Tr.get_skel] at h; cases h)
 have hget : ∀ k b, (CH.small N.sz keys (keys.map N.get)).get k = some b → N.get k = some b := fun k b h => h2 k b (by
  rw [CH.get_def] at h
  simpa [CH.small] using h)
 have hlive : ∀ k, (CH.small N.sz keys (keys.map N.get)).live k → N.live k := fun k ⟨b, hb, hd⟩ => ⟨b, hget k b hb, hd⟩
 have R0 : Rel P E (CH.small N.sz keys (keys.map N.get)) w := ⟨⟨Nat.zero_le _, h1⟩, R.gl, R.dom, fun i j hi hj li lj e => R.inj i j hi hj (hlive i li) (hlive j lj) e, fun k b hk hb => R.blk k b hk (hget k b hb)⟩
 obtain ⟨e1, e2, e3, e4, _⟩ := kenter_ok (E := E) hk hcl
 have hs0 : SRel P E ⟨s0, [], CH.small N.sz keys (keys.map N.get)⟩ w := ⟨R0, e2, by simp, by
  refine ⟨?_, trivial⟩
  rw [e3]
  exact hcs.1.imp (fun h => h) fun h => ⟨h, .inl rfl⟩⟩
 have own0 : Own O W N.sz E (CH.small N.sz keys (keys.map N.get)) w := ⟨fun j hj hl => own.img j hj (hlive j hl), fun j hj hl hlo => by have := R.dom j hj; omega, own.lt, Nat.le_refl _⟩
 have hg0 : St.gor E ⟨s0, [], CH.small N.sz keys (keys.map N.get)⟩ cs = G (Frame.enter P f (args.map E.m).toArray kd) cs := by
  unfold St.gor
  rw [e1]
  rfl
 rw [← hg0]
 refine hr main J N.sz E w O W hwm hs0 own0 cs hcs.any K fun O' W' E' w' hs L => ?_
 obtain ⟨hv, fr, f1, f2, f3⟩ := hf hs L.own
 -- the memory that is left
 have hsame : ∀ j, j < N.sz → S.N.get j = (CH.small N.sz keys (keys.map N.get)).get j := fun j hj => L.ext.keep j hj (by omega)
 have hnewI : ∀ j, E'.D j → ¬ E.D j → N.sz ≤ j ∧ w.heap.size ≤ E'.f j := by
  intro j hj hnj
  refine ⟨((L.ext.new j hj).resolve_left hnj).1, ?_⟩
  rcases L.ext.fresh j hj with h | h | ⟨i, h3, ⟨bl, h4, h4'⟩, h5, _⟩
  ·exact absurd h hnj
  ·exact h
  ·have hi : i < N.sz := R.dom i h3
   exact absurd ⟨bl, by rw [hsame i hi]; exact h4, h4'⟩ h5
 have hold : ∀ j, E'.D j → j < N.sz → E.D j := fun j hj hlt => (L.ext.new j hj).resolve_right fun h => by
  have : N.sz ≤ j := h.1
  omega
 have hlv : ∀ j, E'.D j → (N.pushL news).live j → (j < N.sz ∧ N.live j) ∨ (N.sz ≤ j ∧ S.N.live j ∧ (N.pushL news).get j = S.N.get j) := by
  rintro j hDj ⟨b, hb, hd⟩
  rcases Nat.lt_or_ge j N.sz with hj | hj
  ·exact .inl ⟨hj, b, by rw [← p4 j hj]; exact hb, hd⟩
  ·right
   refine ⟨hj, ?_⟩
   by_cases hlt : j - N.sz < news.length
   ·have := p5 (j - N.sz) hlt
    rw [show N.sz + (j - N.sz) = j by omega] at this
    rw [this] at hb ⊢
    rcases hnews _ _ hb with h | h
    ·rw [hd] at h; cases h
    ·rw [show N.sz + (j - N.sz) = j by omega] at h
     exact ⟨⟨b, h, hd⟩, by rw [hb, h]⟩
   ·exfalso
    have : j < S.N.sz := L.rel.dom j hDj
    omega
 have hfar : ∀ i j, E.D i → N.live i → ¬ E.D j → E'.D j → E.f i ≠ E'.f j := fun i j hi hl hnj hj e => by
  have h1 := own.lt _ (own.img i hi hl)
  have h2 := (hnewI j hj hnj).2
  omega
 have hm := L.ext.mono
 have hkeep : ∀ j, E.D j → N.live j → w'.heap[E.f j]? = w.heap[E.f j]? ∨ (CH.small N.sz keys (keys.map N.get)).live j := by
  intro j hj hl
  by_cases hs : (CH.small N.sz keys (keys.map N.get)).live j
  ·exact .inr hs
  ·refine .inl (L.ext.frame _ (own.img j hj hl) (own.lt _ (own.img j hj hl)) fun i hi hli e => hs ?_)
   rw [← R.inj i j hi hj (hlive i hli) hl e]
   exact hli
 have rel' : Rel P E' (N.pushL news) w' := by
  refine ⟨p1, L.rel.gl, fun j hj => ?_, fun i j hi hj li lj e => ?_, fun j b hj hb => ?_⟩
  ·have : j < S.N.sz := L.rel.dom j hj
   rw [p2]
   omega
  ·rcases hlv i hi li with ⟨a1, a2⟩ | ⟨a1, a2, _⟩
   ·have hDi := hold i hi a1
    rcases hlv j hj lj with ⟨b1, b2⟩ | ⟨b1, b2, _⟩
    ·have hDj := hold j hj b1
     rw [(hm i hDi).2.1, (hm j hDj).2.1] at e
     exact R.inj i j hDi hDj a2 b2 e
    ·by_cases hDj : E.D j
     ·have := R.dom j hDj
      omega
     ·rw [(hm i hDi).2.1] at e
      exact absurd e (hfar i j hDi a2 hDj hj)
   ·rcases hlv j hj lj with ⟨b1, b2⟩ | ⟨b1, b2, _⟩
    ·have hDj := hold j hj b1
     by_cases hDi : E.D i
     ·have := R.dom i hDi
      omega
     ·rw [(hm j hDj).2.1] at e
      exact absurd e.symm (hfar j i hDj b2 hDi hi)
    ·exact L.rel.inj i j hi hj a2 b2 e
  ·cases hd : b.isDead with
   | true => cases b <;> simp [CB.isDead] at hd; trivial
   | false =>
    rcases hlv j hj ⟨b, hb, hd⟩ with ⟨a1, a2⟩ | ⟨a1, a2, a3⟩
    ·have hDj := hold j hj a1
     rw [p4 j a1] at hb
     rcases hkeep j hDj a2 with hk' | hk'
     ·rw [(hm j hDj).2.1, hk']
      exact (R.blk j b hDj hb).mono (fun i hi => ⟨(hm i hi).1, (hm i hi).2.1⟩) (fun v hv => L.ext.m hv) (hm j hDj).2.2.1 (hm j hDj).2.2.2
     ·refine L.rel.blk j b hj ?_
      rw [hsame j a1]
      obtain ⟨b', hb', _⟩ := hk'
      rw [hb']
      have := hget j b' hb'
      rw [hb] at this
      exact this.symm
    ·exact L.rel.blk j b hj (by rw [← a3]; exact hb)
 have own' : Own O' W' lo E' (N.pushL news) w' := by
  refine ⟨fun j hj hl => ?_, fun j hj hl hlo' => ?_, L.own.lt, ?_⟩
  ·rcases hlv j hj hl with ⟨a1, a2⟩ | ⟨a1, a2, _⟩
   ·have hDj := hold j hj a1
    rw [(hm j hDj).2.1]
    exact L.oo _ (own.img j hDj a2)
   ·exact L.own.img j hj a2
  ·rcases hlv j hj hl with ⟨a1, a2⟩ | ⟨a1, a2, _⟩
   ·have hDj := hold j hj a1
    rw [(hm j hDj).2.1]
    exact L.ww _ (own.wri j hDj a2 hlo')
   ·exact L.own.wri j hj a2 a1
  ·have := own.low
   rw [p2]
   omega
 have ext' : ExtC O E N w E' (N.pushL news) w' := by
  refine ⟨hm, fun j hj => ?_, fun j h1 h2 => L.ext.all j h1 ?_, by rw [p2]; omega, L.ext.hsize, fun j hj => ?_, fun j hj hl => ?_, by rw [p3]; exact Nat.le_refl _, fun j hj _ => p4 j hj, fun b hb hlt hn => L.ext.frame b hb hlt fun j hj hl => hn j hj (hlive j hl), L.ext.os, L.ext.tape, L.ext.output, L.ext.op⟩
  ·rcases L.ext.new j hj with h | h
   ·exact .inl h
   ·refine .inr ⟨h.1, ?_⟩
    have : j < S.N.sz := h.2
    rw [p2]
    omega
  ·rw [p2] at h2
   show j < S.N.sz
   omega
  ·by_cases hd : E.D j
   ·exact .inl hd
   ·exact .inr (.inl (hnewI j hj hd).2)
  ·rcases hlv j (hm j hj).1 hl with ⟨_, a2⟩ | ⟨a1, _, _⟩
   ·exact a2
   ·have := R.dom j hj
    omega
 have L' : Later P lo O W E N w O' W' E' (N.pushL news) w' := ⟨rel', own', ext', L.oo, L.ww, L.ou⟩
 rw [f1]
 exact hK O' W' E' w' fr L' hv f2 f3
end
end Go.Eng
