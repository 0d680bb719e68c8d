/-
  The engine, part Qr: the checks on a stretch in which goroutine 0 starts many workers, as closed equations, one a round.
-/
import Derived.Test.YtjoelgicffojcaaGreatDoorEngQp
set_option linter.unusedSectionVars false
set_option linter.unusedSimpArgs false
set_option linter.unusedVariables false
namespace Go.Eng
noncomputable section
open Go.Conc
open Go.Conc.Lib (WgLib WgLink)
set_option linter.unusedSimpArgs false
set_option linter.unusedVariables false
set_option linter.unusedSectionVars false
def Snap.stw (keys : List Nat) (wm : Nat) (T : Snap) : St := ⟨T.top.sf, T.cs.map SnapF.sf, ⟨T.sz, wm, 0, fill T.sz keys T.blocks (Tr.skel T.sz T.sz)⟩⟩
theorem fill_stays {sz : Nat} {g : Nat → Option CB} {k : Nat} {b : CB} (hk : k < sz) : ∀ (ks : List Nat) (t : Tr CB), t.Full sz → (∀ j c, t.get j = some c → g j = some c) → t.get k = some b → (fill sz ks (ks.map g) t).get k = some b
 | [], t, hf, h, hb => hb
 | j :: ks, t, hf, h, hb => by
  rw [List.map_cons]
  cases hg : g j with
  | none => exact fill_stays hk ks t hf h hb
  | some c =>
   show (if j < sz then fill sz ks (ks.map g) (t.set j c) else fill sz ks (ks.map g) t).get k = some b
   by_cases hj : j < sz
   ·rw [if_pos hj]
    refine fill_stays hk ks _ (Tr.full_set hf j c hj) (fun i d hi => ?_) ?_
    ·rw [Tr.get_set hf j i (Nat.le_of_lt hj)] at hi
     by_cases e : i = j
     ·subst e
      rw [if_pos rfl] at hi
      cases hi
      exact hg
     ·rw [if_neg e] at hi
      exact h i d hi
    ·rw [Tr.get_set hf j k (Nat.le_of_lt hj)]
     by_cases e : k = j
     ·subst e
      rw [if_pos rfl]
      have := h k b hb
      rw [hg] at this
      exact this
     ·rw [if_neg e]
      exact hb
   ·rw [if_neg hj]
    exact fill_stays hk ks t hf h hb
theorem fill_mem {sz : Nat} {g : Nat → Option CB} {k : Nat} {b : CB} (hk : k < sz) (hg : g k = some b) : ∀ (ks : List Nat) (t : Tr CB), t.Full sz → (∀ j c, t.get j = some c → g j = some c) → k ∈ ks → (fill sz ks (ks.map g) t).get k = some b
 | j :: ks, t, hf, h, hm => by
  rw [List.map_cons]
  by_cases e : k = j
  ·subst e
   rw [hg]
   show (if k < sz then fill sz ks (ks.map g) (t.set k b) else fill sz ks (ks.map g) t).get k = some b
   rw [if_pos hk]
   refine fill_stays hk ks _ (Tr.full_set hf k b hk) (fun i d hi => ?_) ?_
   ·rw [Tr.get_set hf k i (Nat.le_of_lt hk)] at hi
    by_cases e : i = k
    ·subst e
     rw [if_pos rfl] at hi
     cases hi
     exact hg
    ·rw [if_neg e] at hi
     exact h i d hi
   ·rw [Tr.get_set hf k k (Nat.le_of_lt hk), if_pos rfl]
  ·have hm' : k ∈ ks := (List.mem_cons.1 hm).resolve_left e
   cases hgj : g j with
   | none => exact fill_mem hk hg ks t hf h hm'
   | some c =>
    show (if j < sz then fill sz ks (ks.map g) (t.set j c) else fill sz ks (ks.map g) t).get k = some b
    by_cases hj : j < sz
    ·rw [if_pos hj]
     refine fill_mem hk hg ks _ (Tr.full_set hf j c hj) (fun i d hi => ?_) hm'
     rw [Tr.get_set hf j i (Nat.le_of_lt hj)] at hi
     by_cases e : i = j
     ·subst e
      rw [if_pos rfl] at hi
      cases hi
      exact hgj
     ·rw [if_neg e] at hi
      exact h i d hi
    ·rw [if_neg hj]
     exact fill_mem hk hg ks t hf h hm'
variable [Hk]
end
end Go.Eng
namespace Go.Eng
noncomputable section
open Go.Conc
open Go.Conc.Lib (WgLib WgLink)
set_option linter.unusedSimpArgs false
set_option linter.unusedVariables false
set_option linter.unusedSectionVars false
def keepsAll (k : Nat) (keys : List Nat) : Bool := (List.range k).all fun j => keys.elem j
theorem keepsAll_eq {k : Nat} {keys : List Nat} (h : keepsAll k keys = true) : ∀ j, j < k → j ∈ keys := fun j hj => List.elem_iff.1 (List.all_eq_true.1 h j (List.mem_range.2 hj))
section
variable (P : Program) (A : Rec) (fuel m k kS kC : Nat) (sts : List (Nat × List Value)) (done : FuncId) (x : XF) (kch keys : List Nat) (T : Snap)
end
variable [Hk]
section
variable {P : Program} {A B : Rec} {fuel m k kS kC : Nat} {sts : List (Nat × List Value)} {L : WgLink} {x : XF} {kch keys : List Nat} {T : Snap}
end
end
end Go.Eng
namespace Go.Eng
noncomputable section
open Go.Conc
open Go.Conc.Lib (WgLib WgLink)
set_option linter.unusedSimpArgs false
set_option linter.unusedVariables false
set_option linter.unusedSectionVars false
section
variable (P : Program) (A : Rec) (fuel mf k kS wm wmF : Nat) (row : CB) (x : XF) (keysF keysA : List Nat) (TF TA : Snap)
end
variable [Hk]
section
variable {P : Program} {A B : Rec} {fuel mf k kS wm wmF n mw : Nat} {tyS : TypeId} {row : CB} {L : WgLink} {x : XF} {keysF keysA keys : List Nat} {T TF : Snap} {fin : List Value}
end
end
end Go.Eng
namespace Go.Eng
noncomputable section
open Go.Conc
set_option linter.unusedSimpArgs false
set_option linter.unusedVariables false
set_option linter.unusedSectionVars false
variable [Hk]
end
end Go.Eng
namespace Go.Eng
noncomputable section
open Go.Conc
set_option linter.unusedSimpArgs false
set_option linter.unusedVariables false
set_option linter.unusedSectionVars false
def SF.d (s : SF) : SF := ⟨s.fn, s.ar, .deferred, s.ret, s.a, s.k⟩
def dLast : List SF → List SF
 | [] => []
 | [s] => [s.d]
 | s :: c :: r => s :: dLast (c :: r)
def St.fs (S : St) : List SF := S.top :: S.cs
def Alike (S T : St) : Prop := T.N = S.N ∧ T.fs = dLast S.fs
theorem Alike.cases {S T : St} (h : Alike S T) : (S.cs = [] ∧ T = ⟨S.top.d, [], S.N⟩) ∨ ∃ c r c' r', S.cs = c :: r ∧ T = ⟨S.top, c' :: r', S.N⟩ ∧ c' :: r' = dLast (c :: r) := by
 obtain ⟨t, cs, N⟩ := S
 obtain ⟨t', cs', N'⟩ := T
 obtain ⟨h1, h2⟩ := h
 simp only at h1
 subst h1
 cases cs with
 | nil =>
  simp only [St.fs, dLast, List.cons.injEq] at h2
  obtain ⟨rfl, rfl⟩ := h2
  exact .inl ⟨rfl, rfl⟩
 | cons c r =>
  simp only [St.fs, dLast, List.cons.injEq] at h2
  obtain ⟨rfl, h2⟩ := h2
  right
  cases hd : dLast (c :: r) with
  | nil => cases r <;> simp [dLast] at hd
  | cons c' r' =>
   rw [hd] at h2
   subst h2
   exact ⟨c, r, c', r', rfl, rfl, hd.symm⟩
variable [Hk]
end
end Go.Eng
namespace Go.Eng
noncomputable section
open Go.Conc
open Go.Conc.Lib (WgLib WgLink)
open Go.ConcR (Payload)
set_option linter.unusedSimpArgs false
set_option linter.unusedVariables false
set_option linter.unusedSectionVars false
section
variable (P : Program) (A : Rec)
end
section
variable {P : Program} {A : Rec}
end
variable [Hk]
section
variable {P : Program} {A B : Rec} {fuel mf k kS wm wmF n : Nat} {tyS : TypeId} {L : WgLink} {x : XF} {keysF keysA keys : List Nat} {TF : Snap} {fin : List Value}
end
end
end Go.Eng
namespace Go.Eng
noncomputable section
open Go.Conc
open Go.Conc.Lib (WgLib WgLink)
open Go.ConcR (Payload)
set_option linter.unusedSimpArgs false
set_option linter.unusedVariables false
set_option linter.unusedSectionVars false
end
end Go.Eng
namespace Go.Eng
noncomputable section
open Go.Conc
set_option linter.unusedSimpArgs false
set_option linter.unusedVariables false
set_option linter.unusedSectionVars false
def finV (P : Program) (f : FuncId) (kd : CallKind) : St → Option Value
 | ⟨⟨fn, none, kd', true, ⟨n, t, []⟩, _⟩, [], N⟩ => if fn = f then if kd' = kd then match P.funcs[fn]? with
  | some fd => match fresult P ⟨n, t, []⟩ N fd.results.toList with
   | some vs => some (kresult vs)
   | none => none
  | none => none
  else none else none
 | _ => none
variable [Hk]
theorem ready_own {P : Program} {lo : Nat} {S : St} {under : List Frame} {O W : Nat → Prop} {w : World} {E : Env} {f : FuncId} {kd : CallKind} {v : Value} (hs : SRel P E S w) (own : Own O W lo E S.N w) (hf : finV P f kd S = some v) :
  Clo E.D v ∧ ∃ fr, S.gor E under = G fr under ∧ fr.fn = f ∧ Ready P O w fr kd (E.m v) := by
 unfold finV at hf
 split at hf
 rotate_left
 ·cases hf
 rename_i fn kd' n t kk N
 split at hf
 rotate_left
 ·cases hf
 rename_i e1
 split at hf
 rotate_left
 ·cases hf
 rename_i e2
 subst e1; subst e2
 split at hf
 rotate_left
 ·cases hf
 rename_i fd hfd
 split at hf
 rotate_left
 ·cases hf
 rename_i vs hvs
 cases hf
 have hres : cresults P fd (⟨n, t, []⟩ : FA).abs.tmps N = some (kresult vs) := by
  unfold cresults
  rw [fresult_eq hs.top.a _ hvs, Option.map_some]
  cases vs with
  | nil => rfl
  | cons v r => cases r <;> rfl
 refine ⟨(results_ok hs.rel hs.top.clo.tmps hres).2, SF.frame E ⟨fn, none, kd', true, ⟨n, t, []⟩, kk⟩, rfl, rfl, rfl, rfl, rfl, fd, hfd, fun w1 hr => ?_⟩
 exact ⟨(results_ok (hs.rel.rely own hr) hs.top.clo.tmps hres).1, results_evs (hs.rel.rely own hr) (own.rely hr) hs.top.clo.tmps hres⟩
theorem plain_ran {P : Program} {f : FuncId} {args : List Value} {v : Value} (hargs : plainL args = true) (hv : plain v = true)
  (h : ∀ kd, kd = .normal ∨ kd = .deferred → ∃ s0 S, kenter P f args kd = some s0 ∧ Reach P ⟨s0, [], CH.first []⟩ S ∧ finV P f kd S = some v) (N : CH) : CallOk P f args N v N := by
 intro main J hctx lo E w O W hlo R own hcl kd cs hcs K hK
 obtain ⟨s0, S, hk, hr, hf⟩ := h kd hcs.1
 have hpl : ∀ (F : Env), args.map F.m = args := fun F => by
  have : ∀ u ∈ args, F.m u = u := fun u hu => m_plain F (plainL_all.1 hargs u hu)
  exact (List.map_congr_left this).trans (List.map_id _)
 have R0 : Rel P (Env.bare tok0 toks0) (CH.first []) w := rel_first (laid_none w) _ _
 obtain ⟨e1, e2, e3, e4, _⟩ := kenter_ok (E := Env.bare tok0 toks0) hk (fun u hu => Clo_plain _ _ (plainL_all.1 hargs u hu))
 rw [hpl] at e1 ⊢
 have hs0 : SRel P (Env.bare tok0 toks0) ⟨s0, [], CH.first []⟩ w := ⟨R0, e2, by simp, by
  refine ⟨?_, trivial⟩
  rw [e3]
  exact hcs.1.imp (fun h => h) fun h => ⟨h, .inl rfl⟩⟩
 have own0 : Own O W 0 (Env.bare tok0 toks0) (CH.first []) w := ⟨fun j hj hl => absurd hl (no_live hj), fun j hj hl _ => absurd hl (no_live hj), own.lt, Nat.zero_le _⟩
 have hg0 : St.gor (Env.bare tok0 toks0) ⟨s0, [], CH.first []⟩ cs = G (Frame.enter P f args.toArray kd) cs := by
  unfold St.gor
  rw [e1]
  rfl
 rw [← hg0]
 refine hr main J 0 _ w O W (Nat.zero_le _) hs0 own0 cs hcs.any K fun O' W' E' w' hs L => ?_
 have hrel : Rely O w w' := ⟨fun b hb => L.ext.frame b hb (own.lt b hb) fun k hk hl => absurd hl (no_live hk), L.ext.hsize, L.ext.os, L.ext.tape, L.ext.output⟩
 obtain ⟨_, fr, f1, f2, f3⟩ := ready_own (under := cs) hs L.own hf
 have L1 := Later.of_rely R own hrel
 have L2 : Later P lo O W E N w O' W' E N w' := ⟨L1.rel, ⟨fun k hk hl => L.oo _ (own.img k hk hl), fun k hk hl h => L.ww _ (own.wri k hk hl h), L.own.lt, own.low⟩, L1.ext, L.oo, L.ww, L.ou⟩
 rw [f1]
 refine hK O' W' E w' fr L2 (Clo_plain _ _ hv) f2 ?_
 rw [m_plain E hv]
 rw [m_plain E' hv] at f3
 exact f3
end
end Go.Eng
namespace Go.Eng
noncomputable section
open Go.Conc
set_option linter.unusedSimpArgs false
set_option linter.unusedVariables false
set_option linter.unusedSectionVars false
def kdo (P : Program) (A : Rec) : St → Option St
 | ⟨⟨fn, ar, kd, false, a, .reg ops i (o :: r) :: k⟩, cs, N⟩ => match fopStep P A ops ar o a N with
  | some (a', N') => some ⟨⟨fn, ar, kd, false, a', .reg ops (i + 1) r :: k⟩, cs, N'⟩
  | none => none
 | _ => none
def kleaps (P : Program) (A : Rec) : List Nat → St → Option St
 | [], S => some S
 | [n], S => krun P A n S
 | n :: l, S => match krun P A n S with
  | some S1 => match kdo P A S1 with
   | some S2 => kleaps P A l S2
   | none => none
  | none => none
variable [Hk]
theorem kdo_ok {P : Program} (hP : NoCount P) {A B : Rec} (hAB : A.Le B) (hB : RecOk P B) {S S' : St} (h : kdo P A S = some S') : Reach P S S' := by
 unfold kdo at h
 split at h
 rotate_left
 ·cases h
 rename_i fn ar kd a ops i o r k cs N
 split at h
 rotate_left
 ·cases h
 rename_i a' N' hd
 cases h
 intro main J hx lo E w O W hlo hs ow under hu K hK
 have ht := hs.top
 have hit : ∀ j o', (o :: r)[j]? = some o' → ops[i + j]? = some o' := ht.its (.reg ops i (o :: r)) (by simp)
 have ho : ops[i]? = some o := by simpa using hit 0 o rfl
 have hr : ∀ j o', r[j]? = some o' → ops[i + 1 + j]? = some o' := fun j o' hj => by
  have := hit (j + 1) o' (by simpa using hj)
  rwa [show i + (j + 1) = i + 1 + j by omega] at this
 obtain ⟨h1, h2⟩ := fopStep_ok hAB ho ht.a hd
 unfold St.gor
 rw [SF.frame_run E rfl]
 simp only [List.map_cons, It.item, List.length_cons, List.range'_succ]
 refine opStep_ok hP hB h1 hlo hs.rel ow ht.clo (SF.base E ⟨fn, ar, kd, false, a, .reg ops i (o :: r) :: k⟩) (fun har => by simp [SF.base, har]) (List.range' (i + 1) r.length) (k.map (It.item E)) (cs.map (SF.frame E) ++ under) (fun _ => caller_of hu hs.stk) fun O' W' E' w' L hclo => ?_
 have X := L.ext
 obtain ⟨x1, x2⟩ := SF.ext X ht
 have e1 := congrArg Frame.roundOf x1
 have e2 := congrArg Frame.todo x1
 simp only [SF.frame, List.map_cons, It.item, List.cons.injEq, true_and] at e1 e2
 have hfin := hK O' W' E' w' (hs.turn L.rel X ⟨h2, hclo, x2.ar, (fun it hit' => by
  rcases List.mem_cons.1 hit' with rfl | hit'
  ·exact hr
  ·exact x2.its it (by simp [hit'])), x2.ret, x2.kd⟩ rfl) L
 rw [gor_eq X hs.cs, SF.frame_run E' rfl] at hfin
 simp only [SF.base, e1, List.map_cons, It.item, e2] at hfin
 exact hfin
theorem kleaps_ok {P : Program} (hP : NoCount P) (hm : P.follows .mixedOrders = true) {A B : Rec} (hAB : A.Le B) (hB : RecOk P B) : ∀ (l : List Nat) {S S' : St}, kleaps P A l S = some S' → Reach P S S'
 | [], S, S', h => by
  simp only [kleaps, Option.some.injEq] at h
  subst h
  exact Reach.refl P S
 | [n], S, S', h => krun_ok hP hm hAB hB n h
 | n :: m :: l, S, S', h => by
  simp only [kleaps] at h
  split at h
  rotate_left
  ·cases h
  rename_i S1 h1
  split at h
  rotate_left
  ·cases h
  rename_i S2 h2
  exact ((krun_ok hP hm hAB hB n h1).trans (kdo_ok hP hAB hB h2)).trans (kleaps_ok hP hm hAB hB (m :: l) h)
end
end Go.Eng
namespace Go.Eng
noncomputable section
open Go.Conc
set_option linter.unusedSimpArgs false
set_option linter.unusedVariables false
set_option linter.unusedSectionVars false
variable [Hk]
end
end Go.Eng
namespace Go.Eng
noncomputable section
open Go.Conc
set_option linter.unusedSimpArgs false
set_option linter.unusedVariables false
set_option linter.unusedSectionVars false
variable [Hk]
end
end Go.Eng
namespace Go.Eng
noncomputable section
open Go.Conc
open Go.Conc.Lib (WgLib WgLink)
open Go.ConcR (Payload)
set_option linter.unusedSimpArgs false
set_option linter.unusedVariables false
set_option linter.unusedSectionVars false
section
variable (P : Program) (A : Rec) (fuel m mf k kS kC wm wmF len : Nat) (ok : Value → Bool) (offs : List Nat) (done : FuncId) (row : CB) (x : XF) (kch keys keysF keysA : List Nat)
def addU (S0 : St) (v : Nat) : Option Snap := match xm0 k x.disable S0 with
 | some S1 => match addFlow P A fuel k k x v S1 with
  | some S2 => if Nat.ble k (toStop P A fuel S2).N.wm = true then some ((toStop P A fuel S2).snap keys) else none
  | none => none
 | none => none
end
variable [Hk]
section
variable {P : Program} {A B : Rec} {fuel m mf k kS kC wm wmF len n mw : Nat} {ok : Value → Bool} {offs : List Nat} {tyS : TypeId} {row : CB} {L : WgLink} {x : XF} {kch keys keysF keysA : List Nat} {T TF : Snap}
def Way (P : Program) (lo k kS : Nat) (d : FuncId) (kC len : Nat) (ok : Value → Bool) (offs : List Nat) (g : FuncId) (S : St) : Prop :=
 ∃ sts : List (Nat × List Value), sts.map (·.1) = offs ∧ (∀ p ∈ sts, p.2.length = len ∧ p.2.all ok = true) ∧ XWays P lo k kS d g kC sts S
theorem Way.from {lo : Nat} {d g : FuncId} {S S' : St} (h : Reach P S S') (hw : Way P lo k kS d kC len ok offs g S') : Way P lo k kS d kC len ok offs g S := by
 obtain ⟨sts, a1, a2, a3⟩ := hw
 exact ⟨sts, a1, a2, a3.from h⟩
end
end
end Go.Eng
namespace Go.Eng
noncomputable section
open Go.Conc
open Go.Conc.Lib (WgLib WgLink)
open Go.ConcR (Payload)
set_option linter.unusedSimpArgs false
set_option linter.unusedVariables false
set_option linter.unusedSectionVars false
variable [Hk]
section
variable {P : Program} {A B : Rec} {fuel m mf k kS wm wmF len n total : Nat} {ok : Value → Bool} {tyS : TypeId} {L : WgLink} {x : XF} {keysF keysA : List Nat}
end
end
end Go.Eng
namespace Go.Eng
noncomputable section
open Go.Conc
open Go.Conc.Lib (WgLib WgLink)
open Go.ConcR (Payload)
set_option linter.unusedSimpArgs false
set_option linter.unusedVariables false
set_option linter.unusedSectionVars false
end
end Go.Eng
namespace Go.Eng
noncomputable section
open Go.Conc
open Go.Conc.Lib (WgLib WgLink)
open Go.ConcR (Payload)
set_option linter.unusedSimpArgs false
set_option linter.unusedVariables false
set_option linter.unusedSectionVars false
def byteF (g : Nat → Int) (i : Nat) : Value := .int .u8 (g i)
def St.far (k n : Nat) (g : Nat → Int) (e : TypeId) (S : St) : St := ⟨S.top, S.cs, S.N.set k (.far n (byteF g) e)⟩
section
variable [Hk]
theorem Reach.far {P : Program} (S : St) {k n : Nat} {g : Nat → Int} {e : TypeId} (hg : S.N.get k = some (.row ((List.range n).map (byteF g)) e false)) (hlt : k < S.N.sz) : Reach P S (S.far k n g e) := by
 intro main J _ lo E w O W hlo hs own under hu K hK
 have R := hs.rel
 have hb := CH.base_le hg
 have get : ∀ j, (S.far k n g e).N.get j = if j = k then some (.far n (byteF g) e) else S.N.get j := fun j => CH.get_set R.ok hb hlt j _
 have live : ∀ j, (S.far k n g e).N.live j ↔ S.N.live j := by
  intro j
  unfold CH.live
  rw [get]
  split
  ·rename_i h
   subst h
   rw [hg]
   exact ⟨fun _ => ⟨_, rfl, rfl⟩, fun _ => ⟨_, rfl, rfl⟩⟩
  ·exact Iff.rfl
 have hsz : (S.far k n g e).N.sz = S.N.sz := rfl
 have rel : Rel P E (S.far k n g e).N w := by
  refine ⟨CH.ok_set R.ok hb hlt _, R.gl, R.dom, fun i j hi hj li lj h => R.inj i j hi hj ((live i).1 li) ((live j).1 lj) h, fun j b hj hjb => ?_⟩
  rw [get] at hjb
  split at hjb
  ·rename_i h
   subst h
   cases hjb
   have h1 := R.blk _ _ hj hg
   exact h1
  ·exact R.blk j b hj hjb
 have ow : Own O W lo E (S.far k n g e).N w := ⟨fun j hj hl => own.img j hj ((live j).1 hl), fun j hj hl h => own.wri j hj ((live j).1 hl) h, own.lt, own.low⟩
 have hwm := CH.set_wm S.N k (.far n (byteF g) e)
 have ext : ExtC O E S.N w E (S.far k n g e).N w := by
  have X := ExtC.refl O E S.N w
  refine ⟨X.mono, X.new, fun j h1 h2 => absurd h2 (by rw [hsz]; omega), Nat.le_refl _, X.hsize, fun j hj => .inl hj, fun j hj hl => (live j).1 hl, hwm.1, fun j h1 h2 => ?_, X.frame, X.os, X.tape, ?_, ?_⟩
  ·rw [get, if_neg]
   intro h
   subst h
   exact absurd h2 (by have : (S.far j n g e).N.wm ≤ j := hwm.2; omega)
  all_goals first | exact X.output | exact X.op | skip
 exact hK O W E w ⟨rel, hs.top, hs.cs, hs.stk⟩ ⟨rel, ow, ext, fun _ h => h, fun _ h => h, fun _ h => .inl h⟩
end
section
variable [Hk]
def Tails (P : Program) (f : FuncId) (kd : CallKind) (v : Value) (sz : Nat) (news : List CB) (S : St) : Prop :=
 ∃ S3, Reach P S S3 ∧ Fin P f kd v S3 ∧ sz ≤ S3.N.wm ∧ S3.N.sz = sz + news.length ∧ ∀ i b, news[i]? = some b → b.isDead = true ∨ S3.N.get (sz + i) = some b
theorem fin_v {P : Program} {f : FuncId} {kd : CallKind} {v : Value} {S : St} (hf : finV P f kd S = some v) : Fin P f kd v S := fun {lo E w O W under} hs ow => ready_own hs ow hf
theorem Tails.from {P : Program} {f : FuncId} {kd : CallKind} {v : Value} {sz : Nat} {news : List CB} {S S1 : St} (h : Tails P f kd v sz news S1) (hr : Reach P S S1) : Tails P f kd v sz news S := by
 obtain ⟨S3, a1, a2⟩ := h
 exact ⟨S3, hr.trans a1, a2⟩
end
end
end Go.Eng
namespace Go.Eng
noncomputable section
open Go.Conc
set_option linter.unusedSimpArgs false
set_option linter.unusedVariables false
set_option linter.unusedSectionVars false
def Env.at32 (E : Env) (b : Nat) : Env := { E with f := fun j => if j = 32 then E.f b else E.f j, x := fun j => if j = 32 then E.x b else E.x j, s := fun j => if j = 32 then E.s b else E.s j, D := fun j => j ≤ 32 }
def CH.lone (c : List Value) (e : TypeId) (el : Bool) : CH := CH.small 33 [32] [some (.row c e el)]
theorem lone_get (c : List Value) (e : TypeId) (el : Bool) (k : Nat) (bl : CB) (h : (CH.lone c e el).get k = some bl) : k = 32 ∧ bl = .row c e el := by
 obtain ⟨h1, h2⟩ := @fill_ok ⟨true⟩ (sz := 33) (g := fun k => if k = 32 then some (.row c e el) else none) [32] (Tr.skel 33 33) (Tr.full_skel _ _ (Nat.le_refl _)) (fun k b h => by rw [Tr.get_skel] at h; cases h)
 have := h2 k bl (by
  rw [CH.get_def] at h
  simpa [CH.lone, CH.small] using h)
 by_cases hk : k = 32
 ·rw [if_pos hk] at this
  exact ⟨hk, (Option.some.inj this).symm⟩
 ·rw [if_neg hk] at this
  cases this
section
variable [Hk]
def Rows (P : Program) (f : FuncId) (kd : CallKind) (v : Value) (c : List Value) (e : TypeId) (el : Bool) (S : St) : Prop :=
 ∃ S3, Reach P S S3 ∧ Fin P f kd v S3 ∧ 33 ≤ S3.N.wm ∧ S3.N.get 32 = some (.row c e el)
end
end
end Go.Eng
namespace Go.Eng
noncomputable section
open Go.Conc
set_option linter.unusedSimpArgs false
set_option linter.unusedVariables false
set_option linter.unusedSectionVars false
theorem Tr.set_self {α : Type} {v : α} : ∀ (t : Tr α) (r : Nat), t.get r = some v → t.set r v = t
 | .e, _, h => by cases h
 | .nd u l m, 0, h => by
  simp only [Tr.get_zero] at h
  subst h
  rfl
 | .nd u l m, n + 1, h => by
  rw [Tr.get_succ] at h
  rw [Tr.set_succ]
  split at h
  ·rename_i e
   rw [if_pos e, Tr.set_self l _ h]
  ·rename_i e
   rw [if_neg e, Tr.set_self m _ h]
def St.tell (r : Nat) (v : Value) : St → St
 | ⟨⟨fn, ar, kd, ret, ⟨n, t, dm⟩, k⟩, cs, N⟩ => ⟨⟨fn, ar, kd, ret, ⟨n, t.set r v, dm⟩, k⟩, cs, N⟩
theorem St.tell_self {S : St} {r : Nat} {v : Value} (h : S.top.a.t.get r = some v) : S.tell r v = S := by
 obtain ⟨⟨fn, ar, kd, ret, ⟨n, t, dm⟩, k⟩, cs, N⟩ := S
 simp only [St.tell, Tr.set_self t r h]
variable [Hk]
end
end Go.Eng
