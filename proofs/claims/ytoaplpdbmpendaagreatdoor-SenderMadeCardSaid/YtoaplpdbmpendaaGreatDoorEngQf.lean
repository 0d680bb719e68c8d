/-
  The engine, part Qf: a whole call of goroutine 0's, at whose end all others only leave: as the rows of calls that start goroutines ask for it.
-/
import Derived.Test.YtoaplpdbmpendaaGreatDoorEngQe
import Derived.Conc.LeavingOf
import Derived.Below
set_option linter.unusedSectionVars false
set_option linter.unusedSimpArgs false
set_option linter.unusedVariables false
namespace Go.Eng
open Go.Conc
open Go.ConcN (sumTo)
set_option linter.unusedSimpArgs false
set_option linter.unusedVariables false
set_option linter.unusedSectionVars false
variable [Hk]

/-- Goroutine 0's outermost function hands its result back. -/
theorem g_done {P : Program} {fr : Frame} {v : Value} {fn : Func} {w : World} (hm : fr.mode = .returning) (hd : fr.defers = []) (hk : fr.kind = .normal) (hf : P.funcs[fr.fn]? = some fn) (hi : P.inits.idxOf? fr.fn = none) (hr : (results fn fr.tmps).run P w = .ok v w) :
    ∃ es, Lists P fr.fn ((results fn fr.tmps).events P w #[]) es ∧ stepG P true (G fr []) w = .ended (.done v) w es := by
  refine ⟨seen P fr.fn ((results fn fr.tmps).events P w #[]), fun e he => he, ?_⟩
  simp [G, stepG, unwind, doReturn, hm, hd, hk, hf, hi, hr, GStep.after]
theorem runs_reach {P : Program} {f : FuncId} {args : List Value} {S S' : St} {v : Value} (l : List (Option CB)) (o : Nat → Value) (one : ∀ r, (o r).oneCell' = true) (hargs : ∀ u ∈ args, Clo (fun k => k < LIM) u) (hv : plain v = true) (hi : P.inits.idxOf? f = none)
    (h0 : begin? P f args l = some S) (h : Reach P S S') (hf : S'.final P f = some (v, (CH.first l).heads)) (w : World) (hw : Laid l w) :
    ∃ M last o' w' t', runNT P (M + 1) (solo (G (Frame.enter P f (args.map (Env.m (Env.bare o one))).toArray .normal) []) w) #[] = (.ended o' w', t') ∧
      runN P M (solo (G (Frame.enter P f (args.map (Env.m (Env.bare o one))).toArray .normal) []) w) = .next last ∧ step P last = .ended o' w' ∧
      Conc.Good P (fun u W' => u = v ∧ w.heap.size ≤ W'.heap.size ∧ (∀ b, b < w.heap.size → W'.heap[b]? = w.heap[b]?) ∧ W'.os = w.os ∧ W'.tape = w.tape ∧ W'.output = w.output) last o' w' t' := by
  unfold begin? at h0
  split at h0
  rotate_left
  · cases h0
  rename_i s hk
  cases h0
  have hr : Rel P (Env.bare o one) (CH.first l) w := rel_first hw o one
  obtain ⟨e1, e2, e3, e4, _⟩ := kenter_ok (E := Env.bare o one) hk hargs
  have hs0 : SRel P (Env.bare o one) ⟨s, [], CH.first l⟩ w := ⟨hr, e2, by simp, ⟨.inl e3, trivial⟩⟩
  unfold St.final at hf
  split at hf
  rotate_left
  · cases hf
  rename_i fn ar n t k N
  split at hf
  rotate_left
  · cases hf
  rename_i hff
  split at hf
  rotate_left
  · cases hf
  rename_i fd hfd
  split at hf
  rotate_left
  · cases hf
  rename_i vs hvs
  simp only [Option.some.injEq, Prod.mk.injEq] at hf
  obtain ⟨rfl, hheads⟩ := hf
  have hg0 : St.gor (Env.bare o one) ⟨s, [], CH.first l⟩ [] = G (Frame.enter P f (args.map (Env.m (Env.bare o one))).toArray .normal) [] := by
    unfold St.gor
    rw [e1]
    rfl
  have W : Will P true (fun _ => True) (fun O' W' g' w' => AtEnd P (fun u W' => u = kresult vs ∧ w.heap.size ≤ W'.heap.size ∧ (∀ b, b < w.heap.size → W'.heap[b]? = w.heap[b]?) ∧ W'.os = w.os ∧ W'.tape = w.tape ∧ W'.output = w.output) O' W' g' w')
      (fun b => b < w.heap.size) (fun b => b < w.heap.size) (G (Frame.enter P f (args.map (Env.m (Env.bare o one))).toArray .normal) []) w := by
    rw [← hg0]
    refine h true (fun _ => True) 0 (Env.bare o one) w _ _ (Nat.zero_le _) hs0 (own_all hr) [] caller_none _ fun O' W' E' w' hs L => ?_
    refine .stop fun w1 hrel _ => ?_
    have hs1 := hs.rely L.own hrel
    have L1 := L.trans (Later.of_rely L.rel L.own hrel)
    have hres : cresults P fd (⟨n, t, []⟩ : FA).abs.tmps N = some (kresult vs) := by
      unfold cresults
      rw [fresult_eq hs1.top.a _ hvs, Option.map_some]
      cases vs with
      | nil => rfl
      | cons v r => cases r <;> rfl
    obtain ⟨hrun, _⟩ := results_ok hs1.rel hs1.top.clo.tmps hres
    rw [m_plain E' hv] at hrun
    obtain ⟨es, hes, hst⟩ := g_done (P := P) (fr := SF.frame E' ⟨fn, ar, .normal, true, ⟨n, t, []⟩, k⟩) (w := w1) rfl rfl rfl hfd (by show P.inits.idxOf? fn = none; rw [hff]; exact hi) hrun
    refine ⟨rfl, kresult vs, es, hst, fun e he => ?_, rfl, L1.ext.hsize, kept_first hw L1.rel L1.ext hheads, L1.ext.os, L1.ext.tape, L1.ext.output⟩
    exact hes.ok ((results_evs hs1.rel L1.own hs1.top.clo.tmps hres).mono fun _ h => h.elim) e he
  have hB := BS.solo (P := P) (g := G (Frame.enter P f (args.map (Env.m (Env.bare o one))).toArray .normal) []) (w := w) (O := fun b => b < w.heap.size) (W := fun b => b < w.heap.size) (fun _ h => h) (fun _ h => h)
  obtain ⟨N1, Sh1, gs1, g1, w1, sl1, t1, q1, O1, W1, hr1, h01, hK1, hB1⟩ := beside_walk W w (Rely.refl _ _) _ _ #[G (Frame.enter P f (args.map (Env.m (Env.bare o one))).toArray .normal) []] none #[] _ (Nat.le_refl _) rfl hB
  obtain ⟨N2, last, o2, w2, t2, a1, a2, a3, a4⟩ := beside_end _ w1 hK1 gs1 sl1 t1 q1 (Nat.le_refl _) h01 hB1
  refine ⟨N1 + N2, last, o2, w2, t2, ?_, ?_, a3, a4⟩
  · rw [Nat.add_assoc, solo_eq_crowd, runNT_add, hr1]
    exact a1
  · have : runN P N1 (crowd #[G (Frame.enter P f (args.map (Env.m (Env.bare o one))).toArray .normal) []] w none) = .next (crowd gs1 w1 sl1) := by
      rw [← runNT_fst _ _ _ #[], hr1]
    rw [solo_eq_crowd, runN_add, this]
    exact a2
end Go.Eng

