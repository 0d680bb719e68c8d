/-
  The engine, part V: goroutine 0 beside goroutines that only leave.
-/
import Derived.Test.YtoaplpdbmpendaaGreatDoorEngU
import Derived.Test.YtoaplpdbmpendaaGreatDoorEngS
set_option linter.unusedSectionVars false
set_option linter.unusedSimpArgs false
set_option linter.unusedVariables false
namespace Go.Eng
open Go.Conc
open Go.ConcN (PermW fork_knows RelBy upd upd_same upd_ne sumTo sumTo_upd)
set_option linter.unusedSimpArgs false
set_option linter.unusedVariables false

theorem fine_act {O W : Nat → Prop} {X : Addr → Prop} {w w2 : World} {e : Event} (h : Fine O W w w2 e) :
    OkP ⟨O, W, X⟩ w.heap.size (MemAct.ofEvent e) ∧ (MemAct.ofEvent e).low w2.heap.size ∧ e.loc ≠ .mark .disable ∧ e.loc ≠ .mark .enable ∧ ∀ a, e.loc ≠ .mark (.release a) := by
  obtain ⟨loc, wr, sy⟩ := e
  rcases h with h | ⟨b, h1, h2, h3, h4, h5⟩
  · simp only at h
    subst h
    refine ⟨fun b hb => ?_, trivial, by simp, by simp, by simp⟩
    simp [MemAct.ofEvent, MemAct.touch?] at hb
  · simp only at h1 h2 h5
    subst h2
    rcases h1 with rfl | ⟨a, rfl, rfl⟩
    · have e1 : MemAct.ofEvent ⟨.obj b, wr, false⟩ = .access ⟨.obj b, wr, false⟩ := by cases wr <;> rfl
      rw [e1]
      refine ⟨fun x hx => ?_, h3, by simp, by simp, by simp⟩
      simp only [MemAct.touch?, Option.some.injEq] at hx
      subst hx
      exact ⟨rfl, h4, h5⟩
    · have e1 : MemAct.ofEvent ⟨.cell a, wr, false⟩ = .access ⟨.cell a, wr, false⟩ := by cases wr <;> rfl
      rw [e1]
      refine ⟨fun x hx => ?_, h3, by simp, by simp, by simp⟩
      simp only [MemAct.touch?, Option.some.injEq] at hx
      subst hx
      exact ⟨rfl, h4.imp .inl id, fun hw => (h5 hw).imp .inl id⟩
/-- What it may touch behind a step of its own. -/
def Gh.grow (q : Gh) (w w' : World) : Gh := ⟨Eng.grow q.O w w', Eng.grow q.W w w', q.X⟩
theorem grow_ol {q : Gh} {w w' : World} {l : Loc} (h : (q.grow w w').ol l) : q.ol l ∨ (fresh w.heap.size l ∧ l.low w'.heap.size) := by
  cases l with
  | cell a =>
    rcases h with (h | ⟨h1, h2⟩) | h
    · exact .inl (.inl h)
    · exact .inr ⟨h1, h2⟩
    · exact .inl (.inr h)
  | obj b =>
    rcases h with h | ⟨h1, h2⟩
    · exact .inl h
    · exact .inr ⟨h1, h2⟩
  | _ => exact h.elim
theorem grow_wl {q : Gh} {w w' : World} {l : Loc} (h : (q.grow w w').wl l) : q.wl l ∨ (fresh w.heap.size l ∧ l.low w'.heap.size) := by
  cases l with
  | cell a =>
    rcases h with (h | ⟨h1, h2⟩) | h
    · exact .inl (.inl h)
    · exact .inr ⟨h1, h2⟩
    · exact .inl (.inr h)
  | obj b =>
    rcases h with h | ⟨h1, h2⟩
    · exact .inl h
    · exact .inr ⟨h1, h2⟩
  | _ => exact h.elim
theorem ol_of_fresh {q : Gh} {w w' : World} {l : Loc} (h : fresh w.heap.size l) (h2 : l.low w'.heap.size) : (q.grow w w').ol l := by
  cases l with
  | cell a => exact .inl (.inr ⟨h, h2⟩)
  | obj b => exact .inr ⟨h, h2⟩
  | _ => exact h
theorem ol_grow {q : Gh} {w w' : World} {l : Loc} (h : q.ol l) : (q.grow w w').ol l := by
  cases l with
  | cell a => exact h.imp .inl id
  | obj b => exact .inl h
  | _ => exact h.elim
/-- A plain step of goroutine x's. -/
theorem TR.step {Sh : Loc → Prop} {Lv : Nat → Prop} {Q : Nat → Gh} {w w' : World} {t : Trace} (h : TR Sh Lv Q w.heap.size t) {x : Nat} (hx : Lv x) {es : Array Event} (hg : Guar (Q x).O (Q x).W w w' es) (fn : FuncId) (pos : String) :
    TR Sh Lv (upd Q x ((Q x).grow w w')) w'.heap.size (t ++ MemOp.ofEvents x fn pos es) := by
  refine h.plain hx (fun op hop => ?_) (fun op hop => ?_) hg.size (fun l hl => (grow_wl hl).imp id And.left) (fun l hl => (grow_ol hl).imp id And.left) (fun l hl => ?_) (fun l hl => ?_)
  · obtain ⟨e, he, rfl⟩ := Go.Conc.mem_ofEvents hop
    exact ⟨rfl, (fine_act (X := (Q x).X) (hg.evs e he)).1⟩
  · obtain ⟨e, he, rfl⟩ := Go.Conc.mem_ofEvents hop
    exact lo_of (fine_act (X := (Q x).X) (hg.evs e he)).2.1
  · rcases grow_wl hl with h1 | ⟨h1, h2⟩
    · exact ol_grow (h.sub x hx l h1)
    · exact ol_of_fresh h1 h2
  · rcases grow_ol hl with h1 | ⟨_, h1⟩
    · exact Loc.low_mono hg.size (h.lt x hx l h1).1
    · exact h1
theorem HD.step {Sh : Loc → Prop} {Cur : Nat → Prop} {t : Trace} (h : HD Sh Cur t) {x : Nat} (hx : x = 0 ∨ Cur x) {O W : Nat → Prop} {w w' : World} {es : Array Event} (hg : Guar O W w w' es) (fn : FuncId) (pos : String) : HD Sh Cur (t ++ MemOp.ofEvents x fn pos es) := by
  refine h.app (fun op hop b hb => ?_) (fun op hop => ?_)
  · obtain ⟨e, he, rfl⟩ := Go.Conc.mem_ofEvents hop
    exact .inl ((fine_act (X := fun _ => False) (hg.evs e he)).1 b hb).1
  · obtain ⟨e, he, rfl⟩ := Go.Conc.mem_ofEvents hop
    exact hx.imp id .inl
theorem Guar.still_deaf {O W : Nat → Prop} {w w' : World} {es : Array Event} (hg : Guar O W w w' es) (d : Nat) : deafBehind d es = d :=
  deafBehind_still (fun e he => ⟨(fine_act (X := fun _ => False) (hg.evs e he)).2.2.1, (fine_act (X := fun _ => False) (hg.evs e he)).2.2.2.1⟩) d
section
variable {P : Program} {Sh : Loc → Prop} {O W : Nat → Prop} {gs : Array Goroutine} {w w' : World} {t : Trace} {q : Nat → Nat}
theorem BS.own (h : BS P Sh O W gs w t q) {g g' : Goroutine} (h0 : gs[0]? = some g) {es : Array Event} (hg : Guar O W w w' es) (fn : FuncId) (pos : String) :
    BS P Sh (grow O w w') (grow W w w') ((gs.map (woken P g g' w')).setIfInBounds 0 g') w' (t ++ MemOp.ofEvents 0 fn pos es) q := by
  have hlt : 0 < gs.size := (Array.getElem?_eq_some_iff.1 h0).1
  refine ⟨fun j x hj hx => ?_, ?_, h.hd.step (.inl rfl) hg fn pos, ?_, ?_⟩
  · have hne : 0 ≠ j := by omega
    rw [Array.getElem?_setIfInBounds_ne hne, Array.getElem?_map] at hx
    obtain ⟨y, hy, rfl⟩ := Option.map_eq_some_iff.1 hx
    have hq := h.old j y hj hy
    rw [woken_quitsD hq, Deaf_other t (by omega) _ ofEvents_g]
    exact hq
  · have := h.tr.step (x := 0) rfl hg fn pos
    refine this.weaken fun x hx => ⟨hx, ?_⟩
    subst hx
    rw [upd_same]
    refine ⟨fun l hl => ⟨hl, ?_⟩, fun l hl => hl⟩
    rcases grow_wl (q := ⟨O, W, fun _ => False⟩) hl with h1 | ⟨h1, h2⟩
    · exact ol_grow (h.tr.sub 0 rfl l h1)
    · exact ol_of_fresh (q := ⟨O, W, fun _ => False⟩) h1 h2
  · rw [Deaf_own, hg.still_deaf]
    exact h.hears
  · have : ((gs.map (woken P g g' w')).setIfInBounds 0 g').size = gs.size := by simp
    rw [this]
    exact h.nums.app fun op hop => by rw [ofEvents_g op hop]; exact hlt
theorem BS.slip (h : BS P Sh O W gs w t q) {i k : Nat} {g g' : Goroutine} {es : Array Event} (hpos : 0 < i) (hi : gs[i]? = some g) (hm : ∀ e ∈ es, Event.mute e = true) (hq' : QuitsD P k (deafBehind (Deaf t i) es) g') (fn : FuncId) (pos : String) (d : Nat) :
    BS P Sh O W ((gs.map (woken P g g' (w.at d))).setIfInBounds i g') (w.at d) (t ++ MemOp.ofEvents i fn pos es) (upd q i k) := by
  have hlt : i < gs.size := (Array.getElem?_eq_some_iff.1 hi).1
  refine ⟨fun j x hj hx => ?_, ?_, ?_, ?_, ?_⟩
  · by_cases hji : i = j
    · subst hji
      rw [Array.getElem?_setIfInBounds_self_of_lt (by simpa using hlt)] at hx
      obtain rfl := Option.some.inj hx
      rw [upd_same, Deaf_own]
      exact hq'
    · rw [Array.getElem?_setIfInBounds_ne hji, Array.getElem?_map] at hx
      obtain ⟨y, hy, rfl⟩ := Option.map_eq_some_iff.1 hx
      have hqj := h.old j y hj hy
      rw [woken_quitsD hqj, upd_ne q k (Ne.symm hji), Deaf_other t hji _ ofEvents_g]
      exact hqj
  · refine TR.shared (x := i) h.tr (fun op hop => ⟨ofEvents_g op hop, fun b hb => ?_⟩) (fun op hop => ?_)
    · obtain ⟨e, he, rfl⟩ := Go.Conc.mem_ofEvents hop
      rw [touch_mute (hm e he)] at hb
      cases hb
    · obtain ⟨e, he, rfl⟩ := Go.Conc.mem_ofEvents hop
      exact lo_of (low_mute (hm e he) _)
  · refine h.hd.app (fun op hop b hb => ?_) (fun op hop => ?_)
    · obtain ⟨e, he, rfl⟩ := Go.Conc.mem_ofEvents hop
      rw [touch_mute (hm e he)] at hb
      cases hb
    · obtain ⟨e, he, rfl⟩ := Go.Conc.mem_ofEvents hop
      exact .inr (.inr (touch_mute (hm e he)))
  · rw [Deaf_other t (g' := i) (by omega) _ ofEvents_g]
    exact h.hears
  · have : ((gs.map (woken P g g' (w.at d))).setIfInBounds i g').size = gs.size := by simp
    rw [this]
    exact h.nums.app fun op hop => by rw [ofEvents_g op hop]; exact hlt
theorem BS.at (h : BS P Sh O W gs w t q) (d : Nat) : BS P Sh O W gs (w.at d) t q := ⟨h.old, h.tr, h.hd, h.hears, h.nums⟩
theorem BS.awake (h : BS P Sh O W gs w t q) {g : Goroutine} (h0 : gs[0]? = some g) (hr : g.status = .running) : ∀ x ∈ gs, awake x := by
  intro x hx
  obtain ⟨i, hi, rfl⟩ := Array.mem_iff_getElem.1 hx
  rcases Nat.eq_zero_or_pos i with rfl | hpos
  · have : gs[0] = g := by simpa [Array.getElem?_eq_getElem hi] using h0
    rw [this]; exact awake_of (.inl hr)
  · exact awake_of ((h.old i _ hpos (Array.getElem?_eq_getElem hi)).status.elim .inl fun x => .inr (.inr x))
theorem rely_at (O : Nat → Prop) (w : World) (d : Nat) : Rely O w (w.at d) := ⟨fun _ _ => rfl, Nat.le_refl _, rfl, rfl, rfl⟩
/-- The machine's next step: goroutine 0's, or a leaver's. -/
theorem beside_pick (h : BS P Sh O W gs w t q) {g : Goroutine} (h0 : gs[0]? = some g) (hr : g.status = .running) (sl : Option (Nat × Nat)) :
    (∃ d sl', stepT P (crowd gs w sl) = runT P (crowd gs (w.at d) sl') 0) ∨
    ∃ gs' d sl' ops q', stepT P (crowd gs w sl) = (.next (crowd gs' (w.at d) sl'), ops) ∧ gs'.size = gs.size ∧ gs'[0]? = some g ∧ BS P Sh O W gs' (w.at d) (t ++ ops) q' ∧ sumTo gs.size q' < sumTo gs.size q := by
  obtain ⟨i, g1, d, sl', hi, hg, hst⟩ := crowd_pick (P := P) (w := w) (sl := sl) (h.awake h0 hr) ⟨0, g, h0, hr⟩
  rcases Nat.eq_zero_or_pos i with rfl | hpos
  · exact .inl ⟨d, sl', hst⟩
  · have hq := h.old i g1 hpos hi
    have hi0 : (i == 0) = false := by simp; omega
    have hlt : i < gs.size := (Array.getElem?_eq_some_iff.1 hi).1
    cases hqi : q i with
    | zero => rw [hqi] at hq; rw [hq.1] at hg; cases hg
    | succ k =>
      rw [hqi] at hq
      rcases hq with ⟨hf, _⟩ | ⟨_, g', es, hm, hstp, hq'⟩
      · rw [hf] at hg; cases hg
      have hrunT := runT_crowd_go (P := P) (sl := sl') (i := i) hi (by rw [hi0]; exact hstp (w.at d))
      refine .inr ⟨_, d, sl', _, upd q i k, hst.trans hrunT, by simp, ?_, (h.slip hpos hi hm hq' _ _ d), ?_⟩
      · have hne : i ≠ 0 := by omega
        rw [Array.getElem?_setIfInBounds_ne hne, Array.getElem?_map, h0]
        simp [woken_run hr]
      · have : sumTo gs.size (upd q i k) + (k + 1) = sumTo gs.size q + k := by
          have := sumTo_upd q k id hlt
          simpa [hqi] using this
        omega
/-- ████ Goroutine 0 goes its way. ████ -/
theorem beside_walk {K : KP} {g : Goroutine} (hW : Will P true (fun _ => True) K O W g w) :
    ∀ (w0 : World), Rely O w w0 → ∀ (S : Nat) (Sh : Loc → Prop) (gs : Array Goroutine) (sl : Option (Nat × Nat)) (t : Trace) (q : Nat → Nat), sumTo gs.size q ≤ S → gs[0]? = some g → BS P Sh O W gs w0 t q →
      ∃ (N : Nat) (Sh' : Loc → Prop) (gs' : Array Goroutine) (g' : Goroutine) (w' : World) (sl' : Option (Nat × Nat)) (t' : Trace) (q' : Nat → Nat) (O' W' : Nat → Prop),
        runNT P N (crowd gs w0 sl) t = (.next (crowd gs' w' sl'), t') ∧ gs'[0]? = some g' ∧ (∀ w1, Rely O' w' w1 → K O' W' g' w1) ∧ BS P Sh' O' W' gs' w' t' q' := by
  induction hW with
  | stop hk =>
    intro w0 hr0 S Sh gs sl t q _ h0 hB
    exact ⟨0, Sh, gs, _, w0, sl, t, q, _, _, rfl, h0, fun w1 h1 => hk w1 (hr0.trans h1) trivial, hB⟩
  | act hs h1 h2 ih =>
    intro w0 hr0 S
    induction S using Nat.strongRecOn generalizing w0 with
    | ind S ihS =>
      intro Sh gs sl t q hS h0 hB
      rcases beside_pick hB h0 hs sl with ⟨d, sl', hst⟩ | ⟨gs', d, sl', ops, q', hst, hsz, h0', hB', hlt⟩
      · obtain ⟨g', w2, es, hgo, hgu⟩ := h1 (w0.at d) (hr0.trans (rely_at _ _ d)) trivial
        have hrunT := runT_crowd_go (P := P) (sl := sl') (i := 0) h0 (show stepG P (0 == 0) _ (w0.at d) = _ from hgo)
        have hlt : 0 < gs.size := (Array.getElem?_eq_some_iff.1 h0).1
        obtain ⟨N, Sh', gs', g'', w'', sl'', t', q', O', W', hr, h0', hK, hB'⟩ := ih (w0.at d) g' w2 es (hr0.trans (rely_at _ _ d)) trivial hgo w2 (Rely.refl _ _) (sumTo gs.size q) Sh _ sl' _ q (by simp) (by simp [hlt]) ((hB.at d).own (g' := g') h0 hgu _ _)
        exact ⟨N + 1, Sh', gs', g'', w'', sl'', t', q', O', W', by simp only [runNT, hst, hrunT]; exact hr, h0', hK, hB'⟩
      · obtain ⟨N, Sh', gs2, g2, w2, sl2, t2, q2, O', W', hr, h02, hK, hB2⟩ := ihS (sumTo gs.size q') (by omega) (w0.at d) (hr0.trans (rely_at _ _ d)) Sh gs' sl' (t ++ ops) q' (by rw [hsz]; exact Nat.le_refl _) h0' hB'
        exact ⟨N + 1, Sh', gs2, g2, w2, sl2, t2, q2, O', W', by simp only [runNT, hst]; exact hr, h02, hK, hB2⟩
  | jump Φ _ _ h1 _ ih =>
    intro w0 hr0 S Sh gs sl t q _ h0 hB
    obtain ⟨N, Sh1, gs1, g1, w1, sl1, t1, q1, O1, W1, hr1, h01, hB1, hΦ⟩ := h1 w0 hr0 Sh gs sl t q h0 hB
    obtain ⟨N2, Sh2, gs2, g2, w2, sl2, t2, q2, O2, W2, hr2, h02, hK, hB2⟩ := ih _ _ _ _ hΦ w1 (Rely.refl _ _) _ Sh1 gs1 sl1 t1 q1 (Nat.le_refl _) h01 hB1
    exact ⟨N + N2, Sh2, gs2, g2, w2, sl2, t2, q2, O2, W2, by rw [runNT_add, hr1]; exact hr2, h02, hK, hB2⟩
/-- Goroutine 0 stands at the step that ends the run. -/
def AtEnd (P : Program) (Post : Value → World → Prop) (O W : Nat → Prop) (g : Goroutine) (w : World) : Prop :=
  g.status = .running ∧ ∃ v es, stepG P true g w = .ended (.done v) w es ∧ (∀ e ∈ es, Fine O W w w e) ∧ Post v w
theorem beside_end {Post : Value → World → Prop} {g : Goroutine} : ∀ (S : Nat) (w : World), (∀ w1, Rely O w w1 → AtEnd P Post O W g w1) → ∀ (gs : Array Goroutine) (sl : Option (Nat × Nat)) (t : Trace) (q : Nat → Nat), sumTo gs.size q ≤ S → gs[0]? = some g → BS P Sh O W gs w t q →
    ∃ N last o w' t', runNT P (N + 1) (crowd gs w sl) t = (.ended o w', t') ∧ runN P N (crowd gs w sl) = .next last ∧ step P last = .ended o w' ∧ Good P Post last o w' t' := by
  intro S
  induction S using Nat.strongRecOn with
  | ind S ihS =>
    intro w hE gs sl t q hS h0 hB
    have hr := (hE w (Rely.refl _ _)).1
    rcases beside_pick hB h0 hr sl with ⟨d, sl', hst⟩ | ⟨gs', d, sl', ops, q', hst, hsz, h0', hB', hlt⟩
    · obtain ⟨_, v, es, hend, hes, hpost⟩ := hE (w.at d) (rely_at _ _ d)
      have hrunT := runT_many_ended (P := P) (sl := sl') (i := 0) h0 (show stepG P (0 == 0) g (w.at d) = _ from hend)
      have hG : Guar O W (w.at d) (w.at d) es := ⟨fun _ _ _ => rfl, Nat.le_refl _, rfl, rfl, rfl, hes⟩
      have htr := (hB.at d).tr.step (x := 0) rfl hG g.frame.fn g.frame.place
      have hhd := hB.hd.step (x := 0) (.inl rfl) hG g.frame.fn g.frame.place
      have hs := hst.trans hrunT
      refine ⟨0, crowd gs w sl, .done v, w.at d, _, by simp [runNT, hs], rfl, by simp [step, hs], v, rfl, hpost, htr.nr, fun i x hx hne hc => hhd.over i x hx hne id hc, ⟨fun x hx => ?_, rfl⟩, fun j x hx hj => ?_⟩
      · obtain ⟨j, hj⟩ := List.mem_iff_getElem?.1 hx
        rw [List.getElem?_drop] at hj
        exact ⟨_, (hB.old (1 + j) x (by omega) (by simpa [crowd] using hj)).leaves⟩
      · have hq := hB.old j x (by omega) hx
        refine ⟨q j, ?_⟩
        have e : (t ++ MemOp.ofEvents 0 g.frame.fn g.frame.place es).deaf j (t ++ MemOp.ofEvents 0 g.frame.fn g.frame.place es).size = Deaf t j :=
          Deaf_other t (g := j) (g' := 0) (by omega) _ ofEvents_g
        rw [e]
        exact hq.hears _
    · obtain ⟨N, last, o, w', t', e1, e2, e3, e4⟩ := ihS (sumTo gs.size q') (by omega) (w.at d) (fun w1 h1 => hE w1 ((rely_at _ _ d).trans h1)) gs' sl' (t ++ ops) q' (by rw [hsz]; exact Nat.le_refl _) h0' hB'
      exact ⟨N + 1, last, o, w', t', by rw [runNT_succ_next hst]; exact e1, by rw [runN_succ_next hst]; exact e2, e3, e4⟩
end
end Go.Eng

