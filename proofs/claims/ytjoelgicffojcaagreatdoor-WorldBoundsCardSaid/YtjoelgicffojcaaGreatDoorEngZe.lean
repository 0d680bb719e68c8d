/-
  The engine, part V: goroutine 0 beside goroutines that only leave.
-/
import Derived.Test.YtjoelgicffojcaaGreatDoorEngT
import Derived.Conc.CrowdRun
set_option linter.unusedSectionVars false
set_option linter.unusedSimpArgs false
set_option linter.unusedVariables false
namespace Go.Eng
noncomputable section
open Go.Conc
open Go.ConcN (PermW fork_knows RelBy upd upd_same upd_ne sumTo sumTo_upd)
set_option linter.unusedSimpArgs false
set_option linter.unusedVariables false
theorem fine_act {O W : Nat → Prop} {X : Addr → Prop} {w w2 : World} {e : Event} (h : Fine O W w w2 e) :
  OkP ⟨O, W, X⟩ w.heap.size (MemAct.ofEvent e) ∧ (MemAct.ofEvent e).low w2.heap.size ∧ e.loc ≠ .mark .disable ∧ e.loc ≠ .mark .enable ∧ ∀ a, e.loc ≠ .mark (.release a) := by
 obtain ⟨loc, wr, sy⟩ := e
 rcases h with h | ⟨b, h1, h2, h3, h4, h5⟩
 ·simp only at h
  subst h
  refine ⟨fun b hb => ?_, trivial, by simp, by simp, by simp⟩
  simp [MemAct.ofEvent, MemAct.touch?] at hb
 ·simp only at h1 h2 h5
  subst h2
  rcases h1 with rfl | ⟨a, rfl, rfl⟩
  ·have e1 : MemAct.ofEvent ⟨.obj b, wr, false⟩ = .access ⟨.obj b, wr, false⟩ := by cases wr <;> rfl
   rw [e1]
   refine ⟨fun x hx => ?_, h3, by simp, by simp, by simp⟩
   simp only [MemAct.touch?, Option.some.injEq] at hx
   subst hx
   exact ⟨rfl, h4, h5⟩
  ·have e1 : MemAct.ofEvent ⟨.cell a, wr, false⟩ = .access ⟨.cell a, wr, false⟩ := by cases wr <;> rfl
   rw [e1]
   refine ⟨fun x hx => ?_, h3, by simp, by simp, by simp⟩
   simp only [MemAct.touch?, Option.some.injEq] at hx
   subst hx
   exact ⟨rfl, h4.imp .inl id, fun hw => (h5 hw).imp .inl id⟩
def Gh.grow (q : Gh) (w w' : World) : Gh := ⟨Eng.grow q.O w w', Eng.grow q.W w w', q.X⟩
theorem grow_ol {q : Gh} {w w' : World} {l : Loc} (h : (q.grow w w').ol l) : q.ol l ∨ (fresh w.heap.size l ∧ l.low w'.heap.size) := by
 cases l with
 | cell a =>
  rcases h with (h | ⟨h1, h2⟩) | h
  ·exact .inl (.inl h)
  ·exact .inr ⟨h1, h2⟩
  ·exact .inl (.inr h)
 | obj b =>
  rcases h with h | ⟨h1, h2⟩
  ·exact .inl h
  ·exact .inr ⟨h1, h2⟩
 | _ => exact h.elim
theorem grow_wl {q : Gh} {w w' : World} {l : Loc} (h : (q.grow w w').wl l) : q.wl l ∨ (fresh w.heap.size l ∧ l.low w'.heap.size) := by
 cases l with
 | cell a =>
  rcases h with (h | ⟨h1, h2⟩) | h
  ·exact .inl (.inl h)
  ·exact .inr ⟨h1, h2⟩
  ·exact .inl (.inr h)
 | obj b =>
  rcases h with h | ⟨h1, h2⟩
  ·exact .inl h
  ·exact .inr ⟨h1, h2⟩
 | _ => exact h.elim
theorem ol_of_fresh {q : Gh} {w w' : World} {l : Loc} (h : fresh w.heap.size l) (h2 : l.low w'.heap.size) : (q.grow w w').ol l := by
 cases l with
 | cell a => exact .inl (.inr ⟨h, h2⟩)
 | obj b => exact .inr ⟨h, h2⟩
 | _ => exact h
theorem ol_grow {q : Gh} {w w' : World} {l : Loc} (h : q.ol l) : (q.grow w w').ol l := by
 cases l with
 | cell a => exact h.imp .inl id
 | obj b => exact .inl h
 | _ => exact h.elim
theorem TR.step {Sh : Loc → Prop} {Lv : Nat → Prop} {Q : Nat → Gh} {w w' : World} {t : Trace} (h : TR Sh Lv Q w.heap.size t) {x : Nat} (hx : Lv x) {es : Array Event} (hg : Guar (Q x).O (Q x).W w w' es) (fn : FuncId) (pos : String) :
  TR Sh Lv (upd Q x ((Q x).grow w w')) w'.heap.size (t ++ MemOp.ofEvents x fn pos es) := by
 refine h.plain hx (fun op hop => ?_) (fun op hop => ?_) hg.size (fun l hl => (grow_wl hl).imp id And.left) (fun l hl => (grow_ol hl).imp id And.left) (fun l hl => ?_) (fun l hl => ?_)
 ·obtain ⟨e, he, rfl⟩ := Go.Conc.mem_ofEvents hop
  exact ⟨rfl, (fine_act (X := (Q x).X) (hg.evs e he)).1⟩
 ·obtain ⟨e, he, rfl⟩ := Go.Conc.mem_ofEvents hop
  exact lo_of (fine_act (X := (Q x).X) (hg.evs e he)).2.1
 ·rcases grow_wl hl with h1 | ⟨h1, h2⟩
  ·exact ol_grow (h.sub x hx l h1)
  ·exact ol_of_fresh h1 h2
 ·rcases grow_ol hl with h1 | ⟨_, h1⟩
  ·exact Loc.low_mono hg.size (h.lt x hx l h1).1
  ·exact h1
theorem HD.step {Sh : Loc → Prop} {Cur : Nat → Prop} {t : Trace} (h : HD Sh Cur t) {x : Nat} (hx : x = 0 ∨ Cur x) {O W : Nat → Prop} {w w' : World} {es : Array Event} (hg : Guar O W w w' es) (fn : FuncId) (pos : String) : HD Sh Cur (t ++ MemOp.ofEvents x fn pos es) := by
 refine h.app (fun op hop b hb => ?_) (fun op hop => ?_)
 ·obtain ⟨e, he, rfl⟩ := Go.Conc.mem_ofEvents hop
  exact .inl ((fine_act (X := fun _ => False) (hg.evs e he)).1 b hb).1
 ·obtain ⟨e, he, rfl⟩ := Go.Conc.mem_ofEvents hop
  exact hx.imp id .inl
theorem Guar.still_deaf {O W : Nat → Prop} {w w' : World} {es : Array Event} (hg : Guar O W w w' es) (d : Nat) : deafBehind d es = d :=
 deafBehind_still (fun e he => ⟨(fine_act (X := fun _ => False) (hg.evs e he)).2.2.1, (fine_act (X := fun _ => False) (hg.evs e he)).2.2.2.1⟩) d
section
variable {P : Program} {Sh : Loc → Prop} {O W : Nat → Prop} {gs : Array Goroutine} {w w' : World} {t : Trace} {q : Nat → Nat}
theorem BS.own (h : BS P Sh O W gs w t q) {g g' : Goroutine} (h0 : gs[0]? = some g) {es : Array Event} (hg : Guar O W w w' es) (fn : FuncId) (pos : String) :
  BS P Sh (grow O w w') (grow W w w') ((gs.map (woken P g g' w')).setIfInBounds 0 g') w' (t ++ MemOp.ofEvents 0 fn pos es) q := by
 have hlt : 0 < gs.size := (Array.getElem?_eq_some_iff.1 h0).1
 refine ⟨fun j x hj hx => ?_, ?_, h.hd.step (.inl rfl) hg fn pos, ?_, ?_⟩
 ·have hne : 0 ≠ j := by omega
  rw [Array.getElem?_setIfInBounds_ne hne, Array.getElem?_map] at hx
  obtain ⟨y, hy, rfl⟩ := Option.map_eq_some_iff.1 hx
  have hq := h.old j y hj hy
  rw [woken_quitsD hq, Deaf_other t (by omega) _ ofEvents_g]
  exact hq
 ·have := h.tr.step (x := 0) rfl hg fn pos
  refine this.weaken fun x hx => ⟨hx, ?_⟩
  subst hx
  rw [upd_same]
  refine ⟨fun l hl => ⟨hl, ?_⟩, fun l hl => hl⟩
  rcases grow_wl (q := ⟨O, W, fun _ => False⟩) hl with h1 | ⟨h1, h2⟩
  ·exact ol_grow (h.tr.sub 0 rfl l h1)
  ·exact ol_of_fresh (q := ⟨O, W, fun _ => False⟩) h1 h2
 ·rw [Deaf_own, hg.still_deaf]
  exact h.hears
 ·have : ((gs.map (woken P g g' w')).setIfInBounds 0 g').size = gs.size := by simp
  rw [this]
  exact h.nums.app fun op hop => by rw [ofEvents_g op hop]; exact hlt
theorem BS.at (h : BS P Sh O W gs w t q) (d : Nat) : BS P Sh O W gs (w.at d) t q := ⟨h.old, h.tr, h.hd, h.hears, h.nums⟩
theorem BS.awake (h : BS P Sh O W gs w t q) {g : Goroutine} (h0 : gs[0]? = some g) (hr : g.status = .running) : ∀ x ∈ gs, awake x := by
 intro x hx
 obtain ⟨i, hi, rfl⟩ := Array.mem_iff_getElem.1 hx
 rcases Nat.eq_zero_or_pos i with rfl | hpos
 ·have : gs[0] = g := by simpa [Array.getElem?_eq_getElem hi] using h0
  rw [this]; exact awake_of (.inl hr)
 ·exact awake_of ((h.old i _ hpos (Array.getElem?_eq_getElem hi)).status.elim .inl fun x => .inr (.inr x))
theorem rely_at (O : Nat → Prop) (w : World) (d : Nat) : Rely O w (w.at d) := ⟨fun _ _ => rfl, Nat.le_refl _, rfl, rfl, rfl⟩
def AtEnd (P : Program) (Post : Value → World → Prop) (O W : Nat → Prop) (g : Goroutine) (w : World) : Prop :=
 g.status = .running ∧ ∃ v es, stepG P true g w = .ended (.done v) w es ∧ (∀ e ∈ es, Fine O W w w e) ∧ Post v w
end
end
end Go.Eng
namespace Go.Eng
noncomputable section
open Go.Conc
open Go.ConcN (PermW fork_knows RelBy upd upd_same upd_ne sumTo sumTo_upd WgLive RW DWs AtR0 AtK1 AtD1 AtD2 AtD3 AtD4 WSit WD CTag Mode cnt Vc)
open Go.ConcR (KK wgBlock WgAt stA smA rd mk Payload)
set_option linter.unusedSimpArgs false
set_option linter.unusedVariables false
inductive Tk where
 | lf
 | nd (f : World → Tk)
def Tk.ofNat : Nat → Tk
 | 0 => .lf
 | n + 1 => .nd fun _ => ofNat n
inductive Tk.Lt : Tk → Tk → Prop
 | mk (f : World → Tk) (w : World) : Lt (f w) (.nd f)
theorem Tk.wf : WellFounded Tk.Lt := ⟨fun t => by
 induction t with
 | lf => exact ⟨_, fun y h => by cases h⟩
 | nd f ih => exact ⟨_, fun y h => by cases h; exact ih _⟩⟩
theorem Tk.ofNat_lt (n : Nat) : Tk.Lt (Tk.ofNat n) (Tk.ofNat (n + 1)) := .mk (fun _ => Tk.ofNat n) default
def VLt (n : Nat) (a b : Nat → Tk) : Prop := ∃ i, i < n ∧ Tk.Lt (a i) (b i) ∧ ∀ k, k < n → k ≠ i → a k = b k
theorem VLt.wf (n : Nat) : WellFounded (VLt n) := by
 induction n with
 | zero => exact ⟨fun a => ⟨_, fun b h => by obtain ⟨i, hi, _⟩ := h; omega⟩⟩
 | succ n ih =>
  have h := (Prod.lex (ha := ⟨Tk.Lt, Tk.wf⟩) (hb := ⟨VLt n, ih⟩)).wf
  refine Subrelation.wf (r := InvImage (Prod.Lex Tk.Lt (VLt n)) fun a : Nat → Tk => (a n, a)) (fun {a b} hab => ?_) (InvImage.wf _ h)
  obtain ⟨i, hi, h1, h2⟩ := hab
  show Prod.Lex Tk.Lt (VLt n) (a n, a) (b n, b)
  by_cases e : i = n
  ·subst e
   exact .left _ _ h1
  ·rw [h2 n (by omega) (fun hh => e hh.symm)]
   exact .right _ ⟨i, by omega, h1, fun k hk hne => h2 k (by omega) hne⟩
def WillT (P : Program) (main : Bool) (J : World → Prop) (K : KP) : Tk → KP
 | .lf, O, W, g, w => ∀ w1, Rely O w w1 → J w1 → K O W g w1
 | .nd f, O, W, g, w => g.status = .running ∧ ∀ w1, Rely O w w1 → J w1 → ∃ g' w2 es, stepG P main g w1 = .go g' w2 es ∧ Guar O W w1 w2 es ∧ WillT P main J K (f w1) (grow O w1 w2) (grow W w1 w2) g' w2
section
variable {P : Program} {main : Bool} {J : World → Prop} {K : KP} {O W : Nat → Prop} {g : Goroutine} {w w1 : World} {T : Tk}
theorem Will.tree (hno : main = true → ¬ ∀ w, J w) (h : Will P main J K O W g w) : ∃ T, WillT P main J K T O W g w := by
 induction h with
 | stop h => exact ⟨.lf, h⟩
 | jump Φ hm hj _ _ _ => exact absurd hj (hno hm)
 | @act O W g w hs h1 h2 ih =>
  have : ∀ w1, ∃ T, Rely O w w1 → J w1 → ∃ g' w2 es, stepG P main g w1 = .go g' w2 es ∧ Guar O W w1 w2 es ∧ WillT P main J K T (grow O w1 w2) (grow W w1 w2) g' w2 := by
   intro w1
   by_cases hr : Rely O w w1 ∧ J w1
   ·obtain ⟨g', w2, es, hst, hg⟩ := h1 w1 hr.1 hr.2
    obtain ⟨T, hT⟩ := ih w1 g' w2 es hr.1 hr.2 hst
    exact ⟨T, fun _ _ => ⟨g', w2, es, hst, hg, hT⟩⟩
   ·exact ⟨.lf, fun a b => absurd ⟨a, b⟩ hr⟩
  exact ⟨.nd fun w1 => (this w1).choose, hs, fun w1 => (this w1).choose_spec⟩
theorem WillT.rely (h : WillT P main J K T O W g w) (hr : Rely O w w1) : WillT P main J K T O W g w1 := by
 cases T with
 | lf => exact fun w2 h2 => h w2 (hr.trans h2)
 | nd f => exact ⟨h.1, fun w2 h2 => h.2 w2 (hr.trans h2)⟩
theorem WillT.status (hK : ∀ O W g w, K O W g w → g.status = .running) (h : WillT P main J K T O W g w) (hj : J w) : g.status = .running := by
 cases T with
 | lf => exact hK _ _ _ _ (h w (Rely.refl _ _) hj)
 | nd f => exact h.1
end
section
variable [Payload]
variable (P : Program) (ty : TypeId) (Wg : Nat) (J2 : World → Prop)
def JJ (w : World) : Prop := WgLive ty Wg w ∧ J2 w
abbrev MM (K : KP) : KP := Will P true (JJ ty Wg J2) K
abbrev NN (K : KP) : KP := Will P false (JJ ty Wg J2) K
variable {P ty Wg J2} in
theorem MM.tree {K : KP} {O W : Nat → Prop} {g : Goroutine} {w : World} (h : MM P ty Wg J2 K O W g w) : ∃ T, WillT P true (JJ ty Wg J2) K T O W g w :=
 Will.tree (fun _ hj => by
  obtain ⟨⟨st, sm, hw⟩, _⟩ := hj { (default : World) with heap := #[] }
  simp [WgAt] at hw) h
variable {P ty Wg J2} in
theorem NN.tree {K : KP} {O W : Nat → Prop} {g : Goroutine} {w : World} (h : NN P ty Wg J2 K O W g w) : ∃ T, WillT P false (JJ ty Wg J2) K T O W g w := Will.tree (fun h => by cases h) h
section
variable (X : Nat → Addr → Prop) (Don : Nat → Nat → World → Prop)
abbrev Tail (c : Nat) (v : Value) (s m d : Nat) (g : Goroutine) (w : World) : Prop := WSit P ty Wg c 1 (fun _ _ => False) (fun _ _ => False) 0 1 v s m d g w
structure XGuar (S2 : Nat → Prop) (J2 : World → Prop) (X : Addr → Prop) (w w2 : World) (es : Array Event) : Prop where
 keep : ∀ b, ¬ S2 b → w2.heap[b]? = w.heap[b]?
 cell : ∀ a, ¬ X a → w2.cell? a = w.cell? a
 size : w2.heap.size = w.heap.size
 os : w2.os = w.os
 tape : w2.tape = w.tape
 output : w2.output = w.output
 j2 : J2 w2
 evs : ∀ e ∈ es, ∃ a, e.loc = .cell a ∧ X a ∧ e.sync = false
def WkK (S2 : Nat → Prop) (i : Nat) : Nat → KP
 | 0 => fun O W g w => ∃ c, W c ∧ ∃ v m, Tail P ty Wg c v 7 m 0 g w
 | k + 1 => fun O W g w => g.status = .running ∧ ∃ g' w2 es, stepG P false g w = .go g' w2 es ∧ XGuar S2 J2 (X i) w w2 es ∧ (Don i k w2 ∧ ∀ k', k < k' → Don i k' w → Don i k' w2) ∧ NN P ty Wg J2 (WkK S2 i k) O W g' w2
end
section
variable (n : Nat) (KE Anch : KP)
def nAcq : KP := fun O W g w => g.status = .running ∧ ∃ g', stepG P true g w = .go g' w #[mk (.acquire (stA Wg))] ∧ KE O W g' w
def nKe : KP := fun O W g w => g.status = .running ∧ ∃ g', stepG P true g w = .go g' w #[mk .enable] ∧ MM P ty Wg J2 (nAcq P Wg KE) O W g' w
def nW4 : KP := fun O W g w => g.status = .running ∧ (WgAt ty Wg w 0 0 → ∃ g', stepG P true g w = .go g' w #[rd (stA Wg)] ∧ MM P ty Wg J2 (nKe P ty Wg J2 KE) O W g' w)
def nW3 : KP := fun O W g w => g.status = .running ∧ g.offers = none ∧
 ((∃ st, WgAt ty Wg w st 0) → stepG P true g w = .go { g with status := .blocked } w #[]) ∧
 (WgAt ty Wg w 0 1 → ∃ g', stepG P true g w = .go g' (w.setCell (smA Wg) (.int .u32 0)) (semEvents (smA Wg)) ∧ MM P ty Wg J2 (nW4 P ty Wg J2 KE) O W g' (w.setCell (smA Wg) (.int .u32 0)))
def nWs : KP := fun O W g w => g.status = .running ∧ ∃ g', stepG P true g w = .go g' w #[mk (.write (smA Wg))] ∧ MM P ty Wg J2 (nW3 P ty Wg J2 KE) O W g' w
def nW2 (vs : Nat) : KP := fun O W g w => g.status = .running ∧ ∀ v : Nat, v ≤ n → WgAt ty Wg w (v * KK) 0 →
 (v = vs → ∃ g', stepG P true g w = .go g' (w.setCell (stA Wg) (.int .u64 (v * KK + 1))) #[rd (stA Wg), ConcR.wr (stA Wg)] ∧ MM P ty Wg J2 (nWs P ty Wg J2 KE) O W g' (w.setCell (stA Wg) (.int .u64 (v * KK + 1)))) ∧
 (v ≠ vs → ∃ g', stepG P true g w = .go g' w #[rd (stA Wg)] ∧ MM P ty Wg J2 Anch O W g' w)
def nW1 : KP := fun O W g w => g.status = .running ∧ ∀ v : Nat, v ≤ n → WgAt ty Wg w (v * KK) 0 → ∃ g', stepG P true g w = .go g' w #[rd (stA Wg)] ∧
 (v = 0 → MM P ty Wg J2 (nKe P ty Wg J2 KE) O W g' w) ∧ (v ≠ 0 → MM P ty Wg J2 (nW2 P ty Wg J2 n KE Anch v) O W g' w)
def nKd : KP := fun O W g w => g.status = .running ∧ ∃ g', stepG P true g w = .go g' w #[mk .disable] ∧ MM P ty Wg J2 Anch O W g' w
section
variable (X : Nat → Addr → Prop) (Don : Nat → Nat → World → Prop) (S2 : Nat → Prop)
def nGo (j : Nat) (Next : KP) : KP := fun O W g w => g.status = .running ∧ ∃ g' child, stepG P true g w = .spawn g' child w #[] ∧ ∃ O0 W0 O1 W1 : Nat → Prop, ∃ k : Nat, k ≤ 900 ∧
 (∀ b, W0 b → W b ∧ O0 b ∧ ¬ O1 b) ∧ (∀ b, O0 b → O b ∧ ¬ W1 b) ∧ (∀ b, W1 b → W b ∧ O1 b) ∧ (∀ b, O1 b → O b) ∧
 (∀ k', k ≤ k' → Don j k' w) ∧ NN P ty Wg J2 (WkK P ty Wg J2 X Don S2 j k) O1 W1 child w ∧ Next O0 W0 g' w
def nKeS (j : Nat) (Next : KP) : KP := fun O W g w => g.status = .running ∧ ∃ g', stepG P true g w = .go g' w #[mk .enable] ∧ MM P ty Wg J2 (nGo P ty Wg J2 X Don S2 j Next) O W g' w
def nRs (j : Nat) (Next : KP) : KP := fun O W g w => g.status = .running ∧ ∃ g', stepG P true g w = .go g' w #[mk (.read (smA Wg))] ∧ MM P ty Wg J2 (nKeS P ty Wg J2 X Don S2 j Next) O W g' w
def nA1 (j : Nat) (Next : KP) : KP := fun O W g w => g.status = .running ∧ ∀ v : Nat, v ≤ j → WgAt ty Wg w (v * KK) 0 →
 ∃ g', stepG P true g w = .go g' (w.setCell (stA Wg) (.int .u64 ((v + 1) * KK))) #[rd (stA Wg), ConcR.wr (stA Wg)] ∧
  (v = 0 → MM P ty Wg J2 (nRs P ty Wg J2 X Don S2 j Next) O W g' (w.setCell (stA Wg) (.int .u64 ((v + 1) * KK)))) ∧
  (v ≠ 0 → MM P ty Wg J2 (nKeS P ty Wg J2 X Don S2 j Next) O W g' (w.setCell (stA Wg) (.int .u64 ((v + 1) * KK))))
def nKdS (j : Nat) (Next : KP) : KP := fun O W g w => g.status = .running ∧ ∃ g', stepG P true g w = .go g' w #[mk .disable] ∧ MM P ty Wg J2 (nA1 P ty Wg J2 X Don S2 j Next) O W g' w
def nSp : Nat → KP
 | 0 => MM P ty Wg J2 (nKd P ty Wg J2 Anch)
 | r + 1 => MM P ty Wg J2 (nKdS P ty Wg J2 X Don S2 (n - (r + 1)) (nSp r))
end
end
end
inductive MTag where
 | sp (r s : Nat) | kd | anch | w1 | w2 (vs : Nat) | ws | w3 | blk | w4 | ke | acq
def MTag.c : MTag → CTag
 | .sp r s => .sp r s
 | .kd => .kd
 | .anch => .anch
 | .w1 => .w1
 | .w2 vs => .w2 vs
 | .ws => .w3
 | .w3 => .w3
 | .blk => .blk
 | .w4 => .w4
 | .ke => .ke
 | .acq => .acq
def MTag.phi (n v : Nat) : MTag → Nat
 | .sp r s => 8 * n + 1016 + 1000 * r + s
 | .kd => 8 * n + 8
 | .anch => 8 * v + 7
 | .w1 => 8 * v + 6
 | .w2 vs => 8 * vs + 5
 | .ws => 6
 | .w3 => 5
 | .blk => 5
 | .w4 => 4
 | .ke => 3
 | .acq => 2
end
end Go.Eng
namespace Go.Eng
noncomputable section
open Go.Conc
open Go.ConcN (PermW fork_knows RelBy upd upd_same upd_ne sumTo sumTo_upd sumTo_upd_out sumTo_congr WgLive ShN RW DWs AtR0 AtK1 AtD1 AtD2 AtD3 AtD4 WSit WD CTag Mode cnt Vc Vc_upd Vc_le AllQuit OpenSt get_map_set get_map_set_same)
open Go.ConcR (KK wgBlock WgAt stA smA rd mk Payload)
set_option linter.unusedSimpArgs false
set_option linter.unusedVariables false
section
variable [Payload]
variable (P : Program) (ty : TypeId) (Wg : Nat) (J2 : World → Prop) (X : Nat → Addr → Prop) (Don : Nat → Nat → World → Prop) (S2 : Nat → Prop)
inductive WkSit (i : Nat) : WD → Nat → Tk → Gh → Goroutine → World → Prop
 | work {k f : Nat} {T : Tk} {q : Gh} {g : Goroutine} {w : World} : WillT P false (JJ ty Wg J2) (WkK P ty Wg J2 X Don S2 i k) T q.O q.W g w → WkSit i ⟨7, f, 0⟩ (8 + k) T q g w
 | tail {c : Nat} {v : Value} {s m d : Nat} {q : Gh} {g : Goroutine} {w : World} : Tail P ty Wg c v s m d g w → q.O c → q.W c → WkSit i ⟨s, m, d⟩ s (Tk.ofNat m) q g w
variable (n : Nat) (KE Anch : KP)
inductive MSit : MTag → Nat → Tk → Nat → (Nat → Prop) → (Nat → Prop) → Goroutine → World → Prop
 | skd {r : Nat} {T : Tk} {O W : Nat → Prop} {g : Goroutine} {w : World} : r < n → WillT P true (JJ ty Wg J2) (nKdS P ty Wg J2 X Don S2 (n - (r + 1)) (nSp P ty Wg J2 n Anch X Don S2 r)) T O W g w → MSit (.sp r 5) (n - (r + 1)) T 0 O W g w
 | sa1 {r : Nat} {T : Tk} {O W : Nat → Prop} {g : Goroutine} {w : World} : r < n → WillT P true (JJ ty Wg J2) (nA1 P ty Wg J2 X Don S2 (n - (r + 1)) (nSp P ty Wg J2 n Anch X Don S2 r)) T O W g w → MSit (.sp r 4) (n - (r + 1)) T 1 O W g w
 | srs {r : Nat} {T : Tk} {O W : Nat → Prop} {g : Goroutine} {w : World} : r < n → WillT P true (JJ ty Wg J2) (nRs P ty Wg J2 X Don S2 (n - (r + 1)) (nSp P ty Wg J2 n Anch X Don S2 r)) T O W g w → MSit (.sp r 3) (n - (r + 1)) T 1 O W g w
 | ske {r : Nat} {T : Tk} {O W : Nat → Prop} {g : Goroutine} {w : World} : r < n → WillT P true (JJ ty Wg J2) (nKeS P ty Wg J2 X Don S2 (n - (r + 1)) (nSp P ty Wg J2 n Anch X Don S2 r)) T O W g w → MSit (.sp r 2) (n - (r + 1)) T 1 O W g w
 | sgo {r : Nat} {T : Tk} {O W : Nat → Prop} {g : Goroutine} {w : World} : r < n → WillT P true (JJ ty Wg J2) (nGo P ty Wg J2 X Don S2 (n - (r + 1)) (nSp P ty Wg J2 n Anch X Don S2 r)) T O W g w → MSit (.sp r 1) (n - (r + 1)) T 0 O W g w
 | kd {T : Tk} {O W : Nat → Prop} {g : Goroutine} {w : World} : WillT P true (JJ ty Wg J2) (nKd P ty Wg J2 Anch) T O W g w → MSit .kd n T 0 O W g w
 | anch {T : Tk} {O W : Nat → Prop} {g : Goroutine} {w : World} : WillT P true (JJ ty Wg J2) Anch T O W g w → MSit .anch n T 1 O W g w
 | w1 {T : Tk} {O W : Nat → Prop} {g : Goroutine} {w : World} : WillT P true (JJ ty Wg J2) (nW1 P ty Wg J2 n KE Anch) T O W g w → MSit .w1 n T 1 O W g w
 | w2 {vs : Nat} {T : Tk} {O W : Nat → Prop} {g : Goroutine} {w : World} : WillT P true (JJ ty Wg J2) (nW2 P ty Wg J2 n KE Anch vs) T O W g w → MSit (.w2 vs) n T 1 O W g w
 | ws {T : Tk} {O W : Nat → Prop} {g : Goroutine} {w : World} : WillT P true (JJ ty Wg J2) (nWs P ty Wg J2 KE) T O W g w → MSit .ws n T 1 O W g w
 | w3 {T : Tk} {O W : Nat → Prop} {g : Goroutine} {w : World} : WillT P true (JJ ty Wg J2) (nW3 P ty Wg J2 KE) T O W g w → MSit .w3 n T 1 O W g w
 | blk {O W : Nat → Prop} {g : Goroutine} {w : World} : (∀ w1, Rely O w w1 → JJ ty Wg J2 w1 → nW3 P ty Wg J2 KE O W g w1) → MSit .blk n .lf 1 O W { g with status := .blocked } w
 | w4 {T : Tk} {O W : Nat → Prop} {g : Goroutine} {w : World} : WillT P true (JJ ty Wg J2) (nW4 P ty Wg J2 KE) T O W g w → MSit .w4 n T 1 O W g w
 | ke {T : Tk} {O W : Nat → Prop} {g : Goroutine} {w : World} : WillT P true (JJ ty Wg J2) (nKe P ty Wg J2 KE) T O W g w → MSit .ke n T 1 O W g w
 | acq {T : Tk} {O W : Nat → Prop} {g : Goroutine} {w : World} : WillT P true (JJ ty Wg J2) (nAcq P Wg KE) T O W g w → MSit .acq n T 0 O W g w
end
def MTag.minor : MTag → Nat
 | .w3 => 1
 | _ => 0
section
variable [Payload]
variable {P : Program} {ty : TypeId} {Wg : Nat} {J2 : World → Prop} {X : Nat → Addr → Prop} {Don : Nat → Nat → World → Prop} {S2 : Nat → Prop} {n : Nat} {KE Anch : KP}
theorem rw_of {O : Nat → Prop} {w w1 : World} {c : Nat} (hr : Rely O w w1) (hc : O c) (hj : JJ ty Wg J2 w1) : RW ty Wg c 1 0 0 w w1 :=
 ⟨fun b hb => by omega, fun _ => hj.1, fun ⟨cs, h1, h2⟩ => ⟨cs, by rw [hr.keep c hc]; exact h1, h2⟩, Go.ConcN.cell_of_block (hr.keep c hc) 0⟩
theorem WkSit.rely {i : Nat} {d : WD} {u : Nat} {T : Tk} {q : Gh} {g : Goroutine} {w w1 : World} (h : WkSit P ty Wg J2 X Don S2 i d u T q g w) (hr : Rely q.O w w1) (hj : JJ ty Wg J2 w1) : WkSit P ty Wg J2 X Don S2 i d u T q g w1 := by
 cases h with
 | work h => exact .work (h.rely hr)
 | tail h hO hW => exact .tail (Go.ConcN.WSit.rely h (rw_of hr hO hj)) hO hW
theorem wkK_running {i k : Nat} {O W : Nat → Prop} {g : Goroutine} {w : World} (h : WkK P ty Wg J2 X Don S2 i k O W g w) : g.status = .running := by
 cases k with
 | zero =>
  obtain ⟨c, _, v, m, h⟩ := h
  exact Go.ConcN.WSit.running_of h (by omega)
 | succ k => exact h.1
theorem WkSit.status {i : Nat} {d : WD} {u : Nat} {T : Tk} {q : Gh} {g : Goroutine} {w : World} (h : WkSit P ty Wg J2 X Don S2 i d u T q g w) (hj : JJ ty Wg J2 w) : g.status = .running ∨ (g.status = .finished ∧ d.stage = 1) := by
 cases h with
 | work h => exact .inl (h.status (fun _ _ _ _ => wkK_running) hj)
 | @tail c v s m dd _ _ _ h _ _ =>
  by_cases hs : u = 1
  ·exact (Go.ConcN.WSit.status h).imp id fun x => ⟨x, hs⟩
  ·exact .inl (Go.ConcN.WSit.running_of h hs)
theorem WkSit.woken {i : Nat} {d : WD} {u : Nat} {T : Tk} {q : Gh} {g : Goroutine} {w : World} (h : WkSit P ty Wg J2 X Don S2 i d u T q g w) (hj : JJ ty Wg J2 w) (a a' : Goroutine) (w' : World) : woken P a a' w' g = g := by
 unfold Go.Conc.woken
 split
 ·exact again_running _ ((h.status hj).imp id And.left)
 ·rfl
theorem MSit.rely {mt : MTag} {j : Nat} {T : Tk} {d : Nat} {O W : Nat → Prop} {g : Goroutine} {w w1 : World} (h : MSit P ty Wg J2 X Don S2 n KE Anch mt j T d O W g w) (hr : Rely O w w1) : MSit P ty Wg J2 X Don S2 n KE Anch mt j T d O W g w1 := by
 cases h with
 | skd hr' h => exact .skd hr' (h.rely hr)
 | sa1 hr' h => exact .sa1 hr' (h.rely hr)
 | srs hr' h => exact .srs hr' (h.rely hr)
 | ske hr' h => exact .ske hr' (h.rely hr)
 | sgo hr' h => exact .sgo hr' (h.rely hr)
 | kd h => exact .kd (h.rely hr)
 | anch h => exact .anch (h.rely hr)
 | w1 h => exact .w1 (h.rely hr)
 | w2 h => exact .w2 (h.rely hr)
 | ws h => exact .ws (h.rely hr)
 | w3 h => exact .w3 (h.rely hr)
 | blk h => exact .blk fun w2 h2 => h w2 (hr.trans h2)
 | w4 h => exact .w4 (h.rely hr)
 | ke h => exact .ke (h.rely hr)
 | acq h => exact .acq (h.rely hr)
theorem MSit.status (hAr : ∀ O W g w, Anch O W g w → g.status = .running) {mt : MTag} {j : Nat} {T : Tk} {d : Nat} {O W : Nat → Prop} {g : Goroutine} {w : World} (h : MSit P ty Wg J2 X Don S2 n KE Anch mt j T d O W g w) (hj : JJ ty Wg J2 w) :
  g.status = .running ∨ (g.status = .blocked ∧ mt = .blk) := by
 cases h with
 | skd _ h => exact .inl (h.status (fun _ _ _ _ x => x.1) hj)
 | sa1 _ h => exact .inl (h.status (fun _ _ _ _ x => x.1) hj)
 | srs _ h => exact .inl (h.status (fun _ _ _ _ x => x.1) hj)
 | ske _ h => exact .inl (h.status (fun _ _ _ _ x => x.1) hj)
 | sgo _ h => exact .inl (h.status (fun _ _ _ _ x => x.1) hj)
 | kd h => exact .inl (h.status (fun _ _ _ _ x => x.1) hj)
 | anch h => exact .inl (h.status hAr hj)
 | w1 h => exact .inl (h.status (fun _ _ _ _ x => x.1) hj)
 | w2 h => exact .inl (h.status (fun _ _ _ _ x => x.1) hj)
 | ws h => exact .inl (h.status (fun _ _ _ _ x => x.1) hj)
 | w3 h => exact .inl (h.status (fun _ _ _ _ x => x.1) hj)
 | blk h => exact .inr ⟨rfl, rfl⟩
 | w4 h => exact .inl (h.status (fun _ _ _ _ x => x.1) hj)
 | ke h => exact .inl (h.status (fun _ _ _ _ x => x.1) hj)
 | acq h => exact .inl (h.status (fun _ _ _ _ x => x.1) hj)
theorem MSit.wokenBy (hAr : ∀ O W g w, Anch O W g w → g.status = .running) {mt : MTag} {j : Nat} {T : Tk} {d : Nat} {O W : Nat → Prop} {a : Goroutine} {w w' : World} (h : MSit P ty Wg J2 X Don S2 n KE Anch mt j T d O W a w) (hr : Rely O w w') (hj : JJ ty Wg J2 w) (g g' : Goroutine) :
  ∃ mt' T', MSit P ty Wg J2 X Don S2 n KE Anch mt' j T' d O W (woken P g g' w' a) w' ∧ (mt' = mt ∨ (mt = .blk ∧ mt' = .w3)) ∧ (mayWake P g = true → g'.status = .running → mt' ≠ .blk) := by
 by_cases hb : mt = .blk
 ·subst hb
  cases h with
  | @blk _ _ g0 _ h =>
   by_cases hw : (mayWake P g && g'.status != .blocked && g'.status != .waiting) = true
   ·refine ⟨.w3, .lf, ?_, .inr ⟨rfl, rfl⟩, fun _ _ => by simp⟩
    have e : woken P g g' w' { g0 with status := .blocked } = g0 := by
     have hr0 := (h w (Rely.refl _ _) hj).1
     have ho := (h w (Rely.refl _ _) hj).2.1
     unfold Go.Conc.woken
     rw [if_pos hw]
     obtain ⟨fr, cs, stt, dy, off⟩ := g0
     simp only at hr0 ho
     subst hr0
     subst ho
     simp [Goroutine.again]
    rw [e]
    exact .w3 fun w1 h1 j1 => h w1 (hr.trans h1) j1
   ·refine ⟨.blk, .lf, ?_, .inl rfl, fun h1 h2 => ?_⟩
    ·unfold Go.Conc.woken
     rw [if_neg hw]
     exact .blk fun w1 h1 => h w1 (hr.trans h1)
    ·exfalso
     apply hw
     simp [h1, h2]
 ·refine ⟨mt, T, ?_, .inl rfl, fun _ _ => hb⟩
  have hs := (h.status hAr hj).resolve_right fun x => hb x.2
  rw [woken_run hs]
  exact h.rely hr
end
end
end Go.Eng
namespace Go.Eng
noncomputable section
open Go.Conc
open Go.ConcN (PermW fork_knows RelBy upd upd_same upd_ne sumTo sumTo_upd sumTo_upd_out sumTo_congr le_sumTo WgLive ShN RW DWs AtR0 AtK1 AtD1 AtD2 AtD3 AtD4 WSit WD CTag cnt Vc Vc_upd Vc_le AllQuit OpenSt get_map_set get_map_set_same isW3 isOpen isFin pend)
open Go.ConcR (KK wgBlock WgAt stA smA rd mk Payload Bk ofEvent_loc_mark ofEvent_mk ofEvent_cell)
set_option linter.unusedSimpArgs false
set_option linter.unusedVariables false
set_option linter.unusedSectionVars false
def Lv (s0 j : Nat) (x : Nat) : Prop := x = 0 ∨ (s0 ≤ x ∧ x < s0 + j)
section
variable [Payload]
variable (P : Program) (ty : TypeId) (Wg : Nat) (J2 : World → Prop) (X : Nat → Addr → Prop) (Don : Nat → Nat → World → Prop) (S2 : Nat → Prop) (n : Nat) (KE Anch : KP) (Sh : Loc → Prop) (s0 p0 : Nat)
structure CM (j : Nat) (gs : Array Goroutine) (w : World) (t : Trace) (Q : Nat → Gh) (D : Nat → WD) (u : Nat → Nat) (V : Nat → Tk) (q : Nat → Nat) (d0 : Nat) : Prop where
 size : gs.size = s0 + j
 wk : ∀ i, i < j → ∃ g, gs[s0 + i]? = some g ∧ WkSit P ty Wg J2 X Don S2 i (D i) (u i) (V i) (Q (s0 + i)) g w
 old : ∀ i g, 0 < i → i < s0 → gs[i]? = some g → QuitsD P (q i) (Deaf t i) g
 tr : TR Sh (Lv s0 j) Q w.heap.size t
 hd : HD Sh (fun g => s0 ≤ g) t
 norel : ∀ k, p0 ≤ k → t.act? k ≠ some (.mark (.release (stA Wg)))
 begun : p0 ≤ t.size
 deaf0 : Deaf t 0 = d0
 deafW : ∀ i, i < j → Deaf t (s0 + i) = (D i).deaf
 nums : Numbered gs.size t
 rel : ∀ i, i < j → (D i).stage ≤ 6 → ∃ r, p0 ≤ r ∧ RelBy (stA Wg) t (s0 + i) r
 don : ∀ i, i < j → ∀ k, u i ≤ 8 + k → Don i k w
 xs : ∀ i, i < j → (Q (s0 + i)).X = X i
 x0 : (Q 0).X = fun a => ∃ i, j ≤ i ∧ i < n ∧ X i a
 s2 : ∀ x, Lv s0 j x → ∀ b, (Q x).O b → ¬ S2 b
 s2l : ∀ b, S2 b → b < w.heap.size
 j2 : J2 w
structure Fix : Prop where
 pos : 0 < s0
 sh : ∀ l, ShN Wg l → Sh l
 j2 : ∀ w w1 : World, (∀ b, S2 b → w1.heap[b]? = w.heap[b]?) → J2 w → J2 w1
 xs : ∀ i a, X i a → S2 a.block
 xd : ∀ i k a, X i a → X k a → i = k
 wg : ¬ S2 Wg
 don : ∀ i k w w1, (∀ a, X i a → w1.cell? a = w.cell? a) → Don i k w → Don i k w1
 ar : ∀ O W g w, Anch O W g w → g.status = .running
 an : ∀ O W g w, Anch O W g w → g.status = .running → MM P ty Wg J2 (nW1 P ty Wg J2 n KE Anch) O W g w
 lim : n < 2147483647
abbrev Mu := Nat × (Nat → Tk) × Nat × Tk
def MuLt : Mu → Mu → Prop := Prod.Lex (· < ·) (Prod.Lex (VLt n) (Prod.Lex (· < ·) Tk.Lt))
theorem MuLt.wf : WellFounded (MuLt n) := by
 have h1 := (Prod.lex (ha := Nat.lt_wfRel) (hb := ⟨Tk.Lt, Tk.wf⟩)).wf
 have h2 := (Prod.lex (ha := ⟨VLt n, VLt.wf n⟩) (hb := ⟨_, h1⟩)).wf
 exact (Prod.lex (ha := Nat.lt_wfRel) (hb := ⟨_, h2⟩)).wf
def GInv (μ : Mu) (m : Machine) (t : Trace) : Prop :=
 ∃ (gs : Array Goroutine) (w : World) (sl : Option (Nat × Nat)) (j : Nat) (D : Nat → WD) (u : Nat → Nat) (V : Nat → Tk) (q : Nat → Nat) (Q : Nat → Gh) (mt : MTag) (T0 : Tk) (d0 : Nat) (a : Goroutine) (st sm : Int),
  m = crowd gs w sl ∧ gs[0]? = some a ∧ j ≤ n ∧ MSit P ty Wg J2 X Don S2 n KE Anch mt j T0 d0 (Q 0).O (Q 0).W a w ∧ CM P ty Wg J2 X Don S2 n Sh s0 p0 j gs w t Q D u V q d0 ∧ WgAt ty Wg w st sm ∧ ConcN.Mode j D mt.c st sm ∧
  μ = (mt.phi n (Vc j D) + sumTo j u + sumTo s0 q, V, mt.minor, T0)
end
section
variable [Payload]
variable {P : Program} {ty : TypeId} {Wg : Nat} {J2 : World → Prop} {X : Nat → Addr → Prop} {Don : Nat → Nat → World → Prop} {S2 : Nat → Prop} {n : Nat} {KE Anch : KP} {Sh : Loc → Prop} {s0 p0 : Nat}
variable {j : Nat} {gs : Array Goroutine} {w w' : World} {t : Trace} {Q : Nat → Gh} {D : Nat → WD} {u : Nat → Nat} {V : Nat → Tk} {q : Nat → Nat} {d0 : Nat} {sl : Option (Nat × Nat)} {mt : MTag} {T0 : Tk} {a : Goroutine} {st sm : Int}
structure Mv (Wg : Nat) (S2 : Nat → Prop) (W : Nat → Prop) (Xs : Addr → Prop) (w w' : World) : Prop where
 keep : ∀ b, b < w.heap.size → ¬ W b → ¬ S2 b → b ≠ Wg → w'.heap[b]? = w.heap[b]?
 cell : ∀ a, S2 a.block → ¬ Xs a → w'.cell? a = w.cell? a
 size : w.heap.size ≤ w'.heap.size
 os : w'.os = w.os
 tape : w'.tape = w.tape
 output : w'.output = w.output
theorem CM.notWg (F : Fix P ty Wg J2 X Don S2 n KE Anch Sh s0) (h : CM P ty Wg J2 X Don S2 n Sh s0 p0 j gs w t Q D u V q d0) {x : Nat} (hx : Lv s0 j x) {b : Nat} (hb : (Q x).O b) : b ≠ Wg := by
 rintro rfl
 exact (h.tr.lt x hx (.cell ⟨b, 0, none⟩) (.inl hb)).2 (F.sh _ ⟨_, rfl, rfl⟩)
theorem CM.wo (h : CM P ty Wg J2 X Don S2 n Sh s0 p0 j gs w t Q D u V q d0) {x : Nat} (hx : Lv s0 j x) {b : Nat} (hb : (Q x).W b) : (Q x).O b := h.tr.sub x hx (.obj b) hb
theorem CM.relies (F : Fix P ty Wg J2 X Don S2 n KE Anch Sh s0) (h : CM P ty Wg J2 X Don S2 n Sh s0 p0 j gs w t Q D u V q d0) {x y : Nat} (hx : Lv s0 j x) (hy : Lv s0 j y) (hne : x ≠ y) {Xs : Addr → Prop} (m : Mv Wg S2 (Q x).W Xs w w') : Rely (Q y).O w w' := by
 refine ⟨fun b hb => m.keep b ?_ (fun hw => ?_) (h.s2 y hy b hb) (h.notWg F hy hb), m.size, m.os, m.tape, m.output⟩
 ·exact (h.tr.lt y hy (.obj b) hb).1
 ·exact h.tr.apart x y hx hy hne (.obj b) hw hb
theorem cell_far {w w' : World} {b : Nat} (h : w'.heap[b]? = w.heap[b]?) (a : Addr) (ha : a.block = b) : w'.cell? a = w.cell? a := by
 subst ha
 simp [World.cell?, h]
theorem CM.mv (F : Fix P ty Wg J2 X Don S2 n KE Anch Sh s0) (h : CM P ty Wg J2 X Don S2 n Sh s0 p0 j gs w t Q D u V q d0) {x : Nat} (hx : Lv s0 j x) {es : Array Event} (hg : Guar (Q x).O (Q x).W w w' es) : Mv Wg S2 (Q x).W (fun _ => False) w w' :=
 ⟨fun b hb hw _ _ => hg.keep b hb hw, fun a ha _ => cell_far (hg.keep a.block (h.s2l _ ha) fun hw => h.s2 x hx _ (h.wo hx hw) ha) a rfl, hg.size, hg.os, hg.tape, hg.output⟩
theorem lv0 : Lv s0 j 0 := .inl rfl
theorem lvw {i : Nat} (hi : i < j) : Lv s0 j (s0 + i) := .inr ⟨by omega, by omega⟩
theorem sumTo_drop {f : Nat → Nat} {i k : Nat} {j : Nat} (hi : i < j) (h : k < f i) : sumTo j (upd f i k) < sumTo j f := by
 have := sumTo_upd f k id hi
 simp only [id] at this
 show sumTo j (fun a => upd f i k a) < sumTo j (fun a => f a)
 omega
theorem sumTo_keep {f : Nat → Nat} {i k : Nat} {j : Nat} (hi : i < j) (h : k = f i) : sumTo j (upd f i k) = sumTo j f := by
 have := sumTo_upd f k id hi
 simp only [id] at this
 show sumTo j (fun a => upd f i k a) = sumTo j (fun a => f a)
 omega
theorem MTag.phi_mono (n : Nat) {v v' : Nat} (h : v' ≤ v) (mt : MTag) : mt.phi n v' ≤ mt.phi n v := by
 cases mt <;> simp only [MTag.phi] <;> omega
theorem MTag.phi_retag (n v : Nat) {mt mt' : MTag} (e : mt' = mt ∨ (mt = .blk ∧ mt' = .w3)) : mt'.phi n v = mt.phi n v := by
 rcases e with rfl | ⟨rfl, rfl⟩ <;> rfl
theorem workerStep (F : Fix P ty Wg J2 X Don S2 n KE Anch Sh s0) (ha : gs[0]? = some a) (hj : j ≤ n) (hcs : MSit P ty Wg J2 X Don S2 n KE Anch mt j T0 d0 (Q 0).O (Q 0).W a w) (hcom : CM P ty Wg J2 X Don S2 n Sh s0 p0 j gs w t Q D u V q d0) (hwg : WgAt ty Wg w st sm)
  {i : Nat} (hi : i < j) {g g' : Goroutine} {es : Array Event} {d' : WD} {u' : Nat} {T' : Tk} {q' : Gh} {st' sm' : Int} (hg : gs[s0 + i]? = some g) (hgo : stepG P false g w = .go g' w' es)
  (hm : Mv Wg S2 (Q (s0 + i)).W (X i) w w') (htr : TR Sh (Lv s0 j) (upd Q (s0 + i) q') w'.heap.size (t ++ MemOp.ofEvents (s0 + i) g.frame.fn g.frame.place es))
  (hhd : ∀ op ∈ MemOp.ofEvents (s0 + i) g.frame.fn g.frame.place es, ∀ b, op.act.touch? = some b → b.kind = .plain ∨ Sh b.loc)
  (hs' : WkSit P ty Wg J2 X Don S2 i d' u' T' q' g' w') (hx : q'.X = X i) (hs2 : ∀ b, q'.O b → ¬ S2 b) (hnr : ∀ e ∈ es, e.loc ≠ .mark (.release (stA Wg)))
  (hdeaf : deafBehind (D i).deaf es = d'.deaf) (hrel : d'.stage ≤ 6 → ∃ r, p0 ≤ r ∧ RelBy (stA Wg) (t ++ MemOp.ofEvents (s0 + i) g.frame.fn g.frame.place es) (s0 + i) r)
  (hdon : ∀ k, u' ≤ 8 + k → Don i k w') (hj2 : J2 w') (hwg' : WgAt ty Wg w' st' sm')
  (hmode : ∀ mt', (mt' = mt ∨ (mt = .blk ∧ mt' = .w3)) → (mayWake P g = true → g'.status = .running → mt' ≠ .blk) → ConcN.Mode j (upd D i d') mt'.c st' sm')
  (hlt : (u' < u i ∧ cnt d' ≤ cnt (D i)) ∨ (u' = u i ∧ cnt d' = cnt (D i) ∧ Tk.Lt T' (V i))) :
  ∃ m₁ ops μ', runT P (crowd gs w sl) (s0 + i) = (.next m₁, ops) ∧ MuLt n μ' (mt.phi n (Vc j D) + sumTo j u + sumTo s0 q, V, mt.minor, T0) ∧ GInv P ty Wg J2 X Don S2 n KE Anch Sh s0 p0 μ' m₁ (t ++ ops) := by
 have hjj : JJ ty Wg J2 w := ⟨⟨_, _, hwg⟩, hcom.j2⟩
 have hjj' : JJ ty Wg J2 w' := ⟨⟨_, _, hwg'⟩, hj2⟩
 have hpos := F.pos
 obtain ⟨mt', T0', hcs', htag, hwk⟩ := hcs.wokenBy F.ar (hcom.relies F (lvw hi) lv0 (by omega) hm) hjj g g'
 have hne0 : (s0 + i == 0) = false := by simp; omega
 have hrun := runT_crowd_go (P := P) (sl := sl) (i := s0 + i) hg (by rw [hne0]; exact hgo)
 have hlt' : s0 + i < gs.size := (Array.getElem?_eq_some_iff.1 hg).1
 have e1 := sumTo_upd D d' cnt hi
 have hq0 : upd Q (s0 + i) q' 0 = Q 0 := upd_ne _ _ (by omega)
 refine ⟨_, _, (mt'.phi n (Vc j (upd D i d')) + sumTo j (upd u i u') + sumTo s0 q, upd V i T', mt'.minor, T0'), hrun, ?_,
  _, w', sl, j, upd D i d', upd u i u', upd V i T', q, upd Q (s0 + i) q', mt', T0', d0, woken P g g' w' a, st', sm', rfl, ?_, hj, by rw [hq0]; exact hcs', ?_, hwg', hmode mt' htag hwk, rfl⟩
 ·rw [MTag.phi_retag n _ htag]
  rcases hlt with ⟨h1, h2⟩ | ⟨h1, h2, h3⟩
  ·refine Prod.Lex.left _ _ ?_
   have := MTag.phi_mono n (v' := Vc j (upd D i d')) (v := Vc j D) (by simp only [Vc]; omega) mt
   have := sumTo_drop (f := u) hi h1
   omega
  ·have e2 : Vc j (upd D i d') = Vc j D := by simp only [Vc]; omega
   rw [e2, sumTo_keep hi h1]
   refine Prod.Lex.right _ (Prod.Lex.left _ _ ⟨i, by omega, by rw [upd_same]; exact h3, fun k _ hk => by rw [upd_ne _ _ hk]⟩)
 ·rw [get_map_set _ _ _ _ (by omega), ha]; rfl
 ·refine ⟨by simp [hcom.size], fun k hk => ?_, fun k x hk hk2 hx' => ?_, htr, hcom.hd.app hhd (fun op hop => .inr (.inl (by rw [ofEvents_g op hop]; omega))), ?_, by rw [Array.size_append]; have := hcom.begun; omega, ?_, fun k hk => ?_, ?_, fun k hk hst => ?_, fun k hk kk hu => ?_, fun k hk => ?_, ?_, fun x hx' b hb => ?_, fun b hb => Nat.lt_of_lt_of_le (hcom.s2l b hb) hm.size, hj2⟩
  ·by_cases e : k = i
   ·subst e
    rw [upd_same, upd_same, upd_same, upd_same]
    exact ⟨g', by simp [hlt'], hs'⟩
   ·obtain ⟨y, hy, hys⟩ := hcom.wk k hk
    rw [upd_ne _ _ e, upd_ne _ _ e, upd_ne _ _ e, upd_ne _ _ (by omega)]
    refine ⟨y, ?_, hys.rely (hcom.relies F (lvw hi) (lvw hk) (by omega) hm) hjj'⟩
    rw [get_map_set _ _ _ _ (by omega), hy, Option.map_some, hys.woken hjj]
  ·rw [get_map_set _ _ _ _ (by omega)] at hx'
   obtain ⟨y, hy, rfl⟩ := Option.map_eq_some_iff.1 hx'
   have hq := hcom.old k y hk hk2 hy
   rw [woken_quitsD hq, Deaf_other t (by omega) _ ofEvents_g]
   exact hq
  ·intro k hk0 hk
   by_cases hks : k < t.size
   ·rw [act?_old hks] at hk
    exact hcom.norel k hk0 hk
   ·unfold Trace.act? at hk
    obtain ⟨op, ho, hoa⟩ := Option.map_eq_some_iff.1 hk
    rcases getElem?_append_cases ho with ⟨h1, _⟩ | ⟨_, h1⟩
    ·exact hks h1
    ·rw [Go.Conc.ofEvents_eq] at h1
     obtain ⟨e, he, rfl⟩ := Array.mem_map.1 h1
     exact hnr e he (Go.ConcR.loc_of_ofEvent hoa)
  ·rw [Deaf_other t (g' := s0 + i) (by omega) _ ofEvents_g]
   exact hcom.deaf0
  ·by_cases e : k = i
   ·subst e
    rw [upd_same, Deaf_own, hcom.deafW k hk]
    exact hdeaf
   ·rw [upd_ne _ _ e, Deaf_other t (g' := s0 + i) (by omega) _ ofEvents_g]
    exact hcom.deafW k hk
  ·have : ((gs.map (woken P g g' w')).setIfInBounds (s0 + i) g').size = gs.size := by simp
   rw [this]
   exact hcom.nums.app fun op hop => by rw [ofEvents_g op hop]; exact hlt'
  ·by_cases e : k = i
   ·subst e
    rw [upd_same] at hst
    exact hrel hst
   ·rw [upd_ne _ _ e] at hst
    obtain ⟨r, hr0, hr⟩ := hcom.rel k hk hst
    exact ⟨r, hr0, hr.appOther ofEvents_g (by omega)⟩
  ·by_cases e : k = i
   ·subst e
    rw [upd_same] at hu
    exact hdon kk hu
   ·rw [upd_ne _ _ e] at hu
    refine F.don k kk w w' (fun c hc => hm.cell c (F.xs k c hc) fun hc2 => ?_) (hcom.don k hk kk hu)
    have h1 : (Q (s0 + i)).wl (.cell c) := .inr (by rw [hcom.xs i hi]; exact hc2)
    have h2 : (Q (s0 + k)).ol (.cell c) := .inr (by rw [hcom.xs k hk]; exact hc)
    exact hcom.tr.apart (s0 + i) (s0 + k) (lvw hi) (lvw hk) (by omega) _ h1 h2
  ·by_cases e : k = i
   ·subst e
    rw [upd_same]
    exact hx
   ·rw [upd_ne _ _ (by omega)]
    exact hcom.xs k hk
  ·rw [hq0]
   exact hcom.x0
  ·by_cases e : x = s0 + i
   ·subst e
    rw [upd_same] at hb
    exact hs2 b hb
   ·rw [upd_ne _ _ e] at hb
    exact hcom.s2 x hx' b hb
end
end
end Go.Eng
namespace Go.Eng
noncomputable section
open Go.Conc
open Go.ConcN (PermW fork_knows RelBy upd upd_same upd_ne sumTo sumTo_upd sumTo_upd_out sumTo_congr le_sumTo WgLive ShN RW DWs AtR0 AtK1 AtD1 AtD2 AtD3 AtD4 WSit WD CTag cnt Vc Vc_upd Vc_le AllQuit OpenSt get_map_set get_map_set_same isW3 isOpen isFin pend bk_cell others_uncounted)
open Go.ConcR (KK wgBlock WgAt stA smA rd mk Payload Bk ofEvent_loc_mark ofEvent_mk ofEvent_cell bk_of_mute)
set_option linter.unusedSimpArgs false
set_option linter.unusedVariables false
set_option linter.unusedSectionVars false
section
variable [Payload]
variable {P : Program} {ty : TypeId} {Wg : Nat} {J2 : World → Prop} {X : Nat → Addr → Prop} {Don : Nat → Nat → World → Prop} {S2 : Nat → Prop} {n : Nat} {KE Anch : KP} {Sh : Loc → Prop} {s0 p0 : Nat}
variable {j : Nat} {gs : Array Goroutine} {w w' : World} {t : Trace} {Q : Nat → Gh} {D : Nat → WD} {u : Nat → Nat} {V : Nat → Tk} {q : Nat → Nat} {d0 : Nat} {sl : Option (Nat × Nat)} {mt : MTag} {T0 : Tk} {a : Goroutine} {st sm : Int}
theorem bk_shared (F : Fix P ty Wg J2 X Don S2 n KE Anch Sh s0) {x : Nat} {fn : FuncId} {pos : String} {es : Array Event} (h : ∀ e ∈ es, Bk Wg e) :
  ∀ op ∈ MemOp.ofEvents x fn pos es, op.g = x ∧ ∀ b, op.act.touch? = some b → Sh b.loc ∧ b.kind ≠ .plain ∧ (b.kind = .said → x = 0) := by
 intro op hop
 rw [Go.Conc.ofEvents_eq] at hop
 obtain ⟨e, he, rfl⟩ := Array.mem_map.1 hop
 refine ⟨rfl, fun b hb => ?_⟩
 rcases h e he with h1 | h1 | ⟨ad, wr, rfl, had⟩
 ·simp only [ofEvent_loc_mark h1] at hb; cases hb
 ·simp only [ofEvent_loc_mark h1] at hb; cases hb
 ·simp only [ofEvent_cell, MemAct.touch?, Option.some.injEq] at hb
  subst hb
  exact ⟨F.sh _ ⟨ad, rfl, had⟩, by simp, by simp⟩
theorem bk_low (hcom : CM P ty Wg J2 X Don S2 n Sh s0 p0 j gs w t Q D u V q d0) (F : Fix P ty Wg J2 X Don S2 n KE Anch Sh s0) {x : Nat} {fn : FuncId} {pos : String} {es : Array Event} (h : ∀ e ∈ es, Bk Wg e) : ∀ op ∈ MemOp.ofEvents x fn pos es, Lo w.heap.size op.act := by
 intro op hop
 apply lo_of
 rw [Go.Conc.ofEvents_eq] at hop
 obtain ⟨e, he, rfl⟩ := Array.mem_map.1 hop
 rcases h e he with h1 | h1 | ⟨ad, wr, rfl, had⟩
 ·simp only [ofEvent_loc_mark h1]; trivial
 ·simp only [ofEvent_loc_mark h1]; trivial
 ·simp only [ofEvent_cell]
  exact hcom.tr.shl _ (F.sh (.cell ad) ⟨ad, rfl, had⟩)
theorem upd_self {α : Type} (f : Nat → α) (i : Nat) : upd f i (f i) = f := by
 funext k
 by_cases e : k = i
 ·subst e; rw [upd_same]
 ·rw [upd_ne _ _ e]
theorem mv_aside (F : Fix P ty Wg J2 X Don S2 n KE Anch Sh s0) {W : Nat → Prop} {Xs : Addr → Prop} (h : Aside Wg w w') : Mv Wg S2 W Xs w w' :=
 ⟨fun b _ _ _ hb => h.block b hb, fun a ha _ => cell_far (h.block a.block fun e => F.wg (e ▸ ha)) a rfl, by rw [h.size]; exact Nat.le_refl _, h.os, h.tape, h.output⟩
theorem j2_aside (F : Fix P ty Wg J2 X Don S2 n KE Anch Sh s0) (h : Aside Wg w w') (hj : J2 w) : J2 w' := F.j2 w w' (fun b hb => h.block b fun e => F.wg (e ▸ hb)) hj
theorem don_aside (F : Fix P ty Wg J2 X Don S2 n KE Anch Sh s0) (h : Aside Wg w w') {i k : Nat} (hj : Don i k w) : Don i k w' := F.don i k w w' (fun a ha => cell_far (h.block a.block fun e => F.wg (e ▸ F.xs i a ha)) a rfl) hj
abbrev Nx (P : Program) (ty : TypeId) (Wg : Nat) (J2 : World → Prop) (X : Nat → Addr → Prop) (Don : Nat → Nat → World → Prop) (S2 : Nat → Prop) (n : Nat) (KE Anch : KP) (Sh : Loc → Prop) (s0 p0 : Nat) (gs : Array Goroutine) (w : World) (sl : Option (Nat × Nat)) (t : Trace) (x : Nat) (μ : Mu) : Prop :=
 ∃ m₁ ops μ', runT P (crowd gs w sl) x = (.next m₁, ops) ∧ MuLt n μ' μ ∧ GInv P ty Wg J2 X Don S2 n KE Anch Sh s0 p0 μ' m₁ (t ++ ops)
set_option maxHeartbeats 1600000 in
theorem stepTail (F : Fix P ty Wg J2 X Don S2 n KE Anch Sh s0) (ha : gs[0]? = some a) (hj : j ≤ n) (hcs : MSit P ty Wg J2 X Don S2 n KE Anch mt j T0 d0 (Q 0).O (Q 0).W a w) (hcom : CM P ty Wg J2 X Don S2 n Sh s0 p0 j gs w t Q D u V q d0) (hwg : WgAt ty Wg w st sm) (hmode : ConcN.Mode j D mt.c st sm)
  {i : Nat} (hi : i < j) {g : Goroutine} (hg : gs[s0 + i]? = some g) (hrun : g.status = .running) {c : Nat} {v : Value} {s m dd : Nat} (hs : Tail P ty Wg c v s m dd g w) (hst : (D i).stage = s) (hde : (D i).deaf = dd) (hu : u i = s) (hV : V i = Tk.ofNat m) (hO : (Q (s0 + i)).O c) (hW : (Q (s0 + i)).W c) :
  Nx P ty Wg J2 X Don S2 n KE Anch Sh s0 p0 gs w sl t (s0 + i) (mt.phi n (Vc j D) + sumTo j u + sumTo s0 q, V, mt.minor, T0) := by
 have hVj := Vc_le j D
 have hdk : Deaf t (s0 + i) = dd := by rw [hcom.deafW i hi, hde]
 have hlim := F.lim
 have hpos := F.pos
 have hs7 : s ≤ 7 := by cases hs <;> omega
 have hdon : ∀ k, Don i k w := fun k => hcom.don i hi k (by omega)
 -- a step of the library's bookkeeping: at most the group's block turns
 have bookG : ∀ {g' : Goroutine} {w' : World} {es : Array Event} {s' m' dd' : Nat} {st' sm' : Int}, stepG P false g w = .go g' w' es → Aside Wg w w' → WgAt ty Wg w' st' sm' → (∀ e ∈ es, Bk Wg e) →
   (∀ jx e, es[jx]? = some e → (MemAct.ofEvent e).touch? = none ∨ 0 < deafBehind dd (es.extract 0 jx)) → Tail P ty Wg c v s' m' dd' g' w' → deafBehind dd es = dd' → s ≤ 6 →
   (∀ mt', (mt' = mt ∨ (mt = .blk ∧ mt' = .w3)) → (mayWake P g = true → g'.status = .running → mt' ≠ .blk) → ConcN.Mode j (upd D i ⟨s', m', dd'⟩) mt'.c st' sm') → ((s' < s ∧ cnt ⟨s', m', dd'⟩ ≤ cnt (D i)) ∨ (s' = s ∧ m' + 1 = m)) →
   Nx P ty Wg J2 X Don S2 n KE Anch Sh s0 p0 gs w sl t (s0 + i) (mt.phi n (Vc j D) + sumTo j u + sumTo s0 q, V, mt.minor, T0) := by
  intro g' w' es s' m' dd' st' sm' hgo hAs hwg' hbk hd hs' hdd h6 hmode' hlt
  have htr := hcom.tr.shared (x := s0 + i) (bk_shared F hbk) (bk_low hcom F (fn := g.frame.fn) (pos := g.frame.place) hbk)
  refine workerStep F ha hj hcs hcom hwg hi hg hgo (mv_aside F hAs) (q' := Q (s0 + i)) ?_ (fun op hop b hb => .inr ((bk_shared F hbk op hop).2 b hb).1) (.tail hs' hO hW) (hcom.xs i hi) (hcom.s2 _ (lvw hi)) (Go.ConcN.norel_of_Bk hbk) (by rw [hde]; exact hdd)
   (fun _ => let ⟨r, hr0, hr⟩ := hcom.rel i hi (by omega); ⟨r, hr0, hr.book hdk _ _ hbk hd⟩) (fun kk _ => don_aside F hAs (hdon kk)) (j2_aside F hAs hcom.j2) hwg' hmode' ?_
  ·rw [upd_self, hAs.size]
   exact htr
  ·rcases hlt with ⟨h1, h2⟩ | ⟨rfl, rfl⟩
   ·exact .inl ⟨by omega, h2⟩
   ·refine .inr ⟨hu.symm, by simp only [cnt, hst], ?_⟩
    rw [hV]
    exact Tk.ofNat_lt _
 have book : ∀ {g' : Goroutine} {w' : World} {es : Array Event} {s' m' dd' : Nat} {st' sm' : Int}, stepG P false g w = .go g' w' es → Aside Wg w w' → WgAt ty Wg w' st' sm' → (∀ e ∈ es, Bk Wg e) →
   (∀ jx e, es[jx]? = some e → (MemAct.ofEvent e).touch? = none ∨ 0 < deafBehind dd (es.extract 0 jx)) → Tail P ty Wg c v s' m' dd' g' w' → deafBehind dd es = dd' → s ≤ 6 →
   ConcN.Mode j (upd D i ⟨s', m', dd'⟩) mt.c st' sm' → ((s' < s ∧ cnt ⟨s', m', dd'⟩ ≤ cnt (D i)) ∨ (s' = s ∧ m' + 1 = m)) →
   Nx P ty Wg J2 X Don S2 n KE Anch Sh s0 p0 gs w sl t (s0 + i) (mt.phi n (Vc j D) + sumTo j u + sumTo s0 q, V, mt.minor, T0) :=
  fun hgo hAs hwg' hbk hd hs' hdd h6 hmode' hlt => bookG hgo hAs hwg' hbk hd hs' hdd h6 (fun mt' ht _ => hmode'.retag (by
   rcases ht with rfl | ⟨rfl, rfl⟩
   ·exact .inl rfl
   ·exact .inr ⟨rfl, rfl⟩)) hlt
 have idle : ∀ {g' : Goroutine} {m' : Nat}, stepG P false g w = .go g' w #[] → Tail P ty Wg c v s m' dd g' w → m' + 1 = m → s ≤ 6 →
   Nx P ty Wg J2 X Don S2 n KE Anch Sh s0 p0 gs w sl t (s0 + i) (mt.phi n (Vc j D) + sumTo j u + sumTo s0 q, V, mt.minor, T0) := by
  intro g' m' hgo hs' hm h6
  exact book hgo (.refl Wg w) hwg (by simp) (by simp) hs' rfl h6 (by have := hmode.same (i := i) m' dd; rwa [hst] at this) (.inr ⟨rfl, hm⟩)
 have retag : ∀ {D' : Nat → WD} {st' sm' : Int}, ConcN.Mode j D' mt.c st' sm' → ∀ mt', (mt' = mt ∨ (mt = .blk ∧ mt' = .w3)) → ConcN.Mode j D' mt'.c st' sm' := fun h mt' ht => h.retag (by
  rcases ht with rfl | ⟨rfl, rfl⟩
  ·exact .inl rfl
  ·exact .inr ⟨rfl, rfl⟩)
 cases hs with
 | r0 h =>
  rcases Goes.cases h with hstop | ⟨m', rfl, hstep⟩
  ·obtain ⟨_, hhas, g', hgo, m₂, hk⟩ := hstop w (Go.ConcN.RW.refl w)
   have hbk : ∀ e ∈ #[mk (.releaseMerge (stA Wg))], (MemAct.ofEvent e).touch? = none := by intro e he; simp at he; subst he; rfl
   have htr := hcom.tr.shared (x := s0 + i) (u := MemOp.ofEvents (s0 + i) g.frame.fn g.frame.place #[mk (.releaseMerge (stA Wg))]) (fun op hop => by
     obtain ⟨e, he, rfl⟩ := Go.Conc.mem_ofEvents hop
     exact ⟨rfl, fun b hb => by rw [hbk e he] at hb; cases hb⟩) (fun op hop => by
     obtain ⟨e, he, rfl⟩ := Go.Conc.mem_ofEvents hop
     exact fun b hb => by rw [hbk e he] at hb; cases hb)
   refine workerStep F ha hj hcs hcom hwg hi hg hgo (mv_aside F (.refl Wg w)) (d' := ⟨6, m₂, 0⟩) (u' := 6) (q' := Q (s0 + i)) (by rw [upd_self]; exact htr) (fun op hop b hb => ?_) (.tail (v := v) (.k1 hk) hO hW) (hcom.xs i hi) (hcom.s2 _ (lvw hi)) (by intro e he; simp at he; subst he; simp [mk]) (by rw [hde]; rfl)
    (fun _ => ⟨t.size, hcom.begun, RelBy.new hdk _ _⟩) (fun kk _ => hdon kk) hcom.j2 hwg (fun mt' ht _ => retag (hmode.counted hi (by omega) (.inl rfl) _ _) mt' ht) (.inl ⟨by omega, by simp [cnt, hst]⟩)
   obtain ⟨e, he, rfl⟩ := Go.Conc.mem_ofEvents hop
   rw [hbk e he] at hb
   cases hb
  ·obtain ⟨g', w', es, hgo, ⟨hac, hev⟩, hg'⟩ := hstep w (Go.ConcN.RW.refl w)
   simp only [Nat.sub_self] at hac
   have hCO : ¬ S2 c := hcom.s2 _ (lvw hi) _ hO
   have hCW : c ≠ Wg := hcom.notWg F (lvw hi) hO
   have hsh : ∀ op ∈ MemOp.ofEvents (s0 + i) g.frame.fn g.frame.place es, op.g = s0 + i ∧ ∀ b, op.act.touch? = some b → Sh b.loc ∧ b.kind ≠ .plain ∧ (b.kind = .said → s0 + i = 0) := by
    intro op hop
    rw [Go.Conc.ofEvents_eq] at hop
    obtain ⟨e, he, rfl⟩ := Array.mem_map.1 hop
    refine ⟨rfl, fun b hb => ?_⟩
    rcases ((hev e he).1 g.frame.fn g.frame.place).2 b hb with ⟨h1, h2, h3⟩ | h1 | ⟨h1, _⟩
    ·exact ⟨F.sh _ h1, h2, fun hh => absurd hh h3⟩
    ·exact h1.elim
    ·exact h1.elim
   have hlow : ∀ op ∈ MemOp.ofEvents (s0 + i) g.frame.fn g.frame.place es, Lo w.heap.size op.act := fun op hop b hb => hcom.tr.shl _ ((hsh op hop).2 b hb).1
   refine workerStep F ha hj hcs hcom hwg hi hg hgo ⟨fun b _ hb _ _ => hac.block b (fun e => hb (e ▸ hW)), fun c hc _ => cell_far (hac.block c.block (fun e => hCO (e ▸ hc))) c rfl, by rw [hac.size]; exact Nat.le_refl _, hac.os, hac.tape, hac.output⟩
    (d' := ⟨7, m', 0⟩) (u' := 7) (q' := Q (s0 + i)) (by rw [upd_self, hac.size]; exact hcom.tr.shared hsh hlow) (fun op hop b hb => .inr ((hsh op hop).2 b hb).1) (.tail (.r0 hg') hO hW) (hcom.xs i hi) (hcom.s2 _ (lvw hi)) (fun e he => (hev e he).2.2.2)
    (by rw [hde]; exact Go.ConcN.deafBehind_idle (fun e he => ⟨(hev e he).2.1, (hev e he).2.2.1⟩) 0) (fun h => by simp at h)
    (fun kk _ => F.don i kk w w' (fun c hc => cell_far (hac.block c.block (fun e => hCO (e ▸ F.xs i c hc))) c rfl) (hdon kk))
    (F.j2 w w' (fun b hb => hac.block b (fun e => hCO (e ▸ hb))) hcom.j2) (hwg.of_block (hac.block Wg (Ne.symm hCW)))
    (fun mt' ht _ => retag (by have := hmode.same (i := i) m' 0; rwa [hst] at this) mt' ht) (.inr ⟨hu.symm, by simp [cnt, hst], by rw [hV]; exact Tk.ofNat_lt _⟩)
 | k1 h =>
  rcases Goes.cases h with hstop | ⟨m', rfl, hstep⟩
  ·obtain ⟨_, g', hgo, m₂, hk⟩ := hstop w (Go.ConcN.RW.refl w)
   exact book hgo (.refl Wg w) hwg (by intro e he; simp at he; subst he; exact .inl rfl) (by intro jx e he; exact .inl (by have := Array.mem_of_getElem? he; simp at this; subst this; rfl)) (.d1 hk) rfl (by omega)
    (hmode.counted hi (by omega) (.inr rfl) _ _) (.inl ⟨by omega, by simp [cnt, hst]⟩)
  ·obtain ⟨g', w', es, hgo, ⟨rfl, rfl⟩, hg'⟩ := hstep w (Go.ConcN.RW.refl w)
   exact idle hgo (.k1 hg') rfl (by omega)
 | d1 h =>
  rcases Goes.cases h with hstop | ⟨m', rfl, hstep⟩
  ·obtain ⟨_, hall⟩ := hstop w (Go.ConcN.RW.refl w)
   have hc1 : cnt (D i) = 1 := by simp [cnt, hst]
   have hV1 : 1 ≤ Vc j D := by have := le_sumTo (f := fun x => cnt (D x)) hi; simp only [Vc]; omega
   have bk2 : ∀ e ∈ #[rd (stA Wg), ConcR.wr (stA Wg)], Bk Wg e := by intro e he; simp at he; rcases he with rfl | rfl <;> exact bk_cell _ _ rfl
   have df2 : ∀ jx e, (#[rd (stA Wg), ConcR.wr (stA Wg)] : Array Event)[jx]? = some e → (MemAct.ofEvent e).touch? = none ∨ 0 < deafBehind 1 ((#[rd (stA Wg), ConcR.wr (stA Wg)] : Array Event).extract 0 jx) := by
    intro jx e he
    match jx, he with
    | 0, _ => exact .inr (by simp [deafBehind])
    | 1, _ => exact .inr (by simp [deafBehind, rd])
    | jx + 2, he => simp at he
   have hq0 : ∀ q, cnt (⟨1, q, 1⟩ : WD) = 0 := fun _ => rfl
   have opq : ∀ q, OpenSt j D → OpenSt j (upd D i ⟨1, q, 1⟩) := fun q h a ha => by
    by_cases e : a = i
    ·subst e; rw [upd_same]; simp
    ·rw [upd_ne D _ e]; exact h a ha
   generalize hct : mt.c = ct at hmode
   cases hmode with
   | opn h1 h2 h3 =>
    obtain ⟨v, hv⟩ : ∃ v, Vc j D + pend ct = v + 1 := ⟨Vc j D + pend ct - 1, by omega⟩
    rw [hv] at hwg
    have hp : pend ct ≤ 1 := by unfold pend; split <;> (try split) <;> omega
    have hjp : Vc j D + pend ct ≤ n + 1 := by omega
    have hw1 : WgAt ty Wg w (((v : Nat) + 1) * KK + ((0 : Nat) : Int)) 0 := by simpa using hwg
    obtain ⟨g', hgo, _, hq⟩ := hall v 0 (by omega) (by omega) hw1
    obtain ⟨q, hq⟩ := hq (by omega)
    have hv' : Vc j (upd D i ⟨1, q, 1⟩) + pend ct = v := by have := Vc_upd D (⟨1, q, 1⟩ : WD) hi; have := hq0 q; omega
    rw [← hv] at hwg
    refine book hgo (aside_setCell w (stA Wg) _) (hwg.setSt _) bk2 df2 (.quit hq) rfl (by omega) ?_ (.inl ⟨by omega, by simp [cnt]⟩)
    have e : ((v : Nat) : Int) * KK + ((0 : Nat) : Int) = ((Vc j (upd D i ⟨1, q, 1⟩) + pend ct : Nat) : Int) * KK := by rw [hv']; simp
    rw [e, hct]
    exact .opn h1 (opq q h2) (fun vs ev => by have := h3 vs ev; omega)
   | reg h1 h2 h3 =>
    obtain ⟨v, hv⟩ : ∃ v, Vc j D = v + 1 := ⟨Vc j D - 1, by omega⟩
    have hw1 : WgAt ty Wg w (((v : Nat) + 1) * KK + ((1 : Nat) : Int)) 0 := by rw [hv] at hwg; simpa using hwg
    obtain ⟨g', hgo, hl, hq⟩ := hall v 1 (by omega) (by omega) hw1
    by_cases hv0 : v = 0
    ·subst hv0
     obtain ⟨m₂, hk⟩ := hl ⟨rfl, rfl⟩
     refine book hgo (aside_setCell w (stA Wg) _) (hwg.setSt _) bk2 df2 (.d2 hk) rfl (by omega) ?_ (.inl ⟨by omega, by simp [cnt]⟩)
     have hoth : ∀ a, a < j → a ≠ i → (D a).stage = 1 := fun a ha e => by
      have c0 := others_uncounted hi hv hc1 a ha e
      have := h2 a ha
      simp only [cnt] at c0
      split at c0 <;> omega
     have := ConcN.Mode.last (j := j) (D := upd D i ⟨4, m₂, 1⟩) (tag := ct) i h1 hi (by rw [upd_same]; simp) (fun a ha e => by rw [upd_ne D _ e]; exact hoth a ha e)
     rw [upd_same] at this
     rw [hct]
     simpa using this
    ·obtain ⟨q, hq⟩ := hq (by omega)
     have hv' : Vc j (upd D i ⟨1, q, 1⟩) = v := by have := Vc_upd D (⟨1, q, 1⟩ : WD) hi; have := hq0 q; omega
     refine book hgo (aside_setCell w (stA Wg) _) (hwg.setSt _) bk2 df2 (.quit hq) rfl (by omega) ?_ (.inl ⟨by omega, by simp [cnt]⟩)
     have e : ((v : Nat) : Int) * KK + ((1 : Nat) : Int) = ((Vc j (upd D i ⟨1, q, 1⟩) : Nat) : Int) * KK + 1 := by rw [hv']; simp
     rw [e, hct]
     exact .reg h1 (opq q h2) (by omega)
   | last L _ h2 h3 h4 =>
    by_cases e : i = L
    ·subst e; omega
    ·have := h4 i hi e; omega
   | sema h2 => have := h2 i hi; omega
   | fin _ h2 => have := h2 i hi; omega
  ·obtain ⟨g', w', es, hgo, ⟨rfl, rfl⟩, hg'⟩ := hstep w (Go.ConcN.RW.refl w)
   exact idle hgo (.d1 hg') rfl (by omega)
 | d2 h =>
  rcases Goes.cases h with hstop | ⟨m', rfl, hstep⟩
  ·obtain ⟨_, hx⟩ := hstop w (Go.ConcN.RW.refl w)
   obtain ⟨hW3, hoth, rfl, rfl⟩ := hmode.isLast hi (by omega)
   simp only [hst] at hwg
   obtain ⟨g', hgo, m₂, hk⟩ := hx (by simpa using hwg)
   refine book hgo (.refl Wg w) hwg (by intro e he; simp at he; subst he; exact bk_cell _ _ rfl) (by intro jx e he; match jx, he with | 0, _ => exact .inr (by simp [deafBehind]) | jx + 1, he => simp at he) (.d3 hk) rfl (by omega) ?_ (.inl ⟨by omega, by simp [cnt]⟩)
   have := ConcN.Mode.last (j := j) (D := upd D i ⟨3, m₂, 1⟩) (tag := mt.c) i hW3 hi (by rw [upd_same]; simp) (fun a ha e => by rw [upd_ne D _ e]; exact hoth a ha e)
   rw [upd_same] at this
   simpa using this
  ·obtain ⟨g', w', es, hgo, ⟨rfl, rfl⟩, hg'⟩ := hstep w (Go.ConcN.RW.refl w)
   exact idle hgo (.d2 hg') rfl (by omega)
 | d3 h =>
  rcases Goes.cases h with hstop | ⟨m', rfl, hstep⟩
  ·obtain ⟨_, hx⟩ := hstop w (Go.ConcN.RW.refl w)
   obtain ⟨hW3, hoth, rfl, rfl⟩ := hmode.isLast hi (by omega)
   simp only [hst] at hwg
   obtain ⟨g', hgo, m₂, hk⟩ := hx (by simpa using hwg)
   refine book hgo (aside_setCell w (stA Wg) _) (hwg.setSt 0) (by intro e he; simp at he; subst he; exact bk_cell _ _ rfl) (by intro jx e he; match jx, he with | 0, _ => exact .inr (by simp [deafBehind]) | jx + 1, he => simp at he) (.d4 hk) rfl (by omega) ?_ (.inl ⟨by omega, by simp [cnt]⟩)
   have := ConcN.Mode.last (j := j) (D := upd D i ⟨2, m₂, 1⟩) (tag := mt.c) i hW3 hi (by rw [upd_same]; simp) (fun a ha e => by rw [upd_ne D _ e]; exact hoth a ha e)
   rw [upd_same] at this
   simpa using this
  ·obtain ⟨g', w', es, hgo, ⟨rfl, rfl⟩, hg'⟩ := hstep w (Go.ConcN.RW.refl w)
   exact idle hgo (.d3 hg') rfl (by omega)
 | d4 h =>
  rcases Goes.cases h with hstop | ⟨m', rfl, hstep⟩
  ·obtain ⟨_, hmw, hx⟩ := hstop w (Go.ConcN.RW.refl w)
   obtain ⟨hW3, hoth, rfl, rfl⟩ := hmode.isLast hi (by omega)
   simp only [hst] at hwg
   obtain ⟨g', hgo, q, hq⟩ := hx (by simpa using hwg)
   have hrun' : g'.status = .running := by
    cases q with
    | zero => exact absurd hq.2 (by decide)
    | succ q => exact hq.elim (fun x => absurd x.2 (by decide)) (fun x => x.1)
   refine bookG hgo (aside_setCell w (smA Wg) _) (hwg.setSm 1) (es := semEvents (smA Wg)) Go.ConcN.bk_sem ?_ (.quit hq) (by simp [deafBehind, semEvents]) (by omega) ?_ (.inl ⟨by omega, by simp [cnt]⟩)
   ·intro jx e he
    match jx, he with
    | 0, he => simp [semEvents] at he; subst he; exact .inl rfl
    | 1, _ => exact .inr (by simp [deafBehind, semEvents])
    | 2, _ => exact .inr (by simp [deafBehind, semEvents])
    | 3, he => simp [semEvents] at he; subst he; exact .inl rfl
    | jx + 4, he => simp [semEvents] at he
   ·intro mt' ht hw
    have hnb := hw hmw hrun'
    have e3 : mt'.c = .w3 := by
     rcases ht with rfl | ⟨_, rfl⟩
     ·cases mt' <;> first | rfl | exact hW3.elim | exact absurd rfl hnb
     ·rfl
    rw [e3]
    simp only [if_true]
    exact .sema fun a ha => by
     by_cases e : a = i
     ·subst e; rw [upd_same]
     ·rw [upd_ne D _ e]; exact hoth a ha e
  ·obtain ⟨g', w', es, hgo, ⟨rfl, rfl⟩, hg'⟩ := hstep w (Go.ConcN.RW.refl w)
   exact idle hgo (.d4 hg') rfl (by omega)
 | quit h =>
  cases m with
  | zero => rw [h.1] at hrun; cases hrun
  | succ q =>
   rcases h with ⟨hf, _⟩ | ⟨_, g', es, hmute, hstep, hq⟩
   ·rw [hf] at hrun; cases hrun
   ·have hbk : ∀ e ∈ es, Bk Wg e := fun e he => bk_of_mute (hmute e he)
    have hno : ∀ jx e, es[jx]? = some e → (MemAct.ofEvent e).touch? = none ∨ 0 < deafBehind dd (es.extract 0 jx) := fun jx e he => .inl (touch_mute (hmute e (Array.mem_of_getElem? he)))
    exact book (hstep w) (.refl Wg w) hwg hbk hno (.quit hq) rfl (by omega) (by have := hmode.same (i := i) q (deafBehind dd es); rwa [hst] at this) (.inr ⟨rfl, rfl⟩)
end
end
end Go.Eng
namespace Go.Eng
noncomputable section
open Go.Conc
open Go.ConcN (PermW fork_knows RelBy upd upd_same upd_ne sumTo sumTo_upd sumTo_upd_out sumTo_congr le_sumTo WgLive ShN RW DWs AtR0 AtK1 AtD1 AtD2 AtD3 AtD4 WSit WD CTag cnt Vc Vc_upd Vc_le AllQuit OpenSt get_map_set get_map_set_same isW3 isOpen isFin pend bk_cell others_uncounted allQuit_of)
open Go.ConcR (KK wgBlock WgAt stA smA rd mk Payload Bk ofEvent_loc_mark ofEvent_mk ofEvent_cell bk_of_mute)
set_option linter.unusedSimpArgs false
set_option linter.unusedVariables false
set_option linter.unusedSectionVars false
section
variable [Payload]
variable {P : Program} {ty : TypeId} {Wg : Nat} {J2 : World → Prop} {X : Nat → Addr → Prop} {Don : Nat → Nat → World → Prop} {S2 : Nat → Prop} {n : Nat} {KE Anch : KP} {Sh : Loc → Prop} {s0 p0 : Nat}
variable {j : Nat} {gs : Array Goroutine} {w w' : World} {t : Trace} {Q : Nat → Gh} {D : Nat → WD} {u : Nat → Nat} {V : Nat → Tk} {q : Nat → Nat} {d0 : Nat} {sl : Option (Nat × Nat)} {mt : MTag} {T0 : Tk} {a : Goroutine} {st sm : Int}
theorem MuLt.of_fst {a b : Mu} (h : a.1 < b.1) : MuLt n a b := by
 obtain ⟨a1, a2⟩ := a
 obtain ⟨b1, b2⟩ := b
 exact Prod.Lex.left _ _ h
theorem MuLt.fst {a b : Mu} (h : MuLt n a b) : a.1 ≤ b.1 := by
 cases h with
 | left _ _ h => exact Nat.le_of_lt h
 | right _ h => exact Nat.le_refl _
theorem grow_sub {q : Gh} {w w' : World} {b : Nat} (h : (q.grow w w').O b) : q.O b ∨ w.heap.size ≤ b := h.imp id And.left
theorem okX {Xs : Addr → Prop} {w w2 : World} {es : Array Event} (hx : XGuar S2 J2 Xs w w2 es) {O W : Nat → Prop} (hl : ∀ c, Xs c → c.block < w.heap.size) {e : Event} (he : e ∈ es) :
  OkP ⟨O, W, Xs⟩ w.heap.size (MemAct.ofEvent e) ∧ (MemAct.ofEvent e).low w2.heap.size ∧ e.loc ≠ .mark .disable ∧ e.loc ≠ .mark .enable ∧ ∀ a, e.loc ≠ .mark (.release a) := by
 obtain ⟨c, h1, h2, h3⟩ := hx.evs e he
 obtain ⟨loc, wr, sy⟩ := e
 simp only at h1 h3
 subst h1
 subst h3
 have e1 : MemAct.ofEvent ⟨.cell c, wr, false⟩ = .access ⟨.cell c, wr, false⟩ := by cases wr <;> rfl
 rw [e1]
 refine ⟨fun x hx' => ?_, by show c.block < _; rw [hx.size]; exact hl c h2, by simp, by simp, by simp⟩
 simp only [MemAct.touch?, Option.some.injEq] at hx'
 subst hx'
 exact ⟨rfl, .inl (.inr h2), fun _ => .inl (.inr h2)⟩
theorem stepWorker (F : Fix P ty Wg J2 X Don S2 n KE Anch Sh s0) (ha : gs[0]? = some a) (hj : j ≤ n) (hcs : MSit P ty Wg J2 X Don S2 n KE Anch mt j T0 d0 (Q 0).O (Q 0).W a w) (hcom : CM P ty Wg J2 X Don S2 n Sh s0 p0 j gs w t Q D u V q d0) (hwg : WgAt ty Wg w st sm) (hmode : ConcN.Mode j D mt.c st sm)
  {i : Nat} (hi : i < j) {g : Goroutine} (hg : gs[s0 + i]? = some g) (hrun : g.status = .running) :
  Nx P ty Wg J2 X Don S2 n KE Anch Sh s0 p0 gs w sl t (s0 + i) (mt.phi n (Vc j D) + sumTo j u + sumTo s0 q, V, mt.minor, T0) := by
 obtain ⟨g1, hg1, hs⟩ := hcom.wk i hi
 obtain rfl : g = g1 := by rw [hg] at hg1; exact Option.some.inj hg1
 have hjj : JJ ty Wg J2 w := ⟨⟨_, _, hwg⟩, hcom.j2⟩
 have hpos := F.pos
 generalize hD : D i = d at hs
 generalize hu : u i = uu at hs
 generalize hV : V i = vv at hs
 have retag : ∀ {D' : Nat → WD} {st' sm' : Int}, ConcN.Mode j D' mt.c st' sm' → ∀ mt', (mt' = mt ∨ (mt = .blk ∧ mt' = .w3)) → ConcN.Mode j D' mt'.c st' sm' := fun h mt' ht => h.retag (by
  rcases ht with rfl | ⟨rfl, rfl⟩
  ·exact .inl rfl
  ·exact .inr ⟨rfl, rfl⟩)
 cases hs with
 | tail hs hO hW => exact stepTail F ha hj hcs hcom hwg hmode hi hg hrun hs (by rw [hD]) (by rw [hD]) hu hV hO hW
 | @work k f T _ _ _ h =>
  cases vv with
  | lf =>
   have hk := h w (Rely.refl _ _) hjj
   cases k with
   | zero =>
    obtain ⟨c, hW, v, m, ht⟩ := hk
    have hdon : ∀ k, Don i k w := fun k => hcom.don i hi k (by omega)
    have hO := hcom.wo (lvw hi) hW
    -- it stands at its tail's beginning: so say
    have hcom' : CM P ty Wg J2 X Don S2 n Sh s0 p0 j gs w t Q (upd D i ⟨7, m, 0⟩) (upd u i 7) (upd V i (Tk.ofNat m)) q d0 := by
     refine ⟨hcom.size, fun k hk => ?_, hcom.old, hcom.tr, hcom.hd, hcom.norel, hcom.begun, hcom.deaf0, fun k hk => ?_, hcom.nums, fun k hk hst => ?_, fun k hk kk hu' => ?_, hcom.xs, hcom.x0, hcom.s2, hcom.s2l, hcom.j2⟩
     ·by_cases e : k = i
      ·subst e
       rw [upd_same, upd_same, upd_same]
       exact ⟨g, hg, .tail ht hO hW⟩
      ·rw [upd_ne _ _ e, upd_ne _ _ e, upd_ne _ _ e]
       exact hcom.wk k hk
     ·by_cases e : k = i
      ·subst e
       rw [upd_same, hcom.deafW k hk, hD]
      ·rw [upd_ne _ _ e]
       exact hcom.deafW k hk
     ·by_cases e : k = i
      ·subst e
       rw [upd_same] at hst
       simp at hst
      ·rw [upd_ne _ _ e] at hst
       exact hcom.rel k hk hst
     ·by_cases e : k = i
      ·subst e
       exact hdon kk
      ·rw [upd_ne _ _ e] at hu'
       exact hcom.don k hk kk hu'
    have hV' : Vc j (upd D i ⟨7, m, 0⟩) = Vc j D := by
     have := Vc_upd D (⟨7, m, 0⟩ : WD) hi
     have e1 : cnt (D i) = 1 := by rw [hD]; rfl
     have e2 : cnt (⟨7, m, 0⟩ : WD) = 1 := rfl
     omega
    have hmode' : ConcN.Mode j (upd D i ⟨7, m, 0⟩) mt.c st sm := by
     have := hmode.same (i := i) m 0
     rwa [hD] at this
    obtain ⟨m₁, ops, μ', h1, h2, h3⟩ := stepTail (sl := sl) F ha hj hcs hcom' hwg hmode' hi hg hrun ht (by rw [upd_same]) (by rw [upd_same]) (upd_same ..) (upd_same ..) hO hW
    refine ⟨m₁, ops, μ', h1, MuLt.of_fst (Nat.lt_of_le_of_lt h2.fst ?_), h3⟩
    simp only [hV']
    have := sumTo_drop (f := u) (k := 7) hi (by omega)
    omega
   | succ k =>
    obtain ⟨_, g', w2, es, hgo, hx, hdn, hN⟩ := hk
    obtain ⟨T', hT'⟩ := hN.tree
    have hlb : ∀ c, (Q (s0 + i)).X c → c.block < w.heap.size := fun c hc => hcom.s2l _ (F.xs i c (by rw [← hcom.xs i hi]; exact hc))
    rw [← hcom.xs i hi] at hx
    have hwgm : w2.heap[Wg]? = w.heap[Wg]? := hx.keep Wg F.wg
    have htr := hcom.tr.plain (lvw hi) (u := MemOp.ofEvents (s0 + i) g.frame.fn g.frame.place es) (B' := w2.heap.size) (q := Q (s0 + i)) (fun op hop => by
      obtain ⟨e, he, rfl⟩ := Go.Conc.mem_ofEvents hop
      exact ⟨rfl, (okX (O := (Q (s0 + i)).O) (W := (Q (s0 + i)).W) hx hlb he).1⟩) (fun op hop => by
      obtain ⟨e, he, rfl⟩ := Go.Conc.mem_ofEvents hop
      exact lo_of (okX (O := fun _ => False) (W := fun _ => False) hx hlb he).2.1) (by rw [hx.size]; exact Nat.le_refl _) (fun l => .inl) (fun l => .inl) (hcom.tr.sub _ (lvw hi)) (fun l hl => by rw [hx.size]; exact (hcom.tr.lt _ (lvw hi) l hl).1)
    refine workerStep F ha hj hcs hcom hwg hi hg hgo ⟨fun b _ _ hb _ => hx.keep b hb, fun c _ hc => hx.cell c (by rw [hcom.xs i hi]; exact hc), by rw [hx.size]; exact Nat.le_refl _, hx.os, hx.tape, hx.output⟩ (d' := ⟨7, f, 0⟩) htr
     (fun op hop b hb => by
      obtain ⟨e, he, rfl⟩ := Go.Conc.mem_ofEvents hop
      exact .inl ((okX (O := fun _ => False) (W := fun _ => False) hx hlb he).1 b hb).1)
     (.work hT') (hcom.xs i hi) (hcom.s2 _ (lvw hi)) (fun e he => (okX (O := fun _ => False) (W := fun _ => False) hx hlb he).2.2.2.2 _)
     (by rw [hD]; exact deafBehind_still (fun e he => ⟨(okX (O := fun _ => False) (W := fun _ => False) hx hlb he).2.2.1, (okX (O := fun _ => False) (W := fun _ => False) hx hlb he).2.2.2.1⟩) 0)
     (fun h => by simp at h) (fun kk h => by
      by_cases e : kk = k
      ·subst e
       exact hdn.1
      ·exact hdn.2 kk (by omega) (hcom.don i hi kk (by omega))) hx.j2 (hwg.of_block hwgm) (fun mt' ht _ => retag (by have := hmode.same (i := i) f 0; rwa [hD] at this) mt' ht) (.inl ⟨by omega, by rw [hD]; exact Nat.le_refl _⟩)
  | nd fT =>
   obtain ⟨g', w2, es, hgo, hG, hT'⟩ := h.2 w (Rely.refl _ _) hjj
   have hwgm : w2.heap[Wg]? = w.heap[Wg]? := by
    have hl := (hcom.tr.shl (.cell ⟨Wg, 0, none⟩) (F.sh _ ⟨_, rfl, rfl⟩) : Wg < w.heap.size)
    exact hG.keep Wg hl fun hw => hcom.notWg F (lvw hi) (hcom.wo (lvw hi) hw) rfl
   refine workerStep F ha hj hcs hcom hwg hi hg hgo ?_ (d' := ⟨7, f, 0⟩) (hcom.tr.step (lvw hi) hG _ _)
    (fun op hop b hb => by
     obtain ⟨e, he, rfl⟩ := Go.Conc.mem_ofEvents hop
     exact .inl ((fine_act (X := fun _ => False) (hG.evs e he)).1 b hb).1)
    (.work (q := (Q (s0 + i)).grow w w2) hT') (hcom.xs i hi) (fun b hb hs => ?_) (fun e he => (fine_act (X := fun _ => False) (hG.evs e he)).2.2.2.2 _)
    (by rw [hD]; exact hG.still_deaf 0) (fun h => by simp at h) (fun kk h => F.don i kk w w2 (fun c hc => (hcom.mv F (lvw hi) hG).cell c (F.xs i c hc) id) (hcom.don i hi kk (by omega))) (F.j2 w w2 (fun b hb => hG.keep b (hcom.s2l b hb) fun hw => hcom.s2 _ (lvw hi) b (hcom.wo (lvw hi) hw) hb) hcom.j2) (hwg.of_block hwgm) (fun mt' ht _ => retag (by have := hmode.same (i := i) f 0; rwa [hD] at this) mt' ht)
    (.inr ⟨hu.symm, by rw [hD], by rw [hV]; exact .mk fT w⟩)
   ·obtain ⟨m1, m2, m3, m4, m5, m6⟩ := hcom.mv F (lvw hi) hG
    exact ⟨m1, fun c hc _ => m2 c hc id, m3, m4, m5, m6⟩
   ·rcases grow_sub hb with h1 | h1
    ·exact hcom.s2 _ (lvw hi) b h1 hs
    ·have := hcom.s2l b hs
     omega
theorem stepOld (F : Fix P ty Wg J2 X Don S2 n KE Anch Sh s0) (ha : gs[0]? = some a) (hj : j ≤ n) (hcs : MSit P ty Wg J2 X Don S2 n KE Anch mt j T0 d0 (Q 0).O (Q 0).W a w) (hcom : CM P ty Wg J2 X Don S2 n Sh s0 p0 j gs w t Q D u V q d0) (hwg : WgAt ty Wg w st sm) (hmode : ConcN.Mode j D mt.c st sm)
  {i : Nat} (hi0 : 0 < i) (hi : i < s0) {g : Goroutine} (hg : gs[i]? = some g) (hrun : g.status = .running) :
  Nx P ty Wg J2 X Don S2 n KE Anch Sh s0 p0 gs w sl t i (mt.phi n (Vc j D) + sumTo j u + sumTo s0 q, V, mt.minor, T0) := by
 have hjj : JJ ty Wg J2 w := ⟨⟨_, _, hwg⟩, hcom.j2⟩
 have hq := hcom.old i g hi0 hi hg
 cases hqi : q i with
 | zero => rw [hqi] at hq; rw [hq.1] at hrun; cases hrun
 | succ k =>
  rw [hqi] at hq
  rcases hq with ⟨hf, _⟩ | ⟨_, g', es, hm, hstp, hq'⟩
  ·rw [hf] at hrun; cases hrun
  have hne0 : (i == 0) = false := by simp; omega
  have hlt' : i < gs.size := (Array.getElem?_eq_some_iff.1 hg).1
  have hrunT := runT_crowd_go (P := P) (sl := sl) (i := i) hg (by rw [hne0]; exact hstp w)
  obtain ⟨mt', T0', hcs', htag, hwk⟩ := hcs.wokenBy F.ar (Rely.refl _ w) hjj g g'
  have htouch : ∀ op ∈ MemOp.ofEvents i g.frame.fn g.frame.place es, op.act.touch? = none := fun op hop => by
   obtain ⟨e, he, rfl⟩ := Go.Conc.mem_ofEvents hop
   exact touch_mute (hm e he)
  refine ⟨_, _, (mt'.phi n (Vc j D) + sumTo j u + sumTo s0 (upd q i k), V, mt'.minor, T0'), hrunT, MuLt.of_fst ?_, _, w, sl, j, D, u, V, upd q i k, Q, mt', T0', d0, woken P g g' w a, st, sm, rfl, ?_, hj, hcs', ?_, hwg, ?_, rfl⟩
  ·simp only [MTag.phi_retag n _ htag]
   have := sumTo_drop (f := q) (k := k) hi (by omega)
   omega
  ·rw [get_map_set _ _ _ _ (by omega), ha]; rfl
  ·refine ⟨by simp [hcom.size], fun k' hk => ?_, fun k' x hk hk2 hx' => ?_, hcom.tr.shared (x := i) (fun op hop => ⟨ofEvents_g op hop, fun b hb => by rw [htouch op hop] at hb; cases hb⟩) (fun op hop b hb => by rw [htouch op hop] at hb; cases hb),
    hcom.hd.app (fun op hop b hb => by rw [htouch op hop] at hb; cases hb) (fun op hop => .inr (.inr (htouch op hop))), ?_, by rw [Array.size_append]; have := hcom.begun; omega, ?_, fun k' hk => ?_, ?_, fun k' hk hst => ?_, hcom.don, hcom.xs, hcom.x0, hcom.s2, hcom.s2l, hcom.j2⟩
   ·obtain ⟨y, hy, hys⟩ := hcom.wk k' hk
    refine ⟨y, ?_, hys⟩
    rw [get_map_set _ _ _ _ (by omega), hy, Option.map_some, hys.woken hjj]
   ·by_cases e : i = k'
    ·subst e
     rw [get_map_set_same _ _ _ hlt'] at hx'
     obtain rfl := Option.some.inj hx'
     rw [upd_same, Deaf_own]
     exact hq'
    ·rw [get_map_set _ _ _ _ e] at hx'
     obtain ⟨y, hy, rfl⟩ := Option.map_eq_some_iff.1 hx'
     have hq2 := hcom.old k' y hk hk2 hy
     rw [woken_quitsD hq2, upd_ne _ _ (Ne.symm e), Deaf_other t (by omega) _ ofEvents_g]
     exact hq2
   ·intro k' hk0 hk
    by_cases hks : k' < t.size
    ·rw [act?_old hks] at hk
     exact hcom.norel k' hk0 hk
    ·unfold Trace.act? at hk
     obtain ⟨op, ho, hoa⟩ := Option.map_eq_some_iff.1 hk
     rcases getElem?_append_cases ho with ⟨h1, _⟩ | ⟨_, h1⟩
     ·exact hks h1
     ·obtain ⟨e, he, rfl⟩ := Go.Conc.mem_ofEvents h1
      have hl := Go.ConcR.loc_of_ofEvent hoa
      have hmu := hm e he
      obtain ⟨loc, wr, sy⟩ := e
      simp only at hl
      subst hl
      simp [Event.mute] at hmu
   ·rw [Deaf_other t (g' := i) (by omega) _ ofEvents_g]
    exact hcom.deaf0
   ·rw [Deaf_other t (g' := i) (by omega) _ ofEvents_g]
    exact hcom.deafW k' hk
   ·have : ((gs.map (woken P g g' w)).setIfInBounds i g').size = gs.size := by simp
    rw [this]
    exact hcom.nums.app fun op hop => by rw [ofEvents_g op hop]; exact hlt'
   ·obtain ⟨r, hr0, hr⟩ := hcom.rel k' hk hst
    exact ⟨r, hr0, hr.appOther ofEvents_g (by omega)⟩
  ·exact hmode.retag (by
    rcases htag with rfl | ⟨rfl, rfl⟩
    ·exact .inl rfl
    ·exact .inr ⟨rfl, rfl⟩)
end
end
end Go.Eng
namespace Go.Eng
noncomputable section
open Go.Conc
open Go.ConcN (PermW fork_knows RelBy upd upd_same upd_ne sumTo sumTo_upd sumTo_upd_out sumTo_congr le_sumTo WgLive ShN RW DWs AtR0 AtK1 AtD1 AtD2 AtD3 AtD4 WSit WD CTag cnt Vc Vc_upd Vc_le AllQuit OpenSt get_map_set get_map_set_same isW3 isOpen isFin pend bk_cell others_uncounted allQuit_of bk_dis bk_en bk_rd bk_rw bk_sem)
open Go.ConcR (KK wgBlock WgAt stA smA rd mk Payload Bk ofEvent_loc_mark ofEvent_mk ofEvent_cell bk_of_mute)
set_option linter.unusedSimpArgs false
set_option linter.unusedVariables false
set_option linter.unusedSectionVars false
section
variable [Payload]
def Done (P : Program) (ty : TypeId) (Wg : Nat) (J2 : World → Prop) (Don : Nat → Nat → World → Prop) (n : Nat) (KE : KP) (Sh : Loc → Prop) (s0 : Nat) (m : Machine) (t : Trace) : Prop :=
 ∃ (gs : Array Goroutine) (w : World) (sl : Option (Nat × Nat)) (a : Goroutine) (O W : Nat → Prop) (q : Nat → Nat), m = crowd gs w sl ∧ gs.size = s0 + n ∧ gs[0]? = some a ∧ KE O W a w ∧ JJ ty Wg J2 w ∧ (∀ i, i < n → ∀ k, Don i k w) ∧
  ∀ O2 W2 : Nat → Prop, (∀ b, O2 b → b < w.heap.size ∧ ¬ Sh (.obj b) ∧ ∀ c : Addr, c.block = b → ¬ Sh (.cell c)) → (∀ b, W2 b → O2 b) → BS P Sh O2 W2 gs w t q
variable {P : Program} {ty : TypeId} {Wg : Nat} {J2 : World → Prop} {X : Nat → Addr → Prop} {Don : Nat → Nat → World → Prop} {S2 : Nat → Prop} {n : Nat} {KE Anch : KP} {Sh : Loc → Prop} {s0 p0 : Nat}
variable {j : Nat} {gs : Array Goroutine} {w w' : World} {t : Trace} {Q : Nat → Gh} {D : Nat → WD} {u : Nat → Nat} {V : Nat → Tk} {q : Nat → Nat} {d0 : Nat} {sl : Option (Nat × Nat)} {mt : MTag} {T0 : Tk} {a : Goroutine} {st sm : Int}
theorem norel_app {p0 : Nat} {a : Addr} {x : Nat} {fn : FuncId} {pos : String} {es : Array Event} (h : ∀ k, p0 ≤ k → t.act? k ≠ some (.mark (.release a))) (hnr : ∀ e ∈ es, e.loc ≠ .mark (.release a)) : ∀ k, p0 ≤ k → (t ++ MemOp.ofEvents x fn pos es).act? k ≠ some (.mark (.release a)) := by
 intro k hk0 hk
 by_cases hks : k < t.size
 ·rw [act?_old hks] at hk
  exact h k hk0 hk
 ·unfold Trace.act? at hk
  obtain ⟨op, ho, hoa⟩ := Option.map_eq_some_iff.1 hk
  rcases getElem?_append_cases ho with ⟨h1, _⟩ | ⟨_, h1⟩
  ·exact hks h1
  ·obtain ⟨e, he, rfl⟩ := Go.Conc.mem_ofEvents h1
   exact hnr e he (Go.ConcR.loc_of_ofEvent hoa)
theorem CM.step0 (F : Fix P ty Wg J2 X Don S2 n KE Anch Sh s0) (ha : gs[0]? = some a) (hcom : CM P ty Wg J2 X Don S2 n Sh s0 p0 j gs w t Q D u V q d0) (hwg : WgAt ty Wg w st sm)
  {a' : Goroutine} {es : Array Event} {d0' : Nat} {q' : Gh} {st' sm' : Int} (fn : FuncId) (pos : String)
  (hm : Mv Wg S2 (Q 0).W (fun _ => False) w w') (htr : TR Sh (Lv s0 j) (upd Q 0 q') w'.heap.size (t ++ MemOp.ofEvents 0 fn pos es))
  (hhd : ∀ op ∈ MemOp.ofEvents 0 fn pos es, ∀ b, op.act.touch? = some b → b.kind = .plain ∨ Sh b.loc)
  (hx : q'.X = (Q 0).X) (hs2 : ∀ b, q'.O b → ¬ S2 b) (hnr : ∀ e ∈ es, e.loc ≠ .mark (.release (stA Wg))) (hdeaf : deafBehind d0 es = d0') (hj2 : J2 w') (hwg' : WgAt ty Wg w' st' sm') :
  CM P ty Wg J2 X Don S2 n Sh s0 p0 j ((gs.map (woken P a a' w')).setIfInBounds 0 a') w' (t ++ MemOp.ofEvents 0 fn pos es) (upd Q 0 q') D u V q d0' := by
 have hjj : JJ ty Wg J2 w := ⟨⟨_, _, hwg⟩, hcom.j2⟩
 have hjj' : JJ ty Wg J2 w' := ⟨⟨_, _, hwg'⟩, hj2⟩
 have hpos := F.pos
 have hlt' : 0 < gs.size := (Array.getElem?_eq_some_iff.1 ha).1
 have hqw : ∀ i, upd Q 0 q' (s0 + i) = Q (s0 + i) := fun i => upd_ne _ _ (by omega)
 refine ⟨by simp [hcom.size], fun k hk => ?_, fun k x hk hk2 hx' => ?_, htr, hcom.hd.app hhd (fun op hop => .inl (ofEvents_g op hop)), norel_app hcom.norel hnr, by rw [Array.size_append]; have := hcom.begun; omega, ?_, fun k hk => ?_, ?_, fun k hk hst => ?_, fun k hk kk hu => ?_, fun k hk => ?_, ?_, fun x hx' b hb => ?_, fun b hb => Nat.lt_of_lt_of_le (hcom.s2l b hb) hm.size, hj2⟩
 ·obtain ⟨y, hy, hys⟩ := hcom.wk k hk
  rw [hqw]
  refine ⟨y, ?_, hys.rely (hcom.relies F lv0 (lvw hk) (by omega) hm) hjj'⟩
  rw [get_map_set _ _ _ _ (by omega), hy, Option.map_some, hys.woken hjj]
 ·rw [get_map_set _ _ _ _ (by omega)] at hx'
  obtain ⟨y, hy, rfl⟩ := Option.map_eq_some_iff.1 hx'
  have hq := hcom.old k y hk hk2 hy
  rw [woken_quitsD hq, Deaf_other t (by omega) _ ofEvents_g]
  exact hq
 ·rw [Deaf_own, hcom.deaf0]
  exact hdeaf
 ·rw [Deaf_other t (g' := 0) (by omega) _ ofEvents_g]
  exact hcom.deafW k hk
 ·have : ((gs.map (woken P a a' w')).setIfInBounds 0 a').size = gs.size := by simp
  rw [this]
  exact hcom.nums.app fun op hop => by rw [ofEvents_g op hop]; exact hlt'
 ·obtain ⟨r, hr0, hr⟩ := hcom.rel k hk hst
  exact ⟨r, hr0, hr.appOther ofEvents_g (by omega)⟩
 ·exact F.don k kk w w' (fun c hc => hm.cell c (F.xs k c hc) id) (hcom.don k hk kk hu)
 ·rw [hqw]
  exact hcom.xs k hk
 ·rw [upd_same, hx]
  exact hcom.x0
 ·by_cases e : x = 0
  ·subst e
   rw [upd_same] at hb
   exact hs2 b hb
  ·rw [upd_ne _ _ e] at hb
   exact hcom.s2 x hx' b hb
theorem mainStep (F : Fix P ty Wg J2 X Don S2 n KE Anch Sh s0) (ha : gs[0]? = some a) (hj : j ≤ n) (hcom : CM P ty Wg J2 X Don S2 n Sh s0 p0 j gs w t Q D u V q d0) (hwg : WgAt ty Wg w st sm)
  {a' : Goroutine} {es : Array Event} {d0' : Nat} {q' : Gh} {st' sm' : Int} {mt' : MTag} {T0' : Tk} (hgo : stepG P true a w = .go a' w' es)
  (hm : Mv Wg S2 (Q 0).W (fun _ => False) w w') (htr : TR Sh (Lv s0 j) (upd Q 0 q') w'.heap.size (t ++ MemOp.ofEvents 0 a.frame.fn a.frame.place es))
  (hhd : ∀ op ∈ MemOp.ofEvents 0 a.frame.fn a.frame.place es, ∀ b, op.act.touch? = some b → b.kind = .plain ∨ Sh b.loc)
  (hx : q'.X = (Q 0).X) (hs2 : ∀ b, q'.O b → ¬ S2 b) (hnr : ∀ e ∈ es, e.loc ≠ .mark (.release (stA Wg))) (hdeaf : deafBehind d0 es = d0') (hj2 : J2 w') (hwg' : WgAt ty Wg w' st' sm')
  (hcs' : MSit P ty Wg J2 X Don S2 n KE Anch mt' j T0' d0' q'.O q'.W a' w') (hmode : ConcN.Mode j D mt'.c st' sm')
  (hlt : mt'.phi n (Vc j D) < mt.phi n (Vc j D) ∨ (mt'.phi n (Vc j D) = mt.phi n (Vc j D) ∧ (mt'.minor < mt.minor ∨ (mt'.minor = mt.minor ∧ Tk.Lt T0' T0)))) :
  Nx P ty Wg J2 X Don S2 n KE Anch Sh s0 p0 gs w sl t 0 (mt.phi n (Vc j D) + sumTo j u + sumTo s0 q, V, mt.minor, T0) := by
 have hrun := runT_crowd_go (P := P) (sl := sl) (i := 0) ha (by simpa using hgo)
 have hlt' : 0 < gs.size := (Array.getElem?_eq_some_iff.1 ha).1
 refine ⟨_, _, (mt'.phi n (Vc j D) + sumTo j u + sumTo s0 q, V, mt'.minor, T0'), hrun, ?_, _, w', sl, j, D, u, V, q, upd Q 0 q', mt', T0', d0', a', st', sm', rfl, by simp [hlt'], hj, by rw [upd_same]; exact hcs', hcom.step0 F ha hwg a.frame.fn a.frame.place hm htr hhd hx hs2 hnr hdeaf hj2 hwg', hwg', hmode, rfl⟩
 rcases hlt with h | ⟨h, h2⟩
 ·exact MuLt.of_fst (by show _ + _ + _ < _; omega)
 ·rw [h]
  refine Prod.Lex.right _ (Prod.Lex.right _ ?_)
  rcases h2 with h2 | ⟨h2, h3⟩
  ·exact Prod.Lex.left _ _ h2
  ·rw [h2]
   exact Prod.Lex.right _ h3
theorem mainIdle (F : Fix P ty Wg J2 X Don S2 n KE Anch Sh s0) (ha : gs[0]? = some a) (hj : j ≤ n) (hcom : CM P ty Wg J2 X Don S2 n Sh s0 p0 j gs w t Q D u V q d0) (hwg : WgAt ty Wg w st sm) (hmode : ConcN.Mode j D mt.c st sm) {K : KP} {f : World → Tk}
  (h : WillT P true (JJ ty Wg J2) K (.nd f) (Q 0).O (Q 0).W a w) (mk' : ∀ {T : Tk} {O W : Nat → Prop} {g : Goroutine} {w : World}, WillT P true (JJ ty Wg J2) K T O W g w → MSit P ty Wg J2 X Don S2 n KE Anch mt j T d0 O W g w) :
  Nx P ty Wg J2 X Don S2 n KE Anch Sh s0 p0 gs w sl t 0 (mt.phi n (Vc j D) + sumTo j u + sumTo s0 q, V, mt.minor, .nd f) := by
 have hjj : JJ ty Wg J2 w := ⟨⟨_, _, hwg⟩, hcom.j2⟩
 obtain ⟨g', w2, es, hgo, hG, hT'⟩ := h.2 w (Rely.refl _ _) hjj
 have hwgm : w2.heap[Wg]? = w.heap[Wg]? := by
  have hl := (hcom.tr.shl (.cell ⟨Wg, 0, none⟩) (F.sh _ ⟨_, rfl, rfl⟩) : Wg < w.heap.size)
  exact hG.keep Wg hl fun hw => hcom.notWg F lv0 (hcom.wo lv0 hw) rfl
 refine mainStep F ha hj hcom hwg hgo (hcom.mv F lv0 hG) (q' := (Q 0).grow w w2) (hcom.tr.step lv0 hG _ _) (fun op hop b hb => ?_) rfl (fun b hb hs => ?_) (fun e he => (fine_act (X := fun _ => False) (hG.evs e he)).2.2.2.2 _) (hG.still_deaf d0)
  (F.j2 w w2 (fun b hb => hG.keep b (hcom.s2l b hb) fun hw => hcom.s2 _ lv0 b (hcom.wo lv0 hw) hb) hcom.j2) (hwg.of_block hwgm) (mk' hT') hmode (.inr ⟨rfl, .inr ⟨rfl, .mk f w⟩⟩)
 ·obtain ⟨e, he, rfl⟩ := Go.Conc.mem_ofEvents hop
  exact .inl ((fine_act (X := fun _ => False) (hG.evs e he)).1 b hb).1
 ·rcases grow_sub hb with h1 | h1
  ·exact hcom.s2 _ lv0 b h1 hs
  ·have := hcom.s2l b hs
   omega
theorem mainBook (F : Fix P ty Wg J2 X Don S2 n KE Anch Sh s0) (ha : gs[0]? = some a) (hj : j ≤ n) (hcom : CM P ty Wg J2 X Don S2 n Sh s0 p0 j gs w t Q D u V q d0) (hwg : WgAt ty Wg w st sm)
  {a' : Goroutine} {es : Array Event} {d0' : Nat} {st' sm' : Int} {mt' : MTag} {T0' : Tk} (hgo : stepG P true a w = .go a' w' es) (hAs : Aside Wg w w') (hwg' : WgAt ty Wg w' st' sm')
  (hbk : ∀ e ∈ es, Bk Wg e ∨ ∃ m, e = mk m ∧ (m = .read (smA Wg) ∨ m = .write (smA Wg))) (hdeaf : deafBehind d0 es = d0')
  (hcs' : MSit P ty Wg J2 X Don S2 n KE Anch mt' j T0' d0' (Q 0).O (Q 0).W a' w') (hmode : ConcN.Mode j D mt'.c st' sm')
  (hlt : mt'.phi n (Vc j D) < mt.phi n (Vc j D) ∨ (mt'.phi n (Vc j D) = mt.phi n (Vc j D) ∧ (mt'.minor < mt.minor ∨ (mt'.minor = mt.minor ∧ Tk.Lt T0' T0)))) :
  Nx P ty Wg J2 X Don S2 n KE Anch Sh s0 p0 gs w sl t 0 (mt.phi n (Vc j D) + sumTo j u + sumTo s0 q, V, mt.minor, T0) := by
 have hsh : ∀ op ∈ MemOp.ofEvents 0 a.frame.fn a.frame.place es, op.g = 0 ∧ ∀ b, op.act.touch? = some b → Sh b.loc ∧ b.kind ≠ .plain ∧ (b.kind = .said → (0 : Nat) = 0) := by
  intro op hop
  rw [Go.Conc.ofEvents_eq] at hop
  obtain ⟨e, he, rfl⟩ := Array.mem_map.1 hop
  refine ⟨rfl, fun b hb => ?_⟩
  rcases hbk e he with (h1 | h1 | ⟨ad, wr, rfl, had⟩) | ⟨m, rfl, rfl | rfl⟩
  ·simp only [ofEvent_loc_mark h1] at hb; cases hb
  ·simp only [ofEvent_loc_mark h1] at hb; cases hb
  ·simp only [ofEvent_cell, MemAct.touch?, Option.some.injEq] at hb
   subst hb
   exact ⟨F.sh _ ⟨ad, rfl, had⟩, by simp, by simp⟩
  ·simp only [ofEvent_mk, MemAct.touch?, Option.some.injEq] at hb
   subst hb
   exact ⟨F.sh _ ⟨_, rfl, rfl⟩, by simp, by simp⟩
  ·simp only [ofEvent_mk, MemAct.touch?, Option.some.injEq] at hb
   subst hb
   exact ⟨F.sh _ ⟨_, rfl, rfl⟩, by simp, by simp⟩
 refine mainStep F ha hj hcom hwg hgo (mv_aside F hAs) (q' := Q 0) (by rw [upd_self, hAs.size]; exact hcom.tr.shared hsh fun op hop b hb => hcom.tr.shl _ ((hsh op hop).2 b hb).1) (fun op hop b hb => .inr ((hsh op hop).2 b hb).1) rfl (hcom.s2 _ lv0) (fun e he hl => ?_) hdeaf (j2_aside F hAs hcom.j2) hwg' hcs' hmode hlt
 rcases hbk e he with (h1 | h1 | ⟨ad, wr, rfl, had⟩) | ⟨m, rfl, rfl | rfl⟩
 ·rw [h1] at hl; cases hl
 ·rw [h1] at hl; cases hl
 ·cases hl
 ·simp [mk] at hl
 ·simp [mk] at hl
end
end
end Go.Eng
namespace Go.Eng
noncomputable section
open Go.Conc
open Go.ConcN (PermW fork_knows RelBy upd upd_same upd_ne sumTo sumTo_upd sumTo_upd_out sumTo_congr le_sumTo WgLive ShN RW DWs AtR0 AtK1 AtD1 AtD2 AtD3 AtD4 WSit WD CTag cnt Vc Vc_upd Vc_le AllQuit OpenSt get_map_set get_map_set_same isW3 isOpen isFin pend bk_cell others_uncounted allQuit_of bk_dis bk_en bk_rd bk_rw bk_sem)
open Go.ConcR (KK wgBlock WgAt stA smA rd mk Payload Bk ofEvent_loc_mark ofEvent_mk ofEvent_cell bk_of_mute)
set_option linter.unusedSimpArgs false
set_option linter.unusedVariables false
set_option linter.unusedSectionVars false
section
variable [Payload]
variable {P : Program} {ty : TypeId} {Wg : Nat} {J2 : World → Prop} {X : Nat → Addr → Prop} {Don : Nat → Nat → World → Prop} {S2 : Nat → Prop} {n : Nat} {KE Anch : KP} {Sh : Loc → Prop} {s0 p0 : Nat}
variable {j : Nat} {gs : Array Goroutine} {w w' : World} {t : Trace} {Q : Nat → Gh} {D : Nat → WD} {u : Nat → Nat} {V : Nat → Tk} {q : Nat → Nat} {d0 : Nat} {sl : Option (Nat × Nat)} {mt : MTag} {T0 : Tk} {a : Goroutine} {st sm : Int}
theorem bkl {es : Array Event} (h : ∀ e ∈ es, Bk Wg e) : ∀ e ∈ es, Bk Wg e ∨ ∃ m, e = mk m ∧ (m = .read (smA Wg) ∨ m = .write (smA Wg)) := fun e he => .inl (h e he)
theorem w1Step (F : Fix P ty Wg J2 X Don S2 n KE Anch Sh s0) (ha : gs[0]? = some a) (hcom : CM P ty Wg J2 X Don S2 n Sh s0 p0 n gs w t Q D u V q 1) (hwg : WgAt ty Wg w st sm) (hmode : ConcN.Mode n D .w1 st sm)
  (h : WillT P true (JJ ty Wg J2) (nW1 P ty Wg J2 n KE Anch) T0 (Q 0).O (Q 0).W a w) :
  Nx P ty Wg J2 X Don S2 n KE Anch Sh s0 p0 gs w sl t 0 (MTag.w1.phi n (Vc n D) + sumTo n u + sumTo s0 q, V, MTag.w1.minor, T0) := by
 have hjj : JJ ty Wg J2 w := ⟨⟨_, _, hwg⟩, hcom.j2⟩
 cases T0 with
 | lf =>
  obtain ⟨_, hall⟩ := h w (Rely.refl _ _) hjj
  obtain ⟨ho, rfl, rfl, _⟩ := hmode.open_inv trivial
  have hV := Vc_le n D
  obtain ⟨a', hgo, h0, hne⟩ := hall (Vc n D) hV (by simpa [pend] using hwg)
  by_cases hv : Vc n D = 0
  ·obtain ⟨T', hT'⟩ := (h0 hv).tree
   refine mainBook (mt := .w1) F ha (Nat.le_refl _) hcom hwg hgo (.refl Wg w) hwg (bkl bk_rd) (mt' := .ke) rfl (.ke hT') ?_ (.inl (by simp only [MTag.phi]; omega))
   have e : ((Vc n D + pend .w1 : Nat) : Int) * KK = 0 := by rw [hv]; simp [pend]
   rw [e]
   exact .fin trivial (allQuit_of ho hv)
  ·obtain ⟨T', hT'⟩ := (hne hv).tree
   exact mainBook (mt := .w1) F ha (Nat.le_refl _) hcom hwg hgo (.refl Wg w) hwg (bkl bk_rd) (mt' := .w2 (Vc n D)) rfl (.w2 hT') (hmode.reopen trivial trivial rfl (fun vs e => by cases e; omega)) (.inl (by simp only [MTag.phi]; omega))
 | nd f => exact mainIdle (mt := .w1) F ha (Nat.le_refl _) hcom hwg hmode h .w1
theorem sumTo_top (f : Nat → Nat) (j : Nat) (x : Nat) : sumTo (j + 1) (upd f j x) = sumTo j f + x := by
 simp only [sumTo, upd_same]
 rw [show sumTo j (upd f j x) = sumTo j f from sumTo_upd_out f x id (Nat.le_refl _)]
theorem Vc_top (D : Nat → WD) (j : Nat) (x : WD) : Vc (j + 1) (upd D j x) = Vc j D + cnt x := by
 simp only [Vc, sumTo, upd_same]
 rw [sumTo_upd_out D _ cnt (Nat.le_refl _)]
theorem CM.spawn (F : Fix P ty Wg J2 X Don S2 n KE Anch Sh s0) (ha : gs[0]? = some a) (hcom : CM P ty Wg J2 X Don S2 n Sh s0 p0 j gs w t Q D u V q 0) (hwg : WgAt ty Wg w st sm) (hjn : j < n)
  {a' child : Goroutine} {O0 W0 O1 W1 : Nat → Prop} {k : Nat} {T' : Tk} (c1 : ∀ b, W0 b → (Q 0).W b ∧ O0 b ∧ ¬ O1 b) (c2 : ∀ b, O0 b → (Q 0).O b ∧ ¬ W1 b) (c3 : ∀ b, W1 b → (Q 0).W b ∧ O1 b) (c4 : ∀ b, O1 b → (Q 0).O b) (c5 : ∀ k', k ≤ k' → Don j k' w)
  (hT' : WillT P false (JJ ty Wg J2) (WkK P ty Wg J2 X Don S2 j k) T' O1 W1 child w) {x y : MemOp} (hx : x.g = 0 ∧ x.act = .go (s0 + j)) (hy : y.g = s0 + j ∧ y.act = .start) :
  CM P ty Wg J2 X Don S2 n Sh s0 p0 (j + 1) ((gs.setIfInBounds 0 a').push child) w (t ++ #[x, y]) (upd (upd Q 0 ⟨O0, W0, fun a => ∃ i, j + 1 ≤ i ∧ i < n ∧ X i a⟩) (s0 + j) ⟨O1, W1, X j⟩) (upd D j ⟨7, 0, 0⟩) (upd u j (8 + k)) (upd V j T') q 0 := by
 have hpos := F.pos
 have hlt' : 0 < gs.size := (Array.getElem?_eq_some_iff.1 ha).1
 have hnt : ∀ op ∈ #[x, y], op.act.touch? = none := by
  intro op hop
  simp only [List.mem_toArray, List.mem_cons, List.not_mem_nil, or_false] at hop
  rcases hop with rfl | rfl
  ·rw [hx.2]; rfl
  ·rw [hy.2]; rfl
 have hgx : ∀ op ∈ #[x, y], op.g = 0 ∨ op.g = s0 + j := by
  intro op hop
  simp only [List.mem_toArray, List.mem_cons, List.not_mem_nil, or_false] at hop
  rcases hop with rfl | rfl
  ·exact .inl hx.1
  ·exact .inr hy.1
 have hdc : Deaf t (s0 + j) = 0 := hcom.nums.deaf (by rw [hcom.size]; exact Nat.le_refl _)
 have hxy : (#[x, y] : Trace) = #[x] ++ #[y] := rfl
 have hdeaf : ∀ z, Deaf (t ++ #[x, y]) z = Deaf t z := by
  intro z
  have h1 := Deaf_append t z [x, y]
  rw [show (t ++ #[x, y]) = t ++ [x, y].toArray from rfl, h1]
  simp [deafStep, hx.2, hy.2]
 have ns2 : ∀ b, (Q 0).O b → ¬ S2 b := hcom.s2 0 lv0
 have wo : ∀ b, (Q 0).W b → (Q 0).O b := fun b => hcom.wo lv0
 have hX0 : ∀ i c, j ≤ i → i < n → X i c → (Q 0).X c := fun i c h1 h2 h3 => by rw [hcom.x0]; exact ⟨i, h1, h2, h3⟩
 have htr := hcom.tr.fork lv0 (c := s0 + j) (fun h => by rcases h with h | ⟨_, h⟩ <;> omega) (by omega) hx hy hcom.deaf0 hdc (q0 := ⟨O0, W0, fun a => ∃ i, j + 1 ≤ i ∧ i < n ∧ X i a⟩) (qc := ⟨O1, W1, X j⟩)
  (fun l hl => by
   cases l with
   | cell c =>
    rcases hl with hl | ⟨i, h1, h2, h3⟩
    ·obtain ⟨d1, d2, d3⟩ := c1 _ hl
     exact ⟨.inl d1, fun h => h.elim d3 fun h => ns2 _ (wo _ d1) (F.xs j c h)⟩
    ·refine ⟨.inr (hX0 i c (by omega) h2 h3), fun h => h.elim (fun h => ns2 _ (c4 _ h) (F.xs i c h3)) fun h => ?_⟩
     have := F.xd i j c h3 h
     omega
   | obj b =>
    obtain ⟨d1, d2, d3⟩ := c1 _ hl
    exact ⟨d1, d3⟩
   | _ => exact hl.elim)
  (fun l hl => by
   cases l with
   | cell c =>
    rcases hl with hl | ⟨i, h1, h2, h3⟩
    ·obtain ⟨d1, d2⟩ := c2 _ hl
     exact ⟨.inl d1, fun h => h.elim d2 fun h => ns2 _ d1 (F.xs j c h)⟩
    ·refine ⟨.inr (hX0 i c (by omega) h2 h3), fun h => h.elim (fun h => ns2 _ (wo _ (c3 _ h).1) (F.xs i c h3)) fun h => ?_⟩
     have := F.xd i j c h3 h
     omega
   | obj b => exact c2 _ hl
   | _ => exact hl.elim)
  (fun l hl => by
   cases l with
   | cell c => exact hl.imp (fun h => (c1 _ h).2.1) id
   | obj b => exact (c1 _ hl).2.1
   | _ => exact hl.elim)
  (fun l hl => by
   cases l with
   | cell c => exact hl.imp (fun h => (c3 _ h).1) (hX0 j c (Nat.le_refl _) hjn)
   | obj b => exact (c3 _ hl).1
   | _ => exact hl.elim)
  (fun l hl => by
   cases l with
   | cell c => exact hl.imp (c4 _) (hX0 j c (Nat.le_refl _) hjn)
   | obj b => exact c4 _ hl
   | _ => exact hl.elim)
  (fun l hl => by
   cases l with
   | cell c => exact hl.imp (fun h => (c3 _ h).2) id
   | obj b => exact (c3 _ hl).2
   | _ => exact hl.elim)
 have hqk : ∀ i, i < j → upd (upd Q 0 ⟨O0, W0, fun a => ∃ i, j + 1 ≤ i ∧ i < n ∧ X i a⟩) (s0 + j) ⟨O1, W1, X j⟩ (s0 + i) = Q (s0 + i) := fun i hi => by rw [upd_ne _ _ (by omega), upd_ne _ _ (by omega)]
 have hq0 : upd (upd Q 0 ⟨O0, W0, fun a => ∃ i, j + 1 ≤ i ∧ i < n ∧ X i a⟩) (s0 + j) ⟨O1, W1, X j⟩ 0 = ⟨O0, W0, fun a => ∃ i, j + 1 ≤ i ∧ i < n ∧ X i a⟩ := by rw [upd_ne _ _ (by omega), upd_same]
 have hget : ∀ i, 0 < i → i < s0 + j → ((gs.setIfInBounds 0 a').push child)[i]? = gs[i]? := by
  intro i h0 h1
  rw [Array.getElem?_push]
  have e1 : i ≠ (gs.setIfInBounds 0 a').size := by simp [hcom.size]; omega
  rw [if_neg e1, Array.getElem?_setIfInBounds_ne (by omega)]
 have hsz : ((gs.setIfInBounds 0 a').push child).size = s0 + (j + 1) := by simp [hcom.size]; omega
 refine ⟨hsz, fun i hi => ?_, fun i g h0 h1 hg => ?_, ?_, hcom.hd.app (fun op hop b hb => by rw [hnt op hop] at hb; cases hb) (fun op hop => .inr (.inr (hnt op hop))), ?_, by rw [Array.size_append]; have := hcom.begun; omega, ?_, fun i hi => ?_, ?_, fun i hi hst => ?_, fun i hi kk hu => ?_, fun i hi => ?_, ?_, fun z hz b hb => ?_, hcom.s2l, hcom.j2⟩
 ·by_cases e : i = j
  ·subst e
   rw [upd_same, upd_same, upd_same, upd_same]
   refine ⟨child, ?_, .work hT'⟩
   rw [Array.getElem?_push]
   simp [hcom.size]
  ·obtain ⟨y', hy', hys⟩ := hcom.wk i (by omega)
   rw [upd_ne _ _ e, upd_ne _ _ e, upd_ne _ _ e, hqk i (by omega)]
   exact ⟨y', by rw [hget _ (by omega) (by omega)]; exact hy', hys⟩
 ·rw [hdeaf]
  rw [hget i h0 (by omega)] at hg
  exact hcom.old i g h0 h1 hg
 ·refine htr.weaken fun z hz => ⟨?_, fun l hl => ⟨hl, ?_⟩, fun l hl => hl⟩
  ·rcases hz with hz | ⟨h1, h2⟩
   ·exact .inl (.inl hz)
   ·by_cases e : z = s0 + j
    ·exact .inr e
    ·exact .inl (.inr ⟨h1, by omega⟩)
  ·exact htr.sub z (by
    rcases hz with hz | ⟨h1, h2⟩
    ·exact .inl (.inl hz)
    ·by_cases e : z = s0 + j
     ·exact .inr e
     ·exact .inl (.inr ⟨h1, by omega⟩)) l hl
 ·intro k' hk0 hk
  by_cases hks : k' < t.size
  ·rw [act?_old hks] at hk
   exact hcom.norel k' hk0 hk
  ·unfold Trace.act? at hk
   obtain ⟨op, ho, hoa⟩ := Option.map_eq_some_iff.1 hk
   rcases getElem?_append_cases ho with ⟨h1, _⟩ | ⟨_, h1⟩
   ·exact hks h1
   ·simp only [List.mem_toArray, List.mem_cons, List.not_mem_nil, or_false] at h1
    rcases h1 with rfl | rfl
    ·rw [hx.2] at hoa; cases hoa
    ·rw [hy.2] at hoa; cases hoa
 ·rw [hdeaf]
  exact hcom.deaf0
 ·rw [hdeaf]
  by_cases e : i = j
  ·subst e
   rw [upd_same]
   exact hdc
  ·rw [upd_ne _ _ e]
   exact hcom.deafW i (by omega)
 ·rw [hsz]
  refine Numbered.app (fun op hop => ?_) (fun op hop => ?_)
  ·have := hcom.nums op hop
   rw [hcom.size] at this
   omega
  ·rcases hgx op hop with h | h <;> omega
 ·by_cases e : i = j
  ·subst e
   rw [upd_same] at hst
   simp at hst
  ·rw [upd_ne _ _ e] at hst
   obtain ⟨r, hr0, hr⟩ := hcom.rel i (by omega) hst
   refine ⟨r, hr0, hr.app fun i' hi' hg' hc => ?_⟩
   obtain ⟨b, hb, _⟩ := hc
   obtain ⟨op, hop, hox⟩ := touch_of hb
   rcases getElem?_append_cases hop with ⟨h1, _⟩ | ⟨_, h1⟩
   ·omega
   ·rw [hnt op h1] at hox
    cases hox
 ·by_cases e : i = j
  ·subst e
   rw [upd_same] at hu
   exact c5 kk (by omega)
  ·rw [upd_ne _ _ e] at hu
   exact hcom.don i (by omega) kk hu
 ·by_cases e : i = j
  ·subst e
   rw [upd_same]
  ·rw [hqk i (by omega)]
   exact hcom.xs i (by omega)
 ·rw [hq0]
 ·rcases hz with rfl | ⟨h1, h2⟩
  ·rw [hq0] at hb
   exact ns2 _ (c2 _ hb).1
  ·by_cases e : z = s0 + j
   ·subst e
    rw [upd_same] at hb
    exact ns2 _ (c4 _ hb)
   ·obtain ⟨i, rfl⟩ : ∃ i, z = s0 + i := ⟨z - s0, by omega⟩
    rw [hqk i (by omega)] at hb
    exact hcom.s2 (s0 + i) (lvw (by omega)) b hb
end
end
end Go.Eng
namespace Go.Eng
noncomputable section
open Go.Conc
open Go.ConcN (PermW fork_knows RelBy upd upd_same upd_ne sumTo sumTo_upd sumTo_upd_out sumTo_congr le_sumTo WgLive ShN RW DWs AtR0 AtK1 AtD1 AtD2 AtD3 AtD4 WSit WD CTag cnt Vc Vc_upd Vc_le AllQuit OpenSt get_map_set get_map_set_same isW3 isOpen isFin pend bk_cell others_uncounted allQuit_of bk_dis bk_en bk_rd bk_rw bk_sem exists_counted)
open Go.ConcR (KK wgBlock WgAt stA smA rd mk Payload Bk ofEvent_loc_mark ofEvent_mk ofEvent_cell bk_of_mute)
set_option linter.unusedSimpArgs false
set_option linter.unusedVariables false
set_option linter.unusedSectionVars false
section
variable [Payload]
variable {P : Program} {ty : TypeId} {Wg : Nat} {J2 : World → Prop} {X : Nat → Addr → Prop} {Don : Nat → Nat → World → Prop} {S2 : Nat → Prop} {n : Nat} {KE Anch : KP} {Sh : Loc → Prop} {s0 p0 : Nat}
variable {j : Nat} {gs : Array Goroutine} {w w' : World} {t : Trace} {Q : Nat → Gh} {D : Nat → WD} {u : Nat → Nat} {V : Nat → Tk} {q : Nat → Nat} {d0 : Nat} {sl : Option (Nat × Nat)} {mt : MTag} {T0 : Tk} {a : Goroutine} {st sm : Int}
theorem tail_quits {c : Nat} {v : Value} {s m d : Nat} {g : Goroutine} (h : Tail P ty Wg c v s m d g w) (hs : s = 1) : QuitsD P m d g := by
 cases h <;> first | (exact absurd hs (by decide)) | assumption
theorem done_of (F : Fix P ty Wg J2 X Don S2 n KE Anch Sh s0) (ha : gs[0]? = some a) (hcom : CM P ty Wg J2 X Don S2 n Sh s0 p0 n gs w t Q D u V q 0) (hwg : WgAt ty Wg w st sm) (hq : AllQuit n D)
  {a' : Goroutine} (hgo : stepG P true a w = .go a' w #[mk (.acquire (stA Wg))]) (hK : KE (Q 0).O (Q 0).W a' w) :
  ∃ m' ops, runT P (crowd gs w sl) 0 = (.next m', ops) ∧ Done P ty Wg J2 Don n KE Sh s0 m' (t ++ ops) := by
 have hjj : JJ ty Wg J2 w := ⟨⟨_, _, hwg⟩, hcom.j2⟩
 have hpos := F.pos
 have hrun := runT_crowd_go (P := P) (sl := sl) (i := 0) ha (by simpa using hgo)
 have hlt' : 0 < gs.size := (Array.getElem?_eq_some_iff.1 ha).1
 have htouch : ∀ op ∈ MemOp.ofEvents 0 a.frame.fn a.frame.place #[mk (.acquire (stA Wg))], op.act.touch? = none := by
  intro op hop
  obtain ⟨e, he, rfl⟩ := Go.Conc.mem_ofEvents hop
  simp at he
  subst he
  rfl
 have hcom' := hcom.step0 F ha hwg (a' := a') (es := #[mk (.acquire (stA Wg))]) (d0' := 0) (q' := Q 0) a.frame.fn a.frame.place (mv_aside F (.refl Wg w))
  (by rw [upd_self]; exact hcom.tr.shared (x := 0) (fun op hop => ⟨ofEvents_g op hop, fun b hb => by rw [htouch op hop] at hb; cases hb⟩) (fun op hop b hb => by rw [htouch op hop] at hb; cases hb))
  (fun op hop b hb => by rw [htouch op hop] at hb; cases hb) rfl (hcom.s2 _ lv0) (by intro e he; simp at he; subst he; simp [mk]) (by simp [deafBehind, mk]) hcom.j2 hwg
 rw [upd_self] at hcom'
 generalize hgs : (gs.map (woken P a a' w)).setIfInBounds 0 a' = gs2 at hcom' hrun
 have hsz2 : gs2.size = s0 + n := hcom'.size
 have h02 : gs2[0]? = some a' := by rw [← hgs]; exact get_map_set_same _ _ _ hlt'
 generalize ht2 : t ++ MemOp.ofEvents 0 a.frame.fn a.frame.place #[mk (.acquire (stA Wg))] = t2 at hcom'
 have e1 : MemOp.ofEvents 0 a.frame.fn a.frame.place #[mk (.acquire (stA Wg))] = #[{ g := 0, fn := a.frame.fn, pos := a.frame.place, act := .mark (.acquire (stA Wg)) }] := by rw [Go.Conc.ofEvents_eq]; simp [ofEvent_mk]
 have hy : t2[t.size]? = some { g := 0, fn := a.frame.fn, pos := a.frame.place, act := .mark (.acquire (stA Wg)) } := by rw [← ht2, e1]; simp
 have hheard : t2.heard t.size := ⟨0, by simp [Trace.g?, hy], by rw [← ht2, deaf_old (Nat.le_refl _)]; exact hcom.deaf0⟩
 have hrelq : ∀ i, i < n → ∃ r, p0 ≤ r ∧ RelBy (stA Wg) t2 (s0 + i) r ∧ r < t.size := fun i hi => by
  obtain ⟨r, hr0, hr⟩ := hcom.rel i hi (by rw [hq i hi]; omega)
  exact ⟨r, hr0, by rw [← ht2]; exact hr.appOther ofEvents_g (by omega), lt_of_act? hr.act⟩
 have hover : HD Sh (fun _ => False) t2 := by
  refine ⟨hcom'.hd.kind, fun i g hg hne _ hct => ?_⟩
  by_cases hgs0 : s0 ≤ g
  ·have hgn : g < s0 + n := by
    obtain ⟨op, ho, rfl⟩ := Option.map_eq_some_iff.1 hg
    have := hcom'.nums op (Array.mem_of_getElem? ho)
    rwa [hsz2] at this
   obtain ⟨r, hr0, hr, hrq⟩ := hrelq (g - s0) (by omega)
   rw [show s0 + (g - s0) = g by omega] at hr
   have edge : HappensBefore t2 r t.size := .single (.inr ⟨.marked hrq (.inr hr.act) (by rw [act?_of hy]) (fun k hk _ => hcom'.norel k (by omega)), hr.heard, hheard⟩)
   have hle : i ≤ r := Nat.le_of_not_lt fun hlt => hr.after i hlt hg hct
   rcases Nat.lt_or_ge i r with hlt | hge
   ·exact ⟨t.size, by simp [Trace.g?, hy], .trans (.single (.inl ⟨hlt, g, hg, hr.g⟩)) edge⟩
   ·obtain rfl : i = r := by omega
    exact ⟨t.size, by simp [Trace.g?, hy], edge⟩
  ·exact hcom'.hd.over i g hg hne (by omega) hct
 refine ⟨_, _, hrun, gs2, w, sl, a', (Q 0).O, (Q 0).W, (fun i => if i < s0 then q i else (D (i - s0)).fuel), rfl, hsz2, h02, hK, hjj, fun i hi kk => hcom.don i hi kk ?_, fun O2 W2 hO2 hW2 => ?_⟩
 ·obtain ⟨g, hg, hs⟩ := hcom.wk i hi
  have hst := hq i hi
  generalize D i = d at hs hst
  generalize u i = uu at hs ⊢
  generalize V i = vv at hs
  cases hs with
  | work h => simp at hst
  | tail h _ _ =>
   simp only at hst
   omega
 ·rw [ht2]
  refine ⟨fun i g h0 hg => ?_, ?_, hover, hcom'.deaf0, hcom'.nums⟩
  ·by_cases his : i < s0
   ·simp only [his, if_true]
    exact hcom'.old i g h0 his hg
   ·simp only [his, if_false]
    have hin : i < s0 + n := by
     have := (Array.getElem?_eq_some_iff.1 hg).1
     rwa [hsz2] at this
    obtain ⟨g', hg', hs⟩ := hcom'.wk (i - s0) (by omega)
    rw [show s0 + (i - s0) = i by omega, hg] at hg'
    obtain rfl := Option.some.inj hg'
    have hst := hq (i - s0) (by omega)
    have hdw := hcom'.deafW (i - s0) (by omega)
    rw [show s0 + (i - s0) = i by omega] at hdw
    rw [hdw]
    generalize D (i - s0) = d at hs hst
    generalize u (i - s0) = uu at hs
    generalize V (i - s0) = vv at hs
    cases hs with
    | work h => simp at hst
    | tail h _ _ => exact tail_quits h hst
  ·have hlow : ∀ l, (⟨O2, W2, fun _ => False⟩ : Gh).ol l → l.low w.heap.size ∧ ¬ Sh l ∧ l.isMemory = true := by
    intro l hl
    cases l with
    | cell c =>
     have hl : O2 c.block := hl.resolve_right id
     exact ⟨(hO2 _ hl).1, (hO2 _ hl).2.2 c rfl, rfl⟩
    | obj b => exact ⟨(hO2 b hl).1, (hO2 b hl).2.1, rfl⟩
    | _ => exact hl.elim
   have hsub : ∀ l, (⟨O2, W2, fun _ => False⟩ : Gh).wl l → (⟨O2, W2, fun _ => False⟩ : Gh).ol l := by
    intro l hl
    cases l with
    | cell c => exact hl.imp (hW2 _) id
    | obj b => exact hW2 b hl
    | _ => exact hl.elim
   refine ⟨hcom'.tr.quiet, fun x hx l hl => ?_, fun x hx l hl => ?_, hcom'.tr.nr, hcom'.tr.seen, fun x hx l hl => ⟨(hlow l hl).1, (hlow l hl).2.1⟩, fun x hx => hsub, fun x y hx hy hne => absurd (hx.trans hy.symm) hne, hcom'.tr.shl⟩
   ·obtain rfl := hx
    exact hover.perm (hlow l (hsub l hl)).2.2 (hlow l (hsub l hl)).2.1
   ·obtain rfl := hx
    exact .of (hover.perm (hlow l hl).2.2 (hlow l hl).2.1)
set_option maxHeartbeats 1600000 in
theorem stepMain (F : Fix P ty Wg J2 X Don S2 n KE Anch Sh s0) (ha : gs[0]? = some a) (hj : j ≤ n) (hcs : MSit P ty Wg J2 X Don S2 n KE Anch mt j T0 d0 (Q 0).O (Q 0).W a w) (hcom : CM P ty Wg J2 X Don S2 n Sh s0 p0 j gs w t Q D u V q d0) (hwg : WgAt ty Wg w st sm) (hmode : ConcN.Mode j D mt.c st sm) (hrun : a.status = .running) :
  (∃ m' ops, runT P (crowd gs w sl) 0 = (.next m', ops) ∧ Done P ty Wg J2 Don n KE Sh s0 m' (t ++ ops)) ∨ Nx P ty Wg J2 X Don S2 n KE Anch Sh s0 p0 gs w sl t 0 (mt.phi n (Vc j D) + sumTo j u + sumTo s0 q, V, mt.minor, T0) := by
 have hjj : JJ ty Wg J2 w := ⟨⟨_, _, hwg⟩, hcom.j2⟩
 have hVj := Vc_le j D
 have hpos := F.pos
 cases hcs with
 | @skd r _ _ _ _ _ hr h =>
  cases T0 with
  | lf =>
   obtain ⟨_, a', hgo, hk⟩ := h w (Rely.refl _ _) hjj
   obtain ⟨T', hT'⟩ := hk.tree
   exact .inr (mainBook (mt := .sp r 5) F ha hj hcom hwg hgo (.refl Wg w) hwg (bkl bk_dis) (mt' := .sp r 4) (by simp [deafBehind, mk]) (.sa1 hr hT') (hmode.reopen trivial trivial rfl (by simp [MTag.c])) (.inl (by simp only [MTag.phi]; omega)))
  | nd f => exact .inr (mainIdle (mt := .sp r 5) F ha hj hcom hwg hmode h (.skd hr))
 | @sa1 r _ _ _ _ _ hr h =>
  cases T0 with
  | lf =>
   obtain ⟨_, hall⟩ := h w (Rely.refl _ _) hjj
   obtain ⟨ho, rfl, rfl, _⟩ := hmode.open_inv trivial
   obtain ⟨a', hgo, hz, hnz⟩ := hall (Vc (n - (r + 1)) D) hVj (by simpa [pend, MTag.c] using hwg)
   by_cases hv : Vc (n - (r + 1)) D = 0
   ·obtain ⟨T', hT'⟩ := (hz hv).tree
    refine .inr (mainBook (mt := .sp r 4) F ha hj hcom hwg hgo (aside_setCell w (stA Wg) _) (hwg.setSt _) (bkl bk_rw) (mt' := .sp r 3) (by simp [deafBehind, rd, ConcR.wr]) (.srs hr hT') ?_ (.inl (by simp only [MTag.phi]; omega)))
    have e : (((Vc (n - (r + 1)) D : Nat) : Int) + 1) * KK = ((Vc (n - (r + 1)) D + pend (.sp r 3) : Nat) : Int) * KK := by simp [pend]
    rw [e]
    exact .opn trivial ho (by simp [MTag.c])
   ·obtain ⟨T', hT'⟩ := (hnz hv).tree
    refine .inr (mainBook (mt := .sp r 4) F ha hj hcom hwg hgo (aside_setCell w (stA Wg) _) (hwg.setSt _) (bkl bk_rw) (mt' := .sp r 2) (by simp [deafBehind, rd, ConcR.wr]) (.ske hr hT') ?_ (.inl (by simp only [MTag.phi]; omega)))
    have e : (((Vc (n - (r + 1)) D : Nat) : Int) + 1) * KK = ((Vc (n - (r + 1)) D + pend (.sp r 2) : Nat) : Int) * KK := by simp [pend]
    rw [e]
    exact .opn trivial ho (by simp [MTag.c])
  | nd f => exact .inr (mainIdle (mt := .sp r 4) F ha hj hcom hwg hmode h (.sa1 hr))
 | @srs r _ _ _ _ _ hr h =>
  cases T0 with
  | lf =>
   obtain ⟨_, a', hgo, hk⟩ := h w (Rely.refl _ _) hjj
   obtain ⟨T', hT'⟩ := hk.tree
   exact .inr (mainBook (mt := .sp r 3) F ha hj hcom hwg hgo (.refl Wg w) hwg (by intro e he; simp at he; subst he; exact .inr ⟨_, rfl, .inl rfl⟩) (mt' := .sp r 2) (by simp [deafBehind, mk]) (.ske hr hT') (hmode.reopen trivial trivial rfl (by simp [MTag.c])) (.inl (by simp only [MTag.phi]; omega)))
  | nd f => exact .inr (mainIdle (mt := .sp r 3) F ha hj hcom hwg hmode h (.srs hr))
 | @ske r _ _ _ _ _ hr h =>
  cases T0 with
  | lf =>
   obtain ⟨_, a', hgo, hk⟩ := h w (Rely.refl _ _) hjj
   obtain ⟨T', hT'⟩ := hk.tree
   exact .inr (mainBook (mt := .sp r 2) F ha hj hcom hwg hgo (.refl Wg w) hwg (bkl bk_en) (mt' := .sp r 1) (by simp [deafBehind, mk]) (.sgo hr hT') (hmode.reopen trivial trivial rfl (by simp [MTag.c])) (.inl (by simp only [MTag.phi]; omega)))
  | nd f => exact .inr (mainIdle (mt := .sp r 2) F ha hj hcom hwg hmode h (.ske hr))
 | @sgo r _ _ _ _ _ hr h =>
  cases T0 with
  | lf =>
   obtain ⟨_, a', child, hsp, O0, W0, O1, W1, k, hk80, c1, c2, c3, c4, c5, hN, hnext⟩ := h w (Rely.refl _ _) hjj
   obtain ⟨T', hT'⟩ := hN.tree
   obtain ⟨ho, rfl, rfl, _⟩ := hmode.open_inv trivial
   have hrun' := runT_crowd_spawn (P := P) (sl := sl) (i := 0) ha (by simpa using hsp)
   rw [hcom.size] at hrun'
   have hcom' := hcom.spawn F ha hwg (by omega) (a' := a') c1 c2 c3 c4 c5 hT' (x := { g := 0, fn := a.frame.fn, pos := a.frame.place, act := .go (s0 + (n - (r + 1))) }) (y := { g := s0 + (n - (r + 1)), fn := child.frame.fn, pos := a.frame.place, act := .start }) ⟨rfl, rfl⟩ ⟨rfl, rfl⟩
   have ej : n - (r + 1) + 1 = n - r := by omega
   have eV := Vc_top D (n - (r + 1)) ⟨7, 0, 0⟩
   have eS := sumTo_top u (n - (r + 1)) (8 + k)
   have ho' : OpenSt (n - (r + 1) + 1) (upd D (n - (r + 1)) ⟨7, 0, 0⟩) := fun i hi => by
    by_cases e : i = n - (r + 1)
    ·subst e; rw [upd_same]; simp
    ·rw [upd_ne D _ e]; exact ho i (by omega)
   have hq0 : upd (upd Q 0 ⟨O0, W0, fun a => ∃ i, n - (r + 1) + 1 ≤ i ∧ i < n ∧ X i a⟩) (s0 + (n - (r + 1))) ⟨O1, W1, X (n - (r + 1))⟩ 0 = ⟨O0, W0, fun a => ∃ i, n - (r + 1) + 1 ≤ i ∧ i < n ∧ X i a⟩ := by rw [upd_ne _ _ (by omega), upd_same]
   have ha' : ((gs.setIfInBounds 0 a').push child)[0]? = some a' := by
    have h0 : 0 < gs.size := by rw [hcom.size]; omega
    rw [Array.getElem?_push_lt (by simp; omega), ← Array.getElem?_eq_getElem]
    simp [h0]
   have c1' : cnt (⟨7, 0, 0⟩ : WD) = 1 := rfl
   rw [c1'] at eV
   rw [ej] at eV eS ho' hcom' hq0
   have est : ∀ tag', pend tag' = 0 → ((Vc (n - (r + 1)) D + pend (.sp r 1) : Nat) : Int) * KK = ((Vc (n - r) (upd D (n - (r + 1)) ⟨7, 0, 0⟩) + pend tag' : Nat) : Int) * KK := fun tag' hp => by rw [eV, hp]; simp [pend]
   simp only [MTag.c] at hwg
   cases r with
   | zero =>
    obtain ⟨T2, hT2⟩ := MM.tree hnext
    simp only [Nat.sub_zero] at hrun' hcom' eV eS ho' est hq0
    refine .inr ⟨_, _, (MTag.kd.phi n (Vc n (upd D (n - (0 + 1)) ⟨7, 0, 0⟩)) + sumTo n (upd u (n - (0 + 1)) (8 + k)) + sumTo s0 q, upd V (n - (0 + 1)) T', MTag.kd.minor, T2), hrun', MuLt.of_fst (by simp only [MTag.phi]; omega),
     _, w, sl, n, _, _, _, q, _, .kd, T2, 0, a', _, _, rfl, ha', Nat.le_refl _, ?_, hcom', hwg, ?_, rfl⟩
    ·rw [hq0]; exact .kd hT2
    ·rw [est .kd rfl]
     exact .opn trivial ho' (by simp [MTag.c])
   | succ r' =>
    obtain ⟨T2, hT2⟩ := MM.tree hnext
    refine .inr ⟨_, _, ((MTag.sp r' 5).phi n (Vc (n - (r' + 1)) (upd D (n - (r' + 1 + 1)) ⟨7, 0, 0⟩)) + sumTo (n - (r' + 1)) (upd u (n - (r' + 1 + 1)) (8 + k)) + sumTo s0 q, upd V (n - (r' + 1 + 1)) T', (MTag.sp r' 5).minor, T2), hrun', MuLt.of_fst (by simp only [MTag.phi]; omega),
     _, w, sl, n - (r' + 1), _, _, _, q, _, .sp r' 5, T2, 0, a', _, _, rfl, ha', by omega, ?_, hcom', hwg, ?_, rfl⟩
    ·rw [hq0]; exact .skd (by omega) hT2
    ·rw [est (.sp r' 5) rfl]
     exact .opn trivial ho' (by simp [MTag.c])
  | nd f => exact .inr (mainIdle (mt := .sp r 1) F ha hj hcom hwg hmode h (.sgo hr))
 | kd h =>
  cases T0 with
  | lf =>
   obtain ⟨_, a', hgo, hk⟩ := h w (Rely.refl _ _) hjj
   obtain ⟨T', hT'⟩ := MM.tree hk
   exact .inr (mainBook (mt := .kd) F ha hj hcom hwg hgo (.refl Wg w) hwg (bkl bk_dis) (mt' := .anch) (by simp [deafBehind, mk]) (.anch hT') (hmode.reopen trivial trivial rfl (by simp [MTag.c])) (.inl (by simp only [MTag.phi]; omega)))
  | nd f => exact .inr (mainIdle (mt := .kd) F ha hj hcom hwg hmode h .kd)
 | anch h =>
  cases T0 with
  | lf =>
   have hA := h w (Rely.refl _ _) hjj
   obtain ⟨T', hT'⟩ := (F.an _ _ _ _ hA (F.ar _ _ _ _ hA)).tree
   obtain ⟨m₁, ops, μ', h1, h2, h3⟩ := w1Step (sl := sl) F ha hcom hwg (hmode.reopen trivial trivial rfl (by simp)) hT'
   exact .inr ⟨m₁, ops, μ', h1, MuLt.of_fst (Nat.lt_of_le_of_lt h2.fst (by simp only [MTag.phi]; omega)), h3⟩
  | nd f => exact .inr (mainIdle (mt := .anch) F ha hj hcom hwg hmode h .anch)
 | w1 h => exact .inr (w1Step F ha hcom hwg hmode h)
 | @w2 vs _ _ _ _ _ h =>
  cases T0 with
  | lf =>
   obtain ⟨_, hall⟩ := h w (Rely.refl _ _) hjj
   obtain ⟨ho, rfl, rfl, hw2⟩ := hmode.open_inv trivial
   obtain ⟨hle, h1⟩ := hw2 vs rfl
   obtain ⟨hhit, hmiss⟩ := hall (Vc n D) hVj (by simpa [pend, MTag.c] using hwg)
   by_cases e : Vc n D = vs
   ·obtain ⟨a', hgo, hk⟩ := hhit e
    obtain ⟨T', hT'⟩ := hk.tree
    exact .inr (mainBook (mt := .w2 vs) F ha hj hcom hwg hgo (aside_setCell w (stA Wg) _) (hwg.setSt _) (bkl bk_rw) (mt' := .ws) (by simp [deafBehind, rd, ConcR.wr]) (.ws hT') (.reg trivial ho (by omega)) (.inl (by simp only [MTag.phi]; omega)))
   ·obtain ⟨a', hgo, hk⟩ := hmiss e
    obtain ⟨T', hT'⟩ := MM.tree hk
    exact .inr (mainBook (mt := .w2 vs) F ha hj hcom hwg hgo (.refl Wg w) hwg (bkl bk_rd) (mt' := .anch) (by simp [deafBehind, rd]) (.anch hT') (hmode.reopen trivial trivial rfl (by simp [MTag.c])) (.inl (by simp only [MTag.phi]; omega)))
  | nd f => exact .inr (mainIdle (mt := .w2 vs) F ha hj hcom hwg hmode h .w2)
 | ws h =>
  cases T0 with
  | lf =>
   obtain ⟨_, a', hgo, hk⟩ := h w (Rely.refl _ _) hjj
   obtain ⟨T', hT'⟩ := hk.tree
   exact .inr (mainBook (mt := .ws) F ha hj hcom hwg hgo (.refl Wg w) hwg (by intro e he; simp at he; subst he; exact .inr ⟨_, rfl, .inr rfl⟩) (mt' := .w3) (by simp [deafBehind, mk]) (.w3 hT') hmode (.inl (by simp only [MTag.phi]; omega)))
  | nd f => exact .inr (mainIdle (mt := .ws) F ha hj hcom hwg hmode h .ws)
 | w3 h =>
  cases T0 with
  | lf =>
   have hstop : ∀ w1, Rely (Q 0).O w w1 → JJ ty Wg J2 w1 → nW3 P ty Wg J2 KE (Q 0).O (Q 0).W a w1 := h
   obtain ⟨_, hoff, hblk, htake⟩ := h w (Rely.refl _ _) hjj
   have key : ∀ {st sm : Int}, WgAt ty Wg w st sm → ConcN.Mode n D .w3 st sm → Nx P ty Wg J2 X Don S2 n KE Anch Sh s0 p0 gs w sl t 0 (MTag.w3.phi n (Vc n D) + sumTo n u + sumTo s0 q, V, MTag.w3.minor, .lf) := by
    intro st sm hwg hmode
    cases hmode with
    | opn h1 _ _ => exact h1.elim
    | reg h1 h2 h3 => exact mainBook (mt := .w3) F ha hj hcom hwg (hblk ⟨_, hwg⟩) (.refl Wg w) hwg (by simp) (mt' := .blk) (by simp [deafBehind]) (.blk hstop) (.reg trivial h2 h3) (.inr ⟨rfl, .inl (by simp [MTag.minor])⟩)
    | last L h1 h2 h3 h4 => exact mainBook (mt := .w3) F ha hj hcom hwg (hblk ⟨_, hwg⟩) (.refl Wg w) hwg (by simp) (mt' := .blk) (by simp [deafBehind]) (.blk hstop) (.last L trivial h2 h3 h4) (.inr ⟨rfl, .inl (by simp [MTag.minor])⟩)
    | sema h2 =>
     obtain ⟨a', hgo, hk⟩ := htake hwg
     obtain ⟨T', hT'⟩ := hk.tree
     exact mainBook (mt := .w3) F ha hj hcom hwg hgo (aside_setCell w (smA Wg) _) (hwg.setSm 0) (bkl bk_sem) (mt' := .w4) (by simp [deafBehind, semEvents]) (.w4 hT') (.fin trivial h2) (.inl (by simp only [MTag.phi]; omega))
    | fin h1 _ => exact h1.elim
   exact .inr (key hwg hmode)
  | nd f => exact .inr (mainIdle (mt := .w3) F ha hj hcom hwg hmode h .w3)
 | blk h => simp at hrun
 | w4 h =>
  cases T0 with
  | lf =>
   obtain ⟨_, hx⟩ := h w (Rely.refl _ _) hjj
   obtain ⟨hq, rfl, rfl⟩ := hmode.fin_inv trivial
   obtain ⟨a', hgo, hk⟩ := hx hwg
   obtain ⟨T', hT'⟩ := hk.tree
   exact .inr (mainBook (mt := .w4) F ha hj hcom hwg hgo (.refl Wg w) hwg (bkl bk_rd) (mt' := .ke) (by simp [deafBehind, rd]) (.ke hT') (.fin trivial hq) (.inl (by simp only [MTag.phi]; omega)))
  | nd f => exact .inr (mainIdle (mt := .w4) F ha hj hcom hwg hmode h .w4)
 | ke h =>
  cases T0 with
  | lf =>
   obtain ⟨_, a', hgo, hk⟩ := h w (Rely.refl _ _) hjj
   obtain ⟨T', hT'⟩ := hk.tree
   obtain ⟨hq, rfl, rfl⟩ := hmode.fin_inv trivial
   exact .inr (mainBook (mt := .ke) F ha hj hcom hwg hgo (.refl Wg w) hwg (bkl bk_en) (mt' := .acq) (by simp [deafBehind, mk]) (.acq hT') (.fin trivial hq) (.inl (by simp only [MTag.phi]; omega)))
  | nd f => exact .inr (mainIdle (mt := .ke) F ha hj hcom hwg hmode h .ke)
 | acq h =>
  cases T0 with
  | lf =>
   obtain ⟨_, a', hgo, hk⟩ := h w (Rely.refl _ _) hjj
   obtain ⟨hq, _, _⟩ := hmode.fin_inv trivial
   exact .inl (done_of F ha hcom hwg hq hgo hk)
  | nd f => exact .inr (mainIdle (mt := .acq) F ha hj hcom hwg hmode h .acq)
end
end
end Go.Eng
namespace Go.Eng
noncomputable section
open Go.Conc
open Go.ConcN (PermW fork_knows RelBy upd upd_same upd_ne sumTo sumTo_upd sumTo_upd_out sumTo_congr le_sumTo WgLive ShN RW DWs AtR0 AtK1 AtD1 AtD2 AtD3 AtD4 WSit WD CTag cnt Vc Vc_upd Vc_le AllQuit OpenSt get_map_set get_map_set_same isW3 isOpen isFin pend bk_cell others_uncounted allQuit_of exists_counted)
open Go.ConcR (KK wgBlock WgAt stA smA rd mk Payload Bk ofEvent_loc_mark ofEvent_mk ofEvent_cell bk_of_mute)
set_option linter.unusedSimpArgs false
set_option linter.unusedVariables false
set_option linter.unusedSectionVars false
section
variable [Payload]
variable {P : Program} {ty : TypeId} {Wg : Nat} {J2 : World → Prop} {X : Nat → Addr → Prop} {Don : Nat → Nat → World → Prop} {S2 : Nat → Prop} {n : Nat} {KE Anch : KP} {Sh : Loc → Prop} {s0 p0 : Nat}
variable {j : Nat} {gs : Array Goroutine} {w w' : World} {t : Trace} {Q : Nat → Gh} {D : Nat → WD} {u : Nat → Nat} {V : Nat → Tk} {q : Nat → Nat} {d0 : Nat} {sl : Option (Nat × Nat)} {mt : MTag} {T0 : Tk} {a : Goroutine} {st sm : Int}
theorem CM.at (F : Fix P ty Wg J2 X Don S2 n KE Anch Sh s0) (h : CM P ty Wg J2 X Don S2 n Sh s0 p0 j gs w t Q D u V q d0) (hl : WgLive ty Wg w) (d : Nat) : CM P ty Wg J2 X Don S2 n Sh s0 p0 j gs (w.at d) t Q D u V q d0 :=
 have hj2 : J2 (w.at d) := F.j2 w (w.at d) (fun _ _ => rfl) h.j2
 ⟨h.size, fun i hi => let ⟨g, hg, hs⟩ := h.wk i hi; ⟨g, hg, hs.rely (rely_at _ w d) ⟨hl, hj2⟩⟩, h.old, h.tr, h.hd, h.norel, h.begun, h.deaf0, h.deafW, h.nums, h.rel, fun i hi kk hu => F.don i kk w (w.at d) (fun _ _ => rfl) (h.don i hi kk hu), h.xs, h.x0, h.s2, h.s2l, hj2⟩
theorem work_running {i : Nat} {d : WD} {uu : Nat} {T : Tk} {qq : Gh} {g : Goroutine} (h : WkSit P ty Wg J2 X Don S2 i d uu T qq g w) (hj : JJ ty Wg J2 w) (hs : d.stage ≠ 1) : g.status = .running :=
 (h.status hj).resolve_right fun x => hs x.2
theorem someone (F : Fix P ty Wg J2 X Don S2 n KE Anch Sh s0) (ha : gs[0]? = some a) (hcs : MSit P ty Wg J2 X Don S2 n KE Anch mt j T0 d0 (Q 0).O (Q 0).W a w) (hcom : CM P ty Wg J2 X Don S2 n Sh s0 p0 j gs w t Q D u V q d0) (hj : JJ ty Wg J2 w) (hmode : ConcN.Mode j D mt.c st sm) :
  ∃ (i : Nat) (g : Goroutine), gs[i]? = some g ∧ g.status = .running := by
 rcases hcs.status F.ar hj with hs | ⟨_, rfl⟩
 ·exact ⟨0, a, ha, hs⟩
 ·generalize hct : MTag.blk.c = ct at hmode
  cases hmode with
  | opn h1 _ _ => rw [← hct] at h1; exact h1.elim
  | reg _ h2 h3 =>
   obtain ⟨i, hi, h5⟩ := exists_counted h3
   obtain ⟨g, hg, hs⟩ := hcom.wk i hi
   exact ⟨s0 + i, g, hg, work_running hs hj (by omega)⟩
  | last L _ h2 h3 _ =>
   obtain ⟨g, hg, hs⟩ := hcom.wk L h2
   exact ⟨s0 + L, g, hg, work_running hs hj (by omega)⟩
  | sema _ => cases hct
  | fin h1 _ => rw [← hct] at h1; exact h1.elim
theorem all_awake (F : Fix P ty Wg J2 X Don S2 n KE Anch Sh s0) (ha : gs[0]? = some a) (hcs : MSit P ty Wg J2 X Don S2 n KE Anch mt j T0 d0 (Q 0).O (Q 0).W a w) (hcom : CM P ty Wg J2 X Don S2 n Sh s0 p0 j gs w t Q D u V q d0) (hj : JJ ty Wg J2 w) : ∀ g ∈ gs, awake g := by
 intro g hg tm
 obtain ⟨i, hi⟩ := Array.mem_iff_getElem?.1 hg
 by_cases h0 : i = 0
 ·subst h0
  rw [ha] at hi; cases hi
  rcases hcs.status F.ar hj with hs | ⟨hs, _⟩ <;> rw [hs] <;> simp
 ·by_cases h1 : i < s0
  ·rcases (hcom.old i g (by omega) h1 hi).status with hs | hs <;> rw [hs] <;> simp
  ·have hlt : i < s0 + j := by have := (Array.getElem?_eq_some_iff.1 hi).1; rw [hcom.size] at this; omega
   obtain ⟨g', hg', hs⟩ := hcom.wk (i - s0) (by omega)
   rw [show s0 + (i - s0) = i by omega, hi] at hg'
   cases hg'
   rcases hs.status hj with h | ⟨h, _⟩ <;> rw [h] <;> simp
theorem group_step (F : Fix P ty Wg J2 X Don S2 n KE Anch Sh s0) (μ : Mu) (m : Machine) (t : Trace) (h : GInv P ty Wg J2 X Don S2 n KE Anch Sh s0 p0 μ m t) :
  (∃ m' ops, stepT P m = (.next m', ops) ∧ Done P ty Wg J2 Don n KE Sh s0 m' (t ++ ops)) ∨
  (∃ m' ops μ', stepT P m = (.next m', ops) ∧ MuLt n μ' μ ∧ GInv P ty Wg J2 X Don S2 n KE Anch Sh s0 p0 μ' m' (t ++ ops)) := by
 obtain ⟨gs, w, sl, j, D, u, V, q, Q, mt, T0, d0, a, st, sm, rfl, ha, hj, hcs, hcom, hwg, hmode, rfl⟩ := h
 have hjj : JJ ty Wg J2 w := ⟨⟨_, _, hwg⟩, hcom.j2⟩
 obtain ⟨i, g, d, sl', hg, hrun, hstep⟩ := crowd_pick (P := P) (w := w) (sl := sl) (all_awake F ha hcs hcom hjj) (someone F ha hcs hcom hjj hmode)
 rw [hstep]
 have hcs' := hcs.rely (rely_at _ w d)
 have hcom' := hcom.at F hjj.1 d
 have hwg' : WgAt ty Wg (w.at d) st sm := hwg
 by_cases h0 : i = 0
 ·subst h0
  rw [ha] at hg; cases hg
  exact stepMain F ha hj hcs' hcom' hwg' hmode hrun
 ·by_cases h1 : i < s0
  ·exact .inr (stepOld F ha hj hcs' hcom' hwg' hmode (by omega) h1 hg hrun)
  ·have hlt : i < s0 + j := by have := (Array.getElem?_eq_some_iff.1 hg).1; rw [hcom.size] at this; omega
   obtain ⟨k, rfl⟩ : ∃ k, i = s0 + k := ⟨i - s0, by omega⟩
   exact .inr (stepWorker F ha hj hcs' hcom' hwg' hmode (by omega) hg hrun)
theorem group_runs (F : Fix P ty Wg J2 X Don S2 n KE Anch Sh s0) : ∀ (μ : Mu) (m : Machine) (t : Trace), GInv P ty Wg J2 X Don S2 n KE Anch Sh s0 p0 μ m t → ∃ N m' t', runNT P N m t = (.next m', t') ∧ Done P ty Wg J2 Don n KE Sh s0 m' t' := by
 intro μ
 induction μ using (MuLt.wf n).induction with
 | _ μ ih =>
  intro m t hI
  rcases group_step F μ m t hI with ⟨m', ops, hs, hd⟩ | ⟨m', ops, μ', hs, hlt, hI'⟩
  ·exact ⟨1, m', t ++ ops, by simp [runNT, hs], hd⟩
  ·obtain ⟨N, m2, t2, h1, h2⟩ := ih μ' hlt m' (t ++ ops) hI'
   exact ⟨N + 1, m2, t2, by rw [runNT_succ_next hs]; exact h1, h2⟩
theorem group (F : Fix P ty Wg J2 X Don S2 n KE Anch Sh gs.size) {O W O' W' : Nat → Prop} (hB : BS P Sh O W gs w t q) (ha : gs[0]? = some a) (hO : ∀ b, O' b → O b ∧ ¬ S2 b) (hW : ∀ b, W' b → W b ∧ O' b) (hX : ∀ i c, i < n → X i c → W c.block) (hS : ∀ b, S2 b → b < w.heap.size)
  (hwg : WgAt ty Wg w 0 0) (hj2 : J2 w) (hsp : nSp P ty Wg J2 n Anch X Don S2 n O' W' a w) (sl : Option (Nat × Nat)) : ∃ N m' t', runNT P N (crowd gs w sl) t = (.next m', t') ∧ Done P ty Wg J2 Don n KE Sh gs.size m' t' := by
 have h0 : 0 < gs.size := (Array.getElem?_eq_some_iff.1 ha).1
 have hwo : ∀ b, W b → O b := fun b hb => hB.tr.sub 0 rfl (.obj b) hb
 have hcom : CM P ty Wg J2 X Don S2 n Sh gs.size t.size 0 gs w t (fun _ => ⟨O', W', fun c => ∃ i, 0 ≤ i ∧ i < n ∧ X i c⟩) (fun _ => ⟨0, 0, 0⟩) (fun _ => 0) (fun _ => .lf) q 0 := by
  refine ⟨rfl, fun i hi => by omega, fun i g h1 h2 hg => hB.old i g h1 hg, ?_, hB.hd.mono (fun _ h => h) (fun _ h => h.elim), fun k hk hh => ?_, Nat.le_refl _, hB.hears, fun i hi => by omega, hB.nums, fun i hi => by omega, fun i hi => by omega, fun i hi => by omega, rfl, fun x hx b hb => (hO b hb).2, hS, hj2⟩
  ·refine hB.tr.weaken fun x hx => ⟨?_, fun l hl => ?_, fun l hl => ?_⟩
   ·rcases hx with hx | ⟨h1, h2⟩
    ·exact hx
    ·omega
   ·cases l with
    | cell c =>
     rcases hl with hl | ⟨i, h1, h2, h3⟩
     ·exact ⟨.inl (hW _ hl).1, .inl (hW _ hl).2⟩
     ·exact ⟨.inl (hX i c h2 h3), .inr ⟨i, h1, h2, h3⟩⟩
    | obj b => exact hW b hl
    | _ => exact hl.elim
   ·cases l with
    | cell c =>
     rcases hl with hl | ⟨i, h1, h2, h3⟩
     ·exact .inl (hO _ hl).1
     ·exact .inl (hwo _ (hX i c h2 h3))
    | obj b => exact (hO b hl).1
    | _ => exact hl.elim
  ·have := lt_of_act? hh
   omega
 have hmode : ∀ mt : MTag, isOpen mt.c → pend mt.c = 0 → (∀ vs, mt.c ≠ .w2 vs) → ConcN.Mode 0 (fun _ => (⟨0, 0, 0⟩ : WD)) mt.c 0 0 := fun mt h1 h2 h3 => by
  have := ConcN.Mode.opn (j := 0) (D := fun _ => (⟨0, 0, 0⟩ : WD)) h1 (fun i hi => by omega) (fun vs e => absurd e (h3 vs))
  simpa [Vc, sumTo, h2] using this
 have hI : ∃ μ, GInv P ty Wg J2 X Don S2 n KE Anch Sh gs.size t.size μ (crowd gs w sl) t := by
  cases n with
  | zero =>
   obtain ⟨T, hT⟩ := MM.tree hsp
   exact ⟨_, gs, w, sl, 0, _, _, _, q, _, .kd, T, 0, a, 0, 0, rfl, ha, Nat.le_refl _, .kd hT, hcom, hwg, hmode .kd trivial rfl (by simp [MTag.c]), rfl⟩
  | succ r =>
   obtain ⟨T, hT⟩ := MM.tree hsp
   have hc := MSit.skd (KE := KE) (Nat.lt_succ_self r) hT
   rw [Nat.sub_self] at hc
   exact ⟨_, gs, w, sl, 0, _, _, _, q, _, .sp r 5, T, 0, a, 0, 0, rfl, ha, Nat.zero_le _, hc, hcom, hwg, hmode (.sp r 5) trivial rfl (by simp [MTag.c]), rfl⟩
 obtain ⟨μ, hI⟩ := hI
 exact group_runs F μ _ _ hI
end
end
end Go.Eng
