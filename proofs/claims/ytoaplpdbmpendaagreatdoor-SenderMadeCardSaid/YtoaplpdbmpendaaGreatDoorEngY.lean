/-
  The engine, part W: a group of workers under a sync.WaitGroup: where each stands.
-/
import Derived.Test.YtoaplpdbmpendaaGreatDoorEngV
import Derived.Conc.CrowdRun
set_option linter.unusedSectionVars false
set_option linter.unusedSimpArgs false
set_option linter.unusedVariables false
namespace Go.Eng
open Go.Conc
open Go.ConcN (PermW fork_knows RelBy upd upd_same upd_ne sumTo sumTo_upd WgLive RW DWs AtR0 AtK1 AtD1 AtD2 AtD3 AtD4 WSit WD CTag Mode cnt Vc)
open Go.ConcR (KK wgBlock WgAt stA smA rd mk Payload)
set_option linter.unusedSimpArgs false
set_option linter.unusedVariables false

/-! ### trees: how much is still to be done -/
inductive Tk where
  | lf
  | nd (f : World → Tk)
def Tk.ofNat : Nat → Tk
  | 0 => .lf
  | n + 1 => .nd fun _ => ofNat n
inductive Tk.Lt : Tk → Tk → Prop
  | mk (f : World → Tk) (w : World) : Lt (f w) (.nd f)
theorem Tk.wf : WellFounded Tk.Lt := ⟨fun t => by
  induction t with
  | lf => exact ⟨_, fun y h => by cases h⟩
  | nd f ih => exact ⟨_, fun y h => by cases h; exact ih _⟩⟩
theorem Tk.ofNat_lt (n : Nat) : Tk.Lt (Tk.ofNat n) (Tk.ofNat (n + 1)) := .mk (fun _ => Tk.ofNat n) default
/-- Of n of them one has less to do. -/
def VLt (n : Nat) (a b : Nat → Tk) : Prop := ∃ i, i < n ∧ Tk.Lt (a i) (b i) ∧ ∀ k, k < n → k ≠ i → a k = b k
theorem VLt.wf (n : Nat) : WellFounded (VLt n) := by
  induction n with
  | zero => exact ⟨fun a => ⟨_, fun b h => by obtain ⟨i, hi, _⟩ := h; omega⟩⟩
  | succ n ih =>
    have h := (Prod.lex (ha := ⟨Tk.Lt, Tk.wf⟩) (hb := ⟨VLt n, ih⟩)).wf
    refine Subrelation.wf (r := InvImage (Prod.Lex Tk.Lt (VLt n)) fun a : Nat → Tk => (a n, a)) (fun {a b} hab => ?_) (InvImage.wf _ h)
    obtain ⟨i, hi, h1, h2⟩ := hab
    show Prod.Lex Tk.Lt (VLt n) (a n, a) (b n, b)
    by_cases e : i = n
    · subst e
      exact .left _ _ h1
    · rw [h2 n (by omega) (fun hh => e hh.symm)]
      exact .right _ ⟨i, by omega, h1, fun k hk hne => h2 k (by omega) hne⟩
def WillT (P : Program) (main : Bool) (J : World → Prop) (K : KP) : Tk → KP
  | .lf, O, W, g, w => ∀ w1, Rely O w w1 → J w1 → K O W g w1
  | .nd f, O, W, g, w => g.status = .running ∧ ∀ w1, Rely O w w1 → J w1 → ∃ g' w2 es, stepG P main g w1 = .go g' w2 es ∧ Guar O W w1 w2 es ∧ WillT P main J K (f w1) (grow O w1 w2) (grow W w1 w2) g' w2
section
variable {P : Program} {main : Bool} {J : World → Prop} {K : KP} {O W : Nat → Prop} {g : Goroutine} {w w1 : World} {T : Tk}
theorem Will.tree (hno : main = true → ¬ ∀ w, J w) (h : Will P main J K O W g w) : ∃ T, WillT P main J K T O W g w := by
  induction h with
  | stop h => exact ⟨.lf, h⟩
  | jump Φ hm hj _ _ _ => exact absurd hj (hno hm)
  | @act O W g w hs h1 h2 ih =>
    have : ∀ w1, ∃ T, Rely O w w1 → J w1 → ∃ g' w2 es, stepG P main g w1 = .go g' w2 es ∧ Guar O W w1 w2 es ∧ WillT P main J K T (grow O w1 w2) (grow W w1 w2) g' w2 := by
      intro w1
      by_cases hr : Rely O w w1 ∧ J w1
      · obtain ⟨g', w2, es, hst, hg⟩ := h1 w1 hr.1 hr.2
        obtain ⟨T, hT⟩ := ih w1 g' w2 es hr.1 hr.2 hst
        exact ⟨T, fun _ _ => ⟨g', w2, es, hst, hg, hT⟩⟩
      · exact ⟨.lf, fun a b => absurd ⟨a, b⟩ hr⟩
    exact ⟨.nd fun w1 => (this w1).choose, hs, fun w1 => (this w1).choose_spec⟩
theorem WillT.rely (h : WillT P main J K T O W g w) (hr : Rely O w w1) : WillT P main J K T O W g w1 := by
  cases T with
  | lf => exact fun w2 h2 => h w2 (hr.trans h2)
  | nd f => exact ⟨h.1, fun w2 h2 => h.2 w2 (hr.trans h2)⟩
theorem WillT.status (hK : ∀ O W g w, K O W g w → g.status = .running) (h : WillT P main J K T O W g w) (hj : J w) : g.status = .running := by
  cases T with
  | lf => exact hK _ _ _ _ (h w (Rely.refl _ _) hj)
  | nd f => exact h.1
end

section
variable [Payload]
variable (P : Program) (ty : TypeId) (Wg : Nat) (J2 : World → Prop)
/-- What holds of memory all the while: the group's block, and more. -/
def JJ (w : World) : Prop := WgLive ty Wg w ∧ J2 w
abbrev MM (K : KP) : KP := Will P true (JJ ty Wg J2) K
abbrev NN (K : KP) : KP := Will P false (JJ ty Wg J2) K
variable {P ty Wg J2} in
theorem MM.tree {K : KP} {O W : Nat → Prop} {g : Goroutine} {w : World} (h : MM P ty Wg J2 K O W g w) : ∃ T, WillT P true (JJ ty Wg J2) K T O W g w :=
  Will.tree (fun _ hj => by
    obtain ⟨⟨st, sm, hw⟩, _⟩ := hj { (default : World) with heap := #[] }
    simp [WgAt] at hw) h
variable {P ty Wg J2} in
theorem NN.tree {K : KP} {O W : Nat → Prop} {g : Goroutine} {w : World} (h : NN P ty Wg J2 K O W g w) : ∃ T, WillT P false (JJ ty Wg J2) K T O W g w := Will.tree (fun h => by cases h) h
/-! ### workers -/
section
variable (X : Nat → Addr → Prop) (Don : Nat → World → Prop)
abbrev Tail (c : Nat) (v : Value) (s m d : Nat) (g : Goroutine) (w : World) : Prop := WSit P ty Wg c 1 (fun _ _ => False) (fun _ _ => False) 0 1 v s m d g w
/-- A step that writes cells of its own in a block that many write. -/
structure XGuar (S2 : Nat → Prop) (J2 : World → Prop) (X : Addr → Prop) (w w2 : World) (es : Array Event) : Prop where
  keep : ∀ b, ¬ S2 b → w2.heap[b]? = w.heap[b]?
  cell : ∀ a, ¬ X a → w2.cell? a = w.cell? a
  size : w2.heap.size = w.heap.size
  os : w2.os = w.os
  tape : w2.tape = w.tape
  output : w2.output = w.output
  j2 : J2 w2
  evs : ∀ e ∈ es, ∃ a, e.loc = .cell a ∧ X a ∧ e.sync = false
/-- A worker that has k such steps to do, and what is behind. -/
def WkK (S2 : Nat → Prop) (i : Nat) : Nat → KP
  | 0 => fun O W g w => ∃ c, W c ∧ ∃ v m, Tail P ty Wg c v 7 m 0 g w
  | k + 1 => fun O W g w => g.status = .running ∧ ∃ g' w2 es, stepG P false g w = .go g' w2 es ∧ XGuar S2 J2 (X i) w w2 es ∧ (k = 0 → Don i w2) ∧ NN P ty Wg J2 (WkK S2 i k) O W g' w2
end
/-! ### the starter -/
section
variable (n : Nat) (KE Anch : KP)
def nAcq : KP := fun O W g w => g.status = .running ∧ ∃ g', stepG P true g w = .go g' w #[mk (.acquire (stA Wg))] ∧ KE O W g' w
def nKe : KP := fun O W g w => g.status = .running ∧ ∃ g', stepG P true g w = .go g' w #[mk .enable] ∧ MM P ty Wg J2 (nAcq P Wg KE) O W g' w
def nW4 : KP := fun O W g w => g.status = .running ∧ (WgAt ty Wg w 0 0 → ∃ g', stepG P true g w = .go g' w #[rd (stA Wg)] ∧ MM P ty Wg J2 (nKe P ty Wg J2 KE) O W g' w)
def nW3 : KP := fun O W g w => g.status = .running ∧ g.offers = none ∧
  ((∃ st, WgAt ty Wg w st 0) → stepG P true g w = .go { g with status := .blocked } w #[]) ∧
  (WgAt ty Wg w 0 1 → ∃ g', stepG P true g w = .go g' (w.setCell (smA Wg) (.int .u32 0)) (semEvents (smA Wg)) ∧ MM P ty Wg J2 (nW4 P ty Wg J2 KE) O W g' (w.setCell (smA Wg) (.int .u32 0)))
def nWs : KP := fun O W g w => g.status = .running ∧ ∃ g', stepG P true g w = .go g' w #[mk (.write (smA Wg))] ∧ MM P ty Wg J2 (nW3 P ty Wg J2 KE) O W g' w
def nW2 (vs : Nat) : KP := fun O W g w => g.status = .running ∧ ∀ v : Nat, v ≤ n → WgAt ty Wg w (v * KK) 0 →
  (v = vs → ∃ g', stepG P true g w = .go g' (w.setCell (stA Wg) (.int .u64 (v * KK + 1))) #[rd (stA Wg), ConcR.wr (stA Wg)] ∧ MM P ty Wg J2 (nWs P ty Wg J2 KE) O W g' (w.setCell (stA Wg) (.int .u64 (v * KK + 1)))) ∧
  (v ≠ vs → ∃ g', stepG P true g w = .go g' w #[rd (stA Wg)] ∧ MM P ty Wg J2 Anch O W g' w)
def nW1 : KP := fun O W g w => g.status = .running ∧ ∀ v : Nat, v ≤ n → WgAt ty Wg w (v * KK) 0 → ∃ g', stepG P true g w = .go g' w #[rd (stA Wg)] ∧
  (v = 0 → MM P ty Wg J2 (nKe P ty Wg J2 KE) O W g' w) ∧ (v ≠ 0 → MM P ty Wg J2 (nW2 P ty Wg J2 n KE Anch v) O W g' w)
def nKd : KP := fun O W g w => g.status = .running ∧ ∃ g', stepG P true g w = .go g' w #[mk .disable] ∧ MM P ty Wg J2 Anch O W g' w
section
variable (X : Nat → Addr → Prop) (Don : Nat → World → Prop) (S2 : Nat → Prop)
/-- The go statement: what is handed to worker number j, and what is kept. -/
def nGo (j : Nat) (Next : KP) : KP := fun O W g w => g.status = .running ∧ ∃ g' child, stepG P true g w = .spawn g' child w #[] ∧ ∃ O0 W0 O1 W1 : Nat → Prop, ∃ k : Nat, k ≤ 80 ∧
  (∀ b, W0 b → W b ∧ O0 b ∧ ¬ O1 b) ∧ (∀ b, O0 b → O b ∧ ¬ W1 b) ∧ (∀ b, W1 b → W b ∧ O1 b) ∧ (∀ b, O1 b → O b) ∧
  (k = 0 → Don j w) ∧ NN P ty Wg J2 (WkK P ty Wg J2 X Don S2 j k) O1 W1 child w ∧ Next O0 W0 g' w
def nKeS (j : Nat) (Next : KP) : KP := fun O W g w => g.status = .running ∧ ∃ g', stepG P true g w = .go g' w #[mk .enable] ∧ MM P ty Wg J2 (nGo P ty Wg J2 X Don S2 j Next) O W g' w
def nRs (j : Nat) (Next : KP) : KP := fun O W g w => g.status = .running ∧ ∃ g', stepG P true g w = .go g' w #[mk (.read (smA Wg))] ∧ MM P ty Wg J2 (nKeS P ty Wg J2 X Don S2 j Next) O W g' w
def nA1 (j : Nat) (Next : KP) : KP := fun O W g w => g.status = .running ∧ ∀ v : Nat, v ≤ j → WgAt ty Wg w (v * KK) 0 →
  ∃ g', stepG P true g w = .go g' (w.setCell (stA Wg) (.int .u64 ((v + 1) * KK))) #[rd (stA Wg), ConcR.wr (stA Wg)] ∧
    (v = 0 → MM P ty Wg J2 (nRs P ty Wg J2 X Don S2 j Next) O W g' (w.setCell (stA Wg) (.int .u64 ((v + 1) * KK)))) ∧
    (v ≠ 0 → MM P ty Wg J2 (nKeS P ty Wg J2 X Don S2 j Next) O W g' (w.setCell (stA Wg) (.int .u64 ((v + 1) * KK))))
def nKdS (j : Nat) (Next : KP) : KP := fun O W g w => g.status = .running ∧ ∃ g', stepG P true g w = .go g' w #[mk .disable] ∧ MM P ty Wg J2 (nA1 P ty Wg J2 X Don S2 j Next) O W g' w
/-- r workers are still to be started. -/
def nSp : Nat → KP
  | 0 => MM P ty Wg J2 (nKd P ty Wg J2 Anch)
  | r + 1 => MM P ty Wg J2 (nKdS P ty Wg J2 X Don S2 (n - (r + 1)) (nSp r))
end
end
end

/-! ### situations -/
inductive MTag where
  | sp (r s : Nat) | kd | anch | w1 | w2 (vs : Nat) | ws | w3 | blk | w4 | ke | acq
def MTag.c : MTag → CTag
  | .sp r s => .sp r s
  | .kd => .kd
  | .anch => .anch
  | .w1 => .w1
  | .w2 vs => .w2 vs
  | .ws => .w3
  | .w3 => .w3
  | .blk => .blk
  | .w4 => .w4
  | .ke => .ke
  | .acq => .acq
def MTag.phi (n v : Nat) : MTag → Nat
  | .sp r s => 8 * n + 116 + 100 * r + s
  | .kd => 8 * n + 8
  | .anch => 8 * v + 7
  | .w1 => 8 * v + 6
  | .w2 vs => 8 * vs + 5
  | .ws => 6
  | .w3 => 5
  | .blk => 5
  | .w4 => 4
  | .ke => 3
  | .acq => 2
end Go.Eng
namespace Go.Eng
open Go.Conc
open Go.ConcN (PermW fork_knows RelBy upd upd_same upd_ne sumTo sumTo_upd sumTo_upd_out sumTo_congr WgLive ShN RW DWs AtR0 AtK1 AtD1 AtD2 AtD3 AtD4 WSit WD CTag Mode cnt Vc Vc_upd Vc_le AllQuit OpenSt get_map_set get_map_set_same)
open Go.ConcR (KK wgBlock WgAt stA smA rd mk Payload)
set_option linter.unusedSimpArgs false
set_option linter.unusedVariables false

section
variable [Payload]
variable (P : Program) (ty : TypeId) (Wg : Nat) (J2 : World → Prop) (X : Nat → Addr → Prop) (Don : Nat → World → Prop) (S2 : Nat → Prop)
inductive WkSit (i : Nat) : WD → Nat → Tk → Gh → Goroutine → World → Prop
  | work {k f : Nat} {T : Tk} {q : Gh} {g : Goroutine} {w : World} : WillT P false (JJ ty Wg J2) (WkK P ty Wg J2 X Don S2 i k) T q.O q.W g w → WkSit i ⟨7, f, 0⟩ (8 + k) T q g w
  | tail {c : Nat} {v : Value} {s m d : Nat} {q : Gh} {g : Goroutine} {w : World} : Tail P ty Wg c v s m d g w → q.O c → q.W c → WkSit i ⟨s, m, d⟩ s (Tk.ofNat m) q g w
variable (n : Nat) (KE Anch : KP)
inductive MSit : MTag → Nat → Tk → Nat → (Nat → Prop) → (Nat → Prop) → Goroutine → World → Prop
  | skd {r : Nat} {T : Tk} {O W : Nat → Prop} {g : Goroutine} {w : World} : r < n → WillT P true (JJ ty Wg J2) (nKdS P ty Wg J2 X Don S2 (n - (r + 1)) (nSp P ty Wg J2 n Anch X Don S2 r)) T O W g w → MSit (.sp r 5) (n - (r + 1)) T 0 O W g w
  | sa1 {r : Nat} {T : Tk} {O W : Nat → Prop} {g : Goroutine} {w : World} : r < n → WillT P true (JJ ty Wg J2) (nA1 P ty Wg J2 X Don S2 (n - (r + 1)) (nSp P ty Wg J2 n Anch X Don S2 r)) T O W g w → MSit (.sp r 4) (n - (r + 1)) T 1 O W g w
  | srs {r : Nat} {T : Tk} {O W : Nat → Prop} {g : Goroutine} {w : World} : r < n → WillT P true (JJ ty Wg J2) (nRs P ty Wg J2 X Don S2 (n - (r + 1)) (nSp P ty Wg J2 n Anch X Don S2 r)) T O W g w → MSit (.sp r 3) (n - (r + 1)) T 1 O W g w
  | ske {r : Nat} {T : Tk} {O W : Nat → Prop} {g : Goroutine} {w : World} : r < n → WillT P true (JJ ty Wg J2) (nKeS P ty Wg J2 X Don S2 (n - (r + 1)) (nSp P ty Wg J2 n Anch X Don S2 r)) T O W g w → MSit (.sp r 2) (n - (r + 1)) T 1 O W g w
  | sgo {r : Nat} {T : Tk} {O W : Nat → Prop} {g : Goroutine} {w : World} : r < n → WillT P true (JJ ty Wg J2) (nGo P ty Wg J2 X Don S2 (n - (r + 1)) (nSp P ty Wg J2 n Anch X Don S2 r)) T O W g w → MSit (.sp r 1) (n - (r + 1)) T 0 O W g w
  | kd {T : Tk} {O W : Nat → Prop} {g : Goroutine} {w : World} : WillT P true (JJ ty Wg J2) (nKd P ty Wg J2 Anch) T O W g w → MSit .kd n T 0 O W g w
  | anch {T : Tk} {O W : Nat → Prop} {g : Goroutine} {w : World} : WillT P true (JJ ty Wg J2) Anch T O W g w → MSit .anch n T 1 O W g w
  | w1 {T : Tk} {O W : Nat → Prop} {g : Goroutine} {w : World} : WillT P true (JJ ty Wg J2) (nW1 P ty Wg J2 n KE Anch) T O W g w → MSit .w1 n T 1 O W g w
  | w2 {vs : Nat} {T : Tk} {O W : Nat → Prop} {g : Goroutine} {w : World} : WillT P true (JJ ty Wg J2) (nW2 P ty Wg J2 n KE Anch vs) T O W g w → MSit (.w2 vs) n T 1 O W g w
  | ws {T : Tk} {O W : Nat → Prop} {g : Goroutine} {w : World} : WillT P true (JJ ty Wg J2) (nWs P ty Wg J2 KE) T O W g w → MSit .ws n T 1 O W g w
  | w3 {T : Tk} {O W : Nat → Prop} {g : Goroutine} {w : World} : WillT P true (JJ ty Wg J2) (nW3 P ty Wg J2 KE) T O W g w → MSit .w3 n T 1 O W g w
  | blk {O W : Nat → Prop} {g : Goroutine} {w : World} : (∀ w1, Rely O w w1 → JJ ty Wg J2 w1 → nW3 P ty Wg J2 KE O W g w1) → MSit .blk n .lf 1 O W { g with status := .blocked } w
  | w4 {T : Tk} {O W : Nat → Prop} {g : Goroutine} {w : World} : WillT P true (JJ ty Wg J2) (nW4 P ty Wg J2 KE) T O W g w → MSit .w4 n T 1 O W g w
  | ke {T : Tk} {O W : Nat → Prop} {g : Goroutine} {w : World} : WillT P true (JJ ty Wg J2) (nKe P ty Wg J2 KE) T O W g w → MSit .ke n T 1 O W g w
  | acq {T : Tk} {O W : Nat → Prop} {g : Goroutine} {w : World} : WillT P true (JJ ty Wg J2) (nAcq P Wg KE) T O W g w → MSit .acq n T 0 O W g w
end
def MTag.minor : MTag → Nat
  | .w3 => 1
  | _ => 0

section
variable [Payload]
variable {P : Program} {ty : TypeId} {Wg : Nat} {J2 : World → Prop} {X : Nat → Addr → Prop} {Don : Nat → World → Prop} {S2 : Nat → Prop} {n : Nat} {KE Anch : KP}
theorem rw_of {O : Nat → Prop} {w w1 : World} {c : Nat} (hr : Rely O w w1) (hc : O c) (hj : JJ ty Wg J2 w1) : RW ty Wg c 1 0 0 w w1 :=
  ⟨fun b hb => by omega, fun _ => hj.1, fun ⟨cs, h1, h2⟩ => ⟨cs, by rw [hr.keep c hc]; exact h1, h2⟩, Go.ConcN.cell_of_block (hr.keep c hc) 0⟩
theorem WkSit.rely {i : Nat} {d : WD} {u : Nat} {T : Tk} {q : Gh} {g : Goroutine} {w w1 : World} (h : WkSit P ty Wg J2 X Don S2 i d u T q g w) (hr : Rely q.O w w1) (hj : JJ ty Wg J2 w1) : WkSit P ty Wg J2 X Don S2 i d u T q g w1 := by
  cases h with
  | work h => exact .work (h.rely hr)
  | tail h hO hW => exact .tail (Go.ConcN.WSit.rely h (rw_of hr hO hj)) hO hW
theorem wkK_running {i k : Nat} {O W : Nat → Prop} {g : Goroutine} {w : World} (h : WkK P ty Wg J2 X Don S2 i k O W g w) : g.status = .running := by
  cases k with
  | zero =>
    obtain ⟨c, _, v, m, h⟩ := h
    exact Go.ConcN.WSit.running_of h (by omega)
  | succ k => exact h.1
theorem WkSit.status {i : Nat} {d : WD} {u : Nat} {T : Tk} {q : Gh} {g : Goroutine} {w : World} (h : WkSit P ty Wg J2 X Don S2 i d u T q g w) (hj : JJ ty Wg J2 w) : g.status = .running ∨ (g.status = .finished ∧ d.stage = 1) := by
  cases h with
  | work h => exact .inl (h.status (fun _ _ _ _ => wkK_running) hj)
  | @tail c v s m dd _ _ _ h _ _ =>
    by_cases hs : u = 1
    · exact (Go.ConcN.WSit.status h).imp id fun x => ⟨x, hs⟩
    · exact .inl (Go.ConcN.WSit.running_of h hs)
theorem WkSit.woken {i : Nat} {d : WD} {u : Nat} {T : Tk} {q : Gh} {g : Goroutine} {w : World} (h : WkSit P ty Wg J2 X Don S2 i d u T q g w) (hj : JJ ty Wg J2 w) (a a' : Goroutine) (w' : World) : woken P a a' w' g = g := by
  unfold Go.Conc.woken
  split
  · exact again_running _ ((h.status hj).imp id And.left)
  · rfl
theorem MSit.rely {mt : MTag} {j : Nat} {T : Tk} {d : Nat} {O W : Nat → Prop} {g : Goroutine} {w w1 : World} (h : MSit P ty Wg J2 X Don S2 n KE Anch mt j T d O W g w) (hr : Rely O w w1) : MSit P ty Wg J2 X Don S2 n KE Anch mt j T d O W g w1 := by
  cases h with
  | skd hr' h => exact .skd hr' (h.rely hr)
  | sa1 hr' h => exact .sa1 hr' (h.rely hr)
  | srs hr' h => exact .srs hr' (h.rely hr)
  | ske hr' h => exact .ske hr' (h.rely hr)
  | sgo hr' h => exact .sgo hr' (h.rely hr)
  | kd h => exact .kd (h.rely hr)
  | anch h => exact .anch (h.rely hr)
  | w1 h => exact .w1 (h.rely hr)
  | w2 h => exact .w2 (h.rely hr)
  | ws h => exact .ws (h.rely hr)
  | w3 h => exact .w3 (h.rely hr)
  | blk h => exact .blk fun w2 h2 => h w2 (hr.trans h2)
  | w4 h => exact .w4 (h.rely hr)
  | ke h => exact .ke (h.rely hr)
  | acq h => exact .acq (h.rely hr)
theorem MSit.status (hAr : ∀ O W g w, Anch O W g w → g.status = .running) {mt : MTag} {j : Nat} {T : Tk} {d : Nat} {O W : Nat → Prop} {g : Goroutine} {w : World} (h : MSit P ty Wg J2 X Don S2 n KE Anch mt j T d O W g w) (hj : JJ ty Wg J2 w) :
    g.status = .running ∨ (g.status = .blocked ∧ mt = .blk) := by
  cases h with
  | skd _ h => exact .inl (h.status (fun _ _ _ _ x => x.1) hj)
  | sa1 _ h => exact .inl (h.status (fun _ _ _ _ x => x.1) hj)
  | srs _ h => exact .inl (h.status (fun _ _ _ _ x => x.1) hj)
  | ske _ h => exact .inl (h.status (fun _ _ _ _ x => x.1) hj)
  | sgo _ h => exact .inl (h.status (fun _ _ _ _ x => x.1) hj)
  | kd h => exact .inl (h.status (fun _ _ _ _ x => x.1) hj)
  | anch h => exact .inl (h.status hAr hj)
  | w1 h => exact .inl (h.status (fun _ _ _ _ x => x.1) hj)
  | w2 h => exact .inl (h.status (fun _ _ _ _ x => x.1) hj)
  | ws h => exact .inl (h.status (fun _ _ _ _ x => x.1) hj)
  | w3 h => exact .inl (h.status (fun _ _ _ _ x => x.1) hj)
  | blk h => exact .inr ⟨rfl, rfl⟩
  | w4 h => exact .inl (h.status (fun _ _ _ _ x => x.1) hj)
  | ke h => exact .inl (h.status (fun _ _ _ _ x => x.1) hj)
  | acq h => exact .inl (h.status (fun _ _ _ _ x => x.1) hj)
/-- Goroutine 0 behind another one's step: as it was, or let try again. -/
theorem MSit.wokenBy (hAr : ∀ O W g w, Anch O W g w → g.status = .running) {mt : MTag} {j : Nat} {T : Tk} {d : Nat} {O W : Nat → Prop} {a : Goroutine} {w w' : World} (h : MSit P ty Wg J2 X Don S2 n KE Anch mt j T d O W a w) (hr : Rely O w w') (hj : JJ ty Wg J2 w) (g g' : Goroutine) :
    ∃ mt' T', MSit P ty Wg J2 X Don S2 n KE Anch mt' j T' d O W (woken P g g' w' a) w' ∧ (mt' = mt ∨ (mt = .blk ∧ mt' = .w3)) ∧ (mayWake P g = true → g'.status = .running → mt' ≠ .blk) := by
  by_cases hb : mt = .blk
  · subst hb
    cases h with
    | @blk _ _ g0 _ h =>
      by_cases hw : (mayWake P g && g'.status != .blocked && g'.status != .waiting) = true
      · refine ⟨.w3, .lf, ?_, .inr ⟨rfl, rfl⟩, fun _ _ => by simp⟩
        have e : woken P g g' w' { g0 with status := .blocked } = g0 := by
          have hr0 := (h w (Rely.refl _ _) hj).1
          have ho := (h w (Rely.refl _ _) hj).2.1
          unfold Go.Conc.woken
          rw [if_pos hw]
          obtain ⟨fr, cs, stt, dy, off⟩ := g0
          simp only at hr0 ho
          subst hr0
          subst ho
          simp [Goroutine.again]
        rw [e]
        exact .w3 fun w1 h1 j1 => h w1 (hr.trans h1) j1
      · refine ⟨.blk, .lf, ?_, .inl rfl, fun h1 h2 => ?_⟩
        · unfold Go.Conc.woken
          rw [if_neg hw]
          exact .blk fun w1 h1 => h w1 (hr.trans h1)
        · exfalso
          apply hw
          simp [h1, h2]
  · refine ⟨mt, T, ?_, .inl rfl, fun _ _ => hb⟩
    have hs := (h.status hAr hj).resolve_right fun x => hb x.2
    rw [woken_run hs]
    exact h.rely hr
end
end Go.Eng
namespace Go.Eng
open Go.Conc
open Go.ConcN (PermW fork_knows RelBy upd upd_same upd_ne sumTo sumTo_upd sumTo_upd_out sumTo_congr le_sumTo WgLive ShN RW DWs AtR0 AtK1 AtD1 AtD2 AtD3 AtD4 WSit WD CTag cnt Vc Vc_upd Vc_le AllQuit OpenSt get_map_set get_map_set_same isW3 isOpen isFin pend)
open Go.ConcR (KK wgBlock WgAt stA smA rd mk Payload Bk ofEvent_loc_mark ofEvent_mk ofEvent_cell)
set_option linter.unusedSimpArgs false
set_option linter.unusedVariables false
set_option linter.unusedSectionVars false

def Lv (s0 j : Nat) (x : Nat) : Prop := x = 0 ∨ (s0 ≤ x ∧ x < s0 + j)
section
variable [Payload]
variable (P : Program) (ty : TypeId) (Wg : Nat) (J2 : World → Prop) (X : Nat → Addr → Prop) (Don : Nat → World → Prop) (S2 : Nat → Prop) (n : Nat) (KE Anch : KP) (Sh : Loc → Prop) (s0 p0 : Nat)
structure CM (j : Nat) (gs : Array Goroutine) (w : World) (t : Trace) (Q : Nat → Gh) (D : Nat → WD) (u : Nat → Nat) (V : Nat → Tk) (q : Nat → Nat) (d0 : Nat) : Prop where
  size : gs.size = s0 + j
  wk : ∀ i, i < j → ∃ g, gs[s0 + i]? = some g ∧ WkSit P ty Wg J2 X Don S2 i (D i) (u i) (V i) (Q (s0 + i)) g w
  old : ∀ i g, 0 < i → i < s0 → gs[i]? = some g → QuitsD P (q i) (Deaf t i) g
  tr : TR Sh (Lv s0 j) Q w.heap.size t
  hd : HD Sh (fun g => s0 ≤ g) t
  norel : ∀ k, p0 ≤ k → t.act? k ≠ some (.mark (.release (stA Wg)))
  begun : p0 ≤ t.size
  deaf0 : Deaf t 0 = d0
  deafW : ∀ i, i < j → Deaf t (s0 + i) = (D i).deaf
  nums : Numbered gs.size t
  rel : ∀ i, i < j → (D i).stage ≤ 6 → ∃ r, p0 ≤ r ∧ RelBy (stA Wg) t (s0 + i) r
  don : ∀ i, i < j → u i ≤ 8 → Don i w
  xs : ∀ i, i < j → (Q (s0 + i)).X = X i
  x0 : (Q 0).X = fun a => ∃ i, j ≤ i ∧ i < n ∧ X i a
  s2 : ∀ x, Lv s0 j x → ∀ b, (Q x).O b → ¬ S2 b
  s2l : ∀ b, S2 b → b < w.heap.size
  j2 : J2 w
/-- What is asked once and for all. -/
structure Fix : Prop where
  pos : 0 < s0
  sh : ∀ l, ShN Wg l → Sh l
  j2 : ∀ w w1 : World, (∀ b, S2 b → w1.heap[b]? = w.heap[b]?) → J2 w → J2 w1
  xs : ∀ i a, X i a → S2 a.block
  xd : ∀ i k a, X i a → X k a → i = k
  wg : ¬ S2 Wg
  don : ∀ i w w1, (∀ a, X i a → w1.cell? a = w.cell? a) → Don i w → Don i w1
  ar : ∀ O W g w, Anch O W g w → g.status = .running
  an : ∀ O W g w, Anch O W g w → g.status = .running → MM P ty Wg J2 (nW1 P ty Wg J2 n KE Anch) O W g w
  lim : n < 2147483647
abbrev Mu := Nat × (Nat → Tk) × Nat × Tk
def MuLt : Mu → Mu → Prop := Prod.Lex (· < ·) (Prod.Lex (VLt n) (Prod.Lex (· < ·) Tk.Lt))
theorem MuLt.wf : WellFounded (MuLt n) := by
  have h1 := (Prod.lex (ha := Nat.lt_wfRel) (hb := ⟨Tk.Lt, Tk.wf⟩)).wf
  have h2 := (Prod.lex (ha := ⟨VLt n, VLt.wf n⟩) (hb := ⟨_, h1⟩)).wf
  exact (Prod.lex (ha := Nat.lt_wfRel) (hb := ⟨_, h2⟩)).wf
def GInv (μ : Mu) (m : Machine) (t : Trace) : Prop :=
  ∃ (gs : Array Goroutine) (w : World) (sl : Option (Nat × Nat)) (j : Nat) (D : Nat → WD) (u : Nat → Nat) (V : Nat → Tk) (q : Nat → Nat) (Q : Nat → Gh) (mt : MTag) (T0 : Tk) (d0 : Nat) (a : Goroutine) (st sm : Int),
    m = crowd gs w sl ∧ gs[0]? = some a ∧ j ≤ n ∧ MSit P ty Wg J2 X Don S2 n KE Anch mt j T0 d0 (Q 0).O (Q 0).W a w ∧ CM P ty Wg J2 X Don S2 n Sh s0 p0 j gs w t Q D u V q d0 ∧ WgAt ty Wg w st sm ∧ ConcN.Mode j D mt.c st sm ∧
    μ = (mt.phi n (Vc j D) + sumTo j u + sumTo s0 q, V, mt.minor, T0)
end

section
variable [Payload]
variable {P : Program} {ty : TypeId} {Wg : Nat} {J2 : World → Prop} {X : Nat → Addr → Prop} {Don : Nat → World → Prop} {S2 : Nat → Prop} {n : Nat} {KE Anch : KP} {Sh : Loc → Prop} {s0 p0 : Nat}
variable {j : Nat} {gs : Array Goroutine} {w w' : World} {t : Trace} {Q : Nat → Gh} {D : Nat → WD} {u : Nat → Nat} {V : Nat → Tk} {q : Nat → Nat} {d0 : Nat} {sl : Option (Nat × Nat)} {mt : MTag} {T0 : Tk} {a : Goroutine} {st sm : Int}
/-- What a step of goroutine x's does to memory. -/
structure Mv (Wg : Nat) (S2 : Nat → Prop) (W : Nat → Prop) (Xs : Addr → Prop) (w w' : World) : Prop where
  keep : ∀ b, b < w.heap.size → ¬ W b → ¬ S2 b → b ≠ Wg → w'.heap[b]? = w.heap[b]?
  cell : ∀ a, S2 a.block → ¬ Xs a → w'.cell? a = w.cell? a
  size : w.heap.size ≤ w'.heap.size
  os : w'.os = w.os
  tape : w'.tape = w.tape
  output : w'.output = w.output
theorem CM.notWg (F : Fix P ty Wg J2 X Don S2 n KE Anch Sh s0) (h : CM P ty Wg J2 X Don S2 n Sh s0 p0 j gs w t Q D u V q d0) {x : Nat} (hx : Lv s0 j x) {b : Nat} (hb : (Q x).O b) : b ≠ Wg := by
  rintro rfl
  exact (h.tr.lt x hx (.cell ⟨b, 0, none⟩) (.inl hb)).2 (F.sh _ ⟨_, rfl, rfl⟩)
theorem CM.wo (h : CM P ty Wg J2 X Don S2 n Sh s0 p0 j gs w t Q D u V q d0) {x : Nat} (hx : Lv s0 j x) {b : Nat} (hb : (Q x).W b) : (Q x).O b := h.tr.sub x hx (.obj b) hb
/-- The others suffer it. -/
theorem CM.relies (F : Fix P ty Wg J2 X Don S2 n KE Anch Sh s0) (h : CM P ty Wg J2 X Don S2 n Sh s0 p0 j gs w t Q D u V q d0) {x y : Nat} (hx : Lv s0 j x) (hy : Lv s0 j y) (hne : x ≠ y) {Xs : Addr → Prop} (m : Mv Wg S2 (Q x).W Xs w w') : Rely (Q y).O w w' := by
  refine ⟨fun b hb => m.keep b ?_ (fun hw => ?_) (h.s2 y hy b hb) (h.notWg F hy hb), m.size, m.os, m.tape, m.output⟩
  · exact (h.tr.lt y hy (.obj b) hb).1
  · exact h.tr.apart x y hx hy hne (.obj b) hw hb
theorem cell_far {w w' : World} {b : Nat} (h : w'.heap[b]? = w.heap[b]?) (a : Addr) (ha : a.block = b) : w'.cell? a = w.cell? a := by
  subst ha
  simp [World.cell?, h]
/-- A plain step's moves. -/
theorem CM.mv (F : Fix P ty Wg J2 X Don S2 n KE Anch Sh s0) (h : CM P ty Wg J2 X Don S2 n Sh s0 p0 j gs w t Q D u V q d0) {x : Nat} (hx : Lv s0 j x) {es : Array Event} (hg : Guar (Q x).O (Q x).W w w' es) : Mv Wg S2 (Q x).W (fun _ => False) w w' :=
  ⟨fun b hb hw _ _ => hg.keep b hb hw, fun a ha _ => cell_far (hg.keep a.block (h.s2l _ ha) fun hw => h.s2 x hx _ (h.wo hx hw) ha) a rfl, hg.size, hg.os, hg.tape, hg.output⟩
theorem lv0 : Lv s0 j 0 := .inl rfl
theorem lvw {i : Nat} (hi : i < j) : Lv s0 j (s0 + i) := .inr ⟨by omega, by omega⟩
theorem sumTo_drop {f : Nat → Nat} {i k : Nat} {j : Nat} (hi : i < j) (h : k < f i) : sumTo j (upd f i k) < sumTo j f := by
  have := sumTo_upd f k id hi
  simp only [id] at this
  show sumTo j (fun a => upd f i k a) < sumTo j (fun a => f a)
  omega
theorem sumTo_keep {f : Nat → Nat} {i k : Nat} {j : Nat} (hi : i < j) (h : k = f i) : sumTo j (upd f i k) = sumTo j f := by
  have := sumTo_upd f k id hi
  simp only [id] at this
  show sumTo j (fun a => upd f i k a) = sumTo j (fun a => f a)
  omega
theorem MTag.phi_mono (n : Nat) {v v' : Nat} (h : v' ≤ v) (mt : MTag) : mt.phi n v' ≤ mt.phi n v := by
  cases mt <;> simp only [MTag.phi] <;> omega
theorem MTag.phi_retag (n v : Nat) {mt mt' : MTag} (e : mt' = mt ∨ (mt = .blk ∧ mt' = .w3)) : mt'.phi n v = mt.phi n v := by
  rcases e with rfl | ⟨rfl, rfl⟩ <;> rfl

/-- Whatever step of worker number i. -/
theorem workerStep (F : Fix P ty Wg J2 X Don S2 n KE Anch Sh s0) (ha : gs[0]? = some a) (hj : j ≤ n) (hcs : MSit P ty Wg J2 X Don S2 n KE Anch mt j T0 d0 (Q 0).O (Q 0).W a w) (hcom : CM P ty Wg J2 X Don S2 n Sh s0 p0 j gs w t Q D u V q d0) (hwg : WgAt ty Wg w st sm)
    {i : Nat} (hi : i < j) {g g' : Goroutine} {es : Array Event} {d' : WD} {u' : Nat} {T' : Tk} {q' : Gh} {st' sm' : Int} (hg : gs[s0 + i]? = some g) (hgo : stepG P false g w = .go g' w' es)
    (hm : Mv Wg S2 (Q (s0 + i)).W (X i) w w') (htr : TR Sh (Lv s0 j) (upd Q (s0 + i) q') w'.heap.size (t ++ MemOp.ofEvents (s0 + i) g.frame.fn g.frame.place es))
    (hhd : ∀ op ∈ MemOp.ofEvents (s0 + i) g.frame.fn g.frame.place es, ∀ b, op.act.touch? = some b → b.kind = .plain ∨ Sh b.loc)
    (hs' : WkSit P ty Wg J2 X Don S2 i d' u' T' q' g' w') (hx : q'.X = X i) (hs2 : ∀ b, q'.O b → ¬ S2 b) (hnr : ∀ e ∈ es, e.loc ≠ .mark (.release (stA Wg)))
    (hdeaf : deafBehind (D i).deaf es = d'.deaf) (hrel : d'.stage ≤ 6 → ∃ r, p0 ≤ r ∧ RelBy (stA Wg) (t ++ MemOp.ofEvents (s0 + i) g.frame.fn g.frame.place es) (s0 + i) r)
    (hdon : u' ≤ 8 → Don i w') (hj2 : J2 w') (hwg' : WgAt ty Wg w' st' sm')
    (hmode : ∀ mt', (mt' = mt ∨ (mt = .blk ∧ mt' = .w3)) → (mayWake P g = true → g'.status = .running → mt' ≠ .blk) → ConcN.Mode j (upd D i d') mt'.c st' sm')
    (hlt : (u' < u i ∧ cnt d' ≤ cnt (D i)) ∨ (u' = u i ∧ cnt d' = cnt (D i) ∧ Tk.Lt T' (V i))) :
    ∃ m₁ ops μ', runT P (crowd gs w sl) (s0 + i) = (.next m₁, ops) ∧ MuLt n μ' (mt.phi n (Vc j D) + sumTo j u + sumTo s0 q, V, mt.minor, T0) ∧ GInv P ty Wg J2 X Don S2 n KE Anch Sh s0 p0 μ' m₁ (t ++ ops) := by
  have hjj : JJ ty Wg J2 w := ⟨⟨_, _, hwg⟩, hcom.j2⟩
  have hjj' : JJ ty Wg J2 w' := ⟨⟨_, _, hwg'⟩, hj2⟩
  have hpos := F.pos
  obtain ⟨mt', T0', hcs', htag, hwk⟩ := hcs.wokenBy F.ar (hcom.relies F (lvw hi) lv0 (by omega) hm) hjj g g'
  have hne0 : (s0 + i == 0) = false := by simp; omega
  have hrun := runT_crowd_go (P := P) (sl := sl) (i := s0 + i) hg (by rw [hne0]; exact hgo)
  have hlt' : s0 + i < gs.size := (Array.getElem?_eq_some_iff.1 hg).1
  have e1 := sumTo_upd D d' cnt hi
  have hq0 : upd Q (s0 + i) q' 0 = Q 0 := upd_ne _ _ (by omega)
  refine ⟨_, _, (mt'.phi n (Vc j (upd D i d')) + sumTo j (upd u i u') + sumTo s0 q, upd V i T', mt'.minor, T0'), hrun, ?_,
    _, w', sl, j, upd D i d', upd u i u', upd V i T', q, upd Q (s0 + i) q', mt', T0', d0, woken P g g' w' a, st', sm', rfl, ?_, hj, by rw [hq0]; exact hcs', ?_, hwg', hmode mt' htag hwk, rfl⟩
  · rw [MTag.phi_retag n _ htag]
    rcases hlt with ⟨h1, h2⟩ | ⟨h1, h2, h3⟩
    · refine Prod.Lex.left _ _ ?_
      have := MTag.phi_mono n (v' := Vc j (upd D i d')) (v := Vc j D) (by simp only [Vc]; omega) mt
      have := sumTo_drop (f := u) hi h1
      omega
    · have e2 : Vc j (upd D i d') = Vc j D := by simp only [Vc]; omega
      rw [e2, sumTo_keep hi h1]
      refine Prod.Lex.right _ (Prod.Lex.left _ _ ⟨i, by omega, by rw [upd_same]; exact h3, fun k _ hk => by rw [upd_ne _ _ hk]⟩)
  · rw [get_map_set _ _ _ _ (by omega), ha]; rfl
  · refine ⟨by simp [hcom.size], fun k hk => ?_, fun k x hk hk2 hx' => ?_, htr, hcom.hd.app hhd (fun op hop => .inr (.inl (by rw [ofEvents_g op hop]; omega))), ?_, by rw [Array.size_append]; have := hcom.begun; omega, ?_, fun k hk => ?_, ?_, fun k hk hst => ?_, fun k hk hu => ?_, fun k hk => ?_, ?_, fun x hx' b hb => ?_, fun b hb => Nat.lt_of_lt_of_le (hcom.s2l b hb) hm.size, hj2⟩
    · by_cases e : k = i
      · subst e
        rw [upd_same, upd_same, upd_same, upd_same]
        exact ⟨g', by simp [hlt'], hs'⟩
      · obtain ⟨y, hy, hys⟩ := hcom.wk k hk
        rw [upd_ne _ _ e, upd_ne _ _ e, upd_ne _ _ e, upd_ne _ _ (by omega)]
        refine ⟨y, ?_, hys.rely (hcom.relies F (lvw hi) (lvw hk) (by omega) hm) hjj'⟩
        rw [get_map_set _ _ _ _ (by omega), hy, Option.map_some, hys.woken hjj]
    · rw [get_map_set _ _ _ _ (by omega)] at hx'
      obtain ⟨y, hy, rfl⟩ := Option.map_eq_some_iff.1 hx'
      have hq := hcom.old k y hk hk2 hy
      rw [woken_quitsD hq, Deaf_other t (by omega) _ ofEvents_g]
      exact hq
    · intro k hk0 hk
      by_cases hks : k < t.size
      · rw [act?_old hks] at hk
        exact hcom.norel k hk0 hk
      · unfold Trace.act? at hk
        obtain ⟨op, ho, hoa⟩ := Option.map_eq_some_iff.1 hk
        rcases getElem?_append_cases ho with ⟨h1, _⟩ | ⟨_, h1⟩
        · exact hks h1
        · rw [Go.Conc.ofEvents_eq] at h1
          obtain ⟨e, he, rfl⟩ := Array.mem_map.1 h1
          exact hnr e he (Go.ConcR.loc_of_ofEvent hoa)
    · rw [Deaf_other t (g' := s0 + i) (by omega) _ ofEvents_g]
      exact hcom.deaf0
    · by_cases e : k = i
      · subst e
        rw [upd_same, Deaf_own, hcom.deafW k hk]
        exact hdeaf
      · rw [upd_ne _ _ e, Deaf_other t (g' := s0 + i) (by omega) _ ofEvents_g]
        exact hcom.deafW k hk
    · have : ((gs.map (woken P g g' w')).setIfInBounds (s0 + i) g').size = gs.size := by simp
      rw [this]
      exact hcom.nums.app fun op hop => by rw [ofEvents_g op hop]; exact hlt'
    · by_cases e : k = i
      · subst e
        rw [upd_same] at hst
        exact hrel hst
      · rw [upd_ne _ _ e] at hst
        obtain ⟨r, hr0, hr⟩ := hcom.rel k hk hst
        exact ⟨r, hr0, hr.appOther ofEvents_g (by omega)⟩
    · by_cases e : k = i
      · subst e
        rw [upd_same] at hu
        exact hdon hu
      · rw [upd_ne _ _ e] at hu
        refine F.don k w w' (fun c hc => hm.cell c (F.xs k c hc) fun hc2 => ?_) (hcom.don k hk hu)
        have h1 : (Q (s0 + i)).wl (.cell c) := .inr (by rw [hcom.xs i hi]; exact hc2)
        have h2 : (Q (s0 + k)).ol (.cell c) := .inr (by rw [hcom.xs k hk]; exact hc)
        exact hcom.tr.apart (s0 + i) (s0 + k) (lvw hi) (lvw hk) (by omega) _ h1 h2
    · by_cases e : k = i
      · subst e
        rw [upd_same]
        exact hx
      · rw [upd_ne _ _ (by omega)]
        exact hcom.xs k hk
    · rw [hq0]
      exact hcom.x0
    · by_cases e : x = s0 + i
      · subst e
        rw [upd_same] at hb
        exact hs2 b hb
      · rw [upd_ne _ _ e] at hb
        exact hcom.s2 x hx' b hb
end
end Go.Eng
