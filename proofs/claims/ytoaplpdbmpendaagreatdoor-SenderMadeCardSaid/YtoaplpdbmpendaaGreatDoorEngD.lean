/-
  The engine, part A: values under a renaming of blocks, a plain heap, and what it means that a plain heap stands for a part of the model's memory.
-/
import Derived.Calls
import Derived.Orders
import Derived.KernelRfl
import Derived.Laws.World
import Derived.Laws.Sem
import Derived.Laws.Cells
import Derived.Laws.IdiomCopy
import Derived.Laws.Tables
import Derived.Great.BuildSlice
import Derived.Laws.AppendOwn
set_option linter.unusedSectionVars false
set_option linter.unusedSimpArgs false
set_option linter.unusedVariables false
namespace Go.Eng
set_option linter.unusedSimpArgs false
set_option linter.unusedVariables false

/-! ### Values -/
def mvFn (f : Nat → Nat) : Fn → Fn
  | .yield l => .yield (f l)
  | g => g

/-- A renaming: the model's block of a plain one (f), at which of its cells the plain one begins (s), and how many elements more it has to spare (x). 'o': values that are only handed on: what stands behind '.chan (some r)' is the caller's own, one cell. -/
structure Ren where
  f : Nat → Nat
  x : Nat → Nat
  s : Nat → Nat
  o : Nat → Value
  one : ∀ r, (o r).oneCell' = true

/-- A slice's place: a spot 't' says that its cells begin t / 2 further on, if there is anything to spare (such a slice is empty). -/
def soff (ρ : Ren) (a : Addr) : Nat := (match a.spot with | none => a.off | some t => if ρ.x a.block = 0 then a.off else a.off + t / 2) + ρ.s a.block
/-- A slice's capacity: without a spot, or at an odd one, the elements to spare belong to it. -/
def scap (ρ : Ren) (a : Addr) (c : Nat) : Nat := match a.spot with | none => c + ρ.x a.block | some t => if t % 2 = 0 then c else c + ρ.x a.block

mutual
/-- A value with its blocks renamed. -/
def mv (ρ : Ren) : Value → Value
  | .pointer (some a) => .pointer (some { a with block := ρ.f a.block, off := a.off + ρ.s a.block })
  | .slice (some a) l c => .slice (some ⟨ρ.f a.block, soff ρ a, none⟩) l (scap ρ a c)
  | .map (some r) => .map (some (ρ.f r))
  | .chan (some r) => ρ.o r
  | .func g ⟨p⟩ ⟨q⟩ => .func (mvFn ρ.f g) ⟨mvL ρ p⟩ ⟨mvL ρ q⟩
  | .iface t v => .iface t (mv ρ v)
  | .agg ⟨cs⟩ => .agg ⟨mvL ρ cs⟩
  | .tuple ⟨vs⟩ => .tuple ⟨mvL ρ vs⟩
  | v => v
def mvL (ρ : Ren) : List Value → List Value
  | [] => []
  | v :: vs => mv ρ v :: mvL ρ vs
end

mutual
/-- All blocks that a value names have the property; an address outside slices bears no spot. -/
def Clo (D : Nat → Prop) : Value → Prop
  | .pointer (some a) => D a.block ∧ a.spot = none
  | .slice (some a) _ _ => D a.block
  | .map (some r) => D r
  | .func g ⟨p⟩ ⟨q⟩ => (match g with | .yield l => D l | _ => True) ∧ CloL D p ∧ CloL D q
  | .iface _ v => Clo D v
  | .agg ⟨cs⟩ => CloL D cs
  | .tuple ⟨vs⟩ => CloL D vs
  | _ => True
def CloL (D : Nat → Prop) : List Value → Prop
  | [] => True
  | v :: vs => Clo D v ∧ CloL D vs
end

mutual
/-- No block is named at all. -/
def plain : Value → Bool
  | .pointer (some _) => false
  | .slice (some _) _ _ => false
  | .map (some _) => false
  | .chan (some _) => false
  | .func g ⟨p⟩ ⟨q⟩ => (match g with | .yield _ => false | _ => true) && plainL p && plainL q
  | .iface _ v => plain v
  | .agg ⟨cs⟩ => plainL cs
  | .tuple ⟨vs⟩ => plainL vs
  | _ => true
def plainL : List Value → Bool
  | [] => true
  | v :: vs => plain v && plainL vs
end

theorem mvL_map (ρ : Ren) (l : List Value) : mvL ρ l = l.map (mv ρ) := by
  induction l with
  | nil => rfl
  | cons v l ih => simp [mvL, ih]
theorem CloL_all {D : Nat → Prop} {l : List Value} : CloL D l ↔ ∀ v ∈ l, Clo D v := by
  induction l with
  | nil => simp [CloL]
  | cons v l ih => simp [CloL, ih]
theorem plainL_all {l : List Value} : plainL l = true ↔ ∀ v ∈ l, plain v = true := by
  induction l with
  | nil => simp [plainL]
  | cons v l ih => simp [plainL, ih]
theorem mv_agg (ρ : Ren) (cs : Array Value) : mv ρ (.agg cs) = .agg (cs.map (mv ρ)) := by
  obtain ⟨l⟩ := cs
  simp [mv, mvL_map]
theorem mv_tuple (ρ : Ren) (cs : Array Value) : mv ρ (.tuple cs) = .tuple (cs.map (mv ρ)) := by
  obtain ⟨l⟩ := cs
  simp [mv, mvL_map]
theorem mv_func (ρ : Ren) (g : Fn) (p q : Array Value) : mv ρ (.func g p q) = .func (mvFn ρ.f g) (p.map (mv ρ)) (q.map (mv ρ)) := by
  obtain ⟨p⟩ := p; obtain ⟨q⟩ := q
  simp [mv, mvL_map]
theorem Clo_agg {D : Nat → Prop} {cs : Array Value} : Clo D (.agg cs) ↔ ∀ v ∈ cs.toList, Clo D v := by
  obtain ⟨l⟩ := cs
  simp [Clo, CloL_all]
theorem Clo_tuple {D : Nat → Prop} {cs : Array Value} : Clo D (.tuple cs) ↔ ∀ v ∈ cs.toList, Clo D v := by
  obtain ⟨l⟩ := cs
  simp [Clo, CloL_all]

mutual
theorem mv_plain (ρ : Ren) : ∀ v : Value, plain v = true → mv ρ v = v
  | .bool _, _ => rfl
  | .int _ _, _ => rfl
  | .float _ _, _ => rfl
  | .complex _ _ _, _ => rfl
  | .string _, _ => rfl
  | .pointer none, _ => rfl
  | .pointer (some _), h => by simp [plain] at h
  | .slice none _ _, _ => rfl
  | .slice (some _) _ _, h => by simp [plain] at h
  | .map none, _ => rfl
  | .map (some _), h => by simp [plain] at h
  | .chan none, _ => rfl
  | .chan (some _), h => by simp [plain] at h
  | .func g ⟨p⟩ ⟨q⟩, h => by
    simp only [plain, Bool.and_eq_true] at h
    have hg : mvFn ρ.f g = g := by cases g <;> simp_all [mvFn]
    simp [mv, hg, mvL_plain ρ p h.1.2, mvL_plain ρ q h.2]
  | .nilFunc, _ => rfl
  | .iface t v, h => by
    simp only [plain] at h
    simp [mv, mv_plain ρ v h]
  | .nilIface, _ => rfl
  | .agg ⟨cs⟩, h => by
    simp only [plain] at h
    simp [mv, mvL_plain ρ cs h]
  | .tuple ⟨vs⟩, h => by
    simp only [plain] at h
    simp [mv, mvL_plain ρ vs h]
theorem mvL_plain (ρ : Ren) : ∀ l : List Value, plainL l = true → mvL ρ l = l
  | [], _ => rfl
  | v :: l, h => by
    simp only [plainL, Bool.and_eq_true] at h
    simp [mvL, mv_plain ρ v h.1, mvL_plain ρ l h.2]
end

mutual
theorem Clo_plain (D : Nat → Prop) : ∀ v : Value, plain v = true → Clo D v
  | .bool _, _ => trivial
  | .int _ _, _ => trivial
  | .float _ _, _ => trivial
  | .complex _ _ _, _ => trivial
  | .string _, _ => trivial
  | .pointer none, _ => trivial
  | .pointer (some _), h => by simp [plain] at h
  | .slice none _ _, _ => trivial
  | .slice (some _) _ _, h => by simp [plain] at h
  | .map none, _ => trivial
  | .map (some _), h => by simp [plain] at h
  | .chan none, _ => trivial
  | .chan (some _), _ => trivial
  | .func g ⟨p⟩ ⟨q⟩, h => by
    simp only [plain, Bool.and_eq_true] at h
    refine ⟨?_, CloL_plain D p h.1.2, CloL_plain D q h.2⟩
    cases g <;> simp_all
  | .nilFunc, _ => trivial
  | .iface t v, h => by
    simp only [plain] at h
    exact Clo_plain D v h
  | .nilIface, _ => trivial
  | .agg ⟨cs⟩, h => by
    simp only [plain] at h
    exact CloL_plain D cs h
  | .tuple ⟨vs⟩, h => by
    simp only [plain] at h
    exact CloL_plain D vs h
theorem CloL_plain (D : Nat → Prop) : ∀ l : List Value, plainL l = true → CloL D l
  | [], _ => trivial
  | v :: l, h => by
    simp only [plainL, Bool.and_eq_true] at h
    exact ⟨Clo_plain D v h.1, CloL_plain D l h.2⟩
end

mutual
theorem Clo_mono {D D' : Nat → Prop} (h : ∀ k, D k → D' k) : ∀ v : Value, Clo D v → Clo D' v
  | .bool _, _ => trivial
  | .int _ _, _ => trivial
  | .float _ _, _ => trivial
  | .complex _ _ _, _ => trivial
  | .string _, _ => trivial
  | .pointer none, _ => trivial
  | .pointer (some _), c => ⟨h _ c.1, c.2⟩
  | .slice none _ _, _ => trivial
  | .slice (some _) _ _, c => h _ c
  | .map none, _ => trivial
  | .map (some _), c => h _ c
  | .chan none, _ => trivial
  | .chan (some _), _ => trivial
  | .func g ⟨p⟩ ⟨q⟩, c => ⟨by
      have := c.1
      cases g <;> simp_all, CloL_mono h p c.2.1, CloL_mono h q c.2.2⟩
  | .nilFunc, _ => trivial
  | .iface t v, c => Clo_mono h v c
  | .nilIface, _ => trivial
  | .agg ⟨cs⟩, c => CloL_mono h cs c
  | .tuple ⟨vs⟩, c => CloL_mono h vs c
theorem CloL_mono {D D' : Nat → Prop} (h : ∀ k, D k → D' k) : ∀ l : List Value, CloL D l → CloL D' l
  | [], _ => trivial
  | v :: l, c => ⟨Clo_mono h v c.1, CloL_mono h l c.2⟩
end

mutual
theorem mv_ext {D : Nat → Prop} {ρ ρ' : Ren} (ho : ρ'.o = ρ.o) (h : ∀ k, D k → ρ'.f k = ρ.f k ∧ ρ'.x k = ρ.x k ∧ ρ'.s k = ρ.s k) : ∀ v : Value, Clo D v → mv ρ' v = mv ρ v
  | .bool _, _ => rfl
  | .int _ _, _ => rfl
  | .float _ _, _ => rfl
  | .complex _ _ _, _ => rfl
  | .string _, _ => rfl
  | .pointer none, _ => rfl
  | .pointer (some a), c => by simp [mv, (h _ c.1).1, (h _ c.1).2.2]
  | .slice none _ _, _ => rfl
  | .slice (some a) _ _, c => by simp [mv, soff, scap, (h _ c).1, (h _ c).2.1, (h _ c).2.2]
  | .map none, _ => rfl
  | .map (some _), c => by simp [mv, (h _ c).1]
  | .chan none, _ => rfl
  | .chan (some _), _ => by simp [mv, ho]
  | .func g ⟨p⟩ ⟨q⟩, c => by
    have hg : mvFn ρ'.f g = mvFn ρ.f g := by
      have := c.1
      cases g <;> simp_all [mvFn]
    simp [mv, hg, mvL_ext ho h p c.2.1, mvL_ext ho h q c.2.2]
  | .nilFunc, _ => rfl
  | .iface t v, c => by simp [mv, mv_ext ho h v c]
  | .nilIface, _ => rfl
  | .agg ⟨cs⟩, c => by simp [mv, mvL_ext ho h cs c]
  | .tuple ⟨vs⟩, c => by simp [mv, mvL_ext ho h vs c]
theorem mvL_ext {D : Nat → Prop} {ρ ρ' : Ren} (ho : ρ'.o = ρ.o) (h : ∀ k, D k → ρ'.f k = ρ.f k ∧ ρ'.x k = ρ.x k ∧ ρ'.s k = ρ.s k) : ∀ l : List Value, CloL D l → mvL ρ' l = mvL ρ l
  | [], _ => rfl
  | v :: l, c => by simp [mvL, mv_ext ho h v c.1, mvL_ext ho h l c.2]
end

/-! ### The plain heap: a tree by the digits of a block's number -/
/-- What a block holds: a row of cells (el: it may have cells to spare behind them), a map, the record of a loop over a function, the block for a loop's deferred calls (none), the state of a range over a string or a map; dead: nobody may look at it any more. -/
inductive CB where
  | row (c : List Value) (e : TypeId) (el : Bool)
  | map (es : List (Value × Value × Nat)) (clock : Nat)
  | loop (l : Loop)
  | dfr
  | iter (s : ByteArray) (pos : Nat)
  | miter (map : Option Nat) (since : Nat) (seen : Array Nat) (stepped : Nat)
  | dead

inductive Tr (α : Type) where
  | e
  | nd (v : Option α) (l r : Tr α)

/-- Number 0 lies at the root; the odd numbers to the left, the even ones to the right. -/
def Tr.get {α : Type} : Tr α → Nat → Option α
  | .e, _ => none
  | .nd v l r, n => match n with
    | 0 => v
    | n + 1 => match Nat.mod n 2 with
      | 0 => l.get (Nat.div n 2)
      | _ + 1 => r.get (Nat.div n 2)
def Tr.set {α : Type} : Tr α → Nat → α → Tr α
  | .e, _, b => .nd (some b) .e .e
  | .nd v l r, n, b => match n with
    | 0 => .nd (some b) l r
    | n + 1 => match Nat.mod n 2 with
      | 0 => .nd v (l.set (Nat.div n 2) b) r
      | _ + 1 => .nd v l (r.set (Nat.div n 2) b)
theorem Tr.get_succ {α : Type} (v : Option α) (l r : Tr α) (n : Nat) : (Tr.nd v l r).get (n + 1) = if n % 2 = 0 then l.get (n / 2) else r.get (n / 2) := by
  show (match n % 2 with | 0 => l.get (n / 2) | _ + 1 => r.get (n / 2)) = _
  cases n % 2 <;> rfl
theorem Tr.set_succ {α : Type} (v : Option α) (l r : Tr α) (n : Nat) (b : α) : (Tr.nd v l r).set (n + 1) b = if n % 2 = 0 then .nd v (l.set (n / 2) b) r else .nd v l (r.set (n / 2) b) := by
  show (match n % 2 with | 0 => Tr.nd v (l.set (n / 2) b) r | _ + 1 => .nd v l (r.set (n / 2) b)) = _
  cases n % 2 <;> rfl
theorem Tr.get_zero {α : Type} (v : Option α) (l r : Tr α) : (Tr.nd v l r).get 0 = v := rfl
theorem Tr.set_zero {α : Type} (v : Option α) (l r : Tr α) (b : α) : (Tr.nd v l r).set 0 b = .nd (some b) l r := rfl
/-- The places 0 to n - 1 are there, and no others. -/
def Tr.Full {α : Type} : Tr α → Nat → Prop
  | .e, n => n = 0
  | .nd _ l r, n => ∃ m, n = m + 1 ∧ l.Full ((m + 1) / 2) ∧ r.Full (m / 2)
theorem Tr.get_set {α : Type} {t : Tr α} : ∀ {n : Nat}, t.Full n → ∀ (k j : Nat), k ≤ n → ∀ b, (t.set k b).get j = if j = k then some b else t.get j := by
  induction t with
  | e =>
    intro n hf k j hk b
    have hn : n = 0 := hf
    obtain rfl : k = 0 := by omega
    cases j with
    | zero => rfl
    | succ j =>
      have h : (Tr.nd (some b) .e .e : Tr α).get (j + 1) = none := by rw [Tr.get_succ]; split <;> rfl
      simpa [Tr.set, Tr.get] using h
  | nd v l r hl hr =>
    intro n hf k j hk b
    obtain ⟨m, rfl, h1, h2⟩ := hf
    cases k with
    | zero => cases j <;> simp [Tr.set_zero, Tr.get_zero, Tr.get_succ]
    | succ k =>
      cases j with
      | zero =>
        rw [Tr.set_succ]
        split <;> simp [Tr.get_zero]
      | succ j =>
        by_cases p : k % 2 = 0 <;> by_cases q : j % 2 = 0 <;> simp only [Tr.set_succ, Tr.get_succ, p, q, if_true, if_false]
        · rw [hl h1 (k / 2) (j / 2) (by omega) b]
          by_cases e : j = k
          · subst e; simp
          · rw [if_neg (by omega), if_neg (by omega)]
        · rw [if_neg (by omega)]
        · rw [if_neg (by omega)]
        · rw [hr h2 (k / 2) (j / 2) (by omega) b]
          by_cases e : j = k
          · subst e; simp
          · rw [if_neg (by omega), if_neg (by omega)]
theorem Tr.full_set {α : Type} {t : Tr α} : ∀ {n : Nat}, t.Full n → ∀ (k : Nat) (b : α), k < n → (t.set k b).Full n := by
  induction t with
  | e =>
    intro n hf k b hk
    have hn : n = 0 := hf
    omega
  | nd v l r hl hr =>
    intro n hf k b hk
    obtain ⟨m, rfl, h1, h2⟩ := hf
    cases k with
    | zero => exact ⟨m, rfl, h1, h2⟩
    | succ k =>
      rw [Tr.set_succ]
      split
      · exact ⟨m, rfl, hl h1 _ b (by omega), h2⟩
      · exact ⟨m, rfl, h1, hr h2 _ b (by omega)⟩
theorem Tr.full_push {α : Type} {t : Tr α} : ∀ {n : Nat}, t.Full n → ∀ b : α, (t.set n b).Full (n + 1) := by
  induction t with
  | e =>
    intro n hf b
    have hn : n = 0 := hf
    subst hn
    exact ⟨0, rfl, rfl, rfl⟩
  | nd v l r hl hr =>
    intro n hf b
    obtain ⟨m, rfl, h1, h2⟩ := hf
    rw [Tr.set_succ]
    split
    · rename_i p
      refine ⟨m + 1, rfl, ?_, ?_⟩
      · have := hl h1 b
        rw [show (m + 1) / 2 = m / 2 by omega] at this
        rw [show (m + 1 + 1) / 2 = m / 2 + 1 by omega]
        exact this
      · rw [show (m + 1) / 2 = m / 2 by omega]; exact h2
    · rename_i p
      refine ⟨m + 1, rfl, ?_, ?_⟩
      · rw [show (m + 1 + 1) / 2 = (m + 1) / 2 by omega]; exact h1
      · have := hr h2 b
        rw [show (m + 1) / 2 = m / 2 + 1 by omega]
        exact this

/-- A plain heap: how many blocks it has, and these from 'base' on (those below are not seen); no block from sz on or below 'wm' has been written since wm was last laid. -/
structure CH where
  sz : Nat
  wm : Nat
  base : Nat
  t : Tr CB
def CH.empty : CH := ⟨0, 0, 0, .e⟩
def CH.get : CH → Nat → Option CB
  | ⟨_, _, base, t⟩, k => match base with
    | 0 => t.get k
    | b + 1 => if k < b + 1 then none else t.get (k - (b + 1))
theorem CH.get_def (N : CH) (k : Nat) : N.get k = if k < N.base then none else N.t.get (k - N.base) := by
  obtain ⟨sz, wm, base, t⟩ := N
  cases base with
  | zero => show t.get k = if k < 0 then none else t.get (k - 0); simp
  | succ b => rfl
def CH.set (N : CH) (k : Nat) (b : CB) : CH := ⟨N.sz, if k < N.wm then k else N.wm, N.base, N.t.set (k - N.base) b⟩
def CH.push : CH → CB → CH
  | ⟨sz, wm, base, t⟩, b => ⟨Nat.succ sz, wm, base, t.set (Nat.sub sz base) b⟩
def CH.wset : CH → Nat → CB → Option CH
  | ⟨sz, wm, base, t⟩, k, b => if k < wm then some ⟨sz, k, base, t.set (Nat.sub k base) b⟩ else some ⟨sz, wm, base, t.set (Nat.sub k base) b⟩
theorem CH.push_def (N : CH) (b : CB) : N.push b = ⟨N.sz + 1, N.wm, N.base, N.t.set (N.sz - N.base) b⟩ := by cases N; rfl
theorem CH.wset_def (N : CH) (k : Nat) (b : CB) : N.wset k b = if k < N.wm then some ⟨N.sz, k, N.base, N.t.set (k - N.base) b⟩ else some ⟨N.sz, N.wm, N.base, N.t.set (k - N.base) b⟩ := by cases N; rfl
/-- There is room for a block. (There always is.) -/
def CH.fits (_ : CH) : Prop := True
instance (N : CH) : Decidable N.fits := .isTrue trivial
structure CH.Ok (N : CH) : Prop where
  le : N.base ≤ N.sz
  full : N.t.Full (N.sz - N.base)
theorem CH.ok_empty : CH.empty.Ok := ⟨Nat.le_refl _, rfl⟩
theorem CH.wset_some {N N' : CH} {k : Nat} {b : CB} (h : N.wset k b = some N') : True ∧ N' = N.set k b := by
  rw [CH.wset_def] at h
  split at h
  · rename_i hk; cases h; exact ⟨trivial, by simp [CH.set, hk]⟩
  · rename_i hk; cases h; exact ⟨trivial, by simp [CH.set, hk]⟩
theorem CH.base_le {N : CH} {k : Nat} {b : CB} (h : N.get k = some b) : N.base ≤ k := by
  rw [CH.get_def] at h
  split at h
  · cases h
  · omega
theorem CH.get_set {N : CH} (hN : N.Ok) {k : Nat} (hb : N.base ≤ k) (hk : k < N.sz) (j : Nat) (b : CB) : (N.set k b).get j = if j = k then some b else N.get j := by
  rw [CH.get_def, CH.get_def]
  show (if j < N.base then none else (N.t.set (k - N.base) b).get (j - N.base)) = if j = k then some b else if j < N.base then none else N.t.get (j - N.base)
  by_cases hj : j < N.base
  · rw [if_pos hj, if_neg (by omega), if_pos hj]
  · rw [if_neg hj, if_neg hj, Tr.get_set hN.full _ _ (by omega)]
    by_cases e : j = k
    · subst e; simp
    · rw [if_neg (by omega), if_neg e]
theorem CH.get_set_other {N : CH} (hN : N.Ok) {k j : Nat} (hb : N.base ≤ k) (hk : k < N.sz) (h : k ≠ j) (b : CB) : (N.set k b).get j = N.get j := by
  rw [CH.get_set hN hb hk, if_neg (Ne.symm h)]
theorem CH.get_push {N : CH} (hN : N.Ok) (j : Nat) (b : CB) : (N.push b).get j = if j = N.sz then some b else N.get j := by
  have := hN.le
  rw [CH.get_def, CH.get_def, CH.push_def]
  show (if j < N.base then none else (N.t.set (N.sz - N.base) b).get (j - N.base)) = if j = N.sz then some b else if j < N.base then none else N.t.get (j - N.base)
  by_cases hj : j < N.base
  · rw [if_pos hj, if_neg (by omega), if_pos hj]
  · rw [if_neg hj, if_neg hj, Tr.get_set hN.full _ _ (by omega)]
    by_cases e : j = N.sz
    · subst e; simp
    · rw [if_neg (by omega), if_neg e]
theorem CH.get_push_same {N : CH} (hN : N.Ok) (b : CB) : (N.push b).get N.sz = some b := by rw [CH.get_push hN, if_pos rfl]
theorem CH.get_push_other {N : CH} (hN : N.Ok) {j : Nat} (hj : j < N.sz) (b : CB) : (N.push b).get j = N.get j := by rw [CH.get_push hN, if_neg (by omega)]
theorem CH.ok_set {N : CH} (hN : N.Ok) {k : Nat} (hb : N.base ≤ k) (hk : k < N.sz) (b : CB) : (N.set k b).Ok := by
  have := hN.le
  exact ⟨hN.le, Tr.full_set hN.full _ _ (show k - N.base < N.sz - N.base by omega)⟩
theorem CH.ok_push {N : CH} (hN : N.Ok) (b : CB) : (N.push b).Ok := by
  have := hN.le
  rw [CH.push_def]
  refine ⟨show N.base ≤ N.sz + 1 by omega, ?_⟩
  have h := Tr.full_push hN.full b
  rw [show N.sz - N.base + 1 = N.sz + 1 - N.base by omega] at h
  exact h
theorem CH.set_wm (N : CH) (k : Nat) (b : CB) : (N.set k b).wm ≤ N.wm ∧ (N.set k b).wm ≤ k := by
  simp only [CH.set]
  split <;> omega

end Go.Eng
namespace Go.Eng
set_option linter.unusedSimpArgs false
set_option linter.unusedVariables false

structure Env extends Ren where
  D : Nat → Prop

def Env.m (E : Env) (v : Value) : Value := mv E.toRen v
def Env.add (E : Env) (k b y z : Nat) : Env := { E with f := fun j => if j = k then b else E.f j, x := fun j => if j = k then y else E.x j, s := fun j => if j = k then z else E.s j, D := fun j => j = k ∨ E.D j }

theorem Env.add_f (E : Env) (k b y z : Nat) : (E.add k b y z).f k = b := by simp [Env.add]
theorem Env.add_x (E : Env) (k b y z : Nat) : (E.add k b y z).x k = y := by simp [Env.add]
theorem Env.add_s (E : Env) (k b y z : Nat) : (E.add k b y z).s k = z := by simp [Env.add]
theorem Env.add_D (E : Env) (k b y z : Nat) : (E.add k b y z).D k := by simp [Env.add]
theorem Env.add_old (E : Env) {k b y z j : Nat} (h : j ≠ k) : (E.add k b y z).f j = E.f j ∧ (E.add k b y z).x j = E.x j ∧ (E.add k b y z).s j = E.s j := by simp [Env.add, h]

/-- So many of the first blocks are the package's variables. -/
def LIM : Nat := 32
def CB.isDead : CB → Bool
  | .dead => true
  | _ => false

def mvE (E : Env) (e : Value × Value × Nat) : MapEntry := { key := e.1, val := E.m e.2.1, born := e.2.2 }

/-- No cell below n is marked. -/
def Unm (n lo hi : Nat) : Prop := lo ≤ hi ∧ ∀ i, i < n → ¬ (lo ≤ i ∧ i < hi)
/-- A plain block and a block of the model's. -/
def BlkRel (P : Program) (E : Env) (k : Nat) (b : CB) (o : Option Obj) : Prop :=
  match b with
  | .row c e el => (∀ v ∈ c, Clo E.D v) ∧ ∃ pre sp lo hi, o = some (.cells (pre ++ (c.map E.m ++ sp)).toArray e (lo, hi)) ∧ pre.length = E.s k ∧
      Unm (pre.length + (c.length + sp.length)) lo hi ∧ (if el = true then sp.length = E.x k * P.cellsOf e else sp = [] ∧ E.x k = 0 ∧ E.s k = 0) ∧ (k < LIM → lo = 0 ∧ hi = 0)
  | .map es clock => (∀ e ∈ es, plain e.1 = true ∧ Clo E.D e.2.1) ∧ o = some (.map (es.map (mvE E)).toArray clock)
  | .loop l => ((∀ v ∈ l.tmps.toList, Clo E.D v) ∧ E.D l.defers) ∧ o = some (.loop { l with tmps := l.tmps.map E.m, defers := E.f l.defers })
  | .dfr => o = some (.deferred (some []))
  | .iter s pos => o = some (.stringIter s pos) ∧ E.s k = 0
  | .miter r a b c => (∀ k, r = some k → E.D k) ∧ o = some (.mapIter (r.map E.f) a b c) ∧ E.s k = 0
  | .dead => True

def CH.live (N : CH) (k : Nat) : Prop := ∃ b, N.get k = some b ∧ b.isDead = false

def Env.Gl (E : Env) : Prop := ∀ g, g < LIM → E.D g ∧ E.f g = g ∧ E.s g = 0
structure Rel (P : Program) (E : Env) (N : CH) (w : World) : Prop where
  ok : N.Ok
  gl : E.Gl
  dom : ∀ k, E.D k → k < N.sz
  inj : ∀ k j, E.D k → E.D j → N.live k → N.live j → E.f k = E.f j → k = j
  blk : ∀ k b, E.D k → N.get k = some b → BlkRel P E k b w.heap[E.f k]?

/-- From one state to a later one. -/
structure Ext (E : Env) (N : CH) (w : World) (E' : Env) (N' : CH) (w' : World) : Prop where
  mono : ∀ k, E.D k → E'.D k ∧ E'.f k = E.f k ∧ E'.x k = E.x k ∧ E'.s k = E.s k
  new : ∀ k, E'.D k → E.D k ∨ (N.sz ≤ k ∧ k < N'.sz)
  all : ∀ k, N.sz ≤ k → k < N'.sz → E'.D k
  size : N.sz ≤ N'.sz
  hsize : w.heap.size ≤ w'.heap.size
  fresh : ∀ k, E'.D k → E.D k ∨ w.heap.size ≤ E'.f k ∨ ∃ j, E.D j ∧ N.live j ∧ ¬ N'.live j ∧ E'.f k = E.f j
  dead : ∀ k, E.D k → N'.live k → N.live k
  wm : N'.wm ≤ N.wm
  keep : ∀ k, k < N.sz → k < N'.wm → N'.get k = N.get k
  frame : ∀ b, b < w.heap.size → (∀ k, E.D k → N.live k → E.f k ≠ b) → w'.heap[b]? = w.heap[b]?
  os : w'.os = w.os
  tape : w'.tape = w.tape
  output : w'.output = w.output
  op : E'.o = E.o
  still : ∀ k, E.D k → N.live k → k < N.sz → k < N'.wm → w'.heap[E.f k]? = w.heap[E.f k]?

theorem Ext.refl (E : Env) (N : CH) (w : World) : Ext E N w E N w :=
  ⟨fun _ h => ⟨h, rfl, rfl, rfl⟩, fun _ h => .inl h, fun _ h1 h2 => by omega, Nat.le_refl _, Nat.le_refl _, fun _ h => .inl h, fun _ _ h => h, Nat.le_refl _, fun _ _ _ => rfl, fun _ _ _ => rfl, rfl, rfl, rfl, rfl, fun _ _ _ _ _ => rfl⟩

theorem Ext.trans {E E1 E2 : Env} {N N1 N2 : CH} {w w1 w2 : World} (h : Ext E N w E1 N1 w1) (g : Ext E1 N1 w1 E2 N2 w2) : Ext E N w E2 N2 w2 where
  mono k hk := by
    obtain ⟨a, b, c, d⟩ := h.mono k hk
    obtain ⟨a', b', c', d'⟩ := g.mono k a
    exact ⟨a', b'.trans b, c'.trans c, d'.trans d⟩
  new k hk := by
    rcases g.new k hk with h1 | ⟨h1, h2⟩
    · rcases h.new k h1 with h3 | ⟨h3, h4⟩
      · exact .inl h3
      · exact .inr ⟨h3, Nat.lt_of_lt_of_le h4 g.size⟩
    · exact .inr ⟨Nat.le_trans h.size h1, h2⟩
  all k h1 h2 := by
    rcases Nat.lt_or_ge k N1.sz with h3 | h3
    · exact (g.mono k (h.all k h1 h3)).1
    · exact g.all k h3 h2
  size := Nat.le_trans h.size g.size
  hsize := Nat.le_trans h.hsize g.hsize
  fresh k hk := by
    rcases g.fresh k hk with h1 | h1 | ⟨j, h1, h2, hx, h3⟩
    · rcases h.fresh k h1 with h4 | h4 | ⟨j, h4, h5, hy, h6⟩
      · exact .inl h4
      · exact .inr (.inl (by rw [(g.mono k h1).2.1]; exact h4))
      · exact .inr (.inr ⟨j, h4, h5, fun hl => hy (g.dead j (h.mono j h4).1 hl), by rw [(g.mono k h1).2.1]; exact h6⟩)
    · exact .inr (.inl (Nat.le_trans h.hsize h1))
    · rcases h.fresh j h1 with h4 | h4 | ⟨i, h4, h5, hy, h6⟩
      · exact .inr (.inr ⟨j, h4, h.dead j h4 h2, hx, by rw [h3, (h.mono j h4).2.1]⟩)
      · exact .inr (.inl (by rw [h3]; exact h4))
      · exact .inr (.inr ⟨i, h4, h5, fun hl => hy (g.dead i (h.mono i h4).1 hl), by rw [h3, h6]⟩)
  dead k hk hl := h.dead k hk (g.dead k (h.mono k hk).1 hl)
  wm := Nat.le_trans g.wm h.wm
  keep k hk hw := (g.keep k (Nat.lt_of_lt_of_le hk h.size) hw).trans (h.keep k hk (Nat.lt_of_lt_of_le hw g.wm))
  frame b hb hn := by
    rw [g.frame b (Nat.lt_of_lt_of_le hb h.hsize) ?_, h.frame b hb hn]
    intro k hk hl e
    rcases h.fresh k hk with h1 | h1 | ⟨j, h1, h2, _, h3⟩
    · exact hn k h1 (h.dead k h1 hl) (by rw [← (h.mono k h1).2.1]; exact e)
    · omega
    · exact hn j h1 h2 (by rw [← h3]; exact e)
  os := g.os.trans h.os
  tape := g.tape.trans h.tape
  output := g.output.trans h.output
  op := g.op.trans h.op
  still k hk hl hs hw := by
    have h1 := h.still k hk hl hs (Nat.lt_of_lt_of_le hw g.wm)
    have hg := h.keep k hs (Nat.lt_of_lt_of_le hw g.wm)
    have h2 := g.still k (h.mono k hk).1 (by obtain ⟨b, hb, hd⟩ := hl; exact ⟨b, by rw [hg]; exact hb, hd⟩) (Nat.lt_of_lt_of_le hs h.size) hw
    rw [(h.mono k hk).2.1] at h2
    exact h2.trans h1

theorem Ext.m {E E' : Env} {N N' : CH} {w w' : World} (h : Ext E N w E' N' w') {v : Value} (hv : Clo E.D v) : E'.m v = E.m v :=
  mv_ext h.op (fun k hk => (h.mono k hk).2) v hv
theorem Ext.clo {E E' : Env} {N N' : CH} {w w' : World} (h : Ext E N w E' N' w') {v : Value} (hv : Clo E.D v) : Clo E'.D v :=
  Clo_mono (fun k hk => (h.mono k hk).1) v hv

theorem Rel.row {P : Program} {E : Env} {N : CH} {w : World} (R : Rel P E N w) {k : Nat} (hk : E.D k) {c : List Value} {e : TypeId} {el : Bool} (hg : N.get k = some (.row c e el)) :
    (∀ v ∈ c, Clo E.D v) ∧ ∃ pre sp lo hi, w.heap[E.f k]? = some (.cells (pre ++ (c.map E.m ++ sp)).toArray e (lo, hi)) ∧ pre.length = E.s k ∧
      Unm (pre.length + (c.length + sp.length)) lo hi ∧ (if el = true then sp.length = E.x k * P.cellsOf e else sp = [] ∧ E.x k = 0 ∧ E.s k = 0) ∧ (k < LIM → lo = 0 ∧ hi = 0) := R.blk k _ hk hg

theorem Rel.cell {P : Program} {E : Env} {N : CH} {w : World} (R : Rel P E N w) {k : Nat} (hk : E.D k) {c : List Value} {e : TypeId} {el : Bool} (hg : N.get k = some (.row c e el))
    {i o : Nat} {v : Value} (hi : c[i]? = some v) (ho : o = i + E.s k) : w.cell? ⟨E.f k, o, none⟩ = some (E.m v) := by
  obtain ⟨_, pre, sp, lo, hi', hh, hp, _⟩ := R.row hk hg
  subst ho
  have hl : i < c.length := by
    rcases Nat.lt_or_ge i c.length with h | h
    · exact h
    · simp [List.getElem?_eq_none h] at hi
  have h1 : (pre ++ (c.map E.m ++ sp))[i + E.s k]? = some (E.m v) := by
    rw [List.getElem?_append_right (by omega), hp, Nat.add_sub_cancel, List.getElem?_append_left (by simpa using hl), List.getElem?_map, hi]
    rfl
  simp only [World.cell?, hh, List.getElem?_toArray, h1]
  simp
theorem Rel.clo {P : Program} {E : Env} {N : CH} {w : World} (R : Rel P E N w) {k : Nat} (hk : E.D k) {c : List Value} {e : TypeId} {el : Bool} (hg : N.get k = some (.row c e el))
    {i : Nat} {v : Value} (hi : c[i]? = some v) : Clo E.D v := (R.row hk hg).1 v (List.mem_of_getElem? hi)
theorem Rel.free {P : Program} {E : Env} {N : CH} {w : World} (R : Rel P E N w) {k : Nat} (hk : E.D k) {c : List Value} {e : TypeId} {el : Bool} (hg : N.get k = some (.row c e el))
    {i o : Nat} (hi : i < c.length) (ho : o = i + E.s k) : w.frozen? ⟨E.f k, o, none⟩ = false := by
  obtain ⟨_, pre, sp, lo, hi', hh, hp, hf, _⟩ := R.row hk hg
  subst ho
  have := hf.2 (i + E.s k) (by omega)
  simp only [World.frozen?, hh, Bool.and_eq_false_iff, decide_eq_false_iff_not]
  rcases Nat.lt_or_ge (i + E.s k) lo with h | h
  · exact .inl (by omega)
  · exact .inr (fun h2 => this ⟨h, h2⟩)

/-! ### Cells written -/
def wr : List Value → Nat → List Value → List Value
  | l, _, [] => l
  | l, o, v :: r => wr (l.set o v) (o + 1) r
theorem wr_length : ∀ (vs l : List Value) (o : Nat), (wr l o vs).length = l.length
  | [], _, _ => rfl
  | v :: r, l, o => by simp [wr, wr_length r]
theorem wr_nil : ∀ (vs : List Value) (o : Nat), wr [] o vs = []
  | [], _ => rfl
  | v :: r, o => by rw [wr, List.set_nil, wr_nil r]
theorem wr_cons (a : Value) : ∀ (vs l : List Value) (o : Nat), wr (a :: l) (o + 1) vs = a :: wr l o vs
  | [], _, _ => rfl
  | v :: r, l, o => by rw [wr, List.set_cons_succ, wr_cons a r, wr]
/-- The same in one pass. -/
def wrf : List Value → Nat → List Value → List Value
  | [], _, _ => []
  | a :: l, o, vs => match o with
    | 0 => match vs with
      | [] => a :: l
      | v :: r => v :: wrf l 0 r
    | o + 1 => a :: wrf l o vs
theorem wrf_eq : ∀ (l vs : List Value) (o : Nat), wrf l o vs = wr l o vs
  | [], vs, o => by rw [wr_nil]; rfl
  | a :: l, vs, 0 => by
    cases vs with
    | nil => rfl
    | cons v r =>
      show v :: wrf l 0 r = wr ((a :: l).set 0 v) (0 + 1) r
      rw [List.set_cons_zero, wr_cons, wrf_eq]
  | a :: l, vs, o + 1 => by
    show a :: wrf l o vs = _
    rw [wr_cons, wrf_eq]
theorem wr_map (g : Value → Value) : ∀ (vs l : List Value) (o : Nat), (wr l o vs).map g = wr (l.map g) o (vs.map g)
  | [], _, _ => rfl
  | v :: r, l, o => by simp [wr, wr_map g r, List.map_set]
theorem wr_append : ∀ (vs l sp : List Value) (o : Nat), o + vs.length ≤ l.length → wr (l ++ sp) o vs = wr l o vs ++ sp
  | [], _, _, _, _ => rfl
  | v :: r, l, sp, o, h => by
    simp only [List.length_cons] at h
    simp only [wr]
    rw [List.set_append_left _ _ (by omega), wr_append r _ _ _ (by simp; omega)]
theorem wr_pre : ∀ (vs pre l : List Value) (o : Nat), wr (pre ++ l) (o + pre.length) vs = pre ++ wr l o vs
  | [], _, _, _ => rfl
  | v :: r, pre, l, o => by
    simp only [wr]
    rw [List.set_append_right _ _ (by omega), Nat.add_sub_cancel, show o + pre.length + 1 = o + 1 + pre.length by omega, wr_pre r]
theorem wr_mem : ∀ (vs l : List Value) (o : Nat) (v : Value), v ∈ wr l o vs → v ∈ l ∨ v ∈ vs
  | [], _, _, _, h => .inl h
  | u :: r, l, o, v, h => by
    rcases wr_mem r _ _ v h with h1 | h1
    · rcases List.mem_or_eq_of_mem_set h1 with h2 | h2
      · exact .inl h2
      · exact .inr (by simp [h2])
    · exact .inr (by simp [h1])

theorem heap_setCells (b : Nat) : ∀ (vs : List Value) (o : Nat) (cur : List Value) (e : TypeId) (fz : Nat × Nat) (w : World), w.heap[b]? = some (.cells cur.toArray e fz) →
    (w.setCells b o vs).heap[b]? = some (.cells (wr cur o vs).toArray e fz)
  | [], _, _, _, _, _, h => h
  | v :: r, o, cur, e, fz, w, h => by
    rw [World.setCells, wr]
    apply heap_setCells b r
    simp [World.setCell, Array.getElem?_modify, h]
theorem heap_setCells_other (b j : Nat) (hj : j ≠ b) : ∀ (vs : List Value) (o : Nat) (w : World), (w.setCells b o vs).heap[j]? = w.heap[j]?
  | [], _, _ => rfl
  | v :: r, o, w => by
    rw [World.setCells, heap_setCells_other b j hj r]
    simp [World.setCell, Array.getElem?_modify, Ne.symm hj]
theorem size_setCells (b : Nat) : ∀ (vs : List Value) (o : Nat) (w : World), (w.setCells b o vs).heap.size = w.heap.size
  | [], _, _ => rfl
  | v :: r, o, w => by rw [World.setCells, size_setCells b r]; simp
theorem rest_setCells (b : Nat) : ∀ (vs : List Value) (o : Nat) (w : World), (w.setCells b o vs).os = w.os ∧ (w.setCells b o vs).tape = w.tape ∧ (w.setCells b o vs).output = w.output
  | [], _, _ => ⟨rfl, rfl, rfl⟩
  | v :: r, o, w => by
    rw [World.setCells]
    exact rest_setCells b r _ _

theorem CH.live_lt {N : CH} {k : Nat} (h : N.live k) : N.base ≤ k := by
  obtain ⟨b, hb, _⟩ := h
  exact CH.base_le hb
theorem CH.get_dom {N : CH} (hN : N.Ok) {k j : Nat} (hb : N.base ≤ k) (hk : k < N.sz) (b : CB) : (N.set k b).get j = if j = k then some b else N.get j := CH.get_set hN hb hk j b

/-- One block's contents change, in the plain heap and in the model's. -/
theorem Rel.change {P : Program} {E : Env} {N : CH} {w w' : World} (R : Rel P E N w) {k : Nat} (hk : E.D k) (hwm : True) (hl : N.live k) {b : CB}
    (hb : BlkRel P E k b w'.heap[E.f k]?) (hother : ∀ j, j ≠ E.f k → w'.heap[j]? = w.heap[j]?) (hs : w'.heap.size = w.heap.size)
    (hos : w'.os = w.os) (htape : w'.tape = w.tape) (hout : w'.output = w.output) :
    Rel P E (N.set k b) w' ∧ Ext E N w E (N.set k b) w' := by
  have hlive : ∀ j, E.D j → (N.set k b).live j → N.live j := by
    intro j hj ⟨b', hb', hd⟩
    rw [CH.get_dom R.ok (CH.live_lt hl) (R.dom k hk)] at hb'
    by_cases h : j = k
    · subst h; exact hl
    · rw [if_neg h] at hb'; exact ⟨b', hb', hd⟩
  refine ⟨⟨CH.ok_set R.ok (CH.live_lt hl) (R.dom k hk) _, R.gl, R.dom, fun i j hi hj h1 h2 => R.inj i j hi hj (hlive i hi h1) (hlive j hj h2), ?_⟩,
    fun _ h => ⟨h, rfl, rfl, rfl⟩, fun _ h => .inl h, fun _ h1 h2 => by have : k < N.sz := R.dom k hk; exact absurd h2 (Nat.not_lt.2 h1), Nat.le_refl _, by omega, fun _ h => .inl h, hlive, (CH.set_wm N k b).1, fun j hj hw => CH.get_set_other R.ok (CH.live_lt hl) (R.dom k hk) (by have := (CH.set_wm N k b).2; omega) b, ?_, hos, htape, hout, rfl, fun j hj lj _ hw => hother _ (fun e => by have h2 := (CH.set_wm N k b).2; have := R.inj j k hj hk lj hl e; omega)⟩
  · intro j b' hj hb'
    rw [CH.get_dom R.ok (CH.live_lt hl) (R.dom k hk)] at hb'
    by_cases h : j = k
    · subst h
      rw [if_pos rfl] at hb'
      cases hb'
      exact hb
    · rw [if_neg h] at hb'
      cases hd : b'.isDead with
      | true => cases b' <;> simp [CB.isDead] at hd; trivial
      | false =>
        have : E.f j ≠ E.f k := fun e => h (R.inj j k hj hk ⟨b', hb', hd⟩ hl e)
        rw [hother _ this]
        exact R.blk j b' hj hb'
  · intro b' _ hn
    exact hother b' (fun e => hn k hk hl e.symm)

theorem Rel.write {P : Program} {E : Env} {N : CH} {w : World} (R : Rel P E N w) {k : Nat} (hk : E.D k) (hwm : True) {c : List Value} {e : TypeId} {el : Bool} (hg : N.get k = some (.row c e el))
    {o o' : Nat} {vs : List Value} (ho : o + vs.length ≤ c.length) (ho' : o' = o + E.s k) (hv : ∀ v ∈ vs, Clo E.D v) :
    Rel P E (N.set k (.row (wr c o vs) e el)) (w.setCells (E.f k) o' (vs.map E.m)) ∧ Ext E N w E (N.set k (.row (wr c o vs) e el)) (w.setCells (E.f k) o' (vs.map E.m)) := by
  obtain ⟨hc, pre, sp, lo, hi, hh, hp, hf, hel⟩ := R.row hk hg
  obtain ⟨r1, r2, r3⟩ := rest_setCells (E.f k) (vs.map E.m) o' w
  refine R.change hk hwm ⟨_, hg, rfl⟩ ?_ (fun j hj => heap_setCells_other _ _ hj _ _ _) (size_setCells _ _ _ _) r1 r2 r3
  refine ⟨?_, pre, sp, lo, hi, ?_, hp, ?_, hel⟩
  · intro v hm
    rcases wr_mem _ _ _ _ hm with h | h
    · exact hc v h
    · exact hv v h
  · rw [heap_setCells _ _ _ _ _ _ _ hh, ho', ← hp, wr_pre, wr_append _ _ _ _ (by simpa using ho), wr_map]
  · rw [wr_length]; exact hf

theorem Rel.clo_lt {P : Program} {E : Env} {N : CH} {w : World} (R : Rel P E N w) {b y z : Nat} {v : Value} (hv : Clo E.D v) : (E.add N.sz b y z).m v = E.m v :=
  mv_ext (ρ := E.toRen) (ρ' := (E.add N.sz b y z).toRen) rfl (fun k hk => by
    have := R.dom k hk
    have hne : k ≠ N.sz := by omega
    simp [Env.add, hne]) v hv

theorem BlkRel.mono {P : Program} {E E' : Env} {k : Nat} {b : CB} {o : Option Obj} (h : BlkRel P E k b o) (hD : ∀ j, E.D j → E'.D j ∧ E'.f j = E.f j) (hm : ∀ v, Clo E.D v → E'.m v = E.m v) (hx : E'.x k = E.x k) (hs : E'.s k = E.s k) : BlkRel P E' k b o := by
  cases b with
  | dead => trivial
  | dfr => exact h
  | iter s pos => exact ⟨h.1, by rw [hs]; exact h.2⟩
  | row c e el =>
    obtain ⟨h1, pre, sp, lo, hi, h2, hp, h3, h4⟩ := h
    refine ⟨fun v hv => Clo_mono (fun j hj => (hD j hj).1) v (h1 v hv), pre, sp, lo, hi, ?_, by rw [hs]; exact hp, h3, by rw [hx, hs]; exact h4⟩
    rw [h2, List.map_congr_left fun v hv => hm v (h1 v hv)]
  | map es cl =>
    obtain ⟨h1, h2⟩ := h
    refine ⟨fun e he => ⟨(h1 e he).1, Clo_mono (fun j hj => (hD j hj).1) _ (h1 e he).2⟩, ?_⟩
    rw [h2]
    congr 3
    exact (List.map_congr_left fun e he => by simp only [mvE, hm _ (h1 e he).2]).symm
  | loop l =>
    obtain ⟨⟨h1, h2⟩, h3⟩ := h
    refine ⟨⟨fun v hv => Clo_mono (fun j hj => (hD j hj).1) v (h1 v hv), (hD _ h2).1⟩, ?_⟩
    rw [h3, (hD _ h2).2]
    have : l.tmps.map E'.m = l.tmps.map E.m := by
      apply Array.ext'
      rw [Array.toList_map, Array.toList_map]
      exact (List.map_congr_left fun v hv => hm v (h1 v hv))
    rw [this]
  | miter r a b c =>
    obtain ⟨h1, h2, h3⟩ := h
    refine ⟨fun k hk => (hD k (h1 k hk)).1, ?_, by rw [hs]; exact h3⟩
    rw [h2]
    cases r with
    | none => rfl
    | some k => simp [(hD k (h1 k rfl)).2]
theorem BlkRel.some {P : Program} {E : Env} {k : Nat} {b : CB} (h : BlkRel P E k b none) : b.isDead = true := by
  cases b with
  | row c e el => obtain ⟨_, _, _, _, _, h', _⟩ := h; cases h'
  | map es cl => obtain ⟨_, h'⟩ := h; cases h'
  | loop l => obtain ⟨_, h'⟩ := h; cases h'
  | dfr => cases h
  | iter s pos => obtain ⟨h', _⟩ := h; cases h'
  | miter r a b c => obtain ⟨_, h', _⟩ := h; cases h'
  | dead => rfl

theorem Rel.lim {P : Program} {E : Env} {N : CH} {w : World} (R : Rel P E N w) : LIM ≤ N.sz := by
  have := R.dom 31 (R.gl 31 (by decide)).1
  exact this
theorem Env.Gl.add {E : Env} {n : Nat} (h : E.Gl) (hd : ∀ k, E.D k → k < n) {b y z : Nat} : (E.add n b y z).Gl := fun g hg => by
  obtain ⟨h1, h2⟩ := h g hg
  have h3 := hd g h1
  obtain ⟨e1, _, e3⟩ := E.add_old (b := b) (y := y) (z := z) (j := g) (k := n) (by omega)
  exact ⟨.inr h1, e1.trans h2.1, e3.trans h2.2⟩
/-- A block is laid, in the plain heap and in the model's. -/
theorem Rel.new {P : Program} {E : Env} {N : CH} {w : World} (R : Rel P E N w) (hsz : N.fits) {b : CB} {o : Obj} {y z : Nat}
    (hb : BlkRel P (E.add N.sz w.heap.size y z) N.sz b (some o)) :
    Rel P (E.add N.sz w.heap.size y z) (N.push b) (w.alloc o) ∧ Ext E N w (E.add N.sz w.heap.size y z) (N.push b) (w.alloc o) := by
  have hget : ∀ j, E.D j → (N.push b).get j = N.get j := fun j hj => CH.get_push_other R.ok (R.dom j hj) b
  have hne : ∀ j, E.D j → j ≠ N.sz := fun j hj => by have := R.dom j hj; omega
  have hlt : ∀ j, E.D j → N.live j → E.f j < w.heap.size := by
    intro j hj ⟨b', hb', hd⟩
    have hB := R.blk j b' hj hb'
    rcases Nat.lt_or_ge (E.f j) w.heap.size with h | h
    · exact h
    · rw [Array.getElem?_eq_none h] at hB
      rw [hB.some] at hd
      cases hd
  have hlive : ∀ j, E.D j → (N.push b).live j → N.live j := fun j hj ⟨b', hb', hd⟩ => ⟨b', by rw [hget j hj] at hb'; exact hb', hd⟩
  have hfold : ∀ j, j < w.heap.size → (w.alloc o).heap[j]? = w.heap[j]? := by
    intro j hj
    show (w.heap.push o)[j]? = _
    rw [Array.getElem?_push, if_neg (by omega)]
  refine ⟨⟨CH.ok_push R.ok b, R.gl.add R.dom, ?_, ?_, ?_⟩, ?_, ?_, fun k h1 h2 => .inl (by have : k < N.sz + 1 := h2; omega), ?_, ?_, ?_, ?_, Nat.le_refl _, fun j hj _ => CH.get_push_other R.ok hj b, ?_, rfl, rfl, rfl, rfl, fun j hj lj _ _ => hfold _ (hlt j hj lj)⟩
  · intro k hk
    rcases hk with rfl | hk
    · exact Nat.lt_succ_self _
    · exact Nat.lt_succ_of_lt (R.dom k hk)
  · intro k j hk hj lk lj e
    rcases hk with rfl | hk <;> rcases hj with rfl | hj
    · rfl
    · have := hlt j hj (hlive j hj lj)
      simp [Env.add, hne j hj] at e
      omega
    · have := hlt k hk (hlive k hk lk)
      simp [Env.add, hne k hk] at e
      omega
    · simp [Env.add, hne k hk, hne j hj] at e
      exact R.inj k j hk hj (hlive k hk lk) (hlive j hj lj) e
  · intro k b' hk hb'
    rcases hk with rfl | hk
    · rw [CH.get_push_same R.ok] at hb'
      cases hb'
      rw [Env.add_f]
      show BlkRel P _ _ _ (w.heap.push o)[w.heap.size]?
      simpa using hb
    · rw [hget k hk] at hb'
      have hB := R.blk k b' hk hb'
      obtain ⟨hf, hx, hs⟩ := E.add_old (b := w.heap.size) (y := y) (z := z) (hne k hk)
      rw [hf]
      cases hd : b'.isDead with
      | true => cases b' <;> simp [CB.isDead] at hd; trivial
      | false =>
        rw [hfold _ (hlt k hk ⟨b', hb', hd⟩)]
        exact hB.mono (fun j hj => ⟨.inr hj, by simp [Env.add, hne j hj]⟩) (fun v hv => R.clo_lt hv) hx hs
  · intro k hk
    exact ⟨.inr hk, E.add_old (hne k hk)⟩
  · intro k hk
    rcases hk with rfl | hk
    · exact .inr ⟨Nat.le_refl _, Nat.lt_succ_self _⟩
    · exact .inl hk
  · exact Nat.le_succ _
  · simp
  · intro k hk
    rcases hk with rfl | hk
    · exact .inr (.inl (by rw [Env.add_f]; exact Nat.le_refl _))
    · exact .inl hk
  · exact hlive
  · intro j hj _
    exact hfold j hj

theorem Rel.newRow {P : Program} {E : Env} {N : CH} {w : World} (R : Rel P E N w) (hsz : N.fits) {c : List Value} (e : TypeId) (hc : ∀ v ∈ c, Clo E.D v) :
    Rel P (E.add N.sz w.heap.size 0 0) (N.push (.row c e false)) (w.alloc (.cells (c.map E.m).toArray e)) ∧
      Ext E N w (E.add N.sz w.heap.size 0 0) (N.push (.row c e false)) (w.alloc (.cells (c.map E.m).toArray e)) := by
  refine R.new hsz ⟨fun v hv => Clo_mono (fun _ h => .inr h) v (hc v hv), [], [], 0, 0, ?_, by simp [Env.add], ⟨Nat.le_refl _, by simp⟩, by simp [Env.add], fun _ => ⟨rfl, rfl⟩⟩
  rw [List.map_congr_left fun v hv => R.clo_lt (hc v hv)]
  simp
theorem Rel.newElastic {P : Program} {E : Env} {N : CH} {w : World} (R : Rel P E N w) (hsz : N.fits) {c : List Value} (e : TypeId) (hc : ∀ v ∈ c, Clo E.D v) (sp : List Value) (y lo hi : Nat)
    (hy : sp.length = y * P.cellsOf e) (hf : Unm (c.length + sp.length) lo hi) :
    Rel P (E.add N.sz w.heap.size y 0) (N.push (.row c e true)) (w.alloc (.cells (c.map E.m ++ sp).toArray e (lo, hi))) ∧
      Ext E N w (E.add N.sz w.heap.size y 0) (N.push (.row c e true)) (w.alloc (.cells (c.map E.m ++ sp).toArray e (lo, hi))) := by
  refine R.new hsz ⟨fun v hv => Clo_mono (fun _ h => .inr h) v (hc v hv), [], sp, lo, hi, ?_, by simp [Env.add], by simpa using hf, by simp [Env.add, hy], fun h => absurd R.lim (Nat.not_le.2 h)⟩
  rw [List.map_congr_left fun v hv => R.clo_lt (hc v hv)]
  simp
theorem Rel.newMap {P : Program} {E : Env} {N : CH} {w : World} (R : Rel P E N w) (hsz : N.fits) :
    Rel P (E.add N.sz w.heap.size 0 0) (N.push (.map [] 0)) (w.alloc (.map #[] 0)) ∧ Ext E N w (E.add N.sz w.heap.size 0 0) (N.push (.map [] 0)) (w.alloc (.map #[] 0)) :=
  R.new hsz ⟨by simp, by simp⟩

theorem Rel.drew {P : Program} {E : Env} {N : CH} {w : World} (R : Rel P E N w) : Rel P E N w.drew ∧ Ext E N w E N w.drew :=
  ⟨⟨R.ok, R.gl, R.dom, R.inj, R.blk⟩, fun _ h => ⟨h, rfl, rfl, rfl⟩, fun _ h => .inl h, fun _ h1 h2 => by omega, Nat.le_refl _, Nat.le_refl _, fun _ h => .inl h, fun _ _ h => h, Nat.le_refl _, fun _ _ _ => rfl, fun _ _ _ => rfl, rfl, rfl, rfl, rfl, fun _ _ _ _ _ => rfl⟩

end Go.Eng
namespace Go.Eng
set_option linter.unusedSimpArgs false
set_option linter.unusedVariables false

theorem oneCell_mv (ρ : Ren) (v : Value) : (mv ρ v).oneCell' = v.oneCell' := by
  cases v with
  | pointer a => cases a <;> rfl
  | slice a => cases a <;> rfl
  | map a => cases a <;> rfl
  | chan a =>
    cases a with
    | none => rfl
    | some r => exact ρ.one r
  | func g p q => rw [mv_func]; rfl
  | agg cs => rw [mv_agg]; rfl
  | tuple cs => rw [mv_tuple]; rfl
  | _ => rfl
theorem cells_mv (ρ : Ren) (v : Value) : (mv ρ v).cells = v.cells.map (mv ρ) := by
  cases v with
  | pointer a => cases a <;> simp [Value.cells, mv]
  | slice a => cases a <;> simp [Value.cells, mv]
  | map a => cases a <;> simp [Value.cells, mv]
  | chan a =>
    cases a with
    | none => simp [Value.cells, mv]
    | some r =>
      have h : (ρ.o r).cells = #[ρ.o r] := by
        have h1 := ρ.one r
        cases hv : ρ.o r <;> rw [hv] at h1 <;> first | rfl | (simp [Value.oneCell'] at h1)
      have h2 : (Value.chan (some r)).cells = #[.chan (some r)] := rfl
      rw [h2]
      show (ρ.o r).cells = _
      rw [h]
      simp [mv]
  | func g p q => rw [mv_func]; simp [Value.cells, mv_func]
  | agg cs => rw [mv_agg]; rfl
  | tuple cs => rw [mv_tuple]; simp [Value.cells, mv_tuple]
  | _ => simp [Value.cells, mv]
theorem cells_clo {D : Nat → Prop} {v : Value} (h : Clo D v) : ∀ u ∈ v.cells.toList, Clo D u := by
  cases v with
  | agg cs => exact Clo_agg.1 h
  | _ => intro u hu; simp [Value.cells] at hu; subst hu; exact h

/-- Is a type a struct's or an array's? -/
def aggT (P : Program) (t : TypeId) : Option Bool := (P.underlying t).map fun d => match d with | .struct _ | .array _ _ => true | _ => false
theorem run_isAgg {P : Program} {t : TypeId} {b : Bool} (h : aggT P t = some b) (w : World) : (isAgg t).run P w = .ok b w := by
  unfold aggT at h
  cases hu : P.underlying t with
  | none => simp [hu] at h
  | some d =>
    simp only [hu, Option.map_some, Option.some.injEq] at h
    subst h
    simp only [isAgg, Sem.run_bind, run_underlying hu, Result.andThen_ok]
    split <;> simp_all
def sizeT (P : Program) (t : TypeId) : Option Nat := (P.info? t).map (·.size)
theorem run_sizeOf {P : Program} {t : TypeId} {n : Nat} (h : sizeT P t = some n) (w : World) : (sizeOf t).run P w = .ok n w := by
  unfold sizeT at h
  cases hu : P.info? t with
  | none => simp [hu] at h
  | some i =>
    simp only [hu, Option.map_some, Option.some.injEq] at h
    simp [sizeOf, typeInfo, hu, h]
theorem cellsOf_sizeT {P : Program} {t : TypeId} {n : Nat} (h : sizeT P t = some n) : P.cellsOf t = n := by
  unfold sizeT at h
  unfold Program.cellsOf
  rw [h]; rfl
def zeroT (P : Program) (t : TypeId) : Option Value := ((P.info? t).bind (·.zero)).bind fun z => if plain z then some z else none
theorem run_zeroT {P : Program} {t : TypeId} {z : Value} (h : zeroT P t = some z) (w : World) : (zeroValue t).run P w = .ok z w ∧ plain z = true := by
  unfold zeroT at h
  cases hu : P.info? t with
  | none => simp [hu] at h
  | some i =>
    cases hz : i.zero with
    | none => simp [hu, hz] at h
    | some y =>
      simp only [hu, hz, Option.bind_some] at h
      split at h
      · cases h
        exact ⟨by simp [zeroValue, typeInfo, hu, hz], by assumption⟩
      · cases h
theorem plain_cells {z : Value} (h : plain z = true) : ∀ u ∈ z.cells.toList, plain u = true := by
  cases z with
  | agg cs => obtain ⟨l⟩ := cs; simp only [plain] at h; exact plainL_all.1 h
  | _ => intro u hu; simp [Value.cells] at hu; subst hu; exact h
theorem m_plain (E : Env) {v : Value} (h : plain v = true) : E.m v = v := mv_plain _ v h
theorem map_plain (E : Env) {l : List Value} (h : ∀ u ∈ l, plain u = true) : l.map E.m = l := by
  conv => rhs; rw [← List.map_id l]
  exact List.map_congr_left fun u hu => m_plain E (h u hu)

/-! ### What needs no memory -/
def pureRun (P : Program) {α : Type} : Sem α → Option α
  | .pure a => some a
  | .program k => pureRun P (k P)
  | .mark (.extern _) k => pureRun P k
  | _ => none
theorem pureRun_ok {P : Program} {α : Type} : ∀ (s : Sem α) {a : α}, pureRun P s = some a → ∀ w, s.run P w = .ok a w
  | .pure _, _, h, _ => by simp only [pureRun, Option.some.injEq] at h; subst h; rfl
  | .program k, _, h, w => pureRun_ok (k P) h w
  | .mark (.extern _) k, _, h, w => pureRun_ok k h w
  | .mark (.acquire _) _, _, h, _ => by simp [pureRun] at h
  | .mark (.release _) _, _, h, _ => by simp [pureRun] at h
  | .mark (.releaseMerge _) _, _, h, _ => by simp [pureRun] at h
  | .mark .disable _, _, h, _ => by simp [pureRun] at h
  | .mark .enable _, _, h, _ => by simp [pureRun] at h
  | .mark (.read _) _, _, h, _ => by simp [pureRun] at h
  | .mark (.write _) _, _, h, _ => by simp [pureRun] at h
  | .mark .noRoom _, _, h, _ => by simp [pureRun] at h
  | .load .., _, h, _ => by simp [pureRun] at h
  | .store .., _, h, _ => by simp [pureRun] at h
  | .new .., _, h, _ => by simp [pureRun] at h
  | .shape .., _, h, _ => by simp [pureRun] at h
  | .freeze .., _, h, _ => by simp [pureRun] at h
  | .frozen .., _, h, _ => by simp [pureRun] at h
  | .getObj .., _, h, _ => by simp [pureRun] at h
  | .setObj .., _, h, _ => by simp [pureRun] at h
  | .choose .., _, h, _ => by simp [pureRun] at h
  | .sys .., _, h, _ => by simp [pureRun] at h
  | .halt .., _, h, _ => by simp [pureRun] at h

/-! ### Loads and stores -/
def cload (P : Program) (t : TypeId) (a : Value) (N : CH) : Option Value :=
  match a with
  | .pointer (some ad) =>
    match N.get ad.block with
    | some (.row c _ _) =>
      match aggT P t with
      | some true => match sizeT P t with
        | some n => if ad.off + n ≤ c.length then some (.agg ((c.drop ad.off).take n).toArray) else none
        | none => none
      | some false => c[ad.off]?
      | none => none
    | _ => none
  | _ => none
theorem addr_add (b o i : Nat) : (⟨b, o, none⟩ : Addr).add i = ⟨b, o + i, none⟩ := by unfold Addr.add; split <;> simp_all
theorem load_ok {P : Program} {E : Env} {N : CH} {w : World} (R : Rel P E N w) {t : TypeId} {a v : Value} (ha : Clo E.D a) (h : cload P t a N = some v) :
    (Instr.loadAt t (E.m a)).run P w = .ok (E.m v) w ∧ Clo E.D v := by
  unfold cload at h
  split at h
  · rename_i ad
    obtain ⟨ad1, ad2, sp⟩ := ad
    obtain ⟨hd, hs⟩ := ha
    simp only at hs hd
    subst hs
    split at h
    · rename_i c e el hg
      simp only at hg
      have hm : E.m (.pointer (some ⟨ad1, ad2, none⟩)) = .pointer (some ⟨E.f ad1, ad2 + E.s ad1, none⟩) := rfl
      rw [hm]
      split at h
      · rename_i ht
        split at h
        · rename_i n hn
          split at h
          · rename_i hle
            cases h
            have hle' : ad2 + n ≤ c.length := hle
            have hl : ((c.drop ad2).take n).length = n := by simp; omega
            have hc := run_loadCells_list (P := P) w ⟨E.f ad1, ad2 + E.s ad1, none⟩ (((c.drop ad2).take n).map E.m) (by
              intro j u hj
              rw [addr_add]
              rw [List.getElem?_map] at hj
              cases hj' : ((c.drop ad2).take n)[j]? with
              | none => rw [hj'] at hj; cases hj
              | some u' =>
                rw [hj'] at hj
                cases hj
                have : c[ad2 + j]? = some u' := by
                  rw [List.getElem?_take] at hj'
                  split at hj'
                  · rwa [List.getElem?_drop] at hj'
                  · cases hj'
                exact R.cell hd hg this (by omega))
            rw [List.length_map, hl] at hc
            refine ⟨?_, Clo_agg.2 ?_⟩
            · simp only [Instr.loadAt, Instr.sureAddr, loadVar, Sem.run_bind, Sem.run_pure, Result.andThen_ok, run_isAgg ht, if_true, run_sizeOf hn, hc]
              simp only [Env.m, mv_agg, List.map_toArray]
              rfl
            · intro u hu
              simp only at hu
              exact (R.row hd hg).1 u (List.mem_of_mem_drop (List.mem_of_mem_take hu))
          · cases h
        · cases h
      · rename_i ht
        refine ⟨?_, R.clo hd hg h⟩
        simp only [Instr.loadAt, Instr.sureAddr, loadVar, Sem.run_bind, Sem.run_pure, Result.andThen_ok, run_isAgg ht, Bool.false_eq_true, if_false, run_load]
        rw [R.cell hd hg h rfl]
      · cases h
    · cases h
  · cases h

def cstore (P : Program) (t : TypeId) (a v : Value) (N : CH) : Option CH :=
  match a with
  | .pointer (some ad) =>
    match N.get ad.block with
    | some (.row c e el) =>
      match sizeT P t with
      | some n =>
        if v.cells.size = n ∧ ad.off + n ≤ c.length ∧ (v.cells.toList.all (·.oneCell')) = true then N.wset ad.block (.row (wrf c ad.off v.cells.toList) e el) else none
      | none => none
    | _ => none
  | _ => none
theorem store_ok {P : Program} {E : Env} {N N' : CH} {w : World} (R : Rel P E N w) {t : TypeId} {a v : Value} (ha : Clo E.D a) (hv : Clo E.D v) (h : cstore P t a v N = some N') :
    ∃ w', Rel P E N' w' ∧ Ext E N w E N' w' ∧ (Instr.storeAt t (E.m a) (E.m v)).run P w = .ok () w' := by
  unfold cstore at h
  simp only [wrf_eq] at h
  split at h
  · rename_i ad
    obtain ⟨ad1, ad2, sp⟩ := ad
    obtain ⟨hd, hs⟩ := ha
    simp only at hs hd
    subst hs
    split at h
    · rename_i c e el hg
      simp only at hg
      split at h
      · rename_i n hn
        split at h
        · rename_i hle
          obtain ⟨hwm, rfl⟩ := CH.wset_some h
          obtain ⟨h1, h2', h3⟩ := hle
          have h2 : ad2 + n ≤ c.length := h2'
          obtain ⟨R', X⟩ := R.write hd hwm hg (o := ad2) (o' := ad2 + E.s ad1) (vs := v.cells.toList) (by simp [h1]; exact h2) rfl (cells_clo hv)
          refine ⟨_, R', X, ?_⟩
          have hm : E.m (.pointer (some ⟨ad1, ad2, none⟩)) = .pointer (some ⟨E.f ad1, ad2 + E.s ad1, none⟩) := rfl
          have hc : (E.m v).cells.toList = v.cells.toList.map E.m := by simp [Env.m, cells_mv]
          have hz : (E.m v).cells.size = n := by rw [← h1]; simp [Env.m, cells_mv]
          have hlen : v.cells.toList.length = n := by simpa using h1
          have hst := run_storeCells_cells (P := P) (E.f ad1) (ad2 + E.s ad1) (v.cells.toList.map E.m) 0 w
            (by
              intro j hj
              rw [List.length_map] at hj
              have : ad2 + j < c.length := by omega
              rw [Nat.add_zero, R.cell hd hg (List.getElem?_eq_getElem this) (by omega)]
              rfl)
            (by
              intro j hj
              rw [List.length_map] at hj
              rw [Nat.add_zero]
              exact R.free hd hg (i := ad2 + j) (by omega) (by omega))
            (by
              intro u hu
              obtain ⟨u', hu', rfl⟩ := List.mem_map.1 hu
              show (mv _ u').oneCell' = true
              rw [oneCell_mv]
              exact List.all_eq_true.1 h3 u' hu')
          rw [Nat.add_zero] at hst
          simp only [hm, Instr.storeAt, Instr.sureAddr, storeVar, Sem.run_bind, Sem.run_pure, Result.andThen_ok, run_sizeOf hn, hz, hc, hst, ne_eq, not_true_eq_false, if_false]
        · cases h
      · cases h
    · cases h
  · cases h

/-! ### What lays a block -/
def crow (N : CH) (c : List Value) (e : TypeId) (el : Bool) : Option (Nat × CH) := if N.fits then some (N.sz, N.push (.row c e el)) else none
def cbox (e : TypeId) (v : Value) (N : CH) : Option (Value × CH) := (crow N v.cells.toList e false).map fun (k, N') => (.pointer (some ⟨k, 0, none⟩), N')
theorem box_ok {P : Program} {E : Env} {N N' : CH} {w : World} (R : Rel P E N w) {t : TypeId} {v u : Value} (hv : Clo E.D v) (h : cbox t v N = some (u, N')) :
    ∃ E' w', Rel P E' N' w' ∧ Ext E N w E' N' w' ∧ Clo E'.D u ∧ (Instr.box t (E.m v)).run P w = .ok (E'.m u) w' := by
  unfold cbox crow at h
  split at h
  · rename_i hsz
    simp only [Option.map_some, Option.some.injEq, Prod.mk.injEq] at h
    obtain ⟨rfl, rfl⟩ := h
    obtain ⟨R', X⟩ := R.newRow hsz t (cells_clo hv)
    refine ⟨_, _, R', X, ⟨Env.add_D .., rfl⟩, ?_⟩
    have hc : (E.m v).cells = (v.cells.toList.map E.m).toArray := by
      apply Array.ext'
      simp [Env.m, cells_mv]
    simp only [Instr.box, newVar, newRow, Sem.run_bind, run_newObj, Result.andThen_ok, Sem.run_pure, hc]
    simp only [Env.m, mv, Env.add_f, Env.add_s]
    rfl
  · cases h
def calloc (P : Program) (e : TypeId) (N : CH) : Option (Value × CH) := (zeroT P e).bind fun z => cbox e z N
theorem alloc_ok {P : Program} {E : Env} {N N' : CH} {w : World} (R : Rel P E N w) {t : TypeId} {u : Value} (h : calloc P t N = some (u, N')) :
    ∃ E' w', Rel P E' N' w' ∧ Ext E N w E' N' w' ∧ Clo E'.D u ∧ (Instr.alloc t true (.tuple #[])).run P w = .ok (E'.m u) w' := by
  unfold calloc at h
  cases hz : zeroT P t with
  | none => simp [hz] at h
  | some z =>
    rw [hz, Option.bind_some] at h
    obtain ⟨hrun, hp⟩ := run_zeroT hz w
    obtain ⟨E', w', R', X, hu, hr⟩ := box_ok R (Clo_plain _ z hp) h
    refine ⟨E', w', R', X, hu, ?_⟩
    rw [m_plain E hp] at hr
    simp only [Instr.alloc, Sem.run_bind, hrun, Result.andThen_ok]
    simpa [Instr.box] using hr

/-! ### Structs and arrays as values -/
theorem foldl_set_map (g : Value → Value) : ∀ (l : List (Value × Nat)) (off : Nat) (cs : Array Value),
    (l.foldl (fun cs (p : Value × Nat) => cs.setIfInBounds (off + p.2) p.1) cs).map g = (l.map fun p => (g p.1, p.2)).foldl (fun cs (p : Value × Nat) => cs.setIfInBounds (off + p.2) p.1) (cs.map g)
  | [], _, _ => rfl
  | p :: l, off, cs => by
    simp only [List.foldl_cons, List.map_cons]
    rw [foldl_set_map g l]
    congr 1
    apply Array.ext'
    simp [List.map_set]
theorem foldl_set_clo {D : Nat → Prop} : ∀ (l : List (Value × Nat)) (off : Nat) (cs : Array Value), (∀ v ∈ cs.toList, Clo D v) → (∀ p ∈ l, Clo D p.1) →
    ∀ v ∈ (l.foldl (fun cs (p : Value × Nat) => cs.setIfInBounds (off + p.2) p.1) cs).toList, Clo D v
  | [], _, _, h, _ => h
  | p :: l, off, cs, h, hl => by
    simp only [List.foldl_cons]
    refine foldl_set_clo l off _ ?_ (fun q hq => hl q (by simp [hq]))
    intro v hv
    rw [Array.toList_setIfInBounds] at hv
    rcases List.mem_or_eq_of_mem_set hv with h1 | h1
    · exact h v h1
    · rw [h1]; exact hl p (by simp)
theorem fill_map (g : Value → Value) (hg : ∀ v, (g v).cells = v.cells.map g) (place : Nat → Option (Nat × Nat)) : ∀ (parts : List (Nat × Value)) (cs : Array Value),
    Instr.fill place (cs.map g) (parts.map fun p => (p.1, g p.2)) = (Instr.fill place cs parts).map (·.map g)
  | [], cs => rfl
  | (i, v) :: rest, cs => by
    simp only [List.map_cons, Instr.fill]
    cases place i with
    | none => rfl
    | some os =>
      obtain ⟨off, size⟩ := os
      simp only [hg, Array.size_map]
      split
      · rfl
      · rw [← fill_map g hg place rest]
        congr 1
        have h0 := (foldl_set_map g v.cells.zipIdx.toList off cs).symm
        rw [← Array.foldl_toList, ← Array.foldl_toList]
        refine Eq.trans ?_ h0
        congr 1
        apply List.ext_getElem?
        intro j
        simp [List.getElem?_zipIdx]
        rfl
theorem fill_clo {D : Nat → Prop} (place : Nat → Option (Nat × Nat)) : ∀ (parts : List (Nat × Value)) (cs : Array Value) {out : Array Value},
    (∀ v ∈ cs.toList, Clo D v) → (∀ p ∈ parts, Clo D p.2) → Instr.fill place cs parts = some out → ∀ v ∈ out.toList, Clo D v
  | [], cs, out, h, _, e => by simp only [Instr.fill, Option.some.injEq] at e; subst e; exact h
  | (i, v) :: rest, cs, out, h, hp, e => by
    simp only [Instr.fill] at e
    cases hpl : place i with
    | none => simp [hpl] at e
    | some os =>
      obtain ⟨off, size⟩ := os
      simp only [hpl] at e
      split at e
      · cases e
      · refine fill_clo place rest _ ?_ (fun p hq => hp p (by simp [hq])) e
        rw [← Array.foldl_toList]
        refine foldl_set_clo _ off cs h ?_
        intro p hm
        have hv := hp (i, v) (by simp)
        have hm' : p ∈ v.cells.toList.zipIdx := by simpa using hm
        exact cells_clo hv p.1 (List.fst_mem_of_mem_zipIdx hm')

end Go.Eng
namespace Go.Eng
set_option linter.unusedSimpArgs false
set_option linter.unusedVariables false

theorem m_cells (E : Env) (v : Value) : (E.m v).cells = v.cells.map E.m := cells_mv _ v
theorem zero_cells {P : Program} {t : TypeId} {z : Value} {i : TypeInfo} (hi : P.info? t = some i) (h : zeroT P t = some z) : i.zero = some z ∧ plain z = true := by
  unfold zeroT at h
  simp only [hi, Option.bind_some] at h
  cases hz : i.zero with
  | none => simp [hz] at h
  | some y =>
    simp only [hz, Option.bind_some] at h
    split at h
    · cases h; exact ⟨rfl, by assumption⟩
    · cases h
theorem cells_plain_map (E : Env) {z : Value} (h : plain z = true) : z.cells.map E.m = z.cells := by
  apply Array.ext'
  rw [Array.toList_map]
  exact map_plain E (plain_cells h)

/-! ### build, buildSlice -/
theorem fill_wr (off : Nat) : ∀ (l : List Value) (j : Nat) (cs : Array Value), ((l.zipIdx j).foldl (fun cs p => cs.setIfInBounds (off + p.2) p.1) cs) = (wr cs.toList (off + j) l).toArray
  | [], j, cs => by simp [wr]
  | v :: l, j, cs => by
    rw [List.zipIdx_cons, List.foldl_cons, fill_wr off l (j + 1)]
    simp only [Array.toList_setIfInBounds]
    rw [wr]
    rfl
/-- The parts laid into the cells, each in one pass. -/
def ffill (place : Nat → Option (Nat × Nat)) : List (Nat × Value) → List Value → Option (List Value)
  | [], cells => some cells
  | p :: rest, cells => match place p.1 with
    | none => none
    | some os => if and (Nat.beq p.2.cells.size os.2) (Nat.ble (os.1 + p.2.cells.size) cells.length) = true then ffill place rest (wrf cells os.1 p.2.cells.toList) else none
theorem ffill_eq (place : Nat → Option (Nat × Nat)) : ∀ (parts : List (Nat × Value)) (cs : Array Value), (ffill place parts cs.toList).map (·.toArray) = Instr.fill place cs parts
  | [], cs => by simp [ffill, Instr.fill]
  | (i, v) :: rest, cs => by
    simp only [ffill, Instr.fill]
    cases place i with
    | none => rfl
    | some os =>
      obtain ⟨off, size⟩ := os
      by_cases h : v.cells.size = size ∧ off + v.cells.size ≤ cs.size
      · have h1 : and (Nat.beq v.cells.size size) (Nat.ble (off + v.cells.size) cs.toList.length) = true := by
          rw [Bool.and_eq_true]
          exact ⟨by simpa using h.1, by simpa using h.2⟩
        have h2 : ¬ (v.cells.size ≠ size || decide (off + v.cells.size > cs.size)) = true := by
          simp [h.1]
          have := h.2
          omega
        dsimp only
        rw [if_pos h1, if_neg h2, wrf_eq]
        have h3 : v.cells.zipIdx.foldl (fun cs (c, j) => cs.setIfInBounds (off + j) c) cs = (wr cs.toList off v.cells.toList).toArray := by
          rw [← Array.foldl_toList]
          have := fill_wr off v.cells.toList 0 cs
          rw [Nat.add_zero] at this
          rw [← this]
          simp
        rw [h3, ← ffill_eq place rest]
      · have h1 : ¬ and (Nat.beq v.cells.size size) (Nat.ble (off + v.cells.size) cs.toList.length) = true := by
          intro hh
          rw [Bool.and_eq_true] at hh
          exact h ⟨by simpa using hh.1, by simpa using hh.2⟩
        have h2 : (v.cells.size ≠ size || decide (off + v.cells.size > cs.size)) = true := by
          by_cases e : v.cells.size = size
          · have : ¬ off + v.cells.size ≤ cs.size := fun hl => h ⟨e, hl⟩
            simp [e]
            omega
          · simp [e]
        dsimp only
        rw [if_neg h1, if_pos h2]
        rfl
def fbuilt (P : Program) (t : TypeId) (parts : List (Nat × Value)) : Option (Array Value) :=
  match P.info? t, P.underlying t with
  | some it, some (.array _ e) =>
    match it.zero, P.info? e with
    | some z, some ie => (ffill (fun i => some (i * ie.size, ie.size)) parts z.cells.toList).map (·.toArray)
    | _, _ => none
  | some it, some (.struct fields) =>
    match it.zero, fields.toList.mapM (fun f => (P.info? f.type).map fun i => (f.offset, i.size)) with
    | some z, some places => (ffill (places.toArray[·]?) parts z.cells.toList).map (·.toArray)
    | _, _ => none
  | _, _ => none
theorem fbuilt_eq (P : Program) (t : TypeId) (parts : List (Nat × Value)) : fbuilt P t parts = P.built t parts := by
  unfold fbuilt Program.built
  simp only [ffill_eq]
  rfl
def cbuild (P : Program) (t : TypeId) (parts : List (Nat × Value)) : Option Value :=
  if (zeroT P t).isSome then (fbuilt P t parts).map fun cs => .agg cs else none
theorem build_ok {P : Program} {E : Env} {w : World} {t : TypeId} {parts : List (Nat × Value)} {v : Value} (hp : ∀ p ∈ parts, Clo E.D p.2) (h : cbuild P t parts = some v) :
    (Instr.build t (parts.map fun p => (p.1, E.m p.2)).toArray).run P w = .ok (E.m v) w ∧ Clo E.D v := by
  unfold cbuild at h
  rw [fbuilt_eq] at h
  split at h
  · rename_i hz
    obtain ⟨z, hz⟩ := Option.isSome_iff_exists.1 hz
    cases hb : P.built t parts with
    | none => simp [hb] at h
    | some cs =>
      simp only [hb, Option.map_some, Option.some.injEq] at h
      subst h
      have key : P.built t (parts.map fun p => (p.1, E.m p.2)) = some (cs.map E.m) ∧ ∀ u ∈ cs.toList, Clo E.D u := by
        unfold Program.built at hb ⊢
        cases hit : P.info? t with
        | none => simp [hit] at hb
        | some it =>
          obtain ⟨hz0, hzp⟩ := zero_cells hit hz
          have hclo : ∀ u ∈ z.cells.toList, Clo E.D u := fun u hu => Clo_plain _ u (plain_cells hzp u hu)
          cases hu : P.underlying t with
          | none => simp [hit, hu] at hb
          | some d =>
            cases d <;> try (simp [hit, hu] at hb; done)
            case array n e =>
              cases hie : P.info? e with
              | none => simp [hit, hu, hz0, hie] at hb
              | some ie =>
                simp only [hit, hu, hz0, hie] at hb ⊢
                refine ⟨?_, fill_clo _ _ _ hclo hp hb⟩
                have := fill_map E.m (m_cells E) (fun i => some (i * ie.size, ie.size)) parts z.cells
                rw [cells_plain_map E hzp, hb] at this
                exact this
            case struct fields =>
              cases hpl : fields.toList.mapM (fun f => (P.info? f.type).map fun i => (f.offset, i.size)) with
              | none => simp [hit, hu, hz0, hpl] at hb
              | some places =>
                simp only [hit, hu, hz0, hpl] at hb ⊢
                refine ⟨?_, fill_clo _ _ _ hclo hp hb⟩
                have := fill_map E.m (m_cells E) (fun x => places.toArray[x]?) parts z.cells
                rw [cells_plain_map E hzp, hb] at this
                exact this
      refine ⟨?_, Clo_agg.2 key.2⟩
      rw [run_build w t _ (cs.map E.m) (by simpa using key.1)]
      simp only [Env.m, mv_agg]
      rfl
  · cases h

def cbuildSlice (P : Program) (t : TypeId) (len : Nat) (parts : List (Nat × Value)) (N : CH) : Option (Value × CH) :=
  match P.underlying t with
  | some (.slice e) =>
    match P.info? e, zeroT P e with
    | some ie, some z =>
      if len = 0 ∧ parts.isEmpty = true then (crow N [] e false).map fun (k, N') => (.slice (some ⟨k, 0, none⟩) 0 0, N') else
      if len * ie.size > 2 ^ 24 ∨ len * ie.size = 0 then none else
      match Instr.fill (fun i => some (i * ie.size, ie.size)) ((Array.range (len * ie.size)).map (z.cells[· % z.cells.size]!)) parts with
      | some cs => (crow N cs.toList e false).map fun (k, N') => (.slice (some ⟨k, 0, none⟩) len len, N')
      | none => none
    | _, _ => none
  | _ => none
theorem zeros_plain {z : Value} (h : plain z = true) (n : Nat) : ∀ u ∈ ((Array.range n).map (z.cells[· % z.cells.size]!)).toList, plain u = true := by
  intro u hu
  simp only [Array.toList_map, List.mem_map] at hu
  obtain ⟨j, _, rfl⟩ := hu
  rcases Nat.lt_or_ge (j % z.cells.size) z.cells.size with hl | hl
  · rw [getElem!_pos z.cells _ hl]
    exact plain_cells h _ (by simp)
  · rw [getElem!_neg z.cells _ (by omega)]
    rfl
theorem buildSlice_ok {P : Program} {E : Env} {N N' : CH} {w : World} (R : Rel P E N w) {t : TypeId} {len : Nat} {parts : List (Nat × Value)} {v : Value} (hp : ∀ p ∈ parts, Clo E.D p.2)
    (h : cbuildSlice P t len parts N = some (v, N')) :
    ∃ E' w', Rel P E' N' w' ∧ Ext E N w E' N' w' ∧ Clo E'.D v ∧ (Instr.buildSlice t len (parts.map fun p => (p.1, E.m p.2)).toArray).run P w = .ok (E'.m v) w' := by
  unfold cbuildSlice at h
  split at h
  · rename_i e hu
    split at h
    · rename_i ie z hie hz
      obtain ⟨hz0, hzp⟩ := zero_cells hie hz
      split at h
      · rename_i hb
        obtain ⟨rfl, hpe⟩ := hb
        have hpn : parts = [] := List.isEmpty_iff.1 hpe
        subst hpn
        unfold crow at h
        split at h
        · rename_i hsz
          simp only [Option.map_some, Option.some.injEq, Prod.mk.injEq] at h
          obtain ⟨rfl, rfl⟩ := h
          obtain ⟨R', X⟩ := R.newRow hsz e (c := []) (by simp)
          refine ⟨_, _, R', X, Env.add_D .., ?_⟩
          simp [Instr.buildSlice, run_underlying hu, sizeOf, typeInfo, hie, Instr.fill, newRow, Env.m, mv, soff, scap, Env.add]
          congr 2
          apply Array.ext'
          simp
        · cases h
      split at h
      · cases h
      · rename_i hb
        split at h
        · rename_i cs hcs
          unfold crow at h
          split at h
          · rename_i hsz
            simp only [Option.map_some, Option.some.injEq, Prod.mk.injEq] at h
            obtain ⟨rfl, rfl⟩ := h
            have hzz := zeros_plain hzp (len * ie.size)
            have hclo : ∀ u ∈ cs.toList, Clo E.D u := fill_clo _ _ _ (fun u hu => Clo_plain _ u (hzz u hu)) hp hcs
            obtain ⟨R', X⟩ := R.newRow hsz e hclo
            refine ⟨_, _, R', X, Env.add_D .., ?_⟩
            have hf := fill_map E.m (m_cells E) (fun i => some (i * ie.size, ie.size)) parts ((Array.range (len * ie.size)).map (z.cells[· % z.cells.size]!))
            have hmz : ((Array.range (len * ie.size)).map (z.cells[· % z.cells.size]!)).map E.m = (Array.range (len * ie.size)).map (z.cells[· % z.cells.size]!) := by
              apply Array.ext'
              rw [Array.toList_map]
              exact map_plain E hzz
            rw [hmz, hcs] at hf
            rw [run_buildSlice w t e len _ (cs.map E.m) ie z hu hie hz0 (fun hh => hb (.inl hh)) (fun hh => hb (.inr hh)) (by simpa using hf)]
            have : (cs.toList.map E.m).toArray = cs.map E.m := by apply Array.ext'; simp
            rw [this]
            simp only [Env.m, mv, soff, scap, Env.add_f, Env.add_x, Env.add_s, Nat.add_zero]
          · cases h
        · cases h
    · cases h
  · cases h

/-! ### parts of aggregates and tuples -/
def cpart (P : Program) (t : TypeId) (cs : Array Value) (off : Nat) : Option Value :=
  match aggT P t with
  | some true => (sizeT P t).map fun n => .agg (cs.extract off (off + n))
  | some false => cs[off]?
  | none => none
theorem part_ok {P : Program} {E : Env} {w : World} {t : TypeId} {cs : Array Value} {off : Nat} {v : Value} (hc : ∀ u ∈ cs.toList, Clo E.D u) (h : cpart P t cs off = some v) :
    (part t (cs.map E.m) off).run P w = .ok (E.m v) w ∧ Clo E.D v := by
  unfold cpart at h
  split at h
  · rename_i ht
    cases hn : sizeT P t with
    | none => simp [hn] at h
    | some n =>
      simp only [hn, Option.map_some, Option.some.injEq] at h
      subst h
      refine ⟨?_, Clo_agg.2 ?_⟩
      · simp only [part, Sem.run_bind, run_isAgg ht, Result.andThen_ok, if_true, run_sizeOf hn, Sem.run_pure, Env.m, mv_agg]
        congr 2
        apply Array.ext'
        simp only [Array.toList_extract, Array.toList_map, List.extract_eq_take_drop, List.map_take, List.map_drop]
        rfl
      · intro u hu
        rw [Array.toList_extract, List.extract_eq_take_drop] at hu
        exact hc u (List.mem_of_mem_drop (List.mem_of_mem_take hu))
  · rename_i ht
    refine ⟨?_, hc v (by simpa using Array.mem_of_getElem? h)⟩
    simp only [part, Sem.run_bind, run_isAgg ht, Result.andThen_ok, Bool.false_eq_true, if_false, Array.getElem?_map, h, Option.map_some]
    rfl
  · cases h
def cfield (P : Program) (t : TypeId) (x : Value) (i : Nat) : Option Value :=
  match P.underlying t, x with
  | some (.struct fields), .agg cs => match fields[i]? with
    | some f => cpart P f.type cs f.offset
    | none => none
  | _, _ => none
theorem field_ok {P : Program} {E : Env} {w : World} {t : TypeId} {x v : Value} {i : Nat} (hx : Clo E.D x) (h : cfield P t x i = some v) :
    (Instr.field t (E.m x) i).run P w = .ok (E.m v) w ∧ Clo E.D v := by
  unfold cfield at h
  split at h
  · rename_i fields cs hu
    split at h
    · rename_i f hf
      obtain ⟨h1, h2⟩ := part_ok (w := w) (Clo_agg.1 hx) h
      refine ⟨?_, h2⟩
      have : E.m (.agg cs) = .agg (cs.map E.m) := mv_agg _ cs
      simp only [this, Instr.field, Sem.run_bind, run_underlying hu, Result.andThen_ok, hf, asAgg, Sem.run_pure, h1]
    · cases h
  · cases h
def cextract (x : Value) (i : Nat) : Option Value :=
  match x with
  | .tuple vs => vs[i]?
  | _ => none
theorem extract_ok {P : Program} {E : Env} {w : World} {x v : Value} {i : Nat} (hx : Clo E.D x) (h : cextract x i = some v) :
    (Instr.extract (E.m x) i).run P w = .ok (E.m v) w ∧ Clo E.D v := by
  unfold cextract at h
  split at h
  · rename_i vs
    refine ⟨?_, Clo_tuple.1 hx v (by simpa using Array.mem_of_getElem? h)⟩
    have : E.m (.tuple vs) = .tuple (vs.map E.m) := mv_tuple _ vs
    simp only [this, Instr.extract, Array.getElem?_map, h, Option.map_some]
    rfl
  · cases h

/-! ### places -/
def cfieldAddr (P : Program) (t : TypeId) (x : Value) (i : Nat) : Option Value :=
  match P.underlying t, x with
  | some (.struct fields), .pointer (some a) => match fields[i]? with
    | some f => match sizeT P f.type with
      | some n => if n = 0 then none else some (.pointer (some ⟨a.block, a.off + f.offset, none⟩))
      | none => none
    | none => none
  | _, _ => none
theorem fieldAddr_ok {P : Program} {E : Env} {w : World} {t : TypeId} {x v : Value} {i : Nat} (hx : Clo E.D x) (h : cfieldAddr P t x i = some v) :
    (Instr.fieldAt t (E.m x) i).run P w = .ok (E.m v) w ∧ Clo E.D v := by
  unfold cfieldAddr at h
  split at h
  · rename_i fields a hu
    obtain ⟨a1, a2, a3⟩ := a
    obtain ⟨hd, hs⟩ := hx
    simp only at hs hd
    subst hs
    split at h
    · rename_i f hf
      split at h
      · rename_i n hn
        split at h
        · cases h
        · rename_i hn0
          cases h
          refine ⟨?_, hd, rfl⟩
          have hm : E.m (.pointer (some ⟨a1, a2, none⟩)) = .pointer (some ⟨E.f a1, a2 + E.s a1, none⟩) := rfl
          have hadd : a2 + E.s a1 + f.offset = a2 + f.offset + E.s a1 := by omega
          simp only [hm, hadd, Instr.fieldAt, Sem.run_bind, run_underlying hu, Result.andThen_ok, hf, Instr.sureAddr, Sem.run_pure, fieldPlace, run_sizeOf hn, Sem.run_ite, hn0, if_false, addr_add, hadd]
          rfl
      · cases h
    · cases h
  · cases h
/-- Where a slice begins is known. -/
def flat (a : Addr) : Bool := match a.spot with | none => true | some t => t / 2 == 0
theorem soff_flat (ρ : Ren) {a : Addr} (h : flat a = true) : soff ρ a = a.off + ρ.s a.block := by
  unfold flat at h
  unfold soff
  split
  · rfl
  · rename_i t ht
    rw [ht] at h
    simp only [beq_iff_eq] at h
    rw [h]
    split <;> rfl
def cindexAddr (P : Program) (t : TypeId) (x ix : Value) : Option Value :=
  match ix with
  | .int _ i =>
    match P.underlying t, x with
    | some (.array len e), .pointer (some a) => match sizeT P e with
      | some n => if 0 ≤ i ∧ i < len then some (.pointer (some ⟨a.block, a.off + i.toNat * n, none⟩)) else none
      | none => none
    | some (.slice e), .slice (some a) len _ => match sizeT P e with
      | some n => if (0 ≤ i ∧ i < len) ∧ flat a = true then some (.pointer (some ⟨a.block, a.off + i.toNat * n, none⟩)) else none
      | none => none
    | _, _ => none
  | _ => none
theorem indexAddr_ok {P : Program} {E : Env} {w : World} {t : TypeId} {x ix v : Value} (hx : Clo E.D x) (h : cindexAddr P t x ix = some v) :
    (Instr.indexAt t (E.m x) (E.m ix)).run P w = .ok (E.m v) w ∧ Clo E.D v := by
  unfold cindexAddr at h
  split at h
  · rename_i k i
    have hi : E.m (.int k i) = .int k i := rfl
    split at h
    · rename_i len e a hu
      obtain ⟨a1, a2, a3⟩ := a
      obtain ⟨hd, hs⟩ := hx
      simp only at hs hd
      subst hs
      split at h
      · rename_i n hn
        split at h
        · rename_i hb
          cases h
          refine ⟨?_, hd, rfl⟩
          have hm : E.m (.pointer (some ⟨a1, a2, none⟩)) = .pointer (some ⟨E.f a1, a2 + E.s a1, none⟩) := rfl
          have hadd : a2 + E.s a1 + i.toNat * n = a2 + i.toNat * n + E.s a1 := by omega
          simp [hm, hadd, hi, Instr.indexAt, asIntOf, run_underlying hu, Instr.sureAddr, run_sizeOf hn, hb, addr_add]
          rfl
        · cases h
      · cases h
    · rename_i e a len c hu
      obtain ⟨a1, a2, a3⟩ := a
      split at h
      · rename_i n hn
        split at h
        · rename_i hb
          cases h
          refine ⟨?_, hx, rfl⟩
          obtain ⟨hb, hfl⟩ := hb
          have hm : ∃ c', E.m (.slice (some ⟨a1, a2, a3⟩) len c) = .slice (some ⟨E.f a1, a2 + E.s a1, none⟩) len c' := ⟨scap E.toRen ⟨a1, a2, a3⟩ c, by simp only [Env.m, mv, soff_flat _ hfl]⟩
          obtain ⟨c', hm⟩ := hm
          have hadd : a2 + E.s a1 + i.toNat * n = a2 + i.toNat * n + E.s a1 := by omega
          simp [hm, hadd, hi, Instr.indexAt, asIntOf, run_underlying hu, run_sizeOf hn, hb, addr_add]
          rfl
        · cases h
      · cases h
    · cases h
  · cases h

/-! ### a slice as an array -/
def csta (P : Program) (t : TypeId) (x : Value) : Option Value :=
  match P.underlying t, x with
  | some (.array n _), .slice (some a) len _ => if n ≤ len ∧ flat a = true then some (.pointer (some ⟨a.block, a.off, none⟩)) else none
  | _, _ => none
theorem sta_ok {P : Program} {E : Env} {w : World} {t : TypeId} {x v : Value} (hx : Clo E.D x) (h : csta P t x = some v) : (Instr.arrayAt t (E.m x)).run P w = .ok (E.m v) w ∧ Clo E.D v := by
  unfold csta at h
  split at h
  · rename_i n e a len c hu
    obtain ⟨a1, a2, a3⟩ := a
    split at h
    · rename_i hb
      cases h
      obtain ⟨hb, hfl⟩ := hb
      refine ⟨?_, hx, rfl⟩
      have hm : ∃ c', E.m (.slice (some ⟨a1, a2, a3⟩) len c) = .slice (some ⟨E.f a1, a2 + E.s a1, none⟩) len c' := ⟨scap E.toRen ⟨a1, a2, a3⟩ c, by simp only [Env.m, mv, soff_flat _ hfl]⟩
      obtain ⟨c', hm⟩ := hm
      have hlt : ¬ len < n := by omega
      simp [hm, Instr.arrayAt, run_underlying hu, hlt]
      rfl
    · cases h
  · cases h

/-! ### nilCheck; comparison with nil -/
def cnilCheck (x : Value) : Option Value :=
  match x with
  | .pointer (some _) => some x
  | .func (.func _) _ _ => some x
  | _ => none
/-- What a comparison of two values of pointers', slices', maps', functions' or interfaces' types comes to, where one of them is nil, or both lie in one block. -/
def ceq (P : Program) (t : TypeId) (x y : Value) : Option Bool :=
  match P.underlying t, x, y with
  | some (.pointer _), .pointer none, .pointer b => some b.isNone
  | some (.pointer _), .pointer (some _), .pointer none => some false
  | some (.pointer e), .pointer (some a), .pointer (some b) =>
    match sizeT P e with
    | some n => if n ≠ 0 ∧ a.block = b.block then some (a.off == b.off) else none
    | none => none
  | some (.slice _), .slice none _ _, .slice b _ _ => some b.isNone
  | some (.slice _), .slice (some _) _ _, .slice none _ _ => some false
  | some (.map _ _), .map none, .map b => some b.isNone
  | some (.map _ _), .map (some _), .map none => some false
  | some (.func _ _ _), .nilFunc, .nilFunc => some true
  | some (.func _ _ _), .nilFunc, .func _ _ _ => some false
  | some (.func _ _ _), .func _ _ _, .nilFunc => some false
  | some (.interface _), .nilIface, .iface _ _ => some false
  | some (.interface _), .iface _ _, .nilIface => some false
  | _, _, _ => none
theorem m_func (E : Env) (g : Fn) (p q : Array Value) : E.m (.func g p q) = .func (mvFn E.f g) (p.map E.m) (q.map E.m) := mv_func ..
theorem equalIn_ok {P : Program} {E : Env} {w : World} {t : TypeId} {x y : Value} {b : Bool} (hx : Clo E.D x) (hy : Clo E.D y) (h : ceq P t x y = some b) (d : Nat) :
    (Op.equalIn (d + 1) t (E.m x) (E.m y)).run P w = .ok b w := by
  unfold ceq at h
  split at h
  · rename_i e bb hu
    cases h
    cases bb <;> simp [Env.m, mv, Op.equalIn, run_underlying hu]
  · rename_i e aa hu
    cases h
    simp [Env.m, mv, Op.equalIn, run_underlying hu]
  · rename_i e a b' hu
    split at h
    · rename_i n hn
      split at h
      · rename_i hb
        cases h
        obtain ⟨a1, a2, a3⟩ := a
        obtain ⟨b1, b2, b3⟩ := b'
        obtain ⟨hd, hs⟩ := hx
        obtain ⟨hd', hs'⟩ := hy
        simp only at hb hs hs'
        subst hs; subst hs'
        obtain ⟨hn0, rfl⟩ := hb
        have hab : ((⟨E.f a1, a2 + E.s a1, none⟩ : Addr) == ⟨E.f a1, b2 + E.s a1, none⟩) = (a2 == b2) := by
          by_cases hc : a2 = b2
          · subst hc; simp
          · have h1 : (a2 == b2) = false := by simpa using hc
            rw [h1]
            simp [hc]
        simp [Env.m, mv, Op.equalIn, run_underlying hu, run_sizeOf hn, hn0, sameAddr, hab]
      · cases h
    · cases h
  · rename_i e n c bb n' c' hu
    cases h
    cases bb <;> simp [Env.m, mv, Op.equalIn, run_underlying hu]
  · rename_i e a n c n' c' hu
    cases h
    simp [Env.m, mv, Op.equalIn, run_underlying hu]
  · rename_i e e' bb hu
    cases h
    cases bb <;> simp [Env.m, mv, Op.equalIn, run_underlying hu]
  · rename_i e e' a hu
    cases h
    simp [Env.m, mv, Op.equalIn, run_underlying hu]
  · rename_i hu
    cases h
    simp [Env.m, mv, Op.equalIn, run_underlying hu]
  · rename_i hu
    cases h
    simp only [m_func]
    simp [Env.m, mv, Op.equalIn, run_underlying hu]
  · rename_i hu
    cases h
    simp only [m_func]
    simp [Env.m, mv, Op.equalIn, run_underlying hu]
  · rename_i hu
    cases h
    simp [Env.m, mv, Op.equalIn, run_underlying hu]
  · rename_i hu
    cases h
    simp [Env.m, mv, Op.equalIn, run_underlying hu]
  · cases h
theorem eq_fin {P : Program} {w : World} {t : TypeId} {x y : Value} {b : Bool} {ox oy : Operand} (hb1 : binOp .eql t x y = (do pure (.bool (← Op.equal t x y))))
    (hb2 : binOp .neq t x y = (do pure (.bool (!(← Op.equal t x y))))) (hg : ∀ op, eqGuard op t ox oy x y = pure ()) (he : (Op.equal t x y).run P w = .ok b w) :
    ((do eqGuard .eql t ox oy x y; binOp .eql t x y) : Sem Value).run P w = .ok (.bool b) w ∧
    ((do eqGuard .neq t ox oy x y; binOp .neq t x y) : Sem Value).run P w = .ok (.bool (!b)) w := by
  simp only [hg, hb1, hb2, Sem.run_bind, Sem.run_pure, Result.andThen_ok, he, and_self]
theorem eq_ok {P : Program} {E : Env} {w : World} {t : TypeId} {x y : Value} {b : Bool} (hx : Clo E.D x) (hy : Clo E.D y) (h : ceq P t x y = some b) (ox oy : Operand) :
    ((do eqGuard .eql t ox oy (E.m x) (E.m y); binOp .eql t (E.m x) (E.m y)) : Sem Value).run P w = .ok (.bool b) w ∧
    ((do eqGuard .neq t ox oy (E.m x) (E.m y); binOp .neq t (E.m x) (E.m y)) : Sem Value).run P w = .ok (.bool (!b)) w := by
  have he : (Op.equal t (E.m x) (E.m y)).run P w = .ok b w := equalIn_ok hx hy h 9999
  unfold ceq at h
  split at h
  · rename_i e bb hu
    cases bb <;> exact eq_fin rfl rfl (fun op => by cases op <;> rfl) he
  · exact eq_fin rfl rfl (fun op => by cases op <;> rfl) he
  · exact eq_fin rfl rfl (fun op => by cases op <;> rfl) he
  · rename_i e n c bb n' c' hu
    cases bb <;> exact eq_fin rfl rfl (fun op => by cases op <;> rfl) he
  · exact eq_fin rfl rfl (fun op => by cases op <;> rfl) he
  · rename_i e e' bb hu
    cases bb <;> exact eq_fin rfl rfl (fun op => by cases op <;> rfl) he
  · exact eq_fin rfl rfl (fun op => by cases op <;> rfl) he
  · exact eq_fin rfl rfl (fun op => by cases op <;> rfl) he
  · simp only [m_func] at he ⊢
    exact eq_fin rfl rfl (fun op => by cases op <;> rfl) he
  · simp only [m_func] at he ⊢
    exact eq_fin rfl rfl (fun op => by cases op <;> rfl) he
  · exact eq_fin rfl rfl (fun op => by cases op <;> rfl) he
  · exact eq_fin rfl rfl (fun op => by cases op <;> rfl) he
  · cases h

end Go.Eng
