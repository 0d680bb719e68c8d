/-
  The engine, part A: values under a renaming of blocks, a plain heap, and what it means that a plain heap stands for a part of the model's memory.
-/
import Derived.Calls
import Derived.Orders
import Derived.KernelRfl
import Derived.Laws.World
import Derived.Laws.Sem
namespace Go.Eng
set_option linter.unusedSimpArgs false
set_option linter.unusedVariables false

/-! ### Values -/
def mvFn (f : Nat → Nat) : Fn → Fn
  | .yield l => .yield (f l)
  | g => g

/-- A renaming: the model's block of a plain one (f), at which of its cells the plain one begins (s), and how many elements more it has to spare (x). 'o': values that are only handed on: what stands behind '.chan (some r)' is the caller's own, one cell. -/
structure Ren where
  f : Nat → Nat
  x : Nat → Nat
  s : Nat → Nat
  o : Nat → Value
  one : ∀ r, (o r).oneCell' = true

/-- A slice's place: a spot 't' says that its cells begin t / 2 further on, if there is anything to spare (such a slice is empty). -/
def soff (ρ : Ren) (a : Addr) : Nat := (match a.spot with | none => a.off | some t => if ρ.x a.block = 0 then a.off else a.off + t / 2) + ρ.s a.block
/-- A slice's capacity: without a spot, or at an odd one, the elements to spare belong to it. -/
def scap (ρ : Ren) (a : Addr) (c : Nat) : Nat := match a.spot with | none => c + ρ.x a.block | some t => if t % 2 = 0 then c else c + ρ.x a.block

mutual
/-- A value with its blocks renamed. -/
def mv (ρ : Ren) : Value → Value
  | .pointer (some a) => .pointer (some { a with block := ρ.f a.block, off := a.off + ρ.s a.block })
  | .slice (some a) l c => .slice (some ⟨ρ.f a.block, soff ρ a, none⟩) l (scap ρ a c)
  | .map (some r) => .map (some (ρ.f r))
  | .chan (some r) => ρ.o r
  | .func g ⟨p⟩ ⟨q⟩ => .func (mvFn ρ.f g) ⟨mvL ρ p⟩ ⟨mvL ρ q⟩
  | .iface t v => .iface t (mv ρ v)
  | .agg ⟨cs⟩ => .agg ⟨mvL ρ cs⟩
  | .tuple ⟨vs⟩ => .tuple ⟨mvL ρ vs⟩
  | v => v
def mvL (ρ : Ren) : List Value → List Value
  | [] => []
  | v :: vs => mv ρ v :: mvL ρ vs
end

mutual
/-- All blocks that a value names have the property; an address outside slices bears no spot. -/
def Clo (D : Nat → Prop) : Value → Prop
  | .pointer (some a) => D a.block ∧ a.spot = none
  | .slice (some a) _ _ => D a.block
  | .map (some r) => D r
  | .func g ⟨p⟩ ⟨q⟩ => (match g with | .yield l => D l | _ => True) ∧ CloL D p ∧ CloL D q
  | .iface _ v => Clo D v
  | .agg ⟨cs⟩ => CloL D cs
  | .tuple ⟨vs⟩ => CloL D vs
  | _ => True
def CloL (D : Nat → Prop) : List Value → Prop
  | [] => True
  | v :: vs => Clo D v ∧ CloL D vs
end

mutual
/-- No block is named at all. -/
def plain : Value → Bool
  | .pointer (some _) => false
  | .slice (some _) _ _ => false
  | .map (some _) => false
  | .chan (some _) => false
  | .func g ⟨p⟩ ⟨q⟩ => (match g with | .yield _ => false | _ => true) && plainL p && plainL q
  | .iface _ v => plain v
  | .agg ⟨cs⟩ => plainL cs
  | .tuple ⟨vs⟩ => plainL vs
  | _ => true
def plainL : List Value → Bool
  | [] => true
  | v :: vs => plain v && plainL vs
end

theorem mvL_map (ρ : Ren) (l : List Value) : mvL ρ l = l.map (mv ρ) := by
  induction l with
  | nil => rfl
  | cons v l ih => simp [mvL, ih]
theorem CloL_all {D : Nat → Prop} {l : List Value} : CloL D l ↔ ∀ v ∈ l, Clo D v := by
  induction l with
  | nil => simp [CloL]
  | cons v l ih => simp [CloL, ih]
theorem plainL_all {l : List Value} : plainL l = true ↔ ∀ v ∈ l, plain v = true := by
  induction l with
  | nil => simp [plainL]
  | cons v l ih => simp [plainL, ih]
theorem mv_agg (ρ : Ren) (cs : Array Value) : mv ρ (.agg cs) = .agg (cs.map (mv ρ)) := by
  obtain ⟨l⟩ := cs
  simp [mv, mvL_map]
theorem mv_tuple (ρ : Ren) (cs : Array Value) : mv ρ (.tuple cs) = .tuple (cs.map (mv ρ)) := by
  obtain ⟨l⟩ := cs
  simp [mv, mvL_map]
theorem mv_func (ρ : Ren) (g : Fn) (p q : Array Value) : mv ρ (.func g p q) = .func (mvFn ρ.f g) (p.map (mv ρ)) (q.map (mv ρ)) := by
  obtain ⟨p⟩ := p; obtain ⟨q⟩ := q
  simp [mv, mvL_map]
theorem Clo_agg {D : Nat → Prop} {cs : Array Value} : Clo D (.agg cs) ↔ ∀ v ∈ cs.toList, Clo D v := by
  obtain ⟨l⟩ := cs
  simp [Clo, CloL_all]
theorem Clo_tuple {D : Nat → Prop} {cs : Array Value} : Clo D (.tuple cs) ↔ ∀ v ∈ cs.toList, Clo D v := by
  obtain ⟨l⟩ := cs
  simp [Clo, CloL_all]

mutual
theorem mv_plain (ρ : Ren) : ∀ v : Value, plain v = true → mv ρ v = v
  | .bool _, _ => rfl
  | .int _ _, _ => rfl
  | .float _ _, _ => rfl
  | .complex _ _ _, _ => rfl
  | .string _, _ => rfl
  | .pointer none, _ => rfl
  | .pointer (some _), h => by simp [plain] at h
  | .slice none _ _, _ => rfl
  | .slice (some _) _ _, h => by simp [plain] at h
  | .map none, _ => rfl
  | .map (some _), h => by simp [plain] at h
  | .chan none, _ => rfl
  | .chan (some _), h => by simp [plain] at h
  | .func g ⟨p⟩ ⟨q⟩, h => by
    simp only [plain, Bool.and_eq_true] at h
    have hg : mvFn ρ.f g = g := by cases g <;> simp_all [mvFn]
    simp [mv, hg, mvL_plain ρ p h.1.2, mvL_plain ρ q h.2]
  | .nilFunc, _ => rfl
  | .iface t v, h => by
    simp only [plain] at h
    simp [mv, mv_plain ρ v h]
  | .nilIface, _ => rfl
  | .agg ⟨cs⟩, h => by
    simp only [plain] at h
    simp [mv, mvL_plain ρ cs h]
  | .tuple ⟨vs⟩, h => by
    simp only [plain] at h
    simp [mv, mvL_plain ρ vs h]
theorem mvL_plain (ρ : Ren) : ∀ l : List Value, plainL l = true → mvL ρ l = l
  | [], _ => rfl
  | v :: l, h => by
    simp only [plainL, Bool.and_eq_true] at h
    simp [mvL, mv_plain ρ v h.1, mvL_plain ρ l h.2]
end

mutual
theorem Clo_plain (D : Nat → Prop) : ∀ v : Value, plain v = true → Clo D v
  | .bool _, _ => trivial
  | .int _ _, _ => trivial
  | .float _ _, _ => trivial
  | .complex _ _ _, _ => trivial
  | .string _, _ => trivial
  | .pointer none, _ => trivial
  | .pointer (some _), h => by simp [plain] at h
  | .slice none _ _, _ => trivial
  | .slice (some _) _ _, h => by simp [plain] at h
  | .map none, _ => trivial
  | .map (some _), h => by simp [plain] at h
  | .chan none, _ => trivial
  | .chan (some _), _ => trivial
  | .func g ⟨p⟩ ⟨q⟩, h => by
    simp only [plain, Bool.and_eq_true] at h
    refine ⟨?_, CloL_plain D p h.1.2, CloL_plain D q h.2⟩
    cases g <;> simp_all
  | .nilFunc, _ => trivial
  | .iface t v, h => by
    simp only [plain] at h
    exact Clo_plain D v h
  | .nilIface, _ => trivial
  | .agg ⟨cs⟩, h => by
    simp only [plain] at h
    exact CloL_plain D cs h
  | .tuple ⟨vs⟩, h => by
    simp only [plain] at h
    exact CloL_plain D vs h
theorem CloL_plain (D : Nat → Prop) : ∀ l : List Value, plainL l = true → CloL D l
  | [], _ => trivial
  | v :: l, h => by
    simp only [plainL, Bool.and_eq_true] at h
    exact ⟨Clo_plain D v h.1, CloL_plain D l h.2⟩
end

mutual
theorem Clo_mono {D D' : Nat → Prop} (h : ∀ k, D k → D' k) : ∀ v : Value, Clo D v → Clo D' v
  | .bool _, _ => trivial
  | .int _ _, _ => trivial
  | .float _ _, _ => trivial
  | .complex _ _ _, _ => trivial
  | .string _, _ => trivial
  | .pointer none, _ => trivial
  | .pointer (some _), c => ⟨h _ c.1, c.2⟩
  | .slice none _ _, _ => trivial
  | .slice (some _) _ _, c => h _ c
  | .map none, _ => trivial
  | .map (some _), c => h _ c
  | .chan none, _ => trivial
  | .chan (some _), _ => trivial
  | .func g ⟨p⟩ ⟨q⟩, c => ⟨by
      have := c.1
      cases g <;> simp_all, CloL_mono h p c.2.1, CloL_mono h q c.2.2⟩
  | .nilFunc, _ => trivial
  | .iface t v, c => Clo_mono h v c
  | .nilIface, _ => trivial
  | .agg ⟨cs⟩, c => CloL_mono h cs c
  | .tuple ⟨vs⟩, c => CloL_mono h vs c
theorem CloL_mono {D D' : Nat → Prop} (h : ∀ k, D k → D' k) : ∀ l : List Value, CloL D l → CloL D' l
  | [], _ => trivial
  | v :: l, c => ⟨Clo_mono h v c.1, CloL_mono h l c.2⟩
end

mutual
theorem mv_ext {D : Nat → Prop} {ρ ρ' : Ren} (ho : ρ'.o = ρ.o) (h : ∀ k, D k → ρ'.f k = ρ.f k ∧ ρ'.x k = ρ.x k ∧ ρ'.s k = ρ.s k) : ∀ v : Value, Clo D v → mv ρ' v = mv ρ v
  | .bool _, _ => rfl
  | .int _ _, _ => rfl
  | .float _ _, _ => rfl
  | .complex _ _ _, _ => rfl
  | .string _, _ => rfl
  | .pointer none, _ => rfl
  | .pointer (some a), c => by simp [mv, (h _ c.1).1, (h _ c.1).2.2]
  | .slice none _ _, _ => rfl
  | .slice (some a) _ _, c => by simp [mv, soff, scap, (h _ c).1, (h _ c).2.1, (h _ c).2.2]
  | .map none, _ => rfl
  | .map (some _), c => by simp [mv, (h _ c).1]
  | .chan none, _ => rfl
  | .chan (some _), _ => by simp [mv, ho]
  | .func g ⟨p⟩ ⟨q⟩, c => by
    have hg : mvFn ρ'.f g = mvFn ρ.f g := by
      have := c.1
      cases g <;> simp_all [mvFn]
    simp [mv, hg, mvL_ext ho h p c.2.1, mvL_ext ho h q c.2.2]
  | .nilFunc, _ => rfl
  | .iface t v, c => by simp [mv, mv_ext ho h v c]
  | .nilIface, _ => rfl
  | .agg ⟨cs⟩, c => by simp [mv, mvL_ext ho h cs c]
  | .tuple ⟨vs⟩, c => by simp [mv, mvL_ext ho h vs c]
theorem mvL_ext {D : Nat → Prop} {ρ ρ' : Ren} (ho : ρ'.o = ρ.o) (h : ∀ k, D k → ρ'.f k = ρ.f k ∧ ρ'.x k = ρ.x k ∧ ρ'.s k = ρ.s k) : ∀ l : List Value, CloL D l → mvL ρ' l = mvL ρ l
  | [], _ => rfl
  | v :: l, c => by simp [mvL, mv_ext ho h v c.1, mvL_ext ho h l c.2]
end

/-! ### The plain heap: a tree by the digits of a block's number -/
/-- What a block holds: a row of cells (el: it may have cells to spare behind them), a map, the record of a loop over a function, the block for a loop's deferred calls (none), the state of a range over a string or a map; dead: nobody may look at it any more. -/
inductive CB where
  | row (c : List Value) (e : TypeId) (el : Bool)
  | map (es : List (Value × Value × Nat)) (clock : Nat)
  | loop (l : Loop)
  | dfr
  | iter (s : ByteArray) (pos : Nat)
  | miter (map : Option Nat) (since : Nat) (seen : Array Nat) (stepped : Nat)
  | dead

inductive Tr (α : Type) where
  | e
  | nd (v : Option α) (l r : Tr α)

/-- Number 0 lies at the root; the odd numbers to the left, the even ones to the right. -/
def Tr.get {α : Type} : Tr α → Nat → Option α
  | .e, _ => none
  | .nd v l r, n => match n with
    | 0 => v
    | n + 1 => match Nat.mod n 2 with
      | 0 => l.get (Nat.div n 2)
      | _ + 1 => r.get (Nat.div n 2)
def Tr.set {α : Type} : Tr α → Nat → α → Tr α
  | .e, _, b => .nd (some b) .e .e
  | .nd v l r, n, b => match n with
    | 0 => .nd (some b) l r
    | n + 1 => match Nat.mod n 2 with
      | 0 => .nd v (l.set (Nat.div n 2) b) r
      | _ + 1 => .nd v l (r.set (Nat.div n 2) b)
theorem Tr.get_succ {α : Type} (v : Option α) (l r : Tr α) (n : Nat) : (Tr.nd v l r).get (n + 1) = if n % 2 = 0 then l.get (n / 2) else r.get (n / 2) := by
  show (match n % 2 with | 0 => l.get (n / 2) | _ + 1 => r.get (n / 2)) = _
  cases n % 2 <;> rfl
theorem Tr.set_succ {α : Type} (v : Option α) (l r : Tr α) (n : Nat) (b : α) : (Tr.nd v l r).set (n + 1) b = if n % 2 = 0 then .nd v (l.set (n / 2) b) r else .nd v l (r.set (n / 2) b) := by
  show (match n % 2 with | 0 => Tr.nd v (l.set (n / 2) b) r | _ + 1 => .nd v l (r.set (n / 2) b)) = _
  cases n % 2 <;> rfl
theorem Tr.get_zero {α : Type} (v : Option α) (l r : Tr α) : (Tr.nd v l r).get 0 = v := rfl
theorem Tr.set_zero {α : Type} (v : Option α) (l r : Tr α) (b : α) : (Tr.nd v l r).set 0 b = .nd (some b) l r := rfl
/-- The places 0 to n - 1 are there, and no others. -/
def Tr.Full {α : Type} : Tr α → Nat → Prop
  | .e, n => n = 0
  | .nd _ l r, n => ∃ m, n = m + 1 ∧ l.Full ((m + 1) / 2) ∧ r.Full (m / 2)
theorem Tr.get_set {α : Type} {t : Tr α} : ∀ {n : Nat}, t.Full n → ∀ (k j : Nat), k ≤ n → ∀ b, (t.set k b).get j = if j = k then some b else t.get j := by
  induction t with
  | e =>
    intro n hf k j hk b
    have hn : n = 0 := hf
    obtain rfl : k = 0 := by omega
    cases j with
    | zero => rfl
    | succ j =>
      have h : (Tr.nd (some b) .e .e : Tr α).get (j + 1) = none := by rw [Tr.get_succ]; split <;> rfl
      simpa [Tr.set, Tr.get] using h
  | nd v l r hl hr =>
    intro n hf k j hk b
    obtain ⟨m, rfl, h1, h2⟩ := hf
    cases k with
    | zero => cases j <;> simp [Tr.set_zero, Tr.get_zero, Tr.get_succ]
    | succ k =>
      cases j with
      | zero =>
        rw [Tr.set_succ]
        split <;> simp [Tr.get_zero]
      | succ j =>
        by_cases p : k % 2 = 0 <;> by_cases q : j % 2 = 0 <;> simp only [Tr.set_succ, Tr.get_succ, p, q, if_true, if_false]
        · rw [hl h1 (k / 2) (j / 2) (by omega) b]
          by_cases e : j = k
          · subst e; simp
          · rw [if_neg (by omega), if_neg (by omega)]
        · rw [if_neg (by omega)]
        · rw [if_neg (by omega)]
        · rw [hr h2 (k / 2) (j / 2) (by omega) b]
          by_cases e : j = k
          · subst e; simp
          · rw [if_neg (by omega), if_neg (by omega)]
theorem Tr.full_set {α : Type} {t : Tr α} : ∀ {n : Nat}, t.Full n → ∀ (k : Nat) (b : α), k < n → (t.set k b).Full n := by
  induction t with
  | e =>
    intro n hf k b hk
    have hn : n = 0 := hf
    omega
  | nd v l r hl hr =>
    intro n hf k b hk
    obtain ⟨m, rfl, h1, h2⟩ := hf
    cases k with
    | zero => exact ⟨m, rfl, h1, h2⟩
    | succ k =>
      rw [Tr.set_succ]
      split
      · exact ⟨m, rfl, hl h1 _ b (by omega), h2⟩
      · exact ⟨m, rfl, h1, hr h2 _ b (by omega)⟩
theorem Tr.full_push {α : Type} {t : Tr α} : ∀ {n : Nat}, t.Full n → ∀ b : α, (t.set n b).Full (n + 1) := by
  induction t with
  | e =>
    intro n hf b
    have hn : n = 0 := hf
    subst hn
    exact ⟨0, rfl, rfl, rfl⟩
  | nd v l r hl hr =>
    intro n hf b
    obtain ⟨m, rfl, h1, h2⟩ := hf
    rw [Tr.set_succ]
    split
    · rename_i p
      refine ⟨m + 1, rfl, ?_, ?_⟩
      · have := hl h1 b
        rw [show (m + 1) / 2 = m / 2 by omega] at this
        rw [show (m + 1 + 1) / 2 = m / 2 + 1 by omega]
        exact this
      · rw [show (m + 1) / 2 = m / 2 by omega]; exact h2
    · rename_i p
      refine ⟨m + 1, rfl, ?_, ?_⟩
      · rw [show (m + 1 + 1) / 2 = (m + 1) / 2 by omega]; exact h1
      · have := hr h2 b
        rw [show (m + 1) / 2 = m / 2 + 1 by omega]
        exact this

/-- A plain heap: how many blocks it has, and these from 'base' on (those below are not seen); no block from sz on or below 'wm' has been written since wm was last laid. -/
structure CH where
  sz : Nat
  wm : Nat
  base : Nat
  t : Tr CB
def CH.empty : CH := ⟨0, 0, 0, .e⟩
def CH.get : CH → Nat → Option CB
  | ⟨_, _, base, t⟩, k => match base with
    | 0 => t.get k
    | b + 1 => if k < b + 1 then none else t.get (k - (b + 1))
theorem CH.get_def (N : CH) (k : Nat) : N.get k = if k < N.base then none else N.t.get (k - N.base) := by
  obtain ⟨sz, wm, base, t⟩ := N
  cases base with
  | zero => show t.get k = if k < 0 then none else t.get (k - 0); simp
  | succ b => rfl
def CH.set (N : CH) (k : Nat) (b : CB) : CH := ⟨N.sz, if k < N.wm then k else N.wm, N.base, N.t.set (k - N.base) b⟩
def CH.push : CH → CB → CH
  | ⟨sz, wm, base, t⟩, b => ⟨Nat.succ sz, wm, base, t.set (Nat.sub sz base) b⟩
def CH.wset : CH → Nat → CB → Option CH
  | ⟨sz, wm, base, t⟩, k, b => if k < wm then some ⟨sz, k, base, t.set (Nat.sub k base) b⟩ else some ⟨sz, wm, base, t.set (Nat.sub k base) b⟩
theorem CH.push_def (N : CH) (b : CB) : N.push b = ⟨N.sz + 1, N.wm, N.base, N.t.set (N.sz - N.base) b⟩ := by cases N; rfl
theorem CH.wset_def (N : CH) (k : Nat) (b : CB) : N.wset k b = if k < N.wm then some ⟨N.sz, k, N.base, N.t.set (k - N.base) b⟩ else some ⟨N.sz, N.wm, N.base, N.t.set (k - N.base) b⟩ := by cases N; rfl
/-- There is room for a block. (There always is.) -/
def CH.fits (_ : CH) : Prop := True
instance (N : CH) : Decidable N.fits := .isTrue trivial
structure CH.Ok (N : CH) : Prop where
  le : N.base ≤ N.sz
  full : N.t.Full (N.sz - N.base)
theorem CH.ok_empty : CH.empty.Ok := ⟨Nat.le_refl _, rfl⟩
theorem CH.wset_some {N N' : CH} {k : Nat} {b : CB} (h : N.wset k b = some N') : True ∧ N' = N.set k b := by
  rw [CH.wset_def] at h
  split at h
  · rename_i hk; cases h; exact ⟨trivial, by simp [CH.set, hk]⟩
  · rename_i hk; cases h; exact ⟨trivial, by simp [CH.set, hk]⟩
theorem CH.base_le {N : CH} {k : Nat} {b : CB} (h : N.get k = some b) : N.base ≤ k := by
  rw [CH.get_def] at h
  split at h
  · cases h
  · omega
theorem CH.get_set {N : CH} (hN : N.Ok) {k : Nat} (hb : N.base ≤ k) (hk : k < N.sz) (j : Nat) (b : CB) : (N.set k b).get j = if j = k then some b else N.get j := by
  rw [CH.get_def, CH.get_def]
  show (if j < N.base then none else (N.t.set (k - N.base) b).get (j - N.base)) = if j = k then some b else if j < N.base then none else N.t.get (j - N.base)
  by_cases hj : j < N.base
  · rw [if_pos hj, if_neg (by omega), if_pos hj]
  · rw [if_neg hj, if_neg hj, Tr.get_set hN.full _ _ (by omega)]
    by_cases e : j = k
    · subst e; simp
    · rw [if_neg (by omega), if_neg e]
theorem CH.get_set_other {N : CH} (hN : N.Ok) {k j : Nat} (hb : N.base ≤ k) (hk : k < N.sz) (h : k ≠ j) (b : CB) : (N.set k b).get j = N.get j := by
  rw [CH.get_set hN hb hk, if_neg (Ne.symm h)]
theorem CH.get_push {N : CH} (hN : N.Ok) (j : Nat) (b : CB) : (N.push b).get j = if j = N.sz then some b else N.get j := by
  have := hN.le
  rw [CH.get_def, CH.get_def, CH.push_def]
  show (if j < N.base then none else (N.t.set (N.sz - N.base) b).get (j - N.base)) = if j = N.sz then some b else if j < N.base then none else N.t.get (j - N.base)
  by_cases hj : j < N.base
  · rw [if_pos hj, if_neg (by omega), if_pos hj]
  · rw [if_neg hj, if_neg hj, Tr.get_set hN.full _ _ (by omega)]
    by_cases e : j = N.sz
    · subst e; simp
    · rw [if_neg (by omega), if_neg e]
theorem CH.get_push_same {N : CH} (hN : N.Ok) (b : CB) : (N.push b).get N.sz = some b := by rw [CH.get_push hN, if_pos rfl]
theorem CH.get_push_other {N : CH} (hN : N.Ok) {j : Nat} (hj : j < N.sz) (b : CB) : (N.push b).get j = N.get j := by rw [CH.get_push hN, if_neg (by omega)]
theorem CH.ok_set {N : CH} (hN : N.Ok) {k : Nat} (hb : N.base ≤ k) (hk : k < N.sz) (b : CB) : (N.set k b).Ok := by
  have := hN.le
  exact ⟨hN.le, Tr.full_set hN.full _ _ (show k - N.base < N.sz - N.base by omega)⟩
theorem CH.ok_push {N : CH} (hN : N.Ok) (b : CB) : (N.push b).Ok := by
  have := hN.le
  rw [CH.push_def]
  refine ⟨show N.base ≤ N.sz + 1 by omega, ?_⟩
  have h := Tr.full_push hN.full b
  rw [show N.sz - N.base + 1 = N.sz + 1 - N.base by omega] at h
  exact h
theorem CH.set_wm (N : CH) (k : Nat) (b : CB) : (N.set k b).wm ≤ N.wm ∧ (N.set k b).wm ≤ k := by
  simp only [CH.set]
  split <;> omega

end Go.Eng
