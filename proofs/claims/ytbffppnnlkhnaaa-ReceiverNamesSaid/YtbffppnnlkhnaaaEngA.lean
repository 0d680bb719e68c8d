/-
  The engine, part A: values under a renaming of blocks, a plain heap, and what it means that a plain heap stands for a part of the model's memory.
-/
import Derived.Calls
import Derived.Orders
import Derived.KernelRfl
import Derived.Laws.World
namespace Go.Eng

/-! ### Values -/
def mvFn (f : Nat → Nat) : Fn → Fn
  | .yield l => .yield (f l)
  | g => g

/-- A renaming: the model's block of a plain one (f), at which of its cells the plain one begins (s), and how many elements more it has to spare (x). -/
structure Ren where
  f : Nat → Nat
  x : Nat → Nat
  s : Nat → Nat

/-- A slice's place: a spot 't' says that its cells begin t / 2 further on, if there is anything to spare (such a slice is empty). -/
def soff (ρ : Ren) (a : Addr) : Nat := (match a.spot with | none => a.off | some t => if ρ.x a.block = 0 then a.off else a.off + t / 2) + ρ.s a.block
/-- A slice's capacity: without a spot, or at an odd one, the elements to spare belong to it. -/
def scap (ρ : Ren) (a : Addr) (c : Nat) : Nat := match a.spot with | none => c + ρ.x a.block | some t => if t % 2 = 0 then c else c + ρ.x a.block

mutual
/-- A value with its blocks renamed. -/
def mv (ρ : Ren) : Value → Value
  | .pointer (some a) => .pointer (some { a with block := ρ.f a.block, off := a.off + ρ.s a.block })
  | .slice (some a) l c => .slice (some ⟨ρ.f a.block, soff ρ a, none⟩) l (scap ρ a c)
  | .map (some r) => .map (some (ρ.f r))
  | .chan (some r) => .chan (some (ρ.f r))
  | .func g ⟨p⟩ ⟨q⟩ => .func (mvFn ρ.f g) ⟨mvL ρ p⟩ ⟨mvL ρ q⟩
  | .iface t v => .iface t (mv ρ v)
  | .agg ⟨cs⟩ => .agg ⟨mvL ρ cs⟩
  | .tuple ⟨vs⟩ => .tuple ⟨mvL ρ vs⟩
  | v => v
def mvL (ρ : Ren) : List Value → List Value
  | [] => []
  | v :: vs => mv ρ v :: mvL ρ vs
end

mutual
/-- All blocks that a value names have the property; an address outside slices bears no spot. -/
def Clo (D : Nat → Prop) : Value → Prop
  | .pointer (some a) => D a.block ∧ a.spot = none
  | .slice (some a) _ _ => D a.block
  | .map (some r) => D r
  | .chan (some r) => D r
  | .func g ⟨p⟩ ⟨q⟩ => (match g with | .yield l => D l | _ => True) ∧ CloL D p ∧ CloL D q
  | .iface _ v => Clo D v
  | .agg ⟨cs⟩ => CloL D cs
  | .tuple ⟨vs⟩ => CloL D vs
  | _ => True
def CloL (D : Nat → Prop) : List Value → Prop
  | [] => True
  | v :: vs => Clo D v ∧ CloL D vs
end

mutual
/-- No block is named at all. -/
def plain : Value → Bool
  | .pointer (some _) => false
  | .slice (some _) _ _ => false
  | .map (some _) => false
  | .chan (some _) => false
  | .func g ⟨p⟩ ⟨q⟩ => (match g with | .yield _ => false | _ => true) && plainL p && plainL q
  | .iface _ v => plain v
  | .agg ⟨cs⟩ => plainL cs
  | .tuple ⟨vs⟩ => plainL vs
  | _ => true
def plainL : List Value → Bool
  | [] => true
  | v :: vs => plain v && plainL vs
end

theorem mvL_map (ρ : Ren) (l : List Value) : mvL ρ l = l.map (mv ρ) := by
  induction l with
  | nil => rfl
  | cons v l ih => simp [mvL, ih]
theorem CloL_all {D : Nat → Prop} {l : List Value} : CloL D l ↔ ∀ v ∈ l, Clo D v := by
  induction l with
  | nil => simp [CloL]
  | cons v l ih => simp [CloL, ih]
theorem plainL_all {l : List Value} : plainL l = true ↔ ∀ v ∈ l, plain v = true := by
  induction l with
  | nil => simp [plainL]
  | cons v l ih => simp [plainL, ih]
theorem mv_agg (ρ : Ren) (cs : Array Value) : mv ρ (.agg cs) = .agg (cs.map (mv ρ)) := by
  obtain ⟨l⟩ := cs
  simp [mv, mvL_map]
theorem mv_tuple (ρ : Ren) (cs : Array Value) : mv ρ (.tuple cs) = .tuple (cs.map (mv ρ)) := by
  obtain ⟨l⟩ := cs
  simp [mv, mvL_map]
theorem mv_func (ρ : Ren) (g : Fn) (p q : Array Value) : mv ρ (.func g p q) = .func (mvFn ρ.f g) (p.map (mv ρ)) (q.map (mv ρ)) := by
  obtain ⟨p⟩ := p; obtain ⟨q⟩ := q
  simp [mv, mvL_map]
theorem Clo_agg {D : Nat → Prop} {cs : Array Value} : Clo D (.agg cs) ↔ ∀ v ∈ cs.toList, Clo D v := by
  obtain ⟨l⟩ := cs
  simp [Clo, CloL_all]
theorem Clo_tuple {D : Nat → Prop} {cs : Array Value} : Clo D (.tuple cs) ↔ ∀ v ∈ cs.toList, Clo D v := by
  obtain ⟨l⟩ := cs
  simp [Clo, CloL_all]

mutual
theorem mv_plain (ρ : Ren) : ∀ v : Value, plain v = true → mv ρ v = v
  | .bool _, _ => rfl
  | .int _ _, _ => rfl
  | .float _ _, _ => rfl
  | .complex _ _ _, _ => rfl
  | .string _, _ => rfl
  | .pointer none, _ => rfl
  | .pointer (some _), h => by simp [plain] at h
  | .slice none _ _, _ => rfl
  | .slice (some _) _ _, h => by simp [plain] at h
  | .map none, _ => rfl
  | .map (some _), h => by simp [plain] at h
  | .chan none, _ => rfl
  | .chan (some _), h => by simp [plain] at h
  | .func g ⟨p⟩ ⟨q⟩, h => by
    simp only [plain, Bool.and_eq_true] at h
    have hg : mvFn ρ.f g = g := by cases g <;> simp_all [mvFn]
    simp [mv, hg, mvL_plain ρ p h.1.2, mvL_plain ρ q h.2]
  | .nilFunc, _ => rfl
  | .iface t v, h => by
    simp only [plain] at h
    simp [mv, mv_plain ρ v h]
  | .nilIface, _ => rfl
  | .agg ⟨cs⟩, h => by
    simp only [plain] at h
    simp [mv, mvL_plain ρ cs h]
  | .tuple ⟨vs⟩, h => by
    simp only [plain] at h
    simp [mv, mvL_plain ρ vs h]
theorem mvL_plain (ρ : Ren) : ∀ l : List Value, plainL l = true → mvL ρ l = l
  | [], _ => rfl
  | v :: l, h => by
    simp only [plainL, Bool.and_eq_true] at h
    simp [mvL, mv_plain ρ v h.1, mvL_plain ρ l h.2]
end

mutual
theorem Clo_plain (D : Nat → Prop) : ∀ v : Value, plain v = true → Clo D v
  | .bool _, _ => trivial
  | .int _ _, _ => trivial
  | .float _ _, _ => trivial
  | .complex _ _ _, _ => trivial
  | .string _, _ => trivial
  | .pointer none, _ => trivial
  | .pointer (some _), h => by simp [plain] at h
  | .slice none _ _, _ => trivial
  | .slice (some _) _ _, h => by simp [plain] at h
  | .map none, _ => trivial
  | .map (some _), h => by simp [plain] at h
  | .chan none, _ => trivial
  | .chan (some _), h => by simp [plain] at h
  | .func g ⟨p⟩ ⟨q⟩, h => by
    simp only [plain, Bool.and_eq_true] at h
    refine ⟨?_, CloL_plain D p h.1.2, CloL_plain D q h.2⟩
    cases g <;> simp_all
  | .nilFunc, _ => trivial
  | .iface t v, h => by
    simp only [plain] at h
    exact Clo_plain D v h
  | .nilIface, _ => trivial
  | .agg ⟨cs⟩, h => by
    simp only [plain] at h
    exact CloL_plain D cs h
  | .tuple ⟨vs⟩, h => by
    simp only [plain] at h
    exact CloL_plain D vs h
theorem CloL_plain (D : Nat → Prop) : ∀ l : List Value, plainL l = true → CloL D l
  | [], _ => trivial
  | v :: l, h => by
    simp only [plainL, Bool.and_eq_true] at h
    exact ⟨Clo_plain D v h.1, CloL_plain D l h.2⟩
end

mutual
theorem Clo_mono {D D' : Nat → Prop} (h : ∀ k, D k → D' k) : ∀ v : Value, Clo D v → Clo D' v
  | .bool _, _ => trivial
  | .int _ _, _ => trivial
  | .float _ _, _ => trivial
  | .complex _ _ _, _ => trivial
  | .string _, _ => trivial
  | .pointer none, _ => trivial
  | .pointer (some _), c => ⟨h _ c.1, c.2⟩
  | .slice none _ _, _ => trivial
  | .slice (some _) _ _, c => h _ c
  | .map none, _ => trivial
  | .map (some _), c => h _ c
  | .chan none, _ => trivial
  | .chan (some _), c => h _ c
  | .func g ⟨p⟩ ⟨q⟩, c => ⟨by
      have := c.1
      cases g <;> simp_all, CloL_mono h p c.2.1, CloL_mono h q c.2.2⟩
  | .nilFunc, _ => trivial
  | .iface t v, c => Clo_mono h v c
  | .nilIface, _ => trivial
  | .agg ⟨cs⟩, c => CloL_mono h cs c
  | .tuple ⟨vs⟩, c => CloL_mono h vs c
theorem CloL_mono {D D' : Nat → Prop} (h : ∀ k, D k → D' k) : ∀ l : List Value, CloL D l → CloL D' l
  | [], _ => trivial
  | v :: l, c => ⟨Clo_mono h v c.1, CloL_mono h l c.2⟩
end

mutual
theorem mv_ext {D : Nat → Prop} {ρ ρ' : Ren} (h : ∀ k, D k → ρ'.f k = ρ.f k ∧ ρ'.x k = ρ.x k ∧ ρ'.s k = ρ.s k) : ∀ v : Value, Clo D v → mv ρ' v = mv ρ v
  | .bool _, _ => rfl
  | .int _ _, _ => rfl
  | .float _ _, _ => rfl
  | .complex _ _ _, _ => rfl
  | .string _, _ => rfl
  | .pointer none, _ => rfl
  | .pointer (some a), c => by simp [mv, (h _ c.1).1, (h _ c.1).2.2]
  | .slice none _ _, _ => rfl
  | .slice (some a) _ _, c => by simp [mv, soff, scap, (h _ c).1, (h _ c).2.1, (h _ c).2.2]
  | .map none, _ => rfl
  | .map (some _), c => by simp [mv, (h _ c).1]
  | .chan none, _ => rfl
  | .chan (some _), c => by simp [mv, (h _ c).1]
  | .func g ⟨p⟩ ⟨q⟩, c => by
    have hg : mvFn ρ'.f g = mvFn ρ.f g := by
      have := c.1
      cases g <;> simp_all [mvFn]
    simp [mv, hg, mvL_ext h p c.2.1, mvL_ext h q c.2.2]
  | .nilFunc, _ => rfl
  | .iface t v, c => by simp [mv, mv_ext h v c]
  | .nilIface, _ => rfl
  | .agg ⟨cs⟩, c => by simp [mv, mvL_ext h cs c]
  | .tuple ⟨vs⟩, c => by simp [mv, mvL_ext h vs c]
theorem mvL_ext {D : Nat → Prop} {ρ ρ' : Ren} (h : ∀ k, D k → ρ'.f k = ρ.f k ∧ ρ'.x k = ρ.x k ∧ ρ'.s k = ρ.s k) : ∀ l : List Value, CloL D l → mvL ρ' l = mvL ρ l
  | [], _ => rfl
  | v :: l, c => by simp [mvL, mv_ext h v c.1, mvL_ext h l c.2]
end

/-! ### The plain heap: a tree by the digits of a block's number -/
/-- What a block holds: a row of cells (el: it may have cells to spare behind them), a map, the record of a loop over a function, the block for a loop's deferred calls (none), the state of a range over a string or a map; dead: nobody may look at it any more. -/
inductive CB where
  | row (c : List Value) (e : TypeId) (el : Bool)
  | map (es : List (Value × Value × Nat)) (clock : Nat)
  | loop (l : Loop)
  | dfr
  | iter (s : ByteArray) (pos : Nat)
  | miter (map : Option Nat) (since : Nat) (seen : Array Nat) (stepped : Nat)
  | dead

inductive Tr where
  | lf (v : Option CB)
  | nd (l r : Tr)

def depth : Nat := 14
def Tr.empty : Nat → Tr
  | 0 => .lf none
  | d + 1 => .nd (Tr.empty d) (Tr.empty d)
def Tr.get : Tr → Nat → Option CB
  | .lf v, _ => v
  | .nd l r, n => if n % 2 = 0 then l.get (n / 2) else r.get (n / 2)
def Tr.set : Tr → Nat → CB → Tr
  | .lf _, _, b => .lf (some b)
  | .nd l r, n, b => if n % 2 = 0 then .nd (l.set (n / 2) b) r else .nd l (r.set (n / 2) b)
inductive Tr.Full : Nat → Tr → Prop
  | lf {v : Option CB} : Full 0 (.lf v)
  | nd {d : Nat} {l r : Tr} : Full d l → Full d r → Full (d + 1) (.nd l r)
theorem Tr.get_set_same (t : Tr) (n : Nat) (b : CB) : (t.set n b).get n = some b := by
  induction t generalizing n with
  | lf v => rfl
  | nd l r hl hr =>
    by_cases h : n % 2 = 0 <;> simp [Tr.set, Tr.get, h, hl, hr]
theorem Tr.get_set_other {d : Nat} {t : Tr} (hf : t.Full d) : ∀ (n m : Nat), n < 2 ^ d → m < 2 ^ d → n ≠ m → ∀ b, (t.set n b).get m = t.get m := by
  induction hf with
  | lf => intro n m hn hm hne; simp at hn hm; omega
  | @nd d l r _ _ hl hr =>
    intro n m hn hm hne b
    have hn2 : n / 2 < 2 ^ d := by rw [Nat.pow_succ] at hn; omega
    have hm2 : m / 2 < 2 ^ d := by rw [Nat.pow_succ] at hm; omega
    by_cases h : n % 2 = 0 <;> by_cases h' : m % 2 = 0 <;> simp only [Tr.set, Tr.get, h, h', if_true, if_false]
    · exact hl _ _ hn2 hm2 (by omega) b
    · exact hr _ _ hn2 hm2 (by omega) b
theorem Tr.full_set {d : Nat} {t : Tr} (hf : t.Full d) : ∀ (n : Nat) (b : CB), (t.set n b).Full d := by
  induction hf with
  | lf => intro n b; exact .lf
  | nd h1 h2 i1 i2 =>
    intro n b
    simp only [Tr.set]
    split
    · exact .nd (i1 _ _) h2
    · exact .nd h1 (i2 _ _)
theorem Tr.full_empty : ∀ d, (Tr.empty d).Full d
  | 0 => .lf
  | d + 1 => .nd (Tr.full_empty d) (Tr.full_empty d)
theorem Tr.get_empty : ∀ d n, (Tr.empty d).get n = none
  | 0, _ => rfl
  | d + 1, n => by
    simp only [Tr.empty, Tr.get]
    split <;> exact Tr.get_empty d _

/-- A plain heap: how many blocks it has, and these; what lies below 'wm' is not to be written. -/
structure CH where
  sz : Nat
  wm : Nat
  t : Tr
def CH.empty : CH := ⟨0, 0, Tr.empty depth⟩
def CH.get (N : CH) (k : Nat) : Option CB := N.t.get k
def CH.set (N : CH) (k : Nat) (b : CB) : CH := ⟨N.sz, N.wm, N.t.set k b⟩
def CH.push (N : CH) (b : CB) : CH := ⟨N.sz + 1, N.wm, N.t.set N.sz b⟩
def CH.wset (N : CH) (k : Nat) (b : CB) : Option CH := if N.wm ≤ k then some (N.set k b) else none
structure CH.Ok (N : CH) : Prop where
  full : N.t.Full depth
  le : N.sz ≤ 2 ^ depth
theorem CH.ok_empty : CH.empty.Ok := ⟨Tr.full_empty _, by simp [CH.empty]⟩
theorem CH.wset_some {N N' : CH} {k : Nat} {b : CB} (h : N.wset k b = some N') : N.wm ≤ k ∧ N' = N.set k b := by
  unfold CH.wset at h
  split at h
  · cases h; exact ⟨by assumption, rfl⟩
  · cases h
theorem CH.get_set_same (N : CH) (k : Nat) (b : CB) : (N.set k b).get k = some b := Tr.get_set_same ..
theorem CH.get_set_other {N : CH} (hN : N.Ok) {k j : Nat} (hk : k < N.sz) (hj : j < N.sz) (h : k ≠ j) (b : CB) : (N.set k b).get j = N.get j :=
  Tr.get_set_other hN.full k j (Nat.lt_of_lt_of_le hk hN.le) (Nat.lt_of_lt_of_le hj hN.le) h b
theorem CH.get_push_same (N : CH) (b : CB) : (N.push b).get N.sz = some b := Tr.get_set_same ..
theorem CH.get_push_other {N : CH} (hN : N.Ok) (hsz : N.sz < 2 ^ depth) {j : Nat} (hj : j < N.sz) (b : CB) : (N.push b).get j = N.get j :=
  Tr.get_set_other hN.full N.sz j hsz (by omega) (by omega) b
theorem CH.ok_set {N : CH} (hN : N.Ok) (k : Nat) (b : CB) : (N.set k b).Ok := ⟨Tr.full_set hN.full _ _, hN.le⟩
theorem CH.ok_push {N : CH} (hN : N.Ok) (hsz : N.sz < 2 ^ depth) (b : CB) : (N.push b).Ok := ⟨Tr.full_set hN.full _ _, hsz⟩

end Go.Eng
