/-
  The engine, part B: what it means that a plain heap stands for a part of the model's memory, and what each change of memory does to that.
-/
import Derived.Test.YtjpmmfahmhnpeaaGreatDoorEngA
import Derived.Laws.Cells
import Derived.Laws.IdiomCopy
namespace Go.Eng
set_option linter.unusedSimpArgs false
set_option linter.unusedVariables false

structure Env extends Ren where
  D : Nat → Prop

def Env.m (E : Env) (v : Value) : Value := mv E.toRen v
def Env.add (E : Env) (k b y z : Nat) : Env := { E with f := fun j => if j = k then b else E.f j, x := fun j => if j = k then y else E.x j, s := fun j => if j = k then z else E.s j, D := fun j => j = k ∨ E.D j }

theorem Env.add_f (E : Env) (k b y z : Nat) : (E.add k b y z).f k = b := by simp [Env.add]
theorem Env.add_x (E : Env) (k b y z : Nat) : (E.add k b y z).x k = y := by simp [Env.add]
theorem Env.add_s (E : Env) (k b y z : Nat) : (E.add k b y z).s k = z := by simp [Env.add]
theorem Env.add_D (E : Env) (k b y z : Nat) : (E.add k b y z).D k := by simp [Env.add]
theorem Env.add_old (E : Env) {k b y z j : Nat} (h : j ≠ k) : (E.add k b y z).f j = E.f j ∧ (E.add k b y z).x j = E.x j ∧ (E.add k b y z).s j = E.s j := by simp [Env.add, h]

/-- So many of the first blocks are the package's variables. -/
def LIM : Nat := 32
def CB.isDead : CB → Bool
  | .dead => true
  | _ => false

def mvE (E : Env) (e : Value × Value × Nat) : MapEntry := { key := e.1, val := E.m e.2.1, born := e.2.2 }

/-- No cell below n is marked. -/
def Unm (n lo hi : Nat) : Prop := lo ≤ hi ∧ ∀ i, i < n → ¬ (lo ≤ i ∧ i < hi)
/-- A plain block and a block of the model's. -/
def BlkRel (P : Program) (E : Env) (k : Nat) (b : CB) (o : Option Obj) : Prop :=
  match b with
  | .row c e el => (∀ v ∈ c, Clo E.D v) ∧ ∃ pre sp lo hi, o = some (.cells (pre ++ (c.map E.m ++ sp)).toArray e (lo, hi)) ∧ pre.length = E.s k ∧
      Unm (pre.length + (c.length + sp.length)) lo hi ∧ (if el = true then sp.length = E.x k * P.cellsOf e else sp = [] ∧ E.x k = 0) ∧ (k < LIM → lo = 0 ∧ hi = 0)
  | .map es clock => (∀ e ∈ es, plain e.1 = true ∧ Clo E.D e.2.1) ∧ o = some (.map (es.map (mvE E)).toArray clock)
  | .loop l => ((∀ v ∈ l.tmps.toList, Clo E.D v) ∧ E.D l.defers) ∧ o = some (.loop { l with tmps := l.tmps.map E.m, defers := E.f l.defers })
  | .dfr => o = some (.deferred (some []))
  | .iter s pos => o = some (.stringIter s pos) ∧ E.s k = 0
  | .miter r a b c => (∀ k, r = some k → E.D k) ∧ o = some (.mapIter (r.map E.f) a b c) ∧ E.s k = 0
  | .dead => True

def CH.live (N : CH) (k : Nat) : Prop := ∃ b, N.get k = some b ∧ b.isDead = false

def Env.Gl (E : Env) : Prop := ∀ g, g < LIM → E.D g ∧ E.f g = g ∧ E.s g = 0
structure Rel (P : Program) (E : Env) (N : CH) (w : World) : Prop where
  ok : N.Ok
  gl : E.Gl
  dom : ∀ k, E.D k → k < N.sz
  inj : ∀ k j, E.D k → E.D j → N.live k → N.live j → E.f k = E.f j → k = j
  blk : ∀ k b, E.D k → N.get k = some b → BlkRel P E k b w.heap[E.f k]?

/-- From one state to a later one. -/
structure Ext (E : Env) (N : CH) (w : World) (E' : Env) (N' : CH) (w' : World) : Prop where
  mono : ∀ k, E.D k → E'.D k ∧ E'.f k = E.f k ∧ E'.x k = E.x k ∧ E'.s k = E.s k
  new : ∀ k, E'.D k → E.D k ∨ (N.sz ≤ k ∧ k < N'.sz)
  all : ∀ k, N.sz ≤ k → k < N'.sz → E'.D k
  size : N.sz ≤ N'.sz
  hsize : w.heap.size ≤ w'.heap.size
  fresh : ∀ k, E'.D k → E.D k ∨ w.heap.size ≤ E'.f k ∨ ∃ j, E.D j ∧ N.live j ∧ ¬ N'.live j ∧ E'.f k = E.f j
  dead : ∀ k, E.D k → N'.live k → N.live k
  wm : N'.wm ≤ N.wm
  keep : ∀ k, k < N.sz → k < N'.wm → N'.get k = N.get k
  frame : ∀ b, b < w.heap.size → (∀ k, E.D k → N.live k → E.f k ≠ b) → w'.heap[b]? = w.heap[b]?
  os : w'.os = w.os
  tape : w'.tape = w.tape
  output : w'.output = w.output
  op : E'.o = E.o

theorem Ext.refl (E : Env) (N : CH) (w : World) : Ext E N w E N w :=
  ⟨fun _ h => ⟨h, rfl, rfl, rfl⟩, fun _ h => .inl h, fun _ h1 h2 => by omega, Nat.le_refl _, Nat.le_refl _, fun _ h => .inl h, fun _ _ h => h, Nat.le_refl _, fun _ _ _ => rfl, fun _ _ _ => rfl, rfl, rfl, rfl, rfl⟩

theorem Ext.trans {E E1 E2 : Env} {N N1 N2 : CH} {w w1 w2 : World} (h : Ext E N w E1 N1 w1) (g : Ext E1 N1 w1 E2 N2 w2) : Ext E N w E2 N2 w2 where
  mono k hk := by
    obtain ⟨a, b, c, d⟩ := h.mono k hk
    obtain ⟨a', b', c', d'⟩ := g.mono k a
    exact ⟨a', b'.trans b, c'.trans c, d'.trans d⟩
  new k hk := by
    rcases g.new k hk with h1 | ⟨h1, h2⟩
    · rcases h.new k h1 with h3 | ⟨h3, h4⟩
      · exact .inl h3
      · exact .inr ⟨h3, Nat.lt_of_lt_of_le h4 g.size⟩
    · exact .inr ⟨Nat.le_trans h.size h1, h2⟩
  all k h1 h2 := by
    rcases Nat.lt_or_ge k N1.sz with h3 | h3
    · exact (g.mono k (h.all k h1 h3)).1
    · exact g.all k h3 h2
  size := Nat.le_trans h.size g.size
  hsize := Nat.le_trans h.hsize g.hsize
  fresh k hk := by
    rcases g.fresh k hk with h1 | h1 | ⟨j, h1, h2, hx, h3⟩
    · rcases h.fresh k h1 with h4 | h4 | ⟨j, h4, h5, hy, h6⟩
      · exact .inl h4
      · exact .inr (.inl (by rw [(g.mono k h1).2.1]; exact h4))
      · exact .inr (.inr ⟨j, h4, h5, fun hl => hy (g.dead j (h.mono j h4).1 hl), by rw [(g.mono k h1).2.1]; exact h6⟩)
    · exact .inr (.inl (Nat.le_trans h.hsize h1))
    · rcases h.fresh j h1 with h4 | h4 | ⟨i, h4, h5, hy, h6⟩
      · exact .inr (.inr ⟨j, h4, h.dead j h4 h2, hx, by rw [h3, (h.mono j h4).2.1]⟩)
      · exact .inr (.inl (by rw [h3]; exact h4))
      · exact .inr (.inr ⟨i, h4, h5, fun hl => hy (g.dead i (h.mono i h4).1 hl), by rw [h3, h6]⟩)
  dead k hk hl := h.dead k hk (g.dead k (h.mono k hk).1 hl)
  wm := Nat.le_trans g.wm h.wm
  keep k hk hw := (g.keep k (Nat.lt_of_lt_of_le hk h.size) hw).trans (h.keep k hk (Nat.lt_of_lt_of_le hw g.wm))
  frame b hb hn := by
    rw [g.frame b (Nat.lt_of_lt_of_le hb h.hsize) ?_, h.frame b hb hn]
    intro k hk hl e
    rcases h.fresh k hk with h1 | h1 | ⟨j, h1, h2, _, h3⟩
    · exact hn k h1 (h.dead k h1 hl) (by rw [← (h.mono k h1).2.1]; exact e)
    · omega
    · exact hn j h1 h2 (by rw [← h3]; exact e)
  os := g.os.trans h.os
  tape := g.tape.trans h.tape
  output := g.output.trans h.output
  op := g.op.trans h.op

theorem Ext.m {E E' : Env} {N N' : CH} {w w' : World} (h : Ext E N w E' N' w') {v : Value} (hv : Clo E.D v) : E'.m v = E.m v :=
  mv_ext h.op (fun k hk => (h.mono k hk).2) v hv
theorem Ext.clo {E E' : Env} {N N' : CH} {w w' : World} (h : Ext E N w E' N' w') {v : Value} (hv : Clo E.D v) : Clo E'.D v :=
  Clo_mono (fun k hk => (h.mono k hk).1) v hv

theorem Rel.row {P : Program} {E : Env} {N : CH} {w : World} (R : Rel P E N w) {k : Nat} (hk : E.D k) {c : List Value} {e : TypeId} {el : Bool} (hg : N.get k = some (.row c e el)) :
    (∀ v ∈ c, Clo E.D v) ∧ ∃ pre sp lo hi, w.heap[E.f k]? = some (.cells (pre ++ (c.map E.m ++ sp)).toArray e (lo, hi)) ∧ pre.length = E.s k ∧
      Unm (pre.length + (c.length + sp.length)) lo hi ∧ (if el = true then sp.length = E.x k * P.cellsOf e else sp = [] ∧ E.x k = 0) ∧ (k < LIM → lo = 0 ∧ hi = 0) := R.blk k _ hk hg

theorem Rel.cell {P : Program} {E : Env} {N : CH} {w : World} (R : Rel P E N w) {k : Nat} (hk : E.D k) {c : List Value} {e : TypeId} {el : Bool} (hg : N.get k = some (.row c e el))
    {i o : Nat} {v : Value} (hi : c[i]? = some v) (ho : o = i + E.s k) : w.cell? ⟨E.f k, o, none⟩ = some (E.m v) := by
  obtain ⟨_, pre, sp, lo, hi', hh, hp, _⟩ := R.row hk hg
  subst ho
  have hl : i < c.length := by
    rcases Nat.lt_or_ge i c.length with h | h
    · exact h
    · simp [List.getElem?_eq_none h] at hi
  have h1 : (pre ++ (c.map E.m ++ sp))[i + E.s k]? = some (E.m v) := by
    rw [List.getElem?_append_right (by omega), hp, Nat.add_sub_cancel, List.getElem?_append_left (by simpa using hl), List.getElem?_map, hi]
    rfl
  simp only [World.cell?, hh, List.getElem?_toArray, h1]
  simp
theorem Rel.clo {P : Program} {E : Env} {N : CH} {w : World} (R : Rel P E N w) {k : Nat} (hk : E.D k) {c : List Value} {e : TypeId} {el : Bool} (hg : N.get k = some (.row c e el))
    {i : Nat} {v : Value} (hi : c[i]? = some v) : Clo E.D v := (R.row hk hg).1 v (List.mem_of_getElem? hi)
theorem Rel.free {P : Program} {E : Env} {N : CH} {w : World} (R : Rel P E N w) {k : Nat} (hk : E.D k) {c : List Value} {e : TypeId} {el : Bool} (hg : N.get k = some (.row c e el))
    {i o : Nat} (hi : i < c.length) (ho : o = i + E.s k) : w.frozen? ⟨E.f k, o, none⟩ = false := by
  obtain ⟨_, pre, sp, lo, hi', hh, hp, hf, _⟩ := R.row hk hg
  subst ho
  have := hf.2 (i + E.s k) (by omega)
  simp only [World.frozen?, hh, Bool.and_eq_false_iff, decide_eq_false_iff_not]
  rcases Nat.lt_or_ge (i + E.s k) lo with h | h
  · exact .inl (by omega)
  · exact .inr (fun h2 => this ⟨h, h2⟩)

/-! ### Cells written -/
def wr : List Value → Nat → List Value → List Value
  | l, _, [] => l
  | l, o, v :: r => wr (l.set o v) (o + 1) r
theorem wr_length : ∀ (vs l : List Value) (o : Nat), (wr l o vs).length = l.length
  | [], _, _ => rfl
  | v :: r, l, o => by simp [wr, wr_length r]
theorem wr_nil : ∀ (vs : List Value) (o : Nat), wr [] o vs = []
  | [], _ => rfl
  | v :: r, o => by rw [wr, List.set_nil, wr_nil r]
theorem wr_cons (a : Value) : ∀ (vs l : List Value) (o : Nat), wr (a :: l) (o + 1) vs = a :: wr l o vs
  | [], _, _ => rfl
  | v :: r, l, o => by rw [wr, List.set_cons_succ, wr_cons a r, wr]
/-- The same in one pass. -/
def wrf : List Value → Nat → List Value → List Value
  | [], _, _ => []
  | a :: l, o, vs => match o with
    | 0 => match vs with
      | [] => a :: l
      | v :: r => v :: wrf l 0 r
    | o + 1 => a :: wrf l o vs
theorem wrf_eq : ∀ (l vs : List Value) (o : Nat), wrf l o vs = wr l o vs
  | [], vs, o => by rw [wr_nil]; rfl
  | a :: l, vs, 0 => by
    cases vs with
    | nil => rfl
    | cons v r =>
      show v :: wrf l 0 r = wr ((a :: l).set 0 v) (0 + 1) r
      rw [List.set_cons_zero, wr_cons, wrf_eq]
  | a :: l, vs, o + 1 => by
    show a :: wrf l o vs = _
    rw [wr_cons, wrf_eq]
theorem wr_map (g : Value → Value) : ∀ (vs l : List Value) (o : Nat), (wr l o vs).map g = wr (l.map g) o (vs.map g)
  | [], _, _ => rfl
  | v :: r, l, o => by simp [wr, wr_map g r, List.map_set]
theorem wr_append : ∀ (vs l sp : List Value) (o : Nat), o + vs.length ≤ l.length → wr (l ++ sp) o vs = wr l o vs ++ sp
  | [], _, _, _, _ => rfl
  | v :: r, l, sp, o, h => by
    simp only [List.length_cons] at h
    simp only [wr]
    rw [List.set_append_left _ _ (by omega), wr_append r _ _ _ (by simp; omega)]
theorem wr_pre : ∀ (vs pre l : List Value) (o : Nat), wr (pre ++ l) (o + pre.length) vs = pre ++ wr l o vs
  | [], _, _, _ => rfl
  | v :: r, pre, l, o => by
    simp only [wr]
    rw [List.set_append_right _ _ (by omega), Nat.add_sub_cancel, show o + pre.length + 1 = o + 1 + pre.length by omega, wr_pre r]
theorem wr_mem : ∀ (vs l : List Value) (o : Nat) (v : Value), v ∈ wr l o vs → v ∈ l ∨ v ∈ vs
  | [], _, _, _, h => .inl h
  | u :: r, l, o, v, h => by
    rcases wr_mem r _ _ v h with h1 | h1
    · rcases List.mem_or_eq_of_mem_set h1 with h2 | h2
      · exact .inl h2
      · exact .inr (by simp [h2])
    · exact .inr (by simp [h1])

theorem heap_setCells (b : Nat) : ∀ (vs : List Value) (o : Nat) (cur : List Value) (e : TypeId) (fz : Nat × Nat) (w : World), w.heap[b]? = some (.cells cur.toArray e fz) →
    (w.setCells b o vs).heap[b]? = some (.cells (wr cur o vs).toArray e fz)
  | [], _, _, _, _, _, h => h
  | v :: r, o, cur, e, fz, w, h => by
    rw [World.setCells, wr]
    apply heap_setCells b r
    simp [World.setCell, Array.getElem?_modify, h]
theorem heap_setCells_other (b j : Nat) (hj : j ≠ b) : ∀ (vs : List Value) (o : Nat) (w : World), (w.setCells b o vs).heap[j]? = w.heap[j]?
  | [], _, _ => rfl
  | v :: r, o, w => by
    rw [World.setCells, heap_setCells_other b j hj r]
    simp [World.setCell, Array.getElem?_modify, Ne.symm hj]
theorem size_setCells (b : Nat) : ∀ (vs : List Value) (o : Nat) (w : World), (w.setCells b o vs).heap.size = w.heap.size
  | [], _, _ => rfl
  | v :: r, o, w => by rw [World.setCells, size_setCells b r]; simp
theorem rest_setCells (b : Nat) : ∀ (vs : List Value) (o : Nat) (w : World), (w.setCells b o vs).os = w.os ∧ (w.setCells b o vs).tape = w.tape ∧ (w.setCells b o vs).output = w.output
  | [], _, _ => ⟨rfl, rfl, rfl⟩
  | v :: r, o, w => by
    rw [World.setCells]
    exact rest_setCells b r _ _

theorem CH.live_lt {N : CH} {k : Nat} (h : N.live k) : N.base ≤ k := by
  obtain ⟨b, hb, _⟩ := h
  exact CH.base_le hb
theorem CH.get_dom {N : CH} (hN : N.Ok) {k j : Nat} (hb : N.base ≤ k) (hk : k < N.sz) (b : CB) : (N.set k b).get j = if j = k then some b else N.get j := CH.get_set hN hb hk j b

/-- One block's contents change, in the plain heap and in the model's. -/
theorem Rel.change {P : Program} {E : Env} {N : CH} {w w' : World} (R : Rel P E N w) {k : Nat} (hk : E.D k) (hwm : True) (hl : N.live k) {b : CB}
    (hb : BlkRel P E k b w'.heap[E.f k]?) (hother : ∀ j, j ≠ E.f k → w'.heap[j]? = w.heap[j]?) (hs : w'.heap.size = w.heap.size)
    (hos : w'.os = w.os) (htape : w'.tape = w.tape) (hout : w'.output = w.output) :
    Rel P E (N.set k b) w' ∧ Ext E N w E (N.set k b) w' := by
  have hlive : ∀ j, E.D j → (N.set k b).live j → N.live j := by
    intro j hj ⟨b', hb', hd⟩
    rw [CH.get_dom R.ok (CH.live_lt hl) (R.dom k hk)] at hb'
    by_cases h : j = k
    · subst h; exact hl
    · rw [if_neg h] at hb'; exact ⟨b', hb', hd⟩
  refine ⟨⟨CH.ok_set R.ok (CH.live_lt hl) (R.dom k hk) _, R.gl, R.dom, fun i j hi hj h1 h2 => R.inj i j hi hj (hlive i hi h1) (hlive j hj h2), ?_⟩,
    fun _ h => ⟨h, rfl, rfl, rfl⟩, fun _ h => .inl h, fun _ h1 h2 => by have : k < N.sz := R.dom k hk; exact absurd h2 (Nat.not_lt.2 h1), Nat.le_refl _, by omega, fun _ h => .inl h, hlive, (CH.set_wm N k b).1, fun j hj hw => CH.get_set_other R.ok (CH.live_lt hl) (R.dom k hk) (by have := (CH.set_wm N k b).2; omega) b, ?_, hos, htape, hout, rfl⟩
  · intro j b' hj hb'
    rw [CH.get_dom R.ok (CH.live_lt hl) (R.dom k hk)] at hb'
    by_cases h : j = k
    · subst h
      rw [if_pos rfl] at hb'
      cases hb'
      exact hb
    · rw [if_neg h] at hb'
      cases hd : b'.isDead with
      | true => cases b' <;> simp [CB.isDead] at hd; trivial
      | false =>
        have : E.f j ≠ E.f k := fun e => h (R.inj j k hj hk ⟨b', hb', hd⟩ hl e)
        rw [hother _ this]
        exact R.blk j b' hj hb'
  · intro b' _ hn
    exact hother b' (fun e => hn k hk hl e.symm)

theorem Rel.write {P : Program} {E : Env} {N : CH} {w : World} (R : Rel P E N w) {k : Nat} (hk : E.D k) (hwm : True) {c : List Value} {e : TypeId} {el : Bool} (hg : N.get k = some (.row c e el))
    {o o' : Nat} {vs : List Value} (ho : o + vs.length ≤ c.length) (ho' : o' = o + E.s k) (hv : ∀ v ∈ vs, Clo E.D v) :
    Rel P E (N.set k (.row (wr c o vs) e el)) (w.setCells (E.f k) o' (vs.map E.m)) ∧ Ext E N w E (N.set k (.row (wr c o vs) e el)) (w.setCells (E.f k) o' (vs.map E.m)) := by
  obtain ⟨hc, pre, sp, lo, hi, hh, hp, hf, hel⟩ := R.row hk hg
  obtain ⟨r1, r2, r3⟩ := rest_setCells (E.f k) (vs.map E.m) o' w
  refine R.change hk hwm ⟨_, hg, rfl⟩ ?_ (fun j hj => heap_setCells_other _ _ hj _ _ _) (size_setCells _ _ _ _) r1 r2 r3
  refine ⟨?_, pre, sp, lo, hi, ?_, hp, ?_, hel⟩
  · intro v hm
    rcases wr_mem _ _ _ _ hm with h | h
    · exact hc v h
    · exact hv v h
  · rw [heap_setCells _ _ _ _ _ _ _ hh, ho', ← hp, wr_pre, wr_append _ _ _ _ (by simpa using ho), wr_map]
  · rw [wr_length]; exact hf

theorem Rel.clo_lt {P : Program} {E : Env} {N : CH} {w : World} (R : Rel P E N w) {b y z : Nat} {v : Value} (hv : Clo E.D v) : (E.add N.sz b y z).m v = E.m v :=
  mv_ext (ρ := E.toRen) (ρ' := (E.add N.sz b y z).toRen) rfl (fun k hk => by
    have := R.dom k hk
    have hne : k ≠ N.sz := by omega
    simp [Env.add, hne]) v hv

theorem BlkRel.mono {P : Program} {E E' : Env} {k : Nat} {b : CB} {o : Option Obj} (h : BlkRel P E k b o) (hD : ∀ j, E.D j → E'.D j ∧ E'.f j = E.f j) (hm : ∀ v, Clo E.D v → E'.m v = E.m v) (hx : E'.x k = E.x k) (hs : E'.s k = E.s k) : BlkRel P E' k b o := by
  cases b with
  | dead => trivial
  | dfr => exact h
  | iter s pos => exact ⟨h.1, by rw [hs]; exact h.2⟩
  | row c e el =>
    obtain ⟨h1, pre, sp, lo, hi, h2, hp, h3, h4⟩ := h
    refine ⟨fun v hv => Clo_mono (fun j hj => (hD j hj).1) v (h1 v hv), pre, sp, lo, hi, ?_, by rw [hs]; exact hp, h3, by rw [hx]; exact h4⟩
    rw [h2, List.map_congr_left fun v hv => hm v (h1 v hv)]
  | map es cl =>
    obtain ⟨h1, h2⟩ := h
    refine ⟨fun e he => ⟨(h1 e he).1, Clo_mono (fun j hj => (hD j hj).1) _ (h1 e he).2⟩, ?_⟩
    rw [h2]
    congr 3
    exact (List.map_congr_left fun e he => by simp only [mvE, hm _ (h1 e he).2]).symm
  | loop l =>
    obtain ⟨⟨h1, h2⟩, h3⟩ := h
    refine ⟨⟨fun v hv => Clo_mono (fun j hj => (hD j hj).1) v (h1 v hv), (hD _ h2).1⟩, ?_⟩
    rw [h3, (hD _ h2).2]
    have : l.tmps.map E'.m = l.tmps.map E.m := by
      apply Array.ext'
      rw [Array.toList_map, Array.toList_map]
      exact (List.map_congr_left fun v hv => hm v (h1 v hv))
    rw [this]
  | miter r a b c =>
    obtain ⟨h1, h2, h3⟩ := h
    refine ⟨fun k hk => (hD k (h1 k hk)).1, ?_, by rw [hs]; exact h3⟩
    rw [h2]
    cases r with
    | none => rfl
    | some k => simp [(hD k (h1 k rfl)).2]
theorem BlkRel.some {P : Program} {E : Env} {k : Nat} {b : CB} (h : BlkRel P E k b none) : b.isDead = true := by
  cases b with
  | row c e el => obtain ⟨_, _, _, _, _, h', _⟩ := h; cases h'
  | map es cl => obtain ⟨_, h'⟩ := h; cases h'
  | loop l => obtain ⟨_, h'⟩ := h; cases h'
  | dfr => cases h
  | iter s pos => obtain ⟨h', _⟩ := h; cases h'
  | miter r a b c => obtain ⟨_, h', _⟩ := h; cases h'
  | dead => rfl

theorem Rel.lim {P : Program} {E : Env} {N : CH} {w : World} (R : Rel P E N w) : LIM ≤ N.sz := by
  have := R.dom 31 (R.gl 31 (by decide)).1
  exact this
theorem Env.Gl.add {E : Env} {n : Nat} (h : E.Gl) (hd : ∀ k, E.D k → k < n) {b y z : Nat} : (E.add n b y z).Gl := fun g hg => by
  obtain ⟨h1, h2⟩ := h g hg
  have h3 := hd g h1
  obtain ⟨e1, _, e3⟩ := E.add_old (b := b) (y := y) (z := z) (j := g) (k := n) (by omega)
  exact ⟨.inr h1, e1.trans h2.1, e3.trans h2.2⟩
/-- A block is laid, in the plain heap and in the model's. -/
theorem Rel.new {P : Program} {E : Env} {N : CH} {w : World} (R : Rel P E N w) (hsz : N.fits) {b : CB} {o : Obj} {y z : Nat}
    (hb : BlkRel P (E.add N.sz w.heap.size y z) N.sz b (some o)) :
    Rel P (E.add N.sz w.heap.size y z) (N.push b) (w.alloc o) ∧ Ext E N w (E.add N.sz w.heap.size y z) (N.push b) (w.alloc o) := by
  have hget : ∀ j, E.D j → (N.push b).get j = N.get j := fun j hj => CH.get_push_other R.ok (R.dom j hj) b
  have hne : ∀ j, E.D j → j ≠ N.sz := fun j hj => by have := R.dom j hj; omega
  have hlt : ∀ j, E.D j → N.live j → E.f j < w.heap.size := by
    intro j hj ⟨b', hb', hd⟩
    have hB := R.blk j b' hj hb'
    rcases Nat.lt_or_ge (E.f j) w.heap.size with h | h
    · exact h
    · rw [Array.getElem?_eq_none h] at hB
      rw [hB.some] at hd
      cases hd
  have hlive : ∀ j, E.D j → (N.push b).live j → N.live j := fun j hj ⟨b', hb', hd⟩ => ⟨b', by rw [hget j hj] at hb'; exact hb', hd⟩
  have hfold : ∀ j, j < w.heap.size → (w.alloc o).heap[j]? = w.heap[j]? := by
    intro j hj
    show (w.heap.push o)[j]? = _
    rw [Array.getElem?_push, if_neg (by omega)]
  refine ⟨⟨CH.ok_push R.ok b, R.gl.add R.dom, ?_, ?_, ?_⟩, ?_, ?_, fun k h1 h2 => .inl (by have : k < N.sz + 1 := h2; omega), ?_, ?_, ?_, ?_, Nat.le_refl _, fun j hj _ => CH.get_push_other R.ok hj b, ?_, rfl, rfl, rfl, rfl⟩
  · intro k hk
    rcases hk with rfl | hk
    · exact Nat.lt_succ_self _
    · exact Nat.lt_succ_of_lt (R.dom k hk)
  · intro k j hk hj lk lj e
    rcases hk with rfl | hk <;> rcases hj with rfl | hj
    · rfl
    · have := hlt j hj (hlive j hj lj)
      simp [Env.add, hne j hj] at e
      omega
    · have := hlt k hk (hlive k hk lk)
      simp [Env.add, hne k hk] at e
      omega
    · simp [Env.add, hne k hk, hne j hj] at e
      exact R.inj k j hk hj (hlive k hk lk) (hlive j hj lj) e
  · intro k b' hk hb'
    rcases hk with rfl | hk
    · rw [CH.get_push_same R.ok] at hb'
      cases hb'
      rw [Env.add_f]
      show BlkRel P _ _ _ (w.heap.push o)[w.heap.size]?
      simpa using hb
    · rw [hget k hk] at hb'
      have hB := R.blk k b' hk hb'
      obtain ⟨hf, hx, hs⟩ := E.add_old (b := w.heap.size) (y := y) (z := z) (hne k hk)
      rw [hf]
      cases hd : b'.isDead with
      | true => cases b' <;> simp [CB.isDead] at hd; trivial
      | false =>
        rw [hfold _ (hlt k hk ⟨b', hb', hd⟩)]
        exact hB.mono (fun j hj => ⟨.inr hj, by simp [Env.add, hne j hj]⟩) (fun v hv => R.clo_lt hv) hx hs
  · intro k hk
    exact ⟨.inr hk, E.add_old (hne k hk)⟩
  · intro k hk
    rcases hk with rfl | hk
    · exact .inr ⟨Nat.le_refl _, Nat.lt_succ_self _⟩
    · exact .inl hk
  · exact Nat.le_succ _
  · simp
  · intro k hk
    rcases hk with rfl | hk
    · exact .inr (.inl (by rw [Env.add_f]; exact Nat.le_refl _))
    · exact .inl hk
  · exact hlive
  · intro j hj _
    exact hfold j hj

theorem Rel.newRow {P : Program} {E : Env} {N : CH} {w : World} (R : Rel P E N w) (hsz : N.fits) {c : List Value} (e : TypeId) (hc : ∀ v ∈ c, Clo E.D v) :
    Rel P (E.add N.sz w.heap.size 0 0) (N.push (.row c e false)) (w.alloc (.cells (c.map E.m).toArray e)) ∧
      Ext E N w (E.add N.sz w.heap.size 0 0) (N.push (.row c e false)) (w.alloc (.cells (c.map E.m).toArray e)) := by
  refine R.new hsz ⟨fun v hv => Clo_mono (fun _ h => .inr h) v (hc v hv), [], [], 0, 0, ?_, by simp [Env.add], ⟨Nat.le_refl _, by simp⟩, by simp [Env.add], fun _ => ⟨rfl, rfl⟩⟩
  rw [List.map_congr_left fun v hv => R.clo_lt (hc v hv)]
  simp
theorem Rel.newElastic {P : Program} {E : Env} {N : CH} {w : World} (R : Rel P E N w) (hsz : N.fits) {c : List Value} (e : TypeId) (hc : ∀ v ∈ c, Clo E.D v) (sp : List Value) (y lo hi : Nat)
    (hy : sp.length = y * P.cellsOf e) (hf : Unm (c.length + sp.length) lo hi) :
    Rel P (E.add N.sz w.heap.size y 0) (N.push (.row c e true)) (w.alloc (.cells (c.map E.m ++ sp).toArray e (lo, hi))) ∧
      Ext E N w (E.add N.sz w.heap.size y 0) (N.push (.row c e true)) (w.alloc (.cells (c.map E.m ++ sp).toArray e (lo, hi))) := by
  refine R.new hsz ⟨fun v hv => Clo_mono (fun _ h => .inr h) v (hc v hv), [], sp, lo, hi, ?_, by simp [Env.add], by simpa using hf, by simp [Env.add, hy], fun h => absurd R.lim (Nat.not_le.2 h)⟩
  rw [List.map_congr_left fun v hv => R.clo_lt (hc v hv)]
  simp
theorem Rel.newMap {P : Program} {E : Env} {N : CH} {w : World} (R : Rel P E N w) (hsz : N.fits) :
    Rel P (E.add N.sz w.heap.size 0 0) (N.push (.map [] 0)) (w.alloc (.map #[] 0)) ∧ Ext E N w (E.add N.sz w.heap.size 0 0) (N.push (.map [] 0)) (w.alloc (.map #[] 0)) :=
  R.new hsz ⟨by simp, by simp⟩

theorem Rel.drew {P : Program} {E : Env} {N : CH} {w : World} (R : Rel P E N w) : Rel P E N w.drew ∧ Ext E N w E N w.drew :=
  ⟨⟨R.ok, R.gl, R.dom, R.inj, R.blk⟩, fun _ h => ⟨h, rfl, rfl, rfl⟩, fun _ h => .inl h, fun _ h1 h2 => by omega, Nat.le_refl _, Nat.le_refl _, fun _ h => .inl h, fun _ _ h => h, Nat.le_refl _, fun _ _ _ => rfl, fun _ _ _ => rfl, rfl, rfl, rfl, rfl⟩

end Go.Eng
