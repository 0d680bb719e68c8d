/-
  The engine, part Kd: every order of a region comes to what the text's order comes to.
-/
import Derived.Test.YtoaplpdbmpendaaGreatDoorEngKc
set_option linter.unusedSectionVars false
set_option linter.unusedSimpArgs false
set_option linter.unusedVariables false
namespace Go.Eng
set_option linter.unusedSimpArgs false
set_option linter.unusedVariables false
set_option linter.unusedSectionVars false
variable [Hk]

theorem Vs.trans {O O1 : Nat → Prop} {E E1 E2 : Env} {N N1 N2 : CH} {w w1 w2 : World} (h : Vs O E N w E1 N1 w1) (g : Vs O1 E1 N1 w1 E2 N2 w2) (hO : ∀ b, O b → O1 b) : Vs O E N w E2 N2 w2 := (h.ext.trans g.ext hO).vs
theorem Vs.refl (O : Nat → Prop) (E : Env) (N : CH) (w : World) : Vs O E N w E N w := (ExtC.refl O E N w).vs
theorem Vs.weaken {O O' : Nat → Prop} {E E1 : Env} {N N1 : CH} {w w1 : World} (h : Vs O E N w E1 N1 w1) (hs : ∀ b, O' b → O b) : Vs O' E N w E1 N1 w1 := ⟨h.wx.weaken hs, h.dom, h.size, h.wm, h.keep⟩

/-- A run in the text's order, and what holds of it. (bm i j: i is bound to be before j.) -/
structure Run (P : Program) (ops : Array Oper) (s : Nat → DS) (bm : Nat → Nat → Prop) (n : Nat) : Prop where
  size : n ≤ ops.size
  edge : ∀ j o, ops[j]? = some o → ∀ e ∈ o.after, Region.binds .any e = true → e.on < j
  bms : ∀ i j, j < ops.size → bm i j → ∃ o, ops[j]? = some o ∧ ∃ e ∈ o.after, Region.binds .any e = true ∧ (e.on = i ∨ bm i e.on)
  step : ∀ j o, j < n → ops[j]? = some o → StepFact P ops j o (s j).a (s j).N (s j).kd (s j).v (s (j + 1)).N
  put : ∀ j o, j < n → ops[j]? = some o → (s (j + 1)).a = (s j).a.put o.dst (s j).v
  tmps : ∀ i j x, i < j → j < n → ((dstOf ops i = some x ∧ x ∈ names ops j) ∨ (dstOf ops j = some x ∧ x ∈ names ops i)) → bm i j
  cw : ∀ i j, i < j → j < n → (s i).kd = .w → (s j).kd = .b ∨ bm i j
  cb : ∀ i j, i < j → j < n → (s j).kd = .w → (s i).kd = .b → (s i).N.sz = (s (i + 1)).N.sz ∨ bm i j
  cl : ∀ i p o, i < p → p ≤ n → ops[i]? = some o → (s i).kd = .q → (p = n ∨ (s p).kd = .w) → (∃ u, i < u ∧ u < p ∧ (s u).kd = .w) →
    (∃ u, i < u ∧ u < p ∧ (s u).kd = .w ∧ bm i u) ∨ ((s i).N.sz = (s (i + 1)).N.sz ∧ ∃ G, Loc P ops i o (s i).a (s p).N.guarded (s i).v G ∧ G.sz = (s p).N.sz ∧ (s p).N.sz ≤ G.wm)

section
variable {P : Program} {ops : Array Oper} {s : Nat → DS} {bm : Nat → Nat → Prop} {n : Nat}

theorem Run.op (U : Run P ops s bm n) {j : Nat} (h : j < n) : ∃ o, ops[j]? = some o := ⟨_, Array.getElem?_eq_getElem (Nat.lt_of_lt_of_le h U.size)⟩

theorem Run.virt (U : Run P ops s bm n) {E0 : Env} {w0 : World} (R0 : Rel P E0 (s 0).N w0) (ha0 : (s 0).a.Clo E0.D) : ∀ j, j ≤ n → ∃ E w, Rel P E (s j).N w ∧ (s j).a.Clo E.D ∧ Vs (fun _ => False) E0 (s 0).N w0 E (s j).N w
  | 0, _ => ⟨E0, w0, R0, ha0, Vs.refl _ _ _ _⟩
  | j + 1, h => by
    obtain ⟨E, w, R, ha, V⟩ := U.virt R0 ha0 j (by omega)
    obtain ⟨o, ho⟩ := U.op (show j < n by omega)
    obtain ⟨E', w', R', V', hv, _⟩ := vstep (U.step j o (by omega) ho) R ha
    refine ⟨E', w', R', ?_, V.trans V' (fun _ h => h.elim)⟩
    rw [U.put j o (by omega) ho]
    exact (V'.ext.act ha).2.put _ hv
theorem Run.next (U : Run P ops s bm n) {E0 : Env} {w0 : World} (R0 : Rel P E0 (s 0).N w0) (ha0 : (s 0).a.Clo E0.D) (j : Nat) (h : j < n) :
    (s j).N.sz ≤ (s (j + 1)).N.sz ∧ ((s j).kd ≠ .w → ∀ k, k < (s j).N.sz → (s (j + 1)).N.get k = (s j).N.get k) ∧ (s (j + 1)).N.wm ≤ (s j).N.wm := by
  obtain ⟨E, w, R, ha, V⟩ := U.virt R0 ha0 j (by omega)
  obtain ⟨o, ho⟩ := U.op h
  obtain ⟨E', w', R', V', hv, hk⟩ := vstep (U.step j o (by omega) ho) R ha
  exact ⟨V'.size, hk, V'.wm⟩
theorem Run.mono (U : Run P ops s bm n) {E0 : Env} {w0 : World} (R0 : Rel P E0 (s 0).N w0) (ha0 : (s 0).a.Clo E0.D) (i : Nat) : ∀ d, i + d ≤ n → (s i).N.sz ≤ (s (i + d)).N.sz
  | 0, _ => Nat.le_refl _
  | d + 1, h => Nat.le_trans (U.mono R0 ha0 i d (by omega)) (U.next R0 ha0 (i + d) (by omega)).1
theorem Run.le (U : Run P ops s bm n) {E0 : Env} {w0 : World} (R0 : Rel P E0 (s 0).N w0) (ha0 : (s 0).a.Clo E0.D) {i j : Nat} (h : i ≤ j) (hj : j ≤ n) : (s i).N.sz ≤ (s j).N.sz := by
  have := U.mono R0 ha0 i (j - i) (by omega)
  rwa [show i + (j - i) = j by omega] at this
theorem Run.wms (U : Run P ops s bm n) {E0 : Env} {w0 : World} (R0 : Rel P E0 (s 0).N w0) (ha0 : (s 0).a.Clo E0.D) (i : Nat) : ∀ d, i + d ≤ n → (s (i + d)).N.wm ≤ (s i).N.wm
  | 0, _ => Nat.le_refl _
  | d + 1, h => Nat.le_trans (U.next R0 ha0 (i + d) (by omega)).2.2 (U.wms R0 ha0 i d (by omega))
theorem Run.wle (U : Run P ops s bm n) {E0 : Env} {w0 : World} (R0 : Rel P E0 (s 0).N w0) (ha0 : (s 0).a.Clo E0.D) {i : Nat} (h : i ≤ n) : (s n).N.wm ≤ (s i).N.wm := by
  have := U.wms R0 ha0 i (n - i) (by omega)
  rwa [show i + (n - i) = n by omega] at this
theorem Run.seg (U : Run P ops s bm n) {E0 : Env} {w0 : World} (R0 : Rel P E0 (s 0).N w0) (ha0 : (s 0).a.Clo E0.D) (i : Nat) : ∀ d, i + d ≤ n → (∀ u, i ≤ u → u < i + d → (s u).kd ≠ .w) →
    ∀ k, k < (s i).N.sz → (s (i + d)).N.get k = (s i).N.get k
  | 0, _, _, _, _ => rfl
  | d + 1, h, hu, k, hk => by
    have h1 := (U.next R0 ha0 (i + d) (by omega)).2.1 (hu (i + d) (by omega) (by omega)) k (Nat.lt_of_lt_of_le hk (U.mono R0 ha0 i d (by omega)))
    exact h1.trans (U.seg R0 ha0 i d (by omega) (fun u h1 h2 => hu u h1 (by omega)) k hk)
theorem Run.same (U : Run P ops s bm n) {E0 : Env} {w0 : World} (R0 : Rel P E0 (s 0).N w0) (ha0 : (s 0).a.Clo E0.D) {i j : Nat} (h : i ≤ j) (hj : j ≤ n) (hu : ∀ u, i ≤ u → u < j → (s u).kd ≠ .w)
    {k : Nat} (hk : k < (s i).N.sz) : (s j).N.get k = (s i).N.get k := by
  have := U.seg R0 ha0 i (j - i) (by omega) (fun u h1 h2 => hu u h1 (by omega)) k hk
  rwa [show i + (j - i) = j by omega] at this
theorem Run.wfb (U : Run P ops s bm n) {E0 : Env} {w0 : World} (R0 : Rel P E0 (s 0).N w0) (ha0 : (s 0).a.Clo E0.D) {p : Nat} (hp : p ≤ n) {k : Nat} {b : CB} (hk : E0.D k ∨ (s 0).N.sz ≤ k) (hlt : k < (s p).N.sz)
    (hb : (s p).N.get k = some b) : CBClo (fun k => k < (s p).N.sz) b := by
  obtain ⟨E, w, R, ha, V⟩ := U.virt R0 ha0 p hp
  have hD : E.D k := (V.dom k).2 (hk.imp id fun h => ⟨h, hlt⟩)
  exact (R.blk k b hD hb).clo.mono R.dom
theorem Run.wfa (U : Run P ops s bm n) {E0 : Env} {w0 : World} (R0 : Rel P E0 (s 0).N w0) (ha0 : (s 0).a.Clo E0.D) {p : Nat} (hp : p ≤ n) {u : Value} (hu : u ∈ (s p).a.tmps) : Clo (fun k => k < (s p).N.sz) u := by
  obtain ⟨E, w, R, ha, V⟩ := U.virt R0 ha0 p hp
  exact Clo_mono R.dom u (ha.tmps u hu)
theorem Run.ok (U : Run P ops s bm n) {E0 : Env} {w0 : World} (R0 : Rel P E0 (s 0).N w0) (ha0 : (s 0).a.Clo E0.D) {p : Nat} (hp : p ≤ n) : (s p).N.Ok := by
  obtain ⟨E, w, R, ha, V⟩ := U.virt R0 ha0 p hp
  exact R.ok

/-! ### temporaries -/
/-- The temporaries after the operations of S. -/
structure Tm (ops : Array Oper) (s : Nat → DS) (n : Nat) (S : Nat → Prop) (c : List Value) : Prop where
  len : c.length = (s 0).a.tmps.length
  set : ∀ x i, S i → i < n → dstOf ops i = some x → (∀ i', S i' → i' < n → dstOf ops i' = some x → i' ≤ i) → x < c.length → c[x]? = some (s i).v
  old : ∀ x, (∀ i, S i → i < n → dstOf ops i ≠ some x) → c[x]? = (s 0).a.tmps[x]?
theorem Tm.agree {S S' : Nat → Prop} {c c' : List Value} (h : Tm ops s n S c) (h' : Tm ops s n S' c') {x : Nat} (hs : ∀ i, i < n → dstOf ops i = some x → (S i ↔ S' i)) : c[x]? = c'[x]? := by
  classical
  by_cases hx : x < c.length
  · by_cases hex : ∃ i, S i ∧ i < n ∧ dstOf ops i = some x
    · -- the last of them
      have hmax : ∃ i, (S i ∧ i < n ∧ dstOf ops i = some x) ∧ ∀ i', (S i' ∧ i' < n ∧ dstOf ops i' = some x) → i' ≤ i := by
        have key : ∀ d, (∃ i, i < d ∧ S i ∧ i < n ∧ dstOf ops i = some x) → ∃ i, (i < d ∧ S i ∧ i < n ∧ dstOf ops i = some x) ∧ ∀ i', (i' < d ∧ S i' ∧ i' < n ∧ dstOf ops i' = some x) → i' ≤ i := by
          intro d
          induction d with
          | zero => rintro ⟨i, h, _⟩; omega
          | succ d ih =>
            rintro ⟨i, hi, h1⟩
            by_cases hd : S d ∧ d < n ∧ dstOf ops d = some x
            · exact ⟨d, ⟨by omega, hd⟩, fun i' h => by omega⟩
            · have hne : i ≠ d := fun e => hd (e ▸ h1)
              obtain ⟨m, ⟨hm, hm1⟩, hm2⟩ := ih ⟨i, by omega, h1⟩
              refine ⟨m, ⟨by omega, hm1⟩, fun i' h => ?_⟩
              have hne' : i' ≠ d := fun e => hd (e ▸ h.2)
              exact hm2 i' ⟨by omega, h.2⟩
        obtain ⟨i, hi⟩ := hex
        obtain ⟨m, ⟨_, hm1⟩, hm2⟩ := key n ⟨i, hi.2.1, hi⟩
        exact ⟨m, hm1, fun i' h => hm2 i' ⟨h.2.1, h⟩⟩
      obtain ⟨i, ⟨h1, h2, h3⟩, h4⟩ := hmax
      rw [h.set x i h1 h2 h3 (fun i' a b c => h4 i' ⟨a, b, c⟩) hx]
      rw [h'.set x i ((hs i h2 h3).1 h1) h2 h3 (fun i' a b c => h4 i' ⟨(hs i' b c).2 a, b, c⟩) (by rw [h'.len, ← h.len]; exact hx)]
    · rw [h.old x (fun i a b c => hex ⟨i, a, b, c⟩), h'.old x (fun i a b c => hex ⟨i, (hs i b c).2 a, b, c⟩)]
  · rw [List.getElem?_eq_none (by omega), List.getElem?_eq_none (by rw [h'.len, ← h.len]; omega)]
theorem Tm.put {S : Nat → Prop} {c : List Value} (h : Tm ops s n S c) {j : Nat} (hj : j < n) {o : Oper} (ho : ops[j]? = some o) (hlast : ∀ i, S i → i < n → ∀ x, dstOf ops i = some x → dstOf ops j = some x → i ≤ j) (dm : List DM) :
    Tm ops s n (fun i => S i ∨ i = j) ((⟨c, dm⟩ : CA).put o.dst (s j).v).tmps := by
  have hd : dstOf ops j = o.dst := by simp [dstOf, ho]
  cases hdst : o.dst with
  | none =>
    refine ⟨h.len, fun x i hi hin hx hm hl => ?_, fun x hx => h.old x (fun i a b => hx i (.inl a) b)⟩
    rcases hi with hi | rfl
    · exact h.set x i hi hin hx (fun i' a b d => hm i' (.inl a) b d) hl
    · rw [hd, hdst] at hx; cases hx
  | some y =>
    have hdy : dstOf ops j = some y := by rw [hd, hdst]
    refine ⟨by simp [CA.put, h.len], fun x i hi hin hx hm hl => ?_, fun x hx => ?_⟩
    · simp only [CA.put, List.length_set] at hl
      simp only [CA.put]
      by_cases hxy : y = x
      · subst hxy
        have hij : i = j := by
          have h1 := hm j (.inr rfl) hj hdy
          rcases hi with hi | hi
          · have := hlast i hi hin y hx hdy; omega
          · exact hi
        subst hij
        rw [List.getElem?_set_self hl]
      · rw [List.getElem?_set_ne hxy]
        rcases hi with hi | rfl
        · exact h.set x i hi hin hx (fun i' a b d => hm i' (.inl a) b d) hl
        · rw [hdy] at hx; cases hx; exact absurd rfl hxy
    · have hxy : y ≠ x := fun e => hx j (.inr rfl) hj (by rw [hdy, e])
      simp only [CA.put]
      rw [List.getElem?_set_ne hxy]
      exact h.old x (fun i a b => hx i (.inl a) b)
theorem Run.tm (U : Run P ops s bm n) : ∀ j, j ≤ n → Tm ops s n (fun i => i < j) (s j).a.tmps
  | 0, _ => ⟨rfl, fun x i hi => absurd hi (Nat.not_lt_zero _), fun x _ => rfl⟩
  | j + 1, h => by
    obtain ⟨o, ho⟩ := U.op (show j < n by omega)
    have := (U.tm j (by omega)).put (by omega) ho (fun i hi _ x _ _ => Nat.le_of_lt hi) (s j).a.dm
    rw [U.put j o (by omega) ho]
    refine ⟨this.len, fun x i hi hin hx hm hl => this.set x i ?_ hin hx (fun i' a b d => hm i' ?_ b d) hl, fun x hx => this.old x (fun i a b => hx i ?_ b)⟩
    · have : i < j + 1 := hi
      omega
    · show i' < j + 1
      omega
    · show i < j + 1
      omega

/-! ### sets of operations done -/
def Closed (ops : Array Oper) (S : Nat → Prop) : Prop := ∀ j o, S j → ops[j]? = some o → ∀ e ∈ o.after, Region.binds .any e = true → S e.on
theorem Run.down (U : Run P ops s bm n) {S : Nat → Prop} (hS : Closed ops S) {j : Nat} {o : Oper} (ho : ops[j]? = some o) (hr : ∀ e ∈ o.after, Region.binds .any e = true → S e.on) {i : Nat} (h : bm i j) : S i := by
  have key : ∀ j, j < ops.size → (∀ o, ops[j]? = some o → ∀ e ∈ o.after, Region.binds .any e = true → S e.on) → ∀ i, bm i j → S i := by
    intro j
    induction j using Nat.strongRecOn with
    | _ j ih =>
      intro hj hr i h
      obtain ⟨o, ho, e, he, hb, h1⟩ := U.bms i j hj h
      rcases h1 with rfl | h1
      · exact hr o ho e he hb
      · have hlt := U.edge j o ho e he hb
        exact ih e.on hlt (by omega) (fun o' ho' e' he' hb' => hS e.on o' (hr o ho e he hb) ho' e' he' hb') i h1
  exact key j (Array.getElem?_eq_some_iff.1 ho).1 (fun o' ho' => by rw [ho] at ho'; cases ho'; exact hr) i h
theorem Run.down' (U : Run P ops s bm n) {S : Nat → Prop} (hS : Closed ops S) {i j : Nat} (hj : j < n) (hs : S j) (h : bm i j) : S i := by
  obtain ⟨o, ho⟩ := U.op hj
  exact U.down hS ho (hS j o hs ho) h

/-- q: the first operation of kind w not yet done (n: there is none). -/
structure Nxt (s : Nat → DS) (n : Nat) (S : Nat → Prop) (q : Nat) : Prop where
  le : q ≤ n
  kd : q < n → (s q).kd = .w
  lt : ∀ u, u < n → (s u).kd = .w → (S u ↔ u < q)
theorem first_w (s : Nat → DS) (n : Nat) : ∀ d i, i + d = n → ∃ q, i ≤ q ∧ q ≤ n ∧ (q < n → (s q).kd = .w) ∧ ∀ u, i ≤ u → u < q → (s u).kd ≠ .w
  | 0, i, h => ⟨i, Nat.le_refl _, by omega, fun h' => by omega, fun u h1 h2 => by omega⟩
  | d + 1, i, h => by
    by_cases hk : (s i).kd = .w
    · exact ⟨i, Nat.le_refl _, by omega, fun _ => hk, fun u h1 h2 => by omega⟩
    · obtain ⟨q, h1, h2, h3, h4⟩ := first_w s n d (i + 1) (by omega)
      refine ⟨q, by omega, h2, h3, fun u hu hq => ?_⟩
      by_cases he : u = i
      · subst he; exact hk
      · exact h4 u (by omega) hq

structure Inv (P : Program) (ops : Array Oper) (s : Nat → DS) (n : Nat) (E0 : Env) (w0 : World) (O0 W0 : Nat → Prop) (lo : Nat) (dm : List DM) (S : Nat → Prop) (q : Nat) (E : Env) (M : CH) (w : World) (c : List Value) (O W : Nat → Prop) : Prop where
  own : Own O W lo E M w
  oo : ∀ b, O0 b → O b
  ww : (∀ b, W0 b → W b) ∧ ∀ b, O b → O0 b ∨ w0.heap.size ≤ b
  rel : Rel P E M w
  wx : Wx O0 E0 (s 0).N w0 E M w
  dom : ∀ k, E.D k ↔ E0.D k ∨ ∃ i, S i ∧ i < n ∧ (s i).N.sz ≤ k ∧ k < (s (i + 1)).N.sz
  sz : M.sz = (s n).N.sz
  c1 : ∀ k, E.D k → k < (s q).N.sz → M.get k = (s q).N.get k
  c2 : ∀ k i, E.D k → (s q).N.sz ≤ k → i < n → (s i).N.sz ≤ k → k < (s (i + 1)).N.sz → M.get k = (s (i + 1)).N.get k
  clo : CA.Clo E.D ⟨c, dm⟩
  tm : Tm ops s n S c
  nxt : Nxt s n S q

end
end Go.Eng
namespace Go.Eng
open Go.Conc (G)
set_option linter.unusedSimpArgs false
set_option linter.unusedVariables false
set_option linter.unusedSectionVars false
variable [Hk]

section
variable {P : Program} {ops : Array Oper} {s : Nat → DS} {bm : Nat → Nat → Prop} {n : Nat}

theorem looks_names {o : Oper} {j x : Nat} (ho : ops[j]? = some o) (h : x ∈ o.looksAt ops) : x ∈ names ops j := by simp [names, ho, h]
theorem dst_names {o : Oper} {j x : Nat} (ho : ops[j]? = some o) (h : dstOf ops j = some x) : x ∈ names ops j := by
  have : o.dst = some x := by simpa [dstOf, ho] using h
  simp [names, ho, this]

/-- An operation, with what it sees, inside of the whole. -/
theorem mid (U : Run P ops s bm n) {E0 : Env} {w0 : World} (R0 : Rel P E0 (s 0).N w0) (ha0 : (s 0).a.Clo E0.D) {dm : List DM} {S : Nat → Prop} {q : Nat} {E : Env} {M : CH} {w : World} {c : List Value}
    {O0 W0 O W : Nat → Prop} {lo : Nat} (I : Inv P ops s n E0 w0 O0 W0 lo dm S q E M w c O W) (hS : Closed ops S) {j : Nat} {o : Oper} (hj : j < n) (ho : ops[j]? = some o) (hnS : ¬ S j) (hr : ∀ e ∈ o.after, Region.binds .any e = true → S e.on)
    {Nl Gh : CH} (vis : Bool) (hloc : Loc P ops j o (s j).a Nl (s j).v Gh) {lo' : Nat} (hlo' : lo' ≤ Gh.wm) (hlN : lo' ≤ Nl.sz) (hvl : vis = true → lo' = lo) (hvn : vis = false → lo' = 0) (hjN : (s j).N.sz ≤ Nl.sz) (hnl : Rel P { E with D := fun k => E.D k ∧ k < Nl.sz } Nl w)
    (hvis : vis = true → ∀ k, E.D k → k < Nl.sz → Nl.get k = M.get k) (hinv : vis = false → ∀ k, Nl.get k = none)
    (hdisj : ∀ k, E.D k → ¬ (Nl.sz ≤ k ∧ k < Gh.sz)) (hGsz : Nl.sz ≤ (s n).N.sz ∧ (Nl.sz ≤ Gh.sz → Gh.sz ≤ (s n).N.sz))
    (main : Bool) (J : World → Prop) [Ctx main J] (b : Frame) (rest : List Nat) (k : List Item) (cs : List Frame) (K : (Nat → Prop) → (Nat → Prop) → Goroutine → World → Prop)
    (hK : ∀ O' W' E' M' w', Rel P E' M' w' → Own O' W' lo E' M' w' → (∀ b, O b → O' b) → ((∀ b, W b → W' b) ∧ ∀ b, O' b → O b ∨ w.heap.size ≤ b) → Wx O E M w E' M' w' → (∀ k, E'.D k ↔ E.D k ∨ (Nl.sz ≤ k ∧ k < Gh.sz)) → M'.sz = (s n).N.sz → Nl.sz ≤ Gh.sz →
      (∀ k, Nl.sz ≤ k → k < Gh.sz → M'.get k = Gh.get k) → (vis = true → ∀ k, E.D k → k < Nl.sz → M'.get k = Gh.get k) → (∀ k, E.D k → ¬ (k < Nl.sz ∧ vis = true) → M'.get k = M.get k) →
      (∀ k, k < Nl.sz → k < Gh.wm → Gh.get k = Nl.get k) →
      CA.Clo E'.D ((⟨c, dm⟩ : CA).put o.dst (s j).v) → Will P main J K O' W' (G (fat b (E'.act ((⟨c, dm⟩ : CA).put o.dst (s j).v)) (.inRegion ops rest :: k)) cs) w') :
    Will P main J K O W (G (fat b (E.act ⟨c, dm⟩) (.inRegion ops (j :: rest) :: k)) cs) w := by
  classical
  -- the temporaries that it looks at are those of the text's order
  have hagree : ∀ x ∈ o.looksAt ops, c[x]? = (s j).a.tmps[x]? := by
    intro x hx
    refine I.tm.agree (U.tm j (by omega)) ?_
    intro i hi hd
    constructor
    · intro hSi
      rcases Nat.lt_trichotomy i j with h | h | h
      · exact h
      · subst h; exact absurd hSi hnS
      · have := U.tmps j i x h hi (.inr ⟨hd, looks_names ho hx⟩)
        exact absurd (U.down' hS hi hSi this) hnS
    · intro hij
      exact U.down hS ho hr (U.tmps i j x hij hj (.inl ⟨hd, looks_names ho hx⟩))
  have hA : ∀ x ∈ o.looksAt ops, (E.act ⟨c, dm⟩).tmps[x]? = ((s j).a.tmps[x]?).map (Env.m { E with D := fun k => E.D k ∧ k < Nl.sz }) ∧ ∀ u, (s j).a.tmps[x]? = some u → Clo (fun k => E.D k ∧ k < Nl.sz) u := by
    intro x hx
    have h1 := hagree x hx
    refine ⟨?_, ?_⟩
    · rw [← h1]
      simp only [Env.act, List.getElem?_toArray, List.getElem?_map]
      rfl
    · intro u hu
      refine Clo_and u ?_ ?_
      · exact I.clo.tmps u (List.mem_of_getElem? (by rw [h1]; exact hu))
      · exact Clo_mono (fun k hk => Nat.lt_of_lt_of_le hk hjN) u (U.wfa R0 ha0 (Nat.le_of_lt hj) (List.mem_of_getElem? hu))
  have hown : Own O W lo' { E with D := fun k => E.D k ∧ k < Nl.sz } Nl w := by
    cases hv : vis with
    | true =>
      have hlive : ∀ k, (E.D k ∧ k < Nl.sz) → Nl.live k → M.live k := fun k hk ⟨b, hb, hd⟩ => ⟨b, by rw [← hvis hv k hk.1 hk.2]; exact hb, hd⟩
      obtain rfl := hvl hv
      exact ⟨fun k hk hl => I.own.img k hk.1 (hlive k hk hl), fun k hk hl h => I.own.wri k hk.1 (hlive k hk hl) h, I.own.lt, hlN⟩
    | false =>
      have hno : ∀ k, ¬ Nl.live k := fun k ⟨b, hb, _⟩ => by rw [hinv hv k] at hb; cases hb
      exact ⟨fun k _ hl => absurd hl (hno k), fun k _ hl => absurd hl (hno k), I.own.lt, hlN⟩
  refine hloc main J lo' _ w O W (E.act ⟨c, dm⟩) hlo' hnl hown hA b rest k cs K fun O' W' E'' w'' L hv => ?_
  have R'' := L.rel
  have X := L.ext
  have hGn := hGsz.2 X.size
  have hMok := I.rel.ok
  let g : Nat → Option CB := fun k => if Nl.sz ≤ k ∧ k < Gh.sz then Gh.get k else if k < Nl.sz ∧ vis = true then Gh.get k else M.get k
  have hg : ∀ k, k < (s n).N.sz → (CH.ofFn (s n).N.sz g).get k = g k := fun k hk => CH.get_ofFn g hk
  have hEn : ∀ k, E.D k → k < (s n).N.sz := fun k hk => by rw [← I.sz]; exact I.rel.dom k hk
  have hn1 : ∀ k, Nl.sz ≤ k → k < Gh.sz → (CH.ofFn (s n).N.sz g).get k = Gh.get k := fun k h1 h2 => by
    rw [hg k (by omega)]
    simp only [g, h1, h2, and_self, if_true]
  have hn2 : vis = true → ∀ k, E.D k → k < Nl.sz → (CH.ofFn (s n).N.sz g).get k = Gh.get k := fun hvt k h1 h2 => by
    rw [hg k (hEn k h1)]
    have : ¬ (Nl.sz ≤ k ∧ k < Gh.sz) := by omega
    simp only [g, this, if_false, h2, hvt, and_self, if_true]
  have hn3 : ∀ k, E.D k → ¬ (k < Nl.sz ∧ vis = true) → (CH.ofFn (s n).N.sz g).get k = M.get k := fun k h1 h2 => by
    rw [hg k (hEn k h1)]
    have := hdisj k h1
    simp only [g, this, if_false, h2]
  obtain ⟨E', R', X', hD, hclo, hkind⟩ := recombine (N := Nl) (D' := fun k => E.D k ∧ k < Nl.sz) (Vis := fun _ => vis = true) (M' := CH.ofFn (s n).N.sz g) I.rel I.own.img (fun _ h => h.1)
    (fun k h1 h2 => hvis h2 k h1.1 h1.2) (fun k _ h2 => hinv (by simpa using h2) k) R'' X hdisj (CH.ok_ofFn g)
    (by
      rintro k (hk | hk)
      · exact hEn k hk
      · show k < (s n).N.sz
        omega) hn1 (fun k h1 h2 => hn2 h2 k h1.1 h1.2) (fun k h1 h2 => hn3 k h1 (fun hh => h2 ⟨⟨h1, hh.1⟩, hh.2⟩))
  have hactE : E'.act ⟨c, dm⟩ = E.act ⟨c, dm⟩ ∧ CA.Clo E'.D ⟨c, dm⟩ := by
    refine ⟨?_, ⟨fun v hv => Clo_mono (fun k hk => (X'.mono k hk).1) v (I.clo.tmps v hv), fun d hd => (I.clo.dm d hd).mono fun k hk => (X'.mono k hk).1⟩⟩
    have h1 : c.map E'.m = c.map E.m := List.map_congr_left fun v hv => mv_ext X'.op (fun k hk => (X'.mono k hk).2) v (I.clo.tmps v hv)
    have h2 : dm.map E'.dm = dm.map E.dm := List.map_congr_left fun d hd => dm_ext X'.op (fun k hk => (X'.mono k hk).2) (I.clo.dm d hd)
    unfold Env.act
    simp only [h1, h2]
  have hle : lo' ≤ lo := by
    cases hv : vis with
    | true => rw [hvl hv]; exact Nat.le_refl _
    | false => rw [hvn hv]; exact Nat.zero_le _
  have hown' : Own O' W' lo E' (CH.ofFn (s n).N.sz g) w'' := by
    refine ⟨fun k hk hl => ?_, fun k hk hl h => ?_, L.own.lt, by have := I.own.low; rw [I.sz] at this; exact this⟩
    · obtain ⟨b, hb, hd⟩ := hl
      rcases hkind k hk with ⟨a1, a2, a3⟩ | ⟨a1, a2, a3⟩
      · rw [a3]; exact L.own.img k a1 ⟨b, by rw [← a2]; exact hb, hd⟩
      · rw [a3]; exact L.oo _ (I.own.img k a1 ⟨b, by rw [← a2]; exact hb, hd⟩)
    · obtain ⟨b, hb, hd⟩ := hl
      rcases hkind k hk with ⟨a1, a2, a3⟩ | ⟨a1, a2, a3⟩
      · rw [a3]; exact L.own.wri k a1 ⟨b, by rw [← a2]; exact hb, hd⟩ (by omega)
      · rw [a3]; exact L.ww _ (I.own.wri k a1 ⟨b, by rw [← a2]; exact hb, hd⟩ h)
  have := hK O' W' E' (CH.ofFn (s n).N.sz g) w'' R' hown' L.oo ⟨L.ww, L.ou⟩ X' hD rfl X.size hn1 hn2 hn3 X.keep (hactE.2.put _ (hclo _ hv).1)
  rw [← act_put, hactE.1, (hclo _ hv).2] at this
  exact this

theorem nxt_keep {S : Nat → Prop} {q j : Nat} (h : Nxt s n S q) (hk : (s j).kd ≠ .w) : Nxt s n (fun i => S i ∨ i = j) q :=
  ⟨h.le, h.kd, fun u hu hw => ⟨fun hh => hh.elim (fun hh => (h.lt u hu hw).1 hh) (fun e => absurd (e ▸ hw) hk), fun hq => .inl ((h.lt u hu hw).2 hq)⟩⟩

theorem istep (U : Run P ops s bm n) {E0 : Env} {w0 : World} (R0 : Rel P E0 (s 0).N w0) (ha0 : (s 0).a.Clo E0.D) {dm : List DM} {S : Nat → Prop} {q : Nat} {E : Env} {M : CH} {w : World} {c : List Value}
    {O0 W0 O W : Nat → Prop} {lo : Nat} (I : Inv P ops s n E0 w0 O0 W0 lo dm S q E M w c O W) (hS : Closed ops S) {j : Nat} {o : Oper} (hj : j < n) (ho : ops[j]? = some o) (hnS : ¬ S j) (hr : ∀ e ∈ o.after, Region.binds .any e = true → S e.on)
    (hlo : lo ≤ (s n).N.wm) (hlo0 : lo ≤ (s 0).N.sz) (main : Bool) (J : World → Prop) [Ctx main J] (b : Frame) (rest : List Nat) (k : List Item) (cs : List Frame) (K : (Nat → Prop) → (Nat → Prop) → Goroutine → World → Prop)
    (hK : ∀ q' E' M' w' O' W', Inv P ops s n E0 w0 O0 W0 lo dm (fun i => S i ∨ i = j) q' E' M' w' ((⟨c, dm⟩ : CA).put o.dst (s j).v).tmps O' W' →
      Will P main J K O' W' (G (fat b (E'.act ((⟨c, dm⟩ : CA).put o.dst (s j).v)) (.inRegion ops rest :: k)) cs) w') :
    Will P main J K O W (G (fat b (E.act ⟨c, dm⟩) (.inRegion ops (j :: rest) :: k)) cs) w := by
  have hqn := I.nxt.le
  have hput : ∀ a : CA, (a.put o.dst (s j).v).dm = a.dm := by intro a; cases o.dst <;> rfl
  have hputc : (⟨((⟨c, dm⟩ : CA).put o.dst (s j).v).tmps, dm⟩ : CA) = (⟨c, dm⟩ : CA).put o.dst (s j).v := by cases o.dst <;> rfl
  have hjn := U.next R0 ha0 j hj
  have hle : ∀ {i j : Nat}, i ≤ j → j ≤ n → (s i).N.sz ≤ (s j).N.sz := fun h1 h2 => U.le R0 ha0 h1 h2
  -- what is realized lies where it was laid
  have hDlt : ∀ k, E.D k → E0.D k ∨ (s 0).N.sz ≤ k := by
    intro k hk
    rcases (I.dom k).1 hk with h | ⟨i, _, hi, h, _⟩
    · exact .inl h
    · exact .inr (Nat.le_trans (hle (Nat.zero_le i) (by omega)) h)
  have hdisj : ∀ k, E.D k → ¬ ((s j).N.sz ≤ k ∧ k < (s (j + 1)).N.sz) := by
    intro k hk hh
    rcases (I.dom k).1 hk with h | ⟨i, hSi, hi, h1, h2⟩
    · have h3 := R0.dom k h
      have := hle (Nat.zero_le j) (by omega)
      omega
    · rcases Nat.lt_trichotomy i j with h | h | h
      · have := hle (show i + 1 ≤ j by omega) (by omega)
        omega
      · subst h; exact hnS hSi
      · have := hle (show j + 1 ≤ i by omega) (by omega)
        omega
  have hdom : ∀ {E' : Env}, (∀ k, E'.D k ↔ E.D k ∨ ((s j).N.sz ≤ k ∧ k < (s (j + 1)).N.sz)) → ∀ k, E'.D k ↔ E0.D k ∨ ∃ i, (S i ∨ i = j) ∧ i < n ∧ (s i).N.sz ≤ k ∧ k < (s (i + 1)).N.sz := by
    intro E' h k
    rw [h k, I.dom k]
    constructor
    · rintro ((h1 | ⟨i, h1, h2⟩) | h1)
      · exact .inl h1
      · exact .inr ⟨i, .inl h1, h2⟩
      · exact .inr ⟨j, .inr rfl, hj, h1⟩
    · rintro (h1 | ⟨i, h1 | rfl, h2⟩)
      · exact .inl (.inl h1)
      · exact .inl (.inr ⟨i, h1, h2⟩)
      · exact .inr h2.2
  have htm : Tm ops s n (fun i => S i ∨ i = j) ((⟨c, dm⟩ : CA).put o.dst (s j).v).tmps := by
    refine I.tm.put hj ho ?_ dm
    intro i hSi hi x h1 h2
    rcases Nat.lt_or_ge j i with h | h
    · have := U.tmps j i x h hi (.inr ⟨h1, dst_names ho h2⟩)
      exact absurd (U.down' hS hi hSi this) hnS
    · exact h
  -- memory, seen at an index of the text's order
  have hseen : ∀ p, p ≤ n → (∀ k, E.D k → k < (s p).N.sz → (s p).N.get k = M.get k) → Rel P { E with D := fun k => E.D k ∧ k < (s p).N.sz } (s p).N w := by
    intro p hp hget
    refine I.rel.less (fun _ h => h.1) (fun g hg => ⟨(I.rel.gl g hg).1, Nat.lt_of_lt_of_le (R0.dom g (R0.gl g hg).1) (U.le R0 ha0 (Nat.zero_le p) hp)⟩) (U.ok R0 ha0 hp) (fun _ h => h.2) (fun k h => hget k h.1 h.2) ?_
    intro k b hk hb
    have hEc : CBClo E.D b := (I.rel.blk k b hk.1 (by rw [← hget k hk.1 hk.2]; exact hb)).clo
    exact hEc.and (U.wfb R0 ha0 hp (hDlt k hk.1) hk.2 hb)
  cases hkd : (s j).kd with
  | w =>
    obtain ⟨G, hfact, hG⟩ : ∃ G, Loc P ops j o (s j).a (s j).N.guarded (s j).v G ∧ (s (j + 1)).N = (s j).N.back G := by
      have := U.step j o (by omega) ho
      rw [hkd] at this
      exact this
    have hGsz : G.sz = (s (j + 1)).N.sz := by rw [hG]; rfl
    have hGget : ∀ k, G.get k = (s (j + 1)).N.get k := fun k => by rw [hG]; rfl
    have hgs : (s j).N.guarded.sz = (s j).N.sz := rfl
    -- it is the next of kind w
    have hjq : j = q := by
      rcases Nat.lt_trichotomy j q with h | h | h
      · exact absurd ((I.nxt.lt j hj hkd).2 h) hnS
      · exact h
      · have hqw := I.nxt.kd (by omega)
        rcases U.cw q j h hj hqw with h1 | h1
        · rw [hkd] at h1; cases h1
        · have := (I.nxt.lt q (by omega) hqw).1 (U.down hS ho hr h1)
          omega
    subst hjq
    have hget : ∀ k, E.D k → k < (s j).N.sz → (s j).N.get k = M.get k := fun k h1 h2 => (I.c1 k h1 h2).symm
    have hGw : lo ≤ G.wm := by
      have h1 := U.wle R0 ha0 (show j + 1 ≤ n by omega)
      rw [hG] at h1
      simp only [CH.back] at h1
      split at h1 <;> omega
    refine mid U R0 ha0 I hS hj ho hnS hr true hfact (lo' := lo) hGw (by rw [hgs]; exact Nat.le_trans hlo0 (hle (Nat.zero_le j) (by omega))) (fun _ => rfl) (fun h => by cases h) (Nat.le_refl _) (hseen j (by omega) hget).guard (fun _ => hget) (fun h => by cases h) (by rw [hGsz]; exact hdisj)
      ⟨by rw [hgs]; exact hle (by omega) (Nat.le_refl _), fun _ => by rw [hGsz]; exact hle (by omega) (Nat.le_refl _)⟩ main J b rest k cs K fun O' W' E' M' w' R' ow' hoo hww X' hD hsz _ h1 h2 h3 _ hcl => ?_
    rw [hgs] at hD h1 h2 h3
    rw [hGsz] at hD h1
    obtain ⟨q', hq1, hq2, hq3, hq4⟩ := first_w s n (n - (j + 1)) (j + 1) (by omega)
    have hseg : ∀ i k, j < i → i ≤ q' → k < (s i).N.sz → (s q').N.get k = (s i).N.get k := fun i k h1 h2 h3 => U.same R0 ha0 h2 hq2 (fun u hu1 hu2 => hq4 u (by omega) hu2) h3
    refine hK q' E' M' w' O' W' ⟨ow', fun b hb => hoo b (I.oo b hb), ⟨fun b hb => hww.1 b (I.ww.1 b hb), fun b hb => (hww.2 b hb).elim (I.ww.2 b) fun hs => .inr (Nat.le_trans I.wx.hsize hs)⟩, R', I.wx.trans X' I.oo, hdom hD, hsz, ?_, ?_, by rw [hputc]; exact hcl, htm, ?_⟩
    · intro k hk hlt
      rcases (hD k).1 hk with hE | hE
      · by_cases hkj : k < (s j).N.sz
        · rw [h2 rfl k hE hkj, hGget, hseg (j + 1) k (by omega) hq1 (by omega)]
        · rw [h3 k hE (fun hh => hkj hh.1)]
          rcases (I.dom k).1 hE with h | ⟨i, hSi, hi, hi1, hi2⟩
          · have := R0.dom k h
            have := hle (Nat.zero_le j) (by omega)
            omega
          · rw [I.c2 k i hE (by omega) hi hi1 hi2]
            have hij : j < i := by
              rcases Nat.lt_trichotomy j i with h | h | h
              · exact h
              · subst h; exact absurd hSi hnS
              · have := hle (show i + 1 ≤ j by omega) (by omega)
                omega
            have hiq : i + 1 ≤ q' := by
              rcases Nat.lt_or_ge i q' with h | h
              · exact h
              · have := hle h (by omega)
                omega
            exact (hseg (i + 1) k (by omega) hiq hi2).symm
      · rw [h1 k hE.1 hE.2, hGget, hseg (j + 1) k (by omega) hq1 hE.2]
    · intro k i hk hge hi hi1 hi2
      have hkj : ¬ k < (s j).N.sz := by
        have := hle (show j ≤ q' by omega) hq2
        omega
      rcases (hD k).1 hk with hE | hE
      · rw [h3 k hE (fun hh => hkj hh.1)]
        exact I.c2 k i hE (by omega) hi hi1 hi2
      · have := hle hq1 hq2
        omega
    · refine ⟨hq2, hq3, fun u hu hw => ⟨?_, ?_⟩⟩
      · rintro (h | rfl)
        · have := (I.nxt.lt u hu hw).1 h
          omega
        · omega
      · intro huq
        rcases Nat.lt_trichotomy u j with h | h | h
        · exact .inl ((I.nxt.lt u hu hw).2 h)
        · exact .inr h
        · exact absurd hw (hq4 u (by omega) huq)
  | q =>
    obtain ⟨G, hfact, hGl, hG⟩ : ∃ G, Loc P ops j o (s j).a (s j).N.guarded (s j).v G ∧ (s j).N.sz ≤ G.wm ∧ (s (j + 1)).N = ⟨G.sz, (s j).N.wm, G.base, G.t⟩ := by
      have := U.step j o (by omega) ho
      rw [hkd] at this
      obtain ⟨G, h1, h2, h3⟩ := this
      exact ⟨G, h1, h2, h3⟩
    have hnw : (s j).kd ≠ .w := by rw [hkd]; intro h; cases h
    have hGsz : G.sz = (s (j + 1)).N.sz := by rw [hG]
    have hGget : ∀ k, G.get k = (s (j + 1)).N.get k := fun k => by rw [hG]; rfl
    -- all of kind w ahead of it are done
    have hjq : j < q := by
      rcases Nat.lt_trichotomy j q with h | h | h
      · exact h
      · subst h
        exact absurd (I.nxt.kd hj) hnw
      · have hqw := I.nxt.kd (by omega)
        rcases U.cw q j h hj hqw with h1 | h1
        · rw [hkd] at h1; cases h1
        · have := (I.nxt.lt q (by omega) hqw).1 (U.down hS ho hr h1)
          omega
    by_cases hseg0 : ∃ u, j < u ∧ u < q ∧ (s u).kd = .w
    · -- it reads later than the text has it
      have hlate := (U.cl j q o hjq hqn ho hkd ((Nat.lt_or_ge q n).elim (fun h => .inr (I.nxt.kd h)) (fun h => .inl (by omega))) hseg0).resolve_left (by
        rintro ⟨u, hu1, hu2, hu3, hu4⟩
        exact hnS (U.down' hS (show u < n by omega) ((I.nxt.lt u (by omega) hu3).2 hu2) hu4))
      obtain ⟨hno, G', hloc, hGs, hGw⟩ := hlate
      have hgs : (s q).N.guarded.sz = (s q).N.sz := rfl
      have hget : ∀ k, E.D k → k < (s q).N.sz → (s q).N.get k = M.get k := fun k h1 h2 => (I.c1 k h1 h2).symm
      have hlq : lo ≤ (s q).N.sz := Nat.le_trans hlo0 (hle (Nat.zero_le q) hqn)
      refine mid U R0 ha0 I hS hj ho hnS hr true hloc (lo' := lo) (Nat.le_trans hlq hGw) (by rw [hgs]; exact hlq) (fun _ => rfl) (fun h => by cases h) (by rw [hgs]; exact hle (by omega) hqn) (hseen q hqn hget).guard (fun _ => hget) (fun h => by cases h)
        (fun k _ hh => by rw [hgs] at hh; omega) ⟨by rw [hgs]; exact hle hqn (Nat.le_refl _), fun _ => by rw [hGs]; exact hle hqn (Nat.le_refl _)⟩ main J b rest k cs K fun O' W' E' M' w' R' ow' hoo hww X' hD hsz _ h1 h2 h3 hkeep hcl => ?_
      have hD' : ∀ k, E'.D k ↔ E.D k ∨ ((s j).N.sz ≤ k ∧ k < (s (j + 1)).N.sz) := by
        intro k
        rw [hD k, hgs]
        constructor
        · rintro (h | h)
          · exact .inl h
          · omega
        · rintro (h | h)
          · exact .inl h
          · omega
      have hDE : ∀ k, E'.D k → E.D k := fun k hk => ((hD k).1 hk).resolve_right (by rw [hgs]; omega)
      refine hK q E' M' w' O' W' ⟨ow', fun b hb => hoo b (I.oo b hb), ⟨fun b hb => hww.1 b (I.ww.1 b hb), fun b hb => (hww.2 b hb).elim (I.ww.2 b) fun hs => .inr (Nat.le_trans I.wx.hsize hs)⟩, R', I.wx.trans X' I.oo, hdom hD', hsz, ?_, ?_, by rw [hputc]; exact hcl, htm, nxt_keep I.nxt hnw⟩
      · intro k hk hlt
        rw [h2 rfl k (hDE k hk) hlt]
        exact hkeep k hlt (Nat.lt_of_lt_of_le hlt hGw)
      · intro k i hk hge hi hi1 hi2
        rw [h3 k (hDE k hk) (fun hh => by rw [hgs] at hh; omega)]
        exact I.c2 k i (hDE k hk) hge hi hi1 hi2
    · have hnow : ∀ u, j ≤ u → u < q → (s u).kd ≠ .w := by
        intro u h1 h2 hw
        by_cases he : u = j
        · subst he; exact hnw hw
        · exact hseg0 ⟨u, by omega, h2, hw⟩
      have hgs : (s j).N.guarded.sz = (s j).N.sz := rfl
      have hsame : ∀ i k, j ≤ i → i ≤ q → k < (s i).N.sz → (s q).N.get k = (s i).N.get k := fun i k h1 h2 h3 => U.same R0 ha0 h2 hqn (fun u hu1 hu2 => hnow u (by omega) hu2) h3
      have hget : ∀ k, E.D k → k < (s j).N.sz → (s j).N.get k = M.get k := fun k h1 h2 => by
        rw [I.c1 k h1 (Nat.lt_of_lt_of_le h2 (hle (by omega) hqn)), hsame j k (Nat.le_refl _) (by omega) h2]
      have hlj : lo ≤ (s j).N.sz := Nat.le_trans hlo0 (hle (Nat.zero_le j) (by omega))
      refine mid U R0 ha0 I hS hj ho hnS hr true hfact (lo' := lo) (Nat.le_trans hlj hGl) (by rw [hgs]; exact hlj) (fun _ => rfl) (fun h => by cases h) (Nat.le_refl _) (hseen j (by omega) hget).guard (fun _ => hget) (fun h => by cases h)
        (by rw [hGsz]; exact hdisj) ⟨by rw [hgs]; exact hle (by omega) (Nat.le_refl _), fun _ => by rw [hGsz]; exact hle (by omega) (Nat.le_refl _)⟩ main J b rest k cs K fun O' W' E' M' w' R' ow' hoo hww X' hD hsz _ h1 h2 h3 _ hcl => ?_
      rw [hgs] at hD h1 h2 h3
      rw [hGsz] at hD h1
      refine hK q E' M' w' O' W' ⟨ow', fun b hb => hoo b (I.oo b hb), ⟨fun b hb => hww.1 b (I.ww.1 b hb), fun b hb => (hww.2 b hb).elim (I.ww.2 b) fun hs => .inr (Nat.le_trans I.wx.hsize hs)⟩, R', I.wx.trans X' I.oo, hdom hD, hsz, ?_, ?_, by rw [hputc]; exact hcl, htm, nxt_keep I.nxt hnw⟩
      · intro k hk hlt
        rcases (hD k).1 hk with hE | hE
        · by_cases hkj : k < (s j).N.sz
          · rw [h2 rfl k hE hkj, hGget, hsame (j + 1) k (by omega) (by omega) (by omega)]
          · rw [h3 k hE (fun hh => hkj hh.1), I.c1 k hE hlt]
        · rw [h1 k hE.1 hE.2, hGget, hsame (j + 1) k (by omega) (by omega) hE.2]
      · intro k i hk hge hi hi1 hi2
        have hjq' := hle (show j + 1 ≤ q by omega) hqn
        rcases (hD k).1 hk with hE | hE
        · rw [h3 k hE (fun hh => by omega)]
          exact I.c2 k i hE hge hi hi1 hi2
        · omega
  | b =>
    obtain ⟨B, hfact, hrest⟩ : ∃ B, Loc P ops j o (s j).a (CH.blind (s j).N.sz) (s j).v B ∧ ((s j).N.Ok → (s j).N.sz ≤ B.sz → (s (j + 1)).N.sz = B.sz ∧ (s (j + 1)).N.wm = (s j).N.wm ∧ (s (j + 1)).N.Ok ∧
        (∀ k, k < (s j).N.sz → (s (j + 1)).N.get k = (s j).N.get k) ∧ (∀ k, (s j).N.sz ≤ k → k < (s (j + 1)).N.sz → (s (j + 1)).N.get k = B.get k)) := by
      have := U.step j o (by omega) ho
      rw [hkd] at this
      exact this
    have hnw : (s j).kd ≠ .w := by rw [hkd]; intro h; cases h
    have hjok := U.ok R0 ha0 (Nat.le_of_lt hj)
    have hgs : (CH.blind (s j).N.sz).sz = (s j).N.sz := rfl
    -- how much the outcome lays
    have hBsz : (s j).N.sz ≤ B.sz := by
      obtain ⟨Ev, wv, Rv, hav, _⟩ := U.virt R0 ha0 j (by omega)
      obtain ⟨_, _, _, X, _⟩ := hfact.facts (w := wv) (Rel.blind Rv.gl Rv.dom) (act_look hav)
      exact X.size
    obtain ⟨e1, e2, e3, e4, e5⟩ := hrest hjok hBsz
    have hb0 : Rel P { E with D := fun k => E.D k ∧ k < (CH.blind (s j).N.sz).sz } (CH.blind (s j).N.sz) w := Rel.blind (fun g hg => ⟨⟨(I.rel.gl g hg).1, Nat.lt_of_lt_of_le (R0.dom g (R0.gl g hg).1) (U.le R0 ha0 (Nat.zero_le j) (Nat.le_of_lt hj))⟩, (I.rel.gl g hg).2⟩) (fun k hk => hk.2)
    refine mid U R0 ha0 I hS hj ho hnS hr false hfact (lo' := 0) (Nat.zero_le _) (Nat.zero_le _) (fun h => by cases h) (fun _ => rfl) (Nat.le_refl _) hb0 (fun h => by cases h) (fun _ k => CH.get_blind _ k)
      (by rw [hgs, ← e1]; exact hdisj) ⟨by rw [hgs]; exact hle (by omega) (Nat.le_refl _), fun _ => by rw [← e1]; exact hle (by omega) (Nat.le_refl _)⟩ main J b rest k cs K fun O' W' E' M' w' R' ow' hoo hww X' hD hsz _ h1 h2 h3 _ hcl => ?_
    rw [hgs] at hD h1
    rw [← e1] at hD h1
    have h3' : ∀ k, E.D k → M'.get k = M.get k := fun k hk => h3 k hk (fun hh => by cases hh.2)
    refine hK q E' M' w' O' W' ⟨ow', fun b hb => hoo b (I.oo b hb), ⟨fun b hb => hww.1 b (I.ww.1 b hb), fun b hb => (hww.2 b hb).elim (I.ww.2 b) fun hs => .inr (Nat.le_trans I.wx.hsize hs)⟩, R', I.wx.trans X' I.oo, hdom hD, hsz, ?_, ?_, by rw [hputc]; exact hcl, htm, nxt_keep I.nxt hnw⟩
    · intro k hk hlt
      rcases (hD k).1 hk with hE | hE
      · rw [h3' k hE, I.c1 k hE hlt]
      · -- nothing of kind w lies between
        have hjq : j < q := by
          rcases Nat.lt_or_ge j q with h | h
          · exact h
          · have := hle h (Nat.le_of_lt hj)
            omega
        have hnow : ∀ u, j + 1 ≤ u → u < q → (s u).kd ≠ .w := by
          intro u hu1 hu2 hw
          rcases U.cb j u (by omega) (by omega) hw hkd with h | h
          · omega
          · exact hnS (U.down' hS (show u < n by omega) ((I.nxt.lt u (by omega) hw).2 hu2) h)
        rw [h1 k hE.1 hE.2, ← e5 k hE.1 hE.2]
        exact (U.same R0 ha0 (show j + 1 ≤ q by omega) hqn hnow hE.2).symm
    · intro k i hk hge hi hi1 hi2
      rcases (hD k).1 hk with hE | hE
      · rw [h3' k hE]
        exact I.c2 k i hE hge hi hi1 hi2
      · have hij : i = j := by
          rcases Nat.lt_trichotomy i j with h | h | h
          · have := hle (show i + 1 ≤ j by omega) (by omega)
            omega
          · exact h
          · have := hle (show j + 1 ≤ i by omega) (by omega)
            omega
        subst hij
        rw [h1 k hE.1 hE.2, ← e5 k hE.1 hE.2]

end
end Go.Eng
namespace Go.Eng
open Go.Conc (G)
set_option linter.unusedSimpArgs false
set_option linter.unusedVariables false
set_option linter.unusedSectionVars false
variable [Hk]

section
variable {P : Program} {ops : Array Oper} {s : Nat → DS} {bm : Nat → Nat → Prop} {n : Nat}

/-- Nothing is left, or the last one alone. -/
theorem go_none {listed : Array Bool} (hall : ∀ i, i < ops.size → listed.getD i false = true) (fuel t : Nat) : Region.linearise.go .any ops fuel t listed [] = [] := by
  have hnil : Region.ready .any ops listed = [] := by
    rw [List.eq_nil_iff_forall_not_mem]
    intro i hi
    obtain ⟨h0, o, ho, _⟩ := mem_ready.1 hi
    have := hall i (Array.getElem?_eq_some_iff.1 ho).1
    rcases Nat.lt_or_ge i listed.size with h | h
    · simp [h] at h0 this
      simp [h0] at this
    · simp [Array.getElem?_eq_none h] at h0
  cases fuel with
  | zero => rfl
  | succ fuel =>
    simp only [Region.linearise.go]
    change (match (Region.ready .any ops listed)[t % (Region.ready .any ops listed).length]? with
      | some i => Region.linearise.go .any ops fuel (t / (Region.ready .any ops listed).length) (listed.setIfInBounds i true) [i]
      | none => [].reverse) = []
    rw [hnil]
    rfl
theorem go_last (hn : n ≤ ops.size) (hs : ops.size ≤ n + 1) {listed : Array Bool} (hsz : listed.size = ops.size) (hall : ∀ i, i < n → listed.getD i false = true) (hno : ∀ j, n ≤ j → listed.getD j false = false)
    (hedge : ∀ o, ops[n]? = some o → ∀ e ∈ o.after, Region.binds .any e = true → e.on < n) {fuel : Nat} (hf : ops.size - n ≤ fuel) (t : Nat) : Region.linearise.go .any ops fuel t listed [] = List.range' n (ops.size - n) := by
  rcases Nat.lt_or_ge n ops.size with h | h
  rotate_left
  · have e : ops.size = n := by omega
    rw [go_none (fun i hi => hall i (by omega)) fuel t, e]
    simp
  have e : ops.size = n + 1 := by omega
  obtain ⟨f, rfl⟩ : ∃ f, fuel = f + 1 := ⟨fuel - 1, by omega⟩
  have hmem : ∀ i, i ∈ Region.ready .any ops listed ↔ i = n := by
    intro i
    rw [mem_ready]
    constructor
    · rintro ⟨h0, o, ho, _⟩
      have hi := (Array.getElem?_eq_some_iff.1 ho).1
      rcases Nat.lt_or_ge i n with h1 | h1
      · exfalso
        have := hall i h1
        have hl : i < listed.size := by omega
        simp [hl] at h0 this
        simp [h0] at this
      · omega
    · rintro rfl
      have hl : i < listed.size := by omega
      refine ⟨?_, ops[i], Array.getElem?_eq_getElem h, fun e he hb => hall _ (hedge _ (Array.getElem?_eq_getElem h) e he hb)⟩
      have := hno i (Nat.le_refl _)
      simp [hl] at this ⊢
      exact this
  simp only [Region.linearise.go]
  change (match (Region.ready .any ops listed)[t % (Region.ready .any ops listed).length]? with
    | some i => Region.linearise.go .any ops f (t / (Region.ready .any ops listed).length) (listed.setIfInBounds i true) [i]
    | none => [].reverse) = _
  have hpos : 0 < (Region.ready .any ops listed).length := List.length_pos_of_mem ((hmem n).2 rfl)
  have hlt := Nat.mod_lt t hpos
  have hget : (Region.ready .any ops listed)[t % (Region.ready .any ops listed).length]? = some n := by
    rw [List.getElem?_eq_getElem hlt]
    exact congrArg some ((hmem _).1 (List.getElem_mem hlt))
  rw [hget]
  simp only []
  rw [linearise_go_acc, go_none]
  · rw [e]
    simp [List.range']
  · intro i hi
    by_cases hin : i = n
    · subst hin
      have hl : i < listed.size := by omega
      simp [hl]
    · rw [getD_set_ne false (Ne.symm hin)]
      exact hall i (by omega)
/-- Every order, from any point on; to the end, or to where the last operation alone is left. -/
theorem order_ok (U : Run P ops s bm n) (hs : ops.size ≤ n + 1) (hlast : n < ops.size → ∀ i, i < n → bm i n) {E0 : Env} {w0 : World} (R0 : Rel P E0 (s 0).N w0) (ha0 : (s 0).a.Clo E0.D) {O0 W0 : Nat → Prop} {lo : Nat} (hlo : lo ≤ (s n).N.wm) (hlo0 : lo ≤ (s 0).N.sz) {dm : List DM} (main : Bool) (J : World → Prop) [Ctx main J] (b : Frame) (k : List Item) (cs : List Frame)
    (K : (Nat → Prop) → (Nat → Prop) → Goroutine → World → Prop)
    (hK : ∀ E' M' w' O' W', (∃ q', Inv P ops s n E0 w0 O0 W0 lo dm (fun i => i < n) q' E' M' w' (s n).a.tmps O' W') → Will P main J K O' W' (G (fat b (E'.act ⟨(s n).a.tmps, dm⟩) (.inRegion ops (List.range' n (ops.size - n)) :: k)) cs) w') :
    ∀ (fuel t : Nat) (listed : Array Bool) (left : List Nat) (q : Nat) (E : Env) (M : CH) (w : World) (c : List Value) (O W : Nat → Prop), listed.size = ops.size → left.length ≤ fuel → (∀ i, i < ops.size → listed.getD i false = false → i ∈ left) → (∀ j, n ≤ j → listed.getD j false = false) →
      Closed ops (fun i => listed.getD i false = true) → Inv P ops s n E0 w0 O0 W0 lo dm (fun i => listed.getD i false = true) q E M w c O W →
      Will P main J K O W (G (fat b (E.act ⟨c, dm⟩) (.inRegion ops (Region.linearise.go .any ops fuel t listed []) :: k)) cs) w := by
  intro fuel
  -- when all is done
  have fin : ∀ (fuel t : Nat) (listed : Array Bool) (left : List Nat) (q : Nat) (E : Env) (M : CH) (w : World) (c : List Value) (O W : Nat → Prop), listed.size = ops.size → left.length ≤ fuel → (∀ i, i < ops.size → listed.getD i false = false → i ∈ left) → (∀ j, n ≤ j → listed.getD j false = false) → (∀ i, i < n → listed.getD i false = true) → Inv P ops s n E0 w0 O0 W0 lo dm (fun i => listed.getD i false = true) q E M w c O W →
      Will P main J K O W (G (fat b (E.act ⟨c, dm⟩) (.inRegion ops (Region.linearise.go .any ops fuel t listed []) :: k)) cs) w := by
    intro fuel t listed left q E M w c O W hsz hlen hleft hno hall I
    have hf : ops.size - n ≤ fuel := by
      rcases Nat.lt_or_ge n ops.size with h | h
      · have := List.length_pos_of_mem (hleft n h (hno n (Nat.le_refl _)))
        omega
      · omega
    rw [go_last U.size hs hsz hall hno (fun o ho e he hb => U.edge n o ho e he hb) hf t]
    have hc : c = (s n).a.tmps := by
      apply List.ext_getElem?
      intro x
      exact I.tm.agree (U.tm n (Nat.le_refl _)) (fun i hi _ => ⟨fun _ => hi, fun _ => hall i hi⟩)
    subst hc
    refine hK E M w O W ⟨q, ⟨I.own, I.oo, I.ww, I.rel, I.wx, fun k => ?_, I.sz, I.c1, I.c2, I.clo, U.tm n (Nat.le_refl _), ⟨I.nxt.le, I.nxt.kd, fun u hu hw => ⟨fun _ => (I.nxt.lt u hu hw).1 (hall u hu), fun _ => hu⟩⟩⟩⟩
    rw [I.dom k]
    constructor
    · rintro (h | ⟨i, h1, h2, h3⟩)
      · exact .inl h
      · exact .inr ⟨i, h2, h2, h3⟩
    · rintro (h | ⟨i, h1, h2, h3⟩)
      · exact .inl h
      · exact .inr ⟨i, hall i h1, h2, h3⟩
  induction fuel with
  | zero =>
    intro t listed left q E M w c O W hsz hlen hleft hno hcl I
    have hl : left = [] := List.length_eq_zero_iff.1 (by omega)
    exact fin 0 t listed left q E M w c O W hsz hlen hleft hno (fun i hi => by
      cases h : listed.getD i false with
      | true => rfl
      | false => have := hleft i (Nat.lt_of_lt_of_le hi U.size) h; rw [hl] at this; cases this) I
  | succ fuel ih =>
    intro t listed left q E M w c O W hsz hlen hleft hno hcl I
    by_cases hall : ∀ i, i < n → listed.getD i false = true
    · exact fin _ t listed left q E M w c O W hsz hlen hleft hno hall I
    simp only [Region.linearise.go]
    change Will P main J K O W (G (fat b (E.act ⟨c, dm⟩) (.inRegion ops (match (Region.ready .any ops listed)[t % (Region.ready .any ops listed).length]? with
      | some i => Region.linearise.go .any ops fuel (t / (Region.ready .any ops listed).length) (listed.setIfInBounds i true) [i]
      | none => [].reverse) :: k)) cs) w
    cases hi : (Region.ready .any ops listed)[t % (Region.ready .any ops listed).length]? with
    | none =>
      exfalso
      have hnil : Region.ready .any ops listed = [] := by
        cases hr : Region.ready .any ops listed with
        | nil => rfl
        | cons x xs =>
          rw [hr] at hi
          have hlt : t % (x :: xs).length < (x :: xs).length := Nat.mod_lt _ (by simp)
          simp at hi
          simp at hlt
          omega
      refine hall ?_
      intro i
      induction i using Nat.strongRecOn with
      | _ i ihi =>
        intro hin
        cases hli : listed.getD i false with
        | true => rfl
        | false =>
          exfalso
          obtain ⟨o, ho⟩ := U.op hin
          have hmem : i ∈ Region.ready .any ops listed := by
            rw [mem_ready]
            refine ⟨?_, o, ho, fun e he hb => ihi e.on (U.edge i o ho e he hb) (by have := U.edge i o ho e he hb; omega)⟩
            have : i < listed.size := by have := U.size; omega
            simp [this] at hli ⊢
            exact hli
          rw [hnil] at hmem
          cases hmem
    | some i =>
      simp only []
      rw [linearise_go_acc, List.reverse_singleton, List.singleton_append]
      have hmem := List.mem_of_getElem? hi
      obtain ⟨h0, o, ho, hdone⟩ := mem_ready.1 hmem
      have his := (Array.getElem?_eq_some_iff.1 ho).1
      have hin : i < n := by
        rcases Nat.lt_or_ge i n with h | h
        · exact h
        · exfalso
          have e : i = n := by omega
          subst e
          exact hall fun u hu => U.down hcl ho (fun e he hb => hdone e he hb) (hlast his u hu)
      have hlt : i < listed.size := by omega
      have hnS : ¬ listed.getD i false = true := by
        simp [hlt] at h0 ⊢
        exact h0
      refine istep U R0 ha0 I hcl hin ho hnS (fun e he hb => hdone e he hb) hlo hlo0 main J b (Region.linearise.go .any ops fuel (t / (Region.ready .any ops listed).length) (listed.setIfInBounds i true) []) k cs K fun q' E1 M1 w1 O1 W1 I1 => ?_
      have hset : ∀ u, (listed.setIfInBounds i true).getD u false = true ↔ (listed.getD u false = true ∨ u = i) := by
        intro u
        by_cases hu : u = i
        · subst hu
          simp [hlt]
        · rw [getD_set_ne false (Ne.symm hu)]
          simp [hu]
      have hfun : (fun u => (listed.setIfInBounds i true).getD u false = true) = (fun u => listed.getD u false = true ∨ u = i) := by
        funext u
        exact propext (hset u)
      have hil : i ∈ left := hleft i his (by simpa using hnS)
      have hcl1 : Closed ops (fun u => (listed.setIfInBounds i true).getD u false = true) := by
        intro j oj hj hoj e he hb
        rw [hset] at hj ⊢
        rcases hj with hj | rfl
        · exact .inl (hcl j oj hj hoj e he hb)
        · rw [ho] at hoj
          cases hoj
          exact .inl (hdone e he hb)
      have hputc : (⟨((⟨c, dm⟩ : CA).put o.dst (s i).v).tmps, dm⟩ : CA) = (⟨c, dm⟩ : CA).put o.dst (s i).v := by cases o.dst <;> rfl
      have hst2 := ih (t / (Region.ready .any ops listed).length) (listed.setIfInBounds i true) (left.erase i) q' E1 M1 w1 _ O1 W1 (by simp [hsz])
        (by rw [List.length_erase_of_mem hil]; omega)
        (fun u hu hlu => by
          have hne : u ≠ i := by
            intro e
            have := (hset u).2 (.inr e)
            rw [this] at hlu
            cases hlu
          rw [getD_set_ne false (Ne.symm hne)] at hlu
          exact (List.mem_erase_of_ne hne).2 (hleft u hu hlu))
        (fun u hu => by
          have hne : u ≠ i := by omega
          rw [getD_set_ne false (Ne.symm hne)]
          exact hno u hu) hcl1 (by rw [hfun]; exact I1)
      rw [hputc] at hst2
      exact hst2

/-- A region that leaves its order open, from its start. -/
theorem region_ok (U : Run P ops s bm n) (hs : ops.size ≤ n + 1) (hlast : n < ops.size → ∀ i, i < n → bm i n) (hm : P.follows .mixedOrders = true) {E0 : Env} {wz : World} (Rz : Rel P E0 (s 0).N wz) (ha0 : (s 0).a.Clo E0.D) {O W : Nat → Prop} {lo : Nat} (ow : Own O W lo E0 (s 0).N wz) (hlo : lo ≤ (s n).N.wm) (main : Bool) (J : World → Prop) [Ctx main J]
    (b : Frame) (id : Nat) (k : List Item) (cs : List Frame) (K : (Nat → Prop) → (Nat → Prop) → Goroutine → World → Prop)
    (hK : ∀ O' W' E' w', Later P lo O W E0 (s 0).N wz O' W' E' (s n).N w' → (s n).a.Clo E'.D → Will P main J K O' W' (G (fat b (E'.act (s n).a) (.inRegion ops (List.range' n (ops.size - n)) :: k)) cs) w') :
    Will P main J K O W (G (fat b (E0.act (s 0).a) (.code (.region id ops true) :: k)) cs) wz := by
  refine .step rfl fun w0 hrel _ => ?_
  have R0 := Rz.rely ow hrel
  refine ⟨_, w0.drew, #[], g_region_draw, ⟨fun _ _ _ => rfl, Nat.le_refl _, rfl, rfl, rfl, fun e he => by simp at he⟩, ?_⟩
  have hg1 : grow O w0 w0.drew = O := grow_self O w0
  have hg2 : grow W w0 w0.drew = W := grow_self W w0
  rw [hg1, hg2]
  have hsched : Region.schedule (P.follows .mixedOrders) ops (w0.tape w0.drawn (.order b.fn id)) = Region.linearise.go .any ops ops.size (w0.tape w0.drawn (.order b.fn id)) (Array.replicate ops.size false) [] := by
    simp [Region.schedule, hm, Region.linearise]
  rw [hsched]
  obtain ⟨R1, X1⟩ := R0.drew
  -- defers stay
  have hdm : ∀ j, j ≤ n → (s j).a.dm = (s 0).a.dm := by
    intro j
    induction j with
    | zero => intro _; rfl
    | succ j ih =>
      intro h
      obtain ⟨o, ho⟩ := U.op (show j < n by omega)
      rw [U.put j o (by omega) ho, ← ih (by omega)]
      cases o.dst <;> rfl
  obtain ⟨q, _, hq2, hq3, hq4⟩ := first_w s n n 0 (by omega)
  have hle : ∀ {i j : Nat}, i ≤ j → j ≤ n → (s i).N.sz ≤ (s j).N.sz := fun h1 h2 => U.le R0 ha0 h1 h2
  have hnok := U.ok R0 ha0 (Nat.le_refl n)
  have hgetM : ∀ k, E0.D k → (CH.ofFn (s n).N.sz (s 0).N.get).get k = (s 0).N.get k := fun k hk => CH.get_ofFn _ (Nat.lt_of_lt_of_le (R0.dom k hk) (hle (Nat.zero_le n) (Nat.le_refl _)))
  have hI : Inv P ops s n E0 w0.drew O W lo (s 0).a.dm (fun i => (Array.replicate ops.size false).getD i false = true) q E0 (CH.ofFn (s n).N.sz (s 0).N.get) w0.drew (s 0).a.tmps O W := by
    have hno : ∀ i, ¬ (Array.replicate ops.size false).getD i false = true := by
      intro i
      rcases Nat.lt_or_ge i ops.size with h | h
      · simp [h]
      · simp [Array.getElem?_eq_none, h]
    have hlv : ∀ k, E0.D k → (CH.ofFn (s n).N.sz (s 0).N.get).live k → (s 0).N.live k := fun k hk ⟨b, hb, hd⟩ => ⟨b, by rw [← hgetM k hk]; exact hb, hd⟩
    have ow1 := (ow.rely hrel)
    refine ⟨⟨fun k hk hl => ow1.img k hk (hlv k hk hl), fun k hk hl => ow1.wri k hk (hlv k hk hl), ow1.lt, Nat.le_trans ow1.low (hle (Nat.zero_le n) (Nat.le_refl _))⟩, fun _ h => h, ⟨fun _ h => h, fun _ h => .inl h⟩, R1.congr (CH.ok_ofFn _) (fun k hk => Nat.lt_of_lt_of_le (R0.dom k hk) (hle (Nat.zero_le n) (Nat.le_refl _))) hgetM, (Wx.refl O E0 (s 0).N w0.drew).congr (fun _ _ => rfl) hgetM, ?_, rfl, ?_, ?_, ⟨ha0.tmps, ha0.dm⟩, ⟨rfl, fun x i hi => absurd hi (hno i), fun x _ => rfl⟩,
      ⟨hq2, hq3, fun u hu hw => ⟨fun h => absurd h (hno u), fun h => absurd hw (hq4 u (Nat.zero_le _) h)⟩⟩⟩
    · intro k
      constructor
      · exact .inl
      · rintro (h | ⟨i, h, _⟩)
        · exact h
        · exact absurd h (hno i)
    · intro k hk _
      rw [hgetM k hk]
      exact (U.same R0 ha0 (Nat.zero_le q) hq2 (fun u h1 h2 => hq4 u h1 h2) (R0.dom k hk)).symm
    · intro k i hk hge
      have h1 := R0.dom k hk
      have h2 := hle (Nat.zero_le q) hq2
      intro h3 h4 h5
      omega
  refine order_ok U hs hlast (w0 := w0.drew) R1 ha0 (O0 := O) (W0 := W) hlo ow.low main J b k cs K ?_ ops.size (w0.tape w0.drawn (.order b.fn id)) (Array.replicate ops.size false) (List.range ops.size) q E0 _ w0.drew (s 0).a.tmps O W (by simp) (by simp)
    (fun i hi _ => List.mem_range.2 hi) (fun j _ => by
      rcases Nat.lt_or_ge j ops.size with h | h
      · simp [h]
      · simp [Array.getElem?_eq_none, h]) (by
      intro j o hj
      exfalso
      rcases Nat.lt_or_ge j ops.size with h | h
      · simp [h] at hj
      · simp [Array.getElem?_eq_none, h] at hj) hI
  rintro E' M' w' O' W' ⟨q', I'⟩
  have hqn : q' = n := by
    rcases Nat.lt_or_ge q' n with h | h
    · have := (I'.nxt.lt q' h (I'.nxt.kd h)).1 h
      omega
    · have := I'.nxt.le
      omega
  subst hqn
  -- all is realized
  obtain ⟨Ev, wv, Rv, hav, Vv⟩ := U.virt R0 ha0 q' (Nat.le_refl _)
  have hrange : ∀ k, (s 0).N.sz ≤ k → k < (s q').N.sz → ∃ i, i < q' ∧ (s i).N.sz ≤ k ∧ k < (s (i + 1)).N.sz := by
    intro k h1 h2
    have key : ∀ d, d ≤ q' → k < (s d).N.sz → ∃ i, i < d ∧ (s i).N.sz ≤ k ∧ k < (s (i + 1)).N.sz := by
      intro d
      induction d with
      | zero => intro _ h; omega
      | succ d ih =>
        intro hd h
        by_cases hk : k < (s d).N.sz
        · obtain ⟨i, h1, h2⟩ := ih (by omega) hk
          exact ⟨i, by omega, h2⟩
        · exact ⟨d, by omega, by omega, h⟩
    exact key q' (Nat.le_refl _) h2
  have hdom : ∀ k, E'.D k ↔ E0.D k ∨ ((s 0).N.sz ≤ k ∧ k < (s q').N.sz) := by
    intro k
    rw [I'.dom k]
    constructor
    · rintro (h | ⟨i, h1, _, h2, h3⟩)
      · exact .inl h
      · exact .inr ⟨Nat.le_trans (hle (Nat.zero_le i) (by omega)) h2, Nat.lt_of_lt_of_le h3 (hle (by omega) (Nat.le_refl _))⟩
    · rintro (h | h)
      · exact .inl h
      · obtain ⟨i, h1, h2, h3⟩ := hrange k h.1 h.2
        exact .inr ⟨i, h1, h1, h2, h3⟩
  have hlt : ∀ k, E'.D k → k < (s q').N.sz := fun k hk => by rw [← I'.sz]; exact I'.rel.dom k hk
  have hget : ∀ k, E'.D k → (s q').N.get k = M'.get k := fun k hk => (I'.c1 k hk (hlt k hk)).symm
  have hRn : Rel P E' (s q').N w' := I'.rel.congr hnok hlt hget
  have hwx : Wx O E0 (s 0).N w0.drew E' (s q').N w' := I'.wx.congr (fun _ _ => rfl) (fun k hk => hget k (I'.wx.mono k hk).1)
  have hV : Vs O E0 (s 0).N w0.drew E' (s q').N w' := ⟨hwx, hdom, Vv.size, Vv.wm, Vv.keep⟩
  have hfin : (⟨(s q').a.tmps, (s 0).a.dm⟩ : CA) = (s q').a := by rw [← hdm q' (Nat.le_refl _)]
  have hclo := I'.clo
  rw [hfin] at hclo ⊢
  have hlv : ∀ k, E'.D k → (s q').N.live k → M'.live k := fun k hk ⟨b, hb, hd⟩ => ⟨b, by rw [← hget k hk]; exact hb, hd⟩
  have hown : Own O' W' lo E' (s q').N w' := ⟨fun k hk hl => I'.own.img k hk (hlv k hk hl), fun k hk hl => I'.own.wri k hk (hlv k hk hl), I'.own.lt, by have := I'.own.low; rwa [I'.sz] at this⟩
  exact hK O' W' E' w' ⟨hRn, hown, ((ExtC.of_rely hrel E0 (s 0).N).trans (X1.toC O) (fun _ h => h)).trans hV.ext (fun _ h => h), I'.oo, I'.ww.1, fun b hb => (I'.ww.2 b hb).imp (fun h => h) fun (hs : w0.heap.size ≤ b) => Nat.le_trans hrel.size hs⟩ hclo
end

/-! ### the checks -/
theorem cruns_ok {P : Program} {R : Rec} {ops : Array Oper} : ∀ (m i : Nat) {a a' : CA} {N N' : CH} {l : List DS}, cruns P R ops m i a N = some (l, a', N') → ∀ fin : DS, fin.a = a' → fin.N = N' →
    l.length = m ∧ (l.getD 0 fin).a = a ∧ (l.getD 0 fin).N = N ∧
      ∀ j, j < m → cstep P R ops (i + j) (l.getD j fin).a (l.getD j fin).N = some ((l.getD j fin).kd, (l.getD j fin).v, (l.getD (j + 1) fin).N) ∧ (l.getD (j + 1) fin).a = (l.getD j fin).a.put (dstOf ops (i + j)) (l.getD j fin).v
  | 0, i, a, a', N, N', l, h, fin, h1, h2 => by
    simp only [cruns, Option.some.injEq, Prod.mk.injEq] at h
    obtain ⟨rfl, rfl, rfl⟩ := h
    exact ⟨rfl, h1, h2, fun j hj => absurd hj (Nat.not_lt_zero _)⟩
  | m + 1, i, a, a', N, N', l, h, fin, h1, h2 => by
    simp only [cruns, Option.bind_eq_some_iff, Option.map_eq_some_iff] at h
    obtain ⟨⟨kd, v, N1⟩, hs, ⟨l1, a1, N2⟩, hr, e⟩ := h
    simp only [Prod.mk.injEq] at e
    obtain ⟨rfl, rfl, rfl⟩ := e
    obtain ⟨g1, g2, g3, g4⟩ := cruns_ok m (i + 1) hr fin h1 h2
    refine ⟨by simp [g1], rfl, rfl, ?_⟩
    intro j hj
    cases j with
    | zero =>
      simp only [List.getD_cons_zero, List.getD_cons_succ, Nat.add_zero, Nat.zero_add, g2, g3]
      exact ⟨hs, trivial⟩
    | succ j =>
      have := g4 j (by omega)
      simp only [List.getD_cons_succ]
      rw [show i + (j + 1) = i + 1 + j by omega]
      exact this

theorem bmOf_spec {o : Oper} {bms : List Nat} {i : Nat} (h : (bmOf o bms).testBit i = true) : ∃ e ∈ o.after, Region.binds .any e = true ∧ (e.on = i ∨ (bms.getD e.on 0).testBit i = true) := by
  have key : ∀ (es : List Edge) (n : Nat), (es.foldl (fun s e => if Region.binds .any e = true then s ||| (2 ^ e.on ||| bms.getD e.on 0) else s) n).testBit i = true → n.testBit i = true ∨ ∃ e ∈ es, Region.binds .any e = true ∧ (e.on = i ∨ (bms.getD e.on 0).testBit i = true) := by
    intro es
    induction es with
    | nil => intro n h; exact .inl h
    | cons e es ih =>
      intro n h
      rw [List.foldl_cons] at h
      rcases ih _ h with h1 | ⟨e', he', h1⟩
      · split at h1
        · rename_i hb
          rw [Nat.testBit_or, Nat.testBit_or, Bool.or_eq_true, Bool.or_eq_true] at h1
          rcases h1 with h1 | h1 | h1
          · exact .inl h1
          · rw [Nat.testBit_two_pow] at h1
            exact .inr ⟨e, by simp, hb, .inl (by simpa using h1)⟩
          · exact .inr ⟨e, by simp, hb, .inr h1⟩
        · exact .inl h1
      · exact .inr ⟨e', by simp [he'], h1⟩
  rcases key _ _ h with h1 | ⟨e, he, h1⟩
  · simp at h1
  · exact ⟨e, by simpa using he, h1⟩

/-- The checks, for the first n operations. -/
def drawOkN (P : Program) (R : Rec) (ops : Array Oper) (n : Nat) (l : List DS) (fin : DS) : Bool :=
  textOk ops &&
  ((wsOf l n).isEmpty ||
    (pairsOk (bmsGo ops.toList []) (wsOf l n) l fin n &&
     (List.range n).all fun i => !decide ((l.getD i fin).kd = .q) || lateOk P R ops (bmsGo ops.toList []) (wsOf l n) l fin n i))
theorem draw_core {P : Program} (hP : NoCount P) (hm : P.follows .mixedOrders = true) {R : Rec} (hR : RecOk P R) {ops : Array Oper} {n : Nat} (hn : n ≤ ops.size) (hs : ops.size ≤ n + 1) (hlast : n < ops.size → ∀ i, i < n → bef (bmsGo ops.toList []) i n = true)
    {a a1 : CA} {N N1 : CH} {l : List DS} (hc : cruns P R ops n 0 a N = some (l, a1, N1)) (hok : drawOkN P R ops n l ⟨a1, N1, .b, undef⟩ = true)
    {main : Bool} {J : World → Prop} [Ctx main J] {lo : Nat} {E : Env} {w : World} {O W : Nat → Prop} (hlo : lo ≤ N1.wm) (hr : Rel P E N w) (ow : Own O W lo E N w) (ha : a.Clo E.D) (b : Frame) (id : Nat) (k : List Item) (cs : List Frame)
    {K : (Nat → Prop) → (Nat → Prop) → Goroutine → World → Prop}
    (hK : ∀ O' W' E' w', Later P lo O W E N w O' W' E' N1 w' → a1.Clo E'.D → Will P main J K O' W' (G (fat b (E'.act a1) (.inRegion ops (List.range' n (ops.size - n)) :: k)) cs) w') :
    Will P main J K O W (G (fat b (E.act a) (.code (.region id ops true) :: k)) cs) w := by
  generalize hfin : (⟨a1, N1, .b, undef⟩ : DS) = fin at hok
  obtain ⟨g1, g2, g3, g4⟩ := cruns_ok _ _ hc fin (by rw [← hfin]) (by rw [← hfin])
  have hisW : ∀ u, u < n → (isW l u = true ↔ (l.getD u fin).kd = .w) := by
    intro u hu
    have hul : u < l.length := by omega
    simp [isW, hul]
  have hws : ∀ u, u ∈ wsOf l n ↔ u < n ∧ (l.getD u fin).kd = .w := by
    intro u
    simp only [wsOf, List.mem_filter, List.mem_range]
    exact and_congr_right fun hu => hisW u hu
  simp only [drawOkN, textOk, edgesOk, namesOk] at hok
  generalize bmsGo ops.toList [] = bms at hok hlast
  simp only [Bool.and_eq_true, List.all_eq_true, List.mem_range] at hok
  obtain ⟨⟨⟨c1, c2⟩, c3⟩, c4⟩ := hok
  have hpair : ∀ i j, i < j → j < n → bef bms i j = false → (meets (dstOf ops i) (names ops j) = false ∧ meets (dstOf ops j) (names ops i) = false) ∧
      ((l.getD i fin).kd = .w → (l.getD j fin).kd = .b) ∧ ((l.getD j fin).kd = .w → (l.getD i fin).kd = .b → (l.getD i fin).N.sz = (l.getD (i + 1) fin).N.sz) := by
    intro i j hij hj hb
    have h1 := c3 j (by omega) i hij
    simp only [hb, Bool.false_or, Bool.and_eq_true, Bool.not_eq_true'] at h1
    have hk : ∀ u, u = i ∨ u = j → (l.getD u fin).kd = .w → kindsOk bms l fin i j = true := by
      intro u hu huw
      have hum := (hws u).2 ⟨by omega, huw⟩
      rw [Bool.or_eq_true] at c4
      rcases c4 with c4 | c4
      · rw [List.isEmpty_iff] at c4
        rw [c4] at hum
        cases hum
      · simp only [Bool.and_eq_true, pairsOk, List.all_eq_true, List.mem_range] at c4
        rcases hu with rfl | rfl
        · have := c4.1 u hum j hj
          rwa [if_neg (by omega), if_pos hij] at this
        · have := c4.1 u hum i (by omega)
          rwa [if_pos hij] at this
    refine ⟨h1, fun hh => ?_, fun hh hh' => ?_⟩
    · have := hk i (.inl rfl) hh
      simp only [kindsOk, hb, Bool.false_or, Bool.and_eq_true, Bool.or_eq_true, Bool.not_eq_true', decide_eq_true_eq, decide_eq_false_iff_not] at this
      exact this.1.resolve_left (fun hn => hn hh)
    · have := hk j (.inr rfl) hh
      simp only [kindsOk, hb, Bool.false_or, Bool.and_eq_true, Bool.or_eq_true, Bool.not_eq_true', decide_eq_true_eq, decide_eq_false_iff_not] at this
      rcases this.2 with (h3 | h3) | h3
      · exact absurd hh h3
      · exact absurd hh' h3
      · exact h3
  have hU : Run P ops (fun i => l.getD i fin) (fun i j => bef bms i j = true) n := by
    refine ⟨hn, ?_, ?_, ?_, ?_, ?_, ?_, ?_, ?_⟩
    · intro j o ho e he hb
      have hj := (Array.getElem?_eq_some_iff.1 ho).1
      have := c1 j hj
      rw [ho] at this
      simp only [List.all_eq_true] at this
      have := this e (by simpa using he)
      simpa [hb] using this
    · intro i j hj hbf
      have ho : ops[j]? = some ops[j] := Array.getElem?_eq_getElem hj
      have := c2 j hj
      rw [ho] at this
      simp only [beq_iff_eq] at this
      refine ⟨_, ho, ?_⟩
      have hb' : (bmOf ops[j] bms).testBit i = true := by rw [← this]; exact hbf
      exact bmOf_spec hb'
    · intro j o hj ho
      have := (g4 j hj).1
      rw [Nat.zero_add] at this
      exact cstep_fact hP hR ho this
    · intro j o hj ho
      have := (g4 j hj).2
      rw [Nat.zero_add] at this
      have hd : dstOf ops j = o.dst := by simp [dstOf, ho]
      rw [hd] at this
      exact this
    · intro i j x hij hj hx
      cases hb : bef bms i j with
      | true => rfl
      | false =>
        exfalso
        obtain ⟨⟨h1, h2⟩, _⟩ := hpair i j hij hj hb
        rcases hx with ⟨h3, h4⟩ | ⟨h3, h4⟩
        · simp [meets, h3, h4] at h1
        · simp [meets, h3, h4] at h2
    · intro i j hij hj hw
      cases hb : bef bms i j with
      | true => exact .inr rfl
      | false => exact .inl ((hpair i j hij hj hb).2.1 hw)
    · intro i j hij hj hw hkb
      cases hb : bef bms i j with
      | true => exact .inr rfl
      | false => exact .inl ((hpair i j hij hj hb).2.2 hw hkb)
    · intro i p o hip hp ho hkq hpw hex
      have hi : i < n := by omega
      obtain ⟨u, hu1, hu2, hu3⟩ := hex
      have hum : u ∈ wsOf l n := (hws u).2 ⟨by omega, hu3⟩
      rw [Bool.or_eq_true] at c4
      have hc4 := (c4.resolve_left (fun hn => by rw [List.isEmpty_iff] at hn; rw [hn] at hum; cases hum))
      simp only [Bool.and_eq_true, List.all_eq_true, List.mem_range] at hc4
      have hc4 := hc4.2 i hi
      simp only [hkq, decide_true, Bool.not_true, Bool.false_or] at hc4
      unfold lateOk at hc4
      simp only [List.all_eq_true] at hc4
      have hc5 := hc4 p (by
        rw [List.mem_append]
        rcases hpw with rfl | hpw
        · exact .inr (by simp)
        · by_cases hpn : p = n
          · exact .inr (by simp [hpn])
          · exact .inl ((hws p).2 ⟨by omega, hpw⟩))
      have e1 : decide (i < p) = true := by simpa using hip
      have e3 : ((wsOf l n).any fun u => decide (i < u) && decide (u < p)) = true := by
        rw [List.any_eq_true]
        exact ⟨u, hum, by simp [hu1, hu2]⟩
      rw [e1, e3] at hc5
      simp only [Bool.not_true, Bool.false_or, Bool.or_eq_true, List.any_eq_true, Bool.and_eq_true, decide_eq_true_eq] at hc5
      rcases hc5 with ⟨v, hv1, ⟨hv2, hv3⟩, hv4⟩ | ⟨hs, hl⟩
      · exact .inl ⟨v, hv2, hv3, ((hws v).1 hv1).2, hv4⟩
      · right
        refine ⟨hs, ?_⟩
        unfold lateEval at hl
        simp only [ho, Bool.and_eq_true] at hl
        obtain ⟨⟨hgs, hw⟩, hl⟩ := hl
        split at hl
        · rename_i v G hev
          simp only [Bool.and_eq_true, decide_eq_true_eq] at hl
          have := veq_ok hl.1.1
          subst this
          exact ⟨G, loc_eval hP hR ho hgs hw hev, hl.1.2, hl.2⟩
        · cases hl
  have hg0 : ((fun i => l.getD i fin) 0).N = N := g3
  have hga : ((fun i => l.getD i fin) 0).a = a := g2
  have hnn : l.getD n fin = fin := by
    rw [List.getD_eq_getElem?_getD, List.getElem?_eq_none (by omega)]
    rfl
  have := region_ok hU hs hlast hm (E0 := E) (wz := w) (by rw [hg0]; exact hr) (by rw [hga]; exact ha) (O := O) (W := W) (lo := lo) (by rw [hg0]; exact ow) (by rw [hnn, ← hfin]; exact hlo) main J b id k cs K (by
    rw [hg0, hnn, ← hfin]
    exact hK)
  rw [hga] at this
  exact this
theorem cdraw_ok {P : Program} (hP : NoCount P) (hm : P.follows .mixedOrders = true) {R : Rec} (hR : RecOk P R) {ops : Array Oper} {a a' : CA} {N N' : CH} (h : cdraw P R ops a N = some (a', N'))
    {main : Bool} {J : World → Prop} [Ctx main J] {lo : Nat} {E : Env} {w : World} {O W : Nat → Prop} (hlo : lo ≤ N'.wm) (hr : Rel P E N w) (ow : Own O W lo E N w) (ha : a.Clo E.D) (b : Frame) (id : Nat) (k : List Item) (cs : List Frame)
    {K : (Nat → Prop) → (Nat → Prop) → Goroutine → World → Prop}
    (hK : ∀ O' W' E' w', Later P lo O W E N w O' W' E' N' w' → a'.Clo E'.D → Will P main J K O' W' (G (fat b (E'.act a') k) cs) w') :
    Will P main J K O W (G (fat b (E.act a) (.code (.region id ops true) :: k)) cs) w := by
  unfold cdraw at h
  split at h
  · rename_i l a1 N1 hc
    split at h
    · rename_i hok
      simp only [Option.some.injEq, Prod.mk.injEq] at h
      obtain ⟨rfl, rfl⟩ := h
      refine draw_core hP hm hR (Nat.le_refl _) (Nat.le_succ _) (fun h => absurd h (Nat.lt_irrefl _)) hc hok hlo hr ow ha b id k cs fun O' W' E' w' L hcl => ?_
      rw [Nat.sub_self]
      exact .quiet rfl (fun _ => g_region_end) (hK O' W' E' w' L hcl)
    · cases h
  · cases h
end Go.Eng
