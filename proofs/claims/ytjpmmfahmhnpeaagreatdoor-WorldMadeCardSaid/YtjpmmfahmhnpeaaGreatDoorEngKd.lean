/-
  The engine, part Kd: every order of a region comes to what the text's order comes to.
-/
import Derived.Test.YtjpmmfahmhnpeaaGreatDoorEngKc
namespace Go.Eng
set_option linter.unusedSimpArgs false
set_option linter.unusedVariables false

theorem Vs.trans {E E1 E2 : Env} {N N1 N2 : CH} {w w1 w2 : World} (h : Vs E N w E1 N1 w1) (g : Vs E1 N1 w1 E2 N2 w2) : Vs E N w E2 N2 w2 := (h.ext.trans g.ext).vs
theorem Vs.refl (E : Env) (N : CH) (w : World) : Vs E N w E N w := (Ext.refl E N w).vs

/-- A run in the text's order, and what holds of it. (bm i j: i is bound to be before j.) -/
structure Run (P : Program) (ops : Array Oper) (s : Nat → DS) (bm : Nat → Nat → Prop) (n : Nat) : Prop where
  size : n = ops.size
  edge : ∀ j o, ops[j]? = some o → ∀ e ∈ o.after, Region.binds .any e = true → e.on < j
  bms : ∀ i j, j < n → bm i j → ∃ o, ops[j]? = some o ∧ ∃ e ∈ o.after, Region.binds .any e = true ∧ (e.on = i ∨ bm i e.on)
  step : ∀ j o, ops[j]? = some o → StepFact P ops j o (s j).a (s j).N (s j).kd (s j).v (s (j + 1)).N
  put : ∀ j o, ops[j]? = some o → (s (j + 1)).a = (s j).a.put o.dst (s j).v
  tmps : ∀ i j x, i < j → j < n → ((dstOf ops i = some x ∧ x ∈ names ops j) ∨ (dstOf ops j = some x ∧ x ∈ names ops i)) → bm i j
  cw : ∀ i j, i < j → j < n → (s i).kd = .w → (s j).kd = .b ∨ bm i j
  cb : ∀ i j, i < j → j < n → (s j).kd = .w → (s i).kd = .b → (s i).N.sz = (s (i + 1)).N.sz ∨ bm i j
  cl : ∀ i p o, i < p → p ≤ n → ops[i]? = some o → (s i).kd = .q → (p = n ∨ (s p).kd = .w) → (∃ u, i < u ∧ u < p ∧ (s u).kd = .w) →
    (∃ u, i < u ∧ u < p ∧ (s u).kd = .w ∧ bm i u) ∨ ((s i).N.sz = (s (i + 1)).N.sz ∧ ∃ G, Loc P ops i o (s i).a (s p).N.guarded (s i).v G ∧ G.sz = (s p).N.sz ∧ (s p).N.sz ≤ G.wm)

section
variable {P : Program} {ops : Array Oper} {s : Nat → DS} {bm : Nat → Nat → Prop} {n : Nat}

theorem Run.op (U : Run P ops s bm n) {j : Nat} (h : j < n) : ∃ o, ops[j]? = some o := ⟨_, Array.getElem?_eq_getElem (by rw [← U.size]; exact h)⟩
theorem Run.op_lt (U : Run P ops s bm n) {j : Nat} {o : Oper} (h : ops[j]? = some o) : j < n := by rw [U.size]; exact (Array.getElem?_eq_some_iff.1 h).1

theorem Run.virt (U : Run P ops s bm n) {E0 : Env} {w0 : World} (R0 : Rel P E0 (s 0).N w0) (ha0 : (s 0).a.Clo E0.D) : ∀ j, j ≤ n → ∃ E w, Rel P E (s j).N w ∧ (s j).a.Clo E.D ∧ Vs E0 (s 0).N w0 E (s j).N w
  | 0, _ => ⟨E0, w0, R0, ha0, Vs.refl _ _ _⟩
  | j + 1, h => by
    obtain ⟨E, w, R, ha, V⟩ := U.virt R0 ha0 j (by omega)
    obtain ⟨o, ho⟩ := U.op (show j < n by omega)
    obtain ⟨E', w', R', V', hv, _⟩ := vstep (U.step j o ho) R ha
    refine ⟨E', w', R', ?_, V.trans V'⟩
    rw [U.put j o ho]
    exact (V'.ext.act ha).2.put _ hv
theorem Run.next (U : Run P ops s bm n) {E0 : Env} {w0 : World} (R0 : Rel P E0 (s 0).N w0) (ha0 : (s 0).a.Clo E0.D) (j : Nat) (h : j < n) :
    (s j).N.sz ≤ (s (j + 1)).N.sz ∧ ((s j).kd ≠ .w → ∀ k, k < (s j).N.sz → (s (j + 1)).N.get k = (s j).N.get k) := by
  obtain ⟨E, w, R, ha, V⟩ := U.virt R0 ha0 j (by omega)
  obtain ⟨o, ho⟩ := U.op h
  obtain ⟨E', w', R', V', hv, hk⟩ := vstep (U.step j o ho) R ha
  exact ⟨V'.size, hk⟩
theorem Run.mono (U : Run P ops s bm n) {E0 : Env} {w0 : World} (R0 : Rel P E0 (s 0).N w0) (ha0 : (s 0).a.Clo E0.D) (i : Nat) : ∀ d, i + d ≤ n → (s i).N.sz ≤ (s (i + d)).N.sz
  | 0, _ => Nat.le_refl _
  | d + 1, h => Nat.le_trans (U.mono R0 ha0 i d (by omega)) (U.next R0 ha0 (i + d) (by omega)).1
theorem Run.le (U : Run P ops s bm n) {E0 : Env} {w0 : World} (R0 : Rel P E0 (s 0).N w0) (ha0 : (s 0).a.Clo E0.D) {i j : Nat} (h : i ≤ j) (hj : j ≤ n) : (s i).N.sz ≤ (s j).N.sz := by
  have := U.mono R0 ha0 i (j - i) (by omega)
  rwa [show i + (j - i) = j by omega] at this
theorem Run.seg (U : Run P ops s bm n) {E0 : Env} {w0 : World} (R0 : Rel P E0 (s 0).N w0) (ha0 : (s 0).a.Clo E0.D) (i : Nat) : ∀ d, i + d ≤ n → (∀ u, i ≤ u → u < i + d → (s u).kd ≠ .w) →
    ∀ k, k < (s i).N.sz → (s (i + d)).N.get k = (s i).N.get k
  | 0, _, _, _, _ => rfl
  | d + 1, h, hu, k, hk => by
    have h1 := (U.next R0 ha0 (i + d) (by omega)).2 (hu (i + d) (by omega) (by omega)) k (Nat.lt_of_lt_of_le hk (U.mono R0 ha0 i d (by omega)))
    exact h1.trans (U.seg R0 ha0 i d (by omega) (fun u h1 h2 => hu u h1 (by omega)) k hk)
theorem Run.same (U : Run P ops s bm n) {E0 : Env} {w0 : World} (R0 : Rel P E0 (s 0).N w0) (ha0 : (s 0).a.Clo E0.D) {i j : Nat} (h : i ≤ j) (hj : j ≤ n) (hu : ∀ u, i ≤ u → u < j → (s u).kd ≠ .w)
    {k : Nat} (hk : k < (s i).N.sz) : (s j).N.get k = (s i).N.get k := by
  have := U.seg R0 ha0 i (j - i) (by omega) (fun u h1 h2 => hu u h1 (by omega)) k hk
  rwa [show i + (j - i) = j by omega] at this
theorem Run.wfb (U : Run P ops s bm n) {E0 : Env} {w0 : World} (R0 : Rel P E0 (s 0).N w0) (ha0 : (s 0).a.Clo E0.D) {p : Nat} (hp : p ≤ n) {k : Nat} {b : CB} (hk : E0.D k ∨ (s 0).N.sz ≤ k) (hlt : k < (s p).N.sz)
    (hb : (s p).N.get k = some b) : CBClo (fun k => k < (s p).N.sz) b := by
  obtain ⟨E, w, R, ha, V⟩ := U.virt R0 ha0 p hp
  have hD : E.D k := (V.dom k).2 (hk.imp id fun h => ⟨h, hlt⟩)
  exact (R.blk k b hD hb).clo.mono R.dom
theorem Run.wfa (U : Run P ops s bm n) {E0 : Env} {w0 : World} (R0 : Rel P E0 (s 0).N w0) (ha0 : (s 0).a.Clo E0.D) {p : Nat} (hp : p ≤ n) {u : Value} (hu : u ∈ (s p).a.tmps) : Clo (fun k => k < (s p).N.sz) u := by
  obtain ⟨E, w, R, ha, V⟩ := U.virt R0 ha0 p hp
  exact Clo_mono R.dom u (ha.tmps u hu)
theorem Run.ok (U : Run P ops s bm n) {E0 : Env} {w0 : World} (R0 : Rel P E0 (s 0).N w0) (ha0 : (s 0).a.Clo E0.D) {p : Nat} (hp : p ≤ n) : (s p).N.Ok := by
  obtain ⟨E, w, R, ha, V⟩ := U.virt R0 ha0 p hp
  exact R.ok

/-! ### temporaries -/
/-- The temporaries after the operations of S. -/
structure Tm (ops : Array Oper) (s : Nat → DS) (n : Nat) (S : Nat → Prop) (c : List Value) : Prop where
  len : c.length = (s 0).a.tmps.length
  set : ∀ x i, S i → i < n → dstOf ops i = some x → (∀ i', S i' → i' < n → dstOf ops i' = some x → i' ≤ i) → x < c.length → c[x]? = some (s i).v
  old : ∀ x, (∀ i, S i → i < n → dstOf ops i ≠ some x) → c[x]? = (s 0).a.tmps[x]?
theorem Tm.agree {S S' : Nat → Prop} {c c' : List Value} (h : Tm ops s n S c) (h' : Tm ops s n S' c') {x : Nat} (hs : ∀ i, i < n → dstOf ops i = some x → (S i ↔ S' i)) : c[x]? = c'[x]? := by
  classical
  by_cases hx : x < c.length
  · by_cases hex : ∃ i, S i ∧ i < n ∧ dstOf ops i = some x
    · -- the last of them
      have hmax : ∃ i, (S i ∧ i < n ∧ dstOf ops i = some x) ∧ ∀ i', (S i' ∧ i' < n ∧ dstOf ops i' = some x) → i' ≤ i := by
        have key : ∀ d, (∃ i, i < d ∧ S i ∧ i < n ∧ dstOf ops i = some x) → ∃ i, (i < d ∧ S i ∧ i < n ∧ dstOf ops i = some x) ∧ ∀ i', (i' < d ∧ S i' ∧ i' < n ∧ dstOf ops i' = some x) → i' ≤ i := by
          intro d
          induction d with
          | zero => rintro ⟨i, h, _⟩; omega
          | succ d ih =>
            rintro ⟨i, hi, h1⟩
            by_cases hd : S d ∧ d < n ∧ dstOf ops d = some x
            · exact ⟨d, ⟨by omega, hd⟩, fun i' h => by omega⟩
            · have hne : i ≠ d := fun e => hd (e ▸ h1)
              obtain ⟨m, ⟨hm, hm1⟩, hm2⟩ := ih ⟨i, by omega, h1⟩
              refine ⟨m, ⟨by omega, hm1⟩, fun i' h => ?_⟩
              have hne' : i' ≠ d := fun e => hd (e ▸ h.2)
              exact hm2 i' ⟨by omega, h.2⟩
        obtain ⟨i, hi⟩ := hex
        obtain ⟨m, ⟨_, hm1⟩, hm2⟩ := key n ⟨i, hi.2.1, hi⟩
        exact ⟨m, hm1, fun i' h => hm2 i' ⟨h.2.1, h⟩⟩
      obtain ⟨i, ⟨h1, h2, h3⟩, h4⟩ := hmax
      rw [h.set x i h1 h2 h3 (fun i' a b c => h4 i' ⟨a, b, c⟩) hx]
      rw [h'.set x i ((hs i h2 h3).1 h1) h2 h3 (fun i' a b c => h4 i' ⟨(hs i' b c).2 a, b, c⟩) (by rw [h'.len, ← h.len]; exact hx)]
    · rw [h.old x (fun i a b c => hex ⟨i, a, b, c⟩), h'.old x (fun i a b c => hex ⟨i, (hs i b c).2 a, b, c⟩)]
  · rw [List.getElem?_eq_none (by omega), List.getElem?_eq_none (by rw [h'.len, ← h.len]; omega)]
theorem Tm.put {S : Nat → Prop} {c : List Value} (h : Tm ops s n S c) {j : Nat} (hj : j < n) {o : Oper} (ho : ops[j]? = some o) (hlast : ∀ i, S i → i < n → ∀ x, dstOf ops i = some x → dstOf ops j = some x → i ≤ j) (dm : List DM) :
    Tm ops s n (fun i => S i ∨ i = j) ((⟨c, dm⟩ : CA).put o.dst (s j).v).tmps := by
  have hd : dstOf ops j = o.dst := by simp [dstOf, ho]
  cases hdst : o.dst with
  | none =>
    refine ⟨h.len, fun x i hi hin hx hm hl => ?_, fun x hx => h.old x (fun i a b => hx i (.inl a) b)⟩
    rcases hi with hi | rfl
    · exact h.set x i hi hin hx (fun i' a b d => hm i' (.inl a) b d) hl
    · rw [hd, hdst] at hx; cases hx
  | some y =>
    have hdy : dstOf ops j = some y := by rw [hd, hdst]
    refine ⟨by simp [CA.put, h.len], fun x i hi hin hx hm hl => ?_, fun x hx => ?_⟩
    · simp only [CA.put, List.length_set] at hl
      simp only [CA.put]
      by_cases hxy : y = x
      · subst hxy
        have hij : i = j := by
          have h1 := hm j (.inr rfl) hj hdy
          rcases hi with hi | hi
          · have := hlast i hi hin y hx hdy; omega
          · exact hi
        subst hij
        rw [List.getElem?_set_self hl]
      · rw [List.getElem?_set_ne hxy]
        rcases hi with hi | rfl
        · exact h.set x i hi hin hx (fun i' a b d => hm i' (.inl a) b d) hl
        · rw [hdy] at hx; cases hx; exact absurd rfl hxy
    · have hxy : y ≠ x := fun e => hx j (.inr rfl) hj (by rw [hdy, e])
      simp only [CA.put]
      rw [List.getElem?_set_ne hxy]
      exact h.old x (fun i a b => hx i (.inl a) b)
theorem Run.tm (U : Run P ops s bm n) : ∀ j, j ≤ n → Tm ops s n (fun i => i < j) (s j).a.tmps
  | 0, _ => ⟨rfl, fun x i hi => absurd hi (Nat.not_lt_zero _), fun x _ => rfl⟩
  | j + 1, h => by
    obtain ⟨o, ho⟩ := U.op (show j < n by omega)
    have := (U.tm j (by omega)).put (by omega) ho (fun i hi _ x _ _ => Nat.le_of_lt hi) (s j).a.dm
    rw [U.put j o ho]
    refine ⟨this.len, fun x i hi hin hx hm hl => this.set x i ?_ hin hx (fun i' a b d => hm i' ?_ b d) hl, fun x hx => this.old x (fun i a b => hx i ?_ b)⟩
    · have : i < j + 1 := hi
      omega
    · show i' < j + 1
      omega
    · show i < j + 1
      omega

/-! ### sets of operations done -/
def Closed (ops : Array Oper) (S : Nat → Prop) : Prop := ∀ j o, S j → ops[j]? = some o → ∀ e ∈ o.after, Region.binds .any e = true → S e.on
theorem Run.down (U : Run P ops s bm n) {S : Nat → Prop} (hS : Closed ops S) {j : Nat} {o : Oper} (ho : ops[j]? = some o) (hr : ∀ e ∈ o.after, Region.binds .any e = true → S e.on) {i : Nat} (h : bm i j) : S i := by
  have key : ∀ j, j < n → (∀ o, ops[j]? = some o → ∀ e ∈ o.after, Region.binds .any e = true → S e.on) → ∀ i, bm i j → S i := by
    intro j
    induction j using Nat.strongRecOn with
    | _ j ih =>
      intro hj hr i h
      obtain ⟨o, ho, e, he, hb, h1⟩ := U.bms i j hj h
      rcases h1 with rfl | h1
      · exact hr o ho e he hb
      · have hlt := U.edge j o ho e he hb
        exact ih e.on hlt (by omega) (fun o' ho' e' he' hb' => hS e.on o' (hr o ho e he hb) ho' e' he' hb') i h1
  exact key j (U.op_lt ho) (fun o' ho' => by rw [ho] at ho'; cases ho'; exact hr) i h
theorem Run.down' (U : Run P ops s bm n) {S : Nat → Prop} (hS : Closed ops S) {i j : Nat} (hj : j < n) (hs : S j) (h : bm i j) : S i := by
  obtain ⟨o, ho⟩ := U.op hj
  exact U.down hS ho (hS j o hs ho) h

/-- q: the first operation of kind w not yet done (n: there is none). -/
structure Nxt (s : Nat → DS) (n : Nat) (S : Nat → Prop) (q : Nat) : Prop where
  le : q ≤ n
  kd : q < n → (s q).kd = .w
  lt : ∀ u, u < n → (s u).kd = .w → (S u ↔ u < q)
theorem first_w (s : Nat → DS) (n : Nat) : ∀ d i, i + d = n → ∃ q, i ≤ q ∧ q ≤ n ∧ (q < n → (s q).kd = .w) ∧ ∀ u, i ≤ u → u < q → (s u).kd ≠ .w
  | 0, i, h => ⟨i, Nat.le_refl _, by omega, fun h' => by omega, fun u h1 h2 => by omega⟩
  | d + 1, i, h => by
    by_cases hk : (s i).kd = .w
    · exact ⟨i, Nat.le_refl _, by omega, fun _ => hk, fun u h1 h2 => by omega⟩
    · obtain ⟨q, h1, h2, h3, h4⟩ := first_w s n d (i + 1) (by omega)
      refine ⟨q, by omega, h2, h3, fun u hu hq => ?_⟩
      by_cases he : u = i
      · subst he; exact hk
      · exact h4 u (by omega) hq

structure Inv (P : Program) (ops : Array Oper) (s : Nat → DS) (n : Nat) (E0 : Env) (w0 : World) (dm : List DM) (S : Nat → Prop) (q : Nat) (E : Env) (M : CH) (w : World) (c : List Value) : Prop where
  rel : Rel P E M w
  wx : Wx E0 (s 0).N w0 E M w
  dom : ∀ k, E.D k ↔ E0.D k ∨ ∃ i, S i ∧ i < n ∧ (s i).N.sz ≤ k ∧ k < (s (i + 1)).N.sz
  sz : M.sz = (s n).N.sz
  c1 : ∀ k, E.D k → k < (s q).N.sz → M.get k = (s q).N.get k
  c2 : ∀ k i, E.D k → (s q).N.sz ≤ k → i < n → (s i).N.sz ≤ k → k < (s (i + 1)).N.sz → M.get k = (s (i + 1)).N.get k
  clo : CA.Clo E.D ⟨c, dm⟩
  tm : Tm ops s n S c
  nxt : Nxt s n S q

end
end Go.Eng
