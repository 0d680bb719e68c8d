/-
  The engine, part Ke: the next operation of an order.
-/
import Derived.Test.YtjpmmfahmhnpeaaGreatDoorEngKd
namespace Go.Eng
set_option linter.unusedSimpArgs false
set_option linter.unusedVariables false

section
variable {P : Program} {ops : Array Oper} {s : Nat → DS} {bm : Nat → Nat → Prop} {n : Nat}

theorem looks_names {o : Oper} {j x : Nat} (ho : ops[j]? = some o) (h : x ∈ o.looksAt ops) : x ∈ names ops j := by simp [names, ho, h]
theorem dst_names {o : Oper} {j x : Nat} (ho : ops[j]? = some o) (h : dstOf ops j = some x) : x ∈ names ops j := by
  have : o.dst = some x := by simpa [dstOf, ho] using h
  simp [names, ho, this]

/-- An operation, with what it sees, inside of the whole. -/
theorem mid (U : Run P ops s bm n) {E0 : Env} {w0 : World} (R0 : Rel P E0 (s 0).N w0) (ha0 : (s 0).a.Clo E0.D) {dm : List DM} {S : Nat → Prop} {q : Nat} {E : Env} {M : CH} {w : World} {c : List Value}
    (I : Inv P ops s n E0 w0 dm S q E M w c) (hS : Closed ops S) {j : Nat} {o : Oper} (hj : j < n) (ho : ops[j]? = some o) (hnS : ¬ S j) (hr : ∀ e ∈ o.after, Region.binds .any e = true → S e.on)
    {Nl G : CH} (vis : Bool) (hloc : Loc P ops j o (s j).a Nl (s j).v G) (hjN : (s j).N.sz ≤ Nl.sz) (hnl : Rel P { E with D := fun k => E.D k ∧ k < Nl.sz } Nl w)
    (hvis : vis = true → ∀ k, E.D k → k < Nl.sz → Nl.get k = M.get k) (hinv : vis = false → ∀ k, Nl.get k = none)
    (hdisj : ∀ k, E.D k → ¬ (Nl.sz ≤ k ∧ k < G.sz)) (hGsz : Nl.sz ≤ (s n).N.sz ∧ (Nl.sz ≤ G.sz → G.sz ≤ (s n).N.sz))
    (b : Frame) (rest : List Nat) (k : List Item) (cs : List Frame) :
    ∃ E' M' w', Rel P E' M' w' ∧ Wx E M w E' M' w' ∧ (∀ k, E'.D k ↔ E.D k ∨ (Nl.sz ≤ k ∧ k < G.sz)) ∧ M'.sz = (s n).N.sz ∧ Nl.sz ≤ G.sz ∧
      (∀ k, Nl.sz ≤ k → k < G.sz → M'.get k = G.get k) ∧ (vis = true → ∀ k, E.D k → k < Nl.sz → M'.get k = G.get k) ∧ (∀ k, E.D k → ¬ (k < Nl.sz ∧ vis = true) → M'.get k = M.get k) ∧
      (∀ k, k < Nl.sz → k < G.wm → G.get k = Nl.get k) ∧
      CA.Clo E'.D ((⟨c, dm⟩ : CA).put o.dst (s j).v) ∧
      Steps P (lone (fat b (E.act ⟨c, dm⟩) (.inRegion ops (j :: rest) :: k)) cs w) (lone (fat b (E'.act ((⟨c, dm⟩ : CA).put o.dst (s j).v)) (.inRegion ops rest :: k)) cs w') := by
  classical
  -- the temporaries that it looks at are those of the text's order
  have hagree : ∀ x ∈ o.looksAt ops, c[x]? = (s j).a.tmps[x]? := by
    intro x hx
    refine I.tm.agree (U.tm j (by omega)) ?_
    intro i hi hd
    constructor
    · intro hSi
      rcases Nat.lt_trichotomy i j with h | h | h
      · exact h
      · subst h; exact absurd hSi hnS
      · have := U.tmps j i x h hi (.inr ⟨hd, looks_names ho hx⟩)
        exact absurd (U.down' hS hi hSi this) hnS
    · intro hij
      exact U.down hS ho hr (U.tmps i j x hij hj (.inl ⟨hd, looks_names ho hx⟩))
  have hA : ∀ x ∈ o.looksAt ops, (E.act ⟨c, dm⟩).tmps[x]? = ((s j).a.tmps[x]?).map (Env.m { E with D := fun k => E.D k ∧ k < Nl.sz }) ∧ ∀ u, (s j).a.tmps[x]? = some u → Clo (fun k => E.D k ∧ k < Nl.sz) u := by
    intro x hx
    have h1 := hagree x hx
    refine ⟨?_, ?_⟩
    · rw [← h1]
      simp only [Env.act, List.getElem?_toArray, List.getElem?_map]
      rfl
    · intro u hu
      refine Clo_and u ?_ ?_
      · exact I.clo.tmps u (List.mem_of_getElem? (by rw [h1]; exact hu))
      · exact Clo_mono (fun k hk => Nat.lt_of_lt_of_le hk hjN) u (U.wfa R0 ha0 (Nat.le_of_lt hj) (List.mem_of_getElem? hu))
  obtain ⟨E'', w'', R'', X, hv, hsteps⟩ := hloc _ w (E.act ⟨c, dm⟩) hnl hA b rest k cs
  have hGn := hGsz.2 X.size
  have hMok := I.rel.ok
  let g : Nat → Option CB := fun k => if Nl.sz ≤ k ∧ k < G.sz then G.get k else if k < Nl.sz ∧ vis = true then G.get k else M.get k
  have hg : ∀ k, k < (s n).N.sz → (CH.ofFn (s n).N.sz g).get k = g k := fun k hk => CH.get_ofFn g hk
  have hEn : ∀ k, E.D k → k < (s n).N.sz := fun k hk => by rw [← I.sz]; exact I.rel.dom k hk
  have hn1 : ∀ k, Nl.sz ≤ k → k < G.sz → (CH.ofFn (s n).N.sz g).get k = G.get k := fun k h1 h2 => by
    rw [hg k (by omega)]
    simp only [g, h1, h2, and_self, if_true]
  have hn2 : vis = true → ∀ k, E.D k → k < Nl.sz → (CH.ofFn (s n).N.sz g).get k = G.get k := fun hvt k h1 h2 => by
    rw [hg k (hEn k h1)]
    have : ¬ (Nl.sz ≤ k ∧ k < G.sz) := by omega
    simp only [g, this, if_false, h2, hvt, and_self, if_true]
  have hn3 : ∀ k, E.D k → ¬ (k < Nl.sz ∧ vis = true) → (CH.ofFn (s n).N.sz g).get k = M.get k := fun k h1 h2 => by
    rw [hg k (hEn k h1)]
    have := hdisj k h1
    simp only [g, this, if_false, h2]
  obtain ⟨E', R', X', hD, hclo⟩ := recombine (N := Nl) (D' := fun k => E.D k ∧ k < Nl.sz) (Vis := fun _ => vis = true) (M' := CH.ofFn (s n).N.sz g) I.rel (fun _ h => h.1)
    (fun k h1 h2 => hvis h2 k h1.1 h1.2) (fun k _ h2 => hinv (by simpa using h2) k) R'' X hdisj (CH.ok_ofFn g)
    (by
      rintro k (hk | hk)
      · exact hEn k hk
      · show k < (s n).N.sz
        omega) hn1 (fun k h1 h2 => hn2 h2 k h1.1 h1.2) (fun k h1 h2 => hn3 k h1 (fun hh => h2 ⟨⟨h1, hh.1⟩, hh.2⟩))
  have hactE : E'.act ⟨c, dm⟩ = E.act ⟨c, dm⟩ ∧ CA.Clo E'.D ⟨c, dm⟩ := by
    refine ⟨?_, ⟨fun v hv => Clo_mono (fun k hk => (X'.mono k hk).1) v (I.clo.tmps v hv), fun d hd => (I.clo.dm d hd).mono fun k hk => (X'.mono k hk).1⟩⟩
    have h1 : c.map E'.m = c.map E.m := List.map_congr_left fun v hv => mv_ext X'.op (fun k hk => (X'.mono k hk).2) v (I.clo.tmps v hv)
    have h2 : dm.map E'.dm = dm.map E.dm := List.map_congr_left fun d hd => dm_ext X'.op (fun k hk => (X'.mono k hk).2) (I.clo.dm d hd)
    unfold Env.act
    simp only [h1, h2]
  refine ⟨E', CH.ofFn (s n).N.sz g, w'', R', X', hD, rfl, X.size, hn1, hn2, hn3, X.keep, hactE.2.put _ (hclo _ hv).1, ?_⟩
  rw [← act_put, hactE.1, (hclo _ hv).2]
  exact hsteps

theorem nxt_keep {S : Nat → Prop} {q j : Nat} (h : Nxt s n S q) (hk : (s j).kd ≠ .w) : Nxt s n (fun i => S i ∨ i = j) q :=
  ⟨h.le, h.kd, fun u hu hw => ⟨fun hh => hh.elim (fun hh => (h.lt u hu hw).1 hh) (fun e => absurd (e ▸ hw) hk), fun hq => .inl ((h.lt u hu hw).2 hq)⟩⟩

theorem istep (U : Run P ops s bm n) {E0 : Env} {w0 : World} (R0 : Rel P E0 (s 0).N w0) (ha0 : (s 0).a.Clo E0.D) {dm : List DM} {S : Nat → Prop} {q : Nat} {E : Env} {M : CH} {w : World} {c : List Value}
    (I : Inv P ops s n E0 w0 dm S q E M w c) (hS : Closed ops S) {j : Nat} {o : Oper} (hj : j < n) (ho : ops[j]? = some o) (hnS : ¬ S j) (hr : ∀ e ∈ o.after, Region.binds .any e = true → S e.on)
    (b : Frame) (rest : List Nat) (k : List Item) (cs : List Frame) :
    ∃ q' E' M' w', Inv P ops s n E0 w0 dm (fun i => S i ∨ i = j) q' E' M' w' ((⟨c, dm⟩ : CA).put o.dst (s j).v).tmps ∧
      Steps P (lone (fat b (E.act ⟨c, dm⟩) (.inRegion ops (j :: rest) :: k)) cs w) (lone (fat b (E'.act ((⟨c, dm⟩ : CA).put o.dst (s j).v)) (.inRegion ops rest :: k)) cs w') := by
  have hqn := I.nxt.le
  have hput : ∀ a : CA, (a.put o.dst (s j).v).dm = a.dm := by intro a; cases o.dst <;> rfl
  have hputc : (⟨((⟨c, dm⟩ : CA).put o.dst (s j).v).tmps, dm⟩ : CA) = (⟨c, dm⟩ : CA).put o.dst (s j).v := by cases o.dst <;> rfl
  have hjn := U.next R0 ha0 j hj
  have hle : ∀ {i j : Nat}, i ≤ j → j ≤ n → (s i).N.sz ≤ (s j).N.sz := fun h1 h2 => U.le R0 ha0 h1 h2
  -- what is realized lies where it was laid
  have hDlt : ∀ k, E.D k → E0.D k ∨ (s 0).N.sz ≤ k := by
    intro k hk
    rcases (I.dom k).1 hk with h | ⟨i, _, hi, h, _⟩
    · exact .inl h
    · exact .inr (Nat.le_trans (hle (Nat.zero_le i) (by omega)) h)
  have hdisj : ∀ k, E.D k → ¬ ((s j).N.sz ≤ k ∧ k < (s (j + 1)).N.sz) := by
    intro k hk hh
    rcases (I.dom k).1 hk with h | ⟨i, hSi, hi, h1, h2⟩
    · have h3 := R0.dom k h
      have := hle (Nat.zero_le j) (by omega)
      omega
    · rcases Nat.lt_trichotomy i j with h | h | h
      · have := hle (show i + 1 ≤ j by omega) (by omega)
        omega
      · subst h; exact hnS hSi
      · have := hle (show j + 1 ≤ i by omega) (by omega)
        omega
  have hdom : ∀ {E' : Env}, (∀ k, E'.D k ↔ E.D k ∨ ((s j).N.sz ≤ k ∧ k < (s (j + 1)).N.sz)) → ∀ k, E'.D k ↔ E0.D k ∨ ∃ i, (S i ∨ i = j) ∧ i < n ∧ (s i).N.sz ≤ k ∧ k < (s (i + 1)).N.sz := by
    intro E' h k
    rw [h k, I.dom k]
    constructor
    · rintro ((h1 | ⟨i, h1, h2⟩) | h1)
      · exact .inl h1
      · exact .inr ⟨i, .inl h1, h2⟩
      · exact .inr ⟨j, .inr rfl, hj, h1⟩
    · rintro (h1 | ⟨i, h1 | rfl, h2⟩)
      · exact .inl (.inl h1)
      · exact .inl (.inr ⟨i, h1, h2⟩)
      · exact .inr h2.2
  have htm : Tm ops s n (fun i => S i ∨ i = j) ((⟨c, dm⟩ : CA).put o.dst (s j).v).tmps := by
    refine I.tm.put hj ho ?_ dm
    intro i hSi hi x h1 h2
    rcases Nat.lt_or_ge j i with h | h
    · have := U.tmps j i x h hi (.inr ⟨h1, dst_names ho h2⟩)
      exact absurd (U.down' hS hi hSi this) hnS
    · exact h
  -- memory, seen at an index of the text's order
  have hseen : ∀ p, p ≤ n → (∀ k, E.D k → k < (s p).N.sz → (s p).N.get k = M.get k) → Rel P { E with D := fun k => E.D k ∧ k < (s p).N.sz } (s p).N w := by
    intro p hp hget
    refine I.rel.less (fun _ h => h.1) (fun g hg => ⟨(I.rel.gl g hg).1, Nat.lt_of_lt_of_le (R0.dom g (R0.gl g hg).1) (U.le R0 ha0 (Nat.zero_le p) hp)⟩) (U.ok R0 ha0 hp) (fun _ h => h.2) (fun k h => hget k h.1 h.2) ?_
    intro k b hk hb
    have hEc : CBClo E.D b := (I.rel.blk k b hk.1 (by rw [← hget k hk.1 hk.2]; exact hb)).clo
    exact hEc.and (U.wfb R0 ha0 hp (hDlt k hk.1) hk.2 hb)
  cases hkd : (s j).kd with
  | w =>
    obtain ⟨G, hfact, hG⟩ : ∃ G, Loc P ops j o (s j).a (s j).N.guarded (s j).v G ∧ (s (j + 1)).N = (s j).N.back G := by
      have := U.step j o ho
      rw [hkd] at this
      exact this
    have hGsz : G.sz = (s (j + 1)).N.sz := by rw [hG]; rfl
    have hGget : ∀ k, G.get k = (s (j + 1)).N.get k := fun k => by rw [hG]; rfl
    have hgs : (s j).N.guarded.sz = (s j).N.sz := rfl
    -- it is the next of kind w
    have hjq : j = q := by
      rcases Nat.lt_trichotomy j q with h | h | h
      · exact absurd ((I.nxt.lt j hj hkd).2 h) hnS
      · exact h
      · have hqw := I.nxt.kd (by omega)
        rcases U.cw q j h hj hqw with h1 | h1
        · rw [hkd] at h1; cases h1
        · have := (I.nxt.lt q (by omega) hqw).1 (U.down hS ho hr h1)
          omega
    subst hjq
    have hget : ∀ k, E.D k → k < (s j).N.sz → (s j).N.get k = M.get k := fun k h1 h2 => (I.c1 k h1 h2).symm
    obtain ⟨E', M', w', R', X', hD, hsz, _, h1, h2, h3, _, hcl, hst⟩ := mid U R0 ha0 I hS hj ho hnS hr true hfact (Nat.le_refl _) (hseen j (by omega) hget).guard (fun _ => hget) (fun h => by cases h) (by rw [hGsz]; exact hdisj)
      ⟨by rw [hgs]; exact hle (by omega) (Nat.le_refl _), fun _ => by rw [hGsz]; exact hle (by omega) (Nat.le_refl _)⟩ b rest k cs
    rw [hgs] at hD h1 h2 h3
    rw [hGsz] at hD h1
    obtain ⟨q', hq1, hq2, hq3, hq4⟩ := first_w s n (n - (j + 1)) (j + 1) (by omega)
    have hseg : ∀ i k, j < i → i ≤ q' → k < (s i).N.sz → (s q').N.get k = (s i).N.get k := fun i k h1 h2 h3 => U.same R0 ha0 h2 hq2 (fun u hu1 hu2 => hq4 u (by omega) hu2) h3
    refine ⟨q', E', M', w', ⟨R', I.wx.trans X', hdom hD, hsz, ?_, ?_, by rw [hputc]; exact hcl, htm, ?_⟩, hst⟩
    · intro k hk hlt
      rcases (hD k).1 hk with hE | hE
      · by_cases hkj : k < (s j).N.sz
        · rw [h2 rfl k hE hkj, hGget, hseg (j + 1) k (by omega) hq1 (by omega)]
        · rw [h3 k hE (fun hh => hkj hh.1)]
          rcases (I.dom k).1 hE with h | ⟨i, hSi, hi, hi1, hi2⟩
          · have := R0.dom k h
            have := hle (Nat.zero_le j) (by omega)
            omega
          · rw [I.c2 k i hE (by omega) hi hi1 hi2]
            have hij : j < i := by
              rcases Nat.lt_trichotomy j i with h | h | h
              · exact h
              · subst h; exact absurd hSi hnS
              · have := hle (show i + 1 ≤ j by omega) (by omega)
                omega
            have hiq : i + 1 ≤ q' := by
              rcases Nat.lt_or_ge i q' with h | h
              · exact h
              · have := hle h (by omega)
                omega
            exact (hseg (i + 1) k (by omega) hiq hi2).symm
      · rw [h1 k hE.1 hE.2, hGget, hseg (j + 1) k (by omega) hq1 hE.2]
    · intro k i hk hge hi hi1 hi2
      have hkj : ¬ k < (s j).N.sz := by
        have := hle (show j ≤ q' by omega) hq2
        omega
      rcases (hD k).1 hk with hE | hE
      · rw [h3 k hE (fun hh => hkj hh.1)]
        exact I.c2 k i hE (by omega) hi hi1 hi2
      · have := hle hq1 hq2
        omega
    · refine ⟨hq2, hq3, fun u hu hw => ⟨?_, ?_⟩⟩
      · rintro (h | rfl)
        · have := (I.nxt.lt u hu hw).1 h
          omega
        · omega
      · intro huq
        rcases Nat.lt_trichotomy u j with h | h | h
        · exact .inl ((I.nxt.lt u hu hw).2 h)
        · exact .inr h
        · exact absurd hw (hq4 u (by omega) huq)
  | q =>
    obtain ⟨G, hfact, hG⟩ : ∃ G, Loc P ops j o (s j).a (s j).N.guarded (s j).v G ∧ (s (j + 1)).N = ⟨G.sz, (s j).N.wm, G.base, G.t⟩ := by
      have := U.step j o ho
      rw [hkd] at this
      obtain ⟨G, h1, _, h3⟩ := this
      exact ⟨G, h1, h3⟩
    have hnw : (s j).kd ≠ .w := by rw [hkd]; intro h; cases h
    have hGsz : G.sz = (s (j + 1)).N.sz := by rw [hG]
    have hGget : ∀ k, G.get k = (s (j + 1)).N.get k := fun k => by rw [hG]; rfl
    -- all of kind w ahead of it are done
    have hjq : j < q := by
      rcases Nat.lt_trichotomy j q with h | h | h
      · exact h
      · subst h
        exact absurd (I.nxt.kd hj) hnw
      · have hqw := I.nxt.kd (by omega)
        rcases U.cw q j h hj hqw with h1 | h1
        · rw [hkd] at h1; cases h1
        · have := (I.nxt.lt q (by omega) hqw).1 (U.down hS ho hr h1)
          omega
    by_cases hseg0 : ∃ u, j < u ∧ u < q ∧ (s u).kd = .w
    · -- it reads later than the text has it
      have hlate := (U.cl j q o hjq hqn ho hkd ((Nat.lt_or_ge q n).elim (fun h => .inr (I.nxt.kd h)) (fun h => .inl (by omega))) hseg0).resolve_left (by
        rintro ⟨u, hu1, hu2, hu3, hu4⟩
        exact hnS (U.down' hS (show u < n by omega) ((I.nxt.lt u (by omega) hu3).2 hu2) hu4))
      obtain ⟨hno, G', hloc, hGs, hGw⟩ := hlate
      have hgs : (s q).N.guarded.sz = (s q).N.sz := rfl
      have hget : ∀ k, E.D k → k < (s q).N.sz → (s q).N.get k = M.get k := fun k h1 h2 => (I.c1 k h1 h2).symm
      obtain ⟨E', M', w', R', X', hD, hsz, _, h1, h2, h3, hkeep, hcl, hst⟩ := mid U R0 ha0 I hS hj ho hnS hr true hloc (by rw [hgs]; exact hle (by omega) hqn) (hseen q hqn hget).guard (fun _ => hget) (fun h => by cases h)
        (fun k _ hh => by rw [hgs] at hh; omega) ⟨by rw [hgs]; exact hle hqn (Nat.le_refl _), fun _ => by rw [hGs]; exact hle hqn (Nat.le_refl _)⟩ b rest k cs
      have hD' : ∀ k, E'.D k ↔ E.D k ∨ ((s j).N.sz ≤ k ∧ k < (s (j + 1)).N.sz) := by
        intro k
        rw [hD k, hgs]
        constructor
        · rintro (h | h)
          · exact .inl h
          · omega
        · rintro (h | h)
          · exact .inl h
          · omega
      have hDE : ∀ k, E'.D k → E.D k := fun k hk => ((hD k).1 hk).resolve_right (by rw [hgs]; omega)
      refine ⟨q, E', M', w', ⟨R', I.wx.trans X', hdom hD', hsz, ?_, ?_, by rw [hputc]; exact hcl, htm, nxt_keep I.nxt hnw⟩, hst⟩
      · intro k hk hlt
        rw [h2 rfl k (hDE k hk) hlt]
        exact hkeep k hlt (Nat.lt_of_lt_of_le hlt hGw)
      · intro k i hk hge hi hi1 hi2
        rw [h3 k (hDE k hk) (fun hh => by rw [hgs] at hh; omega)]
        exact I.c2 k i (hDE k hk) hge hi hi1 hi2
    · have hnow : ∀ u, j ≤ u → u < q → (s u).kd ≠ .w := by
        intro u h1 h2 hw
        by_cases he : u = j
        · subst he; exact hnw hw
        · exact hseg0 ⟨u, by omega, h2, hw⟩
      have hgs : (s j).N.guarded.sz = (s j).N.sz := rfl
      have hsame : ∀ i k, j ≤ i → i ≤ q → k < (s i).N.sz → (s q).N.get k = (s i).N.get k := fun i k h1 h2 h3 => U.same R0 ha0 h2 hqn (fun u hu1 hu2 => hnow u (by omega) hu2) h3
      have hget : ∀ k, E.D k → k < (s j).N.sz → (s j).N.get k = M.get k := fun k h1 h2 => by
        rw [I.c1 k h1 (Nat.lt_of_lt_of_le h2 (hle (by omega) hqn)), hsame j k (Nat.le_refl _) (by omega) h2]
      obtain ⟨E', M', w', R', X', hD, hsz, _, h1, h2, h3, _, hcl, hst⟩ := mid U R0 ha0 I hS hj ho hnS hr true hfact (Nat.le_refl _) (hseen j (by omega) hget).guard (fun _ => hget) (fun h => by cases h)
        (by rw [hGsz]; exact hdisj) ⟨by rw [hgs]; exact hle (by omega) (Nat.le_refl _), fun _ => by rw [hGsz]; exact hle (by omega) (Nat.le_refl _)⟩ b rest k cs
      rw [hgs] at hD h1 h2 h3
      rw [hGsz] at hD h1
      refine ⟨q, E', M', w', ⟨R', I.wx.trans X', hdom hD, hsz, ?_, ?_, by rw [hputc]; exact hcl, htm, nxt_keep I.nxt hnw⟩, hst⟩
      · intro k hk hlt
        rcases (hD k).1 hk with hE | hE
        · by_cases hkj : k < (s j).N.sz
          · rw [h2 rfl k hE hkj, hGget, hsame (j + 1) k (by omega) (by omega) (by omega)]
          · rw [h3 k hE (fun hh => hkj hh.1), I.c1 k hE hlt]
        · rw [h1 k hE.1 hE.2, hGget, hsame (j + 1) k (by omega) (by omega) hE.2]
      · intro k i hk hge hi hi1 hi2
        have hjq' := hle (show j + 1 ≤ q by omega) hqn
        rcases (hD k).1 hk with hE | hE
        · rw [h3 k hE (fun hh => by omega)]
          exact I.c2 k i hE hge hi hi1 hi2
        · omega
  | b =>
    obtain ⟨B, hfact, hrest⟩ : ∃ B, Loc P ops j o (s j).a (CH.blind (s j).N.sz) (s j).v B ∧ ((s j).N.Ok → (s j).N.sz ≤ B.sz → (s (j + 1)).N.sz = B.sz ∧ (s (j + 1)).N.wm = (s j).N.wm ∧ (s (j + 1)).N.Ok ∧
        (∀ k, k < (s j).N.sz → (s (j + 1)).N.get k = (s j).N.get k) ∧ (∀ k, (s j).N.sz ≤ k → k < (s (j + 1)).N.sz → (s (j + 1)).N.get k = B.get k)) := by
      have := U.step j o ho
      rw [hkd] at this
      exact this
    have hnw : (s j).kd ≠ .w := by rw [hkd]; intro h; cases h
    have hjok := U.ok R0 ha0 (Nat.le_of_lt hj)
    have hgs : (CH.blind (s j).N.sz).sz = (s j).N.sz := rfl
    -- how much the outcome lays
    have hBsz : (s j).N.sz ≤ B.sz := by
      obtain ⟨Ev, wv, Rv, hav, _⟩ := U.virt R0 ha0 j (by omega)
      obtain ⟨_, _, _, X, _⟩ := hfact Ev wv (Ev.act (s j).a) (Rel.blind Rv.gl Rv.dom) (act_look hav) default [] [] []
      exact X.size
    obtain ⟨e1, e2, e3, e4, e5⟩ := hrest hjok hBsz
    have hb0 : Rel P { E with D := fun k => E.D k ∧ k < (CH.blind (s j).N.sz).sz } (CH.blind (s j).N.sz) w := Rel.blind (fun g hg => ⟨⟨(I.rel.gl g hg).1, Nat.lt_of_lt_of_le (R0.dom g (R0.gl g hg).1) (U.le R0 ha0 (Nat.zero_le j) (Nat.le_of_lt hj))⟩, (I.rel.gl g hg).2⟩) (fun k hk => hk.2)
    obtain ⟨E', M', w', R', X', hD, hsz, _, h1, h2, h3, _, hcl, hst⟩ := mid U R0 ha0 I hS hj ho hnS hr false hfact (Nat.le_refl _) hb0 (fun h => by cases h) (fun _ k => CH.get_blind _ k)
      (by rw [hgs, ← e1]; exact hdisj) ⟨by rw [hgs]; exact hle (by omega) (Nat.le_refl _), fun _ => by rw [← e1]; exact hle (by omega) (Nat.le_refl _)⟩ b rest k cs
    rw [hgs] at hD h1
    rw [← e1] at hD h1
    have h3' : ∀ k, E.D k → M'.get k = M.get k := fun k hk => h3 k hk (fun hh => by cases hh.2)
    refine ⟨q, E', M', w', ⟨R', I.wx.trans X', hdom hD, hsz, ?_, ?_, by rw [hputc]; exact hcl, htm, nxt_keep I.nxt hnw⟩, hst⟩
    · intro k hk hlt
      rcases (hD k).1 hk with hE | hE
      · rw [h3' k hE, I.c1 k hE hlt]
      · -- nothing of kind w lies between
        have hjq : j < q := by
          rcases Nat.lt_or_ge j q with h | h
          · exact h
          · have := hle h (Nat.le_of_lt hj)
            omega
        have hnow : ∀ u, j + 1 ≤ u → u < q → (s u).kd ≠ .w := by
          intro u hu1 hu2 hw
          rcases U.cb j u (by omega) (by omega) hw hkd with h | h
          · omega
          · exact hnS (U.down' hS (show u < n by omega) ((I.nxt.lt u (by omega) hw).2 hu2) h)
        rw [h1 k hE.1 hE.2, ← e5 k hE.1 hE.2]
        exact (U.same R0 ha0 (show j + 1 ≤ q by omega) hqn hnow hE.2).symm
    · intro k i hk hge hi hi1 hi2
      rcases (hD k).1 hk with hE | hE
      · rw [h3' k hE]
        exact I.c2 k i hE hge hi hi1 hi2
      · have hij : i = j := by
          rcases Nat.lt_trichotomy i j with h | h | h
          · have := hle (show i + 1 ≤ j by omega) (by omega)
            omega
          · exact h
          · have := hle (show j + 1 ≤ i by omega) (by omega)
            omega
        subst hij
        rw [h1 k hE.1 hE.2, ← e5 k hE.1 hE.2]

end
end Go.Eng
