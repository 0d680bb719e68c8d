/-
  The engine, part K: regions that leave their order open.
-/
import Derived.Test.YtjpmmfahmhnpeaaGreatDoorEngKe
namespace Go.Eng
set_option linter.unusedSimpArgs false
set_option linter.unusedVariables false

section
variable {P : Program} {ops : Array Oper} {s : Nat → DS} {bm : Nat → Nat → Prop} {n : Nat}

/-- Every order, from any point on. -/
theorem order_ok (U : Run P ops s bm n) {E0 : Env} {w0 : World} (R0 : Rel P E0 (s 0).N w0) (ha0 : (s 0).a.Clo E0.D) {dm : List DM} (b : Frame) (k : List Item) (cs : List Frame) :
    ∀ (fuel t : Nat) (listed : Array Bool) (left : List Nat) (q : Nat) (E : Env) (M : CH) (w : World) (c : List Value), listed.size = n → left.length ≤ fuel → (∀ i, i < n → listed.getD i false = false → i ∈ left) →
      Closed ops (fun i => listed.getD i false = true) → Inv P ops s n E0 w0 dm (fun i => listed.getD i false = true) q E M w c →
      ∃ E' M' w', (∃ q', Inv P ops s n E0 w0 dm (fun i => i < n) q' E' M' w' (s n).a.tmps) ∧
        Steps P (lone (fat b (E.act ⟨c, dm⟩) (.inRegion ops (Region.linearise.go .any ops fuel t listed []) :: k)) cs w) (lone (fat b (E'.act ⟨(s n).a.tmps, dm⟩) k) cs w') := by
  intro fuel
  -- when all is done
  have fin : ∀ (listed : Array Bool) (q : Nat) (E : Env) (M : CH) (w : World) (c : List Value), listed.size = n → (∀ i, i < n → listed.getD i false = true) → Inv P ops s n E0 w0 dm (fun i => listed.getD i false = true) q E M w c →
      ∃ E' M' w', (∃ q', Inv P ops s n E0 w0 dm (fun i => i < n) q' E' M' w' (s n).a.tmps) ∧
        Steps P (lone (fat b (E.act ⟨c, dm⟩) (.inRegion ops [] :: k)) cs w) (lone (fat b (E'.act ⟨(s n).a.tmps, dm⟩) k) cs w') := by
    intro listed q E M w c hsz hall I
    have hc : c = (s n).a.tmps := by
      apply List.ext_getElem?
      intro x
      exact I.tm.agree (U.tm n (Nat.le_refl _)) (fun i hi _ => ⟨fun _ => hi, fun _ => hall i hi⟩)
    subst hc
    refine ⟨E, M, w, ⟨q, ⟨I.rel, I.wx, fun k => ?_, I.sz, I.c1, I.c2, I.clo, U.tm n (Nat.le_refl _), ⟨I.nxt.le, I.nxt.kd, fun u hu hw => ⟨fun _ => (I.nxt.lt u hu hw).1 (hall u hu), fun _ => hu⟩⟩⟩⟩, .one fstep_region_end⟩
    rw [I.dom k]
    constructor
    · rintro (h | ⟨i, h1, h2, h3⟩)
      · exact .inl h
      · exact .inr ⟨i, h2, h2, h3⟩
    · rintro (h | ⟨i, h1, h2, h3⟩)
      · exact .inl h
      · exact .inr ⟨i, hall i h1, h2, h3⟩
  induction fuel with
  | zero =>
    intro t listed left q E M w c hsz hlen hleft hcl I
    have hl : left = [] := List.length_eq_zero_iff.1 (by omega)
    exact fin listed q E M w c hsz (fun i hi => by
      cases h : listed.getD i false with
      | true => rfl
      | false => have := hleft i hi h; rw [hl] at this; cases this) I
  | succ fuel ih =>
    intro t listed left q E M w c hsz hlen hleft hcl I
    simp only [Region.linearise.go]
    change ∃ E' M' w', _ ∧ Steps P (lone (fat b (E.act ⟨c, dm⟩) (.inRegion ops (match (Region.ready .any ops listed)[t % (Region.ready .any ops listed).length]? with
      | some i => Region.linearise.go .any ops fuel (t / (Region.ready .any ops listed).length) (listed.setIfInBounds i true) [i]
      | none => [].reverse) :: k)) cs w) _
    cases hi : (Region.ready .any ops listed)[t % (Region.ready .any ops listed).length]? with
    | none =>
      have hnil : Region.ready .any ops listed = [] := by
        cases hr : Region.ready .any ops listed with
        | nil => rfl
        | cons x xs =>
          rw [hr] at hi
          have hlt : t % (x :: xs).length < (x :: xs).length := Nat.mod_lt _ (by simp)
          simp at hi
          simp at hlt
          omega
      refine fin listed q E M w c hsz ?_ I
      intro i
      induction i using Nat.strongRecOn with
      | _ i ihi =>
        intro hin
        cases hli : listed.getD i false with
        | true => rfl
        | false =>
          exfalso
          obtain ⟨o, ho⟩ := U.op hin
          have hmem : i ∈ Region.ready .any ops listed := by
            rw [mem_ready]
            refine ⟨?_, o, ho, fun e he hb => ihi e.on (U.edge i o ho e he hb) (by have := U.edge i o ho e he hb; omega)⟩
            have : i < listed.size := by omega
            simp [this] at hli ⊢
            exact hli
          rw [hnil] at hmem
          cases hmem
    | some i =>
      simp only []
      rw [linearise_go_acc, List.reverse_singleton, List.singleton_append]
      have hmem := List.mem_of_getElem? hi
      obtain ⟨h0, o, ho, hall⟩ := mem_ready.1 hmem
      have hin := U.op_lt ho
      have hlt : i < listed.size := by omega
      have hnS : ¬ listed.getD i false = true := by
        simp [hlt] at h0 ⊢
        exact h0
      obtain ⟨q', E1, M1, w1, I1, hst⟩ := istep U R0 ha0 I hcl hin ho hnS (fun e he hb => hall e he hb) b (Region.linearise.go .any ops fuel (t / (Region.ready .any ops listed).length) (listed.setIfInBounds i true) []) k cs
      have hset : ∀ u, (listed.setIfInBounds i true).getD u false = true ↔ (listed.getD u false = true ∨ u = i) := by
        intro u
        by_cases hu : u = i
        · subst hu
          simp [hlt]
        · rw [getD_set_ne false (Ne.symm hu)]
          simp [hu]
      have hfun : (fun u => (listed.setIfInBounds i true).getD u false = true) = (fun u => listed.getD u false = true ∨ u = i) := by
        funext u
        exact propext (hset u)
      have hil : i ∈ left := hleft i hin (by simpa using hnS)
      have hcl1 : Closed ops (fun u => (listed.setIfInBounds i true).getD u false = true) := by
        intro j oj hj hoj e he hb
        rw [hset] at hj ⊢
        rcases hj with hj | rfl
        · exact .inl (hcl j oj hj hoj e he hb)
        · rw [ho] at hoj
          cases hoj
          exact .inl (hall e he hb)
      have hputc : (⟨((⟨c, dm⟩ : CA).put o.dst (s i).v).tmps, dm⟩ : CA) = (⟨c, dm⟩ : CA).put o.dst (s i).v := by cases o.dst <;> rfl
      obtain ⟨E2, M2, w2, I2, hst2⟩ := ih (t / (Region.ready .any ops listed).length) (listed.setIfInBounds i true) (left.erase i) q' E1 M1 w1 _ (by simp [hsz])
        (by rw [List.length_erase_of_mem hil]; omega)
        (fun u hu hlu => by
          have hne : u ≠ i := by
            intro e
            have := (hset u).2 (.inr e)
            rw [this] at hlu
            cases hlu
          rw [getD_set_ne false (Ne.symm hne)] at hlu
          exact (List.mem_erase_of_ne hne).2 (hleft u hu hlu)) hcl1 (by rw [hfun]; exact I1)
      rw [hputc] at hst2
      exact ⟨E2, M2, w2, I2, hst.trans hst2⟩

/-- A region that leaves its order open, from its start. -/
theorem region_ok (U : Run P ops s bm n) (hm : P.follows .mixedOrders = true) {E0 : Env} {w0 : World} (R0 : Rel P E0 (s 0).N w0) (ha0 : (s 0).a.Clo E0.D) (b : Frame) (id : Nat) (k : List Item) (cs : List Frame) :
    ∃ E' w', Rel P E' (s n).N w' ∧ Ext E0 (s 0).N w0 E' (s n).N w' ∧ (s n).a.Clo E'.D ∧ Steps P (lone (fat b (E0.act (s 0).a) (.code (.region id ops true) :: k)) cs w0) (lone (fat b (E'.act (s n).a) k) cs w') := by
  obtain ⟨R1, X1⟩ := R0.drew
  -- defers stay
  have hdm : ∀ j, j ≤ n → (s j).a.dm = (s 0).a.dm := by
    intro j
    induction j with
    | zero => intro _; rfl
    | succ j ih =>
      intro h
      obtain ⟨o, ho⟩ := U.op (show j < n by omega)
      rw [U.put j o ho, ← ih (by omega)]
      cases o.dst <;> rfl
  obtain ⟨q, _, hq2, hq3, hq4⟩ := first_w s n n 0 (by omega)
  have hle : ∀ {i j : Nat}, i ≤ j → j ≤ n → (s i).N.sz ≤ (s j).N.sz := fun h1 h2 => U.le R0 ha0 h1 h2
  have hnok := U.ok R0 ha0 (Nat.le_refl n)
  have hgetM : ∀ k, E0.D k → (CH.ofFn (s n).N.sz (s 0).N.get).get k = (s 0).N.get k := fun k hk => CH.get_ofFn _ (Nat.lt_of_lt_of_le (R0.dom k hk) (hle (Nat.zero_le n) (Nat.le_refl _)))
  have hI : Inv P ops s n E0 w0.drew (s 0).a.dm (fun i => (Array.replicate ops.size false).getD i false = true) q E0 (CH.ofFn (s n).N.sz (s 0).N.get) w0.drew (s 0).a.tmps := by
    have hno : ∀ i, ¬ (Array.replicate ops.size false).getD i false = true := by
      intro i
      rcases Nat.lt_or_ge i ops.size with h | h
      · simp [h]
      · simp [Array.getElem?_eq_none, h]
    refine ⟨R1.congr (CH.ok_ofFn _) (fun k hk => Nat.lt_of_lt_of_le (R0.dom k hk) (hle (Nat.zero_le n) (Nat.le_refl _))) hgetM, (Wx.refl E0 (s 0).N w0.drew).congr (fun _ _ => rfl) hgetM, ?_, rfl, ?_, ?_, ⟨ha0.tmps, ha0.dm⟩, ⟨rfl, fun x i hi => absurd hi (hno i), fun x _ => rfl⟩,
      ⟨hq2, hq3, fun u hu hw => ⟨fun h => absurd h (hno u), fun h => absurd hw (hq4 u (Nat.zero_le _) h)⟩⟩⟩
    · intro k
      constructor
      · exact .inl
      · rintro (h | ⟨i, h, _⟩)
        · exact h
        · exact absurd h (hno i)
    · intro k hk _
      rw [hgetM k hk]
      exact (U.same R0 ha0 (Nat.zero_le q) hq2 (fun u h1 h2 => hq4 u h1 h2) (R0.dom k hk)).symm
    · intro k i hk hge
      have h1 := R0.dom k hk
      have h2 := hle (Nat.zero_le q) hq2
      intro h3 h4 h5
      omega
  obtain ⟨E', M', w', ⟨q', I'⟩, hst⟩ := order_ok U (w0 := w0.drew) R1 ha0 b k cs ops.size (w0.tape w0.drawn (.order b.fn id)) (Array.replicate ops.size false) (List.range n) q E0 _ w0.drew (s 0).a.tmps (by simp [U.size]) (by simp [U.size])
    (fun i hi _ => List.mem_range.2 hi) (by
      intro j o hj
      exfalso
      rcases Nat.lt_or_ge j ops.size with h | h
      · simp [h] at hj
      · simp [Array.getElem?_eq_none, h] at hj) hI
  have hqn : q' = n := by
    rcases Nat.lt_or_ge q' n with h | h
    · have := (I'.nxt.lt q' h (I'.nxt.kd h)).1 h
      omega
    · have := I'.nxt.le
      omega
  subst hqn
  -- all is realized
  obtain ⟨Ev, wv, Rv, hav, Vv⟩ := U.virt R0 ha0 q' (Nat.le_refl _)
  have hrange : ∀ k, (s 0).N.sz ≤ k → k < (s q').N.sz → ∃ i, i < q' ∧ (s i).N.sz ≤ k ∧ k < (s (i + 1)).N.sz := by
    intro k h1 h2
    have key : ∀ d, d ≤ q' → k < (s d).N.sz → ∃ i, i < d ∧ (s i).N.sz ≤ k ∧ k < (s (i + 1)).N.sz := by
      intro d
      induction d with
      | zero => intro _ h; omega
      | succ d ih =>
        intro hd h
        by_cases hk : k < (s d).N.sz
        · obtain ⟨i, h1, h2⟩ := ih (by omega) hk
          exact ⟨i, by omega, h2⟩
        · exact ⟨d, by omega, by omega, h⟩
    exact key q' (Nat.le_refl _) h2
  have hdom : ∀ k, E'.D k ↔ E0.D k ∨ ((s 0).N.sz ≤ k ∧ k < (s q').N.sz) := by
    intro k
    rw [I'.dom k]
    constructor
    · rintro (h | ⟨i, h1, _, h2, h3⟩)
      · exact .inl h
      · exact .inr ⟨Nat.le_trans (hle (Nat.zero_le i) (by omega)) h2, Nat.lt_of_lt_of_le h3 (hle (by omega) (Nat.le_refl _))⟩
    · rintro (h | h)
      · exact .inl h
      · obtain ⟨i, h1, h2, h3⟩ := hrange k h.1 h.2
        exact .inr ⟨i, h1, h1, h2, h3⟩
  have hlt : ∀ k, E'.D k → k < (s q').N.sz := fun k hk => by rw [← I'.sz]; exact I'.rel.dom k hk
  have hget : ∀ k, E'.D k → (s q').N.get k = M'.get k := fun k hk => (I'.c1 k hk (hlt k hk)).symm
  have hRn : Rel P E' (s q').N w' := I'.rel.congr hnok hlt hget
  have hwx : Wx E0 (s 0).N w0.drew E' (s q').N w' := I'.wx.congr (fun _ _ => rfl) (fun k hk => hget k (I'.wx.mono k hk).1)
  have hV : Vs E0 (s 0).N w0.drew E' (s q').N w' := ⟨hwx, hdom, Vv.size, Vv.wm, Vv.keep⟩
  have hfin : (⟨(s q').a.tmps, (s 0).a.dm⟩ : CA) = (s q').a := by rw [← hdm q' (Nat.le_refl _)]
  have hclo := I'.clo
  rw [hfin] at hclo hst
  refine ⟨E', w', hRn, X1.trans hV.ext, hclo, .head (fstep_region_draw (P := P)) ?_⟩
  have hsched : Region.schedule (P.follows .mixedOrders) ops (w0.tape w0.drawn (.order b.fn id)) = Region.linearise.go .any ops ops.size (w0.tape w0.drawn (.order b.fn id)) (Array.replicate ops.size false) [] := by
    simp [Region.schedule, hm, Region.linearise]
  rw [hsched]
  exact hst
end

/-! ### the checks -/
theorem cruns_ok {P : Program} {R : Rec} {ops : Array Oper} : ∀ (m i : Nat) {a a' : CA} {N N' : CH} {l : List DS}, cruns P R ops m i a N = some (l, a', N') → ∀ fin : DS, fin.a = a' → fin.N = N' →
    l.length = m ∧ (l.getD 0 fin).a = a ∧ (l.getD 0 fin).N = N ∧
      ∀ j, j < m → cstep P R ops (i + j) (l.getD j fin).a (l.getD j fin).N = some ((l.getD j fin).kd, (l.getD j fin).v, (l.getD (j + 1) fin).N) ∧ (l.getD (j + 1) fin).a = (l.getD j fin).a.put (dstOf ops (i + j)) (l.getD j fin).v
  | 0, i, a, a', N, N', l, h, fin, h1, h2 => by
    simp only [cruns, Option.some.injEq, Prod.mk.injEq] at h
    obtain ⟨rfl, rfl, rfl⟩ := h
    exact ⟨rfl, h1, h2, fun j hj => absurd hj (Nat.not_lt_zero _)⟩
  | m + 1, i, a, a', N, N', l, h, fin, h1, h2 => by
    simp only [cruns, Option.bind_eq_some_iff, Option.map_eq_some_iff] at h
    obtain ⟨⟨kd, v, N1⟩, hs, ⟨l1, a1, N2⟩, hr, e⟩ := h
    simp only [Prod.mk.injEq] at e
    obtain ⟨rfl, rfl, rfl⟩ := e
    obtain ⟨g1, g2, g3, g4⟩ := cruns_ok m (i + 1) hr fin h1 h2
    refine ⟨by simp [g1], rfl, rfl, ?_⟩
    intro j hj
    cases j with
    | zero =>
      simp only [List.getD_cons_zero, List.getD_cons_succ, Nat.add_zero, Nat.zero_add, g2, g3]
      exact ⟨hs, trivial⟩
    | succ j =>
      have := g4 j (by omega)
      simp only [List.getD_cons_succ]
      rw [show i + (j + 1) = i + 1 + j by omega]
      exact this

theorem bmOf_spec {o : Oper} {bms : List Nat} {i : Nat} (h : (bmOf o bms).testBit i = true) : ∃ e ∈ o.after, Region.binds .any e = true ∧ (e.on = i ∨ (bms.getD e.on 0).testBit i = true) := by
  have key : ∀ (es : List Edge) (n : Nat), (es.foldl (fun s e => if Region.binds .any e = true then s ||| (2 ^ e.on ||| bms.getD e.on 0) else s) n).testBit i = true → n.testBit i = true ∨ ∃ e ∈ es, Region.binds .any e = true ∧ (e.on = i ∨ (bms.getD e.on 0).testBit i = true) := by
    intro es
    induction es with
    | nil => intro n h; exact .inl h
    | cons e es ih =>
      intro n h
      rw [List.foldl_cons] at h
      rcases ih _ h with h1 | ⟨e', he', h1⟩
      · split at h1
        · rename_i hb
          rw [Nat.testBit_or, Nat.testBit_or, Bool.or_eq_true, Bool.or_eq_true] at h1
          rcases h1 with h1 | h1 | h1
          · exact .inl h1
          · rw [Nat.testBit_two_pow] at h1
            exact .inr ⟨e, by simp, hb, .inl (by simpa using h1)⟩
          · exact .inr ⟨e, by simp, hb, .inr h1⟩
        · exact .inl h1
      · exact .inr ⟨e', by simp [he'], h1⟩
  rcases key _ _ h with h1 | ⟨e, he, h1⟩
  · simp at h1
  · exact ⟨e, by simpa using he, h1⟩

theorem cdraw_ok {P : Program} (hP : NoCount P) (hm : P.follows .mixedOrders = true) {R : Rec} (hR : RecOk P R) {ops : Array Oper} {a a' : CA} {N N' : CH} (h : cdraw P R ops a N = some (a', N'))
    {E : Env} {w : World} (hr : Rel P E N w) (ha : a.Clo E.D) (b : Frame) (id : Nat) (k : List Item) (cs : List Frame) :
    ∃ E' w', Rel P E' N' w' ∧ Ext E N w E' N' w' ∧ a'.Clo E'.D ∧ Steps P (lone (fat b (E.act a) (.code (.region id ops true) :: k)) cs w) (lone (fat b (E'.act a') k) cs w') := by
  unfold cdraw at h
  split at h
  · rename_i l a1 N1 hc
    split at h
    · rename_i hok
      simp only [Option.some.injEq, Prod.mk.injEq] at h
      obtain ⟨rfl, rfl⟩ := h
      generalize hfin : (⟨a1, N1, .b, undef⟩ : DS) = fin at hok
      obtain ⟨g1, g2, g3, g4⟩ := cruns_ok _ _ hc fin (by rw [← hfin]) (by rw [← hfin])
      have hisW : ∀ u, u < ops.size → (isW l u = true ↔ (l.getD u fin).kd = .w) := by
        intro u hu
        have hul : u < l.length := by omega
        simp [isW, hul]
      have hws : ∀ u, u ∈ wsOf l ops.size ↔ u < ops.size ∧ (l.getD u fin).kd = .w := by
        intro u
        simp only [wsOf, List.mem_filter, List.mem_range]
        exact and_congr_right fun hu => hisW u hu
      simp only [drawOk, textOk, edgesOk, namesOk] at hok
      generalize bmsGo ops.toList [] = bms at hok
      simp only [Bool.and_eq_true, List.all_eq_true, List.mem_range] at hok
      obtain ⟨⟨⟨c1, c2⟩, c3⟩, c4⟩ := hok
      have hpair : ∀ i j, i < j → j < ops.size → bef bms i j = false → (meets (dstOf ops i) (names ops j) = false ∧ meets (dstOf ops j) (names ops i) = false) ∧
          ((l.getD i fin).kd = .w → (l.getD j fin).kd = .b) ∧ ((l.getD j fin).kd = .w → (l.getD i fin).kd = .b → (l.getD i fin).N.sz = (l.getD (i + 1) fin).N.sz) := by
        intro i j hij hj hb
        have h1 := c3 j hj i hij
        simp only [hb, Bool.false_or, Bool.and_eq_true, Bool.not_eq_true'] at h1
        have hk : ∀ u, u = i ∨ u = j → (l.getD u fin).kd = .w → kindsOk bms l fin i j = true := by
          intro u hu huw
          have hum := (hws u).2 ⟨by omega, huw⟩
          rw [Bool.or_eq_true] at c4
          rcases c4 with c4 | c4
          · rw [List.isEmpty_iff] at c4
            rw [c4] at hum
            cases hum
          · simp only [Bool.and_eq_true, pairsOk, List.all_eq_true, List.mem_range] at c4
            rcases hu with rfl | rfl
            · have := c4.1 u hum j hj
              rwa [if_neg (by omega), if_pos hij] at this
            · have := c4.1 u hum i (by omega)
              rwa [if_pos hij] at this
        refine ⟨h1, fun hh => ?_, fun hh hh' => ?_⟩
        · have := hk i (.inl rfl) hh
          simp only [kindsOk, hb, Bool.false_or, Bool.and_eq_true, Bool.or_eq_true, Bool.not_eq_true', decide_eq_true_eq, decide_eq_false_iff_not] at this
          exact this.1.resolve_left (fun hn => hn hh)
        · have := hk j (.inr rfl) hh
          simp only [kindsOk, hb, Bool.false_or, Bool.and_eq_true, Bool.or_eq_true, Bool.not_eq_true', decide_eq_true_eq, decide_eq_false_iff_not] at this
          rcases this.2 with (h3 | h3) | h3
          · exact absurd hh h3
          · exact absurd hh' h3
          · exact h3
      have hU : Run P ops (fun i => l.getD i fin) (fun i j => bef bms i j = true) ops.size := by
        refine ⟨rfl, ?_, ?_, ?_, ?_, ?_, ?_, ?_, ?_⟩
        · intro j o ho e he hb
          have hj := (Array.getElem?_eq_some_iff.1 ho).1
          have := c1 j hj
          rw [ho] at this
          simp only [List.all_eq_true] at this
          have := this e (by simpa using he)
          simpa [hb] using this
        · intro i j hj hbf
          have ho : ops[j]? = some ops[j] := Array.getElem?_eq_getElem hj
          have := c2 j hj
          rw [ho] at this
          simp only [beq_iff_eq] at this
          refine ⟨_, ho, ?_⟩
          have hb' : (bmOf ops[j] bms).testBit i = true := by rw [← this]; exact hbf
          exact bmOf_spec hb'
        · intro j o ho
          have hj := (Array.getElem?_eq_some_iff.1 ho).1
          have := (g4 j hj).1
          rw [Nat.zero_add] at this
          exact cstep_fact hP hR ho this
        · intro j o ho
          have hj := (Array.getElem?_eq_some_iff.1 ho).1
          have := (g4 j hj).2
          rw [Nat.zero_add] at this
          have hd : dstOf ops j = o.dst := by simp [dstOf, ho]
          rw [hd] at this
          exact this
        · intro i j x hij hj hx
          cases hb : bef bms i j with
          | true => rfl
          | false =>
            exfalso
            obtain ⟨⟨h1, h2⟩, _⟩ := hpair i j hij hj hb
            rcases hx with ⟨h3, h4⟩ | ⟨h3, h4⟩
            · simp [meets, h3, h4] at h1
            · simp [meets, h3, h4] at h2
        · intro i j hij hj hw
          cases hb : bef bms i j with
          | true => exact .inr rfl
          | false => exact .inl ((hpair i j hij hj hb).2.1 hw)
        · intro i j hij hj hw hkb
          cases hb : bef bms i j with
          | true => exact .inr rfl
          | false => exact .inl ((hpair i j hij hj hb).2.2 hw hkb)
        · intro i p o hip hp ho hkq hpw hex
          have hi := (Array.getElem?_eq_some_iff.1 ho).1
          obtain ⟨u, hu1, hu2, hu3⟩ := hex
          have hum : u ∈ wsOf l ops.size := (hws u).2 ⟨by omega, hu3⟩
          rw [Bool.or_eq_true] at c4
          have hc4 := (c4.resolve_left (fun hn => by rw [List.isEmpty_iff] at hn; rw [hn] at hum; cases hum))
          simp only [Bool.and_eq_true, List.all_eq_true, List.mem_range] at hc4
          have hc4 := hc4.2 i hi
          simp only [hkq, decide_true, Bool.not_true, Bool.false_or] at hc4
          unfold lateOk at hc4
          simp only [List.all_eq_true] at hc4
          have hc5 := hc4 p (by
            rw [List.mem_append]
            rcases hpw with rfl | hpw
            · exact .inr (by simp)
            · by_cases hpn : p = ops.size
              · exact .inr (by simp [hpn])
              · exact .inl ((hws p).2 ⟨by omega, hpw⟩))
          have e1 : decide (i < p) = true := by simpa using hip
          have e3 : ((wsOf l ops.size).any fun u => decide (i < u) && decide (u < p)) = true := by
            rw [List.any_eq_true]
            exact ⟨u, hum, by simp [hu1, hu2]⟩
          rw [e1, e3] at hc5
          simp only [Bool.not_true, Bool.false_or, Bool.or_eq_true, List.any_eq_true, Bool.and_eq_true, decide_eq_true_eq] at hc5
          rcases hc5 with ⟨v, hv1, ⟨hv2, hv3⟩, hv4⟩ | ⟨hs, hl⟩
          · exact .inl ⟨v, hv2, hv3, ((hws v).1 hv1).2, hv4⟩
          · right
            refine ⟨hs, ?_⟩
            unfold lateEval at hl
            simp only [ho, Bool.and_eq_true] at hl
            obtain ⟨⟨hgs, hw⟩, hl⟩ := hl
            split at hl
            · rename_i v G hev
              simp only [Bool.and_eq_true, decide_eq_true_eq] at hl
              have := veq_ok hl.1.1
              subst this
              exact ⟨G, loc_eval hP hR ho hgs hw hev, hl.1.2, hl.2⟩
            · cases hl
      have hg0 : ((fun i => l.getD i fin) 0).N = N := g3
      have hga : ((fun i => l.getD i fin) 0).a = a := g2
      have hnn : l.getD ops.size fin = fin := by
        rw [List.getD_eq_getElem?_getD, List.getElem?_eq_none (by omega)]
        rfl
      have := region_ok hU hm (E0 := E) (w0 := w) (by rw [hg0]; exact hr) (by rw [hga]; exact ha) b id k cs
      rw [hg0, hga, hnn, ← hfin] at this
      exact this
    · cases h
  · cases h
end Go.Eng
