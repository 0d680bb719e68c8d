/-
  The engine, part P: a long run in pieces: a state is written down, with the blocks that are still wanted, and the run goes on from there.
-/
import Derived.Test.YtjpmmfahmhnpeaaGreatDoorEngO
namespace Go.Eng
set_option linter.unusedSimpArgs false
set_option linter.unusedVariables false

/-- A frame written down. -/
structure SnapF where
  fn : FuncId
  ar : Option Nat
  kd : CallKind
  ret : Bool
  tm : List Value
  dm : List DM
  k : List It
structure Snap where
  top : SnapF
  cs : List SnapF
  sz : Nat
  blocks : List (Option CB)
def SF.snap (s : SF) : SnapF := ⟨s.fn, s.ar, s.kd, s.ret, (List.range s.a.n).map s.a.get, s.a.dm, s.k⟩
def St.snap (keys : List Nat) (S : St) : Snap := ⟨S.top.snap, S.cs.map SF.snap, S.N.sz, keys.map S.N.get⟩
def SnapF.sf (s : SnapF) : SF := ⟨s.fn, s.ar, s.kd, s.ret, ⟨s.tm.length, Tr.tab s.tm.length s.tm.length (fun k => s.tm.getD k undef), s.dm⟩, s.k⟩
def fill (sz : Nat) : List Nat → List (Option CB) → Tr CB → Tr CB
  | k :: ks, some b :: bs, t => if k < sz then fill sz ks bs (t.set k b) else fill sz ks bs t
  | _ :: ks, none :: bs, t => fill sz ks bs t
  | _, _, t => t
def Snap.st (keys : List Nat) (T : Snap) : St := ⟨T.top.sf, T.cs.map SnapF.sf, ⟨T.sz, 0, 0, fill T.sz keys T.blocks (Tr.skel T.sz T.sz)⟩⟩

theorem SF.snap_abs (s : SF) : s.snap.sf.a.abs = s.a.abs ∧ s.snap.sf.a.Ok := by
  obtain ⟨h1, h2⟩ := FA.ofList_ok ((List.range s.a.n).map s.a.get)
  refine ⟨?_, h1⟩
  have h3 := congrArg CA.tmps h2
  have e : s.snap.sf.a.abs = ⟨(FA.ofList ((List.range s.a.n).map s.a.get)).abs.tmps, s.a.dm⟩ := rfl
  rw [e, h3]
  rfl
theorem SF.snap_frame (E : Env) (s : SF) : s.snap.sf.frame E = s.frame E := by
  unfold SF.frame
  rw [(SF.snap_abs s).1]
  rfl
theorem SF.snap_ok {D : Nat → Prop} {s : SF} (h : s.Ok D) : s.snap.sf.Ok D :=
  ⟨(SF.snap_abs s).2, by rw [(SF.snap_abs s).1]; exact h.clo, h.ar, h.its, h.ret, h.kd⟩
theorem stk_snap : ∀ {l : List SF}, StkOk l → StkOk (l.map fun s => s.snap.sf)
  | [], _ => trivial
  | s :: r, h => by
    refine ⟨?_, stk_snap h.2⟩
    rcases h.1 with h1 | ⟨h1, c, r', rfl, hc⟩
    · exact .inl h1
    · exact .inr ⟨h1, c.snap.sf, _, rfl, hc⟩

theorem fill_ok {sz : Nat} {g : Nat → Option CB} : ∀ (ks : List Nat) (t : Tr CB), t.Full sz → (∀ k b, t.get k = some b → g k = some b) →
    (fill sz ks (ks.map g) t).Full sz ∧ ∀ k b, (fill sz ks (ks.map g) t).get k = some b → g k = some b
  | [], t, hf, h => ⟨hf, h⟩
  | k :: ks, t, hf, h => by
    rw [List.map_cons]
    cases hg : g k with
    | none => exact fill_ok ks t hf h
    | some b =>
      show (if k < sz then fill sz ks (ks.map g) (t.set k b) else fill sz ks (ks.map g) t).Full sz ∧ ∀ j c, (if k < sz then fill sz ks (ks.map g) (t.set k b) else fill sz ks (ks.map g) t).get j = some c → g j = some c
      by_cases hk : k < sz
      · rw [if_pos hk]
        refine fill_ok ks _ (Tr.full_set hf k b hk) ?_
        intro j c hj
        rw [Tr.get_set hf k j (Nat.le_of_lt hk)] at hj
        by_cases e : j = k
        · subst e
          rw [if_pos rfl] at hj
          cases hj
          exact hg
        · rw [if_neg e] at hj
          exact h j c hj
      · rw [if_neg hk]
        exact fill_ok ks t hf h

/-- From a state to the same one, with less memory. -/
theorem reach_snap {P : Program} (S : St) (keys : List Nat) : Reach P S ((S.snap keys).st keys) := by
  intro E w hs under
  have hle := hs.rel.ok.le
  obtain ⟨h1, h2⟩ := fill_ok (sz := S.N.sz) (g := S.N.get) keys (Tr.skel S.N.sz S.N.sz) (Tr.full_skel _ _ (Nat.le_refl _)) (fun k b h => by rw [Tr.get_skel] at h; cases h)
  have hN : ((S.snap keys).st keys).N = ⟨S.N.sz, 0, 0, fill S.N.sz keys (keys.map S.N.get) (Tr.skel S.N.sz S.N.sz)⟩ := rfl
  have hget : ∀ k b, ((S.snap keys).st keys).N.get k = some b → S.N.get k = some b := fun k b h => h2 k b (by rw [hN] at h; exact h)
  have hlive : ∀ k, ((S.snap keys).st keys).N.live k → S.N.live k := fun k ⟨b, hb, hd⟩ => ⟨b, hget k b hb, hd⟩
  have hrel : Rel P E ((S.snap keys).st keys).N w :=
    ⟨⟨Nat.zero_le _, h1⟩, hs.rel.gl, hs.rel.dom, fun i j hi hj li lj e => hs.rel.inj i j hi hj (hlive i li) (hlive j lj) e, fun k b hk hb => hs.rel.blk k b hk (hget k b hb)⟩
  have hext : Ext E S.N w E ((S.snap keys).st keys).N w :=
    ⟨fun _ h => ⟨h, rfl, rfl, rfl⟩, fun _ h => .inl h, fun k h3 h4 => absurd h4 (Nat.not_lt.2 h3), Nat.le_refl _, Nat.le_refl _, fun _ h => .inl h, fun k _ h => hlive k h, Nat.zero_le _, fun k _ h => absurd h (Nat.not_lt_zero _), fun _ _ _ => rfl, rfl, rfl, rfl, rfl⟩
  have hcs : ((S.snap keys).st keys).cs = S.cs.map fun s => s.snap.sf := by
    show (S.cs.map SF.snap).map SnapF.sf = _
    rw [List.map_map]
    rfl
  refine ⟨E, w, ⟨hrel, SF.snap_ok hs.top, ?_, ?_⟩, hext, ?_⟩
  · intro s h
    rw [hcs] at h
    obtain ⟨s', h', rfl⟩ := List.mem_map.1 h
    exact SF.snap_ok (hs.cs s' h')
  · rw [hcs]
    exact stk_snap hs.stk
  · have : St.mach E ((S.snap keys).st keys) under w = St.mach E S under w := by
      unfold St.mach
      rw [hcs, List.map_map]
      have e1 : ((S.snap keys).st keys).top.frame E = S.top.frame E := SF.snap_frame E S.top
      have e2 : (S.cs.map (SF.frame E ∘ fun s => s.snap.sf)) = S.cs.map (SF.frame E) := List.map_congr_left fun s _ => SF.snap_frame E s
      rw [e1, e2]
    rw [this]
    exact .refl _ _
/-- A piece of a run, and the state behind it as it is written down. -/
theorem reach_cut {P : Program} (hP : NoCount P) (hm : P.follows .mixedOrders = true) {L d n : Nat} {S : St} {keys : List Nat} {T : Snap} (h : (krun P (fRec P L d) n S).map (St.snap keys) = some T) : Reach P S (T.st keys) := by
  obtain ⟨S', h1, rfl⟩ := Option.map_eq_some_iff.1 h
  exact (krun_ok hP hm (fRec_le L d) (mkRec_ok hP hm L d) n h1).trans (reach_snap S' keys)

/-! ### that a state is the one written down, asked part by part -/
def beqI : Int → Int → Bool
  | .ofNat a, .ofNat b => Nat.beq a b
  | .negSucc a, .negSucc b => Nat.beq a b
  | _, _ => false
theorem beqI_eq {a b : Int} (h : beqI a b = true) : a = b := by
  cases a <;> cases b <;> simp only [beqI, Bool.false_eq_true] at h
  · rw [Nat.eq_of_beq_eq_true h]
  · rw [Nat.eq_of_beq_eq_true h]
def beqO : Option Nat → Option Nat → Bool
  | none, none => true
  | some a, some b => Nat.beq a b
  | _, _ => false
theorem beqO_eq {a b : Option Nat} (h : beqO a b = true) : a = b := by
  cases a <;> cases b <;> simp only [beqO, Bool.false_eq_true] at h
  · rfl
  · rw [Nat.eq_of_beq_eq_true h]
def beqB : Bool → Bool → Bool
  | true, true => true
  | false, false => true
  | _, _ => false
theorem beqB_eq {a b : Bool} (h : beqB a b = true) : a = b := by
  cases a <;> cases b <;> simp_all [beqB]
def beqL {α : Type} (f : α → α → Bool) : List α → List α → Bool
  | [], [] => true
  | a :: l, b :: m => and (f a b) (beqL f l m)
  | _, _ => false
theorem beqL_eq {α : Type} {f : α → α → Bool} (hf : ∀ a b, f a b = true → a = b) : ∀ {l m : List α}, beqL f l m = true → l = m
  | [], [], _ => rfl
  | [], _ :: _, h => by cases h
  | _ :: _, [], h => by cases h
  | a :: l, b :: m, h => by
    simp only [beqL, Bool.and_eq_true] at h
    rw [hf a b h.1, beqL_eq hf h.2]
def beqA : Addr → Addr → Bool
  | ⟨a, b, c⟩, ⟨d, e, f⟩ => and (Nat.beq a d) (and (Nat.beq b e) (beqO c f))
theorem beqA_eq {a b : Addr} (h : beqA a b = true) : a = b := by
  obtain ⟨a1, a2, a3⟩ := a
  obtain ⟨b1, b2, b3⟩ := b
  simp only [beqA, Bool.and_eq_true] at h
  rw [Nat.eq_of_beq_eq_true h.1, Nat.eq_of_beq_eq_true h.2.1, beqO_eq h.2.2]
def beqOA : Option Addr → Option Addr → Bool
  | none, none => true
  | some a, some b => beqA a b
  | _, _ => false
theorem beqOA_eq {a b : Option Addr} (h : beqOA a b = true) : a = b := by
  cases a <;> cases b <;> simp only [beqOA, Bool.false_eq_true] at h
  · rfl
  · rw [beqA_eq h]
def beqS (a b : ByteArray) : Bool := beqL (fun x y => Nat.beq x.toNat y.toNat) a.data.toList b.data.toList
theorem beqS_eq {a b : ByteArray} (h : beqS a b = true) : a = b := by
  have := beqL_eq (fun x y hxy => UInt8.toNat_inj.1 (Nat.eq_of_beq_eq_true hxy)) h
  exact ByteArray.ext (Array.ext' this)
def beqF (a b : Fn) : Bool := match a, b with
  | .func f, .func g => Nat.beq f g
  | .yield l, .yield m => Nat.beq l m
  | x, y => decide (x = y)
theorem beqF_eq {a b : Fn} (h : beqF a b = true) : a = b := by
  unfold beqF at h
  split at h
  · rw [Nat.eq_of_beq_eq_true h]
  · rw [Nat.eq_of_beq_eq_true h]
  · exact of_decide_eq_true h
mutual
def sameV : Value → Value → Bool
  | .bool a, b => match b with | .bool b => beqB a b | _ => false
  | .int k a, b => match b with | .int j b => and (decide (k = j)) (beqI a b) | _ => false
  | .string a, b => match b with | .string b => beqS a b | _ => false
  | .pointer a, b => match b with | .pointer b => beqOA a b | _ => false
  | .slice a l c, b => match b with | .slice b m d => and (beqOA a b) (and (Nat.beq l m) (Nat.beq c d)) | _ => false
  | .map a, b => match b with | .map b => beqO a b | _ => false
  | .chan a, b => match b with | .chan b => beqO a b | _ => false
  | .func f ⟨p⟩ ⟨q⟩, b => match b with | .func g p' q' => and (beqF f g) (and (sameL p p'.toList) (sameL q q'.toList)) | _ => false
  | .nilFunc, b => match b with | .nilFunc => true | _ => false
  | .iface t v, b => match b with | .iface u w => and (Nat.beq t u) (sameV v w) | _ => false
  | .nilIface, b => match b with | .nilIface => true | _ => false
  | .agg ⟨cs⟩, b => match b with | .agg ds => sameL cs ds.toList | _ => false
  | .tuple ⟨cs⟩, b => match b with | .tuple ds => sameL cs ds.toList | _ => false
  | _, _ => false
def sameL : List Value → List Value → Bool
  | [], m => match m with | [] => true | _ => false
  | a :: l, m => match m with | b :: m => and (sameV a b) (sameL l m) | [] => false
end
mutual
theorem sameV_eq : ∀ (a b : Value), sameV a b = true → a = b
  | .bool a, b, h => by
    cases b <;> simp only [sameV, Bool.false_eq_true] at h
    rw [beqB_eq h]
  | .int k a, b, h => by
    cases b <;> simp only [sameV, Bool.false_eq_true, Bool.and_eq_true, decide_eq_true_eq] at h
    rw [h.1, beqI_eq h.2]
  | .string a, b, h => by
    cases b <;> simp only [sameV, Bool.false_eq_true] at h
    rw [beqS_eq h]
  | .pointer a, b, h => by
    cases b <;> simp only [sameV, Bool.false_eq_true] at h
    rw [beqOA_eq h]
  | .slice a l c, b, h => by
    cases b <;> simp only [sameV, Bool.false_eq_true, Bool.and_eq_true] at h
    rw [beqOA_eq h.1, Nat.eq_of_beq_eq_true h.2.1, Nat.eq_of_beq_eq_true h.2.2]
  | .map a, b, h => by
    cases b <;> simp only [sameV, Bool.false_eq_true] at h
    rw [beqO_eq h]
  | .chan a, b, h => by
    cases b <;> simp only [sameV, Bool.false_eq_true] at h
    rw [beqO_eq h]
  | .func f ⟨p⟩ ⟨q⟩, b, h => by
    cases b <;> simp only [sameV, Bool.false_eq_true, Bool.and_eq_true] at h
    rename_i g p' q'
    have h1 := sameL_eq p p'.toList h.2.1
    have h2 := sameL_eq q q'.toList h.2.2
    subst h1 h2
    rw [beqF_eq h.1]
  | .nilFunc, b, h => by
    cases b <;> simp only [sameV, Bool.false_eq_true] at h
    rfl
  | .iface t v, b, h => by
    cases b <;> simp only [sameV, Bool.false_eq_true, Bool.and_eq_true] at h
    rename_i u w
    rw [Nat.eq_of_beq_eq_true h.1, sameV_eq v w h.2]
  | .nilIface, b, h => by
    cases b <;> simp only [sameV, Bool.false_eq_true] at h
    rfl
  | .agg ⟨cs⟩, b, h => by
    cases b <;> simp only [sameV, Bool.false_eq_true] at h
    rename_i ds
    have h1 := sameL_eq cs ds.toList h
    subst h1
    rfl
  | .tuple ⟨cs⟩, b, h => by
    cases b <;> simp only [sameV, Bool.false_eq_true] at h
    rename_i ds
    have h1 := sameL_eq cs ds.toList h
    subst h1
    rfl
  | .float .., b, h => by cases b <;> simp only [sameV, Bool.false_eq_true] at h
  | .complex .., b, h => by cases b <;> simp only [sameV, Bool.false_eq_true] at h
theorem sameL_eq : ∀ (l m : List Value), sameL l m = true → l = m
  | [], m, h => by
    cases m <;> simp only [sameL, Bool.false_eq_true] at h
    rfl
  | a :: l, m, h => by
    cases m <;> simp only [sameL, Bool.false_eq_true, Bool.and_eq_true] at h
    rename_i b m
    rw [sameV_eq a b h.1, sameL_eq l m h.2]
end
def beqE : Value × Value × Nat → Value × Value × Nat → Bool
  | (a, b, c), (d, e, f) => and (sameV a d) (and (sameV b e) (Nat.beq c f))
theorem beqE_eq (a b : Value × Value × Nat) (h : beqE a b = true) : a = b := by
  obtain ⟨a1, a2, a3⟩ := a
  obtain ⟨b1, b2, b3⟩ := b
  simp only [beqE, Bool.and_eq_true] at h
  rw [sameV_eq _ _ h.1, sameV_eq _ _ h.2.1, Nat.eq_of_beq_eq_true h.2.2]
def beqC : CB → CB → Bool
  | .row c e el, b => match b with | .row d f em => and (sameL c d) (and (Nat.beq e f) (beqB el em)) | _ => false
  | .map es c, b => match b with | .map fs d => and (beqL beqE es fs) (Nat.beq c d) | _ => false
  | .dfr, b => match b with | .dfr => true | _ => false
  | .iter s p, b => match b with | .iter t q => and (beqS s t) (Nat.beq p q) | _ => false
  | .miter m a c d, b => match b with | .miter n e f g => and (beqO m n) (and (Nat.beq a e) (and (beqL Nat.beq c.toList f.toList) (Nat.beq d g))) | _ => false
  | .dead, b => match b with | .dead => true | _ => false
  | .loop _, _ => false
theorem beqC_eq {a b : CB} (h : beqC a b = true) : a = b := by
  cases a with
  | row c e el =>
    cases b <;> simp only [beqC, Bool.false_eq_true, Bool.and_eq_true] at h
    rw [sameL_eq _ _ h.1, Nat.eq_of_beq_eq_true h.2.1, beqB_eq h.2.2]
  | map es c =>
    cases b <;> simp only [beqC, Bool.false_eq_true, Bool.and_eq_true] at h
    rw [beqL_eq beqE_eq h.1, Nat.eq_of_beq_eq_true h.2]
  | dfr =>
    cases b <;> simp only [beqC, Bool.false_eq_true] at h
    rfl
  | iter s p =>
    cases b <;> simp only [beqC, Bool.false_eq_true, Bool.and_eq_true] at h
    rw [beqS_eq h.1, Nat.eq_of_beq_eq_true h.2]
  | miter m a c d =>
    cases b <;> simp only [beqC, Bool.false_eq_true, Bool.and_eq_true] at h
    rename_i n e f g
    have h1 : c = f := Array.ext' (beqL_eq (fun _ _ => Nat.eq_of_beq_eq_true) h.2.2.1)
    rw [beqO_eq h.1, Nat.eq_of_beq_eq_true h.2.1, h1, Nat.eq_of_beq_eq_true h.2.2.2]
  | dead =>
    cases b <;> simp only [beqC, Bool.false_eq_true] at h
    rfl
  | loop l => cases h
def beqOC : Option CB → Option CB → Bool
  | none, none => true
  | some a, some b => beqC a b
  | _, _ => false
theorem beqOC_eq {a b : Option CB} (h : beqOC a b = true) : a = b := by
  cases a <;> cases b <;> simp only [beqOC, Bool.false_eq_true] at h
  · rfl
  · rw [beqC_eq h]
def beqD : DM → DM → Bool
  | .coll a, b => match b with | .coll b => Nat.beq a b | _ => false
  | .call f q a, b => match b with | .call g r c => and (Nat.beq f g) (and (sameL q r) (sameL a c)) | _ => false
theorem beqD_eq (a b : DM) (h : beqD a b = true) : a = b := by
  cases a <;> cases b <;> simp only [beqD, Bool.false_eq_true, Bool.and_eq_true] at h
  · rw [Nat.eq_of_beq_eq_true h]
  · rw [Nat.eq_of_beq_eq_true h.1, sameL_eq _ _ h.2.1, sameL_eq _ _ h.2.2]
def beqK : CallKind → CallKind → Bool
  | .normal, .normal => true
  | .deferred, .deferred => true
  | _, _ => false
theorem beqK_eq {a b : CallKind} (h : beqK a b = true) : a = b := by
  cases a <;> cases b <;> simp_all [beqK]
def SF.fits (s : SF) (t : SnapF) : Bool := and (Nat.beq s.fn t.fn) (and (beqO s.ar t.ar) (and (beqK s.kd t.kd) (and (beqB s.ret t.ret) (and (sameL ((List.range s.a.n).map s.a.get) t.tm) (beqL beqD s.a.dm t.dm)))))
theorem SF.fits_eq {s : SF} {t : SnapF} (h : s.fits t = true) (hk : s.k = t.k) : s.snap = t := by
  obtain ⟨t1, t2, t3, t4, t5, t6, t7⟩ := t
  simp only [SF.fits, Bool.and_eq_true] at h
  obtain ⟨h1, h2, h3, h4, h5, h6⟩ := h
  simp only [SF.snap]
  rw [Nat.eq_of_beq_eq_true h1, beqO_eq h2, beqK_eq h3, beqB_eq h4, sameL_eq _ _ h5, beqL_eq beqD_eq h6, hk]
def fitsL : List SF → List SnapF → Bool
  | [], [] => true
  | s :: l, t :: m => and (s.fits t) (fitsL l m)
  | _, _ => false
theorem fitsL_eq : ∀ {l : List SF} {m : List SnapF}, fitsL l m = true → l.map (·.k) = m.map (·.k) → l.map SF.snap = m
  | [], [], _, _ => rfl
  | [], _ :: _, h, _ => by cases h
  | _ :: _, [], h, _ => by cases h
  | s :: l, t :: m, h, hk => by
    simp only [fitsL, Bool.and_eq_true] at h
    simp only [List.map_cons, List.cons.injEq] at hk
    rw [List.map_cons, SF.fits_eq h.1 hk.1, fitsL_eq h.2 hk.2]
def St.ks (S : St) : List (List It) := S.top.k :: S.cs.map (·.k)
def Snap.ks (T : Snap) : List (List It) := T.top.k :: T.cs.map (·.k)
def St.fits (keys : List Nat) (T : Snap) (S : St) : Bool := and (S.top.fits T.top) (and (fitsL S.cs T.cs) (and (Nat.beq S.N.sz T.sz) (beqL beqOC (keys.map S.N.get) T.blocks)))
theorem St.fits_eq {keys : List Nat} {T : Snap} {S : St} (h : S.fits keys T = true) (hk : S.ks = T.ks) : S.snap keys = T := by
  obtain ⟨t1, t2, t3, t4⟩ := T
  simp only [St.fits, Bool.and_eq_true] at h
  obtain ⟨h1, h2, h3, h4⟩ := h
  simp only [St.ks, Snap.ks, List.cons.injEq] at hk
  simp only [St.snap]
  rw [SF.fits_eq h1 hk.1, fitsL_eq h2 hk.2, Nat.eq_of_beq_eq_true h3, beqL_eq (fun _ _ => beqOC_eq) h4]
/-- The piece's outcome, asked for. -/
def outcome (keys : List Nat) (T : Snap) : Option St → Option (List (List It) × Bool)
  | some S => some (S.ks, S.fits keys T)
  | none => none
theorem reach_piece {P : Program} (hP : NoCount P) (hm : P.follows .mixedOrders = true) {L d n : Nat} {S : St} {keys : List Nat} {T : Snap} (h : outcome keys T (krun P (fRec P L d) n S) = some (T.ks, true)) : Reach P S (T.st keys) := by
  refine reach_cut (L := L) (d := d) (n := n) hP hm ?_
  cases hr : krun P (fRec P L d) n S with
  | none => rw [hr] at h; cases h
  | some S' =>
    rw [hr] at h
    simp only [outcome, Option.some.injEq, Prod.mk.injEq] at h
    rw [Option.map_some, St.fits_eq h.2 h.1]

/-- What the last frame hands back, and the package's variables then. -/
def St.final (P : Program) (f : FuncId) : St → Option (Value × List (Option CB))
  | ⟨⟨fn, ar, kd, true, ⟨n, t, []⟩, k⟩, [], N⟩ => if fn = f then match P.funcs[fn]? with
    | some fd => match fresult P ⟨n, t, []⟩ N fd.results.toList with
      | some vs => some (kresult vs, N.heads)
      | none => none
    | none => none
    else none
  | _ => none
def begin? (P : Program) (f : FuncId) (args : List Value) (l : List (Option CB)) : Option St := match kenter P f args .normal with
  | some s => some ⟨s, [], CH.first l⟩
  | none => none
theorem calls_reach {P : Program} {f : FuncId} {args : List Value} {S S' : St} {v : Value} (l : List (Option CB)) (o : Nat → Value) (one : ∀ r, (o r).oneCell' = true) (hargs : ∀ u ∈ args, Clo (fun k => k < LIM) u) (hv : plain v = true)
    (h0 : begin? P f args l = some S) (h : Reach P S S') (hf : S'.final P f = some (v, (CH.first l).heads)) (w : World) (hw : Laid l w) :
    Calls P f (args.map (Env.m (Env.bare o one))).toArray w fun e w' => e = .returned v ∧ w.heap.size ≤ w'.heap.size ∧ (∀ b, b < w.heap.size → w'.heap[b]? = w.heap[b]?) ∧ w'.os = w.os ∧ w'.tape = w.tape ∧ w'.output = w.output := by
  intro cs
  unfold begin? at h0
  split at h0
  · rename_i s hk
    cases h0
    have hr : Rel P (Env.bare o one) (CH.first l) w := rel_first hw o one
    obtain ⟨e1, e2, e3, e4, _⟩ := kenter_ok (E := Env.bare o one) hk hargs
    obtain ⟨E', w', hs, X, hst⟩ := h (Env.bare o one) w ⟨hr, e2, by simp, ⟨.inl e3, trivial⟩⟩ cs
    unfold St.final at hf
    split at hf
    · rename_i fn ar kd n t k N
      split at hf
      · rename_i hff
        split at hf
        · rename_i fd hfd
          split at hf
          · rename_i vs hvs
            simp only [Option.some.injEq, Prod.mk.injEq] at hf
            obtain ⟨rfl, hheads⟩ := hf
            have hres : cresults P fd (⟨n, t, []⟩ : FA).abs.tmps N = some (kresult vs) := by
              unfold cresults
              rw [fresult_eq hs.top.a _ hvs, Option.map_some]
              cases vs with
              | nil => rfl
              | cons v r => cases r <;> rfl
            obtain ⟨hrun, _⟩ := results_ok hs.rel hs.top.clo.tmps hres
            rw [m_plain E' hv] at hrun
            have hkd : kd = .normal := by
              rcases hs.stk.1 with h1 | ⟨_, c, r', he, _⟩
              · exact h1
              · cases he
            subst hkd
            refine ⟨.returned (kresult vs), w', SF.frame E' ⟨fn, ar, .normal, true, ⟨n, t, []⟩, k⟩, ⟨rfl, X.hsize, kept_first hw hs.rel X hheads, X.os, X.tape, X.output⟩, ?_, ?_, ?_⟩
            · unfold St.mach at hst
              simp only [e1, List.map_nil, List.nil_append] at hst
              exact hst
            · exact hff
            · exact ⟨rfl, rfl, rfl, fd, hfd, hrun⟩
          · cases hf
        · cases hf
      · cases hf
    · cases hf
  · cases h0
/-! ### positions in a program's text -/
def codeSub : Code → List Nat → Code
  | c, [] => c
  | .seq x _, 0 :: p => codeSub x p
  | .seq _ y, _ :: p => codeSub y p
  | .cond _ x _, 0 :: p => codeSub x p
  | .cond _ _ y, _ :: p => codeSub y p
  | .block _ c, _ :: p => codeSub c p
  | .loop c, _ :: p => codeSub c p
  | .rangeFunc _ _ as _, 0 :: p => codeSub as p
  | .rangeFunc _ _ _ bd, _ :: p => codeSub bd p
  | c, _ => c
def codeAt (P : Program) (f : FuncId) (p : List Nat) : Code := match P.funcs[f]? with
  | some fn => match fn.body with
    | some c => codeSub c p
    | none => .skip
  | none => .skip
def regAt (P : Program) (f : FuncId) (p : List Nat) (i : Nat) : It := match codeAt P f p with
  | .region _ ops _ => .reg ops i (ops.toList.drop i)
  | _ => .beginRound
theorem reach_last {P : Program} (hP : NoCount P) (hm : P.follows .mixedOrders = true) {L d n : Nat} {S : St} {f : FuncId} {v : Value × List (Option CB)} (h : (krun P (fRec P L d) n S).bind (St.final P f) = some v) : ∃ S', Reach P S S' ∧ S'.final P f = some v := by
  obtain ⟨S', h1, h2⟩ := Option.bind_eq_some_iff.1 h
  exact ⟨S', krun_ok hP hm (fRec_le L d) (mkRec_ok hP hm L d) n h1, h2⟩
/-! ### short words for what is written down -/
def vi (n : Nat) : Value := .int .i64 (.ofNat n)
def vp (b o : Nat) : Value := .pointer (some ⟨b, o, none⟩)
def un : Value := undef
end Go.Eng
