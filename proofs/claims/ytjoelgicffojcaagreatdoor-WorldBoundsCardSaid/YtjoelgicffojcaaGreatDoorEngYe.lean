/-
  The engine, part Ya: a state's memory told larger than it is; runs past known calls and cuts to a state; a law whose arguments name a window of memory; calls over a row wherever it lies, with arguments of any shape.
-/
import Derived.Test.YtjoelgicffojcaaGreatDoorEngZs
import Derived.Conc.LeavingOf
import Derived.Below
set_option linter.unusedSectionVars false
set_option linter.unusedSimpArgs false
set_option linter.unusedVariables false
namespace Go.Eng
noncomputable section
open Go.Conc
set_option linter.unusedSimpArgs false
set_option linter.unusedVariables false
set_option linter.unusedSectionVars false
theorem Tr.get_beyond {α : Type} : ∀ {t : Tr α} {n k : Nat}, t.Full n → n ≤ k → t.get k = none
 | .e, _, _, _, _ => rfl
 | .nd v l r, n, k, hf, hk => by
  obtain ⟨m, rfl, h1, h2⟩ := hf
  cases k with
  | zero => omega
  | succ k =>
   rw [Tr.get_succ]
   split
   ·exact Tr.get_beyond h1 (by omega)
   ·exact Tr.get_beyond h2 (by omega)
theorem CH.get_beyond {N : CH} (h : N.Ok) {k : Nat} (hk : N.sz ≤ k) : N.get k = none := by
 rw [CH.get_def]
 split
 ·rfl
 ·exact Tr.get_beyond h.full (by omega)
def Snap.pad (T : Snap) (m : Nat) : Snap := ⟨T.top, T.cs, m, T.blocks⟩
section
variable [Hk]
theorem reach_pad {P : Program} (S : St) (keys : List Nat) {wm m : Nat} (hwm : wm ≤ S.N.wm) (hkeys : ∀ k, k < wm → k ∈ keys) (hm : S.N.sz ≤ m) : Reach P S (((S.snap keys).pad m).stw keys wm) := by
 intro main J hx lo E w O W hlo hs ow under hu K hK
 obtain ⟨h1, h2⟩ := fill_ok (sz := m) (g := S.N.get) keys (Tr.skel m m) (Tr.full_skel _ _ (Nat.le_refl _)) (fun k b h => by rw [Tr.get_skel] at h; cases h)
 have hN : (((S.snap keys).pad m).stw keys wm).N = ⟨m, wm, 0, fill m keys (keys.map S.N.get) (Tr.skel m m)⟩ := rfl
 have hget : ∀ k b, (((S.snap keys).pad m).stw keys wm).N.get k = some b → S.N.get k = some b := fun k b h => h2 k b (by rw [hN] at h; exact h)
 have hlive : ∀ k, (((S.snap keys).pad m).stw keys wm).N.live k → S.N.live k := fun k ⟨b, hb, hd⟩ => ⟨b, hget k b hb, hd⟩
 have hlt : ∀ k b, S.N.get k = some b → k < S.N.sz := fun k b hb => by
  rcases Nat.lt_or_ge k S.N.sz with h | h
  ·exact h
  ·rw [CH.get_beyond hs.rel.ok h] at hb; cases hb
 have hkeep : ∀ k, k < S.N.sz → k < wm → (((S.snap keys).pad m).stw keys wm).N.get k = S.N.get k := by
  intro k hk hw
  cases hg : S.N.get k with
  | some b =>
   have := fill_mem (sz := m) (g := S.N.get) (Nat.lt_of_lt_of_le hk hm) hg keys (Tr.skel m m) (Tr.full_skel _ _ (Nat.le_refl _)) (fun k b h => by rw [Tr.get_skel] at h; cases h) (hkeys k hw)
   rw [hN]
   exact this
  | none =>
   cases hg' : (((S.snap keys).pad m).stw keys wm).N.get k with
   | none => rfl
   | some b =>
    have := hget k b hg'
    rw [hg] at this
    cases this
 let E' : Env := { E with f := fun k => if k < S.N.sz then E.f k else w.heap.size, D := fun k => E.D k ∨ (S.N.sz ≤ k ∧ k < m) }
 have hf : ∀ k, E.D k → E'.f k = E.f k := fun k hk => if_pos (hs.rel.dom k hk)
 have hD : ∀ k, E'.D k → (((S.snap keys).pad m).stw keys wm).N.live k → E.D k := fun k hk ⟨b, hb, _⟩ => hk.elim id fun h => absurd (hlt k b (hget k b hb)) (Nat.not_lt.2 h.1)
 have hmv : ∀ v, Clo E.D v → E'.m v = E.m v := fun v hv => mv_ext (ρ := E.toRen) (ρ' := E'.toRen) rfl (fun k hk => ⟨hf k hk, rfl, rfl⟩) v hv
 have hrel : Rel P E' (((S.snap keys).pad m).stw keys wm).N w := by
  refine ⟨⟨Nat.zero_le _, h1⟩, fun g hg => ?_, fun k hk => ?_, fun i j hi hj li lj e => ?_, fun k b hk hb => ?_⟩
  ·obtain ⟨g1, g2, g3⟩ := hs.rel.gl g hg
   exact ⟨.inl g1, (hf g g1).trans g2, g3⟩
  ·exact hk.elim (fun h => Nat.lt_of_lt_of_le (hs.rel.dom k h) hm) fun h => h.2
  ·have di := hD i hi li
   have dj := hD j hj lj
   rw [hf i di, hf j dj] at e
   exact hs.rel.inj i j di dj (hlive i li) (hlive j lj) e
  ·have hb' := hget k b hb
   have hk' : E.D k := hk.elim id fun h => absurd (hlt k b hb') (Nat.not_lt.2 h.1)
   rw [hf k hk']
   exact (hs.rel.blk k b hk' hb').mono (fun j hj => ⟨.inl hj, hf j hj⟩) hmv rfl rfl
 have hext : ExtC O E S.N w E' (((S.snap keys).pad m).stw keys wm).N w :=
  ⟨fun k h => ⟨.inl h, hf k h, rfl, rfl⟩, fun _ h => h, fun k h3 h4 => .inr ⟨h3, h4⟩, hm, Nat.le_refl _, fun k h => h.elim .inl fun h => .inr (.inl (by
   have : ¬ k < S.N.sz := Nat.not_lt.2 h.1
   simp only [E', if_neg this]
   exact Nat.le_refl _)), fun k _ h => hlive k h, hwm, fun k hk hw => hkeep k hk hw, fun _ _ _ _ => rfl, rfl, rfl, rfl, rfl⟩
 have hcs : (((S.snap keys).pad m).stw keys wm).cs = S.cs.map fun s => s.snap.sf := by
  show (S.cs.map SF.snap).map SnapF.sf = _
  rw [List.map_map]
  rfl
 have hown : Own O W lo E' (((S.snap keys).pad m).stw keys wm).N w := by
  refine ⟨fun k hk hl => ?_, fun k hk hl h => ?_, ow.lt, Nat.le_trans ow.low hm⟩
  ·rw [hf k (hD k hk hl)]; exact ow.img k (hD k hk hl) (hlive k hl)
  ·rw [hf k (hD k hk hl)]; exact ow.wri k (hD k hk hl) (hlive k hl) h
 obtain ⟨x1, x2⟩ := SF.ext hext hs.top
 obtain ⟨y1, y2⟩ := frames_ext hext hs.cs
 have hsn : SRel P E' (((S.snap keys).pad m).stw keys wm) w := by
  refine ⟨hrel, SF.snap_ok x2, ?_, ?_⟩
  ·intro s h
   rw [hcs] at h
   obtain ⟨s', h', rfl⟩ := List.mem_map.1 h
   exact SF.snap_ok (y2 s' h')
  ·rw [hcs]
   exact stk_snap hs.stk
 have : St.gor E' (((S.snap keys).pad m).stw keys wm) under = St.gor E S under := by
  unfold St.gor
  rw [hcs, List.map_map]
  have e1 : (((S.snap keys).pad m).stw keys wm).top.frame E' = S.top.frame E' := SF.snap_frame E' S.top
  have e2 : (S.cs.map (SF.frame E' ∘ fun s => s.snap.sf)) = S.cs.map (SF.frame E') := List.map_congr_left fun s _ => SF.snap_frame E' s
  rw [e1, e2, x1, y1]
 rw [← this]
 exact hK O W E' w hsn ⟨hrel, hown, hext, fun _ h => h, fun _ h => h, fun _ h => .inl h⟩
def cutRun (P : Program) (A : Rec) : List (List Nat × Nat × Value) → List Nat → St → Option (List Value × St)
 | [], e, S => match kleaps P A e S with
  | some T => some ([], T)
  | none => none
 | (l, r, v) :: q, e, S => match kleaps P A l S with
  | some S' => match S'.top.a.t.get r with
   | some u => match cutRun P A q e (S'.tell r v) with
    | some (vs, T) => some (u :: vs, T)
    | none => none
   | none => none
  | none => none
theorem cutRun_ok {P : Program} (hP : NoCount P) (hm : P.follows .mixedOrders = true) {A B : Rec} (hAB : A.Le B) (hB : RecOk P B) : ∀ {q : List (List Nat × Nat × Value)} {e : List Nat} {S T : St} {vs : List Value},
  cutRun P A q e S = some (vs, T) → vs = q.map (fun x => x.2.2) → Reach P S T
 | [], e, S, T, vs, h, hv => by
  simp only [cutRun] at h
  split at h
  ·rename_i u hu
   cases h
   exact kleaps_ok hP hm hAB hB e hu
  ·cases h
 | (l, r, v) :: q, e, S, T, vs, h, hv => by
  simp only [cutRun] at h
  split at h
  rotate_left
  ·cases h
  rename_i S' h1
  split at h
  rotate_left
  ·cases h
  rename_i u h2
  split at h
  rotate_left
  ·cases h
  rename_i ws T' h3
  cases h
  simp only [List.map_cons, List.cons.injEq] at hv
  obtain ⟨rfl, hv⟩ := hv
  have a1 := cutRun_ok hP hm hAB hB h3 hv
  rw [St.tell_self h2] at a1
  exact (kleaps_ok hP hm hAB hB l h1).trans a1
def cutTo (P : Program) (A : Rec) (q : List (List Nat × Nat × Value)) (e : List Nat) (keys : List Nat) (wm m : Nat) (S : St) : Option (List Value × (Bool × Snap)) := match cutRun P A q e S with
 | some (vs, T) => some (vs, (and (Nat.ble wm T.N.wm) (Nat.ble T.N.sz m), (T.snap keys).pad m))
 | none => none
theorem cutTo_ok {P : Program} (hP : NoCount P) (hm : P.follows .mixedOrders = true) {H : Hook} (hH : HookOk P H) {Ld d : Nat} {q : List (List Nat × Nat × Value)} {e keys : List Nat} {wm m : Nat} {S : St} {T : Snap} {vs : List Value}
  (hk : keepsAll wm keys = true) (h : cutTo P (fRec P H Ld d) q e keys wm m S = some (vs, (true, T))) (hv : vs = q.map (fun x => x.2.2)) : Reach P S (T.stw keys wm) := by
 unfold cutTo at h
 split at h
 rotate_left
 ·cases h
 rename_i us T1 h1
 simp only [Option.some.injEq, Prod.mk.injEq, Bool.and_eq_true] at h
 obtain ⟨rfl, ⟨h2, h3⟩, rfl⟩ := h
 exact (cutRun_ok hP hm (fRec_le H Ld d) (mkRec_ok hP hm hH Ld d) h1 hv).trans (reach_pad T1 keys (Nat.le_of_ble_eq_true h2) (keepsAll_eq hk) (Nat.le_of_ble_eq_true h3))
def cutEnd (P : Program) (A : Rec) (q : List (List Nat × Nat × Value)) (e : List Nat) (f : FuncId) (kd : CallKind) (S : St) : Option (List Value × (Option Value × (Bool × Option CB))) := match cutRun P A q e S with
 | some (vs, T) => some (vs, (finV P f kd T, (Nat.ble 33 T.N.wm, T.N.get 32)))
 | none => none
theorem cutEnd_ok {P : Program} (hP : NoCount P) (hm : P.follows .mixedOrders = true) {H : Hook} (hH : HookOk P H) {Ld d : Nat} {q : List (List Nat × Nat × Value)} {e : List Nat} {f : FuncId} {kd : CallKind} {S : St} {vs : List Value} {v : Value} {c : List Value} {t : TypeId} {el : Bool}
  (h : cutEnd P (fRec P H Ld d) q e f kd S = some (vs, (some v, (true, some (.row c t el))))) (hv : vs = q.map (fun x => x.2.2)) : Rows P f kd v c t el S := by
 unfold cutEnd at h
 split at h
 rotate_left
 ·cases h
 rename_i us T1 h1
 simp only [Option.some.injEq, Prod.mk.injEq] at h
 obtain ⟨rfl, h2, h3, h4⟩ := h
 exact ⟨T1, cutRun_ok hP hm (fRec_le H Ld d) (mkRec_ok hP hm hH Ld d) h1 hv, fin_v h2, Nat.le_of_ble_eq_true h3, h4⟩
theorem rows_from {P : Program} {f : FuncId} {kd : CallKind} {v : Value} {c : List Value} {e : TypeId} {el : Bool} {S S1 : St} (h : Reach P S S1) (g : Rows P f kd v c e el S1) : Rows P f kd v c e el S := by
 obtain ⟨S3, a1, a2⟩ := g
 exact ⟨S3, h.trans a1, a2⟩
end
end
end Go.Eng
namespace Go.Eng
noncomputable section
open Go.Conc
open Go.ConcN (sumTo)
set_option linter.unusedSimpArgs false
set_option linter.unusedVariables false
set_option linter.unusedSectionVars false
theorem Will.kept {P : Program} {n0 : Nat} (hn : 0 < n0) {K : KP} {O W : Nat → Prop} {g : Goroutine} {w : World} {b : Nat} (h : Will P true (fun w => n0 ≤ w.heap.size) K O W g w) :
  O b → ¬ W b → b < w.heap.size → n0 ≤ w.heap.size → Will P true (fun _ => True) (fun O' W' g' w' => K O' W' g' w' ∧ w'.heap[b]? = w.heap[b]?) O W g w := by
 induction h with
 | stop hk =>
  intro hb hw hl hn0
  exact .stop fun w1 h1 _ => ⟨hk w1 h1 (Nat.le_trans hn0 h1.size), h1.keep b hb⟩
 | act hs h1 h2 ih =>
  intro hb hw hl hn0
  refine .act hs (fun w1 r _ => h1 w1 r (Nat.le_trans hn0 r.size)) (fun w1 g' w2 es r _ hst => ?_)
  obtain ⟨g'', w2', es', e, hg⟩ := h1 w1 r (Nat.le_trans hn0 r.size)
  rw [hst] at e
  cases e
  have hl1 := Nat.lt_of_lt_of_le hl r.size
  refine (ih w1 g' w2 es r (Nat.le_trans hn0 r.size) hst (.inl hb) (fun h => h.elim hw fun h => by omega) (Nat.lt_of_lt_of_le hl1 hg.size) (Nat.le_trans hn0 (Nat.le_trans r.size hg.size))).mono fun O' W' g' w' h => ⟨h.1, ?_⟩
  rw [h.2, hg.keep b hl1 hw, r.keep b hb]
 | jump Φ hm hj h1 h2 ih =>
  rename_i w
  intro _ _ _ _
  have := hj { w with heap := #[] }
  simp at this
  omega
def CH.pane (c : List Value) : CH := CH.small 33 [32] [some (.win c)]
def Env.pane (o : Nat → Value) (one : Toks o) (B off : Nat) : Env := ⟨⟨fun k => if k = 32 then B else k, fun _ => 0, fun k => if k = 32 then off else 0, o, one⟩, fun k => k ≤ 32⟩
theorem pane_get (c : List Value) (k : Nat) (bl : CB) (h : (CH.pane c).get k = some bl) : k = 32 ∧ bl = .win c := by
 obtain ⟨h1, h2⟩ := @fill_ok ⟨true⟩ (sz := 33) (g := fun k => if k = 32 then some (.win c) else none) [32] (Tr.skel 33 33) (Tr.full_skel _ _ (Nat.le_refl _)) (fun k b h => by rw [Tr.get_skel] at h; cases h)
 have := h2 k bl (by
  rw [CH.get_def] at h
  simpa [CH.pane, CH.small] using h)
 by_cases hk : k = 32
 ·rw [if_pos hk] at this
  exact ⟨hk, (Option.some.inj this).symm⟩
 ·rw [if_neg hk] at this
  cases this
theorem rel_pane {P : Program} {c : List Value} (hc : plainL c = true) (o : Nat → Value) (one : Toks o) {w : World} {B : Nat} {pre sp : List Value} {e : TypeId} {lo hi : Nat} (hB : w.heap[B]? = some (.cells (pre ++ (c ++ sp)).toArray e (lo, hi))) :
  Rel P (Env.pane o one B pre.length) (CH.pane c) w := by
 have hlive : ∀ k, (CH.pane c).live k → k = 32 := fun k ⟨bl, h1, _⟩ => (pane_get c k bl h1).1
 refine ⟨?_, fun g hg => ?_, fun k hk => Nat.lt_succ_of_le hk, fun i j hi hj li lj _ => (hlive i li).trans (hlive j lj).symm, fun k bl hk hbk => ?_⟩
 ·obtain ⟨h1, _⟩ := @fill_ok ⟨true⟩ (sz := 33) (g := fun k => if k = 32 then some (.win c) else none) [32] (Tr.skel 33 33) (Tr.full_skel _ _ (Nat.le_refl _)) (fun k b h => by rw [Tr.get_skel] at h; cases h)
  exact ⟨Nat.zero_le _, h1⟩
 ·have hg' : g < 32 := hg
  have hne : g ≠ 32 := by omega
  exact ⟨Nat.le_of_lt hg', by simp [Env.pane, hne], by simp [Env.pane, hne]⟩
 ·obtain ⟨rfl, rfl⟩ := pane_get c k bl hbk
  exact ⟨plainL_all.1 hc, pre, sp, e, lo, hi, by simpa [Env.pane] using hB, by simp [Env.pane], rfl⟩
end
end Go.Eng
namespace Go.Eng
noncomputable section
open Go.Conc
set_option linter.unusedSimpArgs false
set_option linter.unusedVariables false
set_option linter.unusedSectionVars false
section
variable [Hk]
theorem row_any {P : Program} {f : FuncId} {c : List Value} {e : TypeId} {el : Bool} {as : Nat → List Value} {v : Value} (hc : plainL c = true) (hv : plain v = true)
  (has : ∀ (E : Env) (b : Nat), (as b).map E.m = (as 32).map (E.at32 b).m) (hcl1 : ∀ (D : Nat → Prop) (b : Nat), (∀ u ∈ as b, Clo D u) → D b) (hcl2 : ∀ u ∈ as 32, Clo (fun j => j ≤ 32) u)
  (h : ∀ kd, kd = .normal ∨ kd = .deferred → ∃ s0 S, kenter P f (as 32) kd = some s0 ∧ Reach P ⟨s0, [], CH.lone c e el⟩ S ∧ Fin P f kd v S ∧ 33 ≤ S.N.wm ∧ S.N.get 32 = some (.row c e el))
  (N : CH) {b : Nat} (hb32 : 32 ≤ b) (hb : N.get b = some (.row c e el)) : CallOk P f (as b) N v N := by
 intro main J hctx lo E w O W hlo R own hcl kd cs hcs K hK
 obtain ⟨s0, S, hk, hr, hf, hwm, h32⟩ := h kd hcs.1
 have hDb : E.D b := hcl1 _ _ hcl
 have hm1 := has E b
 have hlone := lone_get c e el
 have hlive : ∀ k, (CH.lone c e el).live k → k = 32 := fun k ⟨bl, h1, _⟩ => (hlone k bl h1).1
 have hpl : ∀ (F : Env), c.map F.m = c := fun F => by
  have : ∀ u ∈ c, F.m u = u := fun u hu => m_plain F (plainL_all.1 hc u hu)
  exact (List.map_congr_left this).trans (List.map_id _)
 have hbl := R.blk b _ hDb hb
 have R0 : Rel P (E.at32 b) (CH.lone c e el) w := by
  refine ⟨?_, fun g hg => ?_, fun k hk => ?_, fun i j hi hj li lj _ => (hlive i li).trans (hlive j lj).symm, fun k bl hk hbk => ?_⟩
  ·obtain ⟨h1, _⟩ := fill_ok (sz := 33) (g := fun k => if k = 32 then some (.row c e el) else none) [32] (Tr.skel 33 33) (Tr.full_skel _ _ (Nat.le_refl _)) (fun k b h => by rw [Tr.get_skel] at h; cases h)
   exact ⟨Nat.zero_le _, h1⟩
  ·have hg' : g < 32 := hg
   have hne : g ≠ 32 := by omega
   refine ⟨Nat.le_of_lt hg', ?_, ?_⟩
   ·simp only [Env.at32, if_neg hne]
    exact (R.gl g hg).2.1
   ·simp only [Env.at32, if_neg hne]
    exact (R.gl g hg).2.2
  ·exact Nat.lt_succ_of_le hk
  ·obtain ⟨rfl, rfl⟩ := hlone k bl hbk
   obtain ⟨q1, pre, sp, lo', hi', q2, q3, q4, q5, q6⟩ := hbl
   refine ⟨fun u hu => Clo_plain _ _ (plainL_all.1 hc u hu), pre, sp, lo', hi', ?_, ?_, q4, ?_, fun h => absurd h (by decide)⟩
   ·simp only [Env.at32, if_true]
    rw [hpl] at q2
    exact q2.trans (by rw [hpl])
   ·simpa [Env.at32] using q3
   ·simpa [Env.at32] using q5
 obtain ⟨e1, e2, e3, e4, _⟩ := kenter_ok (E := E.at32 b) hk hcl2
 have hs0 : SRel P (E.at32 b) ⟨s0, [], CH.lone c e el⟩ w := ⟨R0, e2, by simp, by
  refine ⟨?_, trivial⟩
  rw [e3]
  exact hcs.1.imp (fun h => h) fun h => ⟨h, .inl rfl⟩⟩
 have hlb : N.live b := ⟨_, hb, rfl⟩
 have own0 : Own O W 33 (E.at32 b) (CH.lone c e el) w := ⟨fun j hj hl => by
   obtain rfl := hlive j hl
   simp only [Env.at32, if_true]
   exact own.img b hDb hlb, fun j hj hl hlo => by
   have : j ≤ 32 := hj
   omega, own.lt, Nat.le_refl _⟩
 have hg0 : St.gor (E.at32 b) ⟨s0, [], CH.lone c e el⟩ cs = G (Frame.enter P f ((as b).map E.m).toArray kd) cs := by
  unfold St.gor
  rw [hm1, e1]
  rfl
 rw [← hg0]
 refine hr main J 33 _ w O W hwm hs0 own0 cs hcs.any K fun O' W' E' w' hs L => ?_
 obtain ⟨hv', fr, f1, f2, f3⟩ := hf (under := cs) hs L.own
 have hD32 : (E.at32 b).D 32 := Nat.le_refl 32
 obtain ⟨m1, m2, m3, m4⟩ := L.ext.mono 32 hD32
 have m2' : E'.f 32 = E.f b := by rw [m2]; simp [Env.at32]
 have m3' : E'.x 32 = E.x b := by rw [m3]; simp [Env.at32]
 have m4' : E'.s 32 = E.s b := by rw [m4]; simp [Env.at32]
 have hframe : ∀ d, O d → d ≠ E.f b → w'.heap[d]? = w.heap[d]? := fun d hd hne => L.ext.frame d hd (own.lt d hd) fun k hk hl he => hne (by
  obtain rfl := hlive k hl
  simpa [Env.at32] using he.symm)
 have hbl' := L.rel.blk 32 _ m1 h32
 have rel' : Rel P E N w' := by
  refine ⟨R.ok, R.gl, R.dom, R.inj, fun k bl hk hbk => ?_⟩
  cases hdd : bl.isDead with
  | true => cases bl <;> simp [CB.isDead] at hdd; trivial
  | false =>
   have hl : N.live k := ⟨bl, hbk, hdd⟩
   by_cases hkb : k = b
   ·subst hkb
    rw [hb] at hbk
    cases hbk
    obtain ⟨q1, pre, sp, lo', hi', q2, q3, q4, q5, q6⟩ := hbl'
    refine ⟨fun u hu => Clo_plain _ _ (plainL_all.1 hc u hu), pre, sp, lo', hi', ?_, by rw [q3, m4'], q4, by rw [← m3', ← m4']; exact q5, fun h => absurd h (Nat.not_lt.2 hb32)⟩
    rw [hpl] at q2
    rw [hpl, ← m2']
    exact q2
   ·have hne : E.f k ≠ E.f b := fun he => hkb (R.inj k b hk hDb hl hlb he)
    rw [hframe _ (own.img k hk hl) hne]
    exact R.blk k bl hk hbk
 have L2 : Later P lo O W E N w O' W' E N w' := by
  refine ⟨rel', ⟨fun k hk hl => L.oo _ (own.img k hk hl), fun k hk hl h => L.ww _ (own.wri k hk hl h), L.own.lt, own.low⟩, ?_, L.oo, L.ww, L.ou⟩
  exact ⟨fun k hk => ⟨hk, rfl, rfl, rfl⟩, fun k hk => .inl hk, fun k h1 h2 => absurd h2 (by omega), Nat.le_refl _, L.ext.hsize, fun k hk => .inl hk, fun k _ h => h, Nat.le_refl _, fun _ _ _ => rfl,
   fun d hd hlt hn => hframe d hd fun he => hn b hDb hlb he.symm, L.ext.os, L.ext.tape, L.ext.output, rfl⟩
 rw [f1]
 refine hK O' W' E w' fr L2 (Clo_plain _ _ hv) f2 ?_
 rw [m_plain E hv]
 rw [m_plain E' hv] at f3
 exact f3
theorem call_as {P : Program} {f : FuncId} {args : List Value} {N : CH} {v : Value} (h : ∀ E : Env, ∃ args', args.map E.m = args'.map E.m ∧ (∀ u ∈ args', Clo E.D u) ∧ CallOk P f args' N v N) : CallOk P f args N v N := by
 intro main J hctx lo E w O W hlo R own hcl kd cs hcs K hK
 obtain ⟨args', h1, h2, h3⟩ := h E
 have := h3 main J lo E w O W hlo R own h2 kd cs hcs K hK
 rw [h1]
 exact this
end
def ints? (k : IntKind) : List Value → Option (List Int)
 | [] => some []
 | .int j n :: r => if j = k then match ints? k r with
   | some l => some (n :: l)
   | none => none
  else none
 | _ => none
theorem ints?_eq {k : IntKind} : ∀ {l : List Value} {cs : List Int}, ints? k l = some cs → l = cs.map (.int k)
 | [], cs, h => by cases h; rfl
 | .int j n :: r, cs, h => by
  simp only [ints?] at h
  split at h
  ·rename_i hj
   subst hj
   split at h
   ·rename_i l hl
    cases h
    rw [ints?_eq hl]
    rfl
   ·cases h
  ·cases h
 | .bool _ :: _, _, h => by cases h
 | .float .. :: _, _, h => by cases h
 | .complex .. :: _, _, h => by cases h
 | .string _ :: _, _, h => by cases h
 | .pointer _ :: _, _, h => by cases h
 | .slice .. :: _, _, h => by cases h
 | .map _ :: _, _, h => by cases h
 | .chan _ :: _, _, h => by cases h
 | .func .. :: _, _, h => by cases h
 | .nilFunc :: _, _, h => by cases h
 | .iface .. :: _, _, h => by cases h
 | .nilIface :: _, _, h => by cases h
 | .agg _ :: _, _, h => by cases h
 | .tuple _ :: _, _, h => by cases h
theorem ints_plain (k : IntKind) (cs : List Int) : plainL (cs.map (.int k)) = true := plainL_all.2 fun v hv => by
 obtain ⟨n, _, rfl⟩ := List.mem_map.1 hv
 rfl
def hookInts {α : Type} (f : FuncId) (pick : List Value → Option (Nat × (Nat × α))) (val : α → List Int → Value) : Hook := fun g as N =>
 if Nat.beq g f = true then match pick as with
  | some (b, (l, x)) => match N.get b with
   | some (.row c e true) => match ints? .i64 c with
    | some cs => if and (Nat.beq cs.length l) (and (Nat.beq e 3) (and (Nat.ble 1 l) (and (Nat.ble l 8) (Nat.ble 32 b)))) = true then some (val x cs, N) else none
    | none => none
   | _ => none
  | none => none
 else none
theorem hookInts_ok [Hk] {P : Program} {α : Type} {f : FuncId} {pick : List Value → Option (Nat × (Nat × α))} {val : α → List Int → Value} (as : Nat → Nat → α → List Value) (hbody : (P.funcs[f]?).any (fun fn => fn.body.isSome) = true)
  (hp : ∀ l b n x, pick l = some (b, (n, x)) → l = as b n x) (hpl : ∀ x cs, plain (val x cs) = true)
  (has : ∀ (n : Nat) (x : α) (E : Env) (b : Nat), (as b n x).map E.m = (as 32 n x).map (E.at32 b).m) (hcl1 : ∀ (n : Nat) (x : α) (D : Nat → Prop) (b : Nat), (∀ u ∈ as b n x, Clo D u) → D b) (hcl2 : ∀ (n : Nat) (x : α), ∀ u ∈ as 32 n x, Clo (fun j => j ≤ 32) u)
  (h : ∀ x b l cs, pick (as b l x) = some (b, (l, x)) → cs.length = l → 1 ≤ l → l ≤ 8 → ∀ kd, kd = .normal ∨ kd = .deferred → ∃ s0, kenter P f (as 32 l x) kd = some s0 ∧ Rows P f kd (val x cs) (cs.map (.int .i64)) 3 true ⟨s0, [], CH.lone (cs.map (.int .i64)) 3 true⟩) : HookOk P (hookInts f pick val) := by
 intro g args N u N' hh
 unfold hookInts at hh
 split at hh
 rotate_left
 ·cases hh
 rename_i hg
 obtain rfl := Nat.eq_of_beq_eq_true hg
 split at hh
 rotate_left
 ·cases hh
 rename_i b l x hx
 split at hh
 rotate_left
 ·cases hh
 rename_i c e hc
 split at hh
 rotate_left
 ·cases hh
 rename_i cs hcs
 split at hh
 rotate_left
 ·cases hh
 rename_i hcond
 simp only [Bool.and_eq_true] at hcond
 obtain ⟨x1, x2, x3, x4, x5⟩ := hcond
 simp only [Option.some.injEq, Prod.mk.injEq] at hh
 obtain ⟨rfl, rfl⟩ := hh
 obtain rfl := ints?_eq hcs
 obtain rfl := Nat.eq_of_beq_eq_true x2
 obtain rfl := hp _ _ _ _ hx
 refine ⟨row_any (as := fun b => as b l x) (ints_plain .i64 cs) (hpl x cs) (has l x) (hcl1 l x) (hcl2 l x) (fun kd hkd => ?_) N (Nat.le_of_ble_eq_true x5) hc, ?_⟩
 ·obtain ⟨s0, a1, S3, a2, a3, a4, a5⟩ := h x b l cs hx (Nat.eq_of_beq_eq_true x1) (Nat.le_of_ble_eq_true x3) (Nat.le_of_ble_eq_true x4) kd hkd
  exact ⟨s0, S3, a1, a2, a3, a4, a5⟩
 ·cases hf : P.funcs[g]? with
  | none => rw [hf] at hbody; cases hbody
  | some fn => exact ⟨fn, rfl, by rw [hf] at hbody; exact hbody⟩
end
end Go.Eng
namespace Go.Eng
noncomputable section
open Go.Conc
set_option linter.unusedSimpArgs false
set_option linter.unusedVariables false
set_option linter.unusedSectionVars false
inductive Leg where
 | call (g : Nat)
 | tell (f r : Nat) (v : Value)
 | stop (f r : Nat)
 | cast (f r : Nat)
def atCall (g : Nat) : St → Bool
 | ⟨⟨_, _, _, false, a, .reg _ _ (o :: _) :: _⟩, _, _⟩ => match o.op with
  | .call c => match c.callee with
   | .value fo => match fev a fo with
    | some (.func (.func f) _ _) => Nat.beq f g
    | _ => false
   | _ => false
  | _ => false
 | _ => false
def atOp (f r : Nat) : St → Bool
 | ⟨⟨fn, _, _, false, _, .reg _ _ (o :: _) :: _⟩, _, _⟩ => match o.dst with
  | some d => and (Nat.beq fn f) (Nat.beq d r)
  | none => false
 | _ => false
def atRet : St → Bool
 | ⟨⟨_, _, _, true, _, _⟩, [], _⟩ => true
 | _ => false
def til (P : Program) (R : Rec) (p : St → Bool) : Nat → St → Option St
 | 0, _ => none
 | n + 1, S => match p S with
  | true => some S
  | false => match kstep P R S with
   | some S' => til P R p n S'
   | none => none
def walk (P : Program) (A : Rec) : List Leg → St → Option (List Value × St)
 | [], S => some ([], S)
 | .call g :: q, S => match til P A (atCall g) 20000 S with
  | some S1 => match kdo P A S1 with
   | some S2 => walk P A q S2
   | none => none
  | none => none
 | .stop f r :: q, S => match til P A (atOp f r) 20000 S with
  | some S1 => walk P A q S1
  | none => none
 | .tell f r v :: q, S => match til P A (atOp f r) 20000 S with
  | some S1 => match kdo P A S1 with
   | some S2 => match S2.top.a.t.get r with
    | some u => match walk P A q (S2.tell r v) with
     | some (vs, T) => some (u :: vs, T)
     | none => none
    | none => none
   | none => none
  | none => none
 | .cast f r :: q, S => match til P A (atOp f r) 20000 S with
  | some S1 => match kdo P A S1 with
   | some S2 => match S2.top.a.t.get r with
    | some (.chan (some x)) => match tokVal x with
     | some v => walk P A q (S2.tell r v)
     | none => none
    | _ => none
   | none => none
  | none => none
def tells : List Leg → List Value
 | [] => []
 | .tell _ _ v :: q => v :: tells q
 | .call _ :: q => tells q
 | .stop _ _ :: q => tells q
 | .cast _ _ :: q => tells q
section
variable [Hk]
theorem reach_cast {P : Program} {S : St} {r x : Nat} {v : Value} (hg : S.top.a.t.get r = some (.chan (some x))) (hv : tokVal x = some v) : Reach P S (S.tell r v) := by
 intro main J hx lo E w O W hlo hs ow under hu K hK
 obtain ⟨⟨fn, ar, kd, ret, ⟨n, t, dm⟩, k⟩, cs, N⟩ := S
 have ht := hs.top
 have hfull : t.Full n := ht.a
 have hr : r < n := by
  rcases Nat.lt_or_ge r n with h | h
  ·exact h
  ·have hg' : t.get r = some (.chan (some x)) := hg
   rw [Tr.get_beyond hfull h] at hg'
   cases hg'
 obtain ⟨ho, kk, nn, rfl⟩ := tok_facts.2.2 E.o x v E.one.is hv
 obtain ⟨p1, p2⟩ := FA.put_ok (a := ⟨n, t, dm⟩) ht.a (some r) (.int kk nn)
 have hput : FA.put ⟨n, t, dm⟩ (some r) (.int kk nn) = ⟨n, t.set r (.int kk nn), dm⟩ := if_pos hr
 rw [hput] at p1 p2
 have hget : (⟨n, t, dm⟩ : FA).abs.tmps[r]? = some (.chan (some x)) := by
  rw [FA.get_abs]
  unfold FA.get?
  rw [if_pos hr]
  show some (match t.get r with | some v => v | none => undef) = _
  have hg' : t.get r = some (.chan (some x)) := hg
  rw [hg']
 have hrl : r < (⟨n, t, dm⟩ : FA).abs.tmps.length := (List.getElem?_eq_some_iff.1 hget).1
 have htm : (⟨n, t.set r (.int kk nn), dm⟩ : FA).abs.tmps = (⟨n, t, dm⟩ : FA).abs.tmps.set r (.int kk nn) := by
  rw [p2]
  rfl
 have hdm : (⟨n, t.set r (.int kk nn), dm⟩ : FA).abs.dm = (⟨n, t, dm⟩ : FA).abs.dm := rfl
 have hmap : (⟨n, t.set r (.int kk nn), dm⟩ : FA).abs.tmps.map E.m = (⟨n, t, dm⟩ : FA).abs.tmps.map E.m := by
  rw [htm, List.map_set]
  apply List.ext_getElem?
  intro i
  rw [List.getElem?_set]
  split
  ·rename_i e
   subst e
   rw [List.length_map, if_pos hrl, List.getElem?_map, hget]
   show some (E.m (.int kk nn)) = some (E.m (.chan (some x)))
   have : E.m (.chan (some x)) = E.o x := rfl
   rw [this, ho]
   rfl
  ·rfl
 have hact : E.act (⟨n, t.set r (.int kk nn), dm⟩ : FA).abs = E.act (⟨n, t, dm⟩ : FA).abs := by
  unfold Env.act
  rw [hmap, hdm]
 have hfr : SF.frame E ⟨fn, ar, kd, ret, ⟨n, t.set r (.int kk nn), dm⟩, k⟩ = SF.frame E ⟨fn, ar, kd, ret, ⟨n, t, dm⟩, k⟩ := by
  unfold SF.frame
  simp only [hact]
 have hok : SF.Ok E.D ⟨fn, ar, kd, ret, ⟨n, t.set r (.int kk nn), dm⟩, k⟩ := by
  refine ⟨p1, ⟨fun u hu => ?_, fun d hd => ht.clo.dm d hd⟩, ht.ar, ht.its, ht.ret, ht.kd⟩
  rw [htm] at hu
  rcases List.mem_or_eq_of_mem_set hu with h | rfl
  ·exact ht.clo.tmps u h
  ·trivial
 have hsn : SRel P E (St.tell r (.int kk nn) ⟨⟨fn, ar, kd, ret, ⟨n, t, dm⟩, k⟩, cs, N⟩) w := ⟨hs.rel, hok, hs.cs, hs.stk⟩
 have hgor : St.gor E (St.tell r (.int kk nn) ⟨⟨fn, ar, kd, ret, ⟨n, t, dm⟩, k⟩, cs, N⟩) under = St.gor E ⟨⟨fn, ar, kd, ret, ⟨n, t, dm⟩, k⟩, cs, N⟩ under := by
  show G (SF.frame E ⟨fn, ar, kd, ret, ⟨n, t.set r (.int kk nn), dm⟩, k⟩) (cs.map (SF.frame E) ++ under) = G (SF.frame E ⟨fn, ar, kd, ret, ⟨n, t, dm⟩, k⟩) (cs.map (SF.frame E) ++ under)
  rw [hfr]
 rw [← hgor]
 exact hK O W E w hsn ⟨hs.rel, ow, ExtC.refl _ _ _ _, fun _ h => h, fun _ h => h, fun _ h => .inl h⟩
theorem til_ok {P : Program} (hP : NoCount P) (hm : P.follows .mixedOrders = true) {A B : Rec} (hAB : A.Le B) (hB : RecOk P B) {p : St → Bool} : ∀ {n : Nat} {S S' : St}, til P A p n S = some S' → Reach P S S'
 | 0, _, _, h => by cases h
 | n + 1, S, S', h => by
  unfold til at h
  split at h
  ·cases h
   exact Reach.refl P S
  ·split at h
   ·rename_i S1 h1
    have r1 : Reach P S S1 := krun_ok hP hm hAB hB 1 (S' := S1) (by simp only [krun, h1])
    exact r1.trans (til_ok hP hm hAB hB h)
   ·cases h
theorem walk_ok {P : Program} (hP : NoCount P) (hm : P.follows .mixedOrders = true) {A B : Rec} (hAB : A.Le B) (hB : RecOk P B) : ∀ {q : List Leg} {S T : St} {vs : List Value}, walk P A q S = some (vs, T) → vs = tells q → Reach P S T
 | [], S, T, vs, h, hv => by
  simp only [walk, Option.some.injEq, Prod.mk.injEq] at h
  obtain ⟨_, rfl⟩ := h
  exact Reach.refl P S
 | .call g :: q, S, T, vs, h, hv => by
  unfold walk at h
  split at h
  rotate_left
  ·cases h
  rename_i S1 h1
  split at h
  rotate_left
  ·cases h
  rename_i S2 h2
  exact ((til_ok hP hm hAB hB h1).trans (kdo_ok hP hAB hB h2)).trans (walk_ok hP hm hAB hB h hv)
 | .stop f r :: q, S, T, vs, h, hv => by
  unfold walk at h
  split at h
  rotate_left
  ·cases h
  rename_i S1 h1
  exact (til_ok hP hm hAB hB h1).trans (walk_ok hP hm hAB hB h hv)
 | .cast f r :: q, S, T, vs, h, hv => by
  unfold walk at h
  split at h
  rotate_left
  ·cases h
  rename_i S1 h1
  split at h
  rotate_left
  ·cases h
  rename_i S2 h2
  split at h
  rotate_left
  ·cases h
  rename_i x h3
  split at h
  rotate_left
  ·cases h
  rename_i v h4
  exact (((til_ok hP hm hAB hB h1).trans (kdo_ok hP hAB hB h2)).trans (reach_cast h3 h4)).trans (walk_ok hP hm hAB hB h hv)
 | .tell f r v :: q, S, T, vs, h, hv => by
  unfold walk at h
  split at h
  rotate_left
  ·cases h
  rename_i S1 h1
  split at h
  rotate_left
  ·cases h
  rename_i S2 h2
  split at h
  rotate_left
  ·cases h
  rename_i u h3
  split at h
  rotate_left
  ·cases h
  rename_i ws T' h4
  cases h
  simp only [tells, List.cons.injEq] at hv
  obtain ⟨rfl, hv⟩ := hv
  have a1 := walk_ok hP hm hAB hB h4 hv
  rw [St.tell_self h3] at a1
  exact ((til_ok hP hm hAB hB h1).trans (kdo_ok hP hAB hB h2)).trans a1
end
def walkTo (P : Program) (A : Rec) (q : List Leg) (keys : List Nat) (wm m : Nat) (S : St) : Option (List Value × (Bool × Snap)) := match walk P A q S with
 | some (vs, T) => some (vs, (and (Nat.ble wm T.N.wm) (Nat.ble T.N.sz m), (T.snap keys).pad m))
 | none => none
def walkEnd (P : Program) (A : Rec) (q : List Leg) (f : FuncId) (kd : CallKind) (S : St) : Option (List Value × (Option Value × (Bool × Option CB))) := match walk P A q S with
 | some (vs, T) => match til P A atRet 20000 T with
  | some T' => some (vs, (finV P f kd T', (Nat.ble 33 T'.N.wm, T'.N.get 32)))
  | none => none
 | none => none
section
variable [Hk]
theorem walkTo_ok {P : Program} (hP : NoCount P) (hm : P.follows .mixedOrders = true) {H : Hook} (hH : HookOk P H) {Ld d : Nat} {q : List Leg} {keys : List Nat} {wm m : Nat} {S : St} {T : Snap} {vs : List Value}
  (hk : keepsAll wm keys = true) (h : walkTo P (fRec P H Ld d) q keys wm m S = some (vs, (true, T))) (hv : vs = tells q) : Reach P S (T.stw keys wm) := by
 unfold walkTo at h
 split at h
 rotate_left
 ·cases h
 rename_i us T1 h1
 simp only [Option.some.injEq, Prod.mk.injEq, Bool.and_eq_true] at h
 obtain ⟨rfl, ⟨h2, h3⟩, rfl⟩ := h
 exact (walk_ok hP hm (fRec_le H Ld d) (mkRec_ok hP hm hH Ld d) h1 hv).trans (reach_pad T1 keys (Nat.le_of_ble_eq_true h2) (keepsAll_eq hk) (Nat.le_of_ble_eq_true h3))
theorem walkEnd_ok {P : Program} (hP : NoCount P) (hm : P.follows .mixedOrders = true) {H : Hook} (hH : HookOk P H) {Ld d : Nat} {q : List Leg} {f : FuncId} {kd : CallKind} {S : St} {vs : List Value} {v : Value} {c : List Value} {t : TypeId} {el : Bool}
  (h : walkEnd P (fRec P H Ld d) q f kd S = some (vs, (some v, (true, some (.row c t el))))) (hv : vs = tells q) : Rows P f kd v c t el S := by
 unfold walkEnd at h
 split at h
 rotate_left
 ·cases h
 rename_i us T1 h1
 split at h
 rotate_left
 ·cases h
 rename_i T2 h5
 simp only [Option.some.injEq, Prod.mk.injEq] at h
 obtain ⟨rfl, h2, h3, h4⟩ := h
 exact ⟨T2, (walk_ok hP hm (fRec_le H Ld d) (mkRec_ok hP hm hH Ld d) h1 hv).trans (til_ok hP hm (fRec_le H Ld d) (mkRec_ok hP hm hH Ld d) h5), fin_v h2, Nat.le_of_ble_eq_true h3, h4⟩
theorem row_walk {P : Program} (hP : NoCount P) (hm : P.follows .mixedOrders = true) {H : Hook} (hH : HookOk P H) {Ld d : Nat} {q : List Leg} {f : FuncId} {args : List Value} {kd : CallKind} {vs : List Value} {v : Value} {c : List Value} {t : TypeId} {el : Bool}
  (h : (kenter P f args kd).bind (fun s => walkEnd P (fRec P H Ld d) q f kd ⟨s, [], CH.lone c t el⟩) = some (vs, (some v, (true, some (.row c t el))))) (hv : vs = tells q) :
  ∃ s0, kenter P f args kd = some s0 ∧ Rows P f kd v c t el ⟨s0, [], CH.lone c t el⟩ := by
 cases hk : kenter P f args kd with
 | none => rw [hk] at h; cases h
 | some s0 =>
  rw [hk] at h
  exact ⟨s0, rfl, walkEnd_ok hP hm hH h hv⟩
end
theorem reach_append [Hk] {P : Program} (hP : NoCount P) (hm : P.follows .mixedOrders = true) {A B : Rec} (hAB : A.Le B) (hB : RecOk P B) {fn : FuncId} {ar : Option Nat} {kd : CallKind} {a : FA} {ops : Array Oper} {i : Nat} {o : Oper} {r : List Oper} {k : List It} {cs : List SF} {N N' : CH} {c : Call} {t xt : TypeId} {s x v : Value}
  (hg : o.guard = none) (ho : o.op = .call c) (hc : c.callee = .builtin .append) (hargs : evL (fev a) c.args.toList = some [s, x]) (hty : c.argTypes.toList = [t, xt]) (hpl : o.op.operands.all (okPlain (fev a)) = false) (happ : cappend P t xt s x N = some (v, N')) :
  Reach P ⟨⟨fn, ar, kd, false, a, .reg ops i (o :: r) :: k⟩, cs, N⟩ ⟨⟨fn, ar, kd, false, a.put o.dst v, .reg ops (Nat.succ i) r :: k⟩, cs, N'⟩ := by
 have hcp : cpure P (fev a) o = none := by
  unfold cpure
  rw [if_neg (by rw [hpl]; simp)]
 have hk : kop P (fev a) o N = some (.val v, N') := by
  rw [kop_eq]
  unfold cop
  simp only [ho, ccall, hc, hcp, hargs, hty, happ, Option.map_some]
 refine krun_ok hP hm hAB hB 1 ?_
 simp only [krun, kstep, koper, hg, kgo, hk]
def walkMem (P : Program) (A : Rec) (q : List Leg) (f : FuncId) (kd : CallKind) (keys : List Nat) (z m : Nat) (S : St) : Option (List Value × (Option Value × Bool)) := match walk P A q S with
 | some (vs, T) => match til P A atRet 20000 T with
  | some T' => some (vs, (finV P f kd (((T'.snap keys).pad m).stw keys z), and (Nat.ble z T'.N.wm) (Nat.ble T'.N.sz m)))
  | none => none
 | none => none
section
variable [Hk]
theorem walkMem_ok {P : Program} (hP : NoCount P) (hm : P.follows .mixedOrders = true) {H : Hook} (hH : HookOk P H) {Ld d : Nat} {q : List Leg} {f : FuncId} {kd : CallKind} {keys : List Nat} {z m : Nat} {S : St} {vs : List Value} {v : Value} (hk : keepsAll z keys = true)
  (h : walkMem P (fRec P H Ld d) q f kd keys z m S = some (vs, (some v, true))) (hv : vs = tells q) : ∃ S3, Reach P S S3 ∧ Fin P f kd v S3 ∧ z ≤ S3.N.wm ∧ S3.N.sz = m := by
 unfold walkMem at h
 split at h
 rotate_left
 ·cases h
 rename_i us T1 h1
 split at h
 rotate_left
 ·cases h
 rename_i T2 h5
 simp only [Option.some.injEq, Prod.mk.injEq, Bool.and_eq_true] at h
 obtain ⟨rfl, h2, h3, h4⟩ := h
 exact ⟨_, ((walk_ok hP hm (fRec_le H Ld d) (mkRec_ok hP hm hH Ld d) h1 hv).trans (til_ok hP hm (fRec_le H Ld d) (mkRec_ok hP hm hH Ld d) h5)).trans (reach_pad T2 keys (Nat.le_of_ble_eq_true h3) (keepsAll_eq hk) (Nat.le_of_ble_eq_true h4)), fin_v h2, Nat.le_refl _, rfl⟩
theorem mem_walk {P : Program} (hP : NoCount P) (hm : P.follows .mixedOrders = true) {H : Hook} (hH : HookOk P H) {Ld d : Nat} {q : List Leg} {f : FuncId} {args : List Value} {kd : CallKind} {keys ks : List Nat} {bs : List (Option CB)} {z k : Nat} {vs : List Value} {v : Value} (hk : keepsAll z keys = true)
  (h : (kenter P f args kd).bind (fun s => walkMem P (fRec P H Ld d) q f kd keys z (z + k) ⟨s, [], CH.small z ks bs⟩) = some (vs, (some v, true))) (hv : vs = tells q) :
  ∃ s0 S, kenter P f args kd = some s0 ∧ Reach P ⟨s0, [], CH.small z ks bs⟩ S ∧ Fin P f kd v S ∧ z ≤ S.N.wm ∧ S.N.sz = z + (List.replicate k CB.dead).length ∧ ∀ i b, (List.replicate k CB.dead)[i]? = some b → b.isDead = true ∨ S.N.get (z + i) = some b := by
 cases hk0 : kenter P f args kd with
 | none => rw [hk0] at h; cases h
 | some s0 =>
  rw [hk0] at h
  obtain ⟨S3, a1, a2, a3, a4⟩ := walkMem_ok hP hm hH hk h hv
  refine ⟨s0, S3, rfl, a1, a2, a3, by rw [a4, List.length_replicate], fun i b hb => .inl ?_⟩
  rw [List.getElem?_replicate] at hb
  split at hb
  ·cases hb; rfl
  ·cases hb
end
def walkFin (P : Program) (A : Rec) (q : List Leg) (f : FuncId) (S : St) : Option (List Value × (Option Value × Bool)) := match walk P A q S with
 | some (vs, T) => match til P A atRet 20000 T with
  | some T' => some (vs, ((T'.final P f).map (fun p => p.1), Nat.ble 33 T'.N.wm))
  | none => none
 | none => none
theorem walkFin_ok [Hk] {P : Program} (hP : NoCount P) (hm : P.follows .mixedOrders = true) {H : Hook} (hH : HookOk P H) {Ld d : Nat} {q : List Leg} {f : FuncId} {S : St} {vs : List Value} {v : Value}
  (h : walkFin P (fRec P H Ld d) q f S = some (vs, (some v, true))) (hv : vs = tells q) : ∃ S' hd, Reach P S S' ∧ S'.final P f = some (v, hd) ∧ 33 ≤ S'.N.wm := by
 unfold walkFin at h
 split at h
 rotate_left
 ·cases h
 rename_i us T1 h1
 split at h
 rotate_left
 ·cases h
 rename_i T2 h5
 simp only [Option.some.injEq, Prod.mk.injEq] at h
 obtain ⟨rfl, h2, h3⟩ := h
 cases hf : T2.final P f with
 | none => rw [hf] at h2; cases h2
 | some p =>
  rw [hf] at h2
  simp only [Option.map_some, Option.some.injEq] at h2
  obtain ⟨p1, p2⟩ := p
  obtain rfl : p1 = v := h2
  exact ⟨T2, p2, (walk_ok hP hm (fRec_le H Ld d) (mkRec_ok hP hm hH Ld d) h1 hv).trans (til_ok hP hm (fRec_le H Ld d) (mkRec_ok hP hm hH Ld d) h5), hf, Nat.le_of_ble_eq_true h3⟩
end
end Go.Eng
namespace Go.Eng
noncomputable section
open Go.Conc
set_option linter.unusedSimpArgs false
set_option linter.unusedVariables false
set_option linter.unusedSectionVars false
def appTypes (P : Program) (t xt : TypeId) : Option TypeId := match P.underlying t with
 | some (.slice e) => match P.info? e, zeroT P e with
  | some i, some z => if and (notInt P xt) (and (Nat.beq z.cells.size i.size) (and (Nat.beq i.size 1) (Nat.beq i.bytes 8))) = true then some e else none
  | _, _ => none
 | _ => none
theorem append_row0 {P : Program} {t xt e e' : TypeId} {i : TypeInfo} {z : Value} {N : CH} {b b2 : Nat} {n cp : Nat} {c : List Value} (hu : P.underlying t = some (.slice e)) (hi : P.info? e = some i) (hz : zeroT P e = some z) (hx : notInt P xt = true) (hzs : z.cells.size = i.size) (hby : 0 < i.bytes) (h1 : i.size = 1)
  (hN2 : N.get b2 = some (.row [] e' false)) (hN : N.get b = some (.win c)) (hn : c.length = n) (hn0 : 0 < n) (hfit : n * i.bytes ≤ 140737488355328) (hone : c.all (·.oneCell') = true) : cappend P t xt (.slice (some ⟨b2, 0, none⟩) 0 0) (.slice (some ⟨b, 0, none⟩) n cp) N = cgrow N c e n := by
 have hsrc : csrc i.size (.slice (some ⟨b, 0, none⟩) n cp) N = some (n, c) := by
  unfold csrc
  simp only [hN]
  rw [if_neg (by omega), if_pos ⟨rfl, by rw [h1]; omega⟩, h1]
  simp [← hn]
 unfold cappend
 simp only [hu, hi, hz]
 rw [if_pos ⟨hx, hzs, hby⟩]
 simp only [hsrc]
 rw [if_pos hone]
 simp only [hN2]
 rw [if_neg (by omega), if_pos ⟨by rw [Nat.zero_add]; exact hfit, by rw [h1]; omega⟩, if_pos ⟨rfl, .inr trivial⟩, if_pos (by simp)]
 simp
def appSt (P : Program) : St → Option (St × (Nat × List Value))
 | ⟨⟨fn, ar, kd, false, a, .reg ops i (o :: r) :: k⟩, cs, N⟩ => match o.guard, o.op with
  | none, .call c => match c.callee with
   | .builtin .append => match evL (fev a) c.args.toList, c.argTypes.toList with
    | some [.slice (some ⟨b2, 0, none⟩) 0 0, .slice (some ⟨b, 0, none⟩) n cp], [t, xt] => match !(o.op.operands.all (okPlain (fev a))) with
     | true => match appTypes P t xt, N.get b, N.get b2 with
      | some e, some (.win l), some (.row [] _ false) => match cgrow N l e n with
       | some (v, N') => some (⟨⟨fn, ar, kd, false, a.put o.dst v, .reg ops (Nat.succ i) r :: k⟩, cs, N'⟩, (n, l))
       | none => none
      | _, _, _ => none
     | false => none
    | _, _ => none
   | _ => none
  | _, _ => none
 | _ => none
theorem appSt_ok [Hk] {P : Program} (hP : NoCount P) (hm : P.follows .mixedOrders = true) {A B : Rec} (hAB : A.Le B) (hB : RecOk P B) {S S' : St} {n : Nat} {l : List Value} (h : appSt P S = some (S', (n, l))) (hn : l.length = n) (h0 : 0 < n) (hfit : n * 8 ≤ 140737488355328) (hone : l.all (·.oneCell') = true) : Reach P S S' := by
 unfold appSt at h
 split at h
 rotate_left
 ·cases h
 rename_i fn ar kd a ops i o r k cs N
 split at h
 rotate_left
 ·cases h
 rename_i c hg ho
 split at h
 rotate_left
 ·cases h
 rename_i hc
 split at h
 rotate_left
 ·cases h
 rename_i b2 b n' cp t xt hargs hty
 split at h
 rotate_left
 ·cases h
 rename_i hbb
 simp only [Bool.not_eq_true'] at hbb
 have hpl := hbb
 split at h
 rotate_left
 ·cases h
 rename_i e l' e2 ht hN hN2
 split at h
 rotate_left
 ·cases h
 rename_i v N' hgr
 simp only [Option.some.injEq, Prod.mk.injEq] at h
 obtain ⟨rfl, rfl, rfl⟩ := h
 unfold appTypes at ht
 split at ht
 rotate_left
 ·cases ht
 rename_i e' hu
 split at ht
 rotate_left
 ·cases ht
 rename_i ti z hi hz
 split at ht
 rotate_left
 ·cases ht
 rename_i hcond
 simp only [Bool.and_eq_true] at hcond
 obtain ⟨c1, c2, c3, c4⟩ := hcond
 cases ht
 have e3 := Nat.eq_of_beq_eq_true c3
 have e4 := Nat.eq_of_beq_eq_true c4
 exact reach_append hP hm hAB hB hg ho hc hargs hty hpl ((append_row0 hu hi hz c1 (Nat.eq_of_beq_eq_true c2) (by omega) e3 hN2 hN hn h0 (by rw [e4]; exact hfit) hone).trans hgr)
def walkApp (P : Program) (A : Rec) (q1 : List Leg) (f r : Nat) (q2 : List Leg) (keys : List Nat) (wm m : Nat) (S : St) : Option (List Value × ((Nat × List Value) × (Bool × Snap))) := match walk P A q1 S with
 | some (vs, S1) => match til P A (atOp f r) 20000 S1 with
  | some S2 => match appSt P S2 with
   | some (S3, nl) => match walkTo P A q2 keys wm m S3 with
    | some (us, x) => some (vs ++ us, (nl, x))
    | none => none
   | none => none
  | none => none
 | none => none
theorem walkApp_ok [Hk] {P : Program} (hP : NoCount P) (hm : P.follows .mixedOrders = true) {H : Hook} (hH : HookOk P H) {Ld d : Nat} {q1 q2 : List Leg} {f r : Nat} {keys : List Nat} {wm m : Nat} {S : St} {T : Snap} {ws : List Value} {n : Nat} {l : List Value}
  (hk : keepsAll wm keys = true) (h : walkApp P (fRec P H Ld d) q1 f r q2 keys wm m S = some (ws, ((n, l), (true, T)))) (hn : l.length = n) (h0 : 0 < n) (hfit : n * 8 ≤ 140737488355328) (hone : l.all (·.oneCell') = true)
  (hlen : ∀ vs us : List Value, ws = vs ++ us → vs.length = (tells q1).length → vs = tells q1 ∧ us = tells q2) (hvl : ∀ S1 vs, walk P (fRec P H Ld d) q1 S = some (vs, S1) → vs.length = (tells q1).length) : Reach P S (T.stw keys wm) := by
 unfold walkApp at h
 split at h
 rotate_left
 ·cases h
 rename_i vs S1 h1
 split at h
 rotate_left
 ·cases h
 rename_i S2 h2
 split at h
 rotate_left
 ·cases h
 rename_i S3 nl h3
 split at h
 rotate_left
 ·cases h
 rename_i us x h4
 simp only [Option.some.injEq, Prod.mk.injEq] at h
 obtain ⟨rfl, rfl, rfl⟩ := h
 obtain ⟨e1, e2⟩ := hlen vs us rfl (hvl _ _ h1)
 exact (((walk_ok hP hm (fRec_le H Ld d) (mkRec_ok hP hm hH Ld d) h1 e1).trans (til_ok hP hm (fRec_le H Ld d) (mkRec_ok hP hm hH Ld d) h2)).trans (appSt_ok hP hm (fRec_le H Ld d) (mkRec_ok hP hm hH Ld d) h3 hn h0 hfit hone)).trans (walkTo_ok hP hm hH hk h4 e2)
theorem walk_length {P : Program} {A : Rec} : ∀ {q : List Leg} {S T : St} {vs : List Value}, walk P A q S = some (vs, T) → vs.length = (tells q).length
 | [], S, T, vs, h => by
  simp only [walk, Option.some.injEq, Prod.mk.injEq] at h
  obtain ⟨rfl, _⟩ := h
  rfl
 | .call g :: q, S, T, vs, h => by
  unfold walk at h
  split at h
  rotate_left
  ·cases h
  split at h
  rotate_left
  ·cases h
  exact walk_length (q := q) h
 | .stop f r :: q, S, T, vs, h => by
  unfold walk at h
  split at h
  rotate_left
  ·cases h
  exact walk_length (q := q) h
 | .cast f r :: q, S, T, vs, h => by
  unfold walk at h
  split at h
  rotate_left
  ·cases h
  split at h
  rotate_left
  ·cases h
  split at h
  rotate_left
  ·cases h
  split at h
  rotate_left
  ·cases h
  exact walk_length (q := q) h
 | .tell f r v :: q, S, T, vs, h => by
  unfold walk at h
  split at h
  rotate_left
  ·cases h
  split at h
  rotate_left
  ·cases h
  split at h
  rotate_left
  ·cases h
  split at h
  rotate_left
  ·cases h
  rename_i ws T' h4
  cases h
  show ws.length + 1 = (tells q).length + 1
  rw [walk_length (q := q) h4]
theorem walkApp_reach [Hk] {P : Program} (hP : NoCount P) (hm : P.follows .mixedOrders = true) {H : Hook} (hH : HookOk P H) {Ld d : Nat} {q1 q2 : List Leg} {f r : Nat} {keys : List Nat} {wm m : Nat} {S : St} {T : Snap} {ws : List Value} {n : Nat} {l : List Value}
  (hk : keepsAll wm keys = true) (h : walkApp P (fRec P H Ld d) q1 f r q2 keys wm m S = some (ws, ((n, l), (true, T)))) (hn : l.length = n) (h0 : 0 < n) (hfit : n * 8 ≤ 140737488355328) (hone : l.all (·.oneCell') = true) (hw : ws = tells q1 ++ tells q2) : Reach P S (T.stw keys wm) :=
 walkApp_ok hP hm hH hk h hn h0 hfit hone (fun vs us e hl => List.append_inj (e.symm.trans hw) hl) (fun _ _ => walk_length)
end
end Go.Eng
