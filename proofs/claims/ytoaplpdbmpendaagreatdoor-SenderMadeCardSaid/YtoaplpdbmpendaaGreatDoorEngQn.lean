/-
  The engine, part Ql: a store into cells of one's own in a row that many write.
-/
import Derived.Test.YtoaplpdbmpendaaGreatDoorEngQk
set_option linter.unusedSectionVars false
set_option linter.unusedSimpArgs false
set_option linter.unusedVariables false
namespace Go.Eng
open Go.Conc
set_option linter.unusedSimpArgs false
set_option linter.unusedVariables false
set_option linter.unusedSectionVars false

/-- What storing into a row lists: the cells, one by one. -/
theorem events_cells {P : Program} (g o : Nat) (t : TypeId) {zl zh : Nat} {n : Nat} (hu : Unm n zl zh) : ∀ (vs : List Value) (i : Nat) (cur : Array Value) (w : World) (es : Array Event), w.heap[g]? = some (.cells cur t (zl, zh)) → cur.size = n → o + i + vs.length ≤ cur.size → (∀ v ∈ vs, v.oneCell' = true) →
    ∀ ev ∈ (storeCells ⟨g, o, none⟩ vs i).events P w es, ev ∈ es ∨ ∃ j, i ≤ j ∧ j < i + vs.length ∧ ev.loc = .cell ⟨g, o + j, none⟩ ∧ ev.sync = false
  | [], _, _, _, _, _, _, _, _ => fun ev h => .inl (by simpa [storeCells] using h)
  | v :: rest, i, cur, w, es, hg, hsz, hl, h1 => fun ev h => by
    have hi : o + i < cur.size := by simp at hl; omega
    have hadd : (⟨g, o, none⟩ : Addr).add i = ⟨g, o + i, none⟩ := by unfold Addr.add; split <;> simp_all
    have hcell : w.cell? ⟨g, o + i, none⟩ = some cur[o + i] := by simp [World.cell?, hg, hi]
    have hfro : w.frozen? ⟨g, o + i, none⟩ = false := by
      have := hu.2 (o + i) (by omega)
      simp only [World.frozen?, hg]
      simp
      omega
    have hst : (store ((⟨g, o, none⟩ : Addr).add i) v).run P w = .ok () (w.setRow g (cur.setIfInBounds (o + i) v)) := by
      rw [hadd, run_store P w _ v _ (h1 v (by simp)), hcell]
      simp [hfro, setCell_eq_setRow w g (o + i) cur t (zl, zh) v hg]
    have hev : (store ((⟨g, o, none⟩ : Addr).add i) v).events P w es = es.push ⟨.cell ⟨g, o + i, none⟩, true, false⟩ := by
      rw [hadd, events_store P w es _ v _ (h1 v (by simp)), hcell]
      simp only [hfro, Bool.false_eq_true, if_false]
      rfl
    simp only [storeCells, Sem.events_bind, hst, Result.evThen_ok, hev] at h
    rcases events_cells g o t hu rest (i + 1) (cur.setIfInBounds (o + i) v) (w.setRow g (cur.setIfInBounds (o + i) v)) _ (setRow_heap w g cur _ t _ hg) (by simpa using hsz) (by simp at hl ⊢; omega) (fun x hx => h1 x (by simp [hx])) ev h with h | ⟨j, h2, h3, h4⟩
    · rcases Array.mem_push.1 h with h | rfl
      · exact .inl h
      · exact .inr ⟨i, Nat.le_refl _, by simp, rfl, rfl⟩
    · exact .inr ⟨j, by omega, by simp; omega, h4⟩
/-- A row of so many cells, of such a type. -/
def bufAt (b : Nat) (ty : TypeId) (n : Nat) (w : World) : Prop := ∃ arr lo hi, w.heap[b]? = some (.cells arr ty (lo, hi)) ∧ arr.size = n ∧ Unm n lo hi
/-- These cells of it. -/
def ownCells (b off n : Nat) : Addr → Prop := fun a => a.block = b ∧ a.spot = none ∧ off ≤ a.off ∧ a.off < off + n
/-- They hold this. -/
def holdsAt (b off : Nat) (vs : List Value) (w : World) : Prop := ∀ j v, vs[j]? = some v → w.cell? ⟨b, off + j, none⟩ = some v
variable [Hk]
def xst (P : Program) (lo k off : Nat) (vs : List Value) (S : St) : Option St := match S.opn lo with
  | some (o, nx) => match o.op with
    | .store t a x => match S.ev a with
      | some p => match S.ev x with
        | some v => match sizeT P t with
          | some n => if and (isPtr k off p) (and (sameL v.cells.toList vs) (and (Nat.beq n vs.length) (and (plain v) (and (plainL vs) (vs.all (·.oneCell')))))) = true then some (nx undef) else none
          | none => none
        | none => none
      | none => none
    | _ => none
  | none => none
theorem xst_lo {P : Program} {lo k off : Nat} {vs : List Value} {S S' : St} (h : xst P lo k off vs S = some S') : lo ≤ S.N.wm := by
  unfold xst at h
  split at h
  · rename_i o nx ho
    exact opn_lo ho
  · cases h
theorem xst_step {P : Program} {lo k b off n : Nat} {ty : TypeId} {tie : KT} {vs : List Value} {S S' : St} {under : List Frame} {O W : Nat → Prop} {g : Goroutine} {w : World} {E : Env} (ht : Tie P tie) (h : At P lo tie S under O W g w E) (hw : tieWg k b O W E S.N w) (hx : xst P lo k off vs S = some S')
    (hb : bufAt b ty n w) (hn : off + vs.length ≤ n) (main : Bool) :
    ∃ w' es, stepG P main g w = .go (S'.gor E under) w' es ∧ (∀ e ∈ es, ∃ a, e.loc = .cell a ∧ ownCells b off vs.length a ∧ e.sync = false) ∧ w'.heap.size = w.heap.size ∧ (∀ c, c ≠ b → w'.heap[c]? = w.heap[c]?) ∧ (∀ a, ¬ ownCells b off vs.length a → w'.cell? a = w.cell? a) ∧
      w'.os = w.os ∧ w'.tape = w.tape ∧ w'.output = w.output ∧ bufAt b ty n w' ∧ holdsAt b off vs w' ∧ At P lo tie S' under O W (S'.gor E under) w' E := by
  unfold xst at hx
  split at hx
  rotate_left
  · cases hx
  rename_i o nx ho
  split at hx
  rotate_left
  · cases hx
  rename_i t a x hop
  split at hx
  rotate_left
  · cases hx
  rename_i p hp
  split at hx
  rotate_left
  · cases hx
  rename_i v hv
  split at hx
  rotate_left
  · cases hx
  rename_i m hm
  split at hx
  rotate_left
  · cases hx
  rename_i hall
  cases hx
  simp only [Bool.and_eq_true] at hall
  obtain ⟨h1, h2, h3, h4, h5, h6⟩ := hall
  obtain rfl := isPtr_eq h1
  have h2 := sameL_eq _ _ h2
  obtain rfl := Nat.eq_of_beq_eq_true h3
  obtain ⟨arr, flo, fhi, harr, hsz, hunm⟩ := hb
  have hargs := h.args (as := [a, x]) (vs := [.pointer (some ⟨k, off, none⟩), v]) (by simp [evL, hp, hv])
  have hpm := m_ptr (off := off) hw
  have hvm : E.m v = v := m_plain E h4
  simp only [List.map_cons, List.map_nil, hpm, hvm, List.cons.injEq, and_true] at hargs
  obtain ⟨⟨ha, hxv⟩, _⟩ := hargs
  have h1c : ∀ u ∈ vs, u.oneCell' = true := fun u hu => List.all_eq_true.1 h6 u hu
  have hst := run_storeCells_cells (P := P) b off vs 0 w
    (by
      intro j hj
      have : off + 0 + j < arr.size := by omega
      simp [World.cell?, harr]
      omega)
    (by
      intro j hj
      have := hunm.2 (off + 0 + j) (by omega)
      simp only [World.frozen?, harr]
      simp at this ⊢
      omega) h1c
  rw [Nat.add_zero] at hst
  have hz : v.cells.size = vs.length := by rw [← h2]; simp
  have hrun : (Instr.storeAt t (.pointer (some ⟨b, off, none⟩)) v).run P w = .ok () (w.setCells b off vs) := by
    simp only [Instr.storeAt, Instr.sureAddr, storeVar, Sem.run_bind, Sem.run_pure, Result.andThen_ok, run_sizeOf hm, hz, h2, hst, ne_eq, not_true_eq_false, if_false]
  have hev : ∀ e ∈ (Instr.storeAt t (.pointer (some ⟨b, off, none⟩)) v).events P w #[], ∃ j, j < vs.length ∧ e.loc = .cell ⟨b, off + j, none⟩ ∧ e.sync = false := by
    intro e he
    have hes : (Instr.storeAt t (.pointer (some ⟨b, off, none⟩)) v).events P w #[] = (storeCells ⟨b, off, none⟩ vs 0).events P w #[] := by
      simp only [Instr.storeAt, Instr.sureAddr, storeVar, Sem.events_bind, Sem.run_pure, Sem.events_pure, Result.evThen_ok, run_sizeOf hm, mute_sizeOf t w, hz, h2, ne_eq, not_true_eq_false, if_false]
    rw [hes] at he
    rcases events_cells b off ty hunm vs 0 arr w #[] harr hsz (by omega) h1c e he with h | ⟨j, _, hj, hl⟩
    · simp at h
    · exact ⟨j, by omega, hl⟩
  have hrun' : (execOp (E.act S.top.a.abs).eval o).run P w = .ok .skip (w.setCells b off vs) := by
    simp only [execOp, hop, ha, hxv]
    exact run_u hrun
  obtain ⟨r1, r2, r3⟩ := rest_setCells b vs off w
  have hcell : ∀ a, ¬ ownCells b off vs.length a → (w.setCells b off vs).cell? a = w.cell? a := fun a hna => World.cell?_setCells_out b vs off w a (fun e1 e2 => by
    by_cases hlt : a.off < off
    · exact .inl hlt
    · refine .inr ?_
      by_cases hge : a.off < off + vs.length
      · exact absurd ⟨e1, e2, by omega, hge⟩ hna
      · omega)
  have hoth : ∀ c, c ≠ b → (w.setCells b off vs).heap[c]? = w.heap[c]? := fun c hc => heap_setCells_other _ _ hc _ _ _
  have hat : At P lo tie (nx undef) under O W ((nx undef).gor E under) (w.setCells b off vs) E :=
    h.behind ht ho (undef_clo _) ⟨fun c hc => hoth c fun e => hw.2.2.2.1 (e ▸ hc), by rw [size_setCells]; exact Nat.le_refl _, r1, r2, r3⟩
  refine ⟨w.setCells b off vs, listed P S.top.fn (E.act S.top.a.abs) o w, ?_, fun e he => ?_, size_setCells _ _ _ _, hoth, hcell, r1, r2, r3, ⟨wr arr.toList off vs |>.toArray, flo, fhi, ?_, ?_, hunm⟩, fun j u hj => ?_, hat⟩
  · obtain ⟨fn, kd, a', ops, i, r, kk, cs, N, rfl, hgd, _, rfl⟩ := opn_eq ho
    rw [h.g, gor_reg, gor_next, ← act_put_at h.rel.top.a]
    have := stepG_none (P := P) (main := main) (b := SF.base E ⟨fn, none, kd, false, a', kk⟩) (a := E.act a'.abs) (k := kk.map (It.item E)) (cs := cs.map (SF.frame E) ++ under) (rest := List.range' (i + 1) r.length) h.op (wanted_of hgd _) h.kind hrun'
    rw [this]
    rw [m_undef]
    rfl
  · have he' := Go.Conc.mem_seen he
    have he2 : e ∈ (Instr.storeAt t (.pointer (some ⟨b, off, none⟩)) v).events P w #[] := by
      simp only [execOp, hop, ha, hxv, Sem.events_bind, hrun, Result.evThen_ok, Sem.events_pure] at he'
      exact he'
    obtain ⟨j, hj, hl, hs⟩ := hev e he2
    exact ⟨_, hl, ⟨rfl, rfl, by simp, by simp; omega⟩, hs⟩
  · have := heap_setCells b vs off arr.toList ty (flo, fhi) w (by simpa using harr)
    exact this
  · simp [wr_length, hsz]
  · have hj' : j < vs.length := (List.getElem?_eq_some_iff.1 hj).1
    have := World.cell?_setCells_in b vs off w (fun i hi => by
      have : off + i < arr.size := by omega
      simp [World.cell?, harr, this]) j hj'
    rw [this]
    rw [← hj]
    simp [hj']
end Go.Eng
namespace Go.Eng
open Go.Conc
open Go.Conc.Lib (WgLib WgLink)
open Go.ConcN (WgLive Has WSit AtR0 RW DWs)
open Go.ConcR (KK wgBlock WgAt stA smA rd mk Payload)
set_option linter.unusedSimpArgs false
set_option linter.unusedVariables false
set_option linter.unusedSectionVars false
variable [Hk]

/-- A block of its own, which it may write. -/
def tieOwn (k c : Nat) : KT := fun _ W E _ _ => W c ∧ E.D k ∧ E.f k = c
theorem tieOwn_ok (P : Program) (k c : Nat) : Tie P (tieOwn k c) := fun lo O W E N w O' W' E' N' w' R H L ⟨h1, h2, h3⟩ => ⟨L.ww c h1, (L.ext.mono k h2).1, (L.ext.mono k h2).2.1.trans h3⟩
def tieX (k b kS bS kC c : Nat) : KT := fun O W E N w => (tieWg k b O W E N w ∧ tieWg kS bS O W E N w) ∧ tieOwn kC c O W E N w
theorem tieX_ok (P : Program) (k b kS bS kC c : Nat) : Tie P (tieX k b kS bS kC c) := ((tieWg_ok P k b).and (tieWg_ok P kS bS)).and (tieOwn_ok P kC c)
/-- The states of such a worker's way. -/
def xway (P : Program) (A : Rec) (fuel m lo k kS off : Nat) (vs : List Value) (d f : FuncId) (kC : Nat) (S : St) : Bool := match xbut P A (toStop P A fuel S) with
  | some S1 => match xst P lo kS off vs S1 with
    | some S2 => and (xdd lo k d f (toStop P A m S2)) (hasCell (toStop P A m S2).N kC)
    | none => false
  | none => false
section
variable [Payload]
variable {P : Program} {A B : Rec} {fuel m lo k b kS bS kC c0 off nS : Nat} {tyS : TypeId} {vs : List Value} {x : XF} {S : St} {O W : Nat → Prop} {g : Goroutine} {w : World} {E : Env} {n : Nat} {L : WgLink}
variable {X : Nat → Addr → Prop} {Don : Nat → World → Prop} {S2 : Nat → Prop}
theorem Cx.childX (c : Cx P A B x k b (tieX k b kS bS kC c0) [botF P]) (H : WgLib P L) {i : Nat} {f : FuncId} {fd : Func} (hf : P.funcs[f]? = some fd) (hr : fd.results = #[]) (hX : ∀ a, ownCells bS off vs.length a → X i a) (hD : ∀ w, holdsAt bS off vs w → Don i w) (hn : off + vs.length ≤ nS) (hS2 : S2 bS)
    (hx : xway P A fuel m lo k kS off vs L.done f kC S = true) (h : At P lo (tieX k b kS bS kC c0) S [botF P] O W g w E) : NN P L.tWg b (bufAt bS tyS nS) (WkK P L.tWg b (bufAt bS tyS nS) X Don S2 i 1) O W g w := by
  unfold xway at hx
  split at hx
  rotate_left
  · cases hx
  rename_i S1 h1
  split at hx
  rotate_left
  · cases hx
  rename_i S2' h2
  simp only [Bool.and_eq_true] at hx
  obtain ⟨h3, h4⟩ := hx
  haveI := c.ctx false (JJ L.tWg b (bufAt bS tyS nS))
  refine h.upto c.ht ((toStop_reach c.hP c.hm c.le c.ok fuel S).trans (xbut_ok c.hP c.hm c.le c.ok h1)) (xst_lo h2) c.hu fun O W g w E hj a1 => ?_
  obtain ⟨w', es, hst, hev, e1, e2, e3, e4, e5, e6, e7, e8, a2⟩ := xst_step c.ht a1 a1.tie.1.2 h2 hj.2 hn false
  refine ⟨a1.running, _, w', es, hst, ⟨fun d hd => e2 d fun e => hd (e ▸ hS2), fun a ha => e3 a fun hh => ha (hX a hh), e1, e4, e5, e6, e7, fun e he => ?_⟩, fun _ => hD w' e8, ?_⟩
  · obtain ⟨a, ha1, ha2, ha3⟩ := hev e he
    exact ⟨a, ha1, hX a ha2, ha3⟩
  · refine c.child H (fun O W g w E ha => ?_) hf hr h3 a2
    obtain ⟨_, t2, t3, t4⟩ := ha.tie
    obtain ⟨_, v, hv⟩ := hasCell_ok ha.rel.rel t3 h4
    exact ⟨c0, v, t2, by rw [← t4]; exact hv⟩
end
end Go.Eng
namespace Go.Eng
open Go.Conc
open Go.Conc.Lib (WgLib WgLink)
open Go.ConcN (WgLive Has WSit AtR0 RW DWs)
open Go.ConcR (KK wgBlock WgAt stA smA rd mk Payload)
set_option linter.unusedSimpArgs false
set_option linter.unusedVariables false
set_option linter.unusedSectionVars false
variable [Hk]

/-- What has come of memory since then. Ob: what is never handed over. -/
def tieL (Ob : Nat → Prop) (E0 : Env) (N0 : CH) (w0 : World) : KT := fun O _ E N w => ExtC Ob E0 N0 w0 E N w ∧ (∀ b, Ob b → O b) ∧ (∀ b, O b → Ob b ∨ w0.heap.size ≤ b)
theorem tieL_ok (P : Program) (Ob : Nat → Prop) (E0 : Env) (N0 : CH) (w0 : World) : Tie P (tieL Ob E0 N0 w0) := fun lo O W E N w O' W' E' N' w' R H L ⟨h1, h2, h3⟩ =>
  ⟨h1.trans L.ext h2, fun b hb => L.oo b (h2 b hb), fun b hb => (L.ou b hb).elim (h3 b) fun hs => .inr (Nat.le_trans h1.hsize hs)⟩
def tieP (k b kS bS : Nat) (Ob : Nat → Prop) (E0 : Env) (N0 : CH) (w0 : World) : KT := fun O W E N w => (tieWg k b O W E N w ∧ tieWg kS bS O W E N w) ∧ tieL Ob E0 N0 w0 O W E N w
theorem tieP_ok (P : Program) (k b kS bS : Nat) (Ob : Nat → Prop) (E0 : Env) (N0 : CH) (w0 : World) : Tie P (tieP k b kS bS Ob E0 N0 w0) := ((tieWg_ok P k b).and (tieWg_ok P kS bS)).and (tieL_ok P Ob E0 N0 w0)
/-- A block that is given up. -/
def St.drop (k : Nat) (S : St) : St := ⟨S.top, S.cs, S.N.set k .dead⟩
def readable (kC lo : Nat) (l : List Nat) : Bool := l.all fun k => Nat.beq k kC || Nat.ble (k + 1) lo
theorem readable_eq {kC lo k : Nat} {l : List Nat} (h : readable kC lo l = true) (hk : k ∈ l) : k = kC ∨ k < lo := by
  have := List.all_eq_true.1 h k hk
  rw [Bool.or_eq_true] at this
  exact this.imp Nat.eq_of_beq_eq_true Nat.le_of_ble_eq_true
structure Begun (Ob : Nat → Prop) (E0 : Env) (N0 : CH) (w0 : World) : Prop where
  dom : ∀ k, E0.D k → k < N0.sz
  lt : ∀ b, Ob b → b < w0.heap.size
section
variable [Payload]
variable {P : Program} {A B : Rec} {fuel m k b kS bS lo off nS kC : Nat} {tyS : TypeId} {vs : List Value} {x : XF} {SG SP : St} {under : List Frame} {O W : Nat → Prop} {g : Goroutine} {w : World} {E : Env} {n : Nat} {L : WgLink}
variable {X : Nat → Addr → Prop} {Don : Nat → World → Prop} {S2 : Nat → Prop} {Ob : Nat → Prop} {E0 : Env} {N0 : CH} {w0 : World}
/-- The go statement's checks. kch: what the worker reads; kC: the one block that it has to itself. -/
structure GoXOk (P : Program) (A : Rec) (fuel m lo k kS off : Nat) (vs : List Value) (n0 kC : Nat) (done : FuncId) (SG SP : St) (kch : List Nat) : Prop where
  ok : ∃ f q args nx sf fd, SG.xgo lo = some (f, q, args, nx) ∧ kenter P f (args ++ q) .deferred = some sf ∧ xway P A fuel m SG.N.sz k kS off vs done f kC ⟨sf, [], SG.N.only kch SG.N.sz⟩ = true ∧ SP = (nx undef).drop kC ∧
    P.funcs[f]? = some fd ∧ (fd.name == "runtime.NumGoroutine") = false ∧ fd.results = #[]
  c : hasCell SG.N kC = true
  lt : kC < SG.N.sz
  new : n0 ≤ kC
  wm : n0 ≤ SG.N.wm
  low : lo ≤ kC
  mem : kC ∈ kch
  rd : readable kC lo kch = true
theorem Cx.goX (c : Cx P A B x k b (tieP k b kS bS Ob E0 N0 w0) under) (H : WgLib P L) (hb0 : Begun Ob E0 N0 w0) {kch : List Nat} (hg : GoXOk P A fuel m lo k kS off vs N0.sz kC L.done SG SP kch) {i : Nat} (hX : ∀ a, ownCells bS off vs.length a → X i a) (hD : ∀ w, holdsAt bS off vs w → Don i w) (hn : off + vs.length ≤ nS) (hS2 : S2 bS) {Next : KP}
    (hN : ∀ O W g w E, At P lo (tieP k b kS bS Ob E0 N0 w0) SP under O W g w E → Next O W g w) (h : At P lo (tieP k b kS bS Ob E0 N0 w0) SG under O W g w E) : nGo P L.tWg b (bufAt bS tyS nS) X Don S2 i Next O W g w := by
  obtain ⟨⟨f, q, args, nx, sf, fd, hx, hk, hway, rfl, hf, hname, hres⟩, hc, hlt, hnew, hwm, hlow, hmem, hrd⟩ := hg
  obtain ⟨⟨o, ho⟩, hq, hargs, hst⟩ := xgo_step (main := true) h hx
  have hR := h.rel.rel
  obtain ⟨⟨hw, hwS⟩, hL, hL2, hL3⟩ := h.tie
  have hkC : E.D kC := hL.all kC hnew hlt
  obtain ⟨C0, hfC⟩ : ∃ C0, E.f kC = C0 := ⟨_, rfl⟩
  obtain ⟨hlC, v, hv⟩ := hasCell_ok hR hkC hc
  have hOC : O C0 := by rw [← hfC]; exact h.own.img kC hkC hlC
  have hWC : W C0 := by rw [← hfC]; exact h.own.wri kC hkC hlC hlow
  have hCb : C0 ≠ b := fun e => hw.2.2.2.1 (e ▸ hOC)
  have hCS : C0 ≠ bS := fun e => hwS.2.2.2.1 (e ▸ hOC)
  have hCn : ¬ Ob C0 := by
    intro hob
    rcases hL.fresh kC hkC with h2 | h2 | ⟨j, h3, ⟨bl, h4, h4'⟩, h5, h6⟩
    · have := hb0.dom kC h2
      omega
    · rw [hfC] at h2
      have := hb0.lt C0 hob
      omega
    · have hj := hb0.dom j h3
      exact h5 ⟨bl, by rw [hL.keep j hj (by omega)]; exact h4, h4'⟩
  have hnC : ∀ j, E.D j → SG.N.live j → j ≠ kC → E.f j ≠ C0 := fun j hj hl hne e => hne (hR.inj j kC hj hkC hl hlC (e.trans hfC.symm))
  have hcl : ∀ u ∈ args ++ q, Clo E.D u := fun u hu => (List.mem_append.1 hu).elim (hargs u) (hq u)
  obtain ⟨e1, e2, e3, e4, fd', hf', hb'⟩ := kenter_ok (E := E) hk hcl
  rw [hf] at hf'
  cases hf'
  refine ⟨h.running, _, _, hst, fun d => O d ∧ d ≠ C0, fun d => W d ∧ O d ∧ ¬ (d = C0 ∨ ∃ j, j ∈ kch ∧ E.D j ∧ SG.N.live j ∧ E.f j = d), fun d => d = C0 ∨ ∃ j, j ∈ kch ∧ E.D j ∧ SG.N.live j ∧ E.f j = d, fun d => d = C0, 1, by omega, ?_, ?_, ?_, ?_, fun h => by omega, ?_, ?_⟩
  · rintro d ⟨h1, h2, h3⟩
    exact ⟨h1, ⟨h2, fun e => h3 (.inl e)⟩, h3⟩
  · exact fun d h => h
  · rintro d rfl
    exact ⟨hWC, .inl rfl⟩
  · rintro d (rfl | ⟨j, _, h2, h3, rfl⟩)
    · exact hOC
    · exact h.own.img j h2 h3
  · -- the worker
    refine .quiet rfl (born_first (E := E) hf hname hb') ?_
    have c' : Cx P A B x k b (tieX k b kS bS kC C0) [botF P] := ⟨c.hP, c.hm, c.le, c.ok, c.x, tieX_ok P k b kS bS kC C0, fun _ _ _ _ _ h => h.1.1, c.off, caller_bot P⟩
    have hOO : ∀ d, (d = C0 ∨ ∃ j, j ∈ kch ∧ E.D j ∧ SG.N.live j ∧ E.f j = d) → O d := by
      rintro d (rfl | ⟨j, _, h2, h3, rfl⟩)
      · exact hOC
      · exact h.own.img j h2 h3
    have hat : At P SG.N.sz (tieX k b kS bS kC C0) ⟨sf, [], SG.N.only kch SG.N.sz⟩ [botF P] (fun d => d = C0 ∨ ∃ j, j ∈ kch ∧ E.D j ∧ SG.N.live j ∧ E.f j = d) (fun d => d = C0)
        (G (Frame.enter P f ((args ++ q).map E.m).toArray .deferred) [botF P]) w E := by
      refine ⟨?_, ⟨hR.only _ _, e2, by simp, ⟨.inr ⟨e3, .inl rfl⟩, trivial⟩⟩, ⟨fun j hj hl => ?_, fun j hj hl hlo => ?_, fun d hd => h.own.lt _ (hOO d hd), Nat.le_refl _⟩, ⟨⟨hw.1, hw.2.1, hw.2.2.1, fun hh => hw.2.2.2.1 (hOO _ hh), hw.2.2.2.2⟩, ⟨hwS.1, hwS.2.1, hwS.2.2.1, fun hh => hwS.2.2.2.1 (hOO _ hh), hwS.2.2.2.2⟩⟩, rfl, hkC, hfC⟩
      · unfold St.gor
        rw [e1]
        rfl
      · obtain ⟨h1, h2⟩ := CH.only_live (hR.dom j hj) hl
        exact .inr ⟨j, h1, hj, h2, rfl⟩
      · have := hR.dom j hj
        omega
    exact c'.childX H hf hres hX hD hn hS2 hway hat
  · -- goroutine 0
    have a1 := h.behind c.ht ho (v := undef) (undef_clo _) (Rely.refl _ _)
    have hnxN : (nx undef).N = SG.N := by
      obtain ⟨fn, kd, a, ops, i', r, kk, cs, N, rfl, hgd, hlo, rfl⟩ := opn_eq ho
      rfl
    have hbase : SG.N.base ≤ kC := CH.live_lt hlC
    obtain ⟨R1, X1⟩ := hR.kill hbase hlt
    have hlv : ∀ j, E.D j → (SG.N.set kC .dead).live j → SG.N.live j ∧ j ≠ kC := by
      rintro j hj ⟨bl, hb1, hb2⟩
      rw [CH.get_dom hR.ok hbase hlt] at hb1
      split at hb1
      · cases hb1; cases hb2
      · rename_i hne
        exact ⟨⟨bl, hb1, hb2⟩, hne⟩
    refine hN _ _ _ _ E ⟨rfl, ⟨?_, a1.rel.top, a1.rel.cs, a1.rel.stk⟩, ⟨fun j hj hl => ?_, fun j hj hl hlo => ?_, fun d hd => h.own.lt d hd.1, ?_⟩, ⟨⟨hw.1, hw.2.1, hw.2.2.1, fun hh => hw.2.2.2.1 hh.1, hw.2.2.2.2⟩, ⟨hwS.1, hwS.2.1, hwS.2.2.1, fun hh => hwS.2.2.2.1 hh.1, hwS.2.2.2.2⟩⟩, ?_, fun d hd => ⟨hL2 d hd, fun e => hCn (e ▸ hd)⟩, fun d hd => hL3 d hd.1⟩
    · show Rel P E ((nx undef).N.set kC .dead) w
      rw [hnxN]
      exact R1
    · obtain ⟨h1, h2⟩ := hlv j hj (by rw [← hnxN]; exact hl)
      exact ⟨h.own.img j hj h1, hnC j hj h1 h2⟩
    · obtain ⟨h1, h2⟩ := hlv j hj (by rw [← hnxN]; exact hl)
      refine ⟨h.own.wri j hj h1 hlo, h.own.img j hj h1, ?_⟩
      rintro (e | ⟨j', h3, h4, h5, h6⟩)
      · exact hnC j hj h1 h2 e
      · have := hR.inj j' j h4 hj h5 h1 h6
        subst this
        rcases readable_eq hrd h3 with h7 | h7
        · exact h2 h7
        · omega
    · show lo ≤ ((nx undef).N.set kC .dead).sz
      rw [hnxN]
      exact h.own.low
    · show ExtC Ob E0 N0 w0 E ((nx undef).N.set kC .dead) w
      rw [hnxN]
      exact hL.trans (X1.toC O) hL2
end
end Go.Eng
