/-
  The engine, part Qj: a call of plain arguments, known out of its run on no memory.
-/
import Derived.Test.YtokhollghednaaaGreatDoorEngQi
set_option linter.unusedSectionVars false
set_option linter.unusedSimpArgs false
set_option linter.unusedVariables false
namespace Go.Eng
noncomputable section
open Go.Conc
set_option linter.unusedSimpArgs false
set_option linter.unusedVariables false
set_option linter.unusedSectionVars false
variable [Hk]
def hooks (l : List Hook) : Hook := fun f args N => l.findSome? fun h => h f args N
theorem hooks_ok {P : Program} : ∀ {l : List Hook}, (∀ h ∈ l, HookOk P h) → HookOk P (hooks l)
 | [], _ => fun f args N v N' h => by cases h
 | a :: l, hl => fun f args N v N' h => by
  unfold hooks at h
  rw [List.findSome?_cons] at h
  split at h
  ·rename_i x hx
   cases h
   exact hl a (by simp) f args N v N' hx
  ·exact hooks_ok (l := l) (fun b hb => hl b (by simp [hb])) f args N v N' h
end
end Go.Eng
namespace Go.Eng
noncomputable section
open Go.Conc
set_option linter.unusedSimpArgs false
set_option linter.unusedVariables false
set_option linter.unusedSectionVars false
variable [Hk]
theorem drawOkN_le {P : Program} {A B : Rec} (h : A.Le B) {ops : Array Oper} {n : Nat} {l : List DS} {fin : DS} (hs : drawOkN P A ops n l fin = true) : drawOkN P B ops n l fin = true := by
 unfold drawOkN at hs ⊢
 simp only [Bool.and_eq_true, Bool.or_eq_true, List.all_eq_true, List.mem_range, lateOk] at hs ⊢
 refine ⟨hs.1, hs.2.imp id fun hh => ⟨hh.1, fun i hi => ?_⟩⟩
 refine (hh.2 i hi).imp id fun h3 p hp => ?_
 refine (h3 p hp).imp id fun h4 => ⟨h4.1, lateEval_le h h4.2⟩
def lastAfter (ops : Array Oper) (n : Nat) : Bool := (List.range n).all fun i => bef (bmsGo ops.toList []) i n
def xbut (P : Program) (R : Rec) : St → Option St
 | ⟨⟨fn, ar, kd, false, a, .code (.region id ops true) :: k⟩, cs, N⟩ => match ops.size with
  | 0 => none
  | n + 1 => match fcruns P R ops (ops.toList.take n) a N with
   | some (l, a', N') => if and (lastAfter ops n) (drawOkN P R ops n (l.map FDS.ds) ⟨a'.abs, N', .b, undef⟩) = true then some ⟨⟨fn, ar, kd, false, a', .reg ops n (ops.toList.drop n) :: k⟩, cs, N'⟩ else none
   | none => none
 | _ => none
theorem xbut_ok {P : Program} (hP : NoCount P) (hm : P.follows .mixedOrders = true) {A B : Rec} (hAB : A.Le B) (hB : RecOk P B) {S S' : St} (h : xbut P A S = some S') : Reach P S S' := by
 unfold xbut at h
 split at h
 rotate_left
 ·cases h
 rename_i fn ar kd a id ops k cs N
 split at h
 ·cases h
 rename_i n hsz
 split at h
 rotate_left
 ·cases h
 rename_i l a' N' hr
 split at h
 rotate_left
 ·cases h
 rename_i hall
 cases h
 simp only [Bool.and_eq_true] at hall
 obtain ⟨hla, hd⟩ := hall
 intro main J hx lo E w O W hlo hs ow under hu K hK
 have ht := hs.top
 obtain ⟨h1, h2⟩ := fcruns_ok hAB (ops.toList.take n) 0 (fun j o hj => by
  rw [List.getElem?_take] at hj
  split at hj
  ·simpa using hj
  ·cases hj) ht.a hr
 have hlen : (ops.toList.take n).length = n := by simp; omega
 rw [hlen] at h1
 have hk : ∀ it ∈ k, it.Ok E.D := fun it hit => ht.its it (by simp [hit])
 have hold : SF.Ok E.D ⟨fn, ar, kd, false, a, k⟩ := ⟨ht.a, ht.clo, ht.ar, hk, ht.ret, ht.kd⟩
 have hlast : n < ops.size → ∀ i, i < n → bef (bmsGo ops.toList []) i n = true := fun _ i hi => List.all_eq_true.1 hla i (List.mem_range.2 hi)
 unfold St.gor
 rw [SF.frame_run E rfl]
 refine draw_core hP hm hB (by omega) (by omega) hlast h1 (drawOkN_le hAB hd) hlo hs.rel ow ht.clo (SF.base E ⟨fn, ar, kd, false, a, k⟩) id (k.map (It.item E)) (cs.map (SF.frame E) ++ under) fun O' W' E' w' L hclo => ?_
 have X := L.ext
 obtain ⟨x1, x2⟩ := SF.ext X hold
 have hits : ∀ it ∈ (It.reg ops n (ops.toList.drop n) :: k), it.Ok E'.D := by
  intro it hit
  rcases List.mem_cons.1 hit with rfl | hit
  ·intro j o hj
   rw [List.getElem?_drop] at hj
   simpa using hj
  ·exact x2.its it hit
 have hfin := hK O' W' E' w' (hs.turn L.rel X ⟨h2, hclo, x2.ar, hits, x2.ret, x2.kd⟩ rfl) L
 rw [gor_eq X hs.cs, SF.frame_run E' rfl] at hfin
 have eb : SF.base E' ⟨fn, ar, kd, false, a', .reg ops n (ops.toList.drop n) :: k⟩ = SF.base E ⟨fn, ar, kd, false, a, k⟩ := by
  have := congrArg Frame.roundOf x1
  simp only [SF.frame] at this
  simp only [SF.base, this]
 have ek : k.map (It.item E') = k.map (It.item E) := by
  have := congrArg Frame.todo x1
  simpa [SF.frame] using this
 have el : (It.reg ops n (ops.toList.drop n)).item E' = .inRegion ops (List.range' n (ops.size - n)) := by
  simp [It.item]
 simp only [List.map_cons] at hfin
 rw [eb, ek, el] at hfin
 exact hfin
end
end Go.Eng
namespace Go.Eng
noncomputable section
open Go.Conc
set_option linter.unusedSimpArgs false
set_option linter.unusedVariables false
set_option linter.unusedSectionVars false
theorem events_cells {P : Program} (g o : Nat) (t : TypeId) {zl zh : Nat} {n : Nat} (hu : Unm n zl zh) : ∀ (vs : List Value) (i : Nat) (cur : Array Value) (w : World) (es : Array Event), w.heap[g]? = some (.cells cur t (zl, zh)) → cur.size = n → o + i + vs.length ≤ cur.size → (∀ v ∈ vs, v.oneCell' = true) →
  ∀ ev ∈ (storeCells ⟨g, o, none⟩ vs i).events P w es, ev ∈ es ∨ ∃ j, i ≤ j ∧ j < i + vs.length ∧ ev.loc = .cell ⟨g, o + j, none⟩ ∧ ev.sync = false
 | [], _, _, _, _, _, _, _, _ => fun ev h => .inl (by simpa [storeCells] using h)
 | v :: rest, i, cur, w, es, hg, hsz, hl, h1 => fun ev h => by
  have hi : o + i < cur.size := by simp at hl; omega
  have hadd : (⟨g, o, none⟩ : Addr).add i = ⟨g, o + i, none⟩ := by unfold Addr.add; split <;> simp_all
  have hcell : w.cell? ⟨g, o + i, none⟩ = some cur[o + i] := by simp [World.cell?, hg, hi]
  have hfro : w.frozen? ⟨g, o + i, none⟩ = false := by
   have := hu.2 (o + i) (by omega)
   simp only [World.frozen?, hg]
   simp
   omega
  have hst : (store ((⟨g, o, none⟩ : Addr).add i) v).run P w = .ok () (w.setRow g (cur.setIfInBounds (o + i) v)) := by
   rw [hadd, run_store P w _ v _ (h1 v (by simp)), hcell]
   simp [hfro, setCell_eq_setRow w g (o + i) cur t (zl, zh) v hg]
  have hev : (store ((⟨g, o, none⟩ : Addr).add i) v).events P w es = es.push ⟨.cell ⟨g, o + i, none⟩, true, false⟩ := by
   rw [hadd, events_store P w es _ v _ (h1 v (by simp)), hcell]
   simp only [hfro, Bool.false_eq_true, if_false]
   rfl
  simp only [storeCells, Sem.events_bind, hst, Result.evThen_ok, hev] at h
  rcases events_cells g o t hu rest (i + 1) (cur.setIfInBounds (o + i) v) (w.setRow g (cur.setIfInBounds (o + i) v)) _ (setRow_heap w g cur _ t _ hg) (by simpa using hsz) (by simp at hl ⊢; omega) (fun x hx => h1 x (by simp [hx])) ev h with h | ⟨j, h2, h3, h4⟩
  ·rcases Array.mem_push.1 h with h | rfl
   ·exact .inl h
   ·exact .inr ⟨i, Nat.le_refl _, by simp, rfl, rfl⟩
  ·exact .inr ⟨j, by omega, by simp; omega, h4⟩
def bufAt (b : Nat) (ty : TypeId) (n : Nat) (w : World) : Prop := ∃ arr lo hi, w.heap[b]? = some (.cells arr ty (lo, hi)) ∧ arr.size = n ∧ Unm n lo hi
def ownCells (b off n : Nat) : Addr → Prop := fun a => a.block = b ∧ a.spot = none ∧ off ≤ a.off ∧ a.off < off + n
def holdsAt (b off : Nat) (vs : List Value) (w : World) : Prop := ∀ j v, vs[j]? = some v → w.cell? ⟨b, off + j, none⟩ = some v
variable [Hk]
def xst (P : Program) (lo k off : Nat) (vs : List Value) (S : St) : Option St := match S.opn lo with
 | some (o, nx) => match o.op with
  | .store t a x => match S.ev a with
   | some p => match S.ev x with
    | some v => match sizeT P t with
     | some n => if and (isPtr k off p) (and (sameL v.cells.toList vs) (and (Nat.beq n vs.length) (and (plain v) (and (plainL vs) (vs.all (·.oneCell')))))) = true then some (nx undef) else none
     | none => none
    | none => none
   | none => none
  | _ => none
 | none => none
theorem xst_lo {P : Program} {lo k off : Nat} {vs : List Value} {S S' : St} (h : xst P lo k off vs S = some S') : lo ≤ S.N.wm := by
 unfold xst at h
 split at h
 ·rename_i o nx ho
  exact opn_lo ho
 ·cases h
theorem xst_step {P : Program} {lo k b off n : Nat} {ty : TypeId} {tie : KT} {vs : List Value} {S S' : St} {under : List Frame} {O W : Nat → Prop} {g : Goroutine} {w : World} {E : Env} (ht : Tie P tie) (h : At P lo tie S under O W g w E) (hw : tieWg k b O W E S.N w) (hx : xst P lo k off vs S = some S')
  (hb : bufAt b ty n w) (hn : off + vs.length ≤ n) (main : Bool) :
  ∃ w' es, stepG P main g w = .go (S'.gor E under) w' es ∧ (∀ e ∈ es, ∃ a, e.loc = .cell a ∧ ownCells b off vs.length a ∧ e.sync = false) ∧ w'.heap.size = w.heap.size ∧ (∀ c, c ≠ b → w'.heap[c]? = w.heap[c]?) ∧ (∀ a, ¬ ownCells b off vs.length a → w'.cell? a = w.cell? a) ∧
   w'.os = w.os ∧ w'.tape = w.tape ∧ w'.output = w.output ∧ bufAt b ty n w' ∧ holdsAt b off vs w' ∧ At P lo tie S' under O W (S'.gor E under) w' E := by
 unfold xst at hx
 split at hx
 rotate_left
 ·cases hx
 rename_i o nx ho
 split at hx
 rotate_left
 ·cases hx
 rename_i t a x hop
 split at hx
 rotate_left
 ·cases hx
 rename_i p hp
 split at hx
 rotate_left
 ·cases hx
 rename_i v hv
 split at hx
 rotate_left
 ·cases hx
 rename_i m hm
 split at hx
 rotate_left
 ·cases hx
 rename_i hall
 cases hx
 simp only [Bool.and_eq_true] at hall
 obtain ⟨h1, h2, h3, h4, h5, h6⟩ := hall
 obtain rfl := isPtr_eq h1
 have h2 := sameL_eq _ _ h2
 obtain rfl := Nat.eq_of_beq_eq_true h3
 obtain ⟨arr, flo, fhi, harr, hsz, hunm⟩ := hb
 have hargs := h.args (as := [a, x]) (vs := [.pointer (some ⟨k, off, none⟩), v]) (by simp [evL, hp, hv])
 have hpm := m_ptr (off := off) hw
 have hvm : E.m v = v := m_plain E h4
 simp only [List.map_cons, List.map_nil, hpm, hvm, List.cons.injEq, and_true] at hargs
 obtain ⟨⟨ha, hxv⟩, _⟩ := hargs
 have h1c : ∀ u ∈ vs, u.oneCell' = true := fun u hu => List.all_eq_true.1 h6 u hu
 have hst := run_storeCells_cells (P := P) b off vs 0 w
  (by
   intro j hj
   have : off + 0 + j < arr.size := by omega
   simp [World.cell?, harr]
   omega)
  (by
   intro j hj
   have := hunm.2 (off + 0 + j) (by omega)
   simp only [World.frozen?, harr]
   simp at this ⊢
   omega) h1c
 rw [Nat.add_zero] at hst
 have hz : v.cells.size = vs.length := by rw [← h2]; simp
 have hrun : (Instr.storeAt t (.pointer (some ⟨b, off, none⟩)) v).run P w = .ok () (w.setCells b off vs) := by
  simp only [Instr.storeAt, Instr.sureAddr, storeVar, Sem.run_bind, Sem.run_pure, Result.andThen_ok, run_sizeOf hm, hz, h2, hst, ne_eq, not_true_eq_false, if_false]
 have hev : ∀ e ∈ (Instr.storeAt t (.pointer (some ⟨b, off, none⟩)) v).events P w #[], ∃ j, j < vs.length ∧ e.loc = .cell ⟨b, off + j, none⟩ ∧ e.sync = false := by
  intro e he
  have hes : (Instr.storeAt t (.pointer (some ⟨b, off, none⟩)) v).events P w #[] = (storeCells ⟨b, off, none⟩ vs 0).events P w #[] := by
   simp only [Instr.storeAt, Instr.sureAddr, storeVar, Sem.events_bind, Sem.run_pure, Sem.events_pure, Result.evThen_ok, run_sizeOf hm, mute_sizeOf t w, hz, h2, ne_eq, not_true_eq_false, if_false]
  rw [hes] at he
  rcases events_cells b off ty hunm vs 0 arr w #[] harr hsz (by omega) h1c e he with h | ⟨j, _, hj, hl⟩
  ·simp at h
  ·exact ⟨j, by omega, hl⟩
 have hrun' : (execOp (E.act S.top.a.abs).eval o).run P w = .ok .skip (w.setCells b off vs) := by
  simp only [execOp, hop, ha, hxv]
  exact run_u hrun
 obtain ⟨r1, r2, r3⟩ := rest_setCells b vs off w
 have hcell : ∀ a, ¬ ownCells b off vs.length a → (w.setCells b off vs).cell? a = w.cell? a := fun a hna => World.cell?_setCells_out b vs off w a (fun e1 e2 => by
  by_cases hlt : a.off < off
  ·exact .inl hlt
  ·refine .inr ?_
   by_cases hge : a.off < off + vs.length
   ·exact absurd ⟨e1, e2, by omega, hge⟩ hna
   ·omega)
 have hoth : ∀ c, c ≠ b → (w.setCells b off vs).heap[c]? = w.heap[c]? := fun c hc => heap_setCells_other _ _ hc _ _ _
 have hat : At P lo tie (nx undef) under O W ((nx undef).gor E under) (w.setCells b off vs) E :=
  h.behind ht ho (undef_clo _) ⟨fun c hc => hoth c fun e => hw.2.2.2.1 (e ▸ hc), by rw [size_setCells]; exact Nat.le_refl _, r1, r2, r3⟩
 refine ⟨w.setCells b off vs, listed P S.top.fn (E.act S.top.a.abs) o w, ?_, fun e he => ?_, size_setCells _ _ _ _, hoth, hcell, r1, r2, r3, ⟨wr arr.toList off vs |>.toArray, flo, fhi, ?_, ?_, hunm⟩, fun j u hj => ?_, hat⟩
 ·obtain ⟨fn, kd, a', ops, i, r, kk, cs, N, rfl, hgd, _, rfl⟩ := opn_eq ho
  rw [h.g, gor_reg, gor_next, ← act_put_at h.rel.top.a]
  have := stepG_none (P := P) (main := main) (b := SF.base E ⟨fn, none, kd, false, a', kk⟩) (a := E.act a'.abs) (k := kk.map (It.item E)) (cs := cs.map (SF.frame E) ++ under) (rest := List.range' (i + 1) r.length) h.op (wanted_of hgd _) h.kind hrun'
  rw [this]
  rw [m_undef]
  rfl
 ·have he' := Go.Conc.mem_seen he
  have he2 : e ∈ (Instr.storeAt t (.pointer (some ⟨b, off, none⟩)) v).events P w #[] := by
   simp only [execOp, hop, ha, hxv, Sem.events_bind, hrun, Result.evThen_ok, Sem.events_pure] at he'
   exact he'
  obtain ⟨j, hj, hl, hs⟩ := hev e he2
  exact ⟨_, hl, ⟨rfl, rfl, by simp, by simp; omega⟩, hs⟩
 ·have := heap_setCells b vs off arr.toList ty (flo, fhi) w (by simpa using harr)
  exact this
 ·simp [wr_length, hsz]
 ·have hj' : j < vs.length := (List.getElem?_eq_some_iff.1 hj).1
  have := World.cell?_setCells_in b vs off w (fun i hi => by
   have : off + i < arr.size := by omega
   simp [World.cell?, harr, this]) j hj'
  rw [this]
  rw [← hj]
  simp [hj']
end
end Go.Eng
namespace Go.Eng
noncomputable section
open Go.Conc
open Go.Conc.Lib (WgLib WgLink)
open Go.ConcN (WgLive Has WSit AtR0 RW DWs)
open Go.ConcR (KK wgBlock WgAt stA smA rd mk Payload)
set_option linter.unusedSimpArgs false
set_option linter.unusedVariables false
set_option linter.unusedSectionVars false
variable [Hk]
def tieOwn (k c : Nat) : KT := fun _ W E _ _ => W c ∧ E.D k ∧ E.f k = c
theorem tieOwn_ok (P : Program) (k c : Nat) : Tie P (tieOwn k c) := fun lo O W E N w O' W' E' N' w' R H L ⟨h1, h2, h3⟩ => ⟨L.ww c h1, (L.ext.mono k h2).1, (L.ext.mono k h2).2.1.trans h3⟩
def tieX (k b kS bS kC c : Nat) : KT := fun O W E N w => (tieWg k b O W E N w ∧ tieWg kS bS O W E N w) ∧ tieOwn kC c O W E N w
theorem tieX_ok (P : Program) (k b kS bS kC c : Nat) : Tie P (tieX k b kS bS kC c) := ((tieWg_ok P k b).and (tieWg_ok P kS bS)).and (tieOwn_ok P kC c)
inductive XWays (P : Program) (lo k kS : Nat) (d f : FuncId) (kC : Nat) : List (Nat × List Value) → St → Prop
 | fin {S S1 : St} : Reach P S S1 → xdd lo k d f S1 = true → hasCell S1.N kC = true → XWays P lo k kS d f kC [] S
 | put {S S1 S2 : St} {off : Nat} {vs : List Value} {r : List (Nat × List Value)} : Reach P S S1 → xst P lo kS off vs S1 = some S2 → XWays P lo k kS d f kC r S2 → XWays P lo k kS d f kC ((off, vs) :: r) S
theorem XWays.from {P : Program} {lo k kS : Nat} {d f : FuncId} {kC : Nat} {l : List (Nat × List Value)} {S S' : St} (h : Reach P S S') (hx : XWays P lo k kS d f kC l S') : XWays P lo k kS d f kC l S := by
 cases hx with
 | fin h1 h2 h3 => exact .fin (h.trans h1) h2 h3
 | put h1 h2 h3 => exact .put (h.trans h1) h2 h3
def xways (P : Program) (A : Rec) (fuel m lo k kS : Nat) (d f : FuncId) (kC : Nat) : List (Nat × List Value) → St → Bool
 | [], S => and (xdd lo k d f (toStop P A m S)) (hasCell (toStop P A m S).N kC)
 | (off, vs) :: r, S => match xbut P A (toStop P A fuel S) with
  | some S1 => match xst P lo kS off vs S1 with
   | some S2 => xways P A fuel m lo k kS d f kC r S2
   | none => false
  | none => false
theorem xways_ok {P : Program} (hP : NoCount P) (hm : P.follows .mixedOrders = true) {A B : Rec} (hAB : A.Le B) (hB : RecOk P B) {fuel m lo k kS : Nat} {d f : FuncId} {kC : Nat} : ∀ {l : List (Nat × List Value)} {S : St}, xways P A fuel m lo k kS d f kC l S = true → XWays P lo k kS d f kC l S
 | [], S, h => by
  simp only [xways, Bool.and_eq_true] at h
  exact .fin (toStop_reach hP hm hAB hB m S) h.1 h.2
 | (off, vs) :: r, S, h => by
  simp only [xways] at h
  split at h
  ·rename_i S1 h1
   split at h
   ·rename_i S2 h2
    exact .put ((toStop_reach hP hm hAB hB fuel S).trans (xbut_ok hP hm hAB hB h1)) h2 (xways_ok hP hm hAB hB h)
   ·cases h
  ·cases h
def Told (Don : Nat → Nat → World → Prop) (i bS : Nat) (sts : List (Nat × List Value)) : Prop := ∀ l off vs r, sts = l ++ (off, vs) :: r → ∀ w w2 : World, (∀ a, ¬ ownCells bS off vs.length a → w2.cell? a = w.cell? a) → holdsAt bS off vs w2 →
 Don i r.length w2 ∧ ∀ k, r.length < k → Don i k w → Don i k w2
section
variable [Payload]
variable {P : Program} {A B : Rec} {fuel m lo k b kS bS kC c0 off nS : Nat} {tyS : TypeId} {vs : List Value} {x : XF} {S : St} {O W : Nat → Prop} {g : Goroutine} {w : World} {E : Env} {n : Nat} {L : WgLink}
variable {X : Nat → Addr → Prop} {Don : Nat → Nat → World → Prop} {S2 : Nat → Prop}
theorem Cx.childXs (c : Cx P A B x k b (tieX k b kS bS kC c0) [botF P]) (H : WgLib P L) {i : Nat} {f : FuncId} {fd : Func} (hf : P.funcs[f]? = some fd) (hr : fd.results = #[]) (hS2 : S2 bS) {sts : List (Nat × List Value)} {S : St} (hx : XWays P lo k kS L.done f kC sts S) :
  (∀ p ∈ sts, ∀ a, ownCells bS p.1 p.2.length a → X i a) → (∀ p ∈ sts, p.1 + p.2.length ≤ nS) → Told Don i bS sts → ∀ {O W : Nat → Prop} {g : Goroutine} {w : World} {E : Env}, At P lo (tieX k b kS bS kC c0) S [botF P] O W g w E →
   NN P L.tWg b (bufAt bS tyS nS) (WkK P L.tWg b (bufAt bS tyS nS) X Don S2 i sts.length) O W g w := by
 haveI := c.ctx false (JJ L.tWg b (bufAt bS tyS nS))
 induction hx with
 | @fin S S1 h1 h3 h4 =>
  intro _ _ _ O W g w E h
  obtain ⟨n1, t1, kk, N1, hS, hlo⟩ := xdd_eq h3
  have hlo' : lo ≤ S1.N.wm := by rw [hS]; exact hlo
  refine h.reach c.ht h1 hlo' c.hu fun O W g w E a2 => ?_
  refine c.child (m := 0) H (fun O W g w E ha => ?_) hf hr h3 a2
  obtain ⟨_, t2, t3, t4⟩ := ha.tie
  obtain ⟨_, v, hv⟩ := hasCell_ok ha.rel.rel t3 h4
  exact ⟨c0, v, t2, by rw [← t4]; exact hv⟩
 | @put S S1 S2' off vs r h1 h2 h3 ih =>
  intro hX hn hD O W g w E h
  refine h.upto c.ht h1 (xst_lo h2) c.hu fun O W g w E hj a1 => ?_
  obtain ⟨w', es, hst, hev, e1, e2, e3, e4, e5, e6, e7, e8, a2⟩ := xst_step c.ht a1 a1.tie.1.2 h2 hj.2 (hn (off, vs) (by simp)) false
  refine ⟨a1.running, _, w', es, hst, ⟨fun d hd => e2 d fun e => hd (e ▸ hS2), fun a ha => e3 a fun hh => ha (hX (off, vs) (by simp) a hh), e1, e4, e5, e6, e7, fun e he => ?_⟩, hD [] off vs r rfl w w' e3 e8, ?_⟩
  ·obtain ⟨a, ha1, ha2, ha3⟩ := hev e he
   exact ⟨a, ha1, hX (off, vs) (by simp) a ha2, ha3⟩
  ·exact ih (fun p hp => hX p (by simp [hp])) (fun p hp => hn p (by simp [hp])) (fun l off' vs' r' e => hD ((off, vs) :: l) off' vs' r' (by rw [e]; rfl)) a2
end
end
end Go.Eng
namespace Go.Eng
noncomputable section
open Go.Conc
open Go.Conc.Lib (WgLib WgLink)
open Go.ConcN (WgLive Has WSit AtR0 RW DWs)
open Go.ConcR (KK wgBlock WgAt stA smA rd mk Payload)
set_option linter.unusedSimpArgs false
set_option linter.unusedVariables false
set_option linter.unusedSectionVars false
variable [Hk]
def tieL (Ob : Nat → Prop) (E0 : Env) (N0 : CH) (w0 : World) : KT := fun O _ E N w => ExtC Ob E0 N0 w0 E N w ∧ (∀ b, Ob b → O b) ∧ (∀ b, O b → Ob b ∨ w0.heap.size ≤ b)
theorem tieL_ok (P : Program) (Ob : Nat → Prop) (E0 : Env) (N0 : CH) (w0 : World) : Tie P (tieL Ob E0 N0 w0) := fun lo O W E N w O' W' E' N' w' R H L ⟨h1, h2, h3⟩ =>
 ⟨h1.trans L.ext h2, fun b hb => L.oo b (h2 b hb), fun b hb => (L.ou b hb).elim (h3 b) fun hs => .inr (Nat.le_trans h1.hsize hs)⟩
def tieP (k b kS bS : Nat) (Ob : Nat → Prop) (E0 : Env) (N0 : CH) (w0 : World) : KT := fun O W E N w => (tieWg k b O W E N w ∧ tieWg kS bS O W E N w) ∧ tieL Ob E0 N0 w0 O W E N w
theorem tieP_ok (P : Program) (k b kS bS : Nat) (Ob : Nat → Prop) (E0 : Env) (N0 : CH) (w0 : World) : Tie P (tieP k b kS bS Ob E0 N0 w0) := ((tieWg_ok P k b).and (tieWg_ok P kS bS)).and (tieL_ok P Ob E0 N0 w0)
def St.drop (k : Nat) (S : St) : St := ⟨S.top, S.cs, S.N.set k .dead⟩
def readable (kC lo : Nat) (l : List Nat) : Bool := l.all fun k => Nat.beq k kC || Nat.ble (k + 1) lo
theorem readable_eq {kC lo k : Nat} {l : List Nat} (h : readable kC lo l = true) (hk : k ∈ l) : k = kC ∨ k < lo := by
 have := List.all_eq_true.1 h k hk
 rw [Bool.or_eq_true] at this
 exact this.imp Nat.eq_of_beq_eq_true Nat.le_of_ble_eq_true
structure Begun (Ob : Nat → Prop) (E0 : Env) (N0 : CH) (w0 : World) : Prop where
 dom : ∀ k, E0.D k → k < N0.sz
 lt : ∀ b, Ob b → b < w0.heap.size
section
variable [Payload]
variable {P : Program} {A B : Rec} {k b kS bS lo nS kC : Nat} {tyS : TypeId} {sts : List (Nat × List Value)} {x : XF} {SG SP : St} {under : List Frame} {O W : Nat → Prop} {g : Goroutine} {w : World} {E : Env} {n : Nat} {L : WgLink}
variable {X : Nat → Addr → Prop} {Don : Nat → Nat → World → Prop} {S2 : Nat → Prop} {Ob : Nat → Prop} {E0 : Env} {N0 : CH} {w0 : World}
structure GoXOk (P : Program) (lo k kS : Nat) (sts : List (Nat × List Value)) (n0 kC : Nat) (done : FuncId) (SG SP : St) (kch : List Nat) : Prop where
 ok : ∃ f q args nx sf fd, SG.xgo lo = some (f, q, args, nx) ∧ kenter P f (args ++ q) .deferred = some sf ∧ XWays P SG.N.sz k kS done f kC sts ⟨sf, [], SG.N.only kch SG.N.sz⟩ ∧ SP = (nx undef).drop kC ∧
  P.funcs[f]? = some fd ∧ (fd.name == "runtime.NumGoroutine") = false ∧ fd.results = #[]
 c : hasCell SG.N kC = true
 lt : kC < SG.N.sz
 new : n0 ≤ kC
 wm : n0 ≤ SG.N.wm
 low : lo ≤ kC
 mem : kC ∈ kch
 rd : readable kC lo kch = true
theorem Cx.goX (c : Cx P A B x k b (tieP k b kS bS Ob E0 N0 w0) under) (H : WgLib P L) (hb0 : Begun Ob E0 N0 w0) {kch : List Nat} (hg : GoXOk P lo k kS sts N0.sz kC L.done SG SP kch) {i : Nat} (hlen : sts.length ≤ 900) (hX : ∀ p ∈ sts, ∀ a, ownCells bS p.1 p.2.length a → X i a) (hD : Told Don i bS sts) (hD0 : ∀ kk w, sts.length ≤ kk → Don i kk w) (hn : ∀ p ∈ sts, p.1 + p.2.length ≤ nS) (hS2 : S2 bS) {Next : KP}
  (hN : ∀ O W g w E, At P lo (tieP k b kS bS Ob E0 N0 w0) SP under O W g w E → Next O W g w) (h : At P lo (tieP k b kS bS Ob E0 N0 w0) SG under O W g w E) : nGo P L.tWg b (bufAt bS tyS nS) X Don S2 i Next O W g w := by
 obtain ⟨⟨f, q, args, nx, sf, fd, hx, hk, hway, rfl, hf, hname, hres⟩, hc, hlt, hnew, hwm, hlow, hmem, hrd⟩ := hg
 obtain ⟨⟨o, ho⟩, hq, hargs, hst⟩ := xgo_step (main := true) h hx
 have hR := h.rel.rel
 obtain ⟨⟨hw, hwS⟩, hL, hL2, hL3⟩ := h.tie
 have hkC : E.D kC := hL.all kC hnew hlt
 obtain ⟨C0, hfC⟩ : ∃ C0, E.f kC = C0 := ⟨_, rfl⟩
 obtain ⟨hlC, v, hv⟩ := hasCell_ok hR hkC hc
 have hOC : O C0 := by rw [← hfC]; exact h.own.img kC hkC hlC
 have hWC : W C0 := by rw [← hfC]; exact h.own.wri kC hkC hlC hlow
 have hCb : C0 ≠ b := fun e => hw.2.2.2.1 (e ▸ hOC)
 have hCS : C0 ≠ bS := fun e => hwS.2.2.2.1 (e ▸ hOC)
 have hCn : ¬ Ob C0 := by
  intro hob
  rcases hL.fresh kC hkC with h2 | h2 | ⟨j, h3, ⟨bl, h4, h4'⟩, h5, h6⟩
  ·have := hb0.dom kC h2
   omega
  ·rw [hfC] at h2
   have := hb0.lt C0 hob
   omega
  ·have hj := hb0.dom j h3
   exact h5 ⟨bl, by rw [hL.keep j hj (by omega)]; exact h4, h4'⟩
 have hnC : ∀ j, E.D j → SG.N.live j → j ≠ kC → E.f j ≠ C0 := fun j hj hl hne e => hne (hR.inj j kC hj hkC hl hlC (e.trans hfC.symm))
 have hcl : ∀ u ∈ args ++ q, Clo E.D u := fun u hu => (List.mem_append.1 hu).elim (hargs u) (hq u)
 obtain ⟨e1, e2, e3, e4, fd', hf', hb'⟩ := kenter_ok (E := E) hk hcl
 rw [hf] at hf'
 cases hf'
 refine ⟨h.running, _, _, hst, fun d => O d ∧ d ≠ C0, fun d => W d ∧ O d ∧ ¬ (d = C0 ∨ ∃ j, j ∈ kch ∧ E.D j ∧ SG.N.live j ∧ E.f j = d), fun d => d = C0 ∨ ∃ j, j ∈ kch ∧ E.D j ∧ SG.N.live j ∧ E.f j = d, fun d => d = C0, sts.length, hlen, ?_, ?_, ?_, ?_, fun kk hk => hD0 kk _ hk, ?_, ?_⟩
 ·rintro d ⟨h1, h2, h3⟩
  exact ⟨h1, ⟨h2, fun e => h3 (.inl e)⟩, h3⟩
 ·exact fun d h => h
 ·rintro d rfl
  exact ⟨hWC, .inl rfl⟩
 ·rintro d (rfl | ⟨j, _, h2, h3, rfl⟩)
  ·exact hOC
  ·exact h.own.img j h2 h3
 ·-- the worker
  refine .quiet rfl (born_first (E := E) hf hname hb') ?_
  have c' : Cx P A B x k b (tieX k b kS bS kC C0) [botF P] := ⟨c.hP, c.hm, c.le, c.ok, c.x, tieX_ok P k b kS bS kC C0, fun _ _ _ _ _ h => h.1.1, c.off, caller_bot P⟩
  have hOO : ∀ d, (d = C0 ∨ ∃ j, j ∈ kch ∧ E.D j ∧ SG.N.live j ∧ E.f j = d) → O d := by
   rintro d (rfl | ⟨j, _, h2, h3, rfl⟩)
   ·exact hOC
   ·exact h.own.img j h2 h3
  have hat : At P SG.N.sz (tieX k b kS bS kC C0) ⟨sf, [], SG.N.only kch SG.N.sz⟩ [botF P] (fun d => d = C0 ∨ ∃ j, j ∈ kch ∧ E.D j ∧ SG.N.live j ∧ E.f j = d) (fun d => d = C0)
    (G (Frame.enter P f ((args ++ q).map E.m).toArray .deferred) [botF P]) w E := by
   refine ⟨?_, ⟨hR.only _ _, e2, by simp, ⟨.inr ⟨e3, .inl rfl⟩, trivial⟩⟩, ⟨fun j hj hl => ?_, fun j hj hl hlo => ?_, fun d hd => h.own.lt _ (hOO d hd), Nat.le_refl _⟩, ⟨⟨hw.1, hw.2.1, hw.2.2.1, fun hh => hw.2.2.2.1 (hOO _ hh), hw.2.2.2.2⟩, ⟨hwS.1, hwS.2.1, hwS.2.2.1, fun hh => hwS.2.2.2.1 (hOO _ hh), hwS.2.2.2.2⟩⟩, rfl, hkC, hfC⟩
   ·unfold St.gor
    rw [e1]
    rfl
   ·obtain ⟨h1, h2⟩ := CH.only_live (hR.dom j hj) hl
    exact .inr ⟨j, h1, hj, h2, rfl⟩
   ·have := hR.dom j hj
    omega
  exact c'.childXs H hf hres hS2 hway hX hn hD hat
 ·-- goroutine 0
  have a1 := h.behind c.ht ho (v := undef) (undef_clo _) (Rely.refl _ _)
  have hnxN : (nx undef).N = SG.N := by
   obtain ⟨fn, kd, a, ops, i', r, kk, cs, N, rfl, hgd, hlo, rfl⟩ := opn_eq ho
   rfl
  have hbase : SG.N.base ≤ kC := CH.live_lt hlC
  obtain ⟨R1, X1⟩ := hR.kill hbase hlt
  have hlv : ∀ j, E.D j → (SG.N.set kC .dead).live j → SG.N.live j ∧ j ≠ kC := by
   rintro j hj ⟨bl, hb1, hb2⟩
   rw [CH.get_dom hR.ok hbase hlt] at hb1
   split at hb1
   ·cases hb1; cases hb2
   ·rename_i hne
    exact ⟨⟨bl, hb1, hb2⟩, hne⟩
  refine hN _ _ _ _ E ⟨rfl, ⟨?_, a1.rel.top, a1.rel.cs, a1.rel.stk⟩, ⟨fun j hj hl => ?_, fun j hj hl hlo => ?_, fun d hd => h.own.lt d hd.1, ?_⟩, ⟨⟨hw.1, hw.2.1, hw.2.2.1, fun hh => hw.2.2.2.1 hh.1, hw.2.2.2.2⟩, ⟨hwS.1, hwS.2.1, hwS.2.2.1, fun hh => hwS.2.2.2.1 hh.1, hwS.2.2.2.2⟩⟩, ?_, fun d hd => ⟨hL2 d hd, fun e => hCn (e ▸ hd)⟩, fun d hd => hL3 d hd.1⟩
  ·show Rel P E ((nx undef).N.set kC .dead) w
   rw [hnxN]
   exact R1
  ·obtain ⟨h1, h2⟩ := hlv j hj (by rw [← hnxN]; exact hl)
   exact ⟨h.own.img j hj h1, hnC j hj h1 h2⟩
  ·obtain ⟨h1, h2⟩ := hlv j hj (by rw [← hnxN]; exact hl)
   refine ⟨h.own.wri j hj h1 hlo, h.own.img j hj h1, ?_⟩
   rintro (e | ⟨j', h3, h4, h5, h6⟩)
   ·exact hnC j hj h1 h2 e
   ·have := hR.inj j' j h4 hj h5 h1 h6
    subst this
    rcases readable_eq hrd h3 with h7 | h7
    ·exact h2 h7
    ·omega
  ·show lo ≤ ((nx undef).N.set kC .dead).sz
   rw [hnxN]
   exact h.own.low
  ·show ExtC Ob E0 N0 w0 E ((nx undef).N.set kC .dead) w
   rw [hnxN]
   exact hL.trans (X1.toC O) hL2
end
end
end Go.Eng
namespace Go.Eng
noncomputable section
open Go.Conc
open Go.Conc.Lib (WgLib WgLink)
open Go.ConcN (WgLive ShN Has WSit AtR0 RW DWs sumTo)
open Go.ConcR (KK wgBlock WgAt stA smA rd mk Payload)
set_option linter.unusedSimpArgs false
set_option linter.unusedVariables false
set_option linter.unusedSectionVars false
variable [Hk]
def CH.mend (N : CH) (k : Nat) (b : CB) (wm : Nat) : CH := ⟨N.sz, wm, N.base, (N.set k b).t⟩
def St.mend (k : Nat) (b : CB) (wm : Nat) (S : St) : St := ⟨S.top, S.cs, S.N.mend k b wm⟩
def St.lend (k : Nat) (S : St) : St := ⟨S.top, S.cs, (S.N.set k .dead).guarded⟩
theorem CH.get_mend (N : CH) (k : Nat) (b : CB) (wm j : Nat) : (N.mend k b wm).get j = (N.set k b).get j := by rw [CH.get_def, CH.get_def]; rfl
theorem CH.get_guarded (N : CH) (j : Nat) : N.guarded.get j = N.get j := by rw [CH.get_def, CH.get_def]; rfl
theorem Rel.guarded {P : Program} {E : Env} {N : CH} {w : World} (R : Rel P E N w) : Rel P E N.guarded w := by
 have hl : ∀ k, N.guarded.live k → N.live k := fun k ⟨b, hb, hd⟩ => ⟨b, by rw [← CH.get_guarded]; exact hb, hd⟩
 exact ⟨⟨R.ok.le, R.ok.full⟩, R.gl, R.dom, fun i j hi hj li lj e => R.inj i j hi hj (hl i li) (hl j lj) e, fun k b hk hb => R.blk k b hk (by rw [← CH.get_guarded]; exact hb)⟩
def Far (p q : Nat × List Value) : Prop := p.1 + p.2.length ≤ q.1 ∨ q.1 + q.2.length ≤ p.1
structure ManyOk (P : Program) (A : Rec) (fuel k kS : Nat) (tyS : TypeId) (n : Nat) (L : WgLink) (x : XF) (fin : List Value) (wm : Nat) (S SF : St) : Prop where
 ok : ∃ (cells : List Value) (r l c : Nat) (SP SG : Nat → St) (kC : Nat → Nat) (kch : Nat → List Nat) (sts : Nat → List (Nat × List Value)) (a : Nat → St) (mw : Nat),
  (S.N.sz = k ∧ kS < k ∧ LIM ≤ kS ∧ S.N.get kS = some (.row cells tyS false) ∧ cells.length = fin.length ∧ S.ev (.tmp r) = some (.slice (some ⟨kS, 0, none⟩) l c) ∧ plainL fin = true ∧ n < 2147483647 ∧ wm ≤ S.N.wm ∧ wm ≤ kS ∧ SF.N.wm ≤ wm) ∧
  xal k L.tWg (S.lend kS) = some (SP 0) ∧ (∀ i, i < n → AddOk P A fuel k k x i (SP i) (SG i)) ∧
  (∀ i, i < n → GoXOk P k k kS (sts i) k (kC i) L.done (SG i) (SP (i + 1)) (kch i)) ∧
  (∀ i, i < n → (sts i).length ≤ 900 ∧ ∀ p ∈ sts i, p.1 + p.2.length ≤ fin.length) ∧ (∀ i j, i < n → j < n → i ≠ j → ∀ p ∈ sts i, ∀ q ∈ sts j, Far p q) ∧ (∀ i, i < n → (sts i).Pairwise Far) ∧
  (∀ d, d < fin.length → ∃ i p j v, i < n ∧ p ∈ sts i ∧ d = p.1 + j ∧ p.2[j]? = some v ∧ fin[d]? = some v) ∧
  (∃ S0, Reach P (SP n) S0 ∧ xm0 k x.disable S0 = some (a 0)) ∧ WaitOk P A fuel k k x n mw a (fun T => (k ≤ T.N.wm ∧ T.N.base = 0) ∧ Reach P (T.mend kS (.row fin tyS false) wm) SF)
def tieS (kS bS : Nat) (Ob : Nat → Prop) (E0 : Env) (N0 : CH) (w0 : World) : KT := fun O W E N w => tieWg kS bS O W E N w ∧ tieL Ob E0 N0 w0 O W E N w
theorem tieS_ok (P : Program) (kS bS : Nat) (Ob : Nat → Prop) (E0 : Env) (N0 : CH) (w0 : World) : Tie P (tieS kS bS Ob E0 N0 w0) := (tieWg_ok P kS bS).and (tieL_ok P Ob E0 N0 w0)
section
variable [Payload]
variable {P : Program} {A B : Rec} {fuel k kS wm n : Nat} {tyS : TypeId} {L : WgLink} {x : XF} {fin : List Value} {S SF : St}
theorem fin_row {bS : Nat} {w : World} {sts : Nat → List (Nat × List Value)} (hJ : bufAt bS tyS fin.length w) (hD : ∀ i, i < n → ∀ p ∈ sts i, holdsAt bS p.1 p.2 w) (hc : ∀ d, d < fin.length → ∃ i p j v, i < n ∧ p ∈ sts i ∧ d = p.1 + j ∧ p.2[j]? = some v ∧ fin[d]? = some v) :
  ∃ lo hi, w.heap[bS]? = some (.cells fin.toArray tyS (lo, hi)) ∧ Unm fin.length lo hi := by
 obtain ⟨arr, lo, hi, h1, h2, h3⟩ := hJ
 refine ⟨lo, hi, ?_, h3⟩
 rw [h1]
 have : arr = fin.toArray := by
  apply Array.ext'
  apply List.ext_getElem?
  intro d
  by_cases hd : d < fin.length
  ·obtain ⟨i, q, j, v, a1, a0, a2, a3, a4⟩ := hc d hd
   have := hD i a1 q a0 j v a3
   rw [← a2] at this
   simp only [World.cell?, h1] at this
   simp at this
   simpa [a4] using this
  ·rw [List.getElem?_eq_none (by simp; omega), List.getElem?_eq_none (by simp; omega)]
 rw [this]
def ManyK (P : Program) (lo : Nat) (SF S : St) (under : List Frame) (E : Env) (O W : Nat → Prop) (w : World) : KP := fun O' W' g' w' => ∃ E', SRel P E' SF w' ∧ Later P lo O W E S.N w O' W' E' SF.N w' ∧ g' = SF.gor E' under
theorem many_comes (hoff : Hk.on = false) (b0 : Base P A B L x) (h : ManyOk P A fuel k kS tyS n L x fin wm S SF) {lo : Nat} {E : Env} {w : World} {O W : Nat → Prop} (hlo : lo ≤ SF.N.wm) (hs : SRel P E S w) (own : Own O W lo E S.N w) {under : List Frame} (hu : Caller .deferred under) :
  Comes P (ManyK P lo SF S under E O W w) O W (S.gor E under) w := by
 intro Sh gs sl t q h0 hB
 obtain ⟨cells, r, l, c', SP, SG, kC, kch, sts, a, mw, ⟨hsz, hkS, hLIM, hgS, hlen, href, hplain, hn, hwm1, hwm2, hwm3⟩, hal, hadd, hgo, hoff', hapart, hown, hcover, ⟨S0, hr0, hdis⟩, hwait⟩ := h.ok
 have hwo : ∀ b, W b → O b := fun b hb => hB.tr.sub 0 rfl (.obj b) hb
 -- the row
 have hat00 : At P 0 (fun _ _ _ _ _ => True) S under O O (S.gor E under) w E := ⟨rfl, hs, ⟨own.img, fun j hj hl _ => own.img j hj hl, own.lt, Nat.zero_le _⟩, trivial⟩
 have hDS : E.D kS := by
  have := (hat00.args (as := [.tmp r]) (vs := [.slice (some ⟨kS, 0, none⟩) l c']) (by simp [evL, href])).2 (.slice (some ⟨kS, 0, none⟩) l c') (by simp)
  exact this
 have hlS : S.N.live kS := ⟨_, hgS, rfl⟩
 have hR := hs.rel
 have hbase : S.N.base ≤ kS := CH.live_lt hlS
 obtain ⟨RK, XK⟩ := hR.kill hbase (hR.dom kS hDS)
 have hlv0 : ∀ j, E.D j → (S.lend kS).N.live j → S.N.live j ∧ j ≠ kS := by
  rintro j hj ⟨bl, hb1, hb2⟩
  have hb1' : (S.N.set kS .dead).get j = some bl := by rw [← CH.get_guarded]; exact hb1
  rw [CH.get_dom hR.ok hbase (hR.dom kS hDS)] at hb1'
  split at hb1'
  ·cases hb1'; cases hb2
  ·rename_i hne
   exact ⟨⟨bl, hb1', hb2⟩, hne⟩
 have hget0 : ∀ j, j ≠ kS → (S.lend kS).N.get j = S.N.get j := fun j hj => by
  show ((S.N.set kS .dead).guarded).get j = _
  rw [CH.get_guarded, CH.get_dom hR.ok hbase (hR.dom kS hDS), if_neg hj]
 obtain ⟨bS, hbS⟩ : ∃ bS, E.f kS = bS := ⟨_, rfl⟩
 have hbSO : O bS := by rw [← hbS]; exact own.img kS hDS hlS
 have hne : ∀ j, E.D j → S.N.live j → j ≠ kS → E.f j ≠ bS := fun j hj hl hnk e => hnk (hR.inj j kS hj hDS hl hlS (e.trans hbS.symm))
 obtain ⟨hclo, pre, sp, flo, fhi, hrow, hpre, hunm, hel, hlim⟩ := hR.row hDS hgS
 simp only [Bool.false_eq_true, if_false] at hel
 obtain ⟨rfl, hx0, hs0⟩ := hel
 rw [hs0] at hpre
 obtain rfl := List.length_eq_zero_iff.1 hpre
 have hbSlt : bS < w.heap.size := own.lt bS hbSO
 have hbufof : ∀ w', w'.heap[bS]? = w.heap[bS]? → bufAt bS tyS fin.length w' := fun w' e => ⟨_, flo, fhi, by rw [e, ← hbS]; exact hrow, by simp [hlen], by simpa [hlen] using hunm⟩
 -- the group's block is laid
 have hat0 : ∀ w1, Rely O w w1 → At P k (tieS kS bS (fun d => O d ∧ d ≠ bS) E (S.lend kS).N w1) (S.lend kS) under (fun d => O d ∧ d ≠ bS) (fun d => W d ∧ d ≠ bS) (S.gor E under) w1 E := by
  intro w1 hr
  have R1 := hR.rely own hr
  have o1 := own.rely hr
  refine ⟨rfl, ⟨(R1.kill hbase (hR.dom kS hDS)).1.guarded, hs.top, hs.cs, hs.stk⟩, ⟨fun j hj hl => ?_, fun j hj hl hk => ?_, fun d hd => o1.lt d hd.1, ?_⟩, ⟨hDS, hbS, hs0, fun hh => hh.2 rfl, o1.lt bS hbSO⟩, ExtC.refl _ _ _ _, fun _ h => h, fun _ h => .inl h⟩
  ·obtain ⟨h1, h2⟩ := hlv0 j hj hl
   exact ⟨own.img j hj h1, hne j hj h1 h2⟩
  ·have := hR.dom j hj
   omega
  ·show k ≤ S.N.sz
   omega
 obtain ⟨N2, gs2, w2, sl2, t2, q2, g3, w3, hrel2, hB2, h02, ⟨E3, hat3, hw3, hD3, hf3, hs3⟩, hr2⟩ := beside_own (P := P) (Sh := Sh) (O := O) (W := W) (g := S.gor E under)
  (Ψ := fun w' g' w'' => ∃ E', At P k (tieS kS bS (fun d => O d ∧ d ≠ bS) E (S.lend kS).N w') (SP 0) under (fun d => O d ∧ d ≠ bS) (fun d => W d ∧ d ≠ bS) g' w'' E' ∧ w'' = w'.alloc (wgBlock L.tWg 0 0) ∧ E'.D k ∧ E'.f k = w'.heap.size ∧ E'.s k = 0)
  (hat0 w (Rely.refl _ _)).running _ w (fun w' hr => by
   obtain ⟨E', g', c1, c2, c3, c4, c5, c6, c7, c8⟩ := xal_step b0.wg (tieS_ok P kS bS (fun d => O d ∧ d ≠ bS) E (S.lend kS).N w') (hat0 w' hr) hal true
   have e : (S.lend kS).N.sz = k := hsz
   rw [e] at c3 c4 c5
   exact ⟨g', _, c1, E', c2, rfl, c3, c4, c5⟩) gs sl t q (Nat.le_refl _) h0 hB
 have hw3s : w3.heap.size = w2.heap.size + 1 := by
  rw [hw3]
  show (w2.heap.push _).size = _
  rw [Array.size_push]
 have hB3 := hB2.lay (g := S.gor E under) (g' := g3) (w2 := w3) h02 hw3s
 have h03 : ((gs2.map (woken P (S.gor E under) g3 w3)).setIfInBounds 0 g3)[0]? = some g3 := by
  have := (Array.getElem?_eq_some_iff.1 h02).1
  simp [this]
 have hO2 : ∀ b, O b → b < w2.heap.size := fun b hb => (hB2.tr.lt 0 rfl (.obj b) hb).1
 have hatG : At P k (tieP k w2.heap.size kS bS (fun d => O d ∧ d ≠ bS) E (S.lend kS).N w2) (SP (n - n)) under (fun d => O d ∧ d ≠ bS) (fun d => W d ∧ d ≠ bS) g3 w3 E3 := by
  rw [Nat.sub_self]
  exact ⟨hat3.g, hat3.rel, hat3.own, ⟨⟨hD3, hf3, hs3, fun hh => by have := hO2 _ hh.1; omega, by omega⟩, hat3.tie.1⟩, hat3.tie.2⟩
 have c : Cx P A B x k w2.heap.size (tieP k w2.heap.size kS bS (fun d => O d ∧ d ≠ bS) E (S.lend kS).N w2) under := ⟨b0.hP, b0.hm, b0.le, b0.ok, b0.x, tieP_ok P _ _ _ _ _ _ _ _, fun _ _ _ _ _ h => h.1.1, hoff, hu⟩
 have hbeg : Begun (fun d => O d ∧ d ≠ bS) E (S.lend kS).N w2 := ⟨fun j hj => hR.dom j hj, fun d hd => hO2 d hd.1⟩
 let X : Nat → Addr → Prop := fun i a => i < n ∧ ∃ p ∈ sts i, ownCells bS p.1 p.2.length a
 let Don : Nat → Nat → World → Prop := fun i kk w => i < n → ∀ p, (sts i).reverse[kk]? = some p → holdsAt bS p.1 p.2 w
 have htold : ∀ i, i < n → Told Don i bS (sts i) := by
  intro i hi l off vs r e w w2 hcell hh
  have hrev : (sts i).reverse = r.reverse ++ (off, vs) :: l.reverse := by rw [e]; simp
  refine ⟨fun _ p hp => ?_, fun kk hkk hd _ p hp j z hz => ?_⟩
  ·rw [hrev, List.getElem?_append_right (by simp)] at hp
   simp at hp
   subst hp
   exact hh
  ·have hpl : p ∈ l := by
    rw [hrev, List.getElem?_append_right (by simp; omega)] at hp
    obtain ⟨q, hq⟩ : ∃ q, kk - r.reverse.length = q + 1 := ⟨kk - r.length - 1, by simp; omega⟩
    rw [hq, List.getElem?_cons_succ] at hp
    simpa using List.mem_of_getElem? hp
   have hfar : Far p (off, vs) := by
    have := hown i hi
    rw [e] at this
    exact (List.pairwise_append.1 this).2.2 p hpl _ (by simp)
   have hlt := (List.getElem?_eq_some_iff.1 hz).1
   rw [hcell _ (fun ho => by
    obtain ⟨_, _, h3, h4⟩ := ho
    rcases hfar with h | h <;> simp at h h3 h4 <;> omega)]
   exact hd hi p hp j z hz
 have htold0 : ∀ i kk w, (sts i).length ≤ kk → Don i kk w := fun i kk w hk _ p hp => by
  rw [List.getElem?_eq_none (by simpa using hk)] at hp
  cases hp
 have hsp : ∀ r, r ≤ n → ∀ O' W' g' w' E', At P k (tieP k w2.heap.size kS bS (fun d => O d ∧ d ≠ bS) E (S.lend kS).N w2) (SP (n - r)) under O' W' g' w' E' → nSp P L.tWg w2.heap.size (bufAt bS tyS fin.length) n (AnchK P k (tieP k w2.heap.size kS bS (fun d => O d ∧ d ≠ bS) E (S.lend kS).N w2) under mw a) X Don (fun d => d = bS) r O' W' g' w' := by
  intro r
  induction r with
  | zero =>
   intro _ O' W' g' w' E' hat
   rw [Nat.sub_zero] at hat
   exact c.waitR hr0 hdis hat
  | succ r ih =>
   intro hr O' W' g' w' E' hat
   have hi : n - (r + 1) < n := by omega
   have e : n - (r + 1) + 1 = n - r := by omega
   refine c.add (X := X) (Don := Don) (S2 := fun d => d = bS) (by omega) (hadd _ hi) (fun O1 W1 g1 w1 E1 hj1 hat1 => ?_) hat
   have hN : (S.lend kS).N.sz = k := hsz
   refine c.goX (X := X) (Don := Don) (S2 := fun d => d = bS) b0.wg hbeg (by rw [hN]; exact hgo _ hi) (hoff' _ hi).1 (fun p hp a ha => ⟨hi, p, hp, ha⟩) (htold _ hi) (htold0 _) (hoff' _ hi).2 rfl (fun O2 W2 g2 w2 E2 hat2 => ih (by omega) O2 W2 g2 w2 E2 (by rw [← e]; exact hat2)) hat1
 have hF : Fix P L.tWg w2.heap.size (bufAt bS tyS fin.length) X Don (fun d => d = bS) n (KeK P k (tieP k w2.heap.size kS bS (fun d => O d ∧ d ≠ bS) E (S.lend kS).N w2) under (fun T => (k ≤ T.N.wm ∧ T.N.base = 0) ∧ Reach P (T.mend kS (.row fin tyS false) wm) SF))
   (AnchK P k (tieP k w2.heap.size kS bS (fun d => O d ∧ d ≠ bS) E (S.lend kS).N w2) under mw a) (fun l => Sh l ∨ ShN w2.heap.size l) ((gs2.map (woken P (S.gor E under) g3 w3)).setIfInBounds 0 g3).size := by
  refine ⟨(Array.getElem?_eq_some_iff.1 h03).1, fun l hl => .inr hl, fun u v hh hb => ?_, fun i a ⟨_, p, _, ha⟩ => ha.1, fun i j a h1 h2 => ?_, fun e => ?_, fun i kk u v hh hd hi p hp j z hz => ?_, ?_, ?_, hn⟩
  ·obtain ⟨arr, l1, l2, h1, h2⟩ := hb
   exact ⟨arr, l1, l2, by rw [hh bS rfl]; exact h1, h2⟩
  ·by_cases e : i = j
   ·exact e
   ·exfalso
    obtain ⟨i1, p1, m1, _, _, i2, i3⟩ := h1
    obtain ⟨j1, p2, m2, _, _, j2, j3⟩ := h2
    rcases hapart i j i1 j1 e p1 m1 p2 m2 with h | h <;> omega
  ·have := hO2 bS hbSO
   omega
  ·have hlt := (List.getElem?_eq_some_iff.1 hz).1
   have hpm : p ∈ sts i := by simpa using List.mem_of_getElem? hp
   rw [hh _ ⟨hi, p, hpm, rfl, rfl, by simp, by simp; omega⟩]
   exact hd hi p hp j z hz
  ·rintro O' W' g' w' ⟨i, E', _, h'⟩
   exact h'.running
  ·intro O' W' g' w' h' _
   exact c.anch hwait h'
 have hWS : W bS := by rw [← hbS]; exact own.wri kS hDS hlS (by omega)
 have hkeep3 : ∀ b, O b → w3.heap[b]? = w2.heap[b]? := fun b hb => by
  have := hO2 b hb
  rw [hw3]
  show (w2.heap.push (wgBlock L.tWg 0 0))[b]? = _
  rw [Array.getElem?_push, if_neg (by omega)]
 have hwgat : WgAt L.tWg w2.heap.size w3 0 0 := by
  rw [hw3]
  show (w2.heap.push (wgBlock L.tWg 0 0))[w2.heap.size]? = _
  simp
 obtain ⟨N3, m3, t3, hr3, hdone⟩ := group hF hB3 h03 (O' := fun d => O d ∧ d ≠ bS) (W' := fun d => W d ∧ d ≠ bS) (fun b hb => hb) (fun b hb => ⟨hb.1, hwo b hb.1, hb.2⟩) (fun i a _ ha => by obtain ⟨_, p, _, ha⟩ := ha; rw [ha.1]; exact hWS) (fun b hb => by
   subst hb
   have := hO2 b hbSO
   omega) hwgat (hbufof w3 (by rw [hkeep3 bS hbSO, hrel2.keep bS hbSO])) (hsp n (Nat.le_refl _) _ _ _ _ _ hatG) sl2
 obtain ⟨gs4, w4, sl4, g4, O3, W3, q4, rfl, _, h04, ⟨T, E4, ⟨⟨hTwm, hTbase⟩, hfin⟩, hat4⟩, hjj, hDon, hBS⟩ := hdone
 obtain ⟨flo', fhi', hrow4, hunm4⟩ := fin_row (sts := sts) hjj.2 (fun i hi p hp => by
  obtain ⟨kk, hkk⟩ := List.mem_iff_getElem?.1 (List.mem_reverse.2 hp)
  exact hDon i hi kk hi p hkk) hcover
 obtain ⟨⟨hwG, hwS⟩, hL, hL2, hL3⟩ := hat4.tie
 -- what goroutine 0 has again
 have hnSh : ∀ b, (O b ∨ w2.heap.size ≤ b) → b ≠ w2.heap.size → ¬ (Sh (.obj b) ∨ ShN w2.heap.size (.obj b)) ∧ ∀ c : Addr, c.block = b → ¬ (Sh (.cell c) ∨ ShN w2.heap.size (.cell c)) := by
  intro b h1 h2
  refine ⟨?_, ?_⟩
  ·rintro (h | ⟨a, h, _⟩)
   ·rcases h1 with h1 | h1
    ·exact (hB2.tr.lt 0 rfl (.obj b) h1).2 h
    ·have : b < w2.heap.size := hB2.tr.shl _ h
     omega
   ·cases h
  ·rintro c rfl (h | ⟨a, h, ha⟩)
   ·rcases h1 with h1 | h1
    ·exact (hB2.tr.lt 0 rfl (.cell c) (.inl h1)).2 h
    ·have : c.block < w2.heap.size := hB2.tr.shl _ h
     omega
   ·cases h
    exact h2 ha
 have hsize4 : w2.heap.size ≤ w4.heap.size := hL.hsize
 let O5 : Nat → Prop := fun d => (O d ∨ w2.heap.size ≤ d) ∧ d < w4.heap.size ∧ ¬ (Sh (.obj d) ∨ ShN w2.heap.size (.obj d)) ∧ ∀ c : Addr, c.block = d → ¬ (Sh (.cell c) ∨ ShN w2.heap.size (.cell c))
 let W5 : Nat → Prop := fun d => (W d ∨ w2.heap.size ≤ d) ∧ O5 d
 have hB5 := hBS O5 W5 (fun b h => h.2) (fun b h => h.2)
 have hOO : ∀ b, O b → O5 b := fun b hb => ⟨.inl hb, Nat.lt_of_lt_of_le (hO2 b hb) hsize4, hnSh b (.inl hb) (by have := hO2 b hb; omega)⟩
 have hWW : ∀ b, W b → W5 b := fun b hb => ⟨.inl hb, hOO b (hwo b hb)⟩
 have R4 := hat4.rel.rel
 have hbase4 : T.N.base ≤ kS := by rw [hTbase]; exact Nat.zero_le _
 have hdom4 : kS < T.N.sz := R4.dom kS hwS.1
 have hget4 : ∀ j, (T.mend kS (.row fin tyS false) wm).N.get j = if j = kS then some (.row fin tyS false) else T.N.get j := fun j => by
  show (T.N.mend kS (.row fin tyS false) wm).get j = _
  rw [CH.get_mend, CH.get_dom R4.ok hbase4 hdom4]
 have hlive4 : ∀ j, (T.mend kS (.row fin tyS false) wm).N.live j → j = kS ∨ T.N.live j := by
  rintro j ⟨bl, hb1, hb2⟩
  rw [hget4] at hb1
  split at hb1
  ·rename_i e; exact .inl e
  ·exact .inr ⟨bl, hb1, hb2⟩
 have hne4 : ∀ j, E4.D j → T.N.live j → E4.f j ≠ bS := fun j hj hl e => hwS.2.2.2.1 (e ▸ hat4.own.img j hj hl)
 have hx4 : E4.x kS = 0 := by rw [(hL.mono kS hDS).2.2.1]; exact hx0
 have hfm : fin.map E4.m = fin := by
  have : ∀ u ∈ fin, E4.m u = u := fun u hu => m_plain E4 (plainL_all.1 hplain u hu)
  exact (List.map_congr_left this).trans (List.map_id _)
 have rel4 : Rel P E4 (T.mend kS (.row fin tyS false) wm).N w4 := by
  refine ⟨⟨R4.ok.le, (CH.ok_set R4.ok hbase4 hdom4 _).full⟩, R4.gl, R4.dom, fun i j hi hj li lj e => ?_, fun j bl hj hb => ?_⟩
  ·rcases hlive4 i li with h1 | h1
   ·rcases hlive4 j lj with h2 | h2
    ·exact h1.trans h2.symm
    ·rw [h1, hwS.2.1] at e
     exact absurd e.symm (hne4 j hj h2)
   ·rcases hlive4 j lj with h2 | h2
    ·rw [h2, hwS.2.1] at e
     exact absurd e (hne4 i hi h1)
    ·exact R4.inj i j hi hj h1 h2 e
  ·rw [hget4] at hb
   split at hb
   ·rename_i e
    subst e
    cases hb
    refine ⟨fun v hv => Clo_plain _ _ (plainL_all.1 hplain v hv), [], [], flo', fhi', ?_, hwS.2.2.1.symm, by simpa using hunm4, ?_, fun hh => ?_⟩
    ·rw [hwS.2.1, hrow4, hfm]
     simp
    ·simpa using ⟨hx4, hwS.2.2.1⟩
    ·omega
   ·exact R4.blk j bl hj hb
 have hold : ∀ j, E.D j → T.N.live j → S.N.live j := fun j hj hl => (hlv0 j hj (hL.dead j hj hl)).1
 have hnewO : ∀ j, E4.D j → ¬ E.D j → w2.heap.size ≤ E4.f j := by
  intro j hj hnj
  rcases hL.fresh j hj with h2 | h2 | ⟨i, h3, ⟨bl, h4, h4'⟩, h5, h6⟩
  ·exact absurd h2 hnj
  ·exact h2
  ·have hi := hbeg.dom i h3
   have hi' : i < k := by rw [← hsz]; exact hi
   exact absurd ⟨bl, by rw [hL.keep i hi (by omega)]; exact h4, h4'⟩ h5
 have himg : ∀ j, E4.D j → T.N.live j → O5 (E4.f j) := by
  intro j hj hl
  have ho3 := hat4.own.img j hj hl
  have h1 : O (E4.f j) ∨ w2.heap.size ≤ E4.f j := (hL3 _ ho3).imp And.left id
  exact ⟨h1, hat4.own.lt _ ho3, hnSh _ h1 fun e => hwG.2.2.2.1 (e ▸ ho3)⟩
 have own4 : Own O5 W5 lo E4 (T.mend kS (.row fin tyS false) wm).N w4 := by
  refine ⟨fun j hj hl => ?_, fun j hj hl hlo' => ?_, fun d hd => hd.2.1, ?_⟩
  ·rcases hlive4 j hl with rfl | hl
   ·rw [hwS.2.1]; exact hOO bS hbSO
   ·exact himg j hj hl
  ·rcases hlive4 j hl with rfl | hl
   ·rw [hwS.2.1]; exact hWW bS hWS
   ·refine ⟨?_, himg j hj hl⟩
    by_cases hd : E.D j
    ·left
     rw [(hL.mono j hd).2.1]
     exact own.wri j hd (hold j hd hl) hlo'
    ·exact .inr (hnewO j hj hd)
  ·show lo ≤ T.N.sz
   omega
 have ext4 : ExtC O E S.N w2 E4 (T.mend kS (.row fin tyS false) wm).N w4 := by
  refine ⟨hL.mono, hL.new, hL.all, hL.size, hL.hsize, fun j hj => ?_, fun j hj hl => ?_, hwm1, fun j hj hw => ?_, fun b hb hlt hn' => ?_, hL.os, hL.tape, hL.output, hL.op⟩
  ·by_cases hd : E.D j
   ·exact .inl hd
   ·exact .inr (.inl (hnewO j hj hd))
  ·rcases hlive4 j hl with rfl | hl
   ·exact hlS
   ·exact hold j hj hl
  ·have hjS : j ≠ kS := by
    have : j < wm := hw
    omega
   rw [hget4, if_neg hjS, ← hget0 j hjS]
   refine hL.keep j hj ?_
   have : j < wm := hw
   omega
  ·refine hL.frame b ⟨hb, fun e => hn' kS hDS hlS (hbS.trans e.symm)⟩ hlt fun j hj hl => hn' j hj (hlv0 j hj hl).1
 have L4 : Later P lo O W E S.N w O5 W5 E4 (T.mend kS (.row fin tyS false) wm).N w4 := ⟨rel4, own4, (ExtC.of_rely hrel2 E S.N).trans ext4 (fun _ h => h), hOO, hWW, fun b hb => hb.1.imp id fun hs => Nat.le_trans hrel2.size hs⟩
 -- and on
 have hs4 : SRel P E4 (T.mend kS (.row fin tyS false) wm) w4 := ⟨rel4, hat4.rel.top, hat4.rel.cs, hat4.rel.stk⟩
 haveI : Ctx true (fun _ : World => True) := ⟨fun hh => by rw [hoff] at hh; cases hh⟩
 have hg4 : g4 = (T.mend kS (.row fin tyS false) wm).gor E4 under := hat4.g
 have W6 : Will P true (fun _ => True) (ManyK P lo SF S under E O W w) O5 W5 g4 w4 := by
  rw [hg4]
  refine hfin true (fun _ => True) lo E4 w4 O5 W5 hlo hs4 own4 under hu _ fun O' W' E' w' hs' L' => ?_
  refine .stop fun w1 hr1 _ => ⟨E', hs'.rely L'.own hr1, (L4.trans L').trans (Later.of_rely hs'.rel L'.own hr1), rfl⟩
 obtain ⟨N6, Sh6, gs6, g6, w6, sl6, t6, q6, O6, W6', hr6, h06, hK6, hB6⟩ := beside_walk W6 w4 (Rely.refl _ _) _ _ gs4 sl4 t3 q4 (Nat.le_refl _) h04 hB5
 refine ⟨N2 + (N3 + N6), Sh6, gs6, g6, w6, sl6, t6, q6, O6, W6', ?_, h06, hB6, hK6 w6 (Rely.refl _ _)⟩
 rw [runNT_add, hr2]
 simp only
 rw [runNT_add, hr3]
 exact hr6
theorem reach_of_many (hon : Hk.on = true) {P : Program} {S SF : St}
  (h : ∀ (lo : Nat) (E : Env) (w : World) (O W : Nat → Prop), lo ≤ SF.N.wm → SRel P E S w → Own O W lo E S.N w → ∀ under, Caller .deferred under → Comes P (ManyK P lo SF S under E O W w) O W (S.gor E under) w) : Reach P S SF := by
 intro main J hctx lo E w O W hlo hs own under hu K hK
 obtain ⟨rfl, hj⟩ := hctx.out hon
 refine .jump (fun O' W' g' w' => ∃ E', SRel P E' SF w' ∧ Later P lo O W E S.N w O' W' E' SF.N w' ∧ g' = SF.gor E' under) rfl hj (fun w1 hr Sh gs sl t q h0 hB => ?_) ?_
 ·obtain ⟨N, Sh', gs', g', w', sl', t', q', O', W', a1, a2, a3, E', b1, b2, b3⟩ := h lo E w1 O W hlo (hs.rely own hr) (own.rely hr) under hu Sh gs sl t q h0 hB
  exact ⟨N, Sh', gs', g', w', sl', t', q', O', W', a1, a2, a3, E', b1, (Later.of_rely hs.rel own hr).trans b2, b3⟩
 ·rintro O' W' g' w' ⟨E', h1, h2, rfl⟩
  exact hK O' W' E' w' h1 h2
end
end
end Go.Eng
namespace Go.Eng
noncomputable section
open Go.Conc
set_option linter.unusedSimpArgs false
set_option linter.unusedVariables false
set_option linter.unusedSectionVars false
def CH.pushL : CH → List CB → CH
 | N, [] => N
 | N, b :: l => (N.push b).pushL l
theorem CH.pushL_facts : ∀ (l : List CB) {N : CH}, N.Ok → (N.pushL l).Ok ∧ (N.pushL l).sz = N.sz + l.length ∧ (N.pushL l).wm = N.wm ∧ (∀ j, j < N.sz → (N.pushL l).get j = N.get j) ∧ ∀ i, i < l.length → (N.pushL l).get (N.sz + i) = l[i]?
 | [], N, hN => ⟨hN, by simp [CH.pushL], rfl, fun _ _ => rfl, fun i hi => absurd hi (Nat.not_lt_zero _)⟩
 | b :: l, N, hN => by
  obtain ⟨h1, h2, h3, h4, h5⟩ := CH.pushL_facts l (CH.ok_push hN b)
  have hs : (N.push b).sz = N.sz + 1 := by rw [CH.push_def]
  have hw : (N.push b).wm = N.wm := by rw [CH.push_def]
  refine ⟨h1, ?_, h3.trans hw, fun j hj => ?_, fun i hi => ?_⟩
  ·simp only [CH.pushL, List.length_cons]
   rw [h2, hs]
   omega
  ·simp only [CH.pushL]
   rw [h4 j (by omega), CH.get_push_other hN hj]
  ·simp only [CH.pushL]
   cases i with
   | zero =>
    rw [Nat.add_zero, h4 N.sz (by omega), CH.get_push_same hN]
    rfl
   | succ i =>
    have := h5 i (by simpa using hi)
    rw [hs] at this
    rw [show N.sz + (i + 1) = N.sz + 1 + i by omega, this]
    rfl
variable [Hk]
theorem ready_mem {P : Program} {lo : Nat} {tie : KT} {S : St} {under : List Frame} {O W : Nat → Prop} {g : Goroutine} {w : World} {E : Env} {f : FuncId} {kd : CallKind} {v : Value} (h : At P lo tie S under O W g w E) (hf : finVal P f kd S = some v) :
  Clo E.D v ∧ ∃ fr, g = G fr under ∧ fr.fn = f ∧ ∀ (O' : Nat → Prop) (w' : World), Ready P O' w' fr kd (E.m v) := by
 unfold finVal at hf
 split at hf
 rotate_left
 ·cases hf
 rename_i fn kd' n t kk N
 split at hf
 rotate_left
 ·cases hf
 rename_i e1
 split at hf
 rotate_left
 ·cases hf
 rename_i e2
 subst e1; subst e2
 split at hf
 rotate_left
 ·cases hf
 rename_i fd hfd
 split at hf
 rotate_left
 ·cases hf
 rename_i vs hvs
 cases hf
 have hR := h.rel.rel
 have hno : ∀ k, E.D k → ¬ (N.only [] 0).live k := fun k hk hl => by
  have := (CH.only_live (hR.dom k hk) hl).1
  simp at this
 have hget : ∀ k b, E.D k → (N.only [] 0).get k = some b → False := fun k b hk hb => by
  have hk' : k < N.sz := hR.dom k hk
  rw [CH.get_only N [] 0 hk'] at hb
  simp at hb
 have R1 : ∀ w1, Rel P E (N.only [] 0) w1 := fun w1 => ⟨⟨Nat.zero_le _, Tr.full_ofFn _ _⟩, hR.gl, hR.dom, fun i j hi _ li _ _ => absurd li (hno i hi), fun k b hk hb => (hget k b hk hb).elim⟩
 have hres : cresults P fd (⟨n, t, []⟩ : FA).abs.tmps (N.only [] 0) = some (kresult vs) := by
  unfold cresults
  rw [fresult_eq h.rel.top.a _ hvs, Option.map_some]
  cases vs with
  | nil => rfl
  | cons v r => cases r <;> rfl
 refine ⟨(results_ok (R1 w) h.rel.top.clo.tmps hres).2, SF.frame E ⟨fn, none, kd', true, ⟨n, t, []⟩, kk⟩, h.g, rfl, fun O' w' => ⟨rfl, rfl, rfl, fd, hfd, fun w1 _ => ?_⟩⟩
 obtain ⟨hrun, _⟩ := results_ok (R1 w1) h.rel.top.clo.tmps hres
 refine ⟨hrun, ?_⟩
 have ow : Own (fun _ => False) (fun _ => False) 0 E (N.only [] 0) w1 := ⟨fun k hk hl => hno k hk hl, fun k hk hl _ => hno k hk hl, fun _ h => h.elim, Nat.zero_le _⟩
 exact ((results_evs (R1 w1) ow h.rel.top.clo.tmps hres).mono fun _ h => h.elim).widen fun _ h => h.elim
def CH.small (sz : Nat) (keys : List Nat) (bs : List (Option CB)) : CH := ⟨sz, sz, 0, fill sz keys bs (Tr.skel sz sz)⟩
def Fin (P : Program) (f : FuncId) (kd : CallKind) (v : Value) (S : St) : Prop :=
 ∀ {lo : Nat} {E : Env} {w : World} {O W : Nat → Prop} {under : List Frame}, SRel P E S w → Own O W lo E S.N w → Clo E.D v ∧ ∃ fr, S.gor E under = G fr under ∧ fr.fn = f ∧ Ready P O w fr kd (E.m v)
theorem fin_val {P : Program} {f : FuncId} {kd : CallKind} {v : Value} {S : St} (hf : finVal P f kd S = some v) : Fin P f kd v S := fun {lo E w O W under} hs ow => by
 have hat : At P lo (fun _ _ _ _ _ => True) S under O W (S.gor E under) w E := ⟨rfl, hs, ow, trivial⟩
 obtain ⟨hv, fr, f1, f2, f3⟩ := ready_mem hat hf
 exact ⟨hv, fr, f1, f2, f3 O w⟩
theorem mem_callF {P : Program} {f : FuncId} {args : List Value} {v : Value} {sz : Nat} {keys : List Nat} {bs : List (Option CB)} {news : List CB} {N : CH} (hsz : N.sz = sz) (hbs : keys.map N.get = bs)
  (h : ∀ kd, kd = .normal ∨ kd = .deferred → ∃ s0 S, kenter P f args kd = some s0 ∧ Reach P ⟨s0, [], CH.small sz keys bs⟩ S ∧ Fin P f kd v S ∧ sz ≤ S.N.wm ∧ S.N.sz = sz + news.length ∧ ∀ i b, news[i]? = some b → b.isDead = true ∨ S.N.get (sz + i) = some b) : CallOk P f args N v (N.pushL news) := by
 intro main J hctx lo E w O W hlo R own hcl kd cs hcs K hK
 obtain ⟨s0, S, hk, hr, hf, hwm, hSsz, hnews⟩ := h kd hcs.1
 subst hsz
 subst hbs
 obtain ⟨p1, p2, p3, p4, p5⟩ := CH.pushL_facts news R.ok
 obtain ⟨h1, h2⟩ := fill_ok (sz := N.sz) (g := N.get) keys (Tr.skel N.sz N.sz) (Tr.full_skel _ _ (Nat.le_refl _)) (fun k b h => by rw [Tr.get_skel] at h; cases h)
 have hget : ∀ k b, (CH.small N.sz keys (keys.map N.get)).get k = some b → N.get k = some b := fun k b h => h2 k b (by
  rw [CH.get_def] at h
  simpa [CH.small] using h)
 have hlive : ∀ k, (CH.small N.sz keys (keys.map N.get)).live k → N.live k := fun k ⟨b, hb, hd⟩ => ⟨b, hget k b hb, hd⟩
 have R0 : Rel P E (CH.small N.sz keys (keys.map N.get)) w := ⟨⟨Nat.zero_le _, h1⟩, R.gl, R.dom, fun i j hi hj li lj e => R.inj i j hi hj (hlive i li) (hlive j lj) e, fun k b hk hb => R.blk k b hk (hget k b hb)⟩
 obtain ⟨e1, e2, e3, e4, _⟩ := kenter_ok (E := E) hk hcl
 have hs0 : SRel P E ⟨s0, [], CH.small N.sz keys (keys.map N.get)⟩ w := ⟨R0, e2, by simp, by
  refine ⟨?_, trivial⟩
  rw [e3]
  exact hcs.1.imp (fun h => h) fun h => ⟨h, .inl rfl⟩⟩
 have own0 : Own O W N.sz E (CH.small N.sz keys (keys.map N.get)) w := ⟨fun j hj hl => own.img j hj (hlive j hl), fun j hj hl hlo => by have := R.dom j hj; omega, own.lt, Nat.le_refl _⟩
 have hg0 : St.gor E ⟨s0, [], CH.small N.sz keys (keys.map N.get)⟩ cs = G (Frame.enter P f (args.map E.m).toArray kd) cs := by
  unfold St.gor
  rw [e1]
  rfl
 rw [← hg0]
 refine hr main J N.sz E w O W hwm hs0 own0 cs hcs.any K fun O' W' E' w' hs L => ?_
 obtain ⟨hv, fr, f1, f2, f3⟩ := hf hs L.own
 -- the memory that is left
 have hsame : ∀ j, j < N.sz → S.N.get j = (CH.small N.sz keys (keys.map N.get)).get j := fun j hj => L.ext.keep j hj (by omega)
 have hnewI : ∀ j, E'.D j → ¬ E.D j → N.sz ≤ j ∧ w.heap.size ≤ E'.f j := by
  intro j hj hnj
  refine ⟨((L.ext.new j hj).resolve_left hnj).1, ?_⟩
  rcases L.ext.fresh j hj with h | h | ⟨i, h3, ⟨bl, h4, h4'⟩, h5, _⟩
  ·exact absurd h hnj
  ·exact h
  ·have hi : i < N.sz := R.dom i h3
   exact absurd ⟨bl, by rw [hsame i hi]; exact h4, h4'⟩ h5
 have hold : ∀ j, E'.D j → j < N.sz → E.D j := fun j hj hlt => (L.ext.new j hj).resolve_right fun h => by
  have : N.sz ≤ j := h.1
  omega
 have hlv : ∀ j, E'.D j → (N.pushL news).live j → (j < N.sz ∧ N.live j) ∨ (N.sz ≤ j ∧ S.N.live j ∧ (N.pushL news).get j = S.N.get j) := by
  rintro j hDj ⟨b, hb, hd⟩
  rcases Nat.lt_or_ge j N.sz with hj | hj
  ·exact .inl ⟨hj, b, by rw [← p4 j hj]; exact hb, hd⟩
  ·right
   refine ⟨hj, ?_⟩
   by_cases hlt : j - N.sz < news.length
   ·have := p5 (j - N.sz) hlt
    rw [show N.sz + (j - N.sz) = j by omega] at this
    rw [this] at hb ⊢
    rcases hnews _ _ hb with h | h
    ·rw [hd] at h; cases h
    ·rw [show N.sz + (j - N.sz) = j by omega] at h
     exact ⟨⟨b, h, hd⟩, by rw [hb, h]⟩
   ·exfalso
    have : j < S.N.sz := L.rel.dom j hDj
    omega
 have hfar : ∀ i j, E.D i → N.live i → ¬ E.D j → E'.D j → E.f i ≠ E'.f j := fun i j hi hl hnj hj e => by
  have h1 := own.lt _ (own.img i hi hl)
  have h2 := (hnewI j hj hnj).2
  omega
 have hm := L.ext.mono
 have hkeep : ∀ j, E.D j → N.live j → w'.heap[E.f j]? = w.heap[E.f j]? ∨ (CH.small N.sz keys (keys.map N.get)).live j := by
  intro j hj hl
  by_cases hs : (CH.small N.sz keys (keys.map N.get)).live j
  ·exact .inr hs
  ·refine .inl (L.ext.frame _ (own.img j hj hl) (own.lt _ (own.img j hj hl)) fun i hi hli e => hs ?_)
   rw [← R.inj i j hi hj (hlive i hli) hl e]
   exact hli
 have rel' : Rel P E' (N.pushL news) w' := by
  refine ⟨p1, L.rel.gl, fun j hj => ?_, fun i j hi hj li lj e => ?_, fun j b hj hb => ?_⟩
  ·have : j < S.N.sz := L.rel.dom j hj
   rw [p2]
   omega
  ·rcases hlv i hi li with ⟨a1, a2⟩ | ⟨a1, a2, _⟩
   ·have hDi := hold i hi a1
    rcases hlv j hj lj with ⟨b1, b2⟩ | ⟨b1, b2, _⟩
    ·have hDj := hold j hj b1
     rw [(hm i hDi).2.1, (hm j hDj).2.1] at e
     exact R.inj i j hDi hDj a2 b2 e
    ·by_cases hDj : E.D j
     ·have := R.dom j hDj
      omega
     ·rw [(hm i hDi).2.1] at e
      exact absurd e (hfar i j hDi a2 hDj hj)
   ·rcases hlv j hj lj with ⟨b1, b2⟩ | ⟨b1, b2, _⟩
    ·have hDj := hold j hj b1
     by_cases hDi : E.D i
     ·have := R.dom i hDi
      omega
     ·rw [(hm j hDj).2.1] at e
      exact absurd e.symm (hfar j i hDj b2 hDi hi)
    ·exact L.rel.inj i j hi hj a2 b2 e
  ·cases hd : b.isDead with
   | true => cases b <;> simp [CB.isDead] at hd; trivial
   | false =>
    rcases hlv j hj ⟨b, hb, hd⟩ with ⟨a1, a2⟩ | ⟨a1, a2, a3⟩
    ·have hDj := hold j hj a1
     rw [p4 j a1] at hb
     rcases hkeep j hDj a2 with hk' | hk'
     ·rw [(hm j hDj).2.1, hk']
      exact (R.blk j b hDj hb).mono (fun i hi => ⟨(hm i hi).1, (hm i hi).2.1⟩) (fun v hv => L.ext.m hv) (hm j hDj).2.2.1 (hm j hDj).2.2.2
     ·refine L.rel.blk j b hj ?_
      rw [hsame j a1]
      obtain ⟨b', hb', _⟩ := hk'
      rw [hb']
      have := hget j b' hb'
      rw [hb] at this
      exact this.symm
    ·exact L.rel.blk j b hj (by rw [← a3]; exact hb)
 have own' : Own O' W' lo E' (N.pushL news) w' := by
  refine ⟨fun j hj hl => ?_, fun j hj hl hlo' => ?_, L.own.lt, ?_⟩
  ·rcases hlv j hj hl with ⟨a1, a2⟩ | ⟨a1, a2, _⟩
   ·have hDj := hold j hj a1
    rw [(hm j hDj).2.1]
    exact L.oo _ (own.img j hDj a2)
   ·exact L.own.img j hj a2
  ·rcases hlv j hj hl with ⟨a1, a2⟩ | ⟨a1, a2, _⟩
   ·have hDj := hold j hj a1
    rw [(hm j hDj).2.1]
    exact L.ww _ (own.wri j hDj a2 hlo')
   ·exact L.own.wri j hj a2 a1
  ·have := own.low
   rw [p2]
   omega
 have ext' : ExtC O E N w E' (N.pushL news) w' := by
  refine ⟨hm, fun j hj => ?_, fun j h1 h2 => L.ext.all j h1 ?_, by rw [p2]; omega, L.ext.hsize, fun j hj => ?_, fun j hj hl => ?_, by rw [p3]; exact Nat.le_refl _, fun j hj _ => p4 j hj, fun b hb hlt hn => L.ext.frame b hb hlt fun j hj hl => hn j hj (hlive j hl), L.ext.os, L.ext.tape, L.ext.output, L.ext.op⟩
  ·rcases L.ext.new j hj with h | h
   ·exact .inl h
   ·refine .inr ⟨h.1, ?_⟩
    have : j < S.N.sz := h.2
    rw [p2]
    omega
  ·rw [p2] at h2
   show j < S.N.sz
   omega
  ·by_cases hd : E.D j
   ·exact .inl hd
   ·exact .inr (.inl (hnewI j hj hd).2)
  ·rcases hlv j (hm j hj).1 hl with ⟨_, a2⟩ | ⟨a1, _, _⟩
   ·exact a2
   ·have := R.dom j hj
    omega
 have L' : Later P lo O W E N w O' W' E' (N.pushL news) w' := ⟨rel', own', ext', L.oo, L.ww, L.ou⟩
 rw [f1]
 exact hK O' W' E' w' fr L' hv f2 f3
theorem mem_call {P : Program} {f : FuncId} {args : List Value} {v : Value} {sz : Nat} {keys : List Nat} {bs : List (Option CB)} {news : List CB} {N : CH} (hsz : N.sz = sz) (hbs : keys.map N.get = bs)
  (h : ∀ kd, kd = .normal ∨ kd = .deferred → ∃ s0 S, kenter P f args kd = some s0 ∧ Reach P ⟨s0, [], CH.small sz keys bs⟩ S ∧ finVal P f kd S = some v ∧ sz ≤ S.N.wm ∧ S.N.sz = sz + news.length ∧ ∀ i b, news[i]? = some b → b.isDead = true ∨ S.N.get (sz + i) = some b) : CallOk P f args N v (N.pushL news) := mem_callF hsz hbs fun kd hkd => by
 obtain ⟨s0, S, a1, a2, a3, a4⟩ := h kd hkd
 exact ⟨s0, S, a1, a2, fin_val a3, a4⟩
end
end Go.Eng
