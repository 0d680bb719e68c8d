/-
  The engine, part Qo: a stretch in which goroutine 0 starts workers that write cells of their own in one of its rows, and waits for them.
-/
import Derived.Test.YtoaplpdbmpendaaGreatDoorEngQn
set_option linter.unusedSectionVars false
set_option linter.unusedSimpArgs false
set_option linter.unusedVariables false
namespace Go.Eng
open Go.Conc
open Go.Conc.Lib (WgLib WgLink)
open Go.ConcN (WgLive ShN Has WSit AtR0 RW DWs sumTo)
open Go.ConcR (KK wgBlock WgAt stA smA rd mk Payload)
set_option linter.unusedSimpArgs false
set_option linter.unusedVariables false
set_option linter.unusedSectionVars false
variable [Hk]

/-- The row has its content back. -/
def CH.mend (N : CH) (k : Nat) (b : CB) (wm : Nat) : CH := ⟨N.sz, wm, N.base, (N.set k b).t⟩
def St.mend (k : Nat) (b : CB) (wm : Nat) (S : St) : St := ⟨S.top, S.cs, S.N.mend k b wm⟩
def St.lend (k : Nat) (S : St) : St := ⟨S.top, S.cs, (S.N.set k .dead).guarded⟩
theorem CH.get_mend (N : CH) (k : Nat) (b : CB) (wm j : Nat) : (N.mend k b wm).get j = (N.set k b).get j := by rw [CH.get_def, CH.get_def]; rfl
theorem CH.get_guarded (N : CH) (j : Nat) : N.guarded.get j = N.get j := by rw [CH.get_def, CH.get_def]; rfl
theorem Rel.guarded {P : Program} {E : Env} {N : CH} {w : World} (R : Rel P E N w) : Rel P E N.guarded w := by
  have hl : ∀ k, N.guarded.live k → N.live k := fun k ⟨b, hb, hd⟩ => ⟨b, by rw [← CH.get_guarded]; exact hb, hd⟩
  exact ⟨⟨R.ok.le, R.ok.full⟩, R.gl, R.dom, fun i j hi hj li lj e => R.inj i j hi hj (hl i li) (hl j lj) e, fun k b hk hb => R.blk k b hk (by rw [← CH.get_guarded]; exact hb)⟩
/-- What is asked of the states. -/
structure ManyOk (P : Program) (A : Rec) (fuel k kS : Nat) (tyS : TypeId) (n : Nat) (L : WgLink) (x : XF) (fin : List Value) (wm : Nat) (S SF : St) : Prop where
  ok : ∃ (cells : List Value) (r l c : Nat) (SP SG : Nat → St) (kC m off : Nat → Nat) (kch : Nat → List Nat) (vs : Nat → List Value) (a : Nat → St) (mw : Nat),
    (S.N.sz = k ∧ kS < k ∧ LIM ≤ kS ∧ S.N.get kS = some (.row cells tyS false) ∧ cells.length = fin.length ∧ S.ev (.tmp r) = some (.slice (some ⟨kS, 0, none⟩) l c) ∧ plainL fin = true ∧ n < 2147483647 ∧ wm ≤ S.N.wm ∧ wm ≤ kS ∧ SF.N.wm ≤ wm) ∧
    xal k L.tWg (S.lend kS) = some (SP 0) ∧ (∀ i, i < n → AddOk P A fuel k k x i (SP i) (SG i)) ∧
    (∀ i, i < n → GoXOk P A fuel (m i) k k kS (off i) (vs i) k (kC i) L.done (SG i) (SP (i + 1)) (kch i)) ∧
    (∀ i, i < n → off i + (vs i).length ≤ fin.length) ∧ (∀ i j, i < n → j < n → i ≠ j → off i + (vs i).length ≤ off j ∨ off j + (vs j).length ≤ off i) ∧
    (∀ d, d < fin.length → ∃ i j v, i < n ∧ d = off i + j ∧ (vs i)[j]? = some v ∧ fin[d]? = some v) ∧
    (∃ S0, Reach P (SP n) S0 ∧ xm0 k x.disable S0 = some (a 0)) ∧ WaitOk P A fuel k k x n mw a (fun T => (k ≤ T.N.wm ∧ T.N.base = 0) ∧ Reach P (T.mend kS (.row fin tyS false) wm) SF)
def tieS (kS bS : Nat) (Ob : Nat → Prop) (E0 : Env) (N0 : CH) (w0 : World) : KT := fun O W E N w => tieWg kS bS O W E N w ∧ tieL Ob E0 N0 w0 O W E N w
theorem tieS_ok (P : Program) (kS bS : Nat) (Ob : Nat → Prop) (E0 : Env) (N0 : CH) (w0 : World) : Tie P (tieS kS bS Ob E0 N0 w0) := (tieWg_ok P kS bS).and (tieL_ok P Ob E0 N0 w0)
section
variable [Payload]
variable {P : Program} {A B : Rec} {fuel k kS wm n : Nat} {tyS : TypeId} {L : WgLink} {x : XF} {fin : List Value} {S SF : St}
theorem fin_row {bS : Nat} {w : World} {off : Nat → Nat} {vs : Nat → List Value} (hJ : bufAt bS tyS fin.length w) (hD : ∀ i, i < n → holdsAt bS (off i) (vs i) w) (hc : ∀ d, d < fin.length → ∃ i j v, i < n ∧ d = off i + j ∧ (vs i)[j]? = some v ∧ fin[d]? = some v) :
    ∃ lo hi, w.heap[bS]? = some (.cells fin.toArray tyS (lo, hi)) ∧ Unm fin.length lo hi := by
  obtain ⟨arr, lo, hi, h1, h2, h3⟩ := hJ
  refine ⟨lo, hi, ?_, h3⟩
  rw [h1]
  have : arr = fin.toArray := by
    apply Array.ext'
    apply List.ext_getElem?
    intro d
    by_cases hd : d < fin.length
    · obtain ⟨i, j, v, a1, a2, a3, a4⟩ := hc d hd
      have := hD i a1 j v a3
      rw [← a2] at this
      simp only [World.cell?, h1] at this
      simp at this
      simpa [a4] using this
    · rw [List.getElem?_eq_none (by simp; omega), List.getElem?_eq_none (by simp; omega)]
  rw [this]
/-- What is behind. -/
def ManyK (P : Program) (lo : Nat) (SF S : St) (under : List Frame) (E : Env) (O W : Nat → Prop) (w : World) : KP := fun O' W' g' w' => ∃ E', SRel P E' SF w' ∧ Later P lo O W E S.N w O' W' E' SF.N w' ∧ g' = SF.gor E' under
theorem many_comes (hoff : Hk.on = false) (b0 : Base P A B L x) (h : ManyOk P A fuel k kS tyS n L x fin wm S SF) {lo : Nat} {E : Env} {w : World} {O W : Nat → Prop} (hlo : lo ≤ SF.N.wm) (hs : SRel P E S w) (own : Own O W lo E S.N w) {under : List Frame} (hu : Caller .deferred under) :
    Comes P (ManyK P lo SF S under E O W w) O W (S.gor E under) w := by
  intro Sh gs sl t q h0 hB
  obtain ⟨cells, r, l, c', SP, SG, kC, m, off, kch, vs, a, mw, ⟨hsz, hkS, hLIM, hgS, hlen, href, hplain, hn, hwm1, hwm2, hwm3⟩, hal, hadd, hgo, hoff', hapart, hcover, ⟨S0, hr0, hdis⟩, hwait⟩ := h.ok
  have hwo : ∀ b, W b → O b := fun b hb => hB.tr.sub 0 rfl (.obj b) hb
  -- the row
  have hat00 : At P 0 (fun _ _ _ _ _ => True) S under O O (S.gor E under) w E := ⟨rfl, hs, ⟨own.img, fun j hj hl _ => own.img j hj hl, own.lt, Nat.zero_le _⟩, trivial⟩
  have hDS : E.D kS := by
    have := (hat00.args (as := [.tmp r]) (vs := [.slice (some ⟨kS, 0, none⟩) l c']) (by simp [evL, href])).2 (.slice (some ⟨kS, 0, none⟩) l c') (by simp)
    exact this
  have hlS : S.N.live kS := ⟨_, hgS, rfl⟩
  have hR := hs.rel
  have hbase : S.N.base ≤ kS := CH.live_lt hlS
  obtain ⟨RK, XK⟩ := hR.kill hbase (hR.dom kS hDS)
  have hlv0 : ∀ j, E.D j → (S.lend kS).N.live j → S.N.live j ∧ j ≠ kS := by
    rintro j hj ⟨bl, hb1, hb2⟩
    have hb1' : (S.N.set kS .dead).get j = some bl := by rw [← CH.get_guarded]; exact hb1
    rw [CH.get_dom hR.ok hbase (hR.dom kS hDS)] at hb1'
    split at hb1'
    · cases hb1'; cases hb2
    · rename_i hne
      exact ⟨⟨bl, hb1', hb2⟩, hne⟩
  have hget0 : ∀ j, j ≠ kS → (S.lend kS).N.get j = S.N.get j := fun j hj => by
    show ((S.N.set kS .dead).guarded).get j = _
    rw [CH.get_guarded, CH.get_dom hR.ok hbase (hR.dom kS hDS), if_neg hj]
  obtain ⟨bS, hbS⟩ : ∃ bS, E.f kS = bS := ⟨_, rfl⟩
  have hbSO : O bS := by rw [← hbS]; exact own.img kS hDS hlS
  have hne : ∀ j, E.D j → S.N.live j → j ≠ kS → E.f j ≠ bS := fun j hj hl hnk e => hnk (hR.inj j kS hj hDS hl hlS (e.trans hbS.symm))
  obtain ⟨hclo, pre, sp, flo, fhi, hrow, hpre, hunm, hel, hlim⟩ := hR.row hDS hgS
  simp only [Bool.false_eq_true, if_false] at hel
  obtain ⟨rfl, hx0, hs0⟩ := hel
  rw [hs0] at hpre
  obtain rfl := List.length_eq_zero_iff.1 hpre
  have hbSlt : bS < w.heap.size := own.lt bS hbSO
  have hbufof : ∀ w', w'.heap[bS]? = w.heap[bS]? → bufAt bS tyS fin.length w' := fun w' e => ⟨_, flo, fhi, by rw [e, ← hbS]; exact hrow, by simp [hlen], by simpa [hlen] using hunm⟩
  -- the group's block is laid
  have hat0 : ∀ w1, Rely O w w1 → At P k (tieS kS bS (fun d => O d ∧ d ≠ bS) E (S.lend kS).N w1) (S.lend kS) under (fun d => O d ∧ d ≠ bS) (fun d => W d ∧ d ≠ bS) (S.gor E under) w1 E := by
    intro w1 hr
    have R1 := hR.rely own hr
    have o1 := own.rely hr
    refine ⟨rfl, ⟨(R1.kill hbase (hR.dom kS hDS)).1.guarded, hs.top, hs.cs, hs.stk⟩, ⟨fun j hj hl => ?_, fun j hj hl hk => ?_, fun d hd => o1.lt d hd.1, ?_⟩, ⟨hDS, hbS, hs0, fun hh => hh.2 rfl, o1.lt bS hbSO⟩, ExtC.refl _ _ _ _, fun _ h => h, fun _ h => .inl h⟩
    · obtain ⟨h1, h2⟩ := hlv0 j hj hl
      exact ⟨own.img j hj h1, hne j hj h1 h2⟩
    · have := hR.dom j hj
      omega
    · show k ≤ S.N.sz
      omega
  obtain ⟨N2, gs2, w2, sl2, t2, q2, g3, w3, hrel2, hB2, h02, ⟨E3, hat3, hw3, hD3, hf3, hs3⟩, hr2⟩ := beside_own (P := P) (Sh := Sh) (O := O) (W := W) (g := S.gor E under)
    (Ψ := fun w' g' w'' => ∃ E', At P k (tieS kS bS (fun d => O d ∧ d ≠ bS) E (S.lend kS).N w') (SP 0) under (fun d => O d ∧ d ≠ bS) (fun d => W d ∧ d ≠ bS) g' w'' E' ∧ w'' = w'.alloc (wgBlock L.tWg 0 0) ∧ E'.D k ∧ E'.f k = w'.heap.size ∧ E'.s k = 0)
    (hat0 w (Rely.refl _ _)).running _ w (fun w' hr => by
      obtain ⟨E', g', c1, c2, c3, c4, c5, c6, c7, c8⟩ := xal_step b0.wg (tieS_ok P kS bS (fun d => O d ∧ d ≠ bS) E (S.lend kS).N w') (hat0 w' hr) hal true
      have e : (S.lend kS).N.sz = k := hsz
      rw [e] at c3 c4 c5
      exact ⟨g', _, c1, E', c2, rfl, c3, c4, c5⟩) gs sl t q (Nat.le_refl _) h0 hB
  have hw3s : w3.heap.size = w2.heap.size + 1 := by
    rw [hw3]
    show (w2.heap.push _).size = _
    rw [Array.size_push]
  have hB3 := hB2.lay (g := S.gor E under) (g' := g3) (w2 := w3) h02 hw3s
  have h03 : ((gs2.map (woken P (S.gor E under) g3 w3)).setIfInBounds 0 g3)[0]? = some g3 := by
    have := (Array.getElem?_eq_some_iff.1 h02).1
    simp [this]
  have hO2 : ∀ b, O b → b < w2.heap.size := fun b hb => (hB2.tr.lt 0 rfl (.obj b) hb).1
  have hatG : At P k (tieP k w2.heap.size kS bS (fun d => O d ∧ d ≠ bS) E (S.lend kS).N w2) (SP (n - n)) under (fun d => O d ∧ d ≠ bS) (fun d => W d ∧ d ≠ bS) g3 w3 E3 := by
    rw [Nat.sub_self]
    exact ⟨hat3.g, hat3.rel, hat3.own, ⟨⟨hD3, hf3, hs3, fun hh => by have := hO2 _ hh.1; omega, by omega⟩, hat3.tie.1⟩, hat3.tie.2⟩
  have c : Cx P A B x k w2.heap.size (tieP k w2.heap.size kS bS (fun d => O d ∧ d ≠ bS) E (S.lend kS).N w2) under := ⟨b0.hP, b0.hm, b0.le, b0.ok, b0.x, tieP_ok P _ _ _ _ _ _ _ _, fun _ _ _ _ _ h => h.1.1, hoff, hu⟩
  have hbeg : Begun (fun d => O d ∧ d ≠ bS) E (S.lend kS).N w2 := ⟨fun j hj => hR.dom j hj, fun d hd => hO2 d hd.1⟩
  let X : Nat → Addr → Prop := fun i a => i < n ∧ ownCells bS (off i) (vs i).length a
  let Don : Nat → World → Prop := fun i w => i < n → holdsAt bS (off i) (vs i) w
  have hsp : ∀ r, r ≤ n → ∀ O' W' g' w' E', At P k (tieP k w2.heap.size kS bS (fun d => O d ∧ d ≠ bS) E (S.lend kS).N w2) (SP (n - r)) under O' W' g' w' E' → nSp P L.tWg w2.heap.size (bufAt bS tyS fin.length) n (AnchK P k (tieP k w2.heap.size kS bS (fun d => O d ∧ d ≠ bS) E (S.lend kS).N w2) under mw a) X Don (fun d => d = bS) r O' W' g' w' := by
    intro r
    induction r with
    | zero =>
      intro _ O' W' g' w' E' hat
      rw [Nat.sub_zero] at hat
      exact c.waitR hr0 hdis hat
    | succ r ih =>
      intro hr O' W' g' w' E' hat
      have hi : n - (r + 1) < n := by omega
      have e : n - (r + 1) + 1 = n - r := by omega
      refine c.add (X := X) (Don := Don) (S2 := fun d => d = bS) (by omega) (hadd _ hi) (fun O1 W1 g1 w1 E1 hj1 hat1 => ?_) hat
      have hN : (S.lend kS).N.sz = k := hsz
      refine c.goX (X := X) (Don := Don) (S2 := fun d => d = bS) b0.wg hbeg (by rw [hN]; exact hgo _ hi) (fun a ha => ⟨hi, ha⟩) (fun w hw _ => hw) (hoff' _ hi) rfl (fun O2 W2 g2 w2 E2 hat2 => ih (by omega) O2 W2 g2 w2 E2 (by rw [← e]; exact hat2)) hat1
  have hF : Fix P L.tWg w2.heap.size (bufAt bS tyS fin.length) X Don (fun d => d = bS) n (KeK P k (tieP k w2.heap.size kS bS (fun d => O d ∧ d ≠ bS) E (S.lend kS).N w2) under (fun T => (k ≤ T.N.wm ∧ T.N.base = 0) ∧ Reach P (T.mend kS (.row fin tyS false) wm) SF))
      (AnchK P k (tieP k w2.heap.size kS bS (fun d => O d ∧ d ≠ bS) E (S.lend kS).N w2) under mw a) (fun l => Sh l ∨ ShN w2.heap.size l) ((gs2.map (woken P (S.gor E under) g3 w3)).setIfInBounds 0 g3).size := by
    refine ⟨(Array.getElem?_eq_some_iff.1 h03).1, fun l hl => .inr hl, fun u v hh hb => ?_, fun i a ha => ha.2.1, fun i j a h1 h2 => ?_, fun e => ?_, fun i u v hh hd hi j z hz => ?_, ?_, ?_, hn⟩
    · obtain ⟨arr, l1, l2, h1, h2⟩ := hb
      exact ⟨arr, l1, l2, by rw [hh bS rfl]; exact h1, h2⟩
    · by_cases e : i = j
      · exact e
      · exfalso
        obtain ⟨i1, _, _, i2, i3⟩ := h1
        obtain ⟨j1, _, _, j2, j3⟩ := h2
        rcases hapart i j i1 j1 e with h | h <;> omega
    · have := hO2 bS hbSO
      omega
    · have hlt := (List.getElem?_eq_some_iff.1 hz).1
      rw [hh _ ⟨hi, rfl, rfl, by simp, by simp; omega⟩]
      exact hd hi j z hz
    · rintro O' W' g' w' ⟨i, E', _, h'⟩
      exact h'.running
    · intro O' W' g' w' h' _
      exact c.anch hwait h'
  have hWS : W bS := by rw [← hbS]; exact own.wri kS hDS hlS (by omega)
  have hkeep3 : ∀ b, O b → w3.heap[b]? = w2.heap[b]? := fun b hb => by
    have := hO2 b hb
    rw [hw3]
    show (w2.heap.push (wgBlock L.tWg 0 0))[b]? = _
    rw [Array.getElem?_push, if_neg (by omega)]
  have hwgat : WgAt L.tWg w2.heap.size w3 0 0 := by
    rw [hw3]
    show (w2.heap.push (wgBlock L.tWg 0 0))[w2.heap.size]? = _
    simp
  obtain ⟨N3, m3, t3, hr3, hdone⟩ := group hF hB3 h03 (O' := fun d => O d ∧ d ≠ bS) (W' := fun d => W d ∧ d ≠ bS) (fun b hb => hb) (fun b hb => ⟨hb.1, hwo b hb.1, hb.2⟩) (fun i a _ ha => by rw [ha.2.1]; exact hWS) (fun b hb => by
      subst hb
      have := hO2 b hbSO
      omega) hwgat (hbufof w3 (by rw [hkeep3 bS hbSO, hrel2.keep bS hbSO])) (hsp n (Nat.le_refl _) _ _ _ _ _ hatG) sl2
  obtain ⟨gs4, w4, sl4, g4, O3, W3, q4, rfl, _, h04, ⟨T, E4, ⟨⟨hTwm, hTbase⟩, hfin⟩, hat4⟩, hjj, hDon, hBS⟩ := hdone
  obtain ⟨flo', fhi', hrow4, hunm4⟩ := fin_row (off := off) (vs := vs) hjj.2 (fun i hi => hDon i hi hi) hcover
  obtain ⟨⟨hwG, hwS⟩, hL, hL2, hL3⟩ := hat4.tie
  -- what goroutine 0 has again
  have hnSh : ∀ b, (O b ∨ w2.heap.size ≤ b) → b ≠ w2.heap.size → ¬ (Sh (.obj b) ∨ ShN w2.heap.size (.obj b)) ∧ ∀ c : Addr, c.block = b → ¬ (Sh (.cell c) ∨ ShN w2.heap.size (.cell c)) := by
    intro b h1 h2
    refine ⟨?_, ?_⟩
    · rintro (h | ⟨a, h, _⟩)
      · rcases h1 with h1 | h1
        · exact (hB2.tr.lt 0 rfl (.obj b) h1).2 h
        · have : b < w2.heap.size := hB2.tr.shl _ h
          omega
      · cases h
    · rintro c rfl (h | ⟨a, h, ha⟩)
      · rcases h1 with h1 | h1
        · exact (hB2.tr.lt 0 rfl (.cell c) (.inl h1)).2 h
        · have : c.block < w2.heap.size := hB2.tr.shl _ h
          omega
      · cases h
        exact h2 ha
  have hsize4 : w2.heap.size ≤ w4.heap.size := hL.hsize
  let O5 : Nat → Prop := fun d => (O d ∨ w2.heap.size ≤ d) ∧ d < w4.heap.size ∧ ¬ (Sh (.obj d) ∨ ShN w2.heap.size (.obj d)) ∧ ∀ c : Addr, c.block = d → ¬ (Sh (.cell c) ∨ ShN w2.heap.size (.cell c))
  let W5 : Nat → Prop := fun d => (W d ∨ w2.heap.size ≤ d) ∧ O5 d
  have hB5 := hBS O5 W5 (fun b h => h.2) (fun b h => h.2)
  have hOO : ∀ b, O b → O5 b := fun b hb => ⟨.inl hb, Nat.lt_of_lt_of_le (hO2 b hb) hsize4, hnSh b (.inl hb) (by have := hO2 b hb; omega)⟩
  have hWW : ∀ b, W b → W5 b := fun b hb => ⟨.inl hb, hOO b (hwo b hb)⟩
  have R4 := hat4.rel.rel
  have hbase4 : T.N.base ≤ kS := by rw [hTbase]; exact Nat.zero_le _
  have hdom4 : kS < T.N.sz := R4.dom kS hwS.1
  have hget4 : ∀ j, (T.mend kS (.row fin tyS false) wm).N.get j = if j = kS then some (.row fin tyS false) else T.N.get j := fun j => by
    show (T.N.mend kS (.row fin tyS false) wm).get j = _
    rw [CH.get_mend, CH.get_dom R4.ok hbase4 hdom4]
  have hlive4 : ∀ j, (T.mend kS (.row fin tyS false) wm).N.live j → j = kS ∨ T.N.live j := by
    rintro j ⟨bl, hb1, hb2⟩
    rw [hget4] at hb1
    split at hb1
    · rename_i e; exact .inl e
    · exact .inr ⟨bl, hb1, hb2⟩
  have hne4 : ∀ j, E4.D j → T.N.live j → E4.f j ≠ bS := fun j hj hl e => hwS.2.2.2.1 (e ▸ hat4.own.img j hj hl)
  have hx4 : E4.x kS = 0 := by rw [(hL.mono kS hDS).2.2.1]; exact hx0
  have hfm : fin.map E4.m = fin := by
    have : ∀ u ∈ fin, E4.m u = u := fun u hu => m_plain E4 (plainL_all.1 hplain u hu)
    exact (List.map_congr_left this).trans (List.map_id _)
  have rel4 : Rel P E4 (T.mend kS (.row fin tyS false) wm).N w4 := by
    refine ⟨⟨R4.ok.le, (CH.ok_set R4.ok hbase4 hdom4 _).full⟩, R4.gl, R4.dom, fun i j hi hj li lj e => ?_, fun j bl hj hb => ?_⟩
    · rcases hlive4 i li with h1 | h1
      · rcases hlive4 j lj with h2 | h2
        · exact h1.trans h2.symm
        · rw [h1, hwS.2.1] at e
          exact absurd e.symm (hne4 j hj h2)
      · rcases hlive4 j lj with h2 | h2
        · rw [h2, hwS.2.1] at e
          exact absurd e (hne4 i hi h1)
        · exact R4.inj i j hi hj h1 h2 e
    · rw [hget4] at hb
      split at hb
      · rename_i e
        subst e
        cases hb
        refine ⟨fun v hv => Clo_plain _ _ (plainL_all.1 hplain v hv), [], [], flo', fhi', ?_, hwS.2.2.1.symm, by simpa using hunm4, ?_, fun hh => ?_⟩
        · rw [hwS.2.1, hrow4, hfm]
          simp
        · simpa using ⟨hx4, hwS.2.2.1⟩
        · omega
      · exact R4.blk j bl hj hb
  have hold : ∀ j, E.D j → T.N.live j → S.N.live j := fun j hj hl => (hlv0 j hj (hL.dead j hj hl)).1
  have hnewO : ∀ j, E4.D j → ¬ E.D j → w2.heap.size ≤ E4.f j := by
    intro j hj hnj
    rcases hL.fresh j hj with h2 | h2 | ⟨i, h3, ⟨bl, h4, h4'⟩, h5, h6⟩
    · exact absurd h2 hnj
    · exact h2
    · have hi := hbeg.dom i h3
      have hi' : i < k := by rw [← hsz]; exact hi
      exact absurd ⟨bl, by rw [hL.keep i hi (by omega)]; exact h4, h4'⟩ h5
  have himg : ∀ j, E4.D j → T.N.live j → O5 (E4.f j) := by
    intro j hj hl
    have ho3 := hat4.own.img j hj hl
    have h1 : O (E4.f j) ∨ w2.heap.size ≤ E4.f j := (hL3 _ ho3).imp And.left id
    exact ⟨h1, hat4.own.lt _ ho3, hnSh _ h1 fun e => hwG.2.2.2.1 (e ▸ ho3)⟩
  have own4 : Own O5 W5 lo E4 (T.mend kS (.row fin tyS false) wm).N w4 := by
    refine ⟨fun j hj hl => ?_, fun j hj hl hlo' => ?_, fun d hd => hd.2.1, ?_⟩
    · rcases hlive4 j hl with rfl | hl
      · rw [hwS.2.1]; exact hOO bS hbSO
      · exact himg j hj hl
    · rcases hlive4 j hl with rfl | hl
      · rw [hwS.2.1]; exact hWW bS hWS
      · refine ⟨?_, himg j hj hl⟩
        by_cases hd : E.D j
        · left
          rw [(hL.mono j hd).2.1]
          exact own.wri j hd (hold j hd hl) hlo'
        · exact .inr (hnewO j hj hd)
    · show lo ≤ T.N.sz
      omega
  have ext4 : ExtC O E S.N w2 E4 (T.mend kS (.row fin tyS false) wm).N w4 := by
    refine ⟨hL.mono, hL.new, hL.all, hL.size, hL.hsize, fun j hj => ?_, fun j hj hl => ?_, hwm1, fun j hj hw => ?_, fun b hb hlt hn' => ?_, hL.os, hL.tape, hL.output, hL.op⟩
    · by_cases hd : E.D j
      · exact .inl hd
      · exact .inr (.inl (hnewO j hj hd))
    · rcases hlive4 j hl with rfl | hl
      · exact hlS
      · exact hold j hj hl
    · have hjS : j ≠ kS := by
        have : j < wm := hw
        omega
      rw [hget4, if_neg hjS, ← hget0 j hjS]
      refine hL.keep j hj ?_
      have : j < wm := hw
      omega
    · refine hL.frame b ⟨hb, fun e => hn' kS hDS hlS (hbS.trans e.symm)⟩ hlt fun j hj hl => hn' j hj (hlv0 j hj hl).1
  have L4 : Later P lo O W E S.N w O5 W5 E4 (T.mend kS (.row fin tyS false) wm).N w4 := ⟨rel4, own4, (ExtC.of_rely hrel2 E S.N).trans ext4 (fun _ h => h), hOO, hWW, fun b hb => hb.1.imp id fun hs => Nat.le_trans hrel2.size hs⟩
  -- and on
  have hs4 : SRel P E4 (T.mend kS (.row fin tyS false) wm) w4 := ⟨rel4, hat4.rel.top, hat4.rel.cs, hat4.rel.stk⟩
  haveI : Ctx true (fun _ : World => True) := ⟨fun hh => by rw [hoff] at hh; cases hh⟩
  have hg4 : g4 = (T.mend kS (.row fin tyS false) wm).gor E4 under := hat4.g
  have W6 : Will P true (fun _ => True) (ManyK P lo SF S under E O W w) O5 W5 g4 w4 := by
    rw [hg4]
    refine hfin true (fun _ => True) lo E4 w4 O5 W5 hlo hs4 own4 under hu _ fun O' W' E' w' hs' L' => ?_
    refine .stop fun w1 hr1 _ => ⟨E', hs'.rely L'.own hr1, (L4.trans L').trans (Later.of_rely hs'.rel L'.own hr1), rfl⟩
  obtain ⟨N6, Sh6, gs6, g6, w6, sl6, t6, q6, O6, W6', hr6, h06, hK6, hB6⟩ := beside_walk W6 w4 (Rely.refl _ _) _ _ gs4 sl4 t3 q4 (Nat.le_refl _) h04 hB5
  refine ⟨N2 + (N3 + N6), Sh6, gs6, g6, w6, sl6, t6, q6, O6, W6', ?_, h06, hB6, hK6 w6 (Rely.refl _ _)⟩
  rw [runNT_add, hr2]
  simp only
  rw [runNT_add, hr3]
  exact hr6
/-- Where hooks are known: a step of the engine's. -/
theorem reach_of_many (hon : Hk.on = true) {P : Program} {S SF : St}
    (h : ∀ (lo : Nat) (E : Env) (w : World) (O W : Nat → Prop), lo ≤ SF.N.wm → SRel P E S w → Own O W lo E S.N w → ∀ under, Caller .deferred under → Comes P (ManyK P lo SF S under E O W w) O W (S.gor E under) w) : Reach P S SF := by
  intro main J hctx lo E w O W hlo hs own under hu K hK
  obtain ⟨rfl, hj⟩ := hctx.out hon
  refine .jump (fun O' W' g' w' => ∃ E', SRel P E' SF w' ∧ Later P lo O W E S.N w O' W' E' SF.N w' ∧ g' = SF.gor E' under) rfl hj (fun w1 hr Sh gs sl t q h0 hB => ?_) ?_
  · obtain ⟨N, Sh', gs', g', w', sl', t', q', O', W', a1, a2, a3, E', b1, b2, b3⟩ := h lo E w1 O W hlo (hs.rely own hr) (own.rely hr) under hu Sh gs sl t q h0 hB
    exact ⟨N, Sh', gs', g', w', sl', t', q', O', W', a1, a2, a3, E', b1, (Later.of_rely hs.rel own hr).trans b2, b3⟩
  · rintro O' W' g' w' ⟨E', h1, h2, rfl⟩
    exact hK O' W' E' w' h1 h2
end
end Go.Eng

