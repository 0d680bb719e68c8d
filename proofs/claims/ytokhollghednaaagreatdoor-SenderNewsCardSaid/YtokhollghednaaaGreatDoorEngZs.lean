/-
  The engine, part Qr: the checks on a stretch in which goroutine 0 starts many workers, as closed equations, one a round.
-/
import Derived.Test.YtokhollghednaaaGreatDoorEngQp
set_option linter.unusedSectionVars false
set_option linter.unusedSimpArgs false
set_option linter.unusedVariables false
namespace Go.Eng
noncomputable section
open Go.Conc
open Go.Conc.Lib (WgLib WgLink)
set_option linter.unusedSimpArgs false
set_option linter.unusedVariables false
set_option linter.unusedSectionVars false
def Snap.stw (keys : List Nat) (wm : Nat) (T : Snap) : St := ⟨T.top.sf, T.cs.map SnapF.sf, ⟨T.sz, wm, 0, fill T.sz keys T.blocks (Tr.skel T.sz T.sz)⟩⟩
theorem fill_stays {sz : Nat} {g : Nat → Option CB} {k : Nat} {b : CB} (hk : k < sz) : ∀ (ks : List Nat) (t : Tr CB), t.Full sz → (∀ j c, t.get j = some c → g j = some c) → t.get k = some b → (fill sz ks (ks.map g) t).get k = some b
 | [], t, hf, h, hb => hb
 | j :: ks, t, hf, h, hb => by
  rw [List.map_cons]
  cases hg : g j with
  | none => exact fill_stays hk ks t hf h hb
  | some c =>
   show (if j < sz then fill sz ks (ks.map g) (t.set j c) else fill sz ks (ks.map g) t).get k = some b
   by_cases hj : j < sz
   ·rw [if_pos hj]
    refine fill_stays hk ks _ (Tr.full_set hf j c hj) (fun i d hi => ?_) ?_
    ·rw [Tr.get_set hf j i (Nat.le_of_lt hj)] at hi
     by_cases e : i = j
     ·subst e
      rw [if_pos rfl] at hi
      cases hi
      exact hg
     ·rw [if_neg e] at hi
      exact h i d hi
    ·rw [Tr.get_set hf j k (Nat.le_of_lt hj)]
     by_cases e : k = j
     ·subst e
      rw [if_pos rfl]
      have := h k b hb
      rw [hg] at this
      exact this
     ·rw [if_neg e]
      exact hb
   ·rw [if_neg hj]
    exact fill_stays hk ks t hf h hb
theorem fill_mem {sz : Nat} {g : Nat → Option CB} {k : Nat} {b : CB} (hk : k < sz) (hg : g k = some b) : ∀ (ks : List Nat) (t : Tr CB), t.Full sz → (∀ j c, t.get j = some c → g j = some c) → k ∈ ks → (fill sz ks (ks.map g) t).get k = some b
 | j :: ks, t, hf, h, hm => by
  rw [List.map_cons]
  by_cases e : k = j
  ·subst e
   rw [hg]
   show (if k < sz then fill sz ks (ks.map g) (t.set k b) else fill sz ks (ks.map g) t).get k = some b
   rw [if_pos hk]
   refine fill_stays hk ks _ (Tr.full_set hf k b hk) (fun i d hi => ?_) ?_
   ·rw [Tr.get_set hf k i (Nat.le_of_lt hk)] at hi
    by_cases e : i = k
    ·subst e
     rw [if_pos rfl] at hi
     cases hi
     exact hg
    ·rw [if_neg e] at hi
     exact h i d hi
   ·rw [Tr.get_set hf k k (Nat.le_of_lt hk), if_pos rfl]
  ·have hm' : k ∈ ks := (List.mem_cons.1 hm).resolve_left e
   cases hgj : g j with
   | none => exact fill_mem hk hg ks t hf h hm'
   | some c =>
    show (if j < sz then fill sz ks (ks.map g) (t.set j c) else fill sz ks (ks.map g) t).get k = some b
    by_cases hj : j < sz
    ·rw [if_pos hj]
     refine fill_mem hk hg ks _ (Tr.full_set hf j c hj) (fun i d hi => ?_) hm'
     rw [Tr.get_set hf j i (Nat.le_of_lt hj)] at hi
     by_cases e : i = j
     ·subst e
      rw [if_pos rfl] at hi
      cases hi
      exact hgj
     ·rw [if_neg e] at hi
      exact h i d hi
    ·rw [if_neg hj]
     exact fill_mem hk hg ks t hf h hm'
variable [Hk]
theorem reach_snapw {P : Program} (S : St) (keys : List Nat) {wm : Nat} (hwm : wm ≤ S.N.wm) (hkeys : ∀ k, k < wm → k ∈ keys) : Reach P S ((S.snap keys).stw keys wm) := by
 intro main J hx lo E w O W hlo hs ow under hu K hK
 obtain ⟨h1, h2⟩ := fill_ok (sz := S.N.sz) (g := S.N.get) keys (Tr.skel S.N.sz S.N.sz) (Tr.full_skel _ _ (Nat.le_refl _)) (fun k b h => by rw [Tr.get_skel] at h; cases h)
 have hN : ((S.snap keys).stw keys wm).N = ⟨S.N.sz, wm, 0, fill S.N.sz keys (keys.map S.N.get) (Tr.skel S.N.sz S.N.sz)⟩ := rfl
 have hget : ∀ k b, ((S.snap keys).stw keys wm).N.get k = some b → S.N.get k = some b := fun k b h => h2 k b (by rw [hN] at h; exact h)
 have hlive : ∀ k, ((S.snap keys).stw keys wm).N.live k → S.N.live k := fun k ⟨b, hb, hd⟩ => ⟨b, hget k b hb, hd⟩
 have hkeep : ∀ k, k < S.N.sz → k < wm → ((S.snap keys).stw keys wm).N.get k = S.N.get k := by
  intro k hk hw
  cases hg : S.N.get k with
  | some b =>
   have := fill_mem (g := S.N.get) hk hg keys (Tr.skel S.N.sz S.N.sz) (Tr.full_skel _ _ (Nat.le_refl _)) (fun k b h => by rw [Tr.get_skel] at h; cases h) (hkeys k hw)
   rw [hN]
   exact this
  | none =>
   cases hg' : ((S.snap keys).stw keys wm).N.get k with
   | none => rfl
   | some b =>
    have := hget k b hg'
    rw [hg] at this
    cases this
 have hrel : Rel P E ((S.snap keys).stw keys wm).N w :=
  ⟨⟨Nat.zero_le _, h1⟩, hs.rel.gl, hs.rel.dom, fun i j hi hj li lj e => hs.rel.inj i j hi hj (hlive i li) (hlive j lj) e, fun k b hk hb => hs.rel.blk k b hk (hget k b hb)⟩
 have hext : ExtC O E S.N w E ((S.snap keys).stw keys wm).N w :=
  ⟨fun _ h => ⟨h, rfl, rfl, rfl⟩, fun _ h => .inl h, fun k h3 h4 => absurd h4 (Nat.not_lt.2 h3), Nat.le_refl _, Nat.le_refl _, fun _ h => .inl h, fun k _ h => hlive k h, hwm, fun k hk hw => hkeep k hk hw, fun _ _ _ _ => rfl, rfl, rfl, rfl, rfl⟩
 have hcs : ((S.snap keys).stw keys wm).cs = S.cs.map fun s => s.snap.sf := by
  show (S.cs.map SF.snap).map SnapF.sf = _
  rw [List.map_map]
  rfl
 have hown : Own O W lo E ((S.snap keys).stw keys wm).N w := ⟨fun k hk hl => ow.img k hk (hlive k hl), fun k hk hl h => ow.wri k hk (hlive k hl) h, ow.lt, ow.low⟩
 have hsn : SRel P E ((S.snap keys).stw keys wm) w := by
  refine ⟨hrel, SF.snap_ok hs.top, ?_, ?_⟩
  ·intro s h
   rw [hcs] at h
   obtain ⟨s', h', rfl⟩ := List.mem_map.1 h
   exact SF.snap_ok (hs.cs s' h')
  ·rw [hcs]
   exact stk_snap hs.stk
 have : St.gor E ((S.snap keys).stw keys wm) under = St.gor E S under := by
  unfold St.gor
  rw [hcs, List.map_map]
  have e1 : ((S.snap keys).stw keys wm).top.frame E = S.top.frame E := SF.snap_frame E S.top
  have e2 : (S.cs.map (SF.frame E ∘ fun s => s.snap.sf)) = S.cs.map (SF.frame E) := List.map_congr_left fun s _ => SF.snap_frame E s
  rw [e1, e2]
 rw [← this]
 exact hK O W E w hsn ⟨hrel, hown, hext, fun _ h => h, fun _ h => h, fun _ h => .inl h⟩
end
end Go.Eng
namespace Go.Eng
noncomputable section
open Go.Conc
open Go.Conc.Lib (WgLib WgLink)
set_option linter.unusedSimpArgs false
set_option linter.unusedVariables false
set_option linter.unusedSectionVars false
def keepsAll (k : Nat) (keys : List Nat) : Bool := (List.range k).all fun j => keys.elem j
theorem keepsAll_eq {k : Nat} {keys : List Nat} (h : keepsAll k keys = true) : ∀ j, j < k → j ∈ keys := fun j hj => List.elem_iff.1 (List.all_eq_true.1 h j (List.mem_range.2 hj))
section
variable (P : Program) (A : Rec) (fuel m k kS kC : Nat) (sts : List (Nat × List Value)) (done : FuncId) (x : XF) (kch keys : List Nat) (T : Snap)
def addOne (S0 : St) (v : Nat) : Option (List (List It)) := match xm0 k x.disable S0 with
 | some S1 => match addFlow P A fuel k k x v S1 with
  | some S2 => if and ((toStop P A fuel S2).fits keys T) (Nat.ble k (toStop P A fuel S2).N.wm) = true then some (toStop P A fuel S2).ks else none
  | none => none
 | none => none
def spOf (k kC : Nat) (SG : St) : St := match SG.xgo k with
 | some (_, _, _, nx) => (nx undef).drop kC
 | none => SG
def goOne (SG : St) : Option (List (List It)) := match SG.xgo k with
 | some (g, q, as, nx) => match kenter P g (as ++ q) .deferred with
  | some sf => match P.funcs[g]? with
   | some fd => if and (xways P A fuel m SG.N.sz k kS done g kC sts ⟨sf, [], SG.N.only kch SG.N.sz⟩) (and (!(fd.name == "runtime.NumGoroutine")) (and (fd.results.toList.isEmpty) (and (hasCell SG.N kC) (and (Nat.ble (kC + 1) SG.N.sz) (and (Nat.ble k kC) (and (Nat.ble k SG.N.wm) (and (kch.elem kC) (and (readable kC k kch)
     (and ((toStop P A fuel (spOf k kC SG)).fits keys T) (Nat.ble k (toStop P A fuel (spOf k kC SG)).N.wm)))))))))) = true then some (toStop P A fuel (spOf k kC SG)).ks else none
   | none => none
  | none => none
 | none => none
end
variable [Hk]
section
variable {P : Program} {A B : Rec} {fuel m k kS kC : Nat} {sts : List (Nat × List Value)} {L : WgLink} {x : XF} {kch keys : List Nat} {T : Snap}
theorem addOne_ok (hP : NoCount P) (hm : P.follows .mixedOrders = true) (hAB : A.Le B) (hB : RecOk P B) (hk : keepsAll k keys = true) {S0 : St} {v : Nat} (h : addOne P A fuel k x keys T S0 v = some T.ks) :
  ∃ S1 S2, xm0 k x.disable S0 = some S1 ∧ addFlow P A fuel k k x v S1 = some S2 ∧ Reach P S2 (T.stw keys k) := by
 unfold addOne at h
 split at h
 rotate_left
 ·cases h
 rename_i S1 h1
 split at h
 rotate_left
 ·cases h
 rename_i S2 h2
 split at h
 rotate_left
 ·cases h
 rename_i hb
 simp only [Bool.and_eq_true] at hb
 simp only [Option.some.injEq] at h
 have hsn := St.fits_eq hb.1 h
 refine ⟨S1, S2, h1, h2, (toStop_reach hP hm hAB hB fuel S2).trans ?_⟩
 have := reach_snapw (P := P) (toStop P A fuel S2) keys (Nat.le_of_ble_eq_true hb.2) (keepsAll_eq hk)
 rw [hsn] at this
 exact this
theorem adds_ok (hP : NoCount P) (hm : P.follows .mixedOrders = true) (hAB : A.Le B) (hB : RecOk P B) (hk : keepsAll k keys = true) {S S0 : St} (h0 : Reach P S S0) {i : Nat}
  (h : (List.range (i + 1)).map (addOne P A fuel k x keys T S0) = List.replicate (i + 1) (some T.ks)) : AddOk P A fuel k k x i S (T.stw keys k) := by
 have hall : ∀ v, v ≤ i → addOne P A fuel k x keys T S0 v = some T.ks := by
  intro v hv
  have := congrArg (fun l => l[v]?) h
  simp only [List.getElem?_map, List.getElem?_replicate] at this
  rw [List.getElem?_range (by omega), if_pos (by omega)] at this
  simpa using this
 obtain ⟨S1, _, h1, _, _⟩ := addOne_ok hP hm hAB hB hk (hall 0 (Nat.zero_le _))
 refine ⟨⟨S0, S1, h0, h1, fun v hv => ?_⟩, Nat.le_refl _⟩
 obtain ⟨S1', S2, a1, a2, a3⟩ := addOne_ok hP hm hAB hB hk (hall v hv)
 rw [h1] at a1
 cases a1
 exact ⟨S2, a2, a3⟩
theorem goOne_ok (hP : NoCount P) (hm : P.follows .mixedOrders = true) (hAB : A.Le B) (hB : RecOk P B) (hk : keepsAll k keys = true) {SG : St} (h : goOne P A fuel m k kS kC sts L.done kch keys T SG = some T.ks) :
  GoXOk P k k kS sts k kC L.done SG (spOf k kC SG) kch ∧ Reach P (spOf k kC SG) (T.stw keys k) := by
 unfold goOne at h
 split at h
 rotate_left
 ·cases h
 rename_i g q as nx hx
 split at h
 rotate_left
 ·cases h
 rename_i sf hsf
 split at h
 rotate_left
 ·cases h
 rename_i fd hfd
 split at h
 rotate_left
 ·cases h
 rename_i hall
 simp only [Bool.and_eq_true] at hall
 obtain ⟨c1, c2, c3, c4, c5, c6, c7, c8, c9, c10, c11⟩ := hall
 simp only [Option.some.injEq] at h
 have hsn := St.fits_eq c10 h
 refine ⟨⟨⟨g, q, as, nx, sf, fd, hx, hsf, xways_ok hP hm hAB hB c1, by simp only [spOf, hx], hfd, by simpa using c2, Array.ext' (List.isEmpty_iff.1 c3)⟩, c4, Nat.le_of_ble_eq_true c5, Nat.le_of_ble_eq_true c6, Nat.le_of_ble_eq_true c7, Nat.le_of_ble_eq_true c6, List.elem_iff.1 c8, c9⟩, (toStop_reach hP hm hAB hB fuel _).trans ?_⟩
 have := reach_snapw (P := P) (toStop P A fuel (spOf k kC SG)) keys (Nat.le_of_ble_eq_true c11) (keepsAll_eq hk)
 rw [hsn] at this
 exact this
end
end
end Go.Eng
namespace Go.Eng
noncomputable section
open Go.Conc
open Go.Conc.Lib (WgLib WgLink)
set_option linter.unusedSimpArgs false
set_option linter.unusedVariables false
set_option linter.unusedSectionVars false
section
variable (P : Program) (A : Rec) (fuel mf k kS wm wmF : Nat) (row : CB) (x : XF) (keysF keysA : List Nat) (TF TA : Snap)
def stopOne (S : St) : Option (List (List It)) := if and ((toStop P A fuel S).fits keysA TA) (Nat.ble k (toStop P A fuel S).N.wm) = true then some (toStop P A fuel S).ks else none
def finOne (T : St) : Option (List (List It)) := if and (Nat.ble k T.N.wm) (Nat.beq T.N.base 0) = true then match krun P A mf (T.mend kS row wm) with
 | some T' => if and (T'.fits keysF TF) (Nat.ble wmF T'.N.wm) = true then some T'.ks else none
 | none => none
 else none
def waitZero (S : St) : Option (List (List It)) := match loadFlow P A fuel k k x 0 S with
 | some (T, none) => finOne P A mf k kS wm wmF row keysF TF T
 | _ => none
def waitMore (v : Nat) (S : St) : Option (List (List It) × List (List It)) := match loadFlow P A fuel k k x (v + 1) S with
 | some (T, some SM) => match finOne P A mf k kS wm wmF row keysF TF T with
  | some kf => if and (SM.fits keysA TA) (Nat.ble k SM.N.wm) = true then some (kf, SM.ks) else none
  | none => none
 | _ => none
end
def covers (n : Nat) (sts : Nat → List (Nat × List Value)) (fin : List Value) : Bool := (List.range fin.length).all fun d => (List.range n).any fun i => (sts i).any fun p => Nat.ble p.1 d && match p.2[d - p.1]?, fin[d]? with
 | some u, some v => sameV u v
 | _, _ => false
variable [Hk]
theorem covers_eq {n : Nat} {sts : Nat → List (Nat × List Value)} {fin : List Value} (h : covers n sts fin = true) : ∀ d, d < fin.length → ∃ i p j v, i < n ∧ p ∈ sts i ∧ d = p.1 + j ∧ p.2[j]? = some v ∧ fin[d]? = some v := by
 intro d hd
 have := List.all_eq_true.1 h d (List.mem_range.2 hd)
 obtain ⟨i, hi, hb⟩ := List.any_eq_true.1 this
 obtain ⟨q, hq, hb⟩ := List.any_eq_true.1 hb
 rw [Bool.and_eq_true] at hb
 obtain ⟨h1, h2⟩ := hb
 have h1 := Nat.le_of_ble_eq_true h1
 split at h2
 ·rename_i u v hu hv
  refine ⟨i, q, d - q.1, u, List.mem_range.1 hi, hq, by omega, hu, ?_⟩
  rw [hv, sameV_eq _ _ h2]
 ·cases h2
section
variable {P : Program} {A B : Rec} {fuel mf k kS wm wmF n mw : Nat} {tyS : TypeId} {row : CB} {L : WgLink} {x : XF} {keysF keysA keys : List Nat} {T TF : Snap} {fin : List Value}
theorem stopOne_ok (hP : NoCount P) (hm : P.follows .mixedOrders = true) (hAB : A.Le B) (hB : RecOk P B) (hk : keepsAll k keys = true) {S : St} (h : stopOne P A fuel k keys T S = some T.ks) : Reach P S (T.stw keys k) := by
 unfold stopOne at h
 split at h
 rotate_left
 ·cases h
 rename_i hb
 simp only [Bool.and_eq_true] at hb
 simp only [Option.some.injEq] at h
 have := reach_snapw (P := P) (toStop P A fuel S) keys (Nat.le_of_ble_eq_true hb.2) (keepsAll_eq hk)
 rw [St.fits_eq hb.1 h] at this
 exact (toStop_reach hP hm hAB hB fuel S).trans this
theorem finOne_ok (hP : NoCount P) (hm : P.follows .mixedOrders = true) (hAB : A.Le B) (hB : RecOk P B) (hk : keepsAll wmF keysF = true) {S : St} (h : finOne P A mf k kS wm wmF row keysF TF S = some TF.ks) :
  (k ≤ S.N.wm ∧ S.N.base = 0) ∧ Reach P (S.mend kS row wm) (TF.stw keysF wmF) := by
 unfold finOne at h
 split at h
 rotate_left
 ·cases h
 rename_i h1
 split at h
 rotate_left
 ·cases h
 rename_i T' h2
 split at h
 rotate_left
 ·cases h
 rename_i h3
 simp only [Bool.and_eq_true] at h1 h3
 simp only [Option.some.injEq] at h
 have := reach_snapw (P := P) T' keysF (Nat.le_of_ble_eq_true h3.2) (keepsAll_eq hk)
 rw [St.fits_eq h3.1 h] at this
 exact ⟨⟨Nat.le_of_ble_eq_true h1.1, Nat.eq_of_beq_eq_true h1.2⟩, (krun_ok hP hm hAB hB mf h2).trans this⟩
theorem wait_ok {mf2 : Nat} (hP : NoCount P) (hm : P.follows .mixedOrders = true) (hAB : A.Le B) (hB : RecOk P B) (hkF : keepsAll wmF keysF = true) (hkA : keepsAll k keysA = true) {a : Nat → St} {TA : Nat → Snap} {tgt : Nat → Nat → Nat}
  (ha : ∀ j, 1 ≤ j → j ≤ mw → a j = (TA j).stw keysA k) (ha0 : k ≤ (a 0).N.wm) (htgt : ∀ i v, i ≤ mw → v < n → 1 ≤ tgt i v ∧ tgt i v ≤ mw)
  (hz : ∀ i, i ≤ mw → waitZero P A fuel mf k kS wm wmF row x keysF TF (a i) = some TF.ks)
  (hs : ∀ i v, i ≤ mw → v < n → waitMore P A fuel mf2 k kS wm wmF row x keysF keysA TF (TA (tgt i v)) v (a i) = some (TF.ks, (TA (tgt i v)).ks)) :
  WaitOk P A fuel k k x n mw a (fun T => (k ≤ T.N.wm ∧ T.N.base = 0) ∧ Reach P (T.mend kS row wm) (TF.stw keysF wmF)) := by
 refine ⟨fun i hi => ?_, fun i v hi hv => ?_, fun i hi => ?_⟩
 ·have h := hz i hi
  unfold waitZero at h
  split at h
  ·rename_i T hT
   exact ⟨T, hT, finOne_ok hP hm hAB hB hkF h⟩
  ·cases h
 ·have h := hs i v hi hv
  unfold waitMore at h
  split at h
  ·rename_i T SM hT
   split at h
   ·rename_i kf hkf
    split at h
    ·rename_i hb
     simp only [Option.some.injEq, Prod.mk.injEq] at h
     obtain ⟨rfl, h2⟩ := h
     simp only [Bool.and_eq_true] at hb
     obtain ⟨t1, t2⟩ := htgt i v hi hv
     refine ⟨T, SM, tgt i v, hT, finOne_ok hP hm hAB hB hkF hkf, t2, ?_⟩
     have := reach_snapw (P := P) SM keysA (Nat.le_of_ble_eq_true hb.2) (keepsAll_eq hkA)
     rw [St.fits_eq hb.1 h2] at this
     rw [ha _ t1 t2]
     exact this
    ·cases h
   ·cases h
  ·cases h
 ·cases i with
  | zero => exact ha0
  | succ i =>
   rw [ha (i + 1) (by omega) hi]
   exact Nat.le_refl _
theorem many_ok (hP : NoCount P) (hm : P.follows .mixedOrders = true) (hAB : A.Le B) (hB : RecOk P B) {S SP0 : St} {TI TG : Nat → Snap} {keysI keysG : Nat → List Nat} {kC : Nat → Nat} {kch : Nat → List Nat} {sts : Nat → List (Nat × List Value)} {a : Nat → St} {cells : List Value} {r l c : Nat}
  (hbase : S.N.sz = k ∧ kS < k ∧ LIM ≤ kS ∧ S.N.get kS = some (.row cells tyS false) ∧ cells.length = fin.length ∧ S.ev (.tmp r) = some (.slice (some ⟨kS, 0, none⟩) l c) ∧ plainL fin = true ∧ n < 2147483647 ∧ wm ≤ S.N.wm ∧ wm ≤ kS ∧ wmF ≤ wm)
  (hlay : xal k L.tWg (S.lend kS) = some SP0) (hlay2 : stopOne P A fuel k (keysI 0) (TI 0) SP0 = some (TI 0).ks) (hkI : ∀ i, i ≤ n → keepsAll k (keysI i) = true) (hkG : ∀ i, i < n → keepsAll k (keysG i) = true)
  (hadd : ∀ i, i < n → (List.range (i + 1)).map (addOne P A fuel k x (keysG i) (TG i) ((TI i).stw (keysI i) k)) = List.replicate (i + 1) (some (TG i).ks))
  (hgo : ∀ i, i < n → GoXOk P k k kS (sts i) k (kC i) L.done ((TG i).stw (keysG i) k) (spOf k (kC i) ((TG i).stw (keysG i) k)) (kch i) ∧ Reach P (spOf k (kC i) ((TG i).stw (keysG i) k)) ((TI (i + 1)).stw (keysI (i + 1)) k))
  (hoff : ∀ i, i < n → (sts i).length ≤ 900 ∧ ∀ p ∈ sts i, p.1 + p.2.length ≤ fin.length) (hap : ∀ i j, i < n → j < n → i ≠ j → ∀ p ∈ sts i, ∀ q ∈ sts j, Far p q) (hown : ∀ i, i < n → (sts i).Pairwise Far)
  (hcov : ∀ d, d < fin.length → ∃ i p j v, i < n ∧ p ∈ sts i ∧ d = p.1 + j ∧ p.2[j]? = some v ∧ fin[d]? = some v)
  (hdis : xm0 k x.disable ((TI n).stw (keysI n) k) = some (a 0))
  (hw : WaitOk P A fuel k k x n mw a (fun T => (k ≤ T.N.wm ∧ T.N.base = 0) ∧ Reach P (T.mend kS (.row fin tyS false) wm) (TF.stw keysF wmF))) :
  ManyOk P A fuel k kS tyS n L x fin wm S (TF.stw keysF wmF) := by
 have hsp : ∀ i, i ≤ n → Reach P (match i with | 0 => SP0 | j + 1 => spOf k (kC j) ((TG j).stw (keysG j) k)) ((TI i).stw (keysI i) k) := by
  intro i hi
  cases i with
  | zero => exact stopOne_ok hP hm hAB hB (hkI 0 (Nat.zero_le _)) hlay2
  | succ j => exact (hgo j (by omega)).2
 refine ⟨⟨cells, r, l, c, fun i => match i with | 0 => SP0 | j + 1 => spOf k (kC j) ((TG j).stw (keysG j) k), fun i => (TG i).stw (keysG i) k, kC, kch, sts, a, mw, hbase, hlay, fun i hi => ?_, fun i hi => ?_, hoff, hap, hown, hcov, ⟨_, hsp n (Nat.le_refl _), hdis⟩, hw⟩⟩
 ·exact adds_ok hP hm hAB hB (hkG i hi) (hsp i (by omega)) (hadd i hi)
 ·exact (hgo i hi).1
end
end
end Go.Eng
namespace Go.Eng
noncomputable section
open Go.Conc
set_option linter.unusedSimpArgs false
set_option linter.unusedVariables false
set_option linter.unusedSectionVars false
variable [Hk]
theorem plain_of_none {P : Program} {f : FuncId} {args : List Value} {v : Value} {N' : CH} (hargs : plainL args = true) (hv : plain v = true) (h : CallOk P f args (CH.first []) v N') (N : CH) : CallOk P f args N v N := by
 intro main J hctx lo E w O W hlo R own hcl kd cs hcs K hK
 have hpl : ∀ (F : Env), args.map F.m = args := fun F => by
  have : ∀ u ∈ args, F.m u = u := fun u hu => m_plain F (plainL_all.1 hargs u hu)
  exact (List.map_congr_left this).trans (List.map_id _)
 have R0 : Rel P (Env.bare (fun _ => .nilFunc) (fun _ => rfl)) (CH.first []) w := rel_first (laid_none w) _ _
 have own0 : Own O W 0 (Env.bare (fun _ => .nilFunc) (fun _ => rfl)) (CH.first []) w := ⟨fun j hj hl => absurd hl (no_live hj), fun j hj hl _ => absurd hl (no_live hj), own.lt, Nat.zero_le _⟩
 have := h main J 0 (Env.bare (fun _ => .nilFunc) (fun _ => rfl)) w O W (Nat.zero_le _) R0 own0 (fun u hu => Clo_plain _ _ (plainL_all.1 hargs u hu)) kd cs hcs K fun O' W' E' w' fr L hc hfn hr => by
  have hrel : Rely O w w' := ⟨fun b hb => L.ext.frame b hb (own.lt b hb) fun k hk hl => absurd hl (no_live hk), L.ext.hsize, L.ext.os, L.ext.tape, L.ext.output⟩
  have L1 := Later.of_rely R own hrel
  have L2 : Later P lo O W E N w O' W' E N w' := ⟨L1.rel, ⟨fun k hk hl => L.oo _ (own.img k hk hl), fun k hk hl h => L.ww _ (own.wri k hk hl h), L.own.lt, own.low⟩, L1.ext, L.oo, L.ww, L.ou⟩
  refine hK O' W' E w' fr L2 (Clo_plain _ _ hv) hfn ?_
  rw [m_plain E hv]
  rw [m_plain E' hv] at hr
  exact hr
 rw [hpl] at this ⊢
 exact this
end
end Go.Eng
namespace Go.Eng
noncomputable section
open Go.Conc
set_option linter.unusedSimpArgs false
set_option linter.unusedVariables false
set_option linter.unusedSectionVars false
def SF.d (s : SF) : SF := ⟨s.fn, s.ar, .deferred, s.ret, s.a, s.k⟩
def dLast : List SF → List SF
 | [] => []
 | [s] => [s.d]
 | s :: c :: r => s :: dLast (c :: r)
def St.fs (S : St) : List SF := S.top :: S.cs
theorem dLast_cons (s c : SF) (r : List SF) : dLast (s :: c :: r) = s :: dLast (c :: r) := rfl
def Alike (S T : St) : Prop := T.N = S.N ∧ T.fs = dLast S.fs
theorem Alike.cases {S T : St} (h : Alike S T) : (S.cs = [] ∧ T = ⟨S.top.d, [], S.N⟩) ∨ ∃ c r c' r', S.cs = c :: r ∧ T = ⟨S.top, c' :: r', S.N⟩ ∧ c' :: r' = dLast (c :: r) := by
 obtain ⟨t, cs, N⟩ := S
 obtain ⟨t', cs', N'⟩ := T
 obtain ⟨h1, h2⟩ := h
 simp only at h1
 subst h1
 cases cs with
 | nil =>
  simp only [St.fs, dLast, List.cons.injEq] at h2
  obtain ⟨rfl, rfl⟩ := h2
  exact .inl ⟨rfl, rfl⟩
 | cons c r =>
  simp only [St.fs, dLast, List.cons.injEq] at h2
  obtain ⟨rfl, h2⟩ := h2
  right
  cases hd : dLast (c :: r) with
  | nil => cases r <;> simp [dLast] at hd
  | cons c' r' =>
   rw [hd] at h2
   subst h2
   exact ⟨c, r, c', r', rfl, rfl, hd.symm⟩
theorem alike_push {s : SF} {c c' : SF} {r r' : List SF} {N : CH} (h : c' :: r' = dLast (c :: r)) : Alike ⟨s, c :: r, N⟩ ⟨s, c' :: r', N⟩ := ⟨rfl, by simp only [St.fs, dLast_cons, h]⟩
theorem alike_push2 {s t : SF} {c c' : SF} {r r' : List SF} {N : CH} (h : c' :: r' = dLast (c :: r)) : Alike ⟨s, t :: c :: r, N⟩ ⟨s, t :: c' :: r', N⟩ := ⟨rfl, by simp only [St.fs, dLast_cons, h]⟩
theorem kround_nil {l : Nat} {j : Option Code} {N : CH} {S' : St} (h : kround l j [] N = some S') : False := by
 unfold kround at h
 split at h <;> cases h
theorem kcode_d {P : Program} {R : Rec} {fn : FuncId} {ar : Option Nat} {kd : CallKind} {a : FA} {c : Code} {k : List It} {N : CH} {S' : St} (h : kcode P R fn ar kd a c k [] N = some S') : ∃ T', kcode P R fn ar .deferred a c k [] N = some T' ∧ Alike S' T' := by
 cases c with
 | skip => cases h; exact ⟨_, rfl, rfl, rfl⟩
 | seq x y => cases h; exact ⟨_, rfl, rfl, rfl⟩
 | block id c => cases h; exact ⟨_, rfl, rfl, rfl⟩
 | loop c => cases h; exact ⟨_, rfl, rfl, rfl⟩
 | cond c x y =>
  simp only [kcode] at h ⊢
  split at h
  ·cases h; exact ⟨_, rfl, rfl, rfl⟩
  ·cases h; exact ⟨_, rfl, rfl, rfl⟩
  ·cases h
 | exit id =>
  simp only [kcode] at h ⊢
  split at h
  ·cases h; exact ⟨_, rfl, rfl, rfl⟩
  ·split at h
   ·exact (kround_nil h).elim
   ·cases h
 | ret =>
  simp only [kcode] at h ⊢
  split at h
  ·cases h; exact ⟨_, rfl, rfl, rfl⟩
  ·exact (kround_nil h).elim
 | region id ops draw =>
  simp only [kcode] at h ⊢
  split at h
  ·cases h; exact ⟨_, rfl, rfl, rfl⟩
  ·split at h
   ·cases h; exact ⟨_, rfl, rfl, rfl⟩
   ·cases h
 | rangeFunc f ps as bd =>
  simp only [kcode] at h ⊢
  split at h
  ·split at h
   ·split at h
    ·cases h; exact ⟨_, rfl, rfl, rfl⟩
    ·cases h
   ·cases h
  ·cases h
 | _ => cases h
theorem alike_down {c c' : SF} {r r' : List SF} {N : CH} (h : c' :: r' = dLast (c :: r)) : Alike ⟨c, r, N⟩ ⟨c', r', N⟩ := ⟨rfl, h⟩
theorem kfin_d {c c1 : SF} {v : Value} (h : kfin c v = some c1) : kfin c.d v = some c1.d := by
 unfold kfin at h
 split at h
 ·cases h; rfl
 ·cases h; rfl
 ·cases h
theorem pop_ok {c c' c1 : SF} {r r' : List SF} {N : CH} {v : Value} (h : c' :: r' = dLast (c :: r)) (hc : kfin c v = some c1) : ∃ c1', kfin c' v = some c1' ∧ Alike ⟨c1, r, N⟩ ⟨c1', r', N⟩ := by
 cases r with
 | nil =>
  simp only [dLast, List.cons.injEq] at h
  obtain ⟨rfl, rfl⟩ := h
  exact ⟨_, kfin_d hc, rfl, rfl⟩
 | cons e r =>
  simp only [dLast, List.cons.injEq] at h
  obtain ⟨rfl, rfl⟩ := h
  exact ⟨_, hc, rfl, rfl⟩
theorem kround_d {l : Nat} {j : Option Code} {c c' : SF} {r r' : List SF} {N : CH} {S' : St} (hd : c' :: r' = dLast (c :: r)) (h : kround l j (c :: r) N = some S') : ∃ T', kround l j (c' :: r') N = some T' ∧ Alike S' T' := by
 unfold kround at h ⊢
 split at h
 ·rename_i v N' he
  simp only at h ⊢
  split at h
  ·rename_i c1 hc
   cases h
   obtain ⟨c1', h1, h2⟩ := pop_ok (N := N') hd hc
   rw [h1]
   exact ⟨_, rfl, h2⟩
  ·cases h
 ·cases h
theorem kcode_d2 {P : Program} {R : Rec} {fn : FuncId} {ar : Option Nat} {kd : CallKind} {a : FA} {cd : Code} {k : List It} {N : CH} {S' : St} {c c' : SF} {r r' : List SF} (hd : c' :: r' = dLast (c :: r)) (h : kcode P R fn ar kd a cd k (c :: r) N = some S') :
  ∃ T', kcode P R fn ar kd a cd k (c' :: r') N = some T' ∧ Alike S' T' := by
 have p1 : ∀ s N, Alike ⟨s, c :: r, N⟩ ⟨s, c' :: r', N⟩ := fun s N => alike_push hd
 have p2 : ∀ s t N, Alike ⟨s, t :: c :: r, N⟩ ⟨s, t :: c' :: r', N⟩ := fun s t N => alike_push2 hd
 cases cd with
 | skip => cases h; exact ⟨_, rfl, p1 _ _⟩
 | seq x y => cases h; exact ⟨_, rfl, p1 _ _⟩
 | block id c => cases h; exact ⟨_, rfl, p1 _ _⟩
 | loop c => cases h; exact ⟨_, rfl, p1 _ _⟩
 | cond c x y =>
  simp only [kcode] at h ⊢
  split at h
  ·cases h; exact ⟨_, rfl, p1 _ _⟩
  ·cases h; exact ⟨_, rfl, p1 _ _⟩
  ·cases h
 | exit id =>
  simp only [kcode] at h ⊢
  split at h
  ·cases h; exact ⟨_, rfl, p1 _ _⟩
  ·split at h
   ·exact kround_d hd h
   ·cases h
 | ret =>
  simp only [kcode] at h ⊢
  split at h
  ·cases h; exact ⟨_, rfl, p1 _ _⟩
  ·exact kround_d hd h
 | region id ops draw =>
  simp only [kcode] at h ⊢
  split at h
  ·cases h; exact ⟨_, rfl, p1 _ _⟩
  ·split at h
   ·cases h; exact ⟨_, rfl, p1 _ _⟩
   ·cases h
 | rangeFunc f ps as bd =>
  simp only [kcode] at h ⊢
  split at h
  ·split at h
   ·split at h
    ·cases h; exact ⟨_, rfl, p2 _ _ _⟩
    ·cases h
   ·cases h
  ·cases h
 | _ => cases h
theorem kgo_d {P : Program} {fn : FuncId} {ar : Option Nat} {kd : CallKind} {a : FA} {ops : Array Oper} {i : Nat} {o : Oper} {q : List Oper} {k : List It} {N : CH} {S' : St} (h : kgo P fn ar kd a ops i o q k [] N = some S') : ∃ T', kgo P fn ar .deferred a ops i o q k [] N = some T' ∧ Alike S' T' := by
 unfold kgo at h ⊢
 split at h
 ·cases h; exact ⟨_, rfl, rfl, rfl⟩
 ·cases h; exact ⟨_, rfl, rfl, rfl⟩
 ·split at h
  ·cases h; exact ⟨_, rfl, rfl, rfl⟩
  ·cases h
 ·cases h; exact ⟨_, rfl, rfl, rfl⟩
 ·split at h
  ·cases h
  ·split at h
   ·cases h; exact ⟨_, rfl, rfl, rfl⟩
   ·split at h
    ·rename_i hc
     cases h
     simp only [if_pos hc]
     exact ⟨_, rfl, rfl, rfl⟩
    ·cases h
theorem kgo_d2 {P : Program} {fn : FuncId} {ar : Option Nat} {kd : CallKind} {a : FA} {ops : Array Oper} {i : Nat} {o : Oper} {q : List Oper} {k : List It} {N : CH} {S' : St} {c c' : SF} {r r' : List SF} (hd : c' :: r' = dLast (c :: r)) (h : kgo P fn ar kd a ops i o q k (c :: r) N = some S') :
  ∃ T', kgo P fn ar kd a ops i o q k (c' :: r') N = some T' ∧ Alike S' T' := by
 have p1 : ∀ s N, Alike ⟨s, c :: r, N⟩ ⟨s, c' :: r', N⟩ := fun s N => alike_push hd
 have p2 : ∀ s t N, Alike ⟨s, t :: c :: r, N⟩ ⟨s, t :: c' :: r', N⟩ := fun s t N => alike_push2 hd
 unfold kgo at h ⊢
 split at h
 ·cases h; exact ⟨_, rfl, p1 _ _⟩
 ·cases h; exact ⟨_, rfl, p1 _ _⟩
 ·split at h
  ·cases h; exact ⟨_, rfl, p2 _ _ _⟩
  ·cases h
 ·cases h; exact ⟨_, rfl, p2 _ _ _⟩
 ·split at h
  ·cases h
  ·split at h
   ·cases h; exact ⟨_, rfl, p1 _ _⟩
   ·split at h
    ·rename_i hc
     cases h
     simp only [if_pos hc]
     exact ⟨_, rfl, p1 _ _⟩
    ·cases h
theorem koper_d {P : Program} {fn : FuncId} {ar : Option Nat} {kd : CallKind} {a : FA} {ops : Array Oper} {i : Nat} {o : Oper} {q : List Oper} {k : List It} {N : CH} {S' : St} (h : koper P fn ar kd a ops i o q k [] N = some S') : ∃ T', koper P fn ar .deferred a ops i o q k [] N = some T' ∧ Alike S' T' := by
 unfold koper at h ⊢
 split at h
 ·exact kgo_d h
 ·split at h
  ·rename_i h1
   rw [if_pos h1]
   split at h
   ·rename_i h2
    rw [if_pos h2]
    exact kgo_d h
   ·rename_i h2
    rw [if_neg h2]
    cases h
    exact ⟨_, rfl, rfl, rfl⟩
  ·cases h
theorem koper_d2 {P : Program} {fn : FuncId} {ar : Option Nat} {kd : CallKind} {a : FA} {ops : Array Oper} {i : Nat} {o : Oper} {q : List Oper} {k : List It} {N : CH} {S' : St} {c c' : SF} {r r' : List SF} (hd : c' :: r' = dLast (c :: r)) (h : koper P fn ar kd a ops i o q k (c :: r) N = some S') :
  ∃ T', koper P fn ar kd a ops i o q k (c' :: r') N = some T' ∧ Alike S' T' := by
 unfold koper at h ⊢
 split at h
 ·exact kgo_d2 hd h
 ·split at h
  ·rename_i h1
   rw [if_pos h1]
   split at h
   ·rename_i h2
    rw [if_pos h2]
    exact kgo_d2 hd h
   ·rename_i h2
    rw [if_neg h2]
    cases h
    exact ⟨_, rfl, alike_push hd⟩
  ·cases h
theorem kreturn_d {P : Program} {fn : FuncId} {ar : Option Nat} {kd : CallKind} {a : FA} {k : List It} {N : CH} {S' : St} (h : kreturn P fn ar kd a k [] N = some S') : ∃ T', kreturn P fn ar .deferred a k [] N = some T' ∧ Alike S' T' := by
 unfold kreturn at h ⊢
 split at h
 ·split at h
  ·split at h
   ·cases h; exact ⟨_, rfl, rfl, rfl⟩
   ·cases h
  ·cases h
 ·split at h
  ·cases h; exact ⟨_, rfl, rfl, rfl⟩
  ·cases h
 ·split at h
  ·split at h
   ·cases h
   ·cases h
  ·cases h
theorem kreturn_d2 {P : Program} {fn : FuncId} {ar : Option Nat} {kd : CallKind} {a : FA} {k : List It} {N : CH} {S' : St} {c c' : SF} {r r' : List SF} (hd : c' :: r' = dLast (c :: r)) (h : kreturn P fn ar kd a k (c :: r) N = some S') :
  ∃ T', kreturn P fn ar kd a k (c' :: r') N = some T' ∧ Alike S' T' := by
 unfold kreturn at h ⊢
 split at h
 ·split at h
  ·split at h
   ·cases h; exact ⟨_, rfl, alike_push hd⟩
   ·cases h
  ·cases h
 ·split at h
  ·cases h; exact ⟨_, rfl, alike_push2 hd⟩
  ·cases h
 ·split at h
  ·split at h
   ·simp only at h ⊢
    split at h
    ·split at h
     ·rename_i c1 hc
      cases h
      obtain ⟨c1', h1, h2⟩ := pop_ok (N := N) hd hc
      rw [h1]
      exact ⟨_, rfl, h2⟩
     ·cases h
    ·cases h; exact ⟨_, rfl, alike_down hd⟩
    ·cases h
   ·cases h
  ·cases h
theorem kstep_d {P : Program} {R : Rec} {S S' T : St} (ha : Alike S T) (h : kstep P R S = some S') : ∃ T', kstep P R T = some T' ∧ Alike S' T' := by
 rcases ha.cases with ⟨h1, rfl⟩ | ⟨c, r, c', r', h1, rfl, hd⟩
 ·obtain ⟨⟨fn, ar, kd, ret, a, k⟩, cs, N⟩ := S
  simp only at h1
  subst h1
  cases ret with
  | true => exact kreturn_d h
  | false =>
   cases k with
   | nil =>
    simp only [kstep, SF.d] at h ⊢
    split at h
    ·cases h; exact ⟨_, rfl, rfl, rfl⟩
    ·exact (kround_nil h).elim
   | cons it k =>
    cases it with
    | code c => exact kcode_d h
    | inBlock id => cases h; exact ⟨_, rfl, rfl, rfl⟩
    | inLoop c => cases h; exact ⟨_, rfl, rfl, rfl⟩
    | reg ops i l =>
     cases l with
     | nil => cases h; exact ⟨_, rfl, rfl, rfl⟩
     | cons o q => exact koper_d h
    | inRange l => cases h
    | endRange l =>
     simp only [kstep, SF.d] at h ⊢
     split at h
     ·split at h
      ·cases h; exact ⟨_, rfl, rfl, rfl⟩
      ·cases h; exact ⟨_, rfl, rfl, rfl⟩
     ·cases h
    | beginRound =>
     simp only [kstep, SF.d] at h ⊢
     split at h
     ·split at h
      ·cases h; exact ⟨_, rfl, rfl, rfl⟩
      ·cases h
     ·cases h
 ·obtain ⟨⟨fn, ar, kd, ret, a, k⟩, cs, N⟩ := S
  simp only at h1
  subst h1
  cases ret with
  | true => exact kreturn_d2 hd h
  | false =>
   cases k with
   | nil =>
    simp only [kstep] at h ⊢
    split at h
    ·cases h; exact ⟨_, rfl, alike_push hd⟩
    ·exact kround_d hd h
   | cons it k =>
    cases it with
    | code c => exact kcode_d2 hd h
    | inBlock id => cases h; exact ⟨_, rfl, alike_push hd⟩
    | inLoop c => cases h; exact ⟨_, rfl, alike_push hd⟩
    | reg ops i l =>
     cases l with
     | nil => cases h; exact ⟨_, rfl, alike_push hd⟩
     | cons o q => exact koper_d2 hd h
    | inRange l => cases h
    | endRange l =>
     simp only [kstep] at h ⊢
     split at h
     ·split at h
      ·cases h; exact ⟨_, rfl, alike_push hd⟩
      ·cases h; exact ⟨_, rfl, alike_push hd⟩
     ·cases h
    | beginRound =>
     simp only [kstep] at h ⊢
     split at h
     ·split at h
      ·cases h; exact ⟨_, rfl, alike_push hd⟩
      ·cases h
     ·cases h
theorem krun_d {P : Program} {R : Rec} : ∀ (n : Nat) {S S' T : St}, Alike S T → krun P R n S = some S' → ∃ T', krun P R n T = some T' ∧ Alike S' T'
 | 0, S, S', T, ha, h => by
  cases h
  exact ⟨T, rfl, ha⟩
 | n + 1, S, S', T, ha, h => by
  simp only [krun] at h ⊢
  split at h
  ·rename_i S1 h1
   obtain ⟨T1, h2, h3⟩ := kstep_d ha h1
   obtain ⟨T', h4, h5⟩ := krun_d n h3 h
   rw [h2]
   exact ⟨T', h4, h5⟩
  ·cases h
theorem dLast_map : ∀ (l : List SF), (dLast l).map (fun s => s.snap.sf) = dLast (l.map fun s => s.snap.sf)
 | [] => rfl
 | [s] => rfl
 | s :: c :: r => by
  simp only [dLast, List.map_cons]
  rw [dLast_map (c :: r)]
  rfl
theorem alike_snap {S T : St} (h : Alike S T) (keys : List Nat) : Alike ((S.snap keys).st keys) ((T.snap keys).st keys) := by
 obtain ⟨h1, h2⟩ := h
 have e : ∀ U : St, ((U.snap keys).st keys).fs = U.fs.map fun s => s.snap.sf := fun U => by
  show U.top.snap.sf :: (U.cs.map SF.snap).map SnapF.sf = _
  rw [List.map_map]
  rfl
 refine ⟨?_, ?_⟩
 ·show (⟨T.N.sz, 0, 0, fill T.N.sz keys (keys.map T.N.get) (Tr.skel T.N.sz T.N.sz)⟩ : CH) = ⟨S.N.sz, 0, 0, fill S.N.sz keys (keys.map S.N.get) (Tr.skel S.N.sz S.N.sz)⟩
  rw [h1]
 ·rw [e, e, h2, dLast_map]
theorem finVal_d {P : Program} {f : FuncId} {S T : St} {v : Value} (h : Alike S T) (hf : finVal P f .normal S = some v) : finVal P f .deferred T = some v := by
 rcases h.cases with ⟨h1, rfl⟩ | ⟨c, r, c', r', h1, rfl, _⟩
 ·unfold finVal at hf
  split at hf
  rotate_left
  ·cases hf
  rename_i fn kd' n t kk N
  split at hf
  rotate_left
  ·cases hf
  rename_i e1
  split at hf
  rotate_left
  ·cases hf
  simp only [finVal, SF.d]
  rw [if_pos e1, if_pos trivial]
  exact hf
 ·obtain ⟨t, cs, N⟩ := S
  simp only at h1
  subst h1
  simp [finVal] at hf
variable [Hk]
theorem kenter_d {P : Program} {f : FuncId} {args : List Value} {s : SF} {N : CH} (h : kenter P f args .normal = some s) : ∃ s', kenter P f args .deferred = some s' ∧ Alike ⟨s, [], N⟩ ⟨s', [], N⟩ := by
 unfold kenter at h ⊢
 split at h
 ·split at h
  ·split at h
   ·rename_i hlen
    cases h
    simp only [if_pos hlen]
    exact ⟨_, rfl, rfl, rfl⟩
   ·cases h
  ·cases h
 ·cases h
end
end Go.Eng
namespace Go.Eng
noncomputable section
open Go.Conc
open Go.Conc.Lib (WgLib WgLink)
open Go.ConcR (Payload)
set_option linter.unusedSimpArgs false
set_option linter.unusedVariables false
set_option linter.unusedSectionVars false
section
variable (P : Program) (A : Rec)
def headOne (n : Nat) (f : FuncId) (args : List Value) (kd : CallKind) (sz : Nat) (keys : List Nat) (bs : List (Option CB)) (keysF : List Nat) (TF : Snap) : Option (List (List It)) := match kenter P f args kd with
 | some s0 => match krun P A n ⟨s0, [], CH.small sz keys bs⟩ with
  | some S => if and (S.fits keysF TF) (Nat.ble sz S.N.wm) = true then some S.ks else none
  | none => none
 | none => none
def newsAt (N : CH) : Nat → List CB → Bool
 | _, [] => true
 | k, b :: l => and (or b.isDead (beqOC (N.get k) (some b))) (newsAt N (k + 1) l)
def tailOne (n : Nat) (f : FuncId) (kd : CallKind) (v : Value) (sz : Nat) (news : List CB) (S : St) : Bool := match krun P A n S with
 | some S' => match finVal P f kd S' with
  | some u => and (sameV u v) (and (Nat.ble sz S'.N.wm) (and (Nat.beq S'.N.sz (sz + news.length)) (newsAt S'.N sz news)))
  | none => false
 | none => false
def layOne (fuel k : Nat) (tWg : TypeId) (kS : Nat) (keys : List Nat) (T : Snap) (S : St) : Option (List (List It)) := match xal k tWg (S.lend kS) with
 | some SP0 => stopOne P A fuel k keys T SP0
 | none => none
def disOf (k : Nat) (x : XF) (S : St) : St := match xm0 k x.disable S with
 | some a => a
 | none => S
def disOk (k : Nat) (x : XF) (S : St) : Bool := match xm0 k x.disable S with
 | some a => Nat.ble k a.N.wm
 | none => false
def baseOk (k kS : Nat) (tyS : TypeId) (fin : List Value) (n wm wmF r : Nat) (S : St) : Bool :=
 and (and (Nat.beq S.N.sz k) (and (Nat.ble (kS + 1) k) (Nat.ble LIM kS))) (and (match S.N.get kS with | some (.row cells t false) => and (Nat.beq t tyS) (Nat.beq cells.length fin.length) | _ => false)
  (and (match S.ev (.tmp r) with | some (.slice (some ⟨b, 0, none⟩) _ _) => Nat.beq b kS | _ => false) (and (plainL fin) (and (Nat.ble (n + 1) 2147483647) (and (Nat.ble wm S.N.wm) (and (Nat.ble wm kS) (Nat.ble wmF wm)))))))
end
section
variable {P : Program} {A : Rec}
theorem baseOk_eq {k kS : Nat} {tyS : TypeId} {fin : List Value} {n wm wmF r : Nat} {S : St} (h : baseOk k kS tyS fin n wm wmF r S = true) :
  ∃ cells l c, S.N.sz = k ∧ kS < k ∧ LIM ≤ kS ∧ S.N.get kS = some (.row cells tyS false) ∧ cells.length = fin.length ∧ S.ev (.tmp r) = some (.slice (some ⟨kS, 0, none⟩) l c) ∧ plainL fin = true ∧ n < 2147483647 ∧ wm ≤ S.N.wm ∧ wm ≤ kS ∧ wmF ≤ wm := by
 simp only [baseOk, Bool.and_eq_true] at h
 obtain ⟨⟨a1, a2, a3⟩, a4, a5, a6, a7, a8, a9, a10⟩ := h
 split at a4
 rotate_left
 ·cases a4
 rename_i cells t hg
 split at a5
 rotate_left
 ·cases a5
 rename_i b l c he
 rw [Bool.and_eq_true] at a4
 obtain rfl := Nat.eq_of_beq_eq_true a4.1
 obtain rfl := Nat.eq_of_beq_eq_true a5
 exact ⟨cells, l, c, Nat.eq_of_beq_eq_true a1, Nat.le_of_ble_eq_true a2, Nat.le_of_ble_eq_true a3, hg, Nat.eq_of_beq_eq_true a4.2, he, a6, Nat.le_of_ble_eq_true a7, Nat.le_of_ble_eq_true a8, Nat.le_of_ble_eq_true a9, Nat.le_of_ble_eq_true a10⟩
end
variable [Hk]
theorem newsAt_eq {N : CH} : ∀ {l : List CB} {k : Nat}, newsAt N k l = true → ∀ i b, l[i]? = some b → b.isDead = true ∨ N.get (k + i) = some b
 | [], _, _, i, b, hb => by cases hb
 | c :: l, k, h, i, b, hb => by
  simp only [newsAt, Bool.and_eq_true, Bool.or_eq_true] at h
  cases i with
  | zero =>
   obtain rfl : c = b := by simpa using hb
   exact h.1.imp (fun x => x) fun x => by rw [Nat.add_zero]; exact beqOC_eq x
  | succ i =>
   have := newsAt_eq h.2 i b (by simpa using hb)
   rwa [show k + 1 + i = k + (i + 1) by omega] at this
section
variable {P : Program} {A B : Rec} {fuel mf k kS wm wmF n : Nat} {tyS : TypeId} {L : WgLink} {x : XF} {keysF keysA keys : List Nat} {TF : Snap} {fin : List Value}
theorem many_ok2 {mf2 : Nat} (hP : NoCount P) (hm : P.follows .mixedOrders = true) (hAB : A.Le B) (hB : RecOk P B) {S : St} {TI TG TA : Nat → Snap} {keysI keysG : Nat → List Nat} {kC : Nat → Nat} {kch : Nat → List Nat} {sts : Nat → List (Nat × List Value)} {r : Nat}
  (hbase : baseOk k kS tyS fin n wm wmF r S = true)
  (hlay : layOne P A fuel k L.tWg kS (keysI 0) (TI 0) S = some (TI 0).ks) (hkI : ∀ i, i ≤ n → keepsAll k (keysI i) = true) (hkG : ∀ i, i < n → keepsAll k (keysG i) = true) (hkF : keepsAll wmF keysF = true) (hkA : keepsAll k keysA = true)
  (hadd : ∀ i, i < n → (List.range (i + 1)).map (addOne P A fuel k x (keysG i) (TG i) ((TI i).stw (keysI i) k)) = List.replicate (i + 1) (some (TG i).ks))
  (hgo : ∀ i, i < n → GoXOk P k k kS (sts i) k (kC i) L.done ((TG i).stw (keysG i) k) (spOf k (kC i) ((TG i).stw (keysG i) k)) (kch i) ∧ Reach P (spOf k (kC i) ((TG i).stw (keysG i) k)) ((TI (i + 1)).stw (keysI (i + 1)) k))
  (hoff : ∀ i, i < n → (sts i).length ≤ 900 ∧ ∀ p ∈ sts i, p.1 + p.2.length ≤ fin.length) (hap : ∀ i j, i < n → j < n → i ≠ j → ∀ p ∈ sts i, ∀ q ∈ sts j, Far p q) (hown : ∀ i, i < n → (sts i).Pairwise Far)
  (hcov : ∀ d, d < fin.length → ∃ i p j v, i < n ∧ p ∈ sts i ∧ d = p.1 + j ∧ p.2[j]? = some v ∧ fin[d]? = some v)
  (hdis : disOk k x ((TI n).stw (keysI n) k) = true)
  (hz0 : waitZero P A fuel mf k kS wm wmF (.row fin tyS false) x keysF TF (disOf k x ((TI n).stw (keysI n) k)) = some TF.ks)
  (hs0 : ∀ v, v < n → waitMore P A fuel mf2 k kS wm wmF (.row fin tyS false) x keysF keysA TF (TA (v + 1)) v (disOf k x ((TI n).stw (keysI n) k)) = some (TF.ks, (TA (v + 1)).ks))
  (hz1 : ∀ j, 1 ≤ j → j ≤ n + n → waitZero P A fuel mf k kS wm wmF (.row fin tyS false) x keysF TF ((TA j).stw keysA k) = some TF.ks)
  (hs1 : ∀ j v, 1 ≤ j → j ≤ n + n → v < n → waitMore P A fuel mf2 k kS wm wmF (.row fin tyS false) x keysF keysA TF (TA (n + 1 + v)) v ((TA j).stw keysA k) = some (TF.ks, (TA (n + 1 + v)).ks)) :
  ManyOk P A fuel k kS tyS n L x fin wm S (TF.stw keysF wmF) := by
 obtain ⟨cells, l, c, hb⟩ := baseOk_eq hbase
 unfold layOne at hlay
 split at hlay
 rotate_left
 ·cases hlay
 rename_i SP0 hSP0
 unfold disOk at hdis
 split at hdis
 rotate_left
 ·cases hdis
 rename_i a0 ha0
 have hd0 : disOf k x ((TI n).stw (keysI n) k) = a0 := by simp only [disOf, ha0]
 rw [hd0] at hz0 hs0
 let a : Nat → St := fun j => if j = 0 then a0 else (TA j).stw keysA k
 have e0 : a 0 = a0 := if_pos rfl
 have e1 : ∀ j, 1 ≤ j → a j = (TA j).stw keysA k := fun j hj => if_neg (by omega)
 refine many_ok (mw := n + n) (a := a) hP hm hAB hB hb hSP0 hlay hkI hkG hadd hgo hoff hap hown hcov (by rw [e0]; exact ha0) ?_
 refine wait_ok (mf := mf) (mf2 := mf2) (TA := TA) (tgt := fun i v => if i = 0 then v + 1 else n + 1 + v) hP hm hAB hB hkF hkA (fun j h1 _ => e1 j h1) (by rw [e0]; exact Nat.le_of_ble_eq_true hdis) ?_ ?_ ?_
 ·intro i v hi hv
  show 1 ≤ (if i = 0 then v + 1 else n + 1 + v) ∧ (if i = 0 then v + 1 else n + 1 + v) ≤ n + n
  split <;> omega
 ·intro i hi
  by_cases h : i = 0
  ·subst h
   rw [e0]
   exact hz0
  ·rw [e1 i (by omega)]
   exact hz1 i (by omega) hi
 ·intro i v hi hv
  by_cases h : i = 0
  ·subst h
   rw [e0]
   exact hs0 v hv
  ·rw [e1 i (by omega)]
   have : (if i = 0 then v + 1 else n + 1 + v) = n + 1 + v := if_neg h
   simp only [this]
   exact hs1 i v (by omega) hi hv
end
theorem hook1_of {P : Program} {f : FuncId} {args : List Value} {v : Value} {is : List Value → Bool} (his : ∀ l, is l = true → l = args) (hb : (P.funcs[f]?).any (fun fn => fn.body.isSome) = true)
  (h : ∀ N, CallOk P f args N v N) : HookOk P (hook1 f is v) := by
 intro g l N u N' hh
 unfold hook1 at hh
 split at hh
 rotate_left
 ·cases hh
 rename_i hg
 split at hh
 rotate_left
 ·cases hh
 rename_i ha
 simp only [Option.some.injEq, Prod.mk.injEq] at hh
 obtain ⟨rfl, rfl⟩ := hh
 obtain rfl := Nat.eq_of_beq_eq_true hg
 obtain rfl := his l ha
 refine ⟨h N, ?_⟩
 cases hf : P.funcs[g]? with
 | none => rw [hf] at hb; cases hb
 | some fn => exact ⟨fn, rfl, by rw [hf] at hb; exact hb⟩
theorem eval_hook {P : Program} (hP : NoCount P) (hm : P.follows .mixedOrders = true) {Hf : Hook} (hH : HookOk P Hf) {Ld d : Nat} {f : FuncId} {args : List Value} {v : Value} {is : List Value → Bool} (his : ∀ l, is l = true → l = args) (hb : (P.funcs[f]?).any (fun fn => fn.body.isSome) = true)
  (hargs : plainL args = true) (hv : plain v = true) (h : ((fRec P Hf Ld d).call f args (CH.first [])).any (fun r => sameV r.1 v) = true) : HookOk P (hook1 f is v) := by
 refine hook1_of his hb fun N => ?_
 cases hc : (fRec P Hf Ld d).call f args (CH.first []) with
 | none => rw [hc] at h; cases h
 | some r =>
  rw [hc] at h
  have hr := (fRec_le Hf Ld d).call _ _ _ _ hc
  obtain ⟨u, N'⟩ := r
  obtain rfl := sameV_eq _ _ (by simpa using h)
  exact plain_of_none hargs hv ((mkRec_ok hP hm hH Ld d).call _ _ _ _ _ hr) N
def hookMem (f : FuncId) (args : List Value) (sz : Nat) (keys : List Nat) (bs : List (Option CB)) (v : Value) (news : List CB) : Hook := fun g as N =>
 if Nat.beq g f = true then if Nat.beq N.sz sz = true then if sameL as args = true then if beqL beqOC (keys.map N.get) bs = true then some (v, N.pushL news) else none else none else none else none
theorem hookMem_ok {P : Program} {f : FuncId} {args : List Value} {sz : Nat} {keys : List Nat} {bs : List (Option CB)} {v : Value} {news : List CB} (hb : (P.funcs[f]?).any (fun fn => fn.body.isSome) = true)
  (h : ∀ N, N.sz = sz → keys.map N.get = bs → CallOk P f args N v (N.pushL news)) : HookOk P (hookMem f args sz keys bs v news) := by
 intro g l N u N' hh
 unfold hookMem at hh
 split at hh
 rotate_left
 ·cases hh
 rename_i hg
 split at hh
 rotate_left
 ·cases hh
 rename_i hs
 split at hh
 rotate_left
 ·cases hh
 rename_i ha
 split at hh
 rotate_left
 ·cases hh
 rename_i hk
 simp only [Option.some.injEq, Prod.mk.injEq] at hh
 obtain ⟨rfl, rfl⟩ := hh
 obtain rfl := Nat.eq_of_beq_eq_true hg
 obtain rfl := sameL_eq _ _ ha
 refine ⟨h N (Nat.eq_of_beq_eq_true hs) (beqL_eq (fun _ _ => beqOC_eq) hk), ?_⟩
 cases hf : P.funcs[g]? with
 | none => rw [hf] at hb; cases hb
 | some fn => exact ⟨fn, rfl, by rw [hf] at hb; exact hb⟩
end
end Go.Eng
namespace Go.Eng
noncomputable section
open Go.Conc
open Go.Conc.Lib (WgLib WgLink)
open Go.ConcR (Payload)
set_option linter.unusedSimpArgs false
set_option linter.unusedVariables false
set_option linter.unusedSectionVars false
theorem of_call [Payload] {P : Program} (hP : NoCount P) (hm : P.follows .mixedOrders = true) {L : WgLink} (wg : WgLib P L) {Hl Ht : Hook} (hl0 : @HookOk ⟨false⟩ P Hl) (hl1 : @HookOk ⟨true⟩ P Hl) (ht : @HookOk ⟨true⟩ P Ht)
  {fuel na nt k kS n Ld d sz : Nat} {tyS : TypeId} {fin : List Value} {f : FuncId} {args : List Value} {v : Value} {keys keysS keysF : List Nat} {bs : List (Option CB)} {news : List CB} {TS TF : CallKind → Snap} (hkS : keepsAll sz keysS = true)
  (h : ∀ kd, kd = .normal ∨ kd = .deferred → headOne P (fRec P Hl Ld d) na f args kd sz keys bs keysS (TS kd) = some (TS kd).ks ∧
   @ManyOk ⟨false⟩ P (fRec P Hl Ld d) fuel k kS tyS n L (xf L) fin sz ((TS kd).stw keysS sz) ((TF kd).stw keysF sz) ∧ tailOne P (fRec P Ht Ld d) nt f kd v sz news ((TF kd).stw keysF sz) = true)
  (N : CH) (hsz : N.sz = sz) (hbs : keys.map N.get = bs) : @CallOk ⟨true⟩ P f args N v (N.pushL news) := by
 have b0 : @Base ⟨false⟩ P (fRec P Hl Ld d) (mkRec P Hl Ld d) L (xf L) := by
  letI : Hk := ⟨false⟩
  exact ⟨hP, hm, fRec_le Hl Ld d, mkRec_ok hP hm hl0 Ld d, xf_ok wg, wg⟩
 letI : Hk := ⟨true⟩
 refine mem_call hsz hbs fun kd hkd => ?_
 obtain ⟨h1, h2, h3⟩ := h kd hkd
 unfold headOne at h1
 split at h1
 rotate_left
 ·cases h1
 rename_i s0 hs0
 split at h1
 rotate_left
 ·cases h1
 rename_i S1 hS1
 split at h1
 rotate_left
 ·cases h1
 rename_i hb
 simp only [Bool.and_eq_true] at hb
 simp only [Option.some.injEq] at h1
 have r1 := krun_ok hP hm (fRec_le Hl Ld d) (mkRec_ok hP hm hl1 Ld d) na hS1
 have r2 := reach_snapw (P := P) S1 keysS (Nat.le_of_ble_eq_true hb.2) (keepsAll_eq hkS)
 rw [St.fits_eq hb.1 h1] at r2
 have r3 : Reach P ((TS kd).stw keysS sz) ((TF kd).stw keysF sz) := reach_of_many rfl fun lo E w O W hlo hs own under hu =>
  @many_comes ⟨false⟩ _ P (fRec P Hl Ld d) (mkRec P Hl Ld d) fuel k kS sz n tyS L (xf L) fin _ _ rfl b0 h2 lo E w O W hlo hs own under hu
 unfold tailOne at h3
 split at h3
 rotate_left
 ·cases h3
 rename_i S3 hS3
 split at h3
 rotate_left
 ·cases h3
 rename_i u hu
 simp only [Bool.and_eq_true] at h3
 obtain ⟨c1, c2, c3, c4⟩ := h3
 obtain rfl := sameV_eq _ _ c1
 have r4 := krun_ok hP hm (fRec_le Ht Ld d) (mkRec_ok hP hm ht Ld d) nt hS3
 exact ⟨s0, S3, hs0, ((r1.trans r2).trans r3).trans r4, hu, Nat.le_of_ble_eq_true c2, Nat.eq_of_beq_eq_true c3, newsAt_eq c4⟩
end
end Go.Eng
namespace Go.Eng
noncomputable section
open Go.Conc
set_option linter.unusedSimpArgs false
set_option linter.unusedVariables false
set_option linter.unusedSectionVars false
def finV (P : Program) (f : FuncId) (kd : CallKind) : St → Option Value
 | ⟨⟨fn, none, kd', true, ⟨n, t, []⟩, _⟩, [], N⟩ => if fn = f then if kd' = kd then match P.funcs[fn]? with
  | some fd => match fresult P ⟨n, t, []⟩ N fd.results.toList with
   | some vs => some (kresult vs)
   | none => none
  | none => none
  else none else none
 | _ => none
def finIs (P : Program) (f : FuncId) (v : Value) : Option St → Bool
 | some S => match finV P f .normal S with
  | some u => sameV u v
  | none => false
 | none => false
variable [Hk]
theorem finIs_eq {P : Program} {f : FuncId} {v : Value} {o : Option St} (h : finIs P f v o = true) : ∃ S, o = some S ∧ finV P f .normal S = some v := by
 cases o with
 | none => cases h
 | some S =>
  simp only [finIs] at h
  split at h
  ·rename_i u hu
   exact ⟨S, rfl, by rw [hu, sameV_eq _ _ h]⟩
  ·cases h
theorem finV_d {P : Program} {f : FuncId} {S T : St} {v : Value} (h : Alike S T) (hf : finV P f .normal S = some v) : finV P f .deferred T = some v := by
 rcases h.cases with ⟨h1, rfl⟩ | ⟨c, r, c', r', h1, rfl, _⟩
 ·unfold finV at hf
  split at hf
  rotate_left
  ·cases hf
  rename_i fn kd' n t kk N
  split at hf
  rotate_left
  ·cases hf
  rename_i e1
  split at hf
  rotate_left
  ·cases hf
  simp only [finV, SF.d]
  rw [if_pos e1, if_pos trivial]
  exact hf
 ·obtain ⟨t, cs, N⟩ := S
  simp only at h1
  subst h1
  simp [finV] at hf
theorem ready_own {P : Program} {lo : Nat} {S : St} {under : List Frame} {O W : Nat → Prop} {w : World} {E : Env} {f : FuncId} {kd : CallKind} {v : Value} (hs : SRel P E S w) (own : Own O W lo E S.N w) (hf : finV P f kd S = some v) :
  Clo E.D v ∧ ∃ fr, S.gor E under = G fr under ∧ fr.fn = f ∧ Ready P O w fr kd (E.m v) := by
 unfold finV at hf
 split at hf
 rotate_left
 ·cases hf
 rename_i fn kd' n t kk N
 split at hf
 rotate_left
 ·cases hf
 rename_i e1
 split at hf
 rotate_left
 ·cases hf
 rename_i e2
 subst e1; subst e2
 split at hf
 rotate_left
 ·cases hf
 rename_i fd hfd
 split at hf
 rotate_left
 ·cases hf
 rename_i vs hvs
 cases hf
 have hres : cresults P fd (⟨n, t, []⟩ : FA).abs.tmps N = some (kresult vs) := by
  unfold cresults
  rw [fresult_eq hs.top.a _ hvs, Option.map_some]
  cases vs with
  | nil => rfl
  | cons v r => cases r <;> rfl
 refine ⟨(results_ok hs.rel hs.top.clo.tmps hres).2, SF.frame E ⟨fn, none, kd', true, ⟨n, t, []⟩, kk⟩, rfl, rfl, rfl, rfl, rfl, fd, hfd, fun w1 hr => ?_⟩
 exact ⟨(results_ok (hs.rel.rely own hr) hs.top.clo.tmps hres).1, results_evs (hs.rel.rely own hr) (own.rely hr) hs.top.clo.tmps hres⟩
theorem plain_ran {P : Program} {f : FuncId} {args : List Value} {v : Value} (hargs : plainL args = true) (hv : plain v = true)
  (h : ∀ kd, kd = .normal ∨ kd = .deferred → ∃ s0 S, kenter P f args kd = some s0 ∧ Reach P ⟨s0, [], CH.first []⟩ S ∧ finV P f kd S = some v) (N : CH) : CallOk P f args N v N := by
 intro main J hctx lo E w O W hlo R own hcl kd cs hcs K hK
 obtain ⟨s0, S, hk, hr, hf⟩ := h kd hcs.1
 have hpl : ∀ (F : Env), args.map F.m = args := fun F => by
  have : ∀ u ∈ args, F.m u = u := fun u hu => m_plain F (plainL_all.1 hargs u hu)
  exact (List.map_congr_left this).trans (List.map_id _)
 have R0 : Rel P (Env.bare (fun _ => .nilFunc) (fun _ => rfl)) (CH.first []) w := rel_first (laid_none w) _ _
 obtain ⟨e1, e2, e3, e4, _⟩ := kenter_ok (E := Env.bare (fun _ => .nilFunc) (fun _ => rfl)) hk (fun u hu => Clo_plain _ _ (plainL_all.1 hargs u hu))
 rw [hpl] at e1 ⊢
 have hs0 : SRel P (Env.bare (fun _ => .nilFunc) (fun _ => rfl)) ⟨s0, [], CH.first []⟩ w := ⟨R0, e2, by simp, by
  refine ⟨?_, trivial⟩
  rw [e3]
  exact hcs.1.imp (fun h => h) fun h => ⟨h, .inl rfl⟩⟩
 have own0 : Own O W 0 (Env.bare (fun _ => .nilFunc) (fun _ => rfl)) (CH.first []) w := ⟨fun j hj hl => absurd hl (no_live hj), fun j hj hl _ => absurd hl (no_live hj), own.lt, Nat.zero_le _⟩
 have hg0 : St.gor (Env.bare (fun _ => .nilFunc) (fun _ => rfl)) ⟨s0, [], CH.first []⟩ cs = G (Frame.enter P f args.toArray kd) cs := by
  unfold St.gor
  rw [e1]
  rfl
 rw [← hg0]
 refine hr main J 0 _ w O W (Nat.zero_le _) hs0 own0 cs hcs.any K fun O' W' E' w' hs L => ?_
 have hrel : Rely O w w' := ⟨fun b hb => L.ext.frame b hb (own.lt b hb) fun k hk hl => absurd hl (no_live hk), L.ext.hsize, L.ext.os, L.ext.tape, L.ext.output⟩
 obtain ⟨_, fr, f1, f2, f3⟩ := ready_own (under := cs) hs L.own hf
 have L1 := Later.of_rely R own hrel
 have L2 : Later P lo O W E N w O' W' E N w' := ⟨L1.rel, ⟨fun k hk hl => L.oo _ (own.img k hk hl), fun k hk hl h => L.ww _ (own.wri k hk hl h), L.own.lt, own.low⟩, L1.ext, L.oo, L.ww, L.ou⟩
 rw [f1]
 refine hK O' W' E w' fr L2 (Clo_plain _ _ hv) f2 ?_
 rw [m_plain E hv]
 rw [m_plain E' hv] at f3
 exact f3
theorem last_v {P : Program} (hP : NoCount P) (hm : P.follows .mixedOrders = true) {Hf : Hook} (hH : HookOk P Hf) {L d n : Nat} {S : St} {f : FuncId} {v : Value} (h : finIs P f v (krun P (fRec P Hf L d) n S) = true) :
  (∃ T, Reach P S T ∧ finV P f .normal T = some v) ∧ ∀ S2, Alike S S2 → ∃ T, Reach P S2 T ∧ finV P f .deferred T = some v := by
 obtain ⟨S', h1, h2⟩ := finIs_eq h
 refine ⟨⟨S', krun_ok hP hm (fRec_le Hf L d) (mkRec_ok hP hm hH L d) n h1, h2⟩, fun S2 ha => ?_⟩
 obtain ⟨T', h3, h4⟩ := krun_d n ha h1
 exact ⟨T', krun_ok hP hm (fRec_le Hf L d) (mkRec_ok hP hm hH L d) n h3, finV_d h4 h2⟩
theorem pieces_hook {P : Program} {f : FuncId} {args : List Value} {v : Value} {is : List Value → Bool} (his : ∀ l, is l = true → l = args) (hb : (P.funcs[f]?).any (fun fn => fn.body.isSome) = true) (hargs : plainL args = true) (hv : plain v = true) {s0 : SF} (hk : kenter P f args .normal = some s0)
  (h : (∃ T, Reach P ⟨s0, [], CH.first []⟩ T ∧ finV P f .normal T = some v) ∧ ∀ S2, Alike ⟨s0, [], CH.first []⟩ S2 → ∃ T, Reach P S2 T ∧ finV P f .deferred T = some v) : HookOk P (hook1 f is v) := by
 refine hook1_of his hb (plain_ran hargs hv fun kd hkd => ?_)
 rcases hkd with rfl | rfl
 ·obtain ⟨T, h1, h2⟩ := h.1
  exact ⟨s0, T, hk, h1, h2⟩
 ·obtain ⟨s', h1, h2⟩ := kenter_d (N := CH.first []) hk
  obtain ⟨T, h3, h4⟩ := h.2 _ h2
  exact ⟨s', T, h1, h3, h4⟩
end
end Go.Eng
namespace Go.Eng
noncomputable section
open Go.Conc
set_option linter.unusedSimpArgs false
set_option linter.unusedVariables false
set_option linter.unusedSectionVars false
def kdo (P : Program) (A : Rec) : St → Option St
 | ⟨⟨fn, ar, kd, false, a, .reg ops i (o :: r) :: k⟩, cs, N⟩ => match fopStep P A ops ar o a N with
  | some (a', N') => some ⟨⟨fn, ar, kd, false, a', .reg ops (i + 1) r :: k⟩, cs, N'⟩
  | none => none
 | _ => none
def kleaps (P : Program) (A : Rec) : List Nat → St → Option St
 | [], S => some S
 | [n], S => krun P A n S
 | n :: l, S => match krun P A n S with
  | some S1 => match kdo P A S1 with
   | some S2 => kleaps P A l S2
   | none => none
  | none => none
variable [Hk]
theorem kdo_ok {P : Program} (hP : NoCount P) {A B : Rec} (hAB : A.Le B) (hB : RecOk P B) {S S' : St} (h : kdo P A S = some S') : Reach P S S' := by
 unfold kdo at h
 split at h
 rotate_left
 ·cases h
 rename_i fn ar kd a ops i o r k cs N
 split at h
 rotate_left
 ·cases h
 rename_i a' N' hd
 cases h
 intro main J hx lo E w O W hlo hs ow under hu K hK
 have ht := hs.top
 have hit : ∀ j o', (o :: r)[j]? = some o' → ops[i + j]? = some o' := ht.its (.reg ops i (o :: r)) (by simp)
 have ho : ops[i]? = some o := by simpa using hit 0 o rfl
 have hr : ∀ j o', r[j]? = some o' → ops[i + 1 + j]? = some o' := fun j o' hj => by
  have := hit (j + 1) o' (by simpa using hj)
  rwa [show i + (j + 1) = i + 1 + j by omega] at this
 obtain ⟨h1, h2⟩ := fopStep_ok hAB ho ht.a hd
 unfold St.gor
 rw [SF.frame_run E rfl]
 simp only [List.map_cons, It.item, List.length_cons, List.range'_succ]
 refine opStep_ok hP hB h1 hlo hs.rel ow ht.clo (SF.base E ⟨fn, ar, kd, false, a, .reg ops i (o :: r) :: k⟩) (fun har => by simp [SF.base, har]) (List.range' (i + 1) r.length) (k.map (It.item E)) (cs.map (SF.frame E) ++ under) (fun _ => caller_of hu hs.stk) fun O' W' E' w' L hclo => ?_
 have X := L.ext
 obtain ⟨x1, x2⟩ := SF.ext X ht
 have e1 := congrArg Frame.roundOf x1
 have e2 := congrArg Frame.todo x1
 simp only [SF.frame, List.map_cons, It.item, List.cons.injEq, true_and] at e1 e2
 have hfin := hK O' W' E' w' (hs.turn L.rel X ⟨h2, hclo, x2.ar, (fun it hit' => by
  rcases List.mem_cons.1 hit' with rfl | hit'
  ·exact hr
  ·exact x2.its it (by simp [hit'])), x2.ret, x2.kd⟩ rfl) L
 rw [gor_eq X hs.cs, SF.frame_run E' rfl] at hfin
 simp only [SF.base, e1, List.map_cons, It.item, e2] at hfin
 exact hfin
theorem kleaps_ok {P : Program} (hP : NoCount P) (hm : P.follows .mixedOrders = true) {A B : Rec} (hAB : A.Le B) (hB : RecOk P B) : ∀ (l : List Nat) {S S' : St}, kleaps P A l S = some S' → Reach P S S'
 | [], S, S', h => by
  simp only [kleaps, Option.some.injEq] at h
  subst h
  exact Reach.refl P S
 | [n], S, S', h => krun_ok hP hm hAB hB n h
 | n :: m :: l, S, S', h => by
  simp only [kleaps] at h
  split at h
  rotate_left
  ·cases h
  rename_i S1 h1
  split at h
  rotate_left
  ·cases h
  rename_i S2 h2
  exact ((krun_ok hP hm hAB hB n h1).trans (kdo_ok hP hAB hB h2)).trans (kleaps_ok hP hm hAB hB (m :: l) h)
theorem leaps_last {P : Program} (hP : NoCount P) (hm : P.follows .mixedOrders = true) {Hf : Hook} (hH : HookOk P Hf) {L d : Nat} {l : List Nat} {S : St} {f : FuncId} {v : Value × List (Option CB)} (h : (kleaps P (fRec P Hf L d) l S).bind (St.final P f) = some v) : ∃ S', Reach P S S' ∧ S'.final P f = some v := by
 obtain ⟨S', h1, h2⟩ := Option.bind_eq_some_iff.1 h
 exact ⟨S', kleaps_ok hP hm (fRec_le Hf L d) (mkRec_ok hP hm hH L d) l h1, h2⟩
end
end Go.Eng
namespace Go.Eng
noncomputable section
open Go.Conc
set_option linter.unusedSimpArgs false
set_option linter.unusedVariables false
set_option linter.unusedSectionVars false
def finOk (P : Program) (f : FuncId) (ok : Value → Bool) : Option St → Bool
 | some S => match finV P f .normal S with
  | some u => ok u
  | none => false
 | none => false
variable [Hk]
def Both (P : Program) (f : FuncId) (S : St) (v : Value) : Prop := (∃ T, Reach P S T ∧ finV P f .normal T = some v) ∧ ∀ S2, Alike S S2 → ∃ T, Reach P S2 T ∧ finV P f .deferred T = some v
theorem last_m {P : Program} (hP : NoCount P) (hm : P.follows .mixedOrders = true) {Hf : Hook} (hH : HookOk P Hf) {L d n : Nat} {S : St} {f : FuncId} {ok : Value → Bool} (h : finOk P f ok (krun P (fRec P Hf L d) n S) = true) : ∃ v, ok v = true ∧ Both P f S v := by
 cases hk : krun P (fRec P Hf L d) n S with
 | none => rw [hk] at h; cases h
 | some S' =>
  rw [hk] at h
  simp only [finOk] at h
  split at h
  ·rename_i u hu
   refine ⟨u, h, ⟨S', krun_ok hP hm (fRec_le Hf L d) (mkRec_ok hP hm hH L d) n hk, hu⟩, fun S2 ha => ?_⟩
   obtain ⟨T', h3, h4⟩ := krun_d n ha hk
   exact ⟨T', krun_ok hP hm (fRec_le Hf L d) (mkRec_ok hP hm hH L d) n h3, finV_d h4 hu⟩
  ·cases h
theorem piece_m {P : Program} (hP : NoCount P) (hm : P.follows .mixedOrders = true) {Hf : Hook} (hH : HookOk P Hf) {L d n : Nat} {S : St} {keys : List Nat} {T : Snap} {f : FuncId} {v : Value} (h : (krun P (fRec P Hf L d) n S).map (St.snap keys) = some T) (hr : Both P f (T.st keys) v) : Both P f S v := by
 obtain ⟨⟨T1, a1, a2⟩, hd⟩ := hr
 obtain ⟨S', h1, rfl⟩ := Option.map_eq_some_iff.1 h
 refine ⟨⟨T1, (reach_cut hP hm hH h).trans a1, a2⟩, fun S2 ha => ?_⟩
 obtain ⟨T', h3, h4⟩ := krun_d n ha h1
 obtain ⟨T3, c1, c2⟩ := hd ((T'.snap keys).st keys) (alike_snap h4 keys)
 exact ⟨T3, ((krun_ok hP hm (fRec_le Hf L d) (mkRec_ok hP hm hH L d) n h3).trans (reach_snap T' keys)).trans c1, c2⟩
end
end Go.Eng
namespace Go.Eng
noncomputable section
open Go.Conc
set_option linter.unusedSimpArgs false
set_option linter.unusedVariables false
set_option linter.unusedSectionVars false
variable [Hk]
def xstv (P : Program) (lo k : Nat) (S : St) : Option (Nat × List Value × St) := match S.opn lo with
 | some (o, nx) => match o.op with
  | .store t a x => match S.ev a with
   | some (.pointer (some ⟨b, off, none⟩)) => match S.ev x with
    | some v => match sizeT P t with
     | some n => if and (Nat.beq b k) (and (Nat.beq n v.cells.toList.length) (and (plain v) (and (plainL v.cells.toList) (v.cells.toList.all (·.oneCell'))))) = true then some (off, v.cells.toList, nx undef) else none
     | none => none
    | none => none
   | _ => none
  | _ => none
 | none => none
theorem xstv_eq {P : Program} {lo k off : Nat} {vs : List Value} {S S2 : St} (h : xstv P lo k S = some (off, vs, S2)) (hs : sameL vs vs = true) : xst P lo k off vs S = some S2 := by
 unfold xstv at h
 split at h
 rotate_left
 ·cases h
 rename_i o nx ho
 split at h
 rotate_left
 ·cases h
 rename_i t a x hop
 split at h
 rotate_left
 ·cases h
 rename_i b off' hp
 split at h
 rotate_left
 ·cases h
 rename_i v hv
 split at h
 rotate_left
 ·cases h
 rename_i n hn
 split at h
 rotate_left
 ·cases h
 rename_i hall
 simp only [Option.some.injEq, Prod.mk.injEq] at h
 obtain ⟨rfl, rfl, rfl⟩ := h
 simp only [Bool.and_eq_true] at hall
 obtain ⟨h1, h2, h3, h4, h5⟩ := hall
 obtain rfl := Nat.eq_of_beq_eq_true h1
 unfold xst
 simp only [ho, hop, hp, hv, hn]
 have e : isPtr b off' (.pointer (some ⟨b, off', none⟩)) = true := by simp [isPtr]
 rw [if_pos]
 simp only [Bool.and_eq_true]
 exact ⟨e, hs, h2, h3, h4, h5⟩
def xwaysU (P : Program) (A : Rec) (fuel m lo k kS : Nat) (d f : FuncId) (kC len : Nat) (ok : Value → Bool) : List Nat → St → Bool
 | [], S => and (xdd lo k d f (toStop P A m S)) (hasCell (toStop P A m S).N kC)
 | off :: r, S => match xbut P A (toStop P A fuel S) with
  | some S1 => match xstv P lo kS S1 with
   | some (o, vs, S2) => and (Nat.beq o off) (and (Nat.beq vs.length len) (and (vs.all ok) (xwaysU P A fuel m lo k kS d f kC len ok r S2)))
   | none => false
  | none => false
theorem sameL_all {ok : Value → Bool} (hok : ∀ v, ok v = true → sameV v v = true) : ∀ {l : List Value}, l.all ok = true → sameL l l = true
 | [], _ => rfl
 | v :: l, h => by
  simp only [List.all_cons, Bool.and_eq_true] at h
  simp only [sameL, Bool.and_eq_true]
  exact ⟨hok v h.1, sameL_all hok h.2⟩
theorem xwaysU_ok {P : Program} (hP : NoCount P) (hm : P.follows .mixedOrders = true) {A B : Rec} (hAB : A.Le B) (hB : RecOk P B) {fuel m lo k kS : Nat} {d f : FuncId} {kC len : Nat} {ok : Value → Bool} (hok : ∀ v, ok v = true → sameV v v = true) :
  ∀ {l : List Nat} {S : St}, xwaysU P A fuel m lo k kS d f kC len ok l S = true → ∃ sts : List (Nat × List Value), sts.map (·.1) = l ∧ (∀ p ∈ sts, p.2.length = len ∧ p.2.all ok = true) ∧ XWays P lo k kS d f kC sts S
 | [], S, h => by
  simp only [xwaysU, Bool.and_eq_true] at h
  exact ⟨[], rfl, by simp, .fin (toStop_reach hP hm hAB hB m S) h.1 h.2⟩
 | off :: r, S, h => by
  simp only [xwaysU] at h
  split at h
  ·rename_i S1 h1
   split at h
   ·rename_i o vs S2 h2
    simp only [Bool.and_eq_true] at h
    obtain ⟨a1, a2, a3, a4⟩ := h
    obtain rfl := Nat.eq_of_beq_eq_true a1
    obtain ⟨sts, b1, b2, b3⟩ := xwaysU_ok hP hm hAB hB hok a4
    refine ⟨(o, vs) :: sts, by simp [b1], ?_, .put ((toStop_reach hP hm hAB hB fuel S).trans (xbut_ok hP hm hAB hB h1)) (xstv_eq h2 (sameL_all hok a3)) b3⟩
    intro p hp
    rcases List.mem_cons.1 hp with rfl | hp
    ·exact ⟨Nat.eq_of_beq_eq_true a2, a3⟩
    ·exact b2 p hp
   ·cases h
  ·cases h
end
end Go.Eng
namespace Go.Eng
noncomputable section
open Go.Conc
open Go.Conc.Lib (WgLib WgLink)
open Go.ConcR (Payload)
set_option linter.unusedSimpArgs false
set_option linter.unusedVariables false
set_option linter.unusedSectionVars false
section
variable (P : Program) (A : Rec) (fuel m mf k kS kC wm wmF len : Nat) (ok : Value → Bool) (offs : List Nat) (done : FuncId) (row : CB) (x : XF) (kch keys keysF keysA : List Nat)
def addU (S0 : St) (v : Nat) : Option Snap := match xm0 k x.disable S0 with
 | some S1 => match addFlow P A fuel k k x v S1 with
  | some S2 => if Nat.ble k (toStop P A fuel S2).N.wm = true then some ((toStop P A fuel S2).snap keys) else none
  | none => none
 | none => none
def stopU (S : St) : Option Snap := if Nat.ble k (toStop P A fuel S).N.wm = true then some ((toStop P A fuel S).snap keys) else none
def layU (tWg : TypeId) (S : St) : Option Snap := match xal k tWg (S.lend kS) with
 | some SP0 => stopU P A fuel k keys SP0
 | none => none
def wkOf (SG : St) : Option (FuncId × St) := match SG.xgo k with
 | some (g, q, as, nx) => match kenter P g (as ++ q) .deferred with
  | some sf => some (g, ⟨sf, [], SG.N.only kch SG.N.sz⟩)
  | none => none
 | none => none
def goU (SG : St) : Option Snap := match SG.xgo k with
 | some (g, q, as, nx) => match kenter P g (as ++ q) .deferred with
  | some sf => match P.funcs[g]? with
   | some fd => if and (!(fd.name == "runtime.NumGoroutine")) (and (fd.results.toList.isEmpty) (and (hasCell SG.N kC) (and (Nat.ble (kC + 1) SG.N.sz) (and (Nat.ble k kC) (and (Nat.ble k SG.N.wm) (and (kch.elem kC) (and (readable kC k kch)
     (Nat.ble k (toStop P A fuel (spOf k kC SG)).N.wm)))))))) = true then some ((toStop P A fuel (spOf k kC SG)).snap keys) else none
   | none => none
  | none => none
 | none => none
def xtoU (lo : Nat) : List Nat → St → Option St
 | [], S => some S
 | off :: r, S => match xbut P A (toStop P A fuel S) with
  | some S1 => match xstv P lo kS S1 with
   | some (o, vs, S2) => if and (Nat.beq o off) (and (Nat.beq vs.length len) (vs.all ok)) = true then xtoU lo r S2 else none
   | none => none
  | none => none
def endOne (S : St) : Option Snap := if and (Nat.ble k S.N.wm) (Nat.beq S.N.base 0) = true then match krun P A mf (S.mend kS row wm) with
 | some T' => if Nat.ble wmF T'.N.wm = true then some (T'.snap keysF) else none
 | none => none
 else none
def zeroU (S : St) : Option Snap := match loadFlow P A fuel k k x 0 S with
 | some (T, none) => endOne P A mf k kS wm wmF row keysF T
 | _ => none
def moreU (v : Nat) (S : St) : Option (Snap × Snap) := match loadFlow P A fuel k k x (v + 1) S with
 | some (T, some SM) => match endOne P A mf k kS wm wmF row keysF T with
  | some sn => if Nat.ble k SM.N.wm = true then some (sn, SM.snap keysA) else none
  | none => none
 | _ => none
def headU (n : Nat) (f : FuncId) (args : List Value) (kd : CallKind) (sz : Nat) (keys : List Nat) (bs : List (Option CB)) (keysF : List Nat) : Option Snap := match kenter P f args kd with
 | some s0 => match krun P A n ⟨s0, [], CH.small sz keys bs⟩ with
  | some S => if Nat.ble sz S.N.wm = true then some (S.snap keysF) else none
  | none => none
 | none => none
end
variable [Hk]
section
variable {P : Program} {A B : Rec} {fuel m mf k kS kC wm wmF len n mw : Nat} {ok : Value → Bool} {offs : List Nat} {tyS : TypeId} {row : CB} {L : WgLink} {x : XF} {kch keys keysF keysA : List Nat} {T TF : Snap}
theorem addU_ok (hP : NoCount P) (hm : P.follows .mixedOrders = true) (hAB : A.Le B) (hB : RecOk P B) (hk : keepsAll k keys = true) {S0 : St} {v : Nat} (h : addU P A fuel k x keys S0 v = some T) :
  ∃ S1 S2, xm0 k x.disable S0 = some S1 ∧ addFlow P A fuel k k x v S1 = some S2 ∧ Reach P S2 (T.stw keys k) := by
 unfold addU at h
 split at h
 rotate_left
 ·cases h
 rename_i S1 h1
 split at h
 rotate_left
 ·cases h
 rename_i S2 h2
 split at h
 rotate_left
 ·cases h
 rename_i hb
 cases h
 exact ⟨S1, S2, h1, h2, (toStop_reach hP hm hAB hB fuel S2).trans (reach_snapw (P := P) (toStop P A fuel S2) keys (Nat.le_of_ble_eq_true hb) (keepsAll_eq hk))⟩
theorem addsU_ok (hP : NoCount P) (hm : P.follows .mixedOrders = true) (hAB : A.Le B) (hB : RecOk P B) (hk : keepsAll k keys = true) {S S0 : St} (h0 : Reach P S S0) {i : Nat}
  (h : ∀ v, v ≤ i → addU P A fuel k x keys S0 v = some T) : AddOk P A fuel k k x i S (T.stw keys k) := by
 obtain ⟨S1, _, h1, _, _⟩ := addU_ok hP hm hAB hB hk (h 0 (Nat.zero_le _))
 refine ⟨⟨S0, S1, h0, h1, fun v hv => ?_⟩, Nat.le_refl _⟩
 obtain ⟨S1', S2, a1, a2, a3⟩ := addU_ok hP hm hAB hB hk (h v hv)
 rw [h1] at a1
 cases a1
 exact ⟨S2, a2, a3⟩
theorem stopU_ok (hP : NoCount P) (hm : P.follows .mixedOrders = true) (hAB : A.Le B) (hB : RecOk P B) (hk : keepsAll k keys = true) {S : St} (h : stopU P A fuel k keys S = some T) : Reach P S (T.stw keys k) := by
 unfold stopU at h
 split at h
 rotate_left
 ·cases h
 rename_i hb
 cases h
 exact (toStop_reach hP hm hAB hB fuel S).trans (reach_snapw (P := P) (toStop P A fuel S) keys (Nat.le_of_ble_eq_true hb) (keepsAll_eq hk))
def Way (P : Program) (lo k kS : Nat) (d : FuncId) (kC len : Nat) (ok : Value → Bool) (offs : List Nat) (g : FuncId) (S : St) : Prop :=
 ∃ sts : List (Nat × List Value), sts.map (·.1) = offs ∧ (∀ p ∈ sts, p.2.length = len ∧ p.2.all ok = true) ∧ XWays P lo k kS d g kC sts S
theorem way_of (hP : NoCount P) (hm : P.follows .mixedOrders = true) (hAB : A.Le B) (hB : RecOk P B) (hok : ∀ v, ok v = true → sameV v v = true) {lo : Nat} {d g : FuncId} {S : St} (h : xwaysU P A fuel m lo k kS d g kC len ok offs S = true) : Way P lo k kS d kC len ok offs g S := xwaysU_ok hP hm hAB hB hok h
theorem Way.from {lo : Nat} {d g : FuncId} {S S' : St} (h : Reach P S S') (hw : Way P lo k kS d kC len ok offs g S') : Way P lo k kS d kC len ok offs g S := by
 obtain ⟨sts, a1, a2, a3⟩ := hw
 exact ⟨sts, a1, a2, a3.from h⟩
theorem xtoU_ok (hP : NoCount P) (hm : P.follows .mixedOrders = true) (hAB : A.Le B) (hB : RecOk P B) (hok : ∀ v, ok v = true → sameV v v = true) {lo : Nat} {d g : FuncId} {offs2 : List Nat} {S' : St} (hw : Way P lo k kS d kC len ok offs2 g S') :
  ∀ {l : List Nat} {S : St}, xtoU P A fuel kS len ok lo l S = some S' → Way P lo k kS d kC len ok (l ++ offs2) g S
 | [], S, h => by
  cases h
  exact hw
 | off :: r, S, h => by
  simp only [xtoU] at h
  split at h
  ·rename_i S1 h1
   split at h
   ·rename_i o vs S2 h2
    split at h
    ·rename_i hb
     simp only [Bool.and_eq_true] at hb
     obtain ⟨b1, b2, b3⟩ := hb
     obtain rfl := Nat.eq_of_beq_eq_true b1
     obtain ⟨sts, a1, a2, a3⟩ := xtoU_ok hP hm hAB hB hok hw h
     refine ⟨(o, vs) :: sts, by simp [a1], fun p hp => ?_, .put ((toStop_reach hP hm hAB hB fuel S).trans (xbut_ok hP hm hAB hB h1)) (xstv_eq h2 (sameL_all hok b3)) a3⟩
     rcases List.mem_cons.1 hp with rfl | hp
     ·exact ⟨Nat.eq_of_beq_eq_true b2, b3⟩
     ·exact a2 p hp
    ·cases h
   ·cases h
  ·cases h
theorem way_seg (hP : NoCount P) (hm : P.follows .mixedOrders = true) (hAB : A.Le B) (hB : RecOk P B) (hok : ∀ v, ok v = true → sameV v v = true) {lo : Nat} {d g : FuncId} {offs2 l : List Nat} {S : St} (hk : keepsAll lo keys = true)
  (h : (xtoU P A fuel kS len ok lo l S).bind (fun S' => if Nat.ble lo S'.N.wm = true then some (S'.snap keys) else none) = some T) (hw : Way P lo k kS d kC len ok offs2 g (T.stw keys lo)) : Way P lo k kS d kC len ok (l ++ offs2) g S := by
 cases hx : xtoU P A fuel kS len ok lo l S with
 | none => rw [hx] at h; cases h
 | some S' =>
  rw [hx] at h
  simp only [Option.bind_some] at h
  split at h
  ·rename_i hb
   cases h
   exact xtoU_ok hP hm hAB hB hok (hw.from (reach_snapw (P := P) S' keys (Nat.le_of_ble_eq_true hb) (keepsAll_eq hk))) hx
  ·cases h
theorem goU_ok (hP : NoCount P) (hm : P.follows .mixedOrders = true) (hAB : A.Le B) (hB : RecOk P B) (hk : keepsAll k keys = true) {SG : St} (h : goU P A fuel k kC kch keys SG = some T)
  (hw : ∀ g S, wkOf P k kch SG = some (g, S) → Way P SG.N.sz k kS L.done kC len ok offs g S) :
  (∃ sts : List (Nat × List Value), sts.map (·.1) = offs ∧ (∀ p ∈ sts, p.2.length = len ∧ p.2.all ok = true) ∧ GoXOk P k k kS sts k kC L.done SG (spOf k kC SG) kch) ∧ Reach P (spOf k kC SG) (T.stw keys k) := by
 unfold goU at h
 split at h
 rotate_left
 ·cases h
 rename_i g q as nx hx
 split at h
 rotate_left
 ·cases h
 rename_i sf hsf
 split at h
 rotate_left
 ·cases h
 rename_i fd hfd
 split at h
 rotate_left
 ·cases h
 rename_i hall
 simp only [Bool.and_eq_true] at hall
 obtain ⟨c2, c3, c4, c5, c6, c7, c8, c9, c11⟩ := hall
 cases h
 obtain ⟨sts, d1, d2, d3⟩ := hw g ⟨sf, [], SG.N.only kch SG.N.sz⟩ (by unfold wkOf; rw [hx]; simp only [hsf])
 exact ⟨⟨sts, d1, d2, ⟨⟨g, q, as, nx, sf, fd, hx, hsf, d3, by simp only [spOf, hx], hfd, by simpa using c2, Array.ext' (List.isEmpty_iff.1 c3)⟩, c4, Nat.le_of_ble_eq_true c5, Nat.le_of_ble_eq_true c6, Nat.le_of_ble_eq_true c7, Nat.le_of_ble_eq_true c6, List.elem_iff.1 c8, c9⟩⟩,
  (toStop_reach hP hm hAB hB fuel _).trans (reach_snapw (P := P) (toStop P A fuel (spOf k kC SG)) keys (Nat.le_of_ble_eq_true c11) (keepsAll_eq hk))⟩
theorem endOne_ok (hP : NoCount P) (hm : P.follows .mixedOrders = true) (hAB : A.Le B) (hB : RecOk P B) (hk : keepsAll wmF keysF = true) {S : St} (h : endOne P A mf k kS wm wmF row keysF S = some TF) :
  (k ≤ S.N.wm ∧ S.N.base = 0) ∧ Reach P (S.mend kS row wm) (TF.stw keysF wmF) := by
 unfold endOne at h
 split at h
 rotate_left
 ·cases h
 rename_i h1
 split at h
 rotate_left
 ·cases h
 rename_i T' h2
 split at h
 rotate_left
 ·cases h
 rename_i h3
 cases h
 simp only [Bool.and_eq_true] at h1
 exact ⟨⟨Nat.le_of_ble_eq_true h1.1, Nat.eq_of_beq_eq_true h1.2⟩, (krun_ok hP hm hAB hB mf h2).trans (reach_snapw (P := P) T' keysF (Nat.le_of_ble_eq_true h3) (keepsAll_eq hk))⟩
theorem wait_okU {mf2 : Nat} (hP : NoCount P) (hm : P.follows .mixedOrders = true) (hAB : A.Le B) (hB : RecOk P B) (hkF : keepsAll wmF keysF = true) (hkA : keepsAll k keysA = true) {a : Nat → St} {TA : Nat → Snap} {tgt : Nat → Nat → Nat}
  (ha : ∀ j, 1 ≤ j → j ≤ mw → a j = (TA j).stw keysA k) (ha0 : k ≤ (a 0).N.wm) (htgt : ∀ i v, i ≤ mw → v < n → 1 ≤ tgt i v ∧ tgt i v ≤ mw)
  (hz : ∀ i, i ≤ mw → zeroU P A fuel mf k kS wm wmF row x keysF (a i) = some TF)
  (hs : ∀ i v, i ≤ mw → v < n → moreU P A fuel mf2 k kS wm wmF row x keysF keysA v (a i) = some (TF, TA (tgt i v))) :
  WaitOk P A fuel k k x n mw a (fun T => (k ≤ T.N.wm ∧ T.N.base = 0) ∧ Reach P (T.mend kS row wm) (TF.stw keysF wmF)) := by
 refine ⟨fun i hi => ?_, fun i v hi hv => ?_, fun i hi => ?_⟩
 ·have h := hz i hi
  unfold zeroU at h
  split at h
  ·rename_i T hT
   exact ⟨T, hT, endOne_ok hP hm hAB hB hkF h⟩
  ·cases h
 ·have h := hs i v hi hv
  unfold moreU at h
  split at h
  ·rename_i T SM hT
   split at h
   ·rename_i sn hsn
    split at h
    ·rename_i hb
     simp only [Option.some.injEq, Prod.mk.injEq] at h
     obtain ⟨rfl, h2⟩ := h
     obtain ⟨t1, t2⟩ := htgt i v hi hv
     refine ⟨T, SM, tgt i v, hT, endOne_ok hP hm hAB hB hkF hsn, t2, ?_⟩
     have := reach_snapw (P := P) SM keysA (Nat.le_of_ble_eq_true hb) (keepsAll_eq hkA)
     rw [h2] at this
     rw [ha _ t1 t2]
     exact this
    ·cases h
   ·cases h
  ·cases h
 ·cases i with
  | zero => exact ha0
  | succ i =>
   rw [ha (i + 1) (by omega) hi]
   exact Nat.le_refl _
structure Stripes (n len total : Nat) (offs : Nat → List Nat) : Prop where
 few : ∀ i, i < n → (offs i).length ≤ 900
 inn : ∀ i, i < n → ∀ o ∈ offs i, o + len ≤ total
 far : ∀ i j, i < n → j < n → i ≠ j → ∀ o ∈ offs i, ∀ o' ∈ offs j, o + len ≤ o' ∨ o' + len ≤ o
 own : ∀ i, i < n → (offs i).Pairwise fun o o' => o + len ≤ o' ∨ o' + len ≤ o
 all : ∀ d, d < total → ∃ i o, i < n ∧ o ∈ offs i ∧ o ≤ d ∧ d < o + len
theorem row_of {offs : Nat → List Nat} {total : Nat} (hst : Stripes n len total offs) {sts : Nat → List (Nat × List Value)} (h1 : ∀ i, i < n → (sts i).map (·.1) = offs i) (h2 : ∀ i, i < n → ∀ p ∈ sts i, p.2.length = len ∧ p.2.all ok = true) :
  ∃ fin : List Value, fin.length = total ∧ fin.all ok = true ∧ ∀ d, d < fin.length → ∃ i p j v, i < n ∧ p ∈ sts i ∧ d = p.1 + j ∧ p.2[j]? = some v ∧ fin[d]? = some v := by
 have key : ∀ d, d < total → ∃ v, ok v = true ∧ ∃ i p j, i < n ∧ p ∈ sts i ∧ d = p.1 + j ∧ p.2[j]? = some v := by
  intro d hd
  obtain ⟨i, o, hi, ho, a1, a2⟩ := hst.all d hd
  rw [← h1 i hi] at ho
  obtain ⟨p, hp, rfl⟩ := List.mem_map.1 ho
  obtain ⟨b1, b2⟩ := h2 i hi p hp
  have hlt : d - p.1 < p.2.length := by omega
  refine ⟨p.2[d - p.1], List.all_eq_true.1 b2 _ (List.getElem_mem hlt), i, p, d - p.1, hi, hp, by omega, List.getElem?_eq_getElem hlt⟩
 let f : Nat → Value := fun d => if h : d < total then Classical.choose (key d h) else .nilFunc
 have hf : ∀ d (h : d < total), ok (f d) = true ∧ ∃ i p j, i < n ∧ p ∈ sts i ∧ d = p.1 + j ∧ p.2[j]? = some (f d) := by
  intro d h
  have := Classical.choose_spec (key d h)
  simp only [f, h, dite_true]
  exact this
 refine ⟨(List.range total).map f, by simp, ?_, fun d hd => ?_⟩
 ·rw [List.all_eq_true]
  intro v hv
  obtain ⟨d, hd, rfl⟩ := List.mem_map.1 hv
  exact (hf d (List.mem_range.1 hd)).1
 ·have hd' : d < total := by simpa using hd
  obtain ⟨i, p, j, a1, a2, a3, a4⟩ := (hf d hd').2
  exact ⟨i, p, j, f d, a1, a2, a3, a4, by simp [hd']⟩
end
end
end Go.Eng
namespace Go.Eng
noncomputable section
open Go.Conc
open Go.Conc.Lib (WgLib WgLink)
open Go.ConcR (Payload)
set_option linter.unusedSimpArgs false
set_option linter.unusedVariables false
set_option linter.unusedSectionVars false
def baseOkU (k kS : Nat) (tyS : TypeId) (total n wm wmF r : Nat) (S : St) : Bool :=
 and (and (Nat.beq S.N.sz k) (and (Nat.ble (kS + 1) k) (Nat.ble LIM kS))) (and (match S.N.get kS with | some (.row cells t false) => and (Nat.beq t tyS) (Nat.beq cells.length total) | _ => false)
  (and (match S.ev (.tmp r) with | some (.slice (some ⟨b, 0, none⟩) _ _) => Nat.beq b kS | _ => false) (and (Nat.ble (n + 1) 2147483647) (and (Nat.ble wm S.N.wm) (and (Nat.ble wm kS) (Nat.ble wmF wm))))))
theorem baseOkU_eq {k kS : Nat} {tyS : TypeId} {total n wm wmF r : Nat} {S : St} (h : baseOkU k kS tyS total n wm wmF r S = true) :
  ∃ cells l c, S.N.sz = k ∧ kS < k ∧ LIM ≤ kS ∧ S.N.get kS = some (.row cells tyS false) ∧ cells.length = total ∧ S.ev (.tmp r) = some (.slice (some ⟨kS, 0, none⟩) l c) ∧ n < 2147483647 ∧ wm ≤ S.N.wm ∧ wm ≤ kS ∧ wmF ≤ wm := by
 simp only [baseOkU, Bool.and_eq_true] at h
 obtain ⟨⟨a1, a2, a3⟩, a4, a5, a7, a8, a9, a10⟩ := h
 split at a4
 rotate_left
 ·cases a4
 rename_i cells t hg
 split at a5
 rotate_left
 ·cases a5
 rename_i b l c he
 rw [Bool.and_eq_true] at a4
 obtain rfl := Nat.eq_of_beq_eq_true a4.1
 obtain rfl := Nat.eq_of_beq_eq_true a5
 exact ⟨cells, l, c, Nat.eq_of_beq_eq_true a1, Nat.le_of_ble_eq_true a2, Nat.le_of_ble_eq_true a3, hg, Nat.eq_of_beq_eq_true a4.2, he, Nat.le_of_ble_eq_true a7, Nat.le_of_ble_eq_true a8, Nat.le_of_ble_eq_true a9, Nat.le_of_ble_eq_true a10⟩
variable [Hk]
section
variable {P : Program} {A B : Rec} {fuel m mf k kS wm wmF len n total : Nat} {ok : Value → Bool} {tyS : TypeId} {L : WgLink} {x : XF} {keysF keysA : List Nat}
theorem many_okU {mf2 : Nat} (hP : NoCount P) (hm : P.follows .mixedOrders = true) (hAB : A.Le B) (hB : RecOk P B) (hok : ∀ v, ok v = true → sameV v v = true) (hokp : ∀ v, ok v = true → plain v = true)
  {S : St} {TI TG TA : Nat → Snap} {TF : List Value → Snap} {keysI keysG : Nat → List Nat} {kC : Nat → Nat} {kch : Nat → List Nat} {offs : Nat → List Nat} {r : Nat} (hst : Stripes n len total offs)
  (hbase : baseOkU k kS tyS total n wm wmF r S = true)
  (hlay : layU P A fuel k kS (keysI 0) L.tWg S = some (TI 0)) (hkI : ∀ i, i ≤ n → keepsAll k (keysI i) = true) (hkG : ∀ i, i < n → keepsAll k (keysG i) = true) (hkF : keepsAll wmF keysF = true) (hkA : keepsAll k keysA = true)
  (hadd : ∀ i, i < n → ∀ v, v ≤ i → addU P A fuel k x (keysG i) ((TI i).stw (keysI i) k) v = some (TG i))
  (hgo : ∀ i, i < n → goU P A fuel k (kC i) (kch i) (keysI (i + 1)) ((TG i).stw (keysG i) k) = some (TI (i + 1)))
  (hway : ∀ i, i < n → ∀ g S, wkOf P k (kch i) ((TG i).stw (keysG i) k) = some (g, S) → Way P (TG i).sz k kS L.done (kC i) len ok (offs i) g S)
  (hdis : disOk k x ((TI n).stw (keysI n) k) = true)
  (hz0 : ∀ fin, zeroU P A fuel mf k kS wm wmF (.row fin tyS false) x keysF (disOf k x ((TI n).stw (keysI n) k)) = some (TF fin))
  (hs0 : ∀ v, v < n → ∀ fin, moreU P A fuel mf2 k kS wm wmF (.row fin tyS false) x keysF keysA v (disOf k x ((TI n).stw (keysI n) k)) = some (TF fin, TA (v + 1)))
  (hz1 : ∀ j, 1 ≤ j → j ≤ n + n → ∀ fin, zeroU P A fuel mf k kS wm wmF (.row fin tyS false) x keysF ((TA j).stw keysA k) = some (TF fin))
  (hs1 : ∀ j v, 1 ≤ j → j ≤ n + n → v < n → ∀ fin, moreU P A fuel mf2 k kS wm wmF (.row fin tyS false) x keysF keysA v ((TA j).stw keysA k) = some (TF fin, TA (n + 1 + v))) :
  ∃ fin : List Value, fin.length = total ∧ fin.all ok = true ∧ ManyOk P A fuel k kS tyS n L x fin wm S ((TF fin).stw keysF wmF) := by
 have hgo' : ∀ i, ∃ sts : List (Nat × List Value), i < n → (sts.map (·.1) = offs i ∧ (∀ p ∈ sts, p.2.length = len ∧ p.2.all ok = true) ∧ GoXOk P k k kS sts k (kC i) L.done ((TG i).stw (keysG i) k) (spOf k (kC i) ((TG i).stw (keysG i) k)) (kch i)) ∧
   Reach P (spOf k (kC i) ((TG i).stw (keysG i) k)) ((TI (i + 1)).stw (keysI (i + 1)) k) := by
  intro i
  by_cases hi : i < n
  ·obtain ⟨⟨sts, h1⟩, h2⟩ := goU_ok hP hm hAB hB (hkI (i + 1) (by omega)) (hgo i hi) (hway i hi)
   exact ⟨sts, fun _ => ⟨h1, h2⟩⟩
  ·exact ⟨[], fun h => absurd h hi⟩
 obtain ⟨sts, hsts⟩ := Classical.axiomOfChoice hgo'
 obtain ⟨fin, hlen, hall, hcov⟩ := row_of hst (sts := sts) (fun i hi => (hsts i hi).1.1) (fun i hi => (hsts i hi).1.2.1)
 refine ⟨fin, hlen, hall, ?_⟩
 obtain ⟨cells, l, c, b1, b2, b3, b4, b5, b6, b7, b8, b9, b10⟩ := baseOkU_eq hbase
 have hplain : plainL fin = true := plainL_all.2 fun v hv => hokp v (List.all_eq_true.1 hall v hv)
 unfold layU at hlay
 split at hlay
 rotate_left
 ·cases hlay
 rename_i SP0 hSP0
 unfold disOk at hdis
 split at hdis
 rotate_left
 ·cases hdis
 rename_i a0 ha0
 have hd0 : disOf k x ((TI n).stw (keysI n) k) = a0 := by simp only [disOf, ha0]
 rw [hd0] at hz0 hs0
 let a : Nat → St := fun j => if j = 0 then a0 else (TA j).stw keysA k
 have e0 : a 0 = a0 := if_pos rfl
 have e1 : ∀ j, 1 ≤ j → a j = (TA j).stw keysA k := fun j hj => if_neg (by omega)
 have hmem : ∀ i, i < n → ∀ p ∈ sts i, p.1 ∈ offs i ∧ p.2.length = len := fun i hi p hp => ⟨by rw [← (hsts i hi).1.1]; exact List.mem_map.2 ⟨p, hp, rfl⟩, ((hsts i hi).1.2.1 p hp).1⟩
 have hsp : ∀ i, i ≤ n → Reach P (match i with | 0 => SP0 | j + 1 => spOf k (kC j) ((TG j).stw (keysG j) k)) ((TI i).stw (keysI i) k) := by
  intro i hi
  cases i with
  | zero => exact stopU_ok hP hm hAB hB (hkI 0 (Nat.zero_le _)) hlay
  | succ j => exact (hsts j (by omega)).2
 refine ⟨⟨cells, r, l, c, fun i => match i with | 0 => SP0 | j + 1 => spOf k (kC j) ((TG j).stw (keysG j) k), fun i => (TG i).stw (keysG i) k, kC, kch, sts, a, n + n, ⟨b1, b2, b3, b4, b5.trans hlen.symm, b6, hplain, b7, b8, b9, b10⟩, hSP0,
  fun i hi => addsU_ok hP hm hAB hB (hkG i hi) (hsp i (by omega)) (hadd i hi), fun i hi => (hsts i hi).1.2.2,
  fun i hi => ⟨by rw [← List.length_map (f := (·.1)), (hsts i hi).1.1]; exact hst.few i hi, fun p hp => ?_⟩, fun i j hi hj hne p hp q hq => ?_, fun i hi => ?_, hcov, ⟨_, hsp n (Nat.le_refl _), by rw [e0]; exact ha0⟩, ?_⟩⟩
 ·obtain ⟨m1, m2⟩ := hmem i hi p hp
  rw [m2, hlen]
  exact hst.inn i hi _ m1
 ·obtain ⟨m1, m2⟩ := hmem i hi p hp
  obtain ⟨m3, m4⟩ := hmem j hj q hq
  simp only [Far, m2, m4]
  exact hst.far i j hi hj hne _ m1 _ m3
 ·have hp := hst.own i hi
  rw [← (hsts i hi).1.1, List.pairwise_map] at hp
  refine hp.imp_of_mem fun {p q} m1 m2 h => ?_
  simp only [Far, (hmem i hi p m1).2, (hmem i hi q m2).2]
  exact h
 refine wait_okU (mf := mf) (mf2 := mf2) (TA := TA) (tgt := fun i v => if i = 0 then v + 1 else n + 1 + v) hP hm hAB hB hkF hkA (fun j h1 _ => e1 j h1) (by rw [e0]; exact Nat.le_of_ble_eq_true hdis) ?_ ?_ ?_
 ·intro i v hi hv
  show 1 ≤ (if i = 0 then v + 1 else n + 1 + v) ∧ (if i = 0 then v + 1 else n + 1 + v) ≤ n + n
  split <;> omega
 ·intro i hi
  by_cases h : i = 0
  ·subst h
   rw [e0]
   exact hz0 fin
  ·rw [e1 i (by omega)]
   exact hz1 i (by omega) hi fin
 ·intro i v hi hv
  by_cases h : i = 0
  ·subst h
   rw [e0]
   exact hs0 v hv fin
  ·rw [e1 i (by omega)]
   have : (if i = 0 then v + 1 else n + 1 + v) = n + 1 + v := if_neg h
   simp only [this]
   exact hs1 i v (by omega) hi hv fin
end
end
end Go.Eng
namespace Go.Eng
noncomputable section
open Go.Conc
open Go.Conc.Lib (WgLib WgLink)
open Go.ConcR (Payload)
set_option linter.unusedSimpArgs false
set_option linter.unusedVariables false
set_option linter.unusedSectionVars false
theorem tail_d {P : Program} {A : Rec} {n : Nat} {f : FuncId} {v : Value} {sz : Nat} {news : List CB} {S S2 : St} (ha : Alike S S2) (h : tailOne P A n f .normal v sz news S = true) : tailOne P A n f .deferred v sz news S2 = true := by
 unfold tailOne at h
 split at h
 rotate_left
 ·cases h
 rename_i S' hS'
 split at h
 rotate_left
 ·cases h
 rename_i u hu
 obtain ⟨T', h1, h2⟩ := krun_d n ha hS'
 unfold tailOne
 rw [h1]
 simp only [finVal_d h2 hu, h2.1]
 exact h
end
end Go.Eng
namespace Go.Eng
noncomputable section
open Go.Conc
open Go.Conc.Lib (WgLib WgLink)
open Go.ConcR (Payload)
set_option linter.unusedSimpArgs false
set_option linter.unusedVariables false
set_option linter.unusedSectionVars false
def byteF (g : Nat → Int) (i : Nat) : Value := .int .u8 (g i)
def St.far (k n : Nat) (g : Nat → Int) (e : TypeId) (S : St) : St := ⟨S.top, S.cs, S.N.set k (.far n (byteF g) e)⟩
def isB8 : Value → Bool
 | .int .u8 _ => true
 | _ => false
theorem bytes_of : ∀ l : List Value, l.all isB8 = true → ∃ g : Nat → Int, l = (List.range l.length).map (byteF g) := by
 intro l h
 refine ⟨fun i => match l[i]? with | some (.int _ n) => n | _ => 0, ?_⟩
 apply List.ext_getElem?
 intro i
 rw [List.getElem?_map]
 rcases Nat.lt_or_ge i l.length with hi | hi
 ·rw [List.getElem?_range hi]
  have hx := List.all_eq_true.1 h _ (List.getElem_mem hi)
  have e := List.getElem?_eq_getElem hi
  rw [e]
  simp only [Option.map_some, byteF, e]
  revert hx
  generalize l[i] = v
  intro hx
  unfold isB8 at hx
  split at hx
  ·rfl
  ·cases hx
 ·rw [List.getElem?_eq_none hi, List.getElem?_eq_none (by simpa using hi)]
  rfl
section
variable [Hk]
theorem Reach.far {P : Program} (S : St) {k n : Nat} {g : Nat → Int} {e : TypeId} (hg : S.N.get k = some (.row ((List.range n).map (byteF g)) e false)) (hlt : k < S.N.sz) : Reach P S (S.far k n g e) := by
 intro main J _ lo E w O W hlo hs own under hu K hK
 have R := hs.rel
 have hb := CH.base_le hg
 have get : ∀ j, (S.far k n g e).N.get j = if j = k then some (.far n (byteF g) e) else S.N.get j := fun j => CH.get_set R.ok hb hlt j _
 have live : ∀ j, (S.far k n g e).N.live j ↔ S.N.live j := by
  intro j
  unfold CH.live
  rw [get]
  split
  ·rename_i h
   subst h
   rw [hg]
   exact ⟨fun _ => ⟨_, rfl, rfl⟩, fun _ => ⟨_, rfl, rfl⟩⟩
  ·exact Iff.rfl
 have hsz : (S.far k n g e).N.sz = S.N.sz := rfl
 have rel : Rel P E (S.far k n g e).N w := by
  refine ⟨CH.ok_set R.ok hb hlt _, R.gl, R.dom, fun i j hi hj li lj h => R.inj i j hi hj ((live i).1 li) ((live j).1 lj) h, fun j b hj hjb => ?_⟩
  rw [get] at hjb
  split at hjb
  ·rename_i h
   subst h
   cases hjb
   have h1 := R.blk _ _ hj hg
   exact h1
  ·exact R.blk j b hj hjb
 have ow : Own O W lo E (S.far k n g e).N w := ⟨fun j hj hl => own.img j hj ((live j).1 hl), fun j hj hl h => own.wri j hj ((live j).1 hl) h, own.lt, own.low⟩
 have hwm := CH.set_wm S.N k (.far n (byteF g) e)
 have ext : ExtC O E S.N w E (S.far k n g e).N w := by
  have X := ExtC.refl O E S.N w
  refine ⟨X.mono, X.new, fun j h1 h2 => absurd h2 (by rw [hsz]; omega), Nat.le_refl _, X.hsize, fun j hj => .inl hj, fun j hj hl => (live j).1 hl, hwm.1, fun j h1 h2 => ?_, X.frame, X.os, X.tape, ?_, ?_⟩
  ·rw [get, if_neg]
   intro h
   subst h
   exact absurd h2 (by have : (S.far j n g e).N.wm ≤ j := hwm.2; omega)
  all_goals first | exact X.output | exact X.op | skip
 exact hK O W E w ⟨rel, hs.top, hs.cs, hs.stk⟩ ⟨rel, ow, ext, fun _ h => h, fun _ h => h, fun _ h => .inl h⟩
end
section
variable [Hk]
def Tails (P : Program) (f : FuncId) (kd : CallKind) (v : Value) (sz : Nat) (news : List CB) (S : St) : Prop :=
 ∃ S3, Reach P S S3 ∧ Fin P f kd v S3 ∧ sz ≤ S3.N.wm ∧ S3.N.sz = sz + news.length ∧ ∀ i b, news[i]? = some b → b.isDead = true ∨ S3.N.get (sz + i) = some b
theorem tails_last {P : Program} (hP : NoCount P) (hm : P.follows .mixedOrders = true) {H : Hook} (hH : HookOk P H) {Ld d n sz : Nat} {f : FuncId} {kd : CallKind} {v : Value} {news : List CB} {S : St} (h : tailOne P (fRec P H Ld d) n f kd v sz news S = true) : Tails P f kd v sz news S := by
 unfold tailOne at h
 split at h
 rotate_left
 ·cases h
 rename_i S3 hS3
 split at h
 rotate_left
 ·cases h
 rename_i u hu
 simp only [Bool.and_eq_true] at h
 obtain ⟨c1, c2, c3, c4⟩ := h
 obtain rfl := sameV_eq _ _ c1
 exact ⟨S3, krun_ok hP hm (fRec_le H Ld d) (mkRec_ok hP hm hH Ld d) n hS3, fin_val hu, Nat.le_of_ble_eq_true c2, Nat.eq_of_beq_eq_true c3, newsAt_eq c4⟩
theorem fin_v {P : Program} {f : FuncId} {kd : CallKind} {v : Value} {S : St} (hf : finV P f kd S = some v) : Fin P f kd v S := fun {lo E w O W under} hs ow => ready_own hs ow hf
theorem tails_both {P : Program} (hP : NoCount P) (hm : P.follows .mixedOrders = true) {H : Hook} (hH : HookOk P H) {Ld d n sz : Nat} {f : FuncId} {v : Value} {news : List CB} {S : CallKind → St} (h : tailOne P (fRec P H Ld d) n f .normal v sz news (S .normal) = true) (ha : Eng.Alike (S .normal) (S .deferred)) :
  ∀ kd, kd = .normal ∨ kd = .deferred → Tails P f kd v sz news (S kd) := by
 rintro kd (rfl | rfl)
 ·exact tails_last hP hm hH h
 ·exact tails_last hP hm hH (tail_d ha h)
def segT (P : Program) (A : Rec) (n sz : Nat) (keys : List Nat) (S : St) : Option Snap := match krun P A n S with
 | some S' => if Nat.ble sz S'.N.wm = true then some (S'.snap keys) else none
 | none => none
theorem Tails.from {P : Program} {f : FuncId} {kd : CallKind} {v : Value} {sz : Nat} {news : List CB} {S S1 : St} (h : Tails P f kd v sz news S1) (hr : Reach P S S1) : Tails P f kd v sz news S := by
 obtain ⟨S3, a1, a2⟩ := h
 exact ⟨S3, hr.trans a1, a2⟩
theorem tails_seg {P : Program} (hP : NoCount P) (hm : P.follows .mixedOrders = true) {H : Hook} (hH : HookOk P H) {Ld d n sz : Nat} {f : FuncId} {kd : CallKind} {v : Value} {news : List CB} {S : St} {keys : List Nat} {T : Snap} (hk : keepsAll sz keys = true)
  (h : segT P (fRec P H Ld d) n sz keys S = some T) (ht : Tails P f kd v sz news (T.stw keys sz)) : Tails P f kd v sz news S := by
 unfold segT at h
 split at h
 rotate_left
 ·cases h
 rename_i S1 hS1
 split at h
 rotate_left
 ·cases h
 rename_i hb
 simp only [Option.some.injEq] at h
 have r2 := reach_snapw (P := P) S1 keys (Nat.le_of_ble_eq_true hb) (keepsAll_eq hk)
 rw [h] at r2
 exact ht.from ((krun_ok hP hm (fRec_le H Ld d) (mkRec_ok hP hm hH Ld d) n hS1).trans r2)
end
theorem of_callG [Payload] {P : Program} (hP : NoCount P) (hm : P.follows .mixedOrders = true) {L : WgLink} (wg : WgLib P L) {Hl : Hook} (hl0 : @HookOk ⟨false⟩ P Hl) (hl1 : @HookOk ⟨true⟩ P Hl)
  {fuel na k kS n Ld d sz total : Nat} {ok : Value → Bool} {tyS : TypeId} {f : FuncId} {args : List Value} {v : Value} {keys keysS keysF : List Nat} {bs : List (Option CB)} {news : List CB} {TS : CallKind → Snap} {TF : CallKind → List Value → Snap} (hkS : keepsAll sz keysS = true)
  (hok : ∀ v, ok v = true → isB8 v = true)
  (hh : ∀ kd, headU P (fRec P Hl Ld d) na f args kd sz keys bs keysS = some (TS kd))
  (hw : ∀ kd, ∃ fin : List Value, fin.length = total ∧ fin.all ok = true ∧ @ManyOk ⟨false⟩ P (fRec P Hl Ld d) fuel k kS tyS n L (xf L) fin sz ((TS kd).stw keysS sz) ((TF kd fin).stw keysF sz))
  (hrow : ∀ kd fin, ((TF kd fin).stw keysF sz).N.get kS = some (.row fin tyS false)) (hlt : ∀ kd fin, Nat.blt kS ((TF kd fin).stw keysF sz).N.sz = true)
  (htl : ∀ kd, kd = .normal ∨ kd = .deferred → ∀ (g : Nat → Int) (fin : List Value), @Tails ⟨true⟩ P f kd v sz news (((TF kd fin).stw keysF sz).far kS total g tyS))
  (N : CH) (hsz : N.sz = sz) (hbs : keys.map N.get = bs) : @CallOk ⟨true⟩ P f args N v (N.pushL news) := by
 have b0 : @Base ⟨false⟩ P (fRec P Hl Ld d) (mkRec P Hl Ld d) L (xf L) := by
  letI : Hk := ⟨false⟩
  exact ⟨hP, hm, fRec_le Hl Ld d, mkRec_ok hP hm hl0 Ld d, xf_ok wg, wg⟩
 letI : Hk := ⟨true⟩
 refine mem_callF hsz hbs fun kd hkd => ?_
 have h1 := hh kd
 obtain ⟨fin, hl, hall, h2⟩ := hw kd
 obtain ⟨g, hg⟩ := bytes_of fin (List.all_eq_true.2 fun v hv => hok v (List.all_eq_true.1 hall v hv))
 rw [hl] at hg
 obtain ⟨S3, r4, hu, c2, c3, c4⟩ := htl kd hkd g fin
 unfold headU at h1
 split at h1
 rotate_left
 ·cases h1
 rename_i s0 hs0
 split at h1
 rotate_left
 ·cases h1
 rename_i S1 hS1
 split at h1
 rotate_left
 ·cases h1
 rename_i hb
 simp only [Option.some.injEq] at h1
 have r1 := krun_ok hP hm (fRec_le Hl Ld d) (mkRec_ok hP hm hl1 Ld d) na hS1
 have r2 := reach_snapw (P := P) S1 keysS (Nat.le_of_ble_eq_true hb) (keepsAll_eq hkS)
 rw [h1] at r2
 have r3 : Reach P ((TS kd).stw keysS sz) ((TF kd fin).stw keysF sz) := reach_of_many rfl fun lo E w O W hlo hs own under hu =>
  @many_comes ⟨false⟩ _ P (fRec P Hl Ld d) (mkRec P Hl Ld d) fuel k kS sz n tyS L (xf L) fin _ _ rfl b0 h2 lo E w O W hlo hs own under hu
 have r5 : Reach P ((TF kd fin).stw keysF sz) (((TF kd fin).stw keysF sz).far kS total g tyS) := Reach.far _ (by rw [hrow kd fin, ← hg]) (Nat.le_of_ble_eq_true (hlt kd fin))
 exact ⟨s0, S3, hs0, (((r1.trans r2).trans r3).trans r5).trans r4, hu, c2, c3, c4⟩
end
end Go.Eng
namespace Go.Eng
noncomputable section
open Go.Conc
set_option linter.unusedSimpArgs false
set_option linter.unusedVariables false
set_option linter.unusedSectionVars false
def Env.at32 (E : Env) (b : Nat) : Env := { E with f := fun j => if j = 32 then E.f b else E.f j, x := fun j => if j = 32 then E.x b else E.x j, s := fun j => if j = 32 then E.s b else E.s j, D := fun j => j ≤ 32 }
def CH.lone (c : List Value) (e : TypeId) (el : Bool) : CH := CH.small 33 [32] [some (.row c e el)]
theorem lone_get (c : List Value) (e : TypeId) (el : Bool) (k : Nat) (bl : CB) (h : (CH.lone c e el).get k = some bl) : k = 32 ∧ bl = .row c e el := by
 obtain ⟨h1, h2⟩ := @fill_ok ⟨true⟩ (sz := 33) (g := fun k => if k = 32 then some (.row c e el) else none) [32] (Tr.skel 33 33) (Tr.full_skel _ _ (Nat.le_refl _)) (fun k b h => by rw [Tr.get_skel] at h; cases h)
 have := h2 k bl (by
  rw [CH.get_def] at h
  simpa [CH.lone, CH.small] using h)
 by_cases hk : k = 32
 ·rw [if_pos hk] at this
  exact ⟨hk, (Option.some.inj this).symm⟩
 ·rw [if_neg hk] at this
  cases this
section
variable [Hk]
theorem row_ran {P : Program} {f : FuncId} {c : List Value} {e : TypeId} {el : Bool} {l cp : Nat} {v : Value} (hc : plainL c = true) (hv : plain v = true)
  (h : ∀ kd, kd = .normal ∨ kd = .deferred → ∃ s0 S, kenter P f [.slice (some ⟨32, 0, none⟩) l cp] kd = some s0 ∧ Reach P ⟨s0, [], CH.lone c e el⟩ S ∧ Fin P f kd v S ∧ 33 ≤ S.N.wm ∧ S.N.get 32 = some (.row c e el))
  (N : CH) {b : Nat} (hb32 : 32 ≤ b) (hb : N.get b = some (.row c e el)) : CallOk P f [.slice (some ⟨b, 0, none⟩) l cp] N v N := by
 intro main J hctx lo E w O W hlo R own hcl kd cs hcs K hK
 obtain ⟨s0, S, hk, hr, hf, hwm, h32⟩ := h kd hcs.1
 have hDb : E.D b := hcl _ (List.mem_cons_self ..)
 have hm1 : [Value.slice (some ⟨b, 0, none⟩) l cp].map E.m = [Value.slice (some ⟨32, 0, none⟩) l cp].map (E.at32 b).m := by
  simp [Env.m, mv, soff, scap, Env.at32]
 have hlone := lone_get c e el
 have hlive : ∀ k, (CH.lone c e el).live k → k = 32 := fun k ⟨bl, h1, _⟩ => (hlone k bl h1).1
 have hpl : ∀ (F : Env), c.map F.m = c := fun F => by
  have : ∀ u ∈ c, F.m u = u := fun u hu => m_plain F (plainL_all.1 hc u hu)
  exact (List.map_congr_left this).trans (List.map_id _)
 have hbl := R.blk b _ hDb hb
 have R0 : Rel P (E.at32 b) (CH.lone c e el) w := by
  refine ⟨?_, fun g hg => ?_, fun k hk => ?_, fun i j hi hj li lj _ => (hlive i li).trans (hlive j lj).symm, fun k bl hk hbk => ?_⟩
  ·obtain ⟨h1, _⟩ := fill_ok (sz := 33) (g := fun k => if k = 32 then some (.row c e el) else none) [32] (Tr.skel 33 33) (Tr.full_skel _ _ (Nat.le_refl _)) (fun k b h => by rw [Tr.get_skel] at h; cases h)
   exact ⟨Nat.zero_le _, h1⟩
  ·have hg' : g < 32 := hg
   have hne : g ≠ 32 := by omega
   refine ⟨Nat.le_of_lt hg', ?_, ?_⟩
   ·simp only [Env.at32, if_neg hne]
    exact (R.gl g hg).2.1
   ·simp only [Env.at32, if_neg hne]
    exact (R.gl g hg).2.2
  ·exact Nat.lt_succ_of_le hk
  ·obtain ⟨rfl, rfl⟩ := hlone k bl hbk
   obtain ⟨q1, pre, sp, lo', hi', q2, q3, q4, q5, q6⟩ := hbl
   refine ⟨fun u hu => Clo_plain _ _ (plainL_all.1 hc u hu), pre, sp, lo', hi', ?_, ?_, q4, ?_, fun h => absurd h (by decide)⟩
   ·simp only [Env.at32, if_true]
    rw [hpl] at q2
    exact q2.trans (by rw [hpl])
   ·simpa [Env.at32] using q3
   ·simpa [Env.at32] using q5
 obtain ⟨e1, e2, e3, e4, _⟩ := kenter_ok (E := E.at32 b) hk (fun u hu => by
  rw [List.mem_singleton.1 hu]
  exact Nat.le_refl 32)
 have hs0 : SRel P (E.at32 b) ⟨s0, [], CH.lone c e el⟩ w := ⟨R0, e2, by simp, by
  refine ⟨?_, trivial⟩
  rw [e3]
  exact hcs.1.imp (fun h => h) fun h => ⟨h, .inl rfl⟩⟩
 have hlb : N.live b := ⟨_, hb, rfl⟩
 have own0 : Own O W 33 (E.at32 b) (CH.lone c e el) w := ⟨fun j hj hl => by
   obtain rfl := hlive j hl
   simp only [Env.at32, if_true]
   exact own.img b hDb hlb, fun j hj hl hlo => by
   have : j ≤ 32 := hj
   omega, own.lt, Nat.le_refl _⟩
 have hg0 : St.gor (E.at32 b) ⟨s0, [], CH.lone c e el⟩ cs = G (Frame.enter P f ([Value.slice (some ⟨b, 0, none⟩) l cp].map E.m).toArray kd) cs := by
  unfold St.gor
  rw [hm1, e1]
  rfl
 rw [← hg0]
 refine hr main J 33 _ w O W hwm hs0 own0 cs hcs.any K fun O' W' E' w' hs L => ?_
 obtain ⟨hv', fr, f1, f2, f3⟩ := hf (under := cs) hs L.own
 have hD32 : (E.at32 b).D 32 := Nat.le_refl 32
 obtain ⟨m1, m2, m3, m4⟩ := L.ext.mono 32 hD32
 have m2' : E'.f 32 = E.f b := by rw [m2]; simp [Env.at32]
 have m3' : E'.x 32 = E.x b := by rw [m3]; simp [Env.at32]
 have m4' : E'.s 32 = E.s b := by rw [m4]; simp [Env.at32]
 have hframe : ∀ d, O d → d ≠ E.f b → w'.heap[d]? = w.heap[d]? := fun d hd hne => L.ext.frame d hd (own.lt d hd) fun k hk hl he => hne (by
  obtain rfl := hlive k hl
  simpa [Env.at32] using he.symm)
 have hbl' := L.rel.blk 32 _ m1 h32
 have rel' : Rel P E N w' := by
  refine ⟨R.ok, R.gl, R.dom, R.inj, fun k bl hk hbk => ?_⟩
  cases hdd : bl.isDead with
  | true => cases bl <;> simp [CB.isDead] at hdd; trivial
  | false =>
   have hl : N.live k := ⟨bl, hbk, hdd⟩
   by_cases hkb : k = b
   ·subst hkb
    rw [hb] at hbk
    cases hbk
    obtain ⟨q1, pre, sp, lo', hi', q2, q3, q4, q5, q6⟩ := hbl'
    refine ⟨fun u hu => Clo_plain _ _ (plainL_all.1 hc u hu), pre, sp, lo', hi', ?_, by rw [q3, m4'], q4, by rw [← m3', ← m4']; exact q5, fun h => absurd h (Nat.not_lt.2 hb32)⟩
    rw [hpl] at q2
    rw [hpl, ← m2']
    exact q2
   ·have hne : E.f k ≠ E.f b := fun he => hkb (R.inj k b hk hDb hl hlb he)
    rw [hframe _ (own.img k hk hl) hne]
    exact R.blk k bl hk hbk
 have L2 : Later P lo O W E N w O' W' E N w' := by
  refine ⟨rel', ⟨fun k hk hl => L.oo _ (own.img k hk hl), fun k hk hl h => L.ww _ (own.wri k hk hl h), L.own.lt, own.low⟩, ?_, L.oo, L.ww, L.ou⟩
  exact ⟨fun k hk => ⟨hk, rfl, rfl, rfl⟩, fun k hk => .inl hk, fun k h1 h2 => absurd h2 (by omega), Nat.le_refl _, L.ext.hsize, fun k hk => .inl hk, fun k _ h => h, Nat.le_refl _, fun _ _ _ => rfl,
   fun d hd hlt hn => hframe d hd fun he => hn b hDb hlb he.symm, L.ext.os, L.ext.tape, L.ext.output, rfl⟩
 rw [f1]
 refine hK O' W' E w' fr L2 (Clo_plain _ _ hv) f2 ?_
 rw [m_plain E hv]
 rw [m_plain E' hv] at f3
 exact f3
def Rows (P : Program) (f : FuncId) (kd : CallKind) (v : Value) (c : List Value) (e : TypeId) (el : Bool) (S : St) : Prop :=
 ∃ S3, Reach P S S3 ∧ Fin P f kd v S3 ∧ 33 ≤ S3.N.wm ∧ S3.N.get 32 = some (.row c e el)
def rowLast (P : Program) (A : Rec) (n : Nat) (f : FuncId) (kd : CallKind) (v : Value) (c : List Value) (e : TypeId) (el : Bool) (S : St) : Bool := match krun P A n S with
 | some S' => match finV P f kd S' with
  | some u => and (sameV u v) (and (Nat.ble 33 S'.N.wm) (beqOC (S'.N.get 32) (some (.row c e el))))
  | none => false
 | none => false
theorem rowLast_ok {P : Program} (hP : NoCount P) (hm : P.follows .mixedOrders = true) {H : Hook} (hH : HookOk P H) {Ld d n : Nat} {f : FuncId} {kd : CallKind} {v : Value} {c : List Value} {e : TypeId} {el : Bool} {S : St} (h : rowLast P (fRec P H Ld d) n f kd v c e el S = true) : Rows P f kd v c e el S := by
 unfold rowLast at h
 split at h
 rotate_left
 ·cases h
 rename_i S3 hS3
 split at h
 rotate_left
 ·cases h
 rename_i u hu
 simp only [Bool.and_eq_true] at h
 obtain ⟨c1, c2, c3⟩ := h
 obtain rfl := sameV_eq _ _ c1
 exact ⟨S3, krun_ok hP hm (fRec_le H Ld d) (mkRec_ok hP hm hH Ld d) n hS3, fin_v hu, Nat.le_of_ble_eq_true c2, beqOC_eq c3⟩
theorem rowLast_d {P : Program} {A : Rec} {n : Nat} {f : FuncId} {v : Value} {c : List Value} {e : TypeId} {el : Bool} {S S2 : St} (ha : Eng.Alike S S2) (h : rowLast P A n f .normal v c e el S = true) : rowLast P A n f .deferred v c e el S2 = true := by
 unfold rowLast at h
 split at h
 rotate_left
 ·cases h
 rename_i S' hS'
 split at h
 rotate_left
 ·cases h
 rename_i u hu
 obtain ⟨T', h1, h2⟩ := krun_d n ha hS'
 unfold rowLast
 rw [h1]
 simp only [finV_d h2 hu, h2.1]
 exact h
theorem rows_both {P : Program} (hP : NoCount P) (hm : P.follows .mixedOrders = true) {H : Hook} (hH : HookOk P H) {Ld d n : Nat} {f : FuncId} {v : Value} {c : List Value} {e : TypeId} {el : Bool} {S : CallKind → St} (h : rowLast P (fRec P H Ld d) n f .normal v c e el (S .normal) = true) (ha : Eng.Alike (S .normal) (S .deferred)) :
  ∀ kd, kd = .normal ∨ kd = .deferred → Rows P f kd v c e el (S kd) := by
 rintro kd (rfl | rfl)
 ·exact rowLast_ok hP hm hH h
 ·exact rowLast_ok hP hm hH (rowLast_d ha h)
theorem row_call {P : Program} (hP : NoCount P) (hm : P.follows .mixedOrders = true) {H : Hook} (hH : HookOk P H) {Ld d n n2 : Nat} {f : FuncId} {c : List Value} {e : TypeId} {el : Bool} {l cp : Nat} {v : Value} {keys : List Nat} {T : CallKind → Snap} (hc : plainL c = true) (hv : plain v = true) (hk : keepsAll 33 keys = true)
  (h1 : ∀ kd, (kenter P f [.slice (some ⟨32, 0, none⟩) l cp] kd).bind (fun s => segT P (fRec P H Ld d) n 33 keys ⟨s, [], CH.lone c e el⟩) = some (T kd))
  (h2 : rowLast P (fRec P H Ld d) n2 f .normal v c e el ((T .normal).stw keys 33) = true) (ha : Eng.Alike ((T .normal).stw keys 33) ((T .deferred).stw keys 33))
  (N : CH) {b : Nat} (hb32 : 32 ≤ b) (hb : N.get b = some (.row c e el)) : CallOk P f [.slice (some ⟨b, 0, none⟩) l cp] N v N := by
 refine row_ran hc hv (fun kd hkd => ?_) N hb32 hb
 have hx := h1 kd
 cases hs : kenter P f [.slice (some ⟨32, 0, none⟩) l cp] kd with
 | none => rw [hs] at hx; cases hx
 | some s0 =>
  rw [hs] at hx
  simp only [Option.bind_some] at hx
  unfold segT at hx
  split at hx
  rotate_left
  ·cases hx
  rename_i S1 hS1
  split at hx
  rotate_left
  ·cases hx
  rename_i hb
  simp only [Option.some.injEq] at hx
  have r2 := reach_snapw (P := P) S1 keys (Nat.le_of_ble_eq_true hb) (keepsAll_eq hk)
  rw [hx] at r2
  obtain ⟨S3, a1, a2⟩ := rows_both (S := fun kd => (T kd).stw keys 33) hP hm hH h2 ha kd hkd
  exact ⟨s0, S3, rfl, ((krun_ok hP hm (fRec_le H Ld d) (mkRec_ok hP hm hH Ld d) n hS1).trans r2).trans a1, a2⟩
theorem nil_call {P : Program} (hP : NoCount P) (hm : P.follows .mixedOrders = true) {H : Hook} (hH : HookOk P H) {Ld d n n2 : Nat} {f : FuncId} {args : List Value} {v : Value} {keys : List Nat} {T : CallKind → Snap} (hc : plainL args = true) (hv : plain v = true)
  (h1 : ∀ kd, (kenter P f args kd).bind (fun s => segT P (fRec P H Ld d) n 0 keys ⟨s, [], CH.first []⟩) = some (T kd))
  (h2 : finIs P f v (krun P (fRec P H Ld d) n2 ((T .normal).stw keys 0)) = true) (ha : Eng.Alike ((T .normal).stw keys 0) ((T .deferred).stw keys 0)) (N : CH) : CallOk P f args N v N := by
 refine plain_ran hc hv (fun kd hkd => ?_) N
 obtain ⟨⟨T1, b1, b2⟩, b3⟩ := last_v hP hm hH h2
 have hfin : ∃ T', Reach P ((T kd).stw keys 0) T' ∧ finV P f kd T' = some v := by
  rcases hkd with rfl | rfl
  ·exact ⟨T1, b1, b2⟩
  ·exact b3 _ ha
 have hx := h1 kd
 cases hs : kenter P f args kd with
 | none => rw [hs] at hx; cases hx
 | some s0 =>
  rw [hs] at hx
  simp only [Option.bind_some] at hx
  unfold segT at hx
  split at hx
  rotate_left
  ·cases hx
  rename_i S1 hS1
  split at hx
  rotate_left
  ·cases hx
  simp only [Option.some.injEq] at hx
  have r2 := reach_snapw (P := P) S1 keys (Nat.zero_le _) (fun k hk => absurd hk (Nat.not_lt_zero k))
  rw [hx] at r2
  obtain ⟨T', a1, a2⟩ := hfin
  exact ⟨s0, T', rfl, ((krun_ok hP hm (fRec_le H Ld d) (mkRec_ok hP hm hH Ld d) n hS1).trans r2).trans a1, a2⟩
end
def hookRow (f : FuncId) (c : List Value) (e : TypeId) (el : Bool) (l cp : Nat) (v : Value) : Hook := fun g as N =>
 if Nat.beq g f = true then match as with
  | [.slice (some ⟨b, 0, none⟩) l' cp'] => if and (Nat.beq l' l) (and (Nat.beq cp' cp) (and (Nat.ble 32 b) (beqOC (N.get b) (some (.row c e el))))) = true then some (v, N) else none
  | _ => none
 else none
theorem hookRow_ok [Hk] {P : Program} {f : FuncId} {c : List Value} {e : TypeId} {el : Bool} {l cp : Nat} {v : Value} (hbody : (P.funcs[f]?).any (fun fn => fn.body.isSome) = true)
  (h : ∀ (N : CH) {b : Nat}, 32 ≤ b → N.get b = some (.row c e el) → CallOk P f [.slice (some ⟨b, 0, none⟩) l cp] N v N) : HookOk P (hookRow f c e el l cp v) := by
 intro g as N u N' hh
 unfold hookRow at hh
 split at hh
 rotate_left
 ·cases hh
 rename_i hg
 obtain rfl := Nat.eq_of_beq_eq_true hg
 split at hh
 rotate_left
 ·cases hh
 split at hh
 rotate_left
 ·cases hh
 rename_i b l' cp' hx
 simp only [Bool.and_eq_true] at hx
 obtain ⟨x1, x2, x3, x4⟩ := hx
 obtain rfl := Nat.eq_of_beq_eq_true x1
 obtain rfl := Nat.eq_of_beq_eq_true x2
 simp only [Option.some.injEq, Prod.mk.injEq] at hh
 obtain ⟨rfl, rfl⟩ := hh
 refine ⟨h N (Nat.le_of_ble_eq_true x3) (beqOC_eq x4), ?_⟩
 cases hf : P.funcs[g]? with
 | none => rw [hf] at hbody; cases hbody
 | some fn => exact ⟨fn, rfl, by rw [hf] at hbody; exact hbody⟩
end
end Go.Eng
namespace Go.Eng
noncomputable section
open Go.Conc
set_option linter.unusedSimpArgs false
set_option linter.unusedVariables false
set_option linter.unusedSectionVars false
theorem Tr.set_self {α : Type} {v : α} : ∀ (t : Tr α) (r : Nat), t.get r = some v → t.set r v = t
 | .e, _, h => by cases h
 | .nd u l m, 0, h => by
  simp only [Tr.get_zero] at h
  subst h
  rfl
 | .nd u l m, n + 1, h => by
  rw [Tr.get_succ] at h
  rw [Tr.set_succ]
  split at h
  ·rename_i e
   rw [if_pos e, Tr.set_self l _ h]
  ·rename_i e
   rw [if_neg e, Tr.set_self m _ h]
def St.tell (r : Nat) (v : Value) : St → St
 | ⟨⟨fn, ar, kd, ret, ⟨n, t, dm⟩, k⟩, cs, N⟩ => ⟨⟨fn, ar, kd, ret, ⟨n, t.set r v, dm⟩, k⟩, cs, N⟩
theorem St.tell_self {S : St} {r : Nat} {v : Value} (h : S.top.a.t.get r = some v) : S.tell r v = S := by
 obtain ⟨⟨fn, ar, kd, ret, ⟨n, t, dm⟩, k⟩, cs, N⟩ := S
 simp only [St.tell, Tr.set_self t r h]
def routeOut (P : Program) (A : Rec) (f : FuncId) (l : List Nat) : List (Nat × Nat × Bool) → St → Option (List Value × (Value × List (Option CB)))
 | [], S => match (kleaps P A l S).bind (St.final P f) with
  | some o => some ([], o)
  | none => none
 | (n, r, b) :: q, S => match krun P A n S with
  | some S' => match S'.top.a.t.get r with
   | some v => match routeOut P A f l q (S'.tell r (.bool b)) with
    | some (vs, o) => some (v :: vs, o)
    | none => none
   | none => none
  | none => none
variable [Hk]
theorem route_ok {P : Program} (hP : NoCount P) (hm : P.follows .mixedOrders = true) {Hf : Hook} (hH : HookOk P Hf) {L d : Nat} {f : FuncId} {l : List Nat} : ∀ {q : List (Nat × Nat × Bool)} {S : St} {vs : List Value} {o : Value × List (Option CB)},
  routeOut P (fRec P Hf L d) f l q S = some (vs, o) → vs = q.map (fun x => .bool x.2.2) → ∃ S', Reach P S S' ∧ S'.final P f = some o
 | [], S, vs, o, h, hv => by
  simp only [routeOut] at h
  split at h
  ·rename_i u hu
   cases h
   exact leaps_last hP hm hH hu
  ·cases h
 | (n, r, b) :: q, S, vs, o, h, hv => by
  simp only [routeOut] at h
  split at h
  rotate_left
  ·cases h
  rename_i S' h1
  split at h
  rotate_left
  ·cases h
  rename_i v h2
  split at h
  rotate_left
  ·cases h
  rename_i ws u h3
  cases h
  simp only [List.map_cons, List.cons.injEq] at hv
  obtain ⟨rfl, hv⟩ := hv
  obtain ⟨S'', a1, a2⟩ := route_ok hP hm hH h3 hv
  rw [St.tell_self h2] at a1
  exact ⟨S'', (krun_ok hP hm (fRec_le Hf L d) (mkRec_ok hP hm hH L d) n h1).trans a1, a2⟩
end
end Go.Eng
