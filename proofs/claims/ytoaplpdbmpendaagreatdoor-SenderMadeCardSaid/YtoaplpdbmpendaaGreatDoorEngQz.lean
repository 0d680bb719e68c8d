/-
  The engine, part Qr: the checks on a stretch in which goroutine 0 starts many workers, as closed equations, one a round.
-/
import Derived.Test.YtoaplpdbmpendaaGreatDoorEngQp
set_option linter.unusedSectionVars false
set_option linter.unusedSimpArgs false
set_option linter.unusedVariables false
namespace Go.Eng
open Go.Conc
open Go.Conc.Lib (WgLib WgLink)
set_option linter.unusedSimpArgs false
set_option linter.unusedVariables false
set_option linter.unusedSectionVars false

/-! ### a state written down, of whose memory the first blocks are all kept -/
def Snap.stw (keys : List Nat) (wm : Nat) (T : Snap) : St := ⟨T.top.sf, T.cs.map SnapF.sf, ⟨T.sz, wm, 0, fill T.sz keys T.blocks (Tr.skel T.sz T.sz)⟩⟩
theorem fill_stays {sz : Nat} {g : Nat → Option CB} {k : Nat} {b : CB} (hk : k < sz) : ∀ (ks : List Nat) (t : Tr CB), t.Full sz → (∀ j c, t.get j = some c → g j = some c) → t.get k = some b → (fill sz ks (ks.map g) t).get k = some b
  | [], t, hf, h, hb => hb
  | j :: ks, t, hf, h, hb => by
    rw [List.map_cons]
    cases hg : g j with
    | none => exact fill_stays hk ks t hf h hb
    | some c =>
      show (if j < sz then fill sz ks (ks.map g) (t.set j c) else fill sz ks (ks.map g) t).get k = some b
      by_cases hj : j < sz
      · rw [if_pos hj]
        refine fill_stays hk ks _ (Tr.full_set hf j c hj) (fun i d hi => ?_) ?_
        · rw [Tr.get_set hf j i (Nat.le_of_lt hj)] at hi
          by_cases e : i = j
          · subst e
            rw [if_pos rfl] at hi
            cases hi
            exact hg
          · rw [if_neg e] at hi
            exact h i d hi
        · rw [Tr.get_set hf j k (Nat.le_of_lt hj)]
          by_cases e : k = j
          · subst e
            rw [if_pos rfl]
            have := h k b hb
            rw [hg] at this
            exact this
          · rw [if_neg e]
            exact hb
      · rw [if_neg hj]
        exact fill_stays hk ks t hf h hb
theorem fill_mem {sz : Nat} {g : Nat → Option CB} {k : Nat} {b : CB} (hk : k < sz) (hg : g k = some b) : ∀ (ks : List Nat) (t : Tr CB), t.Full sz → (∀ j c, t.get j = some c → g j = some c) → k ∈ ks → (fill sz ks (ks.map g) t).get k = some b
  | j :: ks, t, hf, h, hm => by
    rw [List.map_cons]
    by_cases e : k = j
    · subst e
      rw [hg]
      show (if k < sz then fill sz ks (ks.map g) (t.set k b) else fill sz ks (ks.map g) t).get k = some b
      rw [if_pos hk]
      refine fill_stays hk ks _ (Tr.full_set hf k b hk) (fun i d hi => ?_) ?_
      · rw [Tr.get_set hf k i (Nat.le_of_lt hk)] at hi
        by_cases e : i = k
        · subst e
          rw [if_pos rfl] at hi
          cases hi
          exact hg
        · rw [if_neg e] at hi
          exact h i d hi
      · rw [Tr.get_set hf k k (Nat.le_of_lt hk), if_pos rfl]
    · have hm' : k ∈ ks := (List.mem_cons.1 hm).resolve_left e
      cases hgj : g j with
      | none => exact fill_mem hk hg ks t hf h hm'
      | some c =>
        show (if j < sz then fill sz ks (ks.map g) (t.set j c) else fill sz ks (ks.map g) t).get k = some b
        by_cases hj : j < sz
        · rw [if_pos hj]
          refine fill_mem hk hg ks _ (Tr.full_set hf j c hj) (fun i d hi => ?_) hm'
          rw [Tr.get_set hf j i (Nat.le_of_lt hj)] at hi
          by_cases e : i = j
          · subst e
            rw [if_pos rfl] at hi
            cases hi
            exact hgj
          · rw [if_neg e] at hi
            exact h i d hi
        · rw [if_neg hj]
          exact fill_mem hk hg ks t hf h hm'
variable [Hk]
theorem reach_snapw {P : Program} (S : St) (keys : List Nat) {wm : Nat} (hwm : wm ≤ S.N.wm) (hkeys : ∀ k, k < wm → k ∈ keys) : Reach P S ((S.snap keys).stw keys wm) := by
  intro main J hx lo E w O W hlo hs ow under hu K hK
  obtain ⟨h1, h2⟩ := fill_ok (sz := S.N.sz) (g := S.N.get) keys (Tr.skel S.N.sz S.N.sz) (Tr.full_skel _ _ (Nat.le_refl _)) (fun k b h => by rw [Tr.get_skel] at h; cases h)
  have hN : ((S.snap keys).stw keys wm).N = ⟨S.N.sz, wm, 0, fill S.N.sz keys (keys.map S.N.get) (Tr.skel S.N.sz S.N.sz)⟩ := rfl
  have hget : ∀ k b, ((S.snap keys).stw keys wm).N.get k = some b → S.N.get k = some b := fun k b h => h2 k b (by rw [hN] at h; exact h)
  have hlive : ∀ k, ((S.snap keys).stw keys wm).N.live k → S.N.live k := fun k ⟨b, hb, hd⟩ => ⟨b, hget k b hb, hd⟩
  have hkeep : ∀ k, k < S.N.sz → k < wm → ((S.snap keys).stw keys wm).N.get k = S.N.get k := by
    intro k hk hw
    cases hg : S.N.get k with
    | some b =>
      have := fill_mem (g := S.N.get) hk hg keys (Tr.skel S.N.sz S.N.sz) (Tr.full_skel _ _ (Nat.le_refl _)) (fun k b h => by rw [Tr.get_skel] at h; cases h) (hkeys k hw)
      rw [hN]
      exact this
    | none =>
      cases hg' : ((S.snap keys).stw keys wm).N.get k with
      | none => rfl
      | some b =>
        have := hget k b hg'
        rw [hg] at this
        cases this
  have hrel : Rel P E ((S.snap keys).stw keys wm).N w :=
    ⟨⟨Nat.zero_le _, h1⟩, hs.rel.gl, hs.rel.dom, fun i j hi hj li lj e => hs.rel.inj i j hi hj (hlive i li) (hlive j lj) e, fun k b hk hb => hs.rel.blk k b hk (hget k b hb)⟩
  have hext : ExtC O E S.N w E ((S.snap keys).stw keys wm).N w :=
    ⟨fun _ h => ⟨h, rfl, rfl, rfl⟩, fun _ h => .inl h, fun k h3 h4 => absurd h4 (Nat.not_lt.2 h3), Nat.le_refl _, Nat.le_refl _, fun _ h => .inl h, fun k _ h => hlive k h, hwm, fun k hk hw => hkeep k hk hw, fun _ _ _ _ => rfl, rfl, rfl, rfl, rfl⟩
  have hcs : ((S.snap keys).stw keys wm).cs = S.cs.map fun s => s.snap.sf := by
    show (S.cs.map SF.snap).map SnapF.sf = _
    rw [List.map_map]
    rfl
  have hown : Own O W lo E ((S.snap keys).stw keys wm).N w := ⟨fun k hk hl => ow.img k hk (hlive k hl), fun k hk hl h => ow.wri k hk (hlive k hl) h, ow.lt, ow.low⟩
  have hsn : SRel P E ((S.snap keys).stw keys wm) w := by
    refine ⟨hrel, SF.snap_ok hs.top, ?_, ?_⟩
    · intro s h
      rw [hcs] at h
      obtain ⟨s', h', rfl⟩ := List.mem_map.1 h
      exact SF.snap_ok (hs.cs s' h')
    · rw [hcs]
      exact stk_snap hs.stk
  have : St.gor E ((S.snap keys).stw keys wm) under = St.gor E S under := by
    unfold St.gor
    rw [hcs, List.map_map]
    have e1 : ((S.snap keys).stw keys wm).top.frame E = S.top.frame E := SF.snap_frame E S.top
    have e2 : (S.cs.map (SF.frame E ∘ fun s => s.snap.sf)) = S.cs.map (SF.frame E) := List.map_congr_left fun s _ => SF.snap_frame E s
    rw [e1, e2]
  rw [← this]
  exact hK O W E w hsn ⟨hrel, hown, hext, fun _ h => h, fun _ h => h, fun _ h => .inl h⟩
end Go.Eng
namespace Go.Eng
open Go.Conc
open Go.Conc.Lib (WgLib WgLink)
set_option linter.unusedSimpArgs false
set_option linter.unusedVariables false
set_option linter.unusedSectionVars false

/-- All blocks below k are kept. -/
def keepsAll (k : Nat) (keys : List Nat) : Bool := (List.range k).all fun j => keys.elem j
theorem keepsAll_eq {k : Nat} {keys : List Nat} (h : keepsAll k keys = true) : ∀ j, j < k → j ∈ keys := fun j hj => List.elem_iff.1 (List.all_eq_true.1 h j (List.mem_range.2 hj))
section
variable (P : Program) (A : Rec) (fuel m k kS off kC : Nat) (vs : List Value) (done : FuncId) (x : XF) (kch keys : List Nat) (T : Snap)
/-- Add, v having been counted, from ahead of Disable to the go statement. -/
def addOne (S0 : St) (v : Nat) : Option (List (List It)) := match xm0 k x.disable S0 with
  | some S1 => match addFlow P A fuel k k x v S1 with
    | some S2 => if and ((toStop P A fuel S2).fits keys T) (Nat.ble k (toStop P A fuel S2).N.wm) = true then some (toStop P A fuel S2).ks else none
    | none => none
  | none => none
def spOf (k kC : Nat) (SG : St) : St := match SG.xgo k with
  | some (_, _, _, nx) => (nx undef).drop kC
  | none => SG
/-- The go statement: the worker's whole way, and on to the next stop. -/
def goOne (SG : St) : Option (List (List It)) := match SG.xgo k with
  | some (g, q, as, nx) => match kenter P g (as ++ q) .deferred with
    | some sf => match P.funcs[g]? with
      | some fd => if and (xway P A fuel m SG.N.sz k kS off vs done g kC ⟨sf, [], SG.N.only kch SG.N.sz⟩) (and (!(fd.name == "runtime.NumGoroutine")) (and (fd.results.toList.isEmpty) (and (hasCell SG.N kC) (and (Nat.ble (kC + 1) SG.N.sz) (and (Nat.ble k kC) (and (Nat.ble k SG.N.wm) (and (kch.elem kC) (and (readable kC k kch)
          (and ((toStop P A fuel (spOf k kC SG)).fits keys T) (Nat.ble k (toStop P A fuel (spOf k kC SG)).N.wm)))))))))) = true then some (toStop P A fuel (spOf k kC SG)).ks else none
      | none => none
    | none => none
  | none => none
end
variable [Hk]
section
variable {P : Program} {A B : Rec} {fuel m k kS off kC : Nat} {vs : List Value} {L : WgLink} {x : XF} {kch keys : List Nat} {T : Snap}
theorem addOne_ok (hP : NoCount P) (hm : P.follows .mixedOrders = true) (hAB : A.Le B) (hB : RecOk P B) (hk : keepsAll k keys = true) {S0 : St} {v : Nat} (h : addOne P A fuel k x keys T S0 v = some T.ks) :
    ∃ S1 S2, xm0 k x.disable S0 = some S1 ∧ addFlow P A fuel k k x v S1 = some S2 ∧ Reach P S2 (T.stw keys k) := by
  unfold addOne at h
  split at h
  rotate_left
  · cases h
  rename_i S1 h1
  split at h
  rotate_left
  · cases h
  rename_i S2 h2
  split at h
  rotate_left
  · cases h
  rename_i hb
  simp only [Bool.and_eq_true] at hb
  simp only [Option.some.injEq] at h
  have hsn := St.fits_eq hb.1 h
  refine ⟨S1, S2, h1, h2, (toStop_reach hP hm hAB hB fuel S2).trans ?_⟩
  have := reach_snapw (P := P) (toStop P A fuel S2) keys (Nat.le_of_ble_eq_true hb.2) (keepsAll_eq hk)
  rw [hsn] at this
  exact this
theorem adds_ok (hP : NoCount P) (hm : P.follows .mixedOrders = true) (hAB : A.Le B) (hB : RecOk P B) (hk : keepsAll k keys = true) {S S0 : St} (h0 : Reach P S S0) {i : Nat}
    (h : (List.range (i + 1)).map (addOne P A fuel k x keys T S0) = List.replicate (i + 1) (some T.ks)) : AddOk P A fuel k k x i S (T.stw keys k) := by
  have hall : ∀ v, v ≤ i → addOne P A fuel k x keys T S0 v = some T.ks := by
    intro v hv
    have := congrArg (fun l => l[v]?) h
    simp only [List.getElem?_map, List.getElem?_replicate] at this
    rw [List.getElem?_range (by omega), if_pos (by omega)] at this
    simpa using this
  obtain ⟨S1, _, h1, _, _⟩ := addOne_ok hP hm hAB hB hk (hall 0 (Nat.zero_le _))
  refine ⟨⟨S0, S1, h0, h1, fun v hv => ?_⟩, Nat.le_refl _⟩
  obtain ⟨S1', S2, a1, a2, a3⟩ := addOne_ok hP hm hAB hB hk (hall v hv)
  rw [h1] at a1
  cases a1
  exact ⟨S2, a2, a3⟩
theorem goOne_ok (hP : NoCount P) (hm : P.follows .mixedOrders = true) (hAB : A.Le B) (hB : RecOk P B) (hk : keepsAll k keys = true) {SG : St} (h : goOne P A fuel m k kS off kC vs L.done kch keys T SG = some T.ks) :
    GoXOk P A fuel m k k kS off vs k kC L.done SG (spOf k kC SG) kch ∧ Reach P (spOf k kC SG) (T.stw keys k) := by
  unfold goOne at h
  split at h
  rotate_left
  · cases h
  rename_i g q as nx hx
  split at h
  rotate_left
  · cases h
  rename_i sf hsf
  split at h
  rotate_left
  · cases h
  rename_i fd hfd
  split at h
  rotate_left
  · cases h
  rename_i hall
  simp only [Bool.and_eq_true] at hall
  obtain ⟨c1, c2, c3, c4, c5, c6, c7, c8, c9, c10, c11⟩ := hall
  simp only [Option.some.injEq] at h
  have hsn := St.fits_eq c10 h
  refine ⟨⟨⟨g, q, as, nx, sf, fd, hx, hsf, c1, by simp only [spOf, hx], hfd, by simpa using c2, Array.ext' (List.isEmpty_iff.1 c3)⟩, c4, Nat.le_of_ble_eq_true c5, Nat.le_of_ble_eq_true c6, Nat.le_of_ble_eq_true c7, Nat.le_of_ble_eq_true c6, List.elem_iff.1 c8, c9⟩, (toStop_reach hP hm hAB hB fuel _).trans ?_⟩
  have := reach_snapw (P := P) (toStop P A fuel (spOf k kC SG)) keys (Nat.le_of_ble_eq_true c11) (keepsAll_eq hk)
  rw [hsn] at this
  exact this
end
end Go.Eng
namespace Go.Eng
open Go.Conc
open Go.Conc.Lib (WgLib WgLink)
set_option linter.unusedSimpArgs false
set_option linter.unusedVariables false
set_option linter.unusedSectionVars false

section
variable (P : Program) (A : Rec) (fuel mf k kS wm wmF : Nat) (row : CB) (x : XF) (keysF keysA : List Nat) (TF TA : Snap)
/-- On to the next stop. -/
def stopOne (S : St) : Option (List (List It)) := if and ((toStop P A fuel S).fits keysA TA) (Nat.ble k (toStop P A fuel S).N.wm) = true then some (toStop P A fuel S).ks else none
/-- Wait is over: the row has its content back, and on to the state written down. -/
def finOne (T : St) : Option (List (List It)) := if and (Nat.ble k T.N.wm) (Nat.beq T.N.base 0) = true then match krun P A mf (T.mend kS row wm) with
  | some T' => if and (T'.fits keysF TF) (Nat.ble wmF T'.N.wm) = true then some T'.ks else none
  | none => none
  else none
def waitZero (S : St) : Option (List (List It)) := match loadFlow P A fuel k k x 0 S with
  | some (T, none) => finOne P A mf k kS wm wmF row keysF TF T
  | _ => none
def waitMore (v : Nat) (S : St) : Option (List (List It) × List (List It)) := match loadFlow P A fuel k k x (v + 1) S with
  | some (T, some SM) => match finOne P A mf k kS wm wmF row keysF TF T with
    | some kf => if and (SM.fits keysA TA) (Nat.ble k SM.N.wm) = true then some (kf, SM.ks) else none
    | none => none
  | _ => none
end
/-- Each place of the row is some worker's, and holds what it wrote. -/
def covers (n : Nat) (off : Nat → Nat) (vs : Nat → List Value) (fin : List Value) : Bool := (List.range fin.length).all fun d => (List.range n).any fun i => Nat.ble (off i) d && match (vs i)[d - off i]?, fin[d]? with
  | some u, some v => sameV u v
  | _, _ => false
variable [Hk]
theorem covers_eq {n : Nat} {off : Nat → Nat} {vs : Nat → List Value} {fin : List Value} (h : covers n off vs fin = true) : ∀ d, d < fin.length → ∃ i j v, i < n ∧ d = off i + j ∧ (vs i)[j]? = some v ∧ fin[d]? = some v := by
  intro d hd
  have := List.all_eq_true.1 h d (List.mem_range.2 hd)
  obtain ⟨i, hi, hb⟩ := List.any_eq_true.1 this
  rw [Bool.and_eq_true] at hb
  obtain ⟨h1, h2⟩ := hb
  have h1 := Nat.le_of_ble_eq_true h1
  split at h2
  · rename_i u v hu hv
    refine ⟨i, d - off i, u, List.mem_range.1 hi, by omega, hu, ?_⟩
    rw [hv, sameV_eq _ _ h2]
  · cases h2
section
variable {P : Program} {A B : Rec} {fuel mf k kS wm wmF n mw : Nat} {tyS : TypeId} {row : CB} {L : WgLink} {x : XF} {keysF keysA keys : List Nat} {T TF : Snap} {fin : List Value}
theorem stopOne_ok (hP : NoCount P) (hm : P.follows .mixedOrders = true) (hAB : A.Le B) (hB : RecOk P B) (hk : keepsAll k keys = true) {S : St} (h : stopOne P A fuel k keys T S = some T.ks) : Reach P S (T.stw keys k) := by
  unfold stopOne at h
  split at h
  rotate_left
  · cases h
  rename_i hb
  simp only [Bool.and_eq_true] at hb
  simp only [Option.some.injEq] at h
  have := reach_snapw (P := P) (toStop P A fuel S) keys (Nat.le_of_ble_eq_true hb.2) (keepsAll_eq hk)
  rw [St.fits_eq hb.1 h] at this
  exact (toStop_reach hP hm hAB hB fuel S).trans this
theorem finOne_ok (hP : NoCount P) (hm : P.follows .mixedOrders = true) (hAB : A.Le B) (hB : RecOk P B) (hk : keepsAll wmF keysF = true) {S : St} (h : finOne P A mf k kS wm wmF row keysF TF S = some TF.ks) :
    (k ≤ S.N.wm ∧ S.N.base = 0) ∧ Reach P (S.mend kS row wm) (TF.stw keysF wmF) := by
  unfold finOne at h
  split at h
  rotate_left
  · cases h
  rename_i h1
  split at h
  rotate_left
  · cases h
  rename_i T' h2
  split at h
  rotate_left
  · cases h
  rename_i h3
  simp only [Bool.and_eq_true] at h1 h3
  simp only [Option.some.injEq] at h
  have := reach_snapw (P := P) T' keysF (Nat.le_of_ble_eq_true h3.2) (keepsAll_eq hk)
  rw [St.fits_eq h3.1 h] at this
  exact ⟨⟨Nat.le_of_ble_eq_true h1.1, Nat.eq_of_beq_eq_true h1.2⟩, (krun_ok hP hm hAB hB mf h2).trans this⟩
theorem wait_ok {mf2 : Nat} (hP : NoCount P) (hm : P.follows .mixedOrders = true) (hAB : A.Le B) (hB : RecOk P B) (hkF : keepsAll wmF keysF = true) (hkA : keepsAll k keysA = true) {a : Nat → St} {TA : Nat → Snap} {tgt : Nat → Nat → Nat}
    (ha : ∀ j, 1 ≤ j → j ≤ mw → a j = (TA j).stw keysA k) (ha0 : k ≤ (a 0).N.wm) (htgt : ∀ i v, i ≤ mw → v < n → 1 ≤ tgt i v ∧ tgt i v ≤ mw)
    (hz : ∀ i, i ≤ mw → waitZero P A fuel mf k kS wm wmF row x keysF TF (a i) = some TF.ks)
    (hs : ∀ i v, i ≤ mw → v < n → waitMore P A fuel mf2 k kS wm wmF row x keysF keysA TF (TA (tgt i v)) v (a i) = some (TF.ks, (TA (tgt i v)).ks)) :
    WaitOk P A fuel k k x n mw a (fun T => (k ≤ T.N.wm ∧ T.N.base = 0) ∧ Reach P (T.mend kS row wm) (TF.stw keysF wmF)) := by
  refine ⟨fun i hi => ?_, fun i v hi hv => ?_, fun i hi => ?_⟩
  · have h := hz i hi
    unfold waitZero at h
    split at h
    · rename_i T hT
      exact ⟨T, hT, finOne_ok hP hm hAB hB hkF h⟩
    · cases h
  · have h := hs i v hi hv
    unfold waitMore at h
    split at h
    · rename_i T SM hT
      split at h
      · rename_i kf hkf
        split at h
        · rename_i hb
          simp only [Option.some.injEq, Prod.mk.injEq] at h
          obtain ⟨rfl, h2⟩ := h
          simp only [Bool.and_eq_true] at hb
          obtain ⟨t1, t2⟩ := htgt i v hi hv
          refine ⟨T, SM, tgt i v, hT, finOne_ok hP hm hAB hB hkF hkf, t2, ?_⟩
          have := reach_snapw (P := P) SM keysA (Nat.le_of_ble_eq_true hb.2) (keepsAll_eq hkA)
          rw [St.fits_eq hb.1 h2] at this
          rw [ha _ t1 t2]
          exact this
        · cases h
      · cases h
    · cases h
  · cases i with
    | zero => exact ha0
    | succ i =>
      rw [ha (i + 1) (by omega) hi]
      exact Nat.le_refl _
/-- The whole stretch. -/
theorem many_ok (hP : NoCount P) (hm : P.follows .mixedOrders = true) (hAB : A.Le B) (hB : RecOk P B) {S SP0 : St} {TI TG : Nat → Snap} {keysI keysG : Nat → List Nat} {kC m off : Nat → Nat} {kch : Nat → List Nat} {vs : Nat → List Value} {a : Nat → St} {cells : List Value} {r l c : Nat}
    (hbase : S.N.sz = k ∧ kS < k ∧ LIM ≤ kS ∧ S.N.get kS = some (.row cells tyS false) ∧ cells.length = fin.length ∧ S.ev (.tmp r) = some (.slice (some ⟨kS, 0, none⟩) l c) ∧ plainL fin = true ∧ n < 2147483647 ∧ wm ≤ S.N.wm ∧ wm ≤ kS ∧ wmF ≤ wm)
    (hlay : xal k L.tWg (S.lend kS) = some SP0) (hlay2 : stopOne P A fuel k (keysI 0) (TI 0) SP0 = some (TI 0).ks) (hkI : ∀ i, i ≤ n → keepsAll k (keysI i) = true) (hkG : ∀ i, i < n → keepsAll k (keysG i) = true)
    (hadd : ∀ i, i < n → (List.range (i + 1)).map (addOne P A fuel k x (keysG i) (TG i) ((TI i).stw (keysI i) k)) = List.replicate (i + 1) (some (TG i).ks))
    (hgo : ∀ i, i < n → goOne P A fuel (m i) k kS (off i) (kC i) (vs i) L.done (kch i) (keysI (i + 1)) (TI (i + 1)) ((TG i).stw (keysG i) k) = some (TI (i + 1)).ks)
    (hoff : ∀ i, i < n → off i + (vs i).length ≤ fin.length) (hap : ∀ i j, i < n → j < n → i ≠ j → off i + (vs i).length ≤ off j ∨ off j + (vs j).length ≤ off i) (hcov : covers n off vs fin = true)
    (hdis : xm0 k x.disable ((TI n).stw (keysI n) k) = some (a 0))
    (hw : WaitOk P A fuel k k x n mw a (fun T => (k ≤ T.N.wm ∧ T.N.base = 0) ∧ Reach P (T.mend kS (.row fin tyS false) wm) (TF.stw keysF wmF))) :
    ManyOk P A fuel k kS tyS n L x fin wm S (TF.stw keysF wmF) := by
  have hgo' : ∀ i, i < n → _ := fun i hi => goOne_ok hP hm hAB hB (hkI (i + 1) (by omega)) (hgo i hi)
  have hsp : ∀ i, i ≤ n → Reach P (match i with | 0 => SP0 | j + 1 => spOf k (kC j) ((TG j).stw (keysG j) k)) ((TI i).stw (keysI i) k) := by
    intro i hi
    cases i with
    | zero => exact stopOne_ok hP hm hAB hB (hkI 0 (Nat.zero_le _)) hlay2
    | succ j => exact (hgo' j (by omega)).2
  refine ⟨⟨cells, r, l, c, fun i => match i with | 0 => SP0 | j + 1 => spOf k (kC j) ((TG j).stw (keysG j) k), fun i => (TG i).stw (keysG i) k, kC, m, off, kch, vs, a, mw, hbase, hlay, fun i hi => ?_, fun i hi => ?_, hoff, hap, covers_eq hcov, ⟨_, hsp n (Nat.le_refl _), hdis⟩, hw⟩⟩
  · exact adds_ok hP hm hAB hB (hkG i hi) (hsp i (by omega)) (hadd i hi)
  · exact (hgo' i hi).1
end
end Go.Eng
namespace Go.Eng
open Go.Conc
set_option linter.unusedSimpArgs false
set_option linter.unusedVariables false
set_option linter.unusedSectionVars false
variable [Hk]

theorem plain_of_none {P : Program} {f : FuncId} {args : List Value} {v : Value} {N' : CH} (hargs : plainL args = true) (hv : plain v = true) (h : CallOk P f args (CH.first []) v N') (N : CH) : CallOk P f args N v N := by
  intro main J hctx lo E w O W hlo R own hcl kd cs hcs K hK
  have hpl : ∀ (F : Env), args.map F.m = args := fun F => by
    have : ∀ u ∈ args, F.m u = u := fun u hu => m_plain F (plainL_all.1 hargs u hu)
    exact (List.map_congr_left this).trans (List.map_id _)
  have R0 : Rel P (Env.bare (fun _ => .nilFunc) (fun _ => rfl)) (CH.first []) w := rel_first (laid_none w) _ _
  have own0 : Own O W 0 (Env.bare (fun _ => .nilFunc) (fun _ => rfl)) (CH.first []) w := ⟨fun j hj hl => absurd hl (no_live hj), fun j hj hl _ => absurd hl (no_live hj), own.lt, Nat.zero_le _⟩
  have := h main J 0 (Env.bare (fun _ => .nilFunc) (fun _ => rfl)) w O W (Nat.zero_le _) R0 own0 (fun u hu => Clo_plain _ _ (plainL_all.1 hargs u hu)) kd cs hcs K fun O' W' E' w' fr L hc hfn hr => by
    have hrel : Rely O w w' := ⟨fun b hb => L.ext.frame b hb (own.lt b hb) fun k hk hl => absurd hl (no_live hk), L.ext.hsize, L.ext.os, L.ext.tape, L.ext.output⟩
    have L1 := Later.of_rely R own hrel
    have L2 : Later P lo O W E N w O' W' E N w' := ⟨L1.rel, ⟨fun k hk hl => L.oo _ (own.img k hk hl), fun k hk hl h => L.ww _ (own.wri k hk hl h), L.own.lt, own.low⟩, L1.ext, L.oo, L.ww, L.ou⟩
    refine hK O' W' E w' fr L2 (Clo_plain _ _ hv) hfn ?_
    rw [m_plain E hv]
    rw [m_plain E' hv] at hr
    exact hr
  rw [hpl] at this ⊢
  exact this
end Go.Eng
namespace Go.Eng
open Go.Conc
set_option linter.unusedSimpArgs false
set_option linter.unusedVariables false
set_option linter.unusedSectionVars false

def SF.d (s : SF) : SF := ⟨s.fn, s.ar, .deferred, s.ret, s.a, s.k⟩
/-- The frames, the last of which is a deferred call's. -/
def dLast : List SF → List SF
  | [] => []
  | [s] => [s.d]
  | s :: c :: r => s :: dLast (c :: r)
def St.fs (S : St) : List SF := S.top :: S.cs
theorem dLast_cons (s c : SF) (r : List SF) : dLast (s :: c :: r) = s :: dLast (c :: r) := rfl
/-- T is S, but for the last frame's kind. -/
def Alike (S T : St) : Prop := T.N = S.N ∧ T.fs = dLast S.fs
theorem alike_lone (S : St) (h : S.cs = []) : Alike S ⟨S.top.d, [], S.N⟩ := by
  obtain ⟨t, cs, N⟩ := S
  simp only at h
  subst h
  exact ⟨rfl, rfl⟩
/-- The two shapes. -/
theorem Alike.cases {S T : St} (h : Alike S T) : (S.cs = [] ∧ T = ⟨S.top.d, [], S.N⟩) ∨ ∃ c r c' r', S.cs = c :: r ∧ T = ⟨S.top, c' :: r', S.N⟩ ∧ c' :: r' = dLast (c :: r) := by
  obtain ⟨t, cs, N⟩ := S
  obtain ⟨t', cs', N'⟩ := T
  obtain ⟨h1, h2⟩ := h
  simp only at h1
  subst h1
  cases cs with
  | nil =>
    simp only [St.fs, dLast, List.cons.injEq] at h2
    obtain ⟨rfl, rfl⟩ := h2
    exact .inl ⟨rfl, rfl⟩
  | cons c r =>
    simp only [St.fs, dLast, List.cons.injEq] at h2
    obtain ⟨rfl, h2⟩ := h2
    right
    cases hd : dLast (c :: r) with
    | nil => cases r <;> simp [dLast] at hd
    | cons c' r' =>
      rw [hd] at h2
      subst h2
      exact ⟨c, r, c', r', rfl, rfl, hd.symm⟩
/-- What lies beneath, with frames put on top. -/
theorem alike_push {s : SF} {c c' : SF} {r r' : List SF} {N : CH} (h : c' :: r' = dLast (c :: r)) : Alike ⟨s, c :: r, N⟩ ⟨s, c' :: r', N⟩ := ⟨rfl, by simp only [St.fs, dLast_cons, h]⟩
theorem alike_push2 {s t : SF} {c c' : SF} {r r' : List SF} {N : CH} (h : c' :: r' = dLast (c :: r)) : Alike ⟨s, t :: c :: r, N⟩ ⟨s, t :: c' :: r', N⟩ := ⟨rfl, by simp only [St.fs, dLast_cons, h]⟩
theorem kround_nil {l : Nat} {j : Option Code} {N : CH} {S' : St} (h : kround l j [] N = some S') : False := by
  unfold kround at h
  split at h <;> cases h
theorem kcode_d {P : Program} {R : Rec} {fn : FuncId} {ar : Option Nat} {kd : CallKind} {a : FA} {c : Code} {k : List It} {N : CH} {S' : St} (h : kcode P R fn ar kd a c k [] N = some S') : ∃ T', kcode P R fn ar .deferred a c k [] N = some T' ∧ Alike S' T' := by
  cases c with
  | skip => cases h; exact ⟨_, rfl, rfl, rfl⟩
  | seq x y => cases h; exact ⟨_, rfl, rfl, rfl⟩
  | block id c => cases h; exact ⟨_, rfl, rfl, rfl⟩
  | loop c => cases h; exact ⟨_, rfl, rfl, rfl⟩
  | cond c x y =>
    simp only [kcode] at h ⊢
    split at h
    · cases h; exact ⟨_, rfl, rfl, rfl⟩
    · cases h; exact ⟨_, rfl, rfl, rfl⟩
    · cases h
  | exit id =>
    simp only [kcode] at h ⊢
    split at h
    · cases h; exact ⟨_, rfl, rfl, rfl⟩
    · split at h
      · exact (kround_nil h).elim
      · cases h
  | ret =>
    simp only [kcode] at h ⊢
    split at h
    · cases h; exact ⟨_, rfl, rfl, rfl⟩
    · exact (kround_nil h).elim
  | region id ops draw =>
    simp only [kcode] at h ⊢
    split at h
    · cases h; exact ⟨_, rfl, rfl, rfl⟩
    · split at h
      · cases h; exact ⟨_, rfl, rfl, rfl⟩
      · cases h
  | rangeFunc f ps as bd =>
    simp only [kcode] at h ⊢
    split at h
    · split at h
      · split at h
        · cases h; exact ⟨_, rfl, rfl, rfl⟩
        · cases h
      · cases h
    · cases h
  | _ => cases h
theorem alike_down {c c' : SF} {r r' : List SF} {N : CH} (h : c' :: r' = dLast (c :: r)) : Alike ⟨c, r, N⟩ ⟨c', r', N⟩ := ⟨rfl, h⟩
theorem kfin_d {c c1 : SF} {v : Value} (h : kfin c v = some c1) : kfin c.d v = some c1.d := by
  unfold kfin at h
  split at h
  · cases h; rfl
  · cases h; rfl
  · cases h
theorem pop_ok {c c' c1 : SF} {r r' : List SF} {N : CH} {v : Value} (h : c' :: r' = dLast (c :: r)) (hc : kfin c v = some c1) : ∃ c1', kfin c' v = some c1' ∧ Alike ⟨c1, r, N⟩ ⟨c1', r', N⟩ := by
  cases r with
  | nil =>
    simp only [dLast, List.cons.injEq] at h
    obtain ⟨rfl, rfl⟩ := h
    exact ⟨_, kfin_d hc, rfl, rfl⟩
  | cons e r =>
    simp only [dLast, List.cons.injEq] at h
    obtain ⟨rfl, rfl⟩ := h
    exact ⟨_, hc, rfl, rfl⟩
theorem kround_d {l : Nat} {j : Option Code} {c c' : SF} {r r' : List SF} {N : CH} {S' : St} (hd : c' :: r' = dLast (c :: r)) (h : kround l j (c :: r) N = some S') : ∃ T', kround l j (c' :: r') N = some T' ∧ Alike S' T' := by
  unfold kround at h ⊢
  split at h
  · rename_i v N' he
    simp only at h ⊢
    split at h
    · rename_i c1 hc
      cases h
      obtain ⟨c1', h1, h2⟩ := pop_ok (N := N') hd hc
      rw [h1]
      exact ⟨_, rfl, h2⟩
    · cases h
  · cases h
theorem kcode_d2 {P : Program} {R : Rec} {fn : FuncId} {ar : Option Nat} {kd : CallKind} {a : FA} {cd : Code} {k : List It} {N : CH} {S' : St} {c c' : SF} {r r' : List SF} (hd : c' :: r' = dLast (c :: r)) (h : kcode P R fn ar kd a cd k (c :: r) N = some S') :
    ∃ T', kcode P R fn ar kd a cd k (c' :: r') N = some T' ∧ Alike S' T' := by
  have p1 : ∀ s N, Alike ⟨s, c :: r, N⟩ ⟨s, c' :: r', N⟩ := fun s N => alike_push hd
  have p2 : ∀ s t N, Alike ⟨s, t :: c :: r, N⟩ ⟨s, t :: c' :: r', N⟩ := fun s t N => alike_push2 hd
  cases cd with
  | skip => cases h; exact ⟨_, rfl, p1 _ _⟩
  | seq x y => cases h; exact ⟨_, rfl, p1 _ _⟩
  | block id c => cases h; exact ⟨_, rfl, p1 _ _⟩
  | loop c => cases h; exact ⟨_, rfl, p1 _ _⟩
  | cond c x y =>
    simp only [kcode] at h ⊢
    split at h
    · cases h; exact ⟨_, rfl, p1 _ _⟩
    · cases h; exact ⟨_, rfl, p1 _ _⟩
    · cases h
  | exit id =>
    simp only [kcode] at h ⊢
    split at h
    · cases h; exact ⟨_, rfl, p1 _ _⟩
    · split at h
      · exact kround_d hd h
      · cases h
  | ret =>
    simp only [kcode] at h ⊢
    split at h
    · cases h; exact ⟨_, rfl, p1 _ _⟩
    · exact kround_d hd h
  | region id ops draw =>
    simp only [kcode] at h ⊢
    split at h
    · cases h; exact ⟨_, rfl, p1 _ _⟩
    · split at h
      · cases h; exact ⟨_, rfl, p1 _ _⟩
      · cases h
  | rangeFunc f ps as bd =>
    simp only [kcode] at h ⊢
    split at h
    · split at h
      · split at h
        · cases h; exact ⟨_, rfl, p2 _ _ _⟩
        · cases h
      · cases h
    · cases h
  | _ => cases h
theorem kgo_d {P : Program} {fn : FuncId} {ar : Option Nat} {kd : CallKind} {a : FA} {ops : Array Oper} {i : Nat} {o : Oper} {q : List Oper} {k : List It} {N : CH} {S' : St} (h : kgo P fn ar kd a ops i o q k [] N = some S') : ∃ T', kgo P fn ar .deferred a ops i o q k [] N = some T' ∧ Alike S' T' := by
  unfold kgo at h ⊢
  split at h
  · cases h; exact ⟨_, rfl, rfl, rfl⟩
  · cases h; exact ⟨_, rfl, rfl, rfl⟩
  · split at h
    · cases h; exact ⟨_, rfl, rfl, rfl⟩
    · cases h
  · cases h; exact ⟨_, rfl, rfl, rfl⟩
  · split at h
    · cases h
    · split at h
      · cases h; exact ⟨_, rfl, rfl, rfl⟩
      · split at h
        · rename_i hc
          cases h
          simp only [if_pos hc]
          exact ⟨_, rfl, rfl, rfl⟩
        · cases h
theorem kgo_d2 {P : Program} {fn : FuncId} {ar : Option Nat} {kd : CallKind} {a : FA} {ops : Array Oper} {i : Nat} {o : Oper} {q : List Oper} {k : List It} {N : CH} {S' : St} {c c' : SF} {r r' : List SF} (hd : c' :: r' = dLast (c :: r)) (h : kgo P fn ar kd a ops i o q k (c :: r) N = some S') :
    ∃ T', kgo P fn ar kd a ops i o q k (c' :: r') N = some T' ∧ Alike S' T' := by
  have p1 : ∀ s N, Alike ⟨s, c :: r, N⟩ ⟨s, c' :: r', N⟩ := fun s N => alike_push hd
  have p2 : ∀ s t N, Alike ⟨s, t :: c :: r, N⟩ ⟨s, t :: c' :: r', N⟩ := fun s t N => alike_push2 hd
  unfold kgo at h ⊢
  split at h
  · cases h; exact ⟨_, rfl, p1 _ _⟩
  · cases h; exact ⟨_, rfl, p1 _ _⟩
  · split at h
    · cases h; exact ⟨_, rfl, p2 _ _ _⟩
    · cases h
  · cases h; exact ⟨_, rfl, p2 _ _ _⟩
  · split at h
    · cases h
    · split at h
      · cases h; exact ⟨_, rfl, p1 _ _⟩
      · split at h
        · rename_i hc
          cases h
          simp only [if_pos hc]
          exact ⟨_, rfl, p1 _ _⟩
        · cases h
theorem koper_d {P : Program} {fn : FuncId} {ar : Option Nat} {kd : CallKind} {a : FA} {ops : Array Oper} {i : Nat} {o : Oper} {q : List Oper} {k : List It} {N : CH} {S' : St} (h : koper P fn ar kd a ops i o q k [] N = some S') : ∃ T', koper P fn ar .deferred a ops i o q k [] N = some T' ∧ Alike S' T' := by
  unfold koper at h ⊢
  split at h
  · exact kgo_d h
  · split at h
    · rename_i h1
      rw [if_pos h1]
      split at h
      · rename_i h2
        rw [if_pos h2]
        exact kgo_d h
      · rename_i h2
        rw [if_neg h2]
        cases h
        exact ⟨_, rfl, rfl, rfl⟩
    · cases h
theorem koper_d2 {P : Program} {fn : FuncId} {ar : Option Nat} {kd : CallKind} {a : FA} {ops : Array Oper} {i : Nat} {o : Oper} {q : List Oper} {k : List It} {N : CH} {S' : St} {c c' : SF} {r r' : List SF} (hd : c' :: r' = dLast (c :: r)) (h : koper P fn ar kd a ops i o q k (c :: r) N = some S') :
    ∃ T', koper P fn ar kd a ops i o q k (c' :: r') N = some T' ∧ Alike S' T' := by
  unfold koper at h ⊢
  split at h
  · exact kgo_d2 hd h
  · split at h
    · rename_i h1
      rw [if_pos h1]
      split at h
      · rename_i h2
        rw [if_pos h2]
        exact kgo_d2 hd h
      · rename_i h2
        rw [if_neg h2]
        cases h
        exact ⟨_, rfl, alike_push hd⟩
    · cases h
theorem kreturn_d {P : Program} {fn : FuncId} {ar : Option Nat} {kd : CallKind} {a : FA} {k : List It} {N : CH} {S' : St} (h : kreturn P fn ar kd a k [] N = some S') : ∃ T', kreturn P fn ar .deferred a k [] N = some T' ∧ Alike S' T' := by
  unfold kreturn at h ⊢
  split at h
  · split at h
    · split at h
      · cases h; exact ⟨_, rfl, rfl, rfl⟩
      · cases h
    · cases h
  · split at h
    · cases h; exact ⟨_, rfl, rfl, rfl⟩
    · cases h
  · split at h
    · split at h
      · cases h
      · cases h
    · cases h
theorem kreturn_d2 {P : Program} {fn : FuncId} {ar : Option Nat} {kd : CallKind} {a : FA} {k : List It} {N : CH} {S' : St} {c c' : SF} {r r' : List SF} (hd : c' :: r' = dLast (c :: r)) (h : kreturn P fn ar kd a k (c :: r) N = some S') :
    ∃ T', kreturn P fn ar kd a k (c' :: r') N = some T' ∧ Alike S' T' := by
  unfold kreturn at h ⊢
  split at h
  · split at h
    · split at h
      · cases h; exact ⟨_, rfl, alike_push hd⟩
      · cases h
    · cases h
  · split at h
    · cases h; exact ⟨_, rfl, alike_push2 hd⟩
    · cases h
  · split at h
    · split at h
      · simp only at h ⊢
        split at h
        · split at h
          · rename_i c1 hc
            cases h
            obtain ⟨c1', h1, h2⟩ := pop_ok (N := N) hd hc
            rw [h1]
            exact ⟨_, rfl, h2⟩
          · cases h
        · cases h; exact ⟨_, rfl, alike_down hd⟩
        · cases h
      · cases h
    · cases h
theorem kstep_d {P : Program} {R : Rec} {S S' T : St} (ha : Alike S T) (h : kstep P R S = some S') : ∃ T', kstep P R T = some T' ∧ Alike S' T' := by
  rcases ha.cases with ⟨h1, rfl⟩ | ⟨c, r, c', r', h1, rfl, hd⟩
  · obtain ⟨⟨fn, ar, kd, ret, a, k⟩, cs, N⟩ := S
    simp only at h1
    subst h1
    cases ret with
    | true => exact kreturn_d h
    | false =>
      cases k with
      | nil =>
        simp only [kstep, SF.d] at h ⊢
        split at h
        · cases h; exact ⟨_, rfl, rfl, rfl⟩
        · exact (kround_nil h).elim
      | cons it k =>
        cases it with
        | code c => exact kcode_d h
        | inBlock id => cases h; exact ⟨_, rfl, rfl, rfl⟩
        | inLoop c => cases h; exact ⟨_, rfl, rfl, rfl⟩
        | reg ops i l =>
          cases l with
          | nil => cases h; exact ⟨_, rfl, rfl, rfl⟩
          | cons o q => exact koper_d h
        | inRange l => cases h
        | endRange l =>
          simp only [kstep, SF.d] at h ⊢
          split at h
          · split at h
            · cases h; exact ⟨_, rfl, rfl, rfl⟩
            · cases h; exact ⟨_, rfl, rfl, rfl⟩
          · cases h
        | beginRound =>
          simp only [kstep, SF.d] at h ⊢
          split at h
          · split at h
            · cases h; exact ⟨_, rfl, rfl, rfl⟩
            · cases h
          · cases h
  · obtain ⟨⟨fn, ar, kd, ret, a, k⟩, cs, N⟩ := S
    simp only at h1
    subst h1
    cases ret with
    | true => exact kreturn_d2 hd h
    | false =>
      cases k with
      | nil =>
        simp only [kstep] at h ⊢
        split at h
        · cases h; exact ⟨_, rfl, alike_push hd⟩
        · exact kround_d hd h
      | cons it k =>
        cases it with
        | code c => exact kcode_d2 hd h
        | inBlock id => cases h; exact ⟨_, rfl, alike_push hd⟩
        | inLoop c => cases h; exact ⟨_, rfl, alike_push hd⟩
        | reg ops i l =>
          cases l with
          | nil => cases h; exact ⟨_, rfl, alike_push hd⟩
          | cons o q => exact koper_d2 hd h
        | inRange l => cases h
        | endRange l =>
          simp only [kstep] at h ⊢
          split at h
          · split at h
            · cases h; exact ⟨_, rfl, alike_push hd⟩
            · cases h; exact ⟨_, rfl, alike_push hd⟩
          · cases h
        | beginRound =>
          simp only [kstep] at h ⊢
          split at h
          · split at h
            · cases h; exact ⟨_, rfl, alike_push hd⟩
            · cases h
          · cases h
theorem krun_d {P : Program} {R : Rec} : ∀ (n : Nat) {S S' T : St}, Alike S T → krun P R n S = some S' → ∃ T', krun P R n T = some T' ∧ Alike S' T'
  | 0, S, S', T, ha, h => by
    cases h
    exact ⟨T, rfl, ha⟩
  | n + 1, S, S', T, ha, h => by
    simp only [krun] at h ⊢
    split at h
    · rename_i S1 h1
      obtain ⟨T1, h2, h3⟩ := kstep_d ha h1
      obtain ⟨T', h4, h5⟩ := krun_d n h3 h
      rw [h2]
      exact ⟨T', h4, h5⟩
    · cases h
theorem snap_d (s : SF) : s.d.snap.sf = s.snap.sf.d := rfl
theorem dLast_map : ∀ (l : List SF), (dLast l).map (fun s => s.snap.sf) = dLast (l.map fun s => s.snap.sf)
  | [] => rfl
  | [s] => rfl
  | s :: c :: r => by
    simp only [dLast, List.map_cons]
    rw [dLast_map (c :: r)]
    rfl
theorem alike_snap {S T : St} (h : Alike S T) (keys : List Nat) : Alike ((S.snap keys).st keys) ((T.snap keys).st keys) := by
  obtain ⟨h1, h2⟩ := h
  have e : ∀ U : St, ((U.snap keys).st keys).fs = U.fs.map fun s => s.snap.sf := fun U => by
    show U.top.snap.sf :: (U.cs.map SF.snap).map SnapF.sf = _
    rw [List.map_map]
    rfl
  refine ⟨?_, ?_⟩
  · show (⟨T.N.sz, 0, 0, fill T.N.sz keys (keys.map T.N.get) (Tr.skel T.N.sz T.N.sz)⟩ : CH) = ⟨S.N.sz, 0, 0, fill S.N.sz keys (keys.map S.N.get) (Tr.skel S.N.sz S.N.sz)⟩
    rw [h1]
  · rw [e, e, h2, dLast_map]
theorem finVal_d {P : Program} {f : FuncId} {S T : St} {v : Value} (h : Alike S T) (hf : finVal P f .normal S = some v) : finVal P f .deferred T = some v := by
  rcases h.cases with ⟨h1, rfl⟩ | ⟨c, r, c', r', h1, rfl, _⟩
  · unfold finVal at hf
    split at hf
    rotate_left
    · cases hf
    rename_i fn kd' n t kk N
    split at hf
    rotate_left
    · cases hf
    rename_i e1
    split at hf
    rotate_left
    · cases hf
    simp only [finVal, SF.d]
    rw [if_pos e1, if_pos trivial]
    exact hf
  · obtain ⟨t, cs, N⟩ := S
    simp only at h1
    subst h1
    simp [finVal] at hf
variable [Hk]
/-- A piece of a run, for the other kind of call. -/
theorem piece_d {P : Program} (hP : NoCount P) (hm : P.follows .mixedOrders = true) {Hf : Hook} (hH : HookOk P Hf) {L d n : Nat} {S S2 : St} {keys : List Nat} {T : Snap} (h : outcome keys T (krun P (fRec P Hf L d) n S) = some (T.ks, true)) (ha : Alike S S2) :
    ∃ T2, Alike (T.st keys) T2 ∧ Reach P S2 T2 := by
  cases hr : krun P (fRec P Hf L d) n S with
  | none => rw [hr] at h; cases h
  | some S' =>
    rw [hr] at h
    simp only [outcome, Option.some.injEq, Prod.mk.injEq] at h
    obtain ⟨T', h1, h2⟩ := krun_d n ha hr
    refine ⟨(T'.snap keys).st keys, ?_, (krun_ok hP hm (fRec_le Hf L d) (mkRec_ok hP hm hH L d) n h1).trans (reach_snap T' keys)⟩
    rw [← St.fits_eq h.2 h.1]
    exact alike_snap h2 keys
theorem last_d {P : Program} (hP : NoCount P) (hm : P.follows .mixedOrders = true) {Hf : Hook} (hH : HookOk P Hf) {L d n : Nat} {S S2 : St} {f : FuncId} {v : Value} (h : (krun P (fRec P Hf L d) n S).bind (finVal P f .normal) = some v) (ha : Alike S S2) :
    ∃ T2, Reach P S2 T2 ∧ finVal P f .deferred T2 = some v := by
  obtain ⟨S', h1, h2⟩ := Option.bind_eq_some_iff.1 h
  obtain ⟨T', h3, h4⟩ := krun_d n ha h1
  exact ⟨T', krun_ok hP hm (fRec_le Hf L d) (mkRec_ok hP hm hH L d) n h3, finVal_d h4 h2⟩
theorem kenter_d {P : Program} {f : FuncId} {args : List Value} {s : SF} {N : CH} (h : kenter P f args .normal = some s) : ∃ s', kenter P f args .deferred = some s' ∧ Alike ⟨s, [], N⟩ ⟨s', [], N⟩ := by
  unfold kenter at h ⊢
  split at h
  · split at h
    · split at h
      · rename_i hlen
        cases h
        simp only [if_pos hlen]
        exact ⟨_, rfl, rfl, rfl⟩
      · cases h
    · cases h
  · cases h
end Go.Eng
namespace Go.Eng
open Go.Conc
open Go.Conc.Lib (WgLib WgLink)
open Go.ConcR (Payload)
set_option linter.unusedSimpArgs false
set_option linter.unusedVariables false
set_option linter.unusedSectionVars false

section
variable (P : Program) (A : Rec)
/-- From the call's beginning to the state written down. -/
def headOne (n : Nat) (f : FuncId) (args : List Value) (kd : CallKind) (sz : Nat) (keys : List Nat) (bs : List (Option CB)) (keysF : List Nat) (TF : Snap) : Option (List (List It)) := match kenter P f args kd with
  | some s0 => match krun P A n ⟨s0, [], CH.small sz keys bs⟩ with
    | some S => if and (S.fits keysF TF) (Nat.ble sz S.N.wm) = true then some S.ks else none
    | none => none
  | none => none
def newsAt (N : CH) : Nat → List CB → Bool
  | _, [] => true
  | k, b :: l => and (or b.isDead (beqOC (N.get k) (some b))) (newsAt N (k + 1) l)
def tailOne (n : Nat) (f : FuncId) (kd : CallKind) (v : Value) (sz : Nat) (news : List CB) (S : St) : Bool := match krun P A n S with
  | some S' => match finVal P f kd S' with
    | some u => and (sameV u v) (and (Nat.ble sz S'.N.wm) (and (Nat.beq S'.N.sz (sz + news.length)) (newsAt S'.N sz news)))
    | none => false
  | none => false
/-- The WaitGroup is laid, and on to the first stop. -/
def layOne (fuel k : Nat) (tWg : TypeId) (kS : Nat) (keys : List Nat) (T : Snap) (S : St) : Option (List (List It)) := match xal k tWg (S.lend kS) with
  | some SP0 => stopOne P A fuel k keys T SP0
  | none => none
/-- Wait's first step. -/
def disOf (k : Nat) (x : XF) (S : St) : St := match xm0 k x.disable S with
  | some a => a
  | none => S
def disOk (k : Nat) (x : XF) (S : St) : Bool := match xm0 k x.disable S with
  | some a => Nat.ble k a.N.wm
  | none => false
/-- What is asked of the state ahead of the WaitGroup. -/
def baseOk (k kS : Nat) (tyS : TypeId) (fin : List Value) (n wm wmF r : Nat) (S : St) : Bool :=
  and (and (Nat.beq S.N.sz k) (and (Nat.ble (kS + 1) k) (Nat.ble LIM kS))) (and (match S.N.get kS with | some (.row cells t false) => and (Nat.beq t tyS) (Nat.beq cells.length fin.length) | _ => false)
    (and (match S.ev (.tmp r) with | some (.slice (some ⟨b, 0, none⟩) _ _) => Nat.beq b kS | _ => false) (and (plainL fin) (and (Nat.ble (n + 1) 2147483647) (and (Nat.ble wm S.N.wm) (and (Nat.ble wm kS) (Nat.ble wmF wm)))))))
end
section
variable {P : Program} {A : Rec}
theorem baseOk_eq {k kS : Nat} {tyS : TypeId} {fin : List Value} {n wm wmF r : Nat} {S : St} (h : baseOk k kS tyS fin n wm wmF r S = true) :
    ∃ cells l c, S.N.sz = k ∧ kS < k ∧ LIM ≤ kS ∧ S.N.get kS = some (.row cells tyS false) ∧ cells.length = fin.length ∧ S.ev (.tmp r) = some (.slice (some ⟨kS, 0, none⟩) l c) ∧ plainL fin = true ∧ n < 2147483647 ∧ wm ≤ S.N.wm ∧ wm ≤ kS ∧ wmF ≤ wm := by
  simp only [baseOk, Bool.and_eq_true] at h
  obtain ⟨⟨a1, a2, a3⟩, a4, a5, a6, a7, a8, a9, a10⟩ := h
  split at a4
  rotate_left
  · cases a4
  rename_i cells t hg
  split at a5
  rotate_left
  · cases a5
  rename_i b l c he
  rw [Bool.and_eq_true] at a4
  obtain rfl := Nat.eq_of_beq_eq_true a4.1
  obtain rfl := Nat.eq_of_beq_eq_true a5
  exact ⟨cells, l, c, Nat.eq_of_beq_eq_true a1, Nat.le_of_ble_eq_true a2, Nat.le_of_ble_eq_true a3, hg, Nat.eq_of_beq_eq_true a4.2, he, a6, Nat.le_of_ble_eq_true a7, Nat.le_of_ble_eq_true a8, Nat.le_of_ble_eq_true a9, Nat.le_of_ble_eq_true a10⟩
end
variable [Hk]
theorem newsAt_eq {N : CH} : ∀ {l : List CB} {k : Nat}, newsAt N k l = true → ∀ i b, l[i]? = some b → b.isDead = true ∨ N.get (k + i) = some b
  | [], _, _, i, b, hb => by cases hb
  | c :: l, k, h, i, b, hb => by
    simp only [newsAt, Bool.and_eq_true, Bool.or_eq_true] at h
    cases i with
    | zero =>
      obtain rfl : c = b := by simpa using hb
      exact h.1.imp (fun x => x) fun x => by rw [Nat.add_zero]; exact beqOC_eq x
    | succ i =>
      have := newsAt_eq h.2 i b (by simpa using hb)
      rwa [show k + 1 + i = k + (i + 1) by omega] at this
section
variable {P : Program} {A B : Rec} {fuel mf k kS wm wmF n : Nat} {tyS : TypeId} {L : WgLink} {x : XF} {keysF keysA keys : List Nat} {TF : Snap} {fin : List Value}
theorem many_ok2 {mf2 : Nat} (hP : NoCount P) (hm : P.follows .mixedOrders = true) (hAB : A.Le B) (hB : RecOk P B) {S : St} {TI TG TA : Nat → Snap} {keysI keysG : Nat → List Nat} {kC m off : Nat → Nat} {kch : Nat → List Nat} {vs : Nat → List Value} {r : Nat}
    (hbase : baseOk k kS tyS fin n wm wmF r S = true)
    (hlay : layOne P A fuel k L.tWg kS (keysI 0) (TI 0) S = some (TI 0).ks) (hkI : ∀ i, i ≤ n → keepsAll k (keysI i) = true) (hkG : ∀ i, i < n → keepsAll k (keysG i) = true) (hkF : keepsAll wmF keysF = true) (hkA : keepsAll k keysA = true)
    (hadd : ∀ i, i < n → (List.range (i + 1)).map (addOne P A fuel k x (keysG i) (TG i) ((TI i).stw (keysI i) k)) = List.replicate (i + 1) (some (TG i).ks))
    (hgo : ∀ i, i < n → goOne P A fuel (m i) k kS (off i) (kC i) (vs i) L.done (kch i) (keysI (i + 1)) (TI (i + 1)) ((TG i).stw (keysG i) k) = some (TI (i + 1)).ks)
    (hoff : ∀ i, i < n → off i + (vs i).length ≤ fin.length) (hap : ∀ i j, i < n → j < n → i ≠ j → off i + (vs i).length ≤ off j ∨ off j + (vs j).length ≤ off i) (hcov : covers n off vs fin = true)
    (hdis : disOk k x ((TI n).stw (keysI n) k) = true)
    (hz0 : waitZero P A fuel mf k kS wm wmF (.row fin tyS false) x keysF TF (disOf k x ((TI n).stw (keysI n) k)) = some TF.ks)
    (hs0 : ∀ v, v < n → waitMore P A fuel mf2 k kS wm wmF (.row fin tyS false) x keysF keysA TF (TA (v + 1)) v (disOf k x ((TI n).stw (keysI n) k)) = some (TF.ks, (TA (v + 1)).ks))
    (hz1 : ∀ j, 1 ≤ j → j ≤ n + n → waitZero P A fuel mf k kS wm wmF (.row fin tyS false) x keysF TF ((TA j).stw keysA k) = some TF.ks)
    (hs1 : ∀ j v, 1 ≤ j → j ≤ n + n → v < n → waitMore P A fuel mf2 k kS wm wmF (.row fin tyS false) x keysF keysA TF (TA (n + 1 + v)) v ((TA j).stw keysA k) = some (TF.ks, (TA (n + 1 + v)).ks)) :
    ManyOk P A fuel k kS tyS n L x fin wm S (TF.stw keysF wmF) := by
  obtain ⟨cells, l, c, hb⟩ := baseOk_eq hbase
  unfold layOne at hlay
  split at hlay
  rotate_left
  · cases hlay
  rename_i SP0 hSP0
  unfold disOk at hdis
  split at hdis
  rotate_left
  · cases hdis
  rename_i a0 ha0
  have hd0 : disOf k x ((TI n).stw (keysI n) k) = a0 := by simp only [disOf, ha0]
  rw [hd0] at hz0 hs0
  let a : Nat → St := fun j => if j = 0 then a0 else (TA j).stw keysA k
  have e0 : a 0 = a0 := if_pos rfl
  have e1 : ∀ j, 1 ≤ j → a j = (TA j).stw keysA k := fun j hj => if_neg (by omega)
  refine many_ok (mw := n + n) (a := a) hP hm hAB hB hb hSP0 hlay hkI hkG hadd hgo hoff hap hcov (by rw [e0]; exact ha0) ?_
  refine wait_ok (mf := mf) (mf2 := mf2) (TA := TA) (tgt := fun i v => if i = 0 then v + 1 else n + 1 + v) hP hm hAB hB hkF hkA (fun j h1 _ => e1 j h1) (by rw [e0]; exact Nat.le_of_ble_eq_true hdis) ?_ ?_ ?_
  · intro i v hi hv
    show 1 ≤ (if i = 0 then v + 1 else n + 1 + v) ∧ (if i = 0 then v + 1 else n + 1 + v) ≤ n + n
    split <;> omega
  · intro i hi
    by_cases h : i = 0
    · subst h
      rw [e0]
      exact hz0
    · rw [e1 i (by omega)]
      exact hz1 i (by omega) hi
  · intro i v hi hv
    by_cases h : i = 0
    · subst h
      rw [e0]
      exact hs0 v hv
    · rw [e1 i (by omega)]
      have : (if i = 0 then v + 1 else n + 1 + v) = n + 1 + v := if_neg h
      simp only [this]
      exact hs1 i v (by omega) hi hv
end
/-- A plain call as a hook, out of what it is known to do. -/
theorem hook1_of {P : Program} {f : FuncId} {args : List Value} {v : Value} {is : List Value → Bool} (his : ∀ l, is l = true → l = args) (hb : (P.funcs[f]?).any (fun fn => fn.body.isSome) = true)
    (h : ∀ N, CallOk P f args N v N) : HookOk P (hook1 f is v) := by
  intro g l N u N' hh
  unfold hook1 at hh
  split at hh
  rotate_left
  · cases hh
  rename_i hg
  split at hh
  rotate_left
  · cases hh
  rename_i ha
  simp only [Option.some.injEq, Prod.mk.injEq] at hh
  obtain ⟨rfl, rfl⟩ := hh
  obtain rfl := Nat.eq_of_beq_eq_true hg
  obtain rfl := his l ha
  refine ⟨h N, ?_⟩
  cases hf : P.funcs[g]? with
  | none => rw [hf] at hb; cases hb
  | some fn => exact ⟨fn, rfl, by rw [hf] at hb; exact hb⟩
/-- A plain call as a hook, out of one evaluation on no memory. -/
theorem eval_hook {P : Program} (hP : NoCount P) (hm : P.follows .mixedOrders = true) {Hf : Hook} (hH : HookOk P Hf) {Ld d : Nat} {f : FuncId} {args : List Value} {v : Value} {is : List Value → Bool} (his : ∀ l, is l = true → l = args) (hb : (P.funcs[f]?).any (fun fn => fn.body.isSome) = true)
    (hargs : plainL args = true) (hv : plain v = true) (h : ((fRec P Hf Ld d).call f args (CH.first [])).any (fun r => sameV r.1 v) = true) : HookOk P (hook1 f is v) := by
  refine hook1_of his hb fun N => ?_
  cases hc : (fRec P Hf Ld d).call f args (CH.first []) with
  | none => rw [hc] at h; cases h
  | some r =>
    rw [hc] at h
    have hr := (fRec_le Hf Ld d).call _ _ _ _ hc
    obtain ⟨u, N'⟩ := r
    obtain rfl := sameV_eq _ _ (by simpa using h)
    exact plain_of_none hargs hv ((mkRec_ok hP hm hH Ld d).call _ _ _ _ _ hr) N
/-- A hook that knows one call on the blocks that it reads. -/
def hookMem (f : FuncId) (args : List Value) (sz : Nat) (keys : List Nat) (bs : List (Option CB)) (v : Value) (news : List CB) : Hook := fun g as N =>
  if Nat.beq g f = true then if Nat.beq N.sz sz = true then if sameL as args = true then if beqL beqOC (keys.map N.get) bs = true then some (v, N.pushL news) else none else none else none else none
theorem hookMem_ok {P : Program} {f : FuncId} {args : List Value} {sz : Nat} {keys : List Nat} {bs : List (Option CB)} {v : Value} {news : List CB} (hb : (P.funcs[f]?).any (fun fn => fn.body.isSome) = true)
    (h : ∀ N, N.sz = sz → keys.map N.get = bs → CallOk P f args N v (N.pushL news)) : HookOk P (hookMem f args sz keys bs v news) := by
  intro g l N u N' hh
  unfold hookMem at hh
  split at hh
  rotate_left
  · cases hh
  rename_i hg
  split at hh
  rotate_left
  · cases hh
  rename_i hs
  split at hh
  rotate_left
  · cases hh
  rename_i ha
  split at hh
  rotate_left
  · cases hh
  rename_i hk
  simp only [Option.some.injEq, Prod.mk.injEq] at hh
  obtain ⟨rfl, rfl⟩ := hh
  obtain rfl := Nat.eq_of_beq_eq_true hg
  obtain rfl := sameL_eq _ _ ha
  refine ⟨h N (Nat.eq_of_beq_eq_true hs) (beqL_eq (fun _ _ => beqOC_eq) hk), ?_⟩
  cases hf : P.funcs[g]? with
  | none => rw [hf] at hb; cases hb
  | some fn => exact ⟨fn, rfl, by rw [hf] at hb; exact hb⟩
end Go.Eng
namespace Go.Eng
open Go.Conc
open Go.Conc.Lib (WgLib WgLink)
open Go.ConcR (Payload)
set_option linter.unusedSimpArgs false
set_option linter.unusedVariables false
set_option linter.unusedSectionVars false

theorem of_call [Payload] {P : Program} (hP : NoCount P) (hm : P.follows .mixedOrders = true) {L : WgLink} (wg : WgLib P L) {Hl Ht : Hook} (hl0 : @HookOk ⟨false⟩ P Hl) (hl1 : @HookOk ⟨true⟩ P Hl) (ht : @HookOk ⟨true⟩ P Ht)
    {fuel na nt k kS n Ld d sz : Nat} {tyS : TypeId} {fin : List Value} {f : FuncId} {args : List Value} {v : Value} {keys keysS keysF : List Nat} {bs : List (Option CB)} {news : List CB} {TS TF : CallKind → Snap} (hkS : keepsAll sz keysS = true)
    (h : ∀ kd, kd = .normal ∨ kd = .deferred → headOne P (fRec P Hl Ld d) na f args kd sz keys bs keysS (TS kd) = some (TS kd).ks ∧
      @ManyOk ⟨false⟩ P (fRec P Hl Ld d) fuel k kS tyS n L (xf L) fin sz ((TS kd).stw keysS sz) ((TF kd).stw keysF sz) ∧ tailOne P (fRec P Ht Ld d) nt f kd v sz news ((TF kd).stw keysF sz) = true)
    (N : CH) (hsz : N.sz = sz) (hbs : keys.map N.get = bs) : @CallOk ⟨true⟩ P f args N v (N.pushL news) := by
  have b0 : @Base ⟨false⟩ P (fRec P Hl Ld d) (mkRec P Hl Ld d) L (xf L) := by
    letI : Hk := ⟨false⟩
    exact ⟨hP, hm, fRec_le Hl Ld d, mkRec_ok hP hm hl0 Ld d, xf_ok wg, wg⟩
  letI : Hk := ⟨true⟩
  refine mem_call hsz hbs fun kd hkd => ?_
  obtain ⟨h1, h2, h3⟩ := h kd hkd
  unfold headOne at h1
  split at h1
  rotate_left
  · cases h1
  rename_i s0 hs0
  split at h1
  rotate_left
  · cases h1
  rename_i S1 hS1
  split at h1
  rotate_left
  · cases h1
  rename_i hb
  simp only [Bool.and_eq_true] at hb
  simp only [Option.some.injEq] at h1
  have r1 := krun_ok hP hm (fRec_le Hl Ld d) (mkRec_ok hP hm hl1 Ld d) na hS1
  have r2 := reach_snapw (P := P) S1 keysS (Nat.le_of_ble_eq_true hb.2) (keepsAll_eq hkS)
  rw [St.fits_eq hb.1 h1] at r2
  have r3 : Reach P ((TS kd).stw keysS sz) ((TF kd).stw keysF sz) := reach_of_many rfl fun lo E w O W hlo hs own under hu =>
    @many_comes ⟨false⟩ _ P (fRec P Hl Ld d) (mkRec P Hl Ld d) fuel k kS sz n tyS L (xf L) fin _ _ rfl b0 h2 lo E w O W hlo hs own under hu
  unfold tailOne at h3
  split at h3
  rotate_left
  · cases h3
  rename_i S3 hS3
  split at h3
  rotate_left
  · cases h3
  rename_i u hu
  simp only [Bool.and_eq_true] at h3
  obtain ⟨c1, c2, c3, c4⟩ := h3
  obtain rfl := sameV_eq _ _ c1
  have r4 := krun_ok hP hm (fRec_le Ht Ld d) (mkRec_ok hP hm ht Ld d) nt hS3
  exact ⟨s0, S3, hs0, ((r1.trans r2).trans r3).trans r4, hu, Nat.le_of_ble_eq_true c2, Nat.eq_of_beq_eq_true c3, newsAt_eq c4⟩
end Go.Eng
namespace Go.Eng
open Go.Conc
set_option linter.unusedSimpArgs false
set_option linter.unusedVariables false
set_option linter.unusedSectionVars false

def finV (P : Program) (f : FuncId) (kd : CallKind) : St → Option Value
  | ⟨⟨fn, none, kd', true, ⟨n, t, []⟩, _⟩, [], N⟩ => if fn = f then if kd' = kd then match P.funcs[fn]? with
    | some fd => match fresult P ⟨n, t, []⟩ N fd.results.toList with
      | some vs => some (kresult vs)
      | none => none
    | none => none
    else none else none
  | _ => none
/-- That it is this value. -/
def finIs (P : Program) (f : FuncId) (v : Value) : Option St → Bool
  | some S => match finV P f .normal S with
    | some u => sameV u v
    | none => false
  | none => false
variable [Hk]
theorem finIs_eq {P : Program} {f : FuncId} {v : Value} {o : Option St} (h : finIs P f v o = true) : ∃ S, o = some S ∧ finV P f .normal S = some v := by
  cases o with
  | none => cases h
  | some S =>
    simp only [finIs] at h
    split at h
    · rename_i u hu
      exact ⟨S, rfl, by rw [hu, sameV_eq _ _ h]⟩
    · cases h
theorem finV_d {P : Program} {f : FuncId} {S T : St} {v : Value} (h : Alike S T) (hf : finV P f .normal S = some v) : finV P f .deferred T = some v := by
  rcases h.cases with ⟨h1, rfl⟩ | ⟨c, r, c', r', h1, rfl, _⟩
  · unfold finV at hf
    split at hf
    rotate_left
    · cases hf
    rename_i fn kd' n t kk N
    split at hf
    rotate_left
    · cases hf
    rename_i e1
    split at hf
    rotate_left
    · cases hf
    simp only [finV, SF.d]
    rw [if_pos e1, if_pos trivial]
    exact hf
  · obtain ⟨t, cs, N⟩ := S
    simp only at h1
    subst h1
    simp [finV] at hf
theorem ready_own {P : Program} {lo : Nat} {S : St} {under : List Frame} {O W : Nat → Prop} {w : World} {E : Env} {f : FuncId} {kd : CallKind} {v : Value} (hs : SRel P E S w) (own : Own O W lo E S.N w) (hf : finV P f kd S = some v) :
    Clo E.D v ∧ ∃ fr, S.gor E under = G fr under ∧ fr.fn = f ∧ Ready P O w fr kd (E.m v) := by
  unfold finV at hf
  split at hf
  rotate_left
  · cases hf
  rename_i fn kd' n t kk N
  split at hf
  rotate_left
  · cases hf
  rename_i e1
  split at hf
  rotate_left
  · cases hf
  rename_i e2
  subst e1; subst e2
  split at hf
  rotate_left
  · cases hf
  rename_i fd hfd
  split at hf
  rotate_left
  · cases hf
  rename_i vs hvs
  cases hf
  have hres : cresults P fd (⟨n, t, []⟩ : FA).abs.tmps N = some (kresult vs) := by
    unfold cresults
    rw [fresult_eq hs.top.a _ hvs, Option.map_some]
    cases vs with
    | nil => rfl
    | cons v r => cases r <;> rfl
  refine ⟨(results_ok hs.rel hs.top.clo.tmps hres).2, SF.frame E ⟨fn, none, kd', true, ⟨n, t, []⟩, kk⟩, rfl, rfl, rfl, rfl, rfl, fd, hfd, fun w1 hr => ?_⟩
  exact ⟨(results_ok (hs.rel.rely own hr) hs.top.clo.tmps hres).1, results_evs (hs.rel.rely own hr) (own.rely hr) hs.top.clo.tmps hres⟩
theorem plain_ran {P : Program} {f : FuncId} {args : List Value} {v : Value} (hargs : plainL args = true) (hv : plain v = true)
    (h : ∀ kd, kd = .normal ∨ kd = .deferred → ∃ s0 S, kenter P f args kd = some s0 ∧ Reach P ⟨s0, [], CH.first []⟩ S ∧ finV P f kd S = some v) (N : CH) : CallOk P f args N v N := by
  intro main J hctx lo E w O W hlo R own hcl kd cs hcs K hK
  obtain ⟨s0, S, hk, hr, hf⟩ := h kd hcs.1
  have hpl : ∀ (F : Env), args.map F.m = args := fun F => by
    have : ∀ u ∈ args, F.m u = u := fun u hu => m_plain F (plainL_all.1 hargs u hu)
    exact (List.map_congr_left this).trans (List.map_id _)
  have R0 : Rel P (Env.bare (fun _ => .nilFunc) (fun _ => rfl)) (CH.first []) w := rel_first (laid_none w) _ _
  obtain ⟨e1, e2, e3, e4, _⟩ := kenter_ok (E := Env.bare (fun _ => .nilFunc) (fun _ => rfl)) hk (fun u hu => Clo_plain _ _ (plainL_all.1 hargs u hu))
  rw [hpl] at e1 ⊢
  have hs0 : SRel P (Env.bare (fun _ => .nilFunc) (fun _ => rfl)) ⟨s0, [], CH.first []⟩ w := ⟨R0, e2, by simp, by
    refine ⟨?_, trivial⟩
    rw [e3]
    exact hcs.1.imp (fun h => h) fun h => ⟨h, .inl rfl⟩⟩
  have own0 : Own O W 0 (Env.bare (fun _ => .nilFunc) (fun _ => rfl)) (CH.first []) w := ⟨fun j hj hl => absurd hl (no_live hj), fun j hj hl _ => absurd hl (no_live hj), own.lt, Nat.zero_le _⟩
  have hg0 : St.gor (Env.bare (fun _ => .nilFunc) (fun _ => rfl)) ⟨s0, [], CH.first []⟩ cs = G (Frame.enter P f args.toArray kd) cs := by
    unfold St.gor
    rw [e1]
    rfl
  rw [← hg0]
  refine hr main J 0 _ w O W (Nat.zero_le _) hs0 own0 cs hcs.any K fun O' W' E' w' hs L => ?_
  have hrel : Rely O w w' := ⟨fun b hb => L.ext.frame b hb (own.lt b hb) fun k hk hl => absurd hl (no_live hk), L.ext.hsize, L.ext.os, L.ext.tape, L.ext.output⟩
  obtain ⟨_, fr, f1, f2, f3⟩ := ready_own (under := cs) hs L.own hf
  have L1 := Later.of_rely R own hrel
  have L2 : Later P lo O W E N w O' W' E N w' := ⟨L1.rel, ⟨fun k hk hl => L.oo _ (own.img k hk hl), fun k hk hl h => L.ww _ (own.wri k hk hl h), L.own.lt, own.low⟩, L1.ext, L.oo, L.ww, L.ou⟩
  rw [f1]
  refine hK O' W' E w' fr L2 (Clo_plain _ _ hv) f2 ?_
  rw [m_plain E hv]
  rw [m_plain E' hv] at f3
  exact f3
/-- The last piece, for both kinds of call. -/
theorem last_v {P : Program} (hP : NoCount P) (hm : P.follows .mixedOrders = true) {Hf : Hook} (hH : HookOk P Hf) {L d n : Nat} {S : St} {f : FuncId} {v : Value} (h : finIs P f v (krun P (fRec P Hf L d) n S) = true) :
    (∃ T, Reach P S T ∧ finV P f .normal T = some v) ∧ ∀ S2, Alike S S2 → ∃ T, Reach P S2 T ∧ finV P f .deferred T = some v := by
  obtain ⟨S', h1, h2⟩ := finIs_eq h
  refine ⟨⟨S', krun_ok hP hm (fRec_le Hf L d) (mkRec_ok hP hm hH L d) n h1, h2⟩, fun S2 ha => ?_⟩
  obtain ⟨T', h3, h4⟩ := krun_d n ha h1
  exact ⟨T', krun_ok hP hm (fRec_le Hf L d) (mkRec_ok hP hm hH L d) n h3, finV_d h4 h2⟩
/-- A piece, ahead of what is known of the rest. -/
theorem piece_v {P : Program} (hP : NoCount P) (hm : P.follows .mixedOrders = true) {Hf : Hook} (hH : HookOk P Hf) {L d n : Nat} {S : St} {keys : List Nat} {T : Snap} {f : FuncId} {v : Value} (h : outcome keys T (krun P (fRec P Hf L d) n S) = some (T.ks, true))
    (hr : (∃ T', Reach P (T.st keys) T' ∧ finV P f .normal T' = some v) ∧ ∀ S2, Alike (T.st keys) S2 → ∃ T', Reach P S2 T' ∧ finV P f .deferred T' = some v) :
    (∃ T', Reach P S T' ∧ finV P f .normal T' = some v) ∧ ∀ S2, Alike S S2 → ∃ T', Reach P S2 T' ∧ finV P f .deferred T' = some v := by
  obtain ⟨⟨T1, a1, a2⟩, hd⟩ := hr
  refine ⟨⟨T1, (reach_piece hP hm hH h).trans a1, a2⟩, fun S2 ha => ?_⟩
  obtain ⟨T2, b1, b2⟩ := piece_d hP hm hH h ha
  obtain ⟨T3, c1, c2⟩ := hd T2 b1
  exact ⟨T3, b2.trans c1, c2⟩
/-- A plain call as a hook, out of a run in pieces. -/
theorem pieces_hook {P : Program} {f : FuncId} {args : List Value} {v : Value} {is : List Value → Bool} (his : ∀ l, is l = true → l = args) (hb : (P.funcs[f]?).any (fun fn => fn.body.isSome) = true) (hargs : plainL args = true) (hv : plain v = true) {s0 : SF} (hk : kenter P f args .normal = some s0)
    (h : (∃ T, Reach P ⟨s0, [], CH.first []⟩ T ∧ finV P f .normal T = some v) ∧ ∀ S2, Alike ⟨s0, [], CH.first []⟩ S2 → ∃ T, Reach P S2 T ∧ finV P f .deferred T = some v) : HookOk P (hook1 f is v) := by
  refine hook1_of his hb (plain_ran hargs hv fun kd hkd => ?_)
  rcases hkd with rfl | rfl
  · obtain ⟨T, h1, h2⟩ := h.1
    exact ⟨s0, T, hk, h1, h2⟩
  · obtain ⟨s', h1, h2⟩ := kenter_d (N := CH.first []) hk
    obtain ⟨T, h3, h4⟩ := h.2 _ h2
    exact ⟨s', T, h1, h3, h4⟩
end Go.Eng
namespace Go.Eng
open Go.Conc
set_option linter.unusedSimpArgs false
set_option linter.unusedVariables false
set_option linter.unusedSectionVars false

def kdo (P : Program) (A : Rec) : St → Option St
  | ⟨⟨fn, ar, kd, false, a, .reg ops i (o :: r) :: k⟩, cs, N⟩ => match fopStep P A ops ar o a N with
    | some (a', N') => some ⟨⟨fn, ar, kd, false, a', .reg ops (i + 1) r :: k⟩, cs, N'⟩
    | none => none
  | _ => none
/-- Runs with a known call behind each but the last. -/
def kleaps (P : Program) (A : Rec) : List Nat → St → Option St
  | [], S => some S
  | [n], S => krun P A n S
  | n :: l, S => match krun P A n S with
    | some S1 => match kdo P A S1 with
      | some S2 => kleaps P A l S2
      | none => none
    | none => none
variable [Hk]
theorem kdo_ok {P : Program} (hP : NoCount P) {A B : Rec} (hAB : A.Le B) (hB : RecOk P B) {S S' : St} (h : kdo P A S = some S') : Reach P S S' := by
  unfold kdo at h
  split at h
  rotate_left
  · cases h
  rename_i fn ar kd a ops i o r k cs N
  split at h
  rotate_left
  · cases h
  rename_i a' N' hd
  cases h
  intro main J hx lo E w O W hlo hs ow under hu K hK
  have ht := hs.top
  have hit : ∀ j o', (o :: r)[j]? = some o' → ops[i + j]? = some o' := ht.its (.reg ops i (o :: r)) (by simp)
  have ho : ops[i]? = some o := by simpa using hit 0 o rfl
  have hr : ∀ j o', r[j]? = some o' → ops[i + 1 + j]? = some o' := fun j o' hj => by
    have := hit (j + 1) o' (by simpa using hj)
    rwa [show i + (j + 1) = i + 1 + j by omega] at this
  obtain ⟨h1, h2⟩ := fopStep_ok hAB ho ht.a hd
  unfold St.gor
  rw [SF.frame_run E rfl]
  simp only [List.map_cons, It.item, List.length_cons, List.range'_succ]
  refine opStep_ok hP hB h1 hlo hs.rel ow ht.clo (SF.base E ⟨fn, ar, kd, false, a, .reg ops i (o :: r) :: k⟩) (fun har => by simp [SF.base, har]) (List.range' (i + 1) r.length) (k.map (It.item E)) (cs.map (SF.frame E) ++ under) (fun _ => caller_of hu hs.stk) fun O' W' E' w' L hclo => ?_
  have X := L.ext
  obtain ⟨x1, x2⟩ := SF.ext X ht
  have e1 := congrArg Frame.roundOf x1
  have e2 := congrArg Frame.todo x1
  simp only [SF.frame, List.map_cons, It.item, List.cons.injEq, true_and] at e1 e2
  have hfin := hK O' W' E' w' (hs.turn L.rel X ⟨h2, hclo, x2.ar, (fun it hit' => by
    rcases List.mem_cons.1 hit' with rfl | hit'
    · exact hr
    · exact x2.its it (by simp [hit'])), x2.ret, x2.kd⟩ rfl) L
  rw [gor_eq X hs.cs, SF.frame_run E' rfl] at hfin
  simp only [SF.base, e1, List.map_cons, It.item, e2] at hfin
  exact hfin
theorem kleaps_ok {P : Program} (hP : NoCount P) (hm : P.follows .mixedOrders = true) {A B : Rec} (hAB : A.Le B) (hB : RecOk P B) : ∀ (l : List Nat) {S S' : St}, kleaps P A l S = some S' → Reach P S S'
  | [], S, S', h => by
    simp only [kleaps, Option.some.injEq] at h
    subst h
    exact Reach.refl P S
  | [n], S, S', h => krun_ok hP hm hAB hB n h
  | n :: m :: l, S, S', h => by
    simp only [kleaps] at h
    split at h
    rotate_left
    · cases h
    rename_i S1 h1
    split at h
    rotate_left
    · cases h
    rename_i S2 h2
    exact ((krun_ok hP hm hAB hB n h1).trans (kdo_ok hP hAB hB h2)).trans (kleaps_ok hP hm hAB hB (m :: l) h)
theorem leaps_last {P : Program} (hP : NoCount P) (hm : P.follows .mixedOrders = true) {Hf : Hook} (hH : HookOk P Hf) {L d : Nat} {l : List Nat} {S : St} {f : FuncId} {v : Value × List (Option CB)} (h : (kleaps P (fRec P Hf L d) l S).bind (St.final P f) = some v) : ∃ S', Reach P S S' ∧ S'.final P f = some v := by
  obtain ⟨S', h1, h2⟩ := Option.bind_eq_some_iff.1 h
  exact ⟨S', kleaps_ok hP hm (fRec_le Hf L d) (mkRec_ok hP hm hH L d) l h1, h2⟩
end Go.Eng
