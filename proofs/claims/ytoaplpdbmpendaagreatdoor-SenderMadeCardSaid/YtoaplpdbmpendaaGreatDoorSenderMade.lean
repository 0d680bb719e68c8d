/-
  SenderMade answers true, whatever the memory that it is called in. No conditions.
-/
import Derived.Test.YtoaplpdbmpendaaGreatDoorRows
import Derived.Test.YtoaplpdbmpendaaGreatDoorCards
import Derived.Test.YtoaplpdbmpendaaGreatDoorTie
import Derived.WalkKit
import Derived.ProofKit
import Derived.OpenShut
import Derived.Below
import Derived.ChangeSame
import Derived.LaidMore
import Derived.Lay
import Derived.SevenTiedAt
import Derived.Stop.Joined
import Derived.Conc.Holds
import Derived.Carry
import Derived.Leaving
import Derived.MakeChecks
import Derived.Test.YtoaplpdbmpendaaGreatDoorEngQz
import Derived.Test.YtoaplpdbmpendaaGreatDoorSenderMadeRan
import Derived.Test.YtoaplpdbmpendaaGreatDoorSenderMadeFacts
namespace Go.Proofs.YtoaplpdbmpendaaGreatDoor.senderMade
open Go.ChangeShapes Go.WideShapes Go.ChangeAt Go.RowKit
set_option linter.unusedVariables false
set_option linter.unusedSimpArgs false

section
variable {H : Type} {enc : TypeId × Value → H} {P : Program}
theorem post_of_below {f : Func} {s : ChangeSpec} {apart fresh handsOn again : Bool} {W W' : World} {args : Array Value} {v : Value} {ds gs : List (DataW H)} {before pa pv : List MemPlace}
    (hW : DataW.Whole enc P f.params.toList s.vars apart W args.toList ds gs before)
    (hres : ∀ (b : Nat) (sp : Nat → Bool) (hd : Bool), DataW.TrodAll enc P W' b sp hd f.resultTypes.toList (v.resultList f.resultTypes.size) (s.fn H (ds ++ gs)).results [])
    (hargs : ∀ sp : Nat → Bool, (∀ p ∈ before, sp p.block = true) → DataW.TrodAll enc P W' 0 sp true f.params.toList args.toList (s.fn H (ds ++ gs)).args pa)
    (hvars : ∀ sp : Nat → Bool, (∀ p ∈ before, sp p.block = true) → DataW.TrodVars enc P W' sp s.vars (s.fn H (ds ++ gs)).vars pv)
    (hps : before = pa ++ pv) (hb : Below W.heap.size W W')
    (hok : ∀ (j : Nat) (t : TypeId) (r : Value), f.resultTypes[j]? = some t → (v.resultList f.resultTypes.size)[j]? = some r → Value.okWide P W' .any 0 t r) :
    s.post enc P f apart fresh handsOn again W args v W' := by
  have hlt : ∀ p ∈ before, p.block < W.heap.size := fun p hp => hW.lt p hp
  have hold : ∀ p ∈ before, (fun b => decide (b < W.heap.size)) p.block = true := fun p hp => by simpa using hlt p hp
  refine ⟨ds, gs, before, [], pa, pv, hW, hres _ _ _, hargs _ hold, hvars _ hold, World.keptBut_mono (fun p hp => ⟨hp, ?_⟩) (hb.frame (· ∈ before)), fun _ => ?_⟩
  · rw [hps, List.mem_append] at hp
    exact Or.inr hp
  · obtain ⟨_, _, _, _, _, hz, hn⟩ := hW
    refine ⟨hok, _, _, ([] ++ pa) ++ pv, ⟨[] ++ pa, pv, trodAll_append (hargs _ (fun _ _ => rfl)) (hres _ _ _), hvars _ (fun _ _ => rfl), rfl, ?_, ?_⟩, ?_⟩
    · intro b off hp
      have hin : MemPlace.cell b off ∈ before := by rw [hps]; simpa using hp
      rw [hb.frozen (hlt _ hin)]
      exact hz b off hin
    · intro ha
      have := hn ha
      rw [hps] at this
      simpa using this
    · intro p hp _
      rw [hps]
      simpa using hp
end


theorem own : ownKnob Tryz.prog.godebug = none := by kernel_rfl

theorem noInit : Tryz.prog.inits.idxOf? 3 = none := by kernel_rfl
def isStruct (P : Program) (t : TypeId) : Bool := match P.underlying t with
  | some (.struct _) => true
  | _ => false
theorem one_of {P : Program} {w : World} {r : Reach} {b : Nat} {t : TypeId} {v : Value} (h : Cell.okWide P w r b t v) : v.oneCell' = true := by
  cases v with
  | agg cs => exfalso; unfold Cell.okWide Cell.ok at h; cases hu : P.underlying t with
    | none => simp [hu] at h
    | some d => cases d <;> simp [hu] at h
  | tuple cs => exfalso; unfold Cell.okWide Cell.ok at h; cases hu : P.underlying t with
    | none => simp [hu] at h
    | some d => cases d <;> simp [hu] at h
  | _ => rfl
theorem cells_at {P : Program} {w : World} {r : Reach} {b n : Nat} {t : TypeId} {v : Value} {ts : List TypeId} (hs : isStruct P t = true) (hts : P.cellTypes P.depth t = some ts) (hn : P.cellsOf t = n) (hl : ts.length = n) (h : Value.okWide P w r b t v) :
    ∃ c : List Value, v = .agg c.toArray ∧ c.length = n ∧ ∀ (i : Nat) u x, c[i]? = some u → ts[i]? = some x → Cell.okWide P w r b x u := by
  unfold isStruct at hs
  split at hs
  · rename_i fs hu
    simp only [Value.okWide, hu] at h
    obtain ⟨cs, rfl, hz, ts', h1, _, hc⟩ := h
    obtain rfl := Option.some.inj (hts.symm.trans h1)
    have hz' : cs.size = n := hz.trans hn
    refine ⟨cs.toList, by simp, by simp [hz'], fun i u x hi hx => ?_⟩
    obtain ⟨y, h2, h3⟩ := hc i u (by simpa using hi)
    have hlt : i < ts.length := by
      have : i < cs.toList.length := (List.getElem?_eq_some_iff.1 hi).1
      simp [hz'] at this
      omega
    rw [Nat.mod_eq_of_lt hlt, hx] at h2
    cases h2
    exact h3
  · cases hs
theorem int_cell {P : Program} {w : World} {r : Reach} {b : Nat} {t : TypeId} {v : Value} (hu : P.underlying t = some (.int .i64)) (h : Cell.okWide P w r b t v) : ∃ k, v = .int .i64 k := by
  unfold Cell.okWide Cell.ok at h
  cases v with
  | int k m =>
    simp [hu] at h
    exact ⟨m, by rw [h.1]⟩
  | _ => simp [hu] at h
theorem str_cell {P : Program} {w : World} {r : Reach} {b : Nat} {t : TypeId} {v : Value} (hu : P.underlying t = some .string) (h : Cell.okWide P w r b t v) : ∃ l : List UInt8, v = .string ⟨⟨l⟩⟩ := by
  unfold Cell.okWide Cell.ok at h
  cases v with
  | string s =>
    obtain ⟨⟨l⟩⟩ := s
    exact ⟨l, rfl⟩
  | _ => simp [hu] at h
theorem laidOut : laidOutB Tryz.prog = true := by kernel_rfl
/-- The walk: the engine's run. -/
theorem walk (W : World) (x0 x1 x2 x3 : Value) (o0 : x0.oneCell' = true) (o1 : x1.oneCell' = true) (o2 : x2.oneCell' = true) (o3 : x3.oneCell' = true) (k : Int) (key val : List UInt8) (ver : Int) : ∃ M last o w' t',
    runNT Tryz.prog (M + 1) (Conc.solo (Conc.G (Frame.enter Tryz.prog 3 #[.agg #[x0, x1, x2, x3, .int .i64 k, .string ⟨⟨key⟩⟩, .string ⟨⟨val⟩⟩, .int .i64 ver]] .normal) []) W) #[] = (.ended o w', t') ∧ runN Tryz.prog M (Conc.solo (Conc.G (Frame.enter Tryz.prog 3 #[.agg #[x0, x1, x2, x3, .int .i64 k, .string ⟨⟨key⟩⟩, .string ⟨⟨val⟩⟩, .int .i64 ver]] .normal) []) W) = .next last ∧
      step Tryz.prog last = .ended o w' ∧ Conc.Good Tryz.prog (fun u W' => u = .bool true ∧ Below W.heap.size W W') last o w' t' := by
  have hone : ∀ i, ([x0, x1, x2, x3].getD i Value.nilFunc).oneCell' = true := by
    intro i
    match i with
    | 0 => exact o0
    | 1 => exact o1
    | 2 => exact o2
    | 3 => exact o3
    | _ + 4 => rfl
  obtain ⟨S, h, hf⟩ := ran k key val ver
  have hc : ∀ u ∈ args k key val ver, Eng.Clo (fun k => k < Eng.LIM) u := by
    intro u hu
    simp only [args, List.mem_singleton] at hu
    subst hu
    refine Eng.Clo_agg.2 fun v hv => ?_
    simp only [List.mem_cons, List.mem_nil_iff, or_false] at hv
    rcases hv with rfl | rfl | rfl | rfl | rfl | rfl | rfl | rfl <;> trivial
  have hr := Eng.runs_reach laid (fun i => [x0, x1, x2, x3].getD i Value.nilFunc) hone hc rfl noInit (begins k key val ver) h hf W (Eng.laid_none W)
  have he : ((args k key val ver).map (Eng.Env.m (Eng.Env.bare (fun i => [x0, x1, x2, x3].getD i Value.nilFunc) hone))).toArray = #[.agg #[x0, x1, x2, x3, .int .i64 k, .string ⟨⟨key⟩⟩, .string ⟨⟨val⟩⟩, .int .i64 ver]] := rfl
  rw [he] at hr
  obtain ⟨M, last, o, w', t', h1, h2, h3, h4⟩ := hr
  exact ⟨M, last, o, w', t', h1, h2, h3, h4.mono fun v h => ⟨h.1, h.2.2.2.1, h.2.2.2.2.1, h.2.2.2.2.2, h.2.1, h.2.2.1⟩⟩

set_option maxRecDepth 100000 in
theorem lifted (os : Os) (started : os.Started) (H : Type) (enc : TypeId × Value → H) :
    ReturnsInLeavingWide {} Tryz.checked os 3 .any (fun w args => (Rows.senderMadeSpec.pre enc Tryz.prog Tryz.f3 Rows.senderMadeRow.domain false w args ∧ laidMetH Tryz.prog Rows.senderMadeRow.laid w) ∧ sizedMet enc Tryz.prog Tryz.f3 (OpenSpec.ofChange Rows.senderMadeSpec) false w args)
      (Rows.senderMadeSpec.post enc Tryz.prog Tryz.f3 false true false false) := by
  refine Eng.returnsInLeavingWide_of_change_and (C := Tryz.checked) (X := fun w _ => laidMetH Tryz.prog Rows.senderMadeRow.laid w) (fun _ _ _ hh h => h.of_heap hh) own started Tryz.func3
    (ChangeSpec.witness_shaped (enc := enc) (C := Tryz.checked) (os := os) (X := fun w _ => laidMetH Tryz.prog Rows.senderMadeRow.laid w) false (World.laidAll Tryz.prog os Rows.senderMadeRow.laid) #[((Tryz.prog.info? 27).bind (·.zero)).getD default] 30 (World.laidAll_os _ _ _)
      (World.shaped_of_ZipB (by kernel_rfl) (by kernel_rfl)) (by kernel_rfl) (by kernel_rfl) (by kernel_rfl)
      (by rw [MakeChecks.laidMetH_plain _ _ _ (by kernel_rfl)]; exact laidMet_laidAll _ (by kernel_rfl) (by kernel_rfl))) ?_
  intro W base args ds gs before hval0 hW hc _ hL hS _
  have hval : ∀ (j : Nat) t v, Tryz.f3.params[j]? = some t → args[j]? = some v → Value.okWide Tryz.prog W .any base t v := hval0
  have hW' := hW
  obtain ⟨p, q, hA0, hV, rfl, _, _⟩ := hW
  have hA : DataW.TrodAll enc Tryz.prog W 0 (fun _ => true) true Tryz.f3.params.toList args.toList ds p := hA0
  rw [Tryz.params3] at hA hval
  obtain ⟨a0, d0, rfl, rfl, h0⟩ := trodAll_one hA
  obtain ⟨rfl, rfl⟩ := trodVars_none hV
  simp only [List.append_nil] at hW'
  obtain ⟨c, rfl, z, hc⟩ := cells_at (n := 8) (ts := [3, 3, 3, 22, 23, 9, 9, 3]) (by kernel_rfl) (by kernel_rfl) (by kernel_rfl) rfl (hval 0 27 a0 rfl rfl)
  obtain ⟨x0, hx0⟩ : ∃ x, c[0]? = some x := ⟨_, List.getElem?_eq_getElem (by omega)⟩
  obtain ⟨x1, hx1⟩ : ∃ x, c[1]? = some x := ⟨_, List.getElem?_eq_getElem (by omega)⟩
  obtain ⟨x2, hx2⟩ : ∃ x, c[2]? = some x := ⟨_, List.getElem?_eq_getElem (by omega)⟩
  obtain ⟨x3, hx3⟩ : ∃ x, c[3]? = some x := ⟨_, List.getElem?_eq_getElem (by omega)⟩
  obtain ⟨k, hk⟩ : ∃ x, c[4]? = some (.int .i64 x) := by
    have hi : c[4]? = some c[4] := List.getElem?_eq_getElem (by omega)
    obtain ⟨x, hx⟩ := int_cell Tryz.underlying23 (hc 4 _ 23 hi rfl)
    exact ⟨x, by rw [hi, hx]⟩
  obtain ⟨key, hkey⟩ : ∃ x, c[5]? = some (.string ⟨⟨x⟩⟩) := by
    have hi : c[5]? = some c[5] := List.getElem?_eq_getElem (by omega)
    obtain ⟨x, hx⟩ := str_cell Tryz.underlying9 (hc 5 _ 9 hi rfl)
    exact ⟨x, by rw [hi, hx]⟩
  obtain ⟨val, hvalu⟩ : ∃ x, c[6]? = some (.string ⟨⟨x⟩⟩) := by
    have hi : c[6]? = some c[6] := List.getElem?_eq_getElem (by omega)
    obtain ⟨x, hx⟩ := str_cell Tryz.underlying9 (hc 6 _ 9 hi rfl)
    exact ⟨x, by rw [hi, hx]⟩
  obtain ⟨ver, hver⟩ : ∃ x, c[7]? = some (.int .i64 x) := by
    have hi : c[7]? = some c[7] := List.getElem?_eq_getElem (by omega)
    obtain ⟨x, hx⟩ := int_cell Tryz.underlying3 (hc 7 _ 3 hi rfl)
    exact ⟨x, by rw [hi, hx]⟩
  have hce : c = [x0, x1, x2, x3, .int .i64 k, .string ⟨⟨key⟩⟩, .string ⟨⟨val⟩⟩, .int .i64 ver] := by
    apply List.ext_getElem?
    intro i
    match i with
    | 0 => exact hx0
    | 1 => exact hx1
    | 2 => exact hx2
    | 3 => exact hx3
    | 4 => exact hk
    | 5 => exact hkey
    | 6 => exact hvalu
    | 7 => exact hver
    | i + 8 => rw [List.getElem?_eq_none (by omega), List.getElem?_eq_none (by simp)]
  have hlt : ∀ x ∈ p, x.block < W.heap.size := fun x hx => hW'.lt x hx
  obtain ⟨M, last, o, w', t', h1, h2, h3, h4⟩ := walk W x0 x1 x2 x3 (one_of (hc 0 _ 3 hx0 rfl)) (one_of (hc 1 _ 3 hx1 rfl)) (one_of (hc 2 _ 3 hx2 rfl)) (one_of (hc 3 _ 22 hx3 rfl)) k key val ver
  have hca : c.toArray = #[x0, x1, x2, x3, .int .i64 k, .string ⟨⟨key⟩⟩, .string ⟨⟨val⟩⟩, .int .i64 ver] := by rw [hce]
  rw [← hca] at h1 h2
  refine ⟨M, last, o, w', t', h1, h2, h3, h4.mono fun u h => ?_⟩
  obtain ⟨rfl, hg⟩ := h
  exact (post_of_below (pa := p) (pv := []) hW' (fun _ _ _ => trodAll_mk1 (shut_bool Tryz.underlying4 _)) (fun sp hsp => trodAll_mk1 (WideElems.Trod_stays laidOut (by kernel_rfl) (of_decide_eq_true (by kernel_rfl)) h0 (fun x hx => hg.same (hlt x hx)) (fun x hx => hsp x hx))) (fun _ _ => rfl) (by simp) hg (ok_one (by kernel_rfl) rfl (okWide_bool_mk Tryz.underlying4 _)))

theorem holds : Rows.SenderMadeSaid :=
  OpenClaim.holds_of_wide_leaving 3 Tryz.f3 rfl rfl rfl rfl rfl rfl rfl ⟨rfl, rfl, rfl, rfl, rfl⟩ rfl rfl rfl rfl rfl named Tryz.func3 facts
    instanced wrapped
    (fun os started H enc _ => lifted os started H enc)

/-- The guide's builder of a tied card, for a card that says 'goes'. -/
theorem tied_goes (Lk : Looks) {p : Pinned} {s : OpenSpec} {c : OpenClaim} (kinds : List LaidKind) (tests : Bool) (har : Bool × String) (lk : Bool)
    (hc : c.holds p s) (hw : c.wfByText s = true) (htie : c.laidByTextAt Lk p kinds tests)
    (hst : c.start = .entering) (hnb : c.noBlocks = false ∧ c.again = false) (hm : p.checked.prog.mainIs = some (har.1, har.2.toList)) (hn : (!har.1 && har.2.isEmpty && !lk) = false)
    (hl : ∀ f fn, p.checked.prog.funcNamed c.func = some f → p.checked.prog.funcs[f]? = some fn → lk = p.checked.prog.looks [] ∧ ∀ (j : Nat) t, fn.params[j]? = some t → p.checked.prog.wantsStandIn t = false)
    (hg : true = c.goesBy p.checked.prog) :
    Claim7.holds p (.plain s) { stood := { row := c, standIns := [], harness := har, looks := lk }, kinds := [], alts := [], goes := true, laidByText := true, laidKinds := kinds, laidTests := tests, laidLooks := Lk } := by
  have h6 : ∀ r : OpenClaim, Claim7.isSixth { stood := { row := r, standIns := [], harness := har, looks := lk }, kinds := [] } = false := fun r => by simpa [Claim7.isSixth] using hn
  exact ⟨Claim7.tied_new_at Lk kinds tests (Claim7.new_of_sixth hc har lk hst hnb hm (h6 c) hl) hw, (fun _ hD => by cases hD), htie, (fun h => by cases h), hg⟩

/-- That the call can start goroutines, without a look into each body that it can come to. -/
theorem goes_of {c : OpenClaim} {P : Program} {f g : FuncId} (hs : c.start = .entering) (hn : P.funcNamed c.func = some f) (hu : P.unfollowed f = true) (hg : (P.funcs[g]?).any Func.goes = true) : true = c.goesBy P := by
  have ha : P.funcs.any Func.goes = true := by
    cases hf : P.funcs[g]? with
    | none => rw [hf] at hg; cases hg
    | some fn =>
      rw [hf] at hg
      obtain ⟨h1, h2⟩ := Array.getElem?_eq_some_iff.1 hf
      exact Array.any_eq_true.2 ⟨g, h1, by rw [h2]; exact hg⟩
  unfold OpenClaim.goesBy Program.goesAt Program.goesFrom
  rw [hs, hn]
  simp [Program.goes, hu, ha]

set_option maxHeartbeats 4000000 in
theorem unfollowed : Tryz.pinned.checked.prog.unfollowed 3 = true := by kernel_rfl
set_option maxHeartbeats 4000000 in
theorem going : (Tryz.pinned.checked.prog.funcs[39]?).any Func.goes = true := by kernel_rfl
set_option maxHeartbeats 4000000 in
/-- The statement. -/
theorem proved : Rows.SenderMadeCardSaid :=
  tied_goes .later [.data, .pinned] true (true, "f3b1853c2e77efda710c4f4d58864a2e445774313211ed5745685686e36da6b5") false holds (by as_aux_lemma => kernel_rfl) senderMade_row_tie rfl ⟨rfl, rfl⟩ (by as_aux_lemma => kernel_rfl) rfl
    (fun f fn hf hfn => by
      obtain rfl : f = 3 := Option.some.inj ((show Tryz.prog.funcNamed "hawser/hawserlaw17.SenderMade" = some 3 by as_aux_lemma => kernel_rfl).symm.trans hf) |>.symm
      obtain rfl : fn = Tryz.f3 := (Option.some.inj (Tryz.func3.symm.trans hfn)).symm
      exact ⟨by as_aux_lemma => kernel_rfl, fun j t ht => by
        rw [Tryz.params3] at ht
        have hm : t ∈ [27] := by simpa using Array.mem_of_getElem? ht
        have hall : ([27].all fun u => !Tryz.prog.wantsStandIn u) = true := by kernel_rfl
        exact (show Tryz.prog.wantsStandIn t = false by simpa using List.all_eq_true.1 hall t hm)⟩)
    (goes_of rfl named unfollowed going)
#print axioms proved
end Go.Proofs.YtoaplpdbmpendaaGreatDoor.senderMade
