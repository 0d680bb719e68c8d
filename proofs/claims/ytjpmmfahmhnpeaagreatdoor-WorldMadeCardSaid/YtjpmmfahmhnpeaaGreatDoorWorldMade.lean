/-
  WorldMade answers true, whatever the memory that it is called in. No conditions.
-/
import Derived.Test.YtjpmmfahmhnpeaaGreatDoorRows
import Derived.Test.YtjpmmfahmhnpeaaGreatDoorCards
import Derived.Test.YtjpmmfahmhnpeaaGreatDoorWorldMadeTie
import Derived.WalkKit
import Derived.ProofKit
import Derived.OpenShut
import Derived.Below
import Derived.ChangeSame
import Derived.LaidMore
import Derived.Lay
import Derived.SevenTiedAt
import Derived.Stop.Joined
import Derived.Conc.Holds
import Derived.Carry
import Derived.Leaving
import Derived.Test.YtjpmmfahmhnpeaaGreatDoorEngP
import Derived.Test.YtjpmmfahmhnpeaaGreatDoorWorldMadeRan
import Derived.Test.YtjpmmfahmhnpeaaGreatDoorWorldMadeFacts
namespace Go.Proofs.YtjpmmfahmhnpeaaGreatDoor.worldMade
open Go.ChangeShapes Go.WideShapes Go.ChangeAt Go.RowKit
set_option linter.unusedVariables false
set_option linter.unusedSimpArgs false

section
variable {H : Type} {enc : TypeId × Value → H} {P : Program}
theorem post_of_below {f : Func} {s : ChangeSpec} {apart fresh handsOn again : Bool} {W W' : World} {args : Array Value} {v : Value} {ds gs : List (DataW H)} {before pa pv : List MemPlace}
    (hW : DataW.Whole enc P f.params.toList s.vars apart W args.toList ds gs before)
    (hres : ∀ (b : Nat) (sp : Nat → Bool) (hd : Bool), DataW.TrodAll enc P W' b sp hd f.resultTypes.toList (v.resultList f.resultTypes.size) (s.fn H (ds ++ gs)).results [])
    (hargs : ∀ sp : Nat → Bool, (∀ p ∈ before, sp p.block = true) → DataW.TrodAll enc P W' 0 sp true f.params.toList args.toList (s.fn H (ds ++ gs)).args pa)
    (hvars : ∀ sp : Nat → Bool, (∀ p ∈ before, sp p.block = true) → DataW.TrodVars enc P W' sp s.vars (s.fn H (ds ++ gs)).vars pv)
    (hps : before = pa ++ pv) (hb : Below W.heap.size W W')
    (hok : ∀ (j : Nat) (t : TypeId) (r : Value), f.resultTypes[j]? = some t → (v.resultList f.resultTypes.size)[j]? = some r → Value.okWide P W' .any 0 t r) :
    s.post enc P f apart fresh handsOn again W args v W' := by
  have hlt : ∀ p ∈ before, p.block < W.heap.size := fun p hp => hW.lt p hp
  have hold : ∀ p ∈ before, (fun b => decide (b < W.heap.size)) p.block = true := fun p hp => by simpa using hlt p hp
  refine ⟨ds, gs, before, [], pa, pv, hW, hres _ _ _, hargs _ hold, hvars _ hold, World.keptBut_mono (fun p hp => ⟨hp, ?_⟩) (hb.frame (· ∈ before)), fun _ => ?_⟩
  · rw [hps, List.mem_append] at hp
    exact Or.inr hp
  · obtain ⟨_, _, _, _, _, hz, hn⟩ := hW
    refine ⟨hok, _, _, ([] ++ pa) ++ pv, ⟨[] ++ pa, pv, trodAll_append (hargs _ (fun _ _ => rfl)) (hres _ _ _), hvars _ (fun _ _ => rfl), rfl, ?_, ?_⟩, ?_⟩
    · intro b off hp
      have hin : MemPlace.cell b off ∈ before := by rw [hps]; simpa using hp
      rw [hb.frozen (hlt _ hin)]
      exact hz b off hin
    · intro ha
      have := hn ha
      rw [hps] at this
      simpa using this
    · intro p hp _
      rw [hps]
      simpa using hp
end


theorem leaving_of_handed {a : Assume} {C : Checked} {os : Os} {f : FuncId} {r : Reach} {Pre : World → Array Value → Prop} {Post : World → Array Value → Value → World → Prop}
    (h : ReturnsInHanded a C os f r Pre Post) : ReturnsInLeavingWide a C os f r Pre Post := fun enter =>
  ReturnsInOpen.mono (fun _ _ _ x => ⟨x.2.1, onlyLeaving_of_quiet x.1, x.2.2⟩) (fun _ x => x) (h enter)

theorem own : ownKnob Tryz.prog.godebug = none := by kernel_rfl

theorem can_clo (D : Nat → Prop) (k n : Nat) : Eng.Clo D (can k n) := Eng.Clo_agg.2 (by
  intro v hv
  simp only [List.mem_map] at hv
  obtain ⟨i, _, rfl⟩ := hv
  trivial)
theorem can_m (E : Eng.Env) (k : Nat) (cs : Array Value) (h : ∀ i (hi : i < cs.size), E.o (k + i) = cs[i]) : E.m (can k cs.size) = .agg cs := by
  unfold can
  simp only [Eng.Env.m, Eng.mv_agg]
  congr 1
  apply Array.ext
  · simp
  · intro i h1 h2
    simp only [List.map_toArray, List.map_map, List.getElem_toArray, List.getElem_map, List.getElem_range, Function.comp, Eng.mv]
    exact h i h2
theorem one_of {P : Program} {w : World} {r : Reach} {b : Nat} {t : TypeId} {v : Value} (h : Cell.okWide P w r b t v) : v.oneCell' = true := by
  cases v with
  | agg cs => exfalso; unfold Cell.okWide Cell.ok at h; cases hu : P.underlying t with
    | none => simp [hu] at h
    | some d => cases d <;> simp [hu] at h
  | tuple cs => exfalso; unfold Cell.okWide Cell.ok at h; cases hu : P.underlying t with
    | none => simp [hu] at h
    | some d => cases d <;> simp [hu] at h
  | _ => rfl
def isStruct (P : Program) (t : TypeId) : Bool := match P.underlying t with
  | some (.struct _) => true
  | _ => false
theorem struct_cells {P : Program} {w : World} {r : Reach} {b n : Nat} {t : TypeId} {v : Value} (hs : isStruct P t = true) (hn : P.cellsOf t = n) (h : Value.okWide P w r b t v) : ∃ cs : Array Value, v = .agg cs ∧ cs.size = n ∧ ∀ u ∈ cs.toList, u.oneCell' = true := by
  unfold isStruct at hs
  split at hs
  · rename_i fs hu
    simp only [Value.okWide, hu] at h
    obtain ⟨cs, rfl, hz, ts, _, _, hc⟩ := h
    refine ⟨cs, rfl, hz.trans hn, fun u hu => ?_⟩
    obtain ⟨i, hi⟩ := List.mem_iff_getElem?.1 hu
    obtain ⟨_, _, h2⟩ := hc i u (by simpa using hi)
    exact one_of h2
  · cases hs
def isCell (P : Program) (t : TypeId) : Bool := match P.underlying t with
  | some (.struct _) | some (.array _ _) => false
  | _ => true
theorem cell_one {P : Program} {w : World} {r : Reach} {b : Nat} {t : TypeId} {v : Value} (hs : isCell P t = true) (h : Value.okWide P w r b t v) : v.oneCell' = true := by
  unfold isCell at hs
  unfold Value.okWide at h
  split at hs
  · cases hs
  · cases hs
  · rename_i h1 h2
    split at h
    · rename_i fs hu; exact absurd hu (h1 fs)
    · rename_i n e hu; exact absurd hu (h2 n e)
    · exact one_of h


/-- The walk: the engine's run. -/
theorem walk (w : World) (c0 : Array Value) (z0 : c0.size = 12) (o0 : ∀ v ∈ c0.toList, v.oneCell' = true) (v1 : Value) (o1 : v1.oneCell' = true) : Calls Tryz.prog 3 #[.agg c0, v1] w fun e w' => e = .returned (.bool true) ∧ Below w.heap.size w w' := by
    obtain ⟨S, h, hf⟩ := ran
    have hone : ∀ i, ((c0.toList ++ [v1]).getD i Value.nilFunc).oneCell' = true := by
      intro i
      rw [List.getD_eq_getElem?_getD]
      cases hi : (c0.toList ++ [v1])[i]? with
      | none => rfl
      | some u =>
        have hm := List.mem_of_getElem? hi
        simp only [List.mem_append, List.mem_singleton] at hm
        show u.oneCell' = true
        rcases hm with hm | hm
        · exact o0 u hm
        · rw [hm]; exact o1
    have hc := Eng.calls_reach laid (fun i => (c0.toList ++ [v1]).getD i Value.nilFunc) hone (args := [can 0 12, .chan (some 12)]) (by
      intro u hu
      simp only [List.mem_cons, List.mem_nil_iff, or_false] at hu
      rcases hu with rfl | rfl
      · exact can_clo _ _ _
      · trivial) rfl begins h hf w (Eng.laid_none w)
    have hargs : ([can 0 12, .chan (some 12)].map (Eng.Env.m (Eng.Env.bare (fun i => (c0.toList ++ [v1]).getD i Value.nilFunc) hone))).toArray = #[.agg c0, v1] := by
      have e0 : Eng.Env.m (Eng.Env.bare (fun i => (c0.toList ++ [v1]).getD i Value.nilFunc) hone) (can 0 12) = .agg c0 := by
        rw [← z0]
        refine can_m _ _ _ fun i hi => ?_
        show (c0.toList ++ [v1]).getD (0 + i) Value.nilFunc = c0[i]
        simp [List.getD_eq_getElem?_getD, List.getElem?_append, hi]
      have e1 : Eng.Env.m (Eng.Env.bare (fun i => (c0.toList ++ [v1]).getD i Value.nilFunc) hone) (.chan (some 12)) = v1 := by
        show (c0.toList ++ [v1]).getD 12 Value.nilFunc = v1
        simp [List.getD_eq_getElem?_getD, List.getElem?_append, z0]
      simp only [List.map_cons, List.map_nil, e0, e1]
    rw [hargs] at hc
    exact hc.mono fun e w' h => ⟨h.1, h.2.2.2.1, h.2.2.2.2.1, h.2.2.2.2.2, h.2.1, h.2.2.1⟩

theorem laid_of {P : Program} {n : Nat} (h1 : Nat.ble P.types.size n = true) (h2 : ∀ t, t < n → rowFine P t = true) (h3 : (P.globals.all fun g => decide (g.type < P.types.size)) = true)
    (h4 : (P.funcs.all fun f => f.params.all fun t => decide (t < P.types.size)) = true) : laidOutB P = true := by
  unfold laidOutB
  rw [Bool.and_eq_true, Bool.and_eq_true]
  exact ⟨⟨List.all_eq_true.2 fun t ht => h2 t (Nat.lt_of_lt_of_le (List.mem_range.1 ht) (Nat.le_of_ble_eq_true h1)), h3⟩, h4⟩
theorem rows0 : ((List.range 40).all fun j => rowFine Tryz.prog (40 * 0 + j)) = true := by kernel_rfl
theorem rows1 : ((List.range 40).all fun j => rowFine Tryz.prog (40 * 1 + j)) = true := by kernel_rfl
theorem rows2 : ((List.range 40).all fun j => rowFine Tryz.prog (40 * 2 + j)) = true := by kernel_rfl
theorem rows3 : ((List.range 40).all fun j => rowFine Tryz.prog (40 * 3 + j)) = true := by kernel_rfl
theorem rows4 : ((List.range 40).all fun j => rowFine Tryz.prog (40 * 4 + j)) = true := by kernel_rfl
theorem rows5 : ((List.range 40).all fun j => rowFine Tryz.prog (40 * 5 + j)) = true := by kernel_rfl
theorem rows6 : ((List.range 40).all fun j => rowFine Tryz.prog (40 * 6 + j)) = true := by kernel_rfl
theorem rows7 : ((List.range 40).all fun j => rowFine Tryz.prog (40 * 7 + j)) = true := by kernel_rfl
theorem rows8 : ((List.range 40).all fun j => rowFine Tryz.prog (40 * 8 + j)) = true := by kernel_rfl
theorem rows9 : ((List.range 40).all fun j => rowFine Tryz.prog (40 * 9 + j)) = true := by kernel_rfl
theorem rows10 : ((List.range 40).all fun j => rowFine Tryz.prog (40 * 10 + j)) = true := by kernel_rfl
theorem rows11 : ((List.range 40).all fun j => rowFine Tryz.prog (40 * 11 + j)) = true := by kernel_rfl
theorem rows12 : ((List.range 40).all fun j => rowFine Tryz.prog (40 * 12 + j)) = true := by kernel_rfl
theorem rows13 : ((List.range 40).all fun j => rowFine Tryz.prog (40 * 13 + j)) = true := by kernel_rfl
theorem rows14 : ((List.range 40).all fun j => rowFine Tryz.prog (40 * 14 + j)) = true := by kernel_rfl
theorem rows15 : ((List.range 40).all fun j => rowFine Tryz.prog (40 * 15 + j)) = true := by kernel_rfl
theorem rows16 : ((List.range 40).all fun j => rowFine Tryz.prog (40 * 16 + j)) = true := by kernel_rfl
theorem rows17 : ((List.range 40).all fun j => rowFine Tryz.prog (40 * 17 + j)) = true := by kernel_rfl
theorem rows18 : ((List.range 40).all fun j => rowFine Tryz.prog (40 * 18 + j)) = true := by kernel_rfl
theorem rows19 : ((List.range 40).all fun j => rowFine Tryz.prog (40 * 19 + j)) = true := by kernel_rfl
theorem rows20 : ((List.range 40).all fun j => rowFine Tryz.prog (40 * 20 + j)) = true := by kernel_rfl
theorem rows21 : ((List.range 40).all fun j => rowFine Tryz.prog (40 * 21 + j)) = true := by kernel_rfl
theorem rows22 : ((List.range 40).all fun j => rowFine Tryz.prog (40 * 22 + j)) = true := by kernel_rfl
theorem rows23 : ((List.range 40).all fun j => rowFine Tryz.prog (40 * 23 + j)) = true := by kernel_rfl
theorem typesFew : Nat.ble Tryz.prog.types.size 960 = true := by kernel_rfl
theorem varsFine : (Tryz.prog.globals.all fun g => decide (g.type < Tryz.prog.types.size)) = true := by kernel_rfl
theorem funcsFine : (Tryz.prog.funcs.all fun f => f.params.all fun t => decide (t < Tryz.prog.types.size)) = true := by kernel_rfl
theorem rowsFine (c : Nat) (hc : c < 24) : ((List.range 40).all fun j => rowFine Tryz.prog (40 * c + j)) = true := match c, hc with
  | 0, _ => rows0
  | 1, _ => rows1
  | 2, _ => rows2
  | 3, _ => rows3
  | 4, _ => rows4
  | 5, _ => rows5
  | 6, _ => rows6
  | 7, _ => rows7
  | 8, _ => rows8
  | 9, _ => rows9
  | 10, _ => rows10
  | 11, _ => rows11
  | 12, _ => rows12
  | 13, _ => rows13
  | 14, _ => rows14
  | 15, _ => rows15
  | 16, _ => rows16
  | 17, _ => rows17
  | 18, _ => rows18
  | 19, _ => rows19
  | 20, _ => rows20
  | 21, _ => rows21
  | 22, _ => rows22
  | 23, _ => rows23
  | _ + 24, h => absurd h (by omega)
theorem rowFine_at (t : Nat) (ht : t < 960) : rowFine Tryz.prog t = true := by
  have h := List.all_eq_true.1 (rowsFine (t / 40) (by omega)) (t % 40) (List.mem_range.2 (by omega))
  rwa [Nat.div_add_mod] at h
theorem laidOut : laidOutB Tryz.prog = true := laid_of typesFew rowFine_at varsFine funcsFine

set_option maxRecDepth 100000 in
theorem lifted (os : Os) (started : os.Started) (H : Type) (enc : TypeId × Value → H) :
    ReturnsInHanded {} Tryz.checked os 3 .any (fun w args => (Rows.worldMadeSpec.pre enc Tryz.prog Tryz.f3 Rows.worldMadeRow.domain false w args ∧ laidMetH Tryz.prog Rows.worldMadeRow.laid w) ∧ sizedMet enc Tryz.prog Tryz.f3 (OpenSpec.ofChange Rows.worldMadeSpec) false w args)
      (Rows.worldMadeSpec.post enc Tryz.prog Tryz.f3 false true false false) := by
  refine returnsInHanded_of_change_and (C := Tryz.checked) (X := fun w _ => laidMetH Tryz.prog Rows.worldMadeRow.laid w) (fun _ _ _ hh h => h.of_heap hh) own started (by kernel_rfl) Tryz.func3
    (ChangeSpec.witness_shaped (enc := enc) (C := Tryz.checked) (os := os) (X := fun w _ => laidMetH Tryz.prog Rows.worldMadeRow.laid w) false (World.laidAll Tryz.prog os Rows.worldMadeRow.laid) #[((Tryz.prog.info? 27).bind (·.zero)).getD default, ((Tryz.prog.info? 3).bind (·.zero)).getD default] 30 (World.laidAll_os _ _ _)
      (World.shaped_of_ZipB (by kernel_rfl) (by kernel_rfl)) (by kernel_rfl) (by kernel_rfl) (by kernel_rfl)
      (by rw [MakeChecks.laidMetH_plain _ _ _ (by kernel_rfl)]; exact laidMet_laidAll _ (by kernel_rfl) (by kernel_rfl))) ?_
  intro W base args ds gs before hval0 hW hc _ hL _
  have hval : ∀ (j : Nat) t v, Tryz.f3.params[j]? = some t → args[j]? = some v → Value.okWide Tryz.prog W .any base t v := hval0
  have hW' := hW
  obtain ⟨p, q, hA0, hV, rfl, _, _⟩ := hW
  have hA : DataW.TrodAll enc Tryz.prog W 0 (fun _ => true) true Tryz.f3.params.toList args.toList ds p := hA0
  rw [Tryz.params3] at hA hval
  obtain ⟨a0, a1, d0, d1, p0, p1, rfl, rfl, rfl, h0, h1⟩ := trodAll_two hA
  obtain ⟨rfl, rfl⟩ := trodVars_none hV
  simp only [List.append_nil] at hW'
  obtain ⟨c0, rfl, z0, o0⟩ := struct_cells (by kernel_rfl) (by kernel_rfl) (hval 0 27 a0 rfl rfl)
  have o1 := cell_one (by kernel_rfl) (hval 1 3 a1 rfl rfl)
  have hlt : ∀ x ∈ p0 ++ p1, x.block < W.heap.size := fun x hx => hW'.lt x hx
  refine (walk W c0 z0 o0 a1 o1).mono fun e W' ⟨he, hg⟩ => ?_
  subst he
  exact ⟨_, rfl, post_of_below (pa := p0 ++ p1) (pv := []) hW' (fun _ _ _ => trodAll_mk1 (shut_bool Tryz.underlying4 _)) (fun sp hsp => trodAll_mk2 (WideElems.Trod_stays laidOut (by kernel_rfl) (of_decide_eq_true (by kernel_rfl)) h0 (fun x hx => hg.same (hlt x (List.mem_append_left _ hx))) (fun x hx => hsp x (List.mem_append_left _ hx))) (WideElems.Trod_stays laidOut (by kernel_rfl) (of_decide_eq_true (by kernel_rfl)) h1 (fun x hx => hg.same (hlt x (List.mem_append_right _ hx))) (fun x hx => hsp x (List.mem_append_right _ hx)))) (fun _ _ => rfl) (by simp) hg (ok_one (by kernel_rfl) rfl (okWide_bool_mk Tryz.underlying4 _))⟩

theorem holds : Rows.WorldMadeSaid :=
  OpenClaim.holds_of_wide_leaving 3 Tryz.f3 rfl rfl rfl rfl rfl rfl rfl ⟨rfl, rfl, rfl, rfl, rfl⟩ rfl rfl rfl rfl rfl named Tryz.func3 facts
    instanced wrapped
    (fun os started H enc _ => leaving_of_handed (lifted os started H enc))

/-- The guide's builder of a tied card, for a card that says 'goes'. -/
theorem tied_goes (Lk : Looks) {p : Pinned} {s : OpenSpec} {c : OpenClaim} (kinds : List LaidKind) (tests : Bool) (har : Bool × String) (lk : Bool)
    (hc : c.holds p s) (hw : c.wfByText s = true) (htie : c.laidByTextAt Lk p kinds tests)
    (hst : c.start = .entering) (hnb : c.noBlocks = false ∧ c.again = false) (hm : p.checked.prog.mainIs = some (har.1, har.2.toList)) (hn : (!har.1 && har.2.isEmpty && !lk) = false)
    (hl : ∀ f fn, p.checked.prog.funcNamed c.func = some f → p.checked.prog.funcs[f]? = some fn → lk = p.checked.prog.looks [] ∧ ∀ (j : Nat) t, fn.params[j]? = some t → p.checked.prog.wantsStandIn t = false)
    (hg : true = c.goesBy p.checked.prog) :
    Claim7.holds p (.plain s) { stood := { row := c, standIns := [], harness := har, looks := lk }, kinds := [], alts := [], goes := true, laidByText := true, laidKinds := kinds, laidTests := tests, laidLooks := Lk } := by
  have h6 : ∀ r : OpenClaim, Claim7.isSixth { stood := { row := r, standIns := [], harness := har, looks := lk }, kinds := [] } = false := fun r => by simpa [Claim7.isSixth] using hn
  exact ⟨Claim7.tied_new_at Lk kinds tests (Claim7.new_of_sixth hc har lk hst hnb hm (h6 c) hl) hw, (fun _ hD => by cases hD), htie, (fun h => by cases h), hg⟩

/-- That the call can start goroutines, without a look into each body that it can come to. -/
theorem goes_of {c : OpenClaim} {P : Program} {f g : FuncId} (hs : c.start = .entering) (hn : P.funcNamed c.func = some f) (hu : P.unfollowed f = true) (hg : (P.funcs[g]?).any Func.goes = true) : true = c.goesBy P := by
  have ha : P.funcs.any Func.goes = true := by
    cases hf : P.funcs[g]? with
    | none => rw [hf] at hg; cases hg
    | some fn =>
      rw [hf] at hg
      obtain ⟨h1, h2⟩ := Array.getElem?_eq_some_iff.1 hf
      exact Array.any_eq_true.2 ⟨g, h1, by rw [h2]; exact hg⟩
  unfold OpenClaim.goesBy Program.goesAt Program.goesFrom
  rw [hs, hn]
  simp [Program.goes, hu, ha]

set_option maxHeartbeats 4000000 in
theorem unfollowed : Tryz.pinned.checked.prog.unfollowed 3 = true := by kernel_rfl
set_option maxHeartbeats 4000000 in
theorem going : (Tryz.pinned.checked.prog.funcs[602]?).any Func.goes = true := by kernel_rfl
set_option maxRecDepth 100000 in
set_option maxHeartbeats 4000000 in
/-- The statement. -/
theorem proved : Rows.WorldMadeCardSaid :=
  tied_goes .later [.pinned, .data] true (true, "bccdf11dce9c04b1c2157ca9131a8812cf3a92b7e317a57c65d539106cf03f01") true holds (by as_aux_lemma => kernel_rfl) worldMade_row_tie rfl ⟨rfl, rfl⟩ (by as_aux_lemma => kernel_rfl) rfl
    (fun f fn hf hfn => by
      obtain rfl : f = 3 := Option.some.inj ((show Tryz.prog.funcNamed "hawser/hawserlaw25.WorldMade" = some 3 by as_aux_lemma => kernel_rfl).symm.trans hf) |>.symm
      obtain rfl : fn = Tryz.f3 := (Option.some.inj (Tryz.func3.symm.trans hfn)).symm
      exact ⟨by as_aux_lemma => kernel_rfl, fun j t ht => by
        rw [Tryz.params3] at ht
        have hm : t ∈ [27, 3] := by simpa using Array.mem_of_getElem? ht
        have hall : ([27, 3].all fun u => !Tryz.prog.wantsStandIn u) = true := by kernel_rfl
        exact (show Tryz.prog.wantsStandIn t = false by simpa using List.all_eq_true.1 hall t hm)⟩)
    (goes_of rfl named unfollowed going)
#print axioms proved
end Go.Proofs.YtjpmmfahmhnpeaaGreatDoor.worldMade

