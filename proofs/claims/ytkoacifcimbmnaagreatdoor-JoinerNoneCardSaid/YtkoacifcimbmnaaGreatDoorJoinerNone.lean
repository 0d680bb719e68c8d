/-
  JoinerNone answers true, whatever the memory that it is called in. No conditions.
-/
import Derived.Test.YtkoacifcimbmnaaGreatDoorRows
import Derived.Test.YtkoacifcimbmnaaGreatDoorCards
import Derived.Test.YtkoacifcimbmnaaGreatDoorTie
import Derived.WalkKit
import Derived.ProofKit
import Derived.OpenShut
import Derived.Below
import Derived.ChangeSame
import Derived.LaidMore
import Derived.Lay
import Derived.SevenTiedAt
import Derived.Stop.Joined
import Derived.Conc.Holds
import Derived.Carry
import Derived.Leaving
import Derived.Test.YtkoacifcimbmnaaGreatDoorEngL
import Derived.Test.YtkoacifcimbmnaaGreatDoorJoinerNoneRan
import Derived.Test.YtkoacifcimbmnaaGreatDoorJoinerNoneFacts
namespace Go.Proofs.YtkoacifcimbmnaaGreatDoor.joinerNone
open Go.ChangeShapes Go.WideShapes Go.ChangeAt Go.RowKit
set_option linter.unusedVariables false
set_option linter.unusedSimpArgs false

section
variable {H : Type} {enc : TypeId × Value → H} {P : Program}
theorem post_of_below {f : Func} {s : ChangeSpec} {apart fresh handsOn again : Bool} {W W' : World} {args : Array Value} {v : Value} {ds gs : List (DataW H)} {before pa pv : List MemPlace}
    (hW : DataW.Whole enc P f.params.toList s.vars apart W args.toList ds gs before)
    (hres : ∀ (b : Nat) (sp : Nat → Bool) (hd : Bool), DataW.TrodAll enc P W' b sp hd f.resultTypes.toList (v.resultList f.resultTypes.size) (s.fn H (ds ++ gs)).results [])
    (hargs : ∀ sp : Nat → Bool, (∀ p ∈ before, sp p.block = true) → DataW.TrodAll enc P W' 0 sp true f.params.toList args.toList (s.fn H (ds ++ gs)).args pa)
    (hvars : ∀ sp : Nat → Bool, (∀ p ∈ before, sp p.block = true) → DataW.TrodVars enc P W' sp s.vars (s.fn H (ds ++ gs)).vars pv)
    (hps : before = pa ++ pv) (hb : Below W.heap.size W W')
    (hok : ∀ (j : Nat) (t : TypeId) (r : Value), f.resultTypes[j]? = some t → (v.resultList f.resultTypes.size)[j]? = some r → Value.okWide P W' .any 0 t r) :
    s.post enc P f apart fresh handsOn again W args v W' := by
  have hlt : ∀ p ∈ before, p.block < W.heap.size := fun p hp => hW.lt p hp
  have hold : ∀ p ∈ before, (fun b => decide (b < W.heap.size)) p.block = true := fun p hp => by simpa using hlt p hp
  refine ⟨ds, gs, before, [], pa, pv, hW, hres _ _ _, hargs _ hold, hvars _ hold, World.keptBut_mono (fun p hp => ⟨hp, ?_⟩) (hb.frame (· ∈ before)), fun _ => ?_⟩
  · rw [hps, List.mem_append] at hp
    exact Or.inr hp
  · obtain ⟨_, _, _, _, _, hz, hn⟩ := hW
    refine ⟨hok, _, _, ([] ++ pa) ++ pv, ⟨[] ++ pa, pv, trodAll_append (hargs _ (fun _ _ => rfl)) (hres _ _ _), hvars _ (fun _ _ => rfl), rfl, ?_, ?_⟩, ?_⟩
    · intro b off hp
      have hin : MemPlace.cell b off ∈ before := by rw [hps]; simpa using hp
      rw [hb.frozen (hlt _ hin)]
      exact hz b off hin
    · intro ha
      have := hn ha
      rw [hps] at this
      simpa using this
    · intro p hp _
      rw [hps]
      simpa using hp
end


theorem leaving_of_handed {a : Assume} {C : Checked} {os : Os} {f : FuncId} {r : Reach} {Pre : World → Array Value → Prop} {Post : World → Array Value → Value → World → Prop}
    (h : ReturnsInHanded a C os f r Pre Post) : ReturnsInLeavingWide a C os f r Pre Post := fun enter =>
  ReturnsInOpen.mono (fun _ _ _ x => ⟨x.2.1, onlyLeaving_of_quiet x.1, x.2.2⟩) (fun _ x => x) (h enter)

theorem own : ownKnob Tryz.prog.godebug = none := by kernel_rfl

theorem can_clo (D : Nat → Prop) (k n : Nat) : Eng.Clo D (can k n) := Eng.Clo_agg.2 (by
  intro v hv
  simp only [List.mem_map] at hv
  obtain ⟨i, _, rfl⟩ := hv
  trivial)
theorem can_m (E : Eng.Env) (k : Nat) (cs : Array Value) (h : ∀ i (hi : i < cs.size), E.o (k + i) = cs[i]) : E.m (can k cs.size) = .agg cs := by
  unfold can
  simp only [Eng.Env.m, Eng.mv_agg]
  congr 1
  apply Array.ext
  · simp
  · intro i h1 h2
    simp only [List.map_toArray, List.map_map, List.getElem_toArray, List.getElem_map, List.getElem_range, Function.comp, Eng.mv]
    exact h i h2
theorem one_of {P : Program} {w : World} {r : Reach} {b : Nat} {t : TypeId} {v : Value} (h : Cell.okWide P w r b t v) : v.oneCell' = true := by
  cases v with
  | agg cs => exfalso; unfold Cell.okWide Cell.ok at h; cases hu : P.underlying t with
    | none => simp [hu] at h
    | some d => cases d <;> simp [hu] at h
  | tuple cs => exfalso; unfold Cell.okWide Cell.ok at h; cases hu : P.underlying t with
    | none => simp [hu] at h
    | some d => cases d <;> simp [hu] at h
  | _ => rfl
def isStruct (P : Program) (t : TypeId) : Bool := match P.underlying t with
  | some (.struct _) => true
  | _ => false
theorem struct_cells {P : Program} {w : World} {r : Reach} {b n : Nat} {t : TypeId} {v : Value} (hs : isStruct P t = true) (hn : P.cellsOf t = n) (h : Value.okWide P w r b t v) : ∃ cs : Array Value, v = .agg cs ∧ cs.size = n ∧ ∀ u ∈ cs.toList, u.oneCell' = true := by
  unfold isStruct at hs
  split at hs
  · rename_i fs hu
    simp only [Value.okWide, hu] at h
    obtain ⟨cs, rfl, hz, ts, _, _, hc⟩ := h
    refine ⟨cs, rfl, hz.trans hn, fun u hu => ?_⟩
    obtain ⟨i, hi⟩ := List.mem_iff_getElem?.1 hu
    obtain ⟨_, _, h2⟩ := hc i u (by simpa using hi)
    exact one_of h2
  · cases hs
def isCell (P : Program) (t : TypeId) : Bool := match P.underlying t with
  | some (.struct _) | some (.array _ _) => false
  | _ => true
theorem cell_one {P : Program} {w : World} {r : Reach} {b : Nat} {t : TypeId} {v : Value} (hs : isCell P t = true) (h : Value.okWide P w r b t v) : v.oneCell' = true := by
  unfold isCell at hs
  unfold Value.okWide at h
  split at hs
  · cases hs
  · cases hs
  · rename_i h1 h2
    split at h
    · rename_i fs hu; exact absurd hu (h1 fs)
    · rename_i n e hu; exact absurd hu (h2 n e)
    · exact one_of h


/-- The walk: the engine's run. -/
theorem walk (w : World) (c0 : Array Value) (z0 : c0.size = 37) (o0 : ∀ v ∈ c0.toList, v.oneCell' = true) : Calls Tryz.prog 4 #[.agg c0] w fun e w' => e = .returned (.bool true) ∧ Below w.heap.size w w' := by
    have hone : ∀ i, ((c0.toList).getD i Value.nilFunc).oneCell' = true := by
      intro i
      rw [List.getD_eq_getElem?_getD]
      cases hi : (c0.toList)[i]? with
      | none => rfl
      | some u =>
        have hm := List.mem_of_getElem? hi
        show u.oneCell' = true
        exact o0 u hm
    have hc := Eng.calls_opaque (noCount counted) mixed [] (fun i => (c0.toList).getD i Value.nilFunc) hone (args := [can 0 37]) (by
      intro u hu
      simp only [List.mem_cons, List.mem_nil_iff, or_false] at hu
      subst hu
      exact can_clo _ _ _) rfl ran w (Eng.laid_none w)
    have hargs : ([can 0 37].map (Eng.Env.m (Eng.Env.bare (fun i => (c0.toList).getD i Value.nilFunc) hone))).toArray = #[.agg c0] := by
      have e0 : Eng.Env.m (Eng.Env.bare (fun i => (c0.toList).getD i Value.nilFunc) hone) (can 0 37) = .agg c0 := by
        rw [← z0]
        refine can_m _ _ _ fun i hi => ?_
        show (c0.toList).getD (0 + i) Value.nilFunc = c0[i]
        simp [List.getD_eq_getElem?_getD, hi]
      simp only [List.map_cons, List.map_nil, e0]
    rw [hargs] at hc
    exact hc.mono fun e w' h => ⟨h.1, h.2.2.2.1, h.2.2.2.2.1, h.2.2.2.2.2, h.2.1, h.2.2.1⟩

theorem laidOut : laidOutB Tryz.prog = true := by kernel_rfl

set_option maxRecDepth 100000 in
theorem lifted (os : Os) (started : os.Started) (H : Type) (enc : TypeId × Value → H) :
    ReturnsInHanded {} Tryz.checked os 4 .any (fun w args => (Rows.joinerNoneSpec.pre enc Tryz.prog Tryz.f4 Rows.joinerNoneRow.domain false w args ∧ laidMetH Tryz.prog Rows.joinerNoneRow.laid w) ∧ sizedMet enc Tryz.prog Tryz.f4 (OpenSpec.ofChange Rows.joinerNoneSpec) false w args)
      (Rows.joinerNoneSpec.post enc Tryz.prog Tryz.f4 false true false false) := by
  refine returnsInHanded_of_change_and (C := Tryz.checked) (X := fun w _ => laidMetH Tryz.prog Rows.joinerNoneRow.laid w) (fun _ _ _ hh h => h.of_heap hh) own started (by kernel_rfl) Tryz.func4
    (ChangeSpec.witness_shaped (enc := enc) (C := Tryz.checked) (os := os) (X := fun w _ => laidMetH Tryz.prog Rows.joinerNoneRow.laid w) false (World.laidAll Tryz.prog os Rows.joinerNoneRow.laid) #[((Tryz.prog.info? 46).bind (·.zero)).getD default] 30 (World.laidAll_os _ _ _)
      (World.shaped_of_ZipB (by kernel_rfl) (by kernel_rfl)) (by kernel_rfl) (by kernel_rfl) (by kernel_rfl)
      (by rw [MakeChecks.laidMetH_plain _ _ _ (by kernel_rfl)]; exact laidMet_laidAll _ (by kernel_rfl) (by kernel_rfl))) ?_
  intro W base args ds gs before hval0 hW hc _ hL _
  have hval : ∀ (j : Nat) t v, Tryz.f4.params[j]? = some t → args[j]? = some v → Value.okWide Tryz.prog W .any base t v := hval0
  have hW' := hW
  obtain ⟨p, q, hA0, hV, rfl, _, _⟩ := hW
  have hA : DataW.TrodAll enc Tryz.prog W 0 (fun _ => true) true Tryz.f4.params.toList args.toList ds p := hA0
  rw [Tryz.params4] at hA hval
  obtain ⟨a0, d0, rfl, rfl, h0⟩ := trodAll_one hA
  obtain ⟨rfl, rfl⟩ := trodVars_none hV
  simp only [List.append_nil] at hW'
  obtain ⟨c0, rfl, z0, o0⟩ := struct_cells (by kernel_rfl) (by kernel_rfl) (hval 0 46 a0 rfl rfl)
  have hlt : ∀ x ∈ p, x.block < W.heap.size := fun x hx => hW'.lt x hx
  refine (walk W c0 z0 o0).mono fun e W' ⟨he, hg⟩ => ?_
  subst he
  exact ⟨_, rfl, post_of_below (pa := p) (pv := []) hW' (fun _ _ _ => trodAll_mk1 (shut_bool Tryz.underlying4 _)) (fun sp hsp => trodAll_mk1 (WideElems.Trod_stays laidOut (by kernel_rfl) (of_decide_eq_true (by kernel_rfl)) h0 (fun x hx => hg.same (hlt x hx)) (fun x hx => hsp x hx))) (fun _ _ => rfl) (by simp) hg (ok_one (by kernel_rfl) rfl (okWide_bool_mk Tryz.underlying4 _))⟩

theorem holds : Rows.JoinerNoneSaid :=
  OpenClaim.holds_of_wide_leaving 4 Tryz.f4 rfl rfl rfl rfl rfl rfl rfl ⟨rfl, rfl, rfl, rfl, rfl⟩ rfl rfl rfl rfl rfl named Tryz.func4 facts
    instanced wrapped
    (fun os started H enc _ => leaving_of_handed (lifted os started H enc))

/-- The guide's builder of a tied card, for a card that says 'goes'. -/
theorem tied_goes (Lk : Looks) {p : Pinned} {s : OpenSpec} {c : OpenClaim} (kinds : List LaidKind) (tests : Bool) (har : Bool × String) (lk : Bool)
    (hc : c.holds p s) (hw : c.wfByText s = true) (htie : c.laidByTextAt Lk p kinds tests)
    (hst : c.start = .entering) (hnb : c.noBlocks = false ∧ c.again = false) (hm : p.checked.prog.mainIs = some (har.1, har.2.toList)) (hn : (!har.1 && har.2.isEmpty && !lk) = false)
    (hl : ∀ f fn, p.checked.prog.funcNamed c.func = some f → p.checked.prog.funcs[f]? = some fn → lk = p.checked.prog.looks [] ∧ ∀ (j : Nat) t, fn.params[j]? = some t → p.checked.prog.wantsStandIn t = false)
    (hg : true = c.goesBy p.checked.prog) :
    Claim7.holds p (.plain s) { stood := { row := c, standIns := [], harness := har, looks := lk }, kinds := [], alts := [], goes := true, laidByText := true, laidKinds := kinds, laidTests := tests, laidLooks := Lk } := by
  have h6 : ∀ r : OpenClaim, Claim7.isSixth { stood := { row := r, standIns := [], harness := har, looks := lk }, kinds := [] } = false := fun r => by simpa [Claim7.isSixth] using hn
  exact ⟨Claim7.tied_new_at Lk kinds tests (Claim7.new_of_sixth hc har lk hst hnb hm (h6 c) hl) hw, (fun _ hD => by cases hD), htie, (fun h => by cases h), hg⟩

/-- That the call can start goroutines, without a look into each body that it can come to. -/
theorem goes_of {c : OpenClaim} {P : Program} {f g : FuncId} (hs : c.start = .entering) (hn : P.funcNamed c.func = some f) (hu : P.unfollowed f = true) (hg : (P.funcs[g]?).any Func.goes = true) : true = c.goesBy P := by
  have ha : P.funcs.any Func.goes = true := by
    cases hf : P.funcs[g]? with
    | none => rw [hf] at hg; cases hg
    | some fn =>
      rw [hf] at hg
      obtain ⟨h1, h2⟩ := Array.getElem?_eq_some_iff.1 hf
      exact Array.any_eq_true.2 ⟨g, h1, by rw [h2]; exact hg⟩
  unfold OpenClaim.goesBy Program.goesAt Program.goesFrom
  rw [hs, hn]
  simp [Program.goes, hu, ha]

set_option maxHeartbeats 4000000 in
theorem unfollowed : Tryz.pinned.checked.prog.unfollowed 4 = true := by kernel_rfl
set_option maxHeartbeats 4000000 in
theorem going : (Tryz.pinned.checked.prog.funcs[402]?).any Func.goes = true := by kernel_rfl
set_option maxHeartbeats 4000000 in
/-- The statement. -/
theorem proved : Rows.JoinerNoneCardSaid :=
  tied_goes .later [.data, .pinned] true (true, "c6b059ad05aafbb509760f99d23a0ed938806bb5e0ac661aa73f30da39288145") true holds (by as_aux_lemma => kernel_rfl) joinerNone_row_tie rfl ⟨rfl, rfl⟩ (by as_aux_lemma => kernel_rfl) rfl
    (fun f fn hf hfn => by
      obtain rfl : f = 4 := Option.some.inj ((show Tryz.prog.funcNamed "hawser/hawserlaw22.JoinerNone" = some 4 by as_aux_lemma => kernel_rfl).symm.trans hf) |>.symm
      obtain rfl : fn = Tryz.f4 := (Option.some.inj (Tryz.func4.symm.trans hfn)).symm
      exact ⟨by as_aux_lemma => kernel_rfl, fun j t ht => by
        rw [Tryz.params4] at ht
        have hm : t ∈ [46] := by simpa using Array.mem_of_getElem? ht
        have hall : ([46].all fun u => !Tryz.prog.wantsStandIn u) = true := by kernel_rfl
        exact (show Tryz.prog.wantsStandIn t = false by simpa using List.all_eq_true.1 hall t hm)⟩)
    (goes_of rfl named unfollowed going)
#print axioms proved
end Go.Proofs.YtkoacifcimbmnaaGreatDoor.joinerNone

