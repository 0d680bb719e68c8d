/-
  SenderNames answers true, whatever the memory that it is called in. No conditions.
-/
import Derived.Test.YtbippdionmbmnaaGreatDoorRows
import Derived.Test.YtbippdionmbmnaaGreatDoorCards
import Derived.Test.YtbippdionmbmnaaGreatDoorTie
import Derived.WalkKit
import Derived.ProofKit
import Derived.OpenShut
import Derived.Below
import Derived.ChangeSame
import Derived.LaidMore
import Derived.Lay
import Derived.SevenTiedAt
import Derived.Stop.Joined
import Derived.Conc.Holds
import Derived.Leaving
import Derived.MakeChecks
import Derived.Test.YtbippdionmbmnaaGreatDoorEngQy
import Derived.Test.YtbippdionmbmnaaGreatDoorSenderNamesRan
import Derived.Test.YtbippdionmbmnaaGreatDoorSenderNamesFacts
namespace Go.Proofs.YtbippdionmbmnaaGreatDoor.senderNames
open Go.ChangeShapes Go.WideShapes Go.ChangeAt Go.RowKit
set_option linter.unusedVariables false
set_option linter.unusedSimpArgs false

section
variable {H : Type} {enc : TypeId × Value → H} {P : Program}
theorem post_of_below {f : Func} {s : ChangeSpec} {apart fresh handsOn again : Bool} {W W' : World} {args : Array Value} {v : Value} {ds gs : List (DataW H)} {before pa pv : List MemPlace}
    (hW : DataW.Whole enc P f.params.toList s.vars apart W args.toList ds gs before)
    (hres : ∀ (b : Nat) (sp : Nat → Bool) (hd : Bool), DataW.TrodAll enc P W' b sp hd f.resultTypes.toList (v.resultList f.resultTypes.size) (s.fn H (ds ++ gs)).results [])
    (hargs : ∀ sp : Nat → Bool, (∀ p ∈ before, sp p.block = true) → DataW.TrodAll enc P W' 0 sp true f.params.toList args.toList (s.fn H (ds ++ gs)).args pa)
    (hvars : ∀ sp : Nat → Bool, (∀ p ∈ before, sp p.block = true) → DataW.TrodVars enc P W' sp s.vars (s.fn H (ds ++ gs)).vars pv)
    (hps : before = pa ++ pv) (hb : Below W.heap.size W W')
    (hok : ∀ (j : Nat) (t : TypeId) (r : Value), f.resultTypes[j]? = some t → (v.resultList f.resultTypes.size)[j]? = some r → Value.okWide P W' .any 0 t r) :
    s.post enc P f apart fresh handsOn again W args v W' := by
  have hlt : ∀ p ∈ before, p.block < W.heap.size := fun p hp => hW.lt p hp
  have hold : ∀ p ∈ before, (fun b => decide (b < W.heap.size)) p.block = true := fun p hp => by simpa using hlt p hp
  refine ⟨ds, gs, before, [], pa, pv, hW, hres _ _ _, hargs _ hold, hvars _ hold, World.keptBut_mono (fun p hp => ⟨hp, ?_⟩) (hb.frame (· ∈ before)), fun _ => ?_⟩
  · rw [hps, List.mem_append] at hp
    exact Or.inr hp
  · obtain ⟨_, _, _, _, _, hz, hn⟩ := hW
    refine ⟨hok, _, _, ([] ++ pa) ++ pv, ⟨[] ++ pa, pv, trodAll_append (hargs _ (fun _ _ => rfl)) (hres _ _ _), hvars _ (fun _ _ => rfl), rfl, ?_, ?_⟩, ?_⟩
    · intro b off hp
      have hin : MemPlace.cell b off ∈ before := by rw [hps]; simpa using hp
      rw [hb.frozen (hlt _ hin)]
      exact hz b off hin
    · intro ha
      have := hn ha
      rw [hps] at this
      simpa using this
    · intro p hp _
      rw [hps]
      simpa using hp
end


theorem own : ownKnob Tryz.prog.godebug = none := by kernel_rfl

theorem noInit : Tryz.prog.inits.idxOf? 3 = none := by kernel_rfl
/-- The walk: the engine's run. -/
theorem walk (W : World) (hl : laidMetH Tryz.prog Rows.senderNamesRow.laid W) (hs : W.ShapedOpen Tryz.prog) : ∃ M last o w' t',
    runNT Tryz.prog (M + 1) (Conc.solo (Conc.G (Frame.enter Tryz.prog 3 #[] .normal) []) W) #[] = (.ended o w', t') ∧ runN Tryz.prog M (Conc.solo (Conc.G (Frame.enter Tryz.prog 3 #[] .normal) []) W) = .next last ∧
      step Tryz.prog last = .ended o w' ∧ Conc.Good Tryz.prog (fun u W' => u = .bool true ∧ Below W.heap.size W W') last o w' t' := by
  obtain ⟨S, h, hf⟩ := ran
  obtain ⟨M, last, o, w', t', h1, h2, h3, h4⟩ := Eng.runs_reach laid (fun _ => .nilFunc) (fun _ => rfl) (args := []) (fun u hu => by cases hu) rfl noInit begins h hf W (Eng.laid_none W)
  exact ⟨M, last, o, w', t', h1, h2, h3, h4.mono fun v h => ⟨h.1, h.2.2.2.1, h.2.2.2.2.1, h.2.2.2.2.2, h.2.1, h.2.2.1⟩⟩

set_option maxRecDepth 100000 in
theorem lifted (os : Os) (started : os.Started) (H : Type) (enc : TypeId × Value → H) :
    ReturnsInLeavingWide {} Tryz.checked os 3 .any (fun w args => (Rows.senderNamesSpec.pre enc Tryz.prog Tryz.f3 Rows.senderNamesRow.domain false w args ∧ laidMetH Tryz.prog Rows.senderNamesRow.laid w) ∧ sizedMet enc Tryz.prog Tryz.f3 (OpenSpec.ofChange Rows.senderNamesSpec) false w args)
      (Rows.senderNamesSpec.post enc Tryz.prog Tryz.f3 false true false false) := by
  refine Eng.returnsInLeavingWide_of_change_and (C := Tryz.checked) (X := fun w _ => laidMetH Tryz.prog Rows.senderNamesRow.laid w) (fun _ _ _ hh h => h.of_heap hh) own started Tryz.func3
    (ChangeSpec.witness_shaped (enc := enc) (C := Tryz.checked) (os := os) (X := fun w _ => laidMetH Tryz.prog Rows.senderNamesRow.laid w) false (World.laidAll Tryz.prog os Rows.senderNamesRow.laid) #[] 8 (World.laidAll_os _ _ _)
      (World.shaped_of_ZipB (by kernel_rfl) (by kernel_rfl)) (by kernel_rfl) (by kernel_rfl) (by kernel_rfl)
      (by rw [MakeChecks.laidMetH_plain _ _ _ (by kernel_rfl)]; exact laidMet_laidAll _ (by kernel_rfl) (by kernel_rfl))) ?_
  intro W base args ds gs before hval0 hW hc _ hL hS _
  have hval : ∀ (j : Nat) t v, Tryz.f3.params[j]? = some t → args[j]? = some v → Value.okWide Tryz.prog W .any base t v := hval0
  have hW' := hW
  obtain ⟨p, q, hA0, hV, rfl, _, _⟩ := hW
  have hA : DataW.TrodAll enc Tryz.prog W 0 (fun _ => true) true Tryz.f3.params.toList args.toList ds p := hA0
  rw [Tryz.params3] at hA hval
  obtain ⟨rfl, rfl, rfl⟩ := trodAll_none hA
  obtain ⟨rfl, rfl⟩ := trodVars_none hV
  simp only [List.append_nil] at hW'
  obtain ⟨M, last, o, w', t', h1, h2, h3, h4⟩ := walk W hL hS
  refine ⟨M, last, o, w', t', h1, h2, h3, h4.mono fun u h => ?_⟩
  obtain ⟨rfl, hg⟩ := h
  exact (post_of_below (pa := []) (pv := []) hW' (fun _ _ _ => trodAll_mk1 (shut_bool Tryz.underlying4 _)) (fun sp _ => rfl) (fun _ _ => rfl) rfl hg (ok_one (by kernel_rfl) rfl (okWide_bool_mk Tryz.underlying4 _)))

theorem holds : Rows.SenderNamesSaid :=
  OpenClaim.holds_of_wide_leaving 3 Tryz.f3 rfl rfl rfl rfl rfl rfl rfl ⟨rfl, rfl, rfl, rfl, rfl⟩ rfl rfl rfl rfl rfl named Tryz.func3 facts
    instanced wrapped
    (fun os started H enc _ => lifted os started H enc)

/-- The guide's builder of a tied card, for a card that says 'goes'. -/
theorem tied_goes (Lk : Looks) {p : Pinned} {s : OpenSpec} {c : OpenClaim} (kinds : List LaidKind) (tests : Bool) (har : Bool × String) (lk : Bool)
    (hc : c.holds p s) (hw : c.wfByText s = true) (htie : c.laidByTextAt Lk p kinds tests)
    (hst : c.start = .entering) (hnb : c.noBlocks = false ∧ c.again = false) (hm : p.checked.prog.mainIs = some (har.1, har.2.toList)) (hn : (!har.1 && har.2.isEmpty && !lk) = false)
    (hl : ∀ f fn, p.checked.prog.funcNamed c.func = some f → p.checked.prog.funcs[f]? = some fn → lk = p.checked.prog.looks [] ∧ ∀ (j : Nat) t, fn.params[j]? = some t → p.checked.prog.wantsStandIn t = false)
    (hg : true = c.goesBy p.checked.prog) :
    Claim7.holds p (.plain s) { stood := { row := c, standIns := [], harness := har, looks := lk }, kinds := [], alts := [], goes := true, laidByText := true, laidKinds := kinds, laidTests := tests, laidLooks := Lk } := by
  have h6 : ∀ r : OpenClaim, Claim7.isSixth { stood := { row := r, standIns := [], harness := har, looks := lk }, kinds := [] } = false := fun r => by simpa [Claim7.isSixth] using hn
  exact ⟨Claim7.tied_new_at Lk kinds tests (Claim7.new_of_sixth hc har lk hst hnb hm (h6 c) hl) hw, (fun _ hD => by cases hD), htie, (fun h => by cases h), hg⟩

/-- That the call can start goroutines, without a look into each body that it can come to. -/
theorem goes_of {c : OpenClaim} {P : Program} {f g : FuncId} (hs : c.start = .entering) (hn : P.funcNamed c.func = some f) (hu : P.unfollowed f = true) (hg : (P.funcs[g]?).any Func.goes = true) : true = c.goesBy P := by
  have ha : P.funcs.any Func.goes = true := by
    cases hf : P.funcs[g]? with
    | none => rw [hf] at hg; cases hg
    | some fn =>
      rw [hf] at hg
      obtain ⟨h1, h2⟩ := Array.getElem?_eq_some_iff.1 hf
      exact Array.any_eq_true.2 ⟨g, h1, by rw [h2]; exact hg⟩
  unfold OpenClaim.goesBy Program.goesAt Program.goesFrom
  rw [hs, hn]
  simp [Program.goes, hu, ha]

set_option maxHeartbeats 4000000 in
theorem unfollowed : Tryz.pinned.checked.prog.unfollowed 3 = true := by kernel_rfl
set_option maxHeartbeats 4000000 in
theorem going : (Tryz.pinned.checked.prog.funcs[10]?).any Func.goes = true := by kernel_rfl
set_option maxHeartbeats 4000000 in
/-- The statement. -/
theorem proved : Rows.SenderNamesCardSaid :=
  tied_goes .later [.data, .pinned] true (true, "e5567b077a0e1df423be94cef2551bb71d90a2f2bf45c5b403f3fdef3938ba09") false holds (by as_aux_lemma => kernel_rfl) senderNames_row_tie rfl ⟨rfl, rfl⟩ (by as_aux_lemma => kernel_rfl) rfl
    (fun f fn hf hfn => by
      obtain rfl : f = 3 := Option.some.inj ((show Tryz.prog.funcNamed "hawser/hawserlaw17.SenderNames" = some 3 by as_aux_lemma => kernel_rfl).symm.trans hf) |>.symm
      obtain rfl : fn = Tryz.f3 := (Option.some.inj (Tryz.func3.symm.trans hfn)).symm
      exact ⟨by as_aux_lemma => kernel_rfl, fun j t ht => by
        rw [Tryz.params3] at ht
        simp at ht⟩)
    (goes_of rfl named unfollowed going)
#print axioms proved
end Go.Proofs.YtbippdionmbmnaaGreatDoor.senderNames
