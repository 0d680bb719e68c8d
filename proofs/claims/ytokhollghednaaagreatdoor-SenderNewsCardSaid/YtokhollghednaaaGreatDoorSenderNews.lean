/-
  SenderNews answers true, whatever the memory that it is called in. No conditions.
-/
import Derived.Test.YtokhollghednaaaGreatDoorRows
import Derived.Test.YtokhollghednaaaGreatDoorCards
import Derived.Test.YtokhollghednaaaGreatDoorTie
import Derived.WalkKit
import Derived.ProofKit
import Derived.OpenShut
import Derived.Below
import Derived.ChangeSame
import Derived.LaidMore
import Derived.Lay
import Derived.SevenTiedAt
import Derived.Stop.Joined
import Derived.Conc.Holds
import Derived.Carry
import Derived.Leaving
import Derived.MakeChecks
import Derived.Test.YtokhollghednaaaGreatDoorEngZs
import Derived.Test.YtokhollghednaaaGreatDoorSenderNewsRan
import Derived.Test.YtokhollghednaaaGreatDoorSenderNewsFacts
namespace Go.Proofs.YtokhollghednaaaGreatDoor.senderNews
open Go.ChangeShapes Go.WideShapes Go.ChangeAt Go.RowKit
set_option linter.unusedVariables false
set_option linter.unusedSimpArgs false

section
variable {H : Type} {enc : TypeId × Value → H} {P : Program}
theorem post_of_below {f : Func} {s : ChangeSpec} {apart fresh handsOn again : Bool} {W W' : World} {args : Array Value} {v : Value} {ds gs : List (DataW H)} {before pa pv : List MemPlace}
    (hW : DataW.Whole enc P f.params.toList s.vars apart W args.toList ds gs before)
    (hres : ∀ (b : Nat) (sp : Nat → Bool) (hd : Bool), DataW.TrodAll enc P W' b sp hd f.resultTypes.toList (v.resultList f.resultTypes.size) (s.fn H (ds ++ gs)).results [])
    (hargs : ∀ sp : Nat → Bool, (∀ p ∈ before, sp p.block = true) → DataW.TrodAll enc P W' 0 sp true f.params.toList args.toList (s.fn H (ds ++ gs)).args pa)
    (hvars : ∀ sp : Nat → Bool, (∀ p ∈ before, sp p.block = true) → DataW.TrodVars enc P W' sp s.vars (s.fn H (ds ++ gs)).vars pv)
    (hps : before = pa ++ pv) (hb : Below W.heap.size W W')
    (hok : ∀ (j : Nat) (t : TypeId) (r : Value), f.resultTypes[j]? = some t → (v.resultList f.resultTypes.size)[j]? = some r → Value.okWide P W' .any 0 t r) :
    s.post enc P f apart fresh handsOn again W args v W' := by
  have hlt : ∀ p ∈ before, p.block < W.heap.size := fun p hp => hW.lt p hp
  have hold : ∀ p ∈ before, (fun b => decide (b < W.heap.size)) p.block = true := fun p hp => by simpa using hlt p hp
  refine ⟨ds, gs, before, [], pa, pv, hW, hres _ _ _, hargs _ hold, hvars _ hold, World.keptBut_mono (fun p hp => ⟨hp, ?_⟩) (hb.frame (· ∈ before)), fun _ => ?_⟩
  · rw [hps, List.mem_append] at hp
    exact Or.inr hp
  · obtain ⟨_, _, _, _, _, hz, hn⟩ := hW
    refine ⟨hok, _, _, ([] ++ pa) ++ pv, ⟨[] ++ pa, pv, trodAll_append (hargs _ (fun _ _ => rfl)) (hres _ _ _), hvars _ (fun _ _ => rfl), rfl, ?_, ?_⟩, ?_⟩
    · intro b off hp
      have hin : MemPlace.cell b off ∈ before := by rw [hps]; simpa using hp
      rw [hb.frozen (hlt _ hin)]
      exact hz b off hin
    · intro ha
      have := hn ha
      rw [hps] at this
      simpa using this
    · intro p hp _
      rw [hps]
      simpa using hp
end


theorem own : ownKnob Tryz.prog.godebug = none := by kernel_rfl

theorem noInit : Tryz.prog.inits.idxOf? 3 = none := by kernel_rfl
def isStruct (P : Program) (t : TypeId) : Bool := match P.underlying t with
  | some (.struct _) => true
  | _ => false
theorem one_of {P : Program} {w : World} {r : Reach} {b : Nat} {t : TypeId} {v : Value} (h : Cell.okWide P w r b t v) : v.oneCell' = true := by
  cases v with
  | agg cs => exfalso; unfold Cell.okWide Cell.ok at h; cases hu : P.underlying t with
    | none => simp [hu] at h
    | some d => cases d <;> simp [hu] at h
  | tuple cs => exfalso; unfold Cell.okWide Cell.ok at h; cases hu : P.underlying t with
    | none => simp [hu] at h
    | some d => cases d <;> simp [hu] at h
  | _ => rfl
theorem cells_at {P : Program} {w : World} {r : Reach} {b n : Nat} {t : TypeId} {v : Value} {ts : List TypeId} (hs : isStruct P t = true) (hts : P.cellTypes P.depth t = some ts) (hn : P.cellsOf t = n) (hl : ts.length = n) (h : Value.okWide P w r b t v) :
    ∃ c : List Value, v = .agg c.toArray ∧ c.length = n ∧ ∀ (i : Nat) u x, c[i]? = some u → ts[i]? = some x → Cell.okWide P w r b x u := by
  unfold isStruct at hs
  split at hs
  · rename_i fs hu
    simp only [Value.okWide, hu] at h
    obtain ⟨cs, rfl, hz, ts', h1, _, hc⟩ := h
    obtain rfl := Option.some.inj (hts.symm.trans h1)
    have hz' : cs.size = n := hz.trans hn
    refine ⟨cs.toList, by simp, by simp [hz'], fun i u x hi hx => ?_⟩
    obtain ⟨y, h2, h3⟩ := hc i u (by simpa using hi)
    have hlt : i < ts.length := by
      have : i < cs.toList.length := (List.getElem?_eq_some_iff.1 hi).1
      simp [hz'] at this
      omega
    rw [Nat.mod_eq_of_lt hlt, hx] at h2
    cases h2
    exact h3
  · cases hs
theorem int_cell {P : Program} {w : World} {r : Reach} {b : Nat} {t : TypeId} {v : Value} (hu : P.underlying t = some (.int .i64)) (h : Cell.okWide P w r b t v) : ∃ k, v = .int .i64 k := by
  unfold Cell.okWide Cell.ok at h
  cases v with
  | int k m =>
    simp [hu] at h
    exact ⟨m, by rw [h.1]⟩
  | _ => simp [hu] at h
theorem str_cell {P : Program} {w : World} {r : Reach} {b : Nat} {t : TypeId} {v : Value} (hu : P.underlying t = some .string) (h : Cell.okWide P w r b t v) : ∃ l : List UInt8, v = .string ⟨⟨l⟩⟩ := by
  unfold Cell.okWide Cell.ok at h
  cases v with
  | string s =>
    obtain ⟨⟨l⟩⟩ := s
    exact ⟨l, rfl⟩
  | _ => simp [hu] at h
theorem laidOut : laidOutB Tryz.prog = true := by kernel_rfl
theorem int_val {P : Program} {w : World} {r : Reach} {b : Nat} {t : TypeId} {v : Value} (hu : P.underlying t = some (.int .i64)) (h : Value.okWide P w r b t v) : ∃ k, v = .int .i64 k := by
  simp only [Value.okWide, hu] at h
  exact int_cell hu h
/-- The walk: the engine's run. -/
theorem walk (W : World) (a d w p c l : Int) : ∃ M last o w' t',
    runNT Tryz.prog (M + 1) (Conc.solo (Conc.G (Frame.enter Tryz.prog 3 #[.int .i64 a, .agg #[.int .i64 d, .int .i64 w, .int .i64 p, .int .i64 c, .int .i64 l]] .normal) []) W) #[] = (.ended o w', t') ∧ runN Tryz.prog M (Conc.solo (Conc.G (Frame.enter Tryz.prog 3 #[.int .i64 a, .agg #[.int .i64 d, .int .i64 w, .int .i64 p, .int .i64 c, .int .i64 l]] .normal) []) W) = .next last ∧
      step Tryz.prog last = .ended o w' ∧ Conc.Good Tryz.prog (fun u W' => u = .bool true ∧ Below W.heap.size W W') last o w' t' := by
  have hone : ∀ i : Nat, (Value.nilFunc).oneCell' = true := fun _ => rfl
  obtain ⟨S, h, hf⟩ := ran a d w p c l
  have hc : ∀ u ∈ args a d w p c l, Eng.Clo (fun k => k < Eng.LIM) u := by
    intro u hu
    simp only [args, List.mem_cons, List.mem_nil_iff, or_false] at hu
    rcases hu with rfl | rfl
    · trivial
    · refine Eng.Clo_agg.2 fun v hv => ?_
      simp only [List.mem_cons, List.mem_nil_iff, or_false] at hv
      rcases hv with rfl | rfl | rfl | rfl | rfl <;> trivial
  have hr := Eng.runs_reach laid (fun _ => Value.nilFunc) hone hc rfl noInit (begins a d w p c l) h hf W (Eng.laid_none W)
  have he : ((args a d w p c l).map (Eng.Env.m (Eng.Env.bare (fun _ => Value.nilFunc) hone))).toArray = #[.int .i64 a, .agg #[.int .i64 d, .int .i64 w, .int .i64 p, .int .i64 c, .int .i64 l]] := rfl
  rw [he] at hr
  obtain ⟨M, last, o, w', t', h1, h2, h3, h4⟩ := hr
  exact ⟨M, last, o, w', t', h1, h2, h3, h4.mono fun v h => ⟨h.1, h.2.2.2.1, h.2.2.2.2.1, h.2.2.2.2.2, h.2.1, h.2.2.1⟩⟩

set_option maxRecDepth 100000 in
theorem lifted (os : Os) (started : os.Started) (H : Type) (enc : TypeId × Value → H) :
    ReturnsInLeavingWide {} Tryz.checked os 3 .any (fun w args => (Rows.senderNewsSpec.pre enc Tryz.prog Tryz.f3 Rows.senderNewsRow.domain false w args ∧ laidMetH Tryz.prog Rows.senderNewsRow.laid w) ∧ sizedMet enc Tryz.prog Tryz.f3 (OpenSpec.ofChange Rows.senderNewsSpec) false w args)
      (Rows.senderNewsSpec.post enc Tryz.prog Tryz.f3 false true false false) := by
  refine Eng.returnsInLeavingWide_of_change_and (C := Tryz.checked) (X := fun w _ => laidMetH Tryz.prog Rows.senderNewsRow.laid w) (fun _ _ _ hh h => h.of_heap hh) own started Tryz.func3
    (ChangeSpec.witness_shaped (enc := enc) (C := Tryz.checked) (os := os) (X := fun w _ => laidMetH Tryz.prog Rows.senderNewsRow.laid w) false (World.laidAll Tryz.prog os Rows.senderNewsRow.laid) #[((Tryz.prog.info? 3).bind (·.zero)).getD default, ((Tryz.prog.info? 23).bind (·.zero)).getD default] 30 (World.laidAll_os _ _ _)
      (World.shaped_of_ZipB (by kernel_rfl) (by kernel_rfl)) (by kernel_rfl) (by kernel_rfl) (by kernel_rfl)
      (by rw [MakeChecks.laidMetH_plain _ _ _ (by kernel_rfl)]; exact laidMet_laidAll _ (by kernel_rfl) (by kernel_rfl))) ?_
  intro W base args ds gs before hval0 hW hc _ hL hS _
  have hval : ∀ (j : Nat) t v, Tryz.f3.params[j]? = some t → args[j]? = some v → Value.okWide Tryz.prog W .any base t v := hval0
  have hW' := hW
  obtain ⟨p, q, hA0, hV, rfl, _, _⟩ := hW
  have hA : DataW.TrodAll enc Tryz.prog W 0 (fun _ => true) true Tryz.f3.params.toList args.toList ds p := hA0
  rw [Tryz.params3] at hA hval
  obtain ⟨v0, v1, d0, d1, p0, p1, rfl, rfl, rfl, h0, h1'⟩ := trodAll_two hA
  obtain ⟨rfl, rfl⟩ := trodVars_none hV
  simp only [List.append_nil] at hW'
  obtain ⟨a, rfl⟩ := int_val Tryz.underlying3 (hval 0 3 v0 rfl rfl)
  obtain ⟨cs, rfl, z, hc⟩ := cells_at (n := 5) (ts := [3, 3, 3, 3, 3]) (by kernel_rfl) (by kernel_rfl) (by kernel_rfl) rfl (hval 1 23 v1 rfl rfl)
  obtain ⟨d, hd⟩ : ∃ x, cs[0]? = some (.int .i64 x) := by
    have hi : cs[0]? = some cs[0] := List.getElem?_eq_getElem (by omega)
    obtain ⟨x, hx⟩ := int_cell Tryz.underlying3 (hc 0 _ 3 hi rfl)
    exact ⟨x, by rw [hi, hx]⟩
  obtain ⟨w, hw⟩ : ∃ x, cs[1]? = some (.int .i64 x) := by
    have hi : cs[1]? = some cs[1] := List.getElem?_eq_getElem (by omega)
    obtain ⟨x, hx⟩ := int_cell Tryz.underlying3 (hc 1 _ 3 hi rfl)
    exact ⟨x, by rw [hi, hx]⟩
  obtain ⟨pp, hpp⟩ : ∃ x, cs[2]? = some (.int .i64 x) := by
    have hi : cs[2]? = some cs[2] := List.getElem?_eq_getElem (by omega)
    obtain ⟨x, hx⟩ := int_cell Tryz.underlying3 (hc 2 _ 3 hi rfl)
    exact ⟨x, by rw [hi, hx]⟩
  obtain ⟨c, hc'⟩ : ∃ x, cs[3]? = some (.int .i64 x) := by
    have hi : cs[3]? = some cs[3] := List.getElem?_eq_getElem (by omega)
    obtain ⟨x, hx⟩ := int_cell Tryz.underlying3 (hc 3 _ 3 hi rfl)
    exact ⟨x, by rw [hi, hx]⟩
  obtain ⟨l, hl⟩ : ∃ x, cs[4]? = some (.int .i64 x) := by
    have hi : cs[4]? = some cs[4] := List.getElem?_eq_getElem (by omega)
    obtain ⟨x, hx⟩ := int_cell Tryz.underlying3 (hc 4 _ 3 hi rfl)
    exact ⟨x, by rw [hi, hx]⟩
  have hce : cs = [.int .i64 d, .int .i64 w, .int .i64 pp, .int .i64 c, .int .i64 l] := by
    apply List.ext_getElem?
    intro i
    match i with
    | 0 => exact hd
    | 1 => exact hw
    | 2 => exact hpp
    | 3 => exact hc'
    | 4 => exact hl
    | i + 5 => rw [List.getElem?_eq_none (by omega), List.getElem?_eq_none (by simp)]
  have hlt : ∀ x ∈ p0 ++ p1, x.block < W.heap.size := fun x hx => hW'.lt x hx
  obtain ⟨M, last, o, w', t', h1, h2, h3, h4⟩ := walk W a d w pp c l
  have hca : cs.toArray = #[.int .i64 d, .int .i64 w, .int .i64 pp, .int .i64 c, .int .i64 l] := by rw [hce]
  rw [← hca] at h1 h2
  refine ⟨M, last, o, w', t', h1, h2, h3, h4.mono fun u h => ?_⟩
  obtain ⟨rfl, hg⟩ := h
  exact (post_of_below (pa := p0 ++ p1) (pv := []) hW' (fun _ _ _ => trodAll_mk1 (shut_bool Tryz.underlying4 _)) (fun sp hsp => trodAll_mk2 (WideElems.Trod_stays laidOut (by kernel_rfl) (of_decide_eq_true (by kernel_rfl)) h0 (fun x hx => hg.same (hlt x (List.mem_append_left _ hx))) (fun x hx => hsp x (List.mem_append_left _ hx))) (WideElems.Trod_stays laidOut (by kernel_rfl) (of_decide_eq_true (by kernel_rfl)) h1' (fun x hx => hg.same (hlt x (List.mem_append_right _ hx))) (fun x hx => hsp x (List.mem_append_right _ hx)))) (fun _ _ => rfl) (by simp) hg (ok_one (by kernel_rfl) rfl (okWide_bool_mk Tryz.underlying4 _)))

theorem holds : Rows.SenderNewsSaid :=
  OpenClaim.holds_of_wide_leaving 3 Tryz.f3 rfl rfl rfl rfl rfl rfl rfl ⟨rfl, rfl, rfl, rfl, rfl⟩ rfl rfl rfl rfl rfl named Tryz.func3 facts
    instanced wrapped
    (fun os started H enc _ => lifted os started H enc)

/-- The guide's builder of a tied card, for a card that says 'goes'. -/
theorem tied_goes (Lk : Looks) {p : Pinned} {s : OpenSpec} {c : OpenClaim} (kinds : List LaidKind) (tests : Bool) (har : Bool × String) (lk : Bool)
    (hc : c.holds p s) (hw : c.wfByText s = true) (htie : c.laidByTextAt Lk p kinds tests)
    (hst : c.start = .entering) (hnb : c.noBlocks = false ∧ c.again = false) (hm : p.checked.prog.mainIs = some (har.1, har.2.toList)) (hn : (!har.1 && har.2.isEmpty && !lk) = false)
    (hl : ∀ f fn, p.checked.prog.funcNamed c.func = some f → p.checked.prog.funcs[f]? = some fn → lk = p.checked.prog.looks [] ∧ ∀ (j : Nat) t, fn.params[j]? = some t → p.checked.prog.wantsStandIn t = false)
    (hg : true = c.goesBy p.checked.prog) :
    Claim7.holds p (.plain s) { stood := { row := c, standIns := [], harness := har, looks := lk }, kinds := [], alts := [], goes := true, laidByText := true, laidKinds := kinds, laidTests := tests, laidLooks := Lk } := by
  have h6 : ∀ r : OpenClaim, Claim7.isSixth { stood := { row := r, standIns := [], harness := har, looks := lk }, kinds := [] } = false := fun r => by simpa [Claim7.isSixth] using hn
  exact ⟨Claim7.tied_new_at Lk kinds tests (Claim7.new_of_sixth hc har lk hst hnb hm (h6 c) hl) hw, (fun _ hD => by cases hD), htie, (fun h => by cases h), hg⟩

/-- That the call can start goroutines, without a look into each body that it can come to. -/
theorem goes_of {c : OpenClaim} {P : Program} {f g : FuncId} (hs : c.start = .entering) (hn : P.funcNamed c.func = some f) (hu : P.unfollowed f = true) (hg : (P.funcs[g]?).any Func.goes = true) : true = c.goesBy P := by
  have ha : P.funcs.any Func.goes = true := by
    cases hf : P.funcs[g]? with
    | none => rw [hf] at hg; cases hg
    | some fn =>
      rw [hf] at hg
      obtain ⟨h1, h2⟩ := Array.getElem?_eq_some_iff.1 hf
      exact Array.any_eq_true.2 ⟨g, h1, by rw [h2]; exact hg⟩
  unfold OpenClaim.goesBy Program.goesAt Program.goesFrom
  rw [hs, hn]
  simp [Program.goes, hu, ha]

set_option maxHeartbeats 4000000 in
theorem unfollowed : Tryz.pinned.checked.prog.unfollowed 3 = true := by kernel_rfl
set_option maxHeartbeats 4000000 in
theorem going : (Tryz.pinned.checked.prog.funcs[21]?).any Func.goes = true := by kernel_rfl
set_option maxHeartbeats 4000000 in
/-- The statement. -/
theorem proved : Rows.SenderNewsCardSaid :=
  tied_goes .later [.data, .pinned] true (true, "8a314a55b8d0dedc289602cd4ad7ce9bbc7e8821693e7ae7b86c4ea8fcd8c615") false holds (by as_aux_lemma => kernel_rfl) senderNews_row_tie rfl ⟨rfl, rfl⟩ (by as_aux_lemma => kernel_rfl) rfl
    (fun f fn hf hfn => by
      obtain rfl : f = 3 := Option.some.inj ((show Tryz.prog.funcNamed "hawser/hawserlaw17.SenderNews" = some 3 by as_aux_lemma => kernel_rfl).symm.trans hf) |>.symm
      obtain rfl : fn = Tryz.f3 := (Option.some.inj (Tryz.func3.symm.trans hfn)).symm
      exact ⟨by as_aux_lemma => kernel_rfl, fun j t ht => by
        rw [Tryz.params3] at ht
        have hm : t ∈ [3, 23] := by simpa using Array.mem_of_getElem? ht
        have hall : ([3, 23].all fun u => !Tryz.prog.wantsStandIn u) = true := by kernel_rfl
        exact (show Tryz.prog.wantsStandIn t = false by simpa using List.all_eq_true.1 hall t hm)⟩)
    (goes_of rfl named unfollowed going)
#print axioms proved
end Go.Proofs.YtokhollghednaaaGreatDoor.senderNews
