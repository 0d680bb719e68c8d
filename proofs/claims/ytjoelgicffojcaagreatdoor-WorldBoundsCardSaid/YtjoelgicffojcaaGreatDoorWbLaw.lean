/-
  WorldBounds: from the row's premises to what it promises.
-/
import Derived.KernelRfl
import Derived.WalkKit
import Derived.ProofKit
import Derived.OpenShut
import Derived.Below
import Derived.ChangeSame
import Derived.LaidMore
import Derived.Lay
import Derived.SevenTiedAt
import Derived.Stop.Joined
import Derived.Conc.Holds
import Derived.Leaving
import Derived.MakeChecks
import Derived.Carry
import Derived.Test.YtjoelgicffojcaaGreatDoorWbE2
namespace Go.Proofs.YtjoelgicffojcaaGreatDoor.wb
open Go.ChangeShapes Go.WideShapes Go.ChangeAt Go.RowKit
set_option maxRecDepth 1000000
set_option linter.unusedVariables false
set_option linter.unusedSimpArgs false
set_option linter.unusedSectionVars false
section
variable {H : Type} {enc : TypeId × Value → H} {P : Program}
theorem post_of_below {f : Func} {s : ChangeSpec} {apart fresh handsOn again : Bool} {W W' : World} {args : Array Value} {v : Value} {ds gs : List (DataW H)} {before pa pv : List MemPlace}
    (hW : DataW.Whole enc P f.params.toList s.vars apart W args.toList ds gs before)
    (hres : ∀ (b : Nat) (sp : Nat → Bool) (hd : Bool), DataW.TrodAll enc P W' b sp hd f.resultTypes.toList (v.resultList f.resultTypes.size) (s.fn H (ds ++ gs)).results [])
    (hargs : ∀ sp : Nat → Bool, (∀ p ∈ before, sp p.block = true) → DataW.TrodAll enc P W' 0 sp true f.params.toList args.toList (s.fn H (ds ++ gs)).args pa)
    (hvars : ∀ sp : Nat → Bool, (∀ p ∈ before, sp p.block = true) → DataW.TrodVars enc P W' sp s.vars (s.fn H (ds ++ gs)).vars pv)
    (hps : before = pa ++ pv) (hb : Below W.heap.size W W')
    (hok : ∀ (j : Nat) (t : TypeId) (r : Value), f.resultTypes[j]? = some t → (v.resultList f.resultTypes.size)[j]? = some r → Value.okWide P W' .any 0 t r) :
    s.post enc P f apart fresh handsOn again W args v W' := by
  have hlt : ∀ p ∈ before, p.block < W.heap.size := fun p hp => hW.lt p hp
  have hold : ∀ p ∈ before, (fun b => decide (b < W.heap.size)) p.block = true := fun p hp => by simpa using hlt p hp
  refine ⟨ds, gs, before, [], pa, pv, hW, hres _ _ _, hargs _ hold, hvars _ hold, World.keptBut_mono (fun p hp => ⟨hp, ?_⟩) (hb.frame (· ∈ before)), fun _ => ?_⟩
  · rw [hps, List.mem_append] at hp
    exact Or.inr hp
  · obtain ⟨_, _, _, _, _, hz, hn⟩ := hW
    refine ⟨hok, _, _, ([] ++ pa) ++ pv, ⟨[] ++ pa, pv, trodAll_append (hargs _ (fun _ _ => rfl)) (hres _ _ _), hvars _ (fun _ _ => rfl), rfl, ?_, ?_⟩, ?_⟩
    · intro b off hp
      have hin : MemPlace.cell b off ∈ before := by rw [hps]; simpa using hp
      rw [hb.frozen (hlt _ hin)]
      exact hz b off hin
    · intro ha
      have := hn ha
      rw [hps] at this
      simpa using this
    · intro p hp _
      rw [hps]
      simpa using hp
end


/-! ### the types that its arguments bear -/
theorem tInt : Tryz.prog.underlying 3 = some (.int .i64) := by kernel_rfl
theorem tBool : Tryz.prog.underlying 4 = some .bool := by kernel_rfl
theorem tSlice : Tryz.prog.underlying 22 = some (.slice 3) := by kernel_rfl
theorem tParams : Tryz.f3.params = #[26, 3, 3] := by kernel_rfl
theorem tResults : Tryz.f3.resultTypes = #[4] := by kernel_rfl
theorem cInt : Tryz.prog.cellsOf 3 = 1 := by kernel_rfl
theorem cSlice : Tryz.prog.cellsOf 22 = 1 := by kernel_rfl
theorem bInt : Tryz.prog.bytesOf 3 = 8 := by kernel_rfl
def fieldOk (P : Program) (t : TypeId) (i : Nat) (ty : TypeId) (off : Nat) : Bool := match P.underlying t with
  | some (.struct fs) => match fs[i]? with
    | some f => f.type == ty && f.offset == off
    | none => false
  | _ => false
theorem field_of {P : Program} {t : TypeId} {i : Nat} {ty : TypeId} {off : Nat} (h : fieldOk P t i ty off = true) : ∃ fs f, P.underlying t = some (.struct fs) ∧ fs[i]? = some f ∧ f.type = ty ∧ f.offset = off := by
  unfold fieldOk at h
  split at h
  · rename_i fs hu
    split at h
    · rename_i f hf
      rw [Bool.and_eq_true] at h
      exact ⟨fs, f, hu, hf, by simpa using h.1, by simpa using h.2⟩
    · cases h
  · cases h
theorem theChain : fieldOk Tryz.prog 26 2 22 2 = true := by kernel_rfl
def isStruct (P : Program) (t : TypeId) : Bool := match P.underlying t with
  | some (.struct _) => true
  | _ => false
theorem cells_at {P : Program} {w : World} {r : Reach} {b n : Nat} {t : TypeId} {v : Value} {ts : List TypeId} (hs : isStruct P t = true) (hts : P.cellTypes P.depth t = some ts) (hn : P.cellsOf t = n) (hl : ts.length = n) (h : Value.okWide P w r b t v) :
    ∃ c : List Value, v = .agg c.toArray ∧ c.length = n ∧ ∀ (i : Nat) u x, c[i]? = some u → ts[i]? = some x → Cell.okWide P w r b x u := by
  unfold isStruct at hs
  split at hs
  · rename_i fs hu
    simp only [Value.okWide, hu] at h
    obtain ⟨cs, rfl, hz, ts', h1, _, hc⟩ := h
    obtain rfl := Option.some.inj (hts.symm.trans h1)
    have hz' : cs.size = n := hz.trans hn
    refine ⟨cs.toList, by simp, by simp [hz'], fun i u x hi hx => ?_⟩
    obtain ⟨y, h2, h3⟩ := hc i u (by simpa using hi)
    have hlt : i < ts.length := by
      have : i < cs.toList.length := (List.getElem?_eq_some_iff.1 hi).1
      simp [hz'] at this
      omega
    rw [Nat.mod_eq_of_lt hlt, hx] at h2
    cases h2
    exact h3
  · cases hs
theorem int_cell {P : Program} {w : World} {r : Reach} {b : Nat} {t : TypeId} {v : Value} (hu : P.underlying t = some (.int .i64)) (h : Cell.okWide P w r b t v) : ∃ k, v = .int .i64 k := by
  unfold Cell.okWide Cell.ok at h
  cases v with
  | int k m =>
    simp [hu] at h
    exact ⟨m, by rw [h.1]⟩
  | _ => simp [hu] at h
theorem int_val {P : Program} {w : World} {r : Reach} {b : Nat} {t : TypeId} {v : Value} (hu : P.underlying t = some (.int .i64)) (h : Value.okWide P w r b t v) : ∃ k, v = .int .i64 k := by
  simp only [Value.okWide, hu] at h
  exact int_cell hu h
theorem eight {cs : List Value} (h : cs.length = 8) : ∃ a b c d e f g i, cs = [a, b, c, d, e, f, g, i] := by
  match cs, h with
  | [a, b, c, d, e, f, g, i], _ => exact ⟨a, b, c, d, e, f, g, i, rfl⟩
theorem laidOut : laidOutB Tryz.prog = true := by kernel_rfl

/-! ### the arguments -/
/-- Whatever came in: it ends, true, and leaves the memory that was there as it was. -/
theorem ends_all {H : Type} {enc : TypeId × Value → H} {W : World} {v0 : Value} {d0 : DataW H} {p0 : List MemPlace} {b : Nat} {r u : Int} (hok : Value.okWide Tryz.prog W .any b 26 v0) (h : DataW.Trod enc Tryz.prog W 0 (fun _ => true) true 26 v0 d0 p0)
    (hwt : ∀ n ∈ d0.weights Tryz.prog 26, n ≤ reachBytes) (hS : W.ShapedOpen Tryz.prog) : ∃ N C sl st, v0 = .agg ([.int .i64 N, .int .i64 C, sl] ++ st).toArray ∧ Ends N C sl st r u W := by
  obtain ⟨cs, rfl, z, hc⟩ := cells_at (n := 8) (ts := [3, 3, 22, 3, 3, 3, 3, 3]) (by kernel_rfl) (by kernel_rfl) (by kernel_rfl) rfl hok
  obtain ⟨u0, u1, sl, u3, u4, u5, u6, u7, rfl⟩ := eight z
  obtain ⟨N, rfl⟩ := int_cell tInt (hc 0 _ _ rfl rfl)
  obtain ⟨C, rfl⟩ := int_cell tInt (hc 1 _ _ rfl rfl)
  obtain ⟨d, rfl⟩ := int_cell tInt (hc 3 _ _ rfl rfl)
  obtain ⟨w, rfl⟩ := int_cell tInt (hc 4 _ _ rfl rfl)
  obtain ⟨p, rfl⟩ := int_cell tInt (hc 5 _ _ rfl rfl)
  obtain ⟨c, rfl⟩ := int_cell tInt (hc 6 _ _ rfl rfl)
  obtain ⟨l, rfl⟩ := int_cell tInt (hc 7 _ _ rfl rfl)
  refine ⟨N, C, sl, [.int .i64 d, .int .i64 w, .int .i64 p, .int .i64 c, .int .i64 l], rfl, ?_⟩
  obtain ⟨fs, f, hu, hf, hft, hfo⟩ := field_of theChain
  obtain ⟨fuel, hd⟩ := h
  obtain ⟨xs, n, _, hx, _, hlen, hxs⟩ := DataW.trod_struct hu hd
  have h2 := hxs 2 f hf
  rw [hft, hfo, cSlice] at h2
  have hlt : 2 < xs.length := by
    rw [hlen]
    exact (Array.getElem?_eq_some_iff.1 hf).1
  rw [List.getElem?_eq_getElem hlt] at h2
  have h3 : DataW.trod enc Tryz.prog W 0 (fun _ => true) true n 22 [sl] = some xs[2] := h2
  obtain rfl | ⟨B, len, cap, ks, pre, sp, e', lo, hi, rfl, hl, hB, hle, el, rest, hy, hcap⟩ := slice_in tSlice tInt cInt (hc 2 _ _ rfl rfl) h3
  · obtain ⟨zz, tt, fr, hz⟩ := some_block hS
    exact ends_nil hz
  · refine ends_some hB hl ?_
    simp only [Prod.mk.injEq] at hx
    rw [hx.1] at hwt
    have hm : (el.length + rest.length) * Tryz.prog.bytesOf 3 ∈ DataW.weights Tryz.prog 26 (.agg (xs.map (·.1))) := by
      simp only [DataW.weights, hu]
      refine DataW.weights_mem_each (j := 2) (t := 22) (d := xs[2].1) ?_ ?_ _ ?_
      · have : fs.toList[2]? = some f := by simpa using hf
        rw [List.getElem?_map, this, Option.map_some, hft]
      · rw [List.getElem?_map, List.getElem?_eq_getElem hlt]
        rfl
      · rw [hy]
        simp [DataW.weights, tSlice]
    have := hwt _ hm
    rw [hcap, bInt] at this
    have hr : reachBytes ≤ 140737488355328 := by decide
    omega
theorem law_run {H : Type} {enc : TypeId × Value → H} {s : ChangeSpec} (hvars : s.vars = []) (hfn : ∀ d1 d2 d3 : DataW H, s.fn H [d1, d2, d3] = { results := [.lit (.bool true)], args := [d1, d2, d3] }) {apart fresh handsOn again : Bool}
    {W : World} {base : Nat} {args : Array Value} {ds gs : List (DataW H)} {before : List MemPlace} (hval : ∀ (j : Nat) t v, Tryz.f3.params[j]? = some t → args[j]? = some v → Value.okWide Tryz.prog W .any base t v)
    (hW : DataW.Whole enc Tryz.prog Tryz.f3.params.toList s.vars apart W args.toList ds gs before) (hwt : (DataW.weightsEach Tryz.prog (Tryz.f3.params.toList ++ s.plain.varTypes Tryz.prog) (ds ++ gs)).all (· ≤ reachBytes) = true) (hS : W.ShapedOpen Tryz.prog) :
    ∃ n fr w' v, runN Tryz.prog n (lone (Frame.enter Tryz.prog 3 args .normal) [] W) = .next (lone fr [] w') ∧ runN Tryz.prog (n + 1) (lone (Frame.enter Tryz.prog 3 args .normal) [] W) = .ended (.done v) w' ∧ s.post enc Tryz.prog Tryz.f3 apart fresh handsOn again W args v w' := by
  have hW' := hW
  obtain ⟨p, q, hA, hV, rfl, _, _⟩ := hW
  rw [hvars] at hV
  obtain ⟨rfl, rfl⟩ := trodVars_none hV
  rw [tParams] at hA hval hwt
  obtain ⟨v0, v1, v2, d0, d1, d2, p0, p1, p2, rfl, rfl, rfl, h0, h1', h2'⟩ := trodAll_three hA
  simp only [List.append_nil] at hW'
  obtain ⟨r, rfl⟩ := int_val tInt (hval 1 3 v1 rfl rfl)
  obtain ⟨u, rfl⟩ := int_val tInt (hval 2 3 v2 rfl rfl)
  have hw0 : ∀ n ∈ d0.weights Tryz.prog 26, n ≤ reachBytes := fun n hn => by
    have := List.all_eq_true.1 hwt n (DataW.weights_mem_each (j := 0) (t := 26) (d := d0) rfl rfl n hn)
    simpa using this
  obtain ⟨N, C, sl, st, rfl, n, fr, w', h1, h2, hg⟩ := ends_all (r := r) (u := u) (hval 0 26 v0 rfl rfl) h0 hw0 hS
  have hlt : ∀ x ∈ p0 ++ p1 ++ p2, x.block < W.heap.size := fun x hx => hW'.lt x hx
  refine ⟨n, fr, w', _, h1, h2, ?_⟩
  have same : ∀ x ∈ p0 ++ p1 ++ p2, W.sameAt w' x := fun x hx => hg.same (hlt x hx)
  refine post_of_below (pa := p0 ++ (p1 ++ p2)) (pv := []) hW' (fun _ _ _ => ?_) (fun sp hsp => ?_) (fun _ _ => ?_) (by simp) hg ?_
  · rw [tResults, List.append_nil, hfn]
    exact trodAll_mk1 (shut_bool tBool _)
  · rw [tParams, List.append_nil, hfn]
    exact trodAll_mk3 (WideElems.Trod_stays laidOut (by kernel_rfl) (of_decide_eq_true (by kernel_rfl)) h0 (fun x hx => same x (by simp [hx])) (fun x hx => hsp x (by simp [hx])))
      (WideElems.Trod_stays laidOut (by kernel_rfl) (of_decide_eq_true (by kernel_rfl)) h1' (fun x hx => same x (by simp [hx])) (fun x hx => hsp x (by simp [hx])))
      (WideElems.Trod_stays laidOut (by kernel_rfl) (of_decide_eq_true (by kernel_rfl)) h2' (fun x hx => same x (by simp [hx])) (fun x hx => hsp x (by simp [hx])))
  · rw [hvars, List.append_nil, hfn]
    rfl
  · exact ok_one (by kernel_rfl) rfl (okWide_bool_mk tBool _)
/-- From such a run to the form's contract, for a row that lays variables. -/
theorem handed_of_lone {H : Type} {enc : TypeId × Value → H} {a : Assume} {C : Checked} {os : Os} {f : FuncId} {fn : Func} {s : ChangeSpec} {conds : List PathCond} {apart fresh handsOn again : Bool} {X : World → Array Value → Prop}
    (hX : ∀ (w w' : World) (args : Array Value), w.heap = w'.heap → X w args → X w' args)
    (own : ownKnob C.prog.godebug = none) (started : os.Started) (hfn : C.prog.funcs[f]? = some fn)
    (witness : ∃ (w : World) (tape : Tape) (i : Input), w.os = os ∧ (w.forCall tape i).Shaped C.prog ∧ i.vars = [] ∧ Input.okWide C.prog (w.forCall tape i) .any w.heap.size f i ∧
      ((s.pre enc C.prog fn conds apart (w.forCall tape i).memory i.args ∧ X (w.forCall tape i).memory i.args) ∧ sizedMet enc C.prog fn (OpenSpec.ofChange s) apart (w.forCall tape i).memory i.args) ∧ a.holds C.prog (lone (Frame.enter C.prog f i.args .normal) [] (w.forCall tape i)))
    (runs : ∀ (W : World) (base : Nat) (args : Array Value) (ds gs : List (DataW H)) (before : List MemPlace),
      (∀ (j : Nat) t v, fn.params[j]? = some t → args[j]? = some v → Value.okWide C.prog W .any base t v) →
      DataW.Whole enc C.prog fn.params.toList s.vars apart W args.toList ds gs before →
      (DataW.weightsEach C.prog (fn.params.toList ++ s.plain.varTypes C.prog) (ds ++ gs)).all (· ≤ reachBytes) = true → W.ShapedOpen C.prog →
      ∃ n fr w' v, runN C.prog n (lone (Frame.enter C.prog f args .normal) [] W) = .next (lone fr [] w') ∧ runN C.prog (n + 1) (lone (Frame.enter C.prog f args .normal) [] W) = .ended (.done v) w' ∧ s.post enc C.prog fn apart fresh handsOn again W args v w') :
    ReturnsInHanded a C os f .any (fun w args => (s.pre enc C.prog fn conds apart w args ∧ X w args) ∧ sizedMet enc C.prog fn (OpenSpec.ofChange s) apart w args) (s.post enc C.prog fn apart fresh handsOn again) := fun enter => by
  obtain ⟨w0, t0, i0, a1, a2, a3, a4, a5, a6⟩ := witness
  refine ⟨enter, own, started, ⟨w0, t0, i0, a1, a2, a3, a4, a5, a6, trivial⟩, fun w tape i h => ?_⟩
  have hshape := h.2.1
  have hok := h.2.2.2.1
  have hpre := h.2.2.2.2.1
  obtain ⟨_, _, _, fn', hfn', _, _, _, _, hval⟩ := hok
  have e : fn' = fn := Option.some.inj (hfn'.symm.trans hfn)
  subst e
  obtain ⟨⟨⟨ds, gs, before, hw, hc⟩, hx⟩, hz⟩ := hpre
  have hw' := DataW.Whole.of_heap (w' := w.forCall tape i) (by rfl) hw
  obtain ⟨n, fr, w', v, hn, hend, hp⟩ := runs (w.forCall tape i) w.heap.size i.args ds gs before hval hw' (hz.weights hw) hshape
  exact ⟨n + 1, v, w', hend, (clean_of_lone hn).2, roomy_placeholder .., ChangeSpec.post_blind hp, ⟨n, _, hn, step_of_runs hn hend, alone_of_lone hn⟩, fun _ _ _ => trivial⟩
#print axioms handed_of_lone
#print axioms law_run
end Go.Proofs.YtjoelgicffojcaaGreatDoor.wb
