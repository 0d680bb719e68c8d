/-
  The engine, part C: the plain doing of single operations, and that the model does just that.
-/
import Derived.Test.YtjpmmfahmhnpeaaGreatDoorEngB
namespace Go.Eng
set_option linter.unusedSimpArgs false
set_option linter.unusedVariables false

theorem oneCell_mv (ρ : Ren) (v : Value) : (mv ρ v).oneCell' = v.oneCell' := by
  cases v with
  | pointer a => cases a <;> rfl
  | slice a => cases a <;> rfl
  | map a => cases a <;> rfl
  | chan a =>
    cases a with
    | none => rfl
    | some r => exact ρ.one r
  | func g p q => rw [mv_func]; rfl
  | agg cs => rw [mv_agg]; rfl
  | tuple cs => rw [mv_tuple]; rfl
  | _ => rfl
theorem cells_mv (ρ : Ren) (v : Value) : (mv ρ v).cells = v.cells.map (mv ρ) := by
  cases v with
  | pointer a => cases a <;> simp [Value.cells, mv]
  | slice a => cases a <;> simp [Value.cells, mv]
  | map a => cases a <;> simp [Value.cells, mv]
  | chan a =>
    cases a with
    | none => simp [Value.cells, mv]
    | some r =>
      have h : (ρ.o r).cells = #[ρ.o r] := by
        have h1 := ρ.one r
        cases hv : ρ.o r <;> rw [hv] at h1 <;> first | rfl | (simp [Value.oneCell'] at h1)
      have h2 : (Value.chan (some r)).cells = #[.chan (some r)] := rfl
      rw [h2]
      show (ρ.o r).cells = _
      rw [h]
      simp [mv]
  | func g p q => rw [mv_func]; simp [Value.cells, mv_func]
  | agg cs => rw [mv_agg]; rfl
  | tuple cs => rw [mv_tuple]; simp [Value.cells, mv_tuple]
  | _ => simp [Value.cells, mv]
theorem cells_clo {D : Nat → Prop} {v : Value} (h : Clo D v) : ∀ u ∈ v.cells.toList, Clo D u := by
  cases v with
  | agg cs => exact Clo_agg.1 h
  | _ => intro u hu; simp [Value.cells] at hu; subst hu; exact h

/-- Is a type a struct's or an array's? -/
def aggT (P : Program) (t : TypeId) : Option Bool := (P.underlying t).map fun d => match d with | .struct _ | .array _ _ => true | _ => false
theorem run_isAgg {P : Program} {t : TypeId} {b : Bool} (h : aggT P t = some b) (w : World) : (isAgg t).run P w = .ok b w := by
  unfold aggT at h
  cases hu : P.underlying t with
  | none => simp [hu] at h
  | some d =>
    simp only [hu, Option.map_some, Option.some.injEq] at h
    subst h
    simp only [isAgg, Sem.run_bind, run_underlying hu, Result.andThen_ok]
    split <;> simp_all
def sizeT (P : Program) (t : TypeId) : Option Nat := (P.info? t).map (·.size)
theorem run_sizeOf {P : Program} {t : TypeId} {n : Nat} (h : sizeT P t = some n) (w : World) : (sizeOf t).run P w = .ok n w := by
  unfold sizeT at h
  cases hu : P.info? t with
  | none => simp [hu] at h
  | some i =>
    simp only [hu, Option.map_some, Option.some.injEq] at h
    simp [sizeOf, typeInfo, hu, h]
theorem cellsOf_sizeT {P : Program} {t : TypeId} {n : Nat} (h : sizeT P t = some n) : P.cellsOf t = n := by
  unfold sizeT at h
  unfold Program.cellsOf
  rw [h]; rfl
def zeroT (P : Program) (t : TypeId) : Option Value := ((P.info? t).bind (·.zero)).bind fun z => if plain z then some z else none
theorem run_zeroT {P : Program} {t : TypeId} {z : Value} (h : zeroT P t = some z) (w : World) : (zeroValue t).run P w = .ok z w ∧ plain z = true := by
  unfold zeroT at h
  cases hu : P.info? t with
  | none => simp [hu] at h
  | some i =>
    cases hz : i.zero with
    | none => simp [hu, hz] at h
    | some y =>
      simp only [hu, hz, Option.bind_some] at h
      split at h
      · cases h
        exact ⟨by simp [zeroValue, typeInfo, hu, hz], by assumption⟩
      · cases h
theorem plain_cells {z : Value} (h : plain z = true) : ∀ u ∈ z.cells.toList, plain u = true := by
  cases z with
  | agg cs => obtain ⟨l⟩ := cs; simp only [plain] at h; exact plainL_all.1 h
  | _ => intro u hu; simp [Value.cells] at hu; subst hu; exact h
theorem m_plain (E : Env) {v : Value} (h : plain v = true) : E.m v = v := mv_plain _ v h
theorem map_plain (E : Env) {l : List Value} (h : ∀ u ∈ l, plain u = true) : l.map E.m = l := by
  conv => rhs; rw [← List.map_id l]
  exact List.map_congr_left fun u hu => m_plain E (h u hu)

/-! ### What needs no memory -/
def pureRun (P : Program) {α : Type} : Sem α → Option α
  | .pure a => some a
  | .program k => pureRun P (k P)
  | .mark _ k => pureRun P k
  | _ => none
theorem pureRun_ok {P : Program} {α : Type} : ∀ (s : Sem α) {a : α}, pureRun P s = some a → ∀ w, s.run P w = .ok a w
  | .pure _, _, h, _ => by simp only [pureRun, Option.some.injEq] at h; subst h; rfl
  | .program k, _, h, w => pureRun_ok (k P) h w
  | .mark _ k, _, h, w => pureRun_ok k h w
  | .load .., _, h, _ => by simp [pureRun] at h
  | .store .., _, h, _ => by simp [pureRun] at h
  | .new .., _, h, _ => by simp [pureRun] at h
  | .shape .., _, h, _ => by simp [pureRun] at h
  | .freeze .., _, h, _ => by simp [pureRun] at h
  | .frozen .., _, h, _ => by simp [pureRun] at h
  | .getObj .., _, h, _ => by simp [pureRun] at h
  | .setObj .., _, h, _ => by simp [pureRun] at h
  | .choose .., _, h, _ => by simp [pureRun] at h
  | .sys .., _, h, _ => by simp [pureRun] at h
  | .halt .., _, h, _ => by simp [pureRun] at h

/-! ### Loads and stores -/
def cload (P : Program) (t : TypeId) (a : Value) (N : CH) : Option Value :=
  match a with
  | .pointer (some ad) =>
    match N.get ad.block with
    | some (.row c _ _) =>
      match aggT P t with
      | some true => match sizeT P t with
        | some n => if ad.off + n ≤ c.length then some (.agg ((c.drop ad.off).take n).toArray) else none
        | none => none
      | some false => c[ad.off]?
      | none => none
    | _ => none
  | _ => none
theorem addr_add (b o i : Nat) : (⟨b, o, none⟩ : Addr).add i = ⟨b, o + i, none⟩ := by unfold Addr.add; split <;> simp_all
theorem load_ok {P : Program} {E : Env} {N : CH} {w : World} (R : Rel P E N w) {t : TypeId} {a v : Value} (ha : Clo E.D a) (h : cload P t a N = some v) :
    (Instr.loadAt t (E.m a)).run P w = .ok (E.m v) w ∧ Clo E.D v := by
  unfold cload at h
  split at h
  · rename_i ad
    obtain ⟨ad1, ad2, sp⟩ := ad
    obtain ⟨hd, hs⟩ := ha
    simp only at hs hd
    subst hs
    split at h
    · rename_i c e el hg
      simp only at hg
      have hm : E.m (.pointer (some ⟨ad1, ad2, none⟩)) = .pointer (some ⟨E.f ad1, ad2 + E.s ad1, none⟩) := rfl
      rw [hm]
      split at h
      · rename_i ht
        split at h
        · rename_i n hn
          split at h
          · rename_i hle
            cases h
            have hle' : ad2 + n ≤ c.length := hle
            have hl : ((c.drop ad2).take n).length = n := by simp; omega
            have hc := run_loadCells_list (P := P) w ⟨E.f ad1, ad2 + E.s ad1, none⟩ (((c.drop ad2).take n).map E.m) (by
              intro j u hj
              rw [addr_add]
              rw [List.getElem?_map] at hj
              cases hj' : ((c.drop ad2).take n)[j]? with
              | none => rw [hj'] at hj; cases hj
              | some u' =>
                rw [hj'] at hj
                cases hj
                have : c[ad2 + j]? = some u' := by
                  rw [List.getElem?_take] at hj'
                  split at hj'
                  · rwa [List.getElem?_drop] at hj'
                  · cases hj'
                exact R.cell hd hg this (by omega))
            rw [List.length_map, hl] at hc
            refine ⟨?_, Clo_agg.2 ?_⟩
            · simp only [Instr.loadAt, Instr.sureAddr, loadVar, Sem.run_bind, Sem.run_pure, Result.andThen_ok, run_isAgg ht, if_true, run_sizeOf hn, hc]
              simp only [Env.m, mv_agg, List.map_toArray]
              rfl
            · intro u hu
              simp only at hu
              exact (R.row hd hg).1 u (List.mem_of_mem_drop (List.mem_of_mem_take hu))
          · cases h
        · cases h
      · rename_i ht
        refine ⟨?_, R.clo hd hg h⟩
        simp only [Instr.loadAt, Instr.sureAddr, loadVar, Sem.run_bind, Sem.run_pure, Result.andThen_ok, run_isAgg ht, Bool.false_eq_true, if_false, run_load]
        rw [R.cell hd hg h rfl]
      · cases h
    · cases h
  · cases h

def cstore (P : Program) (t : TypeId) (a v : Value) (N : CH) : Option CH :=
  match a with
  | .pointer (some ad) =>
    match N.get ad.block with
    | some (.row c e el) =>
      match sizeT P t with
      | some n =>
        if v.cells.size = n ∧ ad.off + n ≤ c.length ∧ (v.cells.toList.all (·.oneCell')) = true then N.wset ad.block (.row (wrf c ad.off v.cells.toList) e el) else none
      | none => none
    | _ => none
  | _ => none
theorem store_ok {P : Program} {E : Env} {N N' : CH} {w : World} (R : Rel P E N w) {t : TypeId} {a v : Value} (ha : Clo E.D a) (hv : Clo E.D v) (h : cstore P t a v N = some N') :
    ∃ w', Rel P E N' w' ∧ Ext E N w E N' w' ∧ (Instr.storeAt t (E.m a) (E.m v)).run P w = .ok () w' := by
  unfold cstore at h
  simp only [wrf_eq] at h
  split at h
  · rename_i ad
    obtain ⟨ad1, ad2, sp⟩ := ad
    obtain ⟨hd, hs⟩ := ha
    simp only at hs hd
    subst hs
    split at h
    · rename_i c e el hg
      simp only at hg
      split at h
      · rename_i n hn
        split at h
        · rename_i hle
          obtain ⟨hwm, rfl⟩ := CH.wset_some h
          obtain ⟨h1, h2', h3⟩ := hle
          have h2 : ad2 + n ≤ c.length := h2'
          obtain ⟨R', X⟩ := R.write hd hwm hg (o := ad2) (o' := ad2 + E.s ad1) (vs := v.cells.toList) (by simp [h1]; exact h2) rfl (cells_clo hv)
          refine ⟨_, R', X, ?_⟩
          have hm : E.m (.pointer (some ⟨ad1, ad2, none⟩)) = .pointer (some ⟨E.f ad1, ad2 + E.s ad1, none⟩) := rfl
          have hc : (E.m v).cells.toList = v.cells.toList.map E.m := by simp [Env.m, cells_mv]
          have hz : (E.m v).cells.size = n := by rw [← h1]; simp [Env.m, cells_mv]
          have hlen : v.cells.toList.length = n := by simpa using h1
          have hst := run_storeCells_cells (P := P) (E.f ad1) (ad2 + E.s ad1) (v.cells.toList.map E.m) 0 w
            (by
              intro j hj
              rw [List.length_map] at hj
              have : ad2 + j < c.length := by omega
              rw [Nat.add_zero, R.cell hd hg (List.getElem?_eq_getElem this) (by omega)]
              rfl)
            (by
              intro j hj
              rw [List.length_map] at hj
              rw [Nat.add_zero]
              exact R.free hd hg (i := ad2 + j) (by omega) (by omega))
            (by
              intro u hu
              obtain ⟨u', hu', rfl⟩ := List.mem_map.1 hu
              show (mv _ u').oneCell' = true
              rw [oneCell_mv]
              exact List.all_eq_true.1 h3 u' hu')
          rw [Nat.add_zero] at hst
          simp only [hm, Instr.storeAt, Instr.sureAddr, storeVar, Sem.run_bind, Sem.run_pure, Result.andThen_ok, run_sizeOf hn, hz, hc, hst, ne_eq, not_true_eq_false, if_false]
        · cases h
      · cases h
    · cases h
  · cases h

/-! ### What lays a block -/
def crow (N : CH) (c : List Value) (e : TypeId) (el : Bool) : Option (Nat × CH) := if N.fits then some (N.sz, N.push (.row c e el)) else none
def cbox (e : TypeId) (v : Value) (N : CH) : Option (Value × CH) := (crow N v.cells.toList e false).map fun (k, N') => (.pointer (some ⟨k, 0, none⟩), N')
theorem box_ok {P : Program} {E : Env} {N N' : CH} {w : World} (R : Rel P E N w) {t : TypeId} {v u : Value} (hv : Clo E.D v) (h : cbox t v N = some (u, N')) :
    ∃ E' w', Rel P E' N' w' ∧ Ext E N w E' N' w' ∧ Clo E'.D u ∧ (Instr.box t (E.m v)).run P w = .ok (E'.m u) w' := by
  unfold cbox crow at h
  split at h
  · rename_i hsz
    simp only [Option.map_some, Option.some.injEq, Prod.mk.injEq] at h
    obtain ⟨rfl, rfl⟩ := h
    obtain ⟨R', X⟩ := R.newRow hsz t (cells_clo hv)
    refine ⟨_, _, R', X, ⟨Env.add_D .., rfl⟩, ?_⟩
    have hc : (E.m v).cells = (v.cells.toList.map E.m).toArray := by
      apply Array.ext'
      simp [Env.m, cells_mv]
    simp only [Instr.box, newVar, newRow, Sem.run_bind, run_newObj, Result.andThen_ok, Sem.run_pure, hc]
    simp only [Env.m, mv, Env.add_f, Env.add_s]
    rfl
  · cases h
def calloc (P : Program) (e : TypeId) (N : CH) : Option (Value × CH) := (zeroT P e).bind fun z => cbox e z N
theorem alloc_ok {P : Program} {E : Env} {N N' : CH} {w : World} (R : Rel P E N w) {t : TypeId} {u : Value} (h : calloc P t N = some (u, N')) :
    ∃ E' w', Rel P E' N' w' ∧ Ext E N w E' N' w' ∧ Clo E'.D u ∧ (Instr.alloc t true (.tuple #[])).run P w = .ok (E'.m u) w' := by
  unfold calloc at h
  cases hz : zeroT P t with
  | none => simp [hz] at h
  | some z =>
    rw [hz, Option.bind_some] at h
    obtain ⟨hrun, hp⟩ := run_zeroT hz w
    obtain ⟨E', w', R', X, hu, hr⟩ := box_ok R (Clo_plain _ z hp) h
    refine ⟨E', w', R', X, hu, ?_⟩
    rw [m_plain E hp] at hr
    simp only [Instr.alloc, Sem.run_bind, hrun, Result.andThen_ok]
    simpa [Instr.box] using hr

/-! ### Structs and arrays as values -/
theorem foldl_set_map (g : Value → Value) : ∀ (l : List (Value × Nat)) (off : Nat) (cs : Array Value),
    (l.foldl (fun cs (p : Value × Nat) => cs.setIfInBounds (off + p.2) p.1) cs).map g = (l.map fun p => (g p.1, p.2)).foldl (fun cs (p : Value × Nat) => cs.setIfInBounds (off + p.2) p.1) (cs.map g)
  | [], _, _ => rfl
  | p :: l, off, cs => by
    simp only [List.foldl_cons, List.map_cons]
    rw [foldl_set_map g l]
    congr 1
    apply Array.ext'
    simp [List.map_set]
theorem foldl_set_clo {D : Nat → Prop} : ∀ (l : List (Value × Nat)) (off : Nat) (cs : Array Value), (∀ v ∈ cs.toList, Clo D v) → (∀ p ∈ l, Clo D p.1) →
    ∀ v ∈ (l.foldl (fun cs (p : Value × Nat) => cs.setIfInBounds (off + p.2) p.1) cs).toList, Clo D v
  | [], _, _, h, _ => h
  | p :: l, off, cs, h, hl => by
    simp only [List.foldl_cons]
    refine foldl_set_clo l off _ ?_ (fun q hq => hl q (by simp [hq]))
    intro v hv
    rw [Array.toList_setIfInBounds] at hv
    rcases List.mem_or_eq_of_mem_set hv with h1 | h1
    · exact h v h1
    · rw [h1]; exact hl p (by simp)
theorem fill_map (g : Value → Value) (hg : ∀ v, (g v).cells = v.cells.map g) (place : Nat → Option (Nat × Nat)) : ∀ (parts : List (Nat × Value)) (cs : Array Value),
    Instr.fill place (cs.map g) (parts.map fun p => (p.1, g p.2)) = (Instr.fill place cs parts).map (·.map g)
  | [], cs => rfl
  | (i, v) :: rest, cs => by
    simp only [List.map_cons, Instr.fill]
    cases place i with
    | none => rfl
    | some os =>
      obtain ⟨off, size⟩ := os
      simp only [hg, Array.size_map]
      split
      · rfl
      · rw [← fill_map g hg place rest]
        congr 1
        have h0 := (foldl_set_map g v.cells.zipIdx.toList off cs).symm
        rw [← Array.foldl_toList, ← Array.foldl_toList]
        refine Eq.trans ?_ h0
        congr 1
        apply List.ext_getElem?
        intro j
        simp [List.getElem?_zipIdx]
        rfl
theorem fill_clo {D : Nat → Prop} (place : Nat → Option (Nat × Nat)) : ∀ (parts : List (Nat × Value)) (cs : Array Value) {out : Array Value},
    (∀ v ∈ cs.toList, Clo D v) → (∀ p ∈ parts, Clo D p.2) → Instr.fill place cs parts = some out → ∀ v ∈ out.toList, Clo D v
  | [], cs, out, h, _, e => by simp only [Instr.fill, Option.some.injEq] at e; subst e; exact h
  | (i, v) :: rest, cs, out, h, hp, e => by
    simp only [Instr.fill] at e
    cases hpl : place i with
    | none => simp [hpl] at e
    | some os =>
      obtain ⟨off, size⟩ := os
      simp only [hpl] at e
      split at e
      · cases e
      · refine fill_clo place rest _ ?_ (fun p hq => hp p (by simp [hq])) e
        rw [← Array.foldl_toList]
        refine foldl_set_clo _ off cs h ?_
        intro p hm
        have hv := hp (i, v) (by simp)
        have hm' : p ∈ v.cells.toList.zipIdx := by simpa using hm
        exact cells_clo hv p.1 (List.fst_mem_of_mem_zipIdx hm')

end Go.Eng
