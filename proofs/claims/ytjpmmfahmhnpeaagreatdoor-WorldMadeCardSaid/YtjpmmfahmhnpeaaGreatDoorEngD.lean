/-
  The engine, part D: more single operations.
-/
import Derived.Test.YtjpmmfahmhnpeaaGreatDoorEngC
import Derived.Laws.Tables
import Derived.Great.BuildSlice
import Derived.Laws.AppendOwn
namespace Go.Eng
set_option linter.unusedSimpArgs false
set_option linter.unusedVariables false

theorem m_cells (E : Env) (v : Value) : (E.m v).cells = v.cells.map E.m := cells_mv _ v
theorem zero_cells {P : Program} {t : TypeId} {z : Value} {i : TypeInfo} (hi : P.info? t = some i) (h : zeroT P t = some z) : i.zero = some z ∧ plain z = true := by
  unfold zeroT at h
  simp only [hi, Option.bind_some] at h
  cases hz : i.zero with
  | none => simp [hz] at h
  | some y =>
    simp only [hz, Option.bind_some] at h
    split at h
    · cases h; exact ⟨rfl, by assumption⟩
    · cases h
theorem cells_plain_map (E : Env) {z : Value} (h : plain z = true) : z.cells.map E.m = z.cells := by
  apply Array.ext'
  rw [Array.toList_map]
  exact map_plain E (plain_cells h)

/-! ### build, buildSlice -/
theorem fill_wr (off : Nat) : ∀ (l : List Value) (j : Nat) (cs : Array Value), ((l.zipIdx j).foldl (fun cs p => cs.setIfInBounds (off + p.2) p.1) cs) = (wr cs.toList (off + j) l).toArray
  | [], j, cs => by simp [wr]
  | v :: l, j, cs => by
    rw [List.zipIdx_cons, List.foldl_cons, fill_wr off l (j + 1)]
    simp only [Array.toList_setIfInBounds]
    rw [wr]
    rfl
/-- The parts laid into the cells, each in one pass. -/
def ffill (place : Nat → Option (Nat × Nat)) : List (Nat × Value) → List Value → Option (List Value)
  | [], cells => some cells
  | p :: rest, cells => match place p.1 with
    | none => none
    | some os => if and (Nat.beq p.2.cells.size os.2) (Nat.ble (os.1 + p.2.cells.size) cells.length) = true then ffill place rest (wrf cells os.1 p.2.cells.toList) else none
theorem ffill_eq (place : Nat → Option (Nat × Nat)) : ∀ (parts : List (Nat × Value)) (cs : Array Value), (ffill place parts cs.toList).map (·.toArray) = Instr.fill place cs parts
  | [], cs => by simp [ffill, Instr.fill]
  | (i, v) :: rest, cs => by
    simp only [ffill, Instr.fill]
    cases place i with
    | none => rfl
    | some os =>
      obtain ⟨off, size⟩ := os
      by_cases h : v.cells.size = size ∧ off + v.cells.size ≤ cs.size
      · have h1 : and (Nat.beq v.cells.size size) (Nat.ble (off + v.cells.size) cs.toList.length) = true := by
          rw [Bool.and_eq_true]
          exact ⟨by simpa using h.1, by simpa using h.2⟩
        have h2 : ¬ (v.cells.size ≠ size || decide (off + v.cells.size > cs.size)) = true := by
          simp [h.1]
          have := h.2
          omega
        dsimp only
        rw [if_pos h1, if_neg h2, wrf_eq]
        have h3 : v.cells.zipIdx.foldl (fun cs (c, j) => cs.setIfInBounds (off + j) c) cs = (wr cs.toList off v.cells.toList).toArray := by
          rw [← Array.foldl_toList]
          have := fill_wr off v.cells.toList 0 cs
          rw [Nat.add_zero] at this
          rw [← this]
          simp
        rw [h3, ← ffill_eq place rest]
      · have h1 : ¬ and (Nat.beq v.cells.size size) (Nat.ble (off + v.cells.size) cs.toList.length) = true := by
          intro hh
          rw [Bool.and_eq_true] at hh
          exact h ⟨by simpa using hh.1, by simpa using hh.2⟩
        have h2 : (v.cells.size ≠ size || decide (off + v.cells.size > cs.size)) = true := by
          by_cases e : v.cells.size = size
          · have : ¬ off + v.cells.size ≤ cs.size := fun hl => h ⟨e, hl⟩
            simp [e]
            omega
          · simp [e]
        dsimp only
        rw [if_neg h1, if_pos h2]
        rfl
def fbuilt (P : Program) (t : TypeId) (parts : List (Nat × Value)) : Option (Array Value) :=
  match P.info? t, P.underlying t with
  | some it, some (.array _ e) =>
    match it.zero, P.info? e with
    | some z, some ie => (ffill (fun i => some (i * ie.size, ie.size)) parts z.cells.toList).map (·.toArray)
    | _, _ => none
  | some it, some (.struct fields) =>
    match it.zero, fields.toList.mapM (fun f => (P.info? f.type).map fun i => (f.offset, i.size)) with
    | some z, some places => (ffill (places.toArray[·]?) parts z.cells.toList).map (·.toArray)
    | _, _ => none
  | _, _ => none
theorem fbuilt_eq (P : Program) (t : TypeId) (parts : List (Nat × Value)) : fbuilt P t parts = P.built t parts := by
  unfold fbuilt Program.built
  simp only [ffill_eq]
  rfl
def cbuild (P : Program) (t : TypeId) (parts : List (Nat × Value)) : Option Value :=
  if (zeroT P t).isSome then (fbuilt P t parts).map fun cs => .agg cs else none
theorem build_ok {P : Program} {E : Env} {w : World} {t : TypeId} {parts : List (Nat × Value)} {v : Value} (hp : ∀ p ∈ parts, Clo E.D p.2) (h : cbuild P t parts = some v) :
    (Instr.build t (parts.map fun p => (p.1, E.m p.2)).toArray).run P w = .ok (E.m v) w ∧ Clo E.D v := by
  unfold cbuild at h
  rw [fbuilt_eq] at h
  split at h
  · rename_i hz
    obtain ⟨z, hz⟩ := Option.isSome_iff_exists.1 hz
    cases hb : P.built t parts with
    | none => simp [hb] at h
    | some cs =>
      simp only [hb, Option.map_some, Option.some.injEq] at h
      subst h
      have key : P.built t (parts.map fun p => (p.1, E.m p.2)) = some (cs.map E.m) ∧ ∀ u ∈ cs.toList, Clo E.D u := by
        unfold Program.built at hb ⊢
        cases hit : P.info? t with
        | none => simp [hit] at hb
        | some it =>
          obtain ⟨hz0, hzp⟩ := zero_cells hit hz
          have hclo : ∀ u ∈ z.cells.toList, Clo E.D u := fun u hu => Clo_plain _ u (plain_cells hzp u hu)
          cases hu : P.underlying t with
          | none => simp [hit, hu] at hb
          | some d =>
            cases d <;> try (simp [hit, hu] at hb; done)
            case array n e =>
              cases hie : P.info? e with
              | none => simp [hit, hu, hz0, hie] at hb
              | some ie =>
                simp only [hit, hu, hz0, hie] at hb ⊢
                refine ⟨?_, fill_clo _ _ _ hclo hp hb⟩
                have := fill_map E.m (m_cells E) (fun i => some (i * ie.size, ie.size)) parts z.cells
                rw [cells_plain_map E hzp, hb] at this
                exact this
            case struct fields =>
              cases hpl : fields.toList.mapM (fun f => (P.info? f.type).map fun i => (f.offset, i.size)) with
              | none => simp [hit, hu, hz0, hpl] at hb
              | some places =>
                simp only [hit, hu, hz0, hpl] at hb ⊢
                refine ⟨?_, fill_clo _ _ _ hclo hp hb⟩
                have := fill_map E.m (m_cells E) (fun x => places.toArray[x]?) parts z.cells
                rw [cells_plain_map E hzp, hb] at this
                exact this
      refine ⟨?_, Clo_agg.2 key.2⟩
      rw [run_build w t _ (cs.map E.m) (by simpa using key.1)]
      simp only [Env.m, mv_agg]
      rfl
  · cases h

def cbuildSlice (P : Program) (t : TypeId) (len : Nat) (parts : List (Nat × Value)) (N : CH) : Option (Value × CH) :=
  match P.underlying t with
  | some (.slice e) =>
    match P.info? e, zeroT P e with
    | some ie, some z =>
      if len = 0 ∧ parts.isEmpty = true then (crow N [] e false).map fun (k, N') => (.slice (some ⟨k, 0, none⟩) 0 0, N') else
      if len * ie.size > 2 ^ 24 ∨ len * ie.size = 0 then none else
      match Instr.fill (fun i => some (i * ie.size, ie.size)) ((Array.range (len * ie.size)).map (z.cells[· % z.cells.size]!)) parts with
      | some cs => (crow N cs.toList e false).map fun (k, N') => (.slice (some ⟨k, 0, none⟩) len len, N')
      | none => none
    | _, _ => none
  | _ => none
theorem zeros_plain {z : Value} (h : plain z = true) (n : Nat) : ∀ u ∈ ((Array.range n).map (z.cells[· % z.cells.size]!)).toList, plain u = true := by
  intro u hu
  simp only [Array.toList_map, List.mem_map] at hu
  obtain ⟨j, _, rfl⟩ := hu
  rcases Nat.lt_or_ge (j % z.cells.size) z.cells.size with hl | hl
  · rw [getElem!_pos z.cells _ hl]
    exact plain_cells h _ (by simp)
  · rw [getElem!_neg z.cells _ (by omega)]
    rfl
theorem buildSlice_ok {P : Program} {E : Env} {N N' : CH} {w : World} (R : Rel P E N w) {t : TypeId} {len : Nat} {parts : List (Nat × Value)} {v : Value} (hp : ∀ p ∈ parts, Clo E.D p.2)
    (h : cbuildSlice P t len parts N = some (v, N')) :
    ∃ E' w', Rel P E' N' w' ∧ Ext E N w E' N' w' ∧ Clo E'.D v ∧ (Instr.buildSlice t len (parts.map fun p => (p.1, E.m p.2)).toArray).run P w = .ok (E'.m v) w' := by
  unfold cbuildSlice at h
  split at h
  · rename_i e hu
    split at h
    · rename_i ie z hie hz
      obtain ⟨hz0, hzp⟩ := zero_cells hie hz
      split at h
      · rename_i hb
        obtain ⟨rfl, hpe⟩ := hb
        have hpn : parts = [] := List.isEmpty_iff.1 hpe
        subst hpn
        unfold crow at h
        split at h
        · rename_i hsz
          simp only [Option.map_some, Option.some.injEq, Prod.mk.injEq] at h
          obtain ⟨rfl, rfl⟩ := h
          obtain ⟨R', X⟩ := R.newRow hsz e (c := []) (by simp)
          refine ⟨_, _, R', X, Env.add_D .., ?_⟩
          simp [Instr.buildSlice, run_underlying hu, sizeOf, typeInfo, hie, Instr.fill, newRow, Env.m, mv, soff, scap, Env.add]
          congr 2
          apply Array.ext'
          simp
        · cases h
      split at h
      · cases h
      · rename_i hb
        split at h
        · rename_i cs hcs
          unfold crow at h
          split at h
          · rename_i hsz
            simp only [Option.map_some, Option.some.injEq, Prod.mk.injEq] at h
            obtain ⟨rfl, rfl⟩ := h
            have hzz := zeros_plain hzp (len * ie.size)
            have hclo : ∀ u ∈ cs.toList, Clo E.D u := fill_clo _ _ _ (fun u hu => Clo_plain _ u (hzz u hu)) hp hcs
            obtain ⟨R', X⟩ := R.newRow hsz e hclo
            refine ⟨_, _, R', X, Env.add_D .., ?_⟩
            have hf := fill_map E.m (m_cells E) (fun i => some (i * ie.size, ie.size)) parts ((Array.range (len * ie.size)).map (z.cells[· % z.cells.size]!))
            have hmz : ((Array.range (len * ie.size)).map (z.cells[· % z.cells.size]!)).map E.m = (Array.range (len * ie.size)).map (z.cells[· % z.cells.size]!) := by
              apply Array.ext'
              rw [Array.toList_map]
              exact map_plain E hzz
            rw [hmz, hcs] at hf
            rw [run_buildSlice w t e len _ (cs.map E.m) ie z hu hie hz0 (fun hh => hb (.inl hh)) (fun hh => hb (.inr hh)) (by simpa using hf)]
            have : (cs.toList.map E.m).toArray = cs.map E.m := by apply Array.ext'; simp
            rw [this]
            simp only [Env.m, mv, soff, scap, Env.add_f, Env.add_x, Env.add_s, Nat.add_zero]
          · cases h
        · cases h
    · cases h
  · cases h

/-! ### parts of aggregates and tuples -/
def cpart (P : Program) (t : TypeId) (cs : Array Value) (off : Nat) : Option Value :=
  match aggT P t with
  | some true => (sizeT P t).map fun n => .agg (cs.extract off (off + n))
  | some false => cs[off]?
  | none => none
theorem part_ok {P : Program} {E : Env} {w : World} {t : TypeId} {cs : Array Value} {off : Nat} {v : Value} (hc : ∀ u ∈ cs.toList, Clo E.D u) (h : cpart P t cs off = some v) :
    (part t (cs.map E.m) off).run P w = .ok (E.m v) w ∧ Clo E.D v := by
  unfold cpart at h
  split at h
  · rename_i ht
    cases hn : sizeT P t with
    | none => simp [hn] at h
    | some n =>
      simp only [hn, Option.map_some, Option.some.injEq] at h
      subst h
      refine ⟨?_, Clo_agg.2 ?_⟩
      · simp only [part, Sem.run_bind, run_isAgg ht, Result.andThen_ok, if_true, run_sizeOf hn, Sem.run_pure, Env.m, mv_agg]
        congr 2
        apply Array.ext'
        simp only [Array.toList_extract, Array.toList_map, List.extract_eq_take_drop, List.map_take, List.map_drop]
        rfl
      · intro u hu
        rw [Array.toList_extract, List.extract_eq_take_drop] at hu
        exact hc u (List.mem_of_mem_drop (List.mem_of_mem_take hu))
  · rename_i ht
    refine ⟨?_, hc v (by simpa using Array.mem_of_getElem? h)⟩
    simp only [part, Sem.run_bind, run_isAgg ht, Result.andThen_ok, Bool.false_eq_true, if_false, Array.getElem?_map, h, Option.map_some]
    rfl
  · cases h
def cfield (P : Program) (t : TypeId) (x : Value) (i : Nat) : Option Value :=
  match P.underlying t, x with
  | some (.struct fields), .agg cs => match fields[i]? with
    | some f => cpart P f.type cs f.offset
    | none => none
  | _, _ => none
theorem field_ok {P : Program} {E : Env} {w : World} {t : TypeId} {x v : Value} {i : Nat} (hx : Clo E.D x) (h : cfield P t x i = some v) :
    (Instr.field t (E.m x) i).run P w = .ok (E.m v) w ∧ Clo E.D v := by
  unfold cfield at h
  split at h
  · rename_i fields cs hu
    split at h
    · rename_i f hf
      obtain ⟨h1, h2⟩ := part_ok (w := w) (Clo_agg.1 hx) h
      refine ⟨?_, h2⟩
      have : E.m (.agg cs) = .agg (cs.map E.m) := mv_agg _ cs
      simp only [this, Instr.field, Sem.run_bind, run_underlying hu, Result.andThen_ok, hf, asAgg, Sem.run_pure, h1]
    · cases h
  · cases h
def cextract (x : Value) (i : Nat) : Option Value :=
  match x with
  | .tuple vs => vs[i]?
  | _ => none
theorem extract_ok {P : Program} {E : Env} {w : World} {x v : Value} {i : Nat} (hx : Clo E.D x) (h : cextract x i = some v) :
    (Instr.extract (E.m x) i).run P w = .ok (E.m v) w ∧ Clo E.D v := by
  unfold cextract at h
  split at h
  · rename_i vs
    refine ⟨?_, Clo_tuple.1 hx v (by simpa using Array.mem_of_getElem? h)⟩
    have : E.m (.tuple vs) = .tuple (vs.map E.m) := mv_tuple _ vs
    simp only [this, Instr.extract, Array.getElem?_map, h, Option.map_some]
    rfl
  · cases h

/-! ### places -/
def cfieldAddr (P : Program) (t : TypeId) (x : Value) (i : Nat) : Option Value :=
  match P.underlying t, x with
  | some (.struct fields), .pointer (some a) => match fields[i]? with
    | some f => match sizeT P f.type with
      | some n => if n = 0 then none else some (.pointer (some ⟨a.block, a.off + f.offset, none⟩))
      | none => none
    | none => none
  | _, _ => none
theorem fieldAddr_ok {P : Program} {E : Env} {w : World} {t : TypeId} {x v : Value} {i : Nat} (hx : Clo E.D x) (h : cfieldAddr P t x i = some v) :
    (Instr.fieldAt t (E.m x) i).run P w = .ok (E.m v) w ∧ Clo E.D v := by
  unfold cfieldAddr at h
  split at h
  · rename_i fields a hu
    obtain ⟨a1, a2, a3⟩ := a
    obtain ⟨hd, hs⟩ := hx
    simp only at hs hd
    subst hs
    split at h
    · rename_i f hf
      split at h
      · rename_i n hn
        split at h
        · cases h
        · rename_i hn0
          cases h
          refine ⟨?_, hd, rfl⟩
          have hm : E.m (.pointer (some ⟨a1, a2, none⟩)) = .pointer (some ⟨E.f a1, a2 + E.s a1, none⟩) := rfl
          have hadd : a2 + E.s a1 + f.offset = a2 + f.offset + E.s a1 := by omega
          simp only [hm, hadd, Instr.fieldAt, Sem.run_bind, run_underlying hu, Result.andThen_ok, hf, Instr.sureAddr, Sem.run_pure, fieldPlace, run_sizeOf hn, Sem.run_ite, hn0, if_false, addr_add, hadd]
          rfl
      · cases h
    · cases h
  · cases h
/-- Where a slice begins is known. -/
def flat (a : Addr) : Bool := match a.spot with | none => true | some t => t / 2 == 0
theorem soff_flat (ρ : Ren) {a : Addr} (h : flat a = true) : soff ρ a = a.off + ρ.s a.block := by
  unfold flat at h
  unfold soff
  split
  · rfl
  · rename_i t ht
    rw [ht] at h
    simp only [beq_iff_eq] at h
    rw [h]
    split <;> rfl
def cindexAddr (P : Program) (t : TypeId) (x ix : Value) : Option Value :=
  match ix with
  | .int _ i =>
    match P.underlying t, x with
    | some (.array len e), .pointer (some a) => match sizeT P e with
      | some n => if 0 ≤ i ∧ i < len then some (.pointer (some ⟨a.block, a.off + i.toNat * n, none⟩)) else none
      | none => none
    | some (.slice e), .slice (some a) len _ => match sizeT P e with
      | some n => if (0 ≤ i ∧ i < len) ∧ flat a = true then some (.pointer (some ⟨a.block, a.off + i.toNat * n, none⟩)) else none
      | none => none
    | _, _ => none
  | _ => none
theorem indexAddr_ok {P : Program} {E : Env} {w : World} {t : TypeId} {x ix v : Value} (hx : Clo E.D x) (h : cindexAddr P t x ix = some v) :
    (Instr.indexAt t (E.m x) (E.m ix)).run P w = .ok (E.m v) w ∧ Clo E.D v := by
  unfold cindexAddr at h
  split at h
  · rename_i k i
    have hi : E.m (.int k i) = .int k i := rfl
    split at h
    · rename_i len e a hu
      obtain ⟨a1, a2, a3⟩ := a
      obtain ⟨hd, hs⟩ := hx
      simp only at hs hd
      subst hs
      split at h
      · rename_i n hn
        split at h
        · rename_i hb
          cases h
          refine ⟨?_, hd, rfl⟩
          have hm : E.m (.pointer (some ⟨a1, a2, none⟩)) = .pointer (some ⟨E.f a1, a2 + E.s a1, none⟩) := rfl
          have hadd : a2 + E.s a1 + i.toNat * n = a2 + i.toNat * n + E.s a1 := by omega
          simp [hm, hadd, hi, Instr.indexAt, asIntOf, run_underlying hu, Instr.sureAddr, run_sizeOf hn, hb, addr_add]
          rfl
        · cases h
      · cases h
    · rename_i e a len c hu
      obtain ⟨a1, a2, a3⟩ := a
      split at h
      · rename_i n hn
        split at h
        · rename_i hb
          cases h
          refine ⟨?_, hx, rfl⟩
          obtain ⟨hb, hfl⟩ := hb
          have hm : ∃ c', E.m (.slice (some ⟨a1, a2, a3⟩) len c) = .slice (some ⟨E.f a1, a2 + E.s a1, none⟩) len c' := ⟨scap E.toRen ⟨a1, a2, a3⟩ c, by simp only [Env.m, mv, soff_flat _ hfl]⟩
          obtain ⟨c', hm⟩ := hm
          have hadd : a2 + E.s a1 + i.toNat * n = a2 + i.toNat * n + E.s a1 := by omega
          simp [hm, hadd, hi, Instr.indexAt, asIntOf, run_underlying hu, run_sizeOf hn, hb, addr_add]
          rfl
        · cases h
      · cases h
    · cases h
  · cases h

/-! ### nilCheck; comparison with nil -/
def cnilCheck (x : Value) : Option Value :=
  match x with
  | .pointer (some _) => some x
  | .func (.func _) _ _ => some x
  | _ => none
/-- What a comparison of two values of pointers', slices', maps', functions' or interfaces' types comes to, where one of them is nil, or both lie in one block. -/
def ceq (P : Program) (t : TypeId) (x y : Value) : Option Bool :=
  match P.underlying t, x, y with
  | some (.pointer _), .pointer none, .pointer b => some b.isNone
  | some (.pointer _), .pointer (some _), .pointer none => some false
  | some (.pointer e), .pointer (some a), .pointer (some b) =>
    match sizeT P e with
    | some n => if n ≠ 0 ∧ a.block = b.block then some (a.off == b.off) else none
    | none => none
  | some (.slice _), .slice none _ _, .slice b _ _ => some b.isNone
  | some (.slice _), .slice (some _) _ _, .slice none _ _ => some false
  | some (.map _ _), .map none, .map b => some b.isNone
  | some (.map _ _), .map (some _), .map none => some false
  | some (.func _ _ _), .nilFunc, .nilFunc => some true
  | some (.func _ _ _), .nilFunc, .func _ _ _ => some false
  | some (.func _ _ _), .func _ _ _, .nilFunc => some false
  | some (.interface _), .nilIface, .iface _ _ => some false
  | some (.interface _), .iface _ _, .nilIface => some false
  | _, _, _ => none
theorem m_func (E : Env) (g : Fn) (p q : Array Value) : E.m (.func g p q) = .func (mvFn E.f g) (p.map E.m) (q.map E.m) := mv_func ..
theorem equalIn_ok {P : Program} {E : Env} {w : World} {t : TypeId} {x y : Value} {b : Bool} (hx : Clo E.D x) (hy : Clo E.D y) (h : ceq P t x y = some b) (d : Nat) :
    (Op.equalIn (d + 1) t (E.m x) (E.m y)).run P w = .ok b w := by
  unfold ceq at h
  split at h
  · rename_i e bb hu
    cases h
    cases bb <;> simp [Env.m, mv, Op.equalIn, run_underlying hu]
  · rename_i e aa hu
    cases h
    simp [Env.m, mv, Op.equalIn, run_underlying hu]
  · rename_i e a b' hu
    split at h
    · rename_i n hn
      split at h
      · rename_i hb
        cases h
        obtain ⟨a1, a2, a3⟩ := a
        obtain ⟨b1, b2, b3⟩ := b'
        obtain ⟨hd, hs⟩ := hx
        obtain ⟨hd', hs'⟩ := hy
        simp only at hb hs hs'
        subst hs; subst hs'
        obtain ⟨hn0, rfl⟩ := hb
        have hab : ((⟨E.f a1, a2 + E.s a1, none⟩ : Addr) == ⟨E.f a1, b2 + E.s a1, none⟩) = (a2 == b2) := by
          by_cases hc : a2 = b2
          · subst hc; simp
          · have h1 : (a2 == b2) = false := by simpa using hc
            rw [h1]
            simp [hc]
        simp [Env.m, mv, Op.equalIn, run_underlying hu, run_sizeOf hn, hn0, sameAddr, hab]
      · cases h
    · cases h
  · rename_i e n c bb n' c' hu
    cases h
    cases bb <;> simp [Env.m, mv, Op.equalIn, run_underlying hu]
  · rename_i e a n c n' c' hu
    cases h
    simp [Env.m, mv, Op.equalIn, run_underlying hu]
  · rename_i e e' bb hu
    cases h
    cases bb <;> simp [Env.m, mv, Op.equalIn, run_underlying hu]
  · rename_i e e' a hu
    cases h
    simp [Env.m, mv, Op.equalIn, run_underlying hu]
  · rename_i hu
    cases h
    simp [Env.m, mv, Op.equalIn, run_underlying hu]
  · rename_i hu
    cases h
    simp only [m_func]
    simp [Env.m, mv, Op.equalIn, run_underlying hu]
  · rename_i hu
    cases h
    simp only [m_func]
    simp [Env.m, mv, Op.equalIn, run_underlying hu]
  · rename_i hu
    cases h
    simp [Env.m, mv, Op.equalIn, run_underlying hu]
  · rename_i hu
    cases h
    simp [Env.m, mv, Op.equalIn, run_underlying hu]
  · cases h
theorem eq_fin {P : Program} {w : World} {t : TypeId} {x y : Value} {b : Bool} {ox oy : Operand} (hb1 : binOp .eql t x y = (do pure (.bool (← Op.equal t x y))))
    (hb2 : binOp .neq t x y = (do pure (.bool (!(← Op.equal t x y))))) (hg : ∀ op, eqGuard op t ox oy x y = pure ()) (he : (Op.equal t x y).run P w = .ok b w) :
    ((do eqGuard .eql t ox oy x y; binOp .eql t x y) : Sem Value).run P w = .ok (.bool b) w ∧
    ((do eqGuard .neq t ox oy x y; binOp .neq t x y) : Sem Value).run P w = .ok (.bool (!b)) w := by
  simp only [hg, hb1, hb2, Sem.run_bind, Sem.run_pure, Result.andThen_ok, he, and_self]
theorem eq_ok {P : Program} {E : Env} {w : World} {t : TypeId} {x y : Value} {b : Bool} (hx : Clo E.D x) (hy : Clo E.D y) (h : ceq P t x y = some b) (ox oy : Operand) :
    ((do eqGuard .eql t ox oy (E.m x) (E.m y); binOp .eql t (E.m x) (E.m y)) : Sem Value).run P w = .ok (.bool b) w ∧
    ((do eqGuard .neq t ox oy (E.m x) (E.m y); binOp .neq t (E.m x) (E.m y)) : Sem Value).run P w = .ok (.bool (!b)) w := by
  have he : (Op.equal t (E.m x) (E.m y)).run P w = .ok b w := equalIn_ok hx hy h 9999
  unfold ceq at h
  split at h
  · rename_i e bb hu
    cases bb <;> exact eq_fin rfl rfl (fun op => by cases op <;> rfl) he
  · exact eq_fin rfl rfl (fun op => by cases op <;> rfl) he
  · exact eq_fin rfl rfl (fun op => by cases op <;> rfl) he
  · rename_i e n c bb n' c' hu
    cases bb <;> exact eq_fin rfl rfl (fun op => by cases op <;> rfl) he
  · exact eq_fin rfl rfl (fun op => by cases op <;> rfl) he
  · rename_i e e' bb hu
    cases bb <;> exact eq_fin rfl rfl (fun op => by cases op <;> rfl) he
  · exact eq_fin rfl rfl (fun op => by cases op <;> rfl) he
  · exact eq_fin rfl rfl (fun op => by cases op <;> rfl) he
  · simp only [m_func] at he ⊢
    exact eq_fin rfl rfl (fun op => by cases op <;> rfl) he
  · simp only [m_func] at he ⊢
    exact eq_fin rfl rfl (fun op => by cases op <;> rfl) he
  · exact eq_fin rfl rfl (fun op => by cases op <;> rfl) he
  · exact eq_fin rfl rfl (fun op => by cases op <;> rfl) he
  · cases h

end Go.Eng
