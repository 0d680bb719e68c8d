/-
  The engine, part T: what one operation lists.
-/
import Derived.Test.YtoaplpdbmpendaaGreatDoorEngS
import Derived.Conc.Events
import Derived.Conc.AtomicLaws
set_option linter.unusedSectionVars false
set_option linter.unusedSimpArgs false
set_option linter.unusedVariables false
namespace Go.Eng
open Go.Conc (G)
set_option linter.unusedSimpArgs false
set_option linter.unusedVariables false

/-! ### texts that list nothing -/
def Mute (P : Program) {α : Type} (s : Sem α) : Prop := ∀ w es, s.events P w es = es
section
variable {P : Program} {α β : Type}
theorem Mute.bind {x : Sem α} {f : α → Sem β} (h : Mute P x) (g : ∀ a, Mute P (f a)) : Mute P (x >>= f) := fun w es => by
  rw [Sem.events_bind, h w es]
  cases x.run P w with
  | ok a w' => exact g a w' es
  | halt h w' => rfl
theorem mute_pure (a : α) : Mute P (pure a : Sem α) := fun _ _ => rfl
theorem mute_pure' (a : α) : Mute P (Sem.pure a : Sem α) := fun _ _ => rfl
theorem mute_stuck (s : String) : Mute P (stuck s : Sem α) := fun _ _ => rfl
theorem mute_unsupported (u : Unsupported) : Mute P (unsupported u : Sem α) := fun _ _ => rfl
theorem mute_goPanic (v : Value) : Mute P (goPanic v : Sem α) := fun _ _ => rfl
theorem mute_throw (v : String) : Mute P (throw v : Sem α) := fun _ _ => rfl
theorem mute_program : Mute P program := fun _ _ => rfl
theorem mute_choose (q : Question) : Mute P (choose q) := fun w es => by simp
theorem mute_typeInfo (t : TypeId) : Mute P (typeInfo t) := fun w es => by simp
theorem mute_underlying (t : TypeId) : Mute P (underlying t) := fun w es => by simp
theorem mute_sizeOf (t : TypeId) : Mute P (sizeOf t) := fun w es => by simp
theorem mute_isAgg (t : TypeId) : Mute P (isAgg t) := fun w es => by simp
theorem mute_zeroValue (t : TypeId) : Mute P (zeroValue t) := fun w es => by simp
theorem mute_newObj (o : Obj) : Mute P (newObj o) := fun w es => rfl
theorem mute_shape (r : Nat) : Mute P (shape r) := fun w es => rfl
theorem mute_freeze (a : Addr) (n : Nat) : Mute P (freeze a n) := fun w es => rfl
theorem mute_frozen (a : Addr) : Mute P (frozen a) := fun w es => rfl
theorem mute_newRow (t : TypeId) (c : Array Value) : Mute P (newRow t c) := (mute_newObj _).bind fun _ => mute_pure _
theorem mute_newVar (t : TypeId) (v : Value) : Mute P (newVar t v) := mute_newRow _ _
theorem mute_elemOf (t : TypeId) : Mute P (elemOf t) := by
  unfold elemOf
  refine (mute_underlying t).bind fun d => ?_
  split <;> first | exact mute_pure _ | exact mute_stuck _
theorem mute_runtimePanic (e : RuntimeError) : Mute P (runtimePanic e : Sem α) := by
  unfold runtimePanic
  refine mute_program.bind fun p => ?_
  cases e with
  | typeAssertion i c a m => exact (mute_elemOf _).bind fun _ => (mute_newVar _ _).bind fun _ => mute_goPanic _
  | panicNil => exact (mute_elemOf _).bind fun _ => (mute_newVar _ _).bind fun _ => mute_goPanic _
  | _ => exact mute_goPanic _
theorem mute_asIntOf (v : Value) : Mute P (asIntOf v) := by
  unfold asIntOf
  split <;> first | exact mute_pure _ | exact mute_stuck _ | exact mute_unsupported _
theorem mute_asInt (v : Value) : Mute P (asInt v) := (mute_asIntOf v).bind fun _ => mute_pure _
theorem mute_asBool (v : Value) : Mute P (asBool v) := by
  unfold asBool
  split <;> first | exact mute_pure _ | exact mute_stuck _
theorem mute_asAgg (v : Value) : Mute P (asAgg v) := by
  unfold asAgg
  split <;> first | exact mute_pure _ | exact mute_stuck _
theorem mute_asAddr (v : Value) : Mute P (asAddr v) := by
  unfold asAddr
  split <;> first | exact mute_pure _ | exact mute_stuck _ | exact mute_runtimePanic _
theorem Mute.map {x : Sem α} (h : Mute P x) (f : α → β) : Mute P (f <$> x) := fun w es => by rw [Sem.events_map, h w es]
theorem mute_boundsPanic (k : IntKind) (x y : Int) (c : BoundsCode) : Mute P (boundsPanic k x y c : Sem α) := by
  unfold boundsPanic
  repeat' (first | (with_reducible first | exact mute_pure _ | exact mute_stuck _ | exact mute_unsupported _ | exact mute_goPanic _ | exact mute_throw _ | exact mute_program | exact mute_choose _ | exact mute_typeInfo _ | exact mute_underlying _ | exact mute_sizeOf _ | exact mute_isAgg _ | exact mute_zeroValue _ | exact mute_newObj _ | exact mute_shape _ | exact mute_newRow _ _ | exact mute_newVar _ _ | exact mute_elemOf _ | exact mute_runtimePanic _ | exact mute_asIntOf _ | exact mute_asInt _ | exact mute_asBool _ | exact mute_asAgg _ | exact mute_asAddr _) | (with_reducible refine Mute.bind ?_ (fun _ => ?_)) | (with_reducible refine Mute.map ?_ _) | split | dsimp only)
theorem mute_part (t : TypeId) (cs : Array Value) (off : Nat) : Mute P (part t cs off) := by
  unfold part
  refine (mute_isAgg t).bind fun b => ?_
  split
  · exact (mute_sizeOf _).bind fun _ => mute_pure _
  · split <;> first | exact mute_pure _ | exact mute_stuck _
theorem mute_sureAddr (v : Value) : Mute P (Instr.sureAddr v) := by
  unfold Instr.sureAddr
  split <;> first | exact mute_pure _ | exact mute_stuck _
theorem mute_markStringish (a : Addr) : Mute P (markStringish a) := by
  unfold markStringish
  refine (mute_shape _).bind fun x => ?_
  split <;> first | exact mute_freeze _ _ | exact mute_pure _
theorem mute_field (t : TypeId) (x : Value) (i : Nat) : Mute P (Instr.field t x i) := by
  unfold Instr.field
  refine (mute_underlying t).bind fun d => ?_
  split
  · split
    · exact (mute_asAgg _).bind fun _ => mute_part _ _ _
    · exact mute_stuck _
  · exact mute_stuck _
theorem mute_extract (x : Value) (i : Nat) : Mute P (Instr.extract x i) := by
  unfold Instr.extract
  split
  · split <;> first | exact mute_pure _ | exact mute_stuck _
  · exact mute_stuck _
theorem mute_makeInterface (t : TypeId) (x : Value) : Mute P (Instr.makeInterface t x) := by
  unfold Instr.makeInterface
  refine (mute_underlying t).bind fun d => ?_
  split <;> first | exact mute_pure _ | exact mute_stuck _
theorem mute_typeAssert (x : Value) (xt a : TypeId) (ok : Bool) : Mute P (Instr.typeAssert x xt a ok) := by
  unfold Instr.typeAssert
  have hh : ∀ v : Value, Mute P (pure (if ok = true then Value.tuple #[v, .bool true] else v) : Sem Value) := fun v => mute_pure _
  have hf : ∀ (s d : Option TypeId) (m : String), Mute P ((if ok = true then (do pure (Value.tuple #[← zeroValue a, .bool false])) else runtimePanic (.typeAssertion s d a m)) : Sem Value) := by
    intro s d m
    split
    · exact (mute_zeroValue _).bind fun _ => mute_pure _
    · exact mute_runtimePanic _
  refine (mute_underlying a).bind fun d => ?_
  split
  · exact hf _ _ _
  · refine (mute_typeInfo _).bind fun i => ?_
    split
    · exact hh _
    · exact hf _ _ _
  · exact hf _ _ _
  · split
    · exact hh _
    · exact hf _ _ _
  · exact mute_stuck _
theorem mute_arrayAt (t : TypeId) (x : Value) : Mute P (Instr.arrayAt t x) := by
  unfold Instr.arrayAt
  repeat' (first | (with_reducible first | exact mute_pure _ | exact mute_stuck _ | exact mute_unsupported _ | exact mute_goPanic _ | exact mute_throw _ | exact mute_program | exact mute_choose _ | exact mute_typeInfo _ | exact mute_underlying _ | exact mute_sizeOf _ | exact mute_isAgg _ | exact mute_zeroValue _ | exact mute_newObj _ | exact mute_shape _ | exact mute_newRow _ _ | exact mute_newVar _ _ | exact mute_elemOf _ | exact mute_runtimePanic _ | exact mute_asIntOf _ | exact mute_asInt _ | exact mute_asBool _ | exact mute_asAgg _ | exact mute_asAddr _ | exact mute_sureAddr _ | exact mute_boundsPanic _ _ _ _) | (with_reducible refine Mute.bind ?_ (fun _ => ?_)) | (with_reducible refine Mute.map ?_ _) | split | dsimp only)
theorem mute_indexAt (t : TypeId) (x i : Value) : Mute P (Instr.indexAt t x i) := by
  unfold Instr.indexAt
  repeat' (first | (with_reducible first | exact mute_pure _ | exact mute_stuck _ | exact mute_unsupported _ | exact mute_goPanic _ | exact mute_throw _ | exact mute_program | exact mute_choose _ | exact mute_typeInfo _ | exact mute_underlying _ | exact mute_sizeOf _ | exact mute_isAgg _ | exact mute_zeroValue _ | exact mute_newObj _ | exact mute_shape _ | exact mute_newRow _ _ | exact mute_newVar _ _ | exact mute_elemOf _ | exact mute_runtimePanic _ | exact mute_asIntOf _ | exact mute_asInt _ | exact mute_asBool _ | exact mute_asAgg _ | exact mute_asAddr _ | exact mute_sureAddr _ | exact mute_boundsPanic _ _ _ _) | (with_reducible refine Mute.bind ?_ (fun _ => ?_)) | (with_reducible refine Mute.map ?_ _) | split | dsimp only)
theorem mute_sliceBound (x : Value) (y : Nat) (c : BoundsCode) : Mute P (Instr.sliceBound x y c) := by
  unfold Instr.sliceBound
  repeat' (first | (with_reducible first | exact mute_pure _ | exact mute_stuck _ | exact mute_unsupported _ | exact mute_goPanic _ | exact mute_throw _ | exact mute_program | exact mute_choose _ | exact mute_typeInfo _ | exact mute_underlying _ | exact mute_sizeOf _ | exact mute_isAgg _ | exact mute_zeroValue _ | exact mute_newObj _ | exact mute_shape _ | exact mute_newRow _ _ | exact mute_newVar _ _ | exact mute_elemOf _ | exact mute_runtimePanic _ | exact mute_asIntOf _ | exact mute_asInt _ | exact mute_asBool _ | exact mute_asAgg _ | exact mute_asAddr _ | exact mute_boundsPanic _ _ _ _) | (with_reducible refine Mute.bind ?_ (fun _ => ?_)) | (with_reducible refine Mute.map ?_ _) | split | dsimp only)
theorem mute_sliceBounds (b : Bool) (l c : Nat) (lo hi mx : Option Value) : Mute P (Instr.sliceBounds b l c lo hi mx) := by
  unfold Instr.sliceBounds
  repeat' (first | (with_reducible first | exact mute_pure _ | exact mute_stuck _ | exact mute_unsupported _ | exact mute_goPanic _ | exact mute_throw _ | exact mute_program | exact mute_choose _ | exact mute_typeInfo _ | exact mute_underlying _ | exact mute_sizeOf _ | exact mute_isAgg _ | exact mute_zeroValue _ | exact mute_newObj _ | exact mute_shape _ | exact mute_newRow _ _ | exact mute_newVar _ _ | exact mute_elemOf _ | exact mute_runtimePanic _ | exact mute_asIntOf _ | exact mute_asInt _ | exact mute_asBool _ | exact mute_asAgg _ | exact mute_asAddr _ | exact mute_sliceBound _ _ _) | (with_reducible refine Mute.bind ?_ (fun _ => ?_)) | (with_reducible refine Mute.map ?_ _) | split | dsimp only)
theorem mute_slice (t : TypeId) (x : Value) (lo hi mx : Option Value) : Mute P (Instr.slice t x lo hi mx) := by
  unfold Instr.slice
  repeat' (first | (with_reducible first | exact mute_pure _ | exact mute_stuck _ | exact mute_unsupported _ | exact mute_goPanic _ | exact mute_throw _ | exact mute_program | exact mute_choose _ | exact mute_typeInfo _ | exact mute_underlying _ | exact mute_sizeOf _ | exact mute_isAgg _ | exact mute_zeroValue _ | exact mute_newObj _ | exact mute_shape _ | exact mute_newRow _ _ | exact mute_newVar _ _ | exact mute_elemOf _ | exact mute_runtimePanic _ | exact mute_asIntOf _ | exact mute_asInt _ | exact mute_asBool _ | exact mute_asAgg _ | exact mute_asAddr _ | exact mute_sliceBounds _ _ _ _ _ _) | (with_reducible refine Mute.bind ?_ (fun _ => ?_)) | (with_reducible refine Mute.map ?_ _) | split | dsimp only)
theorem mute_sliceAt (t : TypeId) (x : Value) (lo hi mx : Option Value) : Mute P (Instr.sliceAt t x lo hi mx) := by
  unfold Instr.sliceAt
  repeat' (first | (with_reducible first | exact mute_pure _ | exact mute_stuck _ | exact mute_unsupported _ | exact mute_goPanic _ | exact mute_throw _ | exact mute_program | exact mute_choose _ | exact mute_typeInfo _ | exact mute_underlying _ | exact mute_sizeOf _ | exact mute_isAgg _ | exact mute_zeroValue _ | exact mute_newObj _ | exact mute_shape _ | exact mute_newRow _ _ | exact mute_newVar _ _ | exact mute_elemOf _ | exact mute_runtimePanic _ | exact mute_asIntOf _ | exact mute_asInt _ | exact mute_asBool _ | exact mute_asAgg _ | exact mute_asAddr _ | exact mute_sliceBounds _ _ _ _ _ _ | exact mute_sureAddr _ | exact mute_slice _ _ _ _ _) | (with_reducible refine Mute.bind ?_ (fun _ => ?_)) | (with_reducible refine Mute.map ?_ _) | split | dsimp only)
theorem mute_lenOf (v : Value) : Mute P (Builtin.lenOf v) := by
  unfold Builtin.lenOf
  repeat' (first | (with_reducible first | exact mute_pure _ | exact mute_stuck _ | exact mute_unsupported _ | exact mute_goPanic _ | exact mute_throw _ | exact mute_program | exact mute_choose _ | exact mute_typeInfo _ | exact mute_underlying _ | exact mute_sizeOf _ | exact mute_isAgg _ | exact mute_zeroValue _ | exact mute_newObj _ | exact mute_shape _ | exact mute_newRow _ _ | exact mute_newVar _ _ | exact mute_elemOf _ | exact mute_runtimePanic _ | exact mute_asIntOf _ | exact mute_asInt _ | exact mute_asBool _ | exact mute_asAgg _ | exact mute_asAddr _) | (with_reducible refine Mute.bind ?_ (fun _ => ?_)) | (with_reducible refine Mute.map ?_ _) | split | dsimp only)

/-! ### texts that touch given blocks -/
/-- A plain touch of a block of rd; a write of one of wr. -/
def Tok (rd wr : Nat → Prop) (e : Event) : Prop :=
  (∃ f, e.loc = .mark (.extern f)) ∨ e.loc = .mark .noRoom ∨ ∃ b, (e.loc = .obj b ∨ ∃ a : Addr, e.loc = .cell a ∧ a.block = b) ∧ e.sync = false ∧ rd b ∧ (e.write = true → wr b)
def Evs (P : Program) (rd wr : Nat → Prop) {α : Type} (s : Sem α) (w : World) : Prop := ∀ e ∈ s.events P w #[], Tok rd wr e
variable {rd wr : Nat → Prop} {w : World}
theorem Mute.evs {x : Sem α} (h : Mute P x) : Evs P rd wr x w := fun e he => by rw [h w #[]] at he; simp at he
theorem Evs.bind {x : Sem α} {f : α → Sem β} (h : Evs P rd wr x w) (g : ∀ a w', x.run P w = .ok a w' → Evs P rd wr (f a) w') : Evs P rd wr (x >>= f) w := by
  intro e he
  rw [Sem.events_bind] at he
  cases hx : x.run P w with
  | halt hh w' => rw [hx] at he; exact h e he
  | ok a w' =>
    rw [hx] at he
    simp only [Result.evThen_ok] at he
    rw [Sem.events_acc] at he
    rcases Array.mem_append.1 he with he | he
    · exact h e he
    · exact g a w' hx e he
theorem Evs.map {x : Sem α} (h : Evs P rd wr x w) (f : α → β) : Evs P rd wr (f <$> x) w := fun e he => by
  rw [Sem.events_map] at he
  exact h e he
/-- Behind what lists nothing and leaves memory as it is. -/
theorem Evs.still {x : Sem α} {f : α → Sem β} (hm : Mute P x) (hs : ∀ a w', x.run P w = .ok a w' → w' = w) (g : ∀ a, x.run P w = .ok a w → Evs P rd wr (f a) w) : Evs P rd wr (x >>= f) w :=
  hm.evs.bind fun a w' h => by
    obtain rfl := hs a w' h
    exact g a h
def Same (P : Program) (x : Sem α) : Prop := ∀ w a w', x.run P w = .ok a w' → w' = w
theorem same_underlying (t : TypeId) : Same P (underlying t) := fun w a w' h => by
  cases hu : P.underlying t with
  | none => simp [underlying, hu] at h
  | some d => rw [run_underlying hu] at h; cases h; rfl
theorem same_typeInfo (t : TypeId) : Same P (typeInfo t) := fun w a w' h => by
  cases hu : P.info? t with
  | none => simp [typeInfo, hu] at h
  | some d => simp [typeInfo, hu] at h; exact h.2.symm
theorem same_sizeOf (t : TypeId) : Same P (sizeOf t) := fun w a w' h => by
  cases hu : P.info? t with
  | none => simp [sizeOf, typeInfo, hu] at h
  | some d => simp [sizeOf, typeInfo, hu] at h; exact h.2.symm
theorem same_isAgg (t : TypeId) : Same P (isAgg t) := fun w a w' h => by
  cases hu : P.underlying t with
  | none => simp [isAgg, underlying, hu] at h
  | some d => cases d <;> simp [isAgg, run_underlying hu] at h <;> exact h.2.symm
theorem same_zeroValue (t : TypeId) : Same P (zeroValue t) := fun w a w' h => by
  cases hu : P.info? t with
  | none => simp [zeroValue, typeInfo, hu] at h
  | some d => cases hz : d.zero <;> simp [zeroValue, typeInfo, hu, hz] at h; exact h.2.symm
theorem same_sureAddr (v : Value) : Same P (Instr.sureAddr v) := fun w a w' h => by
  unfold Instr.sureAddr at h
  split at h <;> simp at h
  exact h.2.symm
theorem same_asInt (v : Value) : Same P (asInt v) := fun w a w' h => by
  cases v with
  | int k n => simp [asInt, asIntOf] at h; exact h.2.symm
  | pointer a => cases a <;> simp [asInt, asIntOf] at h
  | _ => simp [asInt, asIntOf] at h
theorem run_sureAddr_inv {v : Value} {w' : World} {a : Addr} (h : (Instr.sureAddr v).run P w = .ok a w') : v = .pointer (some a) := by
  unfold Instr.sureAddr at h
  split at h <;> simp at h
  rw [h.1]
def IsRow (w : World) (b : Nat) : Prop := ∃ c e z, w.heap[b]? = some (.cells c e z)
theorem evs_load {a : Addr} (h : IsRow w a.block) (hr : rd a.block) : Evs P rd wr (load a) w := by
  obtain ⟨c, e, z, h⟩ := h
  intro ev he
  unfold Sem.events load at he
  rw [Sem.runT] at he
  cases hc : w.cell? a with
  | some v =>
    rw [hc] at he
    simp [Sem.runT] at he
    subst he
    exact .inr (.inr ⟨a.block, .inr ⟨a, rfl, rfl⟩, rfl, hr, fun h => by cases h⟩)
  | none =>
    rw [hc] at he
    simp [World.farLoad, h] at he
theorem run_load_same {a : Addr} (h : IsRow w a.block) {v : Value} {w' : World} (hr : (load a).run P w = .ok v w') : w' = w := by
  obtain ⟨c, e, z, h⟩ := h
  unfold load at hr
  rw [Sem.run] at hr
  cases hc : w.cell? a with
  | some u => rw [hc] at hr; simp [Sem.run] at hr; exact hr.2.symm
  | none => rw [hc] at hr; simp [World.farLoad, h] at hr
theorem store_halts {a : Addr} {v : Value} (hv : v.oneCell' = false) : (store a v).runT P w #[] = (.halt (.stuck "store: not the value of one cell") w, #[]) := by
  unfold store
  cases v <;> simp [Value.oneCell'] at hv <;> rw [Sem.runT]
theorem evs_store {a : Addr} {v : Value} (h : IsRow w a.block) (hr : rd a.block) (hw : wr a.block) : Evs P rd wr (store a v) w := by
  obtain ⟨c, e, z, h⟩ := h
  intro ev he
  cases hv : v.oneCell' with
  | false =>
    unfold Sem.events at he
    rw [store_halts hv] at he
    simp at he
  | true =>
    rw [events_store (a := a) (v := v) (m := .plain) (hv := hv)] at he
    cases hc : w.cell? a with
    | some u =>
      rw [hc] at he
      simp only at he
      split at he
      · simp at he
      · simp at he
        subst he
        exact .inr (.inr ⟨a.block, .inr ⟨a, rfl, rfl⟩, rfl, hr, fun _ => hw⟩)
    | none =>
      rw [hc] at he
      simp [World.farStore, h] at he
theorem row_setCell {b : Nat} (h : IsRow w b) (a : Addr) (v : Value) : IsRow (w.setCell a v) b := by
  obtain ⟨c, e, z, h⟩ := h
  unfold IsRow World.setCell
  simp only [Array.getElem?_modify]
  split
  · rename_i hb
    subst hb
    rw [h]
    exact ⟨_, _, _, rfl⟩
  · exact ⟨_, _, _, h⟩
theorem run_store_row {a : Addr} {v : Value} {b : Nat} (hb : IsRow w b) (h : IsRow w a.block) {w' : World} (hr : (store a v).run P w = .ok () w') : IsRow w' b := by
  obtain ⟨c, e, z, h⟩ := h
  have key : w' = w.setCell a v := by
    cases hv : v.oneCell' with
    | false =>
      have := store_halts (P := P) (w := w) (a := a) hv
      rw [← Sem.runT_fst P _ w #[], this] at hr
      cases hr
    | true =>
      rw [run_store P w a v .plain hv] at hr
      cases hc : w.cell? a with
      | some u =>
        rw [hc] at hr
        simp only at hr
        split at hr
        · cases hr
        · cases hr; rfl
      | none =>
        rw [hc] at hr
        simp [World.farStore, h] at hr
  rw [key]
  exact row_setCell hb a v
theorem block_add (a : Addr) (n : Nat) : (a.add n).block = a.block := by unfold Addr.add; split <;> rfl
theorem evs_loadCellsFrom (a : Addr) (h : IsRow w a.block) (hr : rd a.block) : ∀ (n i : Nat) (acc : Array Value), Evs P rd wr (loadCellsFrom a i n acc) w
  | 0, _, _ => (mute_pure _).evs
  | n + 1, i, acc => by
    unfold loadCellsFrom
    refine (evs_load (by rw [block_add]; exact h) (by rw [block_add]; exact hr)).bind fun v w' hv => ?_
    rw [run_load_same (by rw [block_add]; exact h) hv]
    exact evs_loadCellsFrom a h hr n (i + 1) _
theorem same_loadCellsFrom (a : Addr) (h : IsRow w a.block) : ∀ (n i : Nat) (acc : Array Value) {v : Array Value} {w' : World}, (loadCellsFrom a i n acc).run P w = .ok v w' → w' = w
  | 0, _, _, v, w', hr => by simp [loadCellsFrom] at hr; exact hr.2.symm
  | n + 1, i, acc, v, w', hr => by
    unfold loadCellsFrom at hr
    rw [Sem.run_bind] at hr
    cases hl : (load (a.add i)).run P w with
    | halt hh w1 => rw [hl] at hr; cases hr
    | ok u w1 =>
      rw [hl, Result.andThen_ok] at hr
      rw [run_load_same (by rw [block_add]; exact h) hl] at hr
      exact same_loadCellsFrom a h n (i + 1) _ hr
theorem evs_storeCells (a : Addr) (hr : rd a.block) (hw : wr a.block) : ∀ (vs : List Value) (i : Nat) {w : World}, (vs ≠ [] → IsRow w a.block) → Evs P rd wr (storeCells a vs i) w
  | [], _, _, _ => (mute_pure _).evs
  | v :: vs, i, w, h => by
    unfold storeCells
    have h := h (by simp)
    refine (evs_store (by rw [block_add]; exact h) (by rw [block_add]; exact hr) (by rw [block_add]; exact hw)).bind fun u w' hv => ?_
    exact evs_storeCells a hr hw vs (i + 1) fun _ => run_store_row h (by rw [block_add]; exact h) hv
theorem evs_getObj {r : Nat} {o : Obj} (h : w.heap[r]? = some o) (hc : o.isChan = false) (hr : rd r) : Evs P rd wr (getObj r) w := by
  intro e he
  unfold Sem.events getObj at he
  rw [Sem.runT, h] at he
  cases o <;> simp [Sem.runT] at he <;> subst he <;> exact .inr (.inr ⟨r, .inl rfl, hc, hr, fun h => by cases h⟩)
theorem run_getObj_inv {r : Nat} {o o' : Obj} (h : w.heap[r]? = some o) {w' : World} (hr : (getObj r).run P w = .ok o' w') : o' = o ∧ w' = w := by
  unfold getObj at hr
  rw [Sem.run, h] at hr
  cases o <;> simp [Sem.run] at hr <;> exact ⟨hr.1.symm, hr.2.symm⟩
theorem evs_setObj {r : Nat} {o o' : Obj} (h : w.heap[r]? = some o) (hc : o'.isChan = false) (hr : rd r) (hw : wr r) : Evs P rd wr (setObj r o') w := by
  intro e he
  unfold Sem.events setObj at he
  rw [Sem.runT, h] at he
  cases o <;> simp [Sem.runT] at he <;> subst he <;> exact .inr (.inr ⟨r, .inl rfl, hc, hr, fun _ => hw⟩)
theorem evs_loadVar {t : TypeId} {a : Addr} (h : IsRow w a.block) (hr : rd a.block) : Evs P rd wr (loadVar t a) w := by
  unfold loadVar
  refine .still (mute_isAgg t) (same_isAgg t w) fun b _ => ?_
  split
  · refine .still (mute_sizeOf t) (same_sizeOf t w) fun n _ => ?_
    exact (evs_loadCellsFrom a h hr n 0 _).bind fun _ _ _ => (mute_pure _).evs
  · exact evs_load h hr
theorem evs_storeVar {t : TypeId} {a : Addr} {v : Value} (h : IsRow w a.block) (hr : rd a.block) (hw : wr a.block) : Evs P rd wr (storeVar t a v) w := by
  unfold storeVar
  refine .still (mute_sizeOf t) (same_sizeOf t w) fun n _ => ?_
  split
  · exact (mute_stuck _).evs.bind fun _ _ h => by simp at h
  · exact evs_storeCells a hr hw _ 0 fun _ => h
theorem pureRun_evs : ∀ (s : Sem α) {a : α}, pureRun P s = some a → ∀ (w : World) (es : Array Event), ∀ e ∈ (s.runT P w es).2, e ∈ es ∨ ∃ f, e.loc = .mark (.extern f)
  | .pure _, _, h, _, _, e, he => .inl he
  | .program k, _, h, w, es, e, he => pureRun_evs (k P) h w es e he
  | .mark (.extern f) k, _, h, w, es, e, he => by
    rcases pureRun_evs k h w (es.push ⟨.mark (.extern f), false, true⟩) e he with h1 | h1
    · rcases Array.mem_push.1 h1 with h2 | rfl
      · exact .inl h2
      · exact .inr ⟨f, rfl⟩
    · exact .inr h1
  | .mark (.acquire _) _, _, h, _, _, _, _ => by simp [pureRun] at h
  | .mark (.release _) _, _, h, _, _, _, _ => by simp [pureRun] at h
  | .mark (.releaseMerge _) _, _, h, _, _, _, _ => by simp [pureRun] at h
  | .mark .disable _, _, h, _, _, _, _ => by simp [pureRun] at h
  | .mark .enable _, _, h, _, _, _, _ => by simp [pureRun] at h
  | .mark (.read _) _, _, h, _, _, _, _ => by simp [pureRun] at h
  | .mark (.write _) _, _, h, _, _, _, _ => by simp [pureRun] at h
  | .mark .noRoom _, _, h, _, _, _, _ => by simp [pureRun] at h
  | .load .., _, h, _, _, _, _ => by simp [pureRun] at h
  | .store .., _, h, _, _, _, _ => by simp [pureRun] at h
  | .new .., _, h, _, _, _, _ => by simp [pureRun] at h
  | .shape .., _, h, _, _, _, _ => by simp [pureRun] at h
  | .freeze .., _, h, _, _, _, _ => by simp [pureRun] at h
  | .frozen .., _, h, _, _, _, _ => by simp [pureRun] at h
  | .getObj .., _, h, _, _, _, _ => by simp [pureRun] at h
  | .setObj .., _, h, _, _, _, _ => by simp [pureRun] at h
  | .choose .., _, h, _, _, _, _ => by simp [pureRun] at h
  | .sys .., _, h, _, _, _, _ => by simp [pureRun] at h
  | .halt .., _, h, _, _, _, _ => by simp [pureRun] at h
theorem Evs.of_pure {s : Sem α} {a : α} (h : pureRun P s = some a) : Evs P rd wr s w := fun e he => by
  rcases pureRun_evs s h w #[] e he with h1 | h1
  · simp at h1
  · exact .inl h1
/-- Behind what is known to come to a value. -/
theorem Evs.ran {x : Sem α} {f : α → Sem β} (hx : Evs P rd wr x w) {a : α} {w' : World} (h : x.run P w = .ok a w') (g : Evs P rd wr (f a) w') : Evs P rd wr (x >>= f) w :=
  hx.bind fun b w1 hb => by
    rw [h] at hb
    cases hb
    exact g
theorem Evs.und {t : TypeId} {d : TypeDesc} {f : TypeDesc → Sem β} (h : P.underlying t = some d) (g : Evs P rd wr (f d) w) : Evs P rd wr (underlying t >>= f) w := (mute_underlying t).evs.ran (run_underlying h w) g
theorem evs_pure (a : α) : Evs P rd wr (pure a : Sem α) w := (mute_pure a).evs
theorem evs_map_v {s : Sem Value} (h : Evs P rd wr s w) : Evs P rd wr (do pure (Next.value (← s)) : Sem Next) w := h.bind fun _ _ _ => evs_pure _
theorem evs_map_u {s : Sem Unit} (h : Evs P rd wr s w) : Evs P rd wr (do s; pure Next.skip : Sem Next) w := h.bind fun _ _ _ => evs_pure _
/-- keys of maps -/
theorem evs_findAsking (E : Env) {kt : TypeId} {k : Value} : ∀ (es : List (Value × Value × Nat)) (i : Nat) {r : Option (Nat × (Value × Value × Nat))}, cask P kt k es i = some r → Evs P rd wr (Instr.findAsking kt k (es.map (mvE E)) i) w
  | [], _, _, _ => evs_pure _
  | e :: es, i, r, h => by
    simp only [cask] at h
    simp only [List.map_cons, Instr.findAsking]
    have hk' : (mvE E e).key = e.1 := rfl
    rw [hk']
    cases hs : pureRun P (Op.equal kt k e.1) with
    | none => simp [hs] at h
    | some b =>
      refine (Evs.of_pure hs).ran (pureRun_ok _ hs w) ?_
      cases b with
      | true => exact evs_pure _
      | false =>
        simp only [hs] at h
        exact evs_findAsking E es (i + 1) h
theorem ckey_evs {kt : TypeId} {k : Value} {es : List (Value × Value × Nat)} {r : Option (Nat × (Value × Value × Nat))} (h : ckey P kt k es = some r) (E : Env) :
    (∀ b w, Evs P rd wr (Instr.checkKey b 10000 kt k) w) ∧ (∀ w, Evs P rd wr (Instr.findKey kt k (es.map (mvE E))) w) := by
  unfold ckey at h
  split at h
  · rename_i d hd
    split at h
    · rename_i hk
      obtain ⟨h1, _⟩ := findi_ok E hk es 0 h
      refine ⟨fun b w => ?_, fun w => ?_⟩
      · show Evs P rd wr (Instr.checkKey b (9999 + 1) kt k) w
        rw [Instr.checkKey]
        refine Evs.und hd ?_
        cases d <;> cases k <;> first | (simp [isKey] at hk; done) | exact evs_pure _
      · unfold Instr.findKey
        refine Evs.und hd ?_
        rw [h1]
        exact evs_pure _
    · split at h
      · rename_i hm
        obtain ⟨hm, hp, ht, hf⟩ := hm
        refine ⟨fun b w => ?_, fun w => ?_⟩
        · cases b with
          | true =>
            obtain ⟨u, hu⟩ := Option.isSome_iff_exists.1 ht
            exact Evs.of_pure hu
          | false =>
            obtain ⟨u, hu⟩ := Option.isSome_iff_exists.1 hf
            exact Evs.of_pure hu
        · unfold Instr.findKey
          refine Evs.und hd ?_
          split
          · exact evs_pure _
          · exact evs_findAsking E es 0 h
      · cases h
  · cases h
end

/-! ### operations -/
def Rd (E : Env) (N : CH) (b : Nat) : Prop := ∃ k, E.D k ∧ N.live k ∧ E.f k = b
def Wr (E : Env) (N N' : CH) (b : Nat) : Prop := ∃ k, E.D k ∧ N.live k ∧ N'.wm ≤ k ∧ E.f k = b
section
variable {P : Program} {E : Env} {N N' : CH} {w : World} {wr : Nat → Prop}
theorem live_of {k : Nat} {b : CB} (h : N.get k = some b) (hb : b.isDead = false) : N.live k := ⟨b, h, hb⟩
theorem Rel.isRow (R : Rel P E N w) {k : Nat} (hk : E.D k) {c : List Value} {e : TypeId} {el : Bool} (hg : N.get k = some (.row c e el)) : IsRow w (E.f k) ∧ Rd E N (E.f k) := by
  obtain ⟨_, pre, sp, lo, hi, hh, _⟩ := R.row hk hg
  exact ⟨⟨_, _, _, hh⟩, k, hk, live_of hg rfl, rfl⟩
theorem wset_wm {N N' : CH} {k : Nat} {b : CB} (h : N.wset k b = some N') : N'.wm ≤ k := by
  obtain ⟨_, rfl⟩ := CH.wset_some h
  exact (CH.set_wm N k b).2
theorem load_evs (R : Rel P E N w) {t : TypeId} {a v : Value} (ha : Clo E.D a) (h : cload P t a N = some v) : Evs P (Rd E N) wr (Instr.loadAt t (E.m a)) w := by
  unfold cload at h
  split at h
  · rename_i ad
    split at h
    · rename_i c e el hg
      have hk : E.D ad.block := ha.1
      obtain ⟨h1, h2⟩ := R.isRow hk hg
      unfold Instr.loadAt
      refine (mute_sureAddr _).evs.ran (a := { ad with block := E.f ad.block, off := ad.off + E.s ad.block }) (w' := w) rfl ?_
      exact evs_loadVar h1 h2
    · cases h
  · cases h
theorem store_evs (R : Rel P E N w) {t : TypeId} {a v : Value} (ha : Clo E.D a) (h : cstore P t a v N = some N') (x : Value) : Evs P (Rd E N) (Wr E N N') (Instr.storeAt t (E.m a) x) w := by
  unfold cstore at h
  split at h
  · rename_i ad
    split at h
    · rename_i c e el hg
      have hk : E.D ad.block := ha.1
      obtain ⟨h1, h2⟩ := R.isRow hk hg
      split at h
      · split at h
        · unfold Instr.storeAt
          refine (mute_sureAddr _).evs.ran (a := { ad with block := E.f ad.block, off := ad.off + E.s ad.block }) (w' := w) rfl ?_
          exact evs_storeVar h1 h2 ⟨_, hk, live_of hg rfl, wset_wm h, rfl⟩
        · cases h
      · cases h
    · cases h
  · cases h
theorem run_getObj_ok {r : Nat} {o : Obj} (h : w.heap[r]? = some o) (hc : ∀ c e z, o ≠ .cells c e z) : (getObj r).run P w = .ok o w := by
  unfold getObj
  rw [Sem.run, h]
  cases o <;> first | exact absurd rfl (hc _ _ _) | simp [Sem.run]
theorem lookup_evs (R : Rel P E N w) {t : TypeId} {x k v : Value} {ok : Bool} (hx : Clo E.D x) (h : clookup P t x k ok N = some v) : Evs P (Rd E N) wr (Instr.lookup t (E.m x) (E.m k) ok) w := by
  unfold clookup at h
  split at h
  · rename_i kt et hu
    split at h
    · rename_i es z hes hz
      cases hck : ckey P kt k es with
      | none => simp [hck] at h
      | some r =>
        obtain ⟨hp, _, _, _⟩ := ckey_ok hck E
        obtain ⟨e1, e2⟩ := ckey_evs (rd := Rd E N) (wr := wr) hck E
        rw [m_plain E hp]
        unfold Instr.lookup
        refine Evs.und hu ?_
        dsimp only
        have fin : ∀ (kk : Option (Nat × Value)) w1, Evs P (Rd E N) wr ((match kk with
            | some (_, v) => do
              let x ← pure (v, true)
              pure (if ok = true then Value.tuple #[x.1, .bool x.2] else x.1)
            | none => do
              let z ← zeroValue et
              let x ← pure (z, false)
              pure (if ok = true then Value.tuple #[x.1, .bool x.2] else x.1)) : Sem Value) w1 := by
          intro kk w1
          cases kk with
          | some q => exact (evs_pure _).bind fun _ _ _ => evs_pure _
          | none => exact (mute_zeroValue _).evs.bind fun _ _ _ => (evs_pure _).bind fun _ _ _ => evs_pure _
        unfold mapOf at hes
        split at hes
        · cases hes
          refine Evs.ran (a := #[]) (w' := w) (evs_pure _) rfl ?_
          refine (e1 _ _).bind fun _ _ _ => ?_
          refine (e2 _).bind fun q w2 _ => ?_
          exact fin q _
        · rename_i r'
          split at hes
          · rename_i es' cl hg
            cases hes
            have hk : E.D r' := hx
            have hb := (R.blk r' _ hk hg).2
            refine (evs_getObj hb rfl ⟨r', hk, live_of hg rfl, rfl⟩).ran (run_getObj_ok hb (by simp)) ?_
            dsimp only
            refine Evs.ran (a := (es.map (mvE E)).toArray) (w' := w) (evs_pure _) rfl ?_
            refine (e1 _ _).bind fun _ _ _ => ?_
            refine (e2 _).bind fun q w2 _ => ?_
            exact fin q _
          · cases hes
        · cases hes
    · cases h
  · cases h
theorem keyThatStays_evs (a b : Value) {rd wr : Nat → Prop} : Evs P rd wr (Instr.keyThatStays a b) w := by
  unfold Instr.keyThatStays
  split
  · exact evs_pure _
  · exact ((mute_choose _).evs.bind fun _ _ _ => evs_pure _)
theorem keyThatStays_heap {a b v : Value} {w' : World} (h : (Instr.keyThatStays a b).run P w = .ok v w') : w'.heap = w.heap := by
  unfold Instr.keyThatStays at h
  split at h
  · simp at h; rw [h.2]
  · simp [Question.forced] at h
    rw [← h.2]
    rfl
theorem mapUpdate_evs (R : Rel P E N w) {t : TypeId} {x k v : Value} (hx : Clo E.D x) (h : cmapUpdate P t x k v N = some N') (u : Value) : Evs P (Rd E N) (Wr E N N') (Instr.mapUpdate t (E.m x) (E.m k) u) w := by
  unfold cmapUpdate at h
  split at h
  · rename_i kt et r hu
    split at h
    · rename_i es cl hg
      obtain ⟨hcl, h2⟩ := R.blk r _ hx hg
      have hrd : Rd E N (E.f r) := ⟨r, hx, live_of hg rfl, rfl⟩
      cases hck : ckey P kt k es with
      | none => simp [hck] at h
      | some q =>
        obtain ⟨hkp, hck', hfk, _⟩ := ckey_ok hck E
        obtain ⟨e1, e2⟩ := ckey_evs (rd := Rd E N) (wr := Wr E N N') hck E
        have hwr : Wr E N N' (E.f r) := by
          rw [hck] at h
          cases q with
          | none => exact ⟨r, hx, live_of hg rfl, wset_wm h, rfl⟩
          | some y => exact ⟨r, hx, live_of hg rfl, wset_wm h, rfl⟩
        rw [m_plain E hkp]
        show Evs P _ _ (Instr.mapUpdate t (.map (some (E.f r))) k u) w
        unfold Instr.mapUpdate
        refine Evs.und hu ?_
        dsimp only
        refine (evs_getObj h2 rfl hrd).ran (Go.MapKept.run_getObj_map h2) ?_
        dsimp only
        refine (e1 _ _).ran (hck' _ _) ?_
        refine (e2 _).ran (hfk w) ?_
        cases q with
        | none => exact evs_setObj h2 rfl hrd hwr
        | some y =>
          refine (keyThatStays_evs _ _).bind fun a w' ha => ?_
          exact evs_setObj (by rw [keyThatStays_heap ha]; exact h2) rfl hrd hwr
    · cases h
  · cases h
theorem mapEntry_evs (R : Rel P E N w) {t : TypeId} {x k v : Value} (hx : Clo E.D x) (h : cmapEntry P t x k N = some (v, N')) : Evs P (Rd E N) (Wr E N N') (Instr.mapEntry t (E.m x) (E.m k)) w := by
  unfold cmapEntry at h
  split at h
  · rename_i kt et r hu
    split at h
    · rename_i es cl z hg hz
      obtain ⟨hcl, h2⟩ := R.blk r _ hx hg
      have hrd : Rd E N (E.f r) := ⟨r, hx, live_of hg rfl, rfl⟩
      cases hck : ckey P kt k es with
      | none => simp [hck] at h
      | some q =>
        obtain ⟨hkp, hck', hfk, _⟩ := ckey_ok hck E
        obtain ⟨e1, e2⟩ := ckey_evs (rd := Rd E N) (wr := Wr E N N') hck E
        have hwr : Wr E N N' (E.f r) := by
          rw [hck] at h
          cases q with
          | none =>
            obtain ⟨N1, hN1, h⟩ := Option.map_eq_some_iff.1 h
            cases h
            exact ⟨r, hx, live_of hg rfl, wset_wm hN1, rfl⟩
          | some y =>
            obtain ⟨N1, hN1, h⟩ := Option.map_eq_some_iff.1 h
            cases h
            exact ⟨r, hx, live_of hg rfl, wset_wm hN1, rfl⟩
        rw [m_plain E hkp]
        show Evs P _ _ (Instr.mapEntry t (.map (some (E.f r))) k) w
        unfold Instr.mapEntry
        refine Evs.und hu ?_
        dsimp only
        refine (evs_getObj h2 rfl hrd).ran (Go.MapKept.run_getObj_map h2) ?_
        dsimp only
        refine (e1 _ _).ran (hck' _ _) ?_
        refine (e2 _).ran (hfk w) ?_
        cases q with
        | none =>
          refine (mute_zeroValue _).evs.ran (run_zeroT hz w).1 ?_
          exact (evs_setObj h2 rfl hrd hwr).bind fun _ _ _ => evs_pure _
        | some y =>
          refine (keyThatStays_evs _ _).bind fun a w' ha => ?_
          exact (evs_setObj (by rw [keyThatStays_heap ha]; exact h2) rfl hrd hwr).bind fun _ _ _ => evs_pure _
    · cases h
  · cases h
theorem entryStore_evs (R : Rel P E N w) {t : TypeId} {x k v : Value} (hx : Clo E.D x) (h : centryStore x k v N = some N') (u : Value) : Evs P (Rd E N) (Wr E N N') (Instr.entryStore t (E.m x) (E.m k) u) w := by
  unfold centryStore at h
  split at h
  · rename_i r ik n
    split at h
    · rename_i es cl hg
      split at h
      · obtain ⟨hcl, h2⟩ := R.blk r _ hx hg
        have hrd : Rd E N (E.f r) := ⟨r, hx, live_of hg rfl, rfl⟩
        have hwr : Wr E N N' (E.f r) := ⟨r, hx, live_of hg rfl, wset_wm h, rfl⟩
        show Evs P _ _ (Instr.entryStore t (.map (some (E.f r))) (.int ik n) u) w
        unfold Instr.entryStore
        dsimp only
        refine (evs_getObj h2 rfl hrd).ran (Go.MapKept.run_getObj_map h2) ?_
        dsimp only
        refine (mute_asInt _).evs.ran (a := n) (w' := w) (by simp [asInt, asIntOf]) ?_
        split
        · exact evs_setObj h2 rfl hrd hwr
        · exact (mute_unsupported _).evs
      · cases h
    · cases h
  · cases h
theorem delete_evs (R : Rel P E N w) {t t2 ty : TypeId} {x k : Value} (hx : Clo E.D x) (h : cdelete P t x k N = some N') : Evs P (Rd E N) (Wr E N N') (Builtin.delete_ #[t, t2] ty #[E.m x, E.m k]) w := by
  unfold cdelete at h
  split at h
  · rename_i kt et hu
    obtain ⟨r, hf, _⟩ := Option.map_eq_some_iff.1 h
    obtain ⟨hkp, _⟩ := ckey_ok hf E
    obtain ⟨e1, e2⟩ := ckey_evs (rd := Rd E N) (wr := Wr E N N') hf E
    rw [m_plain E hkp]
    show Evs P _ _ (Builtin.delete_ #[t, t2] ty #[.map none, k]) w
    unfold Builtin.delete_
    refine Evs.und hu ?_
    dsimp only
    exact (e1 _ _).bind fun _ _ _ => evs_pure _
  · rename_i kt et r hu
    split at h
    · rename_i es cl hg
      obtain ⟨hcl, h2⟩ := R.blk r _ hx hg
      have hrd : Rd E N (E.f r) := ⟨r, hx, live_of hg rfl, rfl⟩
      cases hck : ckey P kt k es with
      | none => simp [hck] at h
      | some q =>
        obtain ⟨hkp, hck', hfk, _⟩ := ckey_ok hck E
        obtain ⟨e1, e2⟩ := ckey_evs (rd := Rd E N) (wr := Wr E N N') hck E
        have hwr : Wr E N N' (E.f r) := by
          rw [hck] at h
          cases q with
          | none => exact ⟨r, hx, live_of hg rfl, wset_wm h, rfl⟩
          | some y => exact ⟨r, hx, live_of hg rfl, wset_wm h, rfl⟩
        rw [m_plain E hkp]
        show Evs P _ _ (Builtin.delete_ #[t, t2] ty #[.map (some (E.f r)), k]) w
        unfold Builtin.delete_
        refine Evs.und hu ?_
        dsimp only
        refine (evs_getObj h2 rfl hrd).ran (Go.MapKept.run_getObj_map h2) ?_
        refine (e1 _ _).ran (hck' _ _) ?_
        refine (e2 _).ran (hfk w) ?_
        cases q with
        | none => exact (evs_setObj h2 rfl hrd hwr).bind fun _ _ _ => evs_pure _
        | some y => exact (evs_setObj h2 rfl hrd hwr).bind fun _ _ _ => evs_pure _
    · cases h
  · cases h
theorem len_evs (R : Rel P E N w) {t ty : TypeId} {x v : Value} (hx : Clo E.D x) (h : clen P t x N = some v) : Evs P (Rd E N) wr (Builtin.len_ #[t] ty #[E.m x]) w := by
  unfold clen at h
  split at h
  · rename_i e a n c hu
    unfold Builtin.len_
    refine Evs.und hu ?_
    cases a <;> exact evs_pure _
  · rename_i k e hu
    unfold Builtin.len_
    refine Evs.und hu ?_
    exact evs_pure _
  · rename_i k e r hu
    split at h
    · rename_i es cl hg
      obtain ⟨_, h2⟩ := R.blk r _ hx hg
      show Evs P _ _ (Builtin.len_ #[t] ty #[.map (some (E.f r))]) w
      unfold Builtin.len_
      refine Evs.und hu ?_
      refine (evs_getObj h2 rfl ⟨r, hx, live_of hg rfl, rfl⟩).ran (Go.MapKept.run_getObj_map h2) ?_
      exact evs_pure _
    · cases h
  · rename_i arr p hu
    split at h
    · rename_i n e hu2
      unfold Builtin.len_
      refine Evs.und hu ?_
      cases p <;> exact Evs.und hu2 (evs_pure _)
    · cases h
  · cases h
theorem range_evs (R : Rel P E N w) {t : TypeId} {x v : Value} (hx : Clo E.D x) (h : crange P t x N = some (v, N')) : Evs P (Rd E N) wr (Instr.range t (E.m x)) w := by
  unfold crange at h
  split at h
  · split at h
    · rename_i s hu
      unfold Instr.range
      refine Evs.und hu ?_
      exact (evs_pure _).bind fun _ _ _ => (mute_newObj _).evs.bind fun _ _ _ => evs_pure _
    · rename_i k e hu
      unfold Instr.range
      refine Evs.und hu ?_
      exact (evs_pure _).bind fun _ _ _ => (mute_newObj _).evs.bind fun _ _ _ => evs_pure _
    · rename_i k e m hu
      split at h
      · rename_i es clock hg
        obtain ⟨_, h2⟩ := R.blk m _ hx hg
        show Evs P _ _ (Instr.range t (.map (some (E.f m)))) w
        unfold Instr.range
        refine Evs.und hu ?_
        refine (evs_getObj h2 rfl ⟨m, hx, live_of hg rfl, rfl⟩).ran (Go.MapKept.run_getObj_map h2) ?_
        exact (evs_pure _).bind fun _ _ _ => (mute_newObj _).evs.bind fun _ _ _ => evs_pure _
      · cases h
    · cases h
  · cases h
theorem entry_evs (R : Rel P E N w) {x v : Value} (hx : Clo E.D x) (h : centry x N = some v) : Evs P (Rd E N) wr (Instr.entry (E.m x)) w := by
  unfold centry at h
  split at h
  · rename_i r sp
    obtain ⟨hr, hsp⟩ := hx
    simp only at hr hsp
    subst hsp
    split at h
    · rename_i m since seen stepped hg
      split at h
      · rename_i stamp es clock hst hgm
        split at h
        · rename_i hc
          subst hc
          obtain ⟨hmD, ho, hs0⟩ := R.blk r _ hr hg
          obtain ⟨hcl, hmo⟩ := R.blk m _ (hmD m rfl) hgm
          have hm : E.m (.pointer (some ⟨r, 0, none⟩)) = .pointer (some ⟨E.f r, 0, none⟩) := by simp [Env.m, mv, hs0]
          rw [hm]
          unfold Instr.entry
          dsimp only
          refine (evs_getObj ho rfl ⟨r, hr, live_of hg rfl, rfl⟩).ran (run_getObj_ok ho (by simp)) ?_
          dsimp only [Option.map_some]
          rw [hst]
          dsimp only
          refine (evs_getObj hmo rfl ⟨m, hmD m rfl, live_of hgm rfl, rfl⟩).ran (Go.MapKept.run_getObj_map hmo) ?_
          dsimp only
          split
          · exact (mute_unsupported _).evs.bind fun _ _ h => by simp at h
          · split
            · exact evs_pure _
            · exact (mute_unsupported _).evs
        · cases h
      · cases h
    · cases h
  · cases h
theorem next_evs (R : Rel P E N w) {x v : Value} {b : Bool} (ty : TypeId) (hx : Clo E.D x) (h : cnext x b N = some (v, N')) : Evs P (Rd E N) (Wr E N N') (Instr.next (E.m x) b ty) w := by
  unfold cnext at h
  split at h
  · rename_i r sp
    obtain ⟨hr, hsp⟩ := hx
    simp only at hr hsp
    subst hsp
    split at h
    · rename_i s pos hg
      obtain ⟨ho, hs0⟩ := R.blk r _ hr hg
      have hm : E.m (.pointer (some ⟨r, 0, none⟩)) = .pointer (some ⟨E.f r, 0, none⟩) := by simp [Env.m, mv, hs0]
      have hrd : Rd E N (E.f r) := ⟨r, hr, live_of hg rfl, rfl⟩
      rw [hm]
      unfold Instr.next
      dsimp only
      refine (evs_getObj ho rfl hrd).ran (run_getObj_ok ho (by simp)) ?_
      dsimp only
      split at h
      · rename_i hlt
        obtain ⟨N1, hN1, h⟩ := Option.map_eq_some_iff.1 h
        simp only [Prod.mk.injEq] at h
        obtain ⟨rfl, rfl⟩ := h
        rw [if_pos hlt]
        exact (evs_setObj ho rfl hrd ⟨r, hr, live_of hg rfl, wset_wm hN1, rfl⟩).bind fun _ _ _ => evs_pure _
      · rename_i hlt
        rw [if_neg hlt]
        exact evs_pure _
    · rename_i a b c hg
      obtain ⟨_, ho, hs0⟩ := R.blk r _ hr hg
      have hm : E.m (.pointer (some ⟨r, 0, none⟩)) = .pointer (some ⟨E.f r, 0, none⟩) := by simp [Env.m, mv, hs0]
      have hrd : Rd E N (E.f r) := ⟨r, hr, live_of hg rfl, rfl⟩
      rw [hm]
      unfold Instr.next
      dsimp only
      refine (evs_getObj ho rfl hrd).ran (run_getObj_ok ho (by simp)) ?_
      exact evs_pure _
    · rename_i m since seen last hg
      obtain ⟨hmD, ho, hs0⟩ := R.blk r _ hr hg
      have hmd := hmD m rfl
      have hm : E.m (.pointer (some ⟨r, 0, none⟩)) = .pointer (some ⟨E.f r, 0, none⟩) := by simp [Env.m, mv, hs0]
      have hrd : Rd E N (E.f r) := ⟨r, hr, live_of hg rfl, rfl⟩
      split at h
      · rename_i es clock hgm
        obtain ⟨hcl, hmo⟩ := R.blk m _ hmd hgm
        split at h
        · cases h
        · rename_i hgd
          have hall : (es.map (mvE E)).toArray.all (fun e => decide (e.born ≥ last)) = es.all (fun e => decide (e.2.2 ≥ last)) := by
            rw [← Array.all_toList, List.all_map]
            rfl
          have hemp : (es.map (mvE E)).toArray.isEmpty = es.isEmpty := by cases es <;> simp
          have hguard : (!seen.isEmpty && !(es.map (mvE E)).toArray.isEmpty && (es.map (mvE E)).toArray.all (fun e => decide (e.born ≥ last))) = false := by
            rw [hall, hemp]
            simpa using hgd
          have hleft : (es.map (mvE E)).toArray.filter (fun e => !seen.contains e.born) = ((es.filter fun e => !seen.contains e.2.2).map (mvE E)).toArray := by
            rw [List.filter_toArray, filter_mvE E (fun b => !seen.contains b)]
          have hold : ∀ l : List (Value × Value × Nat), (l.map (mvE E)).toArray.filter (fun e => decide (e.born < since)) = ((l.filter fun e => decide (e.2.2 < since)).map (mvE E)).toArray := fun l => by
            rw [List.filter_toArray, filter_mvE E (fun b => decide (b < since))]
          have hnew : ∀ l : List (Value × Value × Nat), (l.map (mvE E)).toArray.filter (fun e => decide (e.born ≥ since)) = ((l.filter fun e => decide (e.2.2 ≥ since)).map (mvE E)).toArray := fun l => by
            rw [List.filter_toArray, filter_mvE E (fun b => decide (b ≥ since))]
          rw [hm]
          unfold Instr.next
          dsimp only
          refine (evs_getObj ho rfl hrd).ran (run_getObj_ok ho (by simp)) ?_
          dsimp only [Option.map_some]
          refine (evs_getObj hmo rfl ⟨m, hmd, live_of hgm rfl, rfl⟩).ran (Go.MapKept.run_getObj_map hmo) ?_
          dsimp only
          rw [hguard, hleft, hold, hnew]
          rw [if_neg (by simp)]
          split at h
          · rename_i h1 h2
            rw [h1, h2]
            refine (mute_choose _).evs.ran (a := 0) (w' := w) (by simp [Question.forced]) ?_
            split
            · rename_i heq; simp at heq
            · exact evs_pure _
            · exact (mute_stuck _).evs
          · rename_i e h1 h2
            obtain ⟨N1, hN1, h⟩ := Option.map_eq_some_iff.1 h
            simp only [Prod.mk.injEq] at h
            obtain ⟨rfl, rfl⟩ := h
            rw [h1, h2]
            refine (mute_choose _).evs.ran (a := 0) (w' := w) (by simp [Question.forced]) ?_
            split
            · exact (evs_setObj ho rfl hrd ⟨r, hr, live_of hg rfl, wset_wm hN1, rfl⟩).bind fun _ _ _ => evs_pure _
            · exact evs_pure _
            · exact (mute_stuck _).evs
          · cases h
      · cases h
    · cases h
  · cases h
theorem lenOf_evs (x : Value) {rd wr : Nat → Prop} : Evs P rd wr (Builtin.lenOf x) w := (mute_lenOf x).evs
/-- What a copy or an append reads. -/
theorem firstCells_evs (R : Rel P E N w) {size : Nat} {x : Value} {n : Nat} {new : List Value} (hx : Clo E.D x) (h : csrc size x N = some (n, new)) (w1 : World) (hh : w1.heap = w.heap) : Evs P (Rd E N) wr (Builtin.firstCells size n (E.m x)) w1 := by
  unfold csrc at h
  split at h
  · exact evs_pure _
  · rename_i a l c
    split at h
    · rename_i h0
      cases h
      show Evs P _ _ (loadCellsFrom ⟨E.f a.block, soff E.toRen a, none⟩ 0 (0 * size) #[]) w1
      rw [Nat.zero_mul]
      exact evs_pure _
    · split at h
      · rename_i cs e el hg
        have hk : E.D a.block := hx
        obtain ⟨⟨c0, e0, z0, h1⟩, h2⟩ := R.isRow hk hg
        show Evs P _ _ (loadCellsFrom ⟨E.f a.block, soff E.toRen a, none⟩ 0 (n * size) #[]) w1
        exact evs_loadCellsFrom _ ⟨c0, e0, z0, by rw [hh]; exact h1⟩ h2 _ _ _
      · cases h
  · exact evs_pure _
  · cases h
theorem copy_evs (R : Rel P E N w) {t t2 ty : TypeId} {d x v : Value} (hd : Clo E.D d) (hx : Clo E.D x) (h : ccopy P t d x N = some (v, N')) : Evs P (Rd E N) (Wr E N N') (Builtin.copy_ #[t, t2] ty #[E.m d, E.m x]) w := by
  unfold ccopy at h
  split at h
  · rename_i e ad dl dc hu
    have hdd : E.D ad.block := hd
    split at h
    · rename_i size cs e' el hs hg
      split at h
      · rename_i n news hsrc
        obtain ⟨hlen, hf, _, hnc⟩ := src_ok R hx hsrc
        split at h
        · rename_i hb
          obtain ⟨hone, hnl, hn, hsu, hfit'⟩ := hb
          obtain ⟨N1, hN1, h⟩ := Option.map_eq_some_iff.1 h
          simp only [Prod.mk.injEq] at h
          obtain ⟨rfl, rfl⟩ := h
          obtain ⟨h1, h2⟩ := R.isRow hdd hg
          show Evs P _ _ (Builtin.copy_ #[t, t2] ty #[.slice (some ⟨E.f ad.block, soff E.toRen ad, none⟩) dl (scap E.toRen ad dc), E.m x]) w
          unfold Builtin.copy_
          refine Evs.und hu ?_
          refine (lenOf_evs _).ran (hlen w) ?_
          refine (mute_sizeOf _).evs.ran (run_sizeOf hs w) ?_
          have hmin : Nat.min n dl = n := Nat.min_eq_left hn
          rw [hmin]
          refine (firstCells_evs R hx hsrc w rfl).ran hf ?_
          refine (evs_storeCells _ h2 ⟨_, hdd, live_of hg rfl, wset_wm hN1, rfl⟩ _ 0 fun _ => h1).bind fun _ _ _ => evs_pure _
        · cases h
      · cases h
    · cases h
  · cases h
theorem evs_noRoom {rd wr : Nat → Prop} : Evs P rd wr (mark .noRoom) w := by
  intro e he
  simp [mark, Sem.events, Sem.runT] at he
  subst he
  exact .inr (.inl rfl)
theorem evs_askRoom (n : Nat) {rd wr : Nat → Prop} : Evs P rd wr (askRoom n) w := by
  unfold askRoom
  split
  · exact evs_noRoom
  · exact evs_pure _
theorem mute_frozenL (a : Addr) : Mute P (frozen a) := mute_frozen a
theorem mute_holdsCells (a : Addr) (n : Nat) : Mute P (Builtin.holdsCells a n) := by
  unfold Builtin.holdsCells
  refine (mute_shape _).bind fun x => ?_
  split <;> exact mute_pure _
theorem mute_mayShare (size sLen n : Nat) (base : Option Addr) (x : Value) : Mute P (Builtin.mayShare size sLen n base x) := by
  unfold Builtin.mayShare
  repeat' (first | (with_reducible first | exact mute_pure _ | exact mute_stuck _ | exact mute_frozen _ | exact mute_holdsCells _ _) | (with_reducible refine Mute.bind ?_ (fun _ => ?_)) | (with_reducible refine Mute.map ?_ _) | split | dsimp only)
theorem append_gen {rd wr : Nat → Prop} {t xt ty e : TypeId} {i : TypeInfo} (ht : P.underlying t = some (.slice e)) (hx : notInt P xt = true) (hi : P.info? e = some i) {a : Option Addr} {l c n : Nat} {x : Value}
    (hlen : (Builtin.lenOf x).run P w = .ok n w) (hnew : ∀ w1 : World, w1.heap = w.heap → Evs P rd wr (Builtin.firstCells i.size n x) w1)
    (hold : ∀ w1 : World, w1.heap = w.heap → Evs P rd wr (Builtin.firstCells i.size l (.slice a l c)) w1 ∧ ∀ v w2, (Builtin.firstCells i.size l (.slice a l c)).run P w1 = .ok v w2 → w2 = w1)
    (hin : l + n ≤ c → ∀ ad, a = some ad → IsRow w ad.block ∧ rd ad.block ∧ wr ad.block ∧ ∃ v, (Builtin.firstCells i.size n x).run P w = .ok v w) :
    Evs P rd wr (Builtin.append_ #[t, xt] ty #[.slice a l c, x]) w := by
  obtain ⟨d, hd, hk⟩ := notInt_spec hx
  have hz := notIntD hk
  unfold isIntD at hz
  have hti : ∀ w, (typeInfo e).run P w = .ok i w := fun w => by simp [typeInfo, hi]
  have hsz : ∀ w, (sizeOf e).run P w = .ok i.size w := fun w => by simp [sizeOf, typeInfo, hi]
  unfold Builtin.append_
  refine Evs.und ht ?_
  dsimp only
  refine (mute_sizeOf _).evs.ran (hsz w) ?_
  refine Evs.und hd ?_
  refine Evs.ran (a := false) (w' := w) (evs_pure _) (by simp [hz]) ?_
  refine (mute_lenOf _).evs.ran hlen ?_
  by_cases hroom : l + n ≤ c
  · rw [if_pos hroom]
    refine (hnew w rfl).bind fun v w' hv => ?_
    cases a with
    | none => exact evs_pure _
    | some ad =>
      obtain ⟨h1, h2, h3, v', hv'⟩ := hin hroom ad rfl
      have hv2 : (Builtin.firstCells i.size n x).run P w = .ok v w' := hv
      rw [hv'] at hv2
      cases hv2
      exact (evs_storeCells _ (by rw [block_add]; exact h2) (by rw [block_add]; exact h3) _ 0 fun _ => by rw [block_add]; exact h1).bind fun _ _ _ => evs_pure _
  · rw [if_neg hroom]
    refine (mute_typeInfo _).evs.ran (hti w) ?_
    have tail : Evs P rd wr (do
        let newCap ← choose (Question.appendCap (l + n) c e)
        let t ← typeInfo e
        askRoom (newCap * t.bytes)
        let old ← Builtin.firstCells i.size l (.slice a l c)
        let new ← Builtin.firstCells i.size n x
        let z ← zeroValue e
        let r ← newRow e (old ++ new ++ Builtin.zeroCells z.cells (newCap - (l + n)))
        pure (Value.slice (some r) (l + n) newCap)) w := by
      refine (mute_choose _).evs.ran (a := grownCap w (l + n) c e) (w' := w.drew) (by simp [Question.forced, grownCap]) ?_
      refine (mute_typeInfo _).evs.ran (hti _) ?_
      refine (evs_askRoom _).bind fun u w1 h1 => ?_
      have h1 : w1 = w.drew := by
        unfold askRoom at h1
        split at h1
        · simp [mark, Sem.run] at h1; exact h1.symm
        · simp at h1; exact h1.symm
      subst h1
      obtain ⟨g1, g2⟩ := hold w.drew rfl
      refine g1.bind fun v w2 h2 => ?_
      rw [g2 v w2 h2]
      refine (hnew w.drew rfl).bind fun v2 w3 _ => ?_
      exact (mute_zeroValue _).evs.bind fun _ _ _ => (mute_newRow _ _).evs.bind fun _ _ _ => evs_pure _
    split
    · exact (mute_runtimePanic _).evs.bind fun _ _ h => by simp [runtimePanic] at h
    · refine (mute_typeInfo _).evs.ran (hti w) ?_
      split
      · refine Evs.bind ?_ fun u w' h => ?_
        · rw [if_neg (by simp)]
          refine (mute_mayShare _ _ _ _ _).evs.bind fun b w1 _ => ?_
          split
          · exact evs_noRoom.bind fun _ _ _ => (mute_unsupported _).evs
          · exact (mute_unsupported _).evs
        · exfalso
          rw [if_neg (by simp), Sem.run_bind] at h
          cases hm : (Builtin.mayShare i.size l n a #[Value.slice a l c, x][1]).run P w with
          | halt hh w1 => rw [hm] at h; cases h
          | ok b w1 =>
            rw [hm, Result.andThen_ok] at h
            split at h
            · rw [Sem.run_bind] at h
              simp [mark, Sem.run] at h
            · simp at h
      · exact tail
theorem loadNone_evs {P : Program} {w1 : World} {rd wr : Nat → Prop} (size l c : Nat) : Evs P rd wr (Builtin.firstCells size l (.slice none l c)) w1 ∧ ∀ v w2, (Builtin.firstCells size l (.slice none l c)).run P w1 = .ok v w2 → w2 = w1 :=
  ⟨evs_pure _, fun v w2 h => by simp [Builtin.firstCells] at h; exact h.2.symm⟩
theorem append_evs (R : Rel P E N w) {t xt ty : TypeId} {s x v : Value} (hs : Clo E.D s) (hx : Clo E.D x) (h : cappend P t xt s x N = some (v, N')) : Evs P (Rd E N) (Wr E N N') (Builtin.append_ #[t, xt] ty #[E.m s, E.m x]) w := by
  unfold cappend at h
  split at h
  · rename_i e ht
    split at h
    · rename_i i z hi hz
      split at h
      · rename_i hcond
        obtain ⟨hni, hzs, hby⟩ := hcond
        split at h
        · rename_i n new hsrc
          obtain ⟨hlen, hf, hfd, hnc⟩ := src_ok R hx hsrc
          have hnew : ∀ w1 : World, w1.heap = w.heap → Evs P (Rd E N) (Wr E N N') (Builtin.firstCells i.size n (E.m x)) w1 := fun w1 hh => firstCells_evs R hx hsrc w1 hh
          split at h
          · split at h
            · rename_i l c
              show Evs P _ _ (Builtin.append_ #[t, xt] ty #[.slice none l c, E.m x]) w
              exact append_gen ht hni hi (hlen w) hnew (fun w1 _ => loadNone_evs _ _ _) (fun _ ad h => by cases h)
            · rename_i ad l c
              have hd : E.D ad.block := hs
              show Evs P _ _ (Builtin.append_ #[t, xt] ty #[.slice (some ⟨E.f ad.block, soff E.toRen ad, none⟩) l (scap E.toRen ad c), E.m x]) w
              split at h
              · rename_i cs e' el hg
                obtain ⟨h1, h2⟩ := R.isRow hd hg
                have hrow : ∀ w1 : World, w1.heap = w.heap → IsRow w1 (E.f ad.block) := fun w1 hh => by
                  obtain ⟨c0, e0, z0, h1⟩ := h1
                  exact ⟨c0, e0, z0, by rw [hh]; exact h1⟩
                refine append_gen ht hni hi (hlen w) hnew (fun w1 hh => ⟨evs_loadCellsFrom _ (hrow w1 hh) h2 _ _ _, fun v w2 hv => same_loadCellsFrom _ (hrow w1 hh) _ _ _ hv⟩) ?_
                intro hroom ad' had
                cases had
                refine ⟨h1, h2, ⟨_, hd, live_of hg rfl, ?_, rfl⟩, _, hf⟩
                split at h
                · split at h
                  · obtain ⟨N1, hN1, h⟩ := Option.map_eq_some_iff.1 h
                    cases h
                    exact wset_wm hN1
                  · cases h
                · rename_i hno
                  split at h
                  · split at h
                    · rename_i hex
                      exfalso
                      obtain ⟨hsu, hex⟩ := hex
                      have : scap E.toRen ad c = c := by
                        obtain ⟨a1, a2, a3⟩ := ad
                        unfold scap
                        cases a3 with
                        | some s =>
                          have : s = 0 := by simpa [sure] using hsu
                          subst this
                          simp
                        | none =>
                          rcases hex with h1 | h1
                          · simp at h1
                          · subst h1
                            obtain ⟨_, _, sp0, _, _, _, _, _, hel⟩ := R.row hd hg
                            have hx0 : E.x a1 = 0 := (show sp0 = [] ∧ E.x a1 = 0 ∧ E.s a1 = 0 by simpa using hel.1).2.1
                            simp [hx0]
                      omega
                    · split at h
                      · unfold cgrow crow at h
                        split at h
                        · simp only [Option.map_some, Option.some.injEq, Prod.mk.injEq] at h
                          obtain ⟨_, rfl⟩ := h
                          rw [CH.push_def]
                          exact (CH.set_wm N ad.block .dead).2
                        · cases h
                      · cases h
                  · cases h
              · cases h
            · cases h
          · cases h
        · cases h
      · cases h
    · cases h
  · cases h
/-! ### loops of the model's own text -/
theorem mute_mapML {α β : Type} (f : α → Sem β) (hf : ∀ a, Mute P (f a)) : ∀ xs : List α, Mute P (xs.mapM f)
  | [] => by rw [List.mapM_nil]; exact mute_pure _
  | x :: xs => by
    rw [List.mapM_cons]
    exact (hf x).bind fun _ => (mute_mapML f hf xs).bind fun _ => mute_pure _
theorem mute_mapM {α β : Type} (f : α → Sem β) (hf : ∀ a, Mute P (f a)) (xs : Array α) : Mute P (xs.mapM f) := by
  rw [Array.mapM_eq_mapM_toList]
  exact (mute_mapML f hf _).map _
theorem mute_forInL {α β : Type} (f : α → β → Sem (ForInStep β)) (hf : ∀ a b, Mute P (f a b)) : ∀ (xs : List α) (b : β), Mute P (forIn xs b f)
  | [], b => by rw [List.forIn_nil]; exact mute_pure _
  | x :: xs, b => by
    rw [List.forIn_cons]
    refine (hf x b).bind fun r => ?_
    cases r with
    | done b => exact mute_pure _
    | yield b => exact mute_forInL f hf xs b
theorem mute_forIn {α β : Type} (f : α → β → Sem (ForInStep β)) (hf : ∀ a b, Mute P (f a b)) (xs : Array α) (b : β) : Mute P (forIn xs b f) := by
  rw [← Array.forIn_toList]
  exact mute_forInL f hf _ b
theorem mute_alloc (t : TypeId) : Mute P (Instr.alloc t true (.tuple #[])) := by
  unfold Instr.alloc
  exact (mute_zeroValue _).bind fun _ => (mute_newVar _ _).bind fun _ => mute_pure _
theorem mute_box (t : TypeId) (v : Value) : Mute P (Instr.box t v) := (mute_newVar _ _).bind fun _ => mute_pure _
theorem mute_build (t : TypeId) (parts : Array (Nat × Value)) : Mute P (Instr.build t parts) := by
  unfold Instr.build
  refine (mute_zeroValue _).bind fun z => (mute_underlying _).bind fun d => ?_
  split
  · refine (mute_mapM _ (fun f => (mute_sizeOf _).bind fun _ => mute_pure _) _).bind fun _ => ?_
    split <;> first | exact mute_pure _ | exact mute_stuck _
  · refine (mute_sizeOf _).bind fun _ => ?_
    split <;> first | exact mute_pure _ | exact mute_stuck _
  · exact mute_stuck _
theorem mute_buildSlice (t : TypeId) (n : Nat) (parts : Array (Nat × Value)) : Mute P (Instr.buildSlice t n parts) := by
  unfold Instr.buildSlice
  repeat' (first | (with_reducible first | exact mute_pure _ | exact mute_stuck _ | exact mute_unsupported _ | exact mute_underlying _ | exact mute_sizeOf _ | exact mute_zeroValue _ | exact mute_newRow _ _) | (with_reducible refine Mute.bind ?_ (fun _ => ?_)) | (with_reducible refine Mute.map ?_ _) | split | dsimp only)
theorem mute_makeMap (t : TypeId) (r : Option Value) : Mute P (Instr.makeMap t r) := by
  unfold Instr.makeMap
  repeat' (first | (with_reducible first | exact mute_pure _ | exact mute_stuck _ | exact mute_unsupported _ | exact mute_underlying _ | exact mute_asInt _ | exact mute_newObj _) | (with_reducible refine Mute.bind ?_ (fun _ => ?_)) | (with_reducible refine Mute.map ?_ _) | split | dsimp only)
/-- Texts that list nothing but that memory ran out. -/
def Near (P : Program) {α : Type} (s : Sem α) : Prop := ∀ w, ∀ e ∈ s.events P w #[], e.loc = .mark .noRoom
theorem Mute.near {α : Type} {s : Sem α} (h : Mute P s) : Near P s := fun w e he => by rw [h w #[]] at he; simp at he
theorem Near.bind {α β : Type} {x : Sem α} {f : α → Sem β} (h : Near P x) (g : ∀ a, Near P (f a)) : Near P (x >>= f) := by
  intro w e he
  rw [Sem.events_bind] at he
  cases hx : x.run P w with
  | halt hh w' => rw [hx] at he; exact h w e he
  | ok a w' =>
    rw [hx] at he
    simp only [Result.evThen_ok] at he
    rw [Sem.events_acc] at he
    rcases Array.mem_append.1 he with he | he
    · exact h w e he
    · exact g a w' e he
theorem near_askRoom (n : Nat) : Near P (askRoom n) := by
  unfold askRoom
  split
  · intro w e he
    simp [mark, Sem.events, Sem.runT] at he
    subst he
    rfl
  · exact (mute_pure _).near
theorem Near.evs {α : Type} {s : Sem α} (h : Near P s) {rd wr : Nat → Prop} : Evs P rd wr s w := fun e he => .inr (.inl (h w e he))
theorem near_makeSlice (t : TypeId) (l c : Value) : Near P (Instr.makeSlice t l c) := by
  unfold Instr.makeSlice
  repeat' (first | (with_reducible first | exact near_askRoom _ | exact (mute_pure _).near | exact (mute_stuck _).near | exact (mute_underlying _).near | exact (mute_sizeOf _).near | exact (mute_zeroValue _).near | exact (mute_newRow _ _).near | exact (mute_typeInfo _).near | exact (mute_asInt _).near | exact (mute_runtimePanic _).near | exact (mute_choose _).near) | (with_reducible refine Near.bind ?_ (fun _ => ?_)) | split | dsimp only)
theorem mute_stringToBytes (e : TypeId) (s : ByteArray) : Mute P (Conv.stringToBytes e s) := by
  unfold Conv.stringToBytes
  exact (mute_choose _).bind fun _ => (mute_newRow _ _).bind fun _ => (mute_markStringish _).bind fun _ => mute_pure _
theorem bytesOf_evs {src dst : TypeId} {x v : Value} {rd wr : Nat → Prop} (h : cbytesOf P src dst x N = some (v, N')) : Evs P rd wr (convert src dst (E.m x)) w := by
  unfold cbytesOf at h
  split at h
  · rename_i e s hs hd
    split at h
    · rename_i he hsz1
      unfold convert
      refine Evs.und hs (Evs.und hd ?_)
      show Evs P _ _ (underlying e >>= _) w
      exact Evs.und he (mute_stringToBytes _ _).evs
    · cases h
  · cases h
theorem stringOf_evs (R : Rel P E N w) {src dst : TypeId} {x v : Value} (hx : Clo E.D x) (h : cstringOf P src dst x N = some v) : Evs P (Rd E N) wr (convert src dst (E.m x)) w := by
  unfold cstringOf at h
  split at h
  · rename_i e a n c hs hd
    split at h
    · rename_i he
      unfold convert
      refine Evs.und hs (Evs.und hd ?_)
      exact Evs.und he (evs_pure _)
    · rename_i ad he
      have hdd : E.D ad.block := hx
      split at h
      · rename_i cs e' el hg
        obtain ⟨h1, h2⟩ := R.isRow hdd hg
        show Evs P _ _ (convert src dst (.slice (some ⟨E.f ad.block, soff E.toRen ad, none⟩) n (scap E.toRen ad c))) w
        unfold convert
        refine Evs.und hs (Evs.und hd ?_)
        dsimp only
        refine Evs.und he ?_
        dsimp only
        unfold Conv.bytesToString
        dsimp only
        refine Evs.bind (evs_loadCellsFrom _ h1 h2 _ _ _) fun vs w' _ => Mute.evs ?_
        refine Mute.bind (mute_forIn _ (fun v s => ?_) _ _) fun _ => mute_pure _
        split <;> first | exact mute_pure _ | exact (mute_stuck _).bind fun _ => mute_pure _ | exact mute_stuck _
      · cases h
    · cases h
  · cases h
theorem same_evs {src dst : TypeId} {x v : Value} {rd wr : Nat → Prop} (h : csame P src dst x N = some v) : Evs P rd wr (convert src dst (E.m x)) w := by
  unfold csame at h
  split at h
  · rename_i e ad n c hu
    split at h
    · rename_i row c' e' el' he hg
      split at h
      · rename_i hsd
        obtain ⟨hsd, hge, hwmk⟩ := hsd
        subst hsd
        show Evs P _ _ (convert src src (.slice (some ⟨E.f ad.block, soff E.toRen ad, none⟩) n (scap E.toRen ad c))) w
        unfold convert
        refine Evs.und hu (Evs.und hu ?_)
        dsimp only
        refine Evs.und he ?_
        rw [show (src == src) = true by simp]
        exact (mute_markStringish _).evs.bind fun _ _ _ => evs_pure _
      · cases h
    · cases h
  · cases h
theorem fieldAddr_evs {t : TypeId} {x v : Value} {i : Nat} {rd wr : Nat → Prop} (h : cfieldAddr P t x i = some v) : Evs P rd wr (Instr.fieldAt t (E.m x) i) w := by
  unfold cfieldAddr at h
  split at h
  · rename_i fields a hu
    split at h
    · rename_i f hf
      split at h
      · rename_i n hn
        split at h
        · cases h
        · rename_i hn0
          show Evs P _ _ (Instr.fieldAt t (.pointer (some { a with block := E.f a.block, off := a.off + E.s a.block })) i) w
          unfold Instr.fieldAt
          refine Evs.und hu ?_
          dsimp only
          rw [hf]
          dsimp only
          refine Evs.bind (mute_sureAddr _).evs fun a w' _ => ?_
          refine Evs.bind ?_ fun _ _ _ => evs_pure _
          unfold fieldPlace
          refine (mute_sizeOf _).evs.ran (run_sizeOf hn w') ?_
          rw [if_neg hn0]
          exact evs_pure _
      · cases h
    · cases h
  · cases h
theorem equalIn_evs {t : TypeId} {x y : Value} {b : Bool} {rd wr : Nat → Prop} (h : ceq P t x y = some b) (d : Nat) : Evs P rd wr (Op.equalIn (d + 1) t (E.m x) (E.m y)) w := by
  unfold ceq at h
  split at h
  · rename_i e bb hu
    cases bb <;> exact Evs.und hu (evs_pure _)
  · rename_i e aa hu
    exact Evs.und hu (evs_pure _)
  · rename_i e a b' hu
    split at h
    · rename_i n hn
      split at h
      · rename_i hb
        obtain ⟨hn0, hb⟩ := hb
        refine Evs.und hu ?_
        refine (mute_sizeOf _).evs.ran (run_sizeOf hn w) ?_
        rw [if_pos hn0]
        unfold sameAddr
        rw [if_pos (by simp [hb])]
        exact evs_pure _
      · cases h
    · cases h
  · rename_i e n c bb n' c' hu
    cases bb <;> exact Evs.und hu (evs_pure _)
  · rename_i hu
    exact Evs.und hu (evs_pure _)
  · rename_i e e' bb hu
    cases bb <;> exact Evs.und hu (evs_pure _)
  · rename_i hu
    exact Evs.und hu (evs_pure _)
  · rename_i hu
    exact Evs.und hu (evs_pure _)
  · rename_i hu
    simp only [m_func]
    exact Evs.und hu (evs_pure _)
  · rename_i hu
    simp only [m_func]
    exact Evs.und hu (evs_pure _)
  · rename_i hu
    exact Evs.und hu (evs_pure _)
  · rename_i hu
    exact Evs.und hu (evs_pure _)
  · cases h
theorem eq_fin_evs {rd wr : Nat → Prop} {t : TypeId} {x y : Value} {ox oy : Operand} (hb1 : binOp .eql t x y = (do pure (.bool (← Op.equal t x y))))
    (hb2 : binOp .neq t x y = (do pure (.bool (!(← Op.equal t x y))))) (hg : ∀ op, eqGuard op t ox oy x y = pure ()) (he : Evs P rd wr (Op.equal t x y) w) :
    Evs P rd wr ((do eqGuard .eql t ox oy x y; binOp .eql t x y) : Sem Value) w ∧
    Evs P rd wr ((do eqGuard .neq t ox oy x y; binOp .neq t x y) : Sem Value) w := by
  simp only [hg, hb1, hb2]
  exact ⟨(evs_pure _).ran (a := ()) (w' := w) rfl (he.bind fun _ _ _ => evs_pure _), (evs_pure _).ran (a := ()) (w' := w) rfl (he.bind fun _ _ _ => evs_pure _)⟩
theorem eq_evs {t : TypeId} {x y : Value} {b : Bool} {rd wr : Nat → Prop} (h : ceq P t x y = some b) (ox oy : Operand) :
    Evs P rd wr ((do eqGuard .eql t ox oy (E.m x) (E.m y); binOp .eql t (E.m x) (E.m y)) : Sem Value) w ∧
    Evs P rd wr ((do eqGuard .neq t ox oy (E.m x) (E.m y); binOp .neq t (E.m x) (E.m y)) : Sem Value) w := by
  have he : Evs P rd wr (Op.equal t (E.m x) (E.m y)) w := equalIn_evs h 9999
  unfold ceq at h
  split at h
  · rename_i e bb hu
    cases bb <;> exact eq_fin_evs rfl rfl (fun op => by cases op <;> rfl) he
  · exact eq_fin_evs rfl rfl (fun op => by cases op <;> rfl) he
  · exact eq_fin_evs rfl rfl (fun op => by cases op <;> rfl) he
  · rename_i e n c bb n' c' hu
    cases bb <;> exact eq_fin_evs rfl rfl (fun op => by cases op <;> rfl) he
  · exact eq_fin_evs rfl rfl (fun op => by cases op <;> rfl) he
  · rename_i e e' bb hu
    cases bb <;> exact eq_fin_evs rfl rfl (fun op => by cases op <;> rfl) he
  · exact eq_fin_evs rfl rfl (fun op => by cases op <;> rfl) he
  · exact eq_fin_evs rfl rfl (fun op => by cases op <;> rfl) he
  · simp only [m_func] at he ⊢
    exact eq_fin_evs rfl rfl (fun op => by cases op <;> rfl) he
  · simp only [m_func] at he ⊢
    exact eq_fin_evs rfl rfl (fun op => by cases op <;> rfl) he
  · exact eq_fin_evs rfl rfl (fun op => by cases op <;> rfl) he
  · exact eq_fin_evs rfl rfl (fun op => by cases op <;> rfl) he
  · cases h
theorem pureOp_evs {ev : Ev} {ρ : Operand → Value} {rd wr : Nat → Prop} (h : EvOk E ev ρ) {o : Oper} (hs : ∀ cs b, o.op ≠ .select cs b) {v : Value} (hp : cpure P ev o = some v) : Evs P rd wr (execOp ρ o) w := by
  unfold cpure at hp
  split at hp
  · rename_i hall
    split at hp
    · rename_i u hrun
      split at hp
      · rename_i hpl
        have hcong : execOp ρ o = execOp (fun x => (ev x).getD undef) o := by
          apply execOp_congr o hs
          intro x hx
          have hx' := Array.all_eq_true_iff_forall_mem.1 hall x hx
          unfold okPlain at hx'
          split at hx'
          · rename_i v' hv
            rw [(h x v' hv).1, m_plain E hx', hv]
            rfl
          · cases hx'
        rw [hcong]
        exact Evs.of_pure hrun
      · cases hp
    · cases hp
  · cases hp
theorem callFunc_evs (hP : NoCount P) {f : FuncId} {fn : Func} (hf : P.funcs[f]? = some fn) (hb : fn.body.isSome = true) (args : Array Value) {rd wr : Nat → Prop} : Evs P rd wr (callFunc f args) w := by
  have h1 : ¬ fn.name = "runtime.NumGoroutine" := by simpa using hP f fn hf hb
  have h2 : ¬ fn.body = none := by intro h; rw [h] at hb; cases hb
  unfold callFunc
  refine mute_program.evs.ran (a := P) (w' := w) rfl ?_
  rw [hf]
  dsimp only
  rw [if_neg (by simpa using h1), if_neg (by simpa using h2)]
  exact evs_pure _
theorem method_evs {t : TypeId} {name : String} {f : FuncId} (h : cmethod P t name = some f) (v : Value) (n : Nat) {rd wr : Nat → Prop} : Evs P rd wr (method (n + 1) t v name) w := by
  unfold cmethod at h
  split at h
  · rename_i i hi
    split at h
    · rename_i m hm
      split at h
      · rename_i hp
        have hp' : m.path.toList = [] := List.isEmpty_iff.1 hp
        have hti : (typeInfo t).run P w = .ok i w := by simp [typeInfo, hi]
        split at h
        · rename_i g e hf hu
          unfold method
          refine (mute_typeInfo _).evs.ran hti ?_
          rw [hm]
          dsimp only
          rw [hp']
          refine Evs.ran (a := (t, Place.val v)) (w' := w) (evs_pure _) rfl ?_
          dsimp only
          rw [hf]
          dsimp only
          refine Evs.bind ?_ fun _ _ _ => evs_pure _
          unfold receiverAt
          exact Evs.und hu (evs_pure _)
        · cases h
        · rename_i g d hnp hf hu
          have hne : ∀ e, d ≠ .pointer e := fun e he => by
            subst he
            exact hnp _ rfl
          unfold method
          refine (mute_typeInfo _).evs.ran hti ?_
          rw [hm]
          dsimp only
          rw [hp']
          refine Evs.ran (a := (t, Place.val v)) (w' := w) (evs_pure _) rfl ?_
          dsimp only
          rw [hf]
          dsimp only
          refine Evs.bind ?_ fun _ _ _ => evs_pure _
          unfold receiverAt
          refine Evs.und hu ?_
          cases d <;> first | exact absurd rfl (hne _) | exact evs_pure _
        · cases h
      · cases h
    · cases h
  · cases h
theorem callMethod_evs (hP : NoCount P) {t : TypeId} {name : String} {f : FuncId} {fn : Func} (h : cmethod P t name = some f) (hf : P.funcs[f]? = some fn) (hb : fn.body.isSome = true) (v : Value) (args : Array Value) {rd wr : Nat → Prop} :
    Evs P rd wr (callMethod (.iface t v) name args) w := by
  obtain ⟨n, hn⟩ : ∃ n, P.types.size + Made.depth = n + 1 := ⟨P.types.size + Made.depth - 1, by have : 0 < Made.depth := by decide
                                                                                                omega⟩
  unfold callMethod
  dsimp only
  refine mute_program.evs.ran (a := P) (w' := w) rfl ?_
  rw [hn]
  refine (method_evs h v n).ran (run_method h v n w) ?_
  exact callFunc_evs hP hf hb _
theorem evs_v {s : Sem Value} {rd wr : Nat → Prop} (h : Evs P rd wr s w) : Evs P rd wr (do pure (.value (← s)) : Sem Next) w := h.bind fun _ _ _ => evs_pure _
theorem evs_u {s : Sem Unit} {rd wr : Nat → Prop} (h : Evs P rd wr s w) : Evs P rd wr (do s; pure .skip : Sem Next) w := h.bind fun _ _ _ => evs_pure _

/-! ### what package strings' Builder asks -/
theorem evs_loadBytes : ∀ (n : Nat) (a : Addr) (acc : ByteArray) {rd wr : Nat → Prop}, IsRow w a.block → rd a.block → Evs P rd wr (loadBytes a acc n) w
  | 0, _, _, _, _, _, _ => (mute_pure _).evs
  | n + 1, a, acc, rd, wr, h, hr => by
    unfold loadBytes
    refine (evs_load h hr).bind fun v w' hv => ?_
    rw [run_load_same h hv]
    split
    · exact evs_loadBytes n (a.add 1) _ (by rw [block_add]; exact h) (by rw [block_add]; exact hr)
    · exact (mute_stuck _).evs
theorem unsafe_evs (R : Rel P E N w) {src dst : TypeId} {a : Addr} {v : Value} {rd wr : Nat → Prop} (hx : Clo E.D (.pointer (some a))) (h : cunsafe P src dst a N = some v) : Evs P rd wr (convert src dst (E.m (.pointer (some a)))) w := by
  intro e he
  rw [(unsafe_ok R hx h).2.2 #[]] at he
  simp at he
theorem sliceData_evs {x v : Value} {rd wr : Nat → Prop} (ts : Array TypeId) (ty : TypeId) (hx : Clo E.D x) (h : csliceData x = some v) : Evs P rd wr (Builtin.unsafeSliceData_ ts ty #[E.m x]) w := by
  intro e he
  rw [(sliceData_ok (P := P) (w := w) ts ty hx h).2.2 #[]] at he
  simp at he
theorem unsafeString_evs (R : Rel P E N w) {pt it ty : TypeId} {a : Addr} {n : Int} {v : Value} (hx : Clo E.D (.pointer (some a))) (h : cunsafeString P pt a n N = some (v, N')) : Evs P (Rd E N) wr (Builtin.unsafeString_ #[pt, it] ty #[E.m (.pointer (some a)), .int .i64 n]) w := by
  unfold cunsafeString at h
  split at h
  rotate_left
  · cases h
  rename_i k off
  split at h
  rotate_left
  · cases h
  rename_i c e el hg
  have hk : E.D k := hx.1
  obtain ⟨h1, h2⟩ := R.isRow hk hg
  have hm : E.m (.pointer (some ⟨k, off, none⟩)) = .pointer (some ⟨E.f k, off + E.s k, none⟩) := rfl
  rw [hm]
  have hdef : Builtin.unsafeString_ #[pt, it] ty #[.pointer (some ⟨E.f k, off + E.s k, none⟩), .int .i64 n] =
      (do
        let n ← asInt (.int .i64 n)
        if n < 0 then runtimePanic (.error "unsafe.String: len out of range")
        if n > IntKind.i64.max then unsupported (.unsafePointer "String: a length above the largest int")
        if n = 0 then pure (.string .empty)
        else if ← variablesAt ⟨E.f k, off + E.s k, none⟩ (← elemOf pt) n.toNat then do
          let s ← loadBytes ⟨E.f k, off + E.s k, none⟩ .empty n.toNat
          freeze ⟨E.f k, off + E.s k, none⟩ n.toNat
          pure (.string s)
        else unsupported (.unsafePointer "String: not so many bytes at ptr")) := rfl
  rw [hdef]
  have hva : ∀ (u : TypeId) (m : Nat), Mute P (variablesAt ⟨E.f k, off + E.s k, none⟩ u m) := fun u m => by
    unfold variablesAt
    refine mute_program.bind fun _ => (mute_shape _).bind fun x => ?_
    split <;> exact mute_pure _
  have hvr : ∀ (u : TypeId) (m : Nat) {b : Bool} {w' : World}, (variablesAt ⟨E.f k, off + E.s k, none⟩ u m).run P w = .ok b w' → w' = w := fun u m {b w'} hr => by
    unfold variablesAt at hr
    simp only [Sem.run_bind, run_program, Result.andThen_ok, run_shape] at hr
    split at hr <;> simp at hr <;> exact hr.2.symm
  have her : ∀ {t : TypeId} {w' : World}, (elemOf pt).run P w = .ok t w' → w' = w := fun {t w'} hr => by
    unfold elemOf at hr
    simp only [Sem.run_bind] at hr
    cases hu : (underlying pt).run P w with
    | halt hh w1 => rw [hu] at hr; cases hr
    | ok d w1 =>
      have : w1 = w := by
        unfold underlying at hu
        simp only [Sem.run_bind, run_program, Result.andThen_ok] at hu
        split at hu <;> simp at hu
        exact hu.2.symm
      subst this
      rw [hu, Result.andThen_ok] at hr
      split at hr <;> simp at hr <;> exact hr.2.symm
  refine (mute_asInt _).evs.ran (a := n) (w' := w) (by simp [asInt, asIntOf]) ?_
  by_cases c1 : n < 0
  · rw [if_pos c1]
    exact ((mute_runtimePanic _).evs).bind fun _ w1 hr => by simp [runtimePanic] at hr
  · rw [if_neg c1]
    by_cases c2 : n > IntKind.i64.max
    · rw [if_pos c2]
      exact ((mute_unsupported _).evs).bind fun _ w1 hr => by simp at hr
    · rw [if_neg c2]
      by_cases c3 : n = 0
      · rw [if_pos c3]
        exact evs_pure _
      · rw [if_neg c3]
        refine (mute_elemOf pt).evs.bind fun t w1 hr1 => ?_
        obtain rfl := her hr1
        refine (hva _ _).evs.bind fun b w2 hr2 => ?_
        obtain rfl := hvr _ _ hr2
        cases b with
        | true =>
          rw [if_pos rfl]
          refine (evs_loadBytes _ _ _ h1 h2).bind fun s w3 _ => ?_
          exact (mute_freeze _ _).evs.bind fun _ _ _ => evs_pure _
        | false => exact (mute_unsupported _).evs
theorem near_makeNoZero (ps rs : Array TypeId) (n : Int) : Near P (Extern.BytealgMakeNoZero.makeNoZero ps rs #[.int .i64 n]) := by
  have hd : Extern.BytealgMakeNoZero.makeNoZero ps rs #[.int .i64 n] = (do
      let some t := rs[0]? | stuck "bytealg.MakeNoZero: no result type"
      let .slice elem ← underlying t | stuck "bytealg.MakeNoZero: slice type expected"
      if n < 0 || n > 2 ^ 48 then runtimePanic (.error "makeslice: len out of range")
      let cap ← choose (.appendCap n.toNat 0 elem)
      askRoom cap
      let bytes ← choose (.extern "internal/bytealg.MakeNoZero.bytes" 0)
      let a ← newRow elem (Extern.BytealgMakeNoZero.digits cap bytes #[])
      pure (.slice (some a) n.toNat cap)) := rfl
  rw [hd]
  repeat' (first | (with_reducible first | exact near_askRoom _ | exact (mute_pure _).near | exact (mute_stuck _).near | exact (mute_underlying _).near | exact (mute_newRow _ _).near | exact (mute_runtimePanic _).near | exact (mute_choose _).near) | (with_reducible refine Near.bind ?_ (fun _ => ?_)) | split | dsimp only)
theorem extern_evs {f : FuncId} {fn : Func} (hf : P.funcs[f]? = some fn) {args : List Value} {v : Value} {rd wr : Nat → Prop} (h : cextern P fn args N = some (v, N')) : Evs P rd wr (callFunc f (args.map E.m).toArray) w := by
  unfold cextern at h
  split at h
  rotate_left
  · cases h
  rename_i hb
  split at h
  rotate_left
  · cases h
  rename_i hn
  split at h
  rotate_left
  · cases h
  rename_i hname
  have hn' : Extern.findNext fn = none := by simpa using hn
  have key : ∀ {e : Array Value → Sem Value}, Extern.find fn = some e → Evs P rd wr (e (args.map E.m).toArray) w → Evs P rd wr (callFunc f (args.map E.m).toArray) w := by
    intro e he hev x hx
    rw [Go.Conc.events_callFunc_extern hf hname hb hn' he, Sem.events_acc] at hx
    rcases Array.mem_append.1 hx with hx | hx
    · simp at hx
      subst hx
      exact .inl ⟨f, rfl⟩
    · exact hev x hx
  split at h
  · rename_i h1
    split at h
    rotate_left
    · cases h
    rename_i x
    exact key (find_noEscape h1) (evs_pure (E.m x))
  · split at h
    rotate_left
    · cases h
    rename_i h1
    split at h
    rotate_left
    · cases h
    rename_i n
    exact key (find_makeNoZero h1) (near_makeNoZero _ _ n).evs

theorem call_evs (hP : NoCount P) (R : Rel P E N w) {ev : Ev} {ρ : Operand → Value} (h : EvOk E ev ρ) {o : Oper} {c : Call} (ho : o.op = .call c) {nx : CNx}
    (hc : ccall P ev o c N = some (nx, N')) : Evs P (Rd E N) (Wr E N N') (execOp ρ o) w := by
  unfold ccall at hc
  split at hc
  · rename_i b hcal
    split at hc
    · rename_i v hp
      exact pureOp_evs h (by simp [ho]) hp
    · split at hc
      · rename_i s x t xt ha ht
        obtain ⟨r, hr, he⟩ := Option.map_eq_some_iff.1 hc
        cases he
        obtain ⟨h1, h2⟩ := evL_ok h ha
        have e1 : c.args.map ρ = #[E.m s, E.m x] := by apply Array.ext'; simpa using h1
        have e2 : c.argTypes = #[t, xt] := by apply Array.ext'; simpa using ht
        simp only [execOp, ho, resolve, hcal, pure_bind, invoke, builtin, e1, e2]
        exact evs_v (append_evs R (h2 s (by simp)) (h2 x (by simp)) hr)
      · rename_i x t ha ht
        obtain ⟨v, hr, he⟩ := Option.map_eq_some_iff.1 hc
        cases he
        obtain ⟨h1, h2⟩ := evL_ok h ha
        have e1 : c.args.map ρ = #[E.m x] := by apply Array.ext'; simpa using h1
        have e2 : c.argTypes = #[t] := by apply Array.ext'; simpa using ht
        simp only [execOp, ho, resolve, hcal, pure_bind, invoke, builtin, e1, e2]
        exact evs_v (len_evs R (h2 x (by simp)) hr)
      · rename_i d x t t2 ha ht
        obtain ⟨r, hr, he⟩ := Option.map_eq_some_iff.1 hc
        cases he
        obtain ⟨h1, h2⟩ := evL_ok h ha
        have e1 : c.args.map ρ = #[E.m d, E.m x] := by apply Array.ext'; simpa using h1
        have e2 : c.argTypes = #[t, t2] := by apply Array.ext'; simpa using ht
        simp only [execOp, ho, resolve, hcal, pure_bind, invoke, builtin, e1, e2]
        exact evs_v (copy_evs R (h2 d (by simp)) (h2 x (by simp)) hr)
      · rename_i m k t t2 ha ht
        obtain ⟨r, hr, he⟩ := Option.map_eq_some_iff.1 hc
        cases he
        obtain ⟨h1, h2⟩ := evL_ok h ha
        have e1 : c.args.map ρ = #[E.m m, E.m k] := by apply Array.ext'; simpa using h1
        have e2 : c.argTypes = #[t, t2] := by apply Array.ext'; simpa using ht
        simp only [execOp, ho, resolve, hcal, pure_bind, invoke, builtin, e1, e2]
        exact evs_v (delete_evs R (h2 m (by simp)) hr)
      · rename_i x ha
        obtain ⟨v, hr, he⟩ := Option.map_eq_some_iff.1 hc
        cases he
        obtain ⟨h1, h2⟩ := evL_ok h ha
        have e1 : c.args.map ρ = #[E.m x] := by apply Array.ext'; simpa using h1
        simp only [execOp, ho, resolve, hcal, pure_bind, invoke, builtin, e1]
        exact evs_v (sliceData_evs _ _ (h2 x (by simp)) hr)
      · rename_i a n pt it ha ht
        obtain ⟨r, hr, he⟩ := Option.map_eq_some_iff.1 hc
        cases he
        obtain ⟨h1, h2⟩ := evL_ok h ha
        have e1 : c.args.map ρ = #[E.m (.pointer (some a)), .int .i64 n] := by apply Array.ext'; rw [Array.toList_map]; exact h1
        have e2 : c.argTypes = #[pt, it] := by apply Array.ext'; simpa using ht
        simp only [execOp, ho, resolve, hcal, pure_bind, invoke, builtin, e1, e2]
        exact evs_v (unsafeString_evs R (h2 (.pointer (some a)) (by simp)) hr)
      · cases hc
  · rename_i fo hcal
    split at hc
    · rename_i f p q args hf ha
      split at hc
      · rename_i fn hfn
        split at hc
        · rename_i hb
          cases hc
          obtain ⟨h1, h2⟩ := evL_ok h ha
          obtain ⟨hfv, hfc⟩ := h fo _ hf
          have e1 : c.args.map ρ = (args.map E.m).toArray := by apply Array.ext'; simpa using h1
          have e2 : E.m (.func (.func f) p q) = .func (.func f) (p.map E.m) (q.map E.m) := m_func E (.func f) p q
          simp only [execOp, ho, resolve, hcal, hfv, e2, Deferred.ofValue, pure_bind, invoke, e1]
          exact callFunc_evs hP hfn hb _
        · split at hc
          · rename_i v hp
            exact pureOp_evs h (by simp [ho]) hp
          · obtain ⟨r, hr, e'⟩ := Option.map_eq_some_iff.1 hc
            obtain ⟨h1, h2⟩ := evL_ok h ha
            obtain ⟨hfv, hfc⟩ := h fo _ hf
            have e1 : c.args.map ρ = (args.map E.m).toArray := by apply Array.ext'; simpa using h1
            have e2 : E.m (.func (.func f) p q) = .func (.func f) (p.map E.m) (q.map E.m) := m_func E (.func f) p q
            have e3 : ((p.toList ++ args ++ q.toList).map E.m).toArray = p.map E.m ++ (args.map E.m).toArray ++ q.map E.m := by apply Array.ext'; simp
            have := extern_evs (E := E) (w := w) (rd := Rd E N) (wr := Wr E N N') hfn hr
            rw [e3] at this
            simp only [execOp, ho, resolve, hcal, hfv, e2, Deferred.ofValue, pure_bind, invoke, e1]
            exact this
      · cases hc
    · rename_i l args hf ha
      split at hc
      · rename_i r hg
        split at hc
        · rename_i hlen
          cases hc
          obtain ⟨h1, h2⟩ := evL_ok h ha
          obtain ⟨hfv, hfc⟩ := h fo _ hf
          have hd : E.D l := hfc.1
          obtain ⟨⟨hl1, hl2⟩, hl3⟩ := R.blk l _ hd hg
          have e1 : c.args.map ρ = (args.map E.m).toArray := by apply Array.ext'; simpa using h1
          have e2 : E.m (.func (.yield l) #[] #[]) = .func (.yield (E.f l)) #[] #[] := by rw [m_func]; simp [mvFn]
          simp only [execOp, ho, resolve, hcal, hfv, e2, Deferred.ofValue, pure_bind, invoke, e1]
          unfold Instr.yield
          refine Evs.bind ?_ fun r' w' _ => Mute.evs ?_
          · unfold Instr.getLoop
            refine (evs_getObj hl3 rfl ⟨l, hd, live_of hg rfl, rfl⟩).ran (run_getObj_ok hl3 (by simp)) ?_
            exact evs_pure _
          · split
            · exact (mute_stuck _).bind fun _ => mute_pure _
            · exact mute_pure _
        · cases hc
      · cases hc
    · rename_i ti name p q args hf ha
      split at hc
      · rename_i ms t v rest hu hl
        split at hc
        · rename_i f hm
          split at hc
          · rename_i fn hfn
            split at hc
            · rename_i hb
              cases hc
              obtain ⟨h1, h2⟩ := evL_ok h ha
              obtain ⟨hfv, hfc⟩ := h _ _ hf
              have e1 : c.args.map ρ = (args.map E.m).toArray := by apply Array.ext'; simpa using h1
              have e2 : E.m (.func (.methodOf ti name) ⟨p⟩ ⟨q⟩) = .func (.methodOf ti name) (p.map E.m).toArray (q.map E.m).toArray := by
                rw [m_func]
                simp [mvFn]
              have e0 : ((p.map E.m).toArray ++ (args.map E.m).toArray : Array Value) = (.iface t (E.m v) :: rest.map E.m).toArray := by
                apply Array.ext'
                have : p.map E.m ++ args.map E.m = (p ++ args).map E.m := by simp
                simp only [Array.toList_append, this, hl, List.map_cons]
                rfl
              have e3 : ((.iface t (E.m v) :: rest.map E.m).toArray : Array Value)[0]? = some (.iface t (E.m v)) := by simp
              simp only [execOp, ho, resolve, hcal, hfv, e2, Deferred.ofValue, pure_bind, invoke, e1, e0, e3]
              refine Evs.und hu ?_
              exact callMethod_evs hP hm hfn hb _ _
            · cases hc
          · cases hc
        · cases hc
      · cases hc
    · cases hc
  · rename_i r name hcal
    split at hc
    · rename_i t v args hr ha
      split at hc
      · rename_i f hm
        split at hc
        · rename_i fn hfn
          split at hc
          · rename_i hb
            cases hc
            obtain ⟨h1, h2⟩ := evL_ok h ha
            obtain ⟨hrv, hrc⟩ := h r _ hr
            have e2 : E.m (.iface t v) = .iface t (E.m v) := rfl
            have e1 : c.args.map ρ = (args.map E.m).toArray := by apply Array.ext'; simpa using h1
            have e3 : (#[E.m (.iface t v)] ++ (args.map E.m).toArray : Array Value)[0]? = some (.iface t (E.m v)) := by simp [e2]
            simp only [execOp, ho, resolve, hcal, pure_bind, invoke, e1, hrv, e3]
            exact callMethod_evs hP hm hfn hb _ _
          · cases hc
        · cases hc
      · cases hc
    · cases hc
theorem cop_evs' (hP : NoCount P) (R : Rel P E N w) {ev : Ev} {ρ : Operand → Value} (h : EvOk E ev ρ) {o : Oper} {nx : CNx} (hc : cop P ev o N = some (nx, N')) :
    Evs P (Rd E N) (Wr E N N') (execOp ρ o) w := by
  unfold cop at hc
  split at hc
  · rename_i x ho
    simp only [execOp, ho]; exact evs_pure _
  · rename_i x ho
    simp only [execOp, ho]; exact evs_pure _
  · rename_i c a b ho
    simp only [execOp, ho]
    exact (mute_asBool _).evs.bind fun _ _ _ => evs_pure _
  · rename_i e ho
    simp only [execOp, ho]; exact evs_v (mute_alloc _).evs
  · rename_i e x ho
    simp only [execOp, ho]; exact evs_v (mute_box _ _).evs
  · rename_i t parts ho
    simp only [execOp, ho]; exact evs_v (mute_build _ _).evs
  · rename_i t n parts ho
    simp only [execOp, ho]; exact evs_v (mute_buildSlice _ _ _).evs
  · rename_i t x ho
    simp only [Option.bind_eq_some_iff, Option.map_eq_some_iff] at hc
    obtain ⟨a, ha, v, hr, e'⟩ := hc
    cases e'
    obtain ⟨h1, h2⟩ := h x a ha
    simp only [execOp, ho, h1]; exact evs_v (load_evs R h2 hr)
  · rename_i t x y ho
    simp only [Option.bind_eq_some_iff, Option.map_eq_some_iff] at hc
    obtain ⟨a, ha, b, hb, N1, hr, e'⟩ := hc
    cases e'
    obtain ⟨h1, h2⟩ := h x a ha
    obtain ⟨h3, h4⟩ := h y b hb
    simp only [execOp, ho, h1, h3]; exact evs_u (store_evs R h2 hr _)
  · rename_i x ho
    simp only [Option.bind_eq_some_iff, Option.map_eq_some_iff] at hc
    obtain ⟨a, ha, v, hr, e'⟩ := hc
    cases e'
    obtain ⟨h1, h2⟩ := h x a ha
    unfold cnilCheck at hr
    split at hr
    · simp only [execOp, ho, h1]
      exact evs_pure _
    · rename_i f p q
      have e2 : E.m (.func (.func f) p q) = .func (.func f) (p.map E.m) (q.map E.m) := m_func E (.func f) p q
      simp only [execOp, ho, h1, e2]
      exact evs_pure _
    · cases hr
  · rename_i op t x y yt ho
    split at hc
    · rename_i v hp
      exact pureOp_evs h (by simp [ho]) hp
    · split at hc
      · rename_i a b ha hb
        obtain ⟨r, hr, e'⟩ := Option.map_eq_some_iff.1 hc
        cases e'
        obtain ⟨h1, h2⟩ := h x a ha
        obtain ⟨h3, h4⟩ := h y b hb
        simp only [execOp, ho, h1, h3]; exact evs_v (eq_evs hr x y).1
      · rename_i a b ha hb
        obtain ⟨r, hr, e'⟩ := Option.map_eq_some_iff.1 hc
        cases e'
        obtain ⟨h1, h2⟩ := h x a ha
        obtain ⟨h3, h4⟩ := h y b hb
        simp only [execOp, ho, h1, h3]; exact evs_v (eq_evs hr x y).2
      · cases hc
  · rename_i ho
    obtain ⟨v, hp, e'⟩ := Option.map_eq_some_iff.1 hc
    exact pureOp_evs h (by simp [ho]) hp
  · rename_i src dst x ho
    split at hc
    · rename_i v hp
      exact pureOp_evs h (by simp [ho]) hp
    · split at hc
      · rename_i s hs
        obtain ⟨r, hr, e'⟩ := Option.map_eq_some_iff.1 hc
        cases e'
        obtain ⟨h1, h2⟩ := h x _ hs
        simp only [execOp, ho, h1]; exact evs_v (bytesOf_evs hr)
      · rename_i a n c hs
        split at hc
        · rename_i v hr
          cases hc
          obtain ⟨h1, h2⟩ := h x _ hs
          simp only [execOp, ho, h1]; exact evs_v (same_evs hr)
        · obtain ⟨v, hr, e'⟩ := Option.map_eq_some_iff.1 hc
          cases e'
          obtain ⟨h1, h2⟩ := h x _ hs
          simp only [execOp, ho, h1]; exact evs_v (stringOf_evs R h2 hr)
      · rename_i a hs
        obtain ⟨v, hr, e'⟩ := Option.map_eq_some_iff.1 hc
        cases e'
        obtain ⟨h1, h2⟩ := h x _ hs
        simp only [execOp, ho, h1]; exact evs_v (unsafe_evs R h2 hr)
      · cases hc
  · rename_i t x ho
    simp only [execOp, ho]; exact evs_v (mute_makeInterface _ _).evs
  · rename_i g p q ho
    simp only [execOp, ho]
    exact evs_v (evs_pure _)
  · rename_i t r ho
    simp only [execOp, ho]; exact evs_v (mute_makeMap _ _).evs
  · rename_i t l c ho
    simp only [execOp, ho]; exact evs_v (near_makeSlice _ _ _).evs
  · rename_i t x lo hi m ho
    simp only [execOp, ho]; exact evs_v (mute_sliceAt _ _ _ _ _).evs
  · rename_i t x i ho
    simp only [Option.bind_eq_some_iff, Option.map_eq_some_iff] at hc
    obtain ⟨a, ha, v, hr, e'⟩ := hc
    cases e'
    obtain ⟨h1, h2⟩ := h x a ha
    simp only [execOp, ho, h1]; exact evs_v (fieldAddr_evs hr)
  · rename_i t x i ho
    simp only [execOp, ho]; exact evs_v (mute_field _ _ _).evs
  · rename_i t x i ho
    simp only [execOp, ho]; exact evs_v (mute_indexAt _ _ _).evs
  · rename_i t x ho
    simp only [execOp, ho]; exact evs_v (mute_arrayAt _ _).evs
  · rename_i ho
    obtain ⟨v, hp, e'⟩ := Option.map_eq_some_iff.1 hc
    exact pureOp_evs h (by simp [ho]) hp
  · rename_i t x i ok ho
    simp only [Option.bind_eq_some_iff, Option.map_eq_some_iff] at hc
    obtain ⟨a, ha, b, hb, v, hr, e'⟩ := hc
    cases e'
    obtain ⟨h1, h2⟩ := h x a ha
    obtain ⟨h3, _⟩ := h i b hb
    simp only [execOp, ho, h1, h3]; exact evs_v (lookup_evs R h2 hr)
  · rename_i t m k x ho
    simp only [Option.bind_eq_some_iff, Option.map_eq_some_iff] at hc
    obtain ⟨a, ha, b, hb, c, hcc, N1, hr, e'⟩ := hc
    cases e'
    obtain ⟨h1, h2⟩ := h m a ha
    obtain ⟨h3, _⟩ := h k b hb
    simp only [execOp, ho, h1, h3]; exact evs_u (mapUpdate_evs R h2 hr _)
  · rename_i t m k x ho
    simp only [Option.bind_eq_some_iff, Option.map_eq_some_iff] at hc
    obtain ⟨a, ha, b, hb, c, hcc, N1, hr, e'⟩ := hc
    cases e'
    obtain ⟨h1, h2⟩ := h m a ha
    obtain ⟨h3, _⟩ := h k b hb
    simp only [execOp, ho, h1, h3]; exact evs_u (mapUpdate_evs R h2 hr _)
  · rename_i x xt asserted ok ho
    simp only [execOp, ho]; exact evs_v (mute_typeAssert _ _ _ _).evs
  · rename_i t i ho
    simp only [execOp, ho]; exact evs_v (mute_extract _ _).evs
  · rename_i t x ho
    simp only [Option.bind_eq_some_iff, Option.map_eq_some_iff] at hc
    obtain ⟨a, ha, ⟨v, N1⟩, hr, e'⟩ := hc
    cases e'
    obtain ⟨h1, h2⟩ := h x a ha
    simp only [execOp, ho, h1]; exact evs_v (range_evs R h2 hr)
  · rename_i x b ho
    simp only [Option.bind_eq_some_iff, Option.map_eq_some_iff] at hc
    obtain ⟨a, ha, ⟨v, N1⟩, hr, e'⟩ := hc
    cases e'
    obtain ⟨h1, h2⟩ := h x a ha
    simp only [execOp, ho, h1]; exact evs_v (next_evs R o.type h2 hr)
  · rename_i t m k ho
    simp only [Option.bind_eq_some_iff, Option.map_eq_some_iff] at hc
    obtain ⟨a, ha, b, hb, ⟨v, N1⟩, hr, e'⟩ := hc
    cases e'
    obtain ⟨h1, h2⟩ := h m a ha
    obtain ⟨h3, _⟩ := h k b hb
    simp only [execOp, ho, h1, h3]; exact evs_v (mapEntry_evs R h2 hr)
  · rename_i t m s x ho
    simp only [Option.bind_eq_some_iff, Option.map_eq_some_iff] at hc
    obtain ⟨a, ha, b, hb, c, hcc, N1, hr, e'⟩ := hc
    cases e'
    obtain ⟨h1, h2⟩ := h m a ha
    obtain ⟨h3, _⟩ := h s b hb
    simp only [execOp, ho, h1, h3]; exact evs_u (entryStore_evs R h2 hr _)
  · rename_i x ho
    simp only [Option.bind_eq_some_iff, Option.map_eq_some_iff] at hc
    obtain ⟨a, ha, v, hr, e'⟩ := hc
    cases e'
    obtain ⟨h1, h2⟩ := h x a ha
    simp only [execOp, ho, h1]; exact evs_v (entry_evs R h2 hr)
  · rename_i c ho
    exact call_evs hP R h ho hc
  · cases hc
/-- What is touched is leaned on; what is written may be written. -/
theorem Evs.ok {α : Type} {s : Sem α} {O W : Nat → Prop} {lo : Nat} (H : Own O W lo E N w) (hlo : lo ≤ N'.wm) (h : Evs P (Rd E N) (Wr E N N') s w) {w' : World} (hs : w.heap.size ≤ w'.heap.size) : EvOk' O W w w' (s.events P w #[]) := by
  intro e he
  rcases h e he with h1 | h1 | ⟨b, h1, h2, ⟨k, hk, hl, rfl⟩, h4⟩
  · exact .inl h1
  · exact .inr (.inl h1)
  · have := H.img k hk hl
    refine .inr (.inr ⟨E.f k, h1, h2, Nat.lt_of_lt_of_le (H.lt _ this) hs, .inl this, fun hw => ?_⟩)
    obtain ⟨j, hj, hlj, hwm, e⟩ := h4 hw
    rw [← e]
    exact .inl (H.wri j hj hlj (Nat.le_trans hlo hwm))
end
theorem cop_evs {P : Program} (hP : NoCount P) {E E' : Env} {N N' : CH} {w w' : World} {O W : Nat → Prop} {lo : Nat} (R : Rel P E N w) (H : Own O W lo E N w) {ev : Ev} {ρ : Operand → Value} (h : EvOk E ev ρ) {o : Oper} {nx : CNx} (hc : cop P ev o N = some (nx, N')) (hlo : lo ≤ N'.wm) (R' : Rel P E' N' w') (hrun : (execOp ρ o).run P w = .ok (nx.real E') w') :
    EvOk' O W w w' ((execOp ρ o).events P w #[]) := by
  obtain ⟨E1, w1, R1, X1, _, hrun1⟩ := cop_ok hP R h hc
  have : w1 = w' := by
    rw [hrun1] at hrun
    exact (Result.ok.inj hrun).2
  exact (cop_evs' hP R h hc).ok H hlo (by rw [← this]; exact X1.hsize)
end Go.Eng

