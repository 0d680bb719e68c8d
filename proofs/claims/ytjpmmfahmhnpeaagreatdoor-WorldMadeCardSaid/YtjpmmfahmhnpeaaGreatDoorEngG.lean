/-
  The engine, part G: maps, makes, conversions that touch memory, interface and function values, len, copy.
-/
import Derived.Test.YtjpmmfahmhnpeaaGreatDoorEngF
import Derived.MapKept
import Derived.Laws.MakeOwn
import Derived.Laws.IdiomStrings
import Derived.Laws.BytesString
namespace Go.Eng
set_option linter.unusedSimpArgs false
set_option linter.unusedVariables false
open Go.MapKept

/-! ### maps -/
def isKey : TypeDesc → Value → Bool
  | .bool, .bool _ => true
  | .int k, .int k' _ => k' == k
  | .string, .string _ => true
  | _, _ => false
theorem isKey_spec {d : TypeDesc} {v : Value} (h : isKey d v = true) : IsKey d v ∧ plain v = true := by
  cases d <;> cases v <;> first | (simp [isKey] at h; done) | (simp_all [isKey, IsKey, plain])
/-- Where a key stands. -/
def cfindi (d : TypeDesc) (k : Value) : List (Value × Value × Nat) → Nat → Option (Option (Nat × (Value × Value × Nat)))
  | [], _ => some none
  | e :: es, i => match Instr.sameNow d k e.1 with
    | some true => some (some (i, e))
    | some false => cfindi d k es (i + 1)
    | none => none
theorem m_key (E : Env) {d : TypeDesc} {k : Value} (h : isKey d k = true) : E.m k = k := m_plain E (isKey_spec h).2
theorem sameBits_of {d : TypeDesc} {a b : Value} (ha : isKey d a = true) (h : Instr.sameNow d a b = some true) (n : Nat) : Instr.sameBits n b a = true := by
  cases d <;> cases a <;> cases b <;> simp_all [Instr.sameNow, Instr.sameBits, isKey, bytes_beq]
theorem findi_ok (E : Env) {d : TypeDesc} {k : Value} (hk : isKey d k = true) : ∀ (es : List (Value × Value × Nat)) (i : Nat) {r : Option (Nat × (Value × Value × Nat))}, cfindi d k es i = some r →
    Instr.findNow d k (es.map (mvE E)) i = some (r.map fun x => (x.1, E.m x.2.2.1)) ∧ ∀ x, r = some x → i ≤ x.1 ∧ es[x.1 - i]? = some x.2 ∧ Instr.sameBits 10000 x.2.1 k = true
  | [], i, r, h => by simp only [cfindi, Option.some.injEq] at h; subst h; exact ⟨rfl, fun x hx => by cases hx⟩
  | e :: es, i, r, h => by
    simp only [cfindi] at h
    simp only [List.map_cons, Instr.findNow]
    have hk' : (mvE E e).key = e.1 := rfl
    rw [hk']
    cases hs : Instr.sameNow d k e.1 with
    | none => simp [hs] at h
    | some b =>
      cases b with
      | true =>
        simp only [hs, Option.some.injEq] at h
        subst h
        exact ⟨rfl, fun x hx => by cases hx; exact ⟨Nat.le_refl _, by simp, sameBits_of hk hs _⟩⟩
      | false =>
        simp only [hs] at h
        obtain ⟨h1, h2⟩ := findi_ok E hk es (i + 1) h
        refine ⟨h1, fun x hx => ?_⟩
        obtain ⟨h3, h4, h5⟩ := h2 x hx
        refine ⟨by omega, ?_, h5⟩
        rw [show x.1 - i = (x.1 - (i + 1)) + 1 by omega, List.getElem?_cons_succ]
        exact h4
/-- Likewise of a key that is a struct or an array: each key that is there is asked. -/
def cask (P : Program) (kt : TypeId) (k : Value) : List (Value × Value × Nat) → Nat → Option (Option (Nat × (Value × Value × Nat)))
  | [], _ => some none
  | e :: es, i => match pureRun P (Op.equal kt k e.1) with
    | some true => if Instr.sameBits 10000 e.1 k = true then some (some (i, e)) else none
    | some false => cask P kt k es (i + 1)
    | none => none
theorem ask_ok (E : Env) {P : Program} {kt : TypeId} {k : Value} (w : World) : ∀ (es : List (Value × Value × Nat)) (i : Nat) {r : Option (Nat × (Value × Value × Nat))}, cask P kt k es i = some r →
    (Instr.findAsking kt k (es.map (mvE E)) i).run P w = .ok (r.map fun x => (x.1, E.m x.2.2.1)) w ∧ ∀ x, r = some x → i ≤ x.1 ∧ es[x.1 - i]? = some x.2 ∧ Instr.sameBits 10000 x.2.1 k = true
  | [], i, r, h => by simp only [cask, Option.some.injEq] at h; subst h; exact ⟨rfl, fun x hx => by cases hx⟩
  | e :: es, i, r, h => by
    simp only [cask] at h
    simp only [List.map_cons, Instr.findAsking]
    have hk' : (mvE E e).key = e.1 := rfl
    rw [hk']
    cases hs : pureRun P (Op.equal kt k e.1) with
    | none => simp [hs] at h
    | some b =>
      have hrun := pureRun_ok _ hs w
      simp only [Sem.run_bind, hrun, Result.andThen_ok]
      cases b with
      | true =>
        simp only [hs] at h
        split at h
        · rename_i hsb
          simp only [Option.some.injEq] at h
          subst h
          exact ⟨rfl, fun x hx => by cases hx; exact ⟨Nat.le_refl _, by simp, hsb⟩⟩
        · cases h
      | false =>
        simp only [hs] at h
        obtain ⟨h1, h2⟩ := ask_ok E w es (i + 1) h
        refine ⟨by simpa using h1, fun x hx => ?_⟩
        obtain ⟨h3, h4, h5⟩ := h2 x hx
        refine ⟨by omega, ?_, h5⟩
        rw [show x.1 - i = (x.1 - (i + 1)) + 1 by omega, List.getElem?_cons_succ]
        exact h4
def manyCells : TypeDesc → Bool
  | .struct _ | .array _ _ => true
  | _ => false
theorem findNow_many {d : TypeDesc} (h : manyCells d = true) (k : Value) (l : List MapEntry) (i : Nat) : Instr.findNow d k l i = if l.isEmpty = true then some none else none := by
  cases l with
  | nil => rfl
  | cons e l => cases d <;> simp [manyCells] at h <;> simp [Instr.findNow, Instr.sameNow]
/-- Where a key of a map stands (none: nowhere), if the engine can tell. -/
def ckey (P : Program) (kt : TypeId) (k : Value) (es : List (Value × Value × Nat)) : Option (Option (Nat × (Value × Value × Nat))) :=
  match P.underlying kt with
  | some d =>
    if isKey d k = true then cfindi d k es 0
    else if manyCells d = true ∧ plain k = true ∧ (pureRun P (Instr.checkKey true 10000 kt k)).isSome = true ∧ (pureRun P (Instr.checkKey false 10000 kt k)).isSome = true then cask P kt k es 0
    else none
  | none => none
theorem ckey_ok {P : Program} {kt : TypeId} {k : Value} {es : List (Value × Value × Nat)} {r : Option (Nat × (Value × Value × Nat))} (h : ckey P kt k es = some r) (E : Env) :
    plain k = true ∧ (∀ b w, (Instr.checkKey b 10000 kt k).run P w = .ok () w) ∧ (∀ w, (Instr.findKey kt k (es.map (mvE E))).run P w = .ok (r.map fun x => (x.1, E.m x.2.2.1)) w) ∧
      ∀ x, r = some x → es[x.1]? = some x.2 ∧ Instr.sameBits 10000 x.2.1 k = true := by
  unfold ckey at h
  split at h
  · rename_i d hd
    split at h
    · rename_i hk
      obtain ⟨h1, h2⟩ := findi_ok E hk es 0 h
      exact ⟨(isKey_spec hk).2, fun b w => run_checkKey hd (isKey_spec hk).1 b 9999, fun w => run_findKey hd h1, fun x hx => by obtain ⟨_, h3, h4⟩ := h2 x hx; exact ⟨by simpa using h3, h4⟩⟩
    · split at h
      · rename_i hm
        obtain ⟨hm, hp, ht, hf⟩ := hm
        have hck : ∀ b w, (Instr.checkKey b 10000 kt k).run P w = .ok () w := by
          intro b w
          cases b with
          | true =>
            obtain ⟨u, hu⟩ := Option.isSome_iff_exists.1 ht
            exact pureRun_ok _ hu w
          | false =>
            obtain ⟨u, hu⟩ := Option.isSome_iff_exists.1 hf
            exact pureRun_ok _ hu w
        refine ⟨hp, hck, fun w => ?_, fun x hx => ?_⟩
        · obtain ⟨h1, _⟩ := ask_ok E w es 0 h
          simp only [Instr.findKey, Sem.run_bind, run_underlying hd, Result.andThen_ok, findNow_many hm]
          cases es with
          | nil =>
            simp only [cask, Option.some.injEq] at h
            subst h
            rfl
          | cons e es => simpa using h1
        · obtain ⟨_, h2⟩ := ask_ok E (default : World) es 0 h
          obtain ⟨_, h3, h4⟩ := h2 x hx
          exact ⟨by simpa using h3, h4⟩
      · cases h
  · cases h
def mapOf (N : CH) (x : Value) : Option (List (Value × Value × Nat)) :=
  match x with
  | .map none => some []
  | .map (some r) => match N.get r with
    | some (.map es _) => some es
    | _ => none
  | _ => none
def clookup (P : Program) (t : TypeId) (x k : Value) (ok : Bool) (N : CH) : Option Value :=
  match P.underlying t with
  | some (.map kt et) =>
    match mapOf N x, zeroT P et with
    | some es, some z =>
      match ckey P kt k es with
      | some (some y) => some (if ok = true then .tuple #[y.2.2.1, .bool true] else y.2.2.1)
      | some none => some (if ok = true then .tuple #[z, .bool false] else z)
      | none => none
    | _, _ => none
  | _ => none
theorem mapOf_ok {P : Program} {E : Env} {N : CH} {w : World} (R : Rel P E N w) {x : Value} {es : List (Value × Value × Nat)} (hx : Clo E.D x) (h : mapOf N x = some es) :
    ((E.m x = .map none ∧ es = []) ∨ ∃ r cl, E.m x = .map (some r) ∧ w.heap[r]? = some (.map (es.map (mvE E)).toArray cl)) ∧ (∀ e ∈ es, plain e.1 = true ∧ Clo E.D e.2.1) := by
  unfold mapOf at h
  split at h
  · cases h
    exact ⟨.inl ⟨rfl, rfl⟩, by simp⟩
  · rename_i r
    split at h
    · rename_i es' cl hg
      cases h
      obtain ⟨h1, h2⟩ := R.blk r _ hx hg
      exact ⟨.inr ⟨E.f r, cl, rfl, h2⟩, h1⟩
    · cases h
  · cases h
theorem lookup_ok {P : Program} {E : Env} {N : CH} {w : World} (R : Rel P E N w) {t : TypeId} {x k v : Value} {ok : Bool} (hx : Clo E.D x) (h : clookup P t x k ok N = some v) :
    (Instr.lookup t (E.m x) (E.m k) ok).run P w = .ok (E.m v) w ∧ Clo E.D v := by
  unfold clookup at h
  split at h
  · rename_i kt et hu
    split at h
    · rename_i es z hes hz
      obtain ⟨hrun, hcl⟩ := mapOf_ok R hx hes
      obtain ⟨hzr, hzp⟩ := run_zeroT hz w
      split at h
      · rename_i y hf
        obtain ⟨hkp, hck, hfk, hy⟩ := ckey_ok hf E
        obtain ⟨he, _⟩ := hy y rfl
        have hem := List.mem_of_getElem? he
        rw [m_plain E hkp]
        simp only [Option.some.injEq] at h
        subst h
        refine ⟨?_, ?_⟩
        · rcases hrun with ⟨_, rfl⟩ | ⟨r, cl, hm, hh⟩
          · simp at he
          · unfold Instr.lookup
            simp only [hm, Sem.run_bind, run_underlying hu, Result.andThen_ok, run_getObj_map hh, Sem.run_pure, hck, hfk, Option.map_some]
            cases ok <;> simp [Env.m, mv_tuple, mv]
        · cases ok with
          | true => exact Clo_tuple.2 (by simp [(hcl y.2 hem).2, Clo])
          | false => exact (hcl y.2 hem).2
      · rename_i hf
        obtain ⟨hkp, hck, hfk, _⟩ := ckey_ok hf E
        rw [m_plain E hkp]
        simp only [Option.some.injEq] at h
        subst h
        refine ⟨?_, ?_⟩
        · have hfin : (if ok = true then Value.tuple #[z, .bool false] else z) = E.m (if ok = true then .tuple #[z, .bool false] else z) := by
            cases ok
            · simp [m_plain E hzp]
            · exact (m_plain E (by simp [plain, plainL, hzp])).symm
          rw [← hfin]
          rcases hrun with ⟨hm, rfl⟩ | ⟨r, cl, hm, hh⟩
          · simp only [List.map_nil] at hfk
            unfold Instr.lookup
            simp only [hm, Sem.run_bind, run_underlying hu, Result.andThen_ok, Sem.run_pure, hck, hfk, Option.map_none, hzr]
          · unfold Instr.lookup
            simp only [hm, Sem.run_bind, run_underlying hu, Result.andThen_ok, run_getObj_map hh, Sem.run_pure, hck, hfk, Option.map_none, hzr]
        · cases ok with
          | true => exact Clo_plain _ _ (by simp [plain, plainL, hzp])
          | false => exact Clo_plain _ _ hzp
      · cases h
    · cases h
  · cases h

theorem set_mvE (E : Env) {es : List (Value × Value × Nat)} {j : Nat} {e e' : Value × Value × Nat} (g : MapEntry → MapEntry) (he : es[j]? = some e) (hg : g (mvE E e) = mvE E e') :
    (es.map (mvE E)).toArray.modify j g = ((es.set j e').map (mvE E)).toArray := by
  have hjl : j < es.length := by
    rcases Nat.lt_or_ge j es.length with h1 | h1
    · exact h1
    · simp [List.getElem?_eq_none h1] at he
  have hej : es[j] = e := by
    have h0 := List.getElem?_eq_getElem hjl
    rw [he] at h0
    exact (Option.some.inj h0).symm
  apply Array.ext'
  apply List.ext_getElem?
  intro m
  simp only [Array.toList_modify, List.map_set]
  by_cases hm : j = m
  · subst hm
    simp [List.getElem?_modify, he, hjl, hej, hg]
  · simp [List.getElem?_modify, hm]
/-- A store under a key: in the place of the one that is there. -/
def cmapUpdate (P : Program) (t : TypeId) (x k v : Value) (N : CH) : Option CH :=
  match P.underlying t, x with
  | some (.map kt _), .map (some r) =>
    match N.get r with
    | some (.map es cl) =>
      match ckey P kt k es with
      | some (some y) => N.wset r (.map (es.set y.1 (k, v, y.2.2.2)) cl)
      | some none => N.wset r (.map (es ++ [(k, v, cl)]) (cl + 1))
      | none => none
    | _ => none
  | _, _ => none
theorem heap_setObj (w : World) (b : Nat) (o : Obj) (hb : b < w.heap.size) : ({ w with heap := w.heap.setIfInBounds b o } : World).heap[b]? = some o := by
  simp [Array.getElem?_setIfInBounds, hb]
theorem heap_setObj_other (w : World) (b j : Nat) (o : Obj) (hj : j ≠ b) : ({ w with heap := w.heap.setIfInBounds b o } : World).heap[j]? = w.heap[j]? := by
  simp [Array.getElem?_setIfInBounds, Ne.symm hj]
theorem Rel.setMap {P : Program} {E : Env} {N : CH} {w : World} (R : Rel P E N w) {r : Nat} {es es' : List (Value × Value × Nat)} {cl cl' : Nat} (hr : E.D r) (hwm : True) (hg : N.get r = some (.map es cl)) (h' : ∀ e ∈ es', plain e.1 = true ∧ Clo E.D e.2.1) :
    Rel P E (N.set r (.map es' cl')) { w with heap := w.heap.setIfInBounds (E.f r) (.map (es'.map (mvE E)).toArray cl') } ∧
      Ext E N w E (N.set r (.map es' cl')) { w with heap := w.heap.setIfInBounds (E.f r) (.map (es'.map (mvE E)).toArray cl') } := by
  obtain ⟨_, h2⟩ := R.blk r _ hr hg
  have hb : E.f r < w.heap.size := (Array.getElem?_eq_some_iff.1 h2).1
  refine R.change hr hwm ⟨_, hg, rfl⟩ ?_ (fun j hj => heap_setObj_other w _ j _ hj) (by simp) rfl rfl rfl
  exact ⟨h', by rw [heap_setObj w _ _ hb]⟩
theorem mapUpdate_ok {P : Program} {E : Env} {N N' : CH} {w : World} (R : Rel P E N w) {t : TypeId} {x k v : Value} (hx : Clo E.D x) (hv : Clo E.D v) (h : cmapUpdate P t x k v N = some N') :
    ∃ w', Rel P E N' w' ∧ Ext E N w E N' w' ∧ (Instr.mapUpdate t (E.m x) (E.m k) (E.m v)).run P w = .ok () w' := by
  unfold cmapUpdate at h
  split at h
  · rename_i kt et r hu
    split at h
    · rename_i es cl hg
      obtain ⟨hcl, h2⟩ := R.blk r _ hx hg
      have hm : E.m (.map (some r)) = .map (some (E.f r)) := rfl
      split at h
      · rename_i y hf
        obtain ⟨hkp, hck, hfk, hy⟩ := ckey_ok hf E
        obtain ⟨he, hsb⟩ := hy y rfl
        rw [hm, m_plain E hkp]
        obtain ⟨hwm, rfl⟩ := CH.wset_some h
        obtain ⟨R', X⟩ := R.setMap hx hwm hg (es' := es.set y.1 (k, v, y.2.2.2)) (cl' := cl) (by
          intro e' he'
          rcases List.mem_or_eq_of_mem_set he' with h1 | h1
          · exact hcl e' h1
          · subst h1
            exact ⟨hkp, hv⟩)
        refine ⟨_, R', X, ?_⟩
        have hkey : (((es.map (mvE E)).toArray[y.1]?).map (·.key)).getD k = y.2.1 := by simp [he, mvE]
        unfold Instr.mapUpdate
        simp only [Sem.run_bind, run_underlying hu, Result.andThen_ok, run_getObj_map h2, hck, hfk, Option.map_some, hkey]
        simp only [Instr.keyThatStays, hsb, if_true, Sem.run_pure, Result.andThen_ok]
        rw [run_setObj_map _ h2, set_mvE E (fun e => { e with key := k, val := E.m v }) he (e' := (k, v, y.2.2.2)) rfl]
      · rename_i hf
        obtain ⟨hkp, hck, hfk, _⟩ := ckey_ok hf E
        rw [hm, m_plain E hkp]
        obtain ⟨hwm, rfl⟩ := CH.wset_some h
        obtain ⟨R', X⟩ := R.setMap hx hwm hg (es' := es ++ [(k, v, cl)]) (cl' := cl + 1) (by
          intro e he
          rcases List.mem_append.1 he with h1 | h1
          · exact hcl e h1
          · simp only [List.mem_singleton] at h1
            subst h1
            exact ⟨hkp, hv⟩)
        refine ⟨_, R', X, ?_⟩
        unfold Instr.mapUpdate
        simp only [Sem.run_bind, run_underlying hu, Result.andThen_ok, run_getObj_map h2, hck, hfk, Option.map_none]
        rw [run_setObj_map _ h2]
        congr 3
        congr 1
        apply Array.ext'
        simp [mvE]
      · cases h
    · cases h
  · cases h

theorem eraseIdx_mapL {α β : Type} (f : α → β) : ∀ (l : List α) (j : Nat), (l.map f).eraseIdx j = (l.eraseIdx j).map f
  | [], _ => rfl
  | _ :: _, 0 => rfl
  | a :: l, j + 1 => by simp [eraseIdx_mapL f l j]
def cdelete (P : Program) (t : TypeId) (x k : Value) (N : CH) : Option CH :=
  match P.underlying t, x with
  | some (.map kt _), .map none => (ckey P kt k []).map fun _ => N
  | some (.map kt _), .map (some r) =>
    match N.get r with
    | some (.map es cl) =>
      match ckey P kt k es with
      | some (some y) => N.wset r (.map (es.eraseIdx y.1) cl)
      | some none => N.wset r (.map es cl)
      | none => none
    | _ => none
  | _, _ => none
theorem delete_ok {P : Program} {E : Env} {N N' : CH} {w : World} (R : Rel P E N w) {t t2 ty : TypeId} {x k : Value} (hx : Clo E.D x) (h : cdelete P t x k N = some N') :
    ∃ w', Rel P E N' w' ∧ Ext E N w E N' w' ∧ (Builtin.delete_ #[t, t2] ty #[E.m x, E.m k]).run P w = .ok (.tuple #[]) w' := by
  unfold cdelete at h
  split at h
  · rename_i kt et hu
    obtain ⟨r, hf, rfl⟩ := Option.map_eq_some_iff.1 h
    obtain ⟨hkp, hck, _, _⟩ := ckey_ok hf E
    refine ⟨w, R, Ext.refl _ _ _, ?_⟩
    have hm : E.m (.map none) = .map none := rfl
    rw [hm, m_plain E hkp]
    unfold Builtin.delete_
    simp [run_underlying hu, hck]
  · rename_i kt et r hu
    split at h
    · rename_i es cl hg
      obtain ⟨hcl, h2⟩ := R.blk r _ hx hg
      have hm : E.m (.map (some r)) = .map (some (E.f r)) := rfl
      split at h
      · rename_i y hf
        obtain ⟨hkp, hck, hfk, hy⟩ := ckey_ok hf E
        obtain ⟨he, _⟩ := hy y rfl
        have hjl : y.1 < es.length := by
          rcases Nat.lt_or_ge y.1 es.length with h1 | h1
          · exact h1
          · simp [List.getElem?_eq_none h1] at he
        rw [hm, m_plain E hkp]
        obtain ⟨hwm, rfl⟩ := CH.wset_some h
        obtain ⟨R', X⟩ := R.setMap hx hwm hg (es' := es.eraseIdx y.1) (cl' := cl) (fun e he' => hcl e (List.mem_of_mem_eraseIdx he'))
        refine ⟨_, R', X, ?_⟩
        unfold Builtin.delete_
        simp [run_underlying hu, run_getObj_map h2, hck, hfk, run_setObj_map _ h2, eraseIdx_mapL, Array.eraseIdxIfInBounds, hjl]
      · rename_i hf
        obtain ⟨hkp, hck, hfk, _⟩ := ckey_ok hf E
        rw [hm, m_plain E hkp]
        obtain ⟨hwm, rfl⟩ := CH.wset_some h
        obtain ⟨R', X⟩ := R.setMap hx hwm hg (es' := es) (cl' := cl) hcl
        refine ⟨_, R', X, ?_⟩
        unfold Builtin.delete_
        simp [run_underlying hu, run_getObj_map h2, hck, hfk, run_setObj_map _ h2]
      · cases h
    · cases h
  · cases h

/-! ### makes -/
def cmakeMap (P : Program) (t : TypeId) (hint : Option Value) (N : CH) : Option (Value × CH) :=
  if N.fits then
    match hint with
    | none => some (.map (some N.sz), N.push (.map [] 0))
    | some (.int _ _) => match P.underlying t with
      | some (.map _ _) => some (.map (some N.sz), N.push (.map [] 0))
      | _ => none
    | _ => none
  else none
theorem makeMap_ok {P : Program} {E : Env} {N N' : CH} {w : World} (R : Rel P E N w) {t : TypeId} {hint : Option Value} {v : Value} (h : cmakeMap P t hint N = some (v, N')) :
    ∃ E' w', Rel P E' N' w' ∧ Ext E N w E' N' w' ∧ Clo E'.D v ∧ (Instr.makeMap t (hint.map E.m)).run P w = .ok (E'.m v) w' := by
  unfold cmakeMap at h
  split at h
  · rename_i hsz
    obtain ⟨R', X⟩ := R.newMap hsz
    have hv : (E.add N.sz w.heap.size 0 0).m (.map (some N.sz)) = .map (some w.heap.size) := by simp [Env.m, mv, Env.add]
    split at h
    · simp only [Option.some.injEq, Prod.mk.injEq] at h
      obtain ⟨rfl, rfl⟩ := h
      exact ⟨_, _, R', X, Env.add_D .., by simp [Instr.makeMap, hv]⟩
    · rename_i k n
      split at h
      · rename_i kt et hu
        simp only [Option.some.injEq, Prod.mk.injEq] at h
        obtain ⟨rfl, rfl⟩ := h
        have hm : E.m (.int k n) = .int k n := rfl
        exact ⟨_, _, R', X, Env.add_D .., by simp [Instr.makeMap, hv, hm, run_underlying hu, asInt, asIntOf]⟩
      · cases h
    · cases h
  · cases h
def cmakeSlice (P : Program) (t : TypeId) (len cap : Value) (N : CH) : Option (Value × CH) :=
  match P.underlying t, len, cap with
  | some (.slice e), .int _ l, .int _ c =>
    match P.info? e, zeroT P e with
    | some i, some z =>
      if 0 ≤ l ∧ l ≤ c ∧ (i.bytes : Int) * c ≤ 281474976710656 ∧ c ≤ 16777216 then
        (crow N (madeCells z.cells (c.toNat * i.size)).toList e false).map fun (k, N') => (.slice (some ⟨k, 0, none⟩) l.toNat c.toNat, N')
      else none
    | _, _ => none
  | _, _, _ => none
theorem makeSlice_ok {P : Program} {E : Env} {N N' : CH} {w : World} (R : Rel P E N w) {t : TypeId} {len cap v : Value} (h : cmakeSlice P t len cap N = some (v, N')) :
    ∃ E' w', Rel P E' N' w' ∧ Ext E N w E' N' w' ∧ Clo E'.D v ∧ (Instr.makeSlice t (E.m len) (E.m cap)).run P w = .ok (E'.m v) w' := by
  unfold cmakeSlice at h
  split at h
  · rename_i e k l k' c hu
    split at h
    · rename_i i z hi hz
      obtain ⟨hz0, hzp⟩ := zero_cells hi hz
      split at h
      · rename_i hb
        obtain ⟨h0, hlc, hby, hc⟩ := hb
        unfold crow at h
        split at h
        · rename_i hsz
          simp only [Option.map_some, Option.some.injEq, Prod.mk.injEq] at h
          obtain ⟨rfl, rfl⟩ := h
          have hpl : ∀ u ∈ (madeCells z.cells (c.toNat * i.size)).toList, plain u = true := zeros_plain hzp _
          obtain ⟨R', X⟩ := R.newRow hsz e (fun u hu => Clo_plain _ u (hpl u hu))
          refine ⟨_, _, R', X, Env.add_D .., ?_⟩
          have hm : E.m (.int k l) = .int k l := rfl
          have hm' : E.m (.int k' c) = .int k' c := rfl
          rw [hm, hm', run_make w t e i z hu hi hz0 k k' l c h0 hlc hby (by omega), map_plain E hpl]
          simp [Env.m, mv, soff, scap, Env.add]
        · cases h
      · cases h
    · cases h
  · cases h

/-! ### conversions that touch memory -/
def cbytesOf (P : Program) (src dst : TypeId) (x : Value) (N : CH) : Option (Value × CH) :=
  match P.underlying src, P.underlying dst, x with
  | some .string, some (.slice e), .string s =>
    match P.underlying e, sizeT P e with
    | some (.int .u8), some 1 => (crow N (Lib.strCells s) e true).map fun (k, N') => (.slice (some ⟨k, 0, none⟩) s.size s.size, N')
    | _, _ => none
  | _, _, _ => none
theorem bytesOf_ok {P : Program} {E : Env} {N N' : CH} {w : World} (R : Rel P E N w) {src dst : TypeId} {x v : Value} (h : cbytesOf P src dst x N = some (v, N')) :
    ∃ E' w', Rel P E' N' w' ∧ Ext E N w E' N' w' ∧ Clo E'.D v ∧ (convert src dst (E.m x)).run P w = .ok (E'.m v) w' := by
  unfold cbytesOf at h
  split at h
  · rename_i e s hs hd
    split at h
    · rename_i he hsz1
      unfold crow at h
      split at h
      · rename_i hsz
        simp only [Option.map_some, Option.some.injEq, Prod.mk.injEq] at h
        obtain ⟨rfl, rfl⟩ := h
        obtain ⟨R1, X1⟩ := R.drew
        have hge := grownCap_ge w s.size 0 e
        have hco := cellsOf_sizeT hsz1
        have hln : (Lib.strCells s).length = s.size := Lib.strCells_length s
        obtain ⟨R2, X2⟩ := R1.newElastic hsz e (c := Lib.strCells s) (fun u hu => Clo_plain _ u (strCells_plain s u hu)) (List.replicate (grownCap w s.size 0 e - s.size) (.int .u8 0)) (grownCap w s.size 0 e - s.size)
          (grownCap w s.size 0 e) (grownCap w s.size 0 e + 1) (by simp [hco]) (by
            refine ⟨by omega, ?_⟩
            intro i hi
            simp only [List.length_replicate, hln] at hi
            omega)
        refine ⟨_, _, R2, X1.trans X2, Env.add_D .., ?_⟩
        have hm : E.m (.string s) = .string s := rfl
        rw [hm, run_bytes_of_string w src dst e s hs hd he]
        have hrow : ((Lib.strCells s).map E.m ++ List.replicate (grownCap w s.size 0 e - s.size) (Value.int .u8 0)).toArray = bytesRow s (grownCap w s.size 0 e) := by
          rw [map_plain E (strCells_plain s)]
          apply Array.ext'
          simp [bytesRow, Lib.strCells]
        have hsize : (bytesRow s (grownCap w s.size 0 e)).size = grownCap w s.size 0 e := by
          rw [← hrow]
          simp [hln]
          omega
        rw [hrow, hsize]
        simp only [Env.m, mv, soff, scap, Env.add_f, Env.add_x, Env.add_s]
        rw [show s.size + (grownCap w s.size 0 e - s.size) = grownCap w s.size 0 e by omega]
        rfl
      · cases h
    · cases h
  · cases h
def u8s : List Value → Option (List Int)
  | [] => some []
  | .int .u8 n :: r => (u8s r).map (n :: ·)
  | _ => none
theorem u8s_spec : ∀ {l : List Value} {ns : List Int}, u8s l = some ns → l = ns.map (Value.int .u8)
  | [], ns, h => by simp only [u8s, Option.some.injEq] at h; subst h; rfl
  | .int .u8 n :: r, ns, h => by
    simp only [u8s] at h
    cases hr : u8s r with
    | none => simp [hr] at h
    | some ms =>
      simp only [hr, Option.map_some, Option.some.injEq] at h
      subst h
      simp [u8s_spec hr]
def cstringOf (P : Program) (src dst : TypeId) (x : Value) (N : CH) : Option Value :=
  match P.underlying src, P.underlying dst, x with
  | some (.slice e), some .string, .slice a n _ =>
    match P.underlying e, a with
    | some (.int .u8), none => some (.string .empty)
    | some (.int .u8), some ad =>
      match N.get ad.block with
      | some (.row c _ _) =>
        if sure ad = true ∧ ad.off + n ≤ c.length then
          (u8s ((c.drop ad.off).take n)).map fun ns => .string (ns.foldl (fun r n => r.push (UInt8.ofNat n.toNat)) ByteArray.empty)
        else none
      | _ => none
    | _, _ => none
  | _, _, _ => none
theorem stringOf_ok {P : Program} {E : Env} {N : CH} {w : World} (R : Rel P E N w) {src dst : TypeId} {x v : Value} (hx : Clo E.D x) (h : cstringOf P src dst x N = some v) :
    (convert src dst (E.m x)).run P w = .ok (E.m v) w ∧ Clo E.D v := by
  unfold cstringOf at h
  split at h
  · rename_i e a n c hs hd
    split at h
    · rename_i he
      cases h
      refine ⟨?_, trivial⟩
      have hm : E.m (.slice none n c) = .slice none n c := rfl
      rw [hm, run_convert_bytes_string w src dst e none n c hs he hd]
      rfl
    · rename_i ad he
      obtain ⟨a1, a2, a3⟩ := ad
      have hdd : E.D a1 := hx
      split at h
      · rename_i cs e' el hg
        simp only at hg
        split at h
        · rename_i hle
          obtain ⟨hsu, hle⟩ := hle
          cases hu : u8s ((cs.drop a2).take n) with
          | none => simp [hu] at h
          | some ns =>
            simp only [hu, Option.map_some, Option.some.injEq] at h
            subst h
            refine ⟨?_, trivial⟩
            obtain ⟨c1, hm⟩ : ∃ c1, E.m (.slice (some ⟨a1, a2, a3⟩) n c) = .slice (some ⟨E.f a1, a2 + E.s a1, none⟩) n c1 := ⟨scap E.toRen ⟨a1, a2, a3⟩ c, by simp only [Env.m, mv, soff_sure _ hsu]⟩
            have hsp := u8s_spec hu
            have hle' : a2 + n ≤ cs.length := hle
            have hlen : (ns.map (Value.int .u8)).length = n := by rw [← hsp]; simp; omega
            have hl := run_loadCells_list (P := P) w ⟨E.f a1, a2 + E.s a1, none⟩ (ns.map (Value.int .u8)) (by
              intro j u hj
              rw [addr_add]
              rw [← hsp] at hj
              have hc := R.cell hdd hg (o := a2 + E.s a1 + j) (getElem?_take_drop hj) (by omega)
              rw [hc]
              have hmem : u ∈ ns.map (Value.int .u8) := by rw [← hsp]; exact List.mem_of_getElem? hj
              obtain ⟨k, _, rfl⟩ := List.mem_map.1 hmem
              rfl)
            rw [hlen] at hl
            rw [hm, run_convert_bytes_string w src dst e _ n c1 hs he hd, run_bytesToString w _ n c1 ns hl]
            rfl
        · cases h
      · cases h
    · cases h
  · cases h

/-! ### interface values, function values, len, copy -/
/-- The row's cells stand; how far a range beyond them is marked does not matter. -/
theorem Rel.remark {P : Program} {E : Env} {N : CH} {w w' : World} (R : Rel P E N w) {k : Nat} (hk : E.D k) {c : List Value} {e : TypeId} {el : Bool} (hg : N.get k = some (.row c e el))
    (hb : BlkRel P E k (.row c e el) w'.heap[E.f k]?) (hother : ∀ j, j ≠ E.f k → w'.heap[j]? = w.heap[j]?) (hs : w'.heap.size = w.heap.size)
    (hos : w'.os = w.os) (htape : w'.tape = w.tape) (hout : w'.output = w.output) : Rel P E N w' ∧ Ext E N w E N w' := by
  have hl : N.live k := ⟨_, hg, rfl⟩
  refine ⟨⟨R.ok, R.gl, R.dom, R.inj, ?_⟩, fun _ h => ⟨h, rfl, rfl, rfl⟩, fun _ h => .inl h, fun _ h1 h2 => absurd h2 (Nat.not_lt.2 h1), Nat.le_refl _, by omega, fun _ h => .inl h, fun _ _ h => h, Nat.le_refl _, fun _ _ _ => rfl, ?_, hos, htape, hout, rfl⟩
  · intro j b' hj hb'
    by_cases h : j = k
    · subst h
      rw [hg] at hb'
      cases hb'
      exact hb
    · cases hd : b'.isDead with
      | true => cases b' <;> simp [CB.isDead] at hd; trivial
      | false =>
        have : E.f j ≠ E.f k := fun e => h (R.inj j k hj hk ⟨b', hb', hd⟩ hl e)
        rw [hother _ this]
        exact R.blk j b' hj hb'
  · intro b' _ hn
    exact hother b' (fun e => hn k hk hl e.symm)
/-- []byte as itself. -/
def csame (P : Program) (src dst : TypeId) (x : Value) (N : CH) : Option Value :=
  match P.underlying src, x with
  | some (.slice e), .slice (some ad) n c =>
    match P.underlying e, N.get ad.block with
    | some (.int .u8), some (.row _ _ _) => if src = dst ∧ LIM ≤ ad.block then some (.slice (some ad) n c) else none
    | _, _ => none
  | _, _ => none
theorem same_ok {P : Program} {E : Env} {N : CH} {w : World} (R : Rel P E N w) {src dst : TypeId} {x v : Value} (hx : Clo E.D x) (h : csame P src dst x N = some v) :
    ∃ w', Rel P E N w' ∧ Ext E N w E N w' ∧ Clo E.D v ∧ (convert src dst (E.m x)).run P w = .ok (E.m v) w' := by
  unfold csame at h
  split at h
  · rename_i e ad n c hu
    split at h
    · rename_i row c' e' el' he hg
      split at h
      · rename_i hsd
        obtain ⟨hsd, hge⟩ := hsd
        subst hsd
        cases h
        obtain ⟨a1, a2, a3⟩ := ad
        have hd : E.D a1 := hx
        obtain ⟨h1, pre, sp, lo, hi, hh, hp, hf, hel⟩ := R.row hd hg
        have hlt : E.f a1 < w.heap.size := (Array.getElem?_eq_some_iff.1 hh).1
        generalize hT : (pre ++ (c'.map E.m ++ sp)).length = T at *
        have hm : E.m (.slice (some ⟨a1, a2, a3⟩) n c) = .slice (some ⟨E.f a1, soff E.toRen ⟨a1, a2, a3⟩, none⟩) n (scap E.toRen ⟨a1, a2, a3⟩ c) := rfl
        have hsh : w.shape? (E.f a1) = some (e', T) := by
          simp only [World.shape?, hh]
          rw [← hT]
          simp
        have hfz : ∃ lo' hi', (w.freeze ⟨E.f a1, T, none⟩ 1).heap[E.f a1]? = some (.cells (pre ++ (c'.map E.m ++ sp)).toArray e' (lo', hi')) ∧ Unm T lo' hi' := by
          refine ⟨(if (lo == hi) = true then (T, T + 1) else (min lo T, max hi (T + 1))).1, (if (lo == hi) = true then (T, T + 1) else (min lo T, max hi (T + 1))).2, ?_, ?_⟩
          · unfold World.freeze
            rw [if_neg (by decide)]
            show (w.heap.modify _ _)[E.f a1]? = _
            rw [Array.getElem?_modify, if_pos rfl, hh]
            rfl
          · have hle := hf.1
            have hTT : pre.length + (c'.length + sp.length) = T := by rw [← hT]; simp
            rw [hTT] at hf
            refine ⟨by split <;> simp only <;> omega, ?_⟩
            intro i hi'
            have h0 := hf.2 i hi'
            have h2 := hf.2 lo
            by_cases hne : lo = hi
            · have : (lo == hi) = true := by simpa using hne
              rw [if_pos this]
              simp only
              omega
            · have : ¬ (lo == hi) = true := by simpa using hne
              rw [if_neg this]
              simp only
              omega
        obtain ⟨lo', hi', hz1, hz2⟩ := hfz
        obtain ⟨R', X⟩ := R.remark hd hg (w' := w.freeze ⟨E.f a1, T, none⟩ 1) ⟨h1, pre, sp, lo', hi', hz1, hp, (by rw [show pre.length + (c'.length + sp.length) = T by rw [← hT]; simp]; exact hz2), hel.1, fun h => absurd hge (Nat.not_le.2 h)⟩
          (by
            intro j hj
            unfold World.freeze
            rw [if_neg (by decide)]
            show (w.heap.modify _ _)[j]? = _
            rw [Array.getElem?_modify, if_neg (Ne.symm hj)])
          (by unfold World.freeze; rw [if_neg (by decide)]; simp) (by unfold World.freeze; rw [if_neg (by decide)]) (by unfold World.freeze; rw [if_neg (by decide)]) (by unfold World.freeze; rw [if_neg (by decide)])
        refine ⟨_, R', X, hx, ?_⟩
        rw [hm]
        simp [convert, run_underlying hu, run_underlying he, markStringish, hsh]
      · cases h
    · cases h
  · cases h

def cmakeIface (P : Program) (t : TypeId) (x : Value) : Option Value :=
  match P.underlying t with
  | some (.interface _) => none
  | some _ => some (.iface t x)
  | none => none
theorem makeIface_ok {P : Program} {E : Env} {w : World} {t : TypeId} {x v : Value} (hx : Clo E.D x) (h : cmakeIface P t x = some v) :
    (Instr.makeInterface t (E.m x)).run P w = .ok (E.m v) w ∧ Clo E.D v := by
  unfold cmakeIface at h
  split at h
  · cases h
  · rename_i d hd hu
    cases h
    refine ⟨?_, hx⟩
    unfold Instr.makeInterface
    simp only [Sem.run_bind, run_underlying hu, Result.andThen_ok]
    cases d <;> first | rfl | exact (hd _ rfl).elim
  · cases h
def cmakeFunc (g : Fn) (p q : List Value) : Option Value :=
  match g with
  | .yield _ => none
  | _ => some (.func g p.toArray q.toArray)
theorem makeFunc_ok {P : Program} {E : Env} {w : World} {g : Fn} {p q : List Value} {v : Value} (hp : ∀ u ∈ p, Clo E.D u) (hq : ∀ u ∈ q, Clo E.D u) (h : cmakeFunc g p q = some v) :
    (Instr.makeFunc g (p.map E.m).toArray (q.map E.m).toArray).run P w = .ok (E.m v) w ∧ Clo E.D v := by
  unfold cmakeFunc at h
  split at h
  · cases h
  · rename_i hg
    cases h
    refine ⟨?_, ?_⟩
    · have : mvFn E.f g = g := by cases g <;> first | rfl | exact absurd rfl (hg _)
      simp only [m_func, this, List.map_toArray]
      rfl
    · refine ⟨?_, CloL_all.2 hp, CloL_all.2 hq⟩
      cases g <;> first | trivial | exact absurd rfl (hg _)
def clen (P : Program) (t : TypeId) (x : Value) (N : CH) : Option Value :=
  match P.underlying t, x with
  | some (.slice _), .slice _ n _ => some (.int .i64 n)
  | some (.map _ _), .map none => some (.int .i64 0)
  | some (.map _ _), .map (some r) => match N.get r with
    | some (.map es _) => some (.int .i64 es.length)
    | _ => none
  | some (.pointer arr), .pointer _ => match P.underlying arr with
    | some (.array n _) => some (.int .i64 n)
    | _ => none
  | _, _ => none
theorem len_ok {P : Program} {E : Env} {N : CH} {w : World} (R : Rel P E N w) {t ty : TypeId} {x v : Value} (hx : Clo E.D x) (h : clen P t x N = some v) :
    (Builtin.len_ #[t] ty #[E.m x]).run P w = .ok (E.m v) w ∧ Clo E.D v := by
  unfold clen at h
  split at h
  · rename_i e a n c hu
    cases h
    refine ⟨?_, trivial⟩
    cases a <;> simp [Env.m, mv, Builtin.len_, run_underlying hu, goInt]
  · rename_i k e hu
    cases h
    exact ⟨by simp [Env.m, mv, Builtin.len_, run_underlying hu, goInt], trivial⟩
  · rename_i k e r hu
    split at h
    · rename_i es cl hg
      cases h
      obtain ⟨_, h2⟩ := R.blk r _ hx hg
      refine ⟨?_, trivial⟩
      have hm : E.m (.map (some r)) = .map (some (E.f r)) := rfl
      have hm2 : E.m (.int .i64 es.length) = .int .i64 es.length := rfl
      rw [hm, hm2]
      simp [Builtin.len_, run_underlying hu, goInt, run_getObj_map h2]
    · cases h
  · rename_i arr p hu
    split at h
    · rename_i n e hu2
      cases h
      refine ⟨?_, trivial⟩
      cases p <;> simp [Env.m, mv, Builtin.len_, run_underlying hu, run_underlying hu2, goInt]
    · cases h
  · cases h
def ccopy (P : Program) (t : TypeId) (d x : Value) (N : CH) : Option (Value × CH) :=
  match P.underlying t, d with
  | some (.slice e), .slice (some ad) dl _ =>
    match sizeT P e, N.get ad.block with
    | some size, some (.row cs e' el) =>
      match csrc size x N with
      | some (n, news) =>
        if news.all (·.oneCell') = true ∧ news.length = n * size ∧ n ≤ dl ∧ sure ad = true ∧ ad.off + n * size ≤ cs.length then (N.wset ad.block (.row (wrf cs ad.off news) e' el)).map fun N' => (.int .i64 n, N') else none
      | none => none
    | _, _ => none
  | _, _ => none
theorem copy_ok {P : Program} {E : Env} {N N' : CH} {w : World} (R : Rel P E N w) {t t2 ty : TypeId} {d x v : Value} (hd : Clo E.D d) (hx : Clo E.D x) (h : ccopy P t d x N = some (v, N')) :
    ∃ w', Rel P E N' w' ∧ Ext E N w E N' w' ∧ Clo E.D v ∧ (Builtin.copy_ #[t, t2] ty #[E.m d, E.m x]).run P w = .ok (E.m v) w' := by
  unfold ccopy at h
  simp only [wrf_eq] at h
  split at h
  · rename_i e ad dl dc hu
    obtain ⟨a1, a2, a3⟩ := ad
    have hdd : E.D a1 := hd
    split at h
    · rename_i size cs e' el hs hg
      simp only at hg
      split at h
      · rename_i n news hsrc
        obtain ⟨hlen, hf, _, hnc⟩ := src_ok R hx hsrc
        split at h
        · rename_i hb
          obtain ⟨hone, hnl, hn, hsu, hfit'⟩ := hb
          have hfit : a2 + n * size ≤ cs.length := hfit'
          obtain ⟨N1, hN1, h⟩ := Option.map_eq_some_iff.1 h
          obtain ⟨hwm, rfl⟩ := CH.wset_some hN1
          simp only [Prod.mk.injEq] at h
          obtain ⟨rfl, rfl⟩ := h
          obtain ⟨R', X⟩ := R.write hdd hwm hg (o := a2) (o' := a2 + E.s a1) (vs := news) (by omega) rfl hnc
          refine ⟨_, R', X, trivial, ?_⟩
          obtain ⟨c1, hm⟩ : ∃ c1, E.m (.slice (some ⟨a1, a2, a3⟩) dl dc) = .slice (some ⟨E.f a1, a2 + E.s a1, none⟩) dl c1 := ⟨scap E.toRen ⟨a1, a2, a3⟩ dc, by simp only [Env.m, mv, soff_sure _ hsu]⟩
          have hst := run_storeCells_cells (P := P) (E.f a1) (a2 + E.s a1) (news.map E.m) 0 w
            (by
              intro j hj
              rw [List.length_map] at hj
              have : a2 + j < cs.length := by omega
              rw [Nat.add_zero, R.cell hdd hg (List.getElem?_eq_getElem this) (by omega)]
              rfl)
            (by
              intro j hj
              rw [List.length_map] at hj
              rw [Nat.add_zero]
              exact R.free hdd hg (i := a2 + j) (by omega) (by omega))
            (by
              intro u hu
              obtain ⟨u', hu', rfl⟩ := List.mem_map.1 hu
              show (mv _ u').oneCell' = true
              rw [oneCell_mv]
              exact List.all_eq_true.1 hone u' hu')
          rw [Nat.add_zero] at hst
          have hmin : Nat.min n dl = n := Nat.min_eq_left hn
          have hv : E.m (.int .i64 n) = .int .i64 n := rfl
          rw [hm, hv]
          unfold Builtin.copy_
          simp [run_underlying hu, hlen, hmin, run_sizeOf hs, hf, hst, goInt]
        · cases h
      · cases h
    · cases h
  · cases h

end Go.Eng
