/-
  The engine, part Gi: loops over strings and maps (of a map: where the model has no choice).
-/
import Derived.Test.YtjpmmfahmhnpeaaGreatDoorEngG
namespace Go.Eng
set_option linter.unusedSimpArgs false
set_option linter.unusedVariables false
open Go.MapKept

def crange (P : Program) (t : TypeId) (x : Value) (N : CH) : Option (Value × CH) :=
  if N.fits then
    match P.underlying t, x with
    | some .string, .string s => some (.pointer (some ⟨N.sz, 0, none⟩), N.push (.iter s 0))
    | some (.map _ _), .map none => some (.pointer (some ⟨N.sz, 0, none⟩), N.push (.miter none 0 #[] 0))
    | some (.map _ _), .map (some m) => match N.get m with
      | some (.map _ clock) => some (.pointer (some ⟨N.sz, 0, none⟩), N.push (.miter (some m) clock #[] clock))
      | _ => none
    | _, _ => none
  else none
theorem range_ok {P : Program} {E : Env} {N N' : CH} {w : World} (R : Rel P E N w) {t : TypeId} {x v : Value} (hx : Clo E.D x) (h : crange P t x N = some (v, N')) :
    ∃ E' w', Rel P E' N' w' ∧ Ext E N w E' N' w' ∧ Clo E'.D v ∧ (Instr.range t (E.m x)).run P w = .ok (E'.m v) w' := by
  unfold crange at h
  split at h
  · rename_i hsz
    have hv : (E.add N.sz w.heap.size 0 0).m (.pointer (some ⟨N.sz, 0, none⟩)) = .pointer (some ⟨w.heap.size, 0, none⟩) := by simp [Env.m, mv, Env.add]
    split at h
    · rename_i s hu
      simp only [Option.some.injEq, Prod.mk.injEq] at h
      obtain ⟨rfl, rfl⟩ := h
      obtain ⟨R', X⟩ := R.new hsz (b := .iter s 0) (o := .stringIter s 0) (y := 0) (z := 0) ⟨rfl, Env.add_s ..⟩
      refine ⟨_, _, R', X, ⟨Env.add_D .., rfl⟩, ?_⟩
      have hm : E.m (.string s) = .string s := rfl
      rw [hm, hv]
      simp [Instr.range, run_underlying hu]
    · rename_i k e hu
      simp only [Option.some.injEq, Prod.mk.injEq] at h
      obtain ⟨rfl, rfl⟩ := h
      obtain ⟨R', X⟩ := R.new hsz (b := .miter none 0 #[] 0) (o := .mapIter none 0 #[] 0) (y := 0) (z := 0) ⟨by simp, rfl, Env.add_s ..⟩
      refine ⟨_, _, R', X, ⟨Env.add_D .., rfl⟩, ?_⟩
      have hm : E.m (.map none) = .map none := rfl
      rw [hm, hv]
      simp [Instr.range, run_underlying hu]
    · rename_i k e m hu
      split at h
      · rename_i es clock hg
        simp only [Option.some.injEq, Prod.mk.injEq] at h
        obtain ⟨rfl, rfl⟩ := h
        obtain ⟨_, h2⟩ := R.blk m _ hx hg
        have hne : m ≠ N.sz := by have : m < N.sz := R.dom m hx; omega
        obtain ⟨R', X⟩ := R.new hsz (b := .miter (some m) clock #[] clock) (o := .mapIter (some (E.f m)) clock #[] clock) (y := 0) (z := 0)
          ⟨fun k hk => by cases hk; exact .inr hx, by simp [Env.add, hne], Env.add_s ..⟩
        refine ⟨_, _, R', X, ⟨Env.add_D .., rfl⟩, ?_⟩
        have hm : E.m (.map (some m)) = .map (some (E.f m)) := rfl
        rw [hm, hv]
        simp [Instr.range, run_underlying hu, run_getObj_map h2]
      · cases h
    · cases h
  · cases h

def cnext (x : Value) (isString : Bool) (N : CH) : Option (Value × CH) :=
  match x with
  | .pointer (some ⟨r, 0, _⟩) =>
    match N.get r, isString with
    | some (.iter s pos), true =>
      if pos < s.size then
        (N.wset r (.iter s (pos + (Utf8.decode s pos).2))).map fun N' => (.tuple #[.bool true, goInt pos, .int .i32 (Utf8.decode s pos).1], N')
      else some (.tuple #[.bool false], N)
    | some (.miter none _ _ _), false => some (.tuple #[.bool false], N)
    | some (.miter (some m) since seen last), false =>
      match N.get m with
      | some (.map es clock) =>
        if (!seen.isEmpty && !es.isEmpty && es.all (fun e => decide (e.2.2 ≥ last))) = true then none else
        match (es.filter fun e => !seen.contains e.2.2).filter (fun e => decide (e.2.2 < since)), (es.filter fun e => !seen.contains e.2.2).filter (fun e => decide (e.2.2 ≥ since)) with
        | [], [] => some (.tuple #[.bool false], N)
        | [e], [] => (N.wset r (.miter (some m) since (seen.push e.2.2) clock)).map fun N' => (.tuple #[.bool true, e.1, e.2.1], N')
        | _, _ => none
      | _ => none
    | _, _ => none
  | _ => none
theorem filter_mvE (E : Env) (p : Nat → Bool) (es : List (Value × Value × Nat)) : (es.map (mvE E)).filter (fun e => p e.born) = (es.filter fun e => p e.2.2).map (mvE E) := by
  rw [List.filter_map]
  rfl
theorem next_ok {P : Program} {E : Env} {N N' : CH} {w : World} (R : Rel P E N w) {x v : Value} {b : Bool} (ty : TypeId) (hx : Clo E.D x) (h : cnext x b N = some (v, N')) :
    ∃ w', Rel P E N' w' ∧ Ext E N w E N' w' ∧ Clo E.D v ∧ (Instr.next (E.m x) b ty).run P w = .ok (E.m v) w' := by
  unfold cnext at h
  split at h
  · rename_i r sp
    obtain ⟨hr, hsp⟩ := hx
    simp only at hr hsp
    subst hsp
    split at h
    · rename_i s pos hg
      obtain ⟨ho, hs0⟩ := R.blk r _ hr hg
      have hm : E.m (.pointer (some ⟨r, 0, none⟩)) = .pointer (some ⟨E.f r, 0, none⟩) := by simp [Env.m, mv, hs0]
      have hget : (getObj (E.f r)).run P w = .ok (.stringIter s pos) w := by simp [getObj, Sem.run, ho]
      split at h
      · rename_i hlt
        obtain ⟨N1, hN1, h⟩ := Option.map_eq_some_iff.1 h
        obtain ⟨hwm, rfl⟩ := CH.wset_some hN1
        simp only [Prod.mk.injEq] at h
        obtain ⟨rfl, rfl⟩ := h
        have hb : E.f r < w.heap.size := (Array.getElem?_eq_some_iff.1 ho).1
        obtain ⟨R', X⟩ := R.change hr hwm ⟨_, hg, rfl⟩ (b := .iter s (pos + (Utf8.decode s pos).2)) (w' := { w with heap := w.heap.setIfInBounds (E.f r) (.stringIter s (pos + (Utf8.decode s pos).2)) })
          ⟨by rw [heap_setObj w _ _ hb], hs0⟩ (fun j hj => heap_setObj_other w _ j _ hj) (by simp) rfl rfl rfl
        refine ⟨_, R', X, Clo_tuple.2 (by simp [Clo, goInt]), ?_⟩
        have hset : (setObj (E.f r) (.stringIter s (pos + (Utf8.decode s pos).2))).run P w = .ok () { w with heap := w.heap.setIfInBounds (E.f r) (.stringIter s (pos + (Utf8.decode s pos).2)) } := by simp [setObj, Sem.run, ho]
        rw [hm]
        have hv : E.m (.tuple #[.bool true, goInt pos, .int .i32 (Utf8.decode s pos).1]) = .tuple #[.bool true, goInt pos, .int .i32 (Utf8.decode s pos).1] := by
          simp [Env.m, mv, mvL, goInt]
        rw [hv]
        simp only [Instr.next, Sem.run_bind, hget, Result.andThen_ok, hlt, if_true, hset, Sem.run_pure]
      · rename_i hlt
        simp only [Option.some.injEq, Prod.mk.injEq] at h
        obtain ⟨rfl, rfl⟩ := h
        refine ⟨w, R, Ext.refl _ _ _, Clo_tuple.2 (by simp [Clo]), ?_⟩
        rw [hm]
        simp only [Instr.next, Sem.run_bind, hget, Result.andThen_ok, hlt, if_false, Sem.run_pure]
        rfl
    · rename_i a b c hg
      obtain ⟨_, ho, hs0⟩ := R.blk r _ hr hg
      have hm : E.m (.pointer (some ⟨r, 0, none⟩)) = .pointer (some ⟨E.f r, 0, none⟩) := by simp [Env.m, mv, hs0]
      have hget : (getObj (E.f r)).run P w = .ok (.mapIter none a b c) w := by simp [getObj, Sem.run, ho]
      simp only [Option.some.injEq, Prod.mk.injEq] at h
      obtain ⟨rfl, rfl⟩ := h
      refine ⟨w, R, Ext.refl _ _ _, Clo_tuple.2 (by simp [Clo]), ?_⟩
      rw [hm]
      simp only [Instr.next, Sem.run_bind, hget, Result.andThen_ok, Sem.run_pure]
      rfl
    · rename_i m since seen last hg
      obtain ⟨hmD, ho, hs0⟩ := R.blk r _ hr hg
      have hmd := hmD m rfl
      have hm : E.m (.pointer (some ⟨r, 0, none⟩)) = .pointer (some ⟨E.f r, 0, none⟩) := by simp [Env.m, mv, hs0]
      have hget : (getObj (E.f r)).run P w = .ok (.mapIter (some (E.f m)) since seen last) w := by simp [getObj, Sem.run, ho]
      split at h
      · rename_i es clock hgm
        obtain ⟨hcl, hmo⟩ := R.blk m _ hmd hgm
        split at h
        · cases h
        · rename_i hgd
          have hall : (es.map (mvE E)).toArray.all (fun e => decide (e.born ≥ last)) = es.all (fun e => decide (e.2.2 ≥ last)) := by
            rw [← Array.all_toList, List.all_map]
            rfl
          have hemp : (es.map (mvE E)).toArray.isEmpty = es.isEmpty := by cases es <;> simp
          have hguard : (!seen.isEmpty && !(es.map (mvE E)).toArray.isEmpty && (es.map (mvE E)).toArray.all (fun e => decide (e.born ≥ last))) = false := by
            rw [hall, hemp]
            simpa using hgd
          have hleft : (es.map (mvE E)).toArray.filter (fun e => !seen.contains e.born) = ((es.filter fun e => !seen.contains e.2.2).map (mvE E)).toArray := by
            rw [List.filter_toArray, filter_mvE E (fun b => !seen.contains b)]
          have hold : ∀ l : List (Value × Value × Nat), (l.map (mvE E)).toArray.filter (fun e => decide (e.born < since)) = ((l.filter fun e => decide (e.2.2 < since)).map (mvE E)).toArray := fun l => by
            rw [List.filter_toArray, filter_mvE E (fun b => decide (b < since))]
          have hnew : ∀ l : List (Value × Value × Nat), (l.map (mvE E)).toArray.filter (fun e => decide (e.born ≥ since)) = ((l.filter fun e => decide (e.2.2 ≥ since)).map (mvE E)).toArray := fun l => by
            rw [List.filter_toArray, filter_mvE E (fun b => decide (b ≥ since))]
          split at h
          · rename_i h1 h2
            simp only [Option.some.injEq, Prod.mk.injEq] at h
            obtain ⟨rfl, rfl⟩ := h
            refine ⟨w, R, Ext.refl _ _ _, Clo_tuple.2 (by simp [Clo]), ?_⟩
            rw [hm]
            simp only [Instr.next, Sem.run_bind, hget, Result.andThen_ok, run_getObj_map hmo, hguard, hleft, hold, hnew, h1, h2]
            simp [Question.forced, Env.m, mv, mvL]
          · rename_i e h1 h2
            obtain ⟨N1, hN1, h⟩ := Option.map_eq_some_iff.1 h
            obtain ⟨hwm, rfl⟩ := CH.wset_some hN1
            simp only [Prod.mk.injEq] at h
            obtain ⟨rfl, rfl⟩ := h
            have hb : E.f r < w.heap.size := (Array.getElem?_eq_some_iff.1 ho).1
            obtain ⟨R', X⟩ := R.change hr hwm ⟨_, hg, rfl⟩ (b := .miter (some m) since (seen.push e.2.2) clock) (w' := { w with heap := w.heap.setIfInBounds (E.f r) (.mapIter (some (E.f m)) since (seen.push e.2.2) clock) })
              ⟨hmD, by rw [heap_setObj w _ _ hb]; rfl, hs0⟩ (fun j hj => heap_setObj_other w _ j _ hj) (by simp) rfl rfl rfl
            have hset : (setObj (E.f r) (.mapIter (some (E.f m)) since (seen.push e.2.2) clock)).run P w = .ok () { w with heap := w.heap.setIfInBounds (E.f r) (.mapIter (some (E.f m)) since (seen.push e.2.2) clock) } := by simp [setObj, Sem.run, ho]
            have hmem : e ∈ es := by
              have : e ∈ (es.filter fun e => !seen.contains e.2.2).filter (fun e => decide (e.2.2 < since)) := by rw [h1]; simp
              exact (List.mem_filter.1 (List.mem_filter.1 this).1).1
            obtain ⟨hk, hv⟩ := hcl e hmem
            refine ⟨_, R', X, Clo_tuple.2 (by
              intro u hu
              simp at hu
              rcases hu with rfl | rfl | rfl
              · trivial
              · exact Clo_plain _ _ hk
              · exact hv), ?_⟩
            have hvm : E.m (.tuple #[.bool true, e.1, e.2.1]) = .tuple #[.bool true, e.1, E.m e.2.1] := by
              have := m_plain E hk
              simp only [Env.m] at this ⊢
              simp [mv, mvL, this]
            rw [hm, hvm]
            simp only [Instr.next, Sem.run_bind, hget, Result.andThen_ok, run_getObj_map hmo, hguard, hleft, hold, hnew, h1, h2]
            simp [Question.forced, mvE, hset]
          · cases h
      · cases h
    · cases h
  · cases h

/-! ### an entry of a map, for 'm[k] op= v' -/
def cmapEntry (P : Program) (t : TypeId) (x k : Value) (N : CH) : Option (Value × CH) :=
  match P.underlying t, x with
  | some (.map kt et), .map (some r) =>
    match N.get r, zeroT P et with
    | some (.map es cl), some z =>
      match ckey P kt k es with
      | some (some y) => (N.wset r (.map (es.set y.1 (k, y.2.2.1, y.2.2.2)) cl)).map fun N' => (.tuple #[y.2.2.1, goInt y.2.2.2], N')
      | some none => (N.wset r (.map (es ++ [(k, z, cl)]) (cl + 1))).map fun N' => (.tuple #[z, goInt cl], N')
      | none => none
    | _, _ => none
  | _, _ => none
theorem m_pair (E : Env) (v : Value) (n : Nat) : E.m (.tuple #[v, goInt n]) = .tuple #[E.m v, goInt n] := by simp [Env.m, mv, mvL, goInt]
theorem mapEntry_ok {P : Program} {E : Env} {N N' : CH} {w : World} (R : Rel P E N w) {t : TypeId} {x k v : Value} (hx : Clo E.D x) (h : cmapEntry P t x k N = some (v, N')) :
    ∃ w', Rel P E N' w' ∧ Ext E N w E N' w' ∧ Clo E.D v ∧ (Instr.mapEntry t (E.m x) (E.m k)).run P w = .ok (E.m v) w' := by
  unfold cmapEntry at h
  split at h
  · rename_i kt et r hu
    split at h
    · rename_i es cl z hg hz
      obtain ⟨hcl, h2⟩ := R.blk r _ hx hg
      obtain ⟨hzr, hzp⟩ := run_zeroT hz w
      have hm : E.m (.map (some r)) = .map (some (E.f r)) := rfl
      split at h
      · rename_i y hf
        obtain ⟨hkp, hck, hfk, hy⟩ := ckey_ok hf E
        obtain ⟨he, hsb⟩ := hy y rfl
        obtain ⟨N1, hN1, h⟩ := Option.map_eq_some_iff.1 h
        obtain ⟨hwm, rfl⟩ := CH.wset_some hN1
        simp only [Prod.mk.injEq] at h
        obtain ⟨rfl, rfl⟩ := h
        have hem := List.mem_of_getElem? he
        obtain ⟨R', X⟩ := R.setMap hx hwm hg (es' := es.set y.1 (k, y.2.2.1, y.2.2.2)) (cl' := cl) (by
          intro e' he'
          rcases List.mem_or_eq_of_mem_set he' with h1 | h1
          · exact hcl e' h1
          · subst h1
            exact ⟨hkp, (hcl y.2 hem).2⟩)
        refine ⟨_, R', X, Clo_tuple.2 (by
          intro u hu'
          simp at hu'
          rcases hu' with rfl | rfl
          · exact (hcl y.2 hem).2
          · trivial), ?_⟩
        have hkey : (((es.map (mvE E)).toArray[y.1]?).map (·.key)).getD k = y.2.1 := by simp [he, mvE]
        have hborn : (((es.map (mvE E)).toArray[y.1]?).map (fun x => (x.born : Int))).getD 0 = (y.2.2.2 : Int) := by simp [he, mvE]
        rw [hm, m_plain E hkp, m_pair]
        unfold Instr.mapEntry
        simp only [Sem.run_bind, run_underlying hu, Result.andThen_ok, run_getObj_map h2, hck, hfk, Option.map_some, hkey, hborn]
        simp only [Instr.keyThatStays, hsb, if_true, Sem.run_pure, Result.andThen_ok]
        rw [run_setObj_map _ h2, set_mvE E (fun e => { e with key := k }) he (e' := (k, y.2.2.1, y.2.2.2)) rfl]
        rfl
      · rename_i hf
        obtain ⟨hkp, hck, hfk, _⟩ := ckey_ok hf E
        obtain ⟨N1, hN1, h⟩ := Option.map_eq_some_iff.1 h
        obtain ⟨hwm, rfl⟩ := CH.wset_some hN1
        simp only [Prod.mk.injEq] at h
        obtain ⟨rfl, rfl⟩ := h
        obtain ⟨R', X⟩ := R.setMap hx hwm hg (es' := es ++ [(k, z, cl)]) (cl' := cl + 1) (by
          intro e he
          rcases List.mem_append.1 he with h1 | h1
          · exact hcl e h1
          · simp only [List.mem_singleton] at h1
            subst h1
            exact ⟨hkp, Clo_plain _ _ hzp⟩)
        refine ⟨_, R', X, Clo_plain _ _ (by simp [plain, plainL, hzp, goInt]), ?_⟩
        rw [hm, m_plain E hkp, m_pair, m_plain E hzp]
        unfold Instr.mapEntry
        simp only [Sem.run_bind, run_underlying hu, Result.andThen_ok, run_getObj_map h2, hck, hfk, Option.map_none, hzr]
        rw [run_setObj_map _ h2]
        have harr : (es.map (mvE E)).toArray.push { key := k, val := z, born := cl } = ((es ++ [(k, z, cl)]).map (mvE E)).toArray := by
          apply Array.ext'
          simp [mvE, m_plain E hzp]
        rw [harr]
        rfl
      · cases h
    · cases h
  · cases h
def cborn (n : Int) : List (Value × Value × Nat) → Nat → Option (Nat × (Value × Value × Nat))
  | [], _ => none
  | e :: es, i => if ((e.2.2 : Int) == n) = true then some (i, e) else cborn n es (i + 1)
theorem born_ok (E : Env) {n : Int} : ∀ (es : List (Value × Value × Nat)) (i : Nat) {x : Nat × (Value × Value × Nat)}, cborn n es i = some x →
    i ≤ x.1 ∧ es[x.1 - i]? = some x.2 ∧ (es.map (mvE E)).findIdx? (fun e => (e.born : Int) == n) = some (x.1 - i)
  | [], i, x, h => by cases h
  | e :: es, i, x, h => by
    simp only [cborn] at h
    rw [List.map_cons, List.findIdx?_cons]
    have hb : (mvE E e).born = e.2.2 := rfl
    rw [hb]
    split at h
    · rename_i hc
      cases h
      simp [hc]
    · rename_i hc
      obtain ⟨h1, h2, h3⟩ := born_ok E es (i + 1) h
      refine ⟨by omega, ?_, ?_⟩
      · rw [show x.1 - i = (x.1 - (i + 1)) + 1 by omega, List.getElem?_cons_succ]
        exact h2
      · rw [h3, show x.1 - i = (x.1 - (i + 1)) + 1 by omega]
        simp [hc]
def centryStore (x s v : Value) (N : CH) : Option CH :=
  match x, s with
  | .map (some r), .int _ n => match N.get r with
    | some (.map es cl) => match cborn n es 0 with
      | some (j, e) => N.wset r (.map (es.set j (e.1, v, e.2.2)) cl)
      | none => none
    | _ => none
  | _, _ => none
theorem entryStore_ok {P : Program} {E : Env} {N N' : CH} {w : World} (R : Rel P E N w) {t : TypeId} {x s v : Value} (hx : Clo E.D x) (hv : Clo E.D v) (h : centryStore x s v N = some N') :
    ∃ w', Rel P E N' w' ∧ Ext E N w E N' w' ∧ (Instr.entryStore t (E.m x) (E.m s) (E.m v)).run P w = .ok () w' := by
  unfold centryStore at h
  split at h
  · rename_i r k n
    split at h
    · rename_i es cl hg
      split at h
      · rename_i j e hf
        obtain ⟨hcl, h2⟩ := R.blk r _ hx hg
        obtain ⟨_, he, hfi⟩ := born_ok E es 0 hf
        simp only [Nat.sub_zero] at he hfi
        obtain ⟨hwm, rfl⟩ := CH.wset_some h
        have hem := List.mem_of_getElem? he
        obtain ⟨R', X⟩ := R.setMap hx hwm hg (es' := es.set j (e.1, v, e.2.2)) (cl' := cl) (by
          intro e' he'
          rcases List.mem_or_eq_of_mem_set he' with h1 | h1
          · exact hcl e' h1
          · subst h1
            exact ⟨(hcl e hem).1, hv⟩)
        refine ⟨_, R', X, ?_⟩
        have hm : E.m (.map (some r)) = .map (some (E.f r)) := rfl
        have hi : E.m (.int k n) = .int k n := rfl
        have hfa : (es.map (mvE E)).toArray.findIdx? (fun e => (e.born : Int) == n) = some j := by
          rw [← hfi]
          simp
        rw [hm, hi]
        unfold Instr.entryStore
        simp only [Sem.run_bind, Result.andThen_ok, run_getObj_map h2, asInt, asIntOf, Sem.run_pure, hfa]
        rw [run_setObj_map _ h2, set_mvE E (fun e => { e with val := E.m v }) he (e' := (e.1, v, e.2.2)) rfl]
      · cases h
    · cases h
  · cases h
/-- The entry at which a loop over a map stands. -/
def centry (x : Value) (N : CH) : Option Value :=
  match x with
  | .pointer (some ⟨r, 0, _⟩) => match N.get r with
    | some (.miter (some m) _ seen stepped) => match seen.back?, N.get m with
      | some stamp, some (.map es clock) => if clock = stepped then (es.find? (·.2.2 == stamp)).map fun e => .tuple #[e.1, e.2.1] else none
      | _, _ => none
    | _ => none
  | _ => none
theorem entry_ok {P : Program} {E : Env} {N : CH} {w : World} (R : Rel P E N w) {x v : Value} (hx : Clo E.D x) (h : centry x N = some v) :
    (Instr.entry (E.m x)).run P w = .ok (E.m v) w ∧ Clo E.D v := by
  unfold centry at h
  split at h
  · rename_i r sp
    obtain ⟨hr, hsp⟩ := hx
    simp only at hr hsp
    subst hsp
    split at h
    · rename_i m since seen stepped hg
      split at h
      · rename_i stamp es clock hst hgm
        split at h
        · rename_i hc
          subst hc
          obtain ⟨e, hf, rfl⟩ := Option.map_eq_some_iff.1 h
          obtain ⟨hmD, ho, hs0⟩ := R.blk r _ hr hg
          obtain ⟨hcl, hmo⟩ := R.blk m _ (hmD m rfl) hgm
          have hm : E.m (.pointer (some ⟨r, 0, none⟩)) = .pointer (some ⟨E.f r, 0, none⟩) := by simp [Env.m, mv, hs0]
          have hget : (getObj (E.f r)).run P w = .ok (.mapIter (some (E.f m)) since seen clock) w := by simp [getObj, Sem.run, ho]
          have hem := List.mem_of_find?_eq_some hf
          have hfa : (es.map (mvE E)).toArray.find? (fun e => e.born == stamp) = some (mvE E e) := by
            rw [List.find?_toArray, List.find?_map]
            have : ((fun e => e.born == stamp) ∘ mvE E) = (fun e : Value × Value × Nat => e.2.2 == stamp) := rfl
            rw [this, hf]
            rfl
          have hk := m_plain E (hcl e hem).1
          refine ⟨?_, Clo_tuple.2 (by
            intro u hu
            simp at hu
            rcases hu with rfl | rfl
            · exact Clo_plain _ _ (hcl e hem).1
            · exact (hcl e hem).2)⟩
          have hvm : E.m (.tuple #[e.1, e.2.1]) = .tuple #[e.1, E.m e.2.1] := by
            simp only [Env.m] at hk ⊢
            simp [mv, mvL, hk]
          rw [hm, hvm]
          simp only [Instr.entry, Sem.run_bind, hget, Result.andThen_ok, hst, run_getObj_map hmo, hfa]
          simp [mvE]
        · cases h
      · cases h
    · cases h
  · cases h

end Go.Eng
