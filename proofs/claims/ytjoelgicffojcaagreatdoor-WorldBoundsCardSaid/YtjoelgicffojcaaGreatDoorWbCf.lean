/-
  WorldBounds: config.Check, place, Role, Next over any chain of one to eight numbers.
-/
import Derived.KernelRfl
import Derived.Test.YtjoelgicffojcaaGreatDoorWbCf1
import Derived.Test.YtjoelgicffojcaaGreatDoorWbCf2
import Derived.Test.YtjoelgicffojcaaGreatDoorWbCf3
import Derived.Test.YtjoelgicffojcaaGreatDoorWbCf4
import Derived.Test.YtjoelgicffojcaaGreatDoorWbCf5
import Derived.Test.YtjoelgicffojcaaGreatDoorWbCf6
import Derived.Test.YtjoelgicffojcaaGreatDoorWbCf7
import Derived.Test.YtjoelgicffojcaaGreatDoorWbCf8
namespace Go.Proofs.YtjoelgicffojcaaGreatDoor.wb
open Go.Eng
set_option maxRecDepth 1000000
set_option linter.unusedVariables false
set_option linter.unusedSimpArgs false
set_option linter.unusedSectionVars false
theorem chk {kd : CallKind} (hkd : kd = .normal ∨ kd = .deferred) {n : Nat} (h1 : 1 ≤ n) (h8 : n ≤ 8) {xs : List Int} (hx : xs.length = n) : Chk kd n xs := by
  obtain ⟨f, rfl⟩ := list_of n xs hx
  rcases hkd with rfl | rfl
  · match n, h1, h8 with
    | 1, _, _ => exact chk1n (f 0)
    | 2, _, _ => exact chk2n (f 0) (f 1)
    | 3, _, _ => exact chk3n (f 0) (f 1) (f 2)
    | 4, _, _ => exact chk4n (f 0) (f 1) (f 2) (f 3)
    | 5, _, _ => exact chk5n (f 0) (f 1) (f 2) (f 3) (f 4)
    | 6, _, _ => exact chk6n (f 0) (f 1) (f 2) (f 3) (f 4) (f 5)
    | 7, _, _ => exact chk7n (f 0) (f 1) (f 2) (f 3) (f 4) (f 5) (f 6)
    | 8, _, _ => exact chk8n (f 0) (f 1) (f 2) (f 3) (f 4) (f 5) (f 6) (f 7)
  · match n, h1, h8 with
    | 1, _, _ => exact chk1d (f 0)
    | 2, _, _ => exact chk2d (f 0) (f 1)
    | 3, _, _ => exact chk3d (f 0) (f 1) (f 2)
    | 4, _, _ => exact chk4d (f 0) (f 1) (f 2) (f 3)
    | 5, _, _ => exact chk5d (f 0) (f 1) (f 2) (f 3) (f 4)
    | 6, _, _ => exact chk6d (f 0) (f 1) (f 2) (f 3) (f 4) (f 5)
    | 7, _, _ => exact chk7d (f 0) (f 1) (f 2) (f 3) (f 4) (f 5) (f 6)
    | 8, _, _ => exact chk8d (f 0) (f 1) (f 2) (f 3) (f 4) (f 5) (f 6) (f 7)
theorem plc0 {kd : CallKind} (hkd : kd = .normal ∨ kd = .deferred) {n : Nat} (h1 : 1 ≤ n) (h8 : n ≤ 8) {xs : List Int} (hx : xs.length = n) : Plc0 kd n xs := by
  obtain ⟨f, rfl⟩ := list_of n xs hx
  rcases hkd with rfl | rfl
  · match n, h1, h8 with
    | 1, _, _ => exact plc01n (f 0)
    | 2, _, _ => exact plc02n (f 0) (f 1)
    | 3, _, _ => exact plc03n (f 0) (f 1) (f 2)
    | 4, _, _ => exact plc04n (f 0) (f 1) (f 2) (f 3)
    | 5, _, _ => exact plc05n (f 0) (f 1) (f 2) (f 3) (f 4)
    | 6, _, _ => exact plc06n (f 0) (f 1) (f 2) (f 3) (f 4) (f 5)
    | 7, _, _ => exact plc07n (f 0) (f 1) (f 2) (f 3) (f 4) (f 5) (f 6)
    | 8, _, _ => exact plc08n (f 0) (f 1) (f 2) (f 3) (f 4) (f 5) (f 6) (f 7)
  · match n, h1, h8 with
    | 1, _, _ => exact plc01d (f 0)
    | 2, _, _ => exact plc02d (f 0) (f 1)
    | 3, _, _ => exact plc03d (f 0) (f 1) (f 2)
    | 4, _, _ => exact plc04d (f 0) (f 1) (f 2) (f 3)
    | 5, _, _ => exact plc05d (f 0) (f 1) (f 2) (f 3) (f 4)
    | 6, _, _ => exact plc06d (f 0) (f 1) (f 2) (f 3) (f 4) (f 5)
    | 7, _, _ => exact plc07d (f 0) (f 1) (f 2) (f 3) (f 4) (f 5) (f 6)
    | 8, _, _ => exact plc08d (f 0) (f 1) (f 2) (f 3) (f 4) (f 5) (f 6) (f 7)
theorem plc1 {kd : CallKind} (hkd : kd = .normal ∨ kd = .deferred) {n : Nat} (h1 : 1 ≤ n) (h8 : n ≤ 8) {xs : List Int} (hx : xs.length = n) : Plc1 kd n xs := by
  obtain ⟨f, rfl⟩ := list_of n xs hx
  rcases hkd with rfl | rfl
  · match n, h1, h8 with
    | 1, _, _ => exact plc11n (f 0)
    | 2, _, _ => exact plc12n (f 0) (f 1)
    | 3, _, _ => exact plc13n (f 0) (f 1) (f 2)
    | 4, _, _ => exact plc14n (f 0) (f 1) (f 2) (f 3)
    | 5, _, _ => exact plc15n (f 0) (f 1) (f 2) (f 3) (f 4)
    | 6, _, _ => exact plc16n (f 0) (f 1) (f 2) (f 3) (f 4) (f 5)
    | 7, _, _ => exact plc17n (f 0) (f 1) (f 2) (f 3) (f 4) (f 5) (f 6)
    | 8, _, _ => exact plc18n (f 0) (f 1) (f 2) (f 3) (f 4) (f 5) (f 6) (f 7)
  · match n, h1, h8 with
    | 1, _, _ => exact plc11d (f 0)
    | 2, _, _ => exact plc12d (f 0) (f 1)
    | 3, _, _ => exact plc13d (f 0) (f 1) (f 2)
    | 4, _, _ => exact plc14d (f 0) (f 1) (f 2) (f 3)
    | 5, _, _ => exact plc15d (f 0) (f 1) (f 2) (f 3) (f 4)
    | 6, _, _ => exact plc16d (f 0) (f 1) (f 2) (f 3) (f 4) (f 5)
    | 7, _, _ => exact plc17d (f 0) (f 1) (f 2) (f 3) (f 4) (f 5) (f 6)
    | 8, _, _ => exact plc18d (f 0) (f 1) (f 2) (f 3) (f 4) (f 5) (f 6) (f 7)
theorem rol {kd : CallKind} (hkd : kd = .normal ∨ kd = .deferred) {n : Nat} (h1 : 1 ≤ n) (h8 : n ≤ 8) {xs : List Int} (hx : xs.length = n) : Rol kd n xs := by
  obtain ⟨f, rfl⟩ := list_of n xs hx
  rcases hkd with rfl | rfl
  · match n, h1, h8 with
    | 1, _, _ => exact rol1n (f 0)
    | 2, _, _ => exact rol2n (f 0) (f 1)
    | 3, _, _ => exact rol3n (f 0) (f 1) (f 2)
    | 4, _, _ => exact rol4n (f 0) (f 1) (f 2) (f 3)
    | 5, _, _ => exact rol5n (f 0) (f 1) (f 2) (f 3) (f 4)
    | 6, _, _ => exact rol6n (f 0) (f 1) (f 2) (f 3) (f 4) (f 5)
    | 7, _, _ => exact rol7n (f 0) (f 1) (f 2) (f 3) (f 4) (f 5) (f 6)
    | 8, _, _ => exact rol8n (f 0) (f 1) (f 2) (f 3) (f 4) (f 5) (f 6) (f 7)
  · match n, h1, h8 with
    | 1, _, _ => exact rol1d (f 0)
    | 2, _, _ => exact rol2d (f 0) (f 1)
    | 3, _, _ => exact rol3d (f 0) (f 1) (f 2)
    | 4, _, _ => exact rol4d (f 0) (f 1) (f 2) (f 3)
    | 5, _, _ => exact rol5d (f 0) (f 1) (f 2) (f 3) (f 4)
    | 6, _, _ => exact rol6d (f 0) (f 1) (f 2) (f 3) (f 4) (f 5)
    | 7, _, _ => exact rol7d (f 0) (f 1) (f 2) (f 3) (f 4) (f 5) (f 6)
    | 8, _, _ => exact rol8d (f 0) (f 1) (f 2) (f 3) (f 4) (f 5) (f 6) (f 7)
theorem nxt0 {kd : CallKind} (hkd : kd = .normal ∨ kd = .deferred) {n : Nat} (h1 : 1 ≤ n) (h8 : n ≤ 8) {xs : List Int} (hx : xs.length = n) : Nxt0 kd n xs := by
  obtain ⟨f, rfl⟩ := list_of n xs hx
  rcases hkd with rfl | rfl
  · match n, h1, h8 with
    | 1, _, _ => exact nxt01n (f 0)
    | 2, _, _ => exact nxt02n (f 0) (f 1)
    | 3, _, _ => exact nxt03n (f 0) (f 1) (f 2)
    | 4, _, _ => exact nxt04n (f 0) (f 1) (f 2) (f 3)
    | 5, _, _ => exact nxt05n (f 0) (f 1) (f 2) (f 3) (f 4)
    | 6, _, _ => exact nxt06n (f 0) (f 1) (f 2) (f 3) (f 4) (f 5)
    | 7, _, _ => exact nxt07n (f 0) (f 1) (f 2) (f 3) (f 4) (f 5) (f 6)
    | 8, _, _ => exact nxt08n (f 0) (f 1) (f 2) (f 3) (f 4) (f 5) (f 6) (f 7)
  · match n, h1, h8 with
    | 1, _, _ => exact nxt01d (f 0)
    | 2, _, _ => exact nxt02d (f 0) (f 1)
    | 3, _, _ => exact nxt03d (f 0) (f 1) (f 2)
    | 4, _, _ => exact nxt04d (f 0) (f 1) (f 2) (f 3)
    | 5, _, _ => exact nxt05d (f 0) (f 1) (f 2) (f 3) (f 4)
    | 6, _, _ => exact nxt06d (f 0) (f 1) (f 2) (f 3) (f 4) (f 5)
    | 7, _, _ => exact nxt07d (f 0) (f 1) (f 2) (f 3) (f 4) (f 5) (f 6)
    | 8, _, _ => exact nxt08d (f 0) (f 1) (f 2) (f 3) (f 4) (f 5) (f 6) (f 7)
theorem nxt1 {kd : CallKind} (hkd : kd = .normal ∨ kd = .deferred) {n : Nat} (h1 : 1 ≤ n) (h8 : n ≤ 8) {xs : List Int} (hx : xs.length = n) : Nxt1 kd n xs := by
  obtain ⟨f, rfl⟩ := list_of n xs hx
  rcases hkd with rfl | rfl
  · match n, h1, h8 with
    | 1, _, _ => exact nxt11n (f 0)
    | 2, _, _ => exact nxt12n (f 0) (f 1)
    | 3, _, _ => exact nxt13n (f 0) (f 1) (f 2)
    | 4, _, _ => exact nxt14n (f 0) (f 1) (f 2) (f 3)
    | 5, _, _ => exact nxt15n (f 0) (f 1) (f 2) (f 3) (f 4)
    | 6, _, _ => exact nxt16n (f 0) (f 1) (f 2) (f 3) (f 4) (f 5)
    | 7, _, _ => exact nxt17n (f 0) (f 1) (f 2) (f 3) (f 4) (f 5) (f 6)
    | 8, _, _ => exact nxt18n (f 0) (f 1) (f 2) (f 3) (f 4) (f 5) (f 6) (f 7)
  · match n, h1, h8 with
    | 1, _, _ => exact nxt11d (f 0)
    | 2, _, _ => exact nxt12d (f 0) (f 1)
    | 3, _, _ => exact nxt13d (f 0) (f 1) (f 2)
    | 4, _, _ => exact nxt14d (f 0) (f 1) (f 2) (f 3)
    | 5, _, _ => exact nxt15d (f 0) (f 1) (f 2) (f 3) (f 4)
    | 6, _, _ => exact nxt16d (f 0) (f 1) (f 2) (f 3) (f 4) (f 5)
    | 7, _, _ => exact nxt17d (f 0) (f 1) (f 2) (f 3) (f 4) (f 5) (f 6)
    | 8, _, _ => exact nxt18d (f 0) (f 1) (f 2) (f 3) (f 4) (f 5) (f 6) (f 7)
theorem nxt2 {kd : CallKind} (hkd : kd = .normal ∨ kd = .deferred) {n : Nat} (h1 : 1 ≤ n) (h8 : n ≤ 8) {xs : List Int} (hx : xs.length = n) : Nxt2 kd n xs := by
  obtain ⟨f, rfl⟩ := list_of n xs hx
  rcases hkd with rfl | rfl
  · match n, h1, h8 with
    | 1, _, _ => exact nxt21n (f 0)
    | 2, _, _ => exact nxt22n (f 0) (f 1)
    | 3, _, _ => exact nxt23n (f 0) (f 1) (f 2)
    | 4, _, _ => exact nxt24n (f 0) (f 1) (f 2) (f 3)
    | 5, _, _ => exact nxt25n (f 0) (f 1) (f 2) (f 3) (f 4)
    | 6, _, _ => exact nxt26n (f 0) (f 1) (f 2) (f 3) (f 4) (f 5)
    | 7, _, _ => exact nxt27n (f 0) (f 1) (f 2) (f 3) (f 4) (f 5) (f 6)
    | 8, _, _ => exact nxt28n (f 0) (f 1) (f 2) (f 3) (f 4) (f 5) (f 6) (f 7)
  · match n, h1, h8 with
    | 1, _, _ => exact nxt21d (f 0)
    | 2, _, _ => exact nxt22d (f 0) (f 1)
    | 3, _, _ => exact nxt23d (f 0) (f 1) (f 2)
    | 4, _, _ => exact nxt24d (f 0) (f 1) (f 2) (f 3)
    | 5, _, _ => exact nxt25d (f 0) (f 1) (f 2) (f 3) (f 4)
    | 6, _, _ => exact nxt26d (f 0) (f 1) (f 2) (f 3) (f 4) (f 5)
    | 7, _, _ => exact nxt27d (f 0) (f 1) (f 2) (f 3) (f 4) (f 5) (f 6)
    | 8, _, _ => exact nxt28d (f 0) (f 1) (f 2) (f 3) (f 4) (f 5) (f 6) (f 7)
theorem plF_no : ∀ (cs : List Int) (i : Nat) (ys : List Int), (plF i cs ys).2 = false → (plF i cs ys).1 = zs9
  | [], i, ys, h => by cases h
  | x :: r, i, ys, h => by
    unfold plF at h ⊢
    split
    · rename_i hc
      rw [if_pos hc] at h
      exact plF_no r _ _ h
    · rfl
theorem plF_at : ∀ (cs : List Int) (i : Nat) (ys : List Int), (∀ k, ∃ j : Nat, j ≤ i ∧ ys.getD k 0 = .ofNat j) → ∀ k, ∃ j : Nat, j ≤ i + cs.length ∧ (plF i cs ys).1.getD k 0 = .ofNat j
  | [], i, ys, h, k => h k
  | x :: r, i, ys, h, k => by
    unfold plF
    split
    · obtain ⟨j, h1, h2⟩ := plF_at r (i + 1) (ys.set x.toNat (.ofNat (i + 1))) (fun k => by
        by_cases hk : k < ys.length ∧ k = x.toNat
        · refine ⟨i + 1, Nat.le_refl _, ?_⟩
          obtain ⟨h1, rfl⟩ := hk
          simp [List.getD_eq_getElem?_getD, List.getElem?_set, h1]
        · obtain ⟨j, h1, h2⟩ := h k
          refine ⟨j, Nat.le_succ_of_le h1, ?_⟩
          rw [← h2]
          simp only [List.getD_eq_getElem?_getD, List.getElem?_set]
          split
          · rename_i e
            subst e
            split
            · rename_i h3
              exact absurd ⟨h3, rfl⟩ hk
            · rename_i h3
              rw [List.getElem?_eq_none (by omega)]
          · rfl) k
      exact ⟨j, by simp only [List.length_cons]; omega, h2⟩
    · refine ⟨0, Nat.zero_le _, ?_⟩
      unfold zs9
      match k with
      | 0 | 1 | 2 | 3 | 4 | 5 | 6 | 7 | 8 => rfl
      | k + 9 => rfl
theorem at_le (cs : List Int) (id : Nat) : ∃ j : Nat, j ≤ cs.length ∧ atC cs id = .ofNat j := by
  obtain ⟨j, h1, h2⟩ := plF_at cs 0 zs9 (fun k => ⟨0, Nat.le_refl _, by
    unfold zs9
    match k with
    | 0 | 1 | 2 | 3 | 4 | 5 | 6 | 7 | 8 => rfl
    | k + 9 => rfl⟩) id
  exact ⟨j, by omega, h2⟩
theorem at_no {cs : List Int} {id : Nat} (h : okC cs = false) : atC cs id = 0 := by
  show (plF 0 cs zs9).1.getD id 0 = 0
  rw [plF_no cs 0 zs9 h]
  unfold zs9
  match id with
  | 0 | 1 | 2 | 3 | 4 | 5 | 6 | 7 | 8 => rfl
  | k + 9 => rfl
theorem pickC_eq (l : List Value) (b n : Nat) (x : Unit) (h : pickC l = some (b, (n, x))) : l = [conf b n] := by
  unfold pickC at h
  split at h
  · split at h
    · rename_i e b' l' c hb
      simp only [Bool.and_eq_true] at hb
      obtain rfl := Nat.eq_of_beq_eq_true hb.1
      obtain rfl := Nat.eq_of_beq_eq_true hb.2
      cases h
      rfl
    · cases h
  · cases h
theorem pickI_eq (l : List Value) (b n i : Nat) (h : pickI l = some (b, (n, i))) : l = [conf b n, .int .i64 (.ofNat i)] ∧ 1 ≤ i ∧ i ≤ 8 := by
  unfold pickI at h
  split at h
  · split at h
    · rename_i e b' l' c i' hb
      simp only [Bool.and_eq_true] at hb
      obtain rfl := Nat.eq_of_beq_eq_true hb.1
      obtain rfl := Nat.eq_of_beq_eq_true hb.2.1
      cases h
      exact ⟨rfl, Nat.le_of_ble_eq_true hb.2.2.1, Nat.le_of_ble_eq_true hb.2.2.2⟩
    · cases h
  · cases h
theorem conf_m (E : Env) (b n : Nat) : E.m (conf b n) = (E.at32 b).m (conf 32 n) := by simp [Env.m, mv, mvL, soff, scap, Env.at32]
theorem conf_c (D : Nat → Prop) (b n : Nat) (h : Clo D (conf b n)) : D b := by
  have := Eng.Clo_agg.1 h (.slice (some ⟨b, 0, none⟩) n n) (by simp)
  exact this
theorem conf_32 (n : Nat) : Clo (fun j => j ≤ 32) (conf 32 n) := Eng.Clo_agg.2 fun v hv => by
  simp only [List.mem_cons, List.mem_nil_iff, or_false] at hv
  rcases hv with rfl | rfl
  · trivial
  · exact Nat.le_refl 32
theorem chkHooked : HookOk Tryz.prog chkHook := hookInts_ok (fun b l _ => [conf b l]) (by kernel_rfl) pickC_eq (fun _ _ => rfl) (fun n x E b => by show [E.m (conf b n)] = [(E.at32 b).m (conf 32 n)]; rw [conf_m E b n]) (fun n x D b h => conf_c _ _ _ (h _ (List.mem_cons_self ..))) (fun n x u hu => by rw [List.mem_singleton.1 hu]; exact conf_32 n)
  (fun x b l cs _ hl h1 h8 kd hkd => by
    have h := chk hkd h1 h8 hl
    unfold Chk at h
    simp only [List.map_cons, List.map_nil, List.cons.injEq, and_true] at h
    cases hok : okC cs with
    | true =>
      have e : chkI cs = 0 := by show (bif okC cs then (0 : Int) else 161) = 0; rw [hok]; rfl
      rw [e]
      exact row_walk (noCount counted) mixed placesHooked h.2 (by rw [hok]; rfl)
    | false =>
      have e : chkI cs = 161 := by show (bif okC cs then (0 : Int) else 161) = 161; rw [hok]; rfl
      rw [e]
      exact row_walk (noCount counted) mixed placesHooked h.1 (by rw [hok]; rfl))
theorem plChked : HookOk Tryz.prog plChk := hooks_ok fun h hh => by
  simp only [List.mem_cons, List.mem_nil_iff, or_false] at hh
  rcases hh with rfl | rfl
  · exact placesHooked
  · exact chkHooked
theorem of_id {α : Type} {f g : Nat → α} (h : (List.range 8).map (fun i => f (i + 1)) = (List.range 8).map (fun i => g (i + 1))) {i : Nat} (h1 : 1 ≤ i) (h8 : i ≤ 8) : f i = g i := by
  have := of_map h (i - 1) (by omega)
  rwa [Nat.sub_add_cancel h1] at this
theorem placeHooked : HookOk Tryz.prog placeHook := hookInts_ok (fun b l i => [conf b l, .int .i64 (.ofNat i)]) (by kernel_rfl) (fun l b n i h => (pickI_eq l b n i h).1) (fun _ _ => rfl) (fun n x E b => by show [E.m (conf b n), .int .i64 (.ofNat x)] = [(E.at32 b).m (conf 32 n), .int .i64 (.ofNat x)]; rw [conf_m E b n]) (fun n x D b h => conf_c _ _ _ (h _ (List.mem_cons_self ..))) (fun n x u hu => by
    rcases List.mem_cons.1 hu with rfl | hu
    · exact conf_32 n
    · rw [List.mem_singleton.1 hu]; trivial)
  (fun i b l cs hp hl h1 h8 kd hkd => by
    obtain ⟨_, i1, i8⟩ := pickI_eq _ _ _ _ hp
    cases hok : okC cs with
    | true =>
      have e : (chkI cs != 0) = false := by show ((bif okC cs then (0 : Int) else 161) != 0) = false; rw [hok]; rfl
      have h := of_id (f := fun i => runs R2 23 [conf 32 l, .int .i64 (.ofNat i)] [.call 12, .tell 23 16 (.bool false), .call 19] kd cs) (g := fun i => gives [.bool (chkI cs != 0)] (.int .i64 (atC cs i)) cs) (plc1 hkd h1 h8 hl) i1 i8
      exact row_walk (noCount counted) mixed plChked h (by rw [e]; rfl)
    | false =>
      have e : (chkI cs != 0) = true := by show ((bif okC cs then (0 : Int) else 161) != 0) = true; rw [hok]; rfl
      have h := of_id (f := fun i => runs R2 23 [conf 32 l, .int .i64 (.ofNat i)] [.call 12, .tell 23 16 (.bool true)] kd cs) (g := fun i => gives [.bool (chkI cs != 0)] (.int .i64 0) cs) (plc0 hkd h1 h8 hl) i1 i8
      rw [at_no hok]
      exact row_walk (noCount counted) mixed plChked h (by rw [e]; rfl))
theorem pcChked : HookOk Tryz.prog pcChk := hooks_ok fun h hh => by
  simp only [List.mem_cons, List.mem_nil_iff, or_false] at hh
  rcases hh with rfl | rfl
  · exact placeHooked
  · exact chkHooked
def roleI (cs : List Int) (id : Nat) : Int := .ofNat (roleN cs.length (atC cs id).toNat)
def nextI (cs : List Int) (id : Nat) : Int := nextN cs (atC cs id).toNat
noncomputable def roleHook : Hook := hookInts 14 pickI (fun i cs => .int .i64 (roleI cs i))
noncomputable def nextHook : Hook := hookInts 58 pickI (fun i cs => .int .i64 (nextI cs i))
theorem roleHooked : HookOk Tryz.prog roleHook := hookInts_ok (fun b l i => [conf b l, .int .i64 (.ofNat i)]) (by kernel_rfl) (fun l b n i h => (pickI_eq l b n i h).1) (fun _ _ => rfl) (fun n x E b => by show [E.m (conf b n), .int .i64 (.ofNat x)] = [(E.at32 b).m (conf 32 n), .int .i64 (.ofNat x)]; rw [conf_m E b n]) (fun n x D b h => conf_c _ _ _ (h _ (List.mem_cons_self ..))) (fun n x u hu => by
    rcases List.mem_cons.1 hu with rfl | hu
    · exact conf_32 n
    · rw [List.mem_singleton.1 hu]; trivial)
  (fun i b l cs hp hl h1 h8 kd hkd => by
    obtain ⟨_, i1, i8⟩ := pickI_eq _ _ _ _ hp
    obtain ⟨j, hj, ha⟩ := at_le cs i
    have h := of_id (f := fun i => (List.range (l + 1)).map (fun j => runs R3 14 [conf 32 l, .int .i64 (.ofNat i)] [.tell 14 8 (.int .i64 (.ofNat j))] kd cs)) (g := fun i => (List.range (l + 1)).map (fun j => gives [.int .i64 (atC cs i)] (.int .i64 (.ofNat (roleN l j))) cs)) (rol hkd h1 h8 hl) i1 i8
    have h' := of_map h j (by omega)
    have e : roleI cs i = .ofNat (roleN l j) := by
      unfold roleI
      rw [ha, hl]
      rfl
    rw [e]
    exact row_walk (noCount counted) mixed pcChked h' (by rw [ha]; rfl))
theorem nextHooked : HookOk Tryz.prog nextHook := hookInts_ok (fun b l i => [conf b l, .int .i64 (.ofNat i)]) (by kernel_rfl) (fun l b n i h => (pickI_eq l b n i h).1) (fun _ _ => rfl) (fun n x E b => by show [E.m (conf b n), .int .i64 (.ofNat x)] = [(E.at32 b).m (conf 32 n), .int .i64 (.ofNat x)]; rw [conf_m E b n]) (fun n x D b h => conf_c _ _ _ (h _ (List.mem_cons_self ..))) (fun n x u hu => by
    rcases List.mem_cons.1 hu with rfl | hu
    · exact conf_32 n
    · rw [List.mem_singleton.1 hu]; trivial)
  (fun i b l cs hp hl h1 h8 kd hkd => by
    obtain ⟨_, i1, i8⟩ := pickI_eq _ _ _ _ hp
    obtain ⟨j, hj, ha⟩ := at_le cs i
    have e : nextI cs i = nextN cs j := by
      unfold nextI
      rw [ha]
      rfl
    rw [e]
    match j, hj, ha with
    | 0, _, ha =>
      have h := of_id (f := fun i => runs R3 58 [conf 32 l, .int .i64 (.ofNat i)] [.tell 58 8 (.int .i64 0)] kd cs) (g := fun i => gives [.int .i64 (atC cs i)] (.int .i64 0) cs) (nxt0 hkd h1 h8 hl) i1 i8
      exact row_walk (noCount counted) mixed pcChked h (by rw [ha]; rfl)
    | j + 1, hj, ha =>
      by_cases hn : j + 1 = l
      · have h := of_id (f := fun i => runs R3 58 [conf 32 l, .int .i64 (.ofNat i)] [.tell 58 8 (.int .i64 (.ofNat l))] kd cs) (g := fun i => gives [.int .i64 (atC cs i)] (.int .i64 0) cs) (nxt2 hkd h1 h8 hl) i1 i8
        have e2 : nextN cs (j + 1) = 0 := if_pos (by omega)
        rw [e2]
        exact row_walk (noCount counted) mixed pcChked h (by rw [ha, hn]; rfl)
      · have h := of_id (f := fun i => (List.range (l - 1)).map (fun j => runs R3 58 [conf 32 l, .int .i64 (.ofNat i)] [.tell 58 8 (.int .i64 (.ofNat (j + 1))), .call 12, .tell 91 17 (.bool false)] kd cs)) (g := fun i => (List.range (l - 1)).map (fun j => gives [.int .i64 (atC cs i), .bool (chkI cs != 0)] (.int .i64 (cs.getD (j + 1) 0)) cs)) (nxt1 hkd h1 h8 hl) i1 i8
        have h' := of_map h j (by omega)
        have e2 : nextN cs (j + 1) = cs.getD (j + 1) 0 := if_neg (by omega)
        have hok : okC cs = true := by
          cases hok : okC cs with
          | true => rfl
          | false =>
            have := at_no (id := i) hok
            rw [ha] at this
            cases this
        have e3 : (chkI cs != 0) = false := by show ((bif okC cs then (0 : Int) else 161) != 0) = false; rw [hok]; rfl
        rw [e2]
        exact row_walk (noCount counted) mixed pcChked h' (by rw [ha, e3]; rfl))
end Go.Proofs.YtjoelgicffojcaaGreatDoor.wb
