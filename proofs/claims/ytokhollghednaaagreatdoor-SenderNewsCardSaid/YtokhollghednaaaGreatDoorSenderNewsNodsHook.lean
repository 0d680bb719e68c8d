/-
  SenderNews: merkle.Node of any digests, as a known call: it answers some digest.
-/
import Derived.KernelRfl
import Derived.Test.YtokhollghednaaaGreatDoorSenderNewsNodsA
import Derived.Test.YtokhollghednaaaGreatDoorSenderNewsNodsB
import Derived.Test.YtokhollghednaaaGreatDoorSenderNewsNodsC
namespace Go.Proofs.YtokhollghednaaaGreatDoor.senderNews
open Go.Eng
set_option maxRecDepth 1000000
set_option linter.unusedVariables false
set_option linter.unusedSimpArgs false
set_option linter.unusedSectionVars false
namespace nods
local instance : Hk := ⟨true⟩
theorem q16 (d u w : Nat → Int) : ∃ v, isDig v = true ∧ Both Tryz.prog 91 ((atE 6 d u w).st keys) v := last_m (noCount counted) mixed (noHook_ok _) (piece16 d u w)
theorem q15 (d u w : Nat → Int) : ∃ v, isDig v = true ∧ Both Tryz.prog 91 ((atO 5 d u w).st keys) v := by
  obtain ⟨v, h1, h2⟩ := q16 d w (exW 54 (krun Tryz.prog R 1 ((atO 5 d u w).st keys)))
  exact ⟨v, h1, piece_m (noCount counted) mixed (noHook_ok _) (piece15 d u w) h2⟩
theorem q14 (d u w : Nat → Int) : ∃ v, isDig v = true ∧ Both Tryz.prog 91 ((atE 5 d u w).st keys) v := by
  obtain ⟨v, h1, h2⟩ := q15 d u w
  exact ⟨v, h1, piece_m (noCount counted) mixed (noHook_ok _) (piece14 d u w) h2⟩
theorem q13 (d u w : Nat → Int) : ∃ v, isDig v = true ∧ Both Tryz.prog 91 ((atO 4 d u w).st keys) v := by
  obtain ⟨v, h1, h2⟩ := q14 d w (exW 54 (krun Tryz.prog R 1 ((atO 4 d u w).st keys)))
  exact ⟨v, h1, piece_m (noCount counted) mixed (noHook_ok _) (piece13 d u w) h2⟩
theorem q12 (d u w : Nat → Int) : ∃ v, isDig v = true ∧ Both Tryz.prog 91 ((atE 4 d u w).st keys) v := by
  obtain ⟨v, h1, h2⟩ := q13 d u w
  exact ⟨v, h1, piece_m (noCount counted) mixed (noHook_ok _) (piece12 d u w) h2⟩
theorem q11 (d u w : Nat → Int) : ∃ v, isDig v = true ∧ Both Tryz.prog 91 ((atO 3 d u w).st keys) v := by
  obtain ⟨v, h1, h2⟩ := q12 d w (exW 54 (krun Tryz.prog R 1 ((atO 3 d u w).st keys)))
  exact ⟨v, h1, piece_m (noCount counted) mixed (noHook_ok _) (piece11 d u w) h2⟩
theorem q10 (d u w : Nat → Int) : ∃ v, isDig v = true ∧ Both Tryz.prog 91 ((atE 3 d u w).st keys) v := by
  obtain ⟨v, h1, h2⟩ := q11 d u w
  exact ⟨v, h1, piece_m (noCount counted) mixed (noHook_ok _) (piece10 d u w) h2⟩
theorem q9 (d u w : Nat → Int) : ∃ v, isDig v = true ∧ Both Tryz.prog 91 ((atO 2 d u w).st keys) v := by
  obtain ⟨v, h1, h2⟩ := q10 d w (exW 54 (krun Tryz.prog R 1 ((atO 2 d u w).st keys)))
  exact ⟨v, h1, piece_m (noCount counted) mixed (noHook_ok _) (piece9 d u w) h2⟩
theorem q8 (d u w : Nat → Int) : ∃ v, isDig v = true ∧ Both Tryz.prog 91 ((atE 2 d u w).st keys) v := by
  obtain ⟨v, h1, h2⟩ := q9 d u w
  exact ⟨v, h1, piece_m (noCount counted) mixed (noHook_ok _) (piece8 d u w) h2⟩
theorem q7 (d u w : Nat → Int) : ∃ v, isDig v = true ∧ Both Tryz.prog 91 ((atO 1 d u w).st keys) v := by
  obtain ⟨v, h1, h2⟩ := q8 d w (exW 54 (krun Tryz.prog R 1 ((atO 1 d u w).st keys)))
  exact ⟨v, h1, piece_m (noCount counted) mixed (noHook_ok _) (piece7 d u w) h2⟩
theorem q6 (d u w : Nat → Int) : ∃ v, isDig v = true ∧ Both Tryz.prog 91 ((atE 1 d u w).st keys) v := by
  obtain ⟨v, h1, h2⟩ := q7 d u w
  exact ⟨v, h1, piece_m (noCount counted) mixed (noHook_ok _) (piece6 d u w) h2⟩
theorem q5 (d u w : Nat → Int) : ∃ v, isDig v = true ∧ Both Tryz.prog 91 ((atO 0 d u w).st keys) v := by
  obtain ⟨v, h1, h2⟩ := q6 d w (exW 54 (krun Tryz.prog R 1 ((atO 0 d u w).st keys)))
  exact ⟨v, h1, piece_m (noCount counted) mixed (noHook_ok _) (piece5 d u w) h2⟩
theorem q4 (d u w : Nat → Int) : ∃ v, isDig v = true ∧ Both Tryz.prog 91 ((atE 0 d u w).st keys) v := by
  obtain ⟨v, h1, h2⟩ := q5 d u w
  exact ⟨v, h1, piece_m (noCount counted) mixed (noHook_ok _) (piece4 d u w) h2⟩
theorem q3 (d u w : Nat → Int) : ∃ v, isDig v = true ∧ Both Tryz.prog 91 ((at3 d u w).st keys) v := by
  obtain ⟨v, h1, h2⟩ := q4 d w (exW 54 (krun Tryz.prog R 1 ((at3 d u w).st keys)))
  exact ⟨v, h1, piece_m (noCount counted) mixed (noHook_ok _) (piece3 d u w) h2⟩
theorem q2 (d u w : Nat → Int) : ∃ v, isDig v = true ∧ Both Tryz.prog 91 ((at2 d u w).st keys) v := by
  obtain ⟨v, h1, h2⟩ := q3 d u w
  exact ⟨v, h1, piece_m (noCount counted) mixed (noHook_ok _) (piece2 d u w) h2⟩
theorem q1 (d u w : Nat → Int) : ∃ v, isDig v = true ∧ Both Tryz.prog 91 ((at1 d u w).st keys) v := by
  obtain ⟨v, h1, h2⟩ := q2 d w (exW 54 (krun Tryz.prog R 1 ((at1 d u w).st keys)))
  exact ⟨v, h1, piece_m (noCount counted) mixed (noHook_ok _) (piece1 d u w) h2⟩
theorem q0 (d u w : Nat → Int) : ∃ v, isDig v = true ∧ Both Tryz.prog 91 (start d) v := by
  obtain ⟨v, h1, h2⟩ := q1 d u w
  exact ⟨v, h1, piece_m (noCount counted) mixed (noHook_ok _) (piece0 d u w) h2⟩
noncomputable def out (d : Nat → Int) : Value := Classical.choose (q0 d (fun _ => 0) (fun _ => 0))
theorem out_spec (d : Nat → Int) : isDig (out d) = true ∧ Both Tryz.prog 91 (start d) (out d) := Classical.choose_spec (q0 d (fun _ => 0) (fun _ => 0))
def intAt (l : List Value) (i : Nat) : Int := match l[i]? with
  | some (.int _ n) => n
  | _ => 0
def intsOf : Value → Nat → Int
  | .agg cs, i => intAt cs.toList i
  | _, _ => 0
theorem dat_of {l : List Value} {n : Nat} (hl : l.length = n) (h : l.all isU8 = true) : l = dat (intAt l) 0 n := by
  apply List.ext_getElem?
  intro i
  simp only [dat]
  by_cases hi : i < n
  · have hi' : i < l.length := by omega
    have hu := List.all_eq_true.1 h _ (List.getElem_mem hi')
    rw [List.getElem?_eq_getElem hi', List.getElem?_map, List.getElem?_range hi]
    simp only [Option.map_some, Nat.zero_add, intAt, List.getElem?_eq_getElem hi']
    cases hv : l[i] with
    | int k m =>
      rw [hv] at hu
      cases k <;> simp_all [isU8]
    | _ => rw [hv] at hu; cases hu
  · rw [List.getElem?_eq_none (by omega), List.getElem?_eq_none (by simp; omega)]
theorem dig_of {v : Value} (h : isDig v = true) : v = .agg (dat (intsOf v) 0 32).toArray := by
  cases v with
  | agg cs =>
    simp only [isDig, Bool.and_eq_true] at h
    have := dat_of (Nat.eq_of_beq_eq_true h.1) h.2
    rw [show intsOf (.agg cs) = intAt cs.toList from funext fun i => rfl, ← this]
  | _ => cases h
noncomputable def res (d : Nat → Int) : Value := .agg (dat (intsOf (out d)) 0 32).toArray
theorem body : (Tryz.prog.funcs[91]?).any (fun fn => fn.body.isSome) = true := by kernel_rfl
noncomputable def hook : Hook := fun g l N => if Nat.beq g 91 = true then match l with
  | [.agg ⟨cells⟩] => if and (Nat.beq cells.length 512) (cells.all isU8) = true then some (res (intAt cells), N) else none
  | _ => none
  else none
theorem hooked : HookOk Tryz.prog hook := by
  intro g l N u N' h
  unfold hook at h
  split at h
  rotate_left
  · cases h
  rename_i hg
  obtain rfl := Nat.eq_of_beq_eq_true hg
  split at h
  rotate_left
  · cases h
  rename_i cells
  split at h
  rotate_left
  · cases h
  rename_i hc
  simp only [Bool.and_eq_true] at hc
  simp only [Option.some.injEq, Prod.mk.injEq] at h
  obtain ⟨rfl, rfl⟩ := h
  obtain ⟨h1, h2⟩ := out_spec (intAt cells)
  have e : [Value.agg ⟨cells⟩] = nodeArgs (intAt cells) := by
    rw [nodeArgs, ← dat_of (Nat.eq_of_beq_eq_true hc.1) hc.2]
  have ev : res (intAt cells) = out (intAt cells) := (dig_of h1).symm
  have hp : ∀ (f : Nat → Int) (n : Nat), plainL (dat f 0 n) = true := fun f n => plainL_all.2 fun v hv => by
    simp only [dat, List.mem_map] at hv
    obtain ⟨_, _, rfl⟩ := hv
    rfl
  rw [e, ev]
  refine ⟨plain_ran (by rw [nodeArgs]; simp [plainL, plain, hp]) (by rw [dig_of h1]; simp [plain, hp]) (fun kd hkd => ?_) N, ?_⟩
  · rcases hkd with rfl | rfl
    · obtain ⟨T, a1, a2⟩ := h2.1
      exact ⟨_, T, enters _, a1, a2⟩
    · obtain ⟨s', a1, a2⟩ := kenter_d (N := CH.first []) (enters (intAt cells))
      obtain ⟨T, a3, a4⟩ := h2.2 _ a2
      exact ⟨s', T, a1, a3, a4⟩
  · have hb := body
    cases hf : Tryz.prog.funcs[91]? with
    | none => rw [hf] at hb; cases hb
    | some fn => exact ⟨fn, rfl, by rw [hf] at hb; exact hb⟩
end nods
end Go.Proofs.YtokhollghednaaaGreatDoor.senderNews
