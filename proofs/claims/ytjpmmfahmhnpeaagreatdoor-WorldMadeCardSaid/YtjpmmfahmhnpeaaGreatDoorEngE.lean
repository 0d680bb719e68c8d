/-
  The engine, part E: slices, append, maps, functions as values.
-/
import Derived.Test.YtjpmmfahmhnpeaaGreatDoorEngD
namespace Go.Eng
set_option linter.unusedSimpArgs false
set_option linter.unusedVariables false

/-! ### slicing -/
def cbound (v : Value) (y : Nat) : Option Nat :=
  match v with
  | .int _ i => if 0 ≤ i ∧ i ≤ y then some i.toNat else none
  | _ => none
theorem bound_ok {P : Program} {E : Env} {w : World} {v : Value} {y n y' : Nat} (h : cbound v y = some n) (hy : y ≤ y') (code : BoundsCode) : (Instr.sliceBound (E.m v) y' code).run P w = .ok n w ∧ n ≤ y := by
  unfold cbound at h
  split at h
  · rename_i k i
    split at h
    · rename_i hb
      cases h
      have : E.m (.int k i) = .int k i := rfl
      have h2 : 0 ≤ i ∧ i ≤ (y' : Int) := ⟨hb.1, by omega⟩
      refine ⟨?_, by omega⟩
      simp [this, Instr.sliceBound, asIntOf, h2]
    · cases h
  · cases h
def cboundOr (v : Option Value) (y d : Nat) : Option Nat :=
  match v with
  | some v => cbound v y
  | none => if d ≤ y then some d else none
theorem boundOr_ok {P : Program} {E : Env} {w : World} {v : Option Value} {y n y' d : Nat} (h : cboundOr v y d = some n) (hy : y ≤ y') (code : BoundsCode) :
    (match v.map E.m with | some u => Instr.sliceBound u y' code | none => pure d : Sem Nat).run P w = .ok n w ∧ n ≤ y := by
  cases v with
  | none =>
    simp only [cboundOr] at h
    split at h
    · cases h; exact ⟨rfl, by assumption⟩
    · cases h
  | some v => exact bound_ok h hy code
/-- The bounds of x[lo:hi] and x[lo:hi:max]: from, to, and what the capacity goes up to (none: as far as ever). -/
def cbounds (len cap : Nat) (lo hi mx : Option Value) : Option (Nat × Nat × Option Nat) :=
  match mx with
  | none => do
    let h ← cboundOr hi cap len
    let l ← cboundOr lo h 0
    pure (l, h, none)
  | some vm => do
    let m ← cbound vm cap
    let vh ← hi
    let h ← cbound vh m
    let l ← cboundOr lo h 0
    pure (l, h, some m)
theorem bounds_ok {P : Program} {E : Env} {w : World} {len cap cap' : Nat} {lo hi mx : Option Value} {l h : Nat} {m : Option Nat} (hc : cbounds len cap lo hi mx = some (l, h, m)) (hcap : cap ≤ cap') (isSlice : Bool) :
    (Instr.sliceBounds isSlice len cap' (lo.map E.m) (hi.map E.m) (mx.map E.m)).run P w = .ok (l, h, m.getD cap') w ∧ l ≤ h ∧ h ≤ m.getD cap ∧ m.getD cap ≤ cap := by
  unfold cbounds at hc
  cases mx with
  | none =>
    simp only [Option.bind_eq_bind] at hc
    cases h1 : cboundOr hi cap len with
    | none => simp [h1] at hc
    | some h' =>
      cases h2 : cboundOr lo h' 0 with
      | none => simp [h1, h2] at hc
      | some l' =>
        simp only [h1, h2, Option.bind_some, Option.pure_def, Option.some.injEq, Prod.mk.injEq] at hc
        obtain ⟨rfl, rfl, rfl⟩ := hc
        have g2 : ∀ code, (match lo.map E.m with | some u => Instr.sliceBound u h' code | none => pure 0 : Sem Nat).run P w = .ok l' w ∧ l' ≤ h' := fun code => boundOr_ok h2 (Nat.le_refl _) code
        have g1 : ∀ code, (match hi.map E.m with | some u => Instr.sliceBound u cap' code | none => pure len : Sem Nat).run P w = .ok h' w ∧ h' ≤ cap := fun code => boundOr_ok h1 hcap code
        refine ⟨?_, (g2 .index).2, (g1 .index).2, Nat.le_refl _⟩
        have e1 : hi = none → h' = len := by
          intro hh; subst hh
          simp only [cboundOr] at h1
          split at h1
          · cases h1; rfl
          · cases h1
        have e2 : lo = none → l' = 0 := by
          intro hh; subst hh
          simp only [cboundOr] at h2
          split at h2
          · cases h2; rfl
          · cases h2
        cases hi with
        | none =>
          have e1' := e1 rfl
          subst e1'
          cases lo with
          | none =>
            have e2' := e2 rfl
            subst e2'
            simp [Instr.sliceBounds]
          | some vl =>
            simp only [Option.map_some] at g2
            simp [Instr.sliceBounds, g2]
        | some vh =>
          simp only [Option.map_some] at g1
          cases lo with
          | none =>
            have e2' := e2 rfl
            subst e2'
            simp [Instr.sliceBounds, g1]
          | some vl =>
            simp only [Option.map_some] at g2
            simp [Instr.sliceBounds, g1, g2]
  | some vm =>
    simp only [Option.bind_eq_bind] at hc
    cases h0 : cbound vm cap with
    | none => simp [h0] at hc
    | some m' =>
      cases hi with
      | none => simp [h0] at hc
      | some vh =>
        cases h1 : cbound vh m' with
        | none => simp [h0, h1] at hc
        | some h' =>
          cases h2 : cboundOr lo h' 0 with
          | none => simp [h0, h1, h2] at hc
          | some l' =>
            simp only [h0, h1, h2, Option.bind_some, Option.pure_def, Option.some.injEq, Prod.mk.injEq] at hc
            obtain ⟨rfl, rfl, rfl⟩ := hc
            have g2 : ∀ code, (match lo.map E.m with | some u => Instr.sliceBound u h' code | none => pure 0 : Sem Nat).run P w = .ok l' w ∧ l' ≤ h' := fun code => boundOr_ok h2 (Nat.le_refl _) code
            have g1 : ∀ code, (Instr.sliceBound (E.m vh) m' code).run P w = .ok h' w ∧ h' ≤ m' := fun code => bound_ok h1 (Nat.le_refl _) code
            have g0 : ∀ code, (Instr.sliceBound (E.m vm) cap' code).run P w = .ok m' w ∧ m' ≤ cap := fun code => bound_ok h0 hcap code
            refine ⟨?_, (g2 .index).2, (g1 .index).2, (g0 .index).2⟩
            have e2 : lo = none → l' = 0 := by
              intro hh; subst hh
              simp only [cboundOr] at h2
              split at h2
              · cases h2; rfl
              · cases h2
            cases lo with
            | none =>
              have e2' := e2 rfl
              subst e2'
              simp [Instr.sliceBounds, g0, g1]
            | some vl =>
              simp only [Option.map_some] at g2
              simp [Instr.sliceBounds, g0, g1, g2]

/-- Two spots are sure: none, and 0. -/
def sure (a : Addr) : Bool := match a.spot with | none => true | some t => t == 0
theorem soff_sure (ρ : Ren) {a : Addr} (h : sure a = true) : soff ρ a = a.off + ρ.s a.block := by
  unfold sure at h
  unfold soff
  split
  · rfl
  · rename_i t ht
    rw [ht] at h
    simp only [beq_iff_eq] at h
    rw [h]
    split <;> rfl
theorem scap_le (ρ : Ren) (a : Addr) (c : Nat) : c ≤ scap ρ a c := by
  unfold scap
  split
  · omega
  · split <;> omega
/-- x[lo:hi], x[lo:hi:max] of a slice; of an array behind a pointer. -/
def cslice (P : Program) (t : TypeId) (x : Value) (lo hi mx : Option Value) (N : CH) : Option Value :=
  match P.underlying t, x with
  | some (.slice e), .slice a len cap =>
    match sizeT P e, cbounds len cap lo hi mx with
    | some size, some (l, h, some m) =>
      match a with
      | some ad => if sure ad = true then some (.slice (some (if m = l then ⟨ad.block, ad.off, some 0⟩ else ⟨ad.block, ad.off + l * size, some 0⟩)) (h - l) (m - l)) else none
      | none => some (.slice none (h - l) (m - l))
    | some size, some (l, h, none) =>
      match a with
      | none => some (.slice none (h - l) (cap - l))
      | some ad =>
        if cap = l then
          if l = 0 then some (.slice (some ad) (h - l) (cap - l))
          else match ad.spot, N.get ad.block with
            | some 0, _ => some (.slice (some ad) (h - l) (cap - l))
            | none, some (.row _ _ false) => some (.slice (some ad) (h - l) (cap - l))
            | none, some (.row _ _ true) => some (.slice (some ⟨ad.block, ad.off, some (2 * (l * size) + 1)⟩) (h - l) (cap - l))
            | _, _ => none
        else if sure ad = true then some (.slice (some ⟨ad.block, ad.off + l * size, ad.spot⟩) (h - l) (cap - l)) else none
    | _, _ => none
  | some (.array n e), .pointer (some ad) =>
    match sizeT P e, cbounds n n lo hi mx with
    | some size, some (l, h, m) => some (.slice (some (if m.getD n = l then ⟨ad.block, ad.off, some 0⟩ else ⟨ad.block, ad.off + l * size, some 0⟩)) (h - l) (m.getD n - l))
    | _, _ => none
  | _, _ => none
theorem slice_ok {P : Program} {E : Env} {N : CH} {w : World} (R : Rel P E N w) {t : TypeId} {x v : Value} {lo hi mx : Option Value} (hx : Clo E.D x) (h : cslice P t x lo hi mx N = some v) :
    (Instr.sliceAt t (E.m x) (lo.map E.m) (hi.map E.m) (mx.map E.m)).run P w = .ok (E.m v) w ∧ Clo E.D v := by
  unfold cslice at h
  split at h
  · rename_i e a len cap hu
    have hat : ∀ y, (Instr.sliceAt t y (lo.map E.m) (hi.map E.m) (mx.map E.m)).run P w = (Instr.slice t y (lo.map E.m) (hi.map E.m) (mx.map E.m)).run P w := by
      intro y
      simp [Instr.sliceAt, run_underlying hu]
    rw [hat]
    split at h
    · rename_i size l h' m hs hb
      have hb' : ∀ cap', cap ≤ cap' → _ := fun cap' hc => bounds_ok (P := P) (E := E) (w := w) hb hc true
      cases a with
      | none =>
        simp only [Option.some.injEq] at h
        subst h
        obtain ⟨g, _⟩ := hb' cap (Nat.le_refl _)
        have hm : E.m (.slice none len cap) = .slice none len cap := rfl
        refine ⟨?_, trivial⟩
        simp only [hm, Instr.slice, Sem.run_bind, run_underlying hu, Result.andThen_ok, g, run_sizeOf hs, Sem.run_pure, Option.map_none, ite_self, Option.getD_some]
        rfl
      | some ad =>
        simp only at h
        split at h
        · rename_i hsu
          simp only [Option.some.injEq] at h
          subst h
          obtain ⟨a1, a2, a3⟩ := ad
          have hd : E.D a1 := hx
          have hm : E.m (.slice (some ⟨a1, a2, a3⟩) len cap) = .slice (some ⟨E.f a1, a2 + E.s a1, none⟩) len (scap E.toRen ⟨a1, a2, a3⟩ cap) := by
            simp only [Env.m, mv, soff_sure _ hsu]
          obtain ⟨g, _⟩ := hb' _ (scap_le E.toRen ⟨a1, a2, a3⟩ cap)
          refine ⟨?_, ?_⟩
          · simp only [hm, Instr.slice, Sem.run_bind, run_underlying hu, Result.andThen_ok, g, run_sizeOf hs, Sem.run_pure, Option.getD_some]
            split
            · simp [Env.m, mv, soff, scap]
            · have hadd : a2 + E.s a1 + l * size = a2 + l * size + E.s a1 := by omega
              simp [Env.m, mv, addr_add, soff, scap, hadd]
          · split <;> exact hd
        · cases h
    · rename_i size l h' hs hb
      have hb' : ∀ cap', cap ≤ cap' → _ := fun cap' hc => bounds_ok (P := P) (E := E) (w := w) hb hc true
      cases a with
      | none =>
        simp only [Option.some.injEq] at h
        subst h
        obtain ⟨g, _⟩ := hb' cap (Nat.le_refl _)
        have hm : E.m (.slice none len cap) = .slice none len cap := rfl
        refine ⟨?_, trivial⟩
        simp only [hm, Instr.slice, Sem.run_bind, run_underlying hu, Result.andThen_ok, g, run_sizeOf hs, Sem.run_pure, Option.map_none, ite_self, Option.getD_none]
        rfl
      | some ad =>
        obtain ⟨a1, a2, a3⟩ := ad
        have hd : E.D a1 := hx
        have hle : l ≤ cap ∧ h' - l ≤ cap - l := by
          obtain ⟨_, h1, h2, _⟩ := hb' cap (Nat.le_refl _)
          simp only [Option.getD_none] at h2
          omega
        -- the real capacity
        have hm : E.m (.slice (some ⟨a1, a2, a3⟩) len cap) = .slice (some ⟨E.f a1, soff E.toRen ⟨a1, a2, a3⟩, none⟩) len (scap E.toRen ⟨a1, a2, a3⟩ cap) := by
          simp only [Env.m, mv]
        have hc' := scap_le E.toRen ⟨a1, a2, a3⟩ cap
        obtain ⟨g, _⟩ := hb' _ hc'
        have hrun : (Instr.slice t (E.m (.slice (some ⟨a1, a2, a3⟩) len cap)) (lo.map E.m) (hi.map E.m) (mx.map E.m)).run P w =
            .ok (.slice (if scap E.toRen ⟨a1, a2, a3⟩ cap = l then some ⟨E.f a1, soff E.toRen ⟨a1, a2, a3⟩, none⟩ else some ⟨E.f a1, soff E.toRen ⟨a1, a2, a3⟩ + l * size, none⟩) (h' - l) (scap E.toRen ⟨a1, a2, a3⟩ cap - l)) w := by
          simp only [hm, Instr.slice, Sem.run_bind, run_underlying hu, Result.andThen_ok, g, run_sizeOf hs, Sem.run_pure, Option.getD_none, Option.map_some, addr_add]
        rw [hrun]
        simp only at h
        split at h
        · rename_i hcl
          split at h
          · rename_i hl0
            cases h
            subst hl0
            subst hcl
            refine ⟨?_, hd⟩
            have : (if scap E.toRen ⟨a1, a2, a3⟩ 0 = 0 then some (⟨E.f a1, soff E.toRen ⟨a1, a2, a3⟩, none⟩ : Addr) else some ⟨E.f a1, soff E.toRen ⟨a1, a2, a3⟩ + 0 * size, none⟩) = some ⟨E.f a1, soff E.toRen ⟨a1, a2, a3⟩, none⟩ := by simp
            rw [this]
            simp only [Env.m, mv, Nat.sub_zero]
          · rename_i hl0
            split at h
            · simp only [Option.some.injEq] at h
              subst h
              refine ⟨?_, hd⟩
              simp [Env.m, mv, soff, scap, hcl]
            · rename_i c0 e0 hg
              simp only [Option.some.injEq] at h
              subst h
              obtain ⟨_, _, sp0, _, _, _, _, _, hel⟩ := R.row hd hg
              have hx0 : E.x a1 = 0 := by simpa using (show sp0 = [] ∧ E.x a1 = 0 by simpa using hel.1).2
              refine ⟨?_, hd⟩
              simp [Env.m, mv, soff, scap, hcl, hx0]
            · rename_i c0 e0 hg
              simp only [Option.some.injEq] at h
              subst h
              refine ⟨?_, hd⟩
              have hodd : ¬ (2 * (l * size) + 1) % 2 = 0 := by omega
              have hhalf : (2 * (l * size) + 1) / 2 = l * size := by omega
              by_cases hx0 : E.x a1 = 0
              · simp [Env.m, mv, soff, scap, hcl, hx0]
              · have hne : ¬ l + E.x a1 = l := by omega
                have hadd : a2 + E.s a1 + l * size = a2 + l * size + E.s a1 := by omega
                simp [Env.m, mv, soff, scap, hcl, hx0, hne, hodd, hhalf, hadd]
            · cases h
        · rename_i hcl
          split at h
          · rename_i hsu
            cases h
            refine ⟨?_, hd⟩
            have hne : ¬ scap E.toRen ⟨a1, a2, a3⟩ cap = l := by omega
            rw [if_neg hne]
            have hsu' : sure ⟨a1, a2 + l * size, a3⟩ = true := hsu
            simp only [Env.m, mv, soff_sure _ hsu, soff_sure _ hsu']
            have hadd : a2 + E.s a1 + l * size = a2 + l * size + E.s a1 := by omega
            have hsub : scap E.toRen ⟨a1, a2, a3⟩ cap - l = scap E.toRen ⟨a1, a2 + l * size, a3⟩ (cap - l) := by
              unfold scap
              cases a3 with
              | none => simp only; omega
              | some t => simp only; split <;> omega
            rw [hadd, hsub]
          · cases h
    · cases h
  · rename_i n e ad hu
    obtain ⟨a1, a2, a3⟩ := ad
    obtain ⟨hd, hsp⟩ := hx
    simp only at hsp hd
    subst hsp
    split at h
    · rename_i size l h' m hs hb
      cases h
      obtain ⟨g, _⟩ := bounds_ok (P := P) (E := E) (w := w) hb (Nat.le_refl _) false
      have hm : E.m (.pointer (some ⟨a1, a2, none⟩)) = .pointer (some ⟨E.f a1, a2 + E.s a1, none⟩) := rfl
      refine ⟨?_, ?_⟩
      · simp only [hm, Instr.sliceAt, Sem.run_bind, run_underlying hu, Result.andThen_ok, Instr.sureAddr, Sem.run_pure, g, run_sizeOf hs]
        have hadd : a2 + E.s a1 + l * size = a2 + l * size + E.s a1 := by omega
        split
        · simp [Env.m, mv, soff, scap]
        · simp [Env.m, mv, addr_add, soff, scap, hadd]
      · split <;> exact hd
    · cases h
  · cases h

end Go.Eng
