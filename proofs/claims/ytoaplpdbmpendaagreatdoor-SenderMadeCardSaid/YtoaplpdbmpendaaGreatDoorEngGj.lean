/-
  The engine, part Gj: what package strings' Builder asks: pointers turned into unsafe ones and back, fresh bytes of whatever content, the string over bytes.
-/
import Derived.Test.YtoaplpdbmpendaaGreatDoorEngGi
import Derived.Lib.Builder
import Derived.Lib.UnsafeStr
import Derived.Room.MakeNoZero
import Derived.Conc.Events
import Derived.Laws.Externs
set_option linter.unusedSectionVars false
set_option linter.unusedSimpArgs false
set_option linter.unusedVariables false
namespace Go.Eng
set_option linter.unusedSimpArgs false
set_option linter.unusedVariables false

/-! ### unsafe pointers -/
def convOk (P : Program) (src dst : TypeId) : Bool := match P.underlying src with
  | some (.pointer t) => match P.underlying dst with
    | some .unsafePointer => match P.info? t with
      | some i => !(decide (i.size = 0))
      | none => false
    | _ => false
  | _ => false
def fromOk (P : Program) (src dst e : TypeId) (n off : Nat) : Bool := match P.underlying src with
  | some .unsafePointer => match P.underlying dst with
    | some (.pointer u) => match P.info? u with
      | some _ => liesAt P P.depth e (n / P.cellsOf e) off u 1
      | none => false
    | _ => false
  | _ => false
def cunsafe (P : Program) (src dst : TypeId) (a : Addr) (N : CH) : Option Value :=
  match a with
  | ⟨k, off, none⟩ => match N.get k with
    | some (.row c e el) => if off < c.length then if convOk P src dst = true then some (.pointer (some ⟨k, off, none⟩)) else match el with
        | false => if fromOk P src dst e c.length off = true then some (.pointer (some ⟨k, off, none⟩)) else none
        | true => none
      else none
    | _ => none
  | _ => none
theorem row_shape {w : World} {b : Nat} {cs : List Value} {e : TypeId} {f : Nat × Nat} (h : w.heap[b]? = some (.cells cs.toArray e f)) : w.shape? b = some (e, cs.length) := by
  simp [World.shape?, h]
theorem unsafe_ok {P : Program} {E : Env} {N : CH} {w : World} (R : Rel P E N w) {src dst : TypeId} {a : Addr} {v : Value} (hx : Clo E.D (.pointer (some a))) (h : cunsafe P src dst a N = some v) :
    (convert src dst (E.m (.pointer (some a)))).run P w = .ok (E.m v) w ∧ Clo E.D v ∧ ∀ es, (convert src dst (E.m (.pointer (some a)))).events P w es = es := by
  unfold cunsafe at h
  split at h
  rotate_left
  · cases h
  rename_i k off
  split at h
  rotate_left
  · cases h
  rename_i c e el hg
  split at h
  rotate_left
  · cases h
  rename_i hlt
  obtain ⟨_, pre, sp, lo, hi, hh, hp, _, hel, _⟩ := R.row hx.1 hg
  have hp : pre.length = E.s k := hp
  have hsh := row_shape hh
  have hm : E.m (.pointer (some ⟨k, off, none⟩)) = .pointer (some ⟨E.f k, off + E.s k, none⟩) := rfl
  split at h
  · rename_i hc
    cases h
    unfold convOk at hc
    split at hc
    rotate_left
    · cases hc
    rename_i t hs
    split at hc
    rotate_left
    · cases hc
    rename_i hd
    split at hc
    rotate_left
    · cases hc
    rename_i i hi'
    have hz : i.size ≠ 0 := by simpa using hc
    rw [hm]
    simp only [List.length_append, List.length_map] at hsh
    have hoff : off + E.s k < pre.length + (c.length + sp.length) := by omega
    refine ⟨Lib.run_to_unsafe w ⟨E.f k, off + E.s k, none⟩ hs hd hi' hz hsh hoff, hx, fun es => ?_⟩
    have hge : ¬ (pre.length + (c.length + sp.length) ≤ off + E.s k) := by omega
    simp [convert, Conv.unsafePointer, Conv.seenAt, viewAt, cellsIn, sizeOf, typeInfo, run_underlying hs, run_underlying hd, hi', hz, hsh, hge, Result.evThen]
  · split at h
    rotate_left
    · cases h
    split at h
    rotate_left
    · cases h
    rename_i hf
    cases h
    have hel : sp = [] ∧ E.x k = 0 ∧ E.s k = 0 := by simpa using hel
    obtain ⟨rfl, _, hs0⟩ := hel
    have hpre : pre = [] := List.length_eq_zero_iff.1 (hp.trans hs0)
    subst hpre
    unfold fromOk at hf
    split at hf
    rotate_left
    · cases hf
    rename_i hs
    split at hf
    rotate_left
    · cases hf
    rename_i u hd
    split at hf
    rotate_left
    · cases hf
    rename_i j hu
    have hsh' : w.shape? (E.f k) = some (e, c.length) := by simpa using hsh
    rw [hm, hs0]
    refine ⟨Lib.run_from_unsafe w _ hs hd hu hsh' hf, hx, fun es => ?_⟩
    have hf' : liesAt P P.depth e (c.length / P.cellsOf e) off u 1 = true := hf
    simp [convert, run_underlying hs, run_underlying hd, Conv.unsafePointer, Conv.seenAt, viewAt, hsh', variablesAt, hf', sizeOf, typeInfo, hu, Result.evThen]

/-! ### fresh bytes -/
def cmakeNoZero (P : Program) (rs : Array TypeId) (n : Int) (N : CH) : Option (Value × CH) :=
  match rs[0]? with
  | some t => match P.underlying t with
    | some (.slice e) => if 0 ≤ n ∧ n ≤ 281474976710656 then if P.cellsOf e = 1 then (crow N [] e true).map fun (k, N') => (.slice (some ⟨k, 0, none⟩) n.toNat 0, N') else none else none
    | _ => none
  | none => none
theorem makeNoZero_ok {P : Program} {E : Env} {N N' : CH} {w : World} (R : Rel P E N w) {ps rs : Array TypeId} {n : Int} {v : Value} (h : cmakeNoZero P rs n N = some (v, N')) :
    ∃ E' w', Rel P E' N' w' ∧ Ext E N w E' N' w' ∧ Clo E'.D v ∧ (Extern.BytealgMakeNoZero.makeNoZero ps rs #[.int .i64 n]).run P w = .ok (E'.m v) w' := by
  unfold cmakeNoZero at h
  split at h
  rotate_left
  · cases h
  rename_i t ht
  split at h
  rotate_left
  · cases h
  rename_i e hu
  split at h
  rotate_left
  · cases h
  rename_i hn
  split at h
  rotate_left
  · cases h
  rename_i hce
  unfold crow at h
  split at h
  rotate_left
  · cases h
  rename_i hsz
  simp only [Option.map_some, Option.some.injEq, Prod.mk.injEq] at h
  obtain ⟨rfl, rfl⟩ := h
  obtain ⟨m, rfl⟩ : ∃ m : Nat, n = m := ⟨n.toNat, by omega⟩
  have hrs : Extern.BytealgMakeNoZero.makeNoZero ps rs #[.int .i64 m] = Extern.BytealgMakeNoZero.makeNoZero ps #[t] #[.int .i64 m] := by
    have hd : ∀ rs' : Array TypeId, Extern.BytealgMakeNoZero.makeNoZero ps rs' #[.int .i64 m] = (do
        let some t := rs'[0]? | stuck "bytealg.MakeNoZero: no result type"
        let .slice elem ← underlying t | stuck "bytealg.MakeNoZero: slice type expected"
        if (m : Int) < 0 || (m : Int) > 2 ^ 48 then runtimePanic (.error "makeslice: len out of range")
        let cap ← choose (.appendCap (m : Int).toNat 0 elem)
        askRoom cap
        let bytes ← choose (.extern "internal/bytealg.MakeNoZero.bytes" 0)
        let a ← newRow elem (Extern.BytealgMakeNoZero.digits cap bytes #[])
        pure (.slice (some a) (m : Int).toNat cap)) := fun _ => rfl
    rw [hd rs, hd #[t], ht]
    rfl
  obtain ⟨cs, hrun, _⟩ := Lib.run_makeNoZero_cap (P := P) w ps t e hu m (by omega)
  obtain ⟨R1, X1⟩ := R.drew
  obtain ⟨R2, X2⟩ := R1.drew
  obtain ⟨R3, X3⟩ := R2.newElastic hsz e (c := []) (by simp) cs.toList cs.size 0 0 (by simp [hce]) ⟨Nat.le_refl _, fun i _ h => by omega⟩
  refine ⟨_, _, R3, (X1.trans X2).trans X3, Env.add_D .., ?_⟩
  rw [hrs, hrun]
  simp [Env.m, mv, soff, scap, Env.add]

/-! ### the string over bytes -/
def cbytes : List Value → Nat → Option (List UInt8)
  | _, 0 => some []
  | .int .u8 b :: l, n + 1 => if 0 ≤ b ∧ b < 256 then (cbytes l n).map fun r => b.toNat.toUInt8 :: r else none
  | _, _ => none
theorem cbytes_ok : ∀ {l : List Value} {n : Nat} {r : List UInt8}, cbytes l n = some r → r.length = n ∧ n ≤ l.length ∧ ∀ (j : Nat) (x : UInt8), r[j]? = some x → l[j]? = some (Value.int .u8 x.toNat)
  | l, 0, r, h => by
    have e : cbytes l 0 = some [] := by cases l with
      | nil => rfl
      | cons u l => cases u <;> rfl
    rw [e] at h
    cases h
    exact ⟨rfl, Nat.zero_le _, fun j x hx => by simp at hx⟩
  | [], n + 1, r, h => by cases h
  | u :: l, n + 1, r, h => by
    have key : ∃ b : Int, u = .int .u8 b ∧ 0 ≤ b ∧ b < 256 ∧ ∃ r', cbytes l n = some r' ∧ r = b.toNat.toUInt8 :: r' := by
      cases u with
      | int k b =>
        cases k <;> try (cases h)
        have h' : (if 0 ≤ b ∧ b < 256 then (cbytes l n).map fun r => b.toNat.toUInt8 :: r else none) = some r := h
        split at h'
        · rename_i hb
          obtain ⟨r', h1, h2⟩ := Option.map_eq_some_iff.1 h'
          exact ⟨b, rfl, hb.1, hb.2, r', h1, h2.symm⟩
        · cases h'
      | _ => cases h
    obtain ⟨b, rfl, hb0, hb1, r', hr', rfl⟩ := key
    obtain ⟨h1, h2, h3⟩ := cbytes_ok hr'
    refine ⟨by simp [h1], by simp; omega, fun j x hx => ?_⟩
    cases j with
    | zero =>
      simp only [List.getElem?_cons_zero, Option.some.injEq] at hx ⊢
      subst hx
      congr 1
      have : b.toNat.toUInt8.toNat = b.toNat := by
        show b.toNat % 256 = b.toNat
        omega
      rw [this]
      omega
    | succ j => simpa using h3 j x (by simpa using hx)
def csliceData : Value → Option Value
  | .slice (some ⟨k, off, none⟩) _ c => if c = 0 then none else some (.pointer (some ⟨k, off, none⟩))
  | _ => none
theorem sliceData_ok {P : Program} {E : Env} {w : World} {x v : Value} (ts : Array TypeId) (ty : TypeId) (hx : Clo E.D x) (h : csliceData x = some v) : (Builtin.unsafeSliceData_ ts ty #[E.m x]).run P w = .ok (E.m v) w ∧ Clo E.D v ∧ ∀ es, (Builtin.unsafeSliceData_ ts ty #[E.m x]).events P w es = es := by
  unfold csliceData at h
  split at h
  rotate_left
  · cases h
  rename_i k off n c
  split at h
  · cases h
  rename_i hc
  cases h
  have hm : E.m (.slice (some ⟨k, off, none⟩) n c) = .slice (some ⟨E.f k, off + E.s k, none⟩) n (c + E.x k) := rfl
  rw [hm]
  obtain ⟨j, hj⟩ : ∃ j, c + E.x k = j + 1 := ⟨c + E.x k - 1, by omega⟩
  rw [hj]
  exact ⟨rfl, ⟨hx, rfl⟩, fun es => rfl⟩
def cunsafeString (P : Program) (pt : TypeId) (a : Addr) (n : Int) (N : CH) : Option (Value × CH) :=
  match a with
  | ⟨k, off, none⟩ => match N.get k with
    | some (.row c e el) => match P.underlying pt with
      | some (.pointer e') => if e' = e then if P.cellsOf e = 1 then if 0 < n ∧ n ≤ 9223372036854775807 then match cbytes (c.drop off) n.toNat with
          | some l => match N.wset k .dead with
            | some N' => some (.string ⟨l.toArray⟩, N')
            | none => none
          | none => none
        else none else none else none
      | _ => none
    | _ => none
  | _ => none
theorem liesAt_one {P : Program} {e : TypeId} (hc : P.cellsOf e = 1) (count off n : Nat) (hn : off + n ≤ count) : liesAt P P.depth e count off e n = true := by
  have hd : P.depth = (2 * (P.types.size + Made.depth) + 1) + 1 := rfl
  rw [hd]
  simp only [liesAt, Bool.or_eq_true]
  left
  rw [hd]
  simp [rowAt, hc, hn, sameLayout, Nat.mod_one]
theorem unsafeString_ok {P : Program} {E : Env} {N N' : CH} {w : World} (R : Rel P E N w) {pt it ty : TypeId} {a : Addr} {n : Int} {v : Value} (hx : Clo E.D (.pointer (some a))) (h : cunsafeString P pt a n N = some (v, N')) :
    ∃ w', Rel P E N' w' ∧ Ext E N w E N' w' ∧ Clo E.D v ∧ (Builtin.unsafeString_ #[pt, it] ty #[E.m (.pointer (some a)), .int .i64 n]).run P w = .ok (E.m v) w' := by
  unfold cunsafeString at h
  split at h
  rotate_left
  · cases h
  rename_i k off
  split at h
  rotate_left
  · cases h
  rename_i c e el hg
  split at h
  rotate_left
  · cases h
  rename_i e' hpt
  split at h
  rotate_left
  · cases h
  rename_i hee
  subst hee
  split at h
  rotate_left
  · cases h
  rename_i hce
  split at h
  rotate_left
  · cases h
  rename_i hn
  split at h
  rotate_left
  · cases h
  rename_i l hl
  split at h
  rotate_left
  · cases h
  rename_i N2 hw
  cases h
  obtain ⟨_, rfl⟩ := CH.wset_some hw
  obtain ⟨hll, hlc, hlj⟩ := cbytes_ok hl
  have hk : E.D k := hx.1
  obtain ⟨hcl, pre, sp, lo, hi, hh, hp, _, hel, hlim⟩ := R.row hk hg
  have hsh := row_shape hh
  simp only [List.length_append, List.length_map] at hsh
  have hm : E.m (.pointer (some ⟨k, off, none⟩)) = .pointer (some ⟨E.f k, off + E.s k, none⟩) := rfl
  obtain ⟨m, rfl⟩ : ∃ m : Nat, n = m := ⟨n.toNat, by omega⟩
  simp only [Int.toNat_natCast] at hl hll hlc
  have hlen : off + m ≤ c.length := by
    rw [List.length_drop] at hlc
    omega
  have hcell : ∀ j x, l[j]? = some x → w.cell? ((⟨E.f k, off + E.s k, none⟩ : Addr).add j) = some (.int .u8 x.toNat) := by
    intro j x hj
    have h1 := hlj j x hj
    rw [List.getElem?_drop] at h1
    have h2 := R.cell hk hg (i := off + j) (o := off + E.s k + j) h1 (by omega)
    have e1 : (⟨E.f k, off + E.s k, none⟩ : Addr).add j = ⟨E.f k, off + E.s k + j, none⟩ := by
      unfold Addr.add
      by_cases hj0 : j = 0
      · subst hj0; simp
      · simp [hj0]
    rw [e1, h2]
    rfl
  have hlb := Lib.run_loadBytes (P := P) w l ⟨E.f k, off + E.s k, none⟩ .empty hcell
  rw [hll] at hlb
  have hlies := liesAt_one (P := P) hce ((pre.length + (c.length + sp.length)) / P.cellsOf e') (off + E.s k) m (by rw [hce, Nat.div_one]; omega)
  have hrun : (Builtin.unsafeString_ #[pt, it] ty #[.pointer (some ⟨E.f k, off + E.s k, none⟩), .int .i64 m]).run P w = .ok (.string ⟨l.toArray⟩) (w.freeze ⟨E.f k, off + E.s k, none⟩ m) := by
    have hdef : Builtin.unsafeString_ #[pt, it] ty #[.pointer (some ⟨E.f k, off + E.s k, none⟩), .int .i64 m] =
        (do
          let n ← asInt (.int .i64 m)
          if n < 0 then runtimePanic (.error "unsafe.String: len out of range")
          if n > IntKind.i64.max then unsupported (.unsafePointer "String: a length above the largest int")
          if n = 0 then pure (.string .empty)
          else if ← variablesAt ⟨E.f k, off + E.s k, none⟩ (← elemOf pt) n.toNat then do
            let s ← loadBytes ⟨E.f k, off + E.s k, none⟩ .empty n.toNat
            freeze ⟨E.f k, off + E.s k, none⟩ n.toNat
            pure (.string s)
          else unsupported (.unsafePointer "String: not so many bytes at ptr")) := rfl
    rw [hdef]
    have hmax : IntKind.i64.max = 9223372036854775807 := rfl
    have hneg : ¬ (m : Int) < 0 := by omega
    have h63 : ¬ (9223372036854775807 : Int) < (m : Int) := by omega
    have hm0 : ¬ m = 0 := by omega
    simp [asInt, asIntOf, hmax, h63, hneg, hm0, variablesAt, hsh, elemOf, run_underlying hpt, hlies, hlb]
  have hlt : E.f k < w.heap.size := (Array.getElem?_eq_some_iff.1 hh).1
  have hm0 : m ≠ 0 := by omega
  obtain ⟨R', X'⟩ := R.change hk trivial ⟨_, hg, rfl⟩ (b := .dead) (w' := w.freeze ⟨E.f k, off + E.s k, none⟩ m) trivial
    (fun j hj => by
      unfold World.freeze
      rw [if_neg hm0]
      simp only
      rw [Array.getElem?_modify]
      rw [if_neg (Ne.symm hj)])
    (by unfold World.freeze; rw [if_neg hm0]; simp) (by unfold World.freeze; rw [if_neg hm0]) (by unfold World.freeze; rw [if_neg hm0]) (by unfold World.freeze; rw [if_neg hm0])
  refine ⟨_, R', X', trivial, ?_⟩
  rw [hm, hrun]
  rfl

/-! ### functions without a body that touch memory, or hand a pointer back -/
def cextern (P : Program) (fn : Func) (args : List Value) (N : CH) : Option (Value × CH) :=
  if fn.body.isNone = true then if (Extern.findNext fn).isNone = true then if (fn.name == "runtime.NumGoroutine") = false then
    if fn.name = "internal/abi.NoEscape" then match args with
      | [x] => some (x, N)
      | _ => none
    else if fn.name = "internal/bytealg.MakeNoZero" then match args with
      | [.int .i64 n] => cmakeNoZero P fn.resultTypes n N
      | _ => none
    else none
  else none else none else none
theorem find_noEscape {fn : Func} (h : fn.name = "internal/abi.NoEscape") : Extern.find fn = some Extern.AbiNoEscape.same := by
  have h1 : Extern.allGenericRows.lookup "internal/abi.NoEscape" = none := by kernel_rfl
  have h2 : Extern.allTypedRows.lookup "internal/abi.NoEscape" = none := by kernel_rfl
  have h3 : Extern.allRows.lookup "internal/abi.NoEscape" = some Extern.AbiNoEscape.same := by kernel_rfl
  simp only [Extern.find, h, h1, h2, h3]
  rfl
theorem find_makeNoZero {fn : Func} (h : fn.name = "internal/bytealg.MakeNoZero") : Extern.find fn = some (Extern.BytealgMakeNoZero.makeNoZero fn.params fn.resultTypes) := by
  have h1 : Extern.allGenericRows.lookup "internal/bytealg.MakeNoZero" = none := by kernel_rfl
  have h2 : Extern.allTypedRows.lookup "internal/bytealg.MakeNoZero" = some Extern.BytealgMakeNoZero.makeNoZero := by kernel_rfl
  simp only [Extern.find, h, h1, h2]
  rfl
theorem extern_ok {P : Program} {E : Env} {N N' : CH} {w : World} (R : Rel P E N w) {f : FuncId} {fn : Func} (hf : P.funcs[f]? = some fn) {args : List Value} {v : Value} (ha : ∀ u ∈ args, Clo E.D u) (h : cextern P fn args N = some (v, N')) :
    ∃ E' w', Rel P E' N' w' ∧ Ext E N w E' N' w' ∧ Clo E'.D v ∧ (callFunc f (args.map E.m).toArray).run P w = .ok (.value (E'.m v)) w' := by
  unfold cextern at h
  split at h
  rotate_left
  · cases h
  rename_i hb
  split at h
  rotate_left
  · cases h
  rename_i hn
  split at h
  rotate_left
  · cases h
  rename_i hname
  have hn' : Extern.findNext fn = none := by simpa using hn
  split at h
  · rename_i h1
    split at h
    rotate_left
    · cases h
    rename_i x
    cases h
    refine ⟨E, w, R, Ext.refl _ _ _, ha _ (by simp), ?_⟩
    rw [run_callFunc_extern hf hname hb hn' (find_noEscape h1)]
    rfl
  · split at h
    rotate_left
    · cases h
    rename_i h1
    split at h
    rotate_left
    · cases h
    rename_i n
    obtain ⟨E', w', R', X, hu, hrun⟩ := makeNoZero_ok R (ps := fn.params) h
    refine ⟨E', w', R', X, hu, ?_⟩
    rw [run_callFunc_extern hf hname hb hn' (find_makeNoZero h1)]
    have e : ((([.int .i64 n] : List Value)).map E.m).toArray = #[.int .i64 n] := rfl
    rw [e, hrun]
    rfl
end Go.Eng

