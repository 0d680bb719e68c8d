/-
  The engine, part Gj: what package strings' Builder asks: pointers turned into unsafe ones and back, fresh bytes of whatever content, the string over bytes.
-/
import Derived.Test.YtjoelgicffojcaaGreatDoorEngGi
import Derived.Lib.Builder
import Derived.Lib.UnsafeStr
import Derived.Room.MakeNoZero
import Derived.Conc.Events
import Derived.Laws.Externs
set_option linter.unusedSectionVars false
set_option linter.unusedSimpArgs false
set_option linter.unusedVariables false
namespace Go.Eng
noncomputable section
set_option linter.unusedSimpArgs false
set_option linter.unusedVariables false
def convOk (P : Program) (src dst : TypeId) : Bool := match P.underlying src with
 | some (.pointer t) => match P.underlying dst with
  | some .unsafePointer => match P.info? t with
   | some i => !(decide (i.size = 0))
   | none => false
  | _ => false
 | _ => false
def fromOk (P : Program) (src dst e : TypeId) (n off : Nat) : Bool := match P.underlying src with
 | some .unsafePointer => match P.underlying dst with
  | some (.pointer u) => match P.info? u with
   | some _ => liesAt P P.depth e (n / P.cellsOf e) off u 1
   | none => false
  | _ => false
 | _ => false
def cunsafe (P : Program) (src dst : TypeId) (a : Addr) (N : CH) : Option Value :=
 match a with
 | ⟨k, off, none⟩ => match N.get k with
  | some (.row c e el) => if off < c.length then if convOk P src dst = true then some (.pointer (some ⟨k, off, none⟩)) else match el with
    | false => if fromOk P src dst e c.length off = true then some (.pointer (some ⟨k, off, none⟩)) else none
    | true => none
   else none
  | _ => none
 | _ => none
theorem row_shape {w : World} {b : Nat} {cs : List Value} {e : TypeId} {f : Nat × Nat} (h : w.heap[b]? = some (.cells cs.toArray e f)) : w.shape? b = some (e, cs.length) := by
 simp [World.shape?, h]
theorem unsafe_ok {P : Program} {E : Env} {N : CH} {w : World} (R : Rel P E N w) {src dst : TypeId} {a : Addr} {v : Value} (hx : Clo E.D (.pointer (some a))) (h : cunsafe P src dst a N = some v) :
  (convert src dst (E.m (.pointer (some a)))).run P w = .ok (E.m v) w ∧ Clo E.D v ∧ ∀ es, (convert src dst (E.m (.pointer (some a)))).events P w es = es := by
 unfold cunsafe at h
 split at h
 rotate_left
 ·cases h
 rename_i k off
 split at h
 rotate_left
 ·cases h
 rename_i c e el hg
 split at h
 rotate_left
 ·cases h
 rename_i hlt
 obtain ⟨_, pre, sp, lo, hi, hh, hp, _, hel, _⟩ := R.row hx.1 hg
 have hp : pre.length = E.s k := hp
 have hsh := row_shape hh
 have hm : E.m (.pointer (some ⟨k, off, none⟩)) = .pointer (some ⟨E.f k, off + E.s k, none⟩) := rfl
 split at h
 ·rename_i hc
  cases h
  unfold convOk at hc
  split at hc
  rotate_left
  ·cases hc
  rename_i t hs
  split at hc
  rotate_left
  ·cases hc
  rename_i hd
  split at hc
  rotate_left
  ·cases hc
  rename_i i hi'
  have hz : i.size ≠ 0 := by simpa using hc
  rw [hm]
  simp only [List.length_append, List.length_map] at hsh
  have hoff : off + E.s k < pre.length + (c.length + sp.length) := by omega
  refine ⟨Lib.run_to_unsafe w ⟨E.f k, off + E.s k, none⟩ hs hd hi' hz hsh hoff, hx, fun es => ?_⟩
  have hge : ¬ (pre.length + (c.length + sp.length) ≤ off + E.s k) := by omega
  simp [convert, Conv.unsafePointer, Conv.seenAt, viewAt, cellsIn, sizeOf, typeInfo, run_underlying hs, run_underlying hd, hi', hz, hsh, hge, Result.evThen]
 ·split at h
  rotate_left
  ·cases h
  split at h
  rotate_left
  ·cases h
  rename_i hf
  cases h
  have hel : sp = [] ∧ E.x k = 0 ∧ E.s k = 0 := by simpa using hel
  obtain ⟨rfl, _, hs0⟩ := hel
  have hpre : pre = [] := List.length_eq_zero_iff.1 (hp.trans hs0)
  subst hpre
  unfold fromOk at hf
  split at hf
  rotate_left
  ·cases hf
  rename_i hs
  split at hf
  rotate_left
  ·cases hf
  rename_i u hd
  split at hf
  rotate_left
  ·cases hf
  rename_i j hu
  have hsh' : w.shape? (E.f k) = some (e, c.length) := by simpa using hsh
  rw [hm, hs0]
  refine ⟨Lib.run_from_unsafe w _ hs hd hu hsh' hf, hx, fun es => ?_⟩
  have hf' : liesAt P P.depth e (c.length / P.cellsOf e) off u 1 = true := hf
  simp [convert, run_underlying hs, run_underlying hd, Conv.unsafePointer, Conv.seenAt, viewAt, hsh', variablesAt, hf', sizeOf, typeInfo, hu, Result.evThen]
def cmakeNoZero (P : Program) (rs : Array TypeId) (n : Int) (N : CH) : Option (Value × CH) :=
 match rs[0]? with
 | some t => match P.underlying t with
  | some (.slice e) => if 0 ≤ n ∧ n ≤ 281474976710656 then if P.cellsOf e = 1 then (crow N [] e true).map fun (k, N') => (.slice (some ⟨k, 0, none⟩) n.toNat 0, N') else none else none
  | _ => none
 | none => none
theorem makeNoZero_ok {P : Program} {E : Env} {N N' : CH} {w : World} (R : Rel P E N w) {ps rs : Array TypeId} {n : Int} {v : Value} (h : cmakeNoZero P rs n N = some (v, N')) :
  ∃ E' w', Rel P E' N' w' ∧ Ext E N w E' N' w' ∧ Clo E'.D v ∧ (Extern.BytealgMakeNoZero.makeNoZero ps rs #[.int .i64 n]).run P w = .ok (E'.m v) w' := by
 unfold cmakeNoZero at h
 split at h
 rotate_left
 ·cases h
 rename_i t ht
 split at h
 rotate_left
 ·cases h
 rename_i e hu
 split at h
 rotate_left
 ·cases h
 rename_i hn
 split at h
 rotate_left
 ·cases h
 rename_i hce
 unfold crow at h
 split at h
 rotate_left
 ·cases h
 rename_i hsz
 simp only [Option.map_some, Option.some.injEq, Prod.mk.injEq] at h
 obtain ⟨rfl, rfl⟩ := h
 obtain ⟨m, rfl⟩ : ∃ m : Nat, n = m := ⟨n.toNat, by omega⟩
 have hrs : Extern.BytealgMakeNoZero.makeNoZero ps rs #[.int .i64 m] = Extern.BytealgMakeNoZero.makeNoZero ps #[t] #[.int .i64 m] := by
  have hd : ∀ rs' : Array TypeId, Extern.BytealgMakeNoZero.makeNoZero ps rs' #[.int .i64 m] = (do
    let some t := rs'[0]? | stuck "bytealg.MakeNoZero: no result type"
    let .slice elem ← underlying t | stuck "bytealg.MakeNoZero: slice type expected"
    if (m : Int) < 0 || (m : Int) > 2 ^ 48 then runtimePanic (.error "makeslice: len out of range")
    let cap ← choose (.appendCap (m : Int).toNat 0 elem)
    askRoom cap
    let bytes ← choose (.extern "internal/bytealg.MakeNoZero.bytes" 0)
    let a ← newRow elem (Extern.BytealgMakeNoZero.digits cap bytes #[])
    pure (.slice (some a) (m : Int).toNat cap)) := fun _ => rfl
  rw [hd rs, hd #[t], ht]
  rfl
 obtain ⟨cs, hrun, _⟩ := Lib.run_makeNoZero_cap (P := P) w ps t e hu m (by omega)
 obtain ⟨R1, X1⟩ := R.drew
 obtain ⟨R2, X2⟩ := R1.drew
 obtain ⟨R3, X3⟩ := R2.newElastic hsz e (c := []) (by simp) cs.toList cs.size 0 0 (by simp [hce]) ⟨Nat.le_refl _, fun i _ h => by omega⟩
 refine ⟨_, _, R3, (X1.trans X2).trans X3, Env.add_D .., ?_⟩
 rw [hrs, hrun]
 simp [Env.m, mv, soff, scap, Env.add]
def cbytes : List Value → Nat → Option (List UInt8)
 | _, 0 => some []
 | .int .u8 b :: l, n + 1 => if 0 ≤ b ∧ b < 256 then (cbytes l n).map fun r => b.toNat.toUInt8 :: r else none
 | _, _ => none
theorem cbytes_ok : ∀ {l : List Value} {n : Nat} {r : List UInt8}, cbytes l n = some r → r.length = n ∧ n ≤ l.length ∧ ∀ (j : Nat) (x : UInt8), r[j]? = some x → l[j]? = some (Value.int .u8 x.toNat)
 | l, 0, r, h => by
  have e : cbytes l 0 = some [] := by cases l with
   | nil => rfl
   | cons u l => cases u <;> rfl
  rw [e] at h
  cases h
  exact ⟨rfl, Nat.zero_le _, fun j x hx => by simp at hx⟩
 | [], n + 1, r, h => by cases h
 | u :: l, n + 1, r, h => by
  have key : ∃ b : Int, u = .int .u8 b ∧ 0 ≤ b ∧ b < 256 ∧ ∃ r', cbytes l n = some r' ∧ r = b.toNat.toUInt8 :: r' := by
   cases u with
   | int k b =>
    cases k <;> try (cases h)
    have h' : (if 0 ≤ b ∧ b < 256 then (cbytes l n).map fun r => b.toNat.toUInt8 :: r else none) = some r := h
    split at h'
    ·rename_i hb
     obtain ⟨r', h1, h2⟩ := Option.map_eq_some_iff.1 h'
     exact ⟨b, rfl, hb.1, hb.2, r', h1, h2.symm⟩
    ·cases h'
   | _ => cases h
  obtain ⟨b, rfl, hb0, hb1, r', hr', rfl⟩ := key
  obtain ⟨h1, h2, h3⟩ := cbytes_ok hr'
  refine ⟨by simp [h1], by simp; omega, fun j x hx => ?_⟩
  cases j with
  | zero =>
   simp only [List.getElem?_cons_zero, Option.some.injEq] at hx ⊢
   subst hx
   congr 1
   have : b.toNat.toUInt8.toNat = b.toNat := by
    show b.toNat % 256 = b.toNat
    omega
   rw [this]
   omega
  | succ j => simpa using h3 j x (by simpa using hx)
def csliceData : Value → Option Value
 | .slice (some ⟨k, off, none⟩) _ c => if c = 0 then none else some (.pointer (some ⟨k, off, none⟩))
 | _ => none
theorem sliceData_ok {P : Program} {E : Env} {w : World} {x v : Value} (ts : Array TypeId) (ty : TypeId) (hx : Clo E.D x) (h : csliceData x = some v) : (Builtin.unsafeSliceData_ ts ty #[E.m x]).run P w = .ok (E.m v) w ∧ Clo E.D v ∧ ∀ es, (Builtin.unsafeSliceData_ ts ty #[E.m x]).events P w es = es := by
 unfold csliceData at h
 split at h
 rotate_left
 ·cases h
 rename_i k off n c
 split at h
 ·cases h
 rename_i hc
 cases h
 have hm : E.m (.slice (some ⟨k, off, none⟩) n c) = .slice (some ⟨E.f k, off + E.s k, none⟩) n (c + E.x k) := rfl
 rw [hm]
 obtain ⟨j, hj⟩ : ∃ j, c + E.x k = j + 1 := ⟨c + E.x k - 1, by omega⟩
 rw [hj]
 exact ⟨rfl, ⟨hx, rfl⟩, fun es => rfl⟩
def cunsafeString (P : Program) (pt : TypeId) (a : Addr) (n : Int) (N : CH) : Option (Value × CH) :=
 match a with
 | ⟨k, off, none⟩ => match N.get k with
  | some (.row c e el) => match P.underlying pt with
   | some (.pointer e') => if e' = e then if P.cellsOf e = 1 then if 0 < n ∧ n ≤ 9223372036854775807 then match cbytes (c.drop off) n.toNat with
     | some l => match N.wset k .dead with
      | some N' => some (.string ⟨l.toArray⟩, N')
      | none => none
     | none => none
    else none else none else none
   | _ => none
  | _ => none
 | _ => none
theorem liesAt_one {P : Program} {e : TypeId} (hc : P.cellsOf e = 1) (count off n : Nat) (hn : off + n ≤ count) : liesAt P P.depth e count off e n = true := by
 have hd : P.depth = (2 * (P.types.size + Made.depth) + 1) + 1 := rfl
 rw [hd]
 simp only [liesAt, Bool.or_eq_true]
 left
 rw [hd]
 simp [rowAt, hc, hn, sameLayout, Nat.mod_one]
theorem unsafeString_ok {P : Program} {E : Env} {N N' : CH} {w : World} (R : Rel P E N w) {pt it ty : TypeId} {a : Addr} {n : Int} {v : Value} (hx : Clo E.D (.pointer (some a))) (h : cunsafeString P pt a n N = some (v, N')) :
  ∃ w', Rel P E N' w' ∧ Ext E N w E N' w' ∧ Clo E.D v ∧ (Builtin.unsafeString_ #[pt, it] ty #[E.m (.pointer (some a)), .int .i64 n]).run P w = .ok (E.m v) w' := by
 unfold cunsafeString at h
 split at h
 rotate_left
 ·cases h
 rename_i k off
 split at h
 rotate_left
 ·cases h
 rename_i c e el hg
 split at h
 rotate_left
 ·cases h
 rename_i e' hpt
 split at h
 rotate_left
 ·cases h
 rename_i hee
 subst hee
 split at h
 rotate_left
 ·cases h
 rename_i hce
 split at h
 rotate_left
 ·cases h
 rename_i hn
 split at h
 rotate_left
 ·cases h
 rename_i l hl
 split at h
 rotate_left
 ·cases h
 rename_i N2 hw
 cases h
 obtain ⟨_, rfl⟩ := CH.wset_some hw
 obtain ⟨hll, hlc, hlj⟩ := cbytes_ok hl
 have hk : E.D k := hx.1
 obtain ⟨hcl, pre, sp, lo, hi, hh, hp, _, hel, hlim⟩ := R.row hk hg
 have hsh := row_shape hh
 simp only [List.length_append, List.length_map] at hsh
 have hm : E.m (.pointer (some ⟨k, off, none⟩)) = .pointer (some ⟨E.f k, off + E.s k, none⟩) := rfl
 obtain ⟨m, rfl⟩ : ∃ m : Nat, n = m := ⟨n.toNat, by omega⟩
 simp only [Int.toNat_natCast] at hl hll hlc
 have hlen : off + m ≤ c.length := by
  rw [List.length_drop] at hlc
  omega
 have hcell : ∀ j x, l[j]? = some x → w.cell? ((⟨E.f k, off + E.s k, none⟩ : Addr).add j) = some (.int .u8 x.toNat) := by
  intro j x hj
  have h1 := hlj j x hj
  rw [List.getElem?_drop] at h1
  have h2 := R.cell hk hg (i := off + j) (o := off + E.s k + j) h1 (by omega)
  have e1 : (⟨E.f k, off + E.s k, none⟩ : Addr).add j = ⟨E.f k, off + E.s k + j, none⟩ := by
   unfold Addr.add
   by_cases hj0 : j = 0
   ·subst hj0; simp
   ·simp [hj0]
  rw [e1, h2]
  rfl
 have hlb := Lib.run_loadBytes (P := P) w l ⟨E.f k, off + E.s k, none⟩ .empty hcell
 rw [hll] at hlb
 have hlies := liesAt_one (P := P) hce ((pre.length + (c.length + sp.length)) / P.cellsOf e') (off + E.s k) m (by rw [hce, Nat.div_one]; omega)
 have hrun : (Builtin.unsafeString_ #[pt, it] ty #[.pointer (some ⟨E.f k, off + E.s k, none⟩), .int .i64 m]).run P w = .ok (.string ⟨l.toArray⟩) (w.freeze ⟨E.f k, off + E.s k, none⟩ m) := by
  have hdef : Builtin.unsafeString_ #[pt, it] ty #[.pointer (some ⟨E.f k, off + E.s k, none⟩), .int .i64 m] =
    (do
     let n ← asInt (.int .i64 m)
     if n < 0 then runtimePanic (.error "unsafe.String: len out of range")
     if n > IntKind.i64.max then unsupported (.unsafePointer "String: a length above the largest int")
     if n = 0 then pure (.string .empty)
     else if ← variablesAt ⟨E.f k, off + E.s k, none⟩ (← elemOf pt) n.toNat then do
      let s ← loadBytes ⟨E.f k, off + E.s k, none⟩ .empty n.toNat
      freeze ⟨E.f k, off + E.s k, none⟩ n.toNat
      pure (.string s)
     else unsupported (.unsafePointer "String: not so many bytes at ptr")) := rfl
  rw [hdef]
  have hmax : IntKind.i64.max = 9223372036854775807 := rfl
  have hneg : ¬ (m : Int) < 0 := by omega
  have h63 : ¬ (9223372036854775807 : Int) < (m : Int) := by omega
  have hm0 : ¬ m = 0 := by omega
  simp [asInt, asIntOf, hmax, h63, hneg, hm0, variablesAt, hsh, elemOf, run_underlying hpt, hlies, hlb]
 have hlt : E.f k < w.heap.size := (Array.getElem?_eq_some_iff.1 hh).1
 have hm0 : m ≠ 0 := by omega
 obtain ⟨R', X'⟩ := R.change hk trivial ⟨_, hg, rfl⟩ (b := .dead) (w' := w.freeze ⟨E.f k, off + E.s k, none⟩ m) trivial
  (fun j hj => by
   unfold World.freeze
   rw [if_neg hm0]
   simp only
   rw [Array.getElem?_modify]
   rw [if_neg (Ne.symm hj)])
  (by unfold World.freeze; rw [if_neg hm0]; simp) (by unfold World.freeze; rw [if_neg hm0]) (by unfold World.freeze; rw [if_neg hm0]) (by unfold World.freeze; rw [if_neg hm0])
 refine ⟨_, R', X', trivial, ?_⟩
 rw [hm, hrun]
 rfl
def cextern (P : Program) (fn : Func) (args : List Value) (N : CH) : Option (Value × CH) :=
 if fn.body.isNone = true then if (Extern.findNext fn).isNone = true then if (fn.name == "runtime.NumGoroutine") = false then
  if fn.name = "internal/abi.NoEscape" then match args with
   | [x] => some (x, N)
   | _ => none
  else if fn.name = "internal/bytealg.MakeNoZero" then match args with
   | [.int .i64 n] => cmakeNoZero P fn.resultTypes n N
   | _ => none
  else none
 else none else none else none
theorem find_noEscape {fn : Func} (h : fn.name = "internal/abi.NoEscape") : Extern.find fn = some Extern.AbiNoEscape.same := by
 have h1 : Extern.allGenericRows.lookup "internal/abi.NoEscape" = none := by kernel_rfl
 have h2 : Extern.allTypedRows.lookup "internal/abi.NoEscape" = none := by kernel_rfl
 have h3 : Extern.allRows.lookup "internal/abi.NoEscape" = some Extern.AbiNoEscape.same := by kernel_rfl
 simp only [Extern.find, h, h1, h2, h3]
 rfl
theorem find_makeNoZero {fn : Func} (h : fn.name = "internal/bytealg.MakeNoZero") : Extern.find fn = some (Extern.BytealgMakeNoZero.makeNoZero fn.params fn.resultTypes) := by
 have h1 : Extern.allGenericRows.lookup "internal/bytealg.MakeNoZero" = none := by kernel_rfl
 have h2 : Extern.allTypedRows.lookup "internal/bytealg.MakeNoZero" = some Extern.BytealgMakeNoZero.makeNoZero := by kernel_rfl
 simp only [Extern.find, h, h1, h2]
 rfl
theorem extern_ok {P : Program} {E : Env} {N N' : CH} {w : World} (R : Rel P E N w) {f : FuncId} {fn : Func} (hf : P.funcs[f]? = some fn) {args : List Value} {v : Value} (ha : ∀ u ∈ args, Clo E.D u) (h : cextern P fn args N = some (v, N')) :
  ∃ E' w', Rel P E' N' w' ∧ Ext E N w E' N' w' ∧ Clo E'.D v ∧ (callFunc f (args.map E.m).toArray).run P w = .ok (.value (E'.m v)) w' := by
 unfold cextern at h
 split at h
 rotate_left
 ·cases h
 rename_i hb
 split at h
 rotate_left
 ·cases h
 rename_i hn
 split at h
 rotate_left
 ·cases h
 rename_i hname
 have hn' : Extern.findNext fn = none := by simpa using hn
 split at h
 ·rename_i h1
  split at h
  rotate_left
  ·cases h
  rename_i x
  cases h
  refine ⟨E, w, R, Ext.refl _ _ _, ha _ (by simp), ?_⟩
  rw [run_callFunc_extern hf hname hb hn' (find_noEscape h1)]
  rfl
 ·split at h
  rotate_left
  ·cases h
  rename_i h1
  split at h
  rotate_left
  ·cases h
  rename_i n
  obtain ⟨E', w', R', X, hu, hrun⟩ := makeNoZero_ok R (ps := fn.params) h
  refine ⟨E', w', R', X, hu, ?_⟩
  rw [run_callFunc_extern hf hname hb hn' (find_makeNoZero h1)]
  have e : ((([.int .i64 n] : List Value)).map E.m).toArray = #[.int .i64 n] := rfl
  rw [e, hrun]
  rfl
end
end Go.Eng
namespace Go.Eng
noncomputable section
set_option linter.unusedSimpArgs false
set_option linter.unusedVariables false
inductive CNx where
 | val (v : Value)
 | skip
 | enter (f : FuncId) (args : List Value)
 | round (l : Nat) (f : FuncId) (tmps : List Value) (assign body : Code)
def CNx.real (E : Env) : CNx → Next
 | .val v => .value (E.m v)
 | .skip => .skip
 | .enter f args => .enter f (args.map E.m).toArray
 | .round l f tmps assign body => .round (E.f l) f (tmps.map E.m).toArray assign body
def CNx.clo (D : Nat → Prop) : CNx → Prop
 | .val v => Clo D v
 | .skip => True
 | .enter _ args => ∀ v ∈ args, Clo D v
 | .round l _ tmps _ _ => D l ∧ ∀ v ∈ tmps, Clo D v
abbrev Ev := Operand → Option Value
def evL (ev : Ev) : List Operand → Option (List Value)
 | [] => some []
 | x :: xs => (ev x).bind fun v => (evL ev xs).map (v :: ·)
def evP (ev : Ev) : List (Nat × Operand) → Option (List (Nat × Value))
 | [] => some []
 | x :: xs => (ev x.2).bind fun v => (evP ev xs).map ((x.1, v) :: ·)
def EvOk (E : Env) (ev : Ev) (ρ : Operand → Value) : Prop := ∀ x v, ev x = some v → ρ x = E.m v ∧ Clo E.D v
theorem evL_ok {E : Env} {ev : Ev} {ρ : Operand → Value} (h : EvOk E ev ρ) : ∀ {xs : List Operand} {vs : List Value}, evL ev xs = some vs → xs.map ρ = vs.map E.m ∧ ∀ v ∈ vs, Clo E.D v
 | [], vs, e => by simp only [evL, Option.some.injEq] at e; subst e; simp
 | x :: xs, vs, e => by
  simp only [evL, Option.bind_eq_some_iff, Option.map_eq_some_iff] at e
  obtain ⟨v, hv, us, hu, rfl⟩ := e
  obtain ⟨h1, h2⟩ := h x v hv
  obtain ⟨h3, h4⟩ := evL_ok h hu
  exact ⟨by simp [h1, h3], by simp [h2]; exact h4⟩
theorem evP_ok {E : Env} {ev : Ev} {ρ : Operand → Value} (h : EvOk E ev ρ) : ∀ {xs : List (Nat × Operand)} {vs : List (Nat × Value)}, evP ev xs = some vs →
  xs.map (fun x => (x.1, ρ x.2)) = vs.map (fun p => (p.1, E.m p.2)) ∧ ∀ p ∈ vs, Clo E.D p.2
 | [], vs, e => by simp only [evP, Option.some.injEq] at e; subst e; simp
 | x :: xs, vs, e => by
  simp only [evP, Option.bind_eq_some_iff, Option.map_eq_some_iff] at e
  obtain ⟨v, hv, us, hu, rfl⟩ := e
  obtain ⟨h1, h2⟩ := h x.2 v hv
  obtain ⟨h3, h4⟩ := evP_ok h hu
  refine ⟨by simp [h1, h3], ?_⟩
  intro p hp
  rcases List.mem_cons.1 hp with rfl | hp
  ·exact h2
  ·exact h4 p hp
def okPlain (ev : Ev) (x : Operand) : Bool := match ev x with
 | some v => plain v
 | none => false
def cpure (P : Program) (ev : Ev) (o : Oper) : Option Value :=
 if o.op.operands.all (okPlain ev) = true then
  match pureRun P (execOp (fun x => (ev x).getD undef) o) with
  | some (.value v) => if plain v = true then some v else none
  | _ => none
 else none
theorem pure_ok {P : Program} {E : Env} {ev : Ev} {ρ : Operand → Value} (h : EvOk E ev ρ) {o : Oper} (hs : ∀ cs b, o.op ≠ .select cs b) {v : Value} (hp : cpure P ev o = some v) (w : World) :
  (execOp ρ o).run P w = .ok (.value (E.m v)) w ∧ Clo E.D v := by
 unfold cpure at hp
 split at hp
 ·rename_i hall
  split at hp
  ·rename_i u hrun
   split at hp
   ·rename_i hpl
    cases hp
    have hcong : execOp ρ o = execOp (fun x => (ev x).getD undef) o := by
     apply execOp_congr o hs
     intro x hx
     have hx' := Array.all_eq_true_iff_forall_mem.1 hall x hx
     unfold okPlain at hx'
     split at hx'
     ·rename_i v' hv
      rw [(h x v' hv).1, m_plain E hx', hv]
      rfl
     ·cases hx'
    rw [hcong, pureRun_ok _ hrun w, m_plain E hpl]
    exact ⟨rfl, Clo_plain _ _ hpl⟩
   ·cases hp
  ·cases hp
 ·cases hp
def OpOk (P : Program) (E : Env) (N : CH) (w : World) (s : Sem Next) (nx : CNx) (N' : CH) : Prop :=
 ∃ E' w', Rel P E' N' w' ∧ Ext E N w E' N' w' ∧ nx.clo E'.D ∧ s.run P w = .ok (nx.real E') w'
theorem OpOk.same {P : Program} {E : Env} {N : CH} {w : World} {s : Sem Next} {v : Value} (R : Rel P E N w) (h : s.run P w = .ok (.value (E.m v)) w ∧ Clo E.D v) : OpOk P E N w s (.val v) N :=
 ⟨E, w, R, Ext.refl _ _ _, h.2, h.1⟩
theorem run_v {P : Program} {w w' : World} {s : Sem Value} {v : Value} (h : s.run P w = .ok v w') : (do pure (.value (← s)) : Sem Next).run P w = .ok (.value v) w' := by
 simp only [Sem.run_bind, h, Result.andThen_ok, Sem.run_pure]
theorem run_u {P : Program} {w w' : World} {s : Sem Unit} (h : s.run P w = .ok () w') : (do s; pure .skip : Sem Next).run P w = .ok .skip w' := by
 simp only [Sem.run_bind, h, Result.andThen_ok, Sem.run_pure]
def cmethod (P : Program) (t : TypeId) (name : String) : Option FuncId :=
 match P.info? t with
 | some i => match i.methods.find? (·.name == name) with
  | some m => if m.path.toList.isEmpty = true then
    match m.func, P.underlying t with
    | some (f, true), some (.pointer _) => some f
    | some (_, false), some (.pointer _) => none
    | some (f, false), some _ => some f
    | _, _ => none
   else none
  | none => none
 | none => none
theorem run_method {P : Program} {t : TypeId} {name : String} {f : FuncId} (h : cmethod P t name = some f) (v : Value) (n : Nat) (w : World) : (method (n + 1) t v name).run P w = .ok (f, v) w := by
 unfold cmethod at h
 split at h
 ·rename_i i hi
  split at h
  ·rename_i m hm
   split at h
   ·rename_i hp
    have hp' : m.path.toList = [] := List.isEmpty_iff.1 hp
    have hti : (typeInfo t).run P w = .ok i w := by simp [typeInfo, hi]
    have hpe : m.path.isEmpty = true := by
     cases hpa : m.path with
     | mk l => rw [hpa] at hp'; simp only at hp'; subst hp'; rfl
    split at h
    ·rename_i g e hf hu
     cases h
     simp only [method, Sem.run_bind, hti, Result.andThen_ok, hm, hp', follow, Sem.run_pure, hf, receiverAt, run_underlying hu, Place.get]
    ·cases h
    ·rename_i g d hnp hf hu
     cases h
     have hne : ∀ e, d ≠ .pointer e := fun e he => by
      subst he
      exact hnp _ rfl
     simp only [method, Sem.run_bind, hti, Result.andThen_ok, hm, hp', follow, Sem.run_pure, hf, receiverAt, run_underlying hu]
     cases d <;> first | exact absurd rfl (hne _) | simp [Place.get]
    ·cases h
   ·cases h
  ·cases h
 ·cases h
def ctypeAssert (P : Program) (x : Value) (asserted : TypeId) (ok : Bool) : Option Value :=
 match P.underlying asserted, x with
 | some (.interface want), .iface t _ => match P.info? t with
  | some i => match Instr.missingMethod want i.methods with
   | none => some (if ok = true then .tuple #[x, .bool true] else x)
   | some _ => none
  | none => none
 | some _, .iface t v => if t = asserted then some (if ok = true then .tuple #[v, .bool true] else v) else if ok = true then (zeroT P asserted).map fun z => .tuple #[z, .bool false] else none
 | _, _ => none
theorem typeAssert_ok {P : Program} {E : Env} {w : World} {x v : Value} {xt asserted : TypeId} {ok : Bool} (hx : Clo E.D x) (h : ctypeAssert P x asserted ok = some v) :
  (Instr.typeAssert (E.m x) xt asserted ok).run P w = .ok (E.m v) w ∧ Clo E.D v := by
 unfold ctypeAssert at h
 split at h
 ·rename_i want t u hu
  split at h
  ·rename_i i hi
   split at h
   ·rename_i hm
    cases h
    have hti : (typeInfo t).run P w = .ok i w := by simp [typeInfo, hi]
    have he : E.m (.iface t u) = .iface t (E.m u) := rfl
    refine ⟨?_, ?_⟩
    ·simp only [he, Instr.typeAssert, Sem.run_bind, run_underlying hu, Result.andThen_ok, hti, hm, Sem.run_pure]
     cases ok <;> simp [Env.m, mv, mvL]
    ·cases ok
     ·exact hx
     ·exact Clo_tuple.2 (by
       intro z hz
       simp at hz
       rcases hz with rfl | rfl
       ·exact hx
       ·trivial)
   ·cases h
  ·cases h
 ·rename_i d t u hnd hu
  have hti : ∀ want, d ≠ .interface want := fun want he => by
   subst he
   exact hnd _ rfl
  have he : E.m (.iface t u) = .iface t (E.m u) := rfl
  split at h
  ·rename_i hta
   subst hta
   cases h
   refine ⟨?_, ?_⟩
   ·simp only [he, Instr.typeAssert, Sem.run_bind, run_underlying hu, Result.andThen_ok]
    cases d <;> first | exact absurd rfl (hti _) | (cases ok <;> simp [Env.m, mv, mvL])
   ·cases ok
    ·exact hx
    ·exact Clo_tuple.2 (by
      intro z hz
      simp at hz
      rcases hz with rfl | rfl
      ·exact hx
      ·trivial)
  ·rename_i hta
   split at h
   ·rename_i hok
    subst hok
    obtain ⟨z, hz, rfl⟩ := Option.map_eq_some_iff.1 h
    obtain ⟨hzr, hzp⟩ := run_zeroT hz w
    refine ⟨?_, Clo_tuple.2 (by
     intro y hy
     simp at hy
     rcases hy with rfl | rfl
     ·exact Clo_plain _ _ hzp
     ·trivial)⟩
    have hmz : E.m (.tuple #[z, .bool false]) = .tuple #[z, .bool false] := by
     have := m_plain E hzp
     simp only [Env.m] at this ⊢
     simp [mv, mvL, this]
    rw [hmz]
    simp only [he, Instr.typeAssert, Sem.run_bind, run_underlying hu, Result.andThen_ok]
    cases d <;> first | exact absurd rfl (hti _) | simp [hta, hzr]
   ·cases h
 ·cases h
def ccall (P : Program) (ev : Ev) (o : Oper) (c : Call) (N : CH) : Option (CNx × CH) :=
 match c.callee with
 | .builtin b =>
  match cpure P ev o with
  | some v => some (.val v, N)
  | none =>
   match b, evL ev c.args.toList, c.argTypes.toList with
   | .append, some [s, x], [t, xt] => (cappend P t xt s x N).map fun r => (.val r.1, r.2)
   | .len, some [x], [t] => (clen P t x N).map fun v => (.val v, N)
   | .copy, some [d, x], [t, _] => (ccopy P t d x N).map fun r => (.val r.1, r.2)
   | .delete, some [m, k], [t, _] => (cdelete P t m k N).map fun N' => (.val (.tuple #[]), N')
   | .unsafeSliceData, some [x], _ => (csliceData x).map fun v => (.val v, N)
   | .unsafeString, some [.pointer (some a), .int .i64 n], [pt, _] => (cunsafeString P pt a n N).map fun r => (.val r.1, r.2)
   | _, _, _ => none
 | .value f =>
  match ev f, evL ev c.args.toList with
  | some (.func (.func f) p q), some args =>
   match P.funcs[f]? with
   | some fn => if fn.body.isSome = true then some (.enter f (p.toList ++ args ++ q.toList), N) else match cpure P ev o with
     | some v => some (.val v, N)
     | none => (cextern P fn (p.toList ++ args ++ q.toList) N).map fun r => (.val r.1, r.2)
   | none => none
  | some (.func (.yield l) ⟨[]⟩ ⟨[]⟩), some args =>
   match N.get l with
   | some (.loop r) => if args.length = r.params.size then some (.round l r.fn ((r.params.toList.zip args).foldl (fun tmps (p : Tmp × Value) => tmps.set p.1 p.2) r.tmps.toList) r.assign r.body, N) else none
   | _ => none
  | some (.func (.methodOf ti name) ⟨p⟩ ⟨q⟩), some args =>
   match P.underlying ti, p ++ args with
   | some (.interface _), .iface t v :: rest =>
    match cmethod P t name with
    | some f => match P.funcs[f]? with
     | some fn => if fn.body.isSome = true then some (.enter f (v :: rest), N) else none
     | none => none
    | none => none
   | _, _ => none
  | _, _ => none
 | .invoke r name =>
  match ev r, evL ev c.args.toList with
  | some (.iface t v), some args =>
   match cmethod P t name with
   | some f => match P.funcs[f]? with
    | some fn => if fn.body.isSome = true then some (.enter f (v :: args), N) else none
    | none => none
   | none => none
  | _, _ => none
def NoCount (P : Program) : Prop := ∀ (f : FuncId) (fn : Func), P.funcs[f]? = some fn → fn.body.isSome = true → (fn.name == "runtime.NumGoroutine") = false
theorem foldl_set_tmps (E : Env) (l : List (Tmp × Value)) : ∀ (tmps : List Value),
  ((l.map fun p => (p.1, E.m p.2)).foldl (fun tmps (p : Tmp × Value) => tmps.setIfInBounds p.1 p.2) (tmps.map E.m).toArray) = ((l.foldl (fun tmps (p : Tmp × Value) => tmps.set p.1 p.2) tmps).map E.m).toArray := by
 induction l with
 | nil => intro _; rfl
 | cons p l ih =>
  intro tmps
  simp only [List.map_cons, List.foldl_cons]
  rw [← ih]
  congr 1
  simp [List.map_set]
theorem foldl_set_tmps_clo {D : Nat → Prop} (l : List (Tmp × Value)) : ∀ (tmps : List Value), (∀ v ∈ tmps, Clo D v) → (∀ p ∈ l, Clo D p.2) → ∀ v ∈ l.foldl (fun tmps (p : Tmp × Value) => tmps.set p.1 p.2) tmps, Clo D v := by
 induction l with
 | nil => intro tmps h _; exact h
 | cons p l ih =>
  intro tmps h hl
  simp only [List.foldl_cons]
  refine ih _ ?_ (fun q hq => hl q (by simp [hq]))
  intro v hv
  rcases List.mem_or_eq_of_mem_set hv with h1 | h1
  ·exact h v h1
  ·rw [h1]; exact hl p (by simp)
theorem run_callFunc {P : Program} (hP : NoCount P) {f : FuncId} {fn : Func} (hf : P.funcs[f]? = some fn) (hb : fn.body.isSome = true) (args : Array Value) (w : World) :
  (callFunc f args).run P w = .ok (.enter f args) w := by
 have h1 : ¬ fn.name = "runtime.NumGoroutine" := by simpa using hP f fn hf hb
 have h2 : ¬ fn.body = none := by intro h; rw [h] at hb; cases hb
 simp [callFunc, hf, h1, h2]
theorem call_ok {P : Program} (hP : NoCount P) {E : Env} {N N' : CH} {w : World} (R : Rel P E N w) {ev : Ev} {ρ : Operand → Value} (h : EvOk E ev ρ) {o : Oper} {c : Call} (ho : o.op = .call c) {nx : CNx}
  (hc : ccall P ev o c N = some (nx, N')) : OpOk P E N w (execOp ρ o) nx N' := by
 unfold ccall at hc
 split at hc
 ·rename_i b hcal
  split at hc
  ·rename_i v hp
   cases hc
   exact .same R (pure_ok h (by simp [ho]) hp w)
  ·split at hc
   ·rename_i s x t xt ha ht
    obtain ⟨r, hr, he⟩ := Option.map_eq_some_iff.1 hc
    cases he
    obtain ⟨h1, h2⟩ := evL_ok h ha
    obtain ⟨E', w', R', X, hv, hrun⟩ := append_ok (ty := o.type) R (h2 s (by simp)) (h2 x (by simp)) hr
    refine ⟨E', w', R', X, hv, ?_⟩
    have e1 : c.args.map ρ = #[E.m s, E.m x] := by apply Array.ext'; simpa using h1
    have e2 : c.argTypes = #[t, xt] := by apply Array.ext'; simpa using ht
    simp only [execOp, ho, resolve, hcal, pure_bind, invoke, builtin, e1, e2]
    exact run_v hrun
   ·rename_i x t ha ht
    obtain ⟨v, hr, he⟩ := Option.map_eq_some_iff.1 hc
    cases he
    obtain ⟨h1, h2⟩ := evL_ok h ha
    obtain ⟨hrun, hv⟩ := len_ok (ty := o.type) R (h2 x (by simp)) hr
    refine .same R ⟨?_, hv⟩
    have e1 : c.args.map ρ = #[E.m x] := by apply Array.ext'; simpa using h1
    have e2 : c.argTypes = #[t] := by apply Array.ext'; simpa using ht
    simp only [execOp, ho, resolve, hcal, pure_bind, invoke, builtin, e1, e2]
    exact run_v hrun
   ·rename_i d x t t2 ha ht
    obtain ⟨r, hr, he⟩ := Option.map_eq_some_iff.1 hc
    cases he
    obtain ⟨h1, h2⟩ := evL_ok h ha
    obtain ⟨w', R', X, hv, hrun⟩ := copy_ok (t2 := t2) (ty := o.type) R (h2 d (by simp)) (h2 x (by simp)) hr
    refine ⟨E, w', R', X, hv, ?_⟩
    have e1 : c.args.map ρ = #[E.m d, E.m x] := by apply Array.ext'; simpa using h1
    have e2 : c.argTypes = #[t, t2] := by apply Array.ext'; simpa using ht
    simp only [execOp, ho, resolve, hcal, pure_bind, invoke, builtin, e1, e2]
    exact run_v hrun
   ·rename_i m k t t2 ha ht
    obtain ⟨r, hr, he⟩ := Option.map_eq_some_iff.1 hc
    cases he
    obtain ⟨h1, h2⟩ := evL_ok h ha
    obtain ⟨w', R', X, hrun⟩ := delete_ok (t2 := t2) (ty := o.type) R (h2 m (by simp)) hr
    refine ⟨E, w', R', X, by simp [CNx.clo, Clo, CloL], ?_⟩
    have e1 : c.args.map ρ = #[E.m m, E.m k] := by apply Array.ext'; simpa using h1
    have e2 : c.argTypes = #[t, t2] := by apply Array.ext'; simpa using ht
    simp only [execOp, ho, resolve, hcal, pure_bind, invoke, builtin, e1, e2]
    exact run_v hrun
   ·rename_i x ha
    obtain ⟨v, hr, he⟩ := Option.map_eq_some_iff.1 hc
    cases he
    obtain ⟨h1, h2⟩ := evL_ok h ha
    obtain ⟨hrun, hv, _⟩ := sliceData_ok (P := P) (w := w) c.argTypes o.type (h2 x (by simp)) hr
    refine .same R ⟨?_, hv⟩
    have e1 : c.args.map ρ = #[E.m x] := by apply Array.ext'; simpa using h1
    simp only [execOp, ho, resolve, hcal, pure_bind, invoke, builtin, e1]
    exact run_v hrun
   ·rename_i a n pt it ha ht
    obtain ⟨r, hr, he⟩ := Option.map_eq_some_iff.1 hc
    cases he
    obtain ⟨h1, h2⟩ := evL_ok h ha
    obtain ⟨w', R', X, hv, hrun⟩ := unsafeString_ok (it := it) (ty := o.type) R (h2 (.pointer (some a)) (by simp)) hr
    refine ⟨E, w', R', X, hv, ?_⟩
    have e1 : c.args.map ρ = #[E.m (.pointer (some a)), .int .i64 n] := by apply Array.ext'; rw [Array.toList_map]; exact h1
    have e2 : c.argTypes = #[pt, it] := by apply Array.ext'; simpa using ht
    simp only [execOp, ho, resolve, hcal, pure_bind, invoke, builtin, e1, e2]
    exact run_v hrun
   ·cases hc
 ·rename_i fo hcal
  split at hc
  ·rename_i f p q args hf ha
   split at hc
   ·rename_i fn hfn
    split at hc
    ·rename_i hb
     cases hc
     obtain ⟨h1, h2⟩ := evL_ok h ha
     obtain ⟨hfv, hfc⟩ := h fo _ hf
     obtain ⟨_, hp, hq⟩ : True ∧ (∀ v ∈ p.toList, Clo E.D v) ∧ (∀ v ∈ q.toList, Clo E.D v) := by
      obtain ⟨p⟩ := p; obtain ⟨q⟩ := q
      exact ⟨trivial, CloL_all.1 hfc.2.1, CloL_all.1 hfc.2.2⟩
     refine ⟨E, w, R, Ext.refl _ _ _, ?_, ?_⟩
     ·intro v hv
      rcases List.mem_append.1 hv with h3 | h3
      ·rcases List.mem_append.1 h3 with h4 | h4
       ·exact hp v h4
       ·exact h2 v h4
      ·exact hq v h3
     ·have e1 : c.args.map ρ = (args.map E.m).toArray := by apply Array.ext'; simpa using h1
      have e2 : E.m (.func (.func f) p q) = .func (.func f) (p.map E.m) (q.map E.m) := m_func E (.func f) p q
      simp only [execOp, ho, resolve, hcal, hfv, e2, Deferred.ofValue, pure_bind, invoke, e1]
      rw [run_callFunc hP hfn hb]
      simp only [CNx.real]
      congr 2
      apply Array.ext'
      simp
    ·split at hc
     ·rename_i v hp
      cases hc
      exact .same R (pure_ok h (by simp [ho]) hp w)
     ·obtain ⟨r, hr, e'⟩ := Option.map_eq_some_iff.1 hc
      cases e'
      obtain ⟨h1, h2⟩ := evL_ok h ha
      obtain ⟨hfv, hfc⟩ := h fo _ hf
      obtain ⟨hp, hq⟩ : (∀ v ∈ p.toList, Clo E.D v) ∧ (∀ v ∈ q.toList, Clo E.D v) := by
       obtain ⟨p⟩ := p; obtain ⟨q⟩ := q
       exact ⟨CloL_all.1 hfc.2.1, CloL_all.1 hfc.2.2⟩
      obtain ⟨E', w', R', X, hv, hrun⟩ := extern_ok R hfn (args := p.toList ++ args ++ q.toList) (fun v hv => by
       rcases List.mem_append.1 hv with h3 | h3
       ·rcases List.mem_append.1 h3 with h4 | h4
        ·exact hp v h4
        ·exact h2 v h4
       ·exact hq v h3) hr
      refine ⟨E', w', R', X, hv, ?_⟩
      have e1 : c.args.map ρ = (args.map E.m).toArray := by apply Array.ext'; simpa using h1
      have e2 : E.m (.func (.func f) p q) = .func (.func f) (p.map E.m) (q.map E.m) := m_func E (.func f) p q
      have e3 : ((p.toList ++ args ++ q.toList).map E.m).toArray = p.map E.m ++ (args.map E.m).toArray ++ q.map E.m := by apply Array.ext'; simp
      rw [e3] at hrun
      simp only [execOp, ho, resolve, hcal, hfv, e2, Deferred.ofValue, pure_bind, invoke, e1]
      exact hrun
   ·cases hc
  ·rename_i l args hf ha
   split at hc
   ·rename_i r hg
    split at hc
    ·rename_i hlen
     cases hc
     obtain ⟨h1, h2⟩ := evL_ok h ha
     obtain ⟨hfv, hfc⟩ := h fo _ hf
     have hd : E.D l := hfc.1
     obtain ⟨⟨hl1, hl2⟩, hl3⟩ := R.blk l _ hd hg
     refine ⟨E, w, R, Ext.refl _ _ _, ⟨hd, foldl_set_tmps_clo _ _ hl1 (fun p hp => h2 _ (List.of_mem_zip hp).2)⟩, ?_⟩
     have e1 : c.args.map ρ = (args.map E.m).toArray := by apply Array.ext'; simpa using h1
     have e2 : E.m (.func (.yield l) #[] #[]) = .func (.yield (E.f l)) #[] #[] := by rw [m_func]; simp [mvFn]
     have hgo : (getObj (E.f l)).run P w = .ok (.loop { r with tmps := r.tmps.map E.m, defers := E.f r.defers }) w := by simp [getObj, Sem.run, hl3]
     have hsz : ¬ ((args.map E.m).toArray.size ≠ r.params.size) := by simp [hlen]
     have hz : (r.params.zip (args.map E.m).toArray).toList = (r.params.toList.zip args).map fun p => (p.1, E.m p.2) := by
      simp [List.zip_map_right]
     have ht := foldl_set_tmps E (r.params.toList.zip args) r.tmps.toList
     simp only [execOp, ho, resolve, hcal, hfv, e2, Deferred.ofValue, pure_bind, invoke, e1]
     have he : (#[] ++ (args.map E.m).toArray : Array Value) = (args.map E.m).toArray := by simp
     rw [he]
     simp only [Instr.yield, Instr.getLoop, Sem.run_bind, hgo, Result.andThen_ok, Sem.run_pure, hsz, if_false]
     simp only [CNx.real]
     congr 2
     rw [← ht, ← hz]
     rw [Array.foldl_toList]
     congr 1
     apply Array.ext'
     simp
    ·cases hc
   ·cases hc
  ·rename_i ti name p q args hf ha
   split at hc
   ·rename_i ms t v rest hu hl
    split at hc
    ·rename_i f hm
     split at hc
     ·rename_i fn hfn
      split at hc
      ·rename_i hb
       cases hc
       obtain ⟨h1, h2⟩ := evL_ok h ha
       obtain ⟨hfv, hfc⟩ := h _ _ hf
       have hp : ∀ u ∈ p, Clo E.D u := CloL_all.1 hfc.2.1
       have hall : ∀ u ∈ p ++ args, Clo E.D u := by
        intro u hu
        rcases List.mem_append.1 hu with h3 | h3
        ·exact hp u h3
        ·exact h2 u h3
       rw [hl] at hall
       refine ⟨E, w, R, Ext.refl _ _ _, ?_, ?_⟩
       ·intro u hu
        rcases List.mem_cons.1 hu with rfl | h3
        ·exact hall (.iface t u) (by simp)
        ·exact hall u (by simp [h3])
       ·have e1 : c.args.map ρ = (args.map E.m).toArray := by apply Array.ext'; simpa using h1
        have e2 : E.m (.func (.methodOf ti name) ⟨p⟩ ⟨q⟩) = .func (.methodOf ti name) (p.map E.m).toArray (q.map E.m).toArray := by
         rw [m_func]
         simp [mvFn]
        have e0 : ((p.map E.m).toArray ++ (args.map E.m).toArray : Array Value) = (.iface t (E.m v) :: rest.map E.m).toArray := by
         apply Array.ext'
         have : p.map E.m ++ args.map E.m = (p ++ args).map E.m := by simp
         simp only [Array.toList_append, this, hl, List.map_cons]
         rfl
        have e3 : ((.iface t (E.m v) :: rest.map E.m).toArray : Array Value)[0]? = some (.iface t (E.m v)) := by simp
        have e4 : ((.iface t (E.m v) :: rest.map E.m).toArray : Array Value).extract 1 ((.iface t (E.m v) :: rest.map E.m).toArray : Array Value).size = (rest.map E.m).toArray := by
         apply Array.ext'
         simp [List.take_of_length_le]
        have e5 : (#[E.m v] ++ (rest.map E.m).toArray : Array Value) = ((v :: rest).map E.m).toArray := by
         apply Array.ext'
         simp
        have hpr : (program : Sem Program).run P w = .ok P w := rfl
        obtain ⟨n, hn⟩ : ∃ n, P.types.size + Made.depth = n + 1 := ⟨P.types.size + Made.depth - 1, by have : 0 < Made.depth := by decide
                                                                                                      omega⟩
        simp only [execOp, ho, resolve, hcal, hfv, e2, Deferred.ofValue, pure_bind, invoke, e1, e0, e3, Sem.run_bind, run_underlying hu, Result.andThen_ok, Sem.run_pure, e4, callMethod, hpr, hn, run_method hm, e5]
        rw [run_callFunc hP hfn hb _ w]
        rfl
      ·cases hc
     ·cases hc
    ·cases hc
   ·cases hc
  ·cases hc
 ·rename_i r name hcal
  split at hc
  ·rename_i t v args hr ha
   split at hc
   ·rename_i f hm
    split at hc
    ·rename_i fn hfn
     split at hc
     ·rename_i hb
      cases hc
      obtain ⟨h1, h2⟩ := evL_ok h ha
      obtain ⟨hrv, hrc⟩ := h r _ hr
      have e2 : E.m (.iface t v) = .iface t (E.m v) := rfl
      refine ⟨E, w, R, Ext.refl _ _ _, ?_, ?_⟩
      ·intro u hu
       rcases List.mem_cons.1 hu with rfl | h3
       ·exact hrc
       ·exact h2 u h3
      ·have e1 : c.args.map ρ = (args.map E.m).toArray := by apply Array.ext'; simpa using h1
       have e3 : (#[E.m (.iface t v)] ++ (args.map E.m).toArray : Array Value)[0]? = some (.iface t (E.m v)) := by simp [e2]
       have e4 : (#[E.m (.iface t v)] ++ (args.map E.m).toArray : Array Value).extract 1 (#[E.m (.iface t v)] ++ (args.map E.m).toArray : Array Value).size = (args.map E.m).toArray := by
        apply Array.ext'
        simp [List.take_of_length_le]
       have e5 : (#[E.m v] ++ (args.map E.m).toArray : Array Value) = ((v :: args).map E.m).toArray := by
        apply Array.ext'
        simp
       have hpr : (program : Sem Program).run P w = .ok P w := rfl
       obtain ⟨n, hn⟩ : ∃ n, P.types.size + Made.depth = n + 1 := ⟨P.types.size + Made.depth - 1, by have : 0 < Made.depth := by decide
                                                                                                     omega⟩
       simp only [execOp, ho, resolve, hcal, pure_bind, invoke, e1, hrv, e3, e4, callMethod, Sem.run_bind, hpr, Result.andThen_ok, hn, run_method hm, e5]
       rw [run_callFunc hP hfn hb _ w]
       rfl
     ·cases hc
    ·cases hc
   ·cases hc
  ·cases hc
def mx (ev : Ev) : Option Operand → Option (Option Value)
 | none => some none
 | some x => (ev x).map some
theorem mx_ok {E : Env} {ev : Ev} {ρ : Operand → Value} (h : EvOk E ev ρ) {x : Option Operand} {v : Option Value} (e : mx ev x = some v) : x.map ρ = v.map E.m := by
 cases x with
 | none => simp only [mx, Option.some.injEq] at e; subst e; rfl
 | some x =>
  simp only [mx, Option.map_eq_some_iff] at e
  obtain ⟨v, hv, rfl⟩ := e
  simp [(h x v hv).1]
def cop (P : Program) (ev : Ev) (o : Oper) (N : CH) : Option (CNx × CH) :=
 match o.op with
 | .move x | .assign x => (ev x).map fun v => (.val v, N)
 | .pick c a b => match ev c with
  | some (.bool true) => (ev a).map fun v => (.val v, N)
  | some (.bool false) => (ev b).map fun v => (.val v, N)
  | _ => none
 | .alloc e => (calloc P e N).map fun r => (.val r.1, r.2)
 | .box e x => (ev x).bind fun v => (cbox e v N).map fun r => (.val r.1, r.2)
 | .build t parts => (evP ev parts.toList).bind fun ps => (cbuild P t ps).map fun v => (.val v, N)
 | .buildSlice t n parts => (evP ev parts.toList).bind fun ps => (cbuildSlice P t n ps N).map fun r => (.val r.1, r.2)
 | .load t a => (ev a).bind fun a => (cload P t a N).map fun v => (.val v, N)
 | .store t a x => (ev a).bind fun a => (ev x).bind fun x => (cstore P t a x N).map fun N' => (.skip, N')
 | .nilCheck x => (ev x).bind fun v => (cnilCheck v).map fun v => (.val v, N)
 | .binOp op t x y _ =>
  match cpure P ev o with
  | some v => some (.val v, N)
  | none => match op, ev x, ev y with
   | .eql, some a, some b => (ceq P t a b).map fun r => (.val (.bool r), N)
   | .neq, some a, some b => (ceq P t a b).map fun r => (.val (.bool (!r)), N)
   | _, _, _ => none
 | .unOp _ _ _ => (cpure P ev o).map fun v => (.val v, N)
 | .convert src dst x =>
  match cpure P ev o with
  | some v => some (.val v, N)
  | none => match ev x with
   | some (.string s) => (cbytesOf P src dst (.string s) N).map fun r => (.val r.1, r.2)
   | some (.slice a n c) => match csame P src dst (.slice a n c) N with
    | some v => some (.val v, N)
    | none => (cstringOf P src dst (.slice a n c) N).map fun v => (.val v, N)
   | some (.pointer (some a)) => (cunsafe P src dst a N).map fun v => (.val v, N)
   | _ => none
 | .makeInterface t x => (ev x).bind fun v => (cmakeIface P t v).map fun v => (.val v, N)
 | .makeFunc g p q => (evL ev p.toList).bind fun p => (evL ev q.toList).bind fun q => (cmakeFunc g p q).map fun v => (.val v, N)
 | .makeMap t r => (mx ev r).bind fun r => (cmakeMap P t r N).map fun r => (.val r.1, r.2)
 | .makeSlice t l c => (ev l).bind fun l => (ev c).bind fun c => (cmakeSlice P t l c N).map fun r => (.val r.1, r.2)
 | .slice t x lo hi m =>
  match cpure P ev o with
  | some v => some (.val v, N)
  | none => (ev x).bind fun x => (mx ev lo).bind fun lo => (mx ev hi).bind fun hi => (mx ev m).bind fun m => (cslice P t x lo hi m N).map fun v => (.val v, N)
 | .fieldAddr t x i => (ev x).bind fun x => (cfieldAddr P t x i).map fun v => (.val v, N)
 | .field t x i => (ev x).bind fun x => (cfield P t x i).map fun v => (.val v, N)
 | .indexAddr t x i => (ev x).bind fun x => (ev i).bind fun i => (cindexAddr P t x i).map fun v => (.val v, N)
 | .sliceToArrayPointer t x => (ev x).bind fun x => (csta P t x).map fun v => (.val v, N)
 | .index _ _ _ => (cpure P ev o).map fun v => (.val v, N)
 | .lookup t m k ok => (ev m).bind fun m => (ev k).bind fun k => (clookup P t m k ok N).map fun v => (.val v, N)
 | .mapUpdate t m k x | .insert t m k x => (ev m).bind fun m => (ev k).bind fun k => (ev x).bind fun x => (cmapUpdate P t m k x N).map fun N' => (.skip, N')
 | .typeAssert x _ asserted ok =>
  match cpure P ev o with
  | some v => some (.val v, N)
  | none => (ev x).bind fun x => (ctypeAssert P x asserted ok).map fun v => (.val v, N)
 | .extract t i => (ev t).bind fun t => (cextract t i).map fun v => (.val v, N)
 | .range t x => (ev x).bind fun x => (crange P t x N).map fun r => (.val r.1, r.2)
 | .next x b => (ev x).bind fun x => (cnext x b N).map fun r => (.val r.1, r.2)
 | .mapEntry t m k => (ev m).bind fun m => (ev k).bind fun k => (cmapEntry P t m k N).map fun r => (.val r.1, r.2)
 | .entryStore _ m s x => (ev m).bind fun m => (ev s).bind fun s => (ev x).bind fun x => (centryStore m s x N).map fun N' => (.skip, N')
 | .entry x => (ev x).bind fun x => (centry x N).map fun v => (.val v, N)
 | .call c => ccall P ev o c N
 | _ => none
theorem cop_ok {P : Program} (hP : NoCount P) {E : Env} {N N' : CH} {w : World} (R : Rel P E N w) {ev : Ev} {ρ : Operand → Value} (h : EvOk E ev ρ) {o : Oper} {nx : CNx} (hc : cop P ev o N = some (nx, N')) :
  OpOk P E N w (execOp ρ o) nx N' := by
 unfold cop at hc
 split at hc
 ·rename_i x ho
  obtain ⟨v, hv, e⟩ := Option.map_eq_some_iff.1 hc
  cases e
  obtain ⟨h1, h2⟩ := h x v hv
  exact .same R ⟨by simp only [execOp, ho, Sem.run_pure, h1], h2⟩
 ·rename_i x ho
  obtain ⟨v, hv, e⟩ := Option.map_eq_some_iff.1 hc
  cases e
  obtain ⟨h1, h2⟩ := h x v hv
  exact .same R ⟨by simp only [execOp, ho, Sem.run_pure, h1], h2⟩
 ·rename_i c a b ho
  split at hc
  ·rename_i hcv
   obtain ⟨v, hv, e⟩ := Option.map_eq_some_iff.1 hc
   cases e
   obtain ⟨h1, h2⟩ := h a v hv
   obtain ⟨h3, _⟩ := h c _ hcv
   have hb : E.m (.bool true) = .bool true := rfl
   exact .same R ⟨by simp [execOp, ho, h1, h3, hb, asBool], h2⟩
  ·rename_i hcv
   obtain ⟨v, hv, e⟩ := Option.map_eq_some_iff.1 hc
   cases e
   obtain ⟨h1, h2⟩ := h b v hv
   obtain ⟨h3, _⟩ := h c _ hcv
   have hb : E.m (.bool false) = .bool false := rfl
   exact .same R ⟨by simp [execOp, ho, h1, h3, hb, asBool], h2⟩
  ·cases hc
 ·rename_i e ho
  obtain ⟨r, hr, e'⟩ := Option.map_eq_some_iff.1 hc
  cases e'
  obtain ⟨E', w', R', X, hu, hrun⟩ := alloc_ok R hr
  exact ⟨E', w', R', X, hu, by simp only [execOp, ho]; exact run_v hrun⟩
 ·rename_i e x ho
  simp only [Option.bind_eq_some_iff, Option.map_eq_some_iff] at hc
  obtain ⟨v, hv, r, hr, e'⟩ := hc
  cases e'
  obtain ⟨h1, h2⟩ := h x v hv
  obtain ⟨E', w', R', X, hu, hrun⟩ := box_ok R h2 hr
  exact ⟨E', w', R', X, hu, by simp only [execOp, ho, h1]; exact run_v hrun⟩
 ·rename_i t parts ho
  simp only [Option.bind_eq_some_iff, Option.map_eq_some_iff] at hc
  obtain ⟨ps, hps, v, hr, e'⟩ := hc
  cases e'
  obtain ⟨h1, h2⟩ := evP_ok h hps
  obtain ⟨hrun, hv⟩ := build_ok (w := w) h2 hr
  refine .same R ⟨?_, hv⟩
  have e1 : (parts.map fun (x : Nat × Operand) => (x.1, ρ x.2)) = (ps.map fun p => (p.1, E.m p.2)).toArray := by apply Array.ext'; simpa using h1
  simp only [execOp, ho]
  rw [e1]
  exact run_v hrun
 ·rename_i t n parts ho
  simp only [Option.bind_eq_some_iff, Option.map_eq_some_iff] at hc
  obtain ⟨ps, hps, r, hr, e'⟩ := hc
  cases e'
  obtain ⟨h1, h2⟩ := evP_ok h hps
  obtain ⟨E', w', R', X, hu, hrun⟩ := buildSlice_ok R h2 hr
  refine ⟨E', w', R', X, hu, ?_⟩
  have e1 : (parts.map fun (x : Nat × Operand) => (x.1, ρ x.2)) = (ps.map fun p => (p.1, E.m p.2)).toArray := by apply Array.ext'; simpa using h1
  simp only [execOp, ho]
  rw [e1]
  exact run_v hrun
 ·rename_i t x ho
  simp only [Option.bind_eq_some_iff, Option.map_eq_some_iff] at hc
  obtain ⟨a, ha, v, hr, e'⟩ := hc
  cases e'
  obtain ⟨h1, h2⟩ := h x a ha
  obtain ⟨hrun, hv⟩ := load_ok R h2 hr
  exact .same R ⟨by simp only [execOp, ho, h1]; exact run_v hrun, hv⟩
 ·rename_i t x y ho
  simp only [Option.bind_eq_some_iff, Option.map_eq_some_iff] at hc
  obtain ⟨a, ha, b, hb, N1, hr, e'⟩ := hc
  cases e'
  obtain ⟨h1, h2⟩ := h x a ha
  obtain ⟨h3, h4⟩ := h y b hb
  obtain ⟨w', R', X, hrun⟩ := store_ok R h2 h4 hr
  exact ⟨E, w', R', X, trivial, by simp only [execOp, ho, h1, h3]; exact run_u hrun⟩
 ·rename_i x ho
  simp only [Option.bind_eq_some_iff, Option.map_eq_some_iff] at hc
  obtain ⟨a, ha, v, hr, e'⟩ := hc
  cases e'
  obtain ⟨h1, h2⟩ := h x a ha
  unfold cnilCheck at hr
  split at hr
  ·cases hr
   refine .same R ⟨?_, h2⟩
   simp only [execOp, ho, h1]
   rfl
  ·rename_i f p q
   cases hr
   refine .same R ⟨?_, h2⟩
   have e2 : E.m (.func (.func f) p q) = .func (.func f) (p.map E.m) (q.map E.m) := m_func E (.func f) p q
   simp only [execOp, ho, h1, e2]
   rfl
  ·cases hr
 ·rename_i op t x y yt ho
  split at hc
  ·rename_i v hp
   cases hc
   exact .same R (pure_ok h (by simp [ho]) hp w)
  ·split at hc
   ·rename_i a b ha hb
    obtain ⟨r, hr, e'⟩ := Option.map_eq_some_iff.1 hc
    cases e'
    obtain ⟨h1, h2⟩ := h x a ha
    obtain ⟨h3, h4⟩ := h y b hb
    obtain ⟨hrun, _⟩ := eq_ok (w := w) h2 h4 hr x y
    exact .same R ⟨by simp only [execOp, ho, h1, h3]; exact run_v hrun, trivial⟩
   ·rename_i a b ha hb
    obtain ⟨r, hr, e'⟩ := Option.map_eq_some_iff.1 hc
    cases e'
    obtain ⟨h1, h2⟩ := h x a ha
    obtain ⟨h3, h4⟩ := h y b hb
    obtain ⟨_, hrun⟩ := eq_ok (w := w) h2 h4 hr x y
    exact .same R ⟨by simp only [execOp, ho, h1, h3]; exact run_v hrun, trivial⟩
   ·cases hc
 ·rename_i ho
  obtain ⟨v, hp, e'⟩ := Option.map_eq_some_iff.1 hc
  cases e'
  exact .same R (pure_ok h (by simp [ho]) hp w)
 ·rename_i src dst x ho
  split at hc
  ·rename_i v hp
   cases hc
   exact .same R (pure_ok h (by simp [ho]) hp w)
  ·split at hc
   ·rename_i s hs
    obtain ⟨r, hr, e'⟩ := Option.map_eq_some_iff.1 hc
    cases e'
    obtain ⟨h1, h2⟩ := h x _ hs
    obtain ⟨E', w', R', X, hu, hrun⟩ := bytesOf_ok R hr
    exact ⟨E', w', R', X, hu, by simp only [execOp, ho, h1]; exact run_v hrun⟩
   ·rename_i a n c hs
    split at hc
    ·rename_i v hr
     cases hc
     obtain ⟨h1, h2⟩ := h x _ hs
     obtain ⟨w', R', X, hv, hrun⟩ := same_ok R h2 hr
     exact ⟨E, w', R', X, hv, by simp only [execOp, ho, h1]; exact run_v hrun⟩
    ·obtain ⟨v, hr, e'⟩ := Option.map_eq_some_iff.1 hc
     cases e'
     obtain ⟨h1, h2⟩ := h x _ hs
     obtain ⟨hrun, hv⟩ := stringOf_ok R h2 hr
     exact .same R ⟨by simp only [execOp, ho, h1]; exact run_v hrun, hv⟩
   ·rename_i a hs
    obtain ⟨v, hr, e'⟩ := Option.map_eq_some_iff.1 hc
    cases e'
    obtain ⟨h1, h2⟩ := h x _ hs
    obtain ⟨hrun, hv, _⟩ := unsafe_ok R h2 hr
    exact .same R ⟨by simp only [execOp, ho, h1]; exact run_v hrun, hv⟩
   ·cases hc
 ·rename_i t x ho
  simp only [Option.bind_eq_some_iff, Option.map_eq_some_iff] at hc
  obtain ⟨a, ha, v, hr, e'⟩ := hc
  cases e'
  obtain ⟨h1, h2⟩ := h x a ha
  obtain ⟨hrun, hv⟩ := makeIface_ok (w := w) h2 hr
  exact .same R ⟨by simp only [execOp, ho, h1]; exact run_v hrun, hv⟩
 ·rename_i g p q ho
  simp only [Option.bind_eq_some_iff, Option.map_eq_some_iff] at hc
  obtain ⟨ps, hps, qs, hqs, v, hr, e'⟩ := hc
  cases e'
  obtain ⟨h1, h2⟩ := evL_ok h hps
  obtain ⟨h3, h4⟩ := evL_ok h hqs
  obtain ⟨hrun, hv⟩ := makeFunc_ok (P := P) (w := w) h2 h4 hr
  refine .same R ⟨?_, hv⟩
  have e1 : p.map ρ = (ps.map E.m).toArray := by apply Array.ext'; simpa using h1
  have e2 : q.map ρ = (qs.map E.m).toArray := by apply Array.ext'; simpa using h3
  simp only [execOp, ho, e1, e2]
  exact run_v hrun
 ·rename_i t r ho
  simp only [Option.bind_eq_some_iff, Option.map_eq_some_iff] at hc
  obtain ⟨rv, hrv, r', hr, e'⟩ := hc
  cases e'
  have h1 := mx_ok h hrv
  obtain ⟨E', w', R', X, hu, hrun⟩ := makeMap_ok R hr
  exact ⟨E', w', R', X, hu, by simp only [execOp, ho, h1]; exact run_v hrun⟩
 ·rename_i t l c ho
  simp only [Option.bind_eq_some_iff, Option.map_eq_some_iff] at hc
  obtain ⟨a, ha, b, hb, r', hr, e'⟩ := hc
  cases e'
  obtain ⟨h1, _⟩ := h l a ha
  obtain ⟨h3, _⟩ := h c b hb
  obtain ⟨E', w', R', X, hu, hrun⟩ := makeSlice_ok R hr
  exact ⟨E', w', R', X, hu, by simp only [execOp, ho, h1, h3]; exact run_v hrun⟩
 ·rename_i t x lo hi m ho
  split at hc
  ·rename_i v hp
   cases hc
   exact .same R (pure_ok h (by simp [ho]) hp w)
  ·simp only [Option.bind_eq_some_iff, Option.map_eq_some_iff] at hc
   obtain ⟨a, ha, l, hl, hh, hhi, mm, hm, v, hr, e'⟩ := hc
   cases e'
   obtain ⟨h1, h2⟩ := h x a ha
   obtain ⟨hrun, hv⟩ := slice_ok R h2 hr
   exact .same R ⟨by simp only [execOp, ho, h1, mx_ok h hl, mx_ok h hhi, mx_ok h hm]; exact run_v hrun, hv⟩
 ·rename_i t x i ho
  simp only [Option.bind_eq_some_iff, Option.map_eq_some_iff] at hc
  obtain ⟨a, ha, v, hr, e'⟩ := hc
  cases e'
  obtain ⟨h1, h2⟩ := h x a ha
  obtain ⟨hrun, hv⟩ := fieldAddr_ok (w := w) h2 hr
  exact .same R ⟨by simp only [execOp, ho, h1]; exact run_v hrun, hv⟩
 ·rename_i t x i ho
  simp only [Option.bind_eq_some_iff, Option.map_eq_some_iff] at hc
  obtain ⟨a, ha, v, hr, e'⟩ := hc
  cases e'
  obtain ⟨h1, h2⟩ := h x a ha
  obtain ⟨hrun, hv⟩ := field_ok (w := w) h2 hr
  exact .same R ⟨by simp only [execOp, ho, h1]; exact run_v hrun, hv⟩
 ·rename_i t x i ho
  simp only [Option.bind_eq_some_iff, Option.map_eq_some_iff] at hc
  obtain ⟨a, ha, b, hb, v, hr, e'⟩ := hc
  cases e'
  obtain ⟨h1, h2⟩ := h x a ha
  obtain ⟨h3, _⟩ := h i b hb
  obtain ⟨hrun, hv⟩ := indexAddr_ok (w := w) h2 hr
  exact .same R ⟨by simp only [execOp, ho, h1, h3]; exact run_v hrun, hv⟩
 ·rename_i t x ho
  simp only [Option.bind_eq_some_iff, Option.map_eq_some_iff] at hc
  obtain ⟨a, ha, v, hr, e'⟩ := hc
  cases e'
  obtain ⟨h1, h2⟩ := h x a ha
  obtain ⟨hrun, hv⟩ := sta_ok (w := w) h2 hr
  exact .same R ⟨by simp only [execOp, ho, h1]; exact run_v hrun, hv⟩
 ·rename_i ho
  obtain ⟨v, hp, e'⟩ := Option.map_eq_some_iff.1 hc
  cases e'
  exact .same R (pure_ok h (by simp [ho]) hp w)
 ·rename_i t x i ok ho
  simp only [Option.bind_eq_some_iff, Option.map_eq_some_iff] at hc
  obtain ⟨a, ha, b, hb, v, hr, e'⟩ := hc
  cases e'
  obtain ⟨h1, h2⟩ := h x a ha
  obtain ⟨h3, _⟩ := h i b hb
  obtain ⟨hrun, hv⟩ := lookup_ok R h2 hr
  exact .same R ⟨by simp only [execOp, ho, h1, h3]; exact run_v hrun, hv⟩
 ·rename_i t m k x ho
  simp only [Option.bind_eq_some_iff, Option.map_eq_some_iff] at hc
  obtain ⟨a, ha, b, hb, c, hcc, N1, hr, e'⟩ := hc
  cases e'
  obtain ⟨h1, h2⟩ := h m a ha
  obtain ⟨h3, _⟩ := h k b hb
  obtain ⟨h5, h6⟩ := h x c hcc
  obtain ⟨w', R', X, hrun⟩ := mapUpdate_ok R h2 h6 hr
  exact ⟨E, w', R', X, trivial, by simp only [execOp, ho, h1, h3, h5]; exact run_u hrun⟩
 ·rename_i t m k x ho
  simp only [Option.bind_eq_some_iff, Option.map_eq_some_iff] at hc
  obtain ⟨a, ha, b, hb, c, hcc, N1, hr, e'⟩ := hc
  cases e'
  obtain ⟨h1, h2⟩ := h m a ha
  obtain ⟨h3, _⟩ := h k b hb
  obtain ⟨h5, h6⟩ := h x c hcc
  obtain ⟨w', R', X, hrun⟩ := mapUpdate_ok R h2 h6 hr
  exact ⟨E, w', R', X, trivial, by simp only [execOp, ho, h1, h3, h5]; exact run_u hrun⟩
 ·rename_i x xt asserted ok ho
  split at hc
  ·rename_i v hp
   cases hc
   exact .same R (pure_ok h (by simp [ho]) hp w)
  ·simp only [Option.bind_eq_some_iff, Option.map_eq_some_iff] at hc
   obtain ⟨a, ha, v, hr, e'⟩ := hc
   cases e'
   obtain ⟨h1, h2⟩ := h x a ha
   obtain ⟨hrun, hv⟩ := typeAssert_ok (xt := xt) (w := w) h2 hr
   exact .same R ⟨by simp only [execOp, ho, h1]; exact run_v hrun, hv⟩
 ·rename_i t i ho
  simp only [Option.bind_eq_some_iff, Option.map_eq_some_iff] at hc
  obtain ⟨a, ha, v, hr, e'⟩ := hc
  cases e'
  obtain ⟨h1, h2⟩ := h t a ha
  obtain ⟨hrun, hv⟩ := extract_ok (P := P) (w := w) h2 hr
  exact .same R ⟨by simp only [execOp, ho, h1]; exact run_v hrun, hv⟩
 ·rename_i t x ho
  simp only [Option.bind_eq_some_iff, Option.map_eq_some_iff] at hc
  obtain ⟨a, ha, ⟨v, N1⟩, hr, e'⟩ := hc
  cases e'
  obtain ⟨h1, h2⟩ := h x a ha
  obtain ⟨E', w', R', X, hv, hrun⟩ := range_ok R h2 hr
  exact ⟨E', w', R', X, hv, by simp only [execOp, ho, h1]; exact run_v hrun⟩
 ·rename_i x b ho
  simp only [Option.bind_eq_some_iff, Option.map_eq_some_iff] at hc
  obtain ⟨a, ha, ⟨v, N1⟩, hr, e'⟩ := hc
  cases e'
  obtain ⟨h1, h2⟩ := h x a ha
  obtain ⟨w', R', X, hv, hrun⟩ := next_ok R o.type h2 hr
  exact ⟨E, w', R', X, hv, by simp only [execOp, ho, h1]; exact run_v hrun⟩
 ·rename_i t m k ho
  simp only [Option.bind_eq_some_iff, Option.map_eq_some_iff] at hc
  obtain ⟨a, ha, b, hb, ⟨v, N1⟩, hr, e'⟩ := hc
  cases e'
  obtain ⟨h1, h2⟩ := h m a ha
  obtain ⟨h3, _⟩ := h k b hb
  obtain ⟨w', R', X, hv, hrun⟩ := mapEntry_ok R h2 hr
  exact ⟨E, w', R', X, hv, by simp only [execOp, ho, h1, h3]; exact run_v hrun⟩
 ·rename_i t m s x ho
  simp only [Option.bind_eq_some_iff, Option.map_eq_some_iff] at hc
  obtain ⟨a, ha, b, hb, c, hcc, N1, hr, e'⟩ := hc
  cases e'
  obtain ⟨h1, h2⟩ := h m a ha
  obtain ⟨h3, _⟩ := h s b hb
  obtain ⟨h5, h6⟩ := h x c hcc
  obtain ⟨w', R', X, hrun⟩ := entryStore_ok (t := t) R h2 h6 hr
  exact ⟨E, w', R', X, trivial, by simp only [execOp, ho, h1, h3, h5]; exact run_u hrun⟩
 ·rename_i x ho
  simp only [Option.bind_eq_some_iff, Option.map_eq_some_iff] at hc
  obtain ⟨a, ha, v, hr, e'⟩ := hc
  cases e'
  obtain ⟨h1, h2⟩ := h x a ha
  obtain ⟨hrun, hv⟩ := entry_ok R h2 hr
  exact .same R ⟨by simp only [execOp, ho, h1]; exact run_v hrun, hv⟩
 ·rename_i c ho
  exact call_ok hP R h ho hc
 ·cases hc
end
end Go.Eng
namespace Go.Eng
noncomputable section
set_option linter.unusedSimpArgs false
set_option linter.unusedVariables false
def fat (b : Frame) (a : Act) (todo : List Item) : Frame :=
 { fn := b.fn, tmps := a.tmps, todo, defers := a.defers, mode := .run, kind := b.kind, roundOf := b.roundOf }
theorem fat_eval (b : Frame) (a : Act) (todo : List Item) : (fat b a todo).eval = a.eval := by funext x; cases x <;> rfl
section
variable {P : Program} {b : Frame} {a : Act} {k : List Item} {cs : List Frame} {w : World} {ops : Array Oper}
theorem fat_finish {i : Nat} {rest : List Nat} {o : Oper} (ho : ops[i]? = some o) (v : Value) :
  (fat b a (.inRegion ops (i :: rest) :: k)).finish v = fat b (a.put o.dst v) (.inRegion ops rest :: k) := by
 cases hd : o.dst <;> simp [fat, Frame.finish, ho, Act.put, hd]
end
section
variable {P : Program} {b : Frame} {a : Act} {k : List Item} {cs : List Frame} {w : World}
theorem fat_finish_range {l : Nat} (v : Value) : (fat b a (.inRangeFunc l :: k)).finish v = fat b a (.endRangeFunc l :: k) := rfl
end
end
end Go.Eng
