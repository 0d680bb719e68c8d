/-
  The engine, part N: single operations as the kernel is to do them: each in a small function of its own.
-/
import Derived.Test.YtjpmmfahmhnpeaaGreatDoorEngH
namespace Go.Eng
set_option linter.unusedSimpArgs false
set_option linter.unusedVariables false

def kret (N : CH) : Option Value → Option (CNx × CH)
  | some v => some (.val v, N)
  | none => none
def kret2 : Option (Value × CH) → Option (CNx × CH)
  | some (v, N) => some (.val v, N)
  | none => none
def kskip : Option CH → Option (CNx × CH)
  | some N => some (.skip, N)
  | none => none
theorem kret_eq (N : CH) (o : Option Value) : kret N o = o.map fun v => (.val v, N) := by cases o <;> rfl
theorem kret2_eq (o : Option (Value × CH)) : kret2 o = o.map fun r => (.val r.1, r.2) := by cases o <;> rfl
theorem kskip_eq (o : Option CH) : kskip o = o.map fun N => (.skip, N) := by cases o <;> rfl

/-- Whole numbers of one kind: the model's own answer, where that is quick. -/
def kint (op : BinOp) (k : IntKind) (a b : Int) : Option Value :=
  match op with
  | .add => some (.int k (k.wrap (a + b)))
  | .sub => some (.int k (k.wrap (a - b)))
  | .eql => some (.bool (a == b))
  | .neq => some (.bool (a != b))
  | .lss => some (.bool (decide (a < b)))
  | .leq => some (.bool (decide (a ≤ b)))
  | .gtr => some (.bool (decide (a > b)))
  | .geq => some (.bool (decide (a ≥ b)))
  | _ => none
def kbin (op : BinOp) (x y : Option Value) : Option Value :=
  match x, y with
  | some (.int k a), some (.int l b) => if k = l then kint op k a b else none
  | _, _ => none
theorem kbin_ok {P : Program} {ev : Ev} {o : Oper} {op : BinOp} {t yt : TypeId} {x y : Operand} {v : Value} (ho : o.op = .binOp op t x y yt) (h : kbin op (ev x) (ev y) = some v) : cpure P ev o = some v := by
  unfold kbin at h
  split at h
  · rename_i k a l b hx hy
    split at h
    · rename_i hk
      subst hk
      have hall : o.op.operands.all (okPlain ev) = true := by
        rw [ho]
        simp [Op.operands, okPlain, hx, hy, plain]
      have hpl : plain v = true := by
        unfold kint at h
        split at h <;> cases h <;> rfl
      have hrun : pureRun P (execOp (fun x => (ev x).getD undef) o) = some (.value v) := by
        simp only [execOp, ho, hx, hy, Option.getD_some]
        unfold kint at h
        split at h <;> cases h <;> simp [eqGuard, binOp, Op.intArith, Op.intCmp, pureRun, Sem.bind, bind, pure] <;> rfl
      unfold cpure
      rw [if_pos hall, hrun]
      simp only
      rw [if_pos hpl]
    · cases h
  · cases h

section
variable (P : Program) (ev : Ev) (o : Oper) (N : CH)
def kpick (c a b : Operand) : Option (CNx × CH) := match ev c with
  | some (.bool true) => kret N (ev a)
  | some (.bool false) => kret N (ev b)
  | _ => none
def kbox (e : TypeId) (x : Operand) : Option (CNx × CH) := match ev x with
  | some v => kret2 (cbox e v N)
  | none => none
def kbuild (t : TypeId) (parts : Array (Nat × Operand)) : Option (CNx × CH) := match evP ev parts.toList with
  | some ps => kret N (cbuild P t ps)
  | none => none
def kbuildSlice (t : TypeId) (n : Nat) (parts : Array (Nat × Operand)) : Option (CNx × CH) := match evP ev parts.toList with
  | some ps => kret2 (cbuildSlice P t n ps N)
  | none => none
def kload (t : TypeId) (a : Operand) : Option (CNx × CH) := match ev a with
  | some a => kret N (cload P t a N)
  | none => none
def kstore (t : TypeId) (a x : Operand) : Option (CNx × CH) := match ev a with
  | some a => match ev x with
    | some x => kskip (cstore P t a x N)
    | none => none
  | none => none
def knil (x : Operand) : Option (CNx × CH) := match ev x with
  | some v => kret N (cnilCheck v)
  | none => none
def kbinOp (op : BinOp) (t : TypeId) (x y : Operand) : Option (CNx × CH) := match kbin op (ev x) (ev y) with
  | some v => some (.val v, N)
  | none => match cpure P ev o with
    | some v => some (.val v, N)
    | none => match op, ev x, ev y with
      | .eql, some a, some b => (ceq P t a b).map fun r => (.val (.bool r), N)
      | .neq, some a, some b => (ceq P t a b).map fun r => (.val (.bool (!r)), N)
      | _, _, _ => none
def kpure : Option (CNx × CH) := kret N (cpure P ev o)
def kfieldAddr (t : TypeId) (x : Operand) (i : Nat) : Option (CNx × CH) := match ev x with
  | some x => kret N (cfieldAddr P t x i)
  | none => none
def kfield (t : TypeId) (x : Operand) (i : Nat) : Option (CNx × CH) := match ev x with
  | some x => kret N (cfield P t x i)
  | none => none
def kindexAddr (t : TypeId) (x i : Operand) : Option (CNx × CH) := match ev x with
  | some x => match ev i with
    | some i => kret N (cindexAddr P t x i)
    | none => none
  | none => none
def kmap (t : TypeId) (m k x : Operand) : Option (CNx × CH) := match ev m with
  | some m => match ev k with
    | some k => match ev x with
      | some x => kskip (cmapUpdate P t m k x N)
      | none => none
    | none => none
  | none => none
def kextract (t : Operand) (i : Nat) : Option (CNx × CH) := match ev t with
  | some t => kret N (cextract t i)
  | none => none
def kcall (c : Call) : Option (CNx × CH) := ccall P ev o c N
def krest : Option (CNx × CH) := cop P ev o N
/-- One operation. -/
def kop : Option (CNx × CH) :=
  match o.op with
  | .move x => kret N (ev x)
  | .assign x => kret N (ev x)
  | .pick c a b => kpick ev N c a b
  | .alloc e => kret2 (calloc P e N)
  | .box e x => kbox ev N e x
  | .build t parts => kbuild P ev N t parts
  | .buildSlice t n parts => kbuildSlice P ev N t n parts
  | .load t a => kload P ev N t a
  | .store t a x => kstore P ev N t a x
  | .nilCheck x => knil ev N x
  | .binOp op t x y _ => kbinOp P ev o N op t x y
  | .unOp _ _ _ => kpure P ev o N
  | .fieldAddr t x i => kfieldAddr P ev N t x i
  | .field t x i => kfield P ev N t x i
  | .indexAddr t x i => kindexAddr P ev N t x i
  | .insert t m k x => kmap P ev N t m k x
  | .mapUpdate t m k x => kmap P ev N t m k x
  | .extract t i => kextract ev N t i
  | .call c => kcall P ev o N c
  | _ => krest P ev o N
end
theorem kop_eq (P : Program) (ev : Ev) (o : Oper) (N : CH) : kop P ev o N = cop P ev o N := by
  unfold kop
  split
  · rename_i x ho; unfold cop; simp only [ho, kret_eq]
  · rename_i x ho; unfold cop; simp only [ho, kret_eq]
  · rename_i c a b ho; unfold cop kpick; simp only [ho, kret_eq]; cases ev c with
    | none => rfl
    | some v => cases v with
      | bool b => cases b <;> rfl
      | _ => rfl
  · rename_i e ho; unfold cop; simp only [ho, kret2_eq]
  · rename_i e x ho; unfold cop kbox; simp only [ho, kret2_eq]; cases ev x <;> rfl
  · rename_i t parts ho; unfold cop kbuild; simp only [ho, kret_eq]; cases evP ev parts.toList <;> rfl
  · rename_i t n parts ho; unfold cop kbuildSlice; simp only [ho, kret2_eq]; cases evP ev parts.toList <;> rfl
  · rename_i t a ho; unfold cop kload; simp only [ho, kret_eq]; cases ev a <;> rfl
  · rename_i t a x ho; unfold cop kstore; simp only [ho, kskip_eq]; cases ev a with
    | none => rfl
    | some v => cases ev x <;> rfl
  · rename_i x ho; unfold cop knil; simp only [ho, kret_eq]; cases ev x <;> rfl
  · rename_i op t x y yt ho
    unfold cop kbinOp
    simp only [ho]
    cases hk : kbin op (ev x) (ev y) with
    | none => rfl
    | some v => simp only [kbin_ok (P := P) ho hk]
  · rename_i a b c ho; unfold cop kpure; simp only [ho, kret_eq]
  · rename_i t x i ho; unfold cop kfieldAddr; simp only [ho, kret_eq]; cases ev x <;> rfl
  · rename_i t x i ho; unfold cop kfield; simp only [ho, kret_eq]; cases ev x <;> rfl
  · rename_i t x i ho; unfold cop kindexAddr; simp only [ho, kret_eq]; cases ev x with
    | none => rfl
    | some v => cases ev i <;> rfl
  · rename_i t m k x ho; unfold cop kmap; simp only [ho, kskip_eq]; cases ev m with
    | none => rfl
    | some v => cases ev k with
      | none => rfl
      | some u => cases ev x <;> rfl
  · rename_i t m k x ho; unfold cop kmap; simp only [ho, kskip_eq]; cases ev m with
    | none => rfl
    | some v => cases ev k with
      | none => rfl
      | some u => cases ev x <;> rfl
  · rename_i t i ho; unfold cop kextract; simp only [ho, kret_eq]; cases ev t <;> rfl
  · rename_i c ho; unfold cop kcall; simp only [ho]
  · rfl
end Go.Eng
