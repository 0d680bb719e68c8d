/-
  The engine, part Kb: regions that leave their order open: the plain doing, in the text's order, with what has to hold for all the orders to come to the same.
-/
import Derived.Test.YtbffppnnlkhnaaaEngKa
namespace Go.Eng
set_option linter.unusedSimpArgs false

/-- Kinds of operations: b sees no memory but what it lays itself; q writes nothing that was there before; w may. -/
inductive Kd where
  | b | q | w
  deriving DecidableEq
structure DS where
  a : CA
  N : CH
  kd : Kd
  v : Value

def evalOp (P : Program) (R : Rec) (ev : Ev) (o : Oper) (N : CH) : Option (Value × CH) :=
  match cop P ev o N with
  | some (.val v, N') => some (v, N')
  | some (.skip, N') => some (undef, N')
  | some (.enter f args, N') => R.call f args N'
  | some (.round l f tmps as bd, N') => R.round l f tmps as bd N'
  | none => none
def cevOn (ts : List Tmp) (a : CA) : Ev
  | .tmp t => if ts.contains t = true then some (a.tmps.getD t undef) else none
  | x => cev a x
def CH.blind (n : Nat) : CH := ⟨n, n, Tr.empty depth⟩
def CH.guarded (N : CH) : CH := ⟨N.sz, N.sz, N.t⟩
/-- The blocks that B has beyond N, laid in N too. -/
def merge : Nat → CH → CH → Option CH
  | 0, N, _ => some N
  | c + 1, N, B => match B.get N.sz with
    | some b => if N.sz < 2 ^ depth then merge c (N.push b) B else none
    | none => none
def cstep (P : Program) (R : Rec) (ops : Array Oper) (i : Nat) (a : CA) (N : CH) : Option (Kd × Value × CH) :=
  match ops[i]? with
  | none => none
  | some o =>
    if Region.wanted o (cyielded ops a.tmps) = true then
      match cop P (cevOn (o.looksAt ops) a) o (CH.blind N.sz) with
      | some (.val v, B) => (merge (B.sz - N.sz) N B).map fun N' => (.b, v, N')
      | _ => match evalOp P R (cevOn (o.looksAt ops) a) o N.guarded with
        | some (v, N') => some (.q, v, ⟨N'.sz, N.wm, N'.t⟩)
        | none => (evalOp P R (cevOn (o.looksAt ops) a) o N).map fun r => (.w, r.1, r.2)
    else some (.b, undef, N)
def dstOf (ops : Array Oper) (i : Nat) : Option Tmp := (ops[i]?).bind (·.dst)
def cruns (P : Program) (R : Rec) (ops : Array Oper) : Nat → Nat → CA → CH → Option (List DS × CA × CH)
  | 0, _, a, N => some ([], a, N)
  | m + 1, i, a, N => (cstep P R ops i a N).bind fun r => (cruns P R ops m (i + 1) (a.put (dstOf ops i) r.2.1) r.2.2).map fun x => (⟨a, N, r.1, r.2.1⟩ :: x.1, x.2)

def names (ops : Array Oper) (j : Nat) : List Tmp := match ops[j]? with
  | some o => o.dst.toList ++ o.looksAt ops
  | none => []
def veq : Value → Value → Bool
  | .bool a, .bool b => a == b
  | .int k a, .int l b => decide (k = l) && decide (a = b)
  | .string a, .string b => decide (a.data.toList = b.data.toList)
  | .pointer (some a), .pointer (some b) => decide (a.block = b.block) && decide (a.off = b.off) && decide (a.spot = b.spot)
  | .pointer none, .pointer none => true
  | .slice none l c, .slice none l' c' => decide (l = l') && decide (c = c')
  | .slice (some a) l c, .slice (some b) l' c' => decide (a.block = b.block) && decide (a.off = b.off) && decide (a.spot = b.spot) && decide (l = l') && decide (c = c')
  | .map a, .map b => decide (a = b)
  | .nilFunc, .nilFunc => true
  | .nilIface, .nilIface => true
  | _, _ => false
theorem veq_ok : ∀ {a b : Value}, veq a b = true → a = b := by
  intro a b h
  unfold veq at h
  split at h
  · simpa using h
  · simpa using h
  · rename_i a b
    have h : a.data.toList = b.data.toList := by simpa using h
    obtain ⟨⟨l⟩⟩ := a; obtain ⟨⟨l'⟩⟩ := b
    simp only at h
    rw [h]
  · rename_i a b
    obtain ⟨a1, a2, a3⟩ := a; obtain ⟨b1, b2, b3⟩ := b
    simp only [Bool.and_eq_true, decide_eq_true_eq] at h
    obtain ⟨⟨rfl, rfl⟩, rfl⟩ := h
    rfl
  · rfl
  · simp only [Bool.and_eq_true, decide_eq_true_eq] at h
    obtain ⟨rfl, rfl⟩ := h
    rfl
  · rename_i a l c b l' c'
    obtain ⟨a1, a2, a3⟩ := a; obtain ⟨b1, b2, b3⟩ := b
    simp only [Bool.and_eq_true, decide_eq_true_eq] at h
    obtain ⟨⟨⟨⟨rfl, rfl⟩, rfl⟩, rfl⟩, rfl⟩ := h
    rfl
  · rw [decide_eq_true_eq] at h; rw [h]
  · rfl
  · rfl
  · cases h

def bmOf (o : Oper) (bms : List Nat) : Nat := o.after.toList.foldl (fun s e => if Region.binds .any e = true then s ||| (2 ^ e.on ||| bms.getD e.on 0) else s) 0
def force (n : Nat) {α : Type} (k : Nat → α) : α := match n with | 0 => k 0 | m + 1 => k (m + 1)
theorem force_eq (n : Nat) {α : Type} (k : Nat → α) : force n k = k n := by cases n <;> rfl
def bmsGo : List Oper → List Nat → List Nat
  | [], acc => acc
  | o :: r, acc => force (bmOf o acc) fun n => bmsGo r (acc ++ [n])
/-- i is bound to be before j. -/
def bef (bms : List Nat) (i j : Nat) : Bool := (bms.getD j 0).testBit i
def meets (x : Option Tmp) (l : List Tmp) : Bool := match x with
  | some t => l.contains t
  | none => false
def lateEval (P : Program) (R : Rec) (ops : Array Oper) (s : DS) (i : Nat) (N : CH) : Bool :=
  match ops[i]? with
  | some o => Region.wanted o (cyielded ops s.a.tmps) && match evalOp P R (cevOn (o.looksAt ops) s.a) o N.guarded with
    | some (v, N') => veq v s.v && decide (N'.sz = N.sz)
    | none => false
  | none => false
def isW (l : List DS) (i : Nat) : Bool := match l[i]? with
  | some s => decide (s.kd = .w)
  | none => false
def pairOk (ops : Array Oper) (bms : List Nat) (l : List DS) (fin : DS) (i j : Nat) : Bool :=
  bef bms i j ||
    ((!meets (dstOf ops i) (names ops j) && !meets (dstOf ops j) (names ops i)) &&
     (!decide ((l.getD i fin).kd = .w) || decide ((l.getD j fin).kd = .b)) &&
     (!decide ((l.getD j fin).kd = .w) || !decide ((l.getD i fin).kd = .b) || decide ((l.getD i fin).N.sz = (l.getD (i + 1) fin).N.sz)))
def lateOk (P : Program) (R : Rec) (ops : Array Oper) (bms : List Nat) (l : List DS) (fin : DS) (n i : Nat) : Bool :=
  (List.range (n + 1)).all fun p => !decide (i < p) || (p != n && !isW l p) ||
    !((List.range p).any fun u => decide (i < u) && isW l u) ||
    ((List.range p).any fun u => decide (i < u) && isW l u && bef bms i u) ||
    (decide ((l.getD i fin).N.sz = (l.getD (i + 1) fin).N.sz) && lateEval P R ops (l.getD i fin) i (l.getD p fin).N)
def drawOk (P : Program) (R : Rec) (ops : Array Oper) (bms : List Nat) (l : List DS) (fin : DS) (n : Nat) : Bool :=
  ((List.range n).all fun j => (match ops[j]? with | some o => o.after.toList.all fun e => !Region.binds .any e || decide (e.on < j) | none => true)) &&
  ((List.range n).all fun j => (match ops[j]? with | some o => bms.getD j 0 == bmOf o bms | none => true)) &&
  ((List.range n).all fun j => (List.range j).all fun i => pairOk ops bms l fin i j) &&
  (!(l.any fun s => decide (s.kd = .w)) || (List.range n).all fun i => !decide ((l.getD i fin).kd = .q) || lateOk P R ops bms l fin n i)
def cdraw (P : Program) (R : Rec) (ops : Array Oper) (a : CA) (N : CH) : Option (CA × CH) :=
  match cruns P R ops ops.size 0 a N with
  | some (l, a', N') => if drawOk P R ops (bmsGo ops.toList []) l ⟨a', N', .b, undef⟩ ops.size = true then some (a', N') else none
  | none => none

end Go.Eng
