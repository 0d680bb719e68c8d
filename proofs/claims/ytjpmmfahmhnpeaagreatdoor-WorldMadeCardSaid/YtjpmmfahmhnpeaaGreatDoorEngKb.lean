/-
  The engine, part Kb: regions that leave their order open: the plain doing, in the text's order, with what has to hold for all the orders to come to the same.
-/
import Derived.Test.YtjpmmfahmhnpeaaGreatDoorEngKa
namespace Go.Eng
set_option linter.unusedSimpArgs false
set_option linter.unusedVariables false

/-- Kinds of operations: b sees no memory but what it lays itself; q writes nothing that was there before; w may. -/
inductive Kd where
  | b | q | w
  deriving DecidableEq
structure DS where
  a : CA
  N : CH
  kd : Kd
  v : Value

def evalOp (P : Program) (R : Rec) (ev : Ev) (o : Oper) (N : CH) : Option (Value × CH) :=
  match cop P ev o N with
  | some (.val v, N') => some (v, N')
  | some (.skip, N') => some (undef, N')
  | some (.enter f args, N') => R.call f args N'
  | some (.round l f tmps as bd, N') => R.round l f tmps as bd N'
  | none => none
def cevOn (ts : List Tmp) (a : CA) : Ev
  | .tmp t => if ts.contains t = true then some (a.tmps.getD t undef) else none
  | x => cev a x
def CH.blind (n : Nat) : CH := ⟨n, n, n, .e⟩
/-- From here on it is noted how far down blocks are written. -/
def CH.guarded (N : CH) : CH := ⟨N.sz, N.sz, N.base, N.t⟩
def CH.back (N G : CH) : CH := ⟨G.sz, if G.wm < N.wm then G.wm else N.wm, G.base, G.t⟩
/-- The blocks that B has beyond N, laid in N too. -/
def merge : Nat → CH → CH → Option CH
  | 0, N, _ => some N
  | c + 1, N, B => match B.get N.sz with
    | some b => if N.fits then merge c (N.push b) B else none
    | none => none
def cstep (P : Program) (R : Rec) (ops : Array Oper) (i : Nat) (a : CA) (N : CH) : Option (Kd × Value × CH) :=
  match ops[i]? with
  | none => none
  | some o =>
    if guardSeen ops a.tmps o = false then none else
    if Region.wanted o (cyielded ops a.tmps) = true then
      match cop P (cevOn (o.looksAt ops) a) o (CH.blind N.sz) with
      | some (.val v, B) => (merge (B.sz - N.sz) N B).map fun N' => (.b, v, N')
      | _ => match evalOp P R (cevOn (o.looksAt ops) a) o N.guarded with
        | some (v, G) => if N.sz ≤ G.wm then some (.q, v, ⟨G.sz, N.wm, G.base, G.t⟩) else some (.w, v, N.back G)
        | none => none
    else some (.b, undef, N)
def dstOf (ops : Array Oper) (i : Nat) : Option Tmp := (ops[i]?).bind (·.dst)
def cruns (P : Program) (R : Rec) (ops : Array Oper) : Nat → Nat → CA → CH → Option (List DS × CA × CH)
  | 0, _, a, N => some ([], a, N)
  | m + 1, i, a, N => (cstep P R ops i a N).bind fun r => (cruns P R ops m (i + 1) (a.put (dstOf ops i) r.2.1) r.2.2).map fun x => (⟨a, N, r.1, r.2.1⟩ :: x.1, x.2)

def names (ops : Array Oper) (j : Nat) : List Tmp := match ops[j]? with
  | some o => o.dst.toList ++ o.looksAt ops
  | none => []
mutual
def veq : Value → Value → Bool
  | .bool a, .bool b => a == b
  | .int k a, .int l b => decide (k = l) && decide (a = b)
  | .string a, .string b => decide (a.data.toList = b.data.toList)
  | .pointer (some a), .pointer (some b) => decide (a.block = b.block) && decide (a.off = b.off) && decide (a.spot = b.spot)
  | .pointer none, .pointer none => true
  | .slice none l c, .slice none l' c' => decide (l = l') && decide (c = c')
  | .slice (some a) l c, .slice (some b) l' c' => decide (a.block = b.block) && decide (a.off = b.off) && decide (a.spot = b.spot) && decide (l = l') && decide (c = c')
  | .map a, .map b => decide (a = b)
  | .chan (some a), .chan (some b) => decide (a = b)
  | .nilFunc, .nilFunc => true
  | .nilIface, .nilIface => true
  | .iface t a, .iface u b => decide (t = u) && veq a b
  | .agg ⟨a⟩, .agg ⟨b⟩ => veqL a b
  | .tuple ⟨a⟩, .tuple ⟨b⟩ => veqL a b
  | _, _ => false
def veqL : List Value → List Value → Bool
  | [], [] => true
  | a :: as, b :: bs => veq a b && veqL as bs
  | _, _ => false
end
theorem bytes_eq {a b : ByteArray} (h : a.data.toList = b.data.toList) : a = b := by
  obtain ⟨⟨l⟩⟩ := a; obtain ⟨⟨l'⟩⟩ := b
  simp only at h
  rw [h]
mutual
theorem veq_ok : ∀ {a b : Value}, veq a b = true → a = b
  | .bool a, b, h => by
    cases b with
    | bool b => simp only [veq, beq_iff_eq] at h; rw [h]
    | _ => simp [veq] at h
  | .int k a, b, h => by
    cases b with
    | int l b => simp only [veq, Bool.and_eq_true, decide_eq_true_eq] at h; rw [h.1, h.2]
    | _ => simp [veq] at h
  | .float _ _, b, h => by cases b <;> simp [veq] at h
  | .complex _ _ _, b, h => by cases b <;> simp [veq] at h
  | .string a, b, h => by
    cases b with
    | string b => simp only [veq, decide_eq_true_eq] at h; rw [bytes_eq h]
    | _ => simp [veq] at h
  | .pointer none, b, h => by
    cases b with
    | pointer b => cases b <;> simp [veq] at h ⊢
    | _ => simp [veq] at h
  | .pointer (some ⟨a1, a2, a3⟩), b, h => by
    cases b with
    | pointer b =>
      cases b with
      | none => simp [veq] at h
      | some b =>
        obtain ⟨b1, b2, b3⟩ := b
        simp only [veq, Bool.and_eq_true, decide_eq_true_eq] at h
        obtain ⟨⟨rfl, rfl⟩, rfl⟩ := h
        rfl
    | _ => simp [veq] at h
  | .slice none l c, b, h => by
    cases b with
    | slice b l' c' =>
      cases b with
      | none => simp only [veq, Bool.and_eq_true, decide_eq_true_eq] at h; rw [h.1, h.2]
      | some b => simp [veq] at h
    | _ => simp [veq] at h
  | .slice (some ⟨a1, a2, a3⟩) l c, b, h => by
    cases b with
    | slice b l' c' =>
      cases b with
      | none => simp [veq] at h
      | some b =>
        obtain ⟨b1, b2, b3⟩ := b
        simp only [veq, Bool.and_eq_true, decide_eq_true_eq] at h
        obtain ⟨⟨⟨⟨rfl, rfl⟩, rfl⟩, rfl⟩, rfl⟩ := h
        rfl
    | _ => simp [veq] at h
  | .map a, b, h => by
    cases b with
    | map b => simp only [veq, decide_eq_true_eq] at h; rw [h]
    | _ => simp [veq] at h
  | .chan none, b, h => by cases b <;> simp [veq] at h
  | .chan (some a), b, h => by
    cases b with
    | chan b =>
      cases b with
      | none => simp [veq] at h
      | some b => simp only [veq, decide_eq_true_eq] at h; rw [h]
    | _ => simp [veq] at h
  | .func _ _ _, b, h => by cases b <;> simp [veq] at h
  | .nilFunc, b, h => by cases b <;> simp [veq] at h ⊢
  | .iface t a, b, h => by
    cases b with
    | iface u b => simp only [veq, Bool.and_eq_true, decide_eq_true_eq] at h; rw [h.1, veq_ok h.2]
    | _ => simp [veq] at h
  | .nilIface, b, h => by cases b <;> simp [veq] at h ⊢
  | .agg ⟨a⟩, b, h => by
    cases b with
    | agg b => obtain ⟨b⟩ := b; simp only [veq] at h; rw [veqL_ok h]
    | _ => simp [veq] at h
  | .tuple ⟨a⟩, b, h => by
    cases b with
    | tuple b => obtain ⟨b⟩ := b; simp only [veq] at h; rw [veqL_ok h]
    | _ => simp [veq] at h
theorem veqL_ok : ∀ {a b : List Value}, veqL a b = true → a = b
  | [], [], _ => rfl
  | [], _ :: _, h => by simp [veqL] at h
  | _ :: _, [], h => by simp [veqL] at h
  | a :: as, b :: bs, h => by
    simp only [veqL, Bool.and_eq_true] at h
    rw [veq_ok h.1, veqL_ok h.2]
end

def bmOf (o : Oper) (bms : List Nat) : Nat := o.after.toList.foldl (fun s e => if Region.binds .any e = true then s ||| (2 ^ e.on ||| bms.getD e.on 0) else s) 0
def force (n : Nat) {α : Type} (k : Nat → α) : α := match n with | 0 => k 0 | m + 1 => k (m + 1)
theorem force_eq (n : Nat) {α : Type} (k : Nat → α) : force n k = k n := by cases n <;> rfl
def bmsGo : List Oper → List Nat → List Nat
  | [], acc => acc
  | o :: r, acc => force (bmOf o acc) fun n => bmsGo r (acc ++ [n])
/-- i is bound to be before j. -/
def bef (bms : List Nat) (i j : Nat) : Bool := (bms.getD j 0).testBit i
def meets (x : Option Tmp) (l : List Tmp) : Bool := match x with
  | some t => l.contains t
  | none => false
def lateEval (P : Program) (R : Rec) (ops : Array Oper) (s : DS) (i : Nat) (N : CH) : Bool :=
  match ops[i]? with
  | some o => guardSeen ops s.a.tmps o && Region.wanted o (cyielded ops s.a.tmps) && match evalOp P R (cevOn (o.looksAt ops) s.a) o N.guarded with
    | some (v, N') => veq v s.v && decide (N'.sz = N.sz) && decide (N.sz ≤ N'.wm)
    | none => false
  | none => false
def isW (l : List DS) (i : Nat) : Bool := match l[i]? with
  | some s => decide (s.kd = .w)
  | none => false
/-- The operations of kind w. -/
def wsOf (l : List DS) (n : Nat) : List Nat := (List.range n).filter fun i => isW l i
def lateOk (P : Program) (R : Rec) (ops : Array Oper) (bms ws : List Nat) (l : List DS) (fin : DS) (n i : Nat) : Bool :=
  (ws ++ [n]).all fun p => !decide (i < p) ||
    !(ws.any fun u => decide (i < u) && decide (u < p)) ||
    (ws.any fun u => decide (i < u) && decide (u < p) && bef bms i u) ||
    (decide ((l.getD i fin).N.sz = (l.getD (i + 1) fin).N.sz) && lateEval P R ops (l.getD i fin) i (l.getD p fin).N)
/-- What hangs on the text alone. -/
def edgesOk (ops : Array Oper) (bms : List Nat) (n : Nat) : Bool :=
  ((List.range n).all fun j => (match ops[j]? with | some o => o.after.toList.all fun e => !Region.binds .any e || decide (e.on < j) | none => true)) &&
  ((List.range n).all fun j => (match ops[j]? with | some o => bms.getD j 0 == bmOf o bms | none => true))
def namesOk (ops : Array Oper) (bms : List Nat) (n : Nat) : Bool :=
  (List.range n).all fun j => (List.range j).all fun i => bef bms i j || (!meets (dstOf ops i) (names ops j) && !meets (dstOf ops j) (names ops i))
def textOk (ops : Array Oper) : Bool := edgesOk ops (bmsGo ops.toList []) ops.size && namesOk ops (bmsGo ops.toList []) ops.size
/-- What hangs on the kinds: there is a pair to look at only where one of them may write. -/
def kindsOk (bms : List Nat) (l : List DS) (fin : DS) (i j : Nat) : Bool :=
  bef bms i j ||
    ((!decide ((l.getD i fin).kd = .w) || decide ((l.getD j fin).kd = .b)) &&
     (!decide ((l.getD j fin).kd = .w) || !decide ((l.getD i fin).kd = .b) || decide ((l.getD i fin).N.sz = (l.getD (i + 1) fin).N.sz)))
def pairsOk (bms ws : List Nat) (l : List DS) (fin : DS) (n : Nat) : Bool :=
  ws.all fun u => (List.range n).all fun j => if j < u then kindsOk bms l fin j u else if u < j then kindsOk bms l fin u j else true
def drawOk (P : Program) (R : Rec) (ops : Array Oper) (l : List DS) (fin : DS) : Bool :=
  textOk ops &&
  ((wsOf l ops.size).isEmpty ||
    (pairsOk (bmsGo ops.toList []) (wsOf l ops.size) l fin ops.size &&
     (List.range ops.size).all fun i => !decide ((l.getD i fin).kd = .q) || lateOk P R ops (bmsGo ops.toList []) (wsOf l ops.size) l fin ops.size i))
def cdraw (P : Program) (R : Rec) (ops : Array Oper) (a : CA) (N : CH) : Option (CA × CH) :=
  match cruns P R ops ops.size 0 a N with
  | some (l, a', N') => if drawOk P R ops l ⟨a', N', .b, undef⟩ = true then some (a', N') else none
  | none => none

end Go.Eng
