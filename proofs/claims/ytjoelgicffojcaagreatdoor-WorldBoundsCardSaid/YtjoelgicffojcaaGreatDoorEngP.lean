/-
  The engine, part M: the same doing with the temporaries in a tree and the operations taken one behind the other: what the kernel is to run.
-/
import Derived.Test.YtjoelgicffojcaaGreatDoorEngN
set_option linter.unusedSectionVars false
set_option linter.unusedSimpArgs false
set_option linter.unusedVariables false
namespace Go.Eng
noncomputable section
set_option linter.unusedSimpArgs false
set_option linter.unusedVariables false
set_option linter.unusedSectionVars false
theorem Tr.get_none {α : Type} {t : Tr α} : ∀ {n : Nat}, t.Full n → ∀ k, n ≤ k → t.get k = none := by
 induction t with
 | e => intro n _ k _; rfl
 | nd v l r hl hr =>
  intro n hf k hk
  obtain ⟨m, rfl, h1, h2⟩ := hf
  cases k with
  | zero => omega
  | succ k =>
   rw [Tr.get_succ]
   split
   ·exact hl h1 _ (by omega)
   ·exact hr h2 _ (by omega)
def Tr.skel {α : Type} : Nat → Nat → Tr α
 | 0, _ => .e
 | f + 1, n => match n with
  | 0 => .e
  | m + 1 => .nd none (Tr.skel f (Nat.div (m + 1) 2)) (Tr.skel f (Nat.div m 2))
theorem Tr.full_skel {α : Type} : ∀ (f n : Nat), n ≤ f → (Tr.skel f n : Tr α).Full n
 | 0, n, h => by
  have : n = 0 := by omega
  subst this
  rfl
 | f + 1, 0, h => rfl
 | f + 1, m + 1, h => ⟨m, rfl, Tr.full_skel f ((m + 1) / 2) (by omega), Tr.full_skel f (m / 2) (by omega)⟩
theorem Tr.get_skel {α : Type} : ∀ (f n k : Nat), (Tr.skel f n : Tr α).get k = none
 | 0, _, _ => rfl
 | f + 1, 0, _ => rfl
 | f + 1, m + 1, 0 => rfl
 | f + 1, m + 1, k + 1 => by
  show (Tr.nd none (Tr.skel f ((m + 1) / 2)) (Tr.skel f (m / 2)) : Tr α).get (k + 1) = none
  rw [Tr.get_succ]
  split <;> exact Tr.get_skel f _ _
def Tr.tab {α : Type} : Nat → Nat → (Nat → α) → Tr α
 | 0, _, _ => .e
 | f + 1, n, g => match n with
  | 0 => .e
  | m + 1 => .nd (some (g 0)) (Tr.tab f (Nat.div (m + 1) 2) fun k => g (2 * k + 1)) (Tr.tab f (Nat.div m 2) fun k => g (2 * k + 2))
theorem Tr.full_tab {α : Type} : ∀ (f n : Nat) (g : Nat → α), n ≤ f → (Tr.tab f n g).Full n
 | 0, n, g, h => by
  have : n = 0 := by omega
  subst this
  rfl
 | f + 1, 0, g, h => rfl
 | f + 1, m + 1, g, h => ⟨m, rfl, Tr.full_tab f ((m + 1) / 2) _ (by omega), Tr.full_tab f (m / 2) _ (by omega)⟩
theorem Tr.get_tab {α : Type} : ∀ (f n : Nat) (g : Nat → α), n ≤ f → ∀ k, k < n → (Tr.tab f n g).get k = some (g k)
 | 0, n, g, h, k, hk => by omega
 | f + 1, 0, g, h, k, hk => by omega
 | f + 1, m + 1, g, h, 0, hk => rfl
 | f + 1, m + 1, g, h, k + 1, hk => by
  show (Tr.nd (some (g 0)) (Tr.tab f ((m + 1) / 2) fun k => g (2 * k + 1)) (Tr.tab f (m / 2) fun k => g (2 * k + 2))).get (k + 1) = _
  rw [Tr.get_succ]
  split
  ·rw [Tr.get_tab f _ _ (by omega) _ (by omega)]
   congr 2
   omega
  ·rw [Tr.get_tab f _ _ (by omega) _ (by omega)]
   congr 2
   omega
structure FA where
 n : Nat
 t : Tr Value
 dm : List DM
def FA.get : FA → Nat → Value
 | ⟨_, t, _⟩, k => match t.get k with
  | some v => v
  | none => undef
def FA.abs (a : FA) : CA := ⟨(List.range a.n).map a.get, a.dm⟩
def FA.Ok (a : FA) : Prop := a.t.Full a.n
def FA.put : FA → Option Tmp → Value → FA
 | a, none, _ => a
 | ⟨n, t, dm⟩, some d, v => if d < n then ⟨n, t.set d v, dm⟩ else ⟨n, t, dm⟩
def FA.get? (a : FA) (k : Nat) : Option Value := if k < a.n then some (a.get k) else none
theorem FA.get_abs (a : FA) (k : Nat) : a.abs.tmps[k]? = a.get? k := by
 unfold FA.abs FA.get?
 rw [List.getElem?_map]
 by_cases h : k < a.n
 ·rw [List.getElem?_range h, if_pos h]; rfl
 ·rw [List.getElem?_eq_none (by simp; omega), if_neg h]; rfl
theorem FA.get_def (a : FA) (k : Nat) : a.get k = (a.t.get k).getD undef := by
 obtain ⟨n, t, dm⟩ := a
 show (match t.get k with | some v => v | none => undef) = _
 cases t.get k <;> rfl
theorem FA.getD_abs {a : FA} (h : a.Ok) (k : Nat) : a.abs.tmps.getD k undef = a.get k := by
 rw [List.getD_eq_getElem?_getD, FA.get_abs]
 unfold FA.get?
 split
 ·rfl
 ·rename_i hk
  have hn := Tr.get_none h k (Nat.le_of_not_lt hk)
  rw [FA.get_def, hn]
theorem FA.put_ok {a : FA} (h : a.Ok) (dst : Option Tmp) (v : Value) : (a.put dst v).Ok ∧ (a.put dst v).abs = a.abs.put dst v := by
 cases dst with
 | none => exact ⟨h, rfl⟩
 | some d =>
  obtain ⟨n, t, dm⟩ := a
  have hf : t.Full n := h
  show (if d < n then (⟨n, t.set d v, dm⟩ : FA) else ⟨n, t, dm⟩).Ok ∧ (if d < n then (⟨n, t.set d v, dm⟩ : FA) else ⟨n, t, dm⟩).abs = _
  by_cases hd : d < n
  ·rw [if_pos hd]
   refine ⟨Tr.full_set hf d v hd, ?_⟩
   simp only [FA.abs, CA.put]
   congr 1
   apply List.ext_getElem?
   intro k
   by_cases hk : k < n
   ·rw [List.getElem?_map, List.getElem?_range hk, Option.map_some, FA.get_def]
    by_cases e : d = k
    ·subst e
     rw [List.getElem?_set_self (by simpa using hk)]
     simp only
     rw [Tr.get_set hf d d (Nat.le_of_lt hd), if_pos rfl]
     rfl
    ·rw [List.getElem?_set_ne e, List.getElem?_map, List.getElem?_range hk, Option.map_some, FA.get_def]
     simp only
     rw [Tr.get_set hf d k (Nat.le_of_lt hd), if_neg (Ne.symm e)]
   ·have hk' : n ≤ k := Nat.le_of_not_lt hk
    rw [List.getElem?_eq_none (by simpa using hk'), List.getElem?_eq_none (by simpa using hk')]
  ·rw [if_neg hd]
   refine ⟨h, ?_⟩
   simp only [FA.abs, CA.put]
   congr 1
   rw [List.set_eq_of_length_le (by simpa using Nat.le_of_not_lt hd)]
def setL : List Value → Nat → Tr Value → Tr Value
 | [], _, t => t
 | v :: r, i, t => setL r (i + 1) (t.set i v)
theorem setL_ok : ∀ (l : List Value) (i n : Nat) (t : Tr Value), t.Full n → i + l.length ≤ n → (setL l i t).Full n ∧ ∀ k, (setL l i t).get k = if i ≤ k ∧ k < i + l.length then l[k - i]? else t.get k
 | [], i, n, t, hf, h => ⟨hf, fun k => by rw [if_neg (by simp only [List.length_nil]; omega)]; rfl⟩
 | v :: r, i, n, t, hf, h => by
  simp only [List.length_cons] at h
  obtain ⟨h1, h2⟩ := setL_ok r (i + 1) n (t.set i v) (Tr.full_set hf i v (by omega)) (by omega)
  refine ⟨h1, fun k => ?_⟩
  show (setL r (i + 1) (t.set i v)).get k = _
  rw [h2 k]
  simp only [List.length_cons]
  by_cases hk : i + 1 ≤ k ∧ k < i + 1 + r.length
  ·rw [if_pos hk, if_pos (by omega), show k - i = (k - (i + 1)) + 1 by omega, List.getElem?_cons_succ]
  ·rw [if_neg hk, Tr.get_set hf i k (by omega)]
   by_cases e : k = i
   ·subst e
    rw [if_pos rfl, if_pos (by omega)]
    simp
   ·rw [if_neg e, if_neg (by omega)]
def FA.init (n : Nat) (args : List Value) : FA := ⟨n, setL args 0 (Tr.skel n n), []⟩
theorem FA.init_ok {n : Nat} {args : List Value} (h : args.length ≤ n) : (FA.init n args).Ok ∧ (FA.init n args).abs = ⟨args ++ List.replicate (n - args.length) undef, []⟩ := by
 obtain ⟨h1, h2⟩ := setL_ok args 0 n (Tr.skel n n) (Tr.full_skel n n (Nat.le_refl _)) (by omega)
 refine ⟨h1, ?_⟩
 simp only [FA.abs, FA.init]
 congr 1
 apply List.ext_getElem?
 intro k
 by_cases hk : k < n
 ·rw [List.getElem?_map, List.getElem?_range hk, Option.map_some, FA.get_def]
  simp only
  rw [h2 k, Tr.get_skel]
  by_cases ha : k < args.length
  ·rw [if_pos (by omega), List.getElem?_append_left ha]
   simp [ha]
  ·rw [if_neg (by omega), List.getElem?_append_right (by omega), List.getElem?_replicate, if_pos (by omega)]
   rfl
 ·rw [List.getElem?_eq_none (by simp; omega), List.getElem?_eq_none (by simp; omega)]
def FA.ofList (l : List Value) : FA := ⟨l.length, Tr.tab l.length l.length fun k => l.getD k undef, []⟩
theorem FA.ofList_ok (l : List Value) : (FA.ofList l).Ok ∧ (FA.ofList l).abs = ⟨l, []⟩ := by
 refine ⟨Tr.full_tab _ _ _ (Nat.le_refl _), ?_⟩
 simp only [FA.abs, FA.ofList]
 congr 1
 apply List.ext_getElem?
 intro k
 by_cases hk : k < l.length
 ·rw [List.getElem?_map, List.getElem?_range hk, Option.map_some, FA.get_def]
  simp only
  rw [Tr.get_tab _ _ _ (Nat.le_refl _) k hk]
  simp [hk]
 ·rw [List.getElem?_eq_none (by simp; omega), List.getElem?_eq_none (by omega)]
def fev (a : FA) : Ev
 | .tmp t => some (a.get t)
 | .const v => if plain v = true then some v else none
 | .func f => some (.func (.func f) #[] #[])
 | .global g => if g < LIM then some (.pointer (some ⟨g, 0, none⟩)) else none
theorem fev_eq {a : FA} (h : a.Ok) : fev a = cev a.abs := by
 funext x
 cases x with
 | tmp t => show some (a.get t) = some (a.abs.tmps.getD t undef); rw [FA.getD_abs h]
 | _ => rfl
def fevOn (ts : List Tmp) (a : FA) : Ev
 | .tmp t => if ts.contains t = true then some (a.get t) else none
 | x => fev a x
theorem fevOn_eq {a : FA} (h : a.Ok) (ts : List Tmp) : fevOn ts a = cevOn ts a.abs := by
 funext x
 cases x with
 | tmp t => show (if ts.contains t = true then some (a.get t) else none) = (if ts.contains t = true then some (a.abs.tmps.getD t undef) else none); rw [FA.getD_abs h]
 | const v => rfl
 | global g => rfl
 | func f => rfl
def fyielded (ops : Array Oper) (a : FA) (j : Nat) : Option Bool :=
 match ((ops[j]?).bind (·.dst)).bind a.get? with
 | some (.bool b) => some b
 | _ => none
theorem fyielded_eq (ops : Array Oper) (a : FA) : fyielded ops a = cyielded ops a.abs.tmps := by
 funext j
 unfold fyielded cyielded
 have : (fun x : Nat => a.abs.tmps[x]?) = a.get? := by funext x; exact FA.get_abs a x
 rw [this]
 cases ((ops[j]?).bind (·.dst)).bind a.get? with
 | none => rfl
 | some v => cases v <;> rfl
def fguardSeen (ops : Array Oper) (a : FA) (o : Oper) : Bool :=
 match o.guard with
 | none => true
 | some (g, _) => match ((ops[g]?).bind (·.dst)).bind a.get? with
  | some (.chan (some _)) => false
  | _ => true
theorem fguardSeen_eq (ops : Array Oper) (a : FA) (o : Oper) : fguardSeen ops a o = guardSeen ops a.abs.tmps o := by
 unfold fguardSeen guardSeen
 have : (fun x : Nat => a.abs.tmps[x]?) = a.get? := by funext x; exact FA.get_abs a x
 rw [this]
 cases o.guard with
 | none => rfl
 | some gw =>
  obtain ⟨g, want⟩ := gw
  simp only
  cases ((ops[g]?).bind (·.dst)).bind a.get? with
  | none => rfl
  | some v =>
   cases v with
   | chan r => cases r <;> rfl
   | _ => rfl
structure Rec.Le (A B : Rec) : Prop where
 call : ∀ f args N r, A.call f args N = some r → B.call f args N = some r
 round : ∀ l f tmps as bd N r, A.round l f tmps as bd N = some r → B.round l f tmps as bd N = some r
theorem evalOp_le {P : Program} {A B : Rec} (h : A.Le B) {ev : Ev} {o : Oper} {N : CH} {r : Value × CH} (hr : evalOp P A ev o N = some r) : evalOp P B ev o N = some r := by
 unfold evalOp at hr ⊢
 split at hr <;> first | exact hr | exact h.call _ _ _ _ hr | exact h.round _ _ _ _ _ _ _ hr | cases hr
def fgo (P : Program) (R : Rec) (ar : Option Nat) (o : Oper) (a : FA) (N : CH) : Option (FA × CH) :=
 match kop P (fev a) o N with
 | some (.val v, N') => some (a.put o.dst v, N')
 | some (.skip, N') => some (a.put o.dst undef, N')
 | some (.enter f args, N') => match R.call f args N' with
  | some (v, N2) => some (a.put o.dst v, N2)
  | none => none
 | some (.round l f tmps as bd, N') => match R.round l f tmps as bd N' with
  | some (v, N2) => some (a.put o.dst v, N2)
  | none => none
 | none => match ar with
  | some _ => none
  | none => match cdefer (fev a) o with
   | some d => some ({ a.put o.dst undef with dm := d :: a.dm }, N)
   | none => if crecover o = true then some (a.put o.dst .nilIface, N) else none
def fopStep (P : Program) (R : Rec) (ops : Array Oper) (ar : Option Nat) (o : Oper) (a : FA) (N : CH) : Option (FA × CH) :=
 match o.guard with
 | none => fgo P R ar o a N
 | some _ => if fguardSeen ops a o = true then if Region.wanted o (fyielded ops a) = true then fgo P R ar o a N else some (a.put o.dst undef, N) else none
def fopList (P : Program) (R : Rec) (ops : Array Oper) (ar : Option Nat) : List Oper → FA → CH → Option (FA × CH)
 | [], a, N => some (a, N)
 | o :: r, a, N => match fopStep P R ops ar o a N with
  | some (a', N') => fopList P R ops ar r a' N'
  | none => none
theorem fopStep_ok {P : Program} {A B : Rec} (h : A.Le B) {ops : Array Oper} {ar : Option Nat} {i : Nat} {o : Oper} (ho : ops[i]? = some o) {a a' : FA} {N N' : CH} (ha : a.Ok) (hs : fopStep P A ops ar o a N = some (a', N')) :
  opStep P B ops ar i a.abs N = some (a'.abs, N') ∧ a'.Ok := by
 have hgo : ∀ a' N', fgo P A ar o a N = some (a', N') → (match cop P (cev a.abs) o N with
   | some (.val v, N') => some (a.abs.put o.dst v, N')
   | some (.skip, N') => some (a.abs.put o.dst undef, N')
   | some (.enter f args, N') => (B.call f args N').map fun r => (a.abs.put o.dst r.1, r.2)
   | some (.round l f tmps as bd, N') => (B.round l f tmps as bd N').map fun r => (a.abs.put o.dst r.1, r.2)
   | none => if ar.isSome = true then none else match cdefer (cev a.abs) o with
    | some d => some ({ a.abs.put o.dst undef with dm := d :: a.abs.dm }, N)
    | none => if crecover o = true then some (a.abs.put o.dst .nilIface, N) else none) = some (a'.abs, N') ∧ a'.Ok := by
  intro a' N' hg
  unfold fgo at hg
  rw [kop_eq, fev_eq ha] at hg
  have hp : ∀ v, (a.put o.dst v).Ok ∧ (a.put o.dst v).abs = a.abs.put o.dst v := fun v => FA.put_ok ha o.dst v
  cases hc : cop P (cev a.abs) o N with
  | none =>
   simp only [hc] at hg
   cases ar with
   | some l => cases hg
   | none =>
    simp only at hg
    cases hd : cdefer (cev a.abs) o with
    | some d =>
     simp only [hd, Option.some.injEq, Prod.mk.injEq] at hg
     obtain ⟨rfl, rfl⟩ := hg
     refine ⟨?_, (hp undef).1⟩
     have e1 : ({ a.put o.dst undef with dm := d :: a.dm } : FA).abs = { a.abs.put o.dst undef with dm := d :: a.abs.dm } := by
      rw [← (hp undef).2]
      rfl
     rw [e1]
     simp
    | none =>
     simp only [hd] at hg
     split at hg
     ·rename_i hre
      simp only [Option.some.injEq, Prod.mk.injEq] at hg
      obtain ⟨rfl, rfl⟩ := hg
      exact ⟨by rw [(hp _).2]; simp [hre], (hp _).1⟩
     ·cases hg
  | some r =>
   obtain ⟨nx, N1⟩ := r
   cases nx with
   | val v =>
    simp only [hc, Option.some.injEq, Prod.mk.injEq] at hg
    obtain ⟨rfl, rfl⟩ := hg
    exact ⟨by rw [(hp _).2], (hp _).1⟩
   | skip =>
    simp only [hc, Option.some.injEq, Prod.mk.injEq] at hg
    obtain ⟨rfl, rfl⟩ := hg
    exact ⟨by rw [(hp _).2], (hp _).1⟩
   | enter f args =>
    simp only [hc] at hg
    split at hg
    ·rename_i v N2 hr
     simp only [Option.some.injEq, Prod.mk.injEq] at hg
     obtain ⟨rfl, rfl⟩ := hg
     exact ⟨by simp only [h.call _ _ _ _ hr, (hp _).2]; rfl, (hp _).1⟩
    ·cases hg
   | round l f tmps as bd =>
    simp only [hc] at hg
    split at hg
    ·rename_i v N2 hr
     simp only [Option.some.injEq, Prod.mk.injEq] at hg
     obtain ⟨rfl, rfl⟩ := hg
     exact ⟨by simp only [h.round _ _ _ _ _ _ _ hr, (hp _).2]; rfl, (hp _).1⟩
    ·cases hg
 unfold opStep
 simp only [ho]
 unfold fopStep at hs
 split at hs
 ·rename_i hgu
  have h1 : guardSeen ops a.abs.tmps o = true := by simp [guardSeen, hgu]
  have h2 : Region.wanted o (cyielded ops a.abs.tmps) = true := by simp [Region.wanted, hgu]
  rw [if_neg (by rw [h1]; simp), if_pos h2]
  exact hgo _ _ hs
 ·split at hs
  ·rename_i hgs
   rw [fguardSeen_eq] at hgs
   rw [if_neg (by rw [hgs]; simp)]
   rw [fyielded_eq] at hs
   split at hs
   ·rename_i hw
    rw [if_pos hw]
    exact hgo _ _ hs
   ·rename_i hw
    rw [if_neg hw]
    simp only [Option.some.injEq, Prod.mk.injEq] at hs
    obtain ⟨rfl, rfl⟩ := hs
    obtain ⟨h3, h4⟩ := FA.put_ok ha o.dst undef
    exact ⟨by rw [h4], h3⟩
  ·cases hs
theorem fopList_ok {P : Program} {A B : Rec} (h : A.Le B) {ops : Array Oper} {ar : Option Nat} : ∀ (l : List Oper) (i : Nat), (∀ j o, l[j]? = some o → ops[i + j]? = some o) → ∀ {a a' : FA} {N N' : CH}, a.Ok →
  fopList P A ops ar l a N = some (a', N') → opList P B ops ar (List.range' i l.length) a.abs N = some (a'.abs, N') ∧ a'.Ok
 | [], i, _, a, a', N, N', ha, hs => by
  simp only [fopList, Option.some.injEq, Prod.mk.injEq] at hs
  obtain ⟨rfl, rfl⟩ := hs
  exact ⟨rfl, ha⟩
 | o :: r, i, hl, a, a', N, N', ha, hs => by
  simp only [fopList] at hs
  split at hs
  ·rename_i a1 N1 h1
   obtain ⟨h2, h3⟩ := fopStep_ok h (i := i) (by simpa using hl 0 o rfl) ha h1
   obtain ⟨h4, h5⟩ := fopList_ok h r (i + 1) (fun j o' hj => by
    have := hl (j + 1) o' (by simpa using hj)
    rwa [show i + (j + 1) = i + 1 + j by omega] at this) h3 hs
   refine ⟨?_, h5⟩
   simp only [List.length_cons, List.range'_succ, opList, h2, Option.bind_some]
   exact h4
  ·cases hs
def kevalOp (P : Program) (R : Rec) (ev : Ev) (o : Oper) (N : CH) : Option (Value × CH) :=
 match kop P ev o N with
 | some (.val v, N') => some (v, N')
 | some (.skip, N') => some (undef, N')
 | some (.enter f args, N') => R.call f args N'
 | some (.round l f tmps as bd, N') => R.round l f tmps as bd N'
 | none => none
theorem kevalOp_eq (P : Program) (R : Rec) (ev : Ev) (o : Oper) (N : CH) : kevalOp P R ev o N = evalOp P R ev o N := by unfold kevalOp evalOp; rw [kop_eq]; rfl
structure FDS where
 a : FA
 N : CH
 kd : Kd
 v : Value
def FDS.ds (s : FDS) : DS := ⟨s.a.abs, s.N, s.kd, s.v⟩
def fcstep (P : Program) (R : Rec) (ops : Array Oper) (o : Oper) (a : FA) (N : CH) : Option (Kd × Value × CH) :=
 if fguardSeen ops a o = true then
  if Region.wanted o (fyielded ops a) = true then
   match kop P (fevOn (o.looksAt ops) a) o (CH.blind N.sz) with
   | some (.val v, B) => match merge (B.sz - N.sz) N B with
    | some N' => some (.b, v, N')
    | none => none
   | _ => match kevalOp P R (fevOn (o.looksAt ops) a) o N.guarded with
    | some (v, G) => if N.sz ≤ G.wm then some (.q, v, ⟨G.sz, N.wm, G.base, G.t⟩) else some (.w, v, N.back G)
    | none => none
  else some (.b, undef, N)
 else none
def fcruns (P : Program) (R : Rec) (ops : Array Oper) : List Oper → FA → CH → Option (List FDS × FA × CH)
 | [], a, N => some ([], a, N)
 | o :: r, a, N => match fcstep P R ops o a N with
  | some (kd, v, N1) => match fcruns P R ops r (a.put o.dst v) N1 with
   | some (l, x) => some (⟨a, N, kd, v⟩ :: l, x)
   | none => none
  | none => none
def fcdraw (P : Program) (R : Rec) (ops : Array Oper) (a : FA) (N : CH) : Option (FA × CH) :=
 match fcruns P R ops ops.toList a N with
 | some (l, a', N') => if drawOk P R ops (l.map FDS.ds) ⟨a'.abs, N', .b, undef⟩ = true then some (a', N') else none
 | none => none
theorem fcstep_ok {P : Program} {A B : Rec} (h : A.Le B) {ops : Array Oper} {i : Nat} {o : Oper} (ho : ops[i]? = some o) {a : FA} {N : CH} (ha : a.Ok) {r : Kd × Value × CH} (hs : fcstep P A ops o a N = some r) : cstep P B ops i a.abs N = some r := by
 unfold fcstep at hs
 unfold cstep
 simp only [ho]
 split at hs
 ·rename_i hg
  rw [fguardSeen_eq] at hg
  rw [if_neg (by rw [hg]; simp)]
  rw [fyielded_eq, fevOn_eq ha, kop_eq, kevalOp_eq] at hs
  split at hs
  ·rename_i hw
   rw [if_pos hw]
   split at hs
   ·rename_i v B' hb
    split at hs
    ·rename_i N1 hm
     cases hs
     rw [hb]
     simp only [hm, Option.map_some]
    ·cases hs
   ·rename_i hb
    split
    ·rename_i v B' hb'
     exact absurd hb' (hb v B')
    ·split at hs
     ·rename_i v G he
      rw [evalOp_le h he]
      exact hs
     ·cases hs
  ·rename_i hw
   rw [if_neg hw]
   exact hs
 ·cases hs
theorem fcruns_ok {P : Program} {A B : Rec} (h : A.Le B) {ops : Array Oper} : ∀ (l : List Oper) (i : Nat), (∀ j o, l[j]? = some o → ops[i + j]? = some o) → ∀ {a a' : FA} {N N' : CH} {x : List FDS}, a.Ok →
  fcruns P A ops l a N = some (x, a', N') → cruns P B ops l.length i a.abs N = some (x.map FDS.ds, a'.abs, N') ∧ a'.Ok
 | [], i, _, a, a', N, N', x, ha, hs => by
  simp only [fcruns, Option.some.injEq, Prod.mk.injEq] at hs
  obtain ⟨rfl, rfl, rfl⟩ := hs
  exact ⟨rfl, ha⟩
 | o :: r, i, hl, a, a', N, N', x, ha, hs => by
  simp only [fcruns] at hs
  split at hs
  ·rename_i kd v N1 h1
   split at hs
   ·rename_i y z hy
    simp only [Option.some.injEq, Prod.mk.injEq] at hs
    obtain ⟨rfl, rfl⟩ := hs
    have ho : ops[i]? = some o := by simpa using hl 0 o rfl
    have h2 := fcstep_ok h ho ha h1
    obtain ⟨h3, h4⟩ := FA.put_ok ha o.dst v
    obtain ⟨h5, h6⟩ := fcruns_ok h r (i + 1) (fun j o' hj => by
     have := hl (j + 1) o' (by simpa using hj)
     rwa [show i + (j + 1) = i + 1 + j by omega] at this) h3 hy
    refine ⟨?_, h6⟩
    have hd : dstOf ops i = o.dst := by simp [dstOf, ho]
    simp only [List.length_cons, cruns, h2, Option.bind_some, hd, ← h4, h5, Option.map_some, List.map_cons]
    rfl
   ·cases hs
  ·cases hs
theorem lateEval_le {P : Program} {A B : Rec} (h : A.Le B) {ops : Array Oper} {s : DS} {i : Nat} {N : CH} (hs : lateEval P A ops s i N = true) : lateEval P B ops s i N = true := by
 unfold lateEval at hs ⊢
 split at hs
 ·rename_i o ho
  simp only [Bool.and_eq_true] at hs ⊢
  refine ⟨hs.1, ?_⟩
  have h2 := hs.2
  split at h2
  ·rename_i v G he
   rw [evalOp_le h he]
   exact h2
  ·cases h2
 ·cases hs
theorem drawOk_le {P : Program} {A B : Rec} (h : A.Le B) {ops : Array Oper} {l : List DS} {fin : DS} (hs : drawOk P A ops l fin = true) : drawOk P B ops l fin = true := by
 unfold drawOk at hs ⊢
 simp only [Bool.and_eq_true, Bool.or_eq_true, List.all_eq_true, List.mem_range, lateOk] at hs ⊢
 refine ⟨hs.1, hs.2.imp id fun hh => ⟨hh.1, fun i hi => ?_⟩⟩
 refine (hh.2 i hi).imp id fun h3 p hp => ?_
 refine (h3 p hp).imp id fun h4 => ⟨h4.1, lateEval_le h h4.2⟩
theorem fcdraw_ok {P : Program} {A B : Rec} (h : A.Le B) {ops : Array Oper} {a a' : FA} {N N' : CH} (ha : a.Ok) (hs : fcdraw P A ops a N = some (a', N')) : cdraw P B ops a.abs N = some (a'.abs, N') ∧ a'.Ok := by
 unfold fcdraw at hs
 split at hs
 ·rename_i l a1 N1 hr
  split at hs
  ·rename_i hd
   simp only [Option.some.injEq, Prod.mk.injEq] at hs
   obtain ⟨rfl, rfl⟩ := hs
   obtain ⟨h1, h2⟩ := fcruns_ok h ops.toList 0 (fun j o hj => by simpa using hj) ha hr
   refine ⟨?_, h2⟩
   have hsz : ops.toList.length = ops.size := by simp
   rw [hsz] at h1
   unfold cdraw
   rw [h1]
   simp only
   rw [if_pos (drawOk_le h hd)]
  ·cases hs
 ·cases hs
def fiter (f : FA → CH → Option (Ex × FA × CH)) : Nat → FA → CH → Option (Ex × FA × CH)
 | 0, _, _ => none
 | n + 1, a, N => match f a N with
  | some (.normal, a', N') => fiter f n a' N'
  | r => r
def frangeCall (P : Program) (R : Rec) (a : FA) (f : Operand) (l : Nat) (N : CH) : Option (Value × CH) :=
 match fev a f with
 | some (.func (.func g) p q) =>
  match P.funcs[g]? with
  | some fn => if fn.body.isSome = true then R.call g (p.toList ++ [.func (.yield l) #[] #[]] ++ q.toList) N else none
  | none => none
 | _ => none
def fexec (P : Program) (R : Rec) (L : Nat) (fn : FuncId) (ar : Option Nat) : Code → FA → CH → Option (Ex × FA × CH)
 | .skip, a, N => some (.normal, a, N)
 | .region _ ops draw, a, N => match draw with
  | true => match fcdraw P R ops a N with
   | some (a', N') => some (.normal, a', N')
   | none => none
  | false => match fopList P R ops ar ops.toList a N with
   | some (a', N') => some (.normal, a', N')
   | none => none
 | .seq x y, a, N => match fexec P R L fn ar x a N with
  | some (.normal, a', N') => fexec P R L fn ar y a' N'
  | r => r
 | .cond c x y, a, N => match fev a c with
  | some (.bool true) => fexec P R L fn ar x a N
  | some (.bool false) => fexec P R L fn ar y a N
  | _ => none
 | .block id c, a, N => match fexec P R L fn ar c a N with
  | some (.exit id', a', N') => if id' = id then some (.normal, a', N') else some (.exit id', a', N')
  | r => r
 | .loop c, a, N => fiter (fexec P R L fn ar c) L a N
 | .exit id, a, N => some (.exit id, a, N)
 | .ret, a, N => some (.ret, a, N)
 | .rangeFunc f params as bd, a, N =>
  match centerLoop fn a.abs params as bd ar N with
  | some (l, a', N1) => match frangeCall P R a f l N1 with
   | some (_, N2) => match cendLoop l N2 with
    | some (jump, N3) => match jumpEx jump with
     | some e => some (e, { a with dm := a'.dm }, N3)
     | none => none
    | none => none
   | none => none
  | none => none
 | _, _, _ => none
theorem centerLoop_tmps {fn : FuncId} {a a' : CA} {params : Array Tmp} {as bd : Code} {ar : Option Nat} {N N' : CH} {l : Nat} (h : centerLoop fn a params as bd ar N = some (l, a', N')) : a'.tmps = a.tmps := by
 unfold centerLoop at h
 split at h
 ·split at h
  ·split at h
   ·cases h; rfl
   ·cases h
  ·cases h
 ·split at h
  ·cases h; rfl
  ·cases h
theorem frangeCall_le {P : Program} {A B : Rec} (h : A.Le B) {a : FA} (ha : a.Ok) {f : Operand} {l : Nat} {N : CH} {r : Value × CH} (hs : frangeCall P A a f l N = some r) : crangeCall P B a.abs f l N = some r := by
 unfold frangeCall at hs
 unfold crangeCall
 rw [fev_eq ha] at hs
 split at hs
 ·rename_i g p q hg
  simp only [hg]
  split at hs
  ·rename_i fn hf
   simp only [hf]
   split at hs
   ·rename_i hb
    rw [if_pos hb]
    exact h.call _ _ _ _ hs
   ·cases hs
  ·cases hs
 ·cases hs
theorem fiter_ok {f : FA → CH → Option (Ex × FA × CH)} {g : CA → CH → Option (Ex × CA × CH)} (hfg : ∀ a N e a' N', a.Ok → f a N = some (e, a', N') → g a.abs N = some (e, a'.abs, N') ∧ a'.Ok) :
  ∀ (n : Nat) (a : FA) (N : CH) (e : Ex) (a' : FA) (N' : CH), a.Ok → fiter f n a N = some (e, a', N') → iter g n a.abs N = some (e, a'.abs, N') ∧ a'.Ok
 | 0, _, _, _, _, _, _, h => by cases h
 | n + 1, a, N, e, a', N', ha, h => by
  simp only [fiter] at h
  cases hx : f a N with
  | none => rw [hx] at h; cases h
  | some r =>
   obtain ⟨e1, a1, N1⟩ := r
   obtain ⟨h1, h2⟩ := hfg _ _ _ _ _ ha hx
   simp only [iter, h1]
   cases e1 with
   | normal =>
    simp only [hx] at h
    exact fiter_ok hfg n a1 N1 e a' N' h2 h
   | ret =>
    simp only [hx, Option.some.injEq, Prod.mk.injEq] at h
    obtain ⟨rfl, rfl, rfl⟩ := h
    exact ⟨rfl, h2⟩
   | exit id =>
    simp only [hx, Option.some.injEq, Prod.mk.injEq] at h
    obtain ⟨rfl, rfl, rfl⟩ := h
    exact ⟨rfl, h2⟩
theorem fexec_ok {P : Program} {A B : Rec} (h : A.Le B) (L : Nat) (fn : FuncId) (ar : Option Nat) : ∀ (c : Code) (a : FA) (N : CH) (e : Ex) (a' : FA) (N' : CH), a.Ok → fexec P A L fn ar c a N = some (e, a', N') →
  exec P B L fn ar c a.abs N = some (e, a'.abs, N') ∧ a'.Ok := by
 intro c
 induction c with
 | skip =>
  intro a N e a' N' ha hs
  simp only [fexec, Option.some.injEq, Prod.mk.injEq] at hs
  obtain ⟨rfl, rfl, rfl⟩ := hs
  exact ⟨rfl, ha⟩
 | region id ops draw =>
  intro a N e a' N' ha hs
  cases draw with
  | true =>
   simp only [fexec] at hs
   split at hs
   ·rename_i a1 N1 h1
    simp only [Option.some.injEq, Prod.mk.injEq] at hs
    obtain ⟨rfl, rfl, rfl⟩ := hs
    obtain ⟨h2, h3⟩ := fcdraw_ok h ha h1
    exact ⟨by simp only [exec, if_true, h2, Option.map_some], h3⟩
   ·cases hs
  | false =>
   simp only [fexec] at hs
   split at hs
   ·rename_i a1 N1 h1
    simp only [Option.some.injEq, Prod.mk.injEq] at hs
    obtain ⟨rfl, rfl, rfl⟩ := hs
    obtain ⟨h2, h3⟩ := fopList_ok h ops.toList 0 (fun j o hj => by simpa using hj) ha h1
    have hsz : List.range' 0 ops.toList.length = List.range ops.size := by rw [List.range_eq_range']; simp
    rw [hsz] at h2
    exact ⟨by simp only [exec, Bool.false_eq_true, if_false, h2, Option.map_some], h3⟩
   ·cases hs
 | seq x y ix iy =>
  intro a N e a' N' ha hs
  simp only [fexec] at hs
  cases hx : fexec P A L fn ar x a N with
  | none => rw [hx] at hs; cases hs
  | some r =>
   obtain ⟨e1, a1, N1⟩ := r
   obtain ⟨h1, h2⟩ := ix _ _ _ _ _ ha hx
   simp only [exec, h1]
   cases e1 with
   | normal =>
    simp only [hx] at hs
    exact iy _ _ _ _ _ h2 hs
   | ret =>
    simp only [hx, Option.some.injEq, Prod.mk.injEq] at hs
    obtain ⟨rfl, rfl, rfl⟩ := hs
    exact ⟨rfl, h2⟩
   | exit id =>
    simp only [hx, Option.some.injEq, Prod.mk.injEq] at hs
    obtain ⟨rfl, rfl, rfl⟩ := hs
    exact ⟨rfl, h2⟩
 | cond c x y ix iy =>
  intro a N e a' N' ha hs
  simp only [fexec] at hs
  rw [fev_eq ha] at hs
  split at hs
  ·rename_i hc
   simp only [exec, hc]
   exact ix _ _ _ _ _ ha hs
  ·rename_i hc
   simp only [exec, hc]
   exact iy _ _ _ _ _ ha hs
  ·cases hs
 | block id c ic =>
  intro a N e a' N' ha hs
  simp only [fexec] at hs
  cases hx : fexec P A L fn ar c a N with
  | none => rw [hx] at hs; cases hs
  | some r =>
   obtain ⟨e1, a1, N1⟩ := r
   obtain ⟨h1, h2⟩ := ic _ _ _ _ _ ha hx
   simp only [exec, h1]
   cases e1 with
   | normal =>
    simp only [hx, Option.some.injEq, Prod.mk.injEq] at hs
    obtain ⟨rfl, rfl, rfl⟩ := hs
    exact ⟨rfl, h2⟩
   | ret =>
    simp only [hx, Option.some.injEq, Prod.mk.injEq] at hs
    obtain ⟨rfl, rfl, rfl⟩ := hs
    exact ⟨rfl, h2⟩
   | exit id' =>
    simp only [hx] at hs
    simp only
    split at hs
    ·rename_i he
     simp only [Option.some.injEq, Prod.mk.injEq] at hs
     obtain ⟨rfl, rfl, rfl⟩ := hs
     exact ⟨by rw [if_pos he], h2⟩
    ·rename_i he
     simp only [Option.some.injEq, Prod.mk.injEq] at hs
     obtain ⟨rfl, rfl, rfl⟩ := hs
     exact ⟨by rw [if_neg he], h2⟩
 | loop c ic =>
  intro a N e a' N' ha hs
  simp only [fexec] at hs
  exact fiter_ok (fun a N e a' N' ha hx => ic a N e a' N' ha hx) L a N e a' N' ha hs
 | exit id =>
  intro a N e a' N' ha hs
  simp only [fexec, Option.some.injEq, Prod.mk.injEq] at hs
  obtain ⟨rfl, rfl, rfl⟩ := hs
  exact ⟨rfl, ha⟩
 | ret =>
  intro a N e a' N' ha hs
  simp only [fexec, Option.some.injEq, Prod.mk.injEq] at hs
  obtain ⟨rfl, rfl, rfl⟩ := hs
  exact ⟨rfl, ha⟩
 | rangeFunc f params as bd _ _ =>
  intro a N e a' N' ha hs
  simp only [fexec] at hs
  split at hs
  ·rename_i l a1 N1 h1
   split at hs
   ·rename_i v N2 h2
    split at hs
    ·rename_i jump N3 h3
     split at hs
     ·rename_i e1 h4
      simp only [Option.some.injEq, Prod.mk.injEq] at hs
      obtain ⟨rfl, rfl, rfl⟩ := hs
      have h5 := frangeCall_le h ha h2
      refine ⟨?_, ha⟩
      have e2 : ({ a with dm := a1.dm } : FA).abs = a1 := by
       have := centerLoop_tmps h1
       obtain ⟨t1, d1⟩ := a1
       simp only at this
       subst this
       rfl
      simp only [exec, h1, Option.bind_some, h5, h3, h4, Option.map_some, e2]
     ·cases hs
    ·cases hs
   ·cases hs
  ·cases hs
 | _ => intro a N e a' N' ha hs; simp [fexec] at hs
def fresult (P : Program) (a : FA) (N : CH) : List ResultVar → Option (List Value)
 | [] => some []
 | .tmp t :: r => match fresult P a N r with
  | some l => some (a.get t :: l)
  | none => none
 | .cell x t :: r => match cload P t (a.get x) N with
  | some v => match fresult P a N r with
   | some l => some (v :: l)
   | none => none
  | none => none
theorem fresult_eq {P : Program} {a : FA} (ha : a.Ok) {N : CH} : ∀ (l : List ResultVar) {vs : List Value}, fresult P a N l = some vs → cresult P a.abs.tmps N l = some vs
 | [], vs, h => h
 | .tmp t :: r, vs, h => by
  simp only [fresult] at h
  split at h
  ·rename_i us hu
   cases h
   simp only [cresult, fresult_eq ha r hu, Option.map_some, FA.getD_abs ha]
  ·cases h
 | .cell x t :: r, vs, h => by
  simp only [fresult] at h
  split at h
  ·rename_i v hv
   split at h
   ·rename_i us hu
    cases h
    simp only [cresult, FA.getD_abs ha, hv, Option.bind_some, fresult_eq ha r hu, Option.map_some]
   ·cases h
  ·cases h
def fcallBody (P : Program) (R : Rec) (L : Nat) (f : FuncId) (args : List Value) (N : CH) : Option (Value × CH) :=
 match P.funcs[f]? with
 | none => none
 | some fn =>
  match fn.body with
  | none => none
  | some c =>
   if args.length ≤ fn.ntmps then
    match fexec P R L f none c (FA.init fn.ntmps args) N with
    | some (.exit _, _, _) => none
    | some (_, a, N1) => match takeAll R a.dm N1 with
     | some N2 => match fresult P a N2 fn.results.toList with
      | some [v] => some (v, N2)
      | some vs => some (.tuple vs.toArray, N2)
      | none => none
     | none => none
    | none => none
   else none
theorem takeAll_le {A B : Rec} (h : A.Le B) : ∀ (dm : List DM) {N N' : CH}, takeAll A dm N = some N' → takeAll B dm N = some N'
 | [], _, _, hs => hs
 | .coll k :: r, N, N', hs => by
  simp only [takeAll] at hs ⊢
  split at hs
  ·rename_i hg
   simp only [Option.bind_eq_some_iff] at hs ⊢
   obtain ⟨N1, h1, h2⟩ := hs
   exact ⟨N1, h1, takeAll_le h r h2⟩
  ·cases hs
 | .call f q args :: r, N, N', hs => by
  simp only [takeAll, Option.bind_eq_some_iff] at hs ⊢
  obtain ⟨x, h1, h2⟩ := hs
  exact ⟨x, h.call _ _ _ _ h1, takeAll_le h r h2⟩
theorem fcallBody_ok {P : Program} {A B : Rec} (h : A.Le B) {L : Nat} {f : FuncId} {args : List Value} {N : CH} {r : Value × CH} (hs : fcallBody P A L f args N = some r) : callBody P B L f args N = some r := by
 unfold fcallBody at hs
 unfold callBody
 cases hf : P.funcs[f]? with
 | none => simp [hf] at hs
 | some fn =>
  cases hb : fn.body with
  | none => simp [hf, hb] at hs
  | some c =>
   simp only [hf, hb] at hs ⊢
   split at hs
   ·rename_i hlen
    obtain ⟨h1, h2⟩ := FA.init_ok hlen
    cases hx : fexec P A L f none c (FA.init fn.ntmps args) N with
    | none => rw [hx] at hs; cases hs
    | some x =>
     obtain ⟨e, a, N1⟩ := x
     obtain ⟨h3, h4⟩ := fexec_ok h L f none c _ _ _ _ _ h1 hx
     rw [h2] at h3
     rw [h3]
     rw [hx] at hs
     have key : ∀ r, (match takeAll A a.dm N1 with
       | some N2 => match fresult P a N2 fn.results.toList with
        | some [v] => some (v, N2)
        | some vs => some (Value.tuple vs.toArray, N2)
        | none => none
       | none => none) = some r → ((takeAll B a.dm N1).bind fun N2 => (cresults P fn a.abs.tmps N2).map fun v => (v, N2)) = some r := by
      intro r hr
      split at hr
      ·rename_i N2 ht
       rw [takeAll_le h _ ht, Option.bind_some]
       unfold cresults
       split at hr
       ·rename_i v hv
        cases hr
        rw [fresult_eq h4 _ hv]
        rfl
       ·rename_i vs hne hv
        cases hr
        rw [fresult_eq h4 _ hv]
        match vs, hne with
        | [], _ => rfl
        | [v], hne => exact absurd rfl (hne v)
        | v1 :: v2 :: vs, _ => rfl
       ·cases hr
      ·cases hr
     cases e with
     | exit id => cases hs
     | normal => exact key r hs
     | ret => exact key r hs
   ·cases hs
def froundBody (P : Program) (R : Rec) (L : Nat) (l : Nat) (f : FuncId) (tmps : List Value) (as bd : Code) (N : CH) : Option (Value × CH) :=
 match fexec P R L f (some l) as (FA.ofList tmps) N with
 | some (.normal, a1, N1) => match cbegin l N1 with
  | some N2 => match fexec P R L f (some l) bd a1 N2 with
   | some (e, _, N3) => cendRound l e.jump N3
   | none => none
  | none => none
 | _ => none
theorem froundBody_ok {P : Program} {A B : Rec} (h : A.Le B) {L : Nat} {l : Nat} {f : FuncId} {tmps : List Value} {as bd : Code} {N : CH} {r : Value × CH} (hs : froundBody P A L l f tmps as bd N = some r) : roundBody P B L l f tmps as bd N = some r := by
 unfold froundBody at hs
 unfold roundBody
 obtain ⟨h1, h2⟩ := FA.ofList_ok tmps
 cases hx : fexec P A L f (some l) as (FA.ofList tmps) N with
 | none => rw [hx] at hs; cases hs
 | some x =>
  obtain ⟨e, a, N1⟩ := x
  obtain ⟨h3, h4⟩ := fexec_ok h L f (some l) as _ _ _ _ _ h1 hx
  rw [h2] at h3
  rw [h3]
  rw [hx] at hs
  cases e with
  | ret => cases hs
  | exit id => cases hs
  | normal =>
   simp only at hs ⊢
   split at hs
   ·rename_i N2 hb
    rw [hb, Option.bind_some]
    split at hs
    ·rename_i e2 a2 N3 hx2
     obtain ⟨h5, h6⟩ := fexec_ok h L f (some l) bd _ _ _ _ _ h4 hx2
     rw [h5]
     exact hs
    ·cases hs
   ·cases hs
def fRec (P : Program) (Hf : Hook) (L : Nat) : Nat → Rec
 | 0 => noRec
 | n + 1 => ⟨hooked Hf (fcallBody P (fRec P Hf L n) L), froundBody P (fRec P Hf L n) L⟩
theorem fRec_le {P : Program} (Hf : Hook) (L : Nat) : ∀ n, (fRec P Hf L n).Le (mkRec P Hf L n)
 | 0 => ⟨fun _ _ _ _ h => (by cases h), fun _ _ _ _ _ _ _ h => (by cases h)⟩
 | n + 1 => ⟨fun f args N r h => by
   simp only [fRec, mkRec, hooked] at h ⊢
   split at h
   ·exact h
   ·exact fcallBody_ok (fRec_le Hf L n) h, fun _ _ _ _ _ _ _ h => froundBody_ok (fRec_le Hf L n) h⟩
end
end Go.Eng
namespace Go.Eng
noncomputable section
open Go.Conc (G)
set_option linter.unusedSimpArgs false
set_option linter.unusedVariables false
set_option linter.unusedSectionVars false
variable [Hk]
inductive It where
 | code (c : Code)
 | inBlock (id : Nat)
 | inLoop (c : Code)
 | reg (ops : Array Oper) (i : Nat) (l : List Oper)
 | inRange (l : Nat)
 | endRange (l : Nat)
 | beginRound
structure SF where
 fn : FuncId
 ar : Option Nat
 kd : CallKind
 ret : Bool
 a : FA
 k : List It
structure St where
 top : SF
 cs : List SF
 N : CH
def It.item (E : Env) : It → Item
 | .code c => .code c
 | .inBlock id => .inBlock id
 | .inLoop c => .inLoop c
 | .reg ops i l => .inRegion ops (List.range' i l.length)
 | .inRange l => .inRangeFunc (E.f l)
 | .endRange l => .endRangeFunc (E.f l)
 | .beginRound => .beginRound
def It.Ok (D : Nat → Prop) : It → Prop
 | .reg ops i l => ∀ j o, l[j]? = some o → ops[i + j]? = some o
 | .inRange l => D l
 | .endRange l => D l
 | _ => True
def SF.base (E : Env) (s : SF) : Frame := { (default : Frame) with fn := s.fn, kind := s.kd, roundOf := s.ar.map E.f }
def SF.frame (E : Env) (s : SF) : Frame :=
 { fn := s.fn, tmps := (E.act s.a.abs).tmps, todo := s.k.map (It.item E), defers := (E.act s.a.abs).defers, mode := if s.ret = true then .returning else .run, kind := s.kd, roundOf := s.ar.map E.f }
theorem SF.frame_run (E : Env) {s : SF} (h : s.ret = false) : s.frame E = fat (s.base E) (E.act s.a.abs) (s.k.map (It.item E)) := by
 simp [SF.frame, fat, SF.base, h]
structure SF.Ok (D : Nat → Prop) (s : SF) : Prop where
 a : s.a.Ok
 clo : s.a.abs.Clo D
 ar : ∀ l, s.ar = some l → D l
 its : ∀ it ∈ s.k, it.Ok D
 ret : s.ret = true → s.ar = none
 kd : s.ar.isSome = true → s.kd = .normal
def StkOk : List SF → Prop
 | [] => True
 | s :: r => (s.kd = .normal ∨ (s.kd = .deferred ∧ (r = [] ∨ ∃ c r', r = c :: r' ∧ c.ret = true))) ∧ StkOk r
theorem SF.ext {O : Nat → Prop} {E E' : Env} {N N' : CH} {w w' : World} (X : ExtC O E N w E' N' w') {s : SF} (h : s.Ok E.D) : s.frame E' = s.frame E ∧ s.Ok E'.D := by
 obtain ⟨h1, h2⟩ := X.act h.clo
 refine ⟨?_, ⟨h.a, h2, fun l hl => (X.mono l (h.ar l hl)).1, fun it hit => ?_, h.ret, h.kd⟩⟩
 ·have e1 : s.k.map (It.item E') = s.k.map (It.item E) := List.map_congr_left fun it hit => by
   have := h.its it hit
   cases it with
   | inRange l => simp only [It.item, (X.mono l this).2.1]
   | endRange l => simp only [It.item, (X.mono l this).2.1]
   | _ => rfl
  have e2 : s.ar.map E'.f = s.ar.map E.f := by
   cases hs : s.ar with
   | none => rfl
   | some l => simp only [Option.map_some, (X.mono l (h.ar l hs)).2.1]
  simp only [SF.frame, h1, e1, e2]
 ·have := h.its it hit
  cases it with
  | inRange l => exact (X.mono l this).1
  | endRange l => exact (X.mono l this).1
  | reg ops i l => exact this
  | _ => trivial
theorem frames_ext {O : Nat → Prop} {E E' : Env} {N N' : CH} {w w' : World} (X : ExtC O E N w E' N' w') {cs : List SF} (h : ∀ s ∈ cs, s.Ok E.D) : cs.map (SF.frame E') = cs.map (SF.frame E) ∧ ∀ s ∈ cs, s.Ok E'.D :=
 ⟨List.map_congr_left fun s hs => (SF.ext X (h s hs)).1, fun s hs => (SF.ext X (h s hs)).2⟩
structure SRel (P : Program) (E : Env) (S : St) (w : World) : Prop where
 rel : Rel P E S.N w
 top : S.top.Ok E.D
 cs : ∀ s ∈ S.cs, s.Ok E.D
 stk : StkOk (S.top :: S.cs)
theorem SRel.rely {P : Program} {E : Env} {S : St} {w w1 : World} {O W : Nat → Prop} {lo : Nat} (h : SRel P E S w) (H : Own O W lo E S.N w) (hr : Rely O w w1) : SRel P E S w1 := ⟨h.rel.rely H hr, h.top, h.cs, h.stk⟩
def St.gor (E : Env) (S : St) (under : List Frame) : Goroutine := G (S.top.frame E) (S.cs.map (SF.frame E) ++ under)
def Reach (P : Program) (S S' : St) : Prop := ∀ (main : Bool) (J : World → Prop) [Ctx main J] (lo : Nat) (E : Env) (w : World) (O W : Nat → Prop), lo ≤ S'.N.wm → SRel P E S w → Own O W lo E S.N w → ∀ under, Caller .deferred under → ∀ K,
 (∀ O' W' E' w', SRel P E' S' w' → Later P lo O W E S.N w O' W' E' S'.N w' → Will P main J K O' W' (S'.gor E' under) w') → Will P main J K O W (S.gor E under) w
theorem Reach.refl (P : Program) (S : St) : Reach P S S := fun main J _ lo E w O W hlo hs ow under hu K hK => hK O W E w hs (Later.refl hs.rel ow)
theorem caller_none : Caller .deferred [] := caller_nil (.inr rfl)
theorem Reach.facts {P : Program} {S S' : St} (h : Reach P S S') {E : Env} {w : World} (hs : SRel P E S w) : ∃ E' w', SRel P E' S' w' ∧ S'.N.wm ≤ S.N.wm := by
 obtain ⟨_, _, _, _, hh⟩ := (h true (fun _ => True) 0 E w _ _ (Nat.zero_le _) hs (own_all hs.rel) [] caller_none (fun _ _ _ _ => ∃ E' w', SRel P E' S' w' ∧ S'.N.wm ≤ S.N.wm) fun _ _ E' w' hs' L => .stop fun _ _ _ => ⟨E', w', hs', L.ext.wm⟩).reaches (fun _ h => h) (fun _ h => h)
 exact hh
theorem Reach.trans {P : Program} {S S1 S2 : St} (h : Reach P S S1) (g : Reach P S1 S2) : Reach P S S2 := fun main J _ lo E w O W hlo hs ow under hu K hK => by
 have hlo1 : lo ≤ S1.N.wm := by
  obtain ⟨E1, w1, hs1, _⟩ := h.facts hs
  obtain ⟨_, _, _, hw⟩ := g.facts hs1
  exact Nat.le_trans hlo hw
 exact h main J lo E w O W hlo1 hs ow under hu K fun O1 W1 E1 w1 hs1 L1 => g main J lo E1 w1 O1 W1 hlo hs1 L1.own under hu K fun O2 W2 E2 w2 hs2 L2 => hK O2 W2 E2 w2 hs2 (L1.trans L2)
def One (P : Program) (main : Bool) (E : Env) (S S' : St) (under : List Frame) (w : World) : Prop :=
 ∃ E' w' es, SRel P E' S' w' ∧ Ext E S.N w E' S'.N w' ∧ stepG P main (S.gor E under) w = .go (S'.gor E' under) w' es ∧ (∀ lo O W, lo ≤ S'.N.wm → Own O W lo E S.N w → ∀ e ∈ es, Fine O W w w' e)
theorem reach_one {P : Program} {S S' : St} (h : ∀ main E w under, SRel P E S w → Caller .deferred under → One P main E S S' under w) : Reach P S S' := fun main J _ lo E w O W hlo hs ow under hu K hK => by
 refine .step rfl fun w1 hrel _ => ?_
 have hs1 := hs.rely ow hrel
 have ow1 := ow.rely hrel
 obtain ⟨E', w', es, hs', X, hst, hev⟩ := h main E w1 under hs1 hu
 exact ⟨_, w', es, hst, guar_of ow1 hs1.rel X hlo (hev lo O W hlo ow1), hK _ _ E' w' hs' ((Later.of_rely hs.rel ow hrel).trans (Later.of_step hs1.rel ow1 hs'.rel X hlo))⟩
theorem fine_none {O W : Nat → Prop} {w w' : World} : ∀ e ∈ (#[] : Array Event), Fine O W w w' e := fun e he => by simp at he
def kenter (P : Program) (f : FuncId) (args : List Value) (kd : CallKind) : Option SF :=
 match P.funcs[f]? with
 | some fn => match fn.body with
  | some c => if args.length ≤ fn.ntmps then some ⟨f, none, kd, false, FA.init fn.ntmps args, [.code c]⟩ else none
  | none => none
 | none => none
def kfin : SF → Value → Option SF
 | ⟨fn, ar, kd, false, a, .reg ops i (o :: r) :: k⟩, v => some ⟨fn, ar, kd, false, a.put o.dst v, .reg ops (Nat.succ i) r :: k⟩
 | ⟨fn, ar, kd, false, a, .inRange l :: k⟩, _ => some ⟨fn, ar, kd, false, a, .endRange l :: k⟩
 | _, _ => none
def kexit (id : Nat) : List It → Option (List It)
 | .inBlock id' :: k => if id' = id then some k else kexit id k
 | _ :: k => kexit id k
 | [] => none
def kround (l : Nat) (jump : Option Code) (cs : List SF) (N : CH) : Option St :=
 match cendRound l jump N with
 | some (v, N') => match cs with
  | c :: cs' => match kfin c v with
   | some c' => some ⟨c', cs', N'⟩
   | none => none
  | [] => none
 | none => none
def kresult : List Value → Value
 | [v] => v
 | vs => .tuple vs.toArray
def kreturn (P : Program) (fn : FuncId) (ar : Option Nat) (kd : CallKind) (a : FA) (k : List It) (cs : List SF) (N : CH) : Option St :=
 match a with
 | ⟨n, t, .coll m :: ds⟩ => match N.get m with
  | some .dfr => match N.wset m .dead with
   | some N' => some ⟨⟨fn, ar, kd, true, ⟨n, t, ds⟩, k⟩, cs, N'⟩
   | none => none
  | _ => none
 | ⟨n, t, .call f q args :: ds⟩ => match kenter P f (args ++ q) .deferred with
  | some s => some ⟨s, ⟨fn, ar, kd, true, ⟨n, t, ds⟩, k⟩ :: cs, N⟩
  | none => none
 | ⟨n, t, []⟩ => match P.funcs[fn]? with
  | some f => match fresult P ⟨n, t, []⟩ N f.results.toList with
   | some vs => match cs with
    | c :: cs' => match kd with
     | .normal => match kfin c (kresult vs) with
      | some c' => some ⟨c', cs', N⟩
      | none => none
     | .deferred => some ⟨c, cs', N⟩
     | _ => none
    | [] => none
   | none => none
  | none => none
def kcode (P : Program) (R : Rec) (fn : FuncId) (ar : Option Nat) (kd : CallKind) (a : FA) (c : Code) (k : List It) (cs : List SF) (N : CH) : Option St :=
 match c with
 | .skip => some ⟨⟨fn, ar, kd, false, a, k⟩, cs, N⟩
 | .seq x y => some ⟨⟨fn, ar, kd, false, a, .code x :: .code y :: k⟩, cs, N⟩
 | .cond c x y => match fev a c with
  | some (.bool true) => some ⟨⟨fn, ar, kd, false, a, .code x :: k⟩, cs, N⟩
  | some (.bool false) => some ⟨⟨fn, ar, kd, false, a, .code y :: k⟩, cs, N⟩
  | _ => none
 | .block id c => some ⟨⟨fn, ar, kd, false, a, .code c :: .inBlock id :: k⟩, cs, N⟩
 | .loop c => some ⟨⟨fn, ar, kd, false, a, .code c :: .inLoop c :: k⟩, cs, N⟩
 | .exit id => match kexit id k with
  | some k' => some ⟨⟨fn, ar, kd, false, a, k'⟩, cs, N⟩
  | none => match ar with
   | some l => kround l (some (.exit id)) cs N
   | none => none
 | .ret => match ar with
  | none => some ⟨⟨fn, none, kd, true, a, .code .ret :: k⟩, cs, N⟩
  | some l => kround l (some .ret) cs N
 | .region _ ops draw => match draw with
  | false => some ⟨⟨fn, ar, kd, false, a, .reg ops 0 ops.toList :: k⟩, cs, N⟩
  | true => match fcdraw P R ops a N with
   | some (a', N') => some ⟨⟨fn, ar, kd, false, a', k⟩, cs, N'⟩
   | none => none
 | .rangeFunc f params as bd => match centerLoop fn a.abs params as bd ar N with
  | some (l, a', N1) => match fev a f with
   | some (.func (.func g) p q) => match kenter P g (p.toList ++ [.func (.yield l) #[] #[]] ++ q.toList) .normal with
    | some s => some ⟨s, ⟨fn, ar, kd, false, { a with dm := a'.dm }, .inRange l :: k⟩ :: cs, N1⟩
    | none => none
   | _ => none
  | none => none
 | _ => none
def kgo (P : Program) (fn : FuncId) (ar : Option Nat) (kd : CallKind) (a : FA) (ops : Array Oper) (i : Nat) (o : Oper) (r : List Oper) (k : List It) (cs : List SF) (N : CH) : Option St :=
 match kop P (fev a) o N with
 | some (.val v, N') => some ⟨⟨fn, ar, kd, false, a.put o.dst v, .reg ops (Nat.succ i) r :: k⟩, cs, N'⟩
 | some (.skip, N') => some ⟨⟨fn, ar, kd, false, a.put o.dst undef, .reg ops (Nat.succ i) r :: k⟩, cs, N'⟩
 | some (.enter f args, N') => match kenter P f args .normal with
  | some s => some ⟨s, ⟨fn, ar, kd, false, a, .reg ops i (o :: r) :: k⟩ :: cs, N'⟩
  | none => none
 | some (.round l f tmps as bd, N') => some ⟨⟨f, some l, .normal, false, FA.ofList tmps, [.code as, .beginRound, .code bd]⟩, ⟨fn, ar, kd, false, a, .reg ops i (o :: r) :: k⟩ :: cs, N'⟩
 | none => match ar with
  | some _ => none
  | none => match cdefer (fev a) o with
   | some d => some ⟨⟨fn, none, kd, false, { a.put o.dst undef with dm := d :: a.dm }, .reg ops (Nat.succ i) r :: k⟩, cs, N⟩
   | none => if crecover o = true then some ⟨⟨fn, none, kd, false, a.put o.dst .nilIface, .reg ops (Nat.succ i) r :: k⟩, cs, N⟩ else none
def koper (P : Program) (fn : FuncId) (ar : Option Nat) (kd : CallKind) (a : FA) (ops : Array Oper) (i : Nat) (o : Oper) (r : List Oper) (k : List It) (cs : List SF) (N : CH) : Option St :=
 match o.guard with
 | none => kgo P fn ar kd a ops i o r k cs N
 | some _ => if fguardSeen ops a o = true then if Region.wanted o (fyielded ops a) = true then kgo P fn ar kd a ops i o r k cs N else some ⟨⟨fn, ar, kd, false, a.put o.dst undef, .reg ops (Nat.succ i) r :: k⟩, cs, N⟩ else none
def kstep (P : Program) (R : Rec) : St → Option St
 | ⟨⟨fn, ar, kd, true, a, k⟩, cs, N⟩ => kreturn P fn ar kd a k cs N
 | ⟨⟨fn, ar, kd, false, a, []⟩, cs, N⟩ => match ar with
  | none => some ⟨⟨fn, none, kd, true, a, []⟩, cs, N⟩
  | some l => kround l none cs N
 | ⟨⟨fn, ar, kd, false, a, it :: k⟩, cs, N⟩ => match it with
  | .code c => kcode P R fn ar kd a c k cs N
  | .inBlock _ => some ⟨⟨fn, ar, kd, false, a, k⟩, cs, N⟩
  | .inLoop c => some ⟨⟨fn, ar, kd, false, a, .code c :: .inLoop c :: k⟩, cs, N⟩
  | .reg ops i l => match l with
   | [] => some ⟨⟨fn, ar, kd, false, a, k⟩, cs, N⟩
   | o :: r => koper P fn ar kd a ops i o r k cs N
  | .inRange _ => none
  | .endRange l => match cendLoop l N with
   | some (jump, N') => match jump with
    | none => some ⟨⟨fn, ar, kd, false, a, k⟩, cs, N'⟩
    | some j => some ⟨⟨fn, ar, kd, false, a, .code j :: k⟩, cs, N'⟩
   | none => none
  | .beginRound => match ar with
   | some l => match cbegin l N with
    | some N' => some ⟨⟨fn, ar, kd, false, a, k⟩, cs, N'⟩
    | none => none
   | none => none
def krun (P : Program) (R : Rec) : Nat → St → Option St
 | 0, S => some S
 | n + 1, S => match kstep P R S with
  | some S' => krun P R n S'
  | none => none
theorem kenter_ok {P : Program} {E : Env} {f : FuncId} {args : List Value} {kd : CallKind} {s : SF} (h : kenter P f args kd = some s) (ha : ∀ u ∈ args, Clo E.D u) :
  s.frame E = Frame.enter P f (args.map E.m).toArray kd ∧ s.Ok E.D ∧ s.kd = kd ∧ s.ret = false ∧ ∃ fn, P.funcs[f]? = some fn ∧ fn.body.isSome = true := by
 unfold kenter at h
 split at h
 ·rename_i fn hf
  split at h
  ·rename_i c hb
   split at h
   ·rename_i hlen
    cases h
    obtain ⟨h1, h2⟩ := FA.init_ok hlen
    refine ⟨?_, ⟨h1, ?_, by simp, ?_, by simp, by simp⟩, rfl, rfl, fn, hf, by rw [hb]; rfl⟩
    ·simp only [SF.frame, h2, Frame.enter, hf, Option.bind_some, hb, Option.map_some, Option.getD_some, Env.act, List.map_nil, List.map_cons, It.item, Bool.false_eq_true, if_false, Option.map_none]
     congr 1
     apply Array.ext'
     simp [m_undef]
    ·rw [h2]
     refine ⟨?_, by simp⟩
     intro u hu
     rcases List.mem_append.1 hu with h3 | h3
     ·exact ha u h3
     ·rw [(List.mem_replicate.1 h3).2]; exact undef_clo _
    ·intro it hit
     simp only [List.mem_singleton] at hit
     subst hit
     trivial
   ·cases h
  ·cases h
 ·cases h
theorem kfin_ok {E : Env} {c c' : SF} {v : Value} (h : kfin c v = some c') (hc : c.Ok E.D) (hv : Clo E.D v) : c'.frame E = (c.frame E).finish (E.m v) ∧ c'.Ok E.D ∧ c'.kd = c.kd ∧ c'.ret = c.ret ∧ c'.ar = c.ar := by
 unfold kfin at h
 split at h
 ·rename_i v0 fn ar kd a ops i o r k
  cases h
  have ho : ops[i]? = some o := by
   have := hc.its (.reg ops i (o :: r)) (by simp) 0 o rfl
   simpa using this
  obtain ⟨h1, h2⟩ := FA.put_ok hc.a o.dst v
  refine ⟨?_, ⟨h1, ?_, hc.ar, ?_, hc.ret, hc.kd⟩, rfl, rfl, rfl⟩
  ·rw [SF.frame_run E rfl, SF.frame_run E rfl]
   simp only [List.map_cons, It.item, List.length_cons, List.range'_succ, h2]
   rw [fat_finish ho, act_put]
   rfl
  ·rw [h2]; exact hc.clo.put _ hv
  ·intro it hit
   rcases List.mem_cons.1 hit with rfl | hit
   ·intro j o' hj
    have := hc.its (.reg ops i (o :: r)) (by simp) (j + 1) o' (by simpa using hj)
    rwa [show i + (j + 1) = i + 1 + j by omega] at this
   ·exact hc.its it (by simp [hit])
 ·rename_i v0 fn ar kd a l k
  cases h
  refine ⟨?_, ⟨hc.a, hc.clo, hc.ar, ?_, hc.ret, hc.kd⟩, rfl, rfl, rfl⟩
  ·rw [SF.frame_run E rfl, SF.frame_run E rfl]
   simp only [List.map_cons, It.item]
   rw [fat_finish_range]
   rfl
  ·intro it hit
   rcases List.mem_cons.1 hit with rfl | hit
   ·exact hc.its (.inRange l) (by simp)
   ·exact hc.its it (by simp [hit])
 ·cases h
theorem kexit_ok {E : Env} {id : Nat} : ∀ {k : List It}, exitTo id (k.map (It.item E)) = (kexit id k).map (List.map (It.item E)) := by
 intro k
 induction k with
 | nil => rfl
 | cons it k ih =>
  cases it with
  | inBlock id' =>
   simp only [List.map_cons, It.item, exitTo, kexit]
   by_cases h : id' = id
   ·simp [h]
   ·have : (id' == id) = false := by simpa using h
    simp [this, h, ih]
  | _ => simp only [List.map_cons, It.item, exitTo, kexit, ih]
theorem kexit_mem {id : Nat} : ∀ {k k' : List It}, kexit id k = some k' → ∀ it ∈ k', it ∈ k := by
 intro k
 induction k with
 | nil => intro k' h; cases h
 | cons it k ih =>
  intro k' h x hx
  cases it with
  | inBlock id' =>
   simp only [kexit] at h
   split at h
   ·cases h; simp [hx]
   ·exact List.mem_cons_of_mem _ (ih h x hx)
  | _ => exact List.mem_cons_of_mem _ (ih h x hx)
theorem stk_top {s s' : SF} {cs : List SF} (h : StkOk (s :: cs)) (hk : s'.kd = s.kd) : StkOk (s' :: cs) := by
 obtain ⟨h1, h2⟩ := h
 exact ⟨by rw [hk]; exact h1, h2⟩
theorem SRel.turn {P : Program} {O : Nat → Prop} {E E' : Env} {s s' : SF} {cs : List SF} {N N' : CH} {w w' : World} (h : SRel P E ⟨s, cs, N⟩ w) (R' : Rel P E' N' w') (X : ExtC O E N w E' N' w') (hs : s'.Ok E'.D) (hk : s'.kd = s.kd) :
  SRel P E' ⟨s', cs, N'⟩ w' := ⟨R', hs, (frames_ext X h.cs).2, stk_top h.stk hk⟩
theorem gor_eq {O : Nat → Prop} {E E' : Env} {N N' : CH} {w w' : World} (X : ExtC O E N w E' N' w') {s : SF} {cs : List SF} {M : CH} (h : ∀ c ∈ cs, c.Ok E.D) (under : List Frame) :
  St.gor E' ⟨s, cs, M⟩ under = G (s.frame E') (cs.map (SF.frame E) ++ under) := by
 unfold St.gor
 simp only [(frames_ext X h).1]
section
variable {P : Program} {fn : FuncId} {ar : Option Nat} {kd : CallKind} {a : FA} {k k0 k1 : List It} {cs : List SF} {N : CH}
theorem reach_todo (hst : ∀ main E w under, SRel P E ⟨⟨fn, ar, kd, false, a, k0⟩, cs, N⟩ w →
   stepG P main (G (fat (SF.base E ⟨fn, ar, kd, false, a, k0⟩) (E.act a.abs) (k0.map (It.item E))) (cs.map (SF.frame E) ++ under)) w = .go (G (fat (SF.base E ⟨fn, ar, kd, false, a, k0⟩) (E.act a.abs) (k1.map (It.item E))) (cs.map (SF.frame E) ++ under)) w #[])
  (hk : ∀ D : Nat → Prop, (∀ it ∈ k0, it.Ok D) → ∀ it ∈ k1, it.Ok D) : Reach P ⟨⟨fn, ar, kd, false, a, k0⟩, cs, N⟩ ⟨⟨fn, ar, kd, false, a, k1⟩, cs, N⟩ := by
 refine reach_one fun main E w under h hu => ?_
 have hs := h.top
 refine ⟨E, w, #[], ⟨h.rel, ⟨hs.a, hs.clo, hs.ar, hk _ hs.its, hs.ret, hs.kd⟩, h.cs, stk_top h.stk rfl⟩, Ext.refl _ _ _, ?_, fun _ _ _ _ _ => fine_none⟩
 have := hst main E w under h
 unfold St.gor
 rw [SF.frame_run E rfl, SF.frame_run E rfl]
 exact this
theorem caller_of {E : Env} {s : SF} {cs : List SF} {under : List Frame} (hu : Caller .deferred under) (h : StkOk (s :: cs)) : Caller s.kd (cs.map (SF.frame E) ++ under) := by
 have hk : s.kd = .normal ∨ s.kd = .deferred := h.1.imp id And.left
 cases cs with
 | nil => exact ⟨hk, hu.2⟩
 | cons c r =>
  refine ⟨hk, fun fr hd => ?_⟩
  cases hc : c.ret <;> simp [tryRecover, hd, SF.frame, hc]
end
theorem kround_ok {P : Program} {fn : FuncId} {l : Nat} {kd : CallKind} {a : FA} {k : List It} {cs : List SF} {N : CH} {jump : Option Code} {S' : St} (h : kround l jump cs N = some S')
  (hst : ∀ main E w (c : Frame) under v w', SRel P E ⟨⟨fn, some l, kd, false, a, k⟩, cs, N⟩ w → (Instr.endRound (E.f l) jump).run P w = .ok v w' →
   ∃ es, Lists P fn ((Instr.endRound (E.f l) jump).events P w #[]) es ∧ stepG P main (G (fat (SF.base E ⟨fn, some l, kd, false, a, k⟩) (E.act a.abs) (k.map (It.item E))) (c :: under)) w = .go (G (c.finish v) under) w' es) :
  Reach P ⟨⟨fn, some l, kd, false, a, k⟩, cs, N⟩ S' := by
 refine reach_one fun main E w under hs hu => ?_
 unfold kround at h
 split at h
 ·rename_i v N' hr
  split at h
  ·rename_i c cs'
   split at h
   ·rename_i c' hf
    cases h
    have hl : E.D l := hs.top.ar l rfl
    obtain ⟨w', R', X, hv, hend⟩ := endRound_ok hs.rel hl hr
    have XC := X.toC (fun _ => False)
    have hc : c.Ok E.D := hs.cs c (by simp)
    have hcs' : ∀ s ∈ cs', s.Ok E.D := fun s h => hs.cs s (by simp [h])
    obtain ⟨h1, h2, h3, h4, h5⟩ := kfin_ok hf (SF.ext XC hc).2 hv
    obtain ⟨es, hes, hstep⟩ := hst main E w (c.frame E) (cs'.map (SF.frame E) ++ under) _ w' hs hend
    refine ⟨E, w', es, ⟨R', h2, fun s hh => (SF.ext XC (hcs' s hh)).2, stk_top hs.stk.2 h3⟩, X, ?_, fun lo O W hlo ow => hes.ok (endRound_evs hs.rel ow hl hr hlo R' hend)⟩
    unfold St.gor
    rw [SF.frame_run E rfl]
    simp only [List.map_cons, List.cons_append]
    rw [hstep, h1, (SF.ext XC hc).1]
   ·cases h
  ·cases h
 ·cases h
theorem kreturn_ok {P : Program} (hP : NoCount P) {fn : FuncId} {ar : Option Nat} {kd : CallKind} {a : FA} {k : List It} {cs : List SF} {N : CH} {S' : St} (h : kreturn P fn ar kd a k cs N = some S') :
  Reach P ⟨⟨fn, ar, kd, true, a, k⟩, cs, N⟩ S' := by
 refine reach_one fun main E w under hs hu => ?_
 have hmode : (SF.frame E ⟨fn, ar, kd, true, a, k⟩).mode = .returning := rfl
 unfold kreturn at h
 split at h
 ·rename_i n t m ds
  split at h
  ·rename_i hg
   split at h
   ·rename_i N' hw
    cases h
    obtain ⟨hwm, rfl⟩ := CH.wset_some hw
    have hD : E.D m := hs.top.clo.dm (.coll m) (by simp [FA.abs])
    have ho : w.heap[E.f m]? = some (.deferred (some [])) := hs.rel.blk m _ hD hg
    obtain ⟨hr1, X1⟩ := hs.rel.setObj hD hwm hg rfl ho (b' := .dead) (o' := .deferred none) trivial
    have hrun : (Instr.takeDeferred (E.f m)).run P w = .ok [] { w with heap := w.heap.setIfInBounds (E.f m) (.deferred none) } := by
     simp [Instr.takeDeferred, getObj, setObj, Sem.run, ho]
    have hclo : (⟨n, t, ds⟩ : FA).abs.Clo E.D := ⟨hs.top.clo.tmps, fun d hd => hs.top.clo.dm d (by
     have : d ∈ ds := hd
     simp [FA.abs, this])⟩
    obtain ⟨es, hes, hst⟩ := g_taken (main := main) (fr := SF.frame E ⟨fn, ar, kd, true, ⟨n, t, .coll m :: ds⟩, k⟩) (cs := cs.map (SF.frame E) ++ under) hmode (ds := ds.map E.dm) rfl hrun
    have hlive : N.live m := ⟨_, hg, rfl⟩
    exact ⟨E, _, es, ⟨hr1, ⟨hs.top.a, hclo, hs.top.ar, hs.top.its, hs.top.ret, hs.top.kd⟩, hs.cs, stk_top hs.stk rfl⟩, X1, hst, fun lo O W hlo ow =>
     hes.ok (takeDeferred_evs (ow.img m hD hlive) (ow.wri m hD hlive (by have hlo : lo ≤ (N.set m .dead).wm := hlo; have := (CH.set_wm N m .dead).2; omega)) (ow.lt _ (ow.img m hD hlive)) ho hrun)⟩
   ·cases h
  ·cases h
 ·rename_i n t f q args ds
  split at h
  ·rename_i s hk
   cases h
   obtain ⟨hq, ha⟩ : DM.Clo E.D (.call f q args) := hs.top.clo.dm _ (by simp [FA.abs])
   obtain ⟨e1, e2, e3, e4, fn', hf, hb⟩ := kenter_ok (E := E) hk (by
    intro u hu
    rcases List.mem_append.1 hu with hu | hu
    ·exact ha u hu
    ·exact hq u hu)
   have hclo : (⟨n, t, ds⟩ : FA).abs.Clo E.D := ⟨hs.top.clo.tmps, fun d hd => hs.top.clo.dm d (by
    have : d ∈ ds := hd
    simp [FA.abs, this])⟩
   have htop : SF.Ok E.D ⟨fn, ar, kd, true, ⟨n, t, ds⟩, k⟩ := ⟨hs.top.a, hclo, hs.top.ar, hs.top.its, hs.top.ret, hs.top.kd⟩
   have hcf : invoke (E.dm (.call f q args)).target (E.dm (.call f q args)).args = callFunc f ((args ++ q).map E.m).toArray := by
    simp only [Env.dm, invoke]
    congr 1
    apply Array.ext'
    simp
   suffices hh : ∃ es, Lists P fn ((invoke (E.dm (.call f q args)).target (E.dm (.call f q args)).args).events P w #[]) es ∧ stepG P main (St.gor E ⟨⟨fn, ar, kd, true, ⟨n, t, .call f q args :: ds⟩, k⟩, cs, N⟩ under) w = .go (St.gor E ⟨s, ⟨fn, ar, kd, true, ⟨n, t, ds⟩, k⟩ :: cs, N⟩ under) w es by
    obtain ⟨es, hes, hst⟩ := hh
    rw [hcf, events_callFunc hP hf hb] at hes
    refine ⟨E, w, es, ⟨hs.rel, e2, ?_, ⟨.inr ⟨e3, .inr ⟨_, _, rfl, rfl⟩⟩, stk_top hs.stk rfl⟩⟩, Ext.refl _ _ _, hst, fun lo O W _ _ => hes.ok fun e he => by simp at he⟩
    intro s' hs'
    rcases List.mem_cons.1 hs' with rfl | hs'
    ·exact htop
    ·exact hs.cs s' hs'
   ·have hrun : (invoke (E.dm (.call f q args)).target (E.dm (.call f q args)).args).run P w = .ok (.enter f ((args ++ q).map E.m).toArray) w := by
     rw [hcf]
     exact run_callFunc hP hf hb _ _
    have := g_deferred (main := main) (fr := SF.frame E ⟨fn, ar, kd, true, ⟨n, t, .call f q args :: ds⟩, k⟩) (cs := cs.map (SF.frame E) ++ under) hmode (d := E.dm (.call f q args)) (ds := ds.map E.dm) rfl ⟨_, _, rfl⟩ hrun
    unfold St.gor
    simp only [e1, List.map_cons, List.cons_append]
    exact this
  ·cases h
 ·rename_i n t
  split at h
  ·rename_i f hf
   split at h
   ·rename_i vs hvs
    have hres : cresults P f (⟨n, t, []⟩ : FA).abs.tmps N = some (kresult vs) := by
     unfold cresults
     rw [fresult_eq hs.top.a _ hvs, Option.map_some]
     cases vs with
     | nil => rfl
     | cons v r => cases r <;> rfl
    obtain ⟨hrun, hv⟩ := results_ok hs.rel hs.top.clo.tmps hres
    split at h
    ·rename_i c cs'
     have hc : c.Ok E.D := hs.cs c (by simp)
     have hcs' : ∀ s ∈ cs', s.Ok E.D := fun s h => hs.cs s (by simp [h])
     have hevs : ∀ lo O W, Own O W lo E N w → EvOk' O W w w ((results f (((⟨n, t, []⟩ : FA).abs.tmps.map E.m).toArray)).events P w #[]) := fun lo O W ow => (results_evs hs.rel ow hs.top.clo.tmps hres).mono fun _ h => h.elim
     split at h
     ·split at h
      ·rename_i c' hfin
       cases h
       obtain ⟨h1, h2, h3, h4, h5⟩ := kfin_ok hfin hc hv
       obtain ⟨es, hes, hst⟩ := g_leave (main := main) (fr := SF.frame E ⟨fn, ar, .normal, true, ⟨n, t, []⟩, k⟩) (c := c.frame E) (cs := cs'.map (SF.frame E) ++ under) rfl rfl rfl hf hrun
       refine ⟨E, w, es, ⟨hs.rel, h2, hcs', stk_top hs.stk.2 h3⟩, Ext.refl _ _ _, ?_, fun lo O W _ ow => hes.ok (hevs lo O W ow)⟩
       unfold St.gor
       simp only [List.map_cons, List.cons_append, h1]
       exact hst
      ·cases h
     ·cases h
      have hret : c.ret = true := by
       rcases hs.stk.1 with h1 | ⟨_, h1 | ⟨c1, r1, he, hr⟩⟩
       ·cases h1
       ·cases h1
       ·cases he; exact hr
      obtain ⟨es, hes, hst⟩ := g_deferred_end (main := main) (fr := SF.frame E ⟨fn, ar, .deferred, true, ⟨n, t, []⟩, k⟩) (c := c.frame E) (cs := cs'.map (SF.frame E) ++ under) rfl rfl rfl (fun v g l hh => by simp [SF.frame, hret] at hh) hf hrun
      refine ⟨E, w, es, ⟨hs.rel, hc, hcs', hs.stk.2⟩, Ext.refl _ _ _, ?_, fun lo O W _ ow => hes.ok (hevs lo O W ow)⟩
      unfold St.gor
      simp only [List.map_cons, List.cons_append]
      exact hst
     ·cases h
    ·cases h
   ·cases h
  ·cases h
theorem kcode_ok {P : Program} (hP : NoCount P) (hm : P.follows .mixedOrders = true) {A B : Rec} (hAB : A.Le B) (hB : RecOk P B) {fn : FuncId} {ar : Option Nat} {kd : CallKind} {a : FA} {c : Code} {k : List It} {cs : List SF} {N : CH} {S' : St}
  (h : kcode P A fn ar kd a c k cs N = some S') : Reach P ⟨⟨fn, ar, kd, false, a, .code c :: k⟩, cs, N⟩ S' := by
 unfold kcode at h
 split at h
 ·cases h
  exact reach_todo (fun main E w under _ => g_skip) (fun D hh it hit => hh it (by simp [hit]))
 ·cases h
  exact reach_todo (fun main E w under _ => g_seq) (fun D hh it hit => by
   rcases List.mem_cons.1 hit with rfl | hit
   ·trivial
   ·rcases List.mem_cons.1 hit with rfl | hit
    ·trivial
    ·exact hh it (by simp [hit]))
 ·rename_i c x y
  split at h
  ·rename_i hev
   cases h
   exact reach_todo (fun main E w under hs => by
    rw [fev_eq hs.top.a] at hev
    exact g_cond (t := true) (cev_ok hs.rel.gl hs.top.clo c _ hev).1) (fun D hh it hit => by
    rcases List.mem_cons.1 hit with rfl | hit
    ·trivial
    ·exact hh it (by simp [hit]))
  ·rename_i hev
   cases h
   exact reach_todo (fun main E w under hs => by
    rw [fev_eq hs.top.a] at hev
    exact g_cond (t := false) (cev_ok hs.rel.gl hs.top.clo c _ hev).1) (fun D hh it hit => by
    rcases List.mem_cons.1 hit with rfl | hit
    ·trivial
    ·exact hh it (by simp [hit]))
  ·cases h
 ·cases h
  exact reach_todo (fun main E w under _ => g_block) (fun D hh it hit => by
   rcases List.mem_cons.1 hit with rfl | hit
   ·trivial
   ·rcases List.mem_cons.1 hit with rfl | hit
    ·trivial
    ·exact hh it (by simp [hit]))
 ·cases h
  exact reach_todo (fun main E w under _ => g_loop) (fun D hh it hit => by
   rcases List.mem_cons.1 hit with rfl | hit
   ·trivial
   ·rcases List.mem_cons.1 hit with rfl | hit
    ·trivial
    ·exact hh it (by simp [hit]))
 ·rename_i id
  split at h
  ·rename_i k' hk
   cases h
   exact reach_todo (fun main E w under _ => g_exit (by rw [kexit_ok, hk]; rfl)) (fun D hh it hit => hh it (by simp [kexit_mem hk it hit]))
  ·rename_i hk
   split at h
   ·rename_i l
    refine kround_ok h (fun main E w c under v w' hs hend => g_round_exit (b := SF.base E ⟨fn, some l, kd, false, a, .code (.exit id) :: k⟩) rfl (hs.top.kd rfl) (by rw [kexit_ok, hk]; rfl) hend)
   ·cases h
 ·split at h
  ·cases h
   refine reach_one fun main E w under hs hu => ?_
   have ht := hs.top
   refine ⟨E, w, #[], ⟨hs.rel, ⟨ht.a, ht.clo, by simp, ht.its, fun _ => rfl, by simp⟩, hs.cs, stk_top hs.stk rfl⟩, Ext.refl _ _ _, ?_, fun _ _ _ _ _ => fine_none⟩
   unfold St.gor
   rw [SF.frame_run E rfl]
   exact g_ret rfl
  ·rename_i l
   exact kround_ok h (fun main E w c under v w' hs hend => g_round_ret (b := SF.base E ⟨fn, some l, kd, false, a, .code .ret :: k⟩) rfl (hs.top.kd rfl) hend)
 ·rename_i id ops draw
  split at h
  ·cases h
   refine reach_todo (fun main E w under _ => ?_) (fun D hh it hit => ?_)
   ·have : ops.toList.length = ops.size := by simp
    simp only [List.map_cons, It.item, this, ← List.range_eq_range']
    exact g_region
   ·rcases List.mem_cons.1 hit with rfl | hit
    ·intro j o hj
     simpa using hj
    ·exact hh it (by simp [hit])
  ·split at h
   ·rename_i a' N' hd
    cases h
    intro main J hx lo E w O W hlo hs ow under hu K hK
    have ht := hs.top
    obtain ⟨h1, h2⟩ := fcdraw_ok hAB ht.a hd
    have hk : ∀ it ∈ k, it.Ok E.D := fun it hit => ht.its it (by simp [hit])
    have hold : SF.Ok E.D ⟨fn, ar, kd, false, a, k⟩ := ⟨ht.a, ht.clo, ht.ar, hk, ht.ret, ht.kd⟩
    unfold St.gor
    rw [SF.frame_run E rfl]
    refine cdraw_ok hP hm hB h1 hlo hs.rel ow ht.clo (SF.base E ⟨fn, ar, kd, false, a, k⟩) id (k.map (It.item E)) (cs.map (SF.frame E) ++ under) fun O' W' E' w' L hclo => ?_
    have X := L.ext
    obtain ⟨x1, x2⟩ := SF.ext X hold
    have hfin := hK O' W' E' w' (hs.turn L.rel X ⟨h2, hclo, x2.ar, x2.its, x2.ret, x2.kd⟩ rfl) L
    rw [gor_eq X hs.cs, SF.frame_run E' rfl] at hfin
    have eb : SF.base E' ⟨fn, ar, kd, false, a', k⟩ = SF.base E ⟨fn, ar, kd, false, a, k⟩ := by
     have := congrArg Frame.roundOf x1
     simp only [SF.frame] at this
     simp only [SF.base, this]
    have ek : k.map (It.item E') = k.map (It.item E) := by
     have := congrArg Frame.todo x1
     simpa [SF.frame] using this
    simp only at hfin
    rw [eb, ek] at hfin
    exact hfin
   ·cases h
 ·rename_i f params as bd
  split at h
  ·rename_i l a' N1 hcl
   split at h
   ·rename_i g p q hev
    split at h
    ·rename_i s hk
     cases h
     refine reach_one fun main E w under hs hu => ?_
     have ht := hs.top
     obtain ⟨E1, w1, mark, hr1, X1, ha1, hl, hact, hrun⟩ := enterLoop_ok hs.rel ht.clo ht.ar hcl
     have XC := X1.toC (fun _ => False)
     rw [fev_eq ht.a] at hev
     obtain ⟨hev1, hcl1⟩ := cev_ok hs.rel.gl ht.clo f _ hev
     have hpq : (∀ u ∈ p.toList, Clo E.D u) ∧ (∀ u ∈ q.toList, Clo E.D u) := by
      obtain ⟨p⟩ := p; obtain ⟨q⟩ := q
      exact ⟨CloL_all.1 hcl1.2.1, CloL_all.1 hcl1.2.2⟩
     have hargs : ∀ u ∈ p.toList ++ [.func (.yield l) #[] #[]] ++ q.toList, Clo E1.D u := by
      intro u hu
      rcases List.mem_append.1 hu with h6 | h6
      ·rcases List.mem_append.1 h6 with h7 | h7
       ·exact X1.clo (hpq.1 u h7)
       ·simp only [List.mem_singleton] at h7
        subst h7
        exact ⟨hl, trivial, trivial⟩
      ·exact X1.clo (hpq.2 u h6)
     obtain ⟨e1, e2, e3, e4, fn2, hf2, hb2⟩ := kenter_ok (E := E1) hk hargs
     have hinv0 : (do let d ← resolve (E.act a.abs).eval { callee := .value f, args := #[.const (.func (.yield (E1.f l)) #[] #[])], argTypes := #[] } 0; invoke d.target d.args : Sem Next) =
       callFunc g ((p.toList ++ [Value.func (.yield l) #[] #[]] ++ q.toList).map E1.m).toArray := by
      have e2 : E.m (.func (.func g) p q) = .func (.func g) (p.map E.m) (q.map E.m) := m_func E (.func g) p q
      simp only [resolve, hev1, e2, Deferred.ofValue, pure_bind, invoke]
      congr 1
      apply Array.ext'
      have hp1 : p.toList.map E1.m = p.toList.map E.m := List.map_congr_left fun u hu => X1.m (hpq.1 u hu)
      have hq1 : q.toList.map E1.m = q.toList.map E.m := List.map_congr_left fun u hu => X1.m (hpq.2 u hu)
      have hy : E1.m (Value.func (.yield l) #[] #[]) = Value.func (.yield (E1.f l)) #[] #[] := by rw [m_func]; simp [mvFn]
      simp [hp1, hq1, hy, Act.eval]
     have hinv : (do let d ← resolve (E.act a.abs).eval { callee := .value f, args := #[.const (.func (.yield (E1.f l)) #[] #[])], argTypes := #[] } 0; invoke d.target d.args : Sem Next).run P w1 =
       .ok (.enter g ((p.toList ++ [Value.func (.yield l) #[] #[]] ++ q.toList).map E1.m).toArray) w1 := by
      rw [hinv0]
      exact run_callFunc hP hf2 hb2 _ _
     have hinve : (do let d ← resolve (E.act a.abs).eval { callee := .value f, args := #[.const (.func (.yield (E1.f l)) #[] #[])], argTypes := #[] } 0; invoke d.target d.args : Sem Next).events P w1 #[] = #[] := by
      rw [hinv0]
      exact events_callFunc hP hf2 hb2 _ _
     have hk0 : ∀ it ∈ k, it.Ok E.D := fun it hit => ht.its it (by simp [hit])
     have hold : SF.Ok E.D ⟨fn, ar, kd, false, a, k⟩ := ⟨ht.a, ht.clo, ht.ar, hk0, ht.ret, ht.kd⟩
     obtain ⟨x1, x2⟩ := SF.ext XC hold
     have eabs : ({ a with dm := a'.dm } : FA).abs = a' := by
      have := centerLoop_tmps hcl
      obtain ⟨t1, d1⟩ := a'
      simp only at this
      subst this
      rfl
     have hnew : SF.Ok E1.D ⟨fn, ar, kd, false, { a with dm := a'.dm }, .inRange l :: k⟩ := by
      refine ⟨ht.a, ?_, x2.ar, ?_, x2.ret, x2.kd⟩
      ·show CA.Clo E1.D ({ a with dm := a'.dm } : FA).abs
       rw [eabs]; exact ha1
      ·intro it hit
       rcases List.mem_cons.1 hit with rfl | hit
       ·exact hl
       ·exact x2.its it hit
     obtain ⟨es, hes, hst⟩ := g_rangeFunc (main := main) (b := SF.base E ⟨fn, ar, kd, false, a, k⟩) (a := E.act a.abs) (k := k.map (It.item E)) (cs := cs.map (SF.frame E) ++ under) (w := w) (P := P) (f := f) (params := params) (assign := as) (body := bd) hrun hinv
     refine ⟨E1, w1, es, ⟨hr1, e2, ?_, ⟨.inl e3, ?_⟩⟩, X1, ?_, fun lo O W hlo ow e he => ?_⟩
     ·intro s' hs'
      rcases List.mem_cons.1 hs' with rfl | hs'
      ·exact hnew
      ·exact (frames_ext XC hs.cs).2 s' hs'
     ·exact stk_top hs.stk rfl
     rotate_left
     ·rcases hes e he with h6 | h6
      ·exact (enterLoop_evs hs.rel ow (fun j hj => ⟨ht.ar j hj, enter_loop hcl j hj⟩) hr1 hrun e (Go.Conc.mem_seen h6)).resolve_left fun ⟨f, hf⟩ => not_extern h6 f hf
      ·rw [hinve] at h6
       have := Go.Conc.mem_seen h6
       simp at this
     ·skip
      unfold St.gor
      rw [SF.frame_run E rfl]
      simp only [List.map_cons, List.cons_append, (frames_ext XC hs.cs).1]
      rw [e1, SF.frame_run E1 rfl]
      have eb : SF.base E1 ⟨fn, ar, kd, false, { a with dm := a'.dm }, .inRange l :: k⟩ = SF.base E ⟨fn, ar, kd, false, a, k⟩ := by
       have := congrArg Frame.roundOf x1
       simp only [SF.frame] at this
       simp only [SF.base, this]
      have ek : k.map (It.item E1) = k.map (It.item E) := by
       have := congrArg Frame.todo x1
       simpa [SF.frame] using this
      simp only [List.map_cons, It.item, eb, ek, eabs, hact]
      exact hst
    ·cases h
   ·cases h
  ·cases h
 ·cases h
theorem cdefer_evs {E : Env} {a : CA} (hgl : E.Gl) (ha : a.Clo E.D) {o : Oper} {d : DM} (h : cdefer (cev a) o = some d) (w : World) (P : Program) : (execOp (E.act a).eval o).events P w #[] = #[] := by
 unfold cdefer at h
 split at h
 ·rename_i c ho'
  split at h
  ·rename_i fo hcal
   split at h
   ·rename_i g p q args hf hargs
    obtain ⟨hf1, hf2⟩ := cev_ok hgl ha fo _ hf
    have e2 : E.m (.func (.func g) p q) = .func (.func g) (p.map E.m) (q.map E.m) := m_func E (.func g) p q
    have e3 : (execOp (E.act a).eval o) = pure (.defer { target := .fn (.func g) (q.map E.m), args := p.map E.m ++ c.args.map (E.act a).eval }) := by
     simp only [execOp, ho', resolve, hcal, hf1, e2, Deferred.ofValue, pure_bind]
    rw [e3]
    rfl
   ·cases h
  ·cases h
 ·cases h
theorem crecover_evs {a : Act} {o : Oper} (h : crecover o = true) (P : Program) (w : World) : (execOp a.eval o).events P w #[] = #[] := by
 unfold crecover at h
 split at h
 ·rename_i c ho
  split at h
  ·rename_i hcal
   have e3 : (execOp a.eval o) = pure .recover := by
    simp only [execOp, ho, resolve, hcal, pure_bind, invoke, builtin]
   rw [e3]
   rfl
  ·cases h
 ·cases h
theorem kgo_ok {P : Program} (hP : NoCount P) {fn : FuncId} {ar : Option Nat} {kd : CallKind} {a : FA} {ops : Array Oper} {i : Nat} {o : Oper} {r : List Oper} {k : List It} {cs : List SF} {N : CH} {S' : St}
  (h : kgo P fn ar kd a ops i o r k cs N = some S') {E : Env} {w : World} (hs : SRel P E ⟨⟨fn, ar, kd, false, a, .reg ops i (o :: r) :: k⟩, cs, N⟩ w) (hw : Region.wanted o (yielded ops (E.act a.abs).tmps) = true) (main : Bool) (under : List Frame) (hu : Caller .deferred under) :
  One P main E ⟨⟨fn, ar, kd, false, a, .reg ops i (o :: r) :: k⟩, cs, N⟩ S' under w := by
 have ht := hs.top
 have hit : ∀ j o', (o :: r)[j]? = some o' → ops[i + j]? = some o' := ht.its (.reg ops i (o :: r)) (by simp)
 have ho : ops[i]? = some o := by simpa using hit 0 o rfl
 have hr : ∀ j o', r[j]? = some o' → ops[i + 1 + j]? = some o' := fun j o' hj => by
  have := hit (j + 1) o' (by simpa using hj)
  rwa [show i + (j + 1) = i + 1 + j by omega] at this
 have hstart : St.gor E ⟨⟨fn, ar, kd, false, a, .reg ops i (o :: r) :: k⟩, cs, N⟩ under =
   G (fat (SF.base E ⟨fn, ar, kd, false, a, .reg ops i (o :: r) :: k⟩) (E.act a.abs) (.inRegion ops (i :: List.range' (i + 1) r.length) :: k.map (It.item E))) (cs.map (SF.frame E) ++ under) := by
  unfold St.gor
  rw [SF.frame_run E rfl]
  simp only [List.map_cons, It.item, List.length_cons, List.range'_succ]
 -- the frame behind the operation, for whatever temporaries
 have next : ∀ (E1 : Env) (w1 : World) (N1 : CH) (a1 : FA), Rel P E1 N1 w1 → Ext E N w E1 N1 w1 → a1.Ok → a1.abs.Clo E1.D →
   SRel P E1 ⟨⟨fn, ar, kd, false, a1, .reg ops (i + 1) r :: k⟩, cs, N1⟩ w1 ∧
   St.gor E1 ⟨⟨fn, ar, kd, false, a1, .reg ops (i + 1) r :: k⟩, cs, N1⟩ under =
    G (fat (SF.base E ⟨fn, ar, kd, false, a, .reg ops i (o :: r) :: k⟩) (E1.act a1.abs) (.inRegion ops (List.range' (i + 1) r.length) :: k.map (It.item E))) (cs.map (SF.frame E) ++ under) := by
  intro E1 w1 N1 a1 R1 X1 h1 h2
  have XC := X1.toC (fun _ => False)
  obtain ⟨x1, x2⟩ := SF.ext XC ht
  have e1 := congrArg Frame.roundOf x1
  have e2 := congrArg Frame.todo x1
  simp only [SF.frame, List.map_cons, It.item, List.cons.injEq, true_and] at e1 e2
  refine ⟨hs.turn R1 XC ⟨h1, h2, x2.ar, ?_, x2.ret, x2.kd⟩ rfl, ?_⟩
  ·intro it hit'
   rcases List.mem_cons.1 hit' with rfl | hit'
   ·exact hr
   ·exact x2.its it (by simp [hit'])
  ·rw [gor_eq XC hs.cs, SF.frame_run E1 rfl]
   simp only [SF.base, e1, List.map_cons, It.item, e2]
 unfold kgo at h
 rw [kop_eq, fev_eq ht.a] at h
 cases hc : cop P (cev a.abs) o N with
 | none =>
  simp only [hc] at h
  cases har : ar with
  | some l => rw [har] at h; cases h
  | none =>
   subst har
   simp only at h
   have hro : (SF.base E ⟨fn, none, kd, false, a, .reg ops i (o :: r) :: k⟩).roundOf = none := rfl
   cases hd : cdefer (cev a.abs) o with
   | some d =>
    simp only [hd, Option.some.injEq] at h
    subst h
    obtain ⟨hdc, c, ho', hrun⟩ := cdefer_ok (E := E) hs.rel.gl ht.clo hd w P
    obtain ⟨h1, h2⟩ := FA.put_ok ht.a o.dst undef
    have hclo := ht.clo.put o.dst (undef_clo E.D)
    obtain ⟨n1, n2⟩ := next E w N { a.put o.dst undef with dm := d :: a.dm } hs.rel (Ext.refl _ _ _) h1 ⟨by
      have := hclo.tmps
      rw [← h2] at this
      exact this, fun d' hd' => by
      rcases List.mem_cons.1 hd' with rfl | hd'
      ·exact hdc
      ·exact ht.clo.dm d' hd'⟩
    obtain ⟨es, hes, hst⟩ := g_defer (main := main) (b := SF.base E ⟨fn, none, kd, false, a, .reg ops i (o :: r) :: k⟩) (a := E.act a.abs) (k := k.map (It.item E)) (cs := cs.map (SF.frame E) ++ under) (rest := List.range' (i + 1) r.length) ho hw hro hrun
    have hact : E.act ({ a.put o.dst undef with dm := d :: a.dm } : FA).abs = { (E.act a.abs).put o.dst undef with defers := E.dm d :: (E.act a.abs).defers } := by
     rw [act_put_undef, ← h2]
     rfl
    refine ⟨E, w, es, n1, Ext.refl _ _ _, ?_, fun lo O W _ ow => hes.ok fun e he => ?_⟩
    ·show stepG P main _ w = .go (St.gor E ⟨⟨fn, none, kd, false, { a.put o.dst undef with dm := d :: a.dm }, .reg ops (i + 1) r :: k⟩, cs, N⟩ under) w es
     rw [hstart, n2, hact]
     exact hst
    ·have hee := cdefer_evs (E := E) hs.rel.gl ht.clo hd w P
     rw [hee] at he
     simp at he
   | none =>
    simp only [hd] at h
    split at h
    ·rename_i hre
     simp only [Option.some.injEq] at h
     subst h
     obtain ⟨c, ho', hrun⟩ := crecover_ok (a := E.act a.abs) hre P w
     obtain ⟨h1, h2⟩ := FA.put_ok ht.a o.dst .nilIface
     obtain ⟨n1, n2⟩ := next E w N (a.put o.dst .nilIface) hs.rel (Ext.refl _ _ _) h1 (by rw [h2]; exact ht.clo.put _ trivial)
     obtain ⟨es, hes, hst⟩ := g_recover (main := main) (b := SF.base E ⟨fn, none, kd, false, a, .reg ops i (o :: r) :: k⟩) (a := E.act a.abs) (k := k.map (It.item E)) (cs := cs.map (SF.frame E) ++ under) (rest := List.range' (i + 1) r.length) ho hw hro (fun fr hk => (caller_of (E := E) hu hs.stk).none hk) (fun c' => by rw [ho']; intro e; cases e) hrun
     refine ⟨E, w, es, n1, Ext.refl _ _ _, ?_, fun lo O W _ ow => hes.ok fun e he => ?_⟩
     ·show stepG P main _ w = .go (St.gor E ⟨⟨fn, none, kd, false, a.put o.dst .nilIface, .reg ops (i + 1) r :: k⟩, cs, N⟩ under) w es
      rw [hstart, n2, h2, ← act_put]
      exact hst
     ·rw [crecover_evs (a := E.act a.abs) hre P w] at he
      simp at he
    ·cases h
 | some x =>
  obtain ⟨nx, N1⟩ := x
  have hnd : ∀ c, o.op ≠ .defer c := by
   intro c e
   simp [cop, e] at hc
  obtain ⟨E1, w1, R1, X1, hclo, hrun⟩ := cop_ok hP hs.rel (cev_ok hs.rel.gl ht.clo) hc
  obtain ⟨hact, ha1⟩ := X1.act ht.clo
  have XC := X1.toC (fun _ => False)
  have hevs : ∀ lo O W, lo ≤ N1.wm → Own O W lo E N w → EvOk' O W w w1 ((execOp (E.act a.abs).eval o).events P w #[]) := fun lo O W hlo ow => cop_evs hP hs.rel ow (cev_ok hs.rel.gl ht.clo) hc hlo R1 hrun
  cases nx with
  | val v =>
   simp only [hc, Option.some.injEq] at h
   subst h
   obtain ⟨h1, h2⟩ := FA.put_ok ht.a o.dst v
   obtain ⟨n1, n2⟩ := next E1 w1 N1 (a.put o.dst v) R1 X1 h1 (by rw [h2]; exact ha1.put _ hclo)
   obtain ⟨es, hes, hst⟩ := g_val (main := main) (b := SF.base E ⟨fn, ar, kd, false, a, .reg ops i (o :: r) :: k⟩) (k := k.map (It.item E)) (cs := cs.map (SF.frame E) ++ under) (rest := List.range' (i + 1) r.length) ho hw hnd hrun
   refine ⟨E1, w1, es, n1, X1, ?_, fun lo O W hlo ow => hes.ok (hevs lo O W hlo ow)⟩
   show stepG P main _ w = .go (St.gor E1 ⟨⟨fn, ar, kd, false, a.put o.dst v, .reg ops (i + 1) r :: k⟩, cs, N1⟩ under) w1 es
   rw [hstart, n2, h2, ← act_put, hact]
   exact hst
  | skip =>
   simp only [hc, Option.some.injEq] at h
   subst h
   obtain ⟨h1, h2⟩ := FA.put_ok ht.a o.dst undef
   obtain ⟨n1, n2⟩ := next E1 w1 N1 (a.put o.dst undef) R1 X1 h1 (by rw [h2]; exact ha1.put _ (undef_clo _))
   obtain ⟨es, hes, hst⟩ := g_skipv (main := main) (b := SF.base E ⟨fn, ar, kd, false, a, .reg ops i (o :: r) :: k⟩) (k := k.map (It.item E)) (cs := cs.map (SF.frame E) ++ under) (rest := List.range' (i + 1) r.length) ho hw hnd hrun
   refine ⟨E1, w1, es, n1, X1, ?_, fun lo O W hlo ow => hes.ok (hevs lo O W hlo ow)⟩
   show stepG P main _ w = .go (St.gor E1 ⟨⟨fn, ar, kd, false, a.put o.dst undef, .reg ops (i + 1) r :: k⟩, cs, N1⟩ under) w1 es
   rw [hstart, n2, h2, ← act_put_undef, hact]
   exact hst
  | enter f args =>
   simp only [hc] at h
   split at h
   ·rename_i s hk
    simp only [Option.some.injEq] at h
    subst h
    obtain ⟨e1, e2, e3, e4, _⟩ := kenter_ok (E := E1) hk hclo
    obtain ⟨x1, x2⟩ := SF.ext XC ht
    obtain ⟨es, hes, hst⟩ := g_enter (main := main) (b := SF.base E ⟨fn, ar, kd, false, a, .reg ops i (o :: r) :: k⟩) (k := k.map (It.item E)) (cs := cs.map (SF.frame E) ++ under) (rest := List.range' (i + 1) r.length) ho hw hnd hrun
    refine ⟨E1, w1, es, ⟨R1, e2, ?_, ⟨.inl e3, hs.stk⟩⟩, X1, ?_, fun lo O W hlo ow => hes.ok (hevs lo O W hlo ow)⟩
    ·intro s' hs'
     rcases List.mem_cons.1 hs' with rfl | hs'
     ·exact x2
     ·exact (frames_ext XC hs.cs).2 s' hs'
    ·rw [hstart]
     unfold St.gor
     simp only [e1, List.map_cons, List.cons_append, x1, (frames_ext XC hs.cs).1]
     rw [SF.frame_run E rfl]
     simp only [List.map_cons, It.item, List.length_cons, List.range'_succ]
     exact hst
   ·cases h
  | round l f tmps as bd =>
   simp only [hc, Option.some.injEq] at h
   subst h
   obtain ⟨x1, x2⟩ := SF.ext XC ht
   obtain ⟨h1, h2⟩ := FA.ofList_ok tmps
   obtain ⟨es, hes, hst⟩ := g_round (main := main) (b := SF.base E ⟨fn, ar, kd, false, a, .reg ops i (o :: r) :: k⟩) (k := k.map (It.item E)) (cs := cs.map (SF.frame E) ++ under) (rest := List.range' (i + 1) r.length) ho hw hnd hrun
   refine ⟨E1, w1, es, ⟨R1, ⟨h1, ?_, (fun l' e => by cases e; exact hclo.1), ?_, (fun e => by cases e), fun _ => rfl⟩, ?_, ⟨.inl rfl, hs.stk⟩⟩, X1, ?_, fun lo O W hlo ow => hes.ok (hevs lo O W hlo ow)⟩
   ·show CA.Clo E1.D (FA.ofList tmps).abs
    rw [h2]
    exact ⟨hclo.2, by simp⟩
   ·intro it hit'
    simp only [List.mem_cons, List.mem_nil_iff, or_false] at hit'
    rcases hit' with rfl | rfl | rfl <;> trivial
   ·intro s' hs'
    rcases List.mem_cons.1 hs' with rfl | hs'
    ·exact x2
    ·exact (frames_ext XC hs.cs).2 s' hs'
   ·rw [hstart]
    unfold St.gor
    simp only [List.map_cons, List.cons_append, x1, (frames_ext XC hs.cs).1]
    rw [SF.frame_run E rfl]
    simp only [List.map_cons, It.item, List.length_cons, List.range'_succ]
    have hfr : SF.frame E1 ⟨f, some l, .normal, false, FA.ofList tmps, [.code as, .beginRound, .code bd]⟩ = Frame.round (E1.f l) f (tmps.map E1.m).toArray as bd .normal := by
     simp only [SF.frame, h2, Env.act, List.map_cons, List.map_nil, It.item, Frame.round, Bool.false_eq_true, if_false, Option.map_some]
    rw [hfr]
    exact hst
theorem koper_ok {P : Program} (hP : NoCount P) {fn : FuncId} {ar : Option Nat} {kd : CallKind} {a : FA} {ops : Array Oper} {i : Nat} {o : Oper} {r : List Oper} {k : List It} {cs : List SF} {N : CH} {S' : St}
  (h : koper P fn ar kd a ops i o r k cs N = some S') : Reach P ⟨⟨fn, ar, kd, false, a, .reg ops i (o :: r) :: k⟩, cs, N⟩ S' := by
 refine reach_one fun main E w under hs hu => ?_
 have ht := hs.top
 unfold koper at h
 split at h
 ·rename_i hg
  exact kgo_ok hP h hs (by simp [Region.wanted, hg]) main under hu
 ·split at h
  ·rename_i hg
   rw [fguardSeen_eq] at hg
   rw [fyielded_eq] at h
   split at h
   ·rename_i hw
    exact kgo_ok hP h hs (by rw [wanted_act E hg]; exact hw) main under hu
   ·rename_i hw
    cases h
    have hit : ∀ j o', (o :: r)[j]? = some o' → ops[i + j]? = some o' := ht.its (.reg ops i (o :: r)) (by simp)
    have ho : ops[i]? = some o := by simpa using hit 0 o rfl
    have hr : ∀ j o', r[j]? = some o' → ops[i + 1 + j]? = some o' := fun j o' hj => by
     have := hit (j + 1) o' (by simpa using hj)
     rwa [show i + (j + 1) = i + 1 + j by omega] at this
    have hw' : Region.wanted o (yielded ops (E.act a.abs).tmps) = false := by rw [wanted_act E hg]; simpa using hw
    obtain ⟨h1, h2⟩ := FA.put_ok ht.a o.dst undef
    refine ⟨E, w, #[], ⟨hs.rel, ⟨h1, by show CA.Clo E.D (a.put o.dst undef).abs; rw [h2]; exact ht.clo.put _ (undef_clo _), ht.ar, ?_, ht.ret, ht.kd⟩, hs.cs, stk_top hs.stk rfl⟩, Ext.refl _ _ _, ?_, fun _ _ _ _ _ => fine_none⟩
    ·intro it hit'
     rcases List.mem_cons.1 hit' with rfl | hit'
     ·exact hr
     ·exact ht.its it (by simp [hit'])
    ·unfold St.gor
     rw [SF.frame_run E rfl, SF.frame_run E rfl]
     simp only [List.map_cons, It.item, List.length_cons, List.range'_succ, h2, ← act_put_undef]
     exact g_op_skip ho hw'
  ·cases h
theorem kstep_ok {P : Program} (hP : NoCount P) (hm : P.follows .mixedOrders = true) {A B : Rec} (hAB : A.Le B) (hB : RecOk P B) {S S' : St} (h : kstep P A S = some S') : Reach P S S' := by
 obtain ⟨⟨fn, ar, kd, ret, a, k⟩, cs, N⟩ := S
 cases ret with
 | true => exact kreturn_ok hP h
 | false =>
  cases k with
  | nil =>
   cases ar with
   | none =>
    simp only [kstep, Option.some.injEq] at h
    subst h
    refine reach_one fun main E w under hs hu => ?_
    have ht := hs.top
    refine ⟨E, w, #[], ⟨hs.rel, ⟨ht.a, ht.clo, by simp, ht.its, fun _ => rfl, by simp⟩, hs.cs, stk_top hs.stk rfl⟩, Ext.refl _ _ _, ?_, fun _ _ _ _ _ => fine_none⟩
    unfold St.gor
    rw [SF.frame_run E rfl]
    exact g_end rfl
   | some l => exact kround_ok h (fun main E w c under v w' hs hend => g_round_end (b := SF.base E ⟨fn, some l, kd, false, a, []⟩) rfl (hs.top.kd rfl) hend)
  | cons it k =>
   cases it with
   | code c => exact kcode_ok hP hm hAB hB h
   | inBlock id =>
    simp only [kstep, Option.some.injEq] at h
    subst h
    exact reach_todo (fun main E w under _ => g_inBlock) (fun D hh it hit => hh it (by simp [hit]))
   | inLoop c =>
    simp only [kstep, Option.some.injEq] at h
    subst h
    exact reach_todo (fun main E w under _ => g_inLoop) (fun D hh it hit => by
     rcases List.mem_cons.1 hit with rfl | hit
     ·trivial
     ·exact hh it hit)
   | reg ops i l =>
    cases l with
    | nil =>
     simp only [kstep, Option.some.injEq] at h
     subst h
     exact reach_todo (fun main E w under _ => g_region_end) (fun D hh it hit => hh it (by simp [hit]))
    | cons o r => exact koper_ok hP h
   | inRange l => cases h
   | endRange l =>
    simp only [kstep] at h
    split at h
    ·rename_i jump N' hj
     refine reach_one fun main E w under hs hu => ?_
     have ht := hs.top
     have hl : E.D l := ht.its (.endRange l) (by simp)
     obtain ⟨w', R', X, hend⟩ := endLoop_ok hs.rel hl hj
     have XC := X.toC (fun _ => False)
     obtain ⟨x1, x2⟩ := SF.ext XC ht
     obtain ⟨es, hes, hst⟩ := g_endRangeFunc (main := main) (b := SF.base E ⟨fn, ar, kd, false, a, .endRange l :: k⟩) (a := E.act a.abs) (k := k.map (It.item E)) (cs := cs.map (SF.frame E) ++ under) hend
     cases jump with
     | none =>
      simp only [Option.some.injEq] at h
      subst h
      refine ⟨E, w', es, hs.turn R' XC ⟨ht.a, x2.clo, x2.ar, fun it hit => x2.its it (by simp [hit]), x2.ret, x2.kd⟩ rfl, X, ?_, fun lo O W hlo ow => hes.ok (endLoop_evs hs.rel ow hl hj hlo R' hend)⟩
      unfold St.gor
      rw [SF.frame_run E rfl, SF.frame_run E rfl]
      exact hst
     | some j =>
      simp only [Option.some.injEq] at h
      subst h
      refine ⟨E, w', es, hs.turn R' XC ⟨ht.a, x2.clo, x2.ar, fun it hit => by
       rcases List.mem_cons.1 hit with rfl | hit
       ·trivial
       ·exact x2.its it (by simp [hit]), x2.ret, x2.kd⟩ rfl, X, ?_, fun lo O W hlo ow => hes.ok (endLoop_evs hs.rel ow hl hj hlo R' hend)⟩
      unfold St.gor
      rw [SF.frame_run E rfl, SF.frame_run E rfl]
      exact hst
    ·cases h
   | beginRound =>
    cases ar with
    | none => cases h
    | some l =>
     simp only [kstep] at h
     split at h
     ·rename_i N' hj
      simp only [Option.some.injEq] at h
      subst h
      refine reach_one fun main E w under hs hu => ?_
      have ht := hs.top
      have hl : E.D l := ht.ar l rfl
      obtain ⟨w', R', X, hbeg⟩ := beginRound_ok hs.rel hl hj
      have XC := X.toC (fun _ => False)
      obtain ⟨x1, x2⟩ := SF.ext XC ht
      obtain ⟨es, hes, hst⟩ := g_beginRound (main := main) (b := SF.base E ⟨fn, some l, kd, false, a, .beginRound :: k⟩) (a := E.act a.abs) (k := k.map (It.item E)) (cs := cs.map (SF.frame E) ++ under) (l := E.f l) rfl hbeg
      refine ⟨E, w', es, hs.turn R' XC ⟨ht.a, x2.clo, x2.ar, fun it hit => x2.its it (by simp [hit]), x2.ret, x2.kd⟩ rfl, X, ?_, fun lo O W hlo ow => hes.ok (beginRound_evs hs.rel ow hl hj hlo R' hbeg)⟩
      unfold St.gor
      rw [SF.frame_run E rfl, SF.frame_run E rfl]
      exact hst
     ·cases h
theorem krun_ok {P : Program} (hP : NoCount P) (hm : P.follows .mixedOrders = true) {A B : Rec} (hAB : A.Le B) (hB : RecOk P B) : ∀ (n : Nat) {S S' : St}, krun P A n S = some S' → Reach P S S'
 | 0, S, S', h => by
  simp only [krun, Option.some.injEq] at h
  subst h
  exact Reach.refl P S
 | n + 1, S, S', h => by
  simp only [krun] at h
  split at h
  ·rename_i S1 h1
   exact (kstep_ok hP hm hAB hB h1).trans (krun_ok hP hm hAB hB n h)
  ·cases h
end
end Go.Eng
namespace Go.Eng
noncomputable section
open Go.Conc (G)
set_option linter.unusedSimpArgs false
set_option linter.unusedVariables false
set_option linter.unusedSectionVars false
variable [Hk]
structure SnapF where
 fn : FuncId
 ar : Option Nat
 kd : CallKind
 ret : Bool
 tm : List Value
 dm : List DM
 k : List It
structure Snap where
 top : SnapF
 cs : List SnapF
 sz : Nat
 blocks : List (Option CB)
def SF.snap (s : SF) : SnapF := ⟨s.fn, s.ar, s.kd, s.ret, (List.range s.a.n).map s.a.get, s.a.dm, s.k⟩
def St.snap (keys : List Nat) (S : St) : Snap := ⟨S.top.snap, S.cs.map SF.snap, S.N.sz, keys.map S.N.get⟩
def SnapF.sf (s : SnapF) : SF := ⟨s.fn, s.ar, s.kd, s.ret, ⟨s.tm.length, Tr.tab s.tm.length s.tm.length (fun k => s.tm.getD k undef), s.dm⟩, s.k⟩
def fill (sz : Nat) : List Nat → List (Option CB) → Tr CB → Tr CB
 | k :: ks, some b :: bs, t => if k < sz then fill sz ks bs (t.set k b) else fill sz ks bs t
 | _ :: ks, none :: bs, t => fill sz ks bs t
 | _, _, t => t
def Snap.st (keys : List Nat) (T : Snap) : St := ⟨T.top.sf, T.cs.map SnapF.sf, ⟨T.sz, 0, 0, fill T.sz keys T.blocks (Tr.skel T.sz T.sz)⟩⟩
theorem SF.snap_abs (s : SF) : s.snap.sf.a.abs = s.a.abs ∧ s.snap.sf.a.Ok := by
 obtain ⟨h1, h2⟩ := FA.ofList_ok ((List.range s.a.n).map s.a.get)
 refine ⟨?_, h1⟩
 have h3 := congrArg CA.tmps h2
 have e : s.snap.sf.a.abs = ⟨(FA.ofList ((List.range s.a.n).map s.a.get)).abs.tmps, s.a.dm⟩ := rfl
 rw [e, h3]
 rfl
theorem SF.snap_frame (E : Env) (s : SF) : s.snap.sf.frame E = s.frame E := by
 unfold SF.frame
 rw [(SF.snap_abs s).1]
 rfl
theorem SF.snap_ok {D : Nat → Prop} {s : SF} (h : s.Ok D) : s.snap.sf.Ok D :=
 ⟨(SF.snap_abs s).2, by rw [(SF.snap_abs s).1]; exact h.clo, h.ar, h.its, h.ret, h.kd⟩
theorem stk_snap : ∀ {l : List SF}, StkOk l → StkOk (l.map fun s => s.snap.sf)
 | [], _ => trivial
 | s :: r, h => by
  refine ⟨?_, stk_snap h.2⟩
  rcases h.1 with h1 | ⟨h1, rfl | ⟨c, r', rfl, hc⟩⟩
  ·exact .inl h1
  ·exact .inr ⟨h1, .inl rfl⟩
  ·exact .inr ⟨h1, .inr ⟨c.snap.sf, _, rfl, hc⟩⟩
theorem fill_ok {sz : Nat} {g : Nat → Option CB} : ∀ (ks : List Nat) (t : Tr CB), t.Full sz → (∀ k b, t.get k = some b → g k = some b) →
  (fill sz ks (ks.map g) t).Full sz ∧ ∀ k b, (fill sz ks (ks.map g) t).get k = some b → g k = some b
 | [], t, hf, h => ⟨hf, h⟩
 | k :: ks, t, hf, h => by
  rw [List.map_cons]
  cases hg : g k with
  | none => exact fill_ok ks t hf h
  | some b =>
   show (if k < sz then fill sz ks (ks.map g) (t.set k b) else fill sz ks (ks.map g) t).Full sz ∧ ∀ j c, (if k < sz then fill sz ks (ks.map g) (t.set k b) else fill sz ks (ks.map g) t).get j = some c → g j = some c
   by_cases hk : k < sz
   ·rw [if_pos hk]
    refine fill_ok ks _ (Tr.full_set hf k b hk) ?_
    intro j c hj
    rw [Tr.get_set hf k j (Nat.le_of_lt hk)] at hj
    by_cases e : j = k
    ·subst e
     rw [if_pos rfl] at hj
     cases hj
     exact hg
    ·rw [if_neg e] at hj
     exact h j c hj
   ·rw [if_neg hk]
    exact fill_ok ks t hf h
def beqI : Int → Int → Bool
 | .ofNat a, .ofNat b => Nat.beq a b
 | .negSucc a, .negSucc b => Nat.beq a b
 | _, _ => false
theorem beqI_eq {a b : Int} (h : beqI a b = true) : a = b := by
 cases a <;> cases b <;> simp only [beqI, Bool.false_eq_true] at h
 ·rw [Nat.eq_of_beq_eq_true h]
 ·rw [Nat.eq_of_beq_eq_true h]
def beqO : Option Nat → Option Nat → Bool
 | none, none => true
 | some a, some b => Nat.beq a b
 | _, _ => false
theorem beqO_eq {a b : Option Nat} (h : beqO a b = true) : a = b := by
 cases a <;> cases b <;> simp only [beqO, Bool.false_eq_true] at h
 ·rfl
 ·rw [Nat.eq_of_beq_eq_true h]
def beqB : Bool → Bool → Bool
 | true, true => true
 | false, false => true
 | _, _ => false
theorem beqB_eq {a b : Bool} (h : beqB a b = true) : a = b := by
 cases a <;> cases b <;> simp_all [beqB]
def beqL {α : Type} (f : α → α → Bool) : List α → List α → Bool
 | [], [] => true
 | a :: l, b :: m => and (f a b) (beqL f l m)
 | _, _ => false
theorem beqL_eq {α : Type} {f : α → α → Bool} (hf : ∀ a b, f a b = true → a = b) : ∀ {l m : List α}, beqL f l m = true → l = m
 | [], [], _ => rfl
 | [], _ :: _, h => by cases h
 | _ :: _, [], h => by cases h
 | a :: l, b :: m, h => by
  simp only [beqL, Bool.and_eq_true] at h
  rw [hf a b h.1, beqL_eq hf h.2]
def beqA : Addr → Addr → Bool
 | ⟨a, b, c⟩, ⟨d, e, f⟩ => and (Nat.beq a d) (and (Nat.beq b e) (beqO c f))
theorem beqA_eq {a b : Addr} (h : beqA a b = true) : a = b := by
 obtain ⟨a1, a2, a3⟩ := a
 obtain ⟨b1, b2, b3⟩ := b
 simp only [beqA, Bool.and_eq_true] at h
 rw [Nat.eq_of_beq_eq_true h.1, Nat.eq_of_beq_eq_true h.2.1, beqO_eq h.2.2]
def beqOA : Option Addr → Option Addr → Bool
 | none, none => true
 | some a, some b => beqA a b
 | _, _ => false
theorem beqOA_eq {a b : Option Addr} (h : beqOA a b = true) : a = b := by
 cases a <;> cases b <;> simp only [beqOA, Bool.false_eq_true] at h
 ·rfl
 ·rw [beqA_eq h]
def beqS (a b : ByteArray) : Bool := beqL (fun x y => Nat.beq x.toNat y.toNat) a.data.toList b.data.toList
theorem beqS_eq {a b : ByteArray} (h : beqS a b = true) : a = b := by
 have := beqL_eq (fun x y hxy => UInt8.toNat_inj.1 (Nat.eq_of_beq_eq_true hxy)) h
 exact ByteArray.ext (Array.ext' this)
def beqF (a b : Fn) : Bool := match a, b with
 | .func f, .func g => Nat.beq f g
 | .yield l, .yield m => Nat.beq l m
 | x, y => decide (x = y)
theorem beqF_eq {a b : Fn} (h : beqF a b = true) : a = b := by
 unfold beqF at h
 split at h
 ·rw [Nat.eq_of_beq_eq_true h]
 ·rw [Nat.eq_of_beq_eq_true h]
 ·exact of_decide_eq_true h
mutual
def sameV : Value → Value → Bool
 | .bool a, b => match b with | .bool b => beqB a b | _ => false
 | .int k a, b => match b with | .int j b => and (decide (k = j)) (beqI a b) | _ => false
 | .string a, b => match b with | .string b => beqS a b | _ => false
 | .pointer a, b => match b with | .pointer b => beqOA a b | _ => false
 | .slice a l c, b => match b with | .slice b m d => and (beqOA a b) (and (Nat.beq l m) (Nat.beq c d)) | _ => false
 | .map a, b => match b with | .map b => beqO a b | _ => false
 | .chan a, b => match b with | .chan b => beqO a b | _ => false
 | .func f ⟨p⟩ ⟨q⟩, b => match b with | .func g p' q' => and (beqF f g) (and (sameL p p'.toList) (sameL q q'.toList)) | _ => false
 | .nilFunc, b => match b with | .nilFunc => true | _ => false
 | .iface t v, b => match b with | .iface u w => and (Nat.beq t u) (sameV v w) | _ => false
 | .nilIface, b => match b with | .nilIface => true | _ => false
 | .agg ⟨cs⟩, b => match b with | .agg ds => sameL cs ds.toList | _ => false
 | .tuple ⟨cs⟩, b => match b with | .tuple ds => sameL cs ds.toList | _ => false
 | _, _ => false
def sameL : List Value → List Value → Bool
 | [], m => match m with | [] => true | _ => false
 | a :: l, m => match m with | b :: m => and (sameV a b) (sameL l m) | [] => false
end
mutual
theorem sameV_eq : ∀ (a b : Value), sameV a b = true → a = b
 | .bool a, b, h => by
  cases b <;> simp only [sameV, Bool.false_eq_true] at h
  rw [beqB_eq h]
 | .int k a, b, h => by
  cases b <;> simp only [sameV, Bool.false_eq_true, Bool.and_eq_true, decide_eq_true_eq] at h
  rw [h.1, beqI_eq h.2]
 | .string a, b, h => by
  cases b <;> simp only [sameV, Bool.false_eq_true] at h
  rw [beqS_eq h]
 | .pointer a, b, h => by
  cases b <;> simp only [sameV, Bool.false_eq_true] at h
  rw [beqOA_eq h]
 | .slice a l c, b, h => by
  cases b <;> simp only [sameV, Bool.false_eq_true, Bool.and_eq_true] at h
  rw [beqOA_eq h.1, Nat.eq_of_beq_eq_true h.2.1, Nat.eq_of_beq_eq_true h.2.2]
 | .map a, b, h => by
  cases b <;> simp only [sameV, Bool.false_eq_true] at h
  rw [beqO_eq h]
 | .chan a, b, h => by
  cases b <;> simp only [sameV, Bool.false_eq_true] at h
  rw [beqO_eq h]
 | .func f ⟨p⟩ ⟨q⟩, b, h => by
  cases b <;> simp only [sameV, Bool.false_eq_true, Bool.and_eq_true] at h
  rename_i g p' q'
  have h1 := sameL_eq p p'.toList h.2.1
  have h2 := sameL_eq q q'.toList h.2.2
  subst h1 h2
  rw [beqF_eq h.1]
 | .nilFunc, b, h => by
  cases b <;> simp only [sameV, Bool.false_eq_true] at h
  rfl
 | .iface t v, b, h => by
  cases b <;> simp only [sameV, Bool.false_eq_true, Bool.and_eq_true] at h
  rename_i u w
  rw [Nat.eq_of_beq_eq_true h.1, sameV_eq v w h.2]
 | .nilIface, b, h => by
  cases b <;> simp only [sameV, Bool.false_eq_true] at h
  rfl
 | .agg ⟨cs⟩, b, h => by
  cases b <;> simp only [sameV, Bool.false_eq_true] at h
  rename_i ds
  have h1 := sameL_eq cs ds.toList h
  subst h1
  rfl
 | .tuple ⟨cs⟩, b, h => by
  cases b <;> simp only [sameV, Bool.false_eq_true] at h
  rename_i ds
  have h1 := sameL_eq cs ds.toList h
  subst h1
  rfl
 | .float .., b, h => by cases b <;> simp only [sameV, Bool.false_eq_true] at h
 | .complex .., b, h => by cases b <;> simp only [sameV, Bool.false_eq_true] at h
theorem sameL_eq : ∀ (l m : List Value), sameL l m = true → l = m
 | [], m, h => by
  cases m <;> simp only [sameL, Bool.false_eq_true] at h
  rfl
 | a :: l, m, h => by
  cases m <;> simp only [sameL, Bool.false_eq_true, Bool.and_eq_true] at h
  rename_i b m
  rw [sameV_eq a b h.1, sameL_eq l m h.2]
end
def beqE : Value × Value × Nat → Value × Value × Nat → Bool
 | (a, b, c), (d, e, f) => and (sameV a d) (and (sameV b e) (Nat.beq c f))
theorem beqE_eq (a b : Value × Value × Nat) (h : beqE a b = true) : a = b := by
 obtain ⟨a1, a2, a3⟩ := a
 obtain ⟨b1, b2, b3⟩ := b
 simp only [beqE, Bool.and_eq_true] at h
 rw [sameV_eq _ _ h.1, sameV_eq _ _ h.2.1, Nat.eq_of_beq_eq_true h.2.2]
def beqC : CB → CB → Bool
 | .row c e el, b => match b with | .row d f em => and (sameL c d) (and (Nat.beq e f) (beqB el em)) | _ => false
 | .map es c, b => match b with | .map fs d => and (beqL beqE es fs) (Nat.beq c d) | _ => false
 | .dfr, b => match b with | .dfr => true | _ => false
 | .iter s p, b => match b with | .iter t q => and (beqS s t) (Nat.beq p q) | _ => false
 | .miter m a c d, b => match b with | .miter n e f g => and (beqO m n) (and (Nat.beq a e) (and (beqL Nat.beq c.toList f.toList) (Nat.beq d g))) | _ => false
 | .dead, b => match b with | .dead => true | _ => false
 | .loop _, _ => false
 | .far _ _ _, _ => false
 | .win c, b => match b with | .win d => sameL c d | _ => false
theorem beqC_eq {a b : CB} (h : beqC a b = true) : a = b := by
 cases a with
 | row c e el =>
  cases b <;> simp only [beqC, Bool.false_eq_true, Bool.and_eq_true] at h
  rw [sameL_eq _ _ h.1, Nat.eq_of_beq_eq_true h.2.1, beqB_eq h.2.2]
 | map es c =>
  cases b <;> simp only [beqC, Bool.false_eq_true, Bool.and_eq_true] at h
  rw [beqL_eq beqE_eq h.1, Nat.eq_of_beq_eq_true h.2]
 | dfr =>
  cases b <;> simp only [beqC, Bool.false_eq_true] at h
  rfl
 | iter s p =>
  cases b <;> simp only [beqC, Bool.false_eq_true, Bool.and_eq_true] at h
  rw [beqS_eq h.1, Nat.eq_of_beq_eq_true h.2]
 | miter m a c d =>
  cases b <;> simp only [beqC, Bool.false_eq_true, Bool.and_eq_true] at h
  rename_i n e f g
  have h1 : c = f := Array.ext' (beqL_eq (fun _ _ => Nat.eq_of_beq_eq_true) h.2.2.1)
  rw [beqO_eq h.1, Nat.eq_of_beq_eq_true h.2.1, h1, Nat.eq_of_beq_eq_true h.2.2.2]
 | dead =>
  cases b <;> simp only [beqC, Bool.false_eq_true] at h
  rfl
 | loop l => cases h
 | far n f e => cases h
 | win c =>
  cases b <;> simp only [beqC, Bool.false_eq_true] at h
  rw [sameL_eq _ _ h]
def beqOC : Option CB → Option CB → Bool
 | none, none => true
 | some a, some b => beqC a b
 | _, _ => false
theorem beqOC_eq {a b : Option CB} (h : beqOC a b = true) : a = b := by
 cases a <;> cases b <;> simp only [beqOC, Bool.false_eq_true] at h
 ·rfl
 ·rw [beqC_eq h]
def beqD : DM → DM → Bool
 | .coll a, b => match b with | .coll b => Nat.beq a b | _ => false
 | .call f q a, b => match b with | .call g r c => and (Nat.beq f g) (and (sameL q r) (sameL a c)) | _ => false
def beqK : CallKind → CallKind → Bool
 | .normal, .normal => true
 | .deferred, .deferred => true
 | _, _ => false
def SF.fits (s : SF) (t : SnapF) : Bool := and (Nat.beq s.fn t.fn) (and (beqO s.ar t.ar) (and (beqK s.kd t.kd) (and (beqB s.ret t.ret) (and (sameL ((List.range s.a.n).map s.a.get) t.tm) (beqL beqD s.a.dm t.dm)))))
def fitsL : List SF → List SnapF → Bool
 | [], [] => true
 | s :: l, t :: m => and (s.fits t) (fitsL l m)
 | _, _ => false
def St.ks (S : St) : List (List It) := S.top.k :: S.cs.map (·.k)
def Snap.ks (T : Snap) : List (List It) := T.top.k :: T.cs.map (·.k)
def St.fits (keys : List Nat) (T : Snap) (S : St) : Bool := and (S.top.fits T.top) (and (fitsL S.cs T.cs) (and (Nat.beq S.N.sz T.sz) (beqL beqOC (keys.map S.N.get) T.blocks)))
def outcome (keys : List Nat) (T : Snap) : Option St → Option (List (List It) × Bool)
 | some S => some (S.ks, S.fits keys T)
 | none => none
def St.final (P : Program) (f : FuncId) : St → Option (Value × List (Option CB))
 | ⟨⟨fn, ar, .normal, true, ⟨n, t, []⟩, k⟩, [], N⟩ => if fn = f then match P.funcs[fn]? with
  | some fd => match fresult P ⟨n, t, []⟩ N fd.results.toList with
   | some vs => some (kresult vs, N.heads)
   | none => none
  | none => none
  else none
 | _ => none
def codeSub : Code → List Nat → Code
 | c, [] => c
 | .seq x _, 0 :: p => codeSub x p
 | .seq _ y, _ :: p => codeSub y p
 | .cond _ x _, 0 :: p => codeSub x p
 | .cond _ _ y, _ :: p => codeSub y p
 | .block _ c, _ :: p => codeSub c p
 | .loop c, _ :: p => codeSub c p
 | .rangeFunc _ _ as _, 0 :: p => codeSub as p
 | .rangeFunc _ _ _ bd, _ :: p => codeSub bd p
 | c, _ => c
def codeAt (P : Program) (f : FuncId) (p : List Nat) : Code := match P.funcs[f]? with
 | some fn => match fn.body with
  | some c => codeSub c p
  | none => .skip
 | none => .skip
def regAt (P : Program) (f : FuncId) (p : List Nat) (i : Nat) : It := match codeAt P f p with
 | .region _ ops _ => .reg ops i (ops.toList.drop i)
 | _ => .beginRound
def vi (n : Nat) : Value := .int .i64 (.ofNat n)
def vp (b o : Nat) : Value := .pointer (some ⟨b, o, none⟩)
def un : Value := undef
end
end Go.Eng
