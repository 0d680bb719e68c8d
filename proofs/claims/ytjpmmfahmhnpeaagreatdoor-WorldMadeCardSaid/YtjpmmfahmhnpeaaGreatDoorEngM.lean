/-
  The engine, part M: the same doing with the temporaries in a tree and the operations taken one behind the other: what the kernel is to run.
-/
import Derived.Test.YtjpmmfahmhnpeaaGreatDoorEngL
import Derived.Test.YtjpmmfahmhnpeaaGreatDoorEngN
namespace Go.Eng
set_option linter.unusedSimpArgs false
set_option linter.unusedVariables false

theorem Tr.get_none {α : Type} {t : Tr α} : ∀ {n : Nat}, t.Full n → ∀ k, n ≤ k → t.get k = none := by
  induction t with
  | e => intro n _ k _; rfl
  | nd v l r hl hr =>
    intro n hf k hk
    obtain ⟨m, rfl, h1, h2⟩ := hf
    cases k with
    | zero => omega
    | succ k =>
      rw [Tr.get_succ]
      split
      · exact hl h1 _ (by omega)
      · exact hr h2 _ (by omega)
/-- n places, nothing in them. -/
def Tr.skel {α : Type} : Nat → Nat → Tr α
  | 0, _ => .e
  | f + 1, n => match n with
    | 0 => .e
    | m + 1 => .nd none (Tr.skel f (Nat.div (m + 1) 2)) (Tr.skel f (Nat.div m 2))
theorem Tr.full_skel {α : Type} : ∀ (f n : Nat), n ≤ f → (Tr.skel f n : Tr α).Full n
  | 0, n, h => by
    have : n = 0 := by omega
    subst this
    rfl
  | f + 1, 0, h => rfl
  | f + 1, m + 1, h => ⟨m, rfl, Tr.full_skel f ((m + 1) / 2) (by omega), Tr.full_skel f (m / 2) (by omega)⟩
theorem Tr.get_skel {α : Type} : ∀ (f n k : Nat), (Tr.skel f n : Tr α).get k = none
  | 0, _, _ => rfl
  | f + 1, 0, _ => rfl
  | f + 1, m + 1, 0 => rfl
  | f + 1, m + 1, k + 1 => by
    show (Tr.nd none (Tr.skel f ((m + 1) / 2)) (Tr.skel f (m / 2)) : Tr α).get (k + 1) = none
    rw [Tr.get_succ]
    split <;> exact Tr.get_skel f _ _
/-- n places with what g says. -/
def Tr.tab {α : Type} : Nat → Nat → (Nat → α) → Tr α
  | 0, _, _ => .e
  | f + 1, n, g => match n with
    | 0 => .e
    | m + 1 => .nd (some (g 0)) (Tr.tab f (Nat.div (m + 1) 2) fun k => g (2 * k + 1)) (Tr.tab f (Nat.div m 2) fun k => g (2 * k + 2))
theorem Tr.full_tab {α : Type} : ∀ (f n : Nat) (g : Nat → α), n ≤ f → (Tr.tab f n g).Full n
  | 0, n, g, h => by
    have : n = 0 := by omega
    subst this
    rfl
  | f + 1, 0, g, h => rfl
  | f + 1, m + 1, g, h => ⟨m, rfl, Tr.full_tab f ((m + 1) / 2) _ (by omega), Tr.full_tab f (m / 2) _ (by omega)⟩
theorem Tr.get_tab {α : Type} : ∀ (f n : Nat) (g : Nat → α), n ≤ f → ∀ k, k < n → (Tr.tab f n g).get k = some (g k)
  | 0, n, g, h, k, hk => by omega
  | f + 1, 0, g, h, k, hk => by omega
  | f + 1, m + 1, g, h, 0, hk => rfl
  | f + 1, m + 1, g, h, k + 1, hk => by
    show (Tr.nd (some (g 0)) (Tr.tab f ((m + 1) / 2) fun k => g (2 * k + 1)) (Tr.tab f (m / 2) fun k => g (2 * k + 2))).get (k + 1) = _
    rw [Tr.get_succ]
    split
    · rw [Tr.get_tab f _ _ (by omega) _ (by omega)]
      congr 2
      omega
    · rw [Tr.get_tab f _ _ (by omega) _ (by omega)]
      congr 2
      omega

/-- The temporaries in a tree: there are n. -/
structure FA where
  n : Nat
  t : Tr Value
  dm : List DM
def FA.get : FA → Nat → Value
  | ⟨_, t, _⟩, k => match t.get k with
    | some v => v
    | none => undef
def FA.abs (a : FA) : CA := ⟨(List.range a.n).map a.get, a.dm⟩
def FA.Ok (a : FA) : Prop := a.t.Full a.n
def FA.put : FA → Option Tmp → Value → FA
  | a, none, _ => a
  | ⟨n, t, dm⟩, some d, v => if d < n then ⟨n, t.set d v, dm⟩ else ⟨n, t, dm⟩
def FA.get? (a : FA) (k : Nat) : Option Value := if k < a.n then some (a.get k) else none
theorem FA.get_abs (a : FA) (k : Nat) : a.abs.tmps[k]? = a.get? k := by
  unfold FA.abs FA.get?
  rw [List.getElem?_map]
  by_cases h : k < a.n
  · rw [List.getElem?_range h, if_pos h]; rfl
  · rw [List.getElem?_eq_none (by simp; omega), if_neg h]; rfl
theorem FA.get_def (a : FA) (k : Nat) : a.get k = (a.t.get k).getD undef := by
  obtain ⟨n, t, dm⟩ := a
  show (match t.get k with | some v => v | none => undef) = _
  cases t.get k <;> rfl
theorem FA.getD_abs {a : FA} (h : a.Ok) (k : Nat) : a.abs.tmps.getD k undef = a.get k := by
  rw [List.getD_eq_getElem?_getD, FA.get_abs]
  unfold FA.get?
  split
  · rfl
  · rename_i hk
    have hn := Tr.get_none h k (Nat.le_of_not_lt hk)
    rw [FA.get_def, hn]
theorem FA.put_ok {a : FA} (h : a.Ok) (dst : Option Tmp) (v : Value) : (a.put dst v).Ok ∧ (a.put dst v).abs = a.abs.put dst v := by
  cases dst with
  | none => exact ⟨h, rfl⟩
  | some d =>
    obtain ⟨n, t, dm⟩ := a
    have hf : t.Full n := h
    show (if d < n then (⟨n, t.set d v, dm⟩ : FA) else ⟨n, t, dm⟩).Ok ∧ (if d < n then (⟨n, t.set d v, dm⟩ : FA) else ⟨n, t, dm⟩).abs = _
    by_cases hd : d < n
    · rw [if_pos hd]
      refine ⟨Tr.full_set hf d v hd, ?_⟩
      simp only [FA.abs, CA.put]
      congr 1
      apply List.ext_getElem?
      intro k
      by_cases hk : k < n
      · rw [List.getElem?_map, List.getElem?_range hk, Option.map_some, FA.get_def]
        by_cases e : d = k
        · subst e
          rw [List.getElem?_set_self (by simpa using hk)]
          simp only
          rw [Tr.get_set hf d d (Nat.le_of_lt hd), if_pos rfl]
          rfl
        · rw [List.getElem?_set_ne e, List.getElem?_map, List.getElem?_range hk, Option.map_some, FA.get_def]
          simp only
          rw [Tr.get_set hf d k (Nat.le_of_lt hd), if_neg (Ne.symm e)]
      · have hk' : n ≤ k := Nat.le_of_not_lt hk
        rw [List.getElem?_eq_none (by simpa using hk'), List.getElem?_eq_none (by simpa using hk')]
    · rw [if_neg hd]
      refine ⟨h, ?_⟩
      simp only [FA.abs, CA.put]
      congr 1
      rw [List.set_eq_of_length_le (by simpa using Nat.le_of_not_lt hd)]
theorem FA.put_dm (a : FA) (dst : Option Tmp) (v : Value) : (a.put dst v).dm = a.dm := by
  obtain ⟨n, t, dm⟩ := a
  cases dst with
  | none => rfl
  | some d =>
    show (if d < n then (⟨n, t.set d v, dm⟩ : FA) else ⟨n, t, dm⟩).dm = dm
    split <;> rfl

/-- The first temporaries are the arguments. -/
def setL : List Value → Nat → Tr Value → Tr Value
  | [], _, t => t
  | v :: r, i, t => setL r (i + 1) (t.set i v)
theorem setL_ok : ∀ (l : List Value) (i n : Nat) (t : Tr Value), t.Full n → i + l.length ≤ n → (setL l i t).Full n ∧ ∀ k, (setL l i t).get k = if i ≤ k ∧ k < i + l.length then l[k - i]? else t.get k
  | [], i, n, t, hf, h => ⟨hf, fun k => by rw [if_neg (by simp only [List.length_nil]; omega)]; rfl⟩
  | v :: r, i, n, t, hf, h => by
    simp only [List.length_cons] at h
    obtain ⟨h1, h2⟩ := setL_ok r (i + 1) n (t.set i v) (Tr.full_set hf i v (by omega)) (by omega)
    refine ⟨h1, fun k => ?_⟩
    show (setL r (i + 1) (t.set i v)).get k = _
    rw [h2 k]
    simp only [List.length_cons]
    by_cases hk : i + 1 ≤ k ∧ k < i + 1 + r.length
    · rw [if_pos hk, if_pos (by omega), show k - i = (k - (i + 1)) + 1 by omega, List.getElem?_cons_succ]
    · rw [if_neg hk, Tr.get_set hf i k (by omega)]
      by_cases e : k = i
      · subst e
        rw [if_pos rfl, if_pos (by omega)]
        simp
      · rw [if_neg e, if_neg (by omega)]
def FA.init (n : Nat) (args : List Value) : FA := ⟨n, setL args 0 (Tr.skel n n), []⟩
theorem FA.init_ok {n : Nat} {args : List Value} (h : args.length ≤ n) : (FA.init n args).Ok ∧ (FA.init n args).abs = ⟨args ++ List.replicate (n - args.length) undef, []⟩ := by
  obtain ⟨h1, h2⟩ := setL_ok args 0 n (Tr.skel n n) (Tr.full_skel n n (Nat.le_refl _)) (by omega)
  refine ⟨h1, ?_⟩
  simp only [FA.abs, FA.init]
  congr 1
  apply List.ext_getElem?
  intro k
  by_cases hk : k < n
  · rw [List.getElem?_map, List.getElem?_range hk, Option.map_some, FA.get_def]
    simp only
    rw [h2 k, Tr.get_skel]
    by_cases ha : k < args.length
    · rw [if_pos (by omega), List.getElem?_append_left ha]
      simp [ha]
    · rw [if_neg (by omega), List.getElem?_append_right (by omega), List.getElem?_replicate, if_pos (by omega)]
      rfl
  · rw [List.getElem?_eq_none (by simp; omega), List.getElem?_eq_none (by simp; omega)]
def FA.ofList (l : List Value) : FA := ⟨l.length, Tr.tab l.length l.length fun k => l.getD k undef, []⟩
theorem FA.ofList_ok (l : List Value) : (FA.ofList l).Ok ∧ (FA.ofList l).abs = ⟨l, []⟩ := by
  refine ⟨Tr.full_tab _ _ _ (Nat.le_refl _), ?_⟩
  simp only [FA.abs, FA.ofList]
  congr 1
  apply List.ext_getElem?
  intro k
  by_cases hk : k < l.length
  · rw [List.getElem?_map, List.getElem?_range hk, Option.map_some, FA.get_def]
    simp only
    rw [Tr.get_tab _ _ _ (Nat.le_refl _) k hk]
    simp [hk]
  · rw [List.getElem?_eq_none (by simp; omega), List.getElem?_eq_none (by omega)]

/-! ### operations -/
def fev (a : FA) : Ev
  | .tmp t => some (a.get t)
  | .const v => if plain v = true then some v else none
  | .func f => some (.func (.func f) #[] #[])
  | .global g => if g < LIM then some (.pointer (some ⟨g, 0, none⟩)) else none
theorem fev_eq {a : FA} (h : a.Ok) : fev a = cev a.abs := by
  funext x
  cases x with
  | tmp t => show some (a.get t) = some (a.abs.tmps.getD t undef); rw [FA.getD_abs h]
  | _ => rfl
def fevOn (ts : List Tmp) (a : FA) : Ev
  | .tmp t => if ts.contains t = true then some (a.get t) else none
  | x => fev a x
theorem fevOn_eq {a : FA} (h : a.Ok) (ts : List Tmp) : fevOn ts a = cevOn ts a.abs := by
  funext x
  cases x with
  | tmp t => show (if ts.contains t = true then some (a.get t) else none) = (if ts.contains t = true then some (a.abs.tmps.getD t undef) else none); rw [FA.getD_abs h]
  | const v => rfl
  | global g => rfl
  | func f => rfl
def fyielded (ops : Array Oper) (a : FA) (j : Nat) : Option Bool :=
  match ((ops[j]?).bind (·.dst)).bind a.get? with
  | some (.bool b) => some b
  | _ => none
theorem fyielded_eq (ops : Array Oper) (a : FA) : fyielded ops a = cyielded ops a.abs.tmps := by
  funext j
  unfold fyielded cyielded
  have : (fun x : Nat => a.abs.tmps[x]?) = a.get? := by funext x; exact FA.get_abs a x
  rw [this]
  cases ((ops[j]?).bind (·.dst)).bind a.get? with
  | none => rfl
  | some v => cases v <;> rfl
def fguardSeen (ops : Array Oper) (a : FA) (o : Oper) : Bool :=
  match o.guard with
  | none => true
  | some (g, _) => match ((ops[g]?).bind (·.dst)).bind a.get? with
    | some (.chan (some _)) => false
    | _ => true
theorem fguardSeen_eq (ops : Array Oper) (a : FA) (o : Oper) : fguardSeen ops a o = guardSeen ops a.abs.tmps o := by
  unfold fguardSeen guardSeen
  have : (fun x : Nat => a.abs.tmps[x]?) = a.get? := by funext x; exact FA.get_abs a x
  rw [this]
  cases o.guard with
  | none => rfl
  | some gw =>
    obtain ⟨g, want⟩ := gw
    simp only
    cases ((ops[g]?).bind (·.dst)).bind a.get? with
    | none => rfl
    | some v =>
      cases v with
      | chan r => cases r <;> rfl
      | _ => rfl

/-- What the one answers, the other answers. -/
structure Rec.Le (A B : Rec) : Prop where
  call : ∀ f args N r, A.call f args N = some r → B.call f args N = some r
  round : ∀ l f tmps as bd N r, A.round l f tmps as bd N = some r → B.round l f tmps as bd N = some r
theorem evalOp_le {P : Program} {A B : Rec} (h : A.Le B) {ev : Ev} {o : Oper} {N : CH} {r : Value × CH} (hr : evalOp P A ev o N = some r) : evalOp P B ev o N = some r := by
  unfold evalOp at hr ⊢
  split at hr <;> first | exact hr | exact h.call _ _ _ _ hr | exact h.round _ _ _ _ _ _ _ hr | cases hr

def fgo (P : Program) (R : Rec) (ar : Option Nat) (o : Oper) (a : FA) (N : CH) : Option (FA × CH) :=
  match kop P (fev a) o N with
  | some (.val v, N') => some (a.put o.dst v, N')
  | some (.skip, N') => some (a.put o.dst undef, N')
  | some (.enter f args, N') => match R.call f args N' with
    | some (v, N2) => some (a.put o.dst v, N2)
    | none => none
  | some (.round l f tmps as bd, N') => match R.round l f tmps as bd N' with
    | some (v, N2) => some (a.put o.dst v, N2)
    | none => none
  | none => match ar with
    | some _ => none
    | none => match cdefer (fev a) o with
      | some d => some ({ a.put o.dst undef with dm := d :: a.dm }, N)
      | none => if crecover o = true then some (a.put o.dst .nilIface, N) else none
def fopStep (P : Program) (R : Rec) (ops : Array Oper) (ar : Option Nat) (o : Oper) (a : FA) (N : CH) : Option (FA × CH) :=
  match o.guard with
  | none => fgo P R ar o a N
  | some _ => if fguardSeen ops a o = true then if Region.wanted o (fyielded ops a) = true then fgo P R ar o a N else some (a.put o.dst undef, N) else none
def fopList (P : Program) (R : Rec) (ops : Array Oper) (ar : Option Nat) : List Oper → FA → CH → Option (FA × CH)
  | [], a, N => some (a, N)
  | o :: r, a, N => match fopStep P R ops ar o a N with
    | some (a', N') => fopList P R ops ar r a' N'
    | none => none

theorem fopStep_ok {P : Program} {A B : Rec} (h : A.Le B) {ops : Array Oper} {ar : Option Nat} {i : Nat} {o : Oper} (ho : ops[i]? = some o) {a a' : FA} {N N' : CH} (ha : a.Ok) (hs : fopStep P A ops ar o a N = some (a', N')) :
    opStep P B ops ar i a.abs N = some (a'.abs, N') ∧ a'.Ok := by
  have hgo : ∀ a' N', fgo P A ar o a N = some (a', N') → (match cop P (cev a.abs) o N with
      | some (.val v, N') => some (a.abs.put o.dst v, N')
      | some (.skip, N') => some (a.abs.put o.dst undef, N')
      | some (.enter f args, N') => (B.call f args N').map fun r => (a.abs.put o.dst r.1, r.2)
      | some (.round l f tmps as bd, N') => (B.round l f tmps as bd N').map fun r => (a.abs.put o.dst r.1, r.2)
      | none => if ar.isSome = true then none else match cdefer (cev a.abs) o with
        | some d => some ({ a.abs.put o.dst undef with dm := d :: a.abs.dm }, N)
        | none => if crecover o = true then some (a.abs.put o.dst .nilIface, N) else none) = some (a'.abs, N') ∧ a'.Ok := by
    intro a' N' hg
    unfold fgo at hg
    rw [kop_eq, fev_eq ha] at hg
    have hp : ∀ v, (a.put o.dst v).Ok ∧ (a.put o.dst v).abs = a.abs.put o.dst v := fun v => FA.put_ok ha o.dst v
    cases hc : cop P (cev a.abs) o N with
    | none =>
      simp only [hc] at hg
      cases ar with
      | some l => cases hg
      | none =>
        simp only at hg
        cases hd : cdefer (cev a.abs) o with
        | some d =>
          simp only [hd, Option.some.injEq, Prod.mk.injEq] at hg
          obtain ⟨rfl, rfl⟩ := hg
          refine ⟨?_, (hp undef).1⟩
          have e1 : ({ a.put o.dst undef with dm := d :: a.dm } : FA).abs = { a.abs.put o.dst undef with dm := d :: a.abs.dm } := by
            rw [← (hp undef).2]
            rfl
          rw [e1]
          simp
        | none =>
          simp only [hd] at hg
          split at hg
          · rename_i hre
            simp only [Option.some.injEq, Prod.mk.injEq] at hg
            obtain ⟨rfl, rfl⟩ := hg
            exact ⟨by rw [(hp _).2]; simp [hre], (hp _).1⟩
          · cases hg
    | some r =>
      obtain ⟨nx, N1⟩ := r
      cases nx with
      | val v =>
        simp only [hc, Option.some.injEq, Prod.mk.injEq] at hg
        obtain ⟨rfl, rfl⟩ := hg
        exact ⟨by rw [(hp _).2], (hp _).1⟩
      | skip =>
        simp only [hc, Option.some.injEq, Prod.mk.injEq] at hg
        obtain ⟨rfl, rfl⟩ := hg
        exact ⟨by rw [(hp _).2], (hp _).1⟩
      | enter f args =>
        simp only [hc] at hg
        split at hg
        · rename_i v N2 hr
          simp only [Option.some.injEq, Prod.mk.injEq] at hg
          obtain ⟨rfl, rfl⟩ := hg
          exact ⟨by simp only [h.call _ _ _ _ hr, (hp _).2]; rfl, (hp _).1⟩
        · cases hg
      | round l f tmps as bd =>
        simp only [hc] at hg
        split at hg
        · rename_i v N2 hr
          simp only [Option.some.injEq, Prod.mk.injEq] at hg
          obtain ⟨rfl, rfl⟩ := hg
          exact ⟨by simp only [h.round _ _ _ _ _ _ _ hr, (hp _).2]; rfl, (hp _).1⟩
        · cases hg
  unfold opStep
  simp only [ho]
  unfold fopStep at hs
  split at hs
  · rename_i hgu
    have h1 : guardSeen ops a.abs.tmps o = true := by simp [guardSeen, hgu]
    have h2 : Region.wanted o (cyielded ops a.abs.tmps) = true := by simp [Region.wanted, hgu]
    rw [if_neg (by rw [h1]; simp), if_pos h2]
    exact hgo _ _ hs
  · split at hs
    · rename_i hgs
      rw [fguardSeen_eq] at hgs
      rw [if_neg (by rw [hgs]; simp)]
      rw [fyielded_eq] at hs
      split at hs
      · rename_i hw
        rw [if_pos hw]
        exact hgo _ _ hs
      · rename_i hw
        rw [if_neg hw]
        simp only [Option.some.injEq, Prod.mk.injEq] at hs
        obtain ⟨rfl, rfl⟩ := hs
        obtain ⟨h3, h4⟩ := FA.put_ok ha o.dst undef
        exact ⟨by rw [h4], h3⟩
    · cases hs
theorem fopList_ok {P : Program} {A B : Rec} (h : A.Le B) {ops : Array Oper} {ar : Option Nat} : ∀ (l : List Oper) (i : Nat), (∀ j o, l[j]? = some o → ops[i + j]? = some o) → ∀ {a a' : FA} {N N' : CH}, a.Ok →
    fopList P A ops ar l a N = some (a', N') → opList P B ops ar (List.range' i l.length) a.abs N = some (a'.abs, N') ∧ a'.Ok
  | [], i, _, a, a', N, N', ha, hs => by
    simp only [fopList, Option.some.injEq, Prod.mk.injEq] at hs
    obtain ⟨rfl, rfl⟩ := hs
    exact ⟨rfl, ha⟩
  | o :: r, i, hl, a, a', N, N', ha, hs => by
    simp only [fopList] at hs
    split at hs
    · rename_i a1 N1 h1
      obtain ⟨h2, h3⟩ := fopStep_ok h (i := i) (by simpa using hl 0 o rfl) ha h1
      obtain ⟨h4, h5⟩ := fopList_ok h r (i + 1) (fun j o' hj => by
        have := hl (j + 1) o' (by simpa using hj)
        rwa [show i + (j + 1) = i + 1 + j by omega] at this) h3 hs
      refine ⟨?_, h5⟩
      simp only [List.length_cons, List.range'_succ, opList, h2, Option.bind_some]
      exact h4
    · cases hs

/-! ### regions that leave their order open -/
def kevalOp (P : Program) (R : Rec) (ev : Ev) (o : Oper) (N : CH) : Option (Value × CH) :=
  match kop P ev o N with
  | some (.val v, N') => some (v, N')
  | some (.skip, N') => some (undef, N')
  | some (.enter f args, N') => R.call f args N'
  | some (.round l f tmps as bd, N') => R.round l f tmps as bd N'
  | none => none
theorem kevalOp_eq (P : Program) (R : Rec) (ev : Ev) (o : Oper) (N : CH) : kevalOp P R ev o N = evalOp P R ev o N := by unfold kevalOp evalOp; rw [kop_eq]; rfl
structure FDS where
  a : FA
  N : CH
  kd : Kd
  v : Value
def FDS.ds (s : FDS) : DS := ⟨s.a.abs, s.N, s.kd, s.v⟩
def fcstep (P : Program) (R : Rec) (ops : Array Oper) (o : Oper) (a : FA) (N : CH) : Option (Kd × Value × CH) :=
  if fguardSeen ops a o = true then
    if Region.wanted o (fyielded ops a) = true then
      match kop P (fevOn (o.looksAt ops) a) o (CH.blind N.sz) with
      | some (.val v, B) => match merge (B.sz - N.sz) N B with
        | some N' => some (.b, v, N')
        | none => none
      | _ => match kevalOp P R (fevOn (o.looksAt ops) a) o N.guarded with
        | some (v, G) => if N.sz ≤ G.wm then some (.q, v, ⟨G.sz, N.wm, G.base, G.t⟩) else some (.w, v, N.back G)
        | none => none
    else some (.b, undef, N)
  else none
def fcruns (P : Program) (R : Rec) (ops : Array Oper) : List Oper → FA → CH → Option (List FDS × FA × CH)
  | [], a, N => some ([], a, N)
  | o :: r, a, N => match fcstep P R ops o a N with
    | some (kd, v, N1) => match fcruns P R ops r (a.put o.dst v) N1 with
      | some (l, x) => some (⟨a, N, kd, v⟩ :: l, x)
      | none => none
    | none => none
def fcdraw (P : Program) (R : Rec) (ops : Array Oper) (a : FA) (N : CH) : Option (FA × CH) :=
  match fcruns P R ops ops.toList a N with
  | some (l, a', N') => if drawOk P R ops (l.map FDS.ds) ⟨a'.abs, N', .b, undef⟩ = true then some (a', N') else none
  | none => none
theorem fcstep_ok {P : Program} {A B : Rec} (h : A.Le B) {ops : Array Oper} {i : Nat} {o : Oper} (ho : ops[i]? = some o) {a : FA} {N : CH} (ha : a.Ok) {r : Kd × Value × CH} (hs : fcstep P A ops o a N = some r) : cstep P B ops i a.abs N = some r := by
  unfold fcstep at hs
  unfold cstep
  simp only [ho]
  split at hs
  · rename_i hg
    rw [fguardSeen_eq] at hg
    rw [if_neg (by rw [hg]; simp)]
    rw [fyielded_eq, fevOn_eq ha, kop_eq, kevalOp_eq] at hs
    split at hs
    · rename_i hw
      rw [if_pos hw]
      split at hs
      · rename_i v B' hb
        split at hs
        · rename_i N1 hm
          cases hs
          rw [hb]
          simp only [hm, Option.map_some]
        · cases hs
      · rename_i hb
        split
        · rename_i v B' hb'
          exact absurd hb' (hb v B')
        · split at hs
          · rename_i v G he
            rw [evalOp_le h he]
            exact hs
          · cases hs
    · rename_i hw
      rw [if_neg hw]
      exact hs
  · cases hs
theorem fcruns_ok {P : Program} {A B : Rec} (h : A.Le B) {ops : Array Oper} : ∀ (l : List Oper) (i : Nat), (∀ j o, l[j]? = some o → ops[i + j]? = some o) → ∀ {a a' : FA} {N N' : CH} {x : List FDS}, a.Ok →
    fcruns P A ops l a N = some (x, a', N') → cruns P B ops l.length i a.abs N = some (x.map FDS.ds, a'.abs, N') ∧ a'.Ok
  | [], i, _, a, a', N, N', x, ha, hs => by
    simp only [fcruns, Option.some.injEq, Prod.mk.injEq] at hs
    obtain ⟨rfl, rfl, rfl⟩ := hs
    exact ⟨rfl, ha⟩
  | o :: r, i, hl, a, a', N, N', x, ha, hs => by
    simp only [fcruns] at hs
    split at hs
    · rename_i kd v N1 h1
      split at hs
      · rename_i y z hy
        simp only [Option.some.injEq, Prod.mk.injEq] at hs
        obtain ⟨rfl, rfl⟩ := hs
        have ho : ops[i]? = some o := by simpa using hl 0 o rfl
        have h2 := fcstep_ok h ho ha h1
        obtain ⟨h3, h4⟩ := FA.put_ok ha o.dst v
        obtain ⟨h5, h6⟩ := fcruns_ok h r (i + 1) (fun j o' hj => by
          have := hl (j + 1) o' (by simpa using hj)
          rwa [show i + (j + 1) = i + 1 + j by omega] at this) h3 hy
        refine ⟨?_, h6⟩
        have hd : dstOf ops i = o.dst := by simp [dstOf, ho]
        simp only [List.length_cons, cruns, h2, Option.bind_some, hd, ← h4, h5, Option.map_some, List.map_cons]
        rfl
      · cases hs
    · cases hs
theorem lateEval_le {P : Program} {A B : Rec} (h : A.Le B) {ops : Array Oper} {s : DS} {i : Nat} {N : CH} (hs : lateEval P A ops s i N = true) : lateEval P B ops s i N = true := by
  unfold lateEval at hs ⊢
  split at hs
  · rename_i o ho
    simp only [Bool.and_eq_true] at hs ⊢
    refine ⟨hs.1, ?_⟩
    have h2 := hs.2
    split at h2
    · rename_i v G he
      rw [evalOp_le h he]
      exact h2
    · cases h2
  · cases hs
theorem drawOk_le {P : Program} {A B : Rec} (h : A.Le B) {ops : Array Oper} {l : List DS} {fin : DS} (hs : drawOk P A ops l fin = true) : drawOk P B ops l fin = true := by
  unfold drawOk at hs ⊢
  simp only [Bool.and_eq_true, Bool.or_eq_true, List.all_eq_true, List.mem_range, lateOk] at hs ⊢
  refine ⟨hs.1, hs.2.imp id fun hh => ⟨hh.1, fun i hi => ?_⟩⟩
  refine (hh.2 i hi).imp id fun h3 p hp => ?_
  refine (h3 p hp).imp id fun h4 => ⟨h4.1, lateEval_le h h4.2⟩
theorem fcdraw_ok {P : Program} {A B : Rec} (h : A.Le B) {ops : Array Oper} {a a' : FA} {N N' : CH} (ha : a.Ok) (hs : fcdraw P A ops a N = some (a', N')) : cdraw P B ops a.abs N = some (a'.abs, N') ∧ a'.Ok := by
  unfold fcdraw at hs
  split at hs
  · rename_i l a1 N1 hr
    split at hs
    · rename_i hd
      simp only [Option.some.injEq, Prod.mk.injEq] at hs
      obtain ⟨rfl, rfl⟩ := hs
      obtain ⟨h1, h2⟩ := fcruns_ok h ops.toList 0 (fun j o hj => by simpa using hj) ha hr
      refine ⟨?_, h2⟩
      have hsz : ops.toList.length = ops.size := by simp
      rw [hsz] at h1
      unfold cdraw
      rw [h1]
      simp only
      rw [if_pos (drawOk_le h hd)]
    · cases hs
  · cases hs

/-! ### code -/
def fiter (f : FA → CH → Option (Ex × FA × CH)) : Nat → FA → CH → Option (Ex × FA × CH)
  | 0, _, _ => none
  | n + 1, a, N => match f a N with
    | some (.normal, a', N') => fiter f n a' N'
    | r => r
def frangeCall (P : Program) (R : Rec) (a : FA) (f : Operand) (l : Nat) (N : CH) : Option (Value × CH) :=
  match fev a f with
  | some (.func (.func g) p q) =>
    match P.funcs[g]? with
    | some fn => if fn.body.isSome = true then R.call g (p.toList ++ [.func (.yield l) #[] #[]] ++ q.toList) N else none
    | none => none
  | _ => none
def fexec (P : Program) (R : Rec) (L : Nat) (fn : FuncId) (ar : Option Nat) : Code → FA → CH → Option (Ex × FA × CH)
  | .skip, a, N => some (.normal, a, N)
  | .region _ ops draw, a, N => match draw with
    | true => match fcdraw P R ops a N with
      | some (a', N') => some (.normal, a', N')
      | none => none
    | false => match fopList P R ops ar ops.toList a N with
      | some (a', N') => some (.normal, a', N')
      | none => none
  | .seq x y, a, N => match fexec P R L fn ar x a N with
    | some (.normal, a', N') => fexec P R L fn ar y a' N'
    | r => r
  | .cond c x y, a, N => match fev a c with
    | some (.bool true) => fexec P R L fn ar x a N
    | some (.bool false) => fexec P R L fn ar y a N
    | _ => none
  | .block id c, a, N => match fexec P R L fn ar c a N with
    | some (.exit id', a', N') => if id' = id then some (.normal, a', N') else some (.exit id', a', N')
    | r => r
  | .loop c, a, N => fiter (fexec P R L fn ar c) L a N
  | .exit id, a, N => some (.exit id, a, N)
  | .ret, a, N => some (.ret, a, N)
  | .rangeFunc f params as bd, a, N =>
    match centerLoop fn a.abs params as bd ar N with
    | some (l, a', N1) => match frangeCall P R a f l N1 with
      | some (_, N2) => match cendLoop l N2 with
        | some (jump, N3) => match jumpEx jump with
          | some e => some (e, { a with dm := a'.dm }, N3)
          | none => none
        | none => none
      | none => none
    | none => none
  | _, _, _ => none

theorem centerLoop_tmps {fn : FuncId} {a a' : CA} {params : Array Tmp} {as bd : Code} {ar : Option Nat} {N N' : CH} {l : Nat} (h : centerLoop fn a params as bd ar N = some (l, a', N')) : a'.tmps = a.tmps := by
  unfold centerLoop at h
  split at h
  · split at h
    · split at h
      · cases h; rfl
      · cases h
    · cases h
  · split at h
    · cases h; rfl
    · cases h
theorem crangeCall_dm (P : Program) (R : Rec) (a : CA) (dm : List DM) (f : Operand) (l : Nat) (N : CH) : crangeCall P R { a with dm := dm } f l N = crangeCall P R a f l N := rfl
theorem frangeCall_le {P : Program} {A B : Rec} (h : A.Le B) {a : FA} (ha : a.Ok) {f : Operand} {l : Nat} {N : CH} {r : Value × CH} (hs : frangeCall P A a f l N = some r) : crangeCall P B a.abs f l N = some r := by
  unfold frangeCall at hs
  unfold crangeCall
  rw [fev_eq ha] at hs
  split at hs
  · rename_i g p q hg
    simp only [hg]
    split at hs
    · rename_i fn hf
      simp only [hf]
      split at hs
      · rename_i hb
        rw [if_pos hb]
        exact h.call _ _ _ _ hs
      · cases hs
    · cases hs
  · cases hs
theorem fiter_ok {f : FA → CH → Option (Ex × FA × CH)} {g : CA → CH → Option (Ex × CA × CH)} (hfg : ∀ a N e a' N', a.Ok → f a N = some (e, a', N') → g a.abs N = some (e, a'.abs, N') ∧ a'.Ok) :
    ∀ (n : Nat) (a : FA) (N : CH) (e : Ex) (a' : FA) (N' : CH), a.Ok → fiter f n a N = some (e, a', N') → iter g n a.abs N = some (e, a'.abs, N') ∧ a'.Ok
  | 0, _, _, _, _, _, _, h => by cases h
  | n + 1, a, N, e, a', N', ha, h => by
    simp only [fiter] at h
    cases hx : f a N with
    | none => rw [hx] at h; cases h
    | some r =>
      obtain ⟨e1, a1, N1⟩ := r
      obtain ⟨h1, h2⟩ := hfg _ _ _ _ _ ha hx
      simp only [iter, h1]
      cases e1 with
      | normal =>
        simp only [hx] at h
        exact fiter_ok hfg n a1 N1 e a' N' h2 h
      | ret =>
        simp only [hx, Option.some.injEq, Prod.mk.injEq] at h
        obtain ⟨rfl, rfl, rfl⟩ := h
        exact ⟨rfl, h2⟩
      | exit id =>
        simp only [hx, Option.some.injEq, Prod.mk.injEq] at h
        obtain ⟨rfl, rfl, rfl⟩ := h
        exact ⟨rfl, h2⟩
theorem fexec_ok {P : Program} {A B : Rec} (h : A.Le B) (L : Nat) (fn : FuncId) (ar : Option Nat) : ∀ (c : Code) (a : FA) (N : CH) (e : Ex) (a' : FA) (N' : CH), a.Ok → fexec P A L fn ar c a N = some (e, a', N') →
    exec P B L fn ar c a.abs N = some (e, a'.abs, N') ∧ a'.Ok := by
  intro c
  induction c with
  | skip =>
    intro a N e a' N' ha hs
    simp only [fexec, Option.some.injEq, Prod.mk.injEq] at hs
    obtain ⟨rfl, rfl, rfl⟩ := hs
    exact ⟨rfl, ha⟩
  | region id ops draw =>
    intro a N e a' N' ha hs
    cases draw with
    | true =>
      simp only [fexec] at hs
      split at hs
      · rename_i a1 N1 h1
        simp only [Option.some.injEq, Prod.mk.injEq] at hs
        obtain ⟨rfl, rfl, rfl⟩ := hs
        obtain ⟨h2, h3⟩ := fcdraw_ok h ha h1
        exact ⟨by simp only [exec, if_true, h2, Option.map_some], h3⟩
      · cases hs
    | false =>
      simp only [fexec] at hs
      split at hs
      · rename_i a1 N1 h1
        simp only [Option.some.injEq, Prod.mk.injEq] at hs
        obtain ⟨rfl, rfl, rfl⟩ := hs
        obtain ⟨h2, h3⟩ := fopList_ok h ops.toList 0 (fun j o hj => by simpa using hj) ha h1
        have hsz : List.range' 0 ops.toList.length = List.range ops.size := by rw [List.range_eq_range']; simp
        rw [hsz] at h2
        exact ⟨by simp only [exec, Bool.false_eq_true, if_false, h2, Option.map_some], h3⟩
      · cases hs
  | seq x y ix iy =>
    intro a N e a' N' ha hs
    simp only [fexec] at hs
    cases hx : fexec P A L fn ar x a N with
    | none => rw [hx] at hs; cases hs
    | some r =>
      obtain ⟨e1, a1, N1⟩ := r
      obtain ⟨h1, h2⟩ := ix _ _ _ _ _ ha hx
      simp only [exec, h1]
      cases e1 with
      | normal =>
        simp only [hx] at hs
        exact iy _ _ _ _ _ h2 hs
      | ret =>
        simp only [hx, Option.some.injEq, Prod.mk.injEq] at hs
        obtain ⟨rfl, rfl, rfl⟩ := hs
        exact ⟨rfl, h2⟩
      | exit id =>
        simp only [hx, Option.some.injEq, Prod.mk.injEq] at hs
        obtain ⟨rfl, rfl, rfl⟩ := hs
        exact ⟨rfl, h2⟩
  | cond c x y ix iy =>
    intro a N e a' N' ha hs
    simp only [fexec] at hs
    rw [fev_eq ha] at hs
    split at hs
    · rename_i hc
      simp only [exec, hc]
      exact ix _ _ _ _ _ ha hs
    · rename_i hc
      simp only [exec, hc]
      exact iy _ _ _ _ _ ha hs
    · cases hs
  | block id c ic =>
    intro a N e a' N' ha hs
    simp only [fexec] at hs
    cases hx : fexec P A L fn ar c a N with
    | none => rw [hx] at hs; cases hs
    | some r =>
      obtain ⟨e1, a1, N1⟩ := r
      obtain ⟨h1, h2⟩ := ic _ _ _ _ _ ha hx
      simp only [exec, h1]
      cases e1 with
      | normal =>
        simp only [hx, Option.some.injEq, Prod.mk.injEq] at hs
        obtain ⟨rfl, rfl, rfl⟩ := hs
        exact ⟨rfl, h2⟩
      | ret =>
        simp only [hx, Option.some.injEq, Prod.mk.injEq] at hs
        obtain ⟨rfl, rfl, rfl⟩ := hs
        exact ⟨rfl, h2⟩
      | exit id' =>
        simp only [hx] at hs
        simp only
        split at hs
        · rename_i he
          simp only [Option.some.injEq, Prod.mk.injEq] at hs
          obtain ⟨rfl, rfl, rfl⟩ := hs
          exact ⟨by rw [if_pos he], h2⟩
        · rename_i he
          simp only [Option.some.injEq, Prod.mk.injEq] at hs
          obtain ⟨rfl, rfl, rfl⟩ := hs
          exact ⟨by rw [if_neg he], h2⟩
  | loop c ic =>
    intro a N e a' N' ha hs
    simp only [fexec] at hs
    exact fiter_ok (fun a N e a' N' ha hx => ic a N e a' N' ha hx) L a N e a' N' ha hs
  | exit id =>
    intro a N e a' N' ha hs
    simp only [fexec, Option.some.injEq, Prod.mk.injEq] at hs
    obtain ⟨rfl, rfl, rfl⟩ := hs
    exact ⟨rfl, ha⟩
  | ret =>
    intro a N e a' N' ha hs
    simp only [fexec, Option.some.injEq, Prod.mk.injEq] at hs
    obtain ⟨rfl, rfl, rfl⟩ := hs
    exact ⟨rfl, ha⟩
  | rangeFunc f params as bd _ _ =>
    intro a N e a' N' ha hs
    simp only [fexec] at hs
    split at hs
    · rename_i l a1 N1 h1
      split at hs
      · rename_i v N2 h2
        split at hs
        · rename_i jump N3 h3
          split at hs
          · rename_i e1 h4
            simp only [Option.some.injEq, Prod.mk.injEq] at hs
            obtain ⟨rfl, rfl, rfl⟩ := hs
            have h5 := frangeCall_le h ha h2
            refine ⟨?_, ha⟩
            have e2 : ({ a with dm := a1.dm } : FA).abs = a1 := by
              have := centerLoop_tmps h1
              obtain ⟨t1, d1⟩ := a1
              simp only at this
              subst this
              rfl
            simp only [exec, h1, Option.bind_some, h5, h3, h4, Option.map_some, e2]
          · cases hs
        · cases hs
      · cases hs
    · cases hs
  | _ => intro a N e a' N' ha hs; simp [fexec] at hs

/-! ### calls and rounds -/
def fresult (P : Program) (a : FA) (N : CH) : List ResultVar → Option (List Value)
  | [] => some []
  | .tmp t :: r => match fresult P a N r with
    | some l => some (a.get t :: l)
    | none => none
  | .cell x t :: r => match cload P t (a.get x) N with
    | some v => match fresult P a N r with
      | some l => some (v :: l)
      | none => none
    | none => none
theorem fresult_eq {P : Program} {a : FA} (ha : a.Ok) {N : CH} : ∀ (l : List ResultVar) {vs : List Value}, fresult P a N l = some vs → cresult P a.abs.tmps N l = some vs
  | [], vs, h => h
  | .tmp t :: r, vs, h => by
    simp only [fresult] at h
    split at h
    · rename_i us hu
      cases h
      simp only [cresult, fresult_eq ha r hu, Option.map_some, FA.getD_abs ha]
    · cases h
  | .cell x t :: r, vs, h => by
    simp only [fresult] at h
    split at h
    · rename_i v hv
      split at h
      · rename_i us hu
        cases h
        simp only [cresult, FA.getD_abs ha, hv, Option.bind_some, fresult_eq ha r hu, Option.map_some]
      · cases h
    · cases h
def fcallBody (P : Program) (R : Rec) (L : Nat) (f : FuncId) (args : List Value) (N : CH) : Option (Value × CH) :=
  match P.funcs[f]? with
  | none => none
  | some fn =>
    match fn.body with
    | none => none
    | some c =>
      if args.length ≤ fn.ntmps then
        match fexec P R L f none c (FA.init fn.ntmps args) N with
        | some (.exit _, _, _) => none
        | some (_, a, N1) => match takeAll R a.dm N1 with
          | some N2 => match fresult P a N2 fn.results.toList with
            | some [v] => some (v, N2)
            | some vs => some (.tuple vs.toArray, N2)
            | none => none
          | none => none
        | none => none
      else none
theorem takeAll_le {A B : Rec} (h : A.Le B) : ∀ (dm : List DM) {N N' : CH}, takeAll A dm N = some N' → takeAll B dm N = some N'
  | [], _, _, hs => hs
  | .coll k :: r, N, N', hs => by
    simp only [takeAll] at hs ⊢
    split at hs
    · rename_i hg
      simp only [Option.bind_eq_some_iff] at hs ⊢
      obtain ⟨N1, h1, h2⟩ := hs
      exact ⟨N1, h1, takeAll_le h r h2⟩
    · cases hs
  | .call f q args :: r, N, N', hs => by
    simp only [takeAll, Option.bind_eq_some_iff] at hs ⊢
    obtain ⟨x, h1, h2⟩ := hs
    exact ⟨x, h.call _ _ _ _ h1, takeAll_le h r h2⟩
theorem fcallBody_ok {P : Program} {A B : Rec} (h : A.Le B) {L : Nat} {f : FuncId} {args : List Value} {N : CH} {r : Value × CH} (hs : fcallBody P A L f args N = some r) : callBody P B L f args N = some r := by
  unfold fcallBody at hs
  unfold callBody
  cases hf : P.funcs[f]? with
  | none => simp [hf] at hs
  | some fn =>
    cases hb : fn.body with
    | none => simp [hf, hb] at hs
    | some c =>
      simp only [hf, hb] at hs ⊢
      split at hs
      · rename_i hlen
        obtain ⟨h1, h2⟩ := FA.init_ok hlen
        cases hx : fexec P A L f none c (FA.init fn.ntmps args) N with
        | none => rw [hx] at hs; cases hs
        | some x =>
          obtain ⟨e, a, N1⟩ := x
          obtain ⟨h3, h4⟩ := fexec_ok h L f none c _ _ _ _ _ h1 hx
          rw [h2] at h3
          rw [h3]
          rw [hx] at hs
          have key : ∀ r, (match takeAll A a.dm N1 with
              | some N2 => match fresult P a N2 fn.results.toList with
                | some [v] => some (v, N2)
                | some vs => some (Value.tuple vs.toArray, N2)
                | none => none
              | none => none) = some r → ((takeAll B a.dm N1).bind fun N2 => (cresults P fn a.abs.tmps N2).map fun v => (v, N2)) = some r := by
            intro r hr
            split at hr
            · rename_i N2 ht
              rw [takeAll_le h _ ht, Option.bind_some]
              unfold cresults
              split at hr
              · rename_i v hv
                cases hr
                rw [fresult_eq h4 _ hv]
                rfl
              · rename_i vs hne hv
                cases hr
                rw [fresult_eq h4 _ hv]
                match vs, hne with
                | [], _ => rfl
                | [v], hne => exact absurd rfl (hne v)
                | v1 :: v2 :: vs, _ => rfl
              · cases hr
            · cases hr
          cases e with
          | exit id => cases hs
          | normal => exact key r hs
          | ret => exact key r hs
      · cases hs
def froundBody (P : Program) (R : Rec) (L : Nat) (l : Nat) (f : FuncId) (tmps : List Value) (as bd : Code) (N : CH) : Option (Value × CH) :=
  match fexec P R L f (some l) as (FA.ofList tmps) N with
  | some (.normal, a1, N1) => match cbegin l N1 with
    | some N2 => match fexec P R L f (some l) bd a1 N2 with
      | some (e, _, N3) => cendRound l e.jump N3
      | none => none
    | none => none
  | _ => none
theorem froundBody_ok {P : Program} {A B : Rec} (h : A.Le B) {L : Nat} {l : Nat} {f : FuncId} {tmps : List Value} {as bd : Code} {N : CH} {r : Value × CH} (hs : froundBody P A L l f tmps as bd N = some r) : roundBody P B L l f tmps as bd N = some r := by
  unfold froundBody at hs
  unfold roundBody
  obtain ⟨h1, h2⟩ := FA.ofList_ok tmps
  cases hx : fexec P A L f (some l) as (FA.ofList tmps) N with
  | none => rw [hx] at hs; cases hs
  | some x =>
    obtain ⟨e, a, N1⟩ := x
    obtain ⟨h3, h4⟩ := fexec_ok h L f (some l) as _ _ _ _ _ h1 hx
    rw [h2] at h3
    rw [h3]
    rw [hx] at hs
    cases e with
    | ret => cases hs
    | exit id => cases hs
    | normal =>
      simp only at hs ⊢
      split at hs
      · rename_i N2 hb
        rw [hb, Option.bind_some]
        split at hs
        · rename_i e2 a2 N3 hx2
          obtain ⟨h5, h6⟩ := fexec_ok h L f (some l) bd _ _ _ _ _ h4 hx2
          rw [h5]
          exact hs
        · cases hs
      · cases hs
def fRec (P : Program) (L : Nat) : Nat → Rec
  | 0 => noRec
  | n + 1 => ⟨fcallBody P (fRec P L n) L, froundBody P (fRec P L n) L⟩
theorem fRec_le {P : Program} (L : Nat) : ∀ n, (fRec P L n).Le (mkRec P L n)
  | 0 => ⟨fun _ _ _ _ h => (by cases h), fun _ _ _ _ _ _ _ h => (by cases h)⟩
  | n + 1 => ⟨fun _ _ _ _ h => fcallBody_ok (fRec_le L n) h, fun _ _ _ _ _ _ _ h => froundBody_ok (fRec_le L n) h⟩
end Go.Eng
