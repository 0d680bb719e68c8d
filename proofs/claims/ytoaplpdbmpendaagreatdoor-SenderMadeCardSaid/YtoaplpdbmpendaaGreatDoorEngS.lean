/-
  The engine, part R: one goroutine in company: what it leans on, what it does, and its single steps.
-/
import Derived.Test.YtoaplpdbmpendaaGreatDoorEngU
import Derived.Conc.Own
import Derived.Conc.Listed
import Derived.StepT
set_option linter.unusedSectionVars false
set_option linter.unusedSimpArgs false
set_option linter.unusedVariables false
namespace Go.Eng
open Go.Conc (G)
set_option linter.unusedSimpArgs false
set_option linter.unusedVariables false

/-- What the others may have done: the blocks that the goroutine leans on are as they were. -/
structure Rely (O : Nat → Prop) (w w1 : World) : Prop where
  keep : ∀ b, O b → w1.heap[b]? = w.heap[b]?
  size : w.heap.size ≤ w1.heap.size
  os : w1.os = w.os
  tape : w1.tape = w.tape
  output : w1.output = w.output
theorem Rely.refl (O : Nat → Prop) (w : World) : Rely O w w := ⟨fun _ _ => rfl, Nat.le_refl _, rfl, rfl, rfl⟩
theorem Rely.trans {O : Nat → Prop} {w w1 w2 : World} (h : Rely O w w1) (g : Rely O w1 w2) : Rely O w w2 :=
  ⟨fun b hb => (g.keep b hb).trans (h.keep b hb), Nat.le_trans h.size g.size, g.os.trans h.os, g.tape.trans h.tape, g.output.trans h.output⟩
theorem Rely.mono {O O' : Nat → Prop} {w w1 : World} (h : Rely O' w w1) (hs : ∀ b, O b → O' b) : Rely O w w1 := ⟨fun b hb => h.keep b (hs b hb), h.size, h.os, h.tape, h.output⟩

/-- .. and what it has made since. -/
def grow (O : Nat → Prop) (w w' : World) : Nat → Prop := fun b => O b ∨ (w.heap.size ≤ b ∧ b < w'.heap.size)
theorem grow_self (O : Nat → Prop) (w : World) : grow O w w = O := by
  funext b
  exact propext ⟨fun h => h.elim id (fun h => by omega), .inl⟩

/-- A plain touch of a block that it leans on, or has just made; a write of one that it may write. -/
def Fine (O W : Nat → Prop) (w w' : World) (e : Event) : Prop :=
  e.loc = .mark .noRoom ∨ ∃ b, (e.loc = .obj b ∨ ∃ a : Addr, e.loc = .cell a ∧ a.block = b) ∧ e.sync = false ∧ b < w'.heap.size ∧ (O b ∨ w.heap.size ≤ b) ∧ (e.write = true → W b ∨ w.heap.size ≤ b)
def EvOk' (O W : Nat → Prop) (w w' : World) (es : Array Event) : Prop := ∀ e ∈ es, (∃ f, e.loc = .mark (.extern f)) ∨ Fine O W w w' e
/-- What a step of its own does to the world, and what it lists. -/
structure Guar (O W : Nat → Prop) (w w' : World) (es : Array Event) : Prop where
  keep : ∀ b, b < w.heap.size → ¬ W b → w'.heap[b]? = w.heap[b]?
  size : w.heap.size ≤ w'.heap.size
  os : w'.os = w.os
  tape : w'.tape = w.tape
  output : w'.output = w.output
  evs : ∀ e ∈ es, Fine O W w w' e
theorem Guar.still (O W : Nat → Prop) (w : World) : Guar O W w w #[] := ⟨fun _ _ _ => rfl, Nat.le_refl _, rfl, rfl, rfl, fun e he => by simp at he⟩

/-- Whether calls that start goroutines may be taken as known (then goroutine 0 alone is spoken of, beside such as only leave). -/
class Hk where
  on : Bool
class Ctx [Hk] (main : Bool) (J : World → Prop) : Prop where
  out : Hk.on = true → main = true ∧ ∀ w, J w
instance ctx_top [Hk] : Ctx true (fun _ => True) := ⟨fun _ => ⟨rfl, fun _ => trivial⟩⟩

/-- The goroutine comes to K whatever the others do, J always holding. O: what it leans on; W: what it may write. Goroutine 0, beside such as only leave, may come from one state to another by a stretch in which it starts others. -/
inductive Will (P : Program) (main : Bool) (J : World → Prop) (K : KP) : (Nat → Prop) → (Nat → Prop) → Goroutine → World → Prop
  | stop {O W : Nat → Prop} {g : Goroutine} {w : World} : (∀ w1, Rely O w w1 → J w1 → K O W g w1) → Will P main J K O W g w
  | act {O W : Nat → Prop} {g : Goroutine} {w : World} : g.status = .running →
      (∀ w1, Rely O w w1 → J w1 → ∃ g' w2 es, stepG P main g w1 = .go g' w2 es ∧ Guar O W w1 w2 es) →
      (∀ w1 g' w2 es, Rely O w w1 → J w1 → stepG P main g w1 = .go g' w2 es → Will P main J K (grow O w1 w2) (grow W w1 w2) g' w2) → Will P main J K O W g w
  | jump {O W : Nat → Prop} {g : Goroutine} {w : World} (Φ : KP) : main = true → (∀ w, J w) → (∀ w1, Rely O w w1 → Comes P Φ O W g w1) → (∀ O' W' g' w', Φ O' W' g' w' → Will P main J K O' W' g' w') → Will P main J K O W g w

section
variable {P : Program} {main : Bool} {J : World → Prop} {K : KP} {O W : Nat → Prop} {g g' : Goroutine} {w w1 : World}
theorem Will.rely (h : Will P main J K O W g w) (hr : Rely O w w1) : Will P main J K O W g w1 := by
  cases h with
  | stop h => exact .stop fun w2 h2 => h w2 (hr.trans h2)
  | act hs h1 h2 => exact .act hs (fun w2 h3 => h1 w2 (hr.trans h3)) (fun w2 g' w3 es h3 => h2 w2 g' w3 es (hr.trans h3))
  | jump Φ hm hj h1 h2 => exact .jump Φ hm hj (fun w2 h3 => h1 w2 (hr.trans h3)) h2
/-- A step. -/
theorem Will.step (hs : g.status = .running) (h : ∀ w1, Rely O w w1 → J w1 → ∃ g' w2 es, stepG P main g w1 = .go g' w2 es ∧ Guar O W w1 w2 es ∧ Will P main J K (grow O w1 w2) (grow W w1 w2) g' w2) :
    Will P main J K O W g w := by
  refine .act hs (fun w1 h1 j1 => ?_) (fun w1 g' w2 es h1 j1 hst => ?_)
  · obtain ⟨g', w2, es, e, hg, _⟩ := h w1 h1 j1
    exact ⟨g', w2, es, e, hg⟩
  · obtain ⟨g'', w2', es', e, _, hw⟩ := h w1 h1 j1
    rw [hst] at e
    cases e
    exact hw
/-- A step that turns nothing. -/
theorem Will.quiet (hs : g.status = .running) (h : ∀ w, stepG P main g w = .go g' w #[]) (hw : Will P main J K O W g' w) : Will P main J K O W g w :=
  .step hs fun w1 h1 _ => ⟨g', w1, #[], h w1, Guar.still _ _ _, by rw [grow_self, grow_self]; exact hw.rely h1⟩
/-- Alone, something is come to. -/
theorem Will.reaches (h : Will P main (fun _ => True) K O W g w) (hwo : ∀ b, W b → O b) (hl : ∀ b, O b → b < w.heap.size) : ∃ O' W' g' w', K O' W' g' w' := by
  induction h with
  | stop h => exact ⟨_, _, _, _, h _ (Rely.refl _ _) trivial⟩
  | act hs h1 _ ih =>
    obtain ⟨g', w2, es, e, hg⟩ := h1 _ (Rely.refl _ _) trivial
    exact ih _ _ _ _ (Rely.refl _ _) trivial e (fun b hb => hb.imp (hwo b) id) (fun b hb => hb.elim (fun h => Nat.lt_of_lt_of_le (hl b h) hg.size) And.right)
  | @jump O W g w Φ _ _ h1 _ ih =>
    obtain ⟨_, _, _, g', w', _, _, _, O', W', _, _, hB, hΦ⟩ := h1 w (Rely.refl _ _) _ #[g] none #[] _ rfl (BS.solo hwo hl)
    exact ih O' W' g' w' hΦ (fun b hb => hB.tr.sub 0 rfl (.obj b) hb) (fun b hb => (hB.tr.lt 0 rfl (.obj b) hb).1)
theorem Will.mono {K' : KP} (h : Will P main J K O W g w) (hk : ∀ O W g w, K O W g w → K' O W g w) : Will P main J K' O W g w := by
  induction h with
  | stop h => exact .stop fun w1 h1 j1 => hk _ _ _ _ (h w1 h1 j1)
  | act hs h1 _ ih => exact .act hs h1 ih
  | jump Φ hm hj h1 _ ih => exact .jump Φ hm hj h1 ih
end

/-! ### single steps -/
theorem not_extern {P : Program} {fn : FuncId} {es : Array Event} {e : Event} (h : e ∈ seen P fn es) (f : FuncId) : e.loc ≠ .mark (.extern f) := by
  intro hl
  have key : ∀ (quiet : FuncId → Bool) (l : List Event) (q : Bool) (kept : Array Event), (∀ x ∈ kept, ∀ f, x.loc ≠ .mark (.extern f)) → ∀ x ∈ (l.foldl (Go.Conc.seenStep quiet) (q, kept)).2, ∀ f, x.loc ≠ .mark (.extern f) := by
    intro quiet l
    induction l with
    | nil => intro q kept hk x hx; exact hk x hx
    | cons a l ih =>
      intro q kept hk x hx
      rw [List.foldl_cons] at hx
      refine ih _ _ ?_ x hx
      intro y hy
      unfold Go.Conc.seenStep at hy
      split at hy
      · exact hk y hy
      · rename_i hne
        simp only at hy
        split at hy
        · exact hk y hy
        · intro f'
          rcases Array.mem_push.1 hy with hy | rfl
          · exact hk y hy f'
          · intro hh
            exact hne _ hh
  rw [Go.Conc.seen_def] at h
  exact key _ _ _ _ (fun x hx => by simp at hx) e h f hl

section
variable {P : Program} {main : Bool} {b : Frame} {a : Act} {k : List Item} {cs : List Frame} {w : World} {ops : Array Oper}
theorem g_skip : stepG P main (G (fat b a (.code .skip :: k)) cs) w = .go (G (fat b a k) cs) w #[] := by simp [G, stepG, stepG.exec, fat]
theorem g_inBlock {id : Nat} : stepG P main (G (fat b a (.inBlock id :: k)) cs) w = .go (G (fat b a k) cs) w #[] := by simp [G, stepG, stepG.exec, fat]
theorem g_seq {x y : Code} : stepG P main (G (fat b a (.code (.seq x y) :: k)) cs) w = .go (G (fat b a (.code x :: .code y :: k)) cs) w #[] := by simp [G, stepG, stepG.exec, fat]
theorem g_cond {c : Operand} {x y : Code} {t : Bool} (h : a.eval c = .bool t) :
    stepG P main (G (fat b a (.code (.cond c x y) :: k)) cs) w = .go (G (fat b a (.code (if t then x else y) :: k)) cs) w #[] := by
  have := congrFun (fat_eval b a (.code (.cond c x y) :: k)) c
  simp only [fat] at this
  simp [G, stepG, stepG.exec, fat, this, h]
theorem g_block {id : Nat} {c : Code} : stepG P main (G (fat b a (.code (.block id c) :: k)) cs) w = .go (G (fat b a (.code c :: .inBlock id :: k)) cs) w #[] := by simp [G, stepG, stepG.exec, fat]
theorem g_loop {c : Code} : stepG P main (G (fat b a (.code (.loop c) :: k)) cs) w = .go (G (fat b a (.code c :: .inLoop c :: k)) cs) w #[] := by simp [G, stepG, stepG.exec, fat]
theorem g_inLoop {c : Code} : stepG P main (G (fat b a (.inLoop c :: k)) cs) w = .go (G (fat b a (.code c :: .inLoop c :: k)) cs) w #[] := by simp [G, stepG, stepG.exec, fat]
theorem g_exit {id : Nat} {k' : List Item} (h : exitTo id k = some k') : stepG P main (G (fat b a (.code (.exit id) :: k)) cs) w = .go (G (fat b a k') cs) w #[] := by simp [G, stepG, stepG.exec, fat, h]
theorem g_region {id : Nat} : stepG P main (G (fat b a (.code (.region id ops false) :: k)) cs) w = .go (G (fat b a (.inRegion ops (List.range ops.size) :: k)) cs) w #[] := by simp [G, stepG, stepG.exec, fat]
theorem g_region_draw {id : Nat} : stepG P main (G (fat b a (.code (.region id ops true) :: k)) cs) w =
    .go (G (fat b a (.inRegion ops (Region.schedule (P.follows .mixedOrders) ops (w.tape w.drawn (.order b.fn id))) :: k)) cs) w.drew #[] := by
  simp [G, stepG, stepG.exec, fat, choose, Sem.run, Question.forced, Question.cut]
theorem g_region_end : stepG P main (G (fat b a (.inRegion ops [] :: k)) cs) w = .go (G (fat b a k) cs) w #[] := by simp [G, stepG, stepG.exec, fat]
theorem g_op_skip {i : Nat} {rest : List Nat} {o : Oper} (ho : ops[i]? = some o) (hw : Region.wanted o (yielded ops a.tmps) = false) :
    stepG P main (G (fat b a (.inRegion ops (i :: rest) :: k)) cs) w = .go (G (fat b (a.put o.dst undef) (.inRegion ops rest :: k)) cs) w #[] := by
  cases hd : o.dst <;> simp [G, stepG, stepG.exec, fat, ho, hw, Frame.finish, Act.put, hd]
theorem g_op {i : Nat} {rest : List Nat} {o : Oper} (ho : ops[i]? = some o) (hw : Region.wanted o (yielded ops a.tmps) = true) (hd : ∀ c, o.op ≠ .defer c) :
    stepG P main (G (fat b a (.inRegion ops (i :: rest) :: k)) cs) w = stepG.apply P true (fat b a (.inRegion ops (i :: rest) :: k)) cs none (execOp a.eval o) w := by
  have he := fat_eval b a (.inRegion ops (i :: rest) :: k)
  simp only [fat] at he
  simp only [G, stepG, stepG.exec, stepG.oper, Frame.oper?, fat, ho, hw, he, Option.map_some, Option.getD_some, if_true]
  split
  · exact absurd ‹o.op = _› (hd _)
  · rfl
/-- What a step lists is what the operation touches. -/
def Lists (P : Program) (fn : FuncId) (all : Array Event) (es : Array Event) : Prop := ∀ e ∈ es, e ∈ seen P fn all
theorem Lists.ok {fn : FuncId} {all es : Array Event} (h : Lists P fn all es) {O W : Nat → Prop} {w w' : World} (he : EvOk' O W w w' all) : ∀ e ∈ es, Fine O W w w' e := fun e hm =>
  (he e (Go.Conc.mem_seen (h e hm))).resolve_left fun ⟨f, hf⟩ => not_extern (h e hm) f hf
theorem apply_ok {fr : Frame} {s : Sem Next} {n : Next} {w' : World} (hr : s.run P w = .ok n w') : ∃ es, Lists P fr.fn (s.events P w #[]) es ∧
    (∀ v, n = .value v → stepG.apply P true fr cs none s w = .go { frame := fr.finish v, callers := cs, status := .running, dying := none } w' es) ∧
    (n = .skip → stepG.apply P true fr cs none s w = .go { frame := fr.finish undef, callers := cs, status := .running, dying := none } w' es) ∧
    (∀ f args, n = .enter f args → (∀ x y z r q, fr.todo ≠ .call x y z r :: q) → stepG.apply P true fr cs none s w = .go { frame := Frame.enter P f args .normal, callers := fr :: cs, status := .running, dying := none } w' es) ∧
    (∀ l f tmps as bd, n = .round l f tmps as bd → stepG.apply P true fr cs none s w = .go { frame := Frame.round l f tmps as bd .normal, callers := fr :: cs, status := .running, dying := none } w' es) ∧
    (∀ d, n = .defer d → stepG.apply P true fr cs none s w = .go { frame := { fr with defers := d :: fr.defers }.finish undef, callers := cs, status := .running, dying := none } w' es) ∧
    (n = .recover → fr.roundOf = none → tryRecover fr cs = none → stepG.apply P true fr cs none s w = .go { frame := fr.finish .nilIface, callers := cs, status := .running, dying := none } w' es) := by
  have h1 : (s.runT P w #[]).1 = .ok n w' := by rw [Sem.runT_fst, hr]
  refine ⟨seen P fr.fn (if (fr.kind == .early) = true then #[] else s.events P w #[]), ?_, ?_, ?_, ?_, ?_, ?_, ?_⟩
  · intro e he
    split at he
    · have := Go.Conc.mem_seen he
      simp at this
    · exact he
  · rintro v rfl
    simp only [stepG.apply, if_true, h1, GStep.after, Sem.events]
    simp
  · rintro rfl
    simp only [stepG.apply, if_true, h1, GStep.after, Sem.events]
    simp
  · rintro f args rfl hno
    simp only [stepG.apply, if_true, h1, GStep.after, Sem.events]
    obtain ⟨fn, tmps, todo, defers, mode, kind, roundOf⟩ := fr
    cases todo with
    | nil => simp
    | cons i q =>
      cases i <;> first | exact absurd rfl (hno _ _ _ _ _) | simp
  · rintro l f tmps as bd rfl
    simp only [stepG.apply, if_true, h1, GStep.after, Sem.events]
    simp
  · rintro d rfl
    simp only [stepG.apply, if_true, h1, GStep.after, Sem.events]
    simp
  · rintro rfl hro hno
    simp only [stepG.apply, if_true, h1, GStep.after, Sem.events, hro, hno]
    simp
theorem fat_todo {i : Nat} {rest : List Nat} : ∀ x y z r q, (fat b a (.inRegion ops (i :: rest) :: k)).todo ≠ .call x y z r :: q := fun _ _ _ _ _ h => by cases h
theorem g_val {i : Nat} {rest : List Nat} {o : Oper} {w' : World} {v : Value} (ho : ops[i]? = some o) (hw : Region.wanted o (yielded ops a.tmps) = true) (hd : ∀ c, o.op ≠ .defer c) (hr : (execOp a.eval o).run P w = .ok (.value v) w') :
    ∃ es, Lists P b.fn ((execOp a.eval o).events P w #[]) es ∧ stepG P main (G (fat b a (.inRegion ops (i :: rest) :: k)) cs) w = .go (G (fat b (a.put o.dst v) (.inRegion ops rest :: k)) cs) w' es := by
  obtain ⟨es, h1, h2, _⟩ := apply_ok (cs := cs) (fr := fat b a (.inRegion ops (i :: rest) :: k)) hr
  refine ⟨es, h1, ?_⟩
  rw [g_op ho hw hd, h2 v rfl, fat_finish ho]
  rfl
theorem g_skipv {i : Nat} {rest : List Nat} {o : Oper} {w' : World} (ho : ops[i]? = some o) (hw : Region.wanted o (yielded ops a.tmps) = true) (hd : ∀ c, o.op ≠ .defer c) (hr : (execOp a.eval o).run P w = .ok .skip w') :
    ∃ es, Lists P b.fn ((execOp a.eval o).events P w #[]) es ∧ stepG P main (G (fat b a (.inRegion ops (i :: rest) :: k)) cs) w = .go (G (fat b (a.put o.dst undef) (.inRegion ops rest :: k)) cs) w' es := by
  obtain ⟨es, h1, _, h2, _⟩ := apply_ok (cs := cs) (fr := fat b a (.inRegion ops (i :: rest) :: k)) hr
  refine ⟨es, h1, ?_⟩
  rw [g_op ho hw hd, h2 rfl, fat_finish ho]
  rfl
theorem g_enter {i : Nat} {rest : List Nat} {o : Oper} {w' : World} {f : FuncId} {args : Array Value} (ho : ops[i]? = some o) (hw : Region.wanted o (yielded ops a.tmps) = true) (hd : ∀ c, o.op ≠ .defer c) (hr : (execOp a.eval o).run P w = .ok (.enter f args) w') :
    ∃ es, Lists P b.fn ((execOp a.eval o).events P w #[]) es ∧ stepG P main (G (fat b a (.inRegion ops (i :: rest) :: k)) cs) w = .go (G (Frame.enter P f args .normal) (fat b a (.inRegion ops (i :: rest) :: k) :: cs)) w' es := by
  obtain ⟨es, h1, _, _, h2, _⟩ := apply_ok (cs := cs) (fr := fat b a (.inRegion ops (i :: rest) :: k)) hr
  refine ⟨es, h1, ?_⟩
  rw [g_op ho hw hd, h2 f args rfl fat_todo]
  rfl
theorem g_round {i : Nat} {rest : List Nat} {o : Oper} {w' : World} {l : Nat} {f : FuncId} {tmps : Array Value} {as bd : Code} (ho : ops[i]? = some o) (hw : Region.wanted o (yielded ops a.tmps) = true) (hd : ∀ c, o.op ≠ .defer c) (hr : (execOp a.eval o).run P w = .ok (.round l f tmps as bd) w') :
    ∃ es, Lists P b.fn ((execOp a.eval o).events P w #[]) es ∧ stepG P main (G (fat b a (.inRegion ops (i :: rest) :: k)) cs) w = .go (G (Frame.round l f tmps as bd .normal) (fat b a (.inRegion ops (i :: rest) :: k) :: cs)) w' es := by
  obtain ⟨es, h1, _, _, _, h2, _⟩ := apply_ok (cs := cs) (fr := fat b a (.inRegion ops (i :: rest) :: k)) hr
  refine ⟨es, h1, ?_⟩
  rw [g_op ho hw hd, h2 l f tmps as bd rfl]
  rfl
theorem g_defer {i : Nat} {rest : List Nat} {o : Oper} {w' : World} {d : Deferred} (ho : ops[i]? = some o) (hw : Region.wanted o (yielded ops a.tmps) = true) (hro : b.roundOf = none) (hr : (execOp a.eval o).run P w = .ok (.defer d) w') :
    ∃ es, Lists P b.fn ((execOp a.eval o).events P w #[]) es ∧ stepG P main (G (fat b a (.inRegion ops (i :: rest) :: k)) cs) w = .go (G (fat b { a.put o.dst undef with defers := d :: a.defers } (.inRegion ops rest :: k)) cs) w' es := by
  obtain ⟨es, h1, _, _, _, _, h2, _⟩ := apply_ok (cs := cs) (fr := fat b a (.inRegion ops (i :: rest) :: k)) hr
  refine ⟨es, h1, ?_⟩
  have he := fat_eval b a (.inRegion ops (i :: rest) :: k)
  simp only [fat, hro] at he
  have h3 := h2 d rfl
  simp only [fat, hro] at h3
  have hst : stepG P main (G (fat b a (.inRegion ops (i :: rest) :: k)) cs) w = stepG.apply P true (fat b a (.inRegion ops (i :: rest) :: k)) cs none (execOp a.eval o) w := by
    simp [G, stepG, stepG.exec, stepG.oper, Frame.oper?, fat, ho, hw, he, hro]
  rw [hst]
  simp only [fat, hro]
  rw [h3]
  cases hdst : o.dst <;> simp [G, Frame.finish, Act.put, ho, hdst]
theorem g_recover {i : Nat} {rest : List Nat} {o : Oper} {w' : World} (ho : ops[i]? = some o) (hw : Region.wanted o (yielded ops a.tmps) = true) (hro : b.roundOf = none)
    (hno : ∀ fr : Frame, fr.kind = b.kind → tryRecover fr cs = none) (hd : ∀ c, o.op ≠ .defer c) (hr : (execOp a.eval o).run P w = .ok .recover w') :
    ∃ es, Lists P b.fn ((execOp a.eval o).events P w #[]) es ∧ stepG P main (G (fat b a (.inRegion ops (i :: rest) :: k)) cs) w = .go (G (fat b (a.put o.dst .nilIface) (.inRegion ops rest :: k)) cs) w' es := by
  obtain ⟨es, h1, _, _, _, _, _, h2⟩ := apply_ok (cs := cs) (fr := fat b a (.inRegion ops (i :: rest) :: k)) hr
  refine ⟨es, h1, ?_⟩
  rw [g_op ho hw hd, h2 rfl hro (hno _ rfl), fat_finish ho]
  rfl
theorem g_ret (hr : b.roundOf = none) : stepG P main (G (fat b a (.code .ret :: k)) cs) w = .go (G { fat b a (.code .ret :: k) with mode := .returning } cs) w #[] := by
  simp [G, stepG, stepG.exec, fat, hr]
theorem g_end (hr : b.roundOf = none) : stepG P main (G (fat b a []) cs) w = .go (G { fat b a [] with mode := .returning } cs) w #[] := by
  simp [G, stepG, stepG.exec, fat, hr]
/-- A deferred call begins. -/
theorem g_deferred {fr : Frame} {d : Deferred} {ds : List Deferred} {w' : World} {g : FuncId} {args : Array Value} (hm : fr.mode = .returning) (hd : fr.defers = d :: ds) (hc : ∃ f q, d.target = .fn f q)
    (h : (invoke d.target d.args).run P w = .ok (.enter g args) w') : ∃ es, Lists P fr.fn ((invoke d.target d.args).events P w #[]) es ∧ stepG P main (G fr cs) w = .go (G (Frame.enter P g args .deferred) ({ fr with defers := ds } :: cs)) w' es := by
  obtain ⟨fn, tmps, todo, defers, mode, kind, roundOf⟩ := fr
  obtain ⟨target, dargs⟩ := d
  obtain ⟨f, q, rfl⟩ := hc
  simp only at hm hd h
  subst hm; subst hd
  refine ⟨seen P fn ((invoke (.fn f q) dargs).events P w #[]), fun e he => he, ?_⟩
  simp [G, stepG, unwind, callDeferred, h, GStep.after]
theorem events_of {α : Type} {s : Sem α} {v : α} {w' : World} (h : s.run P w = .ok v w') : s.runT P w #[] = (.ok v w', s.events P w #[]) := by
  rw [← h, ← Sem.runT_fst P s w #[]]
  rfl
/-- A deferred call ends. -/
theorem g_deferred_end {fr c : Frame} {v : Value} {fn : Func} (hm : fr.mode = .returning) (hd : fr.defers = []) (hk : fr.kind = .deferred) (hc : ∀ v g l, c.mode ≠ .panicking (⟨v, true, g⟩ :: l)) (hf : P.funcs[fr.fn]? = some fn) (hr : (results fn fr.tmps).run P w = .ok v w) :
    ∃ es, Lists P fr.fn ((results fn fr.tmps).events P w #[]) es ∧ stepG P main (G fr (c :: cs)) w = .go (G c cs) w es := by
  refine ⟨seen P fr.fn ((results fn fr.tmps).events P w #[]), fun e he => he, ?_⟩
  have h2 : (match c.mode with
        | .panicking ({ recovered := true, .. } :: older) =>
          match older.dropWhile (!·.goexit) with
          | [] => { c with mode := .returning }
          | rest => { c with mode := .panicking rest }
        | _ => c) = c := by
    split
    · rename_i v g l hh
      exact absurd hh (hc v g l)
    · rfl
  simp [G, stepG, unwind, doReturn, hm, hd, hk, hf, hr, GStep.after]
/-- A frame hands its result back. -/
theorem g_leave {fr c : Frame} {v : Value} {fn : Func} (hm : fr.mode = .returning) (hd : fr.defers = []) (hk : fr.kind = .normal) (hf : P.funcs[fr.fn]? = some fn) (hr : (results fn fr.tmps).run P w = .ok v w) :
    ∃ es, Lists P fr.fn ((results fn fr.tmps).events P w #[]) es ∧ stepG P main (G fr (c :: cs)) w = .go (G (c.finish v) cs) w es := by
  refine ⟨seen P fr.fn ((results fn fr.tmps).events P w #[]), fun e he => he, ?_⟩
  simp [G, stepG, unwind, doReturn, hm, hd, hk, hf, hr, GStep.after]
theorem g_beginRound {l : Nat} {w' : World} (hr : b.roundOf = some l) (h : (Instr.beginRound l).run P w = .ok () w') :
    ∃ es, Lists P b.fn ((do Instr.beginRound l; pure .skip : Sem Next).events P w #[]) es ∧ stepG P main (G (fat b a (.beginRound :: k)) cs) w = .go (G (fat b a k) cs) w' es := by
  have hrun : (do Instr.beginRound l; pure .skip : Sem Next).run P w = .ok .skip w' := by simp [Sem.run_bind, h]
  obtain ⟨es, h1, _, h2, _⟩ := apply_ok (cs := cs) (fr := fat b a (.beginRound :: k)) hrun
  refine ⟨es, h1, ?_⟩
  have h3 := h2 rfl
  simp only [fat, hr] at h3
  simp only [G, stepG, stepG.exec, fat, hr, Option.elim]
  rw [h3]
  simp [Frame.finish]
theorem g_round_end {l : Nat} {w' : World} {v : Value} {c : Frame} (hr : b.roundOf = some l) (hk : b.kind = .normal) (h : (Instr.endRound l none).run P w = .ok v w') :
    ∃ es, Lists P b.fn ((Instr.endRound l none).events P w #[]) es ∧ stepG P main (G (fat b a []) (c :: cs)) w = .go (G (c.finish v) cs) w' es := by
  refine ⟨_, fun e he => he, ?_⟩
  simp [G, stepG, stepG.exec, fat, hr, h, doReturn, hk, GStep.after]
theorem g_round_ret {l : Nat} {w' : World} {v : Value} {c : Frame} (hr : b.roundOf = some l) (hk : b.kind = .normal) (h : (Instr.endRound l (some .ret)).run P w = .ok v w') :
    ∃ es, Lists P b.fn ((Instr.endRound l (some .ret)).events P w #[]) es ∧ stepG P main (G (fat b a (.code .ret :: k)) (c :: cs)) w = .go (G (c.finish v) cs) w' es := by
  refine ⟨_, fun e he => he, ?_⟩
  simp [G, stepG, stepG.exec, fat, hr, h, doReturn, hk, GStep.after]
theorem g_round_exit {l id : Nat} {w' : World} {v : Value} {c : Frame} (hr : b.roundOf = some l) (hk : b.kind = .normal) (he : exitTo id k = none) (h : (Instr.endRound l (some (.exit id))).run P w = .ok v w') :
    ∃ es, Lists P b.fn ((Instr.endRound l (some (.exit id))).events P w #[]) es ∧ stepG P main (G (fat b a (.code (.exit id) :: k)) (c :: cs)) w = .go (G (c.finish v) cs) w' es := by
  refine ⟨_, fun e he => he, ?_⟩
  simp [G, stepG, stepG.exec, fat, hr, h, doReturn, hk, he, GStep.after]
theorem g_taken {block : Nat} {ds : List Deferred} {w' : World} {fr : Frame} (hm : fr.mode = .returning) (hd : fr.defers = { target := .collected block, args := #[] } :: ds) (h : (Instr.takeDeferred block).run P w = .ok [] w') :
    ∃ es, Lists P fr.fn ((Instr.takeDeferred block).events P w #[]) es ∧ stepG P main (G fr cs) w = .go (G { fr with defers := ds } cs) w' es := by
  obtain ⟨fn, tmps, todo, defers, mode, kind, roundOf⟩ := fr
  simp only at hm hd
  subst hm; subst hd
  refine ⟨_, fun e he => he, ?_⟩
  simp [G, stepG, unwind, h, GStep.after]
theorem g_rangeFunc {f : Operand} {params : Array Tmp} {assign body : Code} {l : Nat} {mark : List Deferred} {w1 : World} {g : FuncId} {args : Array Value}
    (h1 : (Instr.enterLoop b.fn a.tmps params assign body b.roundOf).run P w = .ok (l, mark) w1)
    (h2 : (do let d ← resolve a.eval { callee := .value f, args := #[.const (.func (.yield l) #[] #[])], argTypes := #[] } 0; invoke d.target d.args : Sem Next).run P w1 = .ok (.enter g args) w1) :
    ∃ es, (∀ e ∈ es, e ∈ seen P b.fn ((Instr.enterLoop b.fn a.tmps params assign body b.roundOf).events P w #[]) ∨
        e ∈ seen P b.fn ((do let d ← resolve a.eval { callee := .value f, args := #[.const (.func (.yield l) #[] #[])], argTypes := #[] } 0; invoke d.target d.args : Sem Next).events P w1 #[])) ∧
      stepG P main (G (fat b a (.code (.rangeFunc f params assign body) :: k)) cs) w =
        .go (G (Frame.enter P g args .normal) (fat b { a with defers := mark ++ a.defers } (.inRangeFunc l :: k) :: cs)) w1 es := by
  have he2 : Frame.eval (fat b { a with defers := mark ++ a.defers } (.inRangeFunc l :: k)) = a.eval := by funext x; cases x <;> rfl
  obtain ⟨es, h3, _, _, h4, _⟩ := apply_ok (cs := cs) (fr := fat b { a with defers := mark ++ a.defers } (.inRangeFunc l :: k)) h2
  have h5 := h4 g args rfl (fun _ _ _ _ _ h => by cases h)
  have h6 := events_of h1
  refine ⟨seen P b.fn ((Instr.enterLoop b.fn a.tmps params assign body b.roundOf).events P w #[]) ++ es, ?_, ?_⟩
  · intro e he
    rcases Array.mem_append.1 he with he | he
    · exact .inl he
    · exact .inr (h3 e he)
  · simp only [fat] at he2 h5
    simp only [G, stepG, stepG.exec, fat, h6, he2, GStep.after]
    rw [h5]
theorem g_endRangeFunc {l : Nat} {jump : Option Code} {w' : World} (h : (Instr.endLoop l).run P w = .ok jump w') :
    ∃ es, Lists P b.fn ((Instr.endLoop l).events P w #[]) es ∧ stepG P main (G (fat b a (.endRangeFunc l :: k)) cs) w = .go (G (fat b a ((jump.map Item.code).toList ++ k)) cs) w' es := by
  refine ⟨_, fun e he => he, ?_⟩
  simp [G, stepG, stepG.exec, fat, h, GStep.after]
end
end Go.Eng
namespace Go.Eng
open Go.Conc (G)
set_option linter.unusedSimpArgs false
set_option linter.unusedVariables false

/-- What the goroutine leans on holds its part of memory; from number lo on it may write. -/
structure Own (O W : Nat → Prop) (lo : Nat) (E : Env) (N : CH) (w : World) : Prop where
  img : ∀ k, E.D k → N.live k → O (E.f k)
  wri : ∀ k, E.D k → N.live k → lo ≤ k → W (E.f k)
  lt : ∀ b, O b → b < w.heap.size
  low : lo ≤ N.sz
theorem Rel.rely {P : Program} {E : Env} {N : CH} {w w1 : World} {O W : Nat → Prop} {lo : Nat} (R : Rel P E N w) (H : Own O W lo E N w) (h : Rely O w w1) : Rel P E N w1 := by
  refine ⟨R.ok, R.gl, R.dom, R.inj, fun k b hk hb => ?_⟩
  cases hd : b.isDead with
  | true => cases b <;> simp [CB.isDead] at hd; trivial
  | false => rw [h.keep _ (H.img k hk ⟨b, hb, hd⟩)]; exact R.blk k b hk hb
theorem Own.rely {E : Env} {N : CH} {w w1 : World} {O W : Nat → Prop} {lo : Nat} (H : Own O W lo E N w) (h : Rely O w w1) : Own O W lo E N w1 := ⟨H.img, H.wri, fun b hb => Nat.lt_of_lt_of_le (H.lt b hb) h.size, H.low⟩

/-- From one state to a later one, the others having done what they will. -/
structure ExtC (O : Nat → Prop) (E : Env) (N : CH) (w : World) (E' : Env) (N' : CH) (w' : World) : Prop where
  mono : ∀ k, E.D k → E'.D k ∧ E'.f k = E.f k ∧ E'.x k = E.x k ∧ E'.s k = E.s k
  new : ∀ k, E'.D k → E.D k ∨ (N.sz ≤ k ∧ k < N'.sz)
  all : ∀ k, N.sz ≤ k → k < N'.sz → E'.D k
  size : N.sz ≤ N'.sz
  hsize : w.heap.size ≤ w'.heap.size
  fresh : ∀ k, E'.D k → E.D k ∨ w.heap.size ≤ E'.f k ∨ ∃ j, E.D j ∧ N.live j ∧ ¬ N'.live j ∧ E'.f k = E.f j
  dead : ∀ k, E.D k → N'.live k → N.live k
  wm : N'.wm ≤ N.wm
  keep : ∀ k, k < N.sz → k < N'.wm → N'.get k = N.get k
  frame : ∀ b, O b → b < w.heap.size → (∀ k, E.D k → N.live k → E.f k ≠ b) → w'.heap[b]? = w.heap[b]?
  os : w'.os = w.os
  tape : w'.tape = w.tape
  output : w'.output = w.output
  op : E'.o = E.o
theorem Ext.toC {E E' : Env} {N N' : CH} {w w' : World} (h : Ext E N w E' N' w') (O : Nat → Prop) : ExtC O E N w E' N' w' :=
  ⟨h.mono, h.new, h.all, h.size, h.hsize, h.fresh, h.dead, h.wm, h.keep, fun b _ => h.frame b, h.os, h.tape, h.output, h.op⟩
theorem ExtC.of_rely {O : Nat → Prop} {w w1 : World} (h : Rely O w w1) (E : Env) (N : CH) : ExtC O E N w E N w1 :=
  ⟨fun _ h => ⟨h, rfl, rfl, rfl⟩, fun _ h => .inl h, fun _ h1 h2 => by omega, Nat.le_refl _, h.size, fun _ h => .inl h, fun _ _ h => h, Nat.le_refl _, fun _ _ _ => rfl, fun b hb _ _ => h.keep b hb, h.os, h.tape, h.output, rfl⟩
theorem ExtC.refl (O : Nat → Prop) (E : Env) (N : CH) (w : World) : ExtC O E N w E N w := .of_rely (Rely.refl O w) E N
theorem ExtC.trans {O O1 : Nat → Prop} {E E1 E2 : Env} {N N1 N2 : CH} {w w1 w2 : World} (h : ExtC O E N w E1 N1 w1) (g : ExtC O1 E1 N1 w1 E2 N2 w2) (hO : ∀ b, O b → O1 b) : ExtC O E N w E2 N2 w2 where
  mono k hk := by
    obtain ⟨a, b, c, d⟩ := h.mono k hk
    obtain ⟨a', b', c', d'⟩ := g.mono k a
    exact ⟨a', b'.trans b, c'.trans c, d'.trans d⟩
  new k hk := by
    rcases g.new k hk with h1 | ⟨h1, h2⟩
    · rcases h.new k h1 with h3 | ⟨h3, h4⟩
      · exact .inl h3
      · exact .inr ⟨h3, Nat.lt_of_lt_of_le h4 g.size⟩
    · exact .inr ⟨Nat.le_trans h.size h1, h2⟩
  all k h1 h2 := by
    rcases Nat.lt_or_ge k N1.sz with h3 | h3
    · exact (g.mono k (h.all k h1 h3)).1
    · exact g.all k h3 h2
  size := Nat.le_trans h.size g.size
  hsize := Nat.le_trans h.hsize g.hsize
  fresh k hk := by
    rcases g.fresh k hk with h1 | h1 | ⟨j, h1, h2, hx, h3⟩
    · rcases h.fresh k h1 with h4 | h4 | ⟨j, h4, h5, hy, h6⟩
      · exact .inl h4
      · exact .inr (.inl (by rw [(g.mono k h1).2.1]; exact h4))
      · exact .inr (.inr ⟨j, h4, h5, fun hl => hy (g.dead j (h.mono j h4).1 hl), by rw [(g.mono k h1).2.1]; exact h6⟩)
    · exact .inr (.inl (Nat.le_trans h.hsize h1))
    · rcases h.fresh j h1 with h4 | h4 | ⟨i, h4, h5, hy, h6⟩
      · exact .inr (.inr ⟨j, h4, h.dead j h4 h2, hx, by rw [h3, (h.mono j h4).2.1]⟩)
      · exact .inr (.inl (by rw [h3]; exact h4))
      · exact .inr (.inr ⟨i, h4, h5, fun hl => hy (g.dead i (h.mono i h4).1 hl), by rw [h3, h6]⟩)
  dead k hk hl := h.dead k hk (g.dead k (h.mono k hk).1 hl)
  wm := Nat.le_trans g.wm h.wm
  keep k hk hw := (g.keep k (Nat.lt_of_lt_of_le hk h.size) hw).trans (h.keep k hk (Nat.lt_of_lt_of_le hw g.wm))
  frame b hO' hb hn := by
    rw [g.frame b (hO b hO') (Nat.lt_of_lt_of_le hb h.hsize) ?_, h.frame b hO' hb hn]
    intro k hk hl e
    rcases h.fresh k hk with h1 | h1 | ⟨j, h1, h2, _, h3⟩
    · exact hn k h1 (h.dead k h1 hl) (by rw [← (h.mono k h1).2.1]; exact e)
    · omega
    · exact hn j h1 h2 (by rw [← h3]; exact e)
  os := g.os.trans h.os
  tape := g.tape.trans h.tape
  output := g.output.trans h.output
  op := g.op.trans h.op
theorem ExtC.m {O : Nat → Prop} {E E' : Env} {N N' : CH} {w w' : World} (h : ExtC O E N w E' N' w') {v : Value} (hv : Clo E.D v) : E'.m v = E.m v :=
  mv_ext h.op (fun k hk => (h.mono k hk).2) v hv
theorem ExtC.clo {O : Nat → Prop} {E E' : Env} {N N' : CH} {w w' : World} (h : ExtC O E N w E' N' w') {v : Value} (hv : Clo E.D v) : Clo E'.D v :=
  Clo_mono (fun k hk => (h.mono k hk).1) v hv

/-- A live block of the plain heap lies in memory. -/
theorem Rel.live_lt {P : Program} {E : Env} {N : CH} {w : World} (R : Rel P E N w) {k : Nat} (hk : E.D k) (hl : N.live k) : E.f k < w.heap.size := by
  obtain ⟨b, hb, hd⟩ := hl
  have hB := R.blk k b hk hb
  rcases Nat.lt_or_ge (E.f k) w.heap.size with h | h
  · exact h
  · rw [Array.getElem?_eq_none h] at hB
    rw [hB.some] at hd
    cases hd
theorem Own.step {P : Program} {E E' : Env} {N N' : CH} {w w' : World} {O W : Nat → Prop} {lo : Nat} (H : Own O W lo E N w) (R : Rel P E N w) (R' : Rel P E' N' w') (X : Ext E N w E' N' w') (hlo : lo ≤ N'.wm) :
    Own (grow O w w') (grow W w w') lo E' N' w' := by
  refine ⟨fun k hk hl => ?_, fun k hk hl hle => ?_, fun b hb => ?_, Nat.le_trans H.low X.size⟩
  · have hlt := R'.live_lt hk hl
    rcases X.fresh k hk with h | h | ⟨j, h1, h2, _, h3⟩
    · rw [(X.mono k h).2.1]
      exact .inl (H.img k h (X.dead k h hl))
    · exact .inr ⟨h, hlt⟩
    · rw [h3]
      exact .inl (H.img j h1 h2)
  · have hlt := R'.live_lt hk hl
    rcases X.fresh k hk with h | h | ⟨j, h1, h2, h4, h3⟩
    · rw [(X.mono k h).2.1]
      exact .inl (H.wri k h (X.dead k h hl) hle)
    · exact .inr ⟨h, hlt⟩
    · rw [h3]
      refine .inl (H.wri j h1 h2 ?_)
      rcases Nat.lt_or_ge j N'.wm with hj | hj
      · refine absurd ?_ h4
        obtain ⟨b, hb, hd⟩ := h2
        exact ⟨b, by rw [X.keep j (R.dom j h1) hj]; exact hb, hd⟩
      · omega
  · rcases hb with hb | hb
    · exact Nat.lt_of_lt_of_le (H.lt b hb) X.hsize
    · exact hb.2
theorem guar_of {P : Program} {E E' : Env} {N N' : CH} {w w' : World} {O W : Nat → Prop} {lo : Nat} (H : Own O W lo E N w) (R : Rel P E N w) (X : Ext E N w E' N' w') (hlo : lo ≤ N'.wm) {es : Array Event} (he : ∀ e ∈ es, Fine O W w w' e) : Guar O W w w' es := by
  refine ⟨fun b hb hW => ?_, X.hsize, X.os, X.tape, X.output, he⟩
  by_cases h : ∃ k, E.D k ∧ N.live k ∧ E.f k = b
  · obtain ⟨k, hk, hl, rfl⟩ := h
    refine X.still k hk hl (R.dom k hk) ?_
    rcases Nat.lt_or_ge k N'.wm with hj | hj
    · exact hj
    · exact absurd (H.wri k hk hl (by omega)) hW
  · exact X.frame b hb fun k hk hl e => h ⟨k, hk, hl, e⟩

/-- What is known at a later state. -/
structure Later (P : Program) (lo : Nat) (O W : Nat → Prop) (E : Env) (N : CH) (w : World) (O' W' : Nat → Prop) (E' : Env) (N' : CH) (w' : World) : Prop where
  rel : Rel P E' N' w'
  own : Own O' W' lo E' N' w'
  ext : ExtC O E N w E' N' w'
  oo : ∀ b, O b → O' b
  ww : ∀ b, W b → W' b
  ou : ∀ b, O' b → O b ∨ w.heap.size ≤ b
section
variable {P : Program} {lo : Nat} {O W O1 W1 O2 W2 : Nat → Prop} {E E1 E2 : Env} {N N1 N2 : CH} {w w1 w2 : World}
theorem Later.refl (R : Rel P E N w) (H : Own O W lo E N w) : Later P lo O W E N w O W E N w := ⟨R, H, ExtC.refl _ _ _ _, fun _ h => h, fun _ h => h, fun _ h => .inl h⟩
theorem Later.of_rely (R : Rel P E N w) (H : Own O W lo E N w) (h : Rely O w w1) : Later P lo O W E N w O W E N w1 := ⟨R.rely H h, H.rely h, .of_rely h E N, fun _ h => h, fun _ h => h, fun _ h => .inl h⟩
theorem Later.trans (h : Later P lo O W E N w O1 W1 E1 N1 w1) (g : Later P lo O1 W1 E1 N1 w1 O2 W2 E2 N2 w2) : Later P lo O W E N w O2 W2 E2 N2 w2 :=
  ⟨g.rel, g.own, h.ext.trans g.ext h.oo, fun b hb => g.oo b (h.oo b hb), fun b hb => g.ww b (h.ww b hb), fun b hb => (g.ou b hb).elim (h.ou b) fun hs => .inr (Nat.le_trans h.ext.hsize hs)⟩
theorem Later.of_step (R : Rel P E N w) (H : Own O W lo E N w) (R' : Rel P E1 N1 w1) (X : Ext E N w E1 N1 w1) (hlo : lo ≤ N1.wm) : Later P lo O W E N w (grow O w w1) (grow W w w1) E1 N1 w1 :=
  ⟨R', H.step R R' X hlo, X.toC O, fun _ h => .inl h, fun _ h => .inl h, fun _ h => h.elim .inl fun h => .inr h.1⟩
end
end Go.Eng
