/-
  The engine, part I: frames: single steps of the model's machine at a frame that may be a loop's round.
-/
import Derived.Test.YtjpmmfahmhnpeaaGreatDoorEngH
namespace Go.Eng
set_option linter.unusedSimpArgs false
set_option linter.unusedVariables false

def fat (b : Frame) (a : Act) (todo : List Item) : Frame :=
  { fn := b.fn, tmps := a.tmps, todo, defers := a.defers, mode := .run, kind := b.kind, roundOf := b.roundOf }
theorem fat_eval (b : Frame) (a : Act) (todo : List Item) : (fat b a todo).eval = a.eval := by funext x; cases x <;> rfl

section
variable {P : Program} {b : Frame} {a : Act} {k : List Item} {cs : List Frame} {w : World} {ops : Array Oper}
theorem fstep_skip : step P (lone (fat b a (.code .skip :: k)) cs w) = .next (lone (fat b a k) cs w) := step_lone_go (by simp [stepG, stepG.exec, fat])
theorem fstep_inBlock {id : Nat} : step P (lone (fat b a (.inBlock id :: k)) cs w) = .next (lone (fat b a k) cs w) := step_lone_go (by simp [stepG, stepG.exec, fat])
theorem fstep_seq {x y : Code} : step P (lone (fat b a (.code (.seq x y) :: k)) cs w) = .next (lone (fat b a (.code x :: .code y :: k)) cs w) := step_lone_go (by simp [stepG, stepG.exec, fat])
theorem fstep_cond {c : Operand} {x y : Code} {t : Bool} (h : a.eval c = .bool t) :
    step P (lone (fat b a (.code (.cond c x y) :: k)) cs w) = .next (lone (fat b a (.code (if t then x else y) :: k)) cs w) :=
  step_lone_go (by
    have := congrFun (fat_eval b a (.code (.cond c x y) :: k)) c
    simp only [fat] at this
    simp [stepG, stepG.exec, fat, this, h])
theorem fstep_block {id : Nat} {c : Code} : step P (lone (fat b a (.code (.block id c) :: k)) cs w) = .next (lone (fat b a (.code c :: .inBlock id :: k)) cs w) := step_lone_go (by simp [stepG, stepG.exec, fat])
theorem fstep_loop {c : Code} : step P (lone (fat b a (.code (.loop c) :: k)) cs w) = .next (lone (fat b a (.code c :: .inLoop c :: k)) cs w) := step_lone_go (by simp [stepG, stepG.exec, fat])
theorem fstep_inLoop {c : Code} : step P (lone (fat b a (.inLoop c :: k)) cs w) = .next (lone (fat b a (.code c :: .inLoop c :: k)) cs w) := step_lone_go (by simp [stepG, stepG.exec, fat])
theorem fstep_exit {id : Nat} {k' : List Item} (h : exitTo id k = some k') : step P (lone (fat b a (.code (.exit id) :: k)) cs w) = .next (lone (fat b a k') cs w) :=
  step_lone_go (by simp [stepG, stepG.exec, fat, h])
theorem fstep_region {id : Nat} : step P (lone (fat b a (.code (.region id ops false) :: k)) cs w) = .next (lone (fat b a (.inRegion ops (List.range ops.size) :: k)) cs w) :=
  step_lone_go (by simp [stepG, stepG.exec, fat])
theorem fstep_region_draw {id : Nat} : step P (lone (fat b a (.code (.region id ops true) :: k)) cs w) =
    .next (lone (fat b a (.inRegion ops (Region.schedule (P.follows .mixedOrders) ops (w.tape w.drawn (.order b.fn id))) :: k)) cs w.drew) :=
  step_lone_go (by simp [stepG, stepG.exec, fat, choose, Sem.run, Question.forced, Question.cut])
theorem fstep_region_end : step P (lone (fat b a (.inRegion ops [] :: k)) cs w) = .next (lone (fat b a k) cs w) := step_lone_go (by simp [stepG, stepG.exec, fat])
theorem fstep_op_skip {i : Nat} {rest : List Nat} {o : Oper} (ho : ops[i]? = some o) (hw : Region.wanted o (yielded ops a.tmps) = false) :
    step P (lone (fat b a (.inRegion ops (i :: rest) :: k)) cs w) = .next (lone (fat b (a.put o.dst undef) (.inRegion ops rest :: k)) cs w) :=
  step_lone_go (by
    cases hd : o.dst <;> simp [stepG, stepG.exec, fat, ho, hw, Frame.finish, Act.put, hd])
theorem fstepG_op {i : Nat} {rest : List Nat} {o : Oper} (ho : ops[i]? = some o) (hw : Region.wanted o (yielded ops a.tmps) = true) (hd : ∀ c, o.op ≠ .defer c) :
    stepG P true { frame := fat b a (.inRegion ops (i :: rest) :: k), callers := cs, status := .running, dying := none } w =
      stepG.apply P true (fat b a (.inRegion ops (i :: rest) :: k)) cs none (execOp a.eval o) w := by
  have he := fat_eval b a (.inRegion ops (i :: rest) :: k)
  simp only [fat] at he
  simp only [stepG, stepG.exec, stepG.oper, Frame.oper?, fat, ho, hw, he, Option.map_some, Option.getD_some, if_true]
  split
  · exact absurd ‹o.op = _› (hd _)
  · rfl
theorem fat_finish {i : Nat} {rest : List Nat} {o : Oper} (ho : ops[i]? = some o) (v : Value) :
    (fat b a (.inRegion ops (i :: rest) :: k)).finish v = fat b (a.put o.dst v) (.inRegion ops rest :: k) := by
  cases hd : o.dst <;> simp [fat, Frame.finish, ho, Act.put, hd]
theorem fstep_defer {i : Nat} {rest : List Nat} {o : Oper} {w' : World} {d : Deferred} (ho : ops[i]? = some o) (hw : Region.wanted o (yielded ops a.tmps) = true) (hro : b.roundOf = none) (_hd : ∃ c, o.op = .defer c) (hr : (execOp a.eval o).run P w = .ok (.defer d) w') :
    step P (lone (fat b a (.inRegion ops (i :: rest) :: k)) cs w) = .next (lone (fat b { a.put o.dst undef with defers := d :: a.defers } (.inRegion ops rest :: k)) cs w') :=
  step_lone_go (by
    have he := fat_eval b a (.inRegion ops (i :: rest) :: k)
    simp only [fat, hro] at he
    cases hdst : o.dst <;> simp [stepG, stepG.exec, stepG.oper, stepG.apply, Frame.oper?, fat, ho, hw, he, hro, hr, Frame.finish, Act.put, hdst])
theorem fstep_recover {i : Nat} {rest : List Nat} {o : Oper} {w' : World} (ho : ops[i]? = some o) (hw : Region.wanted o (yielded ops a.tmps) = true) (hro : b.roundOf = none)
    (hcalm : b.kind = .normal ∨ (b.kind = .deferred ∧ ∃ c r, cs = c :: r ∧ c.mode = .returning)) (_hd : ∀ c, o.op ≠ .defer c) (hr : (execOp a.eval o).run P w = .ok .recover w') :
    step P (lone (fat b a (.inRegion ops (i :: rest) :: k)) cs w) = .next (lone (fat b (a.put o.dst .nilIface) (.inRegion ops rest :: k)) cs w') :=
  step_lone_go (by
    have he := fat_eval b a (.inRegion ops (i :: rest) :: k)
    simp only [fat, hro] at he
    have hno : ∀ fr : Frame, fr.kind = b.kind → tryRecover fr cs = none := by
      intro fr hk
      rcases hcalm with h | ⟨h, c, r, rfl, hm⟩
      · simp [tryRecover, hk, h]
      · simp [tryRecover, hk, h, hm]
    cases hdst : o.dst <;> simp [stepG, stepG.exec, stepG.oper, stepG.apply, Frame.oper?, fat, ho, hw, he, hro, hr, hno, Frame.finish, Act.put, hdst])
/-- A deferred call begins, and its end. -/
theorem fstep_deferred {fr : Frame} {d : Deferred} {ds : List Deferred} {w' : World} {g : FuncId} {args : Array Value} (hm : fr.mode = .returning) (hd : fr.defers = d :: ds) (hc : ∃ f q, d.target = .fn f q)
    (h : (invoke d.target d.args).run P w = .ok (.enter g args) w') : step P (lone fr cs w) = .next (lone (Frame.enter P g args .deferred) ({ fr with defers := ds } :: cs) w') :=
  step_lone_go (by
    obtain ⟨fn, tmps, todo, defers, mode, kind, roundOf⟩ := fr
    obtain ⟨target, dargs⟩ := d
    obtain ⟨f, q, rfl⟩ := hc
    simp only at hm hd h
    subst hm; subst hd
    simp [stepG, unwind, callDeferred, h])
theorem fstep_deferred_end {fr c : Frame} {v : Value} {fn : Func} (hm : fr.mode = .returning) (hd : fr.defers = []) (hk : fr.kind = .deferred) (hc : c.mode = .returning) (hf : P.funcs[fr.fn]? = some fn) (hr : (results fn fr.tmps).run P w = .ok v w) :
    step P (lone fr (c :: cs) w) = .next (lone c cs w) :=
  step_lone_go (by
    simp [stepG, unwind, doReturn, hm, hd, hk, hf, hr, hc])
theorem fstep_val {i : Nat} {rest : List Nat} {o : Oper} {w' : World} {v : Value} (ho : ops[i]? = some o) (hw : Region.wanted o (yielded ops a.tmps) = true) (hd : ∀ c, o.op ≠ .defer c) (hr : (execOp a.eval o).run P w = .ok (.value v) w') :
    step P (lone (fat b a (.inRegion ops (i :: rest) :: k)) cs w) = .next (lone (fat b (a.put o.dst v) (.inRegion ops rest :: k)) cs w') :=
  step_lone_go (by rw [fstepG_op ho hw hd, ← fat_finish ho]; simp [stepG.apply, hr])
theorem fstep_skipv {i : Nat} {rest : List Nat} {o : Oper} {w' : World} (ho : ops[i]? = some o) (hw : Region.wanted o (yielded ops a.tmps) = true) (hd : ∀ c, o.op ≠ .defer c) (hr : (execOp a.eval o).run P w = .ok .skip w') :
    step P (lone (fat b a (.inRegion ops (i :: rest) :: k)) cs w) = .next (lone (fat b (a.put o.dst undef) (.inRegion ops rest :: k)) cs w') :=
  step_lone_go (by rw [fstepG_op ho hw hd, ← fat_finish ho]; simp [stepG.apply, hr])
theorem fstep_enter {i : Nat} {rest : List Nat} {o : Oper} {w' : World} {f : FuncId} {args : Array Value} (ho : ops[i]? = some o) (hw : Region.wanted o (yielded ops a.tmps) = true) (hd : ∀ c, o.op ≠ .defer c)
    (hr : (execOp a.eval o).run P w = .ok (.enter f args) w') :
    step P (lone (fat b a (.inRegion ops (i :: rest) :: k)) cs w) = .next (lone (Frame.enter P f args .normal) (fat b a (.inRegion ops (i :: rest) :: k) :: cs) w') :=
  step_lone_go (by rw [fstepG_op ho hw hd]; simp [stepG.apply, hr, fat])
theorem fstep_round {i : Nat} {rest : List Nat} {o : Oper} {w' : World} {l : Nat} {f : FuncId} {tmps : Array Value} {assign body : Code} (ho : ops[i]? = some o) (hw : Region.wanted o (yielded ops a.tmps) = true) (hd : ∀ c, o.op ≠ .defer c)
    (hr : (execOp a.eval o).run P w = .ok (.round l f tmps assign body) w') :
    step P (lone (fat b a (.inRegion ops (i :: rest) :: k)) cs w) = .next (lone (Frame.round l f tmps assign body .normal) (fat b a (.inRegion ops (i :: rest) :: k) :: cs) w') :=
  step_lone_go (by rw [fstepG_op ho hw hd]; simp [stepG.apply, hr, fat])
theorem fstep_ret (hr : b.roundOf = none) : step P (lone (fat b a (.code .ret :: k)) cs w) = .next (lone { fat b a (.code .ret :: k) with mode := .returning } cs w) :=
  step_lone_go (by simp [stepG, stepG.exec, fat, hr])
theorem fstep_end (hr : b.roundOf = none) : step P (lone (fat b a []) cs w) = .next (lone { fat b a [] with mode := .returning } cs w) :=
  step_lone_go (by simp [stepG, stepG.exec, fat, hr])
theorem fstep_beginRound {l : Nat} {w' : World} (hr : b.roundOf = some l) (h : (Instr.beginRound l).run P w = .ok () w') :
    step P (lone (fat b a (.beginRound :: k)) cs w) = .next (lone (fat b a k) cs w') :=
  step_lone_go (by simp [stepG, stepG.exec, stepG.apply, fat, hr, h, Frame.finish])
theorem fstep_round_end {l : Nat} {w' : World} {v : Value} {c : Frame} (hr : b.roundOf = some l) (hk : b.kind = .normal) (h : (Instr.endRound l none).run P w = .ok v w') :
    step P (lone (fat b a []) (c :: cs) w) = .next (lone (c.finish v) cs w') :=
  step_lone_go (by simp [stepG, stepG.exec, fat, hr, h, doReturn, hk])
theorem fstep_round_ret {l : Nat} {w' : World} {v : Value} {c : Frame} (hr : b.roundOf = some l) (hk : b.kind = .normal) (h : (Instr.endRound l (some .ret)).run P w = .ok v w') :
    step P (lone (fat b a (.code .ret :: k)) (c :: cs) w) = .next (lone (c.finish v) cs w') :=
  step_lone_go (by simp [stepG, stepG.exec, fat, hr, h, doReturn, hk])
theorem fstep_round_exit {l id : Nat} {w' : World} {v : Value} {c : Frame} (hr : b.roundOf = some l) (hk : b.kind = .normal) (he : exitTo id k = none) (h : (Instr.endRound l (some (.exit id))).run P w = .ok v w') :
    step P (lone (fat b a (.code (.exit id) :: k)) (c :: cs) w) = .next (lone (c.finish v) cs w') :=
  step_lone_go (by simp [stepG, stepG.exec, fat, hr, h, doReturn, hk, he])
theorem fstep_taken {block : Nat} {ds : List Deferred} {w' : World} {fr : Frame} (hm : fr.mode = .returning) (hd : fr.defers = { target := .collected block, args := #[] } :: ds) (h : (Instr.takeDeferred block).run P w = .ok [] w') :
    step P (lone fr cs w) = .next (lone { fr with defers := ds } cs w') :=
  step_lone_go (by
    obtain ⟨fn, tmps, todo, defers, mode, kind, roundOf⟩ := fr
    simp only at hm hd
    subst hm; subst hd
    simp [stepG, unwind, h])
end

/-! ### rounds over a function: the loop's own steps -/
section
variable {P : Program} {b : Frame} {a : Act} {k : List Item} {cs : List Frame} {w : World}
theorem fstep_rangeFunc {f : Operand} {params : Array Tmp} {assign body : Code} {l : Nat} {mark : List Deferred} {w1 : World} {g : FuncId} {args : Array Value}
    (h1 : (Instr.enterLoop b.fn a.tmps params assign body b.roundOf).run P w = .ok (l, mark) w1)
    (h2 : (do let d ← resolve a.eval { callee := .value f, args := #[.const (.func (.yield l) #[] #[])], argTypes := #[] } 0; invoke d.target d.args : Sem Next).run P w1 = .ok (.enter g args) w1) :
    step P (lone (fat b a (.code (.rangeFunc f params assign body) :: k)) cs w) =
      .next (lone (Frame.enter P g args .normal) (fat b { a with defers := mark ++ a.defers } (.inRangeFunc l :: k) :: cs) w1) :=
  step_lone_go (by
    have he := fat_eval b a (.code (.rangeFunc f params assign body) :: k)
    simp only [fat] at he
    simp [stepG, stepG.exec, fat, h1]
    have he2 : ∀ d, Frame.eval { fn := b.fn, tmps := a.tmps, todo := Item.inRangeFunc l :: k, defers := d, mode := FrameMode.run, kind := b.kind, roundOf := b.roundOf } = a.eval := by
      intro d; funext x; cases x <;> rfl
    simp only [Sem.run_bind] at h2
    simp [stepG.apply, he2, h2])
theorem fstep_endRangeFunc {l : Nat} {jump : Option Code} {w' : World} (h : (Instr.endLoop l).run P w = .ok jump w') :
    step P (lone (fat b a (.endRangeFunc l :: k)) cs w) = .next (lone (fat b a ((jump.map Item.code).toList ++ k)) cs w') :=
  step_lone_go (by simp [stepG, stepG.exec, fat, h])
theorem fat_finish_range {l : Nat} (v : Value) : (fat b a (.inRangeFunc l :: k)).finish v = fat b a (.endRangeFunc l :: k) := rfl
end

end Go.Eng
