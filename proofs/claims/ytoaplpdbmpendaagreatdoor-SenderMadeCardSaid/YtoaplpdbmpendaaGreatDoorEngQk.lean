/-
  The engine, part Qj: a call of plain arguments, known out of its run on no memory.
-/
import Derived.Test.YtoaplpdbmpendaaGreatDoorEngQi
set_option linter.unusedSectionVars false
set_option linter.unusedSimpArgs false
set_option linter.unusedVariables false
namespace Go.Eng
open Go.Conc
set_option linter.unusedSimpArgs false
set_option linter.unusedVariables false
set_option linter.unusedSectionVars false
variable [Hk]

theorem plain_call {P : Program} {f : FuncId} {args : List Value} {v : Value} (hargs : plainL args = true) (hv : plain v = true)
    (h : ∀ kd, kd = .normal ∨ kd = .deferred → ∃ s0 S, kenter P f args kd = some s0 ∧ Reach P ⟨s0, [], CH.first []⟩ S ∧ finVal P f kd S = some v) (N : CH) : CallOk P f args N v N := by
  intro main J hctx lo E w O W hlo R own hcl kd cs hcs K hK
  obtain ⟨s0, S, hk, hr, hf⟩ := h kd hcs.1
  have hpl : ∀ (F : Env), args.map F.m = args := fun F => by
    have : ∀ u ∈ args, F.m u = u := fun u hu => m_plain F (plainL_all.1 hargs u hu)
    exact (List.map_congr_left this).trans (List.map_id _)
  have R0 : Rel P (Env.bare (fun _ => .nilFunc) (fun _ => rfl)) (CH.first []) w := rel_first (laid_none w) _ _
  obtain ⟨e1, e2, e3, e4, _⟩ := kenter_ok (E := Env.bare (fun _ => .nilFunc) (fun _ => rfl)) hk (fun u hu => Clo_plain _ _ (plainL_all.1 hargs u hu))
  rw [hpl] at e1 ⊢
  have hs0 : SRel P (Env.bare (fun _ => .nilFunc) (fun _ => rfl)) ⟨s0, [], CH.first []⟩ w := ⟨R0, e2, by simp, by
    refine ⟨?_, trivial⟩
    rw [e3]
    exact hcs.1.imp (fun h => h) fun h => ⟨h, .inl rfl⟩⟩
  have own0 : Own O W 0 (Env.bare (fun _ => .nilFunc) (fun _ => rfl)) (CH.first []) w := ⟨fun j hj hl => absurd hl (no_live hj), fun j hj hl _ => absurd hl (no_live hj), own.lt, Nat.zero_le _⟩
  have hg0 : St.gor (Env.bare (fun _ => .nilFunc) (fun _ => rfl)) ⟨s0, [], CH.first []⟩ cs = G (Frame.enter P f args.toArray kd) cs := by
    unfold St.gor
    rw [e1]
    rfl
  rw [← hg0]
  refine hr main J 0 _ w O W (Nat.zero_le _) hs0 own0 cs hcs.any K fun O' W' E' w' hs L => ?_
  have hrel : Rely O w w' := ⟨fun b hb => L.ext.frame b hb (own.lt b hb) fun k hk hl => absurd hl (no_live hk), L.ext.hsize, L.ext.os, L.ext.tape, L.ext.output⟩
  have hat : At P 0 (fun _ _ _ _ _ => True) S cs O' W' (S.gor E' cs) w' E' := ⟨rfl, hs, L.own, trivial⟩
  obtain ⟨fr, f1, f2, f3⟩ := ready_of hat hf hv
  have L1 := Later.of_rely R own hrel
  have L2 : Later P lo O W E N w O' W' E N w' := ⟨L1.rel, ⟨fun k hk hl => L.oo _ (own.img k hk hl), fun k hk hl h => L.ww _ (own.wri k hk hl h), L.own.lt, own.low⟩, L1.ext, L.oo, L.ww, L.ou⟩
  rw [f1]
  refine hK O' W' E w' fr L2 (Clo_plain _ _ hv) f2 ?_
  rw [m_plain E hv]
  exact f3 O' w'
/-- A hook that knows some calls. -/
def hooks (l : List Hook) : Hook := fun f args N => l.findSome? fun h => h f args N
theorem hooks_ok {P : Program} : ∀ {l : List Hook}, (∀ h ∈ l, HookOk P h) → HookOk P (hooks l)
  | [], _ => fun f args N v N' h => by cases h
  | a :: l, hl => fun f args N v N' h => by
    unfold hooks at h
    rw [List.findSome?_cons] at h
    split at h
    · rename_i x hx
      cases h
      exact hl a (by simp) f args N v N' hx
    · exact hooks_ok (l := l) (fun b hb => hl b (by simp [hb])) f args N v N' h
/-- A plain call as a hook. -/
theorem plain_hook {P : Program} {f : FuncId} {args : List Value} {v : Value} {is : List Value → Bool} (his : ∀ l, is l = true → l = args) (hargs : plainL args = true) (hv : plain v = true) (hb : (P.funcs[f]?).any (fun fn => fn.body.isSome) = true)
    (h : ∀ kd, kd = .normal ∨ kd = .deferred → ∃ s0 S, kenter P f args kd = some s0 ∧ Reach P ⟨s0, [], CH.first []⟩ S ∧ finVal P f kd S = some v) : HookOk P (hook1 f is v) := by
  intro g l N u N' hh
  unfold hook1 at hh
  split at hh
  rotate_left
  · cases hh
  rename_i hg
  split at hh
  rotate_left
  · cases hh
  rename_i ha
  simp only [Option.some.injEq, Prod.mk.injEq] at hh
  obtain ⟨rfl, rfl⟩ := hh
  obtain rfl := Nat.eq_of_beq_eq_true hg
  obtain rfl := his l ha
  refine ⟨plain_call hargs hv h N, ?_⟩
  cases hf : P.funcs[g]? with
  | none => rw [hf] at hb; cases hb
  | some fn => exact ⟨fn, rfl, by rw [hf] at hb; exact hb⟩
end Go.Eng
namespace Go.Eng
open Go.Conc
set_option linter.unusedSimpArgs false
set_option linter.unusedVariables false
set_option linter.unusedSectionVars false
variable [Hk]

theorem drawOkN_le {P : Program} {A B : Rec} (h : A.Le B) {ops : Array Oper} {n : Nat} {l : List DS} {fin : DS} (hs : drawOkN P A ops n l fin = true) : drawOkN P B ops n l fin = true := by
  unfold drawOkN at hs ⊢
  simp only [Bool.and_eq_true, Bool.or_eq_true, List.all_eq_true, List.mem_range, lateOk] at hs ⊢
  refine ⟨hs.1, hs.2.imp id fun hh => ⟨hh.1, fun i hi => ?_⟩⟩
  refine (hh.2 i hi).imp id fun h3 p hp => ?_
  refine (h3 p hp).imp id fun h4 => ⟨h4.1, lateEval_le h h4.2⟩
/-- The last one waits for all others. -/
def lastAfter (ops : Array Oper) (n : Nat) : Bool := (List.range n).all fun i => bef (bmsGo ops.toList []) i n
def xbut (P : Program) (R : Rec) : St → Option St
  | ⟨⟨fn, ar, kd, false, a, .code (.region id ops true) :: k⟩, cs, N⟩ => match ops.size with
    | 0 => none
    | n + 1 => match fcruns P R ops (ops.toList.take n) a N with
      | some (l, a', N') => if and (lastAfter ops n) (drawOkN P R ops n (l.map FDS.ds) ⟨a'.abs, N', .b, undef⟩) = true then some ⟨⟨fn, ar, kd, false, a', .reg ops n (ops.toList.drop n) :: k⟩, cs, N'⟩ else none
      | none => none
  | _ => none
theorem xbut_ok {P : Program} (hP : NoCount P) (hm : P.follows .mixedOrders = true) {A B : Rec} (hAB : A.Le B) (hB : RecOk P B) {S S' : St} (h : xbut P A S = some S') : Reach P S S' := by
  unfold xbut at h
  split at h
  rotate_left
  · cases h
  rename_i fn ar kd a id ops k cs N
  split at h
  · cases h
  rename_i n hsz
  split at h
  rotate_left
  · cases h
  rename_i l a' N' hr
  split at h
  rotate_left
  · cases h
  rename_i hall
  cases h
  simp only [Bool.and_eq_true] at hall
  obtain ⟨hla, hd⟩ := hall
  intro main J hx lo E w O W hlo hs ow under hu K hK
  have ht := hs.top
  obtain ⟨h1, h2⟩ := fcruns_ok hAB (ops.toList.take n) 0 (fun j o hj => by
    rw [List.getElem?_take] at hj
    split at hj
    · simpa using hj
    · cases hj) ht.a hr
  have hlen : (ops.toList.take n).length = n := by simp; omega
  rw [hlen] at h1
  have hk : ∀ it ∈ k, it.Ok E.D := fun it hit => ht.its it (by simp [hit])
  have hold : SF.Ok E.D ⟨fn, ar, kd, false, a, k⟩ := ⟨ht.a, ht.clo, ht.ar, hk, ht.ret, ht.kd⟩
  have hlast : n < ops.size → ∀ i, i < n → bef (bmsGo ops.toList []) i n = true := fun _ i hi => List.all_eq_true.1 hla i (List.mem_range.2 hi)
  unfold St.gor
  rw [SF.frame_run E rfl]
  refine draw_core hP hm hB (by omega) (by omega) hlast h1 (drawOkN_le hAB hd) hlo hs.rel ow ht.clo (SF.base E ⟨fn, ar, kd, false, a, k⟩) id (k.map (It.item E)) (cs.map (SF.frame E) ++ under) fun O' W' E' w' L hclo => ?_
  have X := L.ext
  obtain ⟨x1, x2⟩ := SF.ext X hold
  have hits : ∀ it ∈ (It.reg ops n (ops.toList.drop n) :: k), it.Ok E'.D := by
    intro it hit
    rcases List.mem_cons.1 hit with rfl | hit
    · intro j o hj
      rw [List.getElem?_drop] at hj
      simpa using hj
    · exact x2.its it hit
  have hfin := hK O' W' E' w' (hs.turn L.rel X ⟨h2, hclo, x2.ar, hits, x2.ret, x2.kd⟩ rfl) L
  rw [gor_eq X hs.cs, SF.frame_run E' rfl] at hfin
  have eb : SF.base E' ⟨fn, ar, kd, false, a', .reg ops n (ops.toList.drop n) :: k⟩ = SF.base E ⟨fn, ar, kd, false, a, k⟩ := by
    have := congrArg Frame.roundOf x1
    simp only [SF.frame] at this
    simp only [SF.base, this]
  have ek : k.map (It.item E') = k.map (It.item E) := by
    have := congrArg Frame.todo x1
    simpa [SF.frame] using this
  have el : (It.reg ops n (ops.toList.drop n)).item E' = .inRegion ops (List.range' n (ops.size - n)) := by
    simp [It.item]
  simp only [List.map_cons] at hfin
  rw [eb, ek, el] at hfin
  exact hfin
end Go.Eng
