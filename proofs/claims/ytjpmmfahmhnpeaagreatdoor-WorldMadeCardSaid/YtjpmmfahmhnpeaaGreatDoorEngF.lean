/-
  The engine, part F: append.
-/
import Derived.Test.YtjpmmfahmhnpeaaGreatDoorEngE
import Derived.Lib.AppendStr
namespace Go.Eng
set_option linter.unusedSimpArgs false
set_option linter.unusedVariables false

/-- A block that nobody may look at any more. -/
theorem Rel.kill {P : Program} {E : Env} {N : CH} {w : World} (R : Rel P E N w) {k : Nat} (hb0 : N.base ≤ k) (hk : k < N.sz) : Rel P E (N.set k .dead) w ∧ Ext E N w E (N.set k .dead) w := by
  have hlive : ∀ j, E.D j → (N.set k .dead).live j → N.live j := by
    intro j hj ⟨b', hb', hd⟩
    rw [CH.get_dom R.ok hb0 hk] at hb'
    by_cases h : j = k
    · rw [if_pos h] at hb'; cases hb'; simp [CB.isDead] at hd
    · rw [if_neg h] at hb'; exact ⟨b', hb', hd⟩
  refine ⟨⟨CH.ok_set R.ok hb0 hk _, R.gl, R.dom, fun i j hi hj h1 h2 => R.inj i j hi hj (hlive i hi h1) (hlive j hj h2), ?_⟩,
    fun _ h => ⟨h, rfl, rfl, rfl⟩, fun _ h => .inl h, fun _ h1 h2 => absurd h2 (Nat.not_lt.2 h1), Nat.le_refl _, Nat.le_refl _, fun _ h => .inl h, hlive, (CH.set_wm N k .dead).1, fun j hj hw => CH.get_set_other R.ok hb0 hk (by have := (CH.set_wm N k .dead).2; omega) _, fun _ _ _ => rfl, rfl, rfl, rfl, rfl⟩
  intro j b' hj hb'
  rw [CH.get_dom R.ok hb0 hk] at hb'
  by_cases h : j = k
  · rw [if_pos h] at hb'; cases hb'; trivial
  · rw [if_neg h] at hb'; exact R.blk j b' hj hb'

/-- A dead block's memory is taken over by a new one. -/
theorem Rel.takeOver {P : Program} {E : Env} {N : CH} {w w' : World} (R : Rel P E N w) {k : Nat} (hk : E.D k) (hl : N.live k) {b : CB} {y z : Nat}
    (hb : BlkRel P (E.add N.sz (E.f k) y z) N.sz b w'.heap[E.f k]?) (hother : ∀ j, j ≠ E.f k → w'.heap[j]? = w.heap[j]?) (hs : w'.heap.size = w.heap.size)
    (hos : w'.os = w.os) (htape : w'.tape = w.tape) (hout : w'.output = w.output) :
    Rel P (E.add N.sz (E.f k) y z) ((N.set k .dead).push b) w' ∧ Ext E N w (E.add N.sz (E.f k) y z) ((N.set k .dead).push b) w' := by
  have hkl := R.dom k hk
  have hne : ∀ j, E.D j → j ≠ N.sz := fun j hj => by have := R.dom j hj; omega
  have hok : (N.set k .dead).Ok := CH.ok_set R.ok (CH.live_lt hl) hkl _
  have hszeq : (N.set k CB.dead).sz = N.sz := rfl
  have hget : ∀ j, E.D j → ((N.set k .dead).push b).get j = if j = k then some .dead else N.get j := by
    intro j hj
    rw [CH.get_push_other hok (by rw [hszeq]; exact R.dom j hj) b, CH.get_dom R.ok (CH.live_lt hl) hkl]
  have hnew : ((N.set k .dead).push b).get N.sz = some b := CH.get_push_same hok b
  have hlive : ∀ j, E.D j → ((N.set k .dead).push b).live j → j ≠ k ∧ N.live j := by
    intro j hj ⟨b', hb', hd⟩
    rw [hget j hj] at hb'
    by_cases h : j = k
    · rw [if_pos h] at hb'; cases hb'; simp [CB.isDead] at hd
    · rw [if_neg h] at hb'; exact ⟨h, b', hb', hd⟩
  have hm : ∀ v, Clo E.D v → (E.add N.sz (E.f k) y z).m v = E.m v := fun v hv => R.clo_lt hv
  refine ⟨⟨CH.ok_push hok b, R.gl.add R.dom, ?_, ?_, ?_⟩, ?_, ?_, fun j h1 h2 => .inl (by have : j < N.sz + 1 := h2; omega), Nat.le_succ _, by omega, ?_, fun j hj h => (hlive j hj h).2, (CH.set_wm N k .dead).1, fun j hj hw => (CH.get_push_other hok (by rw [hszeq]; exact hj) b).trans (CH.get_set_other R.ok (CH.live_lt hl) hkl (by have := (CH.set_wm N k .dead).2; have hw' : j < (N.set k .dead).wm := hw; omega) _), ?_, hos, htape, hout, rfl⟩
  · intro j hj
    rcases hj with rfl | hj
    · exact Nat.lt_succ_self _
    · exact Nat.lt_succ_of_lt (R.dom j hj)
  · intro i j hi hj li lj e
    rcases hi with rfl | hi <;> rcases hj with rfl | hj
    · rfl
    · obtain ⟨h1, h2⟩ := hlive j hj lj
      simp [Env.add, hne j hj] at e
      exact absurd (R.inj k j hk hj hl h2 e).symm h1
    · obtain ⟨h1, h2⟩ := hlive i hi li
      simp [Env.add, hne i hi] at e
      exact absurd (R.inj i k hi hk h2 hl e) h1
    · simp [Env.add, hne i hi, hne j hj] at e
      exact R.inj i j hi hj (hlive i hi li).2 (hlive j hj lj).2 e
  · intro j b' hj hb'
    rcases hj with rfl | hj
    · rw [hnew] at hb'
      cases hb'
      rw [Env.add_f]
      exact hb
    · rw [hget j hj] at hb'
      have hf : (E.add N.sz (E.f k) y z).f j = E.f j := by simp [Env.add, hne j hj]
      have hx : (E.add N.sz (E.f k) y z).x j = E.x j := by simp [Env.add, hne j hj]
      have hss : (E.add N.sz (E.f k) y z).s j = E.s j := by simp [Env.add, hne j hj]
      by_cases h : j = k
      · rw [if_pos h] at hb'; cases hb'; trivial
      · rw [if_neg h] at hb'
        cases hd : b'.isDead with
        | true => cases b' <;> simp [CB.isDead] at hd; trivial
        | false =>
          have hfne : E.f j ≠ E.f k := fun e => h (R.inj j k hj hk ⟨b', hb', hd⟩ hl e)
          rw [hf, hother _ hfne]
          exact (R.blk j b' hj hb').mono (fun i hi => ⟨.inr hi, by simp [Env.add, hne i hi]⟩) hm hx hss
  · intro j hj
    exact ⟨.inr hj, by simp [Env.add, hne j hj], by simp [Env.add, hne j hj], by simp [Env.add, hne j hj]⟩
  · intro j hj
    rcases hj with rfl | hj
    · exact .inr ⟨Nat.le_refl _, Nat.lt_succ_self _⟩
    · exact .inl hj
  · intro j hj
    rcases hj with rfl | hj
    · exact .inr (.inr ⟨k, hk, hl, fun h => (hlive k hk h).1 rfl, by rw [Env.add_f]⟩)
    · exact .inl hj
  · intro j _ hn
    exact hother j (fun e => hn k hk hl e.symm)

/-! ### what is appended, or copied -/
def csrc (size : Nat) (x : Value) (N : CH) : Option (Nat × List Value) :=
  match x with
  | .slice none n _ => if n = 0 then some (0, []) else none
  | .slice (some ad) n _ =>
    if n = 0 then some (0, []) else
    match N.get ad.block with
    | some (.row c _ _) => if sure ad = true ∧ ad.off + n * size ≤ c.length then some (n, (c.drop ad.off).take (n * size)) else none
    | _ => none
  | .string s => some (s.size, Lib.strCells s)
  | _ => none
theorem getElem?_take_drop {c : List Value} {o n j : Nat} {u : Value} (h : ((c.drop o).take n)[j]? = some u) : c[o + j]? = some u := by
  rw [List.getElem?_take] at h
  split at h
  · rwa [List.getElem?_drop] at h
  · cases h
theorem strCells_plain (s : ByteArray) : ∀ u ∈ Lib.strCells s, plain u = true := by
  intro u hu
  unfold Lib.strCells at hu
  obtain ⟨b, _, rfl⟩ := List.mem_map.1 hu
  rfl
theorem src_ok {P : Program} {E : Env} {N : CH} {w : World} (R : Rel P E N w) {size n : Nat} {x : Value} {cs : List Value} (hx : Clo E.D x) (h : csrc size x N = some (n, cs)) :
    (∀ w : World, (Builtin.lenOf (E.m x)).run P w = .ok n w) ∧ (Builtin.firstCells size n (E.m x)).run P w = .ok (cs.map E.m).toArray w ∧ (Builtin.firstCells size n (E.m x)).run P w.drew = .ok (cs.map E.m).toArray w.drew ∧ (∀ u ∈ cs, Clo E.D u) := by
  unfold csrc at h
  split at h
  · rename_i n' c'
    split at h
    · rename_i h0
      cases h
      subst h0
      exact ⟨fun _ => rfl, run_firstCells_none _ _ _ _ _, run_firstCells_none _ _ _ _ _, by simp⟩
    · cases h
  · rename_i ad n' c'
    obtain ⟨a1, a2, a3⟩ := ad
    split at h
    · rename_i h0
      cases h
      subst h0
      have hm : E.m (.slice (some ⟨a1, a2, a3⟩) 0 c') = .slice (some ⟨E.f a1, soff E.toRen ⟨a1, a2, a3⟩, none⟩) 0 (scap E.toRen ⟨a1, a2, a3⟩ c') := by simp only [Env.m, mv]
      rw [hm]
      exact ⟨fun _ => rfl, run_firstCells_some w size 0 _ 0 _ [] (by simp) (by simp), run_firstCells_some w.drew size 0 _ 0 _ [] (by simp) (by simp), by simp⟩
    split at h
    · rename_i c e el hg
      simp only at hg
      split at h
      · rename_i hle
        cases h
        obtain ⟨hsu, hle⟩ := hle
        have hd : E.D a1 := hx
        obtain ⟨c1, hm⟩ : ∃ c1, E.m (.slice (some ⟨a1, a2, a3⟩) n c') = .slice (some ⟨E.f a1, a2 + E.s a1, none⟩) n c1 := ⟨scap E.toRen ⟨a1, a2, a3⟩ c', by simp only [Env.m, mv, soff_sure _ hsu]⟩
        rw [hm]
        have hle' : a2 + n * size ≤ c.length := hle
        have hlen : (((c.drop a2).take (n * size)).map E.m).length = n * size := by simp; omega
        have hcell : ∀ j v, (((c.drop a2).take (n * size)).map E.m)[j]? = some v → w.cell? ((⟨E.f a1, a2 + E.s a1, none⟩ : Addr).add j) = some v := by
          intro j v hj
          rw [addr_add]
          rw [List.getElem?_map] at hj
          cases hj' : ((c.drop a2).take (n * size))[j]? with
          | none => rw [hj'] at hj; cases hj
          | some u =>
            rw [hj'] at hj
            cases hj
            exact R.cell hd hg (getElem?_take_drop hj') (by omega)
        refine ⟨fun _ => rfl, run_firstCells_some w size n _ n c1 _ hlen hcell, run_firstCells_some w.drew size n _ n c1 _ hlen (by simpa using hcell), ?_⟩
        intro u hu
        exact (R.row hd hg).1 u (List.mem_of_mem_drop (List.mem_of_mem_take hu))
      · cases h
    · cases h
  · rename_i s
    cases h
    have hm : E.m (.string s) = .string s := rfl
    rw [hm, map_plain E (strCells_plain s)]
    exact ⟨fun _ => rfl, Lib.run_firstCells_string _ _ _, Lib.run_firstCells_string _ _ _, fun u hu => Clo_plain _ u (strCells_plain s u hu)⟩
  · cases h

def notInt (P : Program) (t : TypeId) : Bool := match P.underlying t with | some (.int _) => false | some _ => true | none => false
theorem notInt_spec {P : Program} {t : TypeId} (h : notInt P t = true) : ∃ d, P.underlying t = some d ∧ ∀ k, d ≠ .int k := by
  unfold notInt at h
  split at h
  · cases h
  · rename_i d hd hu
    exact ⟨d, hu, fun k hk => hd k hk⟩
  · cases h

def isIntD (d : TypeDesc) : Bool := d matches .int _
theorem notIntD {d : TypeDesc} (hk : ∀ k, d ≠ .int k) : isIntD d = false := by
  cases d with
  | int k => exact absurd rfl (hk k)
  | _ => rfl
theorem run_append_in {P : Program} {w w' : World} {t xt ty e : TypeId} {i : TypeInfo} (ht : P.underlying t = some (.slice e)) (hx : notInt P xt = true) (hi : P.info? e = some i) {a : Addr} {l c n : Nat} {x : Value} {news : Array Value}
    (hlen : (Builtin.lenOf x).run P w = .ok n w) (hnew : (Builtin.firstCells i.size n x).run P w = .ok news w) (hroom : l + n ≤ c)
    (hst : (storeCells (a.add (l * i.size)) news.toList).run P w = .ok () w') :
    (Builtin.append_ #[t, xt] ty #[.slice (some a) l c, x]).run P w = .ok (.slice (some a) (l + n) c) w' := by
  obtain ⟨d, hd, hk⟩ := notInt_spec hx
  have hz := notIntD hk
  unfold isIntD at hz
  simp [Builtin.append_, run_underlying ht, run_underlying hd, sizeOf, typeInfo, hi, hz, hlen, hroom, hnew, hst]
theorem run_append_nil0 {P : Program} {w : World} {t xt ty e : TypeId} {i : TypeInfo} (ht : P.underlying t = some (.slice e)) (hx : notInt P xt = true) (hi : P.info? e = some i) {c n : Nat} {x : Value} {news : Array Value}
    (hlen : (Builtin.lenOf x).run P w = .ok n w) (hnew : (Builtin.firstCells i.size n x).run P w = .ok news w) (hroom : n ≤ c) :
    (Builtin.append_ #[t, xt] ty #[.slice none 0 c, x]).run P w = .ok (.slice none n c) w := by
  obtain ⟨d, hd, hk⟩ := notInt_spec hx
  have hz := notIntD hk
  unfold isIntD at hz
  simp [Builtin.append_, run_underlying ht, run_underlying hd, sizeOf, typeInfo, hi, hz, hlen, hroom, hnew]
theorem run_append_up {P : Program} {w : World} {t xt ty e : TypeId} {i : TypeInfo} {z : Value} (ht : P.underlying t = some (.slice e)) (hx : notInt P xt = true) (hi : P.info? e = some i) (hz : i.zero = some z) {a : Option Addr} {l c n : Nat} {x : Value}
    {olds news : Array Value} (hlen : (Builtin.lenOf x).run P w = .ok n w) (hnew : (Builtin.firstCells i.size n x).run P w.drew = .ok news w.drew) (hold : (Builtin.firstCells i.size l (.slice a l c)).run P w.drew = .ok olds w.drew)
    (hroom : c < l + n) (hby : 0 < i.bytes) (hfit : (l + n) * i.bytes ≤ 140737488355328) :
    (Builtin.append_ #[t, xt] ty #[.slice a l c, x]).run P w = .ok (.slice (some ⟨w.heap.size, 0, none⟩) (l + n) (grownCap w (l + n) c e))
      (w.drew.alloc (.cells (olds ++ news ++ Builtin.zeroCells z.cells (grownCap w (l + n) c e - (l + n))) e)) := by
  obtain ⟨d, hd, hk⟩ := notInt_spec hx
  have hzz := notIntD hk
  unfold isIntD at hzz
  have hn : ¬ (l + n ≤ c) := by omega
  have hbig : l + n ≤ 140737488355328 := Nat.le_trans (Nat.le_mul_of_pos_right _ hby) hfit
  have h63' : ¬ (9223372036854775807 < ((l : Int) + (n : Int))) := by omega
  have h48' : ¬ (281474976710656 < Builtin.nextslicecap (l + n) c * i.bytes) := by have := growslice_fits hroom hfit; omega
  simp [Builtin.append_, run_underlying ht, run_underlying hd, sizeOf, typeInfo, zeroValue, hi, hz, hzz, hlen, hn, h63', h48', Question.forced, hnew, hold, newRow, grownCap]

/-! ### append -/
/-- A new row with cells to spare behind it. -/
def cgrow (N : CH) (cs : List Value) (e : TypeId) (n : Nat) : Option (Value × CH) := (crow N cs e true).map fun (k, N') => (.slice (some ⟨k, 0, none⟩) n n, N')
def cappend (P : Program) (t xt : TypeId) (s x : Value) (N : CH) : Option (Value × CH) :=
  match P.underlying t with
  | some (.slice e) =>
    match P.info? e, zeroT P e with
    | some i, some z =>
      if notInt P xt = true ∧ z.cells.size = i.size ∧ 0 < i.bytes then
        match csrc i.size x N with
        | some (n, new) =>
          if new.all (·.oneCell') = true then
            match s with
            | .slice none l c =>
              if l = 0 ∧ c = 0 then
                if n = 0 then some (.slice none 0 0, N)
                else if n * i.bytes ≤ 140737488355328 ∧ new.length = n * i.size then cgrow N new e n else none
              else none
            | .slice (some ad) l c =>
              match N.get ad.block with
              | some (.row cs e' el) =>
                if l + n ≤ c then
                  if sure ad = true ∧ ad.off + (l + n) * i.size ≤ cs.length ∧ new.length = n * i.size then (N.wset ad.block (.row (wrf cs (ad.off + l * i.size) new) e' el)).map fun N' => (.slice (some ad) (l + n) c, N') else none
                else if (l + n) * i.bytes ≤ 140737488355328 ∧ new.length = n * i.size then
                  if sure ad = true ∧ (ad.spot.isSome ∨ el = false) then
                    if ad.off + l * i.size ≤ cs.length then cgrow N ((cs.drop ad.off).take (l * i.size) ++ new) e (l + n) else none
                  else if (ad.spot = none ∨ (l = 0 ∧ ad.spot.getD 0 % 2 = 1)) ∧ el = true ∧ ad.off + ad.spot.getD 0 / 2 + c * i.size = cs.length ∧ e' = e ∧ l ≤ c then
                    cgrow (N.set ad.block .dead) ((cs.drop (ad.off + ad.spot.getD 0 / 2)).take (l * i.size) ++ new) e (l + n)
                  else none
                else none
              | _ => none
            | _ => none
          else none
        | none => none
      else none
    | _, _ => none
  | _ => none

theorem zeros_len {P : Program} {e : TypeId} {i : TypeInfo} {z : Value} (hi : P.info? e = some i) (hz : z.cells.size = i.size) (k : Nat) : (Builtin.zeroCells z.cells k).toList.length = k * P.cellsOf e := by
  rw [Array.length_toList, size_zeroCells, hz]
  unfold Program.cellsOf
  rw [hi]
  rfl

/-- What a new row with cells to spare does: its place and its count of spare cells are the model's own. -/
theorem grow_ok {P : Program} {E : Env} {N N' : CH} {w : World} (R : Rel P E N w) {cs : List Value} {e : TypeId} {n : Nat} {v : Value} {i : TypeInfo} {z : Value} (hi : P.info? e = some i) (hz : z.cells.size = i.size) (hc : ∀ u ∈ cs, Clo E.D u)
    (h : cgrow N cs e n = some (v, N')) {need old : Nat} (hn : need = n) :
    ∃ E' w', Rel P E' N' w' ∧ Ext E N w E' N' w' ∧ Clo E'.D v ∧
      .slice (some ⟨w.heap.size, 0, none⟩) need (grownCap w need old e) = E'.m v ∧ w' = w.drew.alloc (.cells ((cs.map E.m).toArray ++ Builtin.zeroCells z.cells (grownCap w need old e - need)) e) := by
  subst hn
  unfold cgrow crow at h
  split at h
  · rename_i hsz
    simp only [Option.map_some, Option.some.injEq, Prod.mk.injEq] at h
    obtain ⟨rfl, rfl⟩ := h
    obtain ⟨R1, X1⟩ := R.drew
    have hge := grownCap_ge w need old e
    obtain ⟨R2, X2⟩ := R1.newElastic hsz e hc (Builtin.zeroCells z.cells (grownCap w need old e - need)).toList (grownCap w need old e - need) 0 0 (zeros_len hi hz _) ⟨Nat.le_refl _, fun _ _ => by omega⟩
    refine ⟨_, _, R2, X1.trans X2, Env.add_D .., ?_, ?_⟩
    · simp only [Env.m, mv, soff, scap, Env.add_f, Env.add_x, Env.add_s]
      have : need + (grownCap w need old e - need) = grownCap w need old e := by omega
      rw [this]
      rfl
    · congr 2
      apply Array.ext'
      simp
  · cases h

theorem append_ok {P : Program} {E : Env} {N N' : CH} {w : World} (R : Rel P E N w) {t xt ty : TypeId} {s x v : Value} (hs : Clo E.D s) (hx : Clo E.D x) (h : cappend P t xt s x N = some (v, N')) :
    ∃ E' w', Rel P E' N' w' ∧ Ext E N w E' N' w' ∧ Clo E'.D v ∧ (Builtin.append_ #[t, xt] ty #[E.m s, E.m x]).run P w = .ok (E'.m v) w' := by
  unfold cappend at h
  simp only [wrf_eq] at h
  split at h
  · rename_i e ht
    split at h
    · rename_i i z hi hz
      obtain ⟨hz0, hzp⟩ := zero_cells hi hz
      split at h
      · rename_i hcond
        obtain ⟨hni, hzs, hby⟩ := hcond
        split at h
        · rename_i n new hsrc
          obtain ⟨hlen, hf, hfd, hnc⟩ := src_ok R hx hsrc
          split at h
          · rename_i hone
            have hone' : ∀ u ∈ new.map E.m, u.oneCell' = true := by
              intro u hu
              obtain ⟨u', hu', rfl⟩ := List.mem_map.1 hu
              show (mv _ u').oneCell' = true
              rw [oneCell_mv]
              exact List.all_eq_true.1 hone u' hu'
            split at h
            · rename_i l c
              have hms : E.m (.slice none l c) = .slice none l c := rfl
              rw [hms]
              split at h
              · rename_i hlc
                obtain ⟨rfl, rfl⟩ := hlc
                split at h
                · rename_i hn0
                  subst hn0
                  simp only [Option.some.injEq, Prod.mk.injEq] at h
                  obtain ⟨rfl, rfl⟩ := h
                  exact ⟨E, w, R, Ext.refl _ _ _, trivial, run_append_nil0 ht hni hi (hlen w) hf (Nat.le_refl _)⟩
                · rename_i hn0
                  split at h
                  · rename_i hfit
                    have hr := run_append_up (P := P) (w := w) (ty := ty) (z := z) (a := none) (l := 0) (c := 0) (olds := #[]) ht hni hi hz0 (hlen w) hfd (by simp [Builtin.firstCells]) (by omega) hby (by simpa using hfit.1)
                    obtain ⟨E', w', R', X, hv, e1, e2⟩ := grow_ok R hi hzs hnc h (need := 0 + n) (old := 0) (by omega)
                    refine ⟨E', w', R', X, hv, ?_⟩
                    rw [hr, e1, e2]
                    simp
                  · cases h
              · cases h
            · rename_i ad l c
              obtain ⟨a1, a2, a3⟩ := ad
              have hd : E.D a1 := hs
              have hms : E.m (.slice (some ⟨a1, a2, a3⟩) l c) = .slice (some ⟨E.f a1, soff E.toRen ⟨a1, a2, a3⟩, none⟩) l (scap E.toRen ⟨a1, a2, a3⟩ c) := by simp only [Env.m, mv]
              have hge := scap_le E.toRen ⟨a1, a2, a3⟩ c
              rw [hms]
              generalize hro : soff E.toRen ⟨a1, a2, a3⟩ = ro at *
              generalize hcc : scap E.toRen ⟨a1, a2, a3⟩ c = c' at *
              split at h
              · rename_i cs e' el hg
                simp only at hg
                split at h
                · rename_i hroom
                  split at h
                  · rename_i hfit'
                    obtain ⟨hsu, hfit, hnl⟩ := hfit'
                    rw [soff_sure _ hsu] at hro
                    simp only at hro
                    obtain ⟨N1, hN1, h⟩ := Option.map_eq_some_iff.1 h
                    obtain ⟨hwm, rfl⟩ := CH.wset_some hN1
                    simp only [Prod.mk.injEq] at h
                    obtain ⟨rfl, rfl⟩ := h
                    have hfit2 : a2 + (l + n) * i.size ≤ cs.length := hfit
                    rw [Nat.add_mul] at hfit2
                    obtain ⟨R', X⟩ := R.write hd hwm hg (o := a2 + l * i.size) (o' := ro + l * i.size) (vs := new) (by rw [hnl]; omega) (by omega) hnc
                    refine ⟨E, _, R', X, hd, ?_⟩
                    have hst := run_storeCells_cells (P := P) (E.f a1) (ro + l * i.size) (new.map E.m) 0 w
                      (by
                        intro j hj
                        rw [List.length_map] at hj
                        have : a2 + l * i.size + j < cs.length := by omega
                        rw [Nat.add_zero, R.cell hd hg (List.getElem?_eq_getElem this) (by omega)]
                        rfl)
                      (by
                        intro j hj
                        rw [List.length_map] at hj
                        rw [Nat.add_zero]
                        exact R.free hd hg (i := a2 + l * i.size + j) (by omega) (by omega)) hone'
                    rw [Nat.add_zero] at hst
                    have hr := run_append_in (P := P) (w := w) (ty := ty) (a := ⟨E.f a1, ro, none⟩) (l := l) (c := c') ht hni hi (hlen w) hf (by omega) (by rw [addr_add]; simpa using hst)
                    rw [hr, ← hcc]
                    simp only [Env.m, mv, soff_sure _ hsu, ← hro]
                  · cases h
                · rename_i hroom
                  split at h
                  · rename_i hfit'
                    obtain ⟨hfit, hnl⟩ := hfit'
                    -- what a grown copy comes to
                    have hup : ∀ o, (∀ j u, (((cs.drop o).take (l * i.size)).map E.m)[j]? = some u → w.cell? ((⟨E.f a1, ro, none⟩ : Addr).add j) = some u) → o + l * i.size ≤ cs.length → c' < l + n →
                        (Builtin.append_ #[t, xt] ty #[.slice (some ⟨E.f a1, ro, none⟩) l c', E.m x]).run P w = .ok (.slice (some ⟨w.heap.size, 0, none⟩) (l + n) (grownCap w (l + n) c' e))
                        (w.drew.alloc (.cells (((((cs.drop o).take (l * i.size)) ++ new).map E.m).toArray ++ Builtin.zeroCells z.cells (grownCap w (l + n) c' e - (l + n))) e)) := by
                      intro o hcell hle hlt
                      have hold := run_firstCells_some (P := P) w.drew i.size l ⟨E.f a1, ro, none⟩ l c' (((cs.drop o).take (l * i.size)).map E.m) (by simp; omega) (fun j u hj => hcell j u hj)
                      rw [run_append_up (P := P) (w := w) (ty := ty) (z := z) ht hni hi hz0 (hlen w) hfd hold hlt hby hfit]
                      congr 3
                      simp
                    have hcl : ∀ o, ∀ u ∈ ((cs.drop o).take (l * i.size)) ++ new, Clo E.D u := by
                      intro o u hu
                      rcases List.mem_append.1 hu with h1 | h1
                      · exact (R.row hd hg).1 u (List.mem_of_mem_drop (List.mem_of_mem_take h1))
                      · exact hnc u h1
                    have hcell : ∀ o, ro = o + E.s a1 → ∀ j u, (((cs.drop o).take (l * i.size)).map E.m)[j]? = some u → w.cell? ((⟨E.f a1, ro, none⟩ : Addr).add j) = some u := by
                      intro o ho j u hj
                      rw [addr_add, List.getElem?_map] at *
                      cases hj' : ((cs.drop o).take (l * i.size))[j]? with
                      | none => rw [hj'] at hj; cases hj
                      | some u' =>
                        rw [hj'] at hj
                        cases hj
                        exact R.cell hd hg (getElem?_take_drop hj') (by omega)
                    split at h
                    · rename_i hex
                      obtain ⟨hsu, hex⟩ := hex
                      split at h
                      · rename_i hle'
                        have hle : a2 + l * i.size ≤ cs.length := hle'
                        rw [soff_sure _ hsu] at hro
                        simp only at hro
                        have hc' : c' = c := by
                          subst hcc
                          unfold scap
                          cases a3 with
                          | some s =>
                            have : s = 0 := by simpa [sure] using hsu
                            subst this
                            simp
                          | none =>
                            rcases hex with h1 | h1
                            · simp at h1
                            · subst h1
                              obtain ⟨_, _, sp0, _, _, _, _, _, hel⟩ := R.row hd hg
                              have hx0 : E.x a1 = 0 := (show sp0 = [] ∧ E.x a1 = 0 by simpa using hel.1).2
                              simp [hx0]
                        obtain ⟨E', w', R', X, hv, e1, e2⟩ := grow_ok R hi hzs (hcl a2) h (need := l + n) (old := c') rfl
                        refine ⟨E', w', R', X, hv, ?_⟩
                        rw [hup a2 (hcell a2 (by omega)) hle (by omega), e1, e2]
                      · cases h
                    · rename_i hex
                      split at h
                      · rename_i hel
                        obtain ⟨hspot, helt, hcs, hee, hlc⟩ := hel
                        simp only at hspot hcs h
                        subst hee; subst helt
                        generalize ho : a2 + a3.getD 0 / 2 = o at *
                        have hkl := R.dom a1 hd
                        have hle : o + l * i.size ≤ cs.length := by
                          rw [← hcs]
                          exact Nat.add_le_add_left (Nat.mul_le_mul_right _ hlc) _
                        have hcx : c' = c + E.x a1 := by
                          subst hcc
                          unfold scap
                          rcases hspot with h1 | ⟨_, h1⟩
                          · subst h1; rfl
                          · cases a3 with
                            | none => rfl
                            | some s =>
                              simp only [Option.getD_some] at h1
                              simp [h1]
                        have hrx : (E.x a1 ≠ 0 ∨ a3 = none) → ro = o + E.s a1 := by
                          intro hh
                          subst hro; subst ho
                          unfold soff
                          cases a3 with
                          | none => simp
                          | some s =>
                            have hx0 : E.x a1 ≠ 0 := by simpa using hh
                            simp [hx0]
                        by_cases hin : l + n ≤ c'
                        · -- the model writes in place
                          have hros : ro = o + E.s a1 := hrx (.inl (by omega))
                          unfold cgrow crow at h
                          split at h
                          · rename_i hsz
                            simp only [Option.map_some, Option.some.injEq, Prod.mk.injEq] at h
                            obtain ⟨rfl, rfl⟩ := h
                            obtain ⟨hcsc, pre, sp, lo, hi', hh, hp, hfz, hsp⟩ := R.row hd hg
                            simp only [if_true] at hsp
                            replace hsp := hsp.1
                            have hco : P.cellsOf e' = i.size := by unfold Program.cellsOf; rw [hi]; rfl
                            rw [hco] at hsp
                            have hlen2 : (cs.map E.m ++ sp).length = o + c' * i.size := by
                              rw [List.length_append, List.length_map, hsp, ← hcs, hcx, Nat.add_mul, Nat.add_assoc]
                            have hfit3 : (o + l * i.size) + new.length ≤ (cs.map E.m ++ sp).length := by
                              rw [hlen2, hnl, Nat.add_assoc, ← Nat.add_mul]
                              exact Nat.add_le_add_left (Nat.mul_le_mul_right _ hin) _
                            have hst := run_storeCells_cells (P := P) (E.f a1) (ro + l * i.size) (new.map E.m) 0 w
                              (by
                                intro j hj
                                rw [List.length_map] at hj
                                have hlt : o + l * i.size + j < (cs.map E.m ++ sp).length := by omega
                                have : (pre ++ (cs.map E.m ++ sp))[ro + l * i.size + j]? = some (cs.map E.m ++ sp)[o + l * i.size + j] := by
                                  rw [List.getElem?_append_right (by omega), show ro + l * i.size + j - pre.length = o + l * i.size + j by omega]
                                  exact List.getElem?_eq_getElem hlt
                                rw [Nat.add_zero]
                                simp only [World.cell?, hh, List.getElem?_toArray, this]
                                simp)
                              (by
                                intro j hj
                                rw [List.length_map] at hj
                                rw [Nat.add_zero]
                                have hlt : o + l * i.size + j < cs.length + sp.length := by simpa using (show o + l * i.size + j < (cs.map E.m ++ sp).length by omega)
                                have := hfz.2 (ro + l * i.size + j) (by omega)
                                simp only [World.frozen?, hh, Bool.and_eq_false_iff, decide_eq_false_iff_not]
                                rcases Nat.lt_or_ge (ro + l * i.size + j) lo with h1 | h1
                                · exact .inl (by omega)
                                · exact .inr (fun h2 => this ⟨h1, h2⟩)) hone'
                            rw [Nat.add_zero] at hst
                            have hr := run_append_in (P := P) (w := w) (ty := ty) (a := ⟨E.f a1, ro, none⟩) (l := l) (c := c') ht hni hi (hlen w) hf hin (by rw [addr_add]; simpa using hst)
                            obtain ⟨r1, r2, r3⟩ := rest_setCells (E.f a1) (new.map E.m) (ro + l * i.size) w
                            have hnewrow := heap_setCells (E.f a1) (new.map E.m) (ro + l * i.size) _ _ _ w hh
                            have hmadd : ∀ u, Clo E.D u → (E.add N.sz (E.f a1) (c' - (l + n)) (o + E.s a1)).m u = E.m u := fun u hu => R.clo_lt hu
                            have hsplit : wr (pre ++ (cs.map E.m ++ sp)) (ro + l * i.size) (new.map E.m) = (pre ++ (cs.take o).map E.m) ++ (((cs.drop o).take (l * i.size) ++ new).map E.m ++ (cs.map E.m ++ sp).drop (o + (l + n) * i.size)) := by
                              have hw : ∀ (vs a : List Value) (o : Nat), o + vs.length ≤ a.length → wr a o vs = a.take o ++ vs ++ a.drop (o + vs.length) := by
                                intro vs
                                induction vs with
                                | nil => intro a o ho; simp [wr]
                                | cons u vs ih =>
                                  intro a o ho
                                  simp only [List.length_cons] at ho
                                  rw [wr, ih _ _ (by simp; omega)]
                                  have h1 : (a.set o u).take (o + 1) = a.take o ++ [u] := by
                                    rw [List.take_set, List.take_succ_eq_append_getElem (by omega)]
                                    rw [List.set_append_right _ _ (by simp; omega)]
                                    simp [Nat.min_eq_left (show o ≤ a.length by omega)]
                                  have h2 : (a.set o u).drop (o + 1 + vs.length) = a.drop (o + (vs.length + 1)) := by
                                    rw [List.drop_set_of_lt (by omega)]
                                    congr 1
                                    omega
                                  rw [h1, h2]
                                  simp
                              have hof : ro + l * i.size = (o + l * i.size) + pre.length := by omega
                              rw [hof, wr_pre, hw _ _ _ (by simpa using hfit3)]
                              have htk : (cs.map E.m ++ sp).take (o + l * i.size) = (cs.take o).map E.m ++ ((cs.drop o).take (l * i.size)).map E.m := by
                                rw [List.take_append_of_le_length (by simpa using hle), ← List.map_take, List.take_add, List.map_append]
                              have hdr : o + l * i.size + (new.map E.m).length = o + (l + n) * i.size := by
                                rw [List.length_map, hnl, Nat.add_mul]; omega
                              rw [htk, hdr, List.map_append]
                              simp only [List.append_assoc]
                            rw [hsplit] at hnewrow
                            have htl : (cs.take o).length = o := by rw [List.length_take]; omega
                            have hcn : ((cs.drop o).take (l * i.size) ++ new).length = (l + n) * i.size := by
                              rw [List.length_append, List.length_take, List.length_drop, hnl, Nat.min_eq_left (by omega), ← Nat.add_mul]
                            have hdl : ((cs.map E.m ++ sp).drop (o + (l + n) * i.size)).length = (c' - (l + n)) * i.size := by
                              rw [List.length_drop, hlen2, Nat.sub_mul]
                              omega
                            obtain ⟨R', X⟩ := R.takeOver hd ⟨_, hg, rfl⟩ (b := .row ((cs.drop o).take (l * i.size) ++ new) e' true) (y := c' - (l + n)) (z := o + E.s a1) (w' := w.setCells (E.f a1) (ro + l * i.size) (new.map E.m))
                              (by
                                refine ⟨fun u hu => Clo_mono (fun _ h => .inr h) u (hcl o u hu), pre ++ (cs.take o).map E.m, (cs.map E.m ++ sp).drop (o + (l + n) * i.size), lo, hi', ?_, ?_, ?_, ?_, fun h => absurd R.lim (Nat.not_le.2 h)⟩
                                · rw [hnewrow]
                                  congr 4
                                  exact congrArg (· ++ _) (List.map_congr_left fun u hu => (hmadd u (hcl o u hu)).symm)
                                · rw [List.length_append, List.length_map, htl, Env.add_s]; omega
                                · refine ⟨hfz.1, ?_⟩
                                  intro j hj
                                  apply hfz.2
                                  rw [List.length_append, List.length_map, htl, hcn, hdl] at hj
                                  have h5 : cs.length + sp.length = o + c' * i.size := by simpa using hlen2
                                  have h6 : (l + n) * i.size + (c' - (l + n)) * i.size = c' * i.size := by
                                    rw [← Nat.add_mul]
                                    congr 1
                                    omega
                                  omega
                                · simp only [if_true, Env.add_x, hco, hdl])
                              (fun j hj => heap_setCells_other _ _ hj _ _ _) (size_setCells _ _ _ _) r1 r2 r3
                            refine ⟨_, _, R', X, Env.add_D .., ?_⟩
                            rw [hr]
                            simp only [Env.m, mv, soff, scap, CH.set, Env.add_f, Env.add_x, Env.add_s]
                            have : l + n + (c' - (l + n)) = c' := by omega
                            rw [this, hros, Nat.zero_add]
                          · cases h
                        · obtain ⟨R1, X1⟩ := R.kill (CH.base_le hg) hkl
                          obtain ⟨E', w', R', X, hv, e1, e2⟩ := grow_ok R1 hi hzs (hcl o) h (need := l + n) (old := c') rfl
                          refine ⟨E', w', R', X1.trans X, hv, ?_⟩
                          have hcell' : ∀ j u, (((cs.drop o).take (l * i.size)).map E.m)[j]? = some u → w.cell? ((⟨E.f a1, ro, none⟩ : Addr).add j) = some u := by
                            rcases hspot with h1 | ⟨h1, _⟩
                            · exact hcell o (hrx (.inr h1))
                            · subst h1
                              intro j u hj
                              simp at hj
                          rw [hup o hcell' hle (by omega), e1, e2]
                      · cases h
                  · cases h
              · cases h
            · cases h
          · cases h
        · cases h
      · cases h
    · cases h
  · cases h

end Go.Eng
