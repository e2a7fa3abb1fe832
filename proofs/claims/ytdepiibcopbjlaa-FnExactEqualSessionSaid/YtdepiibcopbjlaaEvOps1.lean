/- The operations that only compute: each as the machine has it. -/
import Derived.Test.YtdepiibcopbjlaaEvRel2
import Derived.Laws.Sem
import Derived.Laws.Cells
import Derived.Laws.Entries
import Derived.ChangeKeysEq
namespace Go.Ev
open Go
set_option linter.unusedVariables false
set_option linter.unusedSimpArgs false

def OpOk (P : Program) (o : Oper) (G : Gh) (s : St) (a : Act) (w : World) (v : V) (s1 : St) : Prop :=
  ∃ x w' G', (execOp a.eval o).run P w = .ok (.value x) w' ∧ Rel G' s1 a w' ∧ OwnS G' w' Pl.rs v x ∧ Fr s.lv G w G' w'
variable {P : Program} {G : Gh} {s : St} {a : Act} {w : World} {o : Oper}
theorem OpOk.pure (h : Rel G s a w) {v : V} {x : Value} (hr : (execOp a.eval o).run P w = .ok (.value x) w) (hT : Tr G.S G.β v x) (hv : v.view = v) (ht : ∀ l, v ≠ .tup l) : OpOk P o G s a w v s :=
  ⟨x, w, G, hr, h, OwnS.of_tr hT hv ht, Fr.refl _ _ _⟩

theorem szOf_ne {t : TypeId} (h : szOf P t ≠ 0) : ∃ i d, P.info? t = some i ∧ P.underlying t = some d ∧ szOf P t = i.size ∧ P.cellsOf t = i.size := by
  unfold szOf at h ⊢
  cases hi : P.info? t with
  | none => simp [hi] at h
  | some i =>
    cases hd : P.underlying t with
    | none => simp [hi, hd] at h
    | some d => exact ⟨i, d, rfl, rfl, rfl, by simp [Program.cellsOf, hi]⟩
theorem run_sizeOf' {t : TypeId} (h : szOf P t ≠ 0) (w : World) : (sizeOf t).run P w = .ok (szOf P t) w := by
  obtain ⟨i, d, h1, h2, h3, h4⟩ := szOf_ne h
  simp only [sizeOf, Sem.run_bind, typeInfo, run_program, Result.andThen_ok, h1, Sem.run_pure, h3]
theorem run_isAgg' {t : TypeId} (h : (P.underlying t).isSome) (w : World) : (Go.isAgg t).run P w = .ok (isAgg P t) w := by
  obtain ⟨d, hd⟩ := Option.isSome_iff_exists.1 h
  unfold Go.isAgg Ev.isAgg
  simp only [Sem.run_bind, run_underlying hd, Result.andThen_ok, hd]
  cases d <;> rfl

theorem op_move {d : Option Nat} {ty : TypeId} {pos : String} {af : Array Edge} {gd : Option (Nat × Bool)} {x : Operand} (h : Rel G s a w) (op : Op) (hop : op = .move x ∨ op = .assign x) :
    OpOk P ⟨d, op, ty, pos, af, gd⟩ G s a w (s.see P ty x) s := by
  refine OpOk.pure h (x := a.eval x) ?_ (h.see P ty x) (see_view _ _ _ _) (see_tup _ _ _ _)
  rcases hop with rfl | rfl <;> rfl
theorem op_take {d : Option Nat} {ty : TypeId} {pos : String} {af : Array Edge} {gd : Option (Nat × Bool)} {i : Nat} (h : Rel G s a w) (op : Op) (hop : op = .move (.tmp i) ∨ op = .assign (.tmp i)) :
    OpOk P ⟨d, op, ty, pos, af, gd⟩ G s a w (s.t i) (s.drop (.tmp i)) := by
  obtain ⟨G', h1, h2, h3, _⟩ := h.take i
  refine ⟨a.eval (.tmp i), w, G', ?_, h1, h2, h3⟩
  rcases hop with rfl | rfl <;> rfl
theorem cst_own {G : Gh} {w : World} (p : Nat → Nat → Pl) (ty : TypeId) (v : Value) : OwnS G w p (cst P ty v) v := by
  unfold cst
  split
  · exact Tr.bool _
  · exact Tr.int _ _
  · exact Tr.str _
  · exact ⟨Tr.slc0 _ _ _, none, 0, rfl, .inl rfl⟩
  · exact Tr.nilp
  · exact Tr.nilfn
  · exact Tr.undef _
theorem rd_own {G : Gh} {w : World} (p : Nat → Nat → Pl) (ty : TypeId) (x : Operand) (hx : ∀ i, x ≠ .tmp i) : OwnS G w p (rd P s.t ty x) (a.eval x) := by
  cases x with
  | tmp i => exact absurd rfl (hx i)
  | const v => exact cst_own p ty v
  | func f => exact Tr.fn f [] #[] rfl (fun i hi => absurd hi (Nat.not_lt_zero _))
  | global g => exact Tr.undef _
theorem op_const {d : Option Nat} {ty : TypeId} {pos : String} {af : Array Edge} {gd : Option (Nat × Bool)} {x : Operand} (h : Rel G s a w) (op : Op) (hop : op = .move x ∨ op = .assign x) (hx : ∀ i, x ≠ .tmp i) :
    OpOk P ⟨d, op, ty, pos, af, gd⟩ G s a w (rd P s.t ty x) s := by
  refine ⟨a.eval x, w, G, ?_, h, rd_own _ ty x hx, Fr.refl _ _ _⟩
  rcases hop with rfl | rfl <;> rfl

theorem Tr.bool_inv {S β} {b : Bool} {x : Value} (h : Tr S β (.bool b) x) : x = .bool b := by cases h; rfl
theorem Tr.int_inv {S β} {k : IntKind} {n : Int} {x : Value} (h : Tr S β (.int k n) x) : x = .int k n := by cases h; rfl
theorem Tr.str_inv {S β} {b : ByteArray} {x : Value} (h : Tr S β (.str b) x) : x = .string b := by cases h; rfl
theorem Tr.ite {S β} {c : Bool} {v u : V} {x y : Value} (h : Tr S β v x) (k : Tr S β u y) : Tr S β (V.ite c v u) (if c = true then x else y) := by
  have gen : ∀ {p q : V} {x y : Value}, Tr S β p x → Tr S β q y → Tr S β (if c = true then p else q) (if c = true then x else y) := by
    intro p q x y hp hq
    cases c
    · exact hq
    · exact hp
  cases v <;> cases u <;> try exact gen h k
  · rw [h.bool_inv, k.bool_inv]; cases c <;> exact Tr.bool _
  · rename_i k1 n1 k2 n2
    rw [h.int_inv, k.int_inv]
    unfold V.ite
    by_cases hk : k1 = k2
    · subst hk; simp only [if_true]; cases c <;> exact Tr.int _ _
    · simp only [if_neg hk]; exact Tr.undef _
  · rw [h.str_inv, k.str_inv]; cases c <;> exact Tr.str _
theorem ite_view {c : Bool} {v u : V} (hv : v.view = v) (hu : u.view = u) : (V.ite c v u).view = V.ite c v u := by
  have gen : ∀ {p q : V}, p.view = p → q.view = q → (if c = true then p else q).view = if c = true then p else q := by
    intro p q hp hq
    cases c
    · exact hq
    · exact hp
  cases v <;> cases u
  case int.int k n k' n' => show (if k = k' then V.int k (if c = true then n else n') else V.undef).view = _; by_cases hk : k = k' <;> simp [hk, V.ite, V.view, V.viewC]
  case bool.bool => rfl
  case str.str => rfl
  all_goals exact gen hv hu
theorem ite_tup {c : Bool} {v u : V} (hv : ∀ l, v ≠ .tup l) (hu : ∀ l, u ≠ .tup l) : ∀ l, V.ite c v u ≠ .tup l := by
  intro l
  have gen : ∀ {p q : V}, p ≠ .tup l → q ≠ .tup l → (if c = true then p else q) ≠ .tup l := by
    intro p q hp hq
    cases c
    · exact hq
    · exact hp
  cases v <;> cases u
  case int.int k n k' n' => show (if k = k' then V.int k (if c = true then n else n') else V.undef) ≠ _; split <;> (intro e; cases e)
  case bool.bool => intro e; cases e
  case str.str => intro e; cases e
  all_goals exact gen (hv l) (hu l)
theorem op_pick {d : Option Nat} {ty : TypeId} {pos : String} {af : Array Edge} {gd : Option (Nat × Bool)} {c x y : Operand} (h : Rel G s a w) {cb : Bool} (hc : s.see P 0 c = .bool cb) :
    OpOk P ⟨d, .pick c x y, ty, pos, af, gd⟩ G s a w (V.ite cb (s.see P ty x) (s.see P ty y)) s := by
  have h1 := h.see P 0 c
  rw [hc] at h1
  refine OpOk.pure h (x := if cb = true then a.eval x else a.eval y) ?_ ((h.see P ty x).ite (h.see P ty y)) (ite_view (see_view _ _ _ _) (see_view _ _ _ _)) (ite_tup (see_tup _ _ _ _) (see_tup _ _ _ _))
  simp only [execOp, h1.bool_inv, asBool, Sem.run_bind, Sem.run_pure, Result.andThen_ok]
theorem op_nil {d : Option Nat} {ty : TypeId} {pos : String} {af : Array Edge} {gd : Option (Nat × Bool)} {x : Operand} (h : Rel G s a w) {v : V} (hc : s.see P 0 x = v)
    (hv : (∃ lv t off, v = .ptr lv t off) ∨ (∃ l, v = .imp l) ∨ (∃ lv t i sz, v = .eptr lv t i sz) ∨ ∃ f c, v = .fn f c) :
    OpOk P ⟨d, .nilCheck x, ty, pos, af, gd⟩ G s a w v s := by
  have h1 := h.see P 0 x
  rw [hc] at h1
  have h2 := see_view s P 0 x
  have h3 := see_tup s P 0 x
  rw [hc] at h2 h3
  refine OpOk.pure h (x := a.eval x) ?_ h1 h2 h3
  simp only [execOp]
  generalize a.eval x = y at h1
  rcases hv with ⟨lv, t, off, rfl⟩ | ⟨l, rfl⟩ | ⟨lv, t, i, sz, rfl⟩ | ⟨f, c, rfl⟩ <;> cases h1 <;> rfl

/-! numbers, strings -/
theorem run_val {s : Sem Value} {x : Value} {w w' : World} (h : s.run P w = .ok x w') : ((do pure (Next.value (← s)) : Sem Next)).run P w = .ok (.value x) w' := by
  simp only [Sem.run_bind, h, Result.andThen_ok, Sem.run_pure]
theorem arith_run {op : BinOp} {k : IntKind} {n m : Int} {v : V} (hop : op ≠ .shl ∧ op ≠ .shr) (t : TypeId) (h : arith op k n m = some v) (w : World) : ∃ x, (binOp op t (.int k n) (.int k m)).run P w = .ok x w ∧ Tr G.S G.β v x ∧ v.view = v ∧ ∀ l, v ≠ .tup l := by
  cases op <;> simp only [arith, Option.some.injEq, reduceCtorEq] at h
  case add => subst h; exact ⟨_, by simp only [binOp, ne_eq, not_true_eq_false, if_false, Op.intArith, Sem.run_pure], Tr.int _ _, rfl, fun l e => by cases e⟩
  case sub => subst h; exact ⟨_, by simp only [binOp, ne_eq, not_true_eq_false, if_false, Op.intArith, Sem.run_pure], Tr.int _ _, rfl, fun l e => by cases e⟩
  case mul => subst h; exact ⟨_, by simp only [binOp, ne_eq, not_true_eq_false, if_false, Op.intArith, Sem.run_pure], Tr.int _ _, rfl, fun l e => by cases e⟩
  case and => subst h; exact ⟨_, by simp only [binOp, ne_eq, not_true_eq_false, if_false, Op.intBits, Sem.run_pure], Tr.int _ _, rfl, fun l e => by cases e⟩
  case or => subst h; exact ⟨_, by simp only [binOp, ne_eq, not_true_eq_false, if_false, Op.intBits, Sem.run_pure], Tr.int _ _, rfl, fun l e => by cases e⟩
  case eql => subst h; exact ⟨_, by simp only [binOp, ne_eq, not_true_eq_false, if_false, Op.intCmp, Sem.run_pure], Tr.bool _, rfl, fun l e => by cases e⟩
  case neq => subst h; exact ⟨_, by simp only [binOp, ne_eq, not_true_eq_false, if_false, Op.intCmp, Sem.run_pure], Tr.bool _, rfl, fun l e => by cases e⟩
  case lss => subst h; exact ⟨_, by simp only [binOp, ne_eq, not_true_eq_false, if_false, Op.intCmp, Sem.run_pure], Tr.bool _, rfl, fun l e => by cases e⟩
  case leq => subst h; exact ⟨_, by simp only [binOp, ne_eq, not_true_eq_false, if_false, Op.intCmp, Sem.run_pure], Tr.bool _, rfl, fun l e => by cases e⟩
  case gtr => subst h; exact ⟨_, by simp only [binOp, ne_eq, not_true_eq_false, if_false, Op.intCmp, Sem.run_pure], Tr.bool _, rfl, fun l e => by cases e⟩
  case geq => subst h; exact ⟨_, by simp only [binOp, ne_eq, not_true_eq_false, if_false, Op.intCmp, Sem.run_pure], Tr.bool _, rfl, fun l e => by cases e⟩
  case quo =>
    split at h
    · cases h
    · rename_i hm
      obtain rfl := Option.some.inj h
      refine ⟨.int k (k.wrap (n.tdiv m)), ?_, Tr.int _ _, rfl, fun l e => by cases e⟩
      simp [binOp, Op.intDiv, hm]
  case rem =>
    split at h
    · cases h
    · rename_i hm
      obtain rfl := Option.some.inj h
      refine ⟨.int k (n.tmod m), ?_, Tr.int _ _, rfl, fun l e => by cases e⟩
      simp [binOp, Op.intDiv, hm]
theorem shift_run {op : BinOp} {k k' : IntKind} {n m : Int} {v : V} (hop : op = .shl ∨ op = .shr) (t : TypeId) (h : shiftV op k n m = some v) (w : World) : ∃ x, (binOp op t (.int k n) (.int k' m)).run P w = .ok x w ∧ Tr G.S G.β v x ∧ v.view = v ∧ ∀ l, v ≠ .tup l := by
  unfold shiftV at h
  split at h
  · cases h
  · rename_i hm
    rcases hop with rfl | rfl
    · obtain rfl := Option.some.inj h
      exact ⟨.int k (k.wrap (n * 2 ^ (min m.toNat k.bits))), by simp [binOp, Op.shift, hm], Tr.int _ _, rfl, fun l e => by cases e⟩
    · obtain rfl := Option.some.inj h
      exact ⟨.int k (n.fdiv (2 ^ (min m.toNat k.bits))), by simp [binOp, Op.shift, hm], Tr.int _ _, rfl, fun l e => by cases e⟩
theorem str_run {op : BinOp} {x y : ByteArray} {v : V} (t : TypeId) (h : strOp op x y = some v) (w : World) : ∃ z, (binOp op t (.string x) (.string y)).run P w = .ok z w ∧ Tr G.S G.β v z ∧ v.view = v ∧ ∀ l, v ≠ .tup l := by
  cases op <;> simp only [strOp, Option.some.injEq, reduceCtorEq] at h
  case add =>
    split at h
    · cases h
    · rename_i hm
      obtain rfl := Option.some.inj h
      refine ⟨.string (x ++ y), ?_, Tr.str _, rfl, fun l e => by cases e⟩
      have hm' : ¬ ((x.size + y.size : Nat) : Int) > IntKind.i64.max := hm
      simp only [binOp, Op.stringOp, if_neg hm', Sem.run_pure]
  case eql => subst h; exact ⟨_, by simp only [binOp, Op.stringOp, Sem.run_pure], Tr.bool _, rfl, fun l e => by cases e⟩
  case neq => subst h; exact ⟨_, by simp only [binOp, Op.stringOp, Sem.run_pure], Tr.bool _, rfl, fun l e => by cases e⟩
  case lss => subst h; exact ⟨_, rfl, Tr.bool _, rfl, fun l e => by cases e⟩
  case geq => subst h; exact ⟨_, rfl, Tr.bool _, rfl, fun l e => by cases e⟩
end Go.Ev
