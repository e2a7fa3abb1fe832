/- The equations by which a function is run through, step by step. -/
import Derived.Test.YtdepiibcopbjlaaEvEv
import Derived.Attr
namespace Go.Ev
open Go
set_option linter.unusedVariables false
variable {E : Env} {l : List Oper} {all : Array Oper} {k : List It} {s : St}

theorem q_skip : lim E (.code .skip :: k) s = lim E k s := lim_step ..
theorem q_seq (x y : Code) : lim E (.code (.seq x y) :: k) s = lim E (.code x :: .code y :: k) s := lim_step ..
theorem q_region (i : Nat) (os : Array Oper) : lim E (.code (.region i os false) :: k) s = lim E (.ops os.toList os :: k) s := lim_step ..
noncomputable def drawL (E : Env) (k : List It) : Option St → Option (V × List (Nat → Option Ob))
  | some s => lim E k s
  | none => none
theorem drawL_some : drawL E k (some s) = lim E k s := rfl
theorem q_draw (i : Nat) (os : Array Oper) : lim E (.code (.region i os true) :: k) s = if drawOk E.P (E.H s.f) os (orderOf (E.H s.f) i os.size) = true then drawL E k (drun E (Ev.lim E) os (orderOf (E.H s.f) i os.size) s []) else none := by
  rw [lim_step]
  show Out.lim E (if drawOk E.P (E.H s.f) os (orderOf (E.H s.f) i os.size) then .draw os (orderOf (E.H s.f) i os.size) k s else .fail) = _
  split
  · show Option.bind _ _ = _
    cases drun E (Ev.lim E) os (orderOf (E.H s.f) i os.size) s [] <;> rfl
  · rfl
theorem q_block (i : Nat) (c : Code) : lim E (.code (.block i c) :: k) s = lim E (.code c :: .blk i :: k) s := lim_step ..
theorem q_blk (i : Nat) : lim E (.blk i :: k) s = lim E k s := lim_step ..
theorem q_loop (c : Code) : lim E (.code (.loop c) :: k) s = lim E (.lp c :: k) s := lim_step ..
theorem q_ret : lim E (.code .ret :: k) s = lim E [] s := lim_step ..
noncomputable def endL : Option (V × St) → Option (V × List (Nat → Option Ob))
  | some (v, s) => some (v, s.o)
  | none => none
theorem endL_some (v : V) : endL (some (v, s)) = some (v, s.o) := rfl
theorem q_nil : lim E [] s = endL (endV E.P s) := by
  rw [lim_step]
  show Out.lim E (match endV E.P s with | some (v, s1) => .done v s1.o | none => .fail) = _
  cases endV E.P s <;> rfl
theorem q_ops0 : lim E (.ops [] all :: k) s = lim E k s := lim_step ..
noncomputable def exitL (E : Env) (s : St) : Option (List It) → Option (V × List (Nat → Option Ob))
  | some k => lim E k s
  | none => none
theorem exitL_some (k : List It) : exitL E s (some k) = lim E k s := rfl
theorem q_exit (i : Nat) : lim E (.code (.exit i) :: k) s = exitL E s (outOf i k) := by
  rw [lim_step]
  show Out.lim E (match outOf i k with | some k' => .go k' s | none => .fail) = _
  cases outOf i k <;> rfl
theorem out_code (i : Nat) (c : Code) : outOf i (.code c :: k) = outOf i k := rfl
theorem out_ops (i : Nat) : outOf i (.ops l all :: k) = outOf i k := rfl
theorem out_lp (i : Nat) (c : Code) : outOf i (.lp c :: k) = outOf i k := rfl
theorem out_blk (i j : Nat) : outOf i (.blk j :: k) = if j = i then some k else outOf i k := rfl
noncomputable def condL (E : Env) (a c : List It) (s : St) : V → Option (V × List (Nat → Option Ob))
  | .bool v => if v = true then lim E a s else lim E c s
  | _ => none
theorem condL_b (a c : List It) (v : Bool) : condL E a c s (.bool v) = if v = true then lim E a s else lim E c s := rfl
theorem q_cond (x : Operand) (c d : Code) : lim E (.code (.cond x c d) :: k) s = condL E (.code c :: k) (.code d :: k) s (s.see E.P 0 x) := by
  rw [lim_step]
  show Out.lim E (match s.see E.P 0 x with | .bool v => if v then .go (.code c :: k) s else .go (.code d :: k) s | _ => .fail) = _
  cases s.see E.P 0 x <;> try rfl
  rename_i v; cases v <;> rfl
noncomputable def lpL (E : Env) (c : Code) (k : List It) : Option St → Option (V × List (Nat → Option Ob))
  | some s => iter E c k s
  | none => none
theorem lpL_some (c : Code) : lpL E c k (some s) = iter E c k s := rfl
theorem q_lp (c : Code) : lim E (.lp c :: k) s = lpL E c k (canon s (hintAt (E.H s.f) k)) := by
  rw [lim_step]
  show Out.lim E (match canon s (hintAt (E.H s.f) k) with | some s' => .go (.code c :: .lp c :: k) s' | none => .fail) = _
  cases canon s (hintAt (E.H s.f) k) <;> rfl
/-- what an operation leaves -/
noncomputable def opL (E : Env) (k : List It) : Option St → Option (V × List (Nat → Option Ob))
  | some s => lim E k s
  | none => none
theorem opL_some : opL E k (some s) = lim E k s := rfl
theorem opL_none : opL E k none = none := rfl
theorem opL_ite {p : Prop} [Decidable p] (x y : Option St) : opL E k (if p then x else y) = if p then opL E k x else opL E k y := by split <;> rfl
noncomputable def guardL (E : Env) (o : Oper) (l : List Oper) (all : Array Oper) (k : List It) (s : St) (want : Bool) : Option V → Option (V × List (Nat → Option Ob))
  | some (.bool v) => if v = want then lim E (.ops (o :: l) all :: k) s else lim E (.ops l all :: k) (s.putO o.dst (.tup []))
  | some (.tup []) => lim E (.ops l all :: k) (s.putO o.dst (.tup []))
  | _ => none
theorem guardL_b (o : Oper) (want v : Bool) : guardL E o l all k s want (some (.bool v)) = if v = want then lim E (.ops (o :: l) all :: k) s else lim E (.ops l all :: k) (s.putO o.dst (.tup [])) := rfl
theorem guardL_u (o : Oper) (want : Bool) : guardL E o l all k s want (some (.tup [])) = lim E (.ops l all :: k) (s.putO o.dst (.tup [])) := rfl
def gOf (all : Array Oper) (t : Nat → V) (j : Nat) : Option V := ((all[j]?).bind (·.dst)).map t
theorem gOf_eq (os : List Oper) (t : Nat → V) (j : Nat) : gOf os.toArray t j = ((os[j]?).bind (·.dst)).map t := by simp [gOf]
theorem lim_op (o : Oper) (hg : o.guard = none) (h : ∀ f a b, o.op ≠ .call { callee := .value f, args := a, argTypes := b }) :
    lim E (.ops (o :: l) all :: k) s = opL E (.ops l all :: k) (evOp E.P (E.H s.f) o s) := by
  rw [lim_step]
  have : stepI E (.ops (o :: l) all :: k) s = (match evOp E.P (E.H s.f) o s with
        | some s' => .go (.ops l all :: k) s'
        | none => .fail) := by
    unfold stepI
    dsimp only
    rw [hg]
    dsimp only
    split
    · rename_i e; exact absurd e (h _ _ _)
    · rfl
  rw [this]
  cases evOp E.P (E.H s.f) o s <;> rfl
theorem q_guard (d : Option Tmp) (op : Op) (ty : TypeId) (pos : String) (aft : Array Edge) (j : Nat) (want : Bool) :
    lim E (.ops ({ dst := d, op := op, type := ty, pos := pos, after := aft, guard := some (j, want) } :: l) all :: k) s =
      guardL E { dst := d, op := op, type := ty, pos := pos, after := aft, guard := none } l all k s want (gOf all s.t j) := by
  rw [lim_step]
  have hrun : lim E (.ops ({ dst := d, op := op, type := ty, pos := pos, after := aft, guard := none } :: l) all :: k) s =
      Out.lim E (stepI E (.ops ({ dst := d, op := op, type := ty, pos := pos, after := aft, guard := none } :: l) all :: k) s) := lim_step ..
  have : stepI E (.ops ({ dst := d, op := op, type := ty, pos := pos, after := aft, guard := some (j, want) } :: l) all :: k) s =
      (match gOf all s.t j with
        | some (.bool b) => if b = want then stepI E (.ops ({ dst := d, op := op, type := ty, pos := pos, after := aft, guard := none } :: l) all :: k) s else .go (.ops l all :: k) (s.putO d (.tup []))
        | some (.tup []) => .go (.ops l all :: k) (s.putO d (.tup []))
        | _ => .fail) := rfl
  rw [this]
  unfold guardL
  split
  · split
    · rw [hrun]
    · rfl
  · rfl
  · rfl

def faddr (c : Nat) : V → Option V
  | .ptr lv u off => some (.ptr lv u (off + c))
  | .imp l => some (.imp (l.drop c))
  | _ => none
theorem faddr_p (c lv u off : Nat) : faddr c (.ptr lv u off) = some (.ptr lv u (off + c)) := rfl
theorem faddr_i (c : Nat) (l : List V) : faddr c (.imp l) = some (.imp (l.drop c)) := rfl
def fget (c n : Nat) (ag : Bool) : V → Option V
  | .agg l => if c + n ≤ l.length ∧ n ≠ 0 then some (pack ag ((l.drop c).take n)) else none
  | _ => none
theorem fget_a (c n : Nat) (ag : Bool) (l : List V) : fget c n ag (.agg l) = if c + n ≤ l.length ∧ n ≠ 0 then some (pack ag ((l.drop c).take n)) else none := rfl

/-! one operation each -/
section ops
variable {d : Nat} {ty : TypeId} {pos : String} {aft : Array Edge}
/-- a value is put down -/
noncomputable def putL (E : Env) (d : Nat) (k : List It) : Option (V × St) → Option (V × List (Nat → Option Ob))
  | some (v, s) => lim E k (s.put d v)
  | none => none
theorem putL_some (v : V) : putL E d k (some (v, s)) = lim E k (s.put d v) := rfl
theorem putL_ite {p : Prop} [Decidable p] (x y : Option (V × St)) : putL E d k (if p then x else y) = if p then putL E d k x else putL E d k y := by split <;> rfl
theorem putL_none : putL E d k none = none := rfl
theorem lim_put (op : Op) (h : ∀ f a b, op ≠ .call { callee := .value f, args := a, argTypes := b }) :
    lim E (.ops ({ dst := some d, op := op, type := ty, pos := pos, after := aft, guard := none } :: l) all :: k) s = if d < s.n then putL E d (.ops l all :: k) (evV E.P (E.H s.f) d ty op s) else none := by
  rw [lim_op _ rfl h]
  show opL E _ (if d < s.n then (evV E.P (E.H s.f) d ty op s).map fun r => r.2.put d r.1 else none) = _
  split
  · cases evV E.P (E.H s.f) d ty op s <;> rfl
  · rfl
/-- a call -/
noncomputable def bindL (E : Env) (k : List It) (s : St) (plain : Bool) (d : Option Nat) : Option (V × List (Nat → Option Ob)) → Option (V × List (Nat → Option Ob))
  | some r => lim E k (backS s plain d r.1 r.2)
  | none => none
theorem bindL_some (plain : Bool) (d : Option Nat) (v : V) (o : List (Nat → Option Ob)) : bindL E k s plain d (some (v, o)) = lim E k (backS s plain d v o) := rfl
theorem backS_plain (d : Nat) (v : V) (o : List (Nat → Option Ob)) : backS s true (some d) v o = s.put d v := rfl
theorem backS_deep (d : Nat) (v : V) (b : Nat → Option Ob) (o : List (Nat → Option Ob)) : backS s false (some d) v (b :: o) = { s.put d v with b := b, o := o } := rfl
noncomputable def orcL (E : Env) (g : Nat) (vs : List V) (k : List It) (s : St) (d : Option Nat) : Option V → Option (V × List (Nat → Option Ob))
  | some v => lim E k (s.putO d v)
  | none => bindL E k s true d (run E g vs [])
theorem orcL_none (g : Nat) (vs : List V) (d : Option Nat) : orcL E g vs k s d none = bindL E k s true d (run E g vs []) := rfl
theorem orcL_some (g : Nat) (vs : List V) (d : Option Nat) (v : V) : orcL E g vs k s d (some v) = lim E k (s.putO d v) := rfl
noncomputable def callF (E : Env) (d : Option Nat) (k : List It) : V → Option (List V × St) → Option (V × List (Nat → Option Ob))
  | .fn g caps, some (vs, s1) => if ((vs ++ caps).any isRef || !caps.isEmpty) = true then bindL E k s1 false d (run E g (vs ++ caps) (s1.b :: s1.o)) else orcL E g (vs ++ caps) k s1 d (E.orc g (vs ++ caps))
  | _, _ => none
theorem callF_some (g : Nat) (caps vs : List V) (d : Option Nat) : callF E d k (.fn g caps) (some (vs, s)) = if ((vs ++ caps).any isRef || !caps.isEmpty) = true then bindL E k s false d (run E g (vs ++ caps) (s.b :: s.o)) else orcL E g (vs ++ caps) k s d (E.orc g (vs ++ caps)) := rfl
theorem q_call {f : Operand} {args : Array Operand} {tys : Array TypeId} :
    lim E (.ops ({ dst := some d, op := .call { callee := .value f, args := args, argTypes := tys }, type := ty, pos := pos, after := aft, guard := none } :: l) all :: k) s =
      if args.size = tys.size ∧ d < s.n then callF E (some d) (.ops l all :: k) (s.see E.P 0 f) (s.args E.P (tys.toList.zip args.toList)) else none := by
  rw [lim_step]
  show Out.lim E (callOp E (some d) f args tys (.ops l all :: k) s) = _
  unfold callOp
  have hd : (args.size = tys.size ∧ Option.all (fun d => decide (d < s.n)) (some d) = true) ↔ (args.size = tys.size ∧ d < s.n) := by simp
  by_cases hc : args.size = tys.size ∧ d < s.n
  · rw [if_pos hc]
    cases s.see E.P 0 f with
    | fn g caps =>
      cases s.args E.P (tys.toList.zip args.toList) with
      | none => rfl
      | some r =>
        obtain ⟨vs, s1⟩ := r
        dsimp only
        rw [if_pos (hd.2 hc)]
        show _ = if ((vs ++ caps).any isRef || !caps.isEmpty) = true then bindL E _ s1 false (some d) (run E g (vs ++ caps) (s1.b :: s1.o)) else orcL E g (vs ++ caps) _ s1 (some d) (E.orc g (vs ++ caps))
        split
        · show Option.bind _ _ = _
          cases run E g (vs ++ caps) (s1.b :: s1.o) <;> rfl
        · cases E.orc g (vs ++ caps) with
          | some v => rfl
          | none =>
            show Option.bind _ _ = bindL E _ s1 true (some d) (run E g (vs ++ caps) [])
            cases run E g (vs ++ caps) [] <;> rfl
    | _ => rfl
  · rw [if_neg hc]
    cases s.see E.P 0 f with
    | fn g caps =>
      cases s.args E.P (tys.toList.zip args.toList) with
      | none => rfl
      | some r => obtain ⟨vs, s1⟩ := r; dsimp only; rw [if_neg fun h => hc (hd.1 h)]; rfl
    | _ => rfl
theorem p_move (x : Operand) : lim E (.ops ({ dst := some d, op := .move x, type := ty, pos := pos, after := aft, guard := none } :: l) all :: k) s = if d < s.n then putL E d (.ops l all :: k) (evV E.P (E.H s.f) d ty (.move x) s) else none := lim_put _ (by intro _ _ _ h; cases h)
theorem p_assign (x : Operand) : lim E (.ops ({ dst := some d, op := .assign x, type := ty, pos := pos, after := aft, guard := none } :: l) all :: k) s = if d < s.n then putL E d (.ops l all :: k) (evV E.P (E.H s.f) d ty (.assign x) s) else none := lim_put _ (by intro _ _ _ h; cases h)
theorem p_pick (x y z : Operand) : lim E (.ops ({ dst := some d, op := .pick x y z, type := ty, pos := pos, after := aft, guard := none } :: l) all :: k) s = if d < s.n then putL E d (.ops l all :: k) (evV E.P (E.H s.f) d ty (.pick x y z) s) else none := lim_put _ (by intro _ _ _ h; cases h)
theorem p_alloc (t : TypeId) : lim E (.ops ({ dst := some d, op := .alloc t, type := ty, pos := pos, after := aft, guard := none } :: l) all :: k) s = if d < s.n then putL E d (.ops l all :: k) (evV E.P (E.H s.f) d ty (.alloc t) s) else none := lim_put _ (by intro _ _ _ h; cases h)
theorem p_box (t : TypeId) (x : Operand) : lim E (.ops ({ dst := some d, op := .box t x, type := ty, pos := pos, after := aft, guard := none } :: l) all :: k) s = if d < s.n then putL E d (.ops l all :: k) (evV E.P (E.H s.f) d ty (.box t x) s) else none := lim_put _ (by intro _ _ _ h; cases h)
theorem p_build (t : TypeId) (ps : Array (Nat × Operand)) : lim E (.ops ({ dst := some d, op := .build t ps, type := ty, pos := pos, after := aft, guard := none } :: l) all :: k) s = if d < s.n then putL E d (.ops l all :: k) (evV E.P (E.H s.f) d ty (.build t ps) s) else none := lim_put _ (by intro _ _ _ h; cases h)
theorem p_buildSlice (t : TypeId) (n : Nat) (ps : Array (Nat × Operand)) : lim E (.ops ({ dst := some d, op := .buildSlice t n ps, type := ty, pos := pos, after := aft, guard := none } :: l) all :: k) s = if d < s.n then putL E d (.ops l all :: k) (evV E.P (E.H s.f) d ty (.buildSlice t n ps) s) else none := lim_put _ (by intro _ _ _ h; cases h)
theorem p_load (t : TypeId) (x : Operand) : lim E (.ops ({ dst := some d, op := .load t x, type := ty, pos := pos, after := aft, guard := none } :: l) all :: k) s = if d < s.n then putL E d (.ops l all :: k) (evV E.P (E.H s.f) d ty (.load t x) s) else none := lim_put _ (by intro _ _ _ h; cases h)
theorem p_nilCheck (x : Operand) : lim E (.ops ({ dst := some d, op := .nilCheck x, type := ty, pos := pos, after := aft, guard := none } :: l) all :: k) s = if d < s.n then putL E d (.ops l all :: k) (evV E.P (E.H s.f) d ty (.nilCheck x) s) else none := lim_put _ (by intro _ _ _ h; cases h)
theorem p_binOp (o : BinOp) (t u : TypeId) (x y : Operand) : lim E (.ops ({ dst := some d, op := .binOp o t x y u, type := ty, pos := pos, after := aft, guard := none } :: l) all :: k) s = if d < s.n then putL E d (.ops l all :: k) (evV E.P (E.H s.f) d ty (.binOp o t x y u) s) else none := lim_put _ (by intro _ _ _ h; cases h)
theorem p_unOp (o : UnOp) (t : TypeId) (x : Operand) : lim E (.ops ({ dst := some d, op := .unOp o t x, type := ty, pos := pos, after := aft, guard := none } :: l) all :: k) s = if d < s.n then putL E d (.ops l all :: k) (evV E.P (E.H s.f) d ty (.unOp o t x) s) else none := lim_put _ (by intro _ _ _ h; cases h)
theorem p_convert (t u : TypeId) (x : Operand) : lim E (.ops ({ dst := some d, op := .convert t u x, type := ty, pos := pos, after := aft, guard := none } :: l) all :: k) s = if d < s.n then putL E d (.ops l all :: k) (evV E.P (E.H s.f) d ty (.convert t u x) s) else none := lim_put _ (by intro _ _ _ h; cases h)
theorem p_makeFunc (f : Fn) (a c : Array Operand) : lim E (.ops ({ dst := some d, op := .makeFunc f a c, type := ty, pos := pos, after := aft, guard := none } :: l) all :: k) s = if d < s.n then putL E d (.ops l all :: k) (evV E.P (E.H s.f) d ty (.makeFunc f a c) s) else none := lim_put _ (by intro _ _ _ h; cases h)
theorem p_makeMap (t : TypeId) (r : Option Operand) : lim E (.ops ({ dst := some d, op := .makeMap t r, type := ty, pos := pos, after := aft, guard := none } :: l) all :: k) s = if d < s.n then putL E d (.ops l all :: k) (evV E.P (E.H s.f) d ty (.makeMap t r) s) else none := lim_put _ (by intro _ _ _ h; cases h)
theorem p_makeSlice (t : TypeId) (x y : Operand) : lim E (.ops ({ dst := some d, op := .makeSlice t x y, type := ty, pos := pos, after := aft, guard := none } :: l) all :: k) s = if d < s.n then putL E d (.ops l all :: k) (evV E.P (E.H s.f) d ty (.makeSlice t x y) s) else none := lim_put _ (by intro _ _ _ h; cases h)
theorem p_slice (t : TypeId) (x : Operand) (a c m : Option Operand) : lim E (.ops ({ dst := some d, op := .slice t x a c m, type := ty, pos := pos, after := aft, guard := none } :: l) all :: k) s = if d < s.n then putL E d (.ops l all :: k) (evV E.P (E.H s.f) d ty (.slice t x a c m) s) else none := lim_put _ (by intro _ _ _ h; cases h)
theorem p_fieldAddr (t : TypeId) (x : Operand) (f : Nat) : lim E (.ops ({ dst := some d, op := .fieldAddr t x f, type := ty, pos := pos, after := aft, guard := none } :: l) all :: k) s = if d < s.n then putL E d (.ops l all :: k) (evV E.P (E.H s.f) d ty (.fieldAddr t x f) s) else none := lim_put _ (by intro _ _ _ h; cases h)
theorem p_field (t : TypeId) (x : Operand) (f : Nat) : lim E (.ops ({ dst := some d, op := .field t x f, type := ty, pos := pos, after := aft, guard := none } :: l) all :: k) s = if d < s.n then putL E d (.ops l all :: k) (evV E.P (E.H s.f) d ty (.field t x f) s) else none := lim_put _ (by intro _ _ _ h; cases h)
theorem p_indexAddr (t : TypeId) (x i : Operand) : lim E (.ops ({ dst := some d, op := .indexAddr t x i, type := ty, pos := pos, after := aft, guard := none } :: l) all :: k) s = if d < s.n then putL E d (.ops l all :: k) (evV E.P (E.H s.f) d ty (.indexAddr t x i) s) else none := lim_put _ (by intro _ _ _ h; cases h)
theorem p_index (t : TypeId) (x i : Operand) : lim E (.ops ({ dst := some d, op := .index t x i, type := ty, pos := pos, after := aft, guard := none } :: l) all :: k) s = if d < s.n then putL E d (.ops l all :: k) (evV E.P (E.H s.f) d ty (.index t x i) s) else none := lim_put _ (by intro _ _ _ h; cases h)
theorem p_lookup (t : TypeId) (x i : Operand) (o : Bool) : lim E (.ops ({ dst := some d, op := .lookup t x i o, type := ty, pos := pos, after := aft, guard := none } :: l) all :: k) s = if d < s.n then putL E d (.ops l all :: k) (evV E.P (E.H s.f) d ty (.lookup t x i o) s) else none := lim_put _ (by intro _ _ _ h; cases h)
theorem p_extract (x : Operand) (i : Nat) : lim E (.ops ({ dst := some d, op := .extract x i, type := ty, pos := pos, after := aft, guard := none } :: l) all :: k) s = if d < s.n then putL E d (.ops l all :: k) (evV E.P (E.H s.f) d ty (.extract x i) s) else none := lim_put _ (by intro _ _ _ h; cases h)
theorem p_builtin (b : Builtin) (a : Array Operand) (c : Array TypeId) : lim E (.ops ({ dst := some d, op := .call { callee := .builtin b, args := a, argTypes := c }, type := ty, pos := pos, after := aft, guard := none } :: l) all :: k) s = if d < s.n then putL E d (.ops l all :: k) (evV E.P (E.H s.f) d ty (.call { callee := .builtin b, args := a, argTypes := c }) s) else none := lim_put _ (by intro _ _ _ h; cases h)
theorem p_none (op : Op) (h : ∀ f a b, op ≠ .call { callee := .value f, args := a, argTypes := b }) : lim E (.ops ({ dst := none, op := op, type := ty, pos := pos, after := aft, guard := none } :: l) all :: k) s = opL E (.ops l all :: k) (evU E.P op s) := lim_op _ rfl h
/-- a function's start -/
theorem run_eq (E : Env) (f : Nat) (args : List V) (outer : List (Nat → Option Ob)) {fn : Func} {c : Code} (hf : E.P.funcs[f]? = some fn) (hn : (fn.name == "runtime.NumGoroutine") = false) (hb : fn.body = some c) (hl : args.length ≤ fn.ntmps) : run E f args outer = lim E [.code c] { t := argT 0 args, b := n0, o := outer, r := fn.results, f := f, n := fn.ntmps } := by
  unfold run startS
  rw [hf]
  simp only [hl, hn, hb, and_self, if_true, Option.map_some]
/-- a loop's rounds -/
theorem iter_rule {σ : Type} {E : Env} {c : Code} {k : List It} (S : σ → St) (R : σ → Option (V × List (Nat → Option Ob))) (μ : σ → Nat) (h : ∀ x, (∀ y, μ y < μ x → iter E c k (S y) = R y) → lim E (.code c :: .lp c :: k) (S x) = R x) (x : σ) : iter E c k (S x) = R x := by
  suffices ∀ n x, μ x ≤ n → iter E c k (S x) = R x from this _ x (Nat.le_refl _)
  intro n
  induction n with
  | zero => intro x hx; exact h x fun y hy => absurd hy (by omega)
  | succ n ih => intro x hx; exact h x fun y hy => ih y (by omega)
theorem map_ite {α β : Type} {p : Prop} [Decidable p] (f : α → β) (x y : Option α) : Option.map f (if p then x else y) = if p then Option.map f x else Option.map f y := by split <;> rfl
theorem nat_nonneg (n : Nat) : (0 ≤ (n : Int)) = True := by simp
end ops
attribute [go_sem] map_ite nat_nonneg  q_skip q_seq q_region q_block q_blk q_loop q_ret q_nil q_ops0 q_exit q_cond q_lp q_guard q_call putL_some putL_ite putL_none evV endL_some exitL_some lpL_some opL_some opL_none opL_ite guardL_u callF_some orcL_none orcL_some bindL_some backS_plain backS_deep out_code out_ops out_lp out_blk memN St.put St.putO St.see St.all St.drop upd_get e0_get n0_get rd cst V.view V.viewC argT St.args St.arg St.tree St.frz tree pureC isRef binV arith lenV isStr isSl vIndex optInt unV canon keepT keepB canonV hintAt endV resV gOf_eq List.find? List.zip List.zipWith List.map List.any List.all List.append_nil List.cons_append List.nil_append List.isEmpty_nil Bool.or_false Bool.not_true Bool.false_eq_true if_false if_true Nat.reduceEqDiff Nat.reduceLT ne_eq reduceCtorEq not_false_eq_true implies_true beq_self_eq_true Option.map_some Option.map_none Option.getD_some and_self true_and and_true Option.bind_some Nat.reduceBEq Nat.reduceLeDiff List.length_cons List.length_nil Nat.zero_add Nat.reduceAdd List.size_toArray decide_eq_true_eq p_move p_assign p_pick p_alloc p_box p_build p_buildSlice p_load p_nilCheck p_binOp p_unOp p_convert p_makeFunc p_makeMap p_makeSlice p_slice p_fieldAddr p_field p_indexAddr p_index p_lookup p_extract p_builtin p_none Option.map_none mapOpt
end Go.Ev
