/- The equations by which a function is run through, step by step. Sizes, conditions and equality of trees; the rule for loops. A given function of which the kit has a contract: the first place of a byte. -/
import Derived.Attr
import Derived.RowKit
import Derived.IntWalk
import Derived.Lib.Bytealg
import Derived.Test.YtcmnfoombinccaaEvA
import Derived.Test.YtcmnfoombinccaaEvK
set_option linter.unusedVariables false
set_option linter.unusedSimpArgs false
namespace Go.Ev
open Go
set_option linter.unusedVariables false
variable {E : Env} {l : List Oper} {all : Array Oper} {k : List It} {s : St}

theorem q_skip : lim E (.code .skip :: k) s = lim E k s := lim_step ..
theorem q_seq (x y : Code) : lim E (.code (.seq x y) :: k) s = lim E (.code x :: .code y :: k) s := lim_step ..
theorem q_region (i : Nat) (os : Array Oper) : lim E (.code (.region i os false) :: k) s = lim E (.ops os.toList os :: k) s := lim_step ..
noncomputable def drawL (E : Env) (k : List It) : Option St → Option (V × List (Nat → Option Ob))
  | some s => lim E k s
  | none => none
theorem drawL_some : drawL E k (some s) = lim E k s := rfl
theorem q_draw2 (i : Nat) (os : Array Oper) : lim E (.code (.region i os true) :: k) s = if drawOk2 E.P (E.H s.f) os (orderOf (E.H s.f) i os.size) (altOf (E.H s.f) i) = true then drawL E k (dall E (Ev.lim E) os (orderOf (E.H s.f) i os.size) (altOf (E.H s.f) i) s) else none := by
  rw [lim_step]
  show Out.lim E (if drawOk2 E.P (E.H s.f) os (orderOf (E.H s.f) i os.size) (altOf (E.H s.f) i) then .draw os (orderOf (E.H s.f) i os.size) (altOf (E.H s.f) i) k s else .fail) = _
  split
  · show Option.bind _ _ = _
    cases dall E (Ev.lim E) os (orderOf (E.H s.f) i os.size) (altOf (E.H s.f) i) s <;> rfl
  · rfl
/-- the second order is not asked for -/
def oneOrder (H : Hint) (i : Nat) : Bool := (altOf H i).isNone
theorem q_draw (i : Nat) (os : Array Oper) (h : (oneOrder (E.H s.f) i && drawOk E.P (E.H s.f) os (orderOf (E.H s.f) i os.size)) = true) : lim E (.code (.region i os true) :: k) s = drawL E k (drun E (Ev.lim E) os (orderOf (E.H s.f) i os.size) s []) := by
  obtain ⟨h1, h2⟩ := Bool.and_eq_true_iff.1 h
  rw [q_draw2]
  unfold oneOrder at h1
  rw [Option.isNone_iff_eq_none] at h1
  rw [h1]
  show (if drawOk E.P _ _ _ = true then drawL E k (drun _ _ _ _ _ _) else none) = _
  rw [if_pos h2]
theorem q_block (i : Nat) (c : Code) : lim E (.code (.block i c) :: k) s = lim E (.code c :: .blk i :: k) s := lim_step ..
theorem q_blk (i : Nat) : lim E (.blk i :: k) s = lim E k s := lim_step ..
theorem q_loop (c : Code) : lim E (.code (.loop c) :: k) s = lim E (.lp c :: k) s := lim_step ..
theorem q_ret : lim E (.code .ret :: k) s = lim E [] s := lim_step ..
noncomputable def endL : Option (V × St) → Option (V × List (Nat → Option Ob))
  | some (v, s) => some (v, s.o)
  | none => none
theorem endL_some (v : V) : endL (some (v, s)) = some (v, s.o) := rfl
theorem q_nil : lim E [] s = endL (endV E.P s) := by
  rw [lim_step]
  show Out.lim E (match endV E.P s with | some (v, s1) => .done v s1.o | none => .fail) = _
  cases endV E.P s <;> rfl
theorem q_ops0 : lim E (.ops [] all :: k) s = lim E k s := lim_step ..
noncomputable def exitL (E : Env) (s : St) : Option (List It) → Option (V × List (Nat → Option Ob))
  | some k => lim E k s
  | none => none
theorem exitL_some (k : List It) : exitL E s (some k) = lim E k s := rfl
theorem q_exit (i : Nat) : lim E (.code (.exit i) :: k) s = exitL E s (outOf i k) := by
  rw [lim_step]
  show Out.lim E (match outOf i k with | some k' => .go k' s | none => .fail) = _
  cases outOf i k <;> rfl
theorem out_code (i : Nat) (c : Code) : outOf i (.code c :: k) = outOf i k := rfl
theorem out_ops (i : Nat) : outOf i (.ops l all :: k) = outOf i k := rfl
theorem out_lp (i : Nat) (c : Code) : outOf i (.lp c :: k) = outOf i k := rfl
theorem out_blk (i j : Nat) : outOf i (.blk j :: k) = if j = i then some k else outOf i k := rfl
noncomputable def condL (E : Env) (a c : List It) (s : St) : V → Option (V × List (Nat → Option Ob))
  | .bool v => if v = true then lim E a s else lim E c s
  | _ => none
theorem condL_b (a c : List It) (v : Bool) : condL E a c s (.bool v) = if v = true then lim E a s else lim E c s := rfl
theorem q_cond (x : Operand) (c d : Code) : lim E (.code (.cond x c d) :: k) s = condL E (.code c :: k) (.code d :: k) s (s.see E.P 0 x) := by
  rw [lim_step]
  show Out.lim E (match s.see E.P 0 x with | .bool v => if v then .go (.code c :: k) s else .go (.code d :: k) s | _ => .fail) = _
  cases s.see E.P 0 x <;> try rfl
  rename_i v; cases v <;> rfl
noncomputable def lpL (E : Env) (c : Code) (k : List It) : Option St → Option (V × List (Nat → Option Ob))
  | some s => iter E c k s
  | none => none
theorem lpL_some (c : Code) : lpL E c k (some s) = iter E c k s := rfl
theorem q_lp (c : Code) : lim E (.lp c :: k) s = lpL E c k (canon s (hintAt (E.H s.f) k)) := by
  rw [lim_step]
  show Out.lim E (match canon s (hintAt (E.H s.f) k) with | some s' => .go (.code c :: .lp c :: k) s' | none => .fail) = _
  cases canon s (hintAt (E.H s.f) k) <;> rfl
/-- what an operation leaves -/
noncomputable def opL (E : Env) (k : List It) : Option St → Option (V × List (Nat → Option Ob))
  | some s => lim E k s
  | none => none
theorem opL_some : opL E k (some s) = lim E k s := rfl
theorem opL_none : opL E k none = none := rfl
theorem opL_ite {p : Prop} [Decidable p] (x y : Option St) : opL E k (if p then x else y) = if p then opL E k x else opL E k y := by split <;> rfl
noncomputable def guardL (E : Env) (o : Oper) (l : List Oper) (all : Array Oper) (k : List It) (s : St) (want : Bool) : Option V → Option (V × List (Nat → Option Ob))
  | some (.bool v) => if v = want then lim E (.ops (o :: l) all :: k) s else lim E (.ops l all :: k) (s.putO o.dst (.tup []))
  | some (.tup []) => lim E (.ops l all :: k) (s.putO o.dst (.tup []))
  | _ => none
theorem guardL_b (o : Oper) (want v : Bool) : guardL E o l all k s want (some (.bool v)) = if v = want then lim E (.ops (o :: l) all :: k) s else lim E (.ops l all :: k) (s.putO o.dst (.tup [])) := rfl
theorem guardL_u (o : Oper) (want : Bool) : guardL E o l all k s want (some (.tup [])) = lim E (.ops l all :: k) (s.putO o.dst (.tup [])) := rfl
def gOf (all : Array Oper) (t : Nat → V) (j : Nat) : Option V := ((all[j]?).bind (·.dst)).map t
theorem gOf_eq (os : List Oper) (t : Nat → V) (j : Nat) : gOf os.toArray t j = ((os[j]?).bind (·.dst)).map t := by simp [gOf]
theorem lim_op (o : Oper) (hg : o.guard = none) (h : ∀ f a b, o.op ≠ .call { callee := .value f, args := a, argTypes := b }) :
    lim E (.ops (o :: l) all :: k) s = opL E (.ops l all :: k) (evOp E.P (E.H s.f) o s) := by
  rw [lim_step]
  have : stepI E (.ops (o :: l) all :: k) s = (match evOp E.P (E.H s.f) o s with
        | some s' => .go (.ops l all :: k) s'
        | none => .fail) := by
    unfold stepI
    dsimp only
    rw [hg]
    dsimp only
    split
    · rename_i e; exact absurd e (h _ _ _)
    · rfl
  rw [this]
  cases evOp E.P (E.H s.f) o s <;> rfl
theorem q_guard (d : Option Tmp) (op : Op) (ty : TypeId) (pos : String) (aft : Array Edge) (j : Nat) (want : Bool) :
    lim E (.ops ({ dst := d, op := op, type := ty, pos := pos, after := aft, guard := some (j, want) } :: l) all :: k) s =
      guardL E { dst := d, op := op, type := ty, pos := pos, after := aft, guard := none } l all k s want (gOf all s.t j) := by
  rw [lim_step]
  have hrun : lim E (.ops ({ dst := d, op := op, type := ty, pos := pos, after := aft, guard := none } :: l) all :: k) s =
      Out.lim E (stepI E (.ops ({ dst := d, op := op, type := ty, pos := pos, after := aft, guard := none } :: l) all :: k) s) := lim_step ..
  have : stepI E (.ops ({ dst := d, op := op, type := ty, pos := pos, after := aft, guard := some (j, want) } :: l) all :: k) s =
      (match gOf all s.t j with
        | some (.bool b) => if b = want then stepI E (.ops ({ dst := d, op := op, type := ty, pos := pos, after := aft, guard := none } :: l) all :: k) s else .go (.ops l all :: k) (s.putO d (.tup []))
        | some (.tup []) => .go (.ops l all :: k) (s.putO d (.tup []))
        | _ => .fail) := rfl
  rw [this]
  unfold guardL
  split
  · split
    · rw [hrun]
    · rfl
  · rfl
  · rfl

def faddr (c : Nat) : V → Option V
  | .ptr lv u off => some (.ptr lv u (off + c))
  | .imp l => some (.imp (l.drop c))
  | _ => none
theorem faddr_p (c lv u off : Nat) : faddr c (.ptr lv u off) = some (.ptr lv u (off + c)) := rfl
theorem faddr_i (c : Nat) (l : List V) : faddr c (.imp l) = some (.imp (l.drop c)) := rfl
def fget (c n : Nat) (ag : Bool) : V → Option V
  | .agg l => if c + n ≤ l.length ∧ n ≠ 0 then some (pack ag ((l.drop c).take n)) else none
  | _ => none
theorem fget_a (c n : Nat) (ag : Bool) (l : List V) : fget c n ag (.agg l) = if c + n ≤ l.length ∧ n ≠ 0 then some (pack ag ((l.drop c).take n)) else none := rfl

/-- a struct's fields: type, place, cells -/
def layOf (P : Program) (t : TypeId) : Option (List (TypeId × Nat × Nat)) := match P.underlying t with
  | some (.struct fs) => if fs.toList.all (fun f => szOf P f.type != 0) then some (fs.toList.map fun f => (f.type, f.offset, szOf P f.type)) else none
  | _ => none
def buildL (P : Program) (L : List (TypeId × Nat × Nat)) : St → List V → List (Nat × Operand) → Option (List V × St)
  | s, cs, [] => some (cs, s)
  | s, cs, (i, x) :: ps => match L[i]? with
    | some (ft, off, sz) => if (s.all P ft x).flat.length = sz ∧ off + (s.all P ft x).flat.length ≤ cs.length then (match s.all P ft x with
        | .tup _ | .undef => none
        | _ => buildL P L (s.drop x) (setL cs off (s.all P ft x).flat) ps) else none
    | none => none
def aggO : Option (List V × St) → Option (V × St)
  | some r => some (.agg r.1, r.2)
  | none => none
theorem aggO_s (l : List V) (s : St) : aggO (some (l, s)) = some (.agg l, s) := rfl
theorem aggO_n : aggO none = none := rfl
theorem buildF_L {P : Program} {fs : Array Field} : ∀ (ps : List (Nat × Operand)) (s : St) (cs : List V), buildF P fs s cs ps = buildL P (fs.toList.map fun f => (f.type, f.offset, szOf P f.type)) s cs ps := by
  intro ps
  induction ps with
  | nil => intro s cs; rfl
  | cons p ps ih =>
    intro s cs
    obtain ⟨i, x⟩ := p
    unfold buildF buildL
    rw [List.getElem?_map, Array.getElem?_toList]
    cases fs[i]? with
    | none => rfl
    | some f =>
      dsimp only [Option.map_some]
      split
      · split
        · rename_i h; rw [h]
        · rename_i h; rw [h]
        · rename_i h1 h2
          rw [ih]
          split
          · rename_i h; exact absurd h (h1 _)
          · rename_i h; exact absurd h h2
          · rfl
      · rfl
theorem build_lay {P : Program} {H : Hint} {d : Nat} {ty t : TypeId} {ps : Array (Nat × Operand)} {s : St} {L : List (TypeId × Nat × Nat)} {z : List V} (h : layOf P t = some L) (hz : zero P t = some z) : evV P H d ty (.build t ps) s = aggO (buildL P L s z ps.toList) := by
  unfold layOf at h
  unfold evV
  dsimp only
  split at h
  · rename_i fs hu
    rw [hu, hz]
    dsimp only
    split at h
    · rename_i hc
      obtain rfl := Option.some.inj h
      rw [if_pos hc, buildF_L]
      cases buildL P (fs.toList.map fun f => (f.type, f.offset, szOf P f.type)) s z ps.toList <;> rfl
    · cases h
  · cases h

/-! one operation each -/
section ops
variable {d : Nat} {ty : TypeId} {pos : String} {aft : Array Edge}
/-- a value is put down -/
noncomputable def putL (E : Env) (d : Nat) (k : List It) : Option (V × St) → Option (V × List (Nat → Option Ob))
  | some (v, s) => lim E k (s.put d v)
  | none => none
theorem putL_some (v : V) : putL E d k (some (v, s)) = lim E k (s.put d v) := rfl
theorem putL_ite {p : Prop} [Decidable p] (x y : Option (V × St)) : putL E d k (if p then x else y) = if p then putL E d k x else putL E d k y := by split <;> rfl
theorem putL_none : putL E d k none = none := rfl
theorem lim_put (op : Op) (h : ∀ f a b, op ≠ .call { callee := .value f, args := a, argTypes := b }) :
    lim E (.ops ({ dst := some d, op := op, type := ty, pos := pos, after := aft, guard := none } :: l) all :: k) s = if d < s.n then putL E d (.ops l all :: k) (evV E.P (E.H s.f) d ty op s) else none := by
  rw [lim_op _ rfl h]
  show opL E _ (if d < s.n then (evV E.P (E.H s.f) d ty op s).map fun r => r.2.put d r.1 else none) = _
  split
  · cases evV E.P (E.H s.f) d ty op s <;> rfl
  · rfl
/-- a call -/
noncomputable def bindL (E : Env) (k : List It) (s : St) (plain : Bool × Bool × Bool) (d : Option Nat) : Option (V × List (Nat → Option Ob)) → Option (V × List (Nat → Option Ob))
  | some r => lim E k (backS s plain d r.1 r.2)
  | none => none
theorem bindL_some (plain : Bool × Bool × Bool) (d : Option Nat) (v : V) (o : List (Nat → Option Ob)) : bindL E k s plain d (some (v, o)) = lim E k (backS s plain d v o) := rfl
theorem backS_plain (u : Bool) (d : Nat) (v : V) (o : List (Nat → Option Ob)) : backS s (true, u, false) (some d) v o = s.put d (setl u v) := rfl
theorem backS_brw (u : Bool) (d : Nat) (v : V) (o : List (Nat → Option Ob)) : backS s (true, u, true) (some d) v o = s.put d (if v.free && v.flatOk then v else .undef) := rfl
theorem backS_deep (u : Bool) (d : Nat) (v : V) (b : Nat → Option Ob) (o : List (Nat → Option Ob)) : backS s (false, u, false) (some d) v (b :: o) = { s.put d (setl u v) with b := b, o := o } := rfl
theorem setl_f (v : V) : setl false v = v := rfl
theorem setl_t (v : V) : setl true v = v.settle := rfl
noncomputable def orcL (E : Env) (g : Nat) (vs : List V) (k : List It) (s : St) (d : Option Nat) : Option V → Option (V × List (Nat → Option Ob))
  | some v => lim E k (s.putO d v)
  | none => bindL E k s (true, setF E g d s, false) d (run E g vs [])
theorem orcL_none (g : Nat) (vs : List V) (d : Option Nat) : orcL E g vs k s d none = bindL E k s (true, setF E g d s, false) d (run E g vs []) := rfl
theorem orcL_some (g : Nat) (vs : List V) (d : Option Nat) (v : V) : orcL E g vs k s d (some v) = lim E k (s.putO d v) := rfl
noncomputable def callF (E : Env) (d : Option Nat) (k : List It) : V → Option (List V × St) → Option (V × List (Nat → Option Ob))
  | .fn g caps, some (vs, s1) => if ((vs ++ caps).any isRef || !caps.isEmpty) = true then bindL E k s1 (false, setF E g d s1, false) d (run E g (vs ++ caps) (s1.b :: s1.o)) else orcL E g (vs ++ caps) k s1 d (E.orc g (vs ++ caps))
  | _, _ => none
theorem callF_some (g : Nat) (caps vs : List V) (d : Option Nat) : callF E d k (.fn g caps) (some (vs, s)) = if ((vs ++ caps).any isRef || !caps.isEmpty) = true then bindL E k s (false, setF E g d s, false) d (run E g (vs ++ caps) (s.b :: s.o)) else orcL E g (vs ++ caps) k s d (E.orc g (vs ++ caps)) := rfl
noncomputable def callBF (E : Env) (d : Option Nat) (k : List It) (s : St) : V → Option (List V) → Option (V × List (Nat → Option Ob))
  | .fn g [], some vs => bindL E k s (true, false, true) d (run E g vs [])
  | _, _ => none
theorem callBF_some (g : Nat) (vs : List V) (d : Option Nat) : callBF E d k s (.fn g []) (some vs) = bindL E k s (true, false, true) d (run E g vs []) := rfl
noncomputable def callLF (E : Env) (d : Option Nat) (k : List It) : V → Option (List V × St) → Option (V × List (Nat → Option Ob))
  | .fn g [], some (vs, s1) => bindL E k s1 (false, setF E g d s1, false) d (run E g vs (s1.b :: s1.o))
  | _, _ => none
theorem callLF_some (g : Nat) (vs : List V) (d : Option Nat) : callLF E d k (.fn g []) (some (vs, s)) = bindL E k s (false, setF E g d s, false) d (run E g vs (s.b :: s.o)) := rfl
theorem q_call {f : Operand} {args : Array Operand} {tys : Array TypeId} :
    lim E (.ops ({ dst := some d, op := .call { callee := .value f, args := args, argTypes := tys }, type := ty, pos := pos, after := aft, guard := none } :: l) all :: k) s =
      if memN d (E.H s.f).brw = true then (if args.size = tys.size ∧ d < s.n then callBF E (some d) (.ops l all :: k) s (s.see E.P 0 f) (s.peeks E.P (tys.toList.zip args.toList)) else none)
      else if memN d (E.H s.f).lend = true then (if args.size = tys.size ∧ d < s.n then callLF E (some d) (.ops l all :: k) (s.see E.P 0 f) (s.argRs E.P (tys.toList.zip args.toList)) else none)
      else if args.size = tys.size ∧ d < s.n then callF E (some d) (.ops l all :: k) (s.see E.P 0 f) (s.args E.P (tys.toList.zip args.toList)) else none := by
  rw [lim_step]
  show Out.lim E (callOp E (some d) f args tys (.ops l all :: k) s) = _
  unfold callOp
  have hd : (args.size = tys.size ∧ Option.all (fun d => decide (d < s.n)) (some d) = true) ↔ (args.size = tys.size ∧ d < s.n) := by simp
  by_cases hb : memN d (E.H s.f).brw = true
  · rw [if_pos hb, if_pos (show inOpt (some d) (E.H s.f).brw = true from hb)]
    unfold callB
    by_cases hc : args.size = tys.size ∧ d < s.n
    · rw [if_pos hc]
      cases s.see E.P 0 f with
      | fn g caps =>
        cases caps with
        | cons _ _ => cases s.peeks E.P (tys.toList.zip args.toList) <;> rfl
        | nil =>
          cases s.peeks E.P (tys.toList.zip args.toList) with
          | none => rfl
          | some vs =>
            dsimp only
            rw [if_pos (hd.2 hc)]
            show Option.bind _ _ = bindL E _ s (true, false, true) (some d) (run E g vs [])
            cases run E g vs [] <;> rfl
      | _ => rfl
    · rw [if_neg hc]
      cases s.see E.P 0 f with
      | fn g caps =>
        cases caps with
        | cons _ _ => cases s.peeks E.P (tys.toList.zip args.toList) <;> rfl
        | nil =>
          cases s.peeks E.P (tys.toList.zip args.toList) with
          | none => rfl
          | some vs => dsimp only; rw [if_neg fun h => hc (hd.1 h)]; rfl
      | _ => rfl
  rw [if_neg hb, if_neg (show ¬ inOpt (some d) (E.H s.f).brw = true from hb)]
  by_cases hl : memN d (E.H s.f).lend = true
  · rw [if_pos hl, if_pos (show inOpt (some d) (E.H s.f).lend = true from hl)]
    unfold callL
    by_cases hc : args.size = tys.size ∧ d < s.n
    · rw [if_pos hc]
      cases s.see E.P 0 f with
      | fn g caps =>
        cases caps with
        | cons _ _ => cases s.argRs E.P (tys.toList.zip args.toList) <;> rfl
        | nil =>
          cases s.argRs E.P (tys.toList.zip args.toList) with
          | none => rfl
          | some r =>
            obtain ⟨vs, s1⟩ := r
            dsimp only
            rw [if_pos (hd.2 hc)]
            show Option.bind _ _ = bindL E _ s1 (false, setF E g (some d) s1, false) (some d) (run E g vs (s1.b :: s1.o))
            cases run E g vs (s1.b :: s1.o) <;> rfl
      | _ => rfl
    · rw [if_neg hc]
      cases s.see E.P 0 f with
      | fn g caps =>
        cases caps with
        | cons _ _ => cases s.argRs E.P (tys.toList.zip args.toList) <;> rfl
        | nil =>
          cases s.argRs E.P (tys.toList.zip args.toList) with
          | none => rfl
          | some r => obtain ⟨vs, s1⟩ := r; dsimp only; rw [if_neg fun h => hc (hd.1 h)]; rfl
      | _ => rfl
  rw [if_neg hl, if_neg (show ¬ inOpt (some d) (E.H s.f).lend = true from hl)]
  unfold callN
  by_cases hc : args.size = tys.size ∧ d < s.n
  · rw [if_pos hc]
    cases s.see E.P 0 f with
    | fn g caps =>
      cases s.args E.P (tys.toList.zip args.toList) with
      | none => rfl
      | some r =>
        obtain ⟨vs, s1⟩ := r
        dsimp only
        rw [if_pos (hd.2 hc)]
        show _ = if ((vs ++ caps).any isRef || !caps.isEmpty) = true then bindL E _ s1 (false, setF E g (some d) s1, false) (some d) (run E g (vs ++ caps) (s1.b :: s1.o)) else orcL E g (vs ++ caps) _ s1 (some d) (E.orc g (vs ++ caps))
        split
        · show Option.bind _ _ = _
          cases run E g (vs ++ caps) (s1.b :: s1.o) <;> rfl
        · cases E.orc g (vs ++ caps) with
          | some v => rfl
          | none =>
            show Option.bind _ _ = bindL E _ s1 (true, setF E g (some d) s1, false) (some d) (run E g (vs ++ caps) [])
            cases run E g (vs ++ caps) [] <;> rfl
    | _ => rfl
  · rw [if_neg hc]
    cases s.see E.P 0 f with
    | fn g caps =>
      cases s.args E.P (tys.toList.zip args.toList) with
      | none => rfl
      | some r => obtain ⟨vs, s1⟩ := r; dsimp only; rw [if_neg fun h => hc (hd.1 h)]; rfl
    | _ => rfl
theorem p_move (x : Operand) : lim E (.ops ({ dst := some d, op := .move x, type := ty, pos := pos, after := aft, guard := none } :: l) all :: k) s = if d < s.n then putL E d (.ops l all :: k) (evV E.P (E.H s.f) d ty (.move x) s) else none := lim_put _ (by intro _ _ _ h; cases h)
theorem p_assign (x : Operand) : lim E (.ops ({ dst := some d, op := .assign x, type := ty, pos := pos, after := aft, guard := none } :: l) all :: k) s = if d < s.n then putL E d (.ops l all :: k) (evV E.P (E.H s.f) d ty (.assign x) s) else none := lim_put _ (by intro _ _ _ h; cases h)
theorem p_pick (x y z : Operand) : lim E (.ops ({ dst := some d, op := .pick x y z, type := ty, pos := pos, after := aft, guard := none } :: l) all :: k) s = if d < s.n then putL E d (.ops l all :: k) (evV E.P (E.H s.f) d ty (.pick x y z) s) else none := lim_put _ (by intro _ _ _ h; cases h)
theorem p_alloc (t : TypeId) : lim E (.ops ({ dst := some d, op := .alloc t, type := ty, pos := pos, after := aft, guard := none } :: l) all :: k) s = if d < s.n then putL E d (.ops l all :: k) (evV E.P (E.H s.f) d ty (.alloc t) s) else none := lim_put _ (by intro _ _ _ h; cases h)
theorem p_box (t : TypeId) (x : Operand) : lim E (.ops ({ dst := some d, op := .box t x, type := ty, pos := pos, after := aft, guard := none } :: l) all :: k) s = if d < s.n then putL E d (.ops l all :: k) (evV E.P (E.H s.f) d ty (.box t x) s) else none := lim_put _ (by intro _ _ _ h; cases h)
theorem p_build (t : TypeId) (ps : Array (Nat × Operand)) : lim E (.ops ({ dst := some d, op := .build t ps, type := ty, pos := pos, after := aft, guard := none } :: l) all :: k) s = if d < s.n then putL E d (.ops l all :: k) (evV E.P (E.H s.f) d ty (.build t ps) s) else none := lim_put _ (by intro _ _ _ h; cases h)
theorem p_buildSlice (t : TypeId) (n : Nat) (ps : Array (Nat × Operand)) : lim E (.ops ({ dst := some d, op := .buildSlice t n ps, type := ty, pos := pos, after := aft, guard := none } :: l) all :: k) s = if d < s.n then putL E d (.ops l all :: k) (evV E.P (E.H s.f) d ty (.buildSlice t n ps) s) else none := lim_put _ (by intro _ _ _ h; cases h)
theorem p_load (t : TypeId) (x : Operand) : lim E (.ops ({ dst := some d, op := .load t x, type := ty, pos := pos, after := aft, guard := none } :: l) all :: k) s = if d < s.n then putL E d (.ops l all :: k) (evV E.P (E.H s.f) d ty (.load t x) s) else none := lim_put _ (by intro _ _ _ h; cases h)
theorem p_nilCheck (x : Operand) : lim E (.ops ({ dst := some d, op := .nilCheck x, type := ty, pos := pos, after := aft, guard := none } :: l) all :: k) s = if d < s.n then putL E d (.ops l all :: k) (evV E.P (E.H s.f) d ty (.nilCheck x) s) else none := lim_put _ (by intro _ _ _ h; cases h)
theorem p_binOp (o : BinOp) (t u : TypeId) (x y : Operand) : lim E (.ops ({ dst := some d, op := .binOp o t x y u, type := ty, pos := pos, after := aft, guard := none } :: l) all :: k) s = if d < s.n then putL E d (.ops l all :: k) (evV E.P (E.H s.f) d ty (.binOp o t x y u) s) else none := lim_put _ (by intro _ _ _ h; cases h)
theorem p_unOp (o : UnOp) (t : TypeId) (x : Operand) : lim E (.ops ({ dst := some d, op := .unOp o t x, type := ty, pos := pos, after := aft, guard := none } :: l) all :: k) s = if d < s.n then putL E d (.ops l all :: k) (evV E.P (E.H s.f) d ty (.unOp o t x) s) else none := lim_put _ (by intro _ _ _ h; cases h)
theorem p_convert (t u : TypeId) (x : Operand) : lim E (.ops ({ dst := some d, op := .convert t u x, type := ty, pos := pos, after := aft, guard := none } :: l) all :: k) s = if d < s.n then putL E d (.ops l all :: k) (evV E.P (E.H s.f) d ty (.convert t u x) s) else none := lim_put _ (by intro _ _ _ h; cases h)
theorem p_makeFunc (f : Fn) (a c : Array Operand) : lim E (.ops ({ dst := some d, op := .makeFunc f a c, type := ty, pos := pos, after := aft, guard := none } :: l) all :: k) s = if d < s.n then putL E d (.ops l all :: k) (evV E.P (E.H s.f) d ty (.makeFunc f a c) s) else none := lim_put _ (by intro _ _ _ h; cases h)
theorem p_makeMap (t : TypeId) (r : Option Operand) : lim E (.ops ({ dst := some d, op := .makeMap t r, type := ty, pos := pos, after := aft, guard := none } :: l) all :: k) s = if d < s.n then putL E d (.ops l all :: k) (evV E.P (E.H s.f) d ty (.makeMap t r) s) else none := lim_put _ (by intro _ _ _ h; cases h)
theorem p_makeSlice (t : TypeId) (x y : Operand) : lim E (.ops ({ dst := some d, op := .makeSlice t x y, type := ty, pos := pos, after := aft, guard := none } :: l) all :: k) s = if d < s.n then putL E d (.ops l all :: k) (evV E.P (E.H s.f) d ty (.makeSlice t x y) s) else none := lim_put _ (by intro _ _ _ h; cases h)
theorem p_slice (t : TypeId) (x : Operand) (a c m : Option Operand) : lim E (.ops ({ dst := some d, op := .slice t x a c m, type := ty, pos := pos, after := aft, guard := none } :: l) all :: k) s = if d < s.n then putL E d (.ops l all :: k) (evV E.P (E.H s.f) d ty (.slice t x a c m) s) else none := lim_put _ (by intro _ _ _ h; cases h)
theorem p_fieldAddr (t : TypeId) (x : Operand) (f : Nat) : lim E (.ops ({ dst := some d, op := .fieldAddr t x f, type := ty, pos := pos, after := aft, guard := none } :: l) all :: k) s = if d < s.n then putL E d (.ops l all :: k) (evV E.P (E.H s.f) d ty (.fieldAddr t x f) s) else none := lim_put _ (by intro _ _ _ h; cases h)
theorem p_field (t : TypeId) (x : Operand) (f : Nat) : lim E (.ops ({ dst := some d, op := .field t x f, type := ty, pos := pos, after := aft, guard := none } :: l) all :: k) s = if d < s.n then putL E d (.ops l all :: k) (evV E.P (E.H s.f) d ty (.field t x f) s) else none := lim_put _ (by intro _ _ _ h; cases h)
theorem p_indexAddr (t : TypeId) (x i : Operand) : lim E (.ops ({ dst := some d, op := .indexAddr t x i, type := ty, pos := pos, after := aft, guard := none } :: l) all :: k) s = if d < s.n then putL E d (.ops l all :: k) (evV E.P (E.H s.f) d ty (.indexAddr t x i) s) else none := lim_put _ (by intro _ _ _ h; cases h)
theorem p_index (t : TypeId) (x i : Operand) : lim E (.ops ({ dst := some d, op := .index t x i, type := ty, pos := pos, after := aft, guard := none } :: l) all :: k) s = if d < s.n then putL E d (.ops l all :: k) (evV E.P (E.H s.f) d ty (.index t x i) s) else none := lim_put _ (by intro _ _ _ h; cases h)
theorem p_lookup (t : TypeId) (x i : Operand) (o : Bool) : lim E (.ops ({ dst := some d, op := .lookup t x i o, type := ty, pos := pos, after := aft, guard := none } :: l) all :: k) s = if d < s.n then putL E d (.ops l all :: k) (evV E.P (E.H s.f) d ty (.lookup t x i o) s) else none := lim_put _ (by intro _ _ _ h; cases h)
theorem p_extract (x : Operand) (i : Nat) : lim E (.ops ({ dst := some d, op := .extract x i, type := ty, pos := pos, after := aft, guard := none } :: l) all :: k) s = if d < s.n then putL E d (.ops l all :: k) (evV E.P (E.H s.f) d ty (.extract x i) s) else none := lim_put _ (by intro _ _ _ h; cases h)
theorem p_builtin (b : Builtin) (a : Array Operand) (c : Array TypeId) : lim E (.ops ({ dst := some d, op := .call { callee := .builtin b, args := a, argTypes := c }, type := ty, pos := pos, after := aft, guard := none } :: l) all :: k) s = if d < s.n then putL E d (.ops l all :: k) (evV E.P (E.H s.f) d ty (.call { callee := .builtin b, args := a, argTypes := c }) s) else none := lim_put _ (by intro _ _ _ h; cases h)
theorem p_none (op : Op) (h : ∀ f a b, op ≠ .call { callee := .value f, args := a, argTypes := b }) : lim E (.ops ({ dst := none, op := op, type := ty, pos := pos, after := aft, guard := none } :: l) all :: k) s = opL E (.ops l all :: k) (evU E.P (E.H s.f) op s) := lim_op _ rfl h
/-- a function's start -/
theorem run_eq (E : Env) (f : Nat) (args : List V) (outer : List (Nat → Option Ob)) {fn : Func} {c : Code} (hf : E.P.funcs[f]? = some fn) (hn : (fn.name == "runtime.NumGoroutine") = false) (hb : fn.body = some c) (hl : args.length ≤ fn.ntmps) : run E f args outer = lim E [.code c] { t := argT 0 args, b := n0, o := outer, r := fn.results, f := f, n := fn.ntmps } := by
  unfold run startS
  rw [hf]
  simp only [hl, hn, hb, and_self, if_true, Option.map_some]
/-- a loop's rounds -/
theorem iter_rule {σ : Type} {E : Env} {c : Code} {k : List It} (S : σ → St) (R : σ → Option (V × List (Nat → Option Ob))) (μ : σ → Nat) (h : ∀ x, (∀ y, μ y < μ x → iter E c k (S y) = R y) → lim E (.code c :: .lp c :: k) (S x) = R x) (x : σ) : iter E c k (S x) = R x := by
  suffices ∀ n x, μ x ≤ n → iter E c k (S x) = R x from this _ x (Nat.le_refl _)
  intro n
  induction n with
  | zero => intro x hx; exact h x fun y hy => absurd hy (by omega)
  | succ n ih => intro x hx; exact h x fun y hy => ih y (by omega)
theorem map_ite {α β : Type} {p : Prop} [Decidable p] (f : α → β) (x y : Option α) : Option.map f (if p then x else y) = if p then Option.map f x else Option.map f y := by split <;> rfl
theorem nat_nonneg (n : Nat) : (0 ≤ (n : Int)) = True := by simp
end ops
attribute [go_sem] map_ite nat_nonneg  q_skip q_seq q_region q_block q_blk q_loop q_ret q_nil q_ops0 q_exit q_cond q_lp q_guard q_call putL_some putL_ite putL_none evV.eq_def endL_some exitL_some lpL_some opL_some opL_none opL_ite guardL_u callF_some callBF_some callLF_some backS_brw orcL_none orcL_some bindL_some backS_plain backS_deep setl_f setl_t setF V.settle V.setC V.outC isNilc nilCmp isTmpIn isTmpF uMake uMakes uMakeF uMakesF isTmpN uMakeN uMakesN vLoadM uStoreM resC resCs resW appendU out_code out_ops out_lp out_blk memN St.put St.putO St.see St.all St.drop upd_get e0_get n0_get rd cst V.view V.viewC argT St.args St.arg St.tree St.frz tree pureC isRef binV arith lenV isStr isSl vIndex optInt unV canon keepT keepB canonV.eq_def hintAt endV resV gOf_eq List.find? List.zip List.zipWith List.map List.any List.all List.append_nil List.cons_append List.nil_append List.isEmpty_nil Bool.or_false Bool.not_true Bool.false_eq_true if_false if_true Nat.reduceEqDiff Nat.reduceLT ne_eq reduceCtorEq not_false_eq_true implies_true beq_self_eq_true Option.map_some Option.map_none Option.getD_some and_self true_and and_true Option.bind_some Nat.reduceBEq Nat.reduceLeDiff List.length_cons List.length_nil Nat.zero_add Nat.reduceAdd List.size_toArray decide_eq_true_eq p_move p_assign p_pick p_alloc p_box p_build p_buildSlice p_load p_nilCheck p_binOp p_unOp p_convert p_makeFunc p_makeMap p_makeSlice p_slice p_fieldAddr p_field p_indexAddr p_index p_lookup p_extract p_builtin p_none Option.map_none mapOpt
attribute [go_sem] thaw resUs resHs resQs handAll V.hand V.handC cellU appendO St.peeks St.peek St.argRs St.argR St.argR0 tmpI cellD
end Go.Ev
namespace Go.Ev
open Go Go.RowKit
set_option linter.unusedVariables false

mutual
def szT : V → Nat
  | .str s => s.size
  | .slc _ _ l => l.length + szL l
  | .agg l => szL l
  | _ => 0
def szL : List V → Nat
  | [] => 0
  | a :: l => szT a + szL l
end
mutual
def okV : V → Prop
  | .str s => s.size ≤ 9223372036854775807
  | .int k n => (Lit.int k n).wf = true
  | .slc _ _ l => l.length ≤ 9223372036854775807 ∧ okL l
  | .agg l => okL l
  | _ => True
def okL : List V → Prop
  | [] => True
  | a :: l => okV a ∧ okL l
end
def isData : V → Bool
  | .bool _ | .int .. | .str _ | .slc .. | .agg _ => true
  | _ => false
mutual
def veq : V → V → Bool
  | .bool a, .bool b => a == b
  | .int _ a, .int _ b => a == b
  | .str a, .str b => a.toList == b.toList
  | .slc _ _ l, .slc _ _ m => veqs l m
  | .agg l, .agg m => veqs l m
  | a, b => !isData a && !isData b
def veqs : List V → List V → Bool
  | [], [] => true
  | a :: l, b :: m => veq a b && veqs l m
  | _, _ => false
end
mutual
theorem veq_refl : ∀ v : V, veq v v = true
  | .bool a => by simp only [veq, beq_self_eq_true]
  | .int k a => by simp only [veq, beq_self_eq_true]
  | .str s => by simp only [veq, beq_self_eq_true]
  | .slc o z l => by simp only [veq]; exact veqs_refl l
  | .uq a b => by simp [veq, isData]
  | .nw a => by simp [veq, isData]
  | .agg l => by simp only [veq]; exact veqs_refl l
  | .undef => by simp [veq, isData]
  | .tup l => by simp [veq, isData]
  | .ptr a b c => by simp [veq, isData]
  | .imp l => by simp [veq, isData]
  | .eptr a b c d => by simp [veq, isData]
  | .aref a b c => by simp [veq, isData]
  | .oref a b c => by simp [veq, isData]
  | .bref a b c => by simp [veq, isData]
  | .mp a b => by simp [veq, isData]
  | .fn a b => by simp [veq, isData]
  | .nilp => by simp [veq, isData]
  | .nilfn => by simp [veq, isData]
theorem veqs_refl : ∀ l : List V, veqs l l = true
  | [] => by simp only [veqs]
  | a :: l => by simp only [veqs, veq_refl a, veqs_refl l, Bool.and_self]
end
theorem okL_mem {l : List V} (h : okL l) : ∀ x ∈ l, okV x := by
  induction l with
  | nil => intro x hx; cases hx
  | cons a l ih =>
    intro x hx
    rcases List.mem_cons.1 hx with rfl | hx
    · exact h.1
    · exact ih h.2 x hx
theorem okL_map {α : Type} {f : α → V} {l : List α} (h : okL (l.map f)) {a : α} (ha : a ∈ l) : okV (f a) := okL_mem h _ (List.mem_map_of_mem ha)
theorem veqs_len : ∀ {l m : List V}, veqs l m = true → l.length = m.length := by
  intro l
  induction l with
  | nil => intro m h; cases m with | nil => rfl | cons => cases h
  | cons a l ih =>
    intro m h
    cases m with
    | nil => cases h
    | cons b m =>
      simp only [veqs, Bool.and_eq_true] at h
      simp [ih h.2]
theorem veqs_ne {l m : List V} (h : l.length ≠ m.length) : veqs l m = false := by
  cases e : veqs l m with
  | false => rfl
  | true => exact absurd (veqs_len e) h
/-- what is left behind a value's size -/
def leftOf (n : Nat) (left : Int) : Int := if (n : Int) ≤ left then left - n else -1
def szR (v : V) (left : Int) : Int := leftOf (szT v) left
def szRL (l : List V) (left : Int) : Int := leftOf (szL l) left
theorem leftOf_pos {n : Nat} {left : Int} (h : (n : Int) ≤ left) : leftOf n left = left - n := if_pos h
theorem leftOf_neg {n : Nat} {left : Int} (h : ¬ (n : Int) ≤ left) : leftOf n left = -1 := if_neg h
/-- something is left -/
theorem leftOf_ge {n : Nat} {left : Int} (h : ¬ leftOf n left < 0) : leftOf n left = left - n ∧ (n : Int) ≤ left := by
  by_cases k : (n : Int) ≤ left
  · exact ⟨if_pos k, k⟩
  · rw [leftOf_neg k] at h; exact absurd (by decide) h
theorem leftOf_lt {n : Nat} {left : Int} (h0 : 0 ≤ left) (h : leftOf n left < 0) : leftOf n left = -1 ∧ left < n := by
  by_cases k : (n : Int) ≤ left
  · rw [leftOf_pos k] at h; omega
  · exact ⟨leftOf_neg k, by omega⟩
def I (n : Int) : V := .int .i64 n
def B (b : Bool) : V := .bool b
def Sv (s : ByteArray) : V := .str s
def IL (l : List Int) : V := .slc false 1 (l.map I)
/-- the first place of a byte -/
def idxB (s : ByteArray) (c : Int) : Int := Go.Lib.indexByte s.data.toList c.toNat.toUInt8
def idxO : List V → Option V
  | [.str s, .int .u8 c] => some (.int .i64 (idxB s c))
  | _ => none

theorem wrap_in {n : Int} (h : -9223372036854775808 ≤ n) (h' : n ≤ 9223372036854775807) : IntKind.i64.wrap n = n := IntWalk.i64_in n ⟨h, h'⟩
theorem wrap_nat {n : Nat} (h : n < 9223372036854775807) : IntKind.i64.wrap ((n : Int) + 1) = ((n + 1 : Nat) : Int) := by
  rw [wrap_in (by omega) (by omega)]; rfl

theorem wrap_0 : IntKind.i64.wrap 0 = 0 := by decide
theorem wrap_1 : IntKind.i64.wrap 1 = 1 := by decide
theorem wrap_lit (n : Nat) (h : n ≤ 9223372036854775807) : IntKind.i64.wrap (no_index (OfNat.ofNat n) : Int) = (OfNat.ofNat n : Int) := by
  show IntKind.i64.wrap (n : Int) = (n : Int)
  exact wrap_in (by omega) (by omega)
theorem iter_eq {E : Env} {c : Code} {k : List It} {s : St} : iter E c k s = lim E (.code c :: .lp c :: k) s := rfl
theorem arr_empty {α : Type} : (#[] : Array α).isEmpty = true := rfl
theorem b_ft : (false == true) = false := rfl
theorem b_tf : (true == false) = false := rfl
/-- a loop's rounds, under a condition that stays -/
theorem iter_inv {σ : Type} {E : Env} {c : Code} {k : List It} (I : σ → Prop) (S : σ → St) (R : σ → Option (V × List (Nat → Option Ob))) (μ : σ → Nat) (h : ∀ x, I x → (∀ y, I y → μ y < μ x → iter E c k (S y) = R y) → lim E (.code c :: .lp c :: k) (S x) = R x) (x : σ) (hx : I x) : iter E c k (S x) = R x := by
  suffices ∀ n x, I x → μ x ≤ n → iter E c k (S x) = R x from this _ x hx (Nat.le_refl _)
  intro n
  induction n with
  | zero => intro x hI hx; exact h x hI fun y hy hlt => absurd hlt (by omega)
  | succ n ih => intro x hI hx; exact h x hI fun y hy hlt => ih y hy (by omega)

theorem getD_map {α : Type} {f : α → V} {l : List α} {i : Nat} (h : i < l.length) (d : V) : (l.map f).getD i d = f l[i] := by
  simp [List.getD_eq_getElem?_getD, List.getElem?_eq_getElem h]
theorem toNat_cast (n : Nat) : (n : Int).toNat = n := Int.toNat_natCast n

theorem len_map_lt {α : Type} {f : α → V} {l : List α} : (l.map f).length = l.length := List.length_map ..
/-- an array, filled up to i -/
def fill {α : Type} (f : α → V) (l : List α) (d : V) (i : Nat) : List V := (l.take i).map f ++ List.replicate (l.length - i) d
theorem fill_zero {α : Type} (f : α → V) (l : List α) (d : V) : fill f l d 0 = List.replicate l.length d := rfl
theorem fill_len {α : Type} (f : α → V) (l : List α) (d : V) {i : Nat} (h : i ≤ l.length) : (fill f l d i).length = l.length := by simp [fill]; omega
theorem fill_all {α : Type} (f : α → V) (l : List α) (d : V) : fill f l d l.length = l.map f := by simp [fill]
theorem fill_set {α : Type} (f : α → V) (l : List α) (d : V) {i : Nat} (h : i < l.length) (v : V) (hv : v = f l[i]) : (fill f l d i).set i v = fill f l d (i + 1) := by
  subst hv
  unfold fill
  have hn : l.length - i = (l.length - (i + 1)) + 1 := by omega
  rw [List.set_append_right _ _ (by simp; omega), hn]
  have : i - ((l.take i).map f).length = 0 := by simp; omega
  rw [this, List.replicate_succ, List.set_cons_zero, ← List.take_append_getElem h, List.map_append, List.append_assoc]
  rfl

/-! a drawn region, one operation after the other -/
noncomputable def drawN (E : Env) (k : List It) (all : Array Oper) (c : List Nat) (s : St) (done : List (Nat × V)) : Option (V × List (Nat → Option Ob)) := drawL E k (drun E (Ev.lim E) all c s done)
noncomputable def drL (E : Env) (k : List It) (all : Array Oper) (c : List Nat) : Option (St × List (Nat × V)) → Option (V × List (Nat → Option Ob))
  | some (s, done) => drawN E k all c s done
  | none => none
section
variable {E : Env} {k : List It} {all : Array Oper} {c : List Nat} {s : St} {done : List (Nat × V)}
theorem d_nil : drawN E k all [] s done = lim E k s := rfl
theorem d_cons (i : Nat) : drawN E k all (i :: c) s done = drL E k all c (dstep E (Ev.lim E) all i s done) := by
  show drawL E k (Option.bind _ _) = _
  cases h : dstep E (Ev.lim E) all i s done with
  | none => rfl
  | some r => rfl
theorem drL_some : drL E k all c (some (s, done)) = drawN E k all c s done := rfl
theorem drL_none : drL E k all c none = none := rfl
theorem drL_ite {p : Prop} [Decidable p] (x y : Option (St × List (Nat × V))) : drL E k all c (if p then x else y) = if p then drL E k all c x else drL E k all c y := by split <;> rfl
theorem q_drawn (i : Nat) {os : Array Oper} (h : (oneOrder (E.H s.f) i && drawOk E.P (E.H s.f) os (orderOf (E.H s.f) i os.size)) = true) : lim E (.code (.region i os true) :: k) s = drawN E k os (orderOf (E.H s.f) i os.size) s [] := by
  rw [q_draw _ _ h]
  rfl
end
theorem view_view (v : V) : v.view.view = v.view := by
  cases v <;> try rfl
  rename_i l
  simp only [V.view, List.map_map]
  congr 2
  funext x
  cases x <;> rfl
theorem set_nil (t : Nat → V) (d : Nat) (v : V) : setT t [] [] (some d) v = upd t d v := by
  funext x
  unfold setT upd
  by_cases h : x = d
  · subst h; simp
  · have : ¬ (d = x) := fun e => h e.symm
    simp [h, this, memN]
theorem set_cons (t : Nat → V) (a d : Nat) (D : List Nat) (v : V) : setT t (a :: D) [] (some d) v = setT (upd t a (t a).view) D [] (some d) v := by
  funext x
  unfold setT
  by_cases h : d = x
  · subst h; simp
  · simp only [Option.some.injEq, h, if_false, memN, upd]
    by_cases hx : x = a
    · subst hx
      simp [view_view]
    · simp [hx]
theorem set_cut (t : Nat → V) (a d : Nat) (v : V) : setT t [] [a] (some d) v = upd (upd t a (t a).cut) d v := by
  funext x
  unfold setT upd
  by_cases h : d = x
  · subst h; simp
  · have h' : ¬ x = d := fun e => h e.symm
    simp only [Option.some.injEq, h, h', if_false, memN]
    by_cases hx : x = a
    · subst hx; simp [memN]
    · simp [hx, memN]
/-- what a call that meets no object answers -/
noncomputable def xcV (E : Env) (g : Nat) (vs : List V) (u : Bool) : Option V → Option V
  | some v => some v
  | none => (run E g vs []).map fun r => setl u r.1
theorem xcV_n (g : Nat) (vs : List V) (u : Bool) {E : Env} : xcV E g vs u none = (run E g vs []).map fun r => setl u r.1 := rfl
theorem xcV_s (g : Nat) (vs : List V) (u : Bool) (v : V) {E : Env} : xcV E g vs u (some v) = some v := rfl
noncomputable def xcL (E : Env) (d : Option Nat) (n : Nat) (sz : Bool) (s0 : St) : V → Option (List V × St) → Option V
  | .fn g [], some (vs, _) => if sz = true ∧ d.all (fun d => decide (d < n)) = true then xcV E g vs (setF E g d s0) (E.orc g vs) else none
  | _, _ => none
theorem xcL_f (g : Nat) (vs : List V) (d : Option Nat) (n : Nat) (sz : Bool) (s s0 : St) {E : Env} : xcL E d n sz s0 (.fn g []) (some (vs, s)) = if sz = true ∧ d.all (fun d => decide (d < n)) = true then xcV E g vs (setF E g d s0) (E.orc g vs) else none := rfl
theorem x_call {E : Env} {s : St} {d : Option Nat} {f : Operand} {args : Array Operand} {tys : Array TypeId} {ty : TypeId} {pos : String} {aft : Array Edge} {g : Option (Nat × Bool)} :
    xval E (Ev.lim E) { dst := d, op := .call { callee := .value f, args := args, argTypes := tys }, type := ty, pos := pos, after := aft, guard := g } s =
      xcL E d s.n (args.size == tys.size) s (s.see E.P 0 f) (s.args E.P (tys.toList.zip args.toList)) := by
  unfold xval
  dsimp only
  cases s.see E.P 0 f with
  | fn g caps =>
    cases caps with
    | nil =>
      cases s.args E.P (tys.toList.zip args.toList) with
      | none => rfl
      | some r =>
        obtain ⟨vs, s1⟩ := r
        show _ = if _ then _ else _
        simp only [beq_iff_eq]
        split
        · unfold xcV run
          cases E.orc g vs with
          | some v => rfl
          | none =>
            dsimp only
            cases startS E g vs [] with
            | none => rfl
            | some x => rfl
        · rfl
    | cons a l => rfl
  | _ => rfl

theorem szL_I (l : List Int) : szL (l.map I) = 0 := by
  induction l with
  | nil => rfl
  | cons a l ih => show szT (I a) + szL (l.map I) = 0; rw [ih]; rfl
theorem szRL_cons (a : V) (l : List V) (left : Int) : szRL (a :: l) left = if szR a left < 0 then -1 else szRL l (szR a left) := by
  have e : szL (a :: l) = szT a + szL l := by simp only [szL]
  unfold szRL szR
  rw [e]
  by_cases h : (szT a : Int) ≤ left
  · rw [leftOf_pos h, if_neg (by omega)]
    by_cases h2 : (szL l : Int) ≤ left - szT a
    · rw [leftOf_pos h2, leftOf_pos (by omega)]; omega
    · rw [leftOf_neg h2, leftOf_neg (by omega)]
  · rw [leftOf_neg h, if_pos (by decide), leftOf_neg (by omega)]
theorem szL_mem {α : Type} {f : α → V} {l : List α} {a : α} (h : a ∈ l) : szT (f a) ≤ szL (l.map f) := by
  induction l with
  | nil => cases h
  | cons b l ih =>
    rw [List.map_cons, szL]
    rcases List.mem_cons.1 h with rfl | h
    · omega
    · have := ih h; omega
theorem veqs_cons (a b : V) (l m : List V) : veqs (a :: l) (b :: m) = (veq a b && veqs l m) := by simp only [veqs]
theorem ok_I (n : Int) (l : List Int) : okL (l.map I) → ∀ x ∈ l, -9223372036854775808 ≤ x ∧ x ≤ 9223372036854775807 := by
  intro h x hx
  have := okL_map h hx
  simp only [I, okV, Lit.wf] at this
  have k : (decide (IntKind.i64.min ≤ x) && decide (x ≤ IntKind.i64.max)) = true := this
  have a : IntKind.i64.min = -9223372036854775808 := by decide
  have b : IntKind.i64.max = 9223372036854775807 := by decide
  rw [a, b] at k
  simpa using k
theorem condL_dec {E : Env} {a c : List It} {s : St} {R : Option (V × List (Nat → Option Ob))} {p : Prop} [Decidable p] (h1 : p → lim E a s = R) (h2 : ¬ p → lim E c s = R) : condL E a c s (.bool (decide p)) = R := by
  rw [condL_b]
  by_cases h : p
  · rw [if_pos (decide_eq_true h)]; exact h1 h
  · rw [if_neg (by simpa using h)]; exact h2 h
theorem condL_bool {E : Env} {a c : List It} {s : St} {R : Option (V × List (Nat → Option Ob))} {v : Bool} (h1 : v = true → lim E a s = R) (h2 : v = false → lim E c s = R) : condL E a c s (.bool v) = R := by
  rw [condL_b]
  cases v
  · exact h2 rfl
  · exact h1 rfl
theorem guardL_bool {E : Env} {o : Oper} {l : List Oper} {all : Array Oper} {k : List It} {s : St} {w v : Bool} {R : Option (V × List (Nat → Option Ob))} (h1 : v = true → guardL E o l all k s w (some (.bool true)) = R) (h2 : v = false → guardL E o l all k s w (some (.bool false)) = R) : guardL E o l all k s w (some (.bool v)) = R := by
  cases v
  · exact h2 rfl
  · exact h1 rfl
theorem condL_t {E : Env} {a c : List It} {s : St} : condL E a c s (.bool true) = lim E a s := rfl
theorem condL_f {E : Env} {a c : List It} {s : St} : condL E a c s (.bool false) = lim E c s := rfl
theorem guardL_tt {E : Env} {o : Oper} {l : List Oper} {all : Array Oper} {k : List It} {s : St} : guardL E o l all k s true (some (.bool true)) = lim E (.ops (o :: l) all :: k) s := rfl
theorem guardL_ff {E : Env} {o : Oper} {l : List Oper} {all : Array Oper} {k : List It} {s : St} : guardL E o l all k s false (some (.bool false)) = lim E (.ops (o :: l) all :: k) s := rfl
theorem guardL_tf {E : Env} {o : Oper} {l : List Oper} {all : Array Oper} {k : List It} {s : St} : guardL E o l all k s true (some (.bool false)) = lim E (.ops l all :: k) (s.putO o.dst (.tup [])) := rfl
theorem guardL_ft {E : Env} {o : Oper} {l : List Oper} {all : Array Oper} {k : List It} {s : St} : guardL E o l all k s false (some (.bool true)) = lim E (.ops l all :: k) (s.putO o.dst (.tup [])) := rfl
attribute [go_sem] arr_empty u8 Option.isSome_some Option.isSome_none Nat.reduceMul Nat.reduceSub List.set_cons_zero List.set_cons_succ List.set_nil Bool.true_or Bool.or_true Bool.false_or List.isEmpty_cons List.headD_cons List.tail_cons heldP canonD dirs heldH_eq famD_nil Nat.reduceBNe Nat.reduceBEq aggO_s aggO_n buildL b_ft b_tf isMp wrap_0 wrap_1 wrap_lit Int.reduceLT Int.reduceLE Int.reduceAdd Int.reduceSub Int.reduceMul Int.reduceEq Int.reduceBEq Int.reduceBNe strOp convV sliceV appendV min2V max2V vLookup uMap findE putE buildF St.trees inOrder shiftV resT resTs condL_t condL_f guardL_tt guardL_ff guardL_tf guardL_ft V.ite
section
variable {E : Env} {ev : Run} {s : St} {d : Option Nat} {ty : TypeId} {pos : String} {aft : Array Edge} {g : Option (Nat × Bool)}
theorem x_move (x : Operand) : xval E ev { dst := d, op := .move x, type := ty, pos := pos, after := aft, guard := g } s = (evV E.P (E.H s.f) (d.getD 0) ty (.move x) s).map (·.1) := rfl
theorem x_assign (x : Operand) : xval E ev { dst := d, op := .assign x, type := ty, pos := pos, after := aft, guard := g } s = (evV E.P (E.H s.f) (d.getD 0) ty (.assign x) s).map (·.1) := rfl
theorem x_pick (x y z : Operand) : xval E ev { dst := d, op := .pick x y z, type := ty, pos := pos, after := aft, guard := g } s = (evV E.P (E.H s.f) (d.getD 0) ty (.pick x y z) s).map (·.1) := rfl
theorem x_build (u : TypeId) (ps : Array (Nat × Operand)) : xval E ev { dst := d, op := .build u ps, type := ty, pos := pos, after := aft, guard := g } s = (evV E.P (E.H s.f) (d.getD 0) ty (.build u ps) s).map (·.1) := rfl
theorem x_buildSlice (u : TypeId) (m : Nat) (ps : Array (Nat × Operand)) : xval E ev { dst := d, op := .buildSlice u m ps, type := ty, pos := pos, after := aft, guard := g } s = (evV E.P (E.H s.f) (d.getD 0) ty (.buildSlice u m ps) s).map (·.1) := rfl
theorem x_nilCheck (x : Operand) : xval E ev { dst := d, op := .nilCheck x, type := ty, pos := pos, after := aft, guard := g } s = (evV E.P (E.H s.f) (d.getD 0) ty (.nilCheck x) s).map (·.1) := rfl
theorem x_binOp (b : BinOp) (u v : TypeId) (x y : Operand) : xval E ev { dst := d, op := .binOp b u x y v, type := ty, pos := pos, after := aft, guard := g } s = (evV E.P (E.H s.f) (d.getD 0) ty (.binOp b u x y v) s).map (·.1) := rfl
theorem x_unOp (b : UnOp) (u : TypeId) (x : Operand) : xval E ev { dst := d, op := .unOp b u x, type := ty, pos := pos, after := aft, guard := g } s = (evV E.P (E.H s.f) (d.getD 0) ty (.unOp b u x) s).map (·.1) := rfl
theorem x_convert (u v : TypeId) (x : Operand) : xval E ev { dst := d, op := .convert u v x, type := ty, pos := pos, after := aft, guard := g } s = (evV E.P (E.H s.f) (d.getD 0) ty (.convert u v x) s).map (·.1) := rfl
theorem x_makeSlice (u : TypeId) (x y : Operand) : xval E ev { dst := d, op := .makeSlice u x y, type := ty, pos := pos, after := aft, guard := g } s = (evV E.P (E.H s.f) (d.getD 0) ty (.makeSlice u x y) s).map (·.1) := rfl
theorem x_slice (u : TypeId) (x : Operand) (a b m : Option Operand) : xval E ev { dst := d, op := .slice u x a b m, type := ty, pos := pos, after := aft, guard := g } s = (evV E.P (E.H s.f) (d.getD 0) ty (.slice u x a b m) s).map (·.1) := rfl
theorem x_fieldAddr (u : TypeId) (x : Operand) (f : Nat) : xval E ev { dst := d, op := .fieldAddr u x f, type := ty, pos := pos, after := aft, guard := g } s = (evV E.P (E.H s.f) (d.getD 0) ty (.fieldAddr u x f) s).map (·.1) := rfl
theorem x_field (u : TypeId) (x : Operand) (f : Nat) : xval E ev { dst := d, op := .field u x f, type := ty, pos := pos, after := aft, guard := g } s = (evV E.P (E.H s.f) (d.getD 0) ty (.field u x f) s).map (·.1) := rfl
theorem x_indexAddr (u : TypeId) (x i : Operand) : xval E ev { dst := d, op := .indexAddr u x i, type := ty, pos := pos, after := aft, guard := g } s = (evV E.P (E.H s.f) (d.getD 0) ty (.indexAddr u x i) s).map (·.1) := rfl
theorem x_index (u : TypeId) (x i : Operand) : xval E ev { dst := d, op := .index u x i, type := ty, pos := pos, after := aft, guard := g } s = (evV E.P (E.H s.f) (d.getD 0) ty (.index u x i) s).map (·.1) := rfl
theorem x_builtin (b : Builtin) (a : Array Operand) (c : Array TypeId) : xval E ev { dst := d, op := .call { callee := .builtin b, args := a, argTypes := c }, type := ty, pos := pos, after := aft, guard := g } s = (evV E.P (E.H s.f) (d.getD 0) ty (.call { callee := .builtin b, args := a, argTypes := c }) s).map (·.1) := rfl
theorem x_extract (u i : Nat) : xval E ev { dst := d, op := .extract (.tmp u) i, type := ty, pos := pos, after := aft, guard := g } s = match s.t u with | .tup l => (l[i]?).map (extV (E.H s.f) (d.getD 0)) | _ => none := rfl
end
section
variable {E : Env} {ev : Run} {s : St} {d : Option Nat} {ty : TypeId} {pos : String} {aft : Array Edge} {g : Option (Nat × Bool)}
theorem l_load (t : TypeId) (x : Operand) : lval E ev { dst := d, op := .load t x, type := ty, pos := pos, after := aft, guard := g } s = (evV E.P (E.H s.f) (d.getD 0) ty (.load t x) s).map (·.1) := rfl
theorem l_lookup (t : TypeId) (x i : Operand) (o : Bool) : lval E ev { dst := d, op := .lookup t x i o, type := ty, pos := pos, after := aft, guard := g } s = (evV E.P (E.H s.f) (d.getD 0) ty (.lookup t x i o) s).map (·.1) := rfl
end
/-! more for go_sem -/
theorem all_nil' {p : V → Bool} : List.all [] p = true := rfl
theorem all_cons' {p : V → Bool} {a : V} {l : List V} : List.all (a :: l) p = (p a && List.all l p) := rfl
theorem drawL_s {E : Env} {k : List It} {s : St} : drawL E k (some s) = lim E k s := rfl
attribute [go_sem] St.lv St.ob obIn St.setOb setIn V.flat vLoad uStore faddr_p faddr_i fget_a vIndexAddr pack setL List.drop_succ_cons List.drop_zero List.take_succ_cons List.take_zero List.drop_nil List.take_nil cellOk lowV toNat_cast all_nil' all_cons' List.getD_cons_zero List.getD_cons_succ List.length_map Bool.and_self Bool.true_and Bool.and_true Int.reduceNeg Int.reduceToNat drawL_s keepO heldC evU List.headD_cons decide_true decide_false List.map_cons List.map_nil Int.cast_ofNat_Int Int.le_refl List.length_set List.length_append List.length_replicate List.length_take List.length_drop
attribute [go_sem] Option.getD_none d_nil set_cut cuts V.cut extV d_cons drL_some drL_none drL_ite dstep guardS isX.eq_def isL dynX inDst x_call xcL_f xcV_n xcV_s x_move x_assign x_pick x_build x_buildSlice x_nilCheck x_binOp x_unOp x_convert x_makeSlice x_slice x_fieldAddr x_field x_indexAddr x_index x_builtin x_extract l_load l_lookup St.setX set_nil set_cons drops Bool.not_false orderOf List.range_succ List.range_zero tmpsOf Option.all_some List.getElem?_toArray List.getElem?_cons_zero List.getElem?_cons_succ
end Go.Ev
namespace Go.Ev
open Go
theorem orc_idx {E : Env} {N : Nat} (hE : ∀ g vs, E.orc g vs = if g = N then idxO vs else none) (hf : ∃ fn c, E.P.funcs[N]? = some fn ∧ (fn.name == "runtime.NumGoroutine") = false ∧ fn.body = some c)
    (hc : ∀ (s : ByteArray) (c : Int) (w : World), Calls E.P N #[.string s, .int .u8 c] w fun e w' => e = .returned (.int .i64 (idxB s c)) ∧ w' = w) : OrcOk E := by
  intro g vs v h _
  rw [hE] at h
  split at h
  · rename_i hg
    subst hg
    obtain ⟨fn, c, h1, h2, h3⟩ := hf
    refine ⟨fn, c, h1, h2, h3, ?_⟩
    unfold idxO at h
    split at h
    · rename_i s b _
      obtain rfl := Option.some.inj h
      intro S w cargs hl hT hS
      have t0 := hT 0 (by simp)
      have t1 := hT 1 (by simp)
      have e : cargs = #[.string s, .int .u8 b] := by
        match cargs, hl with
        | ⟨[x, y]⟩, _ =>
          simp only [List.getD_cons_zero, List.getD_cons_succ, Array.getD] at t0 t1
          cases t0
          cases t1
          rfl
      subst e
      refine (hc s b w).mono ?_
      rintro e w' ⟨rfl, rfl⟩
      refine ⟨_, _, rfl, ⟨fun β => ?_, Fr.refl _ _ _, rfl, fun l t ob h => by simp [obIn] at h, fun l t g h => by omega, fun g j c h => hS g j c h, fun g p h => by cases h⟩⟩
      exact Tr.int .i64 _
    · cases h
  · cases h
end Go.Ev
