/- The whole. A run that comes to an end is a call that comes back. The equations by which a function is run through, step by step. Sizes, conditions and equality of trees; the rule for loops. A given function of which the kit has a contract: the first place of a byte. Drawn regions whose writes come behind what was read: one operation after the other. The program's data as Lean structures, and as trees. Strings as bytes: scans, counts, letters, variables. Regular expressions: size, depth, validity. Frames, states and steps: what both sides compute. Steps of states, and what a closed list of states is. Closed lists of states. An argument that reads as data, as a tree. -/
import Derived.Attr
import Derived.RowKit
import Derived.IntWalk
import Derived.Lib.Bytealg
import Derived.Laws.Strings
import Derived.Lib.LazyBuf
import Derived.OpenShut
import Derived.ProofKit
import Derived.ChangeOld
import Derived.DataReads
import Derived.Test.YtambafllihgdnaaEvC
import Derived.Test.YtambafllihgdnaaEvA
set_option linter.unusedVariables false
set_option linter.unusedSimpArgs false
namespace Go.Ev
open Go
set_option linter.unusedVariables false
set_option linter.unusedSimpArgs false
variable {E : Env} {G : Gh} {s : St} {a : Act} {w : World}

theorem soundN (hM : E.P.follows .mixedOrders = true) (hO : OrcOk E) : ∀ n, SoundN E n := by
  intro n
  induction n with
  | zero => intro its s r h; simp [evI] at h
  | succ n ih =>
    intro its s r h hlow fn hf hres G a w hr k hk b cs hb hkind
    -- a step of the machine to the same place
    have next : ∀ {its' : List It} {s' : St} {G' : Gh} {a' : Act} {w' : World} {k' : List Item}, evI E n its' s' = some r → Rel G' s' a' w' → Nx s s' → Fr s.lv G w G' w' → Its its' k' → Steps E.P (lone (b.at a k) cs w) (lone (b.at a' k') cs w') →
        ∃ x w'' fr G'', Steps E.P (lone (b.at a k) cs w) (lone fr cs w'') ∧ fr.fn = s.f ∧ fr.leaving E.P w'' (.returned x) ∧ Done s.lv G w r.2 r.1 x w'' G'' ∧ LowL r.2 := by
      intro its' s' G' a' w' k' hev r' nx f' hk' hst
      obtain ⟨x, w'', fr, G'', h1, h2, h3, h4, h5⟩ := ih its' s' r hev (nx.low hlow) fn (by rw [nx.f]; exact hf) (by rw [nx.r]; exact hres) G' a' w' r' k' hk' b cs (by rw [nx.f]; exact hb) hkind
      exact ⟨x, w'', fr, G'', hst.trans h1, h2.trans nx.f, h3, (nx.lv ▸ h4).pre f', h5⟩
    rw [evI] at h
    cases its with
    | nil =>
      cases hk
      unfold stepI at h
      dsimp only at h
      split at h
      · rename_i e
        split at e <;> cases e
      · rename_i v o e
        split at e
        · rename_i v' s1 hv
          obtain ⟨rfl, rfl⟩ := Out.done.inj e
          obtain rfl := Option.some.inj h
          obtain ⟨x, G', h1, h2⟩ := leaves (b := b) (G' := G) hr hf hres hv hb hkind
          exact ⟨x, w, _, G', .one step_end, hb, h1 [], h2, endV_low hv hlow⟩
        · cases e
      · cases h
      · rename_i e
        split at e <;> cases e
      · rename_i e
        split at e <;> cases e
    | cons i its =>
      cases hk with
      | blk id hk => exact next (by simpa [stepI] using h) hr (.refl _) (Fr.refl _ _ _) hk (.one step_inBlock)
      | lp c hk =>
        unfold stepI at h
        dsimp only at h
        split at h
        · rename_i k2 s2 e
          split at e
          · rename_i s' hc
            obtain ⟨rfl, rfl⟩ := Out.go.inj e
            obtain ⟨G', h1, h2, h3⟩ := canon_ok hr hlow hc
            exact next h h1 h3 h2 (.code c (.lp c hk)) (.one step_inLoop)
          · cases e
        · rename_i e; split at e <;> cases e
        · cases h
        · rename_i e; split at e <;> cases e
        · rename_i e; split at e <;> cases e
      | code c hk =>
        rename_i k
        cases c with
        | skip => exact next (by simpa [stepI] using h) hr (.refl _) (Fr.refl _ _ _) hk (.one step_skip)
        | seq x y => exact next (its' := .code x :: .code y :: its) (by simpa [stepI] using h) hr (.refl _) (Fr.refl _ _ _) (.code x (.code y hk)) (.one step_seq)
        | block id c => exact next (its' := .code c :: .blk id :: its) (by simpa [stepI] using h) hr (.refl _) (Fr.refl _ _ _) (.code c (.blk id hk)) (.one step_block)
        | region id ops dr =>
          cases dr with
          | true =>
            have hds : stepI E (.code (.region id ops true) :: its) s = if drawOk E.P (E.H s.f) ops (orderOf (E.H s.f) id ops.size) then .draw ops (orderOf (E.H s.f) id ops.size) its s else .fail := by simp [stepI]
            rw [hds] at h
            by_cases hok : drawOk E.P (E.H s.f) ops (orderOf (E.H s.f) id ops.size) = true
            · rw [if_pos hok] at h
              dsimp only at h
              split at h
              · rename_i s' h1
                have hwp := draw_all (Q := fun e a' w' => e = .normal ∧ ∃ G', Rel G' s' a' w' ∧ Nx s s' ∧ Fr s.lv G w G' w') ih hO hok h1 hr hlow fun a' w' G' r' nx f' => ⟨rfl, G', r', nx, f'⟩
                obtain ⟨e, a', w', ⟨rfl, G', r', nx, f'⟩, harr⟩ := wp_region_any (id := id) hM hwp b k cs
                exact next h r' nx f' hk harr
              · cases h
            · rw [if_neg hok] at h; cases h
          | false =>
            have h' : evI E n (.ops ops.toList ops :: its) s = some r := by simpa [stepI] using h
            cases n with
            | zero => simp [evI] at h'
            | succ n =>
              obtain ⟨s', h1, h2⟩ := evI_ops h'
              have h1' := stepsO_mono (Nat.le_succ n) h1
              have hwp : wpOps E.P ops (fun e a' w' => e = .normal ∧ ∃ G', Rel G' s' a' w' ∧ Nx s s' ∧ Fr s.lv G w G' w') (List.range' 0 ops.size) a w :=
                region_ok ih hO ops.size 0 (by omega) (by simpa using h1') hr hlow fun a' w' G' r' nx f' => ⟨rfl, G', r', nx, f'⟩
              rw [← List.range_eq_range'] at hwp
              obtain ⟨e, a', w', ⟨rfl, G', r', nx, f'⟩, harr⟩ := wp_ops (P := E.P) _ a w hwp b k cs
              exact next (evI_le E (Nat.le_succ n) h2) r' nx f' hk (.head step_region harr)
        | cond x c1 c2 =>
          unfold stepI at h
          dsimp only at h
          have hx := hr.see E.P 0 x
          generalize s.see E.P 0 x = u at h hx
          cases u with
          | bool t =>
            have hv := hx.bool_inv
            dsimp only at h
            cases t with
            | true => exact next (its' := .code c1 :: its) (by simpa using h) hr (.refl _) (Fr.refl _ _ _) (.code c1 hk) (.one (step_cond hv))
            | false => exact next (its' := .code c2 :: its) (by simpa using h) hr (.refl _) (Fr.refl _ _ _) (.code c2 hk) (.one (step_cond hv))
          | _ => cases h
        | loop c =>
          have h' : evI E n (.lp c :: its) s = some r := by simpa [stepI] using h
          cases n with
          | zero => simp [evI] at h'
          | succ n =>
            rw [evI] at h'
            unfold stepI at h'
            dsimp only at h'
            split at h'
            · rename_i k2 s2 e
              split at e
              · rename_i s' hc
                obtain ⟨rfl, rfl⟩ := Out.go.inj e
                obtain ⟨G', h1, h2, h3⟩ := canon_ok hr hlow hc
                exact next (evI_le E (Nat.le_succ n) h') h1 h3 h2 (.code c (.lp c hk)) (.one step_loop)
              · cases e
            · rename_i e; split at e <;> cases e
            · cases h'
            · rename_i e; split at e <;> cases e
            · rename_i e; split at e <;> cases e
        | exit id =>
          unfold stepI at h
          dsimp only at h
          cases hx : outOf id its with
          | none => rw [hx] at h; cases h
          | some its' =>
            rw [hx] at h
            obtain ⟨k', h1, h2⟩ := hk.exit hx
            exact next h hr (.refl _) (Fr.refl _ _ _) h2 (.one (step_exit h1))
        | ret =>
          have h' : evI E n [] s = some r := by simpa [stepI] using h
          cases n with
          | zero => simp [evI] at h'
          | succ n =>
            rw [evI] at h'
            unfold stepI at h'
            dsimp only at h'
            split at h'
            · rename_i e
              split at e <;> cases e
            · rename_i v o e
              split at e
              · rename_i v' s1 hv
                obtain ⟨rfl, rfl⟩ := Out.done.inj e
                obtain rfl := Option.some.inj h'
                obtain ⟨x, G', h1, h2⟩ := leaves (b := b) (G' := G) hr hf hres hv hb hkind
                exact ⟨x, w, _, G', .one step_ret, hb, h1 _, h2, endV_low hv hlow⟩
              · cases e
            · cases h'
            · rename_i e
              split at e <;> cases e
            · rename_i e
              split at e <;> cases e
        | _ => simp [stepI] at h
end Go.Ev
namespace Go.Ev
open Go Go.RowKit
set_option linter.unusedVariables false
variable {E : Env}

theorem done_below {G G' : Gh} {w w' : World} {o : List (Nat → Option Ob)} {v : V} {x : Value} (h : Done 0 { S := G.S, β := fun _ _ => none, ω := fun _ => none } w o v x w' G') : Below w.heap.size w w' :=
  ⟨h.fr.os, h.fr.tape, h.fr.output, h.fr.size, fun k hk => (h.fr.keep k hk (fun p hp => by cases hp)).1⟩
theorem run_calls (hM : E.P.follows .mixedOrders = true) (hO : OrcOk E) {f : Nat} {args : List V} {cargs : Array Value} {w : World} {v : V} {o : List (Nat → Option Ob)} (hrun : run E f args [] = some (v, o)) {S : Nat → Nat → Option Value} (hS : ∀ g j c, S g j = some c → w.cell? ⟨g, j, none⟩ = some c) (hl : args.length = cargs.size)
    (hT : ∀ i, i < args.length → Tr S (fun _ _ => none) (args.getD i .undef) (cargs.getD i Go.undef)) :
    Calls E.P f cargs w fun e w' => ∃ x G', e = .returned x ∧ Done 0 { S := S, β := fun _ _ => none, ω := fun _ => none } w o v x w' G' := by
  unfold run at hrun
  cases h0 : startS E f args [] with
  | none => rw [h0] at hrun; cases hrun
  | some x =>
    obtain ⟨k0, s0⟩ := x
    rw [h0] at hrun
    obtain ⟨n, hn⟩ := lim_iff.1 hrun
    refine (calls_ok (G := { S := S, β := fun _ _ => none, ω := fun _ => none }) (soundN hM hO n) h0 hn hl hT (fun l t ob ho => by cases ho) (fun l t g hg => by cases hg) hS (fun g p hp => by cases hp) (fun l t ob ho => by cases ho)).mono ?_
    rintro e w' ⟨x, G', he, hd, _⟩
    exact ⟨x, G', he, hd⟩
/-- a law that comes to 'true' -/
theorem law_calls (hM : E.P.follows .mixedOrders = true) (hO : OrcOk E) {f : Nat} {args : List V} {cargs : Array Value} {w : World} {o : List (Nat → Option Ob)} (hrun : run E f args [] = some (.bool true, o)) (hl : args.length = cargs.size)
    (hT : ∀ i, i < args.length → Tr (fun g j => w.cell? ⟨g, j, none⟩) (fun _ _ => none) (args.getD i .undef) (cargs.getD i Go.undef)) :
    Calls E.P f cargs w fun e w' => e = .returned (.bool true) ∧ Below w.heap.size w w' := by
  refine (run_calls hM hO hrun (fun _ _ _ h => h) hl hT).mono ?_
  rintro e w' ⟨x, G', rfl, hd⟩
  have := (hd.own fun _ _ => none).bool_inv
  subst this
  exact ⟨rfl, done_below (G := { S := fun g j => w.cell? ⟨g, j, none⟩, β := fun _ _ => none, ω := fun _ => none }) hd⟩
end Go.Ev
namespace Go.Ev
open Go
set_option linter.unusedVariables false
variable {E : Env} {l : List Oper} {all : Array Oper} {k : List It} {s : St}

theorem q_skip : lim E (.code .skip :: k) s = lim E k s := lim_step ..
theorem q_seq (x y : Code) : lim E (.code (.seq x y) :: k) s = lim E (.code x :: .code y :: k) s := lim_step ..
theorem q_region (i : Nat) (os : Array Oper) : lim E (.code (.region i os false) :: k) s = lim E (.ops os.toList os :: k) s := lim_step ..
noncomputable def drawL (E : Env) (k : List It) : Option St → Option (V × List (Nat → Option Ob))
  | some s => lim E k s
  | none => none
theorem drawL_some : drawL E k (some s) = lim E k s := rfl
theorem q_draw (i : Nat) (os : Array Oper) : lim E (.code (.region i os true) :: k) s = if drawOk E.P (E.H s.f) os (orderOf (E.H s.f) i os.size) = true then drawL E k (drun E (Ev.lim E) os (orderOf (E.H s.f) i os.size) s []) else none := by
  rw [lim_step]
  show Out.lim E (if drawOk E.P (E.H s.f) os (orderOf (E.H s.f) i os.size) then .draw os (orderOf (E.H s.f) i os.size) k s else .fail) = _
  split
  · show Option.bind _ _ = _
    cases drun E (Ev.lim E) os (orderOf (E.H s.f) i os.size) s [] <;> rfl
  · rfl
theorem q_block (i : Nat) (c : Code) : lim E (.code (.block i c) :: k) s = lim E (.code c :: .blk i :: k) s := lim_step ..
theorem q_blk (i : Nat) : lim E (.blk i :: k) s = lim E k s := lim_step ..
theorem q_loop (c : Code) : lim E (.code (.loop c) :: k) s = lim E (.lp c :: k) s := lim_step ..
theorem q_ret : lim E (.code .ret :: k) s = lim E [] s := lim_step ..
noncomputable def endL : Option (V × St) → Option (V × List (Nat → Option Ob))
  | some (v, s) => some (v, s.o)
  | none => none
theorem endL_some (v : V) : endL (some (v, s)) = some (v, s.o) := rfl
theorem q_nil : lim E [] s = endL (endV E.P s) := by
  rw [lim_step]
  show Out.lim E (match endV E.P s with | some (v, s1) => .done v s1.o | none => .fail) = _
  cases endV E.P s <;> rfl
theorem q_ops0 : lim E (.ops [] all :: k) s = lim E k s := lim_step ..
noncomputable def exitL (E : Env) (s : St) : Option (List It) → Option (V × List (Nat → Option Ob))
  | some k => lim E k s
  | none => none
theorem exitL_some (k : List It) : exitL E s (some k) = lim E k s := rfl
theorem q_exit (i : Nat) : lim E (.code (.exit i) :: k) s = exitL E s (outOf i k) := by
  rw [lim_step]
  show Out.lim E (match outOf i k with | some k' => .go k' s | none => .fail) = _
  cases outOf i k <;> rfl
theorem out_code (i : Nat) (c : Code) : outOf i (.code c :: k) = outOf i k := rfl
theorem out_ops (i : Nat) : outOf i (.ops l all :: k) = outOf i k := rfl
theorem out_lp (i : Nat) (c : Code) : outOf i (.lp c :: k) = outOf i k := rfl
theorem out_blk (i j : Nat) : outOf i (.blk j :: k) = if j = i then some k else outOf i k := rfl
noncomputable def condL (E : Env) (a c : List It) (s : St) : V → Option (V × List (Nat → Option Ob))
  | .bool v => if v = true then lim E a s else lim E c s
  | _ => none
theorem condL_b (a c : List It) (v : Bool) : condL E a c s (.bool v) = if v = true then lim E a s else lim E c s := rfl
theorem q_cond (x : Operand) (c d : Code) : lim E (.code (.cond x c d) :: k) s = condL E (.code c :: k) (.code d :: k) s (s.see E.P 0 x) := by
  rw [lim_step]
  show Out.lim E (match s.see E.P 0 x with | .bool v => if v then .go (.code c :: k) s else .go (.code d :: k) s | _ => .fail) = _
  cases s.see E.P 0 x <;> try rfl
  rename_i v; cases v <;> rfl
noncomputable def lpL (E : Env) (c : Code) (k : List It) : Option St → Option (V × List (Nat → Option Ob))
  | some s => iter E c k s
  | none => none
theorem lpL_some (c : Code) : lpL E c k (some s) = iter E c k s := rfl
theorem q_lp (c : Code) : lim E (.lp c :: k) s = lpL E c k (canon s (hintAt (E.H s.f) k)) := by
  rw [lim_step]
  show Out.lim E (match canon s (hintAt (E.H s.f) k) with | some s' => .go (.code c :: .lp c :: k) s' | none => .fail) = _
  cases canon s (hintAt (E.H s.f) k) <;> rfl
/-- what an operation leaves -/
noncomputable def opL (E : Env) (k : List It) : Option St → Option (V × List (Nat → Option Ob))
  | some s => lim E k s
  | none => none
theorem opL_some : opL E k (some s) = lim E k s := rfl
theorem opL_none : opL E k none = none := rfl
theorem opL_ite {p : Prop} [Decidable p] (x y : Option St) : opL E k (if p then x else y) = if p then opL E k x else opL E k y := by split <;> rfl
noncomputable def guardL (E : Env) (o : Oper) (l : List Oper) (all : Array Oper) (k : List It) (s : St) (want : Bool) : Option V → Option (V × List (Nat → Option Ob))
  | some (.bool v) => if v = want then lim E (.ops (o :: l) all :: k) s else lim E (.ops l all :: k) (s.putO o.dst (.tup []))
  | some (.tup []) => lim E (.ops l all :: k) (s.putO o.dst (.tup []))
  | _ => none
theorem guardL_b (o : Oper) (want v : Bool) : guardL E o l all k s want (some (.bool v)) = if v = want then lim E (.ops (o :: l) all :: k) s else lim E (.ops l all :: k) (s.putO o.dst (.tup [])) := rfl
theorem guardL_u (o : Oper) (want : Bool) : guardL E o l all k s want (some (.tup [])) = lim E (.ops l all :: k) (s.putO o.dst (.tup [])) := rfl
def gOf (all : Array Oper) (t : Nat → V) (j : Nat) : Option V := ((all[j]?).bind (·.dst)).map t
theorem gOf_eq (os : List Oper) (t : Nat → V) (j : Nat) : gOf os.toArray t j = ((os[j]?).bind (·.dst)).map t := by simp [gOf]
theorem lim_op (o : Oper) (hg : o.guard = none) (h : ∀ f a b, o.op ≠ .call { callee := .value f, args := a, argTypes := b }) :
    lim E (.ops (o :: l) all :: k) s = opL E (.ops l all :: k) (evOp E.P (E.H s.f) o s) := by
  rw [lim_step]
  have : stepI E (.ops (o :: l) all :: k) s = (match evOp E.P (E.H s.f) o s with
        | some s' => .go (.ops l all :: k) s'
        | none => .fail) := by
    unfold stepI
    dsimp only
    rw [hg]
    dsimp only
    split
    · rename_i e; exact absurd e (h _ _ _)
    · rfl
  rw [this]
  cases evOp E.P (E.H s.f) o s <;> rfl
theorem q_guard (d : Option Tmp) (op : Op) (ty : TypeId) (pos : String) (aft : Array Edge) (j : Nat) (want : Bool) :
    lim E (.ops ({ dst := d, op := op, type := ty, pos := pos, after := aft, guard := some (j, want) } :: l) all :: k) s =
      guardL E { dst := d, op := op, type := ty, pos := pos, after := aft, guard := none } l all k s want (gOf all s.t j) := by
  rw [lim_step]
  have hrun : lim E (.ops ({ dst := d, op := op, type := ty, pos := pos, after := aft, guard := none } :: l) all :: k) s =
      Out.lim E (stepI E (.ops ({ dst := d, op := op, type := ty, pos := pos, after := aft, guard := none } :: l) all :: k) s) := lim_step ..
  have : stepI E (.ops ({ dst := d, op := op, type := ty, pos := pos, after := aft, guard := some (j, want) } :: l) all :: k) s =
      (match gOf all s.t j with
        | some (.bool b) => if b = want then stepI E (.ops ({ dst := d, op := op, type := ty, pos := pos, after := aft, guard := none } :: l) all :: k) s else .go (.ops l all :: k) (s.putO d (.tup []))
        | some (.tup []) => .go (.ops l all :: k) (s.putO d (.tup []))
        | _ => .fail) := rfl
  rw [this]
  unfold guardL
  split
  · split
    · rw [hrun]
    · rfl
  · rfl
  · rfl

def faddr (c : Nat) : V → Option V
  | .ptr lv u off => some (.ptr lv u (off + c))
  | .imp l => some (.imp (l.drop c))
  | _ => none
theorem faddr_p (c lv u off : Nat) : faddr c (.ptr lv u off) = some (.ptr lv u (off + c)) := rfl
theorem faddr_i (c : Nat) (l : List V) : faddr c (.imp l) = some (.imp (l.drop c)) := rfl
def fget (c n : Nat) (ag : Bool) : V → Option V
  | .agg l => if c + n ≤ l.length ∧ n ≠ 0 then some (pack ag ((l.drop c).take n)) else none
  | _ => none
theorem fget_a (c n : Nat) (ag : Bool) (l : List V) : fget c n ag (.agg l) = if c + n ≤ l.length ∧ n ≠ 0 then some (pack ag ((l.drop c).take n)) else none := rfl

/-- a struct's fields: type, place, cells -/
def layOf (P : Program) (t : TypeId) : Option (List (TypeId × Nat × Nat)) := match P.underlying t with
  | some (.struct fs) => if fs.toList.all (fun f => szOf P f.type != 0) then some (fs.toList.map fun f => (f.type, f.offset, szOf P f.type)) else none
  | _ => none
def buildL (P : Program) (L : List (TypeId × Nat × Nat)) : St → List V → List (Nat × Operand) → Option (List V × St)
  | s, cs, [] => some (cs, s)
  | s, cs, (i, x) :: ps => match L[i]? with
    | some (ft, off, sz) => if (s.all P ft x).flat.length = sz ∧ off + (s.all P ft x).flat.length ≤ cs.length then (match s.all P ft x with
        | .tup _ | .undef => none
        | _ => buildL P L (s.drop x) (setL cs off (s.all P ft x).flat) ps) else none
    | none => none
def aggO : Option (List V × St) → Option (V × St)
  | some r => some (.agg r.1, r.2)
  | none => none
theorem aggO_s (l : List V) (s : St) : aggO (some (l, s)) = some (.agg l, s) := rfl
theorem aggO_n : aggO none = none := rfl
theorem buildF_L {P : Program} {fs : Array Field} : ∀ (ps : List (Nat × Operand)) (s : St) (cs : List V), buildF P fs s cs ps = buildL P (fs.toList.map fun f => (f.type, f.offset, szOf P f.type)) s cs ps := by
  intro ps
  induction ps with
  | nil => intro s cs; rfl
  | cons p ps ih =>
    intro s cs
    obtain ⟨i, x⟩ := p
    unfold buildF buildL
    rw [List.getElem?_map, Array.getElem?_toList]
    cases fs[i]? with
    | none => rfl
    | some f =>
      dsimp only [Option.map_some]
      split
      · split
        · rename_i h; rw [h]
        · rename_i h; rw [h]
        · rename_i h1 h2
          rw [ih]
          split
          · rename_i h; exact absurd h (h1 _)
          · rename_i h; exact absurd h h2
          · rfl
      · rfl
theorem build_lay {P : Program} {H : Hint} {d : Nat} {ty t : TypeId} {ps : Array (Nat × Operand)} {s : St} {L : List (TypeId × Nat × Nat)} {z : List V} (h : layOf P t = some L) (hz : zero P t = some z) : evV P H d ty (.build t ps) s = aggO (buildL P L s z ps.toList) := by
  unfold layOf at h
  unfold evV
  dsimp only
  split at h
  · rename_i fs hu
    rw [hu, hz]
    dsimp only
    split at h
    · rename_i hc
      obtain rfl := Option.some.inj h
      rw [if_pos hc, buildF_L]
      cases buildL P (fs.toList.map fun f => (f.type, f.offset, szOf P f.type)) s z ps.toList <;> rfl
    · cases h
  · cases h

/-! one operation each -/
section ops
variable {d : Nat} {ty : TypeId} {pos : String} {aft : Array Edge}
/-- a value is put down -/
noncomputable def putL (E : Env) (d : Nat) (k : List It) : Option (V × St) → Option (V × List (Nat → Option Ob))
  | some (v, s) => lim E k (s.put d v)
  | none => none
theorem putL_some (v : V) : putL E d k (some (v, s)) = lim E k (s.put d v) := rfl
theorem putL_ite {p : Prop} [Decidable p] (x y : Option (V × St)) : putL E d k (if p then x else y) = if p then putL E d k x else putL E d k y := by split <;> rfl
theorem putL_none : putL E d k none = none := rfl
theorem lim_put (op : Op) (h : ∀ f a b, op ≠ .call { callee := .value f, args := a, argTypes := b }) :
    lim E (.ops ({ dst := some d, op := op, type := ty, pos := pos, after := aft, guard := none } :: l) all :: k) s = if d < s.n then putL E d (.ops l all :: k) (evV E.P (E.H s.f) d ty op s) else none := by
  rw [lim_op _ rfl h]
  show opL E _ (if d < s.n then (evV E.P (E.H s.f) d ty op s).map fun r => r.2.put d r.1 else none) = _
  split
  · cases evV E.P (E.H s.f) d ty op s <;> rfl
  · rfl
/-- a call -/
noncomputable def bindL (E : Env) (k : List It) (s : St) (plain : Bool × Bool) (d : Option Nat) : Option (V × List (Nat → Option Ob)) → Option (V × List (Nat → Option Ob))
  | some r => lim E k (backS s plain d r.1 r.2)
  | none => none
theorem bindL_some (plain : Bool × Bool) (d : Option Nat) (v : V) (o : List (Nat → Option Ob)) : bindL E k s plain d (some (v, o)) = lim E k (backS s plain d v o) := rfl
theorem backS_plain (u : Bool) (d : Nat) (v : V) (o : List (Nat → Option Ob)) : backS s (true, u) (some d) v o = s.put d (setl u v) := rfl
theorem backS_deep (u : Bool) (d : Nat) (v : V) (b : Nat → Option Ob) (o : List (Nat → Option Ob)) : backS s (false, u) (some d) v (b :: o) = { s.put d (setl u v) with b := b, o := o } := rfl
theorem setl_f (v : V) : setl false v = v := rfl
theorem setl_t (v : V) : setl true v = v.settle := rfl
noncomputable def orcL (E : Env) (g : Nat) (vs : List V) (k : List It) (s : St) (d : Option Nat) : Option V → Option (V × List (Nat → Option Ob))
  | some v => lim E k (s.putO d v)
  | none => bindL E k s (true, setF E g d s) d (run E g vs [])
theorem orcL_none (g : Nat) (vs : List V) (d : Option Nat) : orcL E g vs k s d none = bindL E k s (true, setF E g d s) d (run E g vs []) := rfl
theorem orcL_some (g : Nat) (vs : List V) (d : Option Nat) (v : V) : orcL E g vs k s d (some v) = lim E k (s.putO d v) := rfl
noncomputable def callF (E : Env) (d : Option Nat) (k : List It) : V → Option (List V × St) → Option (V × List (Nat → Option Ob))
  | .fn g caps, some (vs, s1) => if ((vs ++ caps).any isRef || !caps.isEmpty) = true then bindL E k s1 (false, setF E g d s1) d (run E g (vs ++ caps) (s1.b :: s1.o)) else orcL E g (vs ++ caps) k s1 d (E.orc g (vs ++ caps))
  | _, _ => none
theorem callF_some (g : Nat) (caps vs : List V) (d : Option Nat) : callF E d k (.fn g caps) (some (vs, s)) = if ((vs ++ caps).any isRef || !caps.isEmpty) = true then bindL E k s (false, setF E g d s) d (run E g (vs ++ caps) (s.b :: s.o)) else orcL E g (vs ++ caps) k s d (E.orc g (vs ++ caps)) := rfl
theorem q_call {f : Operand} {args : Array Operand} {tys : Array TypeId} :
    lim E (.ops ({ dst := some d, op := .call { callee := .value f, args := args, argTypes := tys }, type := ty, pos := pos, after := aft, guard := none } :: l) all :: k) s =
      if args.size = tys.size ∧ d < s.n then callF E (some d) (.ops l all :: k) (s.see E.P 0 f) (s.args E.P (tys.toList.zip args.toList)) else none := by
  rw [lim_step]
  show Out.lim E (callOp E (some d) f args tys (.ops l all :: k) s) = _
  unfold callOp
  have hd : (args.size = tys.size ∧ Option.all (fun d => decide (d < s.n)) (some d) = true) ↔ (args.size = tys.size ∧ d < s.n) := by simp
  by_cases hc : args.size = tys.size ∧ d < s.n
  · rw [if_pos hc]
    cases s.see E.P 0 f with
    | fn g caps =>
      cases s.args E.P (tys.toList.zip args.toList) with
      | none => rfl
      | some r =>
        obtain ⟨vs, s1⟩ := r
        dsimp only
        rw [if_pos (hd.2 hc)]
        show _ = if ((vs ++ caps).any isRef || !caps.isEmpty) = true then bindL E _ s1 (false, setF E g (some d) s1) (some d) (run E g (vs ++ caps) (s1.b :: s1.o)) else orcL E g (vs ++ caps) _ s1 (some d) (E.orc g (vs ++ caps))
        split
        · show Option.bind _ _ = _
          cases run E g (vs ++ caps) (s1.b :: s1.o) <;> rfl
        · cases E.orc g (vs ++ caps) with
          | some v => rfl
          | none =>
            show Option.bind _ _ = bindL E _ s1 (true, setF E g (some d) s1) (some d) (run E g (vs ++ caps) [])
            cases run E g (vs ++ caps) [] <;> rfl
    | _ => rfl
  · rw [if_neg hc]
    cases s.see E.P 0 f with
    | fn g caps =>
      cases s.args E.P (tys.toList.zip args.toList) with
      | none => rfl
      | some r => obtain ⟨vs, s1⟩ := r; dsimp only; rw [if_neg fun h => hc (hd.1 h)]; rfl
    | _ => rfl
theorem p_move (x : Operand) : lim E (.ops ({ dst := some d, op := .move x, type := ty, pos := pos, after := aft, guard := none } :: l) all :: k) s = if d < s.n then putL E d (.ops l all :: k) (evV E.P (E.H s.f) d ty (.move x) s) else none := lim_put _ (by intro _ _ _ h; cases h)
theorem p_assign (x : Operand) : lim E (.ops ({ dst := some d, op := .assign x, type := ty, pos := pos, after := aft, guard := none } :: l) all :: k) s = if d < s.n then putL E d (.ops l all :: k) (evV E.P (E.H s.f) d ty (.assign x) s) else none := lim_put _ (by intro _ _ _ h; cases h)
theorem p_pick (x y z : Operand) : lim E (.ops ({ dst := some d, op := .pick x y z, type := ty, pos := pos, after := aft, guard := none } :: l) all :: k) s = if d < s.n then putL E d (.ops l all :: k) (evV E.P (E.H s.f) d ty (.pick x y z) s) else none := lim_put _ (by intro _ _ _ h; cases h)
theorem p_alloc (t : TypeId) : lim E (.ops ({ dst := some d, op := .alloc t, type := ty, pos := pos, after := aft, guard := none } :: l) all :: k) s = if d < s.n then putL E d (.ops l all :: k) (evV E.P (E.H s.f) d ty (.alloc t) s) else none := lim_put _ (by intro _ _ _ h; cases h)
theorem p_box (t : TypeId) (x : Operand) : lim E (.ops ({ dst := some d, op := .box t x, type := ty, pos := pos, after := aft, guard := none } :: l) all :: k) s = if d < s.n then putL E d (.ops l all :: k) (evV E.P (E.H s.f) d ty (.box t x) s) else none := lim_put _ (by intro _ _ _ h; cases h)
theorem p_build (t : TypeId) (ps : Array (Nat × Operand)) : lim E (.ops ({ dst := some d, op := .build t ps, type := ty, pos := pos, after := aft, guard := none } :: l) all :: k) s = if d < s.n then putL E d (.ops l all :: k) (evV E.P (E.H s.f) d ty (.build t ps) s) else none := lim_put _ (by intro _ _ _ h; cases h)
theorem p_buildSlice (t : TypeId) (n : Nat) (ps : Array (Nat × Operand)) : lim E (.ops ({ dst := some d, op := .buildSlice t n ps, type := ty, pos := pos, after := aft, guard := none } :: l) all :: k) s = if d < s.n then putL E d (.ops l all :: k) (evV E.P (E.H s.f) d ty (.buildSlice t n ps) s) else none := lim_put _ (by intro _ _ _ h; cases h)
theorem p_load (t : TypeId) (x : Operand) : lim E (.ops ({ dst := some d, op := .load t x, type := ty, pos := pos, after := aft, guard := none } :: l) all :: k) s = if d < s.n then putL E d (.ops l all :: k) (evV E.P (E.H s.f) d ty (.load t x) s) else none := lim_put _ (by intro _ _ _ h; cases h)
theorem p_nilCheck (x : Operand) : lim E (.ops ({ dst := some d, op := .nilCheck x, type := ty, pos := pos, after := aft, guard := none } :: l) all :: k) s = if d < s.n then putL E d (.ops l all :: k) (evV E.P (E.H s.f) d ty (.nilCheck x) s) else none := lim_put _ (by intro _ _ _ h; cases h)
theorem p_binOp (o : BinOp) (t u : TypeId) (x y : Operand) : lim E (.ops ({ dst := some d, op := .binOp o t x y u, type := ty, pos := pos, after := aft, guard := none } :: l) all :: k) s = if d < s.n then putL E d (.ops l all :: k) (evV E.P (E.H s.f) d ty (.binOp o t x y u) s) else none := lim_put _ (by intro _ _ _ h; cases h)
theorem p_unOp (o : UnOp) (t : TypeId) (x : Operand) : lim E (.ops ({ dst := some d, op := .unOp o t x, type := ty, pos := pos, after := aft, guard := none } :: l) all :: k) s = if d < s.n then putL E d (.ops l all :: k) (evV E.P (E.H s.f) d ty (.unOp o t x) s) else none := lim_put _ (by intro _ _ _ h; cases h)
theorem p_convert (t u : TypeId) (x : Operand) : lim E (.ops ({ dst := some d, op := .convert t u x, type := ty, pos := pos, after := aft, guard := none } :: l) all :: k) s = if d < s.n then putL E d (.ops l all :: k) (evV E.P (E.H s.f) d ty (.convert t u x) s) else none := lim_put _ (by intro _ _ _ h; cases h)
theorem p_makeFunc (f : Fn) (a c : Array Operand) : lim E (.ops ({ dst := some d, op := .makeFunc f a c, type := ty, pos := pos, after := aft, guard := none } :: l) all :: k) s = if d < s.n then putL E d (.ops l all :: k) (evV E.P (E.H s.f) d ty (.makeFunc f a c) s) else none := lim_put _ (by intro _ _ _ h; cases h)
theorem p_makeMap (t : TypeId) (r : Option Operand) : lim E (.ops ({ dst := some d, op := .makeMap t r, type := ty, pos := pos, after := aft, guard := none } :: l) all :: k) s = if d < s.n then putL E d (.ops l all :: k) (evV E.P (E.H s.f) d ty (.makeMap t r) s) else none := lim_put _ (by intro _ _ _ h; cases h)
theorem p_makeSlice (t : TypeId) (x y : Operand) : lim E (.ops ({ dst := some d, op := .makeSlice t x y, type := ty, pos := pos, after := aft, guard := none } :: l) all :: k) s = if d < s.n then putL E d (.ops l all :: k) (evV E.P (E.H s.f) d ty (.makeSlice t x y) s) else none := lim_put _ (by intro _ _ _ h; cases h)
theorem p_slice (t : TypeId) (x : Operand) (a c m : Option Operand) : lim E (.ops ({ dst := some d, op := .slice t x a c m, type := ty, pos := pos, after := aft, guard := none } :: l) all :: k) s = if d < s.n then putL E d (.ops l all :: k) (evV E.P (E.H s.f) d ty (.slice t x a c m) s) else none := lim_put _ (by intro _ _ _ h; cases h)
theorem p_fieldAddr (t : TypeId) (x : Operand) (f : Nat) : lim E (.ops ({ dst := some d, op := .fieldAddr t x f, type := ty, pos := pos, after := aft, guard := none } :: l) all :: k) s = if d < s.n then putL E d (.ops l all :: k) (evV E.P (E.H s.f) d ty (.fieldAddr t x f) s) else none := lim_put _ (by intro _ _ _ h; cases h)
theorem p_field (t : TypeId) (x : Operand) (f : Nat) : lim E (.ops ({ dst := some d, op := .field t x f, type := ty, pos := pos, after := aft, guard := none } :: l) all :: k) s = if d < s.n then putL E d (.ops l all :: k) (evV E.P (E.H s.f) d ty (.field t x f) s) else none := lim_put _ (by intro _ _ _ h; cases h)
theorem p_indexAddr (t : TypeId) (x i : Operand) : lim E (.ops ({ dst := some d, op := .indexAddr t x i, type := ty, pos := pos, after := aft, guard := none } :: l) all :: k) s = if d < s.n then putL E d (.ops l all :: k) (evV E.P (E.H s.f) d ty (.indexAddr t x i) s) else none := lim_put _ (by intro _ _ _ h; cases h)
theorem p_index (t : TypeId) (x i : Operand) : lim E (.ops ({ dst := some d, op := .index t x i, type := ty, pos := pos, after := aft, guard := none } :: l) all :: k) s = if d < s.n then putL E d (.ops l all :: k) (evV E.P (E.H s.f) d ty (.index t x i) s) else none := lim_put _ (by intro _ _ _ h; cases h)
theorem p_lookup (t : TypeId) (x i : Operand) (o : Bool) : lim E (.ops ({ dst := some d, op := .lookup t x i o, type := ty, pos := pos, after := aft, guard := none } :: l) all :: k) s = if d < s.n then putL E d (.ops l all :: k) (evV E.P (E.H s.f) d ty (.lookup t x i o) s) else none := lim_put _ (by intro _ _ _ h; cases h)
theorem p_extract (x : Operand) (i : Nat) : lim E (.ops ({ dst := some d, op := .extract x i, type := ty, pos := pos, after := aft, guard := none } :: l) all :: k) s = if d < s.n then putL E d (.ops l all :: k) (evV E.P (E.H s.f) d ty (.extract x i) s) else none := lim_put _ (by intro _ _ _ h; cases h)
theorem p_builtin (b : Builtin) (a : Array Operand) (c : Array TypeId) : lim E (.ops ({ dst := some d, op := .call { callee := .builtin b, args := a, argTypes := c }, type := ty, pos := pos, after := aft, guard := none } :: l) all :: k) s = if d < s.n then putL E d (.ops l all :: k) (evV E.P (E.H s.f) d ty (.call { callee := .builtin b, args := a, argTypes := c }) s) else none := lim_put _ (by intro _ _ _ h; cases h)
theorem p_none (op : Op) (h : ∀ f a b, op ≠ .call { callee := .value f, args := a, argTypes := b }) : lim E (.ops ({ dst := none, op := op, type := ty, pos := pos, after := aft, guard := none } :: l) all :: k) s = opL E (.ops l all :: k) (evU E.P (E.H s.f) op s) := lim_op _ rfl h
/-- a function's start -/
theorem run_eq (E : Env) (f : Nat) (args : List V) (outer : List (Nat → Option Ob)) {fn : Func} {c : Code} (hf : E.P.funcs[f]? = some fn) (hn : (fn.name == "runtime.NumGoroutine") = false) (hb : fn.body = some c) (hl : args.length ≤ fn.ntmps) : run E f args outer = lim E [.code c] { t := argT 0 args, b := n0, o := outer, r := fn.results, f := f, n := fn.ntmps } := by
  unfold run startS
  rw [hf]
  simp only [hl, hn, hb, and_self, if_true, Option.map_some]
/-- a loop's rounds -/
theorem iter_rule {σ : Type} {E : Env} {c : Code} {k : List It} (S : σ → St) (R : σ → Option (V × List (Nat → Option Ob))) (μ : σ → Nat) (h : ∀ x, (∀ y, μ y < μ x → iter E c k (S y) = R y) → lim E (.code c :: .lp c :: k) (S x) = R x) (x : σ) : iter E c k (S x) = R x := by
  suffices ∀ n x, μ x ≤ n → iter E c k (S x) = R x from this _ x (Nat.le_refl _)
  intro n
  induction n with
  | zero => intro x hx; exact h x fun y hy => absurd hy (by omega)
  | succ n ih => intro x hx; exact h x fun y hy => ih y (by omega)
theorem map_ite {α β : Type} {p : Prop} [Decidable p] (f : α → β) (x y : Option α) : Option.map f (if p then x else y) = if p then Option.map f x else Option.map f y := by split <;> rfl
theorem nat_nonneg (n : Nat) : (0 ≤ (n : Int)) = True := by simp
end ops
attribute [go_sem] map_ite nat_nonneg  q_skip q_seq q_region q_block q_blk q_loop q_ret q_nil q_ops0 q_exit q_cond q_lp q_guard q_call putL_some putL_ite putL_none evV.eq_def endL_some exitL_some lpL_some opL_some opL_none opL_ite guardL_u callF_some orcL_none orcL_some bindL_some backS_plain backS_deep setl_f setl_t setF V.settle V.setC V.outC isNilc nilCmp isTmpIn uMake uMakes uStoreM resC resCs resW appendU out_code out_ops out_lp out_blk memN St.put St.putO St.see St.all St.drop upd_get e0_get n0_get rd cst V.view V.viewC argT St.args St.arg St.tree St.frz tree pureC isRef binV arith lenV isStr isSl vIndex optInt unV canon keepT keepB canonV hintAt endV resV gOf_eq List.find? List.zip List.zipWith List.map List.any List.all List.append_nil List.cons_append List.nil_append List.isEmpty_nil Bool.or_false Bool.not_true Bool.false_eq_true if_false if_true Nat.reduceEqDiff Nat.reduceLT ne_eq reduceCtorEq not_false_eq_true implies_true beq_self_eq_true Option.map_some Option.map_none Option.getD_some and_self true_and and_true Option.bind_some Nat.reduceBEq Nat.reduceLeDiff List.length_cons List.length_nil Nat.zero_add Nat.reduceAdd List.size_toArray decide_eq_true_eq p_move p_assign p_pick p_alloc p_box p_build p_buildSlice p_load p_nilCheck p_binOp p_unOp p_convert p_makeFunc p_makeMap p_makeSlice p_slice p_fieldAddr p_field p_indexAddr p_index p_lookup p_extract p_builtin p_none Option.map_none mapOpt
end Go.Ev
namespace Go.Ev
open Go Go.RowKit
set_option linter.unusedVariables false

mutual
def szT : V → Nat
  | .str s => s.size
  | .slc _ _ l => l.length + szL l
  | .agg l => szL l
  | _ => 0
def szL : List V → Nat
  | [] => 0
  | a :: l => szT a + szL l
end
mutual
def okV : V → Prop
  | .str s => s.size ≤ 9223372036854775807
  | .int k n => (Lit.int k n).wf = true
  | .slc _ _ l => l.length ≤ 9223372036854775807 ∧ okL l
  | .agg l => okL l
  | _ => True
def okL : List V → Prop
  | [] => True
  | a :: l => okV a ∧ okL l
end
def isData : V → Bool
  | .bool _ | .int .. | .str _ | .slc .. | .agg _ => true
  | _ => false
mutual
def veq : V → V → Bool
  | .bool a, .bool b => a == b
  | .int _ a, .int _ b => a == b
  | .str a, .str b => a.toList == b.toList
  | .slc _ _ l, .slc _ _ m => veqs l m
  | .agg l, .agg m => veqs l m
  | a, b => !isData a && !isData b
def veqs : List V → List V → Bool
  | [], [] => true
  | a :: l, b :: m => veq a b && veqs l m
  | _, _ => false
end
mutual
theorem veq_refl : ∀ v : V, veq v v = true
  | .bool a => by simp only [veq, beq_self_eq_true]
  | .int k a => by simp only [veq, beq_self_eq_true]
  | .str s => by simp only [veq, beq_self_eq_true]
  | .slc o z l => by simp only [veq]; exact veqs_refl l
  | .uq a b => by simp [veq, isData]
  | .agg l => by simp only [veq]; exact veqs_refl l
  | .undef => by simp [veq, isData]
  | .tup l => by simp [veq, isData]
  | .ptr a b c => by simp [veq, isData]
  | .imp l => by simp [veq, isData]
  | .eptr a b c d => by simp [veq, isData]
  | .aref a b c => by simp [veq, isData]
  | .mp a b => by simp [veq, isData]
  | .fn a b => by simp [veq, isData]
  | .nilp => by simp [veq, isData]
  | .nilfn => by simp [veq, isData]
theorem veqs_refl : ∀ l : List V, veqs l l = true
  | [] => by simp only [veqs]
  | a :: l => by simp only [veqs, veq_refl a, veqs_refl l, Bool.and_self]
end
theorem okL_mem {l : List V} (h : okL l) : ∀ x ∈ l, okV x := by
  induction l with
  | nil => intro x hx; cases hx
  | cons a l ih =>
    intro x hx
    rcases List.mem_cons.1 hx with rfl | hx
    · exact h.1
    · exact ih h.2 x hx
theorem okL_map {α : Type} {f : α → V} {l : List α} (h : okL (l.map f)) {a : α} (ha : a ∈ l) : okV (f a) := okL_mem h _ (List.mem_map_of_mem ha)
theorem veqs_len : ∀ {l m : List V}, veqs l m = true → l.length = m.length := by
  intro l
  induction l with
  | nil => intro m h; cases m with | nil => rfl | cons => cases h
  | cons a l ih =>
    intro m h
    cases m with
    | nil => cases h
    | cons b m =>
      simp only [veqs, Bool.and_eq_true] at h
      simp [ih h.2]
theorem veqs_ne {l m : List V} (h : l.length ≠ m.length) : veqs l m = false := by
  cases e : veqs l m with
  | false => rfl
  | true => exact absurd (veqs_len e) h
/-- what is left behind a value's size -/
def leftOf (n : Nat) (left : Int) : Int := if (n : Int) ≤ left then left - n else -1
def szR (v : V) (left : Int) : Int := leftOf (szT v) left
def szRL (l : List V) (left : Int) : Int := leftOf (szL l) left
theorem leftOf_pos {n : Nat} {left : Int} (h : (n : Int) ≤ left) : leftOf n left = left - n := if_pos h
theorem leftOf_neg {n : Nat} {left : Int} (h : ¬ (n : Int) ≤ left) : leftOf n left = -1 := if_neg h
/-- something is left -/
theorem leftOf_ge {n : Nat} {left : Int} (h : ¬ leftOf n left < 0) : leftOf n left = left - n ∧ (n : Int) ≤ left := by
  by_cases k : (n : Int) ≤ left
  · exact ⟨if_pos k, k⟩
  · rw [leftOf_neg k] at h; exact absurd (by decide) h
theorem leftOf_lt {n : Nat} {left : Int} (h0 : 0 ≤ left) (h : leftOf n left < 0) : leftOf n left = -1 ∧ left < n := by
  by_cases k : (n : Int) ≤ left
  · rw [leftOf_pos k] at h; omega
  · exact ⟨leftOf_neg k, by omega⟩
def I (n : Int) : V := .int .i64 n
def B (b : Bool) : V := .bool b
def Sv (s : ByteArray) : V := .str s
def IL (l : List Int) : V := .slc false 1 (l.map I)
/-- the first place of a byte -/
def idxB (s : ByteArray) (c : Int) : Int := Go.Lib.indexByte s.data.toList c.toNat.toUInt8
def idxO : List V → Option V
  | [.str s, .int .u8 c] => some (.int .i64 (idxB s c))
  | _ => none

theorem wrap_in {n : Int} (h : -9223372036854775808 ≤ n) (h' : n ≤ 9223372036854775807) : IntKind.i64.wrap n = n := IntWalk.i64_in n ⟨h, h'⟩
theorem wrap_nat {n : Nat} (h : n < 9223372036854775807) : IntKind.i64.wrap ((n : Int) + 1) = ((n + 1 : Nat) : Int) := by
  rw [wrap_in (by omega) (by omega)]; rfl

theorem wrap_0 : IntKind.i64.wrap 0 = 0 := by decide
theorem wrap_1 : IntKind.i64.wrap 1 = 1 := by decide
theorem wrap_lit (n : Nat) (h : n ≤ 9223372036854775807) : IntKind.i64.wrap (no_index (OfNat.ofNat n) : Int) = (OfNat.ofNat n : Int) := by
  show IntKind.i64.wrap (n : Int) = (n : Int)
  exact wrap_in (by omega) (by omega)
theorem iter_eq {E : Env} {c : Code} {k : List It} {s : St} : iter E c k s = lim E (.code c :: .lp c :: k) s := rfl
theorem arr_empty {α : Type} : (#[] : Array α).isEmpty = true := rfl
theorem b_ft : (false == true) = false := rfl
theorem b_tf : (true == false) = false := rfl
/-- a loop's rounds, under a condition that stays -/
theorem iter_inv {σ : Type} {E : Env} {c : Code} {k : List It} (I : σ → Prop) (S : σ → St) (R : σ → Option (V × List (Nat → Option Ob))) (μ : σ → Nat) (h : ∀ x, I x → (∀ y, I y → μ y < μ x → iter E c k (S y) = R y) → lim E (.code c :: .lp c :: k) (S x) = R x) (x : σ) (hx : I x) : iter E c k (S x) = R x := by
  suffices ∀ n x, I x → μ x ≤ n → iter E c k (S x) = R x from this _ x hx (Nat.le_refl _)
  intro n
  induction n with
  | zero => intro x hI hx; exact h x hI fun y hy hlt => absurd hlt (by omega)
  | succ n ih => intro x hI hx; exact h x hI fun y hy hlt => ih y hy (by omega)

theorem getD_map {α : Type} {f : α → V} {l : List α} {i : Nat} (h : i < l.length) (d : V) : (l.map f).getD i d = f l[i] := by
  simp [List.getD_eq_getElem?_getD, List.getElem?_eq_getElem h]
theorem toNat_cast (n : Nat) : (n : Int).toNat = n := Int.toNat_natCast n

theorem len_map_lt {α : Type} {f : α → V} {l : List α} : (l.map f).length = l.length := List.length_map ..
/-- an array, filled up to i -/
def fill {α : Type} (f : α → V) (l : List α) (d : V) (i : Nat) : List V := (l.take i).map f ++ List.replicate (l.length - i) d
theorem fill_zero {α : Type} (f : α → V) (l : List α) (d : V) : fill f l d 0 = List.replicate l.length d := rfl
theorem fill_len {α : Type} (f : α → V) (l : List α) (d : V) {i : Nat} (h : i ≤ l.length) : (fill f l d i).length = l.length := by simp [fill]; omega
theorem fill_all {α : Type} (f : α → V) (l : List α) (d : V) : fill f l d l.length = l.map f := by simp [fill]
theorem fill_set {α : Type} (f : α → V) (l : List α) (d : V) {i : Nat} (h : i < l.length) (v : V) (hv : v = f l[i]) : (fill f l d i).set i v = fill f l d (i + 1) := by
  subst hv
  unfold fill
  have hn : l.length - i = (l.length - (i + 1)) + 1 := by omega
  rw [List.set_append_right _ _ (by simp; omega), hn]
  have : i - ((l.take i).map f).length = 0 := by simp; omega
  rw [this, List.replicate_succ, List.set_cons_zero, ← List.take_append_getElem h, List.map_append, List.append_assoc]
  rfl

/-! a drawn region, one operation after the other -/
noncomputable def drawN (E : Env) (k : List It) (all : Array Oper) (c : List Nat) (s : St) (done : List (Nat × V)) : Option (V × List (Nat → Option Ob)) := drawL E k (drun E (Ev.lim E) all c s done)
noncomputable def drL (E : Env) (k : List It) (all : Array Oper) (c : List Nat) : Option (St × List (Nat × V)) → Option (V × List (Nat → Option Ob))
  | some (s, done) => drawN E k all c s done
  | none => none
section
variable {E : Env} {k : List It} {all : Array Oper} {c : List Nat} {s : St} {done : List (Nat × V)}
theorem d_nil : drawN E k all [] s done = lim E k s := rfl
theorem d_cons (i : Nat) : drawN E k all (i :: c) s done = drL E k all c (dstep E (Ev.lim E) all i s done) := by
  show drawL E k (Option.bind _ _) = _
  cases h : dstep E (Ev.lim E) all i s done with
  | none => rfl
  | some r => rfl
theorem drL_some : drL E k all c (some (s, done)) = drawN E k all c s done := rfl
theorem drL_none : drL E k all c none = none := rfl
theorem drL_ite {p : Prop} [Decidable p] (x y : Option (St × List (Nat × V))) : drL E k all c (if p then x else y) = if p then drL E k all c x else drL E k all c y := by split <;> rfl
theorem q_drawn (i : Nat) {os : Array Oper} (h : drawOk E.P (E.H s.f) os (orderOf (E.H s.f) i os.size) = true) : lim E (.code (.region i os true) :: k) s = drawN E k os (orderOf (E.H s.f) i os.size) s [] := by
  rw [q_draw, if_pos h]
  rfl
end
theorem view_view (v : V) : v.view.view = v.view := by
  cases v <;> try rfl
  rename_i l
  simp only [V.view, List.map_map]
  congr 2
  funext x
  cases x <;> rfl
theorem set_nil (t : Nat → V) (d : Nat) (v : V) : setT t [] (some d) v = upd t d v := by
  funext x
  unfold setT upd
  by_cases h : x = d
  · subst h; simp
  · have : ¬ (d = x) := fun e => h e.symm
    simp [h, this, memN]
theorem set_cons (t : Nat → V) (a d : Nat) (D : List Nat) (v : V) : setT t (a :: D) (some d) v = setT (upd t a (t a).view) D (some d) v := by
  funext x
  unfold setT
  by_cases h : d = x
  · subst h; simp
  · simp only [Option.some.injEq, h, if_false, memN, upd]
    by_cases hx : x = a
    · subst hx
      simp only [if_true, view_view, ite_self]
    · simp only [hx, if_false]
/-- what a call that meets no object answers -/
noncomputable def xcV (E : Env) (g : Nat) (vs : List V) (u : Bool) : Option V → Option V
  | some v => some v
  | none => (run E g vs []).map fun r => setl u r.1
theorem xcV_n (g : Nat) (vs : List V) (u : Bool) {E : Env} : xcV E g vs u none = (run E g vs []).map fun r => setl u r.1 := rfl
theorem xcV_s (g : Nat) (vs : List V) (u : Bool) (v : V) {E : Env} : xcV E g vs u (some v) = some v := rfl
noncomputable def xcL (E : Env) (d : Option Nat) (n : Nat) (sz : Bool) (s0 : St) : V → Option (List V × St) → Option V
  | .fn g [], some (vs, _) => if sz = true ∧ d.all (fun d => decide (d < n)) = true then xcV E g vs (setF E g d s0) (E.orc g vs) else none
  | _, _ => none
theorem xcL_f (g : Nat) (vs : List V) (d : Option Nat) (n : Nat) (sz : Bool) (s s0 : St) {E : Env} : xcL E d n sz s0 (.fn g []) (some (vs, s)) = if sz = true ∧ d.all (fun d => decide (d < n)) = true then xcV E g vs (setF E g d s0) (E.orc g vs) else none := rfl
theorem x_call {E : Env} {s : St} {d : Option Nat} {f : Operand} {args : Array Operand} {tys : Array TypeId} {ty : TypeId} {pos : String} {aft : Array Edge} {g : Option (Nat × Bool)} :
    xval E (Ev.lim E) { dst := d, op := .call { callee := .value f, args := args, argTypes := tys }, type := ty, pos := pos, after := aft, guard := g } s =
      xcL E d s.n (args.size == tys.size) s (s.see E.P 0 f) (s.args E.P (tys.toList.zip args.toList)) := by
  unfold xval
  dsimp only
  cases s.see E.P 0 f with
  | fn g caps =>
    cases caps with
    | nil =>
      cases s.args E.P (tys.toList.zip args.toList) with
      | none => rfl
      | some r =>
        obtain ⟨vs, s1⟩ := r
        show _ = if _ then _ else _
        simp only [beq_iff_eq]
        split
        · unfold xcV run
          cases E.orc g vs with
          | some v => rfl
          | none =>
            dsimp only
            cases startS E g vs [] with
            | none => rfl
            | some x => rfl
        · rfl
    | cons a l => rfl
  | _ => rfl

theorem szL_I (l : List Int) : szL (l.map I) = 0 := by
  induction l with
  | nil => rfl
  | cons a l ih => show szT (I a) + szL (l.map I) = 0; rw [ih]; rfl
theorem szRL_cons (a : V) (l : List V) (left : Int) : szRL (a :: l) left = if szR a left < 0 then -1 else szRL l (szR a left) := by
  have e : szL (a :: l) = szT a + szL l := by simp only [szL]
  unfold szRL szR
  rw [e]
  by_cases h : (szT a : Int) ≤ left
  · rw [leftOf_pos h, if_neg (by omega)]
    by_cases h2 : (szL l : Int) ≤ left - szT a
    · rw [leftOf_pos h2, leftOf_pos (by omega)]; omega
    · rw [leftOf_neg h2, leftOf_neg (by omega)]
  · rw [leftOf_neg h, if_pos (by decide), leftOf_neg (by omega)]
theorem szL_mem {α : Type} {f : α → V} {l : List α} {a : α} (h : a ∈ l) : szT (f a) ≤ szL (l.map f) := by
  induction l with
  | nil => cases h
  | cons b l ih =>
    rw [List.map_cons, szL]
    rcases List.mem_cons.1 h with rfl | h
    · omega
    · have := ih h; omega
theorem veqs_cons (a b : V) (l m : List V) : veqs (a :: l) (b :: m) = (veq a b && veqs l m) := by simp only [veqs]
theorem ok_I (n : Int) (l : List Int) : okL (l.map I) → ∀ x ∈ l, -9223372036854775808 ≤ x ∧ x ≤ 9223372036854775807 := by
  intro h x hx
  have := okL_map h hx
  simp only [I, okV, Lit.wf] at this
  have k : (decide (IntKind.i64.min ≤ x) && decide (x ≤ IntKind.i64.max)) = true := this
  have a : IntKind.i64.min = -9223372036854775808 := by decide
  have b : IntKind.i64.max = 9223372036854775807 := by decide
  rw [a, b] at k
  simpa using k
theorem condL_dec {E : Env} {a c : List It} {s : St} {R : Option (V × List (Nat → Option Ob))} {p : Prop} [Decidable p] (h1 : p → lim E a s = R) (h2 : ¬ p → lim E c s = R) : condL E a c s (.bool (decide p)) = R := by
  rw [condL_b]
  by_cases h : p
  · rw [if_pos (decide_eq_true h)]; exact h1 h
  · rw [if_neg (by simpa using h)]; exact h2 h
theorem condL_bool {E : Env} {a c : List It} {s : St} {R : Option (V × List (Nat → Option Ob))} {v : Bool} (h1 : v = true → lim E a s = R) (h2 : v = false → lim E c s = R) : condL E a c s (.bool v) = R := by
  rw [condL_b]
  cases v
  · exact h2 rfl
  · exact h1 rfl
theorem guardL_bool {E : Env} {o : Oper} {l : List Oper} {all : Array Oper} {k : List It} {s : St} {w v : Bool} {R : Option (V × List (Nat → Option Ob))} (h1 : v = true → guardL E o l all k s w (some (.bool true)) = R) (h2 : v = false → guardL E o l all k s w (some (.bool false)) = R) : guardL E o l all k s w (some (.bool v)) = R := by
  cases v
  · exact h2 rfl
  · exact h1 rfl
theorem condL_t {E : Env} {a c : List It} {s : St} : condL E a c s (.bool true) = lim E a s := rfl
theorem condL_f {E : Env} {a c : List It} {s : St} : condL E a c s (.bool false) = lim E c s := rfl
theorem guardL_tt {E : Env} {o : Oper} {l : List Oper} {all : Array Oper} {k : List It} {s : St} : guardL E o l all k s true (some (.bool true)) = lim E (.ops (o :: l) all :: k) s := rfl
theorem guardL_ff {E : Env} {o : Oper} {l : List Oper} {all : Array Oper} {k : List It} {s : St} : guardL E o l all k s false (some (.bool false)) = lim E (.ops (o :: l) all :: k) s := rfl
theorem guardL_tf {E : Env} {o : Oper} {l : List Oper} {all : Array Oper} {k : List It} {s : St} : guardL E o l all k s true (some (.bool false)) = lim E (.ops l all :: k) (s.putO o.dst (.tup [])) := rfl
theorem guardL_ft {E : Env} {o : Oper} {l : List Oper} {all : Array Oper} {k : List It} {s : St} : guardL E o l all k s false (some (.bool true)) = lim E (.ops l all :: k) (s.putO o.dst (.tup [])) := rfl
attribute [go_sem] arr_empty u8 Option.isSome_some Option.isSome_none Nat.reduceMul Nat.reduceSub List.set_cons_zero List.set_cons_succ List.set_nil Bool.true_or Bool.or_true Bool.false_or List.isEmpty_cons List.headD_cons List.tail_cons heldP Nat.reduceBNe Nat.reduceBEq aggO_s aggO_n buildL b_ft b_tf isMp wrap_0 wrap_1 wrap_lit Int.reduceLT Int.reduceLE Int.reduceAdd Int.reduceSub Int.reduceMul Int.reduceEq Int.reduceBEq Int.reduceBNe strOp convV sliceV appendV min2V max2V vLookup uMap findE putE buildF St.trees inOrder shiftV resT resTs condL_t condL_f guardL_tt guardL_ff guardL_tf guardL_ft V.ite
section
variable {E : Env} {ev : Run} {s : St} {d : Option Nat} {ty : TypeId} {pos : String} {aft : Array Edge} {g : Option (Nat × Bool)}
theorem x_move (x : Operand) : xval E ev { dst := d, op := .move x, type := ty, pos := pos, after := aft, guard := g } s = (evV E.P (E.H s.f) (d.getD 0) ty (.move x) s).map (·.1) := rfl
theorem x_assign (x : Operand) : xval E ev { dst := d, op := .assign x, type := ty, pos := pos, after := aft, guard := g } s = (evV E.P (E.H s.f) (d.getD 0) ty (.assign x) s).map (·.1) := rfl
theorem x_pick (x y z : Operand) : xval E ev { dst := d, op := .pick x y z, type := ty, pos := pos, after := aft, guard := g } s = (evV E.P (E.H s.f) (d.getD 0) ty (.pick x y z) s).map (·.1) := rfl
theorem x_build (u : TypeId) (ps : Array (Nat × Operand)) : xval E ev { dst := d, op := .build u ps, type := ty, pos := pos, after := aft, guard := g } s = (evV E.P (E.H s.f) (d.getD 0) ty (.build u ps) s).map (·.1) := rfl
theorem x_buildSlice (u : TypeId) (m : Nat) (ps : Array (Nat × Operand)) : xval E ev { dst := d, op := .buildSlice u m ps, type := ty, pos := pos, after := aft, guard := g } s = (evV E.P (E.H s.f) (d.getD 0) ty (.buildSlice u m ps) s).map (·.1) := rfl
theorem x_nilCheck (x : Operand) : xval E ev { dst := d, op := .nilCheck x, type := ty, pos := pos, after := aft, guard := g } s = (evV E.P (E.H s.f) (d.getD 0) ty (.nilCheck x) s).map (·.1) := rfl
theorem x_binOp (b : BinOp) (u v : TypeId) (x y : Operand) : xval E ev { dst := d, op := .binOp b u x y v, type := ty, pos := pos, after := aft, guard := g } s = (evV E.P (E.H s.f) (d.getD 0) ty (.binOp b u x y v) s).map (·.1) := rfl
theorem x_unOp (b : UnOp) (u : TypeId) (x : Operand) : xval E ev { dst := d, op := .unOp b u x, type := ty, pos := pos, after := aft, guard := g } s = (evV E.P (E.H s.f) (d.getD 0) ty (.unOp b u x) s).map (·.1) := rfl
theorem x_convert (u v : TypeId) (x : Operand) : xval E ev { dst := d, op := .convert u v x, type := ty, pos := pos, after := aft, guard := g } s = (evV E.P (E.H s.f) (d.getD 0) ty (.convert u v x) s).map (·.1) := rfl
theorem x_makeSlice (u : TypeId) (x y : Operand) : xval E ev { dst := d, op := .makeSlice u x y, type := ty, pos := pos, after := aft, guard := g } s = (evV E.P (E.H s.f) (d.getD 0) ty (.makeSlice u x y) s).map (·.1) := rfl
theorem x_slice (u : TypeId) (x : Operand) (a b m : Option Operand) : xval E ev { dst := d, op := .slice u x a b m, type := ty, pos := pos, after := aft, guard := g } s = (evV E.P (E.H s.f) (d.getD 0) ty (.slice u x a b m) s).map (·.1) := rfl
theorem x_fieldAddr (u : TypeId) (x : Operand) (f : Nat) : xval E ev { dst := d, op := .fieldAddr u x f, type := ty, pos := pos, after := aft, guard := g } s = (evV E.P (E.H s.f) (d.getD 0) ty (.fieldAddr u x f) s).map (·.1) := rfl
theorem x_field (u : TypeId) (x : Operand) (f : Nat) : xval E ev { dst := d, op := .field u x f, type := ty, pos := pos, after := aft, guard := g } s = (evV E.P (E.H s.f) (d.getD 0) ty (.field u x f) s).map (·.1) := rfl
theorem x_indexAddr (u : TypeId) (x i : Operand) : xval E ev { dst := d, op := .indexAddr u x i, type := ty, pos := pos, after := aft, guard := g } s = (evV E.P (E.H s.f) (d.getD 0) ty (.indexAddr u x i) s).map (·.1) := rfl
theorem x_index (u : TypeId) (x i : Operand) : xval E ev { dst := d, op := .index u x i, type := ty, pos := pos, after := aft, guard := g } s = (evV E.P (E.H s.f) (d.getD 0) ty (.index u x i) s).map (·.1) := rfl
theorem x_builtin (b : Builtin) (a : Array Operand) (c : Array TypeId) : xval E ev { dst := d, op := .call { callee := .builtin b, args := a, argTypes := c }, type := ty, pos := pos, after := aft, guard := g } s = (evV E.P (E.H s.f) (d.getD 0) ty (.call { callee := .builtin b, args := a, argTypes := c }) s).map (·.1) := rfl
theorem x_extract (u i : Nat) : xval E ev { dst := d, op := .extract (.tmp u) i, type := ty, pos := pos, after := aft, guard := g } s = match s.t u with | .tup l => (l[i]?).map V.view | _ => none := rfl
end
/-! more for go_sem -/
theorem all_nil' {p : V → Bool} : List.all [] p = true := rfl
theorem all_cons' {p : V → Bool} {a : V} {l : List V} : List.all (a :: l) p = (p a && List.all l p) := rfl
theorem drawL_s {E : Env} {k : List It} {s : St} : drawL E k (some s) = lim E k s := rfl
attribute [go_sem] St.lv St.ob obIn St.setOb setIn V.flat vLoad uStore faddr_p faddr_i fget_a vIndexAddr pack setL List.drop_succ_cons List.drop_zero List.take_succ_cons List.take_zero List.drop_nil List.take_nil cellOk lowV toNat_cast all_nil' all_cons' List.getD_cons_zero List.getD_cons_succ List.length_map Bool.and_self Bool.true_and Bool.and_true Int.reduceNeg Int.reduceToNat drawL_s keepO evU List.headD_cons decide_true decide_false List.map_cons List.map_nil Int.cast_ofNat_Int Int.le_refl List.length_set List.length_append List.length_replicate List.length_take List.length_drop
attribute [go_sem] Option.getD_none d_nil d_cons drL_some drL_none drL_ite dstep guardS isX.eq_def isL dynX inDst x_call xcL_f xcV_n xcV_s x_move x_assign x_pick x_build x_buildSlice x_nilCheck x_binOp x_unOp x_convert x_makeSlice x_slice x_fieldAddr x_field x_indexAddr x_index x_builtin x_extract lval St.setX set_nil set_cons drops Bool.not_false orderOf List.range_succ List.range_zero tmpsOf Option.all_some List.getElem?_toArray List.getElem?_cons_zero List.getElem?_cons_succ
end Go.Ev
namespace Go.Ev
open Go
theorem orc_idx {E : Env} {N : Nat} (hE : ∀ g vs, E.orc g vs = if g = N then idxO vs else none) (hf : ∃ fn c, E.P.funcs[N]? = some fn ∧ (fn.name == "runtime.NumGoroutine") = false ∧ fn.body = some c)
    (hc : ∀ (s : ByteArray) (c : Int) (w : World), Calls E.P N #[.string s, .int .u8 c] w fun e w' => e = .returned (.int .i64 (idxB s c)) ∧ w' = w) : OrcOk E := by
  intro g vs v h _
  rw [hE] at h
  split at h
  · rename_i hg
    subst hg
    obtain ⟨fn, c, h1, h2, h3⟩ := hf
    refine ⟨fn, c, h1, h2, h3, ?_⟩
    unfold idxO at h
    split at h
    · rename_i s b _
      obtain rfl := Option.some.inj h
      intro S w cargs hl hT hS
      have t0 := hT 0 (by simp)
      have t1 := hT 1 (by simp)
      have e : cargs = #[.string s, .int .u8 b] := by
        match cargs, hl with
        | ⟨[x, y]⟩, _ =>
          simp only [List.getD_cons_zero, List.getD_cons_succ, Array.getD] at t0 t1
          cases t0
          cases t1
          rfl
      subst e
      refine (hc s b w).mono ?_
      rintro e w' ⟨rfl, rfl⟩
      refine ⟨_, _, rfl, ⟨fun β => ?_, Fr.refl _ _ _, rfl, fun l t ob h => by simp [obIn] at h, fun l t g h => by omega, fun g j c h => hS g j c h, fun g p h => by cases h⟩⟩
      exact Tr.int .i64 _
    · cases h
  · cases h
end Go.Ev
namespace Go.Ev
open Go
set_option linter.unusedVariables false
def stillOk (P : Program) (H : Hint) (all : Array Oper) : List Nat → List Nat → Bool
  | _, [] => true
  | seen, i :: c => match all[i]? with
    | some o => if isX P H o then stillOk P H all seen c else if isL H o then stillOk P H all (i :: seen) c else seen.all (fun k => prec all all.size k i) && stillOk P H all seen c
    | none => false
noncomputable def dstepS (E : Env) (ev : Run) (all : Array Oper) (i : Nat) (s : St) : Option St := match all[i]? with
  | none => none
  | some o => match guardS all o s with
    | none => none
    | some false => some (s.putO o.dst (.tup []))
    | some true =>
      if isX E.P (E.H s.f) o then (if dynX E.P o s && inDst s o then (xval E ev o s).map fun v => s.setX (E.H s.f) o v else none)
      else if isL (E.H s.f) o then (if inDst s o then (lval E o s).map fun v => s.setX (E.H s.f) o v else none)
      else stepOV E ev o s
noncomputable def drunS (E : Env) (ev : Run) (all : Array Oper) : List Nat → St → Option St
  | [], s => some s
  | i :: c, s => (dstepS E ev all i s).bind fun s1 => drunS E ev all c s1
theorem still_prec {E : Env} {all : Array Oper} {i : Nat} {s : St} : ∀ {done : List (Nat × V)}, (∀ p ∈ done, prec all all.size p.1 i = true) → still E all i s done = true := by
  intro done
  induction done with
  | nil => intro _; rfl
  | cons p done ih =>
    intro h
    obtain ⟨k, v⟩ := p
    unfold still
    rw [h (k, v) (List.mem_cons_self ..), ih fun q hq => h q (List.mem_cons_of_mem _ hq)]
    rfl
theorem drun_S {E : Env} {ev : Run} {all : Array Oper} : ∀ (c : List Nat) (s : St) (done : List (Nat × V)) (seen : List Nat), (∀ p ∈ done, p.1 ∈ seen) → stillOk E.P (E.H s.f) all seen c = true → drun E ev all c s done = drunS E ev all c s := by
  intro c
  induction c with
  | nil => intro s done seen _ _; rfl
  | cons i c ih =>
    intro s done seen hd hk
    unfold drun drunS
    have key : ∀ {s1 : St} {d1 : List (Nat × V)} {seen1 : List Nat}, dstep E ev all i s done = some (s1, d1) → dstepS E ev all i s = some s1 → (∀ p ∈ d1, p.1 ∈ seen1) → stillOk E.P (E.H s.f) all seen1 c = true → (dstep E ev all i s done).bind (fun r => drun E ev all c r.1 r.2) = (dstepS E ev all i s).bind fun s1 => drunS E ev all c s1 := by
      intro s1 d1 seen1 h1 h2 h3 h4
      have hf := dstep_f h1
      rw [h1, h2]
      show drun E ev all c s1 d1 = drunS E ev all c s1
      exact ih s1 d1 seen1 h3 (by rw [hf]; exact h4)
    have none' : dstep E ev all i s done = none → dstepS E ev all i s = none → (dstep E ev all i s done).bind (fun r => drun E ev all c r.1 r.2) = (dstepS E ev all i s).bind fun s1 => drunS E ev all c s1 := by
      intro h1 h2
      rw [h1, h2]
      rfl
    unfold stillOk at hk
    cases ho : all[i]? with
    | none => rw [ho] at hk; cases hk
    | some o =>
      rw [ho] at hk
      dsimp only at hk
      cases hg : guardS all o s with
      | none => exact none' (by unfold dstep; rw [ho]; dsimp only; rw [hg]) (by unfold dstepS; rw [ho]; dsimp only; rw [hg])
      | some b =>
        cases b with
        | false =>
          have a1 : dstep E ev all i s done = some (s.putO o.dst (.tup []), done) := by unfold dstep; rw [ho]; dsimp only; rw [hg]
          have a2 : dstepS E ev all i s = some (s.putO o.dst (.tup [])) := by unfold dstepS; rw [ho]; dsimp only; rw [hg]
          by_cases hx : isX E.P (E.H s.f) o = true
          · rw [if_pos hx] at hk
            exact key a1 a2 hd hk
          · rw [if_neg hx] at hk
            by_cases hl : isL (E.H s.f) o = true
            · rw [if_pos hl] at hk
              exact key a1 a2 (fun p hp => List.mem_cons_of_mem _ (hd p hp)) hk
            · rw [if_neg hl] at hk
              exact key a1 a2 hd (Bool.and_eq_true_iff.1 hk).2
        | true =>
          by_cases hx : isX E.P (E.H s.f) o = true
          · rw [if_pos hx] at hk
            by_cases hc : (dynX E.P o s && inDst s o) = true
            · cases hv : xval E ev o s with
              | none => exact none' (by unfold dstep; rw [ho]; dsimp only; rw [hg]; dsimp only; rw [if_pos hx, if_pos hc, hv]; rfl) (by unfold dstepS; rw [ho]; dsimp only; rw [hg]; dsimp only; rw [if_pos hx, if_pos hc, hv]; rfl)
              | some v => exact key (by unfold dstep; rw [ho]; dsimp only; rw [hg]; dsimp only; rw [if_pos hx, if_pos hc, hv]; rfl) (by unfold dstepS; rw [ho]; dsimp only; rw [hg]; dsimp only; rw [if_pos hx, if_pos hc, hv]; rfl) hd hk
            · exact none' (by unfold dstep; rw [ho]; dsimp only; rw [hg]; dsimp only; rw [if_pos hx, if_neg hc]) (by unfold dstepS; rw [ho]; dsimp only; rw [hg]; dsimp only; rw [if_pos hx, if_neg hc])
          · rw [if_neg hx] at hk
            by_cases hl : isL (E.H s.f) o = true
            · rw [if_pos hl] at hk
              by_cases hc : inDst s o = true
              · cases hv : lval E o s with
                | none => exact none' (by unfold dstep; rw [ho]; dsimp only; rw [hg]; dsimp only; rw [if_neg hx, if_pos hl, if_pos hc, hv]; rfl) (by unfold dstepS; rw [ho]; dsimp only; rw [hg]; dsimp only; rw [if_neg hx, if_pos hl, if_pos hc, hv]; rfl)
                | some v =>
                  refine key (d1 := (i, v) :: done) (by unfold dstep; rw [ho]; dsimp only; rw [hg]; dsimp only; rw [if_neg hx, if_pos hl, if_pos hc, hv]; rfl) (by unfold dstepS; rw [ho]; dsimp only; rw [hg]; dsimp only; rw [if_neg hx, if_pos hl, if_pos hc, hv]; rfl) ?_ hk
                  intro p hp
                  rcases List.mem_cons.1 hp with rfl | hp
                  · exact List.mem_cons_self ..
                  · exact List.mem_cons_of_mem _ (hd p hp)
              · exact none' (by unfold dstep; rw [ho]; dsimp only; rw [hg]; dsimp only; rw [if_neg hx, if_pos hl, if_neg hc]) (by unfold dstepS; rw [ho]; dsimp only; rw [hg]; dsimp only; rw [if_neg hx, if_pos hl, if_neg hc])
            · rw [if_neg hl] at hk
              obtain ⟨k1, k2⟩ := Bool.and_eq_true_iff.1 hk
              have hs : ∀ s1, still E all i s1 done = true := fun s1 => still_prec fun p hp => List.all_eq_true.1 k1 _ (hd p hp)
              cases hv : stepOV E ev o s with
              | none => exact none' (by unfold dstep; rw [ho]; dsimp only; rw [hg]; dsimp only; rw [if_neg hx, if_neg hl, hv]) (by unfold dstepS; rw [ho]; dsimp only; rw [hg]; dsimp only; rw [if_neg hx, if_neg hl, hv])
              | some s1 => exact key (by unfold dstep; rw [ho]; dsimp only; rw [hg]; dsimp only; rw [if_neg hx, if_neg hl, hv]; dsimp only; rw [if_pos (hs s1)]) (by unfold dstepS; rw [ho]; dsimp only; rw [hg]; dsimp only; rw [if_neg hx, if_neg hl, hv]) hd k2
noncomputable def drawS (E : Env) (k : List It) (all : Array Oper) (c : List Nat) (s : St) : Option (V × List (Nat → Option Ob)) := drawL E k (drunS E (Ev.lim E) all c s)
noncomputable def drSL (E : Env) (k : List It) (all : Array Oper) (c : List Nat) : Option St → Option (V × List (Nat → Option Ob))
  | some s => drawS E k all c s
  | none => none
section
variable {E : Env} {k : List It} {all : Array Oper} {c : List Nat} {s : St}
theorem e_nil : drawS E k all [] s = lim E k s := rfl
theorem e_cons (i : Nat) : drawS E k all (i :: c) s = drSL E k all c (dstepS E (Ev.lim E) all i s) := by
  show drawL E k (Option.bind _ _) = _
  cases h : dstepS E (Ev.lim E) all i s with
  | none => rfl
  | some r => rfl
theorem drSL_some : drSL E k all c (some s) = drawS E k all c s := rfl
theorem drSL_none : drSL E k all c none = none := rfl
theorem drSL_ite {p : Prop} [Decidable p] (x y : Option St) : drSL E k all c (if p then x else y) = if p then drSL E k all c x else drSL E k all c y := by split <;> rfl
theorem q_drs (i : Nat) {os : Array Oper} (h : (drawOk E.P (E.H s.f) os (orderOf (E.H s.f) i os.size) && stillOk E.P (E.H s.f) os [] (orderOf (E.H s.f) i os.size)) = true) : lim E (.code (.region i os true) :: k) s = drawS E k os (orderOf (E.H s.f) i os.size) s := by
  obtain ⟨h1, h2⟩ := Bool.and_eq_true_iff.1 h
  rw [q_drawn i h1]
  show drawL E k _ = drawL E k _
  rw [drun_S _ _ _ _ (fun p hp => by cases hp) h2]
variable {ev : Run} {d : Option Nat} {ty : TypeId} {pos : String} {aft : Array Edge} {g : Option (Nat × Bool)}
/-- a value is put down, the state goes on -/
def putS (d : Nat) (n : Nat) : Option (V × St) → Option St
  | some (v, s) => if d < n then some (s.put d v) else none
  | none => none
theorem putS_s (d n : Nat) (v : V) : putS d n (some (v, s)) = if d < n then some (s.put d v) else none := rfl
theorem putS_n (d n : Nat) : putS d n none = none := rfl
theorem put_eq (d : Nat) (op : Op) (P : Program) (H : Hint) : (if d < s.n then (evV P H d ty op s).map fun r => r.2.put d r.1 else none) = putS d s.n (evV P H d ty op s) := by
  cases evV P H d ty op s with
  | none => split <;> rfl
  | some r => obtain ⟨v, s1⟩ := r; split <;> rename_i h <;> simp [putS, h]
theorem w_alloc (d : Nat) (t : TypeId) : stepOV E ev { dst := some d, op := .alloc t, type := ty, pos := pos, after := aft, guard := g } s = putS d s.n (evV E.P (E.H s.f) d ty (.alloc t) s) := put_eq ..
theorem w_box (d : Nat) (t : TypeId) (x : Operand) : stepOV E ev { dst := some d, op := .box t x, type := ty, pos := pos, after := aft, guard := g } s = putS d s.n (evV E.P (E.H s.f) d ty (.box t x) s) := put_eq ..
theorem w_load (d : Nat) (t : TypeId) (x : Operand) : stepOV E ev { dst := some d, op := .load t x, type := ty, pos := pos, after := aft, guard := g } s = putS d s.n (evV E.P (E.H s.f) d ty (.load t x) s) := put_eq ..
theorem w_makeSlice (d : Nat) (t : TypeId) (x y : Operand) : stepOV E ev { dst := some d, op := .makeSlice t x y, type := ty, pos := pos, after := aft, guard := g } s = putS d s.n (evV E.P (E.H s.f) d ty (.makeSlice t x y) s) := put_eq ..
theorem w_buildSlice (d : Nat) (t : TypeId) (m : Nat) (ps : Array (Nat × Operand)) : stepOV E ev { dst := some d, op := .buildSlice t m ps, type := ty, pos := pos, after := aft, guard := g } s = putS d s.n (evV E.P (E.H s.f) d ty (.buildSlice t m ps) s) := put_eq ..
theorem w_store (t : TypeId) (a x : Operand) : stepOV E ev { dst := none, op := .store t a x, type := ty, pos := pos, after := aft, guard := g } s = evU E.P (E.H s.f) (.store t a x) s := rfl
noncomputable def backO (s : St) (plain : Bool × Bool) (d : Option Nat) : Option (V × List (Nat → Option Ob)) → Option St
  | some r => some (backS s plain d r.1 r.2)
  | none => none
theorem backO_s (plain : Bool × Bool) (d : Option Nat) (v : V) (o : List (Nat → Option Ob)) : backO s plain d (some (v, o)) = some (backS s plain d v o) := rfl
noncomputable def orcS (E : Env) (g : Nat) (vs : List V) (s : St) (d : Option Nat) : Option V → Option St
  | some v => some (s.putO d v)
  | none => backO s (true, setF E g d s) d (run E g vs [])
theorem orcS_n (g : Nat) (vs : List V) : orcS E g vs s d none = backO s (true, setF E g d s) d (run E g vs []) := rfl
theorem orcS_s (g : Nat) (vs : List V) (v : V) : orcS E g vs s d (some v) = some (s.putO d v) := rfl
noncomputable def callS (E : Env) (d : Option Nat) : V → Option (List V × St) → Option St
  | .fn g caps, some (vs, s1) => if ((vs ++ caps).any isRef || !caps.isEmpty) = true then backO s1 (false, setF E g d s1) d (run E g (vs ++ caps) (s1.b :: s1.o)) else orcS E g (vs ++ caps) s1 d (E.orc g (vs ++ caps))
  | _, _ => none
theorem callS_s (g : Nat) (caps vs : List V) : callS E d (.fn g caps) (some (vs, s)) = if ((vs ++ caps).any isRef || !caps.isEmpty) = true then backO s (false, setF E g d s) d (run E g (vs ++ caps) (s.b :: s.o)) else orcS E g (vs ++ caps) s d (E.orc g (vs ++ caps)) := rfl
theorem w_call (d : Nat) {f : Operand} {args : Array Operand} {tys : Array TypeId} : stepOV E (Ev.lim E) { dst := some d, op := .call { callee := .value f, args := args, argTypes := tys }, type := ty, pos := pos, after := aft, guard := g } s =
    if args.size = tys.size ∧ d < s.n then callS E (some d) (s.see E.P 0 f) (s.args E.P (tys.toList.zip args.toList)) else none := by
  show evCallV E _ (callOp E (some d) f args tys [] s) = _
  unfold callOp
  have hd : (args.size = tys.size ∧ Option.all (fun d => decide (d < s.n)) (some d) = true) ↔ (args.size = tys.size ∧ d < s.n) := by simp
  have hr : ∀ (g : Nat) (vs : List V) (o : List (Nat → Option Ob)) (plain : Bool × Bool) (s1 : St), evCallV E (Ev.lim E) (.call g vs o plain (some d) [] s1) = backO s1 plain (some d) (run E g vs o) := by
    intro g vs o plain s1
    unfold evCallV run
    dsimp only
    cases startS E g vs o with
    | none => rfl
    | some x =>
      obtain ⟨k0, s0⟩ := x
      dsimp only
      cases Ev.lim E k0 s0 <;> rfl
  by_cases hc : args.size = tys.size ∧ d < s.n
  · rw [if_pos hc]
    cases s.see E.P 0 f with
    | fn g caps =>
      cases s.args E.P (tys.toList.zip args.toList) with
      | none => rfl
      | some r =>
        obtain ⟨vs, s1⟩ := r
        dsimp only
        rw [if_pos (hd.2 hc), callS_s]
        split
        · exact hr ..
        · cases E.orc g (vs ++ caps) with
          | some v => rfl
          | none => exact hr ..
    | _ => rfl
  · rw [if_neg hc]
    cases s.see E.P 0 f with
    | fn g caps =>
      cases s.args E.P (tys.toList.zip args.toList) with
      | none => rfl
      | some r => obtain ⟨vs, s1⟩ := r; dsimp only; rw [if_neg fun h => hc (hd.1 h)]; rfl
    | _ => rfl
end
attribute [go_sem] e_nil e_cons drSL_some drSL_none drSL_ite dstepS putS_s putS_n w_alloc w_box w_load w_makeSlice w_buildSlice w_store w_call backO_s orcS_n orcS_s callS_s
end Go.Ev
namespace Go.Ev
open Go
structure Rx where
  kind : Int
  letter : ByteArray
  args : List Rx
theorem Rx.lt (r : Rx) {x : Rx} (h : x ∈ r.args) : SizeOf.sizeOf x < SizeOf.sizeOf r := by
  have h1 := List.sizeOf_lt_of_mem h
  cases r
  simp only [Rx.mk.sizeOf_spec]
  dsimp only at h1
  omega
def Rx.enc (r : Rx) : V := .agg [.int .i64 r.kind, .str r.letter, .slc false 3 (r.args.map Rx.enc)]
  termination_by SizeOf.sizeOf r
  decreasing_by exact Rx.lt _ ‹_›
theorem Rx.enc_eq (r : Rx) : r.enc = .agg [.int .i64 r.kind, .str r.letter, .slc false 3 (r.args.map Rx.enc)] := by rw [Rx.enc]
structure Vals where
  x : ByteArray
  y : ByteArray
  z : ByteArray
def Vals.cells (v : Vals) : List V := [.str v.x, .str v.y, .str v.z]
def Vals.enc (v : Vals) : V := .agg [.str v.x, .str v.y, .str v.z]
structure Mor where
  a : ByteArray
  b : ByteArray
  c : ByteArray
def Mor.enc (v : Mor) : V := .agg [.str v.a, .str v.b, .str v.c]
structure Sta where
  left : ByteArray
  right : ByteArray
  maps : List Int
def Sta.enc (s : Sta) : V := .agg [.str s.left, .str s.right, .slc false 1 (s.maps.map I)]
structure Con where
  kind : Int
  left : ByteArray
  right : ByteArray
  regex : Rx
  coeffs : List Int
  bound : Int
def Con.enc (c : Con) : V := .agg [.int .i64 c.kind, .str c.left, .str c.right, .int .i64 c.regex.kind, .str c.regex.letter, .slc false 3 (c.regex.args.map Rx.enc), .slc false 1 (c.coeffs.map I), .int .i64 c.bound]
structure Line where
  kind : Int
  text : ByteArray
  mor : Mor
  regex : Rx
def Line.enc (l : Line) : V := .agg [.int .i64 l.kind, .str l.text, .str l.mor.a, .str l.mor.b, .str l.mor.c, .int .i64 l.regex.kind, .str l.regex.letter, .slc false 3 (l.regex.args.map Rx.enc)]
structure Ans where
  code : Int
  vals : Vals
  nodes : List Sta
  bound : Int
def Ans.enc (a : Ans) : V := .agg [.int .i64 a.code, .str a.vals.x, .str a.vals.y, .str a.vals.z, .slc false 3 (a.nodes.map Sta.enc), .int .i64 a.bound]
structure Equ where
  left : ByteArray
  right : ByteArray
def Equ.enc (e : Equ) : V := .agg [.str e.left, .str e.right]
structure Mon where
  maps : List (List Int)
  letters : List Int
  product : List (List Int)
def Mon.enc (m : Mon) : V := .agg [.slc false 1 (m.maps.map IL), .slc false 1 (m.letters.map I), .slc false 1 (m.product.map IL)]
structure Frm where
  equ : Equ
  mon : Mon
  allowed : List (List Int)
def Frm.enc (f : Frm) : V := .agg [.str f.equ.left, .str f.equ.right, .slc false 1 (f.mon.maps.map IL), .slc false 1 (f.mon.letters.map I), .slc false 1 (f.mon.product.map IL), .slc false 1 (f.allowed.map IL)]
structure Mov where
  name : Int
  by_ : ByteArray
def Mov.enc (m : Mov) : V := .agg [.int .u8 m.name, .str m.by_]
structure Stp where
  move : Mov
  to : Sta
def Stp.enc (s : Stp) : V := .agg [.int .u8 s.move.name, .str s.move.by_, .str s.to.left, .str s.to.right, .slc false 1 (s.to.maps.map I)]
attribute [go_sem] Equ.enc Mon.enc Frm.enc Mov.enc Stp.enc IL I
structure Dfa where
  accept : List Bool
  next : List (List Int)
def Dfa.enc (d : Dfa) : V := .agg [.slc false 1 (d.accept.map B), .slc false 1 (d.next.map IL)]
attribute [go_sem] Dfa.enc B Sv
structure Prob where
  list : List Con
def Prob.enc (p : Prob) : V := .agg [.slc false 8 (p.list.map Con.enc)]
structure Prog where
  lines : List Line
def Prog.enc (p : Prog) : V := .agg [.slc false 8 (p.lines.map Line.enc)]
structure Ses where
  prob : Prob
  ans : Ans
  prog : Prog
def Ses.enc (s : Ses) : V := .agg [.slc false 8 (s.prob.list.map Con.enc), .int .i64 s.ans.code, .str s.ans.vals.x, .str s.ans.vals.y, .str s.ans.vals.z, .slc false 3 (s.ans.nodes.map Sta.enc), .int .i64 s.ans.bound, .slc false 8 (s.prog.lines.map Line.enc)]
attribute [go_sem] Prob.enc Prog.enc
attribute [go_sem] Rx.enc_eq Vals.enc Mor.enc Sta.enc Con.enc Line.enc Ans.enc Ses.enc
end Go.Ev
namespace Go.Ev
open Go
theorem bt_nonneg (s : ByteArray) (i : Int) : 0 ≤ bt s i := by unfold bt; split <;> omega
theorem bt_lt (s : ByteArray) (i : Int) : bt s i < 256 := by
  unfold bt
  split
  · rename_i h
    have := (s[i.toNat]'h).toNat_lt
    omega
  · omega
/-- the number of a letter -/
def ltr (c : Int) : Int := if c = 97 then 0 else if c = 98 then 1 else if c = 99 then 2 else -1
def isVar (c : Int) : Bool := decide (88 ≤ c) && decide (c ≤ 90)
theorem nat_u8 (n : Nat) (h : n < 256) (m : Nat) (hm : m < 256) : (n.toUInt8 == m.toUInt8) = decide (n = m) := by
  by_cases e : n = m
  · subst e; simp
  · have : n.toUInt8 ≠ m.toUInt8 := by
      intro e'
      have := congrArg UInt8.toNat e'
      simp [Nat.toUInt8, UInt8.toNat_ofNat'] at this
      omega
    simp [e, this]
theorem idx_abc (c : Int) (h : 0 ≤ c) (h' : c < 256) : idxB ⟨#[97, 98, 99]⟩ c = ltr c := by
  obtain ⟨n, rfl⟩ : ∃ n : Nat, c = n := ⟨c.toNat, by omega⟩
  have hn : n < 256 := by omega
  unfold idxB ltr
  rw [Int.toNat_natCast]
  have : ∀ n : Fin 256, Go.Lib.indexByte (#[97, 98, 99] : Array UInt8).toList n.val.toUInt8 = if (n.val : Int) = 97 then 0 else if (n.val : Int) = 98 then 1 else if (n.val : Int) = 99 then 2 else -1 := by decide +kernel
  exact this ⟨n, hn⟩
theorem idx_XYZ (c : Int) (h : 0 ≤ c) (h' : c < 256) : idxB ⟨#[88, 89, 90]⟩ c = if isVar c then c - 88 else -1 := by
  obtain ⟨n, rfl⟩ : ∃ n : Nat, c = n := ⟨c.toNat, by omega⟩
  have hn : n < 256 := by omega
  unfold idxB isVar
  rw [Int.toNat_natCast]
  have : ∀ n : Fin 256, Go.Lib.indexByte (#[88, 89, 90] : Array UInt8).toList n.val.toUInt8 = if (decide (88 ≤ (n.val : Int)) && decide ((n.val : Int) ≤ 90)) = true then (n.val : Int) - 88 else -1 := by decide +kernel
  exact this ⟨n, hn⟩
theorem isVar_idx (c : Int) (h : 0 ≤ c) (h' : c < 256) : decide (idxB ⟨#[88, 89, 90]⟩ c ≥ 0) = isVar c := by
  rw [idx_XYZ c h h']
  cases e : isVar c
  · simp
  · have : 88 ≤ c := by unfold isVar at e; simp at e; omega
    simp; omega
/-- a byte after the other, from a place on -/
def allB (p : Int → Bool) (s : ByteArray) (i : Nat) : Bool := if i < s.size then p (bt s i) && allB p s (i + 1) else true
  termination_by s.size - i
theorem allB_next (p : Int → Bool) (s : ByteArray) {i : Nat} (h : i < s.size) : allB p s i = (p (bt s i) && allB p s (i + 1)) := by rw [allB, if_pos h]
theorem allB_end (p : Int → Bool) (s : ByteArray) {i : Nat} (h : ¬ i < s.size) : allB p s i = true := by rw [allB, if_neg h]
theorem allB_congr {p q : Int → Bool} {s : ByteArray} (h : ∀ i : Nat, i < s.size → p (bt s i) = q (bt s i)) : ∀ (n i : Nat), s.size - i ≤ n → allB p s i = allB q s i := by
  intro n
  induction n with
  | zero => intro i hi; rw [allB_end p s (by omega), allB_end q s (by omega)]
  | succ n ih =>
    intro i hi
    by_cases hk : i < s.size
    · rw [allB_next p s hk, allB_next q s hk, h i hk, ih (i + 1) (by omega)]
    · rw [allB_end p s hk, allB_end q s hk]
/-- how often a byte stands -/
def cntB (b : Int) (s : ByteArray) (i : Nat) : Nat := if i < s.size then (if bt s i = b then 1 else 0) + cntB b s (i + 1) else 0
  termination_by s.size - i
theorem cntB_next (b : Int) (s : ByteArray) {i : Nat} (h : i < s.size) : cntB b s i = (if bt s i = b then 1 else 0) + cntB b s (i + 1) := by rw [cntB, if_pos h]
theorem cntB_end (b : Int) (s : ByteArray) {i : Nat} (h : ¬ i < s.size) : cntB b s i = 0 := by rw [cntB, if_neg h]
theorem cntB_le (b : Int) (s : ByteArray) : ∀ (n i : Nat), s.size - i ≤ n → cntB b s i ≤ s.size - i := by
  intro n
  induction n with
  | zero => intro i hi; rw [cntB_end b s (by omega)]; omega
  | succ n ih =>
    intro i hi
    by_cases hk : i < s.size
    · rw [cntB_next b s hk]
      have := ih (i + 1) (by omega)
      split <;> omega
    · rw [cntB_end b s hk]; omega
def sideB (c : Int) : Bool := c == 35 || decide (0 ≤ ltr c) || isVar c
/-! parts of strings -/
theorem bt_extract (s : ByteArray) (a b i : Nat) (h : a + i < b) (hb : b ≤ s.size) : bt (s.extract a b) (i : Int) = bt s ((a + i : Nat) : Int) := by
  have h1 : i < (s.extract a b).size := by simp; omega
  have h2 : a + i < s.size := by omega
  unfold bt
  simp only [Int.toNat_natCast, h1, h2, dif_pos, ByteArray.getElem_extract]
theorem bytes_toList (s : ByteArray) : s.toList = s.data.toList := by
  unfold ByteArray.toList
  rw [ByteArray.toList_loop_eq s s.size 0 [] (by omega) (by omega)]
  simp
theorem toList_inj {a b : ByteArray} : a.toList = b.toList ↔ a = b := by
  rw [bytes_toList, bytes_toList]
  constructor
  · intro h
    exact ByteArray.ext (Array.ext' h)
  · rintro rfl; rfl
theorem toList_beq (a b : ByteArray) : (a.toList == b.toList) = decide (a = b) := by
  by_cases h : a = b
  · subst h; simp
  · have : ¬ a.toList = b.toList := fun e => h (toList_inj.1 e)
    simp [h, this]
theorem toList_nil (s : ByteArray) : (s.toList == (ByteArray.mk #[]).toList) = decide (s.size = 0) := by
  rw [toList_beq]
  congr 1
  apply propext
  constructor
  · rintro rfl; rfl
  · intro h
    apply ByteArray.ext
    exact Array.eq_empty_of_size_eq_zero h
/-- a string from a place on -/
def ext (s : ByteArray) (k : Nat) : ByteArray := s.extract k s.size
theorem ext_size (s : ByteArray) (k : Nat) : (ext s k).size = s.size - k := by simp [ext]
theorem ext_zero (s : ByteArray) : ext s 0 = s := by simp [ext]
theorem ext_bt (s : ByteArray) (k i : Nat) (h : k + i < s.size) : bt (ext s k) (i : Int) = bt s ((k + i : Nat) : Int) := bt_extract s k s.size i h (Nat.le_refl _)
theorem ext_bt0 (s : ByteArray) (k : Nat) (h : k < s.size) : bt (ext s k) 0 = bt s (k : Int) := ext_bt s k 0 (by omega)
theorem ext_ext (s : ByteArray) (k : Nat) : (ext s k).extract 1 (s.size - k) = ext s (k + 1) := by
  apply ByteArray.ext
  unfold ext
  simp only [ByteArray.data_extract]
  apply Array.ext'
  simp only [Array.toList_extract, List.extract_eq_take_drop] 
  have e : s.data.toList.length = s.size := by simp
  rw [List.take_of_length_le (l := s.data.toList.drop k) (by simp)]
  rw [List.drop_drop, List.take_of_length_le (by simp; omega), List.take_of_length_le (by simp)]
/-- how far two strings go together -/
def lcp (l r : ByteArray) (k : Nat) : Nat := if k < l.size ∧ k < r.size ∧ bt l k = bt r k then lcp l r (k + 1) else k
  termination_by l.size - k
theorem lcp_next {l r : ByteArray} {k : Nat} (h1 : k < l.size) (h2 : k < r.size) (h3 : bt l k = bt r k) : lcp l r k = lcp l r (k + 1) := by rw [lcp, if_pos ⟨h1, h2, h3⟩]
theorem lcp_end {l r : ByteArray} {k : Nat} (h : ¬ (k < l.size ∧ k < r.size ∧ bt l k = bt r k)) : lcp l r k = k := by rw [lcp, if_neg h]
def strip (e : Equ) : Equ := ⟨ext e.left (lcp e.left e.right 0), ext e.right (lcp e.left e.right 0)⟩
/-! bytes -/
theorem bytesV_append (a b : ByteArray) : bytesV (a ++ b) = bytesV a ++ bytesV b := by
  unfold bytesV
  rw [ByteArray.data_append]
  simp
theorem bytesV_len (a : ByteArray) : (bytesV a).length = a.size := by
  unfold bytesV
  simp
theorem bytesV_one (s : ByteArray) (i : Nat) (h : i < s.size) : bytesV (s.extract i (i + 1)) = [.int .u8 (bt s (i : Int))] := by
  unfold bytesV
  rw [ByteArray.data_extract]
  have h' : i < s.data.size := h
  have e : (s.data.extract i (i + 1)).toList = [s.data[i]] := by
    apply List.ext_getElem
    · simp; omega
    · intro j h1 h2
      simp at h1
      have : j = 0 := by omega
      subst this
      simp
  rw [e]
  simp [bt, h]
  rfl
theorem u8s_bytesV (l : List UInt8) : mapOpt u8 (l.map fun b => V.int .u8 (b.toNat : Int)) = some (l.map fun b => (b.toNat : Int)) := by
  induction l with
  | nil => rfl
  | cons a l ih => simp only [List.map_cons, mapOpt, u8, ih]
theorem ofInts_bytes (l : List UInt8) : ∀ r : ByteArray, (l.map fun b => (b.toNat : Int)).foldl (fun r n => r.push (UInt8.ofNat n.toNat)) r = r ++ ⟨l.toArray⟩ := by
  induction l with
  | nil => intro r; apply ByteArray.ext; simp [ByteArray.data_append]
  | cons a l ih =>
    intro r
    rw [List.map_cons, List.foldl_cons, ih]
    apply ByteArray.ext
    simp [ByteArray.data_append, ByteArray.data_push]
theorem ofInts_bytesV (s : ByteArray) : ofInts (s.data.toList.map fun b => (b.toNat : Int)) = s := by
  unfold ofInts
  rw [ofInts_bytes]
  apply ByteArray.ext
  simp [ByteArray.data_append]
theorem u8_bytesV (s : ByteArray) : mapOpt u8 (bytesV s) = some (s.data.toList.map fun b => (b.toNat : Int)) := u8s_bytesV _
/-! bytes replaced -/
def one (s : ByteArray) (i : Nat) : ByteArray := s.extract i (i + 1)
theorem one_size (s : ByteArray) (i : Nat) (h : i < s.size) : (one s i).size = 1 := by unfold one; simp; omega
/-- each byte's text in its place; none: too long -/
def repl (by_ : Nat → ByteArray) (s : ByteArray) (i : Nat) (out : ByteArray) : ByteArray := if i < s.size then (if (out ++ by_ i).size > 1048576 then ⟨#[]⟩ else repl by_ s (i + 1) (out ++ by_ i)) else out
  termination_by s.size - i
theorem repl_next {by_ : Nat → ByteArray} {s : ByteArray} {i : Nat} {out : ByteArray} (h : i < s.size) : repl by_ s i out = if (out ++ by_ i).size > 1048576 then ⟨#[]⟩ else repl by_ s (i + 1) (out ++ by_ i) := by rw [repl, if_pos h]
theorem repl_end {by_ : Nat → ByteArray} {s : ByteArray} {i : Nat} {out : ByteArray} (h : ¬ i < s.size) : repl by_ s i out = out := by rw [repl, if_neg h]
def repV (s : ByteArray) (name : Int) (by_ : ByteArray) : ByteArray := repl (fun i => if bt s i = name then by_ else one s i) s 0 ⟨#[]⟩
end Go.Ev
namespace Go.Ev
def clash (e : Equ) : Bool := if e.left.size = 0 ∨ e.right.size = 0 then !allB isVar (e.left ++ e.right) 0 else !isVar (bt e.left 0) && !isVar (bt e.right 0)
theorem strip_le (e : Equ) : (strip e).left.size ≤ e.left.size ∧ (strip e).right.size ≤ e.right.size := by
  unfold strip
  simp only [ext_size]
  omega
end Go.Ev
namespace Go.Ev
theorem repl_le (by_ : Nat → ByteArray) (s : ByteArray) : ∀ (n i : Nat) (out : ByteArray), s.size - i ≤ n → out.size ≤ 1048576 → (repl by_ s i out).size ≤ 1048576 := by
  intro n
  induction n with
  | zero => intro i out h ho; rw [repl_end (by omega)]; exact ho
  | succ n ih =>
    intro i out h ho
    by_cases hi : i < s.size
    · rw [repl_next hi]
      split
      · decide
      · exact ih _ _ (by omega) (by omega)
    · rw [repl_end hi]; exact ho
theorem repV_le (s : ByteArray) (c : Int) (b : ByteArray) : (repV s c b).size ≤ 1048576 := repl_le _ _ _ 0 _ (Nat.le_refl _) (by decide)
/-- two bytes -/
def pair (a b : Int) : ByteArray := ofInts [a, b]
theorem pair_bytes (a b : Int) : ofInts [a, b] = pair a b := rfl
theorem pair_size (a b : Int) : (pair a b).size = 2 := rfl
def first2 (a b : Int) : List Mov := if isVar a = true then (if (isVar b || decide (0 ≤ ltr b)) = true then [⟨a, ⟨#[]⟩⟩, ⟨a, pair b a⟩] else [⟨a, ⟨#[]⟩⟩]) else []
def moves (s : Equ) : List Mov :=
  if s.left.size = 0 ∧ s.right.size = 0 ∨ clash s = true then []
  else if s.left.size = 0 then [⟨bt s.right 0, ⟨#[]⟩⟩]
  else if s.right.size = 0 then [⟨bt s.left 0, ⟨#[]⟩⟩]
  else first2 (bt s.left 0) (bt s.right 0) ++ first2 (bt s.right 0) (bt s.left 0)
end Go.Ev
namespace Go.Ev
def isLtr (c : Int) : Bool := decide (0 ≤ ltr c)
def isWord (s : ByteArray) : Bool := decide (s.size ≤ 30) && allB isLtr s 0
end Go.Ev
namespace Go.Ev
def small (s : ByteArray) : Bool := isWord s && decide (s.size ≤ 3)
def isMor (m : Mor) : Bool := small m.a && (small m.b && small m.c)
def zeroR (r : Rx) : Bool := (r.kind == 0) && (decide (r.letter.size = 0) && ((r.args.length : Int) == 0))
end Go.Ev
namespace Go.Ev
open Go
/-- the first place of an element for which p holds -/
def posP {α : Type} (p : α → Bool) : List α → Nat → Int
  | [], _ => -1
  | x :: l, i => if p x = true then (i : Int) else posP p l (i + 1)
theorem posP_any {α : Type} (p : α → Bool) : ∀ (l : List α) (i : Nat), decide (posP p l i ≥ 0) = l.any p := by
  intro l
  induction l with
  | nil => intro i; rfl
  | cons x l ih =>
    intro i
    unfold posP
    rw [List.any_cons]
    cases h : p x
    · rw [if_neg (by decide), ih, Bool.false_or]
    · rw [if_pos rfl, Bool.true_or]
      simp
theorem obIn_cons {t : Nat} {b : Nat → Option Ob} {os : List (Nat → Option Ob)} (h : os.length ≠ 0) : obIn t 0 (b :: os) = obIn t 0 os := by
  show (if 0 = os.length then b t else obIn t 0 os) = _
  rw [if_neg (by omega)]
end Go.Ev
namespace Go.Ev
open Go
def Rx.nodes (r : Rx) : Nat := 1 + (r.args.attach.map fun x => Rx.nodes x.1).sum
  termination_by SizeOf.sizeOf r
  decreasing_by exact Rx.lt _ x.2
theorem Rx.nodes_eq (r : Rx) : r.nodes = 1 + (r.args.map Rx.nodes).sum := by rw [Rx.nodes, List.attach_map_val (f := Rx.nodes)]
def maxL (l : List Nat) : Nat := l.foldr max 0
def Rx.depth (r : Rx) : Nat := 1 + maxL (r.args.attach.map fun x => Rx.depth x.1)
  termination_by SizeOf.sizeOf r
  decreasing_by exact Rx.lt _ x.2
theorem Rx.depth_eq (r : Rx) : r.depth = 1 + maxL (r.args.map Rx.depth) := by rw [Rx.depth, List.attach_map_val (f := Rx.depth)]
def argN (k : Int) : Int := if k = 1 ∨ k = 2 ∨ k = 3 ∨ k = 4 then 0 else if k = 8 ∨ k = 9 then 1 else if k = 5 ∨ k = 6 ∨ k = 7 then 2 else -1
def okTop (r : Rx) : Bool := (r.args.length : Int) == argN r.kind && (if r.kind = 3 then decide (r.letter.size = 1) && isWord r.letter else decide (r.letter.size = 0))
def Rx.good (r : Rx) : Bool := (r.args.attach.map fun x => Rx.good x.1).all id && okTop r
  termination_by SizeOf.sizeOf r
  decreasing_by exact Rx.lt _ x.2
theorem Rx.good_eq (r : Rx) : r.good = ((r.args.map Rx.good).all id && okTop r) := by rw [Rx.good, List.attach_map_val (f := Rx.good)]
def validR (r : Rx) : Bool := decide (r.nodes ≤ 16) && (decide (r.depth ≤ 6) && r.good)
/-- the program's count -/
def Rx.cnt (r : Rx) (d : Nat) : Nat := if d = 0 ∨ okTop r = false then 17 else min (1 + (r.args.attach.map fun x => Rx.cnt x.1 (d - 1)).sum) 17
  termination_by SizeOf.sizeOf r
  decreasing_by exact Rx.lt _ x.2
theorem Rx.cnt_eq (r : Rx) (d : Nat) : r.cnt d = if d = 0 ∨ okTop r = false then 17 else min (1 + (r.args.map fun x => x.cnt (d - 1)).sum) 17 := by
  rw [Rx.cnt, List.attach_map_val (f := fun x => Rx.cnt x (d - 1))]
theorem maxL_le {l : List Nat} {n : Nat} : maxL l ≤ n ↔ ∀ x ∈ l, x ≤ n := by
  induction l with
  | nil => simp [maxL]
  | cons a l ih =>
    have : maxL (a :: l) = max a (maxL l) := rfl
    rw [this, Nat.max_le, ih]
    simp
theorem sum_min {l : List Rx} {f g : Rx → Nat} (h : ∀ x ∈ l, g x = min (f x) 17) : min (1 + (l.map g).sum) 17 = min (1 + (l.map f).sum) 17 := by
  suffices ∀ n, min (n + (l.map g).sum) 17 = min (n + (l.map f).sum) 17 from this 1
  induction l with
  | nil => intro n; rfl
  | cons a l ih =>
    intro n
    have h1 := ih (fun x hx => h x (List.mem_cons_of_mem _ hx))
    have h2 := h a (List.mem_cons_self ..)
    simp only [List.map_cons, List.sum_cons]
    have h3 := h1 (n + f a)
    have h4 := h1 (n + g a)
    rw [h2] at h4
    rw [h2]
    by_cases k : f a ≤ 17
    · rw [Nat.min_eq_left k] at h4 ⊢
      rw [← Nat.add_assoc, ← Nat.add_assoc]
      exact h4
    · rw [Nat.min_eq_right (by omega)]
      omega
theorem sum_big {l : List Rx} {g : Rx → Nat} (h : ∃ x ∈ l, g x = 17) : 17 ≤ (l.map g).sum := by
  induction l with
  | nil => obtain ⟨x, hx, _⟩ := h; cases hx
  | cons a l ih =>
    obtain ⟨x, hx, hg⟩ := h
    simp only [List.map_cons, List.sum_cons]
    rcases List.mem_cons.1 hx with rfl | hx
    · omega
    · have := ih ⟨x, hx, hg⟩; omega
theorem Rx.cnt_good (r : Rx) (d : Nat) : r.cnt d = if r.depth ≤ d ∧ r.good = true then min r.nodes 17 else 17 := by
  rw [Rx.cnt_eq, Rx.depth_eq, Rx.good_eq, Rx.nodes_eq]
  have ih : ∀ x ∈ r.args, x.cnt (d - 1) = if x.depth ≤ d - 1 ∧ x.good = true then min x.nodes 17 else 17 := fun x hx => Rx.cnt_good x (d - 1)
  by_cases h0 : d = 0
  · rw [if_pos (Or.inl h0), if_neg (by omega)]
  by_cases h1 : okTop r = false
  · rw [if_pos (Or.inr h1), if_neg (by rw [h1]; simp)]
  rw [if_neg (fun h => h.elim h0 h1)]
  have h1' : okTop r = true := by simpa using h1
  by_cases h2 : ∀ x ∈ r.args, x.depth ≤ d - 1 ∧ x.good = true
  · rw [if_pos]
    · exact sum_min fun x hx => by rw [ih x hx, if_pos (h2 x hx)]
    · refine ⟨?_, ?_⟩
      · have : maxL (r.args.map Rx.depth) ≤ d - 1 := maxL_le.2 fun x hx => by
          obtain ⟨y, hy, rfl⟩ := List.mem_map.1 hx
          exact (h2 y hy).1
        omega
      · rw [h1', Bool.and_true, List.all_eq_true]
        intro x hx
        obtain ⟨y, hy, rfl⟩ := List.mem_map.1 hx
        exact (h2 y hy).2
  · rw [if_neg]
    · have : ∃ x ∈ r.args, x.cnt (d - 1) = 17 := by
        by_cases h3 : ∃ x ∈ r.args, ¬ (x.depth ≤ d - 1 ∧ x.good = true)
        · obtain ⟨x, hx, hn⟩ := h3
          exact ⟨x, hx, by rw [ih x hx, if_neg hn]⟩
        · exfalso
          refine h2 fun x hx => ?_
          by_cases h4 : x.depth ≤ d - 1 ∧ x.good = true
          · exact h4
          · exact absurd ⟨x, hx, h4⟩ h3
      have := sum_big (g := fun x => x.cnt (d - 1)) this
      omega
    · rintro ⟨k1, k2⟩
      refine h2 fun x hx => ⟨?_, ?_⟩
      · have : maxL (r.args.map Rx.depth) ≤ d - 1 := by omega
        exact maxL_le.1 this _ (List.mem_map_of_mem hx)
      · rw [h1', Bool.and_true, List.all_eq_true] at k2
        exact k2 _ (List.mem_map_of_mem hx)
  termination_by SizeOf.sizeOf r
  decreasing_by exact Rx.lt _ hx
theorem valid_cnt (r : Rx) : decide (r.cnt 6 ≤ 16) = validR r := by
  rw [Rx.cnt_good]
  unfold validR
  by_cases h : r.depth ≤ 6 ∧ r.good = true
  · rw [if_pos h]
    by_cases k : r.nodes ≤ 16
    · simp [h, k]; omega
    · have : ¬ min r.nodes 17 ≤ 16 := by omega
      simp only [this, k, decide_false, Bool.false_and]
  · rw [if_neg h]
    have : ¬ (17 ≤ 16) := by omega
    rw [decide_eq_false this]
    by_cases k : r.depth ≤ 6
    · have : r.good = false := by
        cases e : r.good
        · rfl
        · exact absurd ⟨k, e⟩ h
      simp [this]
    · simp [k]
end Go.Ev
namespace Go.Ev
open Go
def argS (k : Int) : Int := if k = 5 ∨ k = 6 ∨ k = 7 then 2 else if k = 8 ∨ k = 9 then 1 else 0
theorem okTop_spec (r : Rx) : okTop r = if r.kind = 3 then (decide (r.letter.size = 1) && (isWord r.letter && decide ((r.args.length : Int) = 0))) else ((decide (1 ≤ r.kind) && decide (r.kind ≤ 9)) && (decide (r.letter.size = 0) && decide ((r.args.length : Int) = argS r.kind))) := by
  unfold okTop
  by_cases h : r.kind = 3
  · rw [if_pos h, if_pos h, h]
    have : argN 3 = 0 := by decide
    rw [this]
    have e : ((r.args.length : Int) == 0) = decide ((r.args.length : Int) = 0) := rfl
    rw [e]
    cases decide ((r.args.length : Int) = 0) <;> cases decide (r.letter.size = 1) <;> cases isWord r.letter <;> rfl
  · rw [if_neg h, if_neg h]
    have e : ((r.args.length : Int) == argN r.kind) = decide ((r.args.length : Int) = argN r.kind) := rfl
    rw [e]
    by_cases k : 1 ≤ r.kind ∧ r.kind ≤ 9
    · have : argN r.kind = argS r.kind := by
        unfold argN argS
        split <;> split <;> (try split) <;> (try split) <;> omega
      rw [this]
      simp only [k.1, k.2, decide_true, Bool.true_and]
      rw [Bool.and_comm]
    · have hn : argN r.kind = -1 := by
        unfold argN
        rw [if_neg (by omega), if_neg (by omega), if_neg (by omega)]
      have h1 : ¬ (r.args.length : Int) = argN r.kind := by rw [hn]; omega
      have h2 : (decide (1 ≤ r.kind) && decide (r.kind ≤ 9)) = false := by
        cases e : decide (1 ≤ r.kind) && decide (r.kind ≤ 9)
        · rfl
        · simp at e; exact absurd e k
      rw [h2, decide_eq_false h1, Bool.false_and, Bool.false_and]
theorem Rx.depth_sz (r : Rx) : r.depth ≤ 1 + szT r.enc := by
  have ih : ∀ x ∈ r.args, x.depth ≤ 1 + szT x.enc := fun x hx => Rx.depth_sz x
  rw [Rx.depth_eq]
  have : maxL (r.args.map Rx.depth) ≤ szT r.enc := maxL_le.2 fun d hd => by
    obtain ⟨x, hx, rfl⟩ := List.mem_map.1 hd
    have h1 := ih x hx
    have h2 := szL_mem (f := Rx.enc) hx
    have h3 : 0 < r.args.length := List.length_pos_of_mem hx
    rw [Rx.enc_eq r]
    simp only [szT, szL, List.length_map]
    omega
  omega
  termination_by SizeOf.sizeOf r
  decreasing_by exact Rx.lt _ hx
def sumN (f : Rx → Nat) (l : List Rx) : Nat := (l.map f).sum
theorem sumN_cons (f : Rx → Nat) (a : Rx) (l : List Rx) : sumN f (a :: l) = f a + sumN f l := rfl
theorem maxL_cons (a : Nat) (l : List Nat) : maxL (a :: l) = max a (maxL l) := rfl
theorem leftOf_add (a b : Nat) (left : Int) : leftOf (a + b) left = if leftOf a left < 0 then -1 else leftOf b (leftOf a left) := by
  by_cases h : (a : Int) ≤ left
  · rw [leftOf_pos h, if_neg (by omega)]
    by_cases h2 : (b : Int) ≤ left - a
    · rw [leftOf_pos h2, leftOf_pos (by omega)]; omega
    · rw [leftOf_neg h2, leftOf_neg (by omega)]
  · rw [leftOf_neg h, if_pos (by decide), leftOf_neg (by omega)]
end Go.Ev
namespace Go.Ev
theorem argN_le (k : Int) : argN k ≤ 2 := by unfold argN; split <;> (try split) <;> (try split) <;> omega
end Go.Ev
namespace Go.Ev
def rowOk (n : Int) (row : List Int) : Bool := ((row.length : Int) == 3) && row.all fun q => decide (0 ≤ q) && decide (q ≤ n - 1)
def validD (d : Dfa) : Bool := (decide (1 ≤ (d.accept.length : Int)) && decide ((d.accept.length : Int) ≤ 40)) && (((d.next.length : Int) == d.accept.length) && d.next.all (rowOk d.accept.length))
theorem any_not {α : Type} (l : List α) (q : α → Bool) : (l.any fun x => !q x) = !l.all q := by
  induction l with
  | nil => rfl
  | cons a l ih => rw [List.any_cons, List.all_cons, ih]; cases q a <;> rfl
end Go.Ev
namespace Go.Ev
open Go
set_option linter.unusedVariables false
def nums (n : Int) (l : List Int) : Bool := l.all fun q => decide (0 ≤ q) && decide (q ≤ n - 1)
def rowN (n : Nat) (r : List Int) : Bool := ((r.length : Int) == n) && nums n r
def goodM (m : Mon) : Bool := !((m.maps.length : Int) == 0) && (((m.letters.length : Int) == 3) && (((m.product.length : Int) == m.maps.length) && (nums m.maps.length m.letters && m.product.all (rowN m.maps.length))))
def eqSta (a b : Sta) : Bool := (a.left.toList == b.left.toList) && ((a.right.toList == b.right.toList) && (a.maps == b.maps))
def solved (s : Sta) : Bool := decide (s.left.size = 0) && decide (s.right.size = 0)
def noM (l : List (List Int)) : Bool := l.any fun x => ((x.length : Int) == 0)
theorem getD_I {l : List Int} {i : Nat} (h : i < l.length) (v : V) : (l.map I).getD i v = I l[i] := by rw [getD_map h]
theorem drop_beq {l m : List Int} {i : Nat} (h1 : i < l.length) (h2 : i < m.length) : (l.drop i == m.drop i) = ((l[i] == m[i]) && (l.drop (i + 1) == m.drop (i + 1))) := by
  rw [List.drop_eq_getElem_cons h1, List.drop_eq_getElem_cons h2]
  rfl
end Go.Ev
namespace Go.Ev
theorem lcp_stop (l r : ByteArray) : ∀ (n k : Nat), l.size - k ≤ n → ¬ (lcp l r k < l.size ∧ lcp l r k < r.size ∧ bt l (lcp l r k) = bt r (lcp l r k)) := by
  intro n
  induction n with
  | zero => intro k h; rw [lcp_end (by omega)]; omega
  | succ n ih =>
    intro k h
    by_cases hc : k < l.size ∧ k < r.size ∧ bt l k = bt r k
    · rw [lcp_next hc.1 hc.2.1 hc.2.2]; exact ih _ (by omega)
    · rw [lcp_end hc]; exact hc
theorem strip_strip (e : Equ) : strip (strip e) = strip e := by
  unfold strip
  dsimp only
  have h := lcp_stop e.left e.right _ 0 (Nat.le_refl _)
  generalize lcp e.left e.right 0 = K at h ⊢
  have h0 : lcp (ext e.left K) (ext e.right K) 0 = 0 := by
    refine lcp_end ?_
    rintro ⟨h1, h2, h3⟩
    rw [ext_size] at h1 h2
    have e1 := ext_bt0 e.left K (by omega)
    have e2 := ext_bt0 e.right K (by omega)
    exact h ⟨by omega, by omega, by rw [← e1, ← e2]; exact h3⟩
  rw [h0, ext_zero, ext_zero]
theorem app_nil (a b : ByteArray) : decide ((a ++ b).size = 0) = (decide (a.size = 0) && decide (b.size = 0)) := by
  rw [ByteArray.size_append]
  by_cases h1 : a.size = 0 <;> by_cases h2 : b.size = 0 <;> simp [h1, h2]
theorem bt_app_left (a b : ByteArray) (h : 0 < a.size) : bt (a ++ b) 0 = bt a 0 := by
  unfold bt
  have h1 : (0 : Int).toNat < (a ++ b).size := by rw [ByteArray.size_append]; simp; omega
  have h2 : (0 : Int).toNat < a.size := by simpa using h
  rw [dif_pos h1, dif_pos h2]
  congr 2
  exact ByteArray.getElem_append_left h2
theorem bt_app_right (a b : ByteArray) (h : a.size = 0) : a ++ b = b := by
  have : a = ByteArray.empty := by
    apply ByteArray.ext
    exact Array.eq_empty_of_size_eq_zero h
  rw [this]
  simp
end Go.Ev
namespace Go.Ev
theorem idx_neg (c : UInt8) : ∀ l : List UInt8, Go.Lib.indexByte l c < 0 ↔ ∀ b ∈ l, b ≠ c := by
  intro l
  induction l with
  | nil => simp [Go.Lib.indexByte]
  | cons b l ih =>
    have hge := Go.Lib.indexByte_ge l c
    unfold Go.Lib.indexByte
    by_cases hb : b = c
    · subst hb; simp
    · have hb' : (b == c) = false := by simpa using hb
      rw [hb']
      simp only [Bool.false_eq_true, if_false, List.mem_cons, forall_eq_or_imp, ne_eq, hb, not_false_eq_true, true_and]
      by_cases hi : Go.Lib.indexByte l c = -1
      · rw [if_pos (by simp [hi])]
        constructor
        · intro _ x hx; exact ih.1 (by omega) x hx
        · intro _; decide
      · rw [if_neg (by simpa using hi)]
        constructor
        · intro h; omega
        · intro h; exact absurd (ih.2 h) (by omega)
theorem cnt_zero (c : Int) (s : ByteArray) : ∀ (n i : Nat), s.size - i ≤ n → (cntB c s i = 0 ↔ ∀ j : Nat, i ≤ j → j < s.size → bt s j ≠ c) := by
  intro n
  induction n with
  | zero => intro i h; rw [cntB_end c s (by omega)]; exact ⟨fun _ j h1 h2 => by omega, fun _ => rfl⟩
  | succ n ih =>
    intro i h
    by_cases hi : i < s.size
    · rw [cntB_next c s hi]
      have := ih (i + 1) (by omega)
      by_cases hb : bt s (i : Int) = c
      · rw [if_pos hb]
        exact ⟨fun h => by omega, fun h => absurd hb (h i (Nat.le_refl _) hi)⟩
      · rw [if_neg hb, Nat.zero_add, this]
        constructor
        · intro h j h1 h2
          by_cases hj : j = i
          · subst hj; exact hb
          · exact h j (by omega) h2
        · intro h j h1 h2; exact h j (by omega) h2
    · rw [cntB_end c s hi]; exact ⟨fun _ j h1 h2 => by omega, fun _ => rfl⟩
theorem idx_cnt (s : ByteArray) (c : Int) (h0 : 0 ≤ c) (h1 : c < 256) : (idxB s c < 0) = (cntB c s 0 = 0) := by
  apply propext
  rw [cnt_zero c s _ 0 (Nat.le_refl _)]
  unfold idxB
  rw [idx_neg]
  have key : ∀ b : UInt8, b = c.toNat.toUInt8 ↔ (b.toNat : Int) = c := by
    intro b
    have hb := b.toNat_lt
    constructor
    · rintro rfl
      have : (c.toNat.toUInt8).toNat = c.toNat := by
        show (UInt8.ofNat c.toNat).toNat = _
        simp only [UInt8.toNat_ofNat']
        omega
      omega
    · intro h
      apply UInt8.toNat_inj.1
      have : (c.toNat.toUInt8).toNat = c.toNat := by
        show (UInt8.ofNat c.toNat).toNat = _
        simp only [UInt8.toNat_ofNat']
        omega
      omega
  constructor
  · intro h j _ hj e
    have hm : s.data.toList[j]'(by simpa using hj) ∈ s.data.toList := List.getElem_mem _
    refine h _ hm ((key _).2 ?_)
    unfold bt at e
    rw [dif_pos (by simpa using hj)] at e
    have e2 : ((s.data[j]'(by simpa using hj)).toNat : Int) = c := e
    simpa using e2
  · intro h b hb e
    obtain ⟨j, hj, rfl⟩ := List.getElem_of_mem hb
    have hj' : j < s.size := by simpa using hj
    refine h j (Nat.zero_le _) hj' ?_
    unfold bt
    rw [dif_pos (by simpa using hj')]
    have e2 : ((s.data[j]'hj').toNat : Int) = c := by
      have := (key _).1 e
      simpa using this
    exact e2
/-! start states -/
def choice (e : Equ) (c : Int) (l : List Int) : List Int := if cntB c (e.left ++ e.right) 0 = 0 then l.take 1 else l
def xyz (k : Nat) : Int := bt ⟨#[88, 89, 90]⟩ k
def staR (e : Equ) (a b : Int) (z : List Int) : List Sta := z.map fun c => ⟨e.left, e.right, [a, b, c]⟩
def staY (e : Equ) (a : Int) (y z : List Int) : List Sta := y.flatMap fun b => staR e a b z
def staX (e : Equ) (x y z : List Int) : List Sta := x.flatMap fun a => staY e a y z
def startsOf (e : Equ) (x y z : List Int) : List Sta := if x.length * y.length * z.length > 400 then [] else staX e x y z
def chs (f : Frm) (k : Nat) : List Int := choice f.equ (xyz k) (f.allowed.getD k [])
def starts (f : Frm) : List Sta := if f.allowed.length = 3 then startsOf (strip f.equ) (chs f 0) (chs f 1) (chs f 2) else []
theorem staR_len (e : Equ) (a b : Int) (z : List Int) : (staR e a b z).length = z.length := by simp [staR]
theorem staY_len (e : Equ) (a : Int) (z : List Int) : ∀ y : List Int, (staY e a y z).length = y.length * z.length := by
  intro y
  induction y with
  | nil => simp [staY]
  | cons b y ih =>
    have : staY e a (b :: y) z = staR e a b z ++ staY e a y z := by simp [staY]
    rw [this, List.length_append, ih, staR_len, List.length_cons, Nat.succ_mul]; omega
theorem staX_len (e : Equ) (y z : List Int) : ∀ x : List Int, (staX e x y z).length = x.length * y.length * z.length := by
  intro x
  induction x with
  | nil => simp [staX]
  | cons b x ih =>
    have : staX e (b :: x) y z = staY e b y z ++ staX e x y z := by simp [staX]
    rw [this, List.length_append, ih, staY_len, List.length_cons, Nat.succ_mul, Nat.add_mul]; omega
theorem staX_cons (e : Equ) (a : Int) (x y z : List Int) : staX e (a :: x) y z = staY e a y z ++ staX e x y z := by simp [staX]
theorem staY_cons (e : Equ) (a b : Int) (y z : List Int) : staY e a (b :: y) z = staR e a b z ++ staY e a y z := by simp [staY]
theorem staR_cons (e : Equ) (a b c : Int) (z : List Int) : staR e a b (c :: z) = ⟨e.left, e.right, [a, b, c]⟩ :: staR e a b z := rfl
theorem choice_le (e : Equ) (c : Int) (l : List Int) : (choice e c l).length ≤ l.length := by
  unfold choice
  split
  · simp; omega
  · exact Nat.le_refl _
theorem chs_le (f : Frm) (k n : Nat) (h : ∀ l ∈ f.allowed, l.length ≤ n) : (chs f k).length ≤ n := by
  unfold chs
  refine Nat.le_trans (choice_le _ _ _) ?_
  rw [List.getD_eq_getElem?_getD]
  cases hh : f.allowed[k]? with
  | none => simp
  | some l => exact h _ (List.mem_of_getElem? hh)
theorem min_take (l : List Int) : ((l.map I).take (min 1 l.length)) = (l.take 1).map I := by
  rw [List.map_take]
  cases l with
  | nil => rfl
  | cons a l =>
    have : min 1 (a :: l).length = 1 := by simp
    rw [this]
theorem min_len (l : List Int) : (if (1 : Int) < (l.length : Int) then (1 : Int) else (l.length : Int)) = ((min 1 l.length : Nat) : Int) := by
  split <;> omega
theorem min_len2 (l : List Int) : (if (l.length : Int) < 1 then (l.length : Int) else 1) = ((min 1 l.length : Nat) : Int) := by
  split <;> omega
end Go.Ev
namespace Go.Ev
theorem prod_ge {a b c : Nat} (ha : 0 < a) (hb : 0 < b) (hc : 0 < c) : a ≤ a * b * c ∧ b ≤ a * b * c ∧ c ≤ a * b * c := by
  have h1 : a ≤ a * b := Nat.le_mul_of_pos_right a hb
  have h2 : b ≤ a * b := Nat.le_mul_of_pos_left b ha
  have h3 : a * b ≤ a * b * c := Nat.le_mul_of_pos_right _ hc
  have h4 : c ≤ a * b * c := Nat.le_mul_of_pos_left c (by omega)
  omega
theorem prod_big {a b c : Nat} (h : a > 1000 ∨ b > 1000 ∨ c > 1000) (hp : ¬ a * b * c > 400) : a * b * c = 0 := by
  rcases Nat.eq_zero_or_pos a with rfl | ha
  · simp
  rcases Nat.eq_zero_or_pos b with rfl | hb
  · simp
  rcases Nat.eq_zero_or_pos c with rfl | hc
  · simp
  have := prod_ge ha hb hc
  omega
theorem prod_min (a b c : Nat) : (min a 401 * min b 401 * min c 401 > 400) ↔ a * b * c > 400 := by
  constructor
  · intro h
    have : min a 401 * min b 401 * min c 401 ≤ a * b * c := Nat.mul_le_mul (Nat.mul_le_mul (Nat.min_le_left _ _) (Nat.min_le_left _ _)) (Nat.min_le_left _ _)
    omega
  · intro h
    rcases Nat.eq_zero_or_pos a with rfl | ha
    · simp at h
    rcases Nat.eq_zero_or_pos b with rfl | hb
    · simp at h
    rcases Nat.eq_zero_or_pos c with rfl | hc
    · simp at h
    have h1 := prod_ge (a := min a 401) (b := min b 401) (c := min c 401) (by omega) (by omega) (by omega)
    by_cases k1 : a > 400
    · omega
    by_cases k2 : b > 400
    · omega
    by_cases k3 : c > 400
    · omega
    rw [Nat.min_eq_left (by omega : a ≤ 401), Nat.min_eq_left (by omega : b ≤ 401), Nat.min_eq_left (by omega : c ≤ 401)]
    exact h
theorem starts_big {e : Equ} {x y z : List Int} (h : x.length > 1000 ∨ y.length > 1000 ∨ z.length > 1000) : startsOf e x y z = [] := by
  unfold startsOf
  split
  · rfl
  · rename_i hp
    refine List.eq_nil_of_length_eq_zero ?_
    rw [staX_len]
    exact prod_big h hp
end Go.Ev
namespace Go.Ev
def cntK (f : Frm) : Nat → Nat
  | 0 => 1
  | i + 1 => cntK f i * min (chs f i).length 401
theorem cntK_le (f : Frm) : ∀ i, cntK f i ≤ 401 ^ i := by
  intro i
  induction i with
  | zero => exact Nat.le_refl _
  | succ i ih => exact Nat.mul_le_mul ih (Nat.min_le_right _ _)
theorem cntK_3 (f : Frm) : cntK f 3 = min (chs f 0).length 401 * min (chs f 1).length 401 * min (chs f 2).length 401 := by
  show 1 * _ * _ * _ = _
  rw [Nat.one_mul]
theorem min_401 (n : Nat) : (if (401 : Int) < (n : Int) then (401 : Int) else (n : Int)) = ((min n 401 : Nat) : Int) := by
  split <;> omega
theorem snoc_range {α : Type} (f : Nat → α) (g : α → V) (i : Nat) : ((List.range i).map f).map g ++ [g (f i)] = ((List.range (i + 1)).map f).map g := by
  rw [List.range_succ, List.map_append, List.map_append]; rfl
end Go.Ev
namespace Go.Ev
open Go
set_option linter.unusedVariables false
def vIx (c : Int) : Nat := (c - 88).toNat
def ownM (s : Sta) (m : Mov) : Int := s.maps.getD (vIx m.name) 0
/-- the map of a byte of a side -/
def byteMap (f : Frm) (s : Sta) (c : Int) : Int := if isVar c = true then s.maps.getD (vIx c) 0 else f.mon.letters.getD (ltr c).toNat 0
def movedE (s : Sta) (m : Mov) : Equ := strip ⟨repV s.left m.name m.by_, repV s.right m.name m.by_⟩
def movedS (s : Sta) (m : Mov) (k : Int) : Sta := ⟨(movedE s m).left, (movedE s m).right, s.maps.set (vIx m.name) k⟩
def goodS (f : Frm) (s : Sta) : Bool := goodM f.mon && (((s.maps.length : Int) == 3) && (nums f.mon.maps.length s.maps && (allB sideB s.left 0 && allB sideB s.right 0)))
def prodAt (f : Frm) (g : Int) (k : Nat) : Int := (f.mon.product.getD g.toNat []).getD k 0
def hitK (f : Frm) (s : Sta) (m : Mov) (k : Nat) : List Stp := if prodAt f (byteMap f s (bt m.by_ 0)) k = ownM s m then [⟨m, movedS s m k⟩] else []
def stepsM (f : Frm) (s : Sta) (m : Mov) : List Stp :=
  if m.by_.size = 0 then (if ownM s m = 0 then [⟨m, movedS s m 0⟩] else []) else (List.range f.mon.maps.length).flatMap (hitK f s m)
def movesS (s : Sta) : List Mov := moves (strip ⟨s.left, s.right⟩)
def steps (f : Frm) (s : Sta) : List Stp := if goodS f s = true then (movesS s).flatMap (stepsM f s) else []

theorem range_drop {n k : Nat} (h : k < n) : (List.range n).drop k = k :: (List.range n).drop (k + 1) := by
  rw [List.drop_eq_getElem_cons (by simpa using h), List.getElem_range]
theorem hitK_le (f : Frm) (s : Sta) (m : Mov) (k : Nat) : (hitK f s m k).length ≤ 1 := by
  unfold hitK; split <;> simp
theorem flatMap_le {α β : Type} (g : α → List β) (n : Nat) : ∀ l : List α, (∀ x ∈ l, (g x).length ≤ n) → (l.flatMap g).length ≤ l.length * n := by
  intro l
  induction l with
  | nil => intro _; simp
  | cons a l ih =>
    intro h
    rw [List.flatMap_cons, List.length_append, List.length_cons, Nat.succ_mul]
    have := ih fun x hx => h x (List.mem_cons_of_mem _ hx)
    have := h a (List.mem_cons_self ..)
    omega
theorem stepsM_le (f : Frm) (s : Sta) (m : Mov) : (stepsM f s m).length ≤ f.mon.maps.length + 1 := by
  unfold stepsM
  split
  · split <;> simp
  · have := flatMap_le (hitK f s m) 1 (List.range f.mon.maps.length) fun k _ => hitK_le f s m k
    simp only [List.length_range] at this
    omega
theorem first2_len (a b : Int) : (first2 a b).length ≤ 2 := by
  unfold first2
  split
  · split <;> simp
  · simp
theorem moves_le (e : Equ) : (moves e).length ≤ 4 := by
  unfold moves
  split
  · simp
  split
  · simp
  split
  · simp
  · rw [List.length_append]
    have := first2_len (bt e.left 0) (bt e.right 0)
    have := first2_len (bt e.right 0) (bt e.left 0)
    omega
theorem steps_le (f : Frm) (s : Sta) : ((movesS s).flatMap (stepsM f s)).length ≤ 4 * (f.mon.maps.length + 1) := by
  have h1 := flatMap_le (stepsM f s) (f.mon.maps.length + 1) (movesS s) fun m _ => stepsM_le f s m
  have h2 := moves_le (strip ⟨s.left, s.right⟩)
  exact Nat.le_trans h1 (Nat.mul_le_mul_right _ h2)
/-- what a move is -/
structure GoodMove (m : Mov) : Prop where
  var : isVar m.name = true
  by_ : m.by_.size = 0 ∨ ∃ c, 0 ≤ c ∧ c < 256 ∧ m.by_ = pair c m.name ∧ (isVar c = true ∨ 0 ≤ ltr c)
theorem GoodMove.size {m : Mov} (h : GoodMove m) : m.by_.size ≤ 2 := by
  rcases h.by_ with h | ⟨c, _, _, h, _⟩
  · omega
  · rw [h, pair_size]; exact Nat.le_refl _
theorem first2_good {a b : Int} (h0 : 0 ≤ b) (h1 : b < 256) : ∀ m ∈ first2 a b, GoodMove m := by
  intro m hm
  unfold first2 at hm
  split at hm
  · rename_i ha
    split at hm
    · rename_i hb
      simp only [List.mem_cons, List.not_mem_nil, or_false] at hm
      rcases hm with rfl | rfl
      · exact ⟨ha, .inl rfl⟩
      · refine ⟨ha, .inr ⟨b, h0, h1, rfl, ?_⟩⟩
        simpa using hb
    · simp only [List.mem_cons, List.not_mem_nil, or_false] at hm
      subst hm
      exact ⟨ha, .inl rfl⟩
  · cases hm
theorem allB_at {p : Int → Bool} {s : ByteArray} (h : allB p s 0 = true) (h0 : 0 < s.size) : p (bt s 0) = true := by
  rw [allB_next p s h0, Bool.and_eq_true] at h
  exact h.1
theorem empty_of {a : ByteArray} (h : a.size = 0) : a = ⟨#[]⟩ := by
  apply ByteArray.ext
  exact Array.eq_empty_of_size_eq_zero h
theorem app_empty (a b : ByteArray) (h : b.size = 0) : a ++ b = a := by
  rw [empty_of h]
  apply ByteArray.ext
  simp [ByteArray.data_append]
theorem moves_good (e : Equ) : ∀ m ∈ moves e, GoodMove m := by
  intro m hm
  unfold moves at hm
  split at hm
  · cases hm
  rename_i h0
  have hc : clash e = false := by
    cases h : clash e
    · rfl
    · exact absurd (.inr h) h0
  unfold clash at hc
  split at hm
  · rename_i h1
    simp only [List.mem_cons, List.not_mem_nil, or_false] at hm
    subst hm
    rw [if_pos (.inl h1)] at hc
    have hr : ¬ e.right.size = 0 := fun h => h0 (.inl ⟨h1, h⟩)
    rw [bt_app_right _ _ h1] at hc
    exact ⟨allB_at (by simpa using hc) (by omega), .inl rfl⟩
  rename_i h1
  split at hm
  · rename_i h2
    simp only [List.mem_cons, List.not_mem_nil, or_false] at hm
    subst hm
    rw [if_pos (.inr h2), app_empty _ _ h2] at hc
    exact ⟨allB_at (by simpa using hc) (by omega), .inl rfl⟩
  rcases List.mem_append.1 hm with hm | hm
  · exact first2_good (bt_nonneg _ _) (bt_lt _ _) m hm
  · exact first2_good (bt_nonneg _ _) (bt_lt _ _) m hm
theorem pair_at (a b : Int) (h : 0 ≤ a) (h' : a < 256) : bt (pair a b) 0 = a := by
  unfold bt
  rw [dif_pos (show (0 : Int).toNat < (pair a b).size by rw [pair_size]; decide)]
  show ((UInt8.ofNat a.toNat).toNat : Int) = a
  simp only [UInt8.toNat_ofNat']
  omega
theorem isVar_iff {c : Int} (h : isVar c = true) : 88 ≤ c ∧ c ≤ 90 := by
  unfold isVar at h
  simpa using h
theorem ltr_lt (c : Int) : ltr c < 3 := by
  unfold ltr
  repeat' split
  all_goals omega
theorem isVar_ltr {c : Int} (h : isVar c = true) : ltr c = -1 := by
  have := isVar_iff h
  unfold ltr
  rw [if_neg (by omega), if_neg (by omega), if_neg (by omega)]
theorem nums_getD {n : Nat} {l : List Int} (h : nums n l = true) {i : Nat} (hi : i < l.length) : 0 ≤ l.getD i 0 ∧ l.getD i 0 < n := by
  unfold nums at h
  rw [List.all_eq_true] at h
  have := h (l.getD i 0) (by rw [List.getD_eq_getElem?_getD, List.getElem?_eq_getElem hi]; exact List.getElem_mem hi)
  simp only [Bool.and_eq_true, decide_eq_true_eq] at this
  omega
/-- what a good frame and state have -/
structure GoodF (f : Frm) (s : Sta) : Prop where
  lets : f.mon.letters.length = 3
  prod : f.mon.product.length = f.mon.maps.length
  nl : nums f.mon.maps.length f.mon.letters = true
  row : ∀ r ∈ f.mon.product, r.length = f.mon.maps.length
  maps : s.maps.length = 3
  nm : nums f.mon.maps.length s.maps = true
theorem goodS_F {f : Frm} {s : Sta} (h : goodS f s = true) : GoodF f s := by
  unfold goodS goodM at h
  simp only [Bool.and_eq_true, beq_iff_eq] at h
  obtain ⟨⟨_, h1, h2, h3, h4⟩, h5, h6, _, _⟩ := h
  refine ⟨by omega, by omega, h3, fun r hr => ?_, by omega, h6⟩
  have := List.all_eq_true.1 h4 r hr
  unfold rowN at this
  simp only [Bool.and_eq_true, beq_iff_eq] at this
  omega
theorem GoodF.byte {f : Frm} {s : Sta} (h : GoodF f s) {c : Int} (hc : isVar c = true ∨ 0 ≤ ltr c) : 0 ≤ byteMap f s c ∧ byteMap f s c < f.mon.maps.length := by
  unfold byteMap
  split
  · rename_i hv
    have := isVar_iff hv
    exact nums_getD h.nm (by rw [h.maps]; unfold vIx; omega)
  · rename_i hv
    have h0 : 0 ≤ ltr c := hc.resolve_left hv
    have := ltr_lt c
    exact nums_getD h.nl (by rw [h.lets]; omega)
theorem GoodF.rowAt {f : Frm} {s : Sta} (h : GoodF f s) {g : Int} (h0 : 0 ≤ g) (h1 : g < f.mon.maps.length) : (f.mon.product.getD g.toNat []).length = f.mon.maps.length := by
  have hi : g.toNat < f.mon.product.length := by rw [h.prod]; omega
  rw [List.getD_eq_getElem?_getD, List.getElem?_eq_getElem hi]
  exact h.row _ (List.getElem_mem hi)
theorem get_I {l : List Int} {i : Nat} (h : i < l.length) (v : V) : (l.map I).getD i v = I (l.getD i 0) := by
  rw [getD_map h, List.getD_eq_getElem?_getD, List.getElem?_eq_getElem h]; rfl
theorem get_IL {l : List (List Int)} {i : Nat} (h : i < l.length) (v : V) : (l.map IL).getD i v = IL (l.getD i []) := by
  rw [getD_map h, List.getD_eq_getElem?_getD, List.getElem?_eq_getElem h]; rfl
theorem enc_snocS (out : List Stp) (s : Stp) : out.map Stp.enc ++ [s.enc] = (out ++ [s]).map Stp.enc := by simp
theorem map_set_I (l : List Int) (i : Nat) (k : Int) : (l.map I).set i (I k) = (l.set i k).map I := by rw [List.map_set]
theorem side_app (a b : ByteArray) (p : Int → Bool) : allB p (a ++ b) 0 = (allB p a 0 && allB p b 0) := by
  have key : ∀ s : ByteArray, ∀ n i : Nat, s.size - i ≤ n → (allB p s i = true ↔ ∀ j : Nat, i ≤ j → j < s.size → p (bt s j) = true) := by
    intro s n
    induction n with
    | zero => intro i h; rw [allB_end p s (by omega)]; exact ⟨fun _ j h1 h2 => by omega, fun _ => rfl⟩
    | succ n ih =>
      intro i h
      by_cases hi : i < s.size
      · rw [allB_next p s hi, Bool.and_eq_true, ih (i + 1) (by omega)]
        constructor
        · rintro ⟨h1, h2⟩ j hj hj'
          by_cases e : j = i
          · subst e; exact h1
          · exact h2 j (by omega) hj'
        · intro h; exact ⟨h i (Nat.le_refl _) hi, fun j hj hj' => h j (by omega) hj'⟩
      · rw [allB_end p s hi]; exact ⟨fun _ j h1 h2 => by omega, fun _ => rfl⟩
  have hbt : ∀ j : Nat, bt (a ++ b) j = if j < a.size then bt a j else bt b ((j - a.size : Nat) : Int) := by
    intro j
    unfold bt
    simp only [Int.toNat_natCast]
    by_cases h : j < a.size
    · rw [if_pos h, dif_pos (by rw [ByteArray.size_append]; omega), dif_pos h]
      congr 2
      exact ByteArray.getElem_append_left h
    · rw [if_neg h]
      by_cases h2 : j < (a ++ b).size
      · have h3 : j - a.size < b.size := by rw [ByteArray.size_append] at h2; omega
        rw [dif_pos h2, dif_pos h3]
        congr 2
        exact ByteArray.getElem_append_right (by omega)
      · have h3 : ¬ j - a.size < b.size := by rw [ByteArray.size_append] at h2; omega
        rw [dif_neg h2, dif_neg h3]
  rw [Bool.eq_iff_iff, Bool.and_eq_true, key _ _ 0 (Nat.le_refl _), key _ _ 0 (Nat.le_refl _), key _ _ 0 (Nat.le_refl _)]
  constructor
  · intro h
    constructor
    · intro j _ hj
      have := h j (Nat.zero_le _) (by rw [ByteArray.size_append]; omega)
      rw [hbt, if_pos hj] at this
      exact this
    · intro j _ hj
      have := h (a.size + j) (Nat.zero_le _) (by rw [ByteArray.size_append]; omega)
      rw [hbt, if_neg (by omega), Nat.add_sub_cancel_left] at this
      exact this
  · rintro ⟨h1, h2⟩ j _ hj
    rw [hbt]
    split
    · rename_i h; exact h1 j (Nat.zero_le _) h
    · rename_i h
      rw [ByteArray.size_append] at hj
      exact h2 _ (Nat.zero_le _) (by omega)
end Go.Ev
namespace Go.Ev
open Go
set_option linter.unusedVariables false
def has (l : List Sta) (s : Sta) : Bool := l.any fun x => eqSta x s
def nodeOk (f : Frm) (l : List Sta) (s : Sta) : Bool := (steps f s).all (fun t => has l t.to) && !solved s
def closed (f : Frm) (l : List Sta) : Bool := goodM f.mon && (decide (l.length ≤ 300) && ((!((starts f).length : Int) == 0) || (((f.allowed.length : Int) == 3) && noM f.allowed)) && ((starts f).all (has l) && l.all (nodeOk f l)))
structure FrmOk (f : Frm) : Prop where
  l : f.equ.left.size ≤ 1048576
  r : f.equ.right.size ≤ 1048576
  m : f.mon.maps.length ≤ 1048576
  t : f.mon.letters.length ≤ 1048576
  p : f.mon.product.length ≤ 1048576
  q : ∀ r ∈ f.mon.product, r.length ≤ 1048576
  a : f.allowed.length ≤ 1048576
  b : ∀ r ∈ f.allowed, r.length ≤ 1048576
structure StaOk (s : Sta) : Prop where
  l : s.left.size ≤ 1048576
  r : s.right.size ≤ 1048576
  m : s.maps.length ≤ 1048576
theorem starts_maps (f : Frm) : ∀ x ∈ starts f, x.maps.length ≤ 1048576 := by
  intro x hx
  unfold starts at hx
  split at hx
  · unfold startsOf at hx
    split at hx
    · cases hx
    · unfold staX at hx
      obtain ⟨a, _, hx⟩ := List.mem_flatMap.1 hx
      unfold staY at hx
      obtain ⟨b, _, hx⟩ := List.mem_flatMap.1 hx
      unfold staR at hx
      obtain ⟨c, _, rfl⟩ := List.mem_map.1 hx
      show 3 ≤ _
      decide
  · cases hx
theorem starts_le (f : Frm) : (starts f).length ≤ 400 := by
  unfold starts
  split
  · unfold startsOf
    split
    · simp
    · rename_i h; rw [staX_len]; omega
  · simp
theorem stepsM_maps {f : Frm} {s : Sta} {m : Mov} : ∀ x ∈ stepsM f s m, x.to.maps.length = s.maps.length := by
  intro x hx
  unfold stepsM at hx
  split at hx
  · split at hx
    · simp only [List.mem_cons, List.not_mem_nil, or_false] at hx
      subst hx
      show (s.maps.set _ _).length = _
      simp
    · cases hx
  · obtain ⟨k, _, hx⟩ := List.mem_flatMap.1 hx
    unfold hitK at hx
    split at hx
    · simp only [List.mem_cons, List.not_mem_nil, or_false] at hx
      subst hx
      show (s.maps.set _ _).length = _
      simp
    · cases hx
theorem steps_maps {f : Frm} {s : Sta} : ∀ x ∈ steps f s, x.to.maps.length = s.maps.length := by
  intro x hx
  unfold steps at hx
  split at hx
  · obtain ⟨m, _, hx⟩ := List.mem_flatMap.1 hx
    exact stepsM_maps x hx
  · cases hx
theorem steps_len (f : Frm) (s : Sta) : (steps f s).length ≤ 4 * (f.mon.maps.length + 1) := by
  unfold steps
  split
  · exact steps_le f s
  · simp
end Go.Ev
namespace Go.Ev
open Go
theorem row_le {l : List (List Int)} {r : List Int} (h : r ∈ l) : r.length ≤ szL (l.map IL) := by
  have := szL_mem (f := IL) h
  simp only [IL, szT, List.length_map] at this
  omega
theorem FrmOk.of {f : Frm} (h : szT f.enc ≤ 1048576) : FrmOk f := by
  simp only [Frm.enc, Equ.enc, Mon.enc, szT, szL, List.length_map] at h
  refine ⟨by omega, by omega, by omega, by omega, by omega, fun r hr => ?_, by omega, fun r hr => ?_⟩
  · have := row_le hr; omega
  · have := row_le hr; omega
theorem StaOk.of {s : Sta} (h : szT s.enc ≤ 1048576) : StaOk s := by
  simp only [Sta.enc, szT, szL, List.length_map] at h
  exact ⟨by omega, by omega, by omega⟩
end Go.Ev
namespace Go.Ev
open Go Go.RowKit
set_option linter.unusedVariables false
set_option linter.unusedSimpArgs false

/-- typed cells, as deep as the reading went -/
def TyOk (P : Program) : Nat → TypeId → List V → Prop
  | 0, _, _ => False
  | n + 1, t, vs => match P.underlying t with
    | some .bool => ∃ b, vs = [.bool b]
    | some (.int k) => ∃ m, vs = [.int k m] ∧ (Lit.int k m).wf = true
    | some .string => ∃ s, vs = [.str s] ∧ s.size ≤ maxLen
    | some (.slice e) => ∃ l, vs = [.slc false (P.cellsOf e) l] ∧ l.length ≤ maxLen ∧ ∀ x ∈ l, ∃ us, x = pack (isAgg P e) us ∧ TyOk P n e us ∧ us.length = P.cellsOf e
    | some (.struct fs) => vs.length = P.cellsOf t ∧ ∀ f ∈ fs.toList, TyOk P n f.type ((vs.drop f.offset).take (P.cellsOf f.type))
    | _ => False
/-- a struct's fields lie one behind the other -/
def tiles (P : Program) : Nat → List Field → Nat → Bool
  | n, [], m => n == m
  | n, f :: fs, m => f.offset == n && P.cellsOf f.type != 0 && tiles P (n + P.cellsOf f.type) fs m
def closedT (P : Program) (L : List TypeId) : Bool := L.all fun t => match P.underlying t with
  | some .bool | some (.int _) | some .string => P.cellsOf t == 1
  | some (.slice e) => P.cellsOf t == 1 && memN e L && P.cellsOf e != 0 && (isAgg P e || P.cellsOf e == 1)
  | some (.struct fs) => fs.toList.all (fun f => memN f.type L) && tiles P 0 fs.toList (P.cellsOf t)
  | _ => false

theorem memN_mem : ∀ {l : List Nat} {n : Nat}, memN n l = true → n ∈ l := by
  intro l
  induction l with
  | nil => intro n h; cases h
  | cons a l ih =>
    intro n h
    unfold memN at h
    split at h
    · rename_i e; subst e; exact List.mem_cons_self ..
    · exact List.mem_cons_of_mem _ (ih h)

abbrev CellTr (W : World) (v : V) (c : Value) : Prop := Tr (fun g j => W.cell? ⟨g, j, none⟩) (fun _ _ => none) v c
/-- a row of cells, read as trees -/
def RowTr (W : World) (vs : List V) (cs : List Value) : Prop := vs.length = cs.length ∧ vs.all pureC = true ∧ ∀ j, j < vs.length → CellTr W (vs.getD j .undef) (cs.getD j Go.undef)

theorem RowTr.append {W : World} {a b : List V} {c d : List Value} (h : RowTr W a c) (h' : RowTr W b d) : RowTr W (a ++ b) (c ++ d) := by
  obtain ⟨h1, h2, h3⟩ := h
  obtain ⟨k1, k2, k3⟩ := h'
  refine ⟨by simp [h1, k1], by simp [List.all_append, h2, k2], fun j hj => ?_⟩
  simp only [List.getD_eq_getElem?_getD] at h3 k3 ⊢
  by_cases hl : j < a.length
  · rw [List.getElem?_append_left hl, List.getElem?_append_left (by omega)]
    exact h3 j hl
  · rw [List.getElem?_append_right (by omega), List.getElem?_append_right (by omega), ← h1]
    simp only [List.length_append] at hj
    exact k3 _ (by omega)

theorem tile_row {P : Program} {W : World} {Q : Field → List V → Prop} {m : Nat} {cs : List Value} (hm : cs.length = m) : ∀ (fs : List Field) (n : Nat), tiles P n fs m = true → n ≤ m →
    (∀ f ∈ fs, ∃ us, Q f us ∧ us.length = P.cellsOf f.type ∧ RowTr W us ((cs.drop f.offset).take (P.cellsOf f.type))) →
    ∃ vs, n + vs.length = m ∧ RowTr W vs (cs.drop n) ∧ ∀ f ∈ fs, n ≤ f.offset ∧ Q f ((vs.drop (f.offset - n)).take (P.cellsOf f.type)) := by
  intro fs
  induction fs with
  | nil =>
    intro n ht hn _
    have : n = m := by simpa [tiles] using ht
    subst this
    refine ⟨[], rfl, ?_, fun f hf => by cases hf⟩
    rw [List.drop_eq_nil_of_le (by omega)]
    exact ⟨rfl, rfl, fun j hj => by cases hj⟩
  | cons f fs ih =>
    intro n ht hn h
    simp only [tiles, Bool.and_eq_true, beq_iff_eq] at ht
    obtain ⟨⟨ho, h0⟩, ht⟩ := ht
    obtain ⟨us, hq, hl, hr⟩ := h f (List.mem_cons_self ..)
    have hle : n + P.cellsOf f.type ≤ m := by
      have := hr.1
      rw [hl, List.length_take, List.length_drop, ho, hm] at this
      omega
    obtain ⟨vs, hv, hw, hf⟩ := ih _ ht hle (fun g hg => h g (List.mem_cons_of_mem _ hg))
    refine ⟨us ++ vs, by rw [List.length_append]; omega, ?_, ?_⟩
    · have : cs.drop n = (cs.drop n).take (P.cellsOf f.type) ++ cs.drop (n + P.cellsOf f.type) := by
        rw [← List.drop_drop, List.take_append_drop]
      rw [this]
      rw [ho] at hr
      exact hr.append hw
    · intro g hg
      rcases List.mem_cons.1 hg with rfl | hg
      · refine ⟨by omega, ?_⟩
        rw [ho, Nat.sub_self, List.drop_zero, ← hl, List.take_left]
        exact hq
      · obtain ⟨h1, h2⟩ := hf g hg
        refine ⟨by omega, ?_⟩
        have : (us ++ vs).drop (g.offset - n) = vs.drop (g.offset - (n + P.cellsOf f.type)) := by
          rw [List.drop_append]
          rw [List.drop_eq_nil_of_le (by omega), List.nil_append]
          congr 1
          omega
        rw [this]
        exact h2

theorem exists_rows {α : Type} {p : Nat → α → Prop} : ∀ n, (∀ i, i < n → ∃ a, p i a) → ∃ xs : List α, xs.length = n ∧ ∀ i a, xs[i]? = some a → p i a
  | 0, _ => ⟨[], rfl, fun i a h => by simp at h⟩
  | n + 1, h => by
    obtain ⟨xs, hl, hx⟩ := exists_rows n (fun i hi => h i (by omega))
    obtain ⟨a, ha⟩ := h n (by omega)
    refine ⟨xs ++ [a], by simp [hl], fun i b hb => ?_⟩
    by_cases hi : i < n
    · rw [List.getElem?_append_left (by omega)] at hb
      exact hx i b hb
    · have hlt : i < (xs ++ [a]).length := by
        rcases Nat.lt_or_ge i (xs ++ [a]).length with h1 | h1
        · exact h1
        · rw [List.getElem?_eq_none h1] at hb; cases hb
      have : i = n := by simp [hl] at hlt; omega
      subst this
      rw [List.getElem?_append_right (by omega)] at hb
      simp [hl] at hb
      exact hb ▸ ha

theorem pack_flat {b : Bool} {us : List V} (h : b = true ∨ us.length = 1) (hp : us.all pureC = true) : (pack b us).flat = us := by
  unfold pack
  split
  · rfl
  · rcases h with h | h
    · rename_i e; exact absurd h e
    · match us, h with
      | [u], _ =>
        simp only [List.all_cons, List.all_nil, Bool.and_true] at hp
        cases u <;> first | rfl | cases hp

section
variable {H : Type} {enc : TypeId × Value → H} {P : Program} {W : World} {sp : Nat → Bool} {L : List TypeId}
theorem trod_tr (hL : closedT P L = true) : ∀ (fuel : Nat) (t : TypeId) (cs : List Value) (x : DataW H × List MemPlace), t ∈ L → DataW.trod enc P W 0 sp true fuel t cs = some x →
    ∃ vs, TyOk P fuel t vs ∧ vs.length = P.cellsOf t ∧ RowTr W vs cs := by
  intro fuel
  induction fuel with
  | zero => intro t cs x _ h; simp [DataW.trod] at h
  | succ fuel ih =>
    intro t cs x ht hx
    have hc := List.all_eq_true.1 hL t ht
    have one : ∀ {v : V} {c : Value}, pureC v = true → CellTr W v c → RowTr W [v] [c] := by
      intro v c hp hv
      refine ⟨rfl, by simp [hp], fun j hj => ?_⟩
      have : j = 0 := by simpa using hj
      subst this
      exact hv
    simp only [TyOk]
    revert hc
    cases hu : P.underlying t with
    | none => intro hc; cases hc
    | some td =>
      cases td with
      | bool =>
        intro hc
        simp only [DataW.trod, hu] at hx
        dsimp only at hc ⊢
        have hcc : P.cellsOf t = 1 := by simpa using hc
        rcases cs with _ | ⟨c, _ | ⟨c2, cs⟩⟩
        · simp at hx
        · cases c <;> simp at hx
          rename_i b
          exact ⟨[.bool b], ⟨b, rfl⟩, hcc.symm, one rfl (.bool b)⟩
        · simp at hx
      | int k =>
        intro hc
        simp only [DataW.trod, hu] at hx
        dsimp only at hc ⊢
        have hcc : P.cellsOf t = 1 := by simpa using hc
        rcases cs with _ | ⟨c, _ | ⟨c2, cs⟩⟩
        · simp at hx
        · cases c <;> simp at hx
          rename_i k' n
          obtain ⟨⟨rfl, hw⟩, _⟩ := hx
          exact ⟨[.int k' n], ⟨n, rfl, hw⟩, hcc.symm, one rfl (.int k' n)⟩
        · simp at hx
      | string =>
        intro hc
        simp only [DataW.trod, hu] at hx
        dsimp only at hc ⊢
        have hcc : P.cellsOf t = 1 := by simpa using hc
        rcases cs with _ | ⟨c, _ | ⟨c2, cs⟩⟩
        · simp at hx
        · cases c <;> simp at hx
          rename_i s
          exact ⟨[.str s], ⟨s, rfl, hx.1⟩, hcc.symm, one rfl (.str s)⟩
        · simp at hx
      | struct fs =>
        intro hc
        simp only [DataW.trod, hu] at hx
        dsimp only at hc ⊢
        simp only [Bool.and_eq_true] at hc
        obtain ⟨hcl, hti⟩ := hc
        split at hx
        · rename_i hl
          simp only [Option.map_eq_some_iff] at hx
          obtain ⟨xs, hxs, _⟩ := hx
          have hall : ∀ f ∈ fs.toList, ∃ us, TyOk P fuel f.type us ∧ us.length = P.cellsOf f.type ∧ RowTr W us ((cs.drop f.offset).take (P.cellsOf f.type)) := by
            intro f hf
            obtain ⟨i, hi, hie⟩ := List.getElem_of_mem hf
            have h1 := mapM_some_get hxs i f (by rw [List.getElem?_eq_getElem hi, hie])
            have h2 := mapM_some_length hxs
            rw [List.getElem?_eq_getElem (by omega)] at h1
            exact ih _ _ _ (memN_mem (List.all_eq_true.1 hcl f hf)) h1
          obtain ⟨vs, h1, h2, h3⟩ := tile_row (Q := fun f us => TyOk P fuel f.type us) hl fs.toList 0 hti (Nat.zero_le _) hall
          refine ⟨vs, ⟨by omega, fun f hf => ?_⟩, by omega, by simpa using h2⟩
          have := (h3 f hf).2
          simpa using this
        · cases hx
      | slice e =>
        intro hc
        simp only [DataW.trod, hu] at hx
        dsimp only at hc ⊢
        simp only [Bool.and_eq_true, Bool.or_eq_true, beq_iff_eq, bne_iff_ne, ne_eq] at hc
        obtain ⟨⟨⟨hcc, heL⟩, hne⟩, hag⟩ := hc
        split at hx
        all_goals (try (exfalso; simp_all; done))
        all_goals (try (rename_i heq; simp at heq; done))
        · rename_i heq
          refine ⟨[.slc false (P.cellsOf e) []], ⟨[], rfl, Nat.zero_le _, fun x hx => by cases hx⟩, hcc.symm, one rfl (.slc0 ..)⟩
        · rename_i e' a len cap hu'
          have hee : e' = e := by simpa using hu'.symm
          subst hee
          split at hx
          · rename_i hb
            obtain ⟨_, hlc, hcm⟩ := hb
            simp only [Option.bind_eq_some_iff] at hx
            obtain ⟨elems, hel, _⟩ := hx
            have h2 : elems.length = len := by have := mapM_some_length hel; simpa using this
            have hall : ∀ i, i < len → ∃ us : List V, ∃ cs : List Value, W.cells? 0 (a.add (i * P.cellsOf e')) (P.cellsOf e') = some cs ∧ TyOk P fuel e' us ∧ us.length = P.cellsOf e' ∧ RowTr W us cs := by
              intro i hi
              have h1 := mapM_some_get hel i i (by simp [hi])
              rw [List.getElem?_eq_getElem (by omega)] at h1
              simp only [Option.bind_eq_some_iff] at h1
              obtain ⟨cs, hcs, hy⟩ := h1
              obtain ⟨us, h3, h4, h5⟩ := ih _ _ _ (memN_mem heL) hy
              exact ⟨us, cs, hcs, h3, h4, h5⟩
            obtain ⟨xs, hl, hxs⟩ := exists_rows len hall
            subst hl
            by_cases h0 : xs.length = 0
            · have : xs = [] := List.length_eq_zero_iff.1 h0
              subst this
              exact ⟨[.slc false (P.cellsOf e') []], ⟨[], rfl, Nat.zero_le _, fun x hx => by cases hx⟩, hcc.symm, one rfl (.slc0 ..)⟩
            · have hcell : ∀ i us, xs[i]? = some us → ∀ j, j < P.cellsOf e' → ∃ c, W.cell? ((a.add (i * P.cellsOf e')).add j) = some c ∧ CellTr W (us.getD j .undef) c := by
                intro i us hi j hj
                obtain ⟨cs, hcs, h3, h4, h5⟩ := hxs i us hi
                unfold World.cells? at hcs
                simp at hcs
                have h6 := mapM_some_length hcs
                have h1 := mapM_some_get hcs j j (by simp [hj])
                have hj' : j < cs.length := by simpa [h6] using hj
                rw [List.getElem?_eq_getElem hj'] at h1
                refine ⟨_, h1, ?_⟩
                have := h5.2.2 j (by omega)
                simpa [List.getD_eq_getElem?_getD, List.getElem?_eq_getElem hj'] using this
              have hspot : a.spot = none := by
                obtain ⟨us, hus⟩ : ∃ us, xs[0]? = some us := ⟨_, List.getElem?_eq_getElem (by omega)⟩
                obtain ⟨c, h1, _⟩ := hcell 0 us hus 0 (by omega)
                have := World.cell?_spot h1
                simpa [Addr.add] using this
              obtain ⟨ab, ao, asp⟩ := a
              dsimp only at hspot
              subst hspot
              have hadd : ∀ i j, (Addr.add (Addr.add ⟨ab, ao, none⟩ (i * P.cellsOf e')) j) = ⟨ab, ao + i * P.cellsOf e' + j, none⟩ := by
                intro i j
                unfold Addr.add
                split
                · rename_i hj; subst hj
                  split
                  · rename_i hi; simp [hi]
                  · rfl
                · split
                  · rename_i hi; simp [hi]
                  · rfl
              have hpk : ∀ us ∈ xs, us.length = P.cellsOf e' ∧ us.all pureC = true ∧ (pack (isAgg P e') us).flat = us := by
                intro us hus
                obtain ⟨i, hi, hie⟩ := List.getElem_of_mem hus
                obtain ⟨cs, hcs, h3, h4, h5⟩ := hxs i us (by rw [List.getElem?_eq_getElem hi, hie])
                refine ⟨h4, h5.2.1, pack_flat ?_ h5.2.1⟩
                rcases hag with h | h
                · exact .inl h
                · exact .inr (by omega)
              have hget : ∀ i (hi : i < xs.length), ((xs.map (pack (isAgg P e'))).getD i .undef).flat = xs[i] := by
                intro i hi
                simp only [List.getD_eq_getElem?_getD, List.getElem?_map, List.getElem?_eq_getElem hi, Option.map_some, Option.getD_some]
                exact (hpk _ (List.getElem_mem hi)).2.2
              refine ⟨[.slc false (P.cellsOf e') (xs.map (pack (isAgg P e')))], ⟨_, rfl, by simp only [List.length_map]; omega, ?_⟩, hcc.symm, ?_⟩
              · intro v hv
                obtain ⟨us, hus, rfl⟩ := List.mem_map.1 hv
                obtain ⟨i, hi, hie⟩ := List.getElem_of_mem hus
                obtain ⟨cs, hcs, h3, h4, h5⟩ := hxs i us (by rw [List.getElem?_eq_getElem hi, hie])
                exact ⟨us, rfl, h3, h4⟩
              · have hlen : (xs.map (pack (isAgg P e'))).length = xs.length := List.length_map ..
                have key := Tr.slc (S := fun g j => W.cell? ⟨g, j, none⟩) (β := fun _ _ => none) (P.cellsOf e') (xs.map (pack (isAgg P e'))) ab ao cap
                  (fun i j => (W.cell? ⟨ab, ao + i * P.cellsOf e' + j, none⟩).getD Go.undef) (by omega)
                  (by
                    intro v hv
                    obtain ⟨us, hus, rfl⟩ := List.mem_map.1 hv
                    obtain ⟨h1, h2, h3⟩ := hpk us hus
                    rw [h3]
                    exact ⟨h1, h2⟩)
                  (by
                    intro i j hi hj
                    rw [hlen] at hi
                    obtain ⟨c, h1, _⟩ := hcell i xs[i] (List.getElem?_eq_getElem hi) j hj
                    rw [hadd] at h1
                    rw [h1]
                    rfl)
                  (by
                    intro i j hi hj
                    rw [hlen] at hi
                    obtain ⟨c, h1, h2⟩ := hcell i xs[i] (List.getElem?_eq_getElem hi) j hj
                    rw [hadd] at h1
                    rw [h1, hget i hi]
                    exact h2)
                rw [hlen] at key
                exact one rfl key
          · cases hx
      | _ => intro hc; cases hc
end
/-! typed cells, laid open -/
def fieldsOf (P : Program) (t : TypeId) : Option (List (TypeId × Nat)) := match P.underlying t with
  | some (.struct fs) => some (fs.toList.map fun f => (f.type, f.offset))
  | _ => none
theorem tyOk_struct {P : Program} {t : TypeId} {n : Nat} {vs : List V} {L : List (TypeId × Nat)} (h0 : fieldsOf P t = some L) (h : TyOk P (n + 1) t vs) : vs.length = P.cellsOf t ∧ ∀ p ∈ L, TyOk P n p.1 ((vs.drop p.2).take (P.cellsOf p.1)) := by
  unfold fieldsOf at h0
  simp only [TyOk] at h
  split at h0
  · rename_i fs hu
    rw [hu] at h
    obtain rfl := Option.some.inj h0
    refine ⟨h.1, fun p hp => ?_⟩
    obtain ⟨f, hf, rfl⟩ := List.mem_map.1 hp
    exact h.2 f hf
  · cases h0
theorem tyOk_int {P : Program} {t : TypeId} {n : Nat} {vs : List V} {k : IntKind} (hu : P.underlying t = some (.int k)) (h : TyOk P n t vs) : ∃ m, vs = [.int k m] ∧ (Lit.int k m).wf = true := by
  cases n with
  | zero => cases h
  | succ n => simpa only [TyOk, hu] using h
theorem tyOk_bool {P : Program} {t : TypeId} {n : Nat} {vs : List V} (hu : P.underlying t = some .bool) (h : TyOk P n t vs) : ∃ m, vs = [.bool m] := by
  cases n with
  | zero => cases h
  | succ n => simpa only [TyOk, hu] using h
theorem tyOk_str {P : Program} {t : TypeId} {n : Nat} {vs : List V} (hu : P.underlying t = some .string) (h : TyOk P n t vs) : ∃ m : ByteArray, vs = [.str m] ∧ m.size ≤ 9223372036854775807 := by
  cases n with
  | zero => cases h
  | succ n =>
    simp only [TyOk, hu] at h
    exact h
theorem list_of {α : Type} {f : α → V} : ∀ {l : List V}, (∀ x ∈ l, ∃ a : α, x = f a ∧ okV (f a)) → ∃ as : List α, l = as.map f ∧ okL (as.map f) := by
  intro l
  induction l with
  | nil => intro _; exact ⟨[], rfl, trivial⟩
  | cons b l ih =>
    intro h
    obtain ⟨a, rfl, ha⟩ := h b (List.mem_cons_self ..)
    obtain ⟨as, rfl, hs⟩ := ih fun x hx => h x (List.mem_cons_of_mem _ hx)
    exact ⟨a :: as, rfl, ha, hs⟩
theorem tyOk_slc {P : Program} {t e : TypeId} {n : Nat} {vs : List V} {α : Type} {f : α → V} (hu : P.underlying t = some (.slice e)) (he : ∀ us, TyOk P n e us → ∃ a : α, pack (isAgg P e) us = f a ∧ okV (f a)) (h : TyOk P (n + 1) t vs) :
    ∃ l : List α, vs = [.slc false (P.cellsOf e) (l.map f)] ∧ l.length ≤ 9223372036854775807 ∧ okL (l.map f) := by
  simp only [TyOk, hu] at h
  obtain ⟨l, rfl, hl, hx⟩ := h
  obtain ⟨as, rfl, hs⟩ := list_of (f := f) (l := l) fun x hm => by
    obtain ⟨us, rfl, h1, _⟩ := hx x hm
    exact he us h1
  exact ⟨as, rfl, by rw [List.length_map] at hl; exact hl, hs⟩
theorem tyOk_slcR {P : Program} {t e : TypeId} {n : Nat} {vs : List V} {α : Type} {f : α → V} (hu : P.underlying t = some (.slice e)) (he : ∀ m, m < n → ∀ us, TyOk P m e us → ∃ a : α, pack (isAgg P e) us = f a ∧ okV (f a)) (h : TyOk P n t vs) :
    ∃ l : List α, vs = [.slc false (P.cellsOf e) (l.map f)] ∧ l.length ≤ 9223372036854775807 ∧ okL (l.map f) := by
  cases n with
  | zero => cases h
  | succ n => exact tyOk_slc hu (he n (Nat.lt_succ_self n)) h
theorem ty_agg {P : Program} {e : TypeId} {us : List V} {α : Type} {f : α → V} (ha : isAgg P e = true) (h : ∃ a : α, V.agg us = f a ∧ okV (f a)) : ∃ a : α, pack (isAgg P e) us = f a ∧ okV (f a) := by
  rw [ha]; exact h
theorem ty_int1 {P : Program} {e : TypeId} {n : Nat} {us : List V} {k : IntKind} (ha : isAgg P e = false) (hu : P.underlying e = some (.int k)) (h : TyOk P n e us) : ∃ a : Int, pack (isAgg P e) us = V.int k a ∧ okV (V.int k a) := by
  obtain ⟨m, rfl, hw⟩ := tyOk_int hu h
  rw [ha]
  exact ⟨m, rfl, hw⟩
theorem ty_bool1 {P : Program} {e : TypeId} {n : Nat} {us : List V} (ha : isAgg P e = false) (hu : P.underlying e = some .bool) (h : TyOk P n e us) : ∃ a : Bool, pack (isAgg P e) us = B a ∧ okV (B a) := by
  obtain ⟨m, rfl⟩ := tyOk_bool hu h
  rw [ha]
  exact ⟨m, rfl, trivial⟩
theorem ty_str1 {P : Program} {e : TypeId} {n : Nat} {us : List V} (ha : isAgg P e = false) (hu : P.underlying e = some .string) (h : TyOk P n e us) : ∃ a : ByteArray, pack (isAgg P e) us = Sv a ∧ okV (Sv a) := by
  obtain ⟨m, rfl, hm⟩ := tyOk_str hu h
  rw [ha]
  exact ⟨m, rfl, hm⟩
theorem ty_slc1 {P : Program} {e : TypeId} {us : List V} {α : Type} {f : α → V} {sz : Nat} (ha : isAgg P e = false) (h : ∃ l : List α, us = [.slc false sz (l.map f)] ∧ l.length ≤ 9223372036854775807 ∧ okL (l.map f)) : ∃ l : List α, pack (isAgg P e) us = V.slc false sz (l.map f) ∧ okV (V.slc false sz (l.map f)) := by
  obtain ⟨l, rfl, h1, h2⟩ := h
  rw [ha]
  refine ⟨l, rfl, ?_, h2⟩
  rw [List.length_map]; exact h1
/-- an argument, as it lies in the world -/
theorem RowTr.one {W : World} {v : V} {c : Value} (h : RowTr W [v] [c]) : CellTr W v c := by
  have := h.2.2 0 (by simp)
  exact this
theorem RowTr.agg {W : World} {vs : List V} {cs : Array Value} (h : RowTr W vs cs.toList) : CellTr W (.agg vs) (.agg cs) := by
  refine .agg _ _ (by simpa using h.1) fun i hi => ?_
  have := h.2.2 i hi
  simpa [List.getD_eq_getElem?_getD, Array.getD_eq_getD_getElem?] using this
end Go.Ev
