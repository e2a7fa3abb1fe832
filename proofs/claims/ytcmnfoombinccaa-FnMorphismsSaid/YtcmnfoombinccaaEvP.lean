/- Drawn regions whose writes come behind what was read: one operation after the other. The program's data as Lean structures, and as trees. Strings as bytes: scans, counts, letters, variables. Regular expressions: size, depth, validity. Automata with numbers for states. Lists of what is reached, in the order of a search. Rows marked and held: what the statements' last part does to memory. -/
import Derived.Laws.Strings
import Derived.Lib.LazyBuf
import Derived.Test.YtcmnfoombinccaaEvM
import Derived.Test.YtcmnfoombinccaaEvO
set_option linter.unusedVariables false
set_option linter.unusedSimpArgs false
namespace Go.Ev
open Go
set_option linter.unusedVariables false
def stillOk (P : Program) (H : Hint) (all : Array Oper) : List Nat → List Nat → Bool
  | _, [] => true
  | seen, i :: c => match all[i]? with
    | some o => if isX P H o then stillOk P H all seen c else if isL H o then stillOk P H all (i :: seen) c else seen.all (fun k => prec all all.size k i) && stillOk P H all seen c
    | none => false
noncomputable def dstepS (E : Env) (ev : Run) (all : Array Oper) (i : Nat) (s : St) : Option St := match all[i]? with
  | none => none
  | some o => match guardS all o s with
    | none => none
    | some false => some (s.putO o.dst (.tup []))
    | some true =>
      if isX E.P (E.H s.f) o then (if dynX E.P o s && inDst s o then (xval E ev o s).map fun v => s.setX (E.H s.f) o v else none)
      else if isL (E.H s.f) o then (if inDst s o then (lval E ev o s).map fun v => s.setX (E.H s.f) o v else none)
      else stepOV E ev o s
noncomputable def drunS (E : Env) (ev : Run) (all : Array Oper) : List Nat → St → Option St
  | [], s => some s
  | i :: c, s => (dstepS E ev all i s).bind fun s1 => drunS E ev all c s1
theorem still_prec {E : Env} {ev : Run} {all : Array Oper} {i : Nat} {s : St} : ∀ {done : List (Nat × V)}, (∀ p ∈ done, prec all all.size p.1 i = true) → still E ev all i s done = true := by
  intro done
  induction done with
  | nil => intro _; rfl
  | cons p done ih =>
    intro h
    obtain ⟨k, v⟩ := p
    unfold still
    rw [h (k, v) (List.mem_cons_self ..), ih fun q hq => h q (List.mem_cons_of_mem _ hq)]
    rfl
theorem drun_S {E : Env} {ev : Run} {all : Array Oper} : ∀ (c : List Nat) (s : St) (done : List (Nat × V)) (seen : List Nat), (∀ p ∈ done, p.1 ∈ seen) → stillOk E.P (E.H s.f) all seen c = true → drun E ev all c s done = drunS E ev all c s := by
  intro c
  induction c with
  | nil => intro s done seen _ _; rfl
  | cons i c ih =>
    intro s done seen hd hk
    unfold drun drunS
    have key : ∀ {s1 : St} {d1 : List (Nat × V)} {seen1 : List Nat}, dstep E ev all i s done = some (s1, d1) → dstepS E ev all i s = some s1 → (∀ p ∈ d1, p.1 ∈ seen1) → stillOk E.P (E.H s.f) all seen1 c = true → (dstep E ev all i s done).bind (fun r => drun E ev all c r.1 r.2) = (dstepS E ev all i s).bind fun s1 => drunS E ev all c s1 := by
      intro s1 d1 seen1 h1 h2 h3 h4
      have hf := dstep_f h1
      rw [h1, h2]
      show drun E ev all c s1 d1 = drunS E ev all c s1
      exact ih s1 d1 seen1 h3 (by rw [hf]; exact h4)
    have none' : dstep E ev all i s done = none → dstepS E ev all i s = none → (dstep E ev all i s done).bind (fun r => drun E ev all c r.1 r.2) = (dstepS E ev all i s).bind fun s1 => drunS E ev all c s1 := by
      intro h1 h2
      rw [h1, h2]
      rfl
    unfold stillOk at hk
    cases ho : all[i]? with
    | none => rw [ho] at hk; cases hk
    | some o =>
      rw [ho] at hk
      dsimp only at hk
      cases hg : guardS all o s with
      | none => exact none' (by unfold dstep; rw [ho]; dsimp only; rw [hg]) (by unfold dstepS; rw [ho]; dsimp only; rw [hg])
      | some b =>
        cases b with
        | false =>
          have a1 : dstep E ev all i s done = some (s.putO o.dst (.tup []), done) := by unfold dstep; rw [ho]; dsimp only; rw [hg]
          have a2 : dstepS E ev all i s = some (s.putO o.dst (.tup [])) := by unfold dstepS; rw [ho]; dsimp only; rw [hg]
          by_cases hx : isX E.P (E.H s.f) o = true
          · rw [if_pos hx] at hk
            exact key a1 a2 hd hk
          · rw [if_neg hx] at hk
            by_cases hl : isL (E.H s.f) o = true
            · rw [if_pos hl] at hk
              exact key a1 a2 (fun p hp => List.mem_cons_of_mem _ (hd p hp)) hk
            · rw [if_neg hl] at hk
              exact key a1 a2 hd (Bool.and_eq_true_iff.1 hk).2
        | true =>
          by_cases hx : isX E.P (E.H s.f) o = true
          · rw [if_pos hx] at hk
            by_cases hc : (dynX E.P o s && inDst s o) = true
            · cases hv : xval E ev o s with
              | none => exact none' (by unfold dstep; rw [ho]; dsimp only; rw [hg]; dsimp only; rw [if_pos hx, if_pos hc, hv]; rfl) (by unfold dstepS; rw [ho]; dsimp only; rw [hg]; dsimp only; rw [if_pos hx, if_pos hc, hv]; rfl)
              | some v => exact key (by unfold dstep; rw [ho]; dsimp only; rw [hg]; dsimp only; rw [if_pos hx, if_pos hc, hv]; rfl) (by unfold dstepS; rw [ho]; dsimp only; rw [hg]; dsimp only; rw [if_pos hx, if_pos hc, hv]; rfl) hd hk
            · exact none' (by unfold dstep; rw [ho]; dsimp only; rw [hg]; dsimp only; rw [if_pos hx, if_neg hc]) (by unfold dstepS; rw [ho]; dsimp only; rw [hg]; dsimp only; rw [if_pos hx, if_neg hc])
          · rw [if_neg hx] at hk
            by_cases hl : isL (E.H s.f) o = true
            · rw [if_pos hl] at hk
              by_cases hc : inDst s o = true
              · cases hv : lval E ev o s with
                | none => exact none' (by unfold dstep; rw [ho]; dsimp only; rw [hg]; dsimp only; rw [if_neg hx, if_pos hl, if_pos hc, hv]; rfl) (by unfold dstepS; rw [ho]; dsimp only; rw [hg]; dsimp only; rw [if_neg hx, if_pos hl, if_pos hc, hv]; rfl)
                | some v =>
                  refine key (d1 := (i, v) :: done) (by unfold dstep; rw [ho]; dsimp only; rw [hg]; dsimp only; rw [if_neg hx, if_pos hl, if_pos hc, hv]; rfl) (by unfold dstepS; rw [ho]; dsimp only; rw [hg]; dsimp only; rw [if_neg hx, if_pos hl, if_pos hc, hv]; rfl) ?_ hk
                  intro p hp
                  rcases List.mem_cons.1 hp with rfl | hp
                  · exact List.mem_cons_self ..
                  · exact List.mem_cons_of_mem _ (hd p hp)
              · exact none' (by unfold dstep; rw [ho]; dsimp only; rw [hg]; dsimp only; rw [if_neg hx, if_pos hl, if_neg hc]) (by unfold dstepS; rw [ho]; dsimp only; rw [hg]; dsimp only; rw [if_neg hx, if_pos hl, if_neg hc])
            · rw [if_neg hl] at hk
              obtain ⟨k1, k2⟩ := Bool.and_eq_true_iff.1 hk
              have hs : ∀ s1, still E ev all i s1 done = true := fun s1 => still_prec fun p hp => List.all_eq_true.1 k1 _ (hd p hp)
              cases hv : stepOV E ev o s with
              | none => exact none' (by unfold dstep; rw [ho]; dsimp only; rw [hg]; dsimp only; rw [if_neg hx, if_neg hl, hv]) (by unfold dstepS; rw [ho]; dsimp only; rw [hg]; dsimp only; rw [if_neg hx, if_neg hl, hv])
              | some s1 => exact key (by unfold dstep; rw [ho]; dsimp only; rw [hg]; dsimp only; rw [if_neg hx, if_neg hl, hv]; dsimp only; rw [if_pos (hs s1)]) (by unfold dstepS; rw [ho]; dsimp only; rw [hg]; dsimp only; rw [if_neg hx, if_neg hl, hv]) hd k2
noncomputable def drawS (E : Env) (k : List It) (all : Array Oper) (c : List Nat) (s : St) : Option (V × List (Nat → Option Ob)) := drawL E k (drunS E (Ev.lim E) all c s)
noncomputable def drSL (E : Env) (k : List It) (all : Array Oper) (c : List Nat) : Option St → Option (V × List (Nat → Option Ob))
  | some s => drawS E k all c s
  | none => none
section
variable {E : Env} {k : List It} {all : Array Oper} {c : List Nat} {s : St}
theorem e_nil : drawS E k all [] s = lim E k s := rfl
theorem e_cons (i : Nat) : drawS E k all (i :: c) s = drSL E k all c (dstepS E (Ev.lim E) all i s) := by
  show drawL E k (Option.bind _ _) = _
  cases h : dstepS E (Ev.lim E) all i s with
  | none => rfl
  | some r => rfl
theorem drSL_some : drSL E k all c (some s) = drawS E k all c s := rfl
theorem drSL_none : drSL E k all c none = none := rfl
theorem drSL_ite {p : Prop} [Decidable p] (x y : Option St) : drSL E k all c (if p then x else y) = if p then drSL E k all c x else drSL E k all c y := by split <;> rfl
theorem q_drs (i : Nat) {os : Array Oper} (h : (oneOrder (E.H s.f) i && drawOk E.P (E.H s.f) os (orderOf (E.H s.f) i os.size) && stillOk E.P (E.H s.f) os [] (orderOf (E.H s.f) i os.size)) = true) : lim E (.code (.region i os true) :: k) s = drawS E k os (orderOf (E.H s.f) i os.size) s := by
  obtain ⟨h1, h2⟩ := Bool.and_eq_true_iff.1 h
  rw [q_drawn i h1]
  show drawL E k _ = drawL E k _
  rw [drun_S _ _ _ _ (fun p hp => by cases hp) h2]
variable {ev : Run} {d : Option Nat} {ty : TypeId} {pos : String} {aft : Array Edge} {g : Option (Nat × Bool)}
/-- a value is put down, the state goes on -/
def putS (d : Nat) (n : Nat) : Option (V × St) → Option St
  | some (v, s) => if d < n then some (s.put d v) else none
  | none => none
theorem putS_s (d n : Nat) (v : V) : putS d n (some (v, s)) = if d < n then some (s.put d v) else none := rfl
theorem putS_n (d n : Nat) : putS d n none = none := rfl
theorem put_eq (d : Nat) (op : Op) (P : Program) (H : Hint) : (if d < s.n then (evV P H d ty op s).map fun r => r.2.put d r.1 else none) = putS d s.n (evV P H d ty op s) := by
  cases evV P H d ty op s with
  | none => split <;> rfl
  | some r => obtain ⟨v, s1⟩ := r; split <;> rename_i h <;> simp [putS, h]
theorem w_alloc (d : Nat) (t : TypeId) : stepOV E ev { dst := some d, op := .alloc t, type := ty, pos := pos, after := aft, guard := g } s = putS d s.n (evV E.P (E.H s.f) d ty (.alloc t) s) := put_eq ..
theorem w_box (d : Nat) (t : TypeId) (x : Operand) : stepOV E ev { dst := some d, op := .box t x, type := ty, pos := pos, after := aft, guard := g } s = putS d s.n (evV E.P (E.H s.f) d ty (.box t x) s) := put_eq ..
theorem w_load (d : Nat) (t : TypeId) (x : Operand) : stepOV E ev { dst := some d, op := .load t x, type := ty, pos := pos, after := aft, guard := g } s = putS d s.n (evV E.P (E.H s.f) d ty (.load t x) s) := put_eq ..
theorem w_makeSlice (d : Nat) (t : TypeId) (x y : Operand) : stepOV E ev { dst := some d, op := .makeSlice t x y, type := ty, pos := pos, after := aft, guard := g } s = putS d s.n (evV E.P (E.H s.f) d ty (.makeSlice t x y) s) := put_eq ..
theorem w_buildSlice (d : Nat) (t : TypeId) (m : Nat) (ps : Array (Nat × Operand)) : stepOV E ev { dst := some d, op := .buildSlice t m ps, type := ty, pos := pos, after := aft, guard := g } s = putS d s.n (evV E.P (E.H s.f) d ty (.buildSlice t m ps) s) := put_eq ..
theorem w_builtin (d : Nat) (b : Builtin) (a : Array Operand) (c : Array TypeId) : stepOV E ev { dst := some d, op := .call { callee := .builtin b, args := a, argTypes := c }, type := ty, pos := pos, after := aft, guard := g } s = putS d s.n (evV E.P (E.H s.f) d ty (.call { callee := .builtin b, args := a, argTypes := c }) s) := put_eq ..
theorem w_store (t : TypeId) (a x : Operand) : stepOV E ev { dst := none, op := .store t a x, type := ty, pos := pos, after := aft, guard := g } s = evU E.P (E.H s.f) (.store t a x) s := rfl
noncomputable def backO (s : St) (plain : Bool × Bool × Bool) (d : Option Nat) : Option (V × List (Nat → Option Ob)) → Option St
  | some r => some (backS s plain d r.1 r.2)
  | none => none
theorem backO_s (plain : Bool × Bool × Bool) (d : Option Nat) (v : V) (o : List (Nat → Option Ob)) : backO s plain d (some (v, o)) = some (backS s plain d v o) := rfl
noncomputable def orcS (E : Env) (g : Nat) (vs : List V) (s : St) (d : Option Nat) : Option V → Option St
  | some v => some (s.putO d v)
  | none => backO s (true, setF E g d s, false) d (run E g vs [])
theorem orcS_n (g : Nat) (vs : List V) : orcS E g vs s d none = backO s (true, setF E g d s, false) d (run E g vs []) := rfl
theorem orcS_s (g : Nat) (vs : List V) (v : V) : orcS E g vs s d (some v) = some (s.putO d v) := rfl
noncomputable def callS (E : Env) (d : Option Nat) : V → Option (List V × St) → Option St
  | .fn g caps, some (vs, s1) => if ((vs ++ caps).any isRef || !caps.isEmpty) = true then backO s1 (false, setF E g d s1, false) d (run E g (vs ++ caps) (s1.b :: s1.o)) else orcS E g (vs ++ caps) s1 d (E.orc g (vs ++ caps))
  | _, _ => none
theorem callS_s (g : Nat) (caps vs : List V) : callS E d (.fn g caps) (some (vs, s)) = if ((vs ++ caps).any isRef || !caps.isEmpty) = true then backO s (false, setF E g d s, false) d (run E g (vs ++ caps) (s.b :: s.o)) else orcS E g (vs ++ caps) s d (E.orc g (vs ++ caps)) := rfl
theorem hr_call (d : Nat) (g : Nat) (vs : List V) (o : List (Nat → Option Ob)) (plain : Bool × Bool × Bool) (s1 : St) : evCallV E (Ev.lim E) (.call g vs o plain (some d) [] s1) = backO s1 plain (some d) (run E g vs o) := by
  unfold evCallV run
  dsimp only
  cases startS E g vs o with
  | none => rfl
  | some x =>
    obtain ⟨k0, s0⟩ := x
    dsimp only
    cases Ev.lim E k0 s0 <;> rfl
theorem n_call (d : Nat) {f : Operand} {args : Array Operand} {tys : Array TypeId} : evCallV E (Ev.lim E) (callN E (some d) f args tys [] s) =
    if args.size = tys.size ∧ d < s.n then callS E (some d) (s.see E.P 0 f) (s.args E.P (tys.toList.zip args.toList)) else none := by
  unfold callN
  have hd : (args.size = tys.size ∧ Option.all (fun d => decide (d < s.n)) (some d) = true) ↔ (args.size = tys.size ∧ d < s.n) := by simp
  have hr : ∀ (g : Nat) (vs : List V) (o : List (Nat → Option Ob)) (plain : Bool × Bool × Bool) (s1 : St), evCallV E (Ev.lim E) (.call g vs o plain (some d) [] s1) = backO s1 plain (some d) (run E g vs o) := by
    intro g vs o plain s1
    unfold evCallV run
    dsimp only
    cases startS E g vs o with
    | none => rfl
    | some x =>
      obtain ⟨k0, s0⟩ := x
      dsimp only
      cases Ev.lim E k0 s0 <;> rfl
  by_cases hc : args.size = tys.size ∧ d < s.n
  · rw [if_pos hc]
    cases s.see E.P 0 f with
    | fn g caps =>
      cases s.args E.P (tys.toList.zip args.toList) with
      | none => rfl
      | some r =>
        obtain ⟨vs, s1⟩ := r
        dsimp only
        rw [if_pos (hd.2 hc), callS_s]
        split
        · exact hr ..
        · cases E.orc g (vs ++ caps) with
          | some v => rfl
          | none => exact hr ..
    | _ => rfl
  · rw [if_neg hc]
    cases s.see E.P 0 f with
    | fn g caps =>
      cases s.args E.P (tys.toList.zip args.toList) with
      | none => rfl
      | some r => obtain ⟨vs, s1⟩ := r; dsimp only; rw [if_neg fun h => hc (hd.1 h)]; rfl
    | _ => rfl
noncomputable def callBS (E : Env) (d : Option Nat) (s : St) : V → Option (List V) → Option St
  | .fn g [], some vs => backO s (true, false, true) d (run E g vs [])
  | _, _ => none
theorem callBS_s (d : Option Nat) (g : Nat) (vs : List V) : callBS E d s (.fn g []) (some vs) = backO s (true, false, true) d (run E g vs []) := rfl
noncomputable def callLS (E : Env) (d : Option Nat) : V → Option (List V × St) → Option St
  | .fn g [], some (vs, s1) => backO s1 (false, setF E g d s1, false) d (run E g vs (s1.b :: s1.o))
  | _, _ => none
theorem callLS_s (d : Option Nat) (g : Nat) (vs : List V) : callLS E d (.fn g []) (some (vs, s)) = backO s (false, setF E g d s, false) d (run E g vs (s.b :: s.o)) := rfl
theorem b_call (d : Nat) {f : Operand} {args : Array Operand} {tys : Array TypeId} : evCallV E (Ev.lim E) (callB E (some d) f args tys [] s) = if args.size = tys.size ∧ d < s.n then callBS E (some d) s (s.see E.P 0 f) (s.peeks E.P (tys.toList.zip args.toList)) else none := by
  have hd : (args.size = tys.size ∧ Option.all (fun d => decide (d < s.n)) (some d) = true) ↔ (args.size = tys.size ∧ d < s.n) := by simp
  unfold callB
  by_cases hc : args.size = tys.size ∧ d < s.n
  · rw [if_pos hc]
    cases s.see E.P 0 f with
    | fn g caps =>
      cases caps with
      | cons _ _ => cases s.peeks E.P (tys.toList.zip args.toList) <;> rfl
      | nil =>
        cases s.peeks E.P (tys.toList.zip args.toList) with
        | none => rfl
        | some vs =>
          dsimp only
          rw [if_pos (hd.2 hc), callBS_s]
          exact hr_call ..
    | _ => rfl
  · rw [if_neg hc]
    cases s.see E.P 0 f with
    | fn g caps =>
      cases caps with
      | cons _ _ => cases s.peeks E.P (tys.toList.zip args.toList) <;> rfl
      | nil =>
        cases s.peeks E.P (tys.toList.zip args.toList) with
        | none => rfl
        | some vs => dsimp only; rw [if_neg fun h => hc (hd.1 h)]; rfl
    | _ => rfl
theorem w_call (d : Nat) {f : Operand} {args : Array Operand} {tys : Array TypeId} : stepOV E (Ev.lim E) { dst := some d, op := .call { callee := .value f, args := args, argTypes := tys }, type := ty, pos := pos, after := aft, guard := g } s =
    if memN d (E.H s.f).brw = true then (if args.size = tys.size ∧ d < s.n then callBS E (some d) s (s.see E.P 0 f) (s.peeks E.P (tys.toList.zip args.toList)) else none)
    else if memN d (E.H s.f).lend = true then (if args.size = tys.size ∧ d < s.n then callLS E (some d) (s.see E.P 0 f) (s.argRs E.P (tys.toList.zip args.toList)) else none)
    else if args.size = tys.size ∧ d < s.n then callS E (some d) (s.see E.P 0 f) (s.args E.P (tys.toList.zip args.toList)) else none := by
  show evCallV E _ (callOp E (some d) f args tys [] s) = _
  unfold callOp
  have hd : (args.size = tys.size ∧ Option.all (fun d => decide (d < s.n)) (some d) = true) ↔ (args.size = tys.size ∧ d < s.n) := by simp
  by_cases hb : memN d (E.H s.f).brw = true
  · rw [if_pos hb, if_pos (show inOpt (some d) (E.H s.f).brw = true from hb)]
    unfold callB
    by_cases hc : args.size = tys.size ∧ d < s.n
    · rw [if_pos hc]
      cases s.see E.P 0 f with
      | fn g caps =>
        cases caps with
        | cons _ _ => cases s.peeks E.P (tys.toList.zip args.toList) <;> rfl
        | nil =>
          cases s.peeks E.P (tys.toList.zip args.toList) with
          | none => rfl
          | some vs =>
            dsimp only
            rw [if_pos (hd.2 hc), callBS_s]
            exact hr_call ..
      | _ => rfl
    · rw [if_neg hc]
      cases s.see E.P 0 f with
      | fn g caps =>
        cases caps with
        | cons _ _ => cases s.peeks E.P (tys.toList.zip args.toList) <;> rfl
        | nil =>
          cases s.peeks E.P (tys.toList.zip args.toList) with
          | none => rfl
          | some vs => dsimp only; rw [if_neg fun h => hc (hd.1 h)]; rfl
      | _ => rfl
  rw [if_neg hb, if_neg (show ¬ inOpt (some d) (E.H s.f).brw = true from hb)]
  by_cases hl : memN d (E.H s.f).lend = true
  · rw [if_pos hl, if_pos (show inOpt (some d) (E.H s.f).lend = true from hl)]
    unfold callL
    by_cases hc : args.size = tys.size ∧ d < s.n
    · rw [if_pos hc]
      cases s.see E.P 0 f with
      | fn g caps =>
        cases caps with
        | cons _ _ => cases s.argRs E.P (tys.toList.zip args.toList) <;> rfl
        | nil =>
          cases s.argRs E.P (tys.toList.zip args.toList) with
          | none => rfl
          | some r =>
            obtain ⟨vs, s1⟩ := r
            dsimp only
            rw [if_pos (hd.2 hc), callLS_s]
            exact hr_call ..
      | _ => rfl
    · rw [if_neg hc]
      cases s.see E.P 0 f with
      | fn g caps =>
        cases caps with
        | cons _ _ => cases s.argRs E.P (tys.toList.zip args.toList) <;> rfl
        | nil =>
          cases s.argRs E.P (tys.toList.zip args.toList) with
          | none => rfl
          | some r => obtain ⟨vs, s1⟩ := r; dsimp only; rw [if_neg fun h => hc (hd.1 h)]; rfl
      | _ => rfl
  rw [if_neg hl, if_neg (show ¬ inOpt (some d) (E.H s.f).lend = true from hl)]
  exact n_call d
theorem l_call (d : Nat) {f : Operand} {args : Array Operand} {tys : Array TypeId} : lval E (Ev.lim E) { dst := some d, op := .call { callee := .value f, args := args, argTypes := tys }, type := ty, pos := pos, after := aft, guard := g } s =
    if memN d (E.H s.f).brw = true then callVal (some d) s (if args.size = tys.size ∧ d < s.n then callBS E (some d) s (s.see E.P 0 f) (s.peeks E.P (tys.toList.zip args.toList)) else none)
    else if (args.toList.all fun x => !isRef (s.see E.P 0 x)) = true then callVal (some d) s (if args.size = tys.size ∧ d < s.n then callS E (some d) (s.see E.P 0 f) (s.args E.P (tys.toList.zip args.toList)) else none) else none := by
  rw [← n_call, ← b_call]
  rfl
theorem cv_s (d : Nat) (s1 : St) (h : s1 = s.put d (s1.t d)) : callVal (some d) s (some s1) = some (s1.t d) := by
  unfold callVal
  dsimp only
  rw [if_pos h]
theorem cv_b (d : Nat) (v : V) : callVal (some d) s (some { s.put d v with b := s.b, o := s.o }) = some v := by
  rw [cv_s]
  · show some (upd s.t d v d) = some v
    simp [upd]
  · show s.put d v = s.put d (upd s.t d v d)
    simp [upd]
end
/-! two orders: one after the other is run -/
noncomputable def drawQ (E : Env) (k : List It) (all : Array Oper) (s1 : St) (c : List Nat) (s : St) : Option (V × List (Nat → Option Ob)) := drawL E k ((drunS E (Ev.lim E) all c s).bind fun s2 => sameS s1 s2)
noncomputable def drQL (E : Env) (k : List It) (all : Array Oper) (s1 : St) (c : List Nat) : Option St → Option (V × List (Nat → Option Ob))
  | some s => drawQ E k all s1 c s
  | none => none
noncomputable def drawP (E : Env) (k : List It) (all : Array Oper) (c2 : List Nat) (s0 : St) (c : List Nat) (s : St) : Option (V × List (Nat → Option Ob)) := drawL E k ((drunS E (Ev.lim E) all c s).bind fun s1 => (drunS E (Ev.lim E) all c2 s0).bind fun s2 => sameS s1 s2)
noncomputable def drPL (E : Env) (k : List It) (all : Array Oper) (c2 : List Nat) (s0 : St) (c : List Nat) : Option St → Option (V × List (Nat → Option Ob))
  | some s => drawP E k all c2 s0 c s
  | none => none
section
variable {E : Env} {k : List It} {all : Array Oper} {c c2 : List Nat} {s s0 s1 : St}
theorem dq_nil : drawQ E k all s1 [] s = drawL E k (sameS s1 s) := rfl
theorem dq_cons (i : Nat) : drawQ E k all s1 (i :: c) s = drQL E k all s1 c (dstepS E (Ev.lim E) all i s) := by
  show drawL E k (Option.bind (Option.bind _ _) _) = _
  cases h : dstepS E (Ev.lim E) all i s with
  | none => rfl
  | some r => rfl
theorem drQL_some : drQL E k all s1 c (some s) = drawQ E k all s1 c s := rfl
theorem drQL_none : drQL E k all s1 c none = none := rfl
theorem drQL_ite {p : Prop} [Decidable p] (x y : Option St) : drQL E k all s1 c (if p then x else y) = if p then drQL E k all s1 c x else drQL E k all s1 c y := by split <;> rfl
theorem dp_nil : drawP E k all c2 s0 [] s = drawQ E k all s c2 s0 := rfl
theorem dp_cons (i : Nat) : drawP E k all c2 s0 (i :: c) s = drPL E k all c2 s0 c (dstepS E (Ev.lim E) all i s) := by
  show drawL E k (Option.bind (Option.bind _ _) _) = _
  cases h : dstepS E (Ev.lim E) all i s with
  | none => rfl
  | some r => rfl
theorem drPL_some : drPL E k all c2 s0 c (some s) = drawP E k all c2 s0 c s := rfl
theorem drPL_none : drPL E k all c2 s0 c none = none := rfl
theorem drPL_ite {p : Prop} [Decidable p] (x y : Option St) : drPL E k all c2 s0 c (if p then x else y) = if p then drPL E k all c2 s0 c x else drPL E k all c2 s0 c y := by split <;> rfl
theorem same_go {Q : Option (V × List (Nat → Option Ob)) → Prop} (h : s1 = s) (hq : Q (lim E k s1)) : Q (drawL E k (sameS s1 s)) := by
  subst h
  unfold sameS
  rw [if_pos rfl]
  exact hq
theorem q_drt (i : Nat) {os : Array Oper} {a b : Nat} {c2 : List Nat} (ha : altOf (E.H s.f) i = some (a, b, c2)) (h : (drawOk2 E.P (E.H s.f) os (orderOf (E.H s.f) i os.size) (some (a, b, c2)) && stillOk E.P (E.H s.f) os [] (orderOf (E.H s.f) i os.size) && stillOk E.P (E.H s.f) os [] c2) = true) : lim E (.code (.region i os true) :: k) s = drawP E k os c2 s (orderOf (E.H s.f) i os.size) s := by
  simp only [Bool.and_eq_true] at h
  obtain ⟨⟨h1, h2⟩, h3⟩ := h
  rw [q_draw2, ha, if_pos h1]
  show drawL E k (Option.bind _ _) = drawL E k _
  rw [drun_S _ _ _ _ (fun p hp => by cases hp) h2]
  congr 1
  congr 1
  funext s1
  rw [drun_S _ _ _ _ (fun p hp => by cases hp) h3]
end
attribute [go_sem] dq_nil dq_cons drQL_some drQL_none drQL_ite dp_nil dp_cons drPL_some drPL_none drPL_ite
attribute [go_sem] l_call cv_b e_nil e_cons drSL_some drSL_none drSL_ite dstepS putS_s putS_n w_alloc w_builtin w_box w_load w_makeSlice w_buildSlice w_store w_call backO_s orcS_n orcS_s callS_s callBS_s callLS_s
end Go.Ev
namespace Go.Ev
open Go
structure Rx where
  kind : Int
  letter : ByteArray
  args : List Rx
theorem Rx.lt (r : Rx) {x : Rx} (h : x ∈ r.args) : SizeOf.sizeOf x < SizeOf.sizeOf r := by
  have h1 := List.sizeOf_lt_of_mem h
  cases r
  simp only [Rx.mk.sizeOf_spec]
  dsimp only at h1
  omega
def Rx.enc (r : Rx) : V := .agg [.int .i64 r.kind, .str r.letter, .slc false 3 (r.args.map Rx.enc)]
  termination_by SizeOf.sizeOf r
  decreasing_by exact Rx.lt _ ‹_›
theorem Rx.enc_eq (r : Rx) : r.enc = .agg [.int .i64 r.kind, .str r.letter, .slc false 3 (r.args.map Rx.enc)] := by rw [Rx.enc]
structure Vals where
  x : ByteArray
  y : ByteArray
  z : ByteArray
def Vals.cells (v : Vals) : List V := [.str v.x, .str v.y, .str v.z]
def Vals.enc (v : Vals) : V := .agg [.str v.x, .str v.y, .str v.z]
structure Mor where
  a : ByteArray
  b : ByteArray
  c : ByteArray
def Mor.enc (v : Mor) : V := .agg [.str v.a, .str v.b, .str v.c]
structure Sta where
  left : ByteArray
  right : ByteArray
  maps : List Int
def Sta.enc (s : Sta) : V := .agg [.str s.left, .str s.right, .slc false 1 (s.maps.map I)]
structure Con where
  kind : Int
  left : ByteArray
  right : ByteArray
  regex : Rx
  coeffs : List Int
  bound : Int
def Con.enc (c : Con) : V := .agg [.int .i64 c.kind, .str c.left, .str c.right, .int .i64 c.regex.kind, .str c.regex.letter, .slc false 3 (c.regex.args.map Rx.enc), .slc false 1 (c.coeffs.map I), .int .i64 c.bound]
structure Line where
  kind : Int
  text : ByteArray
  mor : Mor
  regex : Rx
def Line.enc (l : Line) : V := .agg [.int .i64 l.kind, .str l.text, .str l.mor.a, .str l.mor.b, .str l.mor.c, .int .i64 l.regex.kind, .str l.regex.letter, .slc false 3 (l.regex.args.map Rx.enc)]
structure Ans where
  code : Int
  vals : Vals
  nodes : List Sta
  bound : Int
def Ans.enc (a : Ans) : V := .agg [.int .i64 a.code, .str a.vals.x, .str a.vals.y, .str a.vals.z, .slc false 3 (a.nodes.map Sta.enc), .int .i64 a.bound]
structure Equ where
  left : ByteArray
  right : ByteArray
def Equ.enc (e : Equ) : V := .agg [.str e.left, .str e.right]
structure Mon where
  maps : List (List Int)
  letters : List Int
  product : List (List Int)
def Mon.enc (m : Mon) : V := .agg [.slc false 1 (m.maps.map IL), .slc false 1 (m.letters.map I), .slc false 1 (m.product.map IL)]
structure Frm where
  equ : Equ
  mon : Mon
  allowed : List (List Int)
def Frm.enc (f : Frm) : V := .agg [.str f.equ.left, .str f.equ.right, .slc false 1 (f.mon.maps.map IL), .slc false 1 (f.mon.letters.map I), .slc false 1 (f.mon.product.map IL), .slc false 1 (f.allowed.map IL)]
structure Mov where
  name : Int
  by_ : ByteArray
def Mov.enc (m : Mov) : V := .agg [.int .u8 m.name, .str m.by_]
structure Stp where
  move : Mov
  to : Sta
def Stp.enc (s : Stp) : V := .agg [.int .u8 s.move.name, .str s.move.by_, .str s.to.left, .str s.to.right, .slc false 1 (s.to.maps.map I)]
attribute [go_sem] Equ.enc Mon.enc Frm.enc Mov.enc Stp.enc IL I
structure Dfa where
  accept : List Bool
  next : List (List Int)
def Dfa.enc (d : Dfa) : V := .agg [.slc false 1 (d.accept.map B), .slc false 1 (d.next.map IL)]
attribute [go_sem] Dfa.enc B Sv
structure Prob where
  list : List Con
def Prob.enc (p : Prob) : V := .agg [.slc false 8 (p.list.map Con.enc)]
structure Prog where
  lines : List Line
def Prog.enc (p : Prog) : V := .agg [.slc false 8 (p.lines.map Line.enc)]
structure Ses where
  prob : Prob
  ans : Ans
  prog : Prog
def Ses.enc (s : Ses) : V := .agg [.slc false 8 (s.prob.list.map Con.enc), .int .i64 s.ans.code, .str s.ans.vals.x, .str s.ans.vals.y, .str s.ans.vals.z, .slc false 3 (s.ans.nodes.map Sta.enc), .int .i64 s.ans.bound, .slc false 8 (s.prog.lines.map Line.enc)]
attribute [go_sem] Prob.enc Prog.enc
attribute [go_sem] Rx.enc_eq Vals.enc Mor.enc Sta.enc Con.enc Line.enc Ans.enc Ses.enc
end Go.Ev
namespace Go.Ev
open Go
theorem bt_nonneg (s : ByteArray) (i : Int) : 0 ≤ bt s i := by unfold bt; split <;> omega
theorem bt_lt (s : ByteArray) (i : Int) : bt s i < 256 := by
  unfold bt
  split
  · rename_i h
    have := (s[i.toNat]'h).toNat_lt
    omega
  · omega
/-- the number of a letter -/
def ltr (c : Int) : Int := if c = 97 then 0 else if c = 98 then 1 else if c = 99 then 2 else -1
def isVar (c : Int) : Bool := decide (88 ≤ c) && decide (c ≤ 90)
theorem nat_u8 (n : Nat) (h : n < 256) (m : Nat) (hm : m < 256) : (n.toUInt8 == m.toUInt8) = decide (n = m) := by
  by_cases e : n = m
  · subst e; simp
  · have : n.toUInt8 ≠ m.toUInt8 := by
      intro e'
      have := congrArg UInt8.toNat e'
      simp [Nat.toUInt8, UInt8.toNat_ofNat'] at this
      omega
    simp [e, this]
theorem idx_abc (c : Int) (h : 0 ≤ c) (h' : c < 256) : idxB ⟨#[97, 98, 99]⟩ c = ltr c := by
  obtain ⟨n, rfl⟩ : ∃ n : Nat, c = n := ⟨c.toNat, by omega⟩
  have hn : n < 256 := by omega
  unfold idxB ltr
  rw [Int.toNat_natCast]
  have : ∀ n : Fin 256, Go.Lib.indexByte (#[97, 98, 99] : Array UInt8).toList n.val.toUInt8 = if (n.val : Int) = 97 then 0 else if (n.val : Int) = 98 then 1 else if (n.val : Int) = 99 then 2 else -1 := by decide +kernel
  exact this ⟨n, hn⟩
theorem idx_XYZ (c : Int) (h : 0 ≤ c) (h' : c < 256) : idxB ⟨#[88, 89, 90]⟩ c = if isVar c then c - 88 else -1 := by
  obtain ⟨n, rfl⟩ : ∃ n : Nat, c = n := ⟨c.toNat, by omega⟩
  have hn : n < 256 := by omega
  unfold idxB isVar
  rw [Int.toNat_natCast]
  have : ∀ n : Fin 256, Go.Lib.indexByte (#[88, 89, 90] : Array UInt8).toList n.val.toUInt8 = if (decide (88 ≤ (n.val : Int)) && decide ((n.val : Int) ≤ 90)) = true then (n.val : Int) - 88 else -1 := by decide +kernel
  exact this ⟨n, hn⟩
theorem isVar_idx (c : Int) (h : 0 ≤ c) (h' : c < 256) : decide (idxB ⟨#[88, 89, 90]⟩ c ≥ 0) = isVar c := by
  rw [idx_XYZ c h h']
  cases e : isVar c
  · simp
  · have : 88 ≤ c := by unfold isVar at e; simp at e; omega
    simp; omega
/-- a byte after the other, from a place on -/
def allB (p : Int → Bool) (s : ByteArray) (i : Nat) : Bool := if i < s.size then p (bt s i) && allB p s (i + 1) else true
  termination_by s.size - i
theorem allB_next (p : Int → Bool) (s : ByteArray) {i : Nat} (h : i < s.size) : allB p s i = (p (bt s i) && allB p s (i + 1)) := by rw [allB, if_pos h]
theorem allB_end (p : Int → Bool) (s : ByteArray) {i : Nat} (h : ¬ i < s.size) : allB p s i = true := by rw [allB, if_neg h]
theorem allB_congr {p q : Int → Bool} {s : ByteArray} (h : ∀ i : Nat, i < s.size → p (bt s i) = q (bt s i)) : ∀ (n i : Nat), s.size - i ≤ n → allB p s i = allB q s i := by
  intro n
  induction n with
  | zero => intro i hi; rw [allB_end p s (by omega), allB_end q s (by omega)]
  | succ n ih =>
    intro i hi
    by_cases hk : i < s.size
    · rw [allB_next p s hk, allB_next q s hk, h i hk, ih (i + 1) (by omega)]
    · rw [allB_end p s hk, allB_end q s hk]
/-- how often a byte stands -/
def cntB (b : Int) (s : ByteArray) (i : Nat) : Nat := if i < s.size then (if bt s i = b then 1 else 0) + cntB b s (i + 1) else 0
  termination_by s.size - i
theorem cntB_next (b : Int) (s : ByteArray) {i : Nat} (h : i < s.size) : cntB b s i = (if bt s i = b then 1 else 0) + cntB b s (i + 1) := by rw [cntB, if_pos h]
theorem cntB_end (b : Int) (s : ByteArray) {i : Nat} (h : ¬ i < s.size) : cntB b s i = 0 := by rw [cntB, if_neg h]
theorem cntB_le (b : Int) (s : ByteArray) : ∀ (n i : Nat), s.size - i ≤ n → cntB b s i ≤ s.size - i := by
  intro n
  induction n with
  | zero => intro i hi; rw [cntB_end b s (by omega)]; omega
  | succ n ih =>
    intro i hi
    by_cases hk : i < s.size
    · rw [cntB_next b s hk]
      have := ih (i + 1) (by omega)
      split <;> omega
    · rw [cntB_end b s hk]; omega
def sideB (c : Int) : Bool := c == 35 || decide (0 ≤ ltr c) || isVar c
/-! parts of strings -/
theorem bt_extract (s : ByteArray) (a b i : Nat) (h : a + i < b) (hb : b ≤ s.size) : bt (s.extract a b) (i : Int) = bt s ((a + i : Nat) : Int) := by
  have h1 : i < (s.extract a b).size := by simp; omega
  have h2 : a + i < s.size := by omega
  unfold bt
  simp only [Int.toNat_natCast, h1, h2, dif_pos, ByteArray.getElem_extract]
theorem bytes_toList (s : ByteArray) : s.toList = s.data.toList := by
  unfold ByteArray.toList
  rw [ByteArray.toList_loop_eq s s.size 0 [] (by omega) (by omega)]
  simp
theorem toList_inj {a b : ByteArray} : a.toList = b.toList ↔ a = b := by
  rw [bytes_toList, bytes_toList]
  constructor
  · intro h
    exact ByteArray.ext (Array.ext' h)
  · rintro rfl; rfl
theorem toList_beq (a b : ByteArray) : (a.toList == b.toList) = decide (a = b) := by
  by_cases h : a = b
  · subst h; simp
  · have : ¬ a.toList = b.toList := fun e => h (toList_inj.1 e)
    simp [h, this]
theorem toList_nil (s : ByteArray) : (s.toList == (ByteArray.mk #[]).toList) = decide (s.size = 0) := by
  rw [toList_beq]
  congr 1
  apply propext
  constructor
  · rintro rfl; rfl
  · intro h
    apply ByteArray.ext
    exact Array.eq_empty_of_size_eq_zero h
/-- a string from a place on -/
def ext (s : ByteArray) (k : Nat) : ByteArray := s.extract k s.size
theorem ext_size (s : ByteArray) (k : Nat) : (ext s k).size = s.size - k := by simp [ext]
theorem ext_zero (s : ByteArray) : ext s 0 = s := by simp [ext]
theorem ext_bt (s : ByteArray) (k i : Nat) (h : k + i < s.size) : bt (ext s k) (i : Int) = bt s ((k + i : Nat) : Int) := bt_extract s k s.size i h (Nat.le_refl _)
theorem ext_bt0 (s : ByteArray) (k : Nat) (h : k < s.size) : bt (ext s k) 0 = bt s (k : Int) := ext_bt s k 0 (by omega)
theorem ext_ext (s : ByteArray) (k : Nat) : (ext s k).extract 1 (s.size - k) = ext s (k + 1) := by
  apply ByteArray.ext
  unfold ext
  simp only [ByteArray.data_extract]
  apply Array.ext'
  simp only [Array.toList_extract, List.extract_eq_take_drop] 
  have e : s.data.toList.length = s.size := by simp
  rw [List.take_of_length_le (l := s.data.toList.drop k) (by simp)]
  rw [List.drop_drop, List.take_of_length_le (by simp; omega), List.take_of_length_le (by simp)]
/-- how far two strings go together -/
def lcp (l r : ByteArray) (k : Nat) : Nat := if k < l.size ∧ k < r.size ∧ bt l k = bt r k then lcp l r (k + 1) else k
  termination_by l.size - k
theorem lcp_next {l r : ByteArray} {k : Nat} (h1 : k < l.size) (h2 : k < r.size) (h3 : bt l k = bt r k) : lcp l r k = lcp l r (k + 1) := by rw [lcp, if_pos ⟨h1, h2, h3⟩]
theorem lcp_end {l r : ByteArray} {k : Nat} (h : ¬ (k < l.size ∧ k < r.size ∧ bt l k = bt r k)) : lcp l r k = k := by rw [lcp, if_neg h]
def strip (e : Equ) : Equ := ⟨ext e.left (lcp e.left e.right 0), ext e.right (lcp e.left e.right 0)⟩
/-! bytes -/
theorem bytesV_append (a b : ByteArray) : bytesV (a ++ b) = bytesV a ++ bytesV b := by
  unfold bytesV
  rw [ByteArray.data_append]
  simp
theorem bytesV_len (a : ByteArray) : (bytesV a).length = a.size := by
  unfold bytesV
  simp
theorem bytesV_one (s : ByteArray) (i : Nat) (h : i < s.size) : bytesV (s.extract i (i + 1)) = [.int .u8 (bt s (i : Int))] := by
  unfold bytesV
  rw [ByteArray.data_extract]
  have h' : i < s.data.size := h
  have e : (s.data.extract i (i + 1)).toList = [s.data[i]] := by
    apply List.ext_getElem
    · simp; omega
    · intro j h1 h2
      simp at h1
      have : j = 0 := by omega
      subst this
      simp
  rw [e]
  simp [bt, h]
  rfl
theorem u8s_bytesV (l : List UInt8) : mapOpt u8 (l.map fun b => V.int .u8 (b.toNat : Int)) = some (l.map fun b => (b.toNat : Int)) := by
  induction l with
  | nil => rfl
  | cons a l ih => simp only [List.map_cons, mapOpt, u8, ih]
theorem ofInts_bytes (l : List UInt8) : ∀ r : ByteArray, (l.map fun b => (b.toNat : Int)).foldl (fun r n => r.push (UInt8.ofNat n.toNat)) r = r ++ ⟨l.toArray⟩ := by
  induction l with
  | nil => intro r; apply ByteArray.ext; simp [ByteArray.data_append]
  | cons a l ih =>
    intro r
    rw [List.map_cons, List.foldl_cons, ih]
    apply ByteArray.ext
    simp [ByteArray.data_append, ByteArray.data_push]
theorem ofInts_bytesV (s : ByteArray) : ofInts (s.data.toList.map fun b => (b.toNat : Int)) = s := by
  unfold ofInts
  rw [ofInts_bytes]
  apply ByteArray.ext
  simp [ByteArray.data_append]
theorem u8_bytesV (s : ByteArray) : mapOpt u8 (bytesV s) = some (s.data.toList.map fun b => (b.toNat : Int)) := u8s_bytesV _
/-! bytes replaced -/
def one (s : ByteArray) (i : Nat) : ByteArray := s.extract i (i + 1)
theorem one_size (s : ByteArray) (i : Nat) (h : i < s.size) : (one s i).size = 1 := by unfold one; simp; omega
/-- each byte's text in its place; none: too long -/
def repl (by_ : Nat → ByteArray) (s : ByteArray) (i : Nat) (out : ByteArray) : ByteArray := if i < s.size then (if (out ++ by_ i).size > 1048576 then ⟨#[]⟩ else repl by_ s (i + 1) (out ++ by_ i)) else out
  termination_by s.size - i
theorem repl_next {by_ : Nat → ByteArray} {s : ByteArray} {i : Nat} {out : ByteArray} (h : i < s.size) : repl by_ s i out = if (out ++ by_ i).size > 1048576 then ⟨#[]⟩ else repl by_ s (i + 1) (out ++ by_ i) := by rw [repl, if_pos h]
theorem repl_end {by_ : Nat → ByteArray} {s : ByteArray} {i : Nat} {out : ByteArray} (h : ¬ i < s.size) : repl by_ s i out = out := by rw [repl, if_neg h]
def repV (s : ByteArray) (name : Int) (by_ : ByteArray) : ByteArray := repl (fun i => if bt s i = name then by_ else one s i) s 0 ⟨#[]⟩
end Go.Ev
namespace Go.Ev
def clash (e : Equ) : Bool := if e.left.size = 0 ∨ e.right.size = 0 then !allB isVar (e.left ++ e.right) 0 else !isVar (bt e.left 0) && !isVar (bt e.right 0)
theorem strip_le (e : Equ) : (strip e).left.size ≤ e.left.size ∧ (strip e).right.size ≤ e.right.size := by
  unfold strip
  simp only [ext_size]
  omega
end Go.Ev
namespace Go.Ev
theorem repl_le (by_ : Nat → ByteArray) (s : ByteArray) : ∀ (n i : Nat) (out : ByteArray), s.size - i ≤ n → out.size ≤ 1048576 → (repl by_ s i out).size ≤ 1048576 := by
  intro n
  induction n with
  | zero => intro i out h ho; rw [repl_end (by omega)]; exact ho
  | succ n ih =>
    intro i out h ho
    by_cases hi : i < s.size
    · rw [repl_next hi]
      split
      · decide
      · exact ih _ _ (by omega) (by omega)
    · rw [repl_end hi]; exact ho
theorem repV_le (s : ByteArray) (c : Int) (b : ByteArray) : (repV s c b).size ≤ 1048576 := repl_le _ _ _ 0 _ (Nat.le_refl _) (by decide)
/-- two bytes -/
def pair (a b : Int) : ByteArray := ofInts [a, b]
theorem pair_bytes (a b : Int) : ofInts [a, b] = pair a b := rfl
theorem pair_size (a b : Int) : (pair a b).size = 2 := rfl
def first2 (a b : Int) : List Mov := if isVar a = true then (if (isVar b || decide (0 ≤ ltr b)) = true then [⟨a, ⟨#[]⟩⟩, ⟨a, pair b a⟩] else [⟨a, ⟨#[]⟩⟩]) else []
def moves (s : Equ) : List Mov :=
  if s.left.size = 0 ∧ s.right.size = 0 ∨ clash s = true then []
  else if s.left.size = 0 then [⟨bt s.right 0, ⟨#[]⟩⟩]
  else if s.right.size = 0 then [⟨bt s.left 0, ⟨#[]⟩⟩]
  else first2 (bt s.left 0) (bt s.right 0) ++ first2 (bt s.right 0) (bt s.left 0)
end Go.Ev
namespace Go.Ev
def isLtr (c : Int) : Bool := decide (0 ≤ ltr c)
def isWord (s : ByteArray) : Bool := decide (s.size ≤ 30) && allB isLtr s 0
end Go.Ev
namespace Go.Ev
def small (s : ByteArray) : Bool := isWord s && decide (s.size ≤ 3)
def isMor (m : Mor) : Bool := small m.a && (small m.b && small m.c)
def zeroR (r : Rx) : Bool := (r.kind == 0) && (decide (r.letter.size = 0) && ((r.args.length : Int) == 0))
end Go.Ev
namespace Go.Ev
open Go
/-- the first place of an element for which p holds -/
def posP {α : Type} (p : α → Bool) : List α → Nat → Int
  | [], _ => -1
  | x :: l, i => if p x = true then (i : Int) else posP p l (i + 1)
theorem posP_any {α : Type} (p : α → Bool) : ∀ (l : List α) (i : Nat), decide (posP p l i ≥ 0) = l.any p := by
  intro l
  induction l with
  | nil => intro i; rfl
  | cons x l ih =>
    intro i
    unfold posP
    rw [List.any_cons]
    cases h : p x
    · rw [if_neg (by decide), ih, Bool.false_or]
    · rw [if_pos rfl, Bool.true_or]
      simp
theorem obIn_cons {t : Nat} {b : Nat → Option Ob} {os : List (Nat → Option Ob)} (h : os.length ≠ 0) : obIn t 0 (b :: os) = obIn t 0 os := by
  show (if 0 = os.length then b t else obIn t 0 os) = _
  rw [if_neg (by omega)]
end Go.Ev
namespace Go.Ev
open Go
def Rx.nodes (r : Rx) : Nat := 1 + (r.args.attach.map fun x => Rx.nodes x.1).sum
  termination_by SizeOf.sizeOf r
  decreasing_by exact Rx.lt _ x.2
theorem Rx.nodes_eq (r : Rx) : r.nodes = 1 + (r.args.map Rx.nodes).sum := by rw [Rx.nodes, List.attach_map_val (f := Rx.nodes)]
def maxL (l : List Nat) : Nat := l.foldr max 0
def Rx.depth (r : Rx) : Nat := 1 + maxL (r.args.attach.map fun x => Rx.depth x.1)
  termination_by SizeOf.sizeOf r
  decreasing_by exact Rx.lt _ x.2
theorem Rx.depth_eq (r : Rx) : r.depth = 1 + maxL (r.args.map Rx.depth) := by rw [Rx.depth, List.attach_map_val (f := Rx.depth)]
def argN (k : Int) : Int := if k = 1 ∨ k = 2 ∨ k = 3 ∨ k = 4 then 0 else if k = 8 ∨ k = 9 then 1 else if k = 5 ∨ k = 6 ∨ k = 7 then 2 else -1
def okTop (r : Rx) : Bool := (r.args.length : Int) == argN r.kind && (if r.kind = 3 then decide (r.letter.size = 1) && isWord r.letter else decide (r.letter.size = 0))
def Rx.good (r : Rx) : Bool := (r.args.attach.map fun x => Rx.good x.1).all id && okTop r
  termination_by SizeOf.sizeOf r
  decreasing_by exact Rx.lt _ x.2
theorem Rx.good_eq (r : Rx) : r.good = ((r.args.map Rx.good).all id && okTop r) := by rw [Rx.good, List.attach_map_val (f := Rx.good)]
def validR (r : Rx) : Bool := decide (r.nodes ≤ 16) && (decide (r.depth ≤ 6) && r.good)
/-- the program's count -/
def Rx.cnt (r : Rx) (d : Nat) : Nat := if d = 0 ∨ okTop r = false then 17 else min (1 + (r.args.attach.map fun x => Rx.cnt x.1 (d - 1)).sum) 17
  termination_by SizeOf.sizeOf r
  decreasing_by exact Rx.lt _ x.2
theorem Rx.cnt_eq (r : Rx) (d : Nat) : r.cnt d = if d = 0 ∨ okTop r = false then 17 else min (1 + (r.args.map fun x => x.cnt (d - 1)).sum) 17 := by
  rw [Rx.cnt, List.attach_map_val (f := fun x => Rx.cnt x (d - 1))]
theorem maxL_le {l : List Nat} {n : Nat} : maxL l ≤ n ↔ ∀ x ∈ l, x ≤ n := by
  induction l with
  | nil => simp [maxL]
  | cons a l ih =>
    have : maxL (a :: l) = max a (maxL l) := rfl
    rw [this, Nat.max_le, ih]
    simp
theorem sum_min {l : List Rx} {f g : Rx → Nat} (h : ∀ x ∈ l, g x = min (f x) 17) : min (1 + (l.map g).sum) 17 = min (1 + (l.map f).sum) 17 := by
  suffices ∀ n, min (n + (l.map g).sum) 17 = min (n + (l.map f).sum) 17 from this 1
  induction l with
  | nil => intro n; rfl
  | cons a l ih =>
    intro n
    have h1 := ih (fun x hx => h x (List.mem_cons_of_mem _ hx))
    have h2 := h a (List.mem_cons_self ..)
    simp only [List.map_cons, List.sum_cons]
    have h3 := h1 (n + f a)
    have h4 := h1 (n + g a)
    rw [h2] at h4
    rw [h2]
    by_cases k : f a ≤ 17
    · rw [Nat.min_eq_left k] at h4 ⊢
      rw [← Nat.add_assoc, ← Nat.add_assoc]
      exact h4
    · rw [Nat.min_eq_right (by omega)]
      omega
theorem sum_big {l : List Rx} {g : Rx → Nat} (h : ∃ x ∈ l, g x = 17) : 17 ≤ (l.map g).sum := by
  induction l with
  | nil => obtain ⟨x, hx, _⟩ := h; cases hx
  | cons a l ih =>
    obtain ⟨x, hx, hg⟩ := h
    simp only [List.map_cons, List.sum_cons]
    rcases List.mem_cons.1 hx with rfl | hx
    · omega
    · have := ih ⟨x, hx, hg⟩; omega
theorem Rx.cnt_good (r : Rx) (d : Nat) : r.cnt d = if r.depth ≤ d ∧ r.good = true then min r.nodes 17 else 17 := by
  rw [Rx.cnt_eq, Rx.depth_eq, Rx.good_eq, Rx.nodes_eq]
  have ih : ∀ x ∈ r.args, x.cnt (d - 1) = if x.depth ≤ d - 1 ∧ x.good = true then min x.nodes 17 else 17 := fun x hx => Rx.cnt_good x (d - 1)
  by_cases h0 : d = 0
  · rw [if_pos (Or.inl h0), if_neg (by omega)]
  by_cases h1 : okTop r = false
  · rw [if_pos (Or.inr h1), if_neg (by rw [h1]; simp)]
  rw [if_neg (fun h => h.elim h0 h1)]
  have h1' : okTop r = true := by simpa using h1
  by_cases h2 : ∀ x ∈ r.args, x.depth ≤ d - 1 ∧ x.good = true
  · rw [if_pos]
    · exact sum_min fun x hx => by rw [ih x hx, if_pos (h2 x hx)]
    · refine ⟨?_, ?_⟩
      · have : maxL (r.args.map Rx.depth) ≤ d - 1 := maxL_le.2 fun x hx => by
          obtain ⟨y, hy, rfl⟩ := List.mem_map.1 hx
          exact (h2 y hy).1
        omega
      · rw [h1', Bool.and_true, List.all_eq_true]
        intro x hx
        obtain ⟨y, hy, rfl⟩ := List.mem_map.1 hx
        exact (h2 y hy).2
  · rw [if_neg]
    · have : ∃ x ∈ r.args, x.cnt (d - 1) = 17 := by
        by_cases h3 : ∃ x ∈ r.args, ¬ (x.depth ≤ d - 1 ∧ x.good = true)
        · obtain ⟨x, hx, hn⟩ := h3
          exact ⟨x, hx, by rw [ih x hx, if_neg hn]⟩
        · exfalso
          refine h2 fun x hx => ?_
          by_cases h4 : x.depth ≤ d - 1 ∧ x.good = true
          · exact h4
          · exact absurd ⟨x, hx, h4⟩ h3
      have := sum_big (g := fun x => x.cnt (d - 1)) this
      omega
    · rintro ⟨k1, k2⟩
      refine h2 fun x hx => ⟨?_, ?_⟩
      · have : maxL (r.args.map Rx.depth) ≤ d - 1 := by omega
        exact maxL_le.1 this _ (List.mem_map_of_mem hx)
      · rw [h1', Bool.and_true, List.all_eq_true] at k2
        exact k2 _ (List.mem_map_of_mem hx)
  termination_by SizeOf.sizeOf r
  decreasing_by exact Rx.lt _ hx
theorem valid_cnt (r : Rx) : decide (r.cnt 6 ≤ 16) = validR r := by
  rw [Rx.cnt_good]
  unfold validR
  by_cases h : r.depth ≤ 6 ∧ r.good = true
  · rw [if_pos h]
    by_cases k : r.nodes ≤ 16
    · simp [h, k]; omega
    · have : ¬ min r.nodes 17 ≤ 16 := by omega
      simp only [this, k, decide_false, Bool.false_and]
  · rw [if_neg h]
    have : ¬ (17 ≤ 16) := by omega
    rw [decide_eq_false this]
    by_cases k : r.depth ≤ 6
    · have : r.good = false := by
        cases e : r.good
        · rfl
        · exact absurd ⟨k, e⟩ h
      simp [this]
    · simp [k]
end Go.Ev
namespace Go.Ev
open Go
def argS (k : Int) : Int := if k = 5 ∨ k = 6 ∨ k = 7 then 2 else if k = 8 ∨ k = 9 then 1 else 0
theorem okTop_spec (r : Rx) : okTop r = if r.kind = 3 then (decide (r.letter.size = 1) && (isWord r.letter && decide ((r.args.length : Int) = 0))) else ((decide (1 ≤ r.kind) && decide (r.kind ≤ 9)) && (decide (r.letter.size = 0) && decide ((r.args.length : Int) = argS r.kind))) := by
  unfold okTop
  by_cases h : r.kind = 3
  · rw [if_pos h, if_pos h, h]
    have : argN 3 = 0 := by decide
    rw [this]
    have e : ((r.args.length : Int) == 0) = decide ((r.args.length : Int) = 0) := rfl
    rw [e]
    cases decide ((r.args.length : Int) = 0) <;> cases decide (r.letter.size = 1) <;> cases isWord r.letter <;> rfl
  · rw [if_neg h, if_neg h]
    have e : ((r.args.length : Int) == argN r.kind) = decide ((r.args.length : Int) = argN r.kind) := rfl
    rw [e]
    by_cases k : 1 ≤ r.kind ∧ r.kind ≤ 9
    · have : argN r.kind = argS r.kind := by
        unfold argN argS
        split <;> split <;> (try split) <;> (try split) <;> omega
      rw [this]
      simp only [k.1, k.2, decide_true, Bool.true_and]
      rw [Bool.and_comm]
    · have hn : argN r.kind = -1 := by
        unfold argN
        rw [if_neg (by omega), if_neg (by omega), if_neg (by omega)]
      have h1 : ¬ (r.args.length : Int) = argN r.kind := by rw [hn]; omega
      have h2 : (decide (1 ≤ r.kind) && decide (r.kind ≤ 9)) = false := by
        cases e : decide (1 ≤ r.kind) && decide (r.kind ≤ 9)
        · rfl
        · simp at e; exact absurd e k
      rw [h2, decide_eq_false h1, Bool.false_and, Bool.false_and]
theorem Rx.depth_sz (r : Rx) : r.depth ≤ 1 + szT r.enc := by
  have ih : ∀ x ∈ r.args, x.depth ≤ 1 + szT x.enc := fun x hx => Rx.depth_sz x
  rw [Rx.depth_eq]
  have : maxL (r.args.map Rx.depth) ≤ szT r.enc := maxL_le.2 fun d hd => by
    obtain ⟨x, hx, rfl⟩ := List.mem_map.1 hd
    have h1 := ih x hx
    have h2 := szL_mem (f := Rx.enc) hx
    have h3 : 0 < r.args.length := List.length_pos_of_mem hx
    rw [Rx.enc_eq r]
    simp only [szT, szL, List.length_map]
    omega
  omega
  termination_by SizeOf.sizeOf r
  decreasing_by exact Rx.lt _ hx
def sumN (f : Rx → Nat) (l : List Rx) : Nat := (l.map f).sum
theorem sumN_cons (f : Rx → Nat) (a : Rx) (l : List Rx) : sumN f (a :: l) = f a + sumN f l := rfl
theorem maxL_cons (a : Nat) (l : List Nat) : maxL (a :: l) = max a (maxL l) := rfl
theorem leftOf_add (a b : Nat) (left : Int) : leftOf (a + b) left = if leftOf a left < 0 then -1 else leftOf b (leftOf a left) := by
  by_cases h : (a : Int) ≤ left
  · rw [leftOf_pos h, if_neg (by omega)]
    by_cases h2 : (b : Int) ≤ left - a
    · rw [leftOf_pos h2, leftOf_pos (by omega)]; omega
    · rw [leftOf_neg h2, leftOf_neg (by omega)]
  · rw [leftOf_neg h, if_pos (by decide), leftOf_neg (by omega)]
end Go.Ev
namespace Go.Ev
theorem argN_le (k : Int) : argN k ≤ 2 := by unfold argN; split <;> (try split) <;> (try split) <;> omega
end Go.Ev
namespace Go.Ev
def rowOk (n : Int) (row : List Int) : Bool := ((row.length : Int) == 3) && row.all fun q => decide (0 ≤ q) && decide (q ≤ n - 1)
def validD (d : Dfa) : Bool := (decide (1 ≤ (d.accept.length : Int)) && decide ((d.accept.length : Int) ≤ 40)) && (((d.next.length : Int) == d.accept.length) && d.next.all (rowOk d.accept.length))
theorem any_not {α : Type} (l : List α) (q : α → Bool) : (l.any fun x => !q x) = !l.all q := by
  induction l with
  | nil => rfl
  | cons a l ih => rw [List.any_cons, List.all_cons, ih]; cases q a <;> rfl
end Go.Ev
namespace Go.Ev
open Go
def IN (n : Nat) : V := .int .i64 n
def NT (t : Nat × Nat × Nat) : V := .slc false 1 [.int .i64 t.1, .int .i64 t.2.1, .int .i64 t.2.2]
structure DN where
  accept : List Bool
  next : List (Nat × Nat × Nat)
def DN.enc (d : DN) : V := .agg [.slc false 1 (d.accept.map B), .slc false 1 (d.next.map NT)]
def DN.ok (d : DN) : Prop := d.next.length = d.accept.length ∧ ∀ t ∈ d.next, t.1 < d.accept.length ∧ t.2.1 < d.accept.length ∧ t.2.2 < d.accept.length
def DN.nx (d : DN) (q : Nat) : Nat × Nat × Nat := d.next.getD q (0, 0, 0)
def cl (c : List Nat) (q : Nat) : Nat := c.getD q 0
/-- in one class, and on to the same classes -/
def sameC (d : DN) (c : List Nat) (p q : Nat) : Bool := (cl c p == cl c q) && ((cl c (d.nx p).1 == cl c (d.nx q).1) && ((cl c (d.nx p).2.1 == cl c (d.nx q).2.1) && (cl c (d.nx p).2.2 == cl c (d.nx q).2.2)))
/-- the first of the states like q -/
def firstS (p : Nat → Bool) (q : Nat) : Nat → Nat
  | 0 => q
  | k + 1 => if p (q - (k + 1)) = true then q - (k + 1) else firstS p q k
def lead (d : DN) (c : List Nat) (q : Nat) : Nat := firstS (fun p => sameC d c p q) q q
def refine (d : DN) (c : List Nat) : List Nat := (List.range d.accept.length).map (lead d c)
def class0 (d : DN) : List Nat := d.accept.map fun b => if b then 1 else 0
def rounds (d : DN) : Nat → List Nat → List Nat
  | 0, c => c
  | k + 1, c => rounds d k (refine d c)
theorem nat_beq (a b : Nat) : ((a : Int) == (b : Int)) = (a == b) := by
  by_cases h : a = b
  · subst h; rw [beq_self_eq_true, beq_self_eq_true]
  · have h2 : ¬ (a : Int) = b := by omega
    rw [beq_eq_false_iff_ne.2 h, beq_eq_false_iff_ne.2 h2]
theorem DN.nx_get (d : DN) {q : Nat} (h : q < d.next.length) : d.nx q = d.next[q] := by
  unfold DN.nx
  rw [List.getD_eq_getElem?_getD, List.getElem?_eq_getElem h]
  rfl
theorem DN.nx_lt {d : DN} (ho : d.ok) {q : Nat} (h : q < d.accept.length) : (d.nx q).1 < d.accept.length ∧ (d.nx q).2.1 < d.accept.length ∧ (d.nx q).2.2 < d.accept.length := by
  rw [d.nx_get (by rw [ho.1]; exact h)]
  exact ho.2 _ (List.getElem_mem _)
theorem getD_NT {d : DN} {q : Nat} (h : q < d.next.length) (v : V) : (d.next.map NT).getD q v = NT (d.nx q) := by
  rw [getD_map h, d.nx_get h]
theorem getD_IN {c : List Nat} {q : Nat} (h : q < c.length) (v : V) : (c.map IN).getD q v = IN (cl c q) := by
  rw [getD_map h]
  unfold cl
  rw [List.getD_eq_getElem?_getD, List.getElem?_eq_getElem h]
  rfl
attribute [go_sem] DN.enc NT IN
end Go.Ev
namespace Go.Ev
open Go
theorem fill_same {α : Type} (f : α → V) (l : List α) (d : V) {i : Nat} (h : i < l.length) (hv : f l[i] = d) : fill f l d i = fill f l d (i + 1) := by
  rw [← fill_set f l d h d hv.symm]
  unfold fill
  have hn : l.length - i = (l.length - (i + 1)) + 1 := by omega
  rw [List.set_append_right _ _ (by simp; omega), hn]
  have : i - ((l.take i).map f).length = 0 := by simp; omega
  rw [this, List.replicate_succ, List.set_cons_zero]
theorem firstS_zero (p : Nat → Bool) (q : Nat) : firstS p q 0 = q := rfl
theorem firstS_succ (p : Nat → Bool) (q k : Nat) : firstS p q (k + 1) = if p (q - (k + 1)) = true then q - (k + 1) else firstS p q k := rfl
theorem refine_map (d : DN) (c : List Nat) : (refine d c).map IN = (List.range d.accept.length).map fun q => IN (lead d c q) := by
  unfold refine
  rw [List.map_map]
  rfl
theorem refine_len (d : DN) (c : List Nat) : (refine d c).length = d.accept.length := by simp [refine]
theorem class0_map (d : DN) : (class0 d).map IN = d.accept.map fun b => IN (if b then 1 else 0) := by
  unfold class0
  rw [List.map_map]
  rfl
end Go.Ev
namespace Go.Ev
def C0 (b : Bool) : V := IN (if b then 1 else 0)
def LV (d : DN) (c : List Nat) (q : Nat) : V := IN (lead d c q)
theorem refine_LV (d : DN) (c : List Nat) : (List.range d.accept.length).map (LV d c) = (refine d c).map IN := (refine_map d c).symm
theorem class0_C0 (d : DN) : d.accept.map C0 = (class0 d).map IN := (class0_map d).symm
end Go.Ev
namespace Go.Ev
open Go
section
variable {α : Type} [DecidableEq α]
def ins (l : List α) (x : α) : List α := if x ∈ l then l else l ++ [x]
def ins3 (l : List α) (t : α × α × α) : List α := ins (ins (ins l t.1) t.2.1) t.2.2
theorem ins_pre (l : List α) (x : α) : l <+: ins l x := by
  unfold ins
  split
  · exact List.prefix_refl l
  · exact List.prefix_append l [x]
theorem ins_mem (l : List α) (x : α) : x ∈ ins l x := by
  unfold ins
  split
  · assumption
  · simp
theorem mem_ins {l : List α} {x y : α} : y ∈ ins l x ↔ y ∈ l ∨ y = x := by
  unfold ins
  split
  · constructor
    · exact Or.inl
    · rintro (h | rfl) <;> assumption
  · simp
theorem ins_nodup {l : List α} {x : α} (h : l.Nodup) : (ins l x).Nodup := by
  unfold ins
  split
  · exact h
  · rename_i hx
    rw [List.nodup_append]
    refine ⟨h, by simp, ?_⟩
    intro a ha b hb
    have : b = x := by simpa using hb
    subst this
    rintro rfl
    exact hx ha
theorem ins3_pre (l : List α) (t : α × α × α) : l <+: ins3 l t := (ins_pre _ _).trans ((ins_pre _ _).trans (ins_pre _ _))
theorem mem_ins3 {l : List α} {t : α × α × α} {y : α} : y ∈ ins3 l t ↔ y ∈ l ∨ y = t.1 ∨ y = t.2.1 ∨ y = t.2.2 := by
  unfold ins3
  rw [mem_ins, mem_ins, mem_ins]
  constructor
  · rintro (((h | h) | h) | h) <;> simp [h]
  · rintro (h | h | h | h) <;> simp [h]
theorem ins3_nodup {l : List α} {t : α × α × α} (h : l.Nodup) : (ins3 l t).Nodup := ins_nodup (ins_nodup (ins_nodup h))
theorem posP_idx (x : α) : ∀ (l : List α) (i : Nat), posP (fun y => y == x) l i = if x ∈ l then ((i + l.idxOf x : Nat) : Int) else -1 := by
  intro l
  induction l with
  | nil => intro i; rfl
  | cons a l ih =>
    intro i
    unfold posP
    by_cases h : a = x
    · subst h
      rw [if_pos (by simp), if_pos (by simp)]
      simp
    · have h' : (a == x) = false := by simpa using h
      rw [h', if_neg (by decide), ih]
      by_cases hm : x ∈ l
      · rw [if_pos hm, if_pos (List.mem_cons_of_mem _ hm), List.idxOf_cons, h']
        simp
        omega
      · rw [if_neg hm, if_neg (by simp; exact ⟨fun e => h e.symm, hm⟩)]
theorem idx_pre {l L : List α} {x : α} (h : l <+: L) (hx : x ∈ l) : L.idxOf x = l.idxOf x := by
  obtain ⟨m, rfl⟩ := h
  rw [List.idxOf_append, if_pos hx]
/-- the search, from an element's turn on -/
def bfsL (succ : α → α × α × α) : Nat → List α → Nat → List α
  | 0, l, _ => l
  | f + 1, l, i => match l[i]? with
    | some x => bfsL succ f (ins3 l (succ x)) (i + 1)
    | none => l
theorem bfs_pre (succ : α → α × α × α) : ∀ (f : Nat) (l : List α) (i : Nat), l <+: bfsL succ f l i := by
  intro f
  induction f with
  | zero => intro l i; exact List.prefix_refl l
  | succ f ih =>
    intro l i
    unfold bfsL
    split
    · exact (ins3_pre _ _).trans (ih _ _)
    · exact List.prefix_refl l
theorem bfs_step {succ : α → α × α × α} {f : Nat} {l : List α} {i : Nat} (h : i < l.length) : bfsL succ (f + 1) l i = bfsL succ f (ins3 l (succ l[i])) (i + 1) := by
  rw [bfsL, List.getElem?_eq_getElem h]
theorem bfs_done {succ : α → α × α × α} {f : Nat} {l : List α} {i : Nat} (h : ¬ i < l.length) : bfsL succ f l i = l := by
  cases f with
  | zero => rfl
  | succ f => rw [bfsL, List.getElem?_eq_none (by omega)]
end
theorem nodup_le {l : List Nat} {n : Nat} (h : l.Nodup) (hb : ∀ x ∈ l, x < n) : l.length ≤ n := by
  have := h.length_le_of_subset (l₂ := List.range n) (fun x hx => List.mem_range.2 (hb x hx))
  rwa [List.length_range] at this
/-! the reference's minimal automaton -/
def tri (c : List Nat) (t : Nat × Nat × Nat) : Nat × Nat × Nat := (cl c t.1, cl c t.2.1, cl c t.2.2)
def rowOf (L : List Nat) (t : Nat × Nat × Nat) : Nat × Nat × Nat := (L.idxOf t.1, L.idxOf t.2.1, L.idxOf t.2.2)
def sucC (d : DN) (c : List Nat) (q : Nat) : Nat × Nat × Nat := tri c (d.nx q)
def listC (d : DN) (c : List Nat) (s : Nat) : List Nat := bfsL (sucC d c) d.accept.length [s] 0
def accN (d : DN) (q : Nat) : Bool := d.accept.getD q false
def ofList (d : DN) (c : List Nat) (L : List Nat) : DN := ⟨L.map (accN d), L.map fun q => rowOf L (sucC d c q)⟩
def minS (d : DN) : DN := ofList d (rounds d (d.accept.length + 1) (class0 d)) (listC d (rounds d (d.accept.length + 1) (class0 d)) (cl (rounds d (d.accept.length + 1) (class0 d)) 0))
theorem firstS_le (p : Nat → Bool) (q : Nat) : ∀ k, firstS p q k ≤ q := by
  intro k
  induction k with
  | zero => exact Nat.le_refl q
  | succ k ih => rw [firstS_succ]; split <;> omega
theorem rounds_succ (d : DN) : ∀ (k : Nat) (c : List Nat), rounds d (k + 1) c = refine d (rounds d k c) := by
  intro k
  induction k with
  | zero => intro c; rfl
  | succ k ih => intro c; rw [rounds, ih]; rfl
theorem cl_refine {d : DN} {c : List Nat} {q : Nat} (h : q < d.accept.length) : cl (refine d c) q = lead d c q := by
  unfold cl refine
  rw [List.getD_eq_getElem?_getD, List.getElem?_map, List.getElem?_range h]
  rfl
theorem cl_lt {d : DN} {k q : Nat} (h : q < d.accept.length) : cl (rounds d (k + 1) (class0 d)) q < d.accept.length := by
  rw [rounds_succ, cl_refine h]
  exact Nat.lt_of_le_of_lt (firstS_le _ _ _) h
theorem rounds_len (d : DN) (k : Nat) : (rounds d (k + 1) (class0 d)).length = d.accept.length := by rw [rounds_succ, refine_len]
theorem getD_B {l : List Bool} {q : Nat} (h : q < l.length) (v : V) : (l.map B).getD q v = B (l.getD q false) := by
  rw [getD_map h, List.getD_eq_getElem?_getD, List.getElem?_eq_getElem h]
  rfl
end Go.Ev
namespace Go.Ev
theorem take_pre {α : Type} {l L : List α} (h : l <+: L) {i : Nat} (hi : i < l.length) : L.take (i + 1) = l.take i ++ [l[i]] := by
  obtain ⟨m, rfl⟩ := h
  rw [List.take_append_of_le_length (by omega), List.take_append_getElem hi]
theorem idxP {l : List Nat} {x : Nat} : (∀ L, ins l x <+: L → posP (fun y : Int => y == (x : Int)) ((ins l x).map fun n : Nat => (n : Int)) 0 = ((L.idxOf x : Nat) : Int)) ∧ (posP (fun y : Int => y == (x : Int)) (l.map fun n : Nat => (n : Int)) 0 < 0 ↔ x ∉ l) := by
  have e : ∀ (m : List Nat) (i : Nat), posP (fun y : Int => y == (x : Int)) (m.map fun n : Nat => (n : Int)) i = posP (fun y => y == x) m i := by
    intro m
    induction m with
    | nil => intro i; rfl
    | cons a m ih =>
      intro i
      rw [List.map_cons]
      unfold posP
      rw [nat_beq, ih]
  refine ⟨fun L hL => ?_, ?_⟩
  · rw [e, posP_idx, if_pos (ins_mem l x), Nat.zero_add, idx_pre hL (ins_mem l x)]
  · rw [e, posP_idx]
    constructor
    · intro h hm
      rw [if_pos hm] at h
      omega
    · intro h
      rw [if_neg h]
      decide
theorem map_IN (l : List Nat) : l.map IN = (l.map fun n : Nat => (n : Int)).map I := by
  rw [List.map_map]
  rfl
end Go.Ev
namespace Go.Ev
theorem map_IN_one (l : List Nat) (x : Nat) : (l ++ [x]).map IN = l.map IN ++ [.int .i64 x] := by rw [List.map_append]; rfl
end Go.Ev
namespace Go.Ev
open Go
set_option linter.unusedVariables false
theorem setIn_len (u : Nat) (ob : Ob) (lv : Nat) : ∀ os : List (Nat → Option Ob), (setIn u ob lv os).length = os.length := by
  intro os
  induction os with
  | nil => rfl
  | cons f os ih => unfold setIn; split <;> simp [*]
theorem obIn_len {u lv : Nat} : ∀ {os : List (Nat → Option Ob)} {ob : Ob}, obIn u lv os = some ob → lv < os.length := by
  intro os
  induction os with
  | nil => intro ob h; cases h
  | cons f os ih =>
    intro ob h
    unfold obIn at h
    split at h
    · simp; omega
    · have := ih h; simp; omega
theorem obIn_set2 (u lv u' lv' : Nat) (ob : Ob) : ∀ os : List (Nat → Option Ob), lv < os.length → obIn u' lv' (setIn u ob lv os) = if lv' = lv ∧ u' = u then some ob else obIn u' lv' os := by
  intro os
  induction os with
  | nil => intro h; simp at h
  | cons f os ih =>
    intro h
    unfold setIn
    by_cases e : lv = os.length
    · rw [if_pos e]
      unfold obIn
      by_cases e' : lv' = os.length
      · rw [if_pos e', if_pos e']
        unfold upd
        by_cases eu : u' = u
        · rw [if_pos eu, if_pos ⟨by omega, eu⟩]
        · rw [if_neg eu, if_neg fun h => eu h.2]
      · rw [if_neg e', if_neg e', if_neg fun h => e' (by omega)]
    · rw [if_neg e]
      unfold obIn
      rw [setIn_len]
      by_cases e' : lv' = os.length
      · rw [if_pos e', if_pos e', if_neg fun h => e (by omega)]
      · rw [if_neg e', if_neg e']
        exact ih (by simp at h; omega)
theorem setIn_same (u lv : Nat) (ob : Ob) : ∀ os : List (Nat → Option Ob), obIn u lv os = some ob → setIn u ob lv os = os := by
  intro os
  induction os with
  | nil => intro h; rfl
  | cons f os ih =>
    intro h
    unfold obIn at h
    unfold setIn
    split at h
    · rename_i e
      rw [if_pos e]
      congr 1
      funext x
      unfold upd
      split
      · rename_i e; subst e; exact h.symm
      · rfl
    · rename_i e
      rw [if_neg e, ih h]
theorem setIn_cons (u lv : Nat) (a : Ob) (f : Nat → Option Ob) (os : List (Nat → Option Ob)) : setIn u a lv (f :: os) = if lv = os.length then upd f u (some a) :: os else f :: setIn u a lv os := rfl
theorem setIn_setIn (u lv : Nat) (a b : Ob) : ∀ os : List (Nat → Option Ob), setIn u b lv (setIn u a lv os) = setIn u b lv os := by
  intro os
  induction os with
  | nil => rfl
  | cons f os ih =>
    rw [setIn_cons, setIn_cons]
    by_cases e : lv = os.length
    · rw [if_pos e, if_pos e, setIn_cons, if_pos e]
      congr 1
      funext x
      unfold upd
      split <;> rfl
    · rw [if_neg e, if_neg e, setIn_cons, setIn_len, if_neg e, ih]
/-! marks -/
def mB (k i : Nat) : V := .bool ((((k + i : Nat) : Int) % 3) == 0)
def marksB (k n : Nat) : List V := (List.range n).map (mB k)
def mI (k i : Nat) : V := .int .i64 ((k + i : Nat) : Int)
def marksI (k n : Nat) : List V := (List.range n).map (mI k)
/-- the first i of some cells, marked -/
def markP (m : Nat → V) (l : List V) (i : Nat) : List V := (List.range i).map m ++ l.drop i
theorem markP_0 (m : Nat → V) (l : List V) : markP m l 0 = l := rfl
theorem markP_len (m : Nat → V) (l : List V) {i : Nat} (h : i ≤ l.length) : (markP m l i).length = l.length := by unfold markP; simp; omega
theorem markP_all (m : Nat → V) (l : List V) : markP m l l.length = (List.range l.length).map m := by unfold markP; simp
theorem markP_set (m : Nat → V) (l : List V) {i : Nat} (h : i < l.length) : (markP m l i).set i (m i) = markP m l (i + 1) := by
  unfold markP
  rw [List.range_succ, List.map_append, List.set_append_right _ _ (by simp), List.append_assoc]
  congr 1
  rw [List.drop_eq_getElem_cons h]
  simp only [List.length_map, List.length_range, Nat.sub_self, List.set_cons_zero, List.map_cons, List.map_nil]
  rfl
/-- a row's cells lie in an object; nothing lies nowhere -/
def rowR (lv id : Nat) (n : Nat) : V := if n = 0 then .slc false 1 [] else .aref lv id n
def KK : Nat := 4294967296 ^ 8
def rid (u i : Nat) : Nat := u + (i + 1) * KK
theorem rid_inj {u i j : Nat} (h : rid u i = rid u j) : i = j := by
  unfold rid at h
  have hk : 0 < KK := by decide
  have : (i + 1) * KK = (j + 1) * KK := by omega
  have := Nat.eq_of_mul_eq_mul_right hk this
  omega
theorem rid_gt (u i : Nat) : u < rid u i := by
  unfold rid
  have hk : 0 < KK := by decide
  have : 0 < (i + 1) * KK := Nat.mul_pos (by omega) hk
  omega
def refsR (lv u : Nat) (ns : List Nat) : List V := (List.range ns.length).map fun i => rowR lv (rid u i) (ns.getD i 0)
/-- all rows marked -/
def markRows (lv u : Nat) : List Nat → Nat → Nat → List (Nat → Option Ob) → List (Nat → Option Ob)
  | [], _, _, os => os
  | n :: ns, i, k, os => markRows lv u ns (i + 1) (k + n) (if n = 0 then os else setIn (rid u i) (.dir 1 (marksI k n)) lv os)
theorem markRows_len (lv u : Nat) : ∀ (ns : List Nat) (i k : Nat) (os : List (Nat → Option Ob)), (markRows lv u ns i k os).length = os.length := by
  intro ns
  induction ns with
  | nil => intro i k os; rfl
  | cons n ns ih =>
    intro i k os
    unfold markRows
    rw [ih]
    split
    · rfl
    · exact setIn_len ..
theorem markRows_other (lv u : Nat) {lv' u' : Nat} : ∀ (ns : List Nat) (i k : Nat) (os : List (Nat → Option Ob)), lv < os.length → (∀ j, i ≤ j → lv' = lv → u' ≠ rid u j) → obIn u' lv' (markRows lv u ns i k os) = obIn u' lv' os := by
  intro ns
  induction ns with
  | nil => intro i k os _ _; rfl
  | cons n ns ih =>
    intro i k os hl hne
    unfold markRows
    rw [ih (i + 1) (k + n) _ (by split; exact hl; rw [setIn_len]; exact hl) (fun j hj => hne j (by omega))]
    split
    · rfl
    · rw [obIn_set2 _ _ _ _ _ _ hl, if_neg fun h => hne i (Nat.le_refl _) h.1 h.2]
/-- rows that hold their marks -/
def HeldR (lv u : Nat) (os : List (Nat → Option Ob)) : List Nat → Nat → Nat → Prop
  | [], _, _ => True
  | n :: ns, i, k => (n ≠ 0 → obIn (rid u i) lv os = some (.dir 1 (marksI k n))) ∧ HeldR lv u os ns (i + 1) (k + n)
theorem HeldR.congr {lv u : Nat} {os os' : List (Nat → Option Ob)} : ∀ {ns : List Nat} {i k : Nat}, HeldR lv u os ns i k → (∀ j, i ≤ j → obIn (rid u j) lv os' = obIn (rid u j) lv os) → HeldR lv u os' ns i k := by
  intro ns
  induction ns with
  | nil => intro i k _ _; trivial
  | cons n ns ih =>
    intro i k h he
    exact ⟨fun hn => (he i (Nat.le_refl _)).trans (h.1 hn), ih h.2 fun j hj => he j (by omega)⟩
theorem markRows_held (lv u : Nat) : ∀ (ns : List Nat) (i k : Nat) (os : List (Nat → Option Ob)), lv < os.length → HeldR lv u (markRows lv u ns i k os) ns i k := by
  intro ns
  induction ns with
  | nil => intro i k os _; trivial
  | cons n ns ih =>
    intro i k os hl
    unfold markRows
    refine ⟨fun hn => ?_, ih _ _ _ (by split; exact hl; rw [setIn_len]; exact hl)⟩
    rw [if_neg hn, markRows_other _ _ _ _ _ _ (by rw [setIn_len]; exact hl) (fun j hj _ e => by have := rid_inj e; omega), obIn_set2 _ _ _ _ _ _ hl, if_pos ⟨rfl, rfl⟩]
end Go.Ev
