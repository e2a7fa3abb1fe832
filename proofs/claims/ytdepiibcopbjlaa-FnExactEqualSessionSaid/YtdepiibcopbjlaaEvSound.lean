/- What the pure reading says is what the machine does. -/
import Derived.Test.YtdepiibcopbjlaaEvLoops
namespace Go.Ev
open Go
set_option linter.unusedVariables false
set_option linter.unusedSimpArgs false
variable {E : Env} {G : Gh} {s : St} {a : Act} {w : World}

def LowL (o : List (Nat → Option Ob)) : Prop := ∀ l t ob, obIn t l o = some ob → LowO l ob
theorem Low.outer (h : Low s) : LowL s.o := fun l t ob ho => h l t ob (by rw [ob_outer (obIn_lt _ ho)]; exact ho)
theorem Low.all (h : Low s) : LowL (s.b :: s.o) := fun l t ob ho => h l t ob ho

inductive Its : List It → List Item → Prop
  | nil : Its [] []
  | code {its k} (c : Code) : Its its k → Its (.code c :: its) (.code c :: k)
  | blk {its k} (id : Nat) : Its its k → Its (.blk id :: its) (.inBlock id :: k)
  | lp {its k} (c : Code) : Its its k → Its (.lp c :: its) (.inLoop c :: k)
theorem Its.exit {id : Nat} : ∀ {its its' : List It} {k : List Item}, Its its k → outOf id its = some its' → ∃ k', exitTo id k = some k' ∧ Its its' k' := by
  intro its
  induction its with
  | nil => intro its' k h hx; cases hx
  | cons i its ih =>
    intro its' k h hx
    cases h with
    | code c h =>
      obtain ⟨k', h1, h2⟩ := ih h hx
      exact ⟨k', by simpa [exitTo] using h1, h2⟩
    | lp c h =>
      obtain ⟨k', h1, h2⟩ := ih h hx
      exact ⟨k', by simpa [exitTo] using h1, h2⟩
    | blk j h =>
      unfold outOf at hx
      unfold exitTo
      by_cases e : j = id
      · rw [if_pos e] at hx
        obtain rfl := Option.some.inj hx
        exact ⟨_, by simp [e], h⟩
      · rw [if_neg e] at hx
        obtain ⟨k', h1, h2⟩ := ih h hx
        exact ⟨k', by simp [e, h1], h2⟩

/-- what is to be shown of so many steps -/
def SoundN (E : Env) (n : Nat) : Prop := ∀ (its : List It) (s : St) (r : V × List (Nat → Option Ob)), evI E n its s = some r → Low s → ∀ fn, E.P.funcs[s.f]? = some fn → fn.results = s.r →
  ∀ (G : Gh) (a : Act) (w : World), Rel G s a w → ∀ k, Its its k → ∀ (b : Frame) (cs : List Frame), b.fn = s.f → b.kind = .normal →
    ∃ x w' fr G', Steps E.P (lone (b.at a k) cs w) (lone fr cs w') ∧ fr.fn = s.f ∧ fr.leaving E.P w' (.returned x) ∧ Done s.lv G w r.2 r.1 x w' G' ∧ LowL r.2

theorem Done.pre {lv : Nat} {G G1 G' : Gh} {w w1 w' : World} {o : List (Nat → Option Ob)} {v : V} {x : Value} (h : Done lv G1 w1 o v x w' G') (f : Fr lv G w G1 w1) : Done lv G w o v x w' G' :=
  ⟨h.own, f.trans h.fr, h.len, h.obj, h.dom, h.imm, h.lim⟩

theorem startS_spec {f : Nat} {args : List V} {outer : List (Nat → Option Ob)} {k0 : List It} {s0 : St} (h : startS E f args outer = some (k0, s0)) : ∃ fn c, E.P.funcs[f]? = some fn ∧ args.length ≤ fn.ntmps ∧ (fn.name == "runtime.NumGoroutine") = false ∧ fn.body = some c ∧ k0 = [.code c] ∧
    s0 = { t := argT 0 args, b := n0, o := outer, r := fn.results, f := f, n := fn.ntmps } := by
  unfold startS at h
  split at h
  · rename_i fn hf
    split at h
    · rename_i hc
      obtain ⟨c, hb, he⟩ := Option.map_eq_some_iff.1 h
      obtain ⟨rfl, rfl⟩ := Prod.mk.inj he
      exact ⟨fn, c, hf, hc.1, hc.2, hb, rfl, rfl⟩
    · cases h
  · cases h
theorem calls_ok {n : Nat} (hS : SoundN E n) {f : Nat} {args : List V} {cargs : Array Value} {outer : List (Nat → Option Ob)} {k0 : List It} {s0 : St} {r : V × List (Nat → Option Ob)} (h0 : startS E f args outer = some (k0, s0)) (hr : evI E n k0 s0 = some r)
    (hl : args.length = cargs.size) (hT : ∀ i, i < args.length → Tr G.S G.β (args.getD i .undef) (cargs.getD i Go.undef))
    (hobj : ∀ l t ob, obIn t l outer = some ob → ∃ g, G.β l t = some g ∧ G.ω g = some (.ob l t) ∧ ObR G w l t g ob) (hdom : ∀ l t g, G.β l t = some g → ∃ ob, obIn t l outer = some ob)
    (himm : ∀ g j c, G.S g j = some c → w.cell? ⟨g, j, none⟩ = some c) (hlim : ∀ g p, G.ω g = some p → g < w.heap.size) (hlow : LowL outer) :
    Calls E.P f cargs w fun e w' => ∃ x G', e = .returned x ∧ Done outer.length G w r.2 r.1 x w' G' ∧ LowL r.2 := by
  obtain ⟨fn, c, hf, hn, hname, hb, rfl, rfl⟩ := startS_spec h0
  intro cs
  have hrel := start_rel (r := fn.results) (f := f) hl hT hn hobj hdom himm hlim
  have hlow0 : Low { t := argT 0 args, b := n0, o := outer, r := fn.results, f := f, n := fn.ntmps } := by
    intro l t ob ho
    have ho' : (if l = outer.length then none else obIn t l outer) = some ob := ho
    split at ho'
    · cases ho'
    · exact hlow l t ob ho'
  let b : Frame := { (default : Frame) with fn := f, kind := .normal }
  obtain ⟨x, w', fr, G', h1, h2, h3, h4, h5⟩ := hS _ _ _ hr hlow0 fn hf rfl _ _ _ hrel [.code c] (.code c .nil) b cs rfl rfl
  have henter : Frame.enter E.P f cargs .normal = b.at { tmps := cargs ++ Array.replicate (fn.ntmps - cargs.size) undef, defers := [] } [.code c] := by
    simp [Frame.enter, Frame.at, hf, hb, b]
  refine ⟨.returned x, w', fr, ⟨x, G', rfl, h4, h5⟩, ?_, h2, h3⟩
  rw [henter]; exact h1

/-! ### one operation -/
noncomputable abbrev stepO (E : Env) (n : Nat) (o : Oper) (s : St) : Option St := stepOV E (evI E n) o s
noncomputable def stepG (E : Env) (n : Nat) (all : Array Oper) (o : Oper) (s : St) : Option St := match o.guard with
  | none => stepO E n o s
  | some (j, want) => match ((all[j]?).bind (·.dst)).map s.t with
    | some (.bool b) => if b = want then stepO E n o s else some (s.putO o.dst (.tup []))
    | some (.tup []) => some (s.putO o.dst (.tup []))
    | _ => none
noncomputable def stepsO (E : Env) (n : Nat) (all : Array Oper) : List Oper → St → Option St
  | [], s => some s
  | o :: l, s => (stepG E n all o s).bind (stepsO E n all l)

theorem callOp_k (d : Option Nat) (f : Operand) (args : Array Operand) (tys : Array TypeId) (k : List It) (s : St) : (∃ s', callOp E d f args tys [] s = .go [] s' ∧ callOp E d f args tys k s = .go k s') ∨
    (∃ g vs outer plain s', callOp E d f args tys [] s = .call g vs outer plain d [] s' ∧ callOp E d f args tys k s = .call g vs outer plain d k s') ∨ (callOp E d f args tys [] s = .fail ∧ callOp E d f args tys k s = .fail) := by
  unfold callOp
  split
  · split
    · split
      · exact .inr (.inl ⟨_, _, _, _, _, rfl, rfl⟩)
      · split
        · exact .inl ⟨_, rfl, rfl⟩
        · exact .inr (.inl ⟨_, _, _, _, _, rfl, rfl⟩)
    · exact .inr (.inr ⟨rfl, rfl⟩)
  · exact .inr (.inr ⟨rfl, rfl⟩)
theorem stepG_mono {n m : Nat} (h : n ≤ m) {all : Array Oper} {o : Oper} {s s' : St} (hs : stepG E n all o s = some s') : stepG E m all o s = some s' := by
  have hO : ∀ {s'}, stepO E n o s = some s' → stepO E m o s = some s' := fun hs => stepOV_mono (fun its s r hr => evI_le E h hr) hs
  unfold stepG at hs ⊢
  split
  · rename_i hg
    rw [hg] at hs
    exact hO hs
  · rename_i j want hg
    rw [hg] at hs
    dsimp only at hs
    split
    · rename_i b hb
      rw [hb] at hs
      dsimp only at hs
      by_cases e : b = want
      · rw [if_pos e] at hs ⊢; exact hO hs
      · rw [if_neg e] at hs ⊢; exact hs
    · rename_i hb
      rw [hb] at hs
      exact hs
    · rename_i h1 h2
      split at hs
      · rename_i e; exact absurd e (h1 _)
      · rename_i e; exact absurd e h2
      · exact hs
theorem stepsO_mono {n m : Nat} (h : n ≤ m) {all : Array Oper} : ∀ {l : List Oper} {s s' : St}, stepsO E n all l s = some s' → stepsO E m all l s = some s' := by
  intro l
  induction l with
  | nil => intro s s' hs; exact hs
  | cons o l ih =>
    intro s s' hs
    obtain ⟨s1, h1, h2⟩ := Option.bind_eq_some_iff.1 hs
    exact Option.bind_eq_some_iff.2 ⟨s1, stepG_mono h h1, ih h2⟩
/-- a region's steps, together -/
theorem evI_ops {all : Array Oper} {k : List It} : ∀ {l : List Oper} {n : Nat} {s : St} {r}, evI E (n + 1) (.ops l all :: k) s = some r → ∃ s', stepsO E n all l s = some s' ∧ evI E n k s' = some r := by
  intro l
  induction l with
  | nil => intro n s r h; exact ⟨s, rfl, by simpa [evI, stepI] using h⟩
  | cons o l ih =>
    intro n s r h
    rw [evI] at h
    -- the step
    have fin : ∀ {s1 : St}, stepG E n all o s = some s1 → evI E n (.ops l all :: k) s1 = some r → ∃ s', stepsO E n all (o :: l) s = some s' ∧ evI E n k s' = some r := by
      intro s1 h1 h2
      cases n with
      | zero => simp [evI] at h2
      | succ n =>
        obtain ⟨s', h3, h4⟩ := ih h2
        exact ⟨s', Option.bind_eq_some_iff.2 ⟨s1, h1, stepsO_mono (Nat.le_succ n) h3⟩, evI_le E (Nat.le_succ n) h4⟩
    have run : ∀ out : Out, (out = match o.op with
      | .call { callee := .value f, args, argTypes } => callOp E o.dst f args argTypes (.ops l all :: k) s
      | _ => match evOp E.P (E.H s.f) o s with
        | some s' => .go (.ops l all :: k) s'
        | none => .fail) → (match out with
          | .go k s' => evI E n k s'
          | .done v o => some (v, o)
          | .fail => none
          | .draw ops c k s' => match drun E (evI E n) ops c s' [] with
            | some s2 => evI E n k s2
            | none => none
          | .call f args outer plain d k s' => match startS E f args outer with
            | none => none
            | some (k0, s0) => match evI E n k0 s0 with
              | none => none
              | some r => evI E n k (backS s' plain d r.1 r.2)) = some r → (∀ s1, stepO E n o s = some s1 → stepG E n all o s = some s1) → ∃ s', stepsO E n all (o :: l) s = some s' ∧ evI E n k s' = some r := by
      intro out ho hr hG
      subst ho
      split at hr
      · rename_i k2 s2 he
        split at he
        · rename_i f args argTypes hop
          rcases callOp_k (E := E) o.dst f args argTypes (.ops l all :: k) s with ⟨s', e1, e2⟩ | ⟨g, vs, outer, plain, s', e1, e2⟩ | ⟨e1, e2⟩
          · rw [e2] at he
            obtain ⟨rfl, rfl⟩ := Out.go.inj he
            exact fin (hG _ (by unfold stepO stepOV; rw [hop]; dsimp only; rw [e1]; rfl)) hr
          · rw [e2] at he; cases he
          · rw [e2] at he; cases he
        · rename_i hne
          split at he
          · rename_i s' hs'
            obtain ⟨rfl, rfl⟩ := Out.go.inj he
            refine fin (hG _ ?_) hr
            unfold stepO stepOV
            split
            · rename_i e; exact absurd e (hne _ _ _)
            · exact hs'
          · cases he
      · rename_i v o' he
        split at he
        · rename_i f args argTypes hop
          rcases callOp_k (E := E) o.dst f args argTypes (.ops l all :: k) s with ⟨s', e1, e2⟩ | ⟨g, vs, outer, plain, s', e1, e2⟩ | ⟨e1, e2⟩ <;> rw [e2] at he <;> cases he
        · split at he <;> cases he
      · cases hr
      · rename_i he
        split at he
        · rename_i f args argTypes hop
          rcases callOp_k (E := E) o.dst f args argTypes (.ops l all :: k) s with ⟨s', e1, e2⟩ | ⟨g, vs, outer, plain, s', e1, e2⟩ | ⟨e1, e2⟩ <;> rw [e2] at he <;> cases he
        · split at he <;> cases he
      · rename_i f2 args2 outer2 plain2 d2 k2 s2 he
        split at he
        · rename_i f args argTypes hop
          rcases callOp_k (E := E) o.dst f args argTypes (.ops l all :: k) s with ⟨s', e1, e2⟩ | ⟨g, vs, outer, plain, s', e1, e2⟩ | ⟨e1, e2⟩
          · rw [e2] at he; cases he
          · rw [e2] at he
            obtain ⟨rfl, rfl, rfl, rfl, rfl, rfl, rfl⟩ := Out.call.inj he
            split at hr
            · cases hr
            · rename_i k0 s0 h0
              split at hr
              · cases hr
              · rename_i r0 h1
                refine fin (hG _ ?_) hr
                unfold stepO stepOV
                rw [hop]
                dsimp only
                rw [e1]
                unfold evCallV
                dsimp only
                rw [h0]
                dsimp only
                rw [h1]
          · rw [e2] at he; cases he
        · split at he <;> cases he
    unfold stepI at h
    dsimp only at h
    cases hg : o.guard with
    | none =>
      rw [hg] at h
      exact run _ rfl h fun s1 hs1 => by unfold stepG; rw [hg]; exact hs1
    | some jw =>
      obtain ⟨j, want⟩ := jw
      rw [hg] at h
      dsimp only at h
      cases hv : ((all[j]?).bind (·.dst)).map s.t with
      | none => rw [hv] at h; cases h
      | some v =>
        rw [hv] at h
        cases v with
        | bool b =>
          dsimp only at h
          by_cases e : b = want
          · rw [if_pos e] at h
            exact run _ rfl h fun s1 hs1 => by unfold stepG; rw [hg]; dsimp only; rw [hv]; dsimp only; rw [if_pos e]; exact hs1
          · rw [if_neg e] at h
            exact fin (by unfold stepG; rw [hg]; dsimp only; rw [hv]; dsimp only; rw [if_neg e]) h
        | tup m =>
          cases m with
          | nil => exact fin (by unfold stepG; rw [hg]; dsimp only; rw [hv]) h
          | cons _ _ => cases h
        | _ => cases h
end Go.Ev
