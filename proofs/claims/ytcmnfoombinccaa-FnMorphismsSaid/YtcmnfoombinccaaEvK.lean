/- What the pure reading says is what the machine does. One operation, and a region. What an operation looks at and what it turns. The frames of operations in regions whose order is drawn. The frames of steps. -/
import Derived.Orders
import Derived.Test.YtcmnfoombinccaaEvJ
set_option linter.unusedVariables false
set_option linter.unusedSimpArgs false
namespace Go.Ev
open Go
set_option linter.unusedVariables false
set_option linter.unusedSimpArgs false
variable {E : Env} {G : Gh} {s : St} {a : Act} {w : World}

def LowL (o : List (Nat → Option Ob)) : Prop := ∀ l t ob, obIn t l o = some ob → LowO l ob
theorem Low.outer (h : Low s) : LowL s.o := fun l t ob ho => h l t ob (by rw [ob_outer (obIn_lt _ ho)]; exact ho)
theorem Low.all (h : Low s) : LowL (s.b :: s.o) := fun l t ob ho => h l t ob ho

inductive Its : List It → List Item → Prop
  | nil : Its [] []
  | code {its k} (c : Code) : Its its k → Its (.code c :: its) (.code c :: k)
  | blk {its k} (id : Nat) : Its its k → Its (.blk id :: its) (.inBlock id :: k)
  | lp {its k} (c : Code) : Its its k → Its (.lp c :: its) (.inLoop c :: k)
theorem Its.exit {id : Nat} : ∀ {its its' : List It} {k : List Item}, Its its k → outOf id its = some its' → ∃ k', exitTo id k = some k' ∧ Its its' k' := by
  intro its
  induction its with
  | nil => intro its' k h hx; cases hx
  | cons i its ih =>
    intro its' k h hx
    cases h with
    | code c h =>
      obtain ⟨k', h1, h2⟩ := ih h hx
      exact ⟨k', by simpa [exitTo] using h1, h2⟩
    | lp c h =>
      obtain ⟨k', h1, h2⟩ := ih h hx
      exact ⟨k', by simpa [exitTo] using h1, h2⟩
    | blk j h =>
      unfold outOf at hx
      unfold exitTo
      by_cases e : j = id
      · rw [if_pos e] at hx
        obtain rfl := Option.some.inj hx
        exact ⟨_, by simp [e], h⟩
      · rw [if_neg e] at hx
        obtain ⟨k', h1, h2⟩ := ih h hx
        exact ⟨k', by simp [e, h1], h2⟩

/-- what is to be shown of so many steps -/
def SoundN (E : Env) (n : Nat) : Prop := ∀ (its : List It) (s : St) (r : V × List (Nat → Option Ob)), evI E n its s = some r → Low s → ∀ fn, E.P.funcs[s.f]? = some fn → fn.results = s.r →
  ∀ (G : Gh) (a : Act) (w : World), Rel G s a w → ∀ k, Its its k → ∀ (b : Frame) (cs : List Frame), b.fn = s.f → b.kind = .normal →
    ∃ x w' fr G', Steps E.P (lone (b.at a k) cs w) (lone fr cs w') ∧ fr.fn = s.f ∧ fr.leaving E.P w' (.returned x) ∧ Done s.lv G w r.2 r.1 x w' G' ∧ LowL r.2

theorem Done.pre {lv : Nat} {G G1 G' : Gh} {w w1 w' : World} {o : List (Nat → Option Ob)} {v : V} {x : Value} (h : Done lv G1 w1 o v x w' G') (f : Fr lv G w G1 w1) : Done lv G w o v x w' G' :=
  ⟨h.own, f.trans h.fr, h.len, h.obj, h.dom, h.imm, h.lim⟩

theorem startS_spec {f : Nat} {args : List V} {outer : List (Nat → Option Ob)} {k0 : List It} {s0 : St} (h : startS E f args outer = some (k0, s0)) : ∃ fn c, E.P.funcs[f]? = some fn ∧ args.length ≤ fn.ntmps ∧ (fn.name == "runtime.NumGoroutine") = false ∧ fn.body = some c ∧ k0 = [.code c] ∧
    s0 = { t := argT 0 args, b := n0, o := outer, r := fn.results, f := f, n := fn.ntmps } := by
  unfold startS at h
  split at h
  · rename_i fn hf
    split at h
    · rename_i hc
      obtain ⟨c, hb, he⟩ := Option.map_eq_some_iff.1 h
      obtain ⟨rfl, rfl⟩ := Prod.mk.inj he
      exact ⟨fn, c, hf, hc.1, hc.2, hb, rfl, rfl⟩
    · cases h
  · cases h
theorem calls_ok {n : Nat} (hS : SoundN E n) {f : Nat} {args : List V} {cargs : Array Value} {outer : List (Nat → Option Ob)} {k0 : List It} {s0 : St} {r : V × List (Nat → Option Ob)} (h0 : startS E f args outer = some (k0, s0)) (hr : evI E n k0 s0 = some r)
    (hl : args.length = cargs.size) (hT : ∀ i, i < args.length → OwnS G w (Pl.tm outer.length i) (args.getD i .undef) (cargs.getD i Go.undef))
    (hobj : ∀ l t ob, obIn t l outer = some ob → ∃ g, G.β l t = some g ∧ G.ω g = some (.ob l t) ∧ ObR G w l t g ob) (hdom : ∀ l t g, G.β l t = some g → ∃ ob, obIn t l outer = some ob)
    (himm : ∀ g j c, G.S g j = some c → w.cell? ⟨g, j, none⟩ = some c) (hlim : ∀ g p, G.ω g = some p → g < w.heap.size) (hlow : LowL outer) :
    Calls E.P f cargs w fun e w' => ∃ x G', e = .returned x ∧ Done outer.length G w r.2 r.1 x w' G' ∧ LowL r.2 := by
  obtain ⟨fn, c, hf, hn, hname, hb, rfl, rfl⟩ := startS_spec h0
  intro cs
  have hrel := start_rel (r := fn.results) (f := f) hl hT hn hobj hdom himm hlim
  have hlow0 : Low { t := argT 0 args, b := n0, o := outer, r := fn.results, f := f, n := fn.ntmps } := by
    intro l t ob ho
    have ho' : (if l = outer.length then none else obIn t l outer) = some ob := ho
    split at ho'
    · cases ho'
    · exact hlow l t ob ho'
  let b : Frame := { (default : Frame) with fn := f, kind := .normal }
  obtain ⟨x, w', fr, G', h1, h2, h3, h4, h5⟩ := hS _ _ _ hr hlow0 fn hf rfl _ _ _ hrel [.code c] (.code c .nil) b cs rfl rfl
  have henter : Frame.enter E.P f cargs .normal = b.at { tmps := cargs ++ Array.replicate (fn.ntmps - cargs.size) undef, defers := [] } [.code c] := by
    simp [Frame.enter, Frame.at, hf, hb, b]
  refine ⟨.returned x, w', fr, ⟨x, G', rfl, h4, h5⟩, ?_, h2, h3⟩
  rw [henter]; exact h1

/-! ### one operation -/
noncomputable abbrev stepO (E : Env) (n : Nat) (o : Oper) (s : St) : Option St := stepOV E (evI E n) o s
noncomputable def stepG (E : Env) (n : Nat) (all : Array Oper) (o : Oper) (s : St) : Option St := match o.guard with
  | none => stepO E n o s
  | some (j, want) => match ((all[j]?).bind (·.dst)).map s.t with
    | some (.bool b) => if b = want then stepO E n o s else some (s.putO o.dst (.tup []))
    | some (.tup []) => some (s.putO o.dst (.tup []))
    | _ => none
noncomputable def stepsO (E : Env) (n : Nat) (all : Array Oper) : List Oper → St → Option St
  | [], s => some s
  | o :: l, s => (stepG E n all o s).bind (stepsO E n all l)

theorem callOp_k (d : Option Nat) (f : Operand) (args : Array Operand) (tys : Array TypeId) (k : List It) (s : St) : (∃ s', callOp E d f args tys [] s = .go [] s' ∧ callOp E d f args tys k s = .go k s') ∨
    (∃ g vs outer plain s', callOp E d f args tys [] s = .call g vs outer plain d [] s' ∧ callOp E d f args tys k s = .call g vs outer plain d k s') ∨ (callOp E d f args tys [] s = .fail ∧ callOp E d f args tys k s = .fail) := by
  unfold callOp
  split
  · unfold callB
    split
    · split
      · exact .inr (.inl ⟨_, _, _, _, _, rfl, rfl⟩)
      · exact .inr (.inr ⟨rfl, rfl⟩)
    · exact .inr (.inr ⟨rfl, rfl⟩)
  split
  · unfold callL
    split
    · split
      · exact .inr (.inl ⟨_, _, _, _, _, rfl, rfl⟩)
      · exact .inr (.inr ⟨rfl, rfl⟩)
    · exact .inr (.inr ⟨rfl, rfl⟩)
  unfold callN
  split
  · split
    · split
      · exact .inr (.inl ⟨_, _, _, _, _, rfl, rfl⟩)
      · split
        · exact .inl ⟨_, rfl, rfl⟩
        · exact .inr (.inl ⟨_, _, _, _, _, rfl, rfl⟩)
    · exact .inr (.inr ⟨rfl, rfl⟩)
  · exact .inr (.inr ⟨rfl, rfl⟩)
theorem stepG_mono {n m : Nat} (h : n ≤ m) {all : Array Oper} {o : Oper} {s s' : St} (hs : stepG E n all o s = some s') : stepG E m all o s = some s' := by
  have hO : ∀ {s'}, stepO E n o s = some s' → stepO E m o s = some s' := fun hs => stepOV_mono (fun its s r hr => evI_le E h hr) hs
  unfold stepG at hs ⊢
  split
  · rename_i hg
    rw [hg] at hs
    exact hO hs
  · rename_i j want hg
    rw [hg] at hs
    dsimp only at hs
    split
    · rename_i b hb
      rw [hb] at hs
      dsimp only at hs
      by_cases e : b = want
      · rw [if_pos e] at hs ⊢; exact hO hs
      · rw [if_neg e] at hs ⊢; exact hs
    · rename_i hb
      rw [hb] at hs
      exact hs
    · rename_i h1 h2
      split at hs
      · rename_i e; exact absurd e (h1 _)
      · rename_i e; exact absurd e h2
      · exact hs
theorem stepsO_mono {n m : Nat} (h : n ≤ m) {all : Array Oper} : ∀ {l : List Oper} {s s' : St}, stepsO E n all l s = some s' → stepsO E m all l s = some s' := by
  intro l
  induction l with
  | nil => intro s s' hs; exact hs
  | cons o l ih =>
    intro s s' hs
    obtain ⟨s1, h1, h2⟩ := Option.bind_eq_some_iff.1 hs
    exact Option.bind_eq_some_iff.2 ⟨s1, stepG_mono h h1, ih h2⟩
/-- a region's steps, together -/
theorem evI_ops {all : Array Oper} {k : List It} : ∀ {l : List Oper} {n : Nat} {s : St} {r}, evI E (n + 1) (.ops l all :: k) s = some r → ∃ s', stepsO E n all l s = some s' ∧ evI E n k s' = some r := by
  intro l
  induction l with
  | nil => intro n s r h; exact ⟨s, rfl, by simpa [evI, stepI] using h⟩
  | cons o l ih =>
    intro n s r h
    rw [evI] at h
    -- the step
    have fin : ∀ {s1 : St}, stepG E n all o s = some s1 → evI E n (.ops l all :: k) s1 = some r → ∃ s', stepsO E n all (o :: l) s = some s' ∧ evI E n k s' = some r := by
      intro s1 h1 h2
      cases n with
      | zero => simp [evI] at h2
      | succ n =>
        obtain ⟨s', h3, h4⟩ := ih h2
        exact ⟨s', Option.bind_eq_some_iff.2 ⟨s1, h1, stepsO_mono (Nat.le_succ n) h3⟩, evI_le E (Nat.le_succ n) h4⟩
    have run : ∀ out : Out, (out = match o.op with
      | .call { callee := .value f, args, argTypes } => callOp E o.dst f args argTypes (.ops l all :: k) s
      | _ => match evOp E.P (E.H s.f) o s with
        | some s' => .go (.ops l all :: k) s'
        | none => .fail) → (match out with
          | .go k s' => evI E n k s'
          | .done v o => some (v, o)
          | .fail => none
          | .draw ops c alt k s' => match dall E (evI E n) ops c alt s' with
            | some s2 => evI E n k s2
            | none => none
          | .call f args outer plain d k s' => match startS E f args outer with
            | none => none
            | some (k0, s0) => match evI E n k0 s0 with
              | none => none
              | some r => evI E n k (backS s' plain d r.1 r.2)) = some r → (∀ s1, stepO E n o s = some s1 → stepG E n all o s = some s1) → ∃ s', stepsO E n all (o :: l) s = some s' ∧ evI E n k s' = some r := by
      intro out ho hr hG
      subst ho
      split at hr
      · rename_i k2 s2 he
        split at he
        · rename_i f args argTypes hop
          rcases callOp_k (E := E) o.dst f args argTypes (.ops l all :: k) s with ⟨s', e1, e2⟩ | ⟨g, vs, outer, plain, s', e1, e2⟩ | ⟨e1, e2⟩
          · rw [e2] at he
            obtain ⟨rfl, rfl⟩ := Out.go.inj he
            exact fin (hG _ (by unfold stepO stepOV; rw [hop]; dsimp only; rw [e1]; rfl)) hr
          · rw [e2] at he; cases he
          · rw [e2] at he; cases he
        · rename_i hne
          split at he
          · rename_i s' hs'
            obtain ⟨rfl, rfl⟩ := Out.go.inj he
            refine fin (hG _ ?_) hr
            unfold stepO stepOV
            split
            · rename_i e; exact absurd e (hne _ _ _)
            · exact hs'
          · cases he
      · rename_i v o' he
        split at he
        · rename_i f args argTypes hop
          rcases callOp_k (E := E) o.dst f args argTypes (.ops l all :: k) s with ⟨s', e1, e2⟩ | ⟨g, vs, outer, plain, s', e1, e2⟩ | ⟨e1, e2⟩ <;> rw [e2] at he <;> cases he
        · split at he <;> cases he
      · cases hr
      · rename_i he
        split at he
        · rename_i f args argTypes hop
          rcases callOp_k (E := E) o.dst f args argTypes (.ops l all :: k) s with ⟨s', e1, e2⟩ | ⟨g, vs, outer, plain, s', e1, e2⟩ | ⟨e1, e2⟩ <;> rw [e2] at he <;> cases he
        · split at he <;> cases he
      · rename_i f2 args2 outer2 plain2 d2 k2 s2 he
        split at he
        · rename_i f args argTypes hop
          rcases callOp_k (E := E) o.dst f args argTypes (.ops l all :: k) s with ⟨s', e1, e2⟩ | ⟨g, vs, outer, plain, s', e1, e2⟩ | ⟨e1, e2⟩
          · rw [e2] at he; cases he
          · rw [e2] at he
            obtain ⟨rfl, rfl, rfl, rfl, rfl, rfl, rfl⟩ := Out.call.inj he
            split at hr
            · cases hr
            · rename_i k0 s0 h0
              split at hr
              · cases hr
              · rename_i r0 h1
                refine fin (hG _ ?_) hr
                unfold stepO stepOV
                rw [hop]
                dsimp only
                rw [e1]
                unfold evCallV
                dsimp only
                rw [h0]
                dsimp only
                rw [h1]
          · rw [e2] at he; cases he
        · split at he <;> cases he
    unfold stepI at h
    dsimp only at h
    cases hg : o.guard with
    | none =>
      rw [hg] at h
      exact run _ rfl h fun s1 hs1 => by unfold stepG; rw [hg]; exact hs1
    | some jw =>
      obtain ⟨j, want⟩ := jw
      rw [hg] at h
      dsimp only at h
      cases hv : ((all[j]?).bind (·.dst)).map s.t with
      | none => rw [hv] at h; cases h
      | some v =>
        rw [hv] at h
        cases v with
        | bool b =>
          dsimp only at h
          by_cases e : b = want
          · rw [if_pos e] at h
            exact run _ rfl h fun s1 hs1 => by unfold stepG; rw [hg]; dsimp only; rw [hv]; dsimp only; rw [if_pos e]; exact hs1
          · rw [if_neg e] at h
            exact fin (by unfold stepG; rw [hg]; dsimp only; rw [hv]; dsimp only; rw [if_neg e]) h
        | tup m =>
          cases m with
          | nil => exact fin (by unfold stepG; rw [hg]; dsimp only; rw [hv]) h
          | cons _ _ => cases h
        | _ => cases h
end Go.Ev
namespace Go.Ev
open Go
set_option linter.unusedVariables false
set_option linter.unusedSimpArgs false
variable {E : Env} {G : Gh} {s : St} {a : Act} {w : World}

/-- functions that are not read but known -/
def OrcOk (E : Env) : Prop := ∀ g vs v, E.orc g vs = some v → vs.any isRef = false → ∃ fn c, E.P.funcs[g]? = some fn ∧ (fn.name == "runtime.NumGoroutine") = false ∧ fn.body = some c ∧
  ∀ (S : Nat → Nat → Option Value) (w : World) (cargs : Array Value), vs.length = cargs.size → (∀ i, i < vs.length → Tr S (fun _ _ => none) (vs.getD i .undef) (cargs.getD i Go.undef)) → (∀ g j c, S g j = some c → w.cell? ⟨g, j, none⟩ = some c) →
    Calls E.P g cargs w fun e w' => ∃ x G', e = .returned x ∧ Done 0 { S := S, β := fun _ _ => none, ω := fun _ => none } w [] v x w' G'

theorem run_callFunc {P : Program} {f : FuncId} {fn : Func} {c : Code} (hf : P.funcs[f]? = some fn) (hname : (fn.name == "runtime.NumGoroutine") = false) (hb : fn.body = some c) (args : Array Value) (w : World) :
    (callFunc f args).run P w = .ok (.enter f args) w := by
  have h1 : fn.name ≠ "runtime.NumGoroutine" := by simpa using hname
  simp [callFunc, hf, h1, hb]
theorem Rel.putO (hr : Rel G s a w) {d : Option Nat} (hd : d.all (fun d => decide (d < s.n)) = true) {v : V} {x : Value} (hv : OwnS G w Pl.rs v x) : ∃ G', Rel G' (s.putO d v) (a.put d x) w ∧ Fr s.lv G w G' w := by
  cases d with
  | none => exact ⟨G, hr, Fr.refl _ _ _⟩
  | some d =>
    obtain ⟨G', h1, h2, _⟩ := hr.put hv d (by simpa using hd)
    exact ⟨G', h1, h2⟩
theorem putO_any (s : St) (d : Option Nat) (v : V) (b : Nat → Option Ob) (o : List (Nat → Option Ob)) : ({ s with b := b, o := o } : St).putO d v = { s.putO d v with b := b, o := o } := by cases d <;> rfl

theorem stepO_ok {n : Nat} (hS : SoundN E n) (hO : OrcOk E) {o : Oper} {s' : St} (h : stepO E n o s = some s') (hr : Rel G s a w) (hlow : Low s) {K : Act → World → Prop} {Q : Exit → Act → World → Prop}
    (hK : ∀ x w' G', Rel G' s' (a.put o.dst x) w' → Nx s s' → Fr s.lv G w G' w' → K (a.put o.dst x) w') : o.wp E.P a w K Q := by
  unfold stepO stepOV at h
  split at h
  · rename_i f args argTypes hop
    have hzip0 : args.size = argTypes.size → (argTypes.toList.zip args.toList).map (fun x => a.eval x.2) = (args.map a.eval).toList := by
      intro hsz
      have hl : args.toList.length ≤ argTypes.toList.length := by simp [hsz]
      have h2 : (argTypes.toList.zip args.toList).map (fun x => a.eval x.2) = ((argTypes.toList.zip args.toList).map Prod.snd).map a.eval := by rw [List.map_map]; rfl
      rw [h2, List.map_snd_zip hl]
      simp
    have hfn : ∀ {g}, s.see E.P 0 f = .fn g [] → a.eval f = .func (.func g) #[] #[] := by
      intro g hf
      have hfun := hr.see E.P 0 f
      rw [hf] at hfun
      generalize a.eval f = u at hfun
      cases hfun with
      | fn _ _ cs hl hT => rw [show cs = #[] from Array.eq_empty_of_size_eq_zero (by simpa using hl.symm)]
    have henter0 : ∀ {g fn c}, a.eval f = .func (.func g) #[] #[] → E.P.funcs[g]? = some fn → (fn.name == "runtime.NumGoroutine") = false → fn.body = some c → (execOp a.eval o).run E.P w = .ok (.enter g (args.map a.eval)) w := by
      intro g fn c hfe h1 h2 h3
      simp only [execOp, hop, resolve, hfe, Deferred.ofValue, Sem.run_bind, Sem.run_pure, Result.andThen_ok, invoke]
      rw [run_callFunc h1 h2 h3]
      simp
    unfold callOp at h
    split at h
    · unfold callB at h
      split at h
      · rename_i g vs hf hpk
        split at h
        · rename_i hc
          obtain ⟨hsz, hd⟩ := hc
          obtain ⟨len1, t1⟩ := hr.peeks (fun _ _ => none) _ hpk
          have hvl : vs.length = (args.map a.eval).size := by rw [len1]; simp [hsz]
          have hT : ∀ i, i < vs.length → Tr (rowAt w) (fun _ _ => none) (vs.getD i .undef) ((args.map a.eval).getD i Go.undef) := by
            intro i hi
            have h1 := t1 i hi
            rw [hzip0 hsz] at h1
            rw [Array.getD_eq_getD_getElem?, ← Array.getElem?_toList, ← List.getD_eq_getElem?_getD]
            exact h1
          have himm : ∀ g j c, rowAt w g j = some c → w.cell? ⟨g, j, none⟩ = some c := by
            intro g j c hc
            unfold rowAt at hc
            split at hc
            · rename_i hh; simp only [World.cell?, hh]; exact hc
            · cases hc
          unfold evCallV at h
          dsimp only at h
          split at h
          · cases h
          · rename_i k0 s0 h0
            split at h
            · cases h
            · rename_i r hev
              obtain rfl := Option.some.inj h
              obtain ⟨fn, c, q1, q2, q3, q4, _, _⟩ := startS_spec h0
              unfold Oper.wp
              rw [henter0 (hfn hf) q1 q3 q4, Oper.upon_enter]
              refine (calls_ok (G := { S := rowAt w, β := fun _ _ => none, ω := fun _ => none }) hS h0 hev hvl (fun i hi => OwnS.of_tr' (hT i hi)) (fun l t ob ho => by cases ho) (fun l t g hg => by cases hg) himm (fun g p hp => by cases hp) (fun l t ob ho => by cases ho)).mono ?_
              rintro e w' ⟨x, G', rfl, hdone, hlo⟩
              obtain ⟨G2, m1, m2, m3⟩ := after_brw hr hdone
              obtain ⟨G3, p1, p2⟩ := m1.putO hd m2
              exact hK x w' G3 p1 (.putO _ _ _) (m3.trans p2)
        · cases h
      · cases h
    split at h
    · unfold callL at h
      split at h
      · rename_i g vs s1 hf hargs
        split at h
        · rename_i hc
          obtain ⟨hsz, hd⟩ := hc
          obtain ⟨G1, r1, f1, l1, len1, t1⟩ := hr.argRs E.P _ hargs
          have nx1 : Nx s s1 := .argRs _ hargs
          have hvl : vs.length = (args.map a.eval).size := by rw [len1]; simp [hsz]
          have hT : ∀ i, i < vs.length → OwnS G1 w (Pl.tm (s.lv + 1) i) (vs.getD i .undef) ((args.map a.eval).getD i Go.undef) := by
            intro i hi
            have h1 := t1 i hi
            rw [hzip0 hsz] at h1
            rw [Array.getD_eq_getD_getElem?, ← Array.getElem?_toList, ← List.getD_eq_getElem?_getD]
            exact h1
          have hd1 : o.dst.all (fun d => decide (d < s1.n)) = true := by rw [nx1.n]; exact hd
          unfold evCallV at h
          dsimp only at h
          split at h
          · cases h
          · rename_i k0 s0 h0
            split at h
            · cases h
            · rename_i r hev
              obtain rfl := Option.some.inj h
              obtain ⟨fn, c, q1, q2, q3, q4, _, _⟩ := startS_spec h0
              unfold Oper.wp
              rw [henter0 (hfn hf) q1 q3 q4, Oper.upon_enter]
              refine (calls_ok hS h0 hev hvl (fun i hi => (by rw [show (s1.b :: s1.o).length = s.lv + 1 from congrArg (· + 1) nx1.lv]; exact hT i hi)) (fun l t ob ho => r1.obj l t ob ho) (fun l t g hg => r1.dom l t g hg) r1.imm r1.lim (nx1.low hlow).all).mono ?_
              rintro e w' ⟨x, G', rfl, hdone, hlo⟩
              obtain ⟨G2, m1, m2, m3, m4⟩ := after_deep r1 hdone hlo
              have hlv2 : ({ s1 with b := r.2.headD n0, o := r.2.tail } : St).lv = s1.lv := by
                show r.2.tail.length = s1.lv
                rw [List.length_tail, hdone.len]; rfl
              obtain ⟨G2b, m1, m2, m6⟩ := m1.setl (setF E g o.dst s1) m2
              rw [hlv2] at m6
              replace m3 := m3.trans m6
              obtain ⟨G3, p1, p2⟩ := m1.putO hd1 m2
              rw [putO_any] at p1
              refine hK x w' G3 p1 ?_ ((f1.trans (nx1.lv ▸ m3)).trans (by rw [hlv2, nx1.lv] at p2; exact p2))
              refine nx1.trans ⟨?_, ?_, ?_, ?_, fun _ => ?_⟩
              · exact hlv2
              · exact (Nx.putO s1 o.dst (setl (setF E g o.dst s1) r.1)).r
              · exact (Nx.putO s1 o.dst (setl (setF E g o.dst s1) r.1)).f
              · exact (Nx.putO s1 o.dst (setl (setF E g o.dst s1) r.1)).n
              · exact m4
        · cases h
      · cases h
    unfold callN at h
    split at h
    · rename_i g caps vs s1 hf hargs
      split at h
      · rename_i hc
        obtain ⟨hsz, hd⟩ := hc
        -- the machine's side
        have hfun := hr.see E.P 0 f
        rw [hf] at hfun
        obtain ⟨cs, hcl, hcT, hfe⟩ : ∃ cs : Array Value, caps.length = cs.size ∧ (∀ i, i < caps.length → Tr G.S G.β (caps.getD i .undef) (cs.getD i Go.undef)) ∧ a.eval f = .func (.func g) #[] cs := by
          generalize a.eval f = u at hfun
          cases hfun with
          | fn _ _ cs hl hT => exact ⟨cs, hl, hT, rfl⟩
        obtain ⟨G1, r1, f1, l1, len1, t1⟩ := hr.args E.P _ hargs
        have nx1 : Nx s s1 := .args _ hargs
        have hzip : (argTypes.toList.zip args.toList).map (fun x => a.eval x.2) = (args.map a.eval).toList := by
          have hl : args.toList.length ≤ argTypes.toList.length := by simp [hsz]
          have h2 : (argTypes.toList.zip args.toList).map (fun x => a.eval x.2) = ((argTypes.toList.zip args.toList).map Prod.snd).map a.eval := by rw [List.map_map]; rfl
          rw [h2, List.map_snd_zip hl]
          simp
        let cargs : Array Value := args.map a.eval ++ cs
        have hvl : vs.length = (args.map a.eval).size := by
          rw [len1]
          simp [hsz]
        have hlen : (vs ++ caps).length = cargs.size := by
          rw [List.length_append, hvl, hcl]
          simp [cargs]
        have hT : ∀ i, i < (vs ++ caps).length → Tr G1.S G1.β ((vs ++ caps).getD i .undef) (cargs.getD i Go.undef) := by
          intro i hi
          by_cases hlt : i < vs.length
          · have h1 := (t1 i hlt).1
            rw [hzip] at h1
            have e1 : (vs ++ caps).getD i .undef = vs.getD i .undef := by simp [List.getD_eq_getElem?_getD, List.getElem?_append_left hlt]
            have e2 : cargs.getD i Go.undef = (args.map a.eval).toList.getD i Go.undef := by
              simp only [cargs, Array.getD_eq_getD_getElem?]
              rw [Array.getElem?_append_left (by omega), List.getD_eq_getElem?_getD, Array.getElem?_toList]
            rw [e1, e2]; exact h1
          · have hi' : i - vs.length < caps.length := by rw [List.length_append] at hi; omega
            have h1 := l1.tr (hcT _ hi')
            have e1 : (vs ++ caps).getD i .undef = caps.getD (i - vs.length) .undef := by simp [List.getD_eq_getElem?_getD, List.getElem?_append_right (by omega : vs.length ≤ i)]
            have e2 : cargs.getD i Go.undef = cs.getD (i - vs.length) Go.undef := by
              simp only [cargs, Array.getD_eq_getD_getElem?]
              rw [Array.getElem?_append_right (by omega), hvl]
            rw [e1, e2]; exact h1
        have hpure : (vs ++ caps).any isRef = false → caps = [] → ∀ i, i < (vs ++ caps).length → Tr G1.S (fun _ _ => none) ((vs ++ caps).getD i .undef) (cargs.getD i Go.undef) := by
          intro hn hcn i hi
          refine (hT i hi).pure _ ?_
          have hm : (vs ++ caps).getD i .undef ∈ vs ++ caps := by
            rw [List.getD_eq_getElem?_getD, List.getElem?_eq_getElem hi]
            exact List.getElem_mem hi
          have hnr : isRef ((vs ++ caps).getD i .undef) = false := by
            cases hb : isRef ((vs ++ caps).getD i .undef) with
            | false => rfl
            | true => rw [List.any_eq_true.2 ⟨_, hm, hb⟩] at hn; cases hn
          by_cases hlt : i < vs.length
          · have e1 : (vs ++ caps).getD i .undef = vs.getD i .undef := by simp [List.getD_eq_getElem?_getD, List.getElem?_append_left hlt]
            rw [e1] at hnr ⊢
            exact (t1 i hlt).2 hnr
          · rw [List.length_append, hcn] at hi
            exact absurd (by simpa using hi) hlt
        have henter : ∀ {fn c}, E.P.funcs[g]? = some fn → (fn.name == "runtime.NumGoroutine") = false → fn.body = some c → (execOp a.eval o).run E.P w = .ok (.enter g cargs) w := by
          intro fn c h1 h2 h3
          simp only [execOp, hop, resolve, hfe, Deferred.ofValue, Sem.run_bind, Sem.run_pure, Result.andThen_ok, invoke]
          rw [run_callFunc h1 h2 h3]
          simp [cargs]
        have hst : ∀ g p, (fun _ => none : Nat → Option Pl) g = some p → g < w.heap.size := fun g p h => by cases h
        have hd1 : o.dst.all (fun d => decide (d < s1.n)) = true := by rw [nx1.n]; exact hd
        split at h
        · -- what is the caller's is handed over
          rename_i hany
          unfold evCallV at h
          dsimp only at h
          split at h
          · cases h
          · rename_i k0 s0 h0
            split at h
            · cases h
            · rename_i r hev
              obtain rfl := Option.some.inj h
              obtain ⟨fn, c, q1, q2, q3, q4, _, _⟩ := startS_spec h0
              unfold Oper.wp
              rw [henter q1 q3 q4, Oper.upon_enter]
              refine (calls_ok hS h0 hev hlen (fun i hi => OwnS.of_tr' (hT i hi)) (fun l t ob ho => r1.obj l t ob ho) (fun l t g hg => r1.dom l t g hg) r1.imm r1.lim (nx1.low hlow).all).mono ?_
              rintro e w' ⟨x, G', rfl, hdone, hlo⟩
              obtain ⟨G2, m1, m2, m3, m4⟩ := after_deep r1 hdone hlo
              have hlv2 : ({ s1 with b := r.2.headD n0, o := r.2.tail } : St).lv = s1.lv := by
                show r.2.tail.length = s1.lv
                rw [List.length_tail, hdone.len]; rfl
              obtain ⟨G2b, m1, m2, m6⟩ := m1.setl (setF E g o.dst s1) m2
              rw [hlv2] at m6
              replace m3 := m3.trans m6
              obtain ⟨G3, p1, p2⟩ := m1.putO hd1 m2
              rw [putO_any] at p1
              refine hK x w' G3 p1 ?_ ((f1.trans (nx1.lv ▸ m3)).trans (by rw [hlv2, nx1.lv] at p2; exact p2))
              refine nx1.trans ⟨?_, ?_, ?_, ?_, fun _ => ?_⟩
              · exact hlv2
              · exact (Nx.putO s1 o.dst (setl (setF E g o.dst s1) r.1)).r
              · exact (Nx.putO s1 o.dst (setl (setF E g o.dst s1) r.1)).f
              · exact (Nx.putO s1 o.dst (setl (setF E g o.dst s1) r.1)).n
              · exact m4
        · rename_i hany
          have hcn : caps = [] := by
            cases caps with
            | nil => rfl
            | cons _ _ => simp at hany
          have hany : (vs ++ caps).any isRef = false := by
            cases hb : (vs ++ caps).any isRef with
            | false => rfl
            | true => rw [hb] at hany; simp at hany
          split at h
          · rename_i v hv
            obtain rfl := Option.some.inj h
            obtain ⟨fn, c, q1, q3, q4, hcall⟩ := hO _ _ _ hv hany
            unfold Oper.wp
            rw [henter q1 q3 q4, Oper.upon_enter]
            refine (hcall G1.S w cargs hlen (hpure hany hcn) r1.imm).mono ?_
            rintro e w' ⟨x, G', rfl, hdone⟩
            obtain ⟨G2, m1, m2, m3⟩ := after_plain r1 hdone
            obtain ⟨G3, p1, p2⟩ := m1.putO hd1 m2
            exact hK x w' G3 p1 (nx1.trans (.putO _ _ _)) ((f1.trans (nx1.lv ▸ m3)).trans (nx1.lv ▸ p2))
          · unfold evCallV at h
            dsimp only at h
            split at h
            · cases h
            · rename_i k0 s0 h0
              split at h
              · cases h
              · rename_i r hev
                obtain rfl := Option.some.inj h
                obtain ⟨fn, c, q1, q2, q3, q4, _, _⟩ := startS_spec h0
                unfold Oper.wp
                rw [henter q1 q3 q4, Oper.upon_enter]
                refine (calls_ok (G := { S := G1.S, β := fun _ _ => none, ω := fun _ => none }) hS h0 hev hlen (fun i hi => OwnS.of_tr' (hpure hany hcn i hi)) (fun l t ob ho => by cases ho) (fun l t g hg => by cases hg) r1.imm (fun g p hp => by cases hp) (fun l t ob ho => by cases ho)).mono ?_
                rintro e w' ⟨x, G', rfl, hdone, hlo⟩
                obtain ⟨G2, m1, m2, m3⟩ := after_plain r1 hdone
                obtain ⟨G2b, m1, m2, m6⟩ := m1.setl (setF E g o.dst s1) m2
                replace m3 := m3.trans m6
                obtain ⟨G3, p1, p2⟩ := m1.putO hd1 m2
                exact hK x w' G3 p1 (nx1.trans (.putO _ _ _)) ((f1.trans (nx1.lv ▸ m3)).trans (nx1.lv ▸ p2))
      · cases h
    · cases h
  · unfold evOp at h
    split at h
    · rename_i d hd
      split at h
      · rename_i hlt
        obtain ⟨⟨v, s1⟩, hv, rfl⟩ := Option.map_eq_some_iff.1 h
        obtain ⟨x, w', G1, h1, h2, h3, h4⟩ := evV_ok (ty' := 0) (d := o.dst) (pos := o.pos) (af := o.after) (gd := o.guard) hr (fun hv => hr.thaw hlow hv) hv
        have nx1 : Nx s s1 := .evV hv
        obtain ⟨G2, p1, p2, _⟩ := h2.put h3 d (by rw [nx1.n]; exact hlt)
        unfold Oper.wp
        have he : (execOp a.eval o).run E.P w = .ok (.value x) w' := h1
        rw [he, Oper.upon_value]
        refine hK x w' G2 (by rw [hd]; exact p1) (nx1.trans (.put _ _ _)) (h4.trans (nx1.lv ▸ p2))
      · cases h
    · rename_i hd
      obtain ⟨w', G1, h1, h2, h3⟩ := evU_ok (d := o.dst) (ty := o.type) (pos := o.pos) (af := o.after) (gd := o.guard) hr h
      unfold Oper.wp
      have he : (execOp a.eval o).run E.P w = .ok .skip w' := h1
      rw [he, Oper.upon_skip]
      refine hK _ w' G1 (by rw [hd]; exact h2) (.evU h) h3
end Go.Ev
namespace Go.Ev
open Go
set_option linter.unusedVariables false
set_option linter.unusedSimpArgs false
variable {P : Program} {E : Env} {s : St} {H : Hint}

theorem memN_app {x : Nat} {l m : List Nat} : memN x (l ++ m) = (memN x l || memN x m) := by
  induction l with
  | nil => rfl
  | cons a l ih => simp only [List.cons_append, memN]; split <;> simp [*]
theorem memN_tmpsOf {i : Nat} : ∀ {l : List Operand}, .tmp i ∈ l → memN i (tmpsOf l) = true := by
  intro l
  induction l with
  | nil => intro h; cases h
  | cons x l ih =>
    intro h
    rcases List.mem_cons.1 h with rfl | h
    · simp [tmpsOf, memN]
    · have := ih h
      cases x <;> simp only [tmpsOf, memN] <;> first | exact this | (split <;> first | rfl | exact this)
def Agr (F : List Nat) (t t2 : Nat → V) : Prop := ∀ x, memN x F = true → t2 x = t x
def alt (s : St) (t : Nat → V) (b : Nat → Option Ob) (o : List (Nat → Option Ob)) : St := { s with t := t, b := b, o := o }
section
variable {t2 : Nat → V} {b2 : Nat → Option Ob} {o2 : List (Nat → Option Ob)}
theorem see_alt {s2 : St} {ty : TypeId} {x : Operand} (h : ∀ i, x = .tmp i → s2.t i = s.t i) : s2.see P ty x = s.see P ty x := by
  cases x with
  | tmp i => simp only [St.see]; rw [h i rfl]
  | _ => rfl
theorem all_alt {s2 : St} {ty : TypeId} {x : Operand} (h : ∀ i, x = .tmp i → s2.t i = s.t i) : s2.all P ty x = s.all P ty x := by
  cases x with
  | tmp i => simp only [St.all]; rw [h i rfl]
  | _ => rfl
theorem isRef_see (ty ty' : TypeId) (x : Operand) : isRef (s.see P ty x) = isRef (s.see P ty' x) := by
  cases x with
  | tmp i => rfl
  | const v =>
    have : ∀ ty, isRef (cst P ty v).view = false := by
      intro ty
      unfold cst
      split <;> rfl
    simp only [St.see, rd]
    rw [this, this]
  | func f => rfl
  | global g => rfl
theorem tree_nonref (s s2 : St) {v : V} (h : isRef v = false) : s.frz v = s ∧ Ev.tree s v = Ev.tree s2 v := by
  cases v <;> first | exact ⟨rfl, rfl⟩ | cases h
theorem St.tree_non {ty : TypeId} {x : Operand} (h : isRef (s.see P 0 x) = false) : s.tree P ty x = (Ev.tree s (s.see P ty x)).map (·, s) := by
  have h' : isRef (s.see P ty x) = false := by rw [isRef_see ty 0]; exact h
  unfold St.tree
  dsimp only
  rw [(tree_nonref s s h').1]
theorem St.arg_non {ty : TypeId} {x : Operand} (h : isRef (s.see P 0 x) = false) : s.arg P ty x = (Ev.tree s (s.see P ty x)).map (·, s) := by
  have h' : isRef (s.see P ty x) = false := by rw [isRef_see ty 0]; exact h
  have h2 := St.tree_non (ty := ty) h
  unfold St.arg
  split
  · rename_i e; rw [e] at h'; cases h'
  · rename_i e; rw [e] at h'; cases h'
  · rename_i f c e
    rw [e] at h' ⊢
    cases c with
    | nil => rfl
    | cons _ _ => cases h'
  · exact h2
theorem trees_non : ∀ (xs : List (TypeId × Operand)), (xs.all fun x => !isRef (s.see P 0 x.2)) = true → St.trees P s xs = (mapOpt (fun x => Ev.tree s (s.see P x.1 x.2)) xs).map (·, s) := by
  intro xs
  induction xs with
  | nil => intro _; rfl
  | cons x xs ih =>
    intro h
    simp only [List.all_cons, Bool.and_eq_true, Bool.not_eq_true'] at h
    obtain ⟨ty, x⟩ := x
    unfold St.trees
    rw [St.tree_non h.1]
    unfold mapOpt
    dsimp only
    cases Ev.tree s (s.see P ty x) with
    | none => rfl
    | some v =>
      dsimp only [Option.map]
      rw [ih (by simpa using h.2)]
      cases mapOpt (fun x => Ev.tree s (s.see P x.1 x.2)) xs <;> rfl
theorem args_non : ∀ (xs : List (TypeId × Operand)), (xs.all fun x => !isRef (s.see P 0 x.2)) = true → St.args P s xs = (mapOpt (fun x => Ev.tree s (s.see P x.1 x.2)) xs).map (·, s) := by
  intro xs
  induction xs with
  | nil => intro _; rfl
  | cons x xs ih =>
    intro h
    simp only [List.all_cons, Bool.and_eq_true, Bool.not_eq_true'] at h
    obtain ⟨ty, x⟩ := x
    unfold St.args
    rw [St.arg_non h.1]
    unfold mapOpt
    dsimp only
    cases Ev.tree s (s.see P ty x) with
    | none => rfl
    | some v =>
      dsimp only [Option.map]
      rw [ih (by simpa using h.2)]
      cases mapOpt (fun x => Ev.tree s (s.see P x.1 x.2)) xs <;> rfl
theorem mapOpt_congr {α β : Type} {f g : α → Option β} : ∀ {l : List α}, (∀ x ∈ l, f x = g x) → mapOpt f l = mapOpt g l := by
  intro l
  induction l with
  | nil => intro _; rfl
  | cons a l ih =>
    intro h
    unfold mapOpt
    rw [h a List.mem_cons_self, ih fun x hx => h x (List.mem_cons_of_mem _ hx)]
theorem treesV_alt {s2 : St} {xs : List (TypeId × Operand)} (hn : (xs.all fun x => !isRef (s.see P 0 x.2)) = true) (h : ∀ i, .tmp i ∈ xs.map Prod.snd → s2.t i = s.t i) :
    (xs.all fun x => !isRef (s2.see P 0 x.2)) = true ∧ mapOpt (fun x => Ev.tree s2 (s2.see P x.1 x.2)) xs = mapOpt (fun x => Ev.tree s (s.see P x.1 x.2)) xs := by
  have hs : ∀ x ∈ xs, ∀ ty, s2.see P ty x.2 = s.see P ty x.2 := fun x hx ty => see_alt fun i hi => h i (List.mem_map.2 ⟨x, hx, hi⟩)
  refine ⟨?_, mapOpt_congr fun x hx => ?_⟩
  · rw [List.all_eq_true] at hn ⊢
    intro x hx
    rw [hs x hx]
    exact hn x hx
  · rw [hs x hx]
    have := List.all_eq_true.1 hn x hx
    simp only [Bool.not_eq_true'] at this
    exact (tree_nonref s2 s (by rw [isRef_see x.1 0]; exact this)).2
theorem drop_t (x : Operand) : (s.drop x).t = fun i => if memN i (tmpsOf [x]) then (s.t i).view else s.t i := by
  funext i
  cases x with
  | tmp j =>
    show upd s.t j _ i = _
    simp only [upd, tmpsOf, memN]
    by_cases e : i = j
    · subst e; simp
    · simp [e]
  | _ => simp [St.drop, tmpsOf, memN]
theorem buildF_alt (fs : Array Field) : ∀ (ps : List (Nat × Operand)) {s s2 : St} {cs : List V}, (∀ i, .tmp i ∈ ps.map Prod.snd → s2.t i = s.t i) → (buildF P fs s2 cs ps).map Prod.fst = (buildF P fs s cs ps).map Prod.fst := by
  intro ps
  induction ps with
  | nil => intro s s2 cs _; rfl
  | cons p ps ih =>
    intro s s2 cs h
    obtain ⟨i, x⟩ := p
    unfold buildF
    cases fs[i]? with
    | none => rfl
    | some f =>
      dsimp only
      have h1 : s2.all P f.type x = s.all P f.type x := all_alt fun j hj => h j (by rw [← hj]; exact List.mem_cons_self)
      rw [h1]
      split
      · split
        all_goals try rfl
        · refine ih fun j hj => ?_
          rw [drop_t, drop_t]
          dsimp only
          rw [h j (List.mem_cons_of_mem _ hj)]
      · rfl
theorem buildF_st (fs : Array Field) : ∀ (ps : List (Nat × Operand)) {s s1 : St} {cs cs1 : List V}, buildF P fs s cs ps = some (cs1, s1) → s1 = { s with t := fun x => if memN x (tmpsOf (ps.map Prod.snd)) then (s.t x).view else s.t x } := by
  intro ps
  induction ps with
  | nil => intro s s1 cs cs1 h; obtain ⟨_, rfl⟩ := Prod.mk.inj (Option.some.inj h); rfl
  | cons p ps ih =>
    intro s s1 cs cs1 h
    obtain ⟨i, x⟩ := p
    unfold buildF at h
    split at h
    · dsimp only at h
      split at h
      · split at h
        · cases h
        · cases h
        · rw [ih h]
          have hd : s.drop x = { s with t := (s.drop x).t } := by unfold St.drop; split <;> rfl
          rw [hd]
          congr 1
          funext j
          dsimp only
          rw [drop_t]
          have e2 : memN j (tmpsOf (List.map Prod.snd ((i, x) :: ps))) = (memN j (tmpsOf [x]) || memN j (tmpsOf (List.map Prod.snd ps))) := by
            cases x <;> simp [tmpsOf, memN]
            try (split <;> simp)
          rw [e2]
          by_cases h1 : memN j (tmpsOf [x]) = true <;> by_cases h2 : memN j (tmpsOf (List.map Prod.snd ps)) = true <;> simp [h1, h2, V.view_view]
      · cases h
    · cases h
theorem handAll_alt (e : TypeId) : ∀ (xs : List Operand) {s s2 : St}, (∀ i, .tmp i ∈ xs → s2.t i = s.t i) → (handAll P e s2 xs).map Prod.fst = (handAll P e s xs).map Prod.fst := by
  intro xs
  induction xs with
  | nil => intro s s2 _; rfl
  | cons x xs ih =>
    intro s s2 h
    unfold handAll
    have h1 : s2.all P e x = s.all P e x := all_alt fun j hj => h j (by rw [← hj]; exact List.mem_cons_self)
    rw [h1]
    have h2 := ih (s := s.drop x) (s2 := s2.drop x) fun j hj => by
      rw [drop_t, drop_t]
      dsimp only
      rw [h j (List.mem_cons_of_mem _ hj)]
    split
    · rfl
    · rfl
    · cases e1 : handAll P e (s2.drop x) xs with
      | none =>
        rw [e1] at h2
        cases e2 : handAll P e (s.drop x) xs with
        | none => rfl
        | some r => rw [e2] at h2; cases h2
      | some r =>
        rw [e1] at h2
        cases e2 : handAll P e (s.drop x) xs with
        | none => rw [e2] at h2; cases h2
        | some r2 =>
          rw [e2] at h2
          have h3 : r.1 = r2.1 := Option.some.inj h2
          show some (_ :: r.1) = some (_ :: r2.1)
          rw [h3]
theorem handAll_st (e : TypeId) : ∀ (xs : List Operand) {s s1 : St} {vs : List V}, handAll P e s xs = some (vs, s1) → s1 = { s with t := fun x => if memN x (tmpsOf xs) then (s.t x).view else s.t x } := by
  intro xs
  induction xs with
  | nil => intro s s1 vs h; obtain ⟨_, rfl⟩ := Prod.mk.inj (Option.some.inj h); rfl
  | cons x xs ih =>
    intro s s1 vs h
    unfold handAll at h
    split at h
    · cases h
    · cases h
    · split at h
      · rename_i h1
        obtain ⟨_, rfl⟩ := Prod.mk.inj (Option.some.inj h)
        rw [ih h1]
        have hd : s.drop x = { s with t := (s.drop x).t } := by unfold St.drop; split <;> rfl
        rw [hd]
        congr 1
        funext j
        dsimp only
        rw [drop_t]
        have e2 : memN j (tmpsOf (x :: xs)) = (memN j (tmpsOf [x]) || memN j (tmpsOf xs)) := by
          cases x <;> simp [tmpsOf, memN]
          try (split <;> simp)
        rw [e2]
        by_cases h1 : memN j (tmpsOf [x]) = true <;> by_cases h2 : memN j (tmpsOf xs) = true <;> simp [h1, h2, V.view_view]
      · cases h
end
end Go.Ev
namespace Go.Ev
open Go
set_option linter.unusedVariables false
set_option linter.unusedSimpArgs false
variable {P : Program} {E : Env} {s : St} {H : Hint} {ev : Run}

def dropL (s : St) (D : List Nat) : St := { s with t := fun x => if memN x D then (s.t x).view else s.t x }
theorem dropL_nil : dropL s [] = s := rfl
theorem drop_eq (x : Operand) : s.drop x = dropL s (tmpsOf [x]) := by
  have hd : s.drop x = { s with t := (s.drop x).t } := by unfold St.drop; split <;> rfl
  rw [hd, drop_t]
  rfl
theorem setX_eq (o : Oper) (v : V) (hc : cuts H o = []) : s.setX H o v = (dropL s (drops H o)).putO o.dst v := by
  unfold St.setX
  rw [hc]
  cases h : o.dst with
  | none =>
    show _ = dropL s (drops H o)
    unfold dropL setT
    simp [memN]
  | some d =>
    show _ = (dropL s (drops H o)).put d v
    unfold dropL St.put upd setT
    congr 1
    funext x
    by_cases e : x = d
    · subst e; simp
    · have : ¬ d = x := fun h => e h.symm
      simp [e, this, memN]
theorem pk' {x : Option V} {v : V} {s1 : St} (h : x.map (·, s) = some (v, s1)) : s1 = s := (pk h).2
theorem mv_st {d : Nat} {ty : TypeId} {v : V} {s1 : St} : ∀ x : Operand, (match x with
    | .tmp i => if memN d H.take then some (s.t i, s.drop x) else some ((s.t i).view, s)
    | x => some (rd P s.t ty x, s)) = some (v, s1) → s1 = dropL s (if memN d H.take then tmpsOf [x] else []) := by
  intro x hv
  split at hv
  · split at hv <;> obtain ⟨rfl, rfl⟩ := Prod.mk.inj (Option.some.inj hv)
    · rename_i h; rw [if_pos h]; exact drop_eq _
    · rename_i h; rw [if_neg h]; rfl
  · obtain ⟨rfl, rfl⟩ := Prod.mk.inj (Option.some.inj hv)
    rename_i hn
    have : tmpsOf [x] = [] := by cases x <;> first | rfl | exact absurd rfl (hn _)
    rw [this]
    split <;> rfl
theorem mv_red {d : Nat} {ty : TypeId} (hn : (memN d H.frz || memN d H.make || memN d H.own) = false) : ∀ x : Operand, (match x with
    | .tmp i => if memN d H.own then thaw s (s.t i) else if memN d H.frz then s.tree P ty (.tmp i) else if memN d H.take then (if memN d H.make then uMake (s.drop x) d (s.t i) else some (s.t i, s.drop x)) else some ((s.t i).view, s)
    | x => some (rd P s.t ty x, s)) = (match x with
    | .tmp i => if memN d H.take then some (s.t i, s.drop x) else some ((s.t i).view, s)
    | x => some (rd P s.t ty x, s)) := by
  intro x
  rw [Bool.or_eq_false_iff, Bool.or_eq_false_iff] at hn
  cases x <;> simp [hn.1.1, hn.1.2, hn.2]
theorem cuts_nil {o : Oper} (h : ∀ u i, o.op ≠ .extract u i) : cuts H o = [] := by
  unfold cuts
  split
  · rename_i u i e; exact absurd e (h _ _)
  · rfl
/-- what is handed over, and nothing else -/
theorem evV_st {d : Nat} {ty : TypeId} {op : Op} {pos : String} {af : Array Edge} {gd : Option (Nat × Bool)} {v : V} {s1 : St} (hx : isX P H ⟨some d, op, ty, pos, af, gd⟩ = true) (hd : dynX P ⟨some d, op, ty, pos, af, gd⟩ s = true) (hne : ∀ u i, op ≠ .extract u i) (hv : evV P H d ty op s = some (v, s1)) : s1 = dropL s (drops H ⟨some d, op, ty, pos, af, gd⟩) := by
  have mv := fun x hv => mv_st (P := P) (s := s) (H := H) (d := d) (ty := ty) (v := v) (s1 := s1) x hv
  unfold evV at hv
  split at hv
  case h_1 x => exact mv x ((mv_red (by simpa [isX, and_assoc] using hx) x).symm.trans hv)
  case h_2 x => exact mv x ((mv_red (by simpa [isX, and_assoc] using hx) x).symm.trans hv)
  case h_3 =>
    split at hv
    · obtain ⟨rfl, rfl⟩ := Prod.mk.inj (Option.some.inj hv); rfl
    · cases hv
  case h_6 t ps =>
    split at hv
    · rename_i fs z hu hz
      split at hv
      · obtain ⟨r, hr, he⟩ := Option.map_eq_some_iff.1 hv
        obtain ⟨rfl, rfl⟩ := Prod.mk.inj he
        have hm : memN d H.arrs = false := by simpa [isX, hu] using hx
        have hdr : drops H ⟨some d, .build t ps, ty, pos, af, gd⟩ = tmpsOf (ps.toList.map (·.2)) := by simp [drops, hm]
        rw [hdr]
        exact buildF_st _ _ hr
      · cases hv
    · rename_i n e z hu hz
      have hm : memN d H.arrs = true := by simpa [isX, hu] using hx
      have hdr : drops H ⟨some d, .build t ps, ty, pos, af, gd⟩ = [] := by simp [drops, hm]
      rw [hdr]
      have hn : ((ps.toList.map fun p => (e, p.2)).all fun x => !isRef (s.see P 0 x.2)) = true := by
        simpa [dynX, List.all_map, Function.comp_def] using hd
      split at hv
      · split at hv
        · rename_i ht
          rw [trees_non _ hn] at ht
          split at hv
          · obtain ⟨rfl, rfl⟩ := Prod.mk.inj (Option.some.inj hv)
            obtain ⟨_, _, he⟩ := Option.map_eq_some_iff.1 ht
            obtain ⟨_, rfl⟩ := Prod.mk.inj he
            rfl
          · cases hv
        · cases hv
      · cases hv
    · cases hv
  case h_7 t n ps =>
    have hmk : memN d H.make = false := by simpa [isX] using hx
    by_cases hmo : memN d H.own = true
    · rw [if_pos hmo] at hv
      have hdr : drops H ⟨some d, .buildSlice t n ps, ty, pos, af, gd⟩ = tmpsOf (ps.toList.map (·.2)) := by simp [drops, hmo]
      rw [hdr]
      split at hv
      · split at hv
        · rename_i ht
          split at hv
          · obtain ⟨rfl, rfl⟩ := Prod.mk.inj (Option.some.inj hv)
            exact handAll_st _ _ ht
          · cases hv
        · cases hv
      · cases hv
    have hmo : memN d H.own = false := by simpa using hmo
    have hdr : drops H ⟨some d, .buildSlice t n ps, ty, pos, af, gd⟩ = [] := by simp [drops, hmo]
    rw [hdr]
    rw [hmo] at hv
    simp only [Bool.false_eq_true, if_false] at hv
    have hn : ((ps.toList.map fun p => (elemOf P t, p.2)).all fun x => !isRef (s.see P 0 x.2)) = true := by
      simpa [dynX, List.all_map, Function.comp_def] using hd
    split at hv
    · split at hv
      · rename_i ht
        rw [trees_non _ hn] at ht
        split at hv
        · rw [hmk] at hv
          simp only [Bool.false_eq_true, if_false] at hv
          obtain ⟨rfl, rfl⟩ := Prod.mk.inj (Option.some.inj hv)
          obtain ⟨_, _, he⟩ := Option.map_eq_some_iff.1 ht
          obtain ⟨_, rfl⟩ := Prod.mk.inj he
          rfl
        · cases hv
      · cases hv
    · cases hv
  case h_9 =>
    split at hv <;> first
      | (cases hv; done)
      | (obtain ⟨rfl, rfl⟩ := Prod.mk.inj (Option.some.inj hv); rfl)
  case h_15 t l c =>
    obtain ⟨hmk, hmo⟩ : memN d H.make = false ∧ memN d H.own = false := by simpa [isX] using hx
    split at hv
    · split at hv
      · split at hv
        · rw [hmk, hmo] at hv
          simp only [Bool.false_eq_true, if_false] at hv
          obtain ⟨rfl, rfl⟩ := Prod.mk.inj (Option.some.inj hv)
          rfl
        · cases hv
      · cases hv
    · cases hv
  case h_16 =>
    split at hv
    · exact pk' hv
    · cases hv
  case h_22 u i => exact absurd rfl (hne u i)
  case h_23 b args argTypes =>
    obtain ⟨args⟩ := args
    obtain ⟨argTypes⟩ := argTypes
    dsimp only at hv
    split at hv
    · exact pk' hv
    · exact pk' hv
    · exact pk' hv
    · have hmo : memN d H.own = false := by simpa [isX] using hx
      rw [hmo] at hv
      simp only [Bool.false_eq_true, if_false] at hv
      obtain ⟨u, hu, he⟩ := Option.map_eq_some_iff.1 hv
      obtain ⟨rfl, rfl⟩ := Prod.mk.inj he
      exact drop_eq _
    · cases hv
  all_goals first
    | (exact pk' hv)
    | (split at hv <;> exact pk' hv)
    | (simp [isX] at hx; done)
    | (cases hv; done)
theorem fst_pair {x : Option V} (s : St) : (x.map (·, s)).map Prod.fst = x := by cases x <;> rfl
/-- what is looked at, and nothing else -/
theorem evV_alt {d : Nat} {ty : TypeId} {op : Op} {pos : String} {af : Array Edge} {gd : Option (Nat × Bool)} {s2 : St} (hx : isX P H ⟨some d, op, ty, pos, af, gd⟩ = true) (hd : dynX P ⟨some d, op, ty, pos, af, gd⟩ s = true) (hne : ∀ u i, op ≠ .extract u i)
    (hag : ∀ i, .tmp i ∈ op.operands.toList → s2.t i = s.t i) : (evV P H d ty op s2).map Prod.fst = (evV P H d ty op s).map Prod.fst := by
  have hs : ∀ ty x, x ∈ op.operands.toList → s2.see P ty x = s.see P ty x := fun ty x hx => see_alt fun i hi => hag i (hi ▸ hx)
  have ha : ∀ ty x, x ∈ op.operands.toList → s2.all P ty x = s.all P ty x := fun ty x hx => all_alt fun i hi => hag i (hi ▸ hx)
  have mv : ∀ x : Operand, x ∈ op.operands.toList → Option.map Prod.fst (match x with
    | .tmp i => if memN d H.take then some (s2.t i, s2.drop x) else some ((s2.t i).view, s2)
    | x => some (rd P s2.t ty x, s2)) = Option.map Prod.fst (match x with
    | .tmp i => if memN d H.take then some (s.t i, s.drop x) else some ((s.t i).view, s)
    | x => some (rd P s.t ty x, s)) := by
    intro x hx
    cases x with
    | tmp i =>
      dsimp only
      rw [hag i hx]
      split <;> rfl
    | _ => rfl
  cases op
  case move x =>
    have hq : (memN d H.frz || memN d H.make || memN d H.own) = false := by simpa [isX] using hx
    have e1 := mv_red (P := P) (s := s) (ty := ty) hq x
    have e2 := mv_red (P := P) (s := s2) (ty := ty) hq x
    exact (congrArg (Option.map Prod.fst) e2).trans ((mv x (by simp [Op.operands])).trans (congrArg (Option.map Prod.fst) e1).symm)
  case assign x =>
    have hq : (memN d H.frz || memN d H.make || memN d H.own) = false := by simpa [isX] using hx
    have e1 := mv_red (P := P) (s := s) (ty := ty) hq x
    have e2 := mv_red (P := P) (s := s2) (ty := ty) hq x
    exact (congrArg (Option.map Prod.fst) e2).trans ((mv x (by simp [Op.operands])).trans (congrArg (Option.map Prod.fst) e1).symm)
  case pick c a b =>
    simp only [evV]
    rw [hs 0 c (by simp [Op.operands]), hs ty a (by simp [Op.operands]), hs ty b (by simp [Op.operands])]
    split <;> rfl
  case build t ps =>
    simp only [evV]
    split
    · split
      · have := buildF_alt (P := P) ‹Array Field› ps.toList (s := s) (s2 := s2) (cs := ‹List V›) fun i hi => hag i (by simpa [Op.operands] using hi)
        rw [Option.map_map, Option.map_map]
        have e1 : (Prod.fst ∘ fun r : List V × St => (V.agg r.1, r.2)) = V.agg ∘ Prod.fst := rfl
        rw [e1, ← Option.map_map, ← Option.map_map, this]
      · rfl
    · rename_i n e z hu hz
      have hn : ((ps.toList.map fun p => (e, p.2)).all fun x => !isRef (s.see P 0 x.2)) = true := by
        simpa [dynX, List.all_map, Function.comp_def] using hd
      obtain ⟨h1, h2⟩ := treesV_alt (s2 := s2) hn fun i hi => hag i (by
        simp only [Op.operands]
        simpa [List.map_map, Function.comp_def] using hi)
      rw [trees_non _ hn, trees_non _ h1, h2]
      split
      · cases mapOpt (fun x => Ev.tree s (s.see P x.1 x.2)) (ps.toList.map fun p => (e, p.2)) with
        | none => rfl
        | some vs =>
          by_cases hc : (vs.all fun v => v.flat.length == szOf P e) = true <;> simp [hc]
      · rfl
    · rfl
  case buildSlice t n ps =>
    have hmk : memN d H.make = false := by simpa [isX] using hx
    by_cases hmo : memN d H.own = true
    · simp only [evV, hmo, if_true]
      have hh := handAll_alt (P := P) (elemOf P t) (ps.toList.map (·.2)) (s := s) (s2 := s2) fun i hi => hag i (by simpa [Op.operands] using hi)
      split
      · cases e1 : handAll P (elemOf P t) s2 (ps.toList.map (·.2)) with
        | none =>
          rw [e1] at hh
          cases e2 : handAll P (elemOf P t) s (ps.toList.map (·.2)) with
          | none => rfl
          | some r => rw [e2] at hh; cases hh
        | some r =>
          rw [e1] at hh
          cases e2 : handAll P (elemOf P t) s (ps.toList.map (·.2)) with
          | none => rw [e2] at hh; cases hh
          | some r2 =>
            rw [e2] at hh
            have h3 : r.1 = r2.1 := Option.some.inj hh
            obtain ⟨vs, s3⟩ := r
            obtain ⟨vs2, s4⟩ := r2
            dsimp only at h3 ⊢
            subst h3
            split <;> rfl
      · rfl
    have hmo : memN d H.own = false := by simpa using hmo
    have hn : ((ps.toList.map fun p => (elemOf P t, p.2)).all fun x => !isRef (s.see P 0 x.2)) = true := by
      simpa [dynX, List.all_map, Function.comp_def] using hd
    obtain ⟨h1, h2⟩ := treesV_alt (s2 := s2) hn fun i hi => hag i (by
      simp only [Op.operands]
      simpa [List.map_map, Function.comp_def] using hi)
    simp only [evV, hmk, hmo, Bool.false_eq_true, if_false]
    rw [trees_non _ hn, trees_non _ h1, h2]
    split
    · cases mapOpt (fun x => Ev.tree s (s.see P x.1 x.2)) (ps.toList.map fun p => (elemOf P t, p.2)) with
      | none => rfl
      | some vs =>
        by_cases hc : (vs.all fun v => v.flat.length == elemSz P t) = true <;> simp [hc]
    · rfl
  case nilCheck x =>
    simp only [evV]
    rw [hs 0 x (by simp [Op.operands])]
    split <;> rfl
  case makeSlice t l c =>
    obtain ⟨hmk, hmo⟩ : memN d H.make = false ∧ memN d H.own = false := by simpa [isX] using hx
    simp only [evV, hmk, hmo, Bool.false_eq_true, if_false]
    rw [hs 0 l (by simp [Op.operands]), hs 0 c (by simp [Op.operands])]
    split
    · split
      · split <;> rfl
      · rfl
    · rfl
  case slice t x lo hi mx =>
    simp only [evV]
    have h1 : lo.map (s2.see P 0) = lo.map (s.see P 0) := by
      cases lo with
      | none => rfl
      | some y => simp only [Option.map]; rw [hs 0 y (by simp [Op.operands])]
    have h2 : hi.map (s2.see P 0) = hi.map (s.see P 0) := by
      cases hi with
      | none => rfl
      | some y => simp only [Option.map]; rw [hs 0 y (by simp [Op.operands])]
    have h3 : mx.map (s2.see P 0) = mx.map (s.see P 0) := by
      cases mx with
      | none => rfl
      | some y => simp only [Option.map]; rw [hs 0 y (by simp [Op.operands])]
    rw [h1, h2, h3, hs t x (by simp [Op.operands])]
    split
    · rw [fst_pair, fst_pair]
    · rfl
  case binOp op t x y u =>
    simp only [evV]
    rw [hs t x (by simp [Op.operands]), hs t y (by simp [Op.operands])]
    split <;> rw [fst_pair, fst_pair]
  case unOp op t x =>
    simp only [evV]
    rw [hs t x (by simp [Op.operands]), fst_pair, fst_pair]
  case convert a b x =>
    simp only [evV]
    rw [hs a x (by simp [Op.operands]), fst_pair, fst_pair]
  case fieldAddr t x f =>
    simp only [evV]
    rw [hs 0 x (by simp [Op.operands]), fst_pair, fst_pair]
  case field t x f =>
    simp only [evV]
    rw [hs t x (by simp [Op.operands]), fst_pair, fst_pair]
    rfl
  case indexAddr t x i =>
    simp only [evV]
    rw [hs t x (by simp [Op.operands]), hs 0 i (by simp [Op.operands]), fst_pair, fst_pair]
  case index t x i =>
    simp only [evV]
    rw [hs t x (by simp [Op.operands]), hs 0 i (by simp [Op.operands]), fst_pair, fst_pair]
  case extract u i => exact absurd rfl (hne u i)
  case call c =>
    obtain ⟨callee, args, argTypes⟩ := c
    cases callee with
    | value f => rfl
    | invoke r m => rfl
    | builtin b =>
      obtain ⟨args⟩ := args
      obtain ⟨argTypes⟩ := argTypes
      simp only [evV]
      split
      · rename_i t x
        rw [hs _ _ (by simp [Op.operands, Call.operands]), fst_pair, fst_pair]
        have hm := hd
        simp only [dynX, List.all_cons, List.all_nil, Bool.and_true, Bool.not_eq_true'] at hm
        have e : ∀ (a b : TypeId) (y : Operand), isMp (s.see P a y) = isMp (s.see P b y) := by
          intro a b y
          cases y with
          | tmp i => rfl
          | const v =>
            have : ∀ ty, isMp (cst P ty v).view = false := by intro ty; unfold cst; split <;> rfl
            simp only [St.see, rd]
            rw [this, this]
          | func f => rfl
          | global g => rfl
        rw [e 0 _] at hm
        unfold lenV
        split <;> first | rfl | (rename_i h1; rw [h1] at hm; cases hm)
      · rw [hs _ _ (by simp [Op.operands, Call.operands]), hs _ _ (by simp [Op.operands, Call.operands]), fst_pair, fst_pair]
      · rw [hs _ _ (by simp [Op.operands, Call.operands]), hs _ _ (by simp [Op.operands, Call.operands]), fst_pair, fst_pair]
      · have hmo : memN d H.own = false := by simpa [isX] using hx
        rw [hmo]
        simp only [Bool.false_eq_true, if_false]
        rw [ha _ _ (by simp [Op.operands, Call.operands]), hs _ _ (by simp [Op.operands, Call.operands]), fst_pair, fst_pair]
      · rfl
  all_goals (simp [isX] at hx; done)
end Go.Ev
namespace Go.Ev
open Go
set_option linter.unusedVariables false
set_option linter.unusedSimpArgs false
variable {P : Program} {E : Env} {s s2 : St} {H : Hint} {ev : Run} {o : Oper}

def AgrO (o : Oper) (s s2 : St) : Prop := ∀ i, .tmp i ∈ o.op.operands.toList → s2.t i = s.t i
theorem AgrO.see (h : AgrO o s s2) {x : Operand} (hx : x ∈ o.op.operands.toList) (ty : TypeId) : s2.see P ty x = s.see P ty x := see_alt fun i hi => h i (hi ▸ hx)
theorem dynX_alt (h : AgrO o s s2) : dynX P o s2 = dynX P o s := by
  obtain ⟨dst, op, ty, pos, af, gd⟩ := o
  have hs := fun (x : Operand) (hx : x ∈ op.operands.toList) ty => AgrO.see (P := P) h hx ty
  have all_congr : ∀ {α : Type} (l : List α) (f g : α → Bool), (∀ x ∈ l, f x = g x) → l.all f = l.all g := by
    intro α l f g hh
    induction l with
    | nil => rfl
    | cons a l ih => simp only [List.all_cons]; rw [hh a List.mem_cons_self, ih fun x hx => hh x (List.mem_cons_of_mem _ hx)]
  unfold dynX
  dsimp only
  split
  · rename_i t ps
    refine all_congr _ _ _ fun p hp => ?_
    rw [hs p.2 (by simp only [Op.operands]; simpa using ⟨p.1, Array.mem_toList_iff.1 hp⟩)]
  · rename_i t n ps
    refine all_congr _ _ _ fun p hp => ?_
    rw [hs p.2 (by simp only [Op.operands]; simpa using ⟨p.1, Array.mem_toList_iff.1 hp⟩)]
  · rename_i f args tys
    rw [hs f (by simp [Op.operands, Call.operands])]
    congr 1
    refine all_congr _ _ _ fun x hx => ?_
    rw [hs x (by simp only [Op.operands, Call.operands]; simp; exact .inr (Array.mem_toList_iff.1 hx))]
  · rename_i args tys
    refine all_congr _ _ _ fun x hx => ?_
    rw [hs x (by simp only [Op.operands, Call.operands]; simpa using hx)]
  · rfl
theorem isX_dst (h : isX P H o = true) : ∃ d, o.dst = some d := by
  unfold isX at h
  split at h
  · cases h
  · exact ⟨_, by assumption⟩
theorem zip_non {args : Array Operand} {tys : Array TypeId} (h : (args.toList.all fun x => !isRef (s.see P 0 x)) = true) : ((tys.toList.zip args.toList).all fun x => !isRef (s.see P 0 x.2)) = true := by
  rw [List.all_eq_true] at h ⊢
  intro x hx
  exact h x.2 (List.of_mem_zip hx).2
theorem xval_alt (hx : isX E.P (E.H s.f) o = true) (hd : dynX E.P o s = true) (hag : AgrO o s s2) (hn : s2.n = s.n) (hf : s2.f = s.f) : xval E ev o s2 = xval E ev o s := by
  obtain ⟨dst, op, ty, pos, af, gd⟩ := o
  obtain ⟨d, hdst⟩ := isX_dst hx
  dsimp only at hdst
  subst hdst
  unfold xval
  dsimp only
  split
  · rename_i u i
    rw [hag u (by simp [Op.operands]), hf]
  · rename_i f args tys
    have hs := fun (x : Operand) hx ty => AgrO.see (P := E.P) (x := x) hag hx ty
    rw [hs f (by simp [Op.operands, Call.operands])]
    simp only [dynX, Bool.and_eq_true] at hd
    have h1 := zip_non (tys := tys) hd.2
    obtain ⟨h2, h3⟩ := treesV_alt (s2 := s2) h1 fun i hi => hag i (by
      obtain ⟨x, hx, he⟩ := List.mem_map.1 hi
      have := (List.of_mem_zip hx).2
      rw [he] at this
      simp only [Op.operands, Call.operands]; simp; exact .inr (Array.mem_toList_iff.1 this))
    rw [args_non _ h1, args_non _ h2, h3, hn]
    have hF : ∀ g, setF E g (some d) s2 = setF E g (some d) s := fun g => by unfold setF; rw [hf]
    simp only [hF]
    cases s.see E.P 0 f with
    | fn g caps =>
      cases caps with
      | nil => cases mapOpt (fun x => Ev.tree s (s.see E.P x.1 x.2)) (tys.toList.zip args.toList) <;> rfl
      | cons _ _ => rfl
    | _ => rfl
  · rename_i h1 h2
    rw [hf]
    by_cases he : ∃ u i, op = .extract u i
    · obtain ⟨u, i, rfl⟩ := he
      have hu : ∀ j, u ≠ .tmp j := fun j e => h1 j i (by rw [e])
      unfold evV
      cases u with
      | tmp j => exact absurd rfl (hu j)
      | _ => rfl
    · exact evV_alt hx hd (fun u i e => he ⟨u, i, e⟩) hag
theorem xval_step {v : V} (hx : isX E.P (E.H s.f) o = true) (hd : dynX E.P o s = true) (hin : inDst s o = true) (hv : xval E ev o s = some v) (hne : ∀ u i, o.op ≠ .extract u i) : stepOV E ev o s = some (s.setX (E.H s.f) o v) := by
  obtain ⟨dst, op, ty, pos, af, gd⟩ := o
  obtain ⟨d, hdst⟩ := isX_dst hx
  dsimp only at hdst
  subst hdst
  rw [setX_eq _ _ (cuts_nil hne)]
  unfold xval at hv
  unfold stepOV
  dsimp only at hv ⊢
  split at hv
  · rename_i u i; exact absurd rfl (hne _ _)
  · rename_i f args tys
    simp only [dynX, Bool.and_eq_true] at hd
    have h1 := zip_non (tys := tys) hd.2
    split at hv
    · rename_i g vs sx hf ha
      have ha0 := ha
      rw [args_non _ h1] at ha0
      obtain ⟨vs', hvs, he⟩ := Option.map_eq_some_iff.1 ha0
      obtain ⟨rfl, rfl⟩ := Prod.mk.inj he
      split at hv
      · rename_i hc
        have hnr : (vs' ++ []).any isRef = false := by
          obtain ⟨hl, hm⟩ := mapOpt_spec hvs
          cases hb : (vs' ++ []).any isRef with
          | false => rfl
          | true =>
            obtain ⟨y, hy, hr⟩ := List.any_eq_true.1 hb
            rw [List.append_nil] at hy
            obtain ⟨j, hj, rfl⟩ := List.getElem_of_mem hy
            have hj' : j < (tys.toList.zip args.toList).length := by omega
            obtain ⟨z, z1, z2⟩ := hm j _ (List.getElem?_eq_getElem hj')
            rw [List.getElem?_eq_getElem hj] at z1
            have hr := hr
            have z3 := Option.some.inj z1
            rw [← z3] at z2
            generalize vs'[j] = y' at hr z2
            have hn := List.all_eq_true.1 h1 _ (List.getElem_mem hj')
            simp only [Bool.not_eq_true'] at hn
            rw [isRef_see 0 ((tys.toList.zip args.toList)[j]).1] at hn
            generalize s.see E.P ((tys.toList.zip args.toList)[j]).1 ((tys.toList.zip args.toList)[j]).2 = q at z2 hn
            unfold Ev.tree at z2
            split at z2
            · cases hn
            · split at z2
              · obtain rfl := Option.some.inj z2; cases hr
              · cases z2
            · split at z2
              · rename_i hp
                obtain rfl := Option.some.inj z2
                cases q with
                | fn f' c' =>
                  cases c' with
                  | nil => cases hr
                  | cons _ _ => cases hp
                | slc own sz l => cases hr
                | _ => first | (cases hr; done) | (cases hp; done)
              · cases z2
        have hcall : callOp E (some d) f args tys [] s = match E.orc g vs' with
            | some v => .go [] (s.putO (some d) v)
            | none => .call g vs' [] (true, setF E g (some d) s, false) (some d) [] s := by
          obtain ⟨hnb, hnl⟩ : memN d (E.H s.f).brw = false ∧ memN d (E.H s.f).lend = false := by
            have := hx
            simp [isX] at this
            exact this.2
          have hnb' : inOpt (some d) (E.H s.f).brw = false := hnb
          have hnl' : inOpt (some d) (E.H s.f).lend = false := hnl
          rw [callOp_N hnb' hnl']
          unfold callN
          rw [hf, ha]
          dsimp only
          rw [if_pos hc, hnr]
          simp only [Bool.false_or, List.isEmpty_nil, Bool.not_true, Bool.false_eq_true, if_false, List.append_nil]
          cases E.orc g vs' <;> rfl
        show evCallV E ev (callOp E (some d) f args tys [] s) = some ((dropL s []).putO (some d) v)
        rw [hcall, dropL_nil]
        split at hv
        · rename_i ho
          rw [ho]
          obtain rfl := Option.some.inj hv
          rfl
        · rename_i ho
          rw [ho]
          dsimp only [evCallV]
          split at hv
          · rename_i h0
            obtain ⟨r, hr, rfl⟩ := Option.map_eq_some_iff.1 hv
            rw [h0]
            dsimp only
            rw [hr]
            rfl
          · cases hv
      · cases hv
    · cases hv
  · rename_i h1 h2
    obtain ⟨⟨v', s1⟩, hev, rfl⟩ := Option.map_eq_some_iff.1 hv
    have hst := evV_st hx hd hne hev
    have hlt : d < s.n := by simpa [inDst] using hin
    have he : evOp E.P (E.H s.f) ⟨some d, op, ty, pos, af, gd⟩ s = some (s1.put d v') := by
      unfold evOp
      dsimp only
      rw [if_pos hlt]
      show Option.map _ (evV E.P (E.H s.f) d ty op s) = _
      rw [show evV E.P (E.H s.f) d ty op s = some (v', s1) from hev]
      rfl
    rw [hst] at he
    split
    · exact absurd rfl (h2 _ _ _)
    · exact he
end Go.Ev
