/- One operation, and a region. -/
import Derived.Test.YtdepiibcopbjlaaEvSound
import Derived.Orders
namespace Go.Ev
open Go
set_option linter.unusedVariables false
set_option linter.unusedSimpArgs false
variable {E : Env} {G : Gh} {s : St} {a : Act} {w : World}

/-- functions that are not read but known -/
def OrcOk (E : Env) : Prop := ∀ g vs v, E.orc g vs = some v → vs.any isRef = false → ∃ fn c, E.P.funcs[g]? = some fn ∧ (fn.name == "runtime.NumGoroutine") = false ∧ fn.body = some c ∧
  ∀ (S : Nat → Nat → Option Value) (w : World) (cargs : Array Value), vs.length = cargs.size → (∀ i, i < vs.length → Tr S (fun _ _ => none) (vs.getD i .undef) (cargs.getD i Go.undef)) → (∀ g j c, S g j = some c → w.cell? ⟨g, j, none⟩ = some c) →
    Calls E.P g cargs w fun e w' => ∃ x G', e = .returned x ∧ Done 0 { S := S, β := fun _ _ => none, ω := fun _ => none } w [] v x w' G'

theorem run_callFunc {P : Program} {f : FuncId} {fn : Func} {c : Code} (hf : P.funcs[f]? = some fn) (hname : (fn.name == "runtime.NumGoroutine") = false) (hb : fn.body = some c) (args : Array Value) (w : World) :
    (callFunc f args).run P w = .ok (.enter f args) w := by
  have h1 : fn.name ≠ "runtime.NumGoroutine" := by simpa using hname
  simp [callFunc, hf, h1, hb]
theorem Rel.putO (hr : Rel G s a w) {d : Option Nat} (hd : d.all (fun d => decide (d < s.n)) = true) {v : V} {x : Value} (hv : OwnS G w Pl.rs v x) : ∃ G', Rel G' (s.putO d v) (a.put d x) w ∧ Fr s.lv G w G' w := by
  cases d with
  | none => exact ⟨G, hr, Fr.refl _ _ _⟩
  | some d =>
    obtain ⟨G', h1, h2, _⟩ := hr.put hv d (by simpa using hd)
    exact ⟨G', h1, h2⟩
theorem putO_any (s : St) (d : Option Nat) (v : V) (b : Nat → Option Ob) (o : List (Nat → Option Ob)) : ({ s with b := b, o := o } : St).putO d v = { s.putO d v with b := b, o := o } := by cases d <;> rfl

theorem stepO_ok {n : Nat} (hS : SoundN E n) (hO : OrcOk E) {o : Oper} {s' : St} (h : stepO E n o s = some s') (hr : Rel G s a w) (hlow : Low s) {K : Act → World → Prop} {Q : Exit → Act → World → Prop}
    (hK : ∀ x w' G', Rel G' s' (a.put o.dst x) w' → Nx s s' → Fr s.lv G w G' w' → K (a.put o.dst x) w') : o.wp E.P a w K Q := by
  unfold stepO stepOV at h
  split at h
  · rename_i f args argTypes hop
    unfold callOp at h
    split at h
    · rename_i g caps vs s1 hf hargs
      split at h
      · rename_i hc
        obtain ⟨hsz, hd⟩ := hc
        -- the machine's side
        have hfun := hr.see E.P 0 f
        rw [hf] at hfun
        obtain ⟨cs, hcl, hcT, hfe⟩ : ∃ cs : Array Value, caps.length = cs.size ∧ (∀ i, i < caps.length → Tr G.S G.β (caps.getD i .undef) (cs.getD i Go.undef)) ∧ a.eval f = .func (.func g) #[] cs := by
          generalize a.eval f = u at hfun
          cases hfun with
          | fn _ _ cs hl hT => exact ⟨cs, hl, hT, rfl⟩
        obtain ⟨G1, r1, f1, l1, len1, t1⟩ := hr.args E.P _ hargs
        have nx1 : Nx s s1 := .args _ hargs
        have hzip : (argTypes.toList.zip args.toList).map (fun x => a.eval x.2) = (args.map a.eval).toList := by
          have hl : args.toList.length ≤ argTypes.toList.length := by simp [hsz]
          have h2 : (argTypes.toList.zip args.toList).map (fun x => a.eval x.2) = ((argTypes.toList.zip args.toList).map Prod.snd).map a.eval := by rw [List.map_map]; rfl
          rw [h2, List.map_snd_zip hl]
          simp
        let cargs : Array Value := args.map a.eval ++ cs
        have hvl : vs.length = (args.map a.eval).size := by
          rw [len1]
          simp [hsz]
        have hlen : (vs ++ caps).length = cargs.size := by
          rw [List.length_append, hvl, hcl]
          simp [cargs]
        have hT : ∀ i, i < (vs ++ caps).length → Tr G1.S G1.β ((vs ++ caps).getD i .undef) (cargs.getD i Go.undef) := by
          intro i hi
          by_cases hlt : i < vs.length
          · have h1 := (t1 i hlt).1
            rw [hzip] at h1
            have e1 : (vs ++ caps).getD i .undef = vs.getD i .undef := by simp [List.getD_eq_getElem?_getD, List.getElem?_append_left hlt]
            have e2 : cargs.getD i Go.undef = (args.map a.eval).toList.getD i Go.undef := by
              simp only [cargs, Array.getD_eq_getD_getElem?]
              rw [Array.getElem?_append_left (by omega), List.getD_eq_getElem?_getD, Array.getElem?_toList]
            rw [e1, e2]; exact h1
          · have hi' : i - vs.length < caps.length := by rw [List.length_append] at hi; omega
            have h1 := l1.tr (hcT _ hi')
            have e1 : (vs ++ caps).getD i .undef = caps.getD (i - vs.length) .undef := by simp [List.getD_eq_getElem?_getD, List.getElem?_append_right (by omega : vs.length ≤ i)]
            have e2 : cargs.getD i Go.undef = cs.getD (i - vs.length) Go.undef := by
              simp only [cargs, Array.getD_eq_getD_getElem?]
              rw [Array.getElem?_append_right (by omega), hvl]
            rw [e1, e2]; exact h1
        have hpure : (vs ++ caps).any isRef = false → caps = [] → ∀ i, i < (vs ++ caps).length → Tr G1.S (fun _ _ => none) ((vs ++ caps).getD i .undef) (cargs.getD i Go.undef) := by
          intro hn hcn i hi
          refine (hT i hi).pure _ ?_
          have hm : (vs ++ caps).getD i .undef ∈ vs ++ caps := by
            rw [List.getD_eq_getElem?_getD, List.getElem?_eq_getElem hi]
            exact List.getElem_mem hi
          have hnr : isRef ((vs ++ caps).getD i .undef) = false := by
            cases hb : isRef ((vs ++ caps).getD i .undef) with
            | false => rfl
            | true => rw [List.any_eq_true.2 ⟨_, hm, hb⟩] at hn; cases hn
          by_cases hlt : i < vs.length
          · have e1 : (vs ++ caps).getD i .undef = vs.getD i .undef := by simp [List.getD_eq_getElem?_getD, List.getElem?_append_left hlt]
            rw [e1] at hnr ⊢
            exact (t1 i hlt).2 hnr
          · rw [List.length_append, hcn] at hi
            exact absurd (by simpa using hi) hlt
        have henter : ∀ {fn c}, E.P.funcs[g]? = some fn → (fn.name == "runtime.NumGoroutine") = false → fn.body = some c → (execOp a.eval o).run E.P w = .ok (.enter g cargs) w := by
          intro fn c h1 h2 h3
          simp only [execOp, hop, resolve, hfe, Deferred.ofValue, Sem.run_bind, Sem.run_pure, Result.andThen_ok, invoke]
          rw [run_callFunc h1 h2 h3]
          simp [cargs]
        have hst : ∀ g p, (fun _ => none : Nat → Option Pl) g = some p → g < w.heap.size := fun g p h => by cases h
        have hd1 : o.dst.all (fun d => decide (d < s1.n)) = true := by rw [nx1.n]; exact hd
        split at h
        · -- what is the caller's is handed over
          rename_i hany
          unfold evCallV at h
          dsimp only at h
          split at h
          · cases h
          · rename_i k0 s0 h0
            split at h
            · cases h
            · rename_i r hev
              obtain rfl := Option.some.inj h
              obtain ⟨fn, c, q1, q2, q3, q4, _, _⟩ := startS_spec h0
              unfold Oper.wp
              rw [henter q1 q3 q4, Oper.upon_enter]
              refine (calls_ok hS h0 hev hlen hT (fun l t ob ho => r1.obj l t ob ho) (fun l t g hg => r1.dom l t g hg) r1.imm r1.lim (nx1.low hlow).all).mono ?_
              rintro e w' ⟨x, G', rfl, hdone, hlo⟩
              obtain ⟨G2, m1, m2, m3, m4⟩ := after_deep r1 hdone hlo
              have hlv2 : ({ s1 with b := r.2.headD n0, o := r.2.tail } : St).lv = s1.lv := by
                show r.2.tail.length = s1.lv
                rw [List.length_tail, hdone.len]; rfl
              obtain ⟨G3, p1, p2⟩ := m1.putO hd1 m2
              rw [putO_any] at p1
              refine hK x w' G3 p1 ?_ ((f1.trans (nx1.lv ▸ m3)).trans (by rw [hlv2, nx1.lv] at p2; exact p2))
              refine nx1.trans ⟨?_, ?_, ?_, ?_, fun _ => ?_⟩
              · exact hlv2
              · exact (Nx.putO s1 o.dst r.1).r
              · exact (Nx.putO s1 o.dst r.1).f
              · exact (Nx.putO s1 o.dst r.1).n
              · exact m4
        · rename_i hany
          have hcn : caps = [] := by
            cases caps with
            | nil => rfl
            | cons _ _ => simp at hany
          have hany : (vs ++ caps).any isRef = false := by
            cases hb : (vs ++ caps).any isRef with
            | false => rfl
            | true => rw [hb] at hany; simp at hany
          split at h
          · rename_i v hv
            obtain rfl := Option.some.inj h
            obtain ⟨fn, c, q1, q3, q4, hcall⟩ := hO _ _ _ hv hany
            unfold Oper.wp
            rw [henter q1 q3 q4, Oper.upon_enter]
            refine (hcall G1.S w cargs hlen (hpure hany hcn) r1.imm).mono ?_
            rintro e w' ⟨x, G', rfl, hdone⟩
            obtain ⟨G2, m1, m2, m3⟩ := after_plain r1 hdone
            obtain ⟨G3, p1, p2⟩ := m1.putO hd1 m2
            exact hK x w' G3 p1 (nx1.trans (.putO _ _ _)) ((f1.trans (nx1.lv ▸ m3)).trans (nx1.lv ▸ p2))
          · unfold evCallV at h
            dsimp only at h
            split at h
            · cases h
            · rename_i k0 s0 h0
              split at h
              · cases h
              · rename_i r hev
                obtain rfl := Option.some.inj h
                obtain ⟨fn, c, q1, q2, q3, q4, _, _⟩ := startS_spec h0
                unfold Oper.wp
                rw [henter q1 q3 q4, Oper.upon_enter]
                refine (calls_ok (G := { S := G1.S, β := fun _ _ => none, ω := fun _ => none }) hS h0 hev hlen (hpure hany hcn) (fun l t ob ho => by cases ho) (fun l t g hg => by cases hg) r1.imm (fun g p hp => by cases hp) (fun l t ob ho => by cases ho)).mono ?_
                rintro e w' ⟨x, G', rfl, hdone, hlo⟩
                obtain ⟨G2, m1, m2, m3⟩ := after_plain r1 hdone
                obtain ⟨G3, p1, p2⟩ := m1.putO hd1 m2
                exact hK x w' G3 p1 (nx1.trans (.putO _ _ _)) ((f1.trans (nx1.lv ▸ m3)).trans (nx1.lv ▸ p2))
      · cases h
    · cases h
  · unfold evOp at h
    split at h
    · rename_i d hd
      split at h
      · rename_i hlt
        obtain ⟨⟨v, s1⟩, hv, rfl⟩ := Option.map_eq_some_iff.1 h
        obtain ⟨x, w', G1, h1, h2, h3, h4⟩ := evV_ok (ty' := 0) (d := o.dst) (pos := o.pos) (af := o.after) (gd := o.guard) hr hv
        have nx1 : Nx s s1 := .evV hv
        obtain ⟨G2, p1, p2, _⟩ := h2.put h3 d (by rw [nx1.n]; exact hlt)
        unfold Oper.wp
        have he : (execOp a.eval o).run E.P w = .ok (.value x) w' := h1
        rw [he, Oper.upon_value]
        refine hK x w' G2 (by rw [hd]; exact p1) (nx1.trans (.put _ _ _)) (h4.trans (nx1.lv ▸ p2))
      · cases h
    · rename_i hd
      obtain ⟨w', G1, h1, h2, h3⟩ := evU_ok (d := o.dst) (ty := o.type) (pos := o.pos) (af := o.after) (gd := o.guard) hr h
      unfold Oper.wp
      have he : (execOp a.eval o).run E.P w = .ok .skip w' := h1
      rw [he, Oper.upon_skip]
      refine hK _ w' G1 (by rw [hd]; exact h2) (.evU h) h3
end Go.Ev
