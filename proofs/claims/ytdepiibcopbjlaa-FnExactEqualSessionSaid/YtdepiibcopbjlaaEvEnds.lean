/- A function's end. -/
import Derived.Test.YtdepiibcopbjlaaEvAsm
import Derived.Laws.Sem
namespace Go.Ev
open Go
set_option linter.unusedVariables false
set_option linter.unusedSimpArgs false
variable {P : Program} {G : Gh} {s : St} {a : Act} {w : World} {o : Oper}
variable {d : Option Nat} {ty : TypeId} {pos : String} {af : Array Edge} {gd : Option (Nat × Bool)}

theorem pureC_flat {v : V} (h : pureC v = true) : v.flat.all pureC = true := by
  cases v <;> first | (simpa [V.flat] using h) | cases h
theorem all_getD {l : List V} (h : l.all pureC = true) {i : Nat} (hi : i < l.length) : pureC (l.getD i .undef) = true := by
  rw [List.getD_eq_getElem?_getD, List.getElem?_eq_getElem hi]
  exact List.all_eq_true.1 h _ (List.getElem_mem hi)
/-- what refers to nothing that may change means the same whatever lies where -/
theorem Tr.pure {S β} {v : V} {x : Value} (h : Tr S β v x) (β' : Nat → Nat → Option Nat) : v.flat.all pureC = true → Tr S β' v x := by
  induction h with
  | undef x => exact fun _ => .undef x
  | bool b => exact fun _ => .bool b
  | int k n => exact fun _ => .int k n
  | str s => exact fun _ => .str s
  | slc0 sz a cap => exact fun _ => .slc0 sz a cap
  | slc sz l b o cap c hc hs hS0 hT ih =>
    intro _
    refine .slc sz l b o cap c hc hs hS0 fun i j hi hj => ih i j hi hj ?_
    have hm : l.getD i .undef ∈ l := by
      rw [List.getD_eq_getElem?_getD, List.getElem?_eq_getElem hi]
      exact List.getElem_mem hi
    obtain ⟨h1, h2⟩ := hs _ hm
    exact pureC_flat (all_getD h2 (by omega))
  | agg l cs hl hT ih => exact fun hp => .agg l cs hl fun i hi => ih i hi (pureC_flat (all_getD hp hi))
  | ptr lv t off g h => intro hp; cases hp
  | imp l b o c hp hS0 hT ih => exact fun _ => .imp l b o c hp hS0 fun j hj => ih j hj (pureC_flat (all_getD hp hj))
  | eptr lv t i g sz h => intro hp; cases hp
  | aref lv t n g cap h hc => intro hp; cases hp
  | mp lv t g h => intro hp; cases hp
  | fn f caps cs hl hT ih =>
    intro hp
    cases caps with
    | nil => exact .fn f [] cs hl fun i hi => absurd hi (Nat.not_lt_zero _)
    | cons c l => cases hp
  | nilp => exact fun _ => .nilp
  | nilfn => exact fun _ => .nilfn

theorem obIn_lt {t : Nat} : ∀ (o : List (Nat → Option Ob)) {l : Nat} {ob : Ob}, obIn t l o = some ob → l < o.length := by
  intro o
  induction o with
  | nil => intro l ob h; cases h
  | cons f o ih =>
    intro l ob h
    unfold obIn at h
    split at h
    · simp; omega
    · have := ih h; simp; omega
theorem ob_outer {t l : Nat} (h : l < s.o.length) : s.ob l t = obIn t l s.o := by
  show (if l = s.o.length then s.b t else obIn t l s.o) = _
  rw [if_neg (by omega)]
theorem ob_inner {t : Nat} : s.ob s.lv t = s.b t := by
  show (if s.o.length = s.o.length then s.b t else obIn t s.o.length s.o) = _
  rw [if_pos rfl]
theorem ob_lt {t l : Nat} {ob : Ob} (h : s.ob l t = some ob) : l ≤ s.lv := by
  have := obIn_lt _ h
  simp [St.lv] at *; omega

theorem OwnC.pureβ {p : Pl} {v : V} {x : Value} (h : OwnC G w p v x) (hp : pureC v.viewC = true) (β : Nat → Nat → Option Nat) : OwnC { G with β := β } w p v x := by
  unfold OwnC at h ⊢
  split
  · exact ⟨h.1.pure β (pureC_flat hp), h.2⟩
  · rename_i hv
    have hh : Tr G.S G.β v x := by
      split at h
      · exact absurd rfl (hv _ _)
      · exact h
    refine hh.pure β (pureC_flat ?_)
    have : v.viewC = v := by
      cases v <;> try rfl
      rename_i own sz l
      cases own
      · rfl
      · exact absurd rfl (hv _ _)
    rw [this] at hp; exact hp
theorem ownS_C {p : Nat → Nat → Pl} {v : V} {x : Value} (ha : ∀ l, v ≠ .agg l) (ht : ∀ l, v ≠ .tup l) : OwnS G w p v x = OwnC G w (p 0 0) v x := by
  unfold OwnS
  split
  · exact absurd rfl (ht _)
  · unfold OwnV
    split
    · exact absurd rfl (ha _)
    · rfl
theorem OwnS.pureβ {p : Nat → Nat → Pl} {v : V} {x : Value} (h : OwnS G w p v x) (hp : v.view.flat.all pureC = true) (β : Nat → Nat → Option Nat) : OwnS { G with β := β } w p v x := by
  cases v
  case tup l => cases hp
  case agg l =>
    obtain ⟨cs, hx, hl, hT⟩ := h
    refine ⟨cs, hx, hl, fun j hj => (hT j hj).pureβ ?_ β⟩
    have h1 := all_getD (l := l.map V.viewC) hp (i := j) (by simpa using hj)
    rw [getD_viewC] at h1
    exact h1
  all_goals
    rw [ownS_C (fun l e => by cases e) (fun l e => by cases e)] at h ⊢
    refine OwnC.pureβ (G := G) h ?_ β
    simpa [V.view, V.flat, V.viewC] using hp
/-- a call has come to its end -/
structure Done (lv : Nat) (G : Gh) (w : World) (o : List (Nat → Option Ob)) (v : V) (x : Value) (w' : World) (G' : Gh) : Prop where
  own : ∀ β, OwnS { G' with β := β } w' Pl.rs v x
  fr : Fr lv G w G' w'
  len : o.length = lv
  obj : ∀ l t ob, obIn t l o = some ob → ∃ g, G'.β l t = some g ∧ G'.ω g = some (.ob l t) ∧ ObR G' w' l t g ob
  dom : ∀ l t g, l < lv → G'.β l t = some g → ∃ ob, obIn t l o = some ob
  imm : ∀ g j c, G'.S g j = some c → w'.cell? ⟨g, j, none⟩ = some c
  lim : ∀ g p, G'.ω g = some p → g < w'.heap.size
theorem Done.of_rel {G' : Gh} {s1 : St} {v : V} {x : Value} (h : Rel G' s1 a w) (hl : s1.lv = s.lv) (hf : Fr s.lv G w G' w) (hv : ∀ β, OwnS { G' with β := β } w Pl.rs v x) : Done s.lv G w s1.o v x w G' :=
  ⟨hv, hf, hl, fun l t ob ho => h.obj l t ob (by rw [ob_outer (obIn_lt _ ho)]; exact ho), fun l t g hlt hg => by
    obtain ⟨ob, ho⟩ := h.dom l t g hg
    rw [ob_outer (by rw [← hl] at hlt; exact hlt)] at ho
    exact ⟨ob, ho⟩, h.imm, h.lim⟩

def resR (P : Program) (a : Act) (r : ResultVar) : Sem Value := match r with
  | .tmp t => pure (a.tmps.getD t Go.undef)
  | .cell c ty => do loadVar ty (← asAddr (a.tmps.getD c Go.undef))
theorem run_val_inv {m : Sem Value} {x : Value} {w w' : World} (h : ((do pure (Next.value (← m)) : Sem Next)).run P w = .ok (.value x) w') : m.run P w = .ok x w' := by
  simp only [Sem.run_bind] at h
  cases hm : m.run P w with
  | ok y w1 =>
    rw [hm] at h
    simp only [Result.andThen_ok, Sem.run_pure, Result.ok.injEq, Next.value.injEq] at h
    rw [h.1, h.2]
  | halt y w1 => rw [hm] at h; cases h
theorem load_res {c : Nat} {t : TypeId} {x : Value} (h : (execOp a.eval ⟨d, .load t (.tmp c), ty, pos, af, gd⟩).run P w = .ok (.value x) w) : (resR P a (.cell c t)).run P w = .ok x w := by
  have := run_val_inv (m := Instr.loadAt t (a.eval (.tmp c))) h
  unfold Instr.loadAt at this
  unfold resR
  simp only [Sem.run_bind] at this ⊢
  have he : a.eval (.tmp c) = a.tmps.getD c Go.undef := rfl
  rw [he] at this
  generalize a.tmps.getD c Go.undef = u at this
  cases u <;> try (cases this; done)
  rename_i p
  cases p with
  | none => simp [Instr.sureAddr, Sem.run_bind, asAddr] at this
  | some p => simpa [Instr.sureAddr, asAddr] using this
theorem results_one {fn : Func} {r : ResultVar} {x : Value} (hr : fn.results.toList = [r]) (h : (resR P a r).run P w = .ok x w) : (results fn a.tmps).run P w = .ok x w := by
  obtain ⟨l, hl⟩ : ∃ l, fn.results = ⟨l⟩ := ⟨fn.results.toList, rfl⟩
  have : fn.results = #[r] := by rw [hl] at hr ⊢; simp at hr; rw [hr]
  unfold results
  rw [this]
  unfold resR at h
  cases r <;> simp [Sem.run_bind] at h ⊢ <;> simp [h]

theorem frz_lv (v : V) : (s.frz v).lv = s.lv := by
  unfold St.frz
  split
  · split
    · unfold St.setOb
      split
      · rfl
      · show (setIn _ _ _ s.o).length = s.o.length
        rename_i lv t _ _ _ _ _
        generalize s.o = o
        induction o with
        | nil => rfl
        | cons f o ih => unfold setIn; split <;> simp [*]
    · rfl
  · rfl
theorem Tr.view_eq {S β} {v : V} {x : Value} (h : Tr S β v x) : v.view = v := by
  cases v
  case agg l =>
    obtain ⟨cs, _, hl, hT⟩ := h.agg_inv
    simp only [V.view, V.agg.injEq]
    refine List.ext_getElem (by simp) fun i h1 h2 => ?_
    have h3 := hT i h2
    simp only [List.getD_eq_getElem?_getD, List.getElem?_eq_getElem h2, Option.getD_some] at h3
    rw [List.getElem_map]
    generalize l[i] = y at h3
    cases y <;> try rfl
    rename_i own sz m
    cases own
    · rfl
    · cases h3
  case slc own sz l =>
    cases own
    · rfl
    · cases h
  case tup l => cases h
  all_goals rfl
theorem vLoad_lv {tk : Bool} {t : TypeId} {u v : V} {s1 : St} (h : vLoad P s tk t u = some (v, s1)) : s1.lv = s.lv := by
  unfold vLoad at h
  split at h
  · split at h
    · split at h
      · split at h <;> obtain ⟨_, rfl⟩ := Prod.mk.inj (Option.some.inj h)
        · exact setOb_lv _ _ _
        · rfl
      · cases h
    · cases h
  · split at h
    · obtain ⟨_, rfl⟩ := Prod.mk.inj (Option.some.inj h); rfl
    · cases h
  · split at h
    · split at h
      · obtain ⟨_, rfl⟩ := Prod.mk.inj (Option.some.inj h); rfl
      · cases h
    · cases h
  · cases h
theorem view_pure {v : V} (h : pureC v.viewC = true) : v.view.flat.all pureC = true := by
  cases v <;> first | (simpa [V.view, V.viewC, V.flat] using h) | cases h
theorem resV_ok {r : ResultVar} {v : V} {s1 : St} (h : Rel G s a w) (hv : resV P s r = some (v, s1)) : ∃ x G', (resR P a r).run P w = .ok x w ∧ Done s.lv G w s1.o v x w G' ∧ v.view.flat.all pureC = true := by
  unfold resV at hv
  split at hv
  · rename_i t
    have tk : ∀ v, v = s.t t → some (v, s) = some (v, s1) → v.view.flat.all pureC = true → ∃ x G', (resR P a (.tmp t)).run P w = .ok x w ∧ Done s.lv G w s1.o v x w G' ∧ v.view.flat.all pureC = true := by
      intro v hv he hp
      subst hv
      obtain ⟨_, rfl⟩ := Prod.mk.inj (Option.some.inj he)
      obtain ⟨G', h1, h2, h3, _⟩ := h.take t
      exact ⟨_, G', rfl, Done.of_rel (s1 := s.put t (s.t t).view) h1 rfl h3 (h2.pureβ hp), hp⟩
    split at hv
    · rename_i lv u n ht
      obtain ⟨x, hx, he⟩ := Option.map_eq_some_iff.1 hv
      obtain ⟨rfl, rfl⟩ := Prod.mk.inj he
      obtain ⟨G', h1, h2⟩ := h.frz (.aref lv u n)
      have h3 := (h.slot t).view
      rw [ht] at h3
      obtain ⟨k1, k2, k3, k4⟩ := tree_tr h1 (h2.le.tr h3) hx
      have hp : x.view.flat.all pureC = true := by rw [k1.view_eq]; exact k2
      exact ⟨_, G', rfl, Done.of_rel h1 (frz_lv _) h2.fr ((OwnS.of_tr' k1).pureβ hp), hp⟩
    · rename_i l ht
      split at hv
      · rename_i hp
        obtain ⟨rfl, h2⟩ := Prod.mk.inj (Option.some.inj hv)
        exact tk _ ht.symm (by rw [h2]) hp
      · cases hv
    · split at hv
      · rename_i hp
        obtain ⟨h1, h2⟩ := Prod.mk.inj (Option.some.inj hv)
        exact tk _ h1.symm (by rw [h2]) (by rw [← h1]; exact view_pure hp)
      · cases hv
  · rename_i c t
    split at hv
    · rename_i u s2 hl
      split at hv
      · rename_i hp
        obtain ⟨rfl, rfl⟩ := Prod.mk.inj (Option.some.inj hv)
        obtain ⟨x, G', h1, h2, h3, h4⟩ := op_loadS (d := none) (ty := 0) (pos := "") (af := #[]) (gd := none) h hl
        exact ⟨x, G', load_res h1, Done.of_rel h2 (vLoad_lv hl) h4 (h3.pureβ hp), hp⟩
      · cases hv
    · cases hv
theorem resT_ok {r : ResultVar} {v : V} {s1 : St} (h : Rel G s a w) (hv : resT P s r = some (v, s1)) : ∃ x G', (resR P a r).run P w = .ok x w ∧ Rel G' s1 a w ∧ s1.lv = s.lv ∧ Fr s.lv G w G' w ∧ Tr G'.S G'.β v x ∧ v.flat.all pureC = true := by
  unfold resT at hv
  split at hv
  · rename_i t
    obtain ⟨G', h1, h2, h3, h4, _, _⟩ := h.tree hv
    exact ⟨_, G', rfl, h1, h2.lv, h2.fr, h3, h4⟩
  · rename_i c t
    split at hv
    · rename_i u s2 hl
      split at hv
      · rename_i hp
        obtain ⟨rfl, rfl⟩ := Prod.mk.inj (Option.some.inj hv)
        obtain ⟨x, G', h1, h2, h3, h4⟩ := op_loadS (d := none) (ty := 0) (pos := "") (af := #[]) (gd := none) h hl
        exact ⟨x, G', load_res h1, h2, vLoad_lv hl, h4, h3.view, hp⟩
      · cases hv
    · cases hv
theorem resTs_ok : ∀ (rs : List ResultVar) {G : Gh} {s s1 : St} {vs : List V}, Rel G s a w → resTs P s rs = some (vs, s1) → ∃ xs G', (rs.mapM (resR P a)).run P w = .ok xs w ∧ Rel G' s1 a w ∧ s1.lv = s.lv ∧ Fr s.lv G w G' w ∧ vs.length = xs.length ∧
    vs.length = rs.length ∧ ∀ i, i < vs.length → Tr G'.S G'.β (vs.getD i .undef) (xs.getD i Go.undef) ∧ (vs.getD i .undef).flat.all pureC = true := by
  intro rs
  induction rs with
  | nil =>
    intro G s s1 vs h hv
    obtain ⟨rfl, rfl⟩ := Prod.mk.inj (Option.some.inj hv)
    exact ⟨[], G, rfl, h, rfl, Fr.refl _ _ _, rfl, rfl, fun i hi => absurd hi (Nat.not_lt_zero _)⟩
  | cons r rs ih =>
    intro G s s1 vs h hv
    unfold resTs at hv
    split at hv
    · rename_i v s2 h1
      split at hv
      · rename_i vs2 s3 h2
        obtain ⟨rfl, rfl⟩ := Prod.mk.inj (Option.some.inj hv)
        obtain ⟨x, G1, k1, k2, k3, k4, k5, k6⟩ := resT_ok h h1
        obtain ⟨xs, G2, m1, m2, m3, m4, m5, m6, m7⟩ := ih k2 h2
        refine ⟨x :: xs, G2, ?_, m2, m3.trans k3, k4.trans (k3 ▸ m4), by simp [m5], by simp [m6], fun i hi => ?_⟩
        · simp only [List.mapM_cons, Sem.run_bind, k1, m1, Result.andThen_ok, Sem.run_pure]
        · cases i with
          | zero => exact ⟨(k5.mono m4.imm fun l t g hg => hg).pure _ k6, k6⟩
          | succ i => exact m7 i (by simpa using hi)
      · cases hv
    · cases hv
theorem results_many {fn : Func} {xs : List Value} (h : (fn.results.toList.mapM (resR P a)).run P w = .ok xs w) (hl : xs.length = fn.results.toList.length) (hn : xs.length ≠ 1) : (results fn a.tmps).run P w = .ok (.tuple xs.toArray) w := by
  unfold results
  have e : (fn.results.mapM fun r => (match r with | .tmp t => pure (a.tmps.getD t Go.undef) | .cell c t => do loadVar t (← asAddr (a.tmps.getD c Go.undef)) : Sem Value)) = List.toArray <$> fn.results.toList.mapM (resR P a) := by
    rw [Array.mapM_eq_mapM_toList]
    rfl
  simp only [Sem.run_bind]
  have : (fn.results.mapM fun r => (match r with | .tmp t => pure (a.tmps.getD t Go.undef) | .cell c t => do loadVar t (← asAddr (a.tmps.getD c Go.undef)) : Sem Value)).run P w = .ok xs.toArray w := by
    rw [e, map_eq_pure_bind]
    simp only [Sem.run_bind, h, Result.andThen_ok, Sem.run_pure]
  refine (congrArg (fun r : Result (Array Value) => r.andThen fun a w' => Sem.run P (pure (if h : a.size = 1 then a[0] else Value.tuple a)) w') this).trans ?_
  simp [hn]
theorem end_ok {fn : Func} {v : V} {s1 : St} (h : Rel G s a w) (hr : fn.results = s.r) (hv : endV P s = some (v, s1)) : ∃ x G', (results fn a.tmps).run P w = .ok x w ∧ Done s.lv G w s1.o v x w G' := by
  unfold endV at hv
  split at hv
  · rename_i r hrl
    obtain ⟨x, G', h1, h2, _⟩ := resV_ok h hv
    exact ⟨x, G', results_one (by rw [hr]; exact hrl) h1, h2⟩
  · rename_i rs hn
    obtain ⟨y, hy, he⟩ := Option.map_eq_some_iff.1 hv
    obtain ⟨rfl, rfl⟩ := Prod.mk.inj he
    obtain ⟨xs, G', h1, h2, h3, h4, h5, h6, h7⟩ := resTs_ok (a := a) (w := w) s.r.toList h hy
    have hl : xs.length = fn.results.toList.length := by rw [hr, ← h6, h5]
    have hne : xs.length ≠ 1 := by
      intro e
      rw [hl, hr] at e
      obtain ⟨r, hr⟩ := List.length_eq_one_iff.1 e
      exact hn r hr
    refine ⟨_, G', results_many (by rw [hr]; exact h1) hl hne, Done.of_rel h2 h3 h4 fun β => ⟨xs.toArray, rfl, by simpa using h5, fun i hi => ?_⟩⟩
    have := (h7 i hi).1.pure β (h7 i hi).2
    have e : xs.toArray.getD i Go.undef = xs.getD i Go.undef := by simp [Array.getD_eq_getD_getElem?, List.getD_eq_getElem?_getD]
    rw [e]
    exact OwnV.of_tr' this
end Go.Ev
