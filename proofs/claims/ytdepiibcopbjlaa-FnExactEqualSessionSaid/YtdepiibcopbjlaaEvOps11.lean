/- Maps. -/
import Derived.Test.YtdepiibcopbjlaaEvOps10
namespace Go.Ev
open Go
set_option linter.unusedVariables false
set_option linter.unusedSimpArgs false
variable {P : Program} {G : Gh} {s : St} {a : Act} {w : World} {o : Oper}
variable {d : Option Nat} {ty : TypeId} {pos : String} {af : Array Edge} {gd : Option (Nat × Bool)}

theorem checkKey_scalar {td : TypeDesc} (hs : (∃ k, td = .int k) ∨ td = .bool ∨ td = .string) {t : TypeId} (ht : P.underlying t = some td) (b : Bool) (n : Nat) (x : Value) (w : World) : (Instr.checkKey b (n + 1) t x).run P w = .ok () w := by
  rcases hs with ⟨k, rfl⟩ | rfl | rfl <;> simp [Instr.checkKey, run_underlying ht]
theorem forIn_ok {α : Type} : ∀ (l : List α) (f : α → PUnit → Sem (ForInStep PUnit)), (∀ x ∈ l, ∀ (r : PUnit) (w : World), (f x r).run P w = .ok (.yield PUnit.unit) w) → ∀ w : World, (forIn l PUnit.unit f).run P w = .ok PUnit.unit w := by
  intro l
  induction l with
  | nil => intro f _ w; rfl
  | cons x l ih =>
    intro f h w
    simp only [List.forIn_cons, Sem.run_bind, h x List.mem_cons_self, Result.andThen_ok]
    exact ih f (fun y hy => h y (List.mem_cons_of_mem _ hy)) w
theorem sameF_mem : ∀ (fs : List Field) (n : Nat) (l m : List V) (r : Bool), sameF P n fs l m = some r → ∀ f ∈ fs, ∃ td, P.underlying f.type = some td ∧ ((∃ k, td = .int k) ∨ td = .bool ∨ td = .string) ∧ f.offset < n + l.length := by
  intro fs
  induction fs with
  | nil => intro n l m r _ f hf; cases hf
  | cons g fs ih =>
    intro n l m r h f hf
    cases l with
    | nil => simp [sameF] at h
    | cons b l =>
      cases m with
      | nil => simp [sameF] at h
      | cons c m =>
        simp only [sameF] at h
        split at h
        · rename_i hg
          split at h
          · rename_i td htd
            split at h
            · rename_i p q hp hq
              rcases List.mem_cons.1 hf with rfl | hf
              · exact ⟨td, htd, sameT_scalar hp, by simp [hg.1]⟩
              · obtain ⟨td', k1, k2, k3⟩ := ih (n + 1) l m q hq f hf
                exact ⟨td', k1, k2, by simp; omega⟩
            · cases h
          · cases h
        · cases h
theorem sameA_td {td : TypeDesc} : ∀ (l m : List V) (r : Bool), sameA td l m = some r → l ≠ [] → (∃ k, td = .int k) ∨ td = .bool ∨ td = .string := by
  intro l m r h hl
  cases l with
  | nil => exact absurd rfl hl
  | cons b l =>
    cases m with
    | nil => simp [sameA] at h
    | cons c m =>
      simp only [sameA] at h
      split at h
      · rename_i p q hp hq; exact sameT_scalar hp
      · cases h
theorem checkKey_run' {kt : TypeId} {k : V} {x : Value} (h : (eqV P kt k k).isSome = true) (hk : Tr G.S G.β k x) (b : Bool) (w : World) (n0 : Nat) : (Instr.checkKey b (n0 + 1 + 1) kt x).run P w = .ok () w := by
  obtain ⟨r, hr⟩ := Option.isSome_iff_exists.1 h
  unfold eqV at hr
  split at hr
  · rename_i fs hu
    split at hr
    · split at hr
      · rename_i l
        obtain ⟨xs, rfl, hl, hxl⟩ := hk.agg_inv
        rw [Instr.checkKey]
        simp only [Sem.run_bind, run_underlying hu, Result.andThen_ok]
        rw [← Array.forIn_toList, forIn_ok]
        · rfl
        · intro f hf r w
          obtain ⟨td, k1, k2, k3⟩ := sameF_mem fs.toList 0 _ _ _ hr f hf
          by_cases hn : f.name ≠ "_"
          · simp only [if_pos hn, Sem.run_bind, part_scalar k2 k1 (show f.offset < xs.size by omega), Result.andThen_ok, checkKey_scalar k2 k1, Sem.run_pure]
          · simp only [if_neg hn, Sem.run_pure]
      · cases hr
    · cases hr
  · rename_i n e hu
    split at hr
    · rename_i l
      split at hr
      · rename_i hc
        split at hr
        · rename_i td he
          obtain ⟨xs, rfl, hl, hxl⟩ := hk.agg_inv
          obtain ⟨i, d, g1, g2, g3, g4⟩ := szOf_ne (P := P) (t := e) (by omega)
          rw [Instr.checkKey]
          simp only [Sem.run_bind, run_underlying hu, Result.andThen_ok]
          simp only [Std.Legacy.Range.forIn_eq_forIn_range', Std.Legacy.Range.size, Nat.sub_zero, Nat.add_one_sub_one, Nat.div_one]
          rw [forIn_ok]
          · rfl
          · intro j hj r w
            have hj' : j < l.length := by rw [List.mem_range'] at hj; omega
            have hs := sameA_td _ _ _ hr (by rintro rfl; simp at hj')
            simp only [Sem.run_bind, run_sizeOf' (P := P) (t := e) (by omega), Result.andThen_ok, hc.2, Nat.mul_one, part_scalar hs he (show j < xs.size by omega), checkKey_scalar hs he, Sem.run_pure]
        · cases hr
      · cases hr
    · cases hr
  · rename_i td _ _ hu
    exact checkKey_scalar (sameT_scalar hr) hu _ _ _ _
  · cases hr
theorem checkKey_run {kt : TypeId} {k : V} {x : Value} (h : (eqV P kt k k).isSome = true) (hk : Tr G.S G.β k x) (b : Bool) (w : World) : (Instr.checkKey b 10000 kt x).run P w = .ok () w := checkKey_run' h hk b w 9998

/-! ### finding -/
theorem sameNow_eq {td : TypeDesc} {x y : V} {r : Bool} {b c : Value} (h : sameT td x y = some r) (hx : Tr G.S G.β x b) (hy : Tr G.S G.β y c) : (∃ r', Instr.sameNow td b c = some r' ∧ r' = r) ∨ Instr.sameNow td b c = none := by
  unfold sameT at h
  split at h
  · split at h
    · rename_i hk; subst hk
      obtain rfl := Option.some.inj h
      rw [hx.int_inv, hy.int_inv]
      exact .inl ⟨_, by simp [Instr.sameNow], rfl⟩
    · cases h
  · obtain rfl := Option.some.inj h
    rw [hx.bool_inv, hy.bool_inv]
    exact .inl ⟨_, rfl, rfl⟩
  · obtain rfl := Option.some.inj h
    rw [hx.str_inv, hy.str_inv]
    exact .inl ⟨_, rfl, beq_toListBytes _ _⟩
  · cases h
/-- entries, pair by pair -/
def EntR (G : Gh) (es : List (V × V)) (en : List MapEntry) : Prop := es.length = en.length ∧ ∀ (i : Nat) (e : V × V) (m : MapEntry), es[i]? = some e → en[i]? = some m → Tr G.S G.β e.1 m.key ∧ Tr G.S G.β e.2 m.val
theorem EntR.cons {e : V × V} {es : List (V × V)} {m : MapEntry} {en : List MapEntry} (h : EntR G (e :: es) (m :: en)) : Tr G.S G.β e.1 m.key ∧ Tr G.S G.β e.2 m.val ∧ EntR G es en :=
  ⟨(h.2 0 e m rfl rfl).1, (h.2 0 e m rfl rfl).2, by have := h.1; simpa using this, fun i e' m' h1 h2 => h.2 (i + 1) e' m' (by simpa using h1) (by simpa using h2)⟩
/-- the first entry with a key: its number and its value -/
def findI (P : Program) (kt : TypeId) (k : V) : List (V × V) → Nat → Option (Option (Nat × V))
  | [], _ => some none
  | e :: es, i => match eqV P kt k e.1 with
    | some true => some (some (i, e.2))
    | some false => findI P kt k es (i + 1)
    | none => none
theorem findI_find {kt : TypeId} {k : V} : ∀ (es : List (V × V)) (i : Nat) (r : Option V), findE P kt k es = some r → ∃ q, findI P kt k es i = some q ∧ q.map (·.2) = r := by
  intro es
  induction es with
  | nil => intro i r h; simp only [findE, Option.some.injEq] at h; subst h; exact ⟨none, rfl, rfl⟩
  | cons e es ih =>
    intro i r h
    simp only [findE] at h
    split at h
    · rename_i he
      obtain rfl := Option.some.inj h
      exact ⟨some (i, e.2), by simp [findI, he], rfl⟩
    · rename_i he
      obtain ⟨q, h1, h2⟩ := ih (i + 1) r h
      exact ⟨q, by simp [findI, he, h1], h2⟩
    · cases h
theorem findAsking_run {kt : TypeId} {k : V} {x : Value} (hk : Tr G.S G.β k x) (w : World) : ∀ (es : List (V × V)) (en : List MapEntry) (i : Nat) (q : Option (Nat × V)), EntR G es en → findI P kt k es i = some q →
    ∃ q', (Instr.findAsking kt x en i).run P w = .ok q' w ∧ (q = none → q' = none) ∧ ∀ j v, q = some (j, v) → i ≤ j ∧ ∃ m, en[j - i]? = some m ∧ q' = some (j, m.val) ∧ Tr G.S G.β v m.val := by
  intro es
  induction es with
  | nil =>
    intro en i q he h
    have : en = [] := List.eq_nil_of_length_eq_zero he.1.symm
    subst this
    simp only [findI, Option.some.injEq] at h
    subst h
    exact ⟨none, rfl, fun _ => rfl, fun j v e => by cases e⟩
  | cons e es ih =>
    intro en i q he h
    cases en with
    | nil => have := he.1; simp at this
    | cons m en =>
      obtain ⟨h1, h2, h3⟩ := he.cons
      simp only [findI] at h
      split at h
      · rename_i hq
        obtain rfl := Option.some.inj h
        have e1 := eqV_run hq hk h1 w
        refine ⟨some (i, m.val), by simp [Instr.findAsking, e1], (fun e => by cases e), fun j v e => ?_⟩
        cases e
        exact ⟨Nat.le_refl _, m, by simp, rfl, h2⟩
      · rename_i hq
        have e1 := eqV_run hq hk h1 w
        obtain ⟨q', k1, k2, k3⟩ := ih en (i + 1) q h3 h
        refine ⟨q', by simp [Instr.findAsking, e1, k1], k2, fun j v e => ?_⟩
        obtain ⟨k4, m', k5, k6, k7⟩ := k3 j v e
        refine ⟨by omega, m', ?_, k6, k7⟩
        rw [show j - i = (j - (i + 1)) + 1 by omega, List.getElem?_cons_succ]
        exact k5
      · cases h
theorem findNow_run {kt : TypeId} {td : TypeDesc} (hu : P.underlying kt = some td) {k : V} {x : Value} (hk : Tr G.S G.β k x) : ∀ (es : List (V × V)) (en : List MapEntry) (i : Nat) (q : Option (Nat × V)), EntR G es en → findI P kt k es i = some q →
    Instr.findNow td x en i = none ∨ ∃ q', Instr.findNow td x en i = some q' ∧ (q = none → q' = none) ∧ ∀ j v, q = some (j, v) → i ≤ j ∧ ∃ m, en[j - i]? = some m ∧ q' = some (j, m.val) ∧ Tr G.S G.β v m.val := by
  intro es
  induction es with
  | nil =>
    intro en i q he h
    have : en = [] := List.eq_nil_of_length_eq_zero he.1.symm
    subst this
    simp only [findI, Option.some.injEq] at h
    subst h
    exact .inr ⟨none, rfl, fun _ => rfl, fun j v e => by cases e⟩
  | cons e es ih =>
    intro en i q he h
    cases en with
    | nil => have := he.1; simp at this
    | cons m en =>
      obtain ⟨h1, h2, h3⟩ := he.cons
      simp only [findI] at h
      have hnow : ∀ r, eqV P kt k e.1 = some r → Instr.sameNow td x m.key = some r ∨ Instr.sameNow td x m.key = none := by
        intro r hr
        unfold eqV at hr
        rw [hu] at hr
        cases td
        case struct => cases x <;> cases m.key <;> exact .inr rfl
        case array => cases x <;> cases m.key <;> exact .inr rfl
        all_goals
          rcases sameNow_eq hr hk h1 with ⟨r', a1, rfl⟩ | a1
          · exact .inl a1
          · exact .inr a1
      split at h
      · rename_i hq
        obtain rfl := Option.some.inj h
        rcases hnow _ hq with e1 | e1
        · refine .inr ⟨some (i, m.val), by simp [Instr.findNow, e1], (fun e => by cases e), fun j v e => ?_⟩
          cases e
          exact ⟨Nat.le_refl _, m, by simp, rfl, h2⟩
        · exact .inl (by simp [Instr.findNow, e1])
      · rename_i hq
        rcases hnow _ hq with e1 | e1
        · rcases ih en (i + 1) q h3 h with k1 | ⟨q', k1, k2, k3⟩
          · exact .inl (by simp [Instr.findNow, e1, k1])
          · refine .inr ⟨q', by simp [Instr.findNow, e1, k1], k2, fun j v e => ?_⟩
            obtain ⟨k4, m', k5, k6, k7⟩ := k3 j v e
            refine ⟨by omega, m', ?_, k6, k7⟩
            rw [show j - i = (j - (i + 1)) + 1 by omega, List.getElem?_cons_succ]
            exact k5
        · exact .inl (by simp [Instr.findNow, e1])
      · cases h
theorem findKey_run {kt : TypeId} {td : TypeDesc} (hu : P.underlying kt = some td) {k : V} {x : Value} (hk : Tr G.S G.β k x) (w : World) (es : List (V × V)) (en : List MapEntry) (q : Option (Nat × V)) (he : EntR G es en) (h : findI P kt k es 0 = some q) :
    ∃ q', (Instr.findKey kt x en).run P w = .ok q' w ∧ (q = none → q' = none) ∧ ∀ j v, q = some (j, v) → ∃ m, en[j]? = some m ∧ q' = some (j, m.val) ∧ Tr G.S G.β v m.val := by
  obtain ⟨q1, a1, a2, a3⟩ := findAsking_run (P := P) hk w es en 0 q he h
  rcases findNow_run (P := P) hu hk es en 0 q he h with b1 | ⟨q2, b1, b2, b3⟩
  · refine ⟨q1, ?_, a2, fun j v e => ?_⟩
    · simp only [Instr.findKey, Sem.run_bind, run_underlying hu, Result.andThen_ok, b1, a1]
    · obtain ⟨_, m, c1, c2, c3⟩ := a3 j v e; exact ⟨m, by simpa using c1, c2, c3⟩
  · refine ⟨q2, ?_, b2, fun j v e => ?_⟩
    · simp only [Instr.findKey, Sem.run_bind, run_underlying hu, Result.andThen_ok, b1, Sem.run_pure]
    · obtain ⟨_, m, c1, c2, c3⟩ := b3 j v e; exact ⟨m, by simpa using c1, c2, c3⟩
theorem entR_of {es : List (V × V)} {en : Array MapEntry} (hl : es.length = en.size) (hT : ∀ i, i < es.length → Tr G.S G.β (es.getD i default).1 (en.getD i default).key ∧ Tr G.S G.β (es.getD i default).2 (en.getD i default).val) : EntR G es en.toList := by
  refine ⟨by simpa using hl, fun i e m h1 h2 => ?_⟩
  have hi : i < es.length := by
    rcases Nat.lt_or_ge i es.length with h' | h'
    · exact h'
    · rw [List.getElem?_eq_none h'] at h1; cases h1
  have h3 := hT i hi
  have e1 : es.getD i default = e := by rw [List.getD_eq_getElem?_getD, h1]; rfl
  have e2 : en.getD i default = m := by rw [Array.getD_eq_getD_getElem?, ← Array.getElem?_toList, h2]; rfl
  rw [e1, e2] at h3
  exact h3
theorem zero_pack {e : TypeId} {z : List V} (hz : zero P e = some z) (hc : z.length = 1 ∨ isAgg P e = true) (hu : (P.underlying e).isSome) : ∃ zv, (∀ w : World, (zeroValue e).run P w = .ok zv w) ∧ Tr G.S G.β (pack (isAgg P e) z).view zv := by
  obtain ⟨zv, h1, h2, h3, h4, h5⟩ := zero_spec hz
  refine ⟨zv, h1, ?_⟩
  have hag : ∀ v (x : Value), agree v x = true → (∀ l, v ≠ .agg l) ∧ (∀ l, v ≠ .tup l) := by
    intro v x h
    unfold agree at h
    split at h
    all_goals first | (cases h; done) | exact ⟨(fun l e => by cases e), fun l e => by cases e⟩
  cases ha : isAgg P e
  · have h6 := h5 ha
    rw [h6] at h2 h3
    cases z with
    | nil => simp at h2
    | cons v z =>
      have h7 := h3 0 (by simp)
      have h8 := hag _ _ h7
      simp only [List.getD_cons_zero] at h7 h8
      have h9 := (agree_tr (G := G) (w := default) h7 (.rs 0 0)).view
      simp only [pack, Bool.false_eq_true, if_false, List.headD_cons]
      have : v.view = v.viewC := by
        cases v <;> first | rfl | exact absurd rfl (h8.1 _) | exact absurd rfl (h8.2 _)
      rw [this]
      exact h9
  · obtain ⟨cs, rfl⟩ := h4 ha
    simp only [pack, if_true, V.view]
    refine Tr.agg _ _ (by rw [List.length_map]; exact h2) fun i hi => ?_
    rw [getD_viewC]
    exact (agree_tr (G := G) (w := default) (h3 i (by simpa using hi)) (.rs 0 0)).view
theorem op_lookup {m k : Operand} {t kt e : TypeId} {ok : Bool} {v : V} (h : Rel G s a w) (hu : P.underlying t = some (.map kt e)) (hv : vLookup P s t ok (s.see P t m) (s.see P kt k) = some v) : OpOk P ⟨d, .lookup t m k ok, ty, pos, af, gd⟩ G s a w v s := by
  have h1 := h.see P t m
  have h2 := h.see P kt k
  have hkv := see_view s P kt k
  unfold vLookup at hv
  generalize s.see P t m = mv at hv h1
  generalize s.see P kt k = kv at hv h2 hkv
  rw [hu] at hv
  split at hv
  · rename_i kt' e' lv u hh
    obtain ⟨rfl, rfl⟩ : kt = kt' ∧ e = e' := by cases hh; exact ⟨rfl, rfl⟩
    split at hv
    · rename_i es z ho hz
      split at hv
      · rename_i hc
        obtain ⟨hck, hzl, hz0, hza⟩ := hc
        obtain ⟨g, hg, hω, en, ck, hb, hl, hS, hp, hT⟩ := h.obj lv u _ ho
        obtain ⟨g', hg', hx⟩ := h1.mp_inv
        obtain rfl : g' = g := by rw [hg] at hg'; exact (Option.some.inj hg').symm
        have hck' := checkKey_run (P := P) hck h2 en.isEmpty w
        obtain ⟨td, htd⟩ : ∃ td, P.underlying kt = some td := by
          cases hh : P.underlying kt with
          | none => unfold eqV at hck; rw [hh] at hck; cases hck
          | some td => exact ⟨td, rfl⟩
        have hent := entR_of hl hT
        obtain ⟨ie, de, y1, y2, y3, y4⟩ := szOf_ne (P := P) (t := e) (by omega)
        obtain ⟨zv, zr, zt⟩ := zero_pack (G := G) hz hza (by rw [y2]; rfl)
        split at hv
        · rename_i r hf
          obtain rfl := Option.some.inj hv
          obtain ⟨q, hq1, hq2⟩ := findI_find es 0 _ hf
          obtain ⟨q', f1, f2, f3⟩ := findKey_run (P := P) htd h2 w es en.toList q hent hq1
          obtain ⟨⟨j, r'⟩, rfl, rfl⟩ : ∃ x, q = some x ∧ x.2 = r := by
            cases q with
            | none => cases hq2
            | some x => exact ⟨x, rfl, by simpa using hq2⟩
          obtain ⟨me, m1, rfl, m3⟩ := f3 _ _ rfl
          have hrun : (execOp a.eval ⟨d, .lookup t m k ok, ty, pos, af, gd⟩).run P w = .ok (.value (if ok = true then .tuple #[me.val, .bool true] else me.val)) w := by
            simp only [execOp]
            refine run_val ?_
            simp [Instr.lookup, run_underlying hu, hx, getObj, Sem.run, hb, hck', f1]
          cases ok
          · exact OpOk.tr h hrun m3
          · refine ⟨_, w, G, hrun, h, ⟨#[me.val, .bool true], rfl, rfl, fun i hi => ?_⟩, Fr.refl _ _ _⟩
            match i, hi with
            | 0, _ => exact OwnV.of_tr' m3
            | 1, _ => exact OwnV.of_tr' (Tr.bool _)
        · cases hv
        · rename_i hf
          obtain rfl := Option.some.inj hv
          obtain ⟨q, hq1, hq2⟩ := findI_find es 0 _ hf
          obtain ⟨q', f1, f2, f3⟩ := findKey_run (P := P) htd h2 w es en.toList q hent hq1
          have : q = none := by
            cases q with
            | none => rfl
            | some x => cases hq2
          have hq' := f2 this
          subst hq'
          have hrun : (execOp a.eval ⟨d, .lookup t m k ok, ty, pos, af, gd⟩).run P w = .ok (.value (if ok = true then .tuple #[zv, .bool false] else zv)) w := by
            simp only [execOp]
            refine run_val ?_
            simp [Instr.lookup, run_underlying hu, hx, getObj, Sem.run, hb, hck', f1, zr]
          cases ok
          · exact OpOk.tr h hrun zt
          · refine ⟨_, w, G, hrun, h, ⟨#[zv, .bool false], rfl, rfl, fun i hi => ?_⟩, Fr.refl _ _ _⟩
            match i, hi with
            | 0, _ => exact OwnV.of_tr' zt
            | 1, _ => exact OwnV.of_tr' (Tr.bool _)
      · cases hv
    · cases hv
  · cases hv
/-! ### putting an entry -/
theorem sb_scalar {td : TypeDesc} {v u : V} {x y : Value} (h : sameT td v u = some true) (hv : Tr G.S G.β v x) (hu : Tr G.S G.β u y) (n : Nat) : Instr.sameBits n y x = true := by
  unfold sameT at h
  split at h
  · split at h
    · rename_i hk; subst hk
      rw [hv.int_inv, hu.int_inv]
      have := Option.some.inj h
      rw [beq_iff_eq] at this
      subst this
      cases n <;> simp [Instr.sameBits]
    · cases h
  · rw [hv.bool_inv, hu.bool_inv]
    have := Option.some.inj h
    rw [beq_iff_eq] at this
    subst this
    cases n <;> simp [Instr.sameBits]
  · rename_i p q
    rw [hv.str_inv, hu.str_inv]
    have := Option.some.inj h
    have h2 : (q == p) = true := by
      rw [beq_toListBytes]
      rw [beq_iff_eq] at this ⊢
      exact this.symm
    cases n <;> exact h2
  · cases h
theorem sb_list {n : Nat} : ∀ (l k : List V) (xs ys : List Value), l.length = k.length → l.length = xs.length → k.length = ys.length → (∀ i, i < l.length → ∃ td, sameT td (l.getD i .undef) (k.getD i .undef) = some true) →
    (∀ i, i < l.length → Tr G.S G.β (l.getD i .undef) (xs.getD i Go.undef)) → (∀ i, i < k.length → Tr G.S G.β (k.getD i .undef) (ys.getD i Go.undef)) → (ys.zip xs).all (fun (x, y) => Instr.sameBits n x y) = true := by
  intro l
  induction l with
  | nil =>
    intro k xs ys h0 hl hk _ _ _
    have h1 : xs = [] := List.eq_nil_of_length_eq_zero hl.symm
    subst h1
    simp
  | cons b l ih =>
    intro k xs ys h0 hl hk hs hx hy
    cases k with
    | nil => simp at h0
    | cons c k =>
      cases xs with
      | nil => simp at hl
      | cons x xs =>
        cases ys with
        | nil => simp at hk
        | cons y ys =>
          have i1 := ih k xs ys (by simpa using h0) (by simpa using hl) (by simpa using hk) (fun i hi => by simpa using hs (i + 1) (by simpa using hi)) (fun i hi => by simpa using hx (i + 1) (by simpa using hi)) (fun i hi => by simpa using hy (i + 1) (by simpa using hi))
          obtain ⟨td, h1⟩ := hs 0 (by simp)
          have hb := hx 0 (by simp)
          have hc := hy 0 (by simp)
          simp only [List.getD_cons_zero] at hb hc h1
          simp only [List.zip_cons_cons, List.all_cons, i1, Bool.and_true]
          exact sb_scalar h1 hb hc n
theorem sameF_all : ∀ (fs : List Field) (n : Nat) (l m : List V), sameF P n fs l m = some true → l.length = m.length ∧ ∀ i, i < l.length → ∃ td, sameT td (l.getD i .undef) (m.getD i .undef) = some true := by
  intro fs
  induction fs with
  | nil => intro n l m h; cases l <;> cases m <;> simp only [sameF, reduceCtorEq] at h; exact ⟨rfl, fun i hi => absurd hi (Nat.not_lt_zero _)⟩
  | cons f fs ih =>
    intro n l m h
    cases l with
    | nil => simp [sameF] at h
    | cons b l =>
      cases m with
      | nil => simp [sameF] at h
      | cons c m =>
        simp only [sameF] at h
        split at h
        · split at h
          · rename_i td htd
            split at h
            · rename_i p q hp hq
              simp only [Option.some.injEq, Bool.and_eq_true] at h
              obtain ⟨rfl, rfl⟩ := h
              obtain ⟨i1, i2⟩ := ih (n + 1) l m hq
              refine ⟨by simp [i1], fun i hi => ?_⟩
              cases i with
              | zero => exact ⟨td, hp⟩
              | succ i => exact i2 i (by simpa using hi)
            · cases h
          · cases h
        · cases h
theorem sameA_all {td : TypeDesc} : ∀ (l m : List V), sameA td l m = some true → l.length = m.length ∧ ∀ i, i < l.length → ∃ td, sameT td (l.getD i .undef) (m.getD i .undef) = some true := by
  intro l
  induction l with
  | nil => intro m h; cases m <;> simp only [sameA, reduceCtorEq] at h; exact ⟨rfl, fun i hi => absurd hi (Nat.not_lt_zero _)⟩
  | cons b l ih =>
    intro m h
    cases m with
    | nil => simp [sameA] at h
    | cons c m =>
      simp only [sameA] at h
      split at h
      · rename_i p q hp hq
        simp only [Option.some.injEq, Bool.and_eq_true] at h
        obtain ⟨rfl, rfl⟩ := h
        obtain ⟨i1, i2⟩ := ih m hq
        refine ⟨by simp [i1], fun i hi => ?_⟩
        cases i with
        | zero => exact ⟨td, hp⟩
        | succ i => exact i2 i (by simpa using hi)
      · cases h
theorem getD_toList (cs : Array Value) (i : Nat) : cs.toList.getD i Go.undef = cs.getD i Go.undef := by simp [List.getD_eq_getElem?_getD, Array.getD_eq_getD_getElem?]
theorem sb_agg {n : Nat} {l k : List V} {x y : Value} (hk : Tr G.S G.β (.agg l) x) (hu : Tr G.S G.β (.agg k) y) (h : l.length = k.length ∧ ∀ i, i < l.length → ∃ td, sameT td (l.getD i .undef) (k.getD i .undef) = some true) : Instr.sameBits (n + 1) y x = true := by
  obtain ⟨xs, rfl, hl, hxl⟩ := hk.agg_inv
  obtain ⟨ys, rfl, hm, hym⟩ := hu.agg_inv
  have := sb_list (n := n) l k xs.toList ys.toList h.1 (by simpa using hl) (by simpa using hm) h.2 (fun i hi => by rw [getD_toList]; exact hxl i hi) (fun i hi => by rw [getD_toList]; exact hym i hi)
  simp only [Instr.sameBits, Bool.and_eq_true, beq_iff_eq]
  exact ⟨by omega, this⟩
theorem sameBits_run {kt : TypeId} {k u : V} {x y : Value} (h : eqV P kt k u = some true) (hk : Tr G.S G.β k x) (hu : Tr G.S G.β u y) : Instr.sameBits 10000 y x = true := by
  unfold eqV at h
  split at h
  · split at h
    · split at h
      · exact sb_agg (n := 9999) hk hu (sameF_all _ _ _ _ h)
      · cases h
    · cases h
  · split at h
    · split at h
      · split at h
        · exact sb_agg (n := 9999) hk hu (sameA_all _ _ h)
        · cases h
      · cases h
    · cases h
  · exact sb_scalar h hk hu _
  · cases h
theorem putE_spec {kt : TypeId} {k v : V} : ∀ (es es1 : List (V × V)) (i : Nat), putE P kt k v es = some es1 → ∃ q, findI P kt k es i = some q ∧ (q = none → es1 = es ++ [(k, v)]) ∧ ∀ j u, q = some (j, u) → i ≤ j ∧ j - i < es.length ∧ es1 = es.set (j - i) (k, v) ∧ eqV P kt k (es.getD (j - i) default).1 = some true := by
  intro es
  induction es with
  | nil => intro es1 i h; simp only [putE, Option.some.injEq] at h; subst h; exact ⟨none, rfl, fun _ => rfl, fun j u e => by cases e⟩
  | cons e es ih =>
    intro es1 i h
    simp only [putE] at h
    split at h
    · rename_i he
      obtain rfl := Option.some.inj h
      refine ⟨some (i, e.2), by simp [findI, he], (fun e => by cases e), fun j u hj => ?_⟩
      cases hj
      simp only [Nat.sub_self]
      exact ⟨Nat.le_refl _, by simp, rfl, he⟩
    · rename_i he
      obtain ⟨es2, h1, rfl⟩ := Option.map_eq_some_iff.1 h
      obtain ⟨q, h2, h3, h4⟩ := ih es2 (i + 1) h1
      refine ⟨q, by simp [findI, he, h2], fun hq => by rw [h3 hq]; rfl, fun j u hj => ?_⟩
      obtain ⟨k1, k2, k3, k4⟩ := h4 j u hj
      have : j - i = (j - (i + 1)) + 1 := by omega
      rw [this]
      exact ⟨by omega, by simpa using k2, by rw [k3]; rfl, by simpa using k4⟩
    · cases h
theorem op_map {m k x : Operand} {t : TypeId} {s1 : St} (h : Rel G s a w) (hv : uMap P s t m k x = some s1) (op : Op) (hop : op = .mapUpdate t m k x ∨ op = .insert t m k x) : OpU P ⟨d, op, ty, pos, af, gd⟩ G s a w s1 := by
  unfold uMap at hv
  split at hv
  · rename_i kt e hu
    split at hv
    · rename_i kv s2 hkt
      split at hv
      · rename_i vv s3 hvt
        obtain ⟨G1, a1, a2, a3, a4, a5, a6⟩ := h.tree hkt
        obtain ⟨G2, b1, b2, b3, b4, b5, b6⟩ := a1.tree hvt
        split at hv
        · rename_i lv u hmv
          split at hv
          · rename_i es ho
            split at hv
            · rename_i hck
              obtain ⟨es1, hp, rfl⟩ := Option.map_eq_some_iff.1 hv
              have hk2 := b2.le.tr a3
              have hm := b1.see P t m
              rw [hmv] at hm
              obtain ⟨g, hg, hω, en, ck, hb, hl, hS, hpu, hT⟩ := b1.obj lv u _ ho
              obtain ⟨g', hg', hx⟩ := hm.mp_inv
              obtain rfl : g' = g := by rw [hg] at hg'; exact (Option.some.inj hg').symm
              obtain ⟨td, htd⟩ : ∃ td, P.underlying kt = some td := by
                cases hh : P.underlying kt with
                | none => unfold eqV at hck; rw [hh] at hck; cases hck
                | some td => exact ⟨td, rfl⟩
              have hck' := checkKey_run (P := P) hck hk2 false w
              have hent := entR_of hl hT
              obtain ⟨q, q1, q2, q3⟩ := putE_spec es es1 0 hp
              obtain ⟨q', f1, f2, f3⟩ := findKey_run (P := P) htd hk2 w es en.toList q hent q1
              have hst := a2.trans b2
              -- the object's new content
              have key : ∃ en1 ck1, (Instr.mapUpdate t (a.eval m) (a.eval k) (a.eval x)).run P w = .ok () { w with heap := w.heap.setIfInBounds g' (.map en1 ck1) } ∧ es1.length = en1.size ∧ (∀ z ∈ es1, z.1.flat.all pureC = true ∧ z.2.flat.all pureC = true) ∧
                  ∀ i, i < es1.length → Tr G2.S G2.β (es1.getD i default).1 (en1.getD i default).key ∧ Tr G2.S G2.β (es1.getD i default).2 (en1.getD i default).val := by
                cases q with
                | none =>
                  have hq' := f2 rfl
                  subst hq'
                  have he1 := q2 rfl
                  subst he1
                  refine ⟨en.push { key := a.eval k, val := a.eval x, born := ck }, ck + 1, ?_, by simp [hl], fun z hz => ?_, fun i hi => ?_⟩
                  · simp [Instr.mapUpdate, run_underlying hu, hx, getObj, setObj, Sem.run, hb, hck', f1]
                  · rcases List.mem_append.1 hz with hz | hz
                    · exact hpu z hz
                    · rw [List.mem_singleton.1 hz]; exact ⟨a4, b4⟩
                  · by_cases hi' : i < es.length
                    · have e1 : (es ++ [(kv, vv)]).getD i default = es.getD i default := by simp [List.getD_eq_getElem?_getD, List.getElem?_append_left hi']
                      have e2 : (en.push { key := a.eval k, val := a.eval x, born := ck }).getD i default = en.getD i default := by
                        simp only [Array.getD_eq_getD_getElem?, Array.getElem?_push]
                        rw [if_neg (by omega)]
                      rw [e1, e2]
                      exact hT i hi'
                    · have hi2 : i = es.length := by simp at hi; omega
                      subst hi2
                      have e1 : (es ++ [(kv, vv)]).getD es.length default = (kv, vv) := by simp [List.getD_eq_getElem?_getD]
                      have e2 : (en.push { key := a.eval k, val := a.eval x, born := ck }).getD es.length default = { key := a.eval k, val := a.eval x, born := ck } := by
                        simp only [Array.getD_eq_getD_getElem?, Array.getElem?_push, hl, if_true, Option.getD_some]
                      rw [e1, e2]
                      exact ⟨hk2, b3⟩
                | some jv =>
                  obtain ⟨j, uv⟩ := jv
                  obtain ⟨me, m1, rfl, m3⟩ := f3 j uv rfl
                  obtain ⟨_, hj, rfl, hq⟩ := q3 j uv rfl
                  simp only [Nat.sub_zero] at hj hq
                  have hjn : j < en.size := by omega
                  have hold := (hT j hj).1
                  have hme : en.getD j default = me := by rw [Array.getD_eq_getD_getElem?, ← Array.getElem?_toList, m1]; rfl
                  have hme2 : en[j]? = some me := by rw [← Array.getElem?_toList]; exact m1
                  rw [hme] at hold
                  have hsb := sameBits_run (P := P) hq hk2 hold
                  refine ⟨en.modify j fun e => { e with key := a.eval k, val := a.eval x }, ck, ?_, by simp [hl], fun z hz => ?_, fun i hi => ?_⟩
                  · simp [Instr.mapUpdate, run_underlying hu, hx, getObj, setObj, Sem.run, hb, hck', f1, Instr.keyThatStays, hme2, hsb]
                  · rcases List.mem_or_eq_of_mem_set hz with hz | rfl
                    · exact hpu z hz
                    · exact ⟨a4, b4⟩
                  · rw [List.length_set] at hi
                    simp only [Nat.sub_zero]
                    by_cases hij : i = j
                    · subst hij
                      have e1 : (es.set i (kv, vv)).getD i default = (kv, vv) := by simp [List.getD_eq_getElem?_getD, hi]
                      have e2 : (en.modify i fun e => { e with key := a.eval k, val := a.eval x }).getD i default = { me with key := a.eval k, val := a.eval x } := by
                        simp only [Array.getD_eq_getD_getElem?, Array.getElem?_modify, if_true, hme2, Option.map_some, Option.getD_some]
                      rw [e1, e2]
                      exact ⟨hk2, b3⟩
                    · have e1 : (es.set j (kv, vv)).getD i default = es.getD i default := by simp [List.getD_eq_getElem?_getD, List.getElem?_set, Ne.symm hij]
                      have e2 : (en.modify j fun e => { e with key := a.eval k, val := a.eval x }).getD i default = en.getD i default := by
                        simp only [Array.getD_eq_getD_getElem?, Array.getElem?_modify, if_neg (Ne.symm hij)]
                      rw [e1, e2]
                      exact hT i hi
              obtain ⟨en1, ck1, k1, k2, k3, k4⟩ := key
              have hlt : g' < w.heap.size := b1.lim _ _ hω
              generalize hw' : ({ w with heap := w.heap.setIfInBounds g' (.map en1 ck1) } : World) = w' at k1
              have hoth : ∀ k, k ≠ g' → w'.heap[k]? = w.heap[k]? := fun k hk => by rw [← hw']; simp [Array.getElem?_setIfInBounds, Ne.symm hk]
              have hws : w'.heap.size = w.heap.size := by rw [← hw']; simp
              have hnew : w'.heap[g']? = some (.map en1 ck1) := by rw [← hw']; simp [Array.getElem?_setIfInBounds, hlt]
              refine ⟨w', G2, ?_, b1.setOb ho hg hω (Le.refl _) rfl (fun k p hk hp hr hpk => ⟨hoth k hk, fun _ => rfl, hpk⟩) (fun k j c hc => ?_) (fun k p hp => by rw [hws]; exact b1.lim k p hp) hω ⟨en1, ck1, hnew, k2, hS, k3, k4⟩, hst.fr.trans ⟨by rw [← hw'], by rw [← hw'], by rw [← hw'], by rw [hws]; exact Nat.le_refl _, fun k hk hm => ⟨hoth k (by rintro rfl; exact hm _ hω trivial), rfl, fun _ => rfl⟩, fun _ _ _ e => e, fun _ _ _ => rfl⟩⟩
              · rcases hop with rfl | rfl <;> simp only [execOp, Sem.run_bind, k1, Result.andThen_ok, Sem.run_pure]
              · have hkg : k ≠ g' := by rintro rfl; rw [hS] at hc; cases hc
                have := b1.imm _ _ _ hc
                simp only [World.cell?, hoth k hkg]
                exact this
            · cases hv
          · cases hv
        · cases hv
      · cases hv
    · cases hv
  · cases hv
end Go.Ev
