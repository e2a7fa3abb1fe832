/- Maps. Lists that nobody else sees: grown, settled, made objects. -/
import Derived.Test.YtcmnfoombinccaaEvE
import Derived.Test.YtcmnfoombinccaaEvD
set_option linter.unusedVariables false
set_option linter.unusedSimpArgs false
namespace Go.Ev
open Go
set_option linter.unusedVariables false
set_option linter.unusedSimpArgs false
variable {P : Program} {G : Gh} {s : St} {a : Act} {w : World} {o : Oper}
variable {d : Option Nat} {ty : TypeId} {pos : String} {af : Array Edge} {gd : Option (Nat × Bool)}

theorem checkKey_scalar {td : TypeDesc} (hs : (∃ k, td = .int k) ∨ td = .bool ∨ td = .string) {t : TypeId} (ht : P.underlying t = some td) (b : Bool) (n : Nat) (x : Value) (w : World) : (Instr.checkKey b (n + 1) t x).run P w = .ok () w := by
  rcases hs with ⟨k, rfl⟩ | rfl | rfl <;> simp [Instr.checkKey, run_underlying ht]
theorem forIn_ok {α : Type} : ∀ (l : List α) (f : α → PUnit → Sem (ForInStep PUnit)), (∀ x ∈ l, ∀ (r : PUnit) (w : World), (f x r).run P w = .ok (.yield PUnit.unit) w) → ∀ w : World, (forIn l PUnit.unit f).run P w = .ok PUnit.unit w := by
  intro l
  induction l with
  | nil => intro f _ w; rfl
  | cons x l ih =>
    intro f h w
    simp only [List.forIn_cons, Sem.run_bind, h x List.mem_cons_self, Result.andThen_ok]
    exact ih f (fun y hy => h y (List.mem_cons_of_mem _ hy)) w
theorem sameF_mem : ∀ (fs : List Field) (n : Nat) (l m : List V) (r : Bool), sameF P n fs l m = some r → ∀ f ∈ fs, ∃ td, P.underlying f.type = some td ∧ ((∃ k, td = .int k) ∨ td = .bool ∨ td = .string) ∧ f.offset < n + l.length := by
  intro fs
  induction fs with
  | nil => intro n l m r _ f hf; cases hf
  | cons g fs ih =>
    intro n l m r h f hf
    cases l with
    | nil => simp [sameF] at h
    | cons b l =>
      cases m with
      | nil => simp [sameF] at h
      | cons c m =>
        simp only [sameF] at h
        split at h
        · rename_i hg
          split at h
          · rename_i td htd
            split at h
            · rename_i p q hp hq
              rcases List.mem_cons.1 hf with rfl | hf
              · exact ⟨td, htd, sameT_scalar hp, by simp [hg.1]⟩
              · obtain ⟨td', k1, k2, k3⟩ := ih (n + 1) l m q hq f hf
                exact ⟨td', k1, k2, by simp; omega⟩
            · cases h
          · cases h
        · cases h
theorem sameA_td {td : TypeDesc} : ∀ (l m : List V) (r : Bool), sameA td l m = some r → l ≠ [] → (∃ k, td = .int k) ∨ td = .bool ∨ td = .string := by
  intro l m r h hl
  cases l with
  | nil => exact absurd rfl hl
  | cons b l =>
    cases m with
    | nil => simp [sameA] at h
    | cons c m =>
      simp only [sameA] at h
      split at h
      · rename_i p q hp hq; exact sameT_scalar hp
      · cases h
theorem checkKey_run' {kt : TypeId} {k : V} {x : Value} (h : (eqV P kt k k).isSome = true) (hk : Tr G.S G.β k x) (b : Bool) (w : World) (n0 : Nat) : (Instr.checkKey b (n0 + 1 + 1) kt x).run P w = .ok () w := by
  obtain ⟨r, hr⟩ := Option.isSome_iff_exists.1 h
  unfold eqV at hr
  split at hr
  · rename_i fs hu
    split at hr
    · split at hr
      · rename_i l
        obtain ⟨xs, rfl, hl, hxl⟩ := hk.agg_inv
        rw [Instr.checkKey]
        simp only [Sem.run_bind, run_underlying hu, Result.andThen_ok]
        rw [← Array.forIn_toList, forIn_ok]
        · rfl
        · intro f hf r w
          obtain ⟨td, k1, k2, k3⟩ := sameF_mem fs.toList 0 _ _ _ hr f hf
          by_cases hn : f.name ≠ "_"
          · simp only [if_pos hn, Sem.run_bind, part_scalar k2 k1 (show f.offset < xs.size by omega), Result.andThen_ok, checkKey_scalar k2 k1, Sem.run_pure]
          · simp only [if_neg hn, Sem.run_pure]
      · cases hr
    · cases hr
  · rename_i n e hu
    split at hr
    · rename_i l
      split at hr
      · rename_i hc
        split at hr
        · rename_i td he
          obtain ⟨xs, rfl, hl, hxl⟩ := hk.agg_inv
          obtain ⟨i, d, g1, g2, g3, g4⟩ := szOf_ne (P := P) (t := e) (by omega)
          rw [Instr.checkKey]
          simp only [Sem.run_bind, run_underlying hu, Result.andThen_ok]
          simp only [Std.Legacy.Range.forIn_eq_forIn_range', Std.Legacy.Range.size, Nat.sub_zero, Nat.add_one_sub_one, Nat.div_one]
          rw [forIn_ok]
          · rfl
          · intro j hj r w
            have hj' : j < l.length := by rw [List.mem_range'] at hj; omega
            have hs := sameA_td _ _ _ hr (by rintro rfl; simp at hj')
            simp only [Sem.run_bind, run_sizeOf' (P := P) (t := e) (by omega), Result.andThen_ok, hc.2, Nat.mul_one, part_scalar hs he (show j < xs.size by omega), checkKey_scalar hs he, Sem.run_pure]
        · cases hr
      · cases hr
    · cases hr
  · rename_i td _ _ hu
    exact checkKey_scalar (sameT_scalar hr) hu _ _ _ _
  · cases hr
theorem checkKey_run {kt : TypeId} {k : V} {x : Value} (h : (eqV P kt k k).isSome = true) (hk : Tr G.S G.β k x) (b : Bool) (w : World) : (Instr.checkKey b 10000 kt x).run P w = .ok () w := checkKey_run' h hk b w 9998

/-! ### finding -/
theorem sameNow_eq {td : TypeDesc} {x y : V} {r : Bool} {b c : Value} (h : sameT td x y = some r) (hx : Tr G.S G.β x b) (hy : Tr G.S G.β y c) : (∃ r', Instr.sameNow td b c = some r' ∧ r' = r) ∨ Instr.sameNow td b c = none := by
  unfold sameT at h
  split at h
  · split at h
    · rename_i hk; subst hk
      obtain rfl := Option.some.inj h
      rw [hx.int_inv, hy.int_inv]
      exact .inl ⟨_, by simp [Instr.sameNow], rfl⟩
    · cases h
  · obtain rfl := Option.some.inj h
    rw [hx.bool_inv, hy.bool_inv]
    exact .inl ⟨_, rfl, rfl⟩
  · obtain rfl := Option.some.inj h
    rw [hx.str_inv, hy.str_inv]
    exact .inl ⟨_, rfl, beq_toListBytes _ _⟩
  · cases h
/-- entries, pair by pair -/
def EntR (G : Gh) (es : List (V × V)) (en : List MapEntry) : Prop := es.length = en.length ∧ ∀ (i : Nat) (e : V × V) (m : MapEntry), es[i]? = some e → en[i]? = some m → Tr G.S G.β e.1 m.key ∧ Tr G.S G.β e.2 m.val
theorem EntR.cons {e : V × V} {es : List (V × V)} {m : MapEntry} {en : List MapEntry} (h : EntR G (e :: es) (m :: en)) : Tr G.S G.β e.1 m.key ∧ Tr G.S G.β e.2 m.val ∧ EntR G es en :=
  ⟨(h.2 0 e m rfl rfl).1, (h.2 0 e m rfl rfl).2, by have := h.1; simpa using this, fun i e' m' h1 h2 => h.2 (i + 1) e' m' (by simpa using h1) (by simpa using h2)⟩
/-- the first entry with a key: its number and its value -/
def findI (P : Program) (kt : TypeId) (k : V) : List (V × V) → Nat → Option (Option (Nat × V))
  | [], _ => some none
  | e :: es, i => match eqV P kt k e.1 with
    | some true => some (some (i, e.2))
    | some false => findI P kt k es (i + 1)
    | none => none
theorem findI_find {kt : TypeId} {k : V} : ∀ (es : List (V × V)) (i : Nat) (r : Option V), findE P kt k es = some r → ∃ q, findI P kt k es i = some q ∧ q.map (·.2) = r := by
  intro es
  induction es with
  | nil => intro i r h; simp only [findE, Option.some.injEq] at h; subst h; exact ⟨none, rfl, rfl⟩
  | cons e es ih =>
    intro i r h
    simp only [findE] at h
    split at h
    · rename_i he
      obtain rfl := Option.some.inj h
      exact ⟨some (i, e.2), by simp [findI, he], rfl⟩
    · rename_i he
      obtain ⟨q, h1, h2⟩ := ih (i + 1) r h
      exact ⟨q, by simp [findI, he, h1], h2⟩
    · cases h
theorem findAsking_run {kt : TypeId} {k : V} {x : Value} (hk : Tr G.S G.β k x) (w : World) : ∀ (es : List (V × V)) (en : List MapEntry) (i : Nat) (q : Option (Nat × V)), EntR G es en → findI P kt k es i = some q →
    ∃ q', (Instr.findAsking kt x en i).run P w = .ok q' w ∧ (q = none → q' = none) ∧ ∀ j v, q = some (j, v) → i ≤ j ∧ ∃ m, en[j - i]? = some m ∧ q' = some (j, m.val) ∧ Tr G.S G.β v m.val := by
  intro es
  induction es with
  | nil =>
    intro en i q he h
    have : en = [] := List.eq_nil_of_length_eq_zero he.1.symm
    subst this
    simp only [findI, Option.some.injEq] at h
    subst h
    exact ⟨none, rfl, fun _ => rfl, fun j v e => by cases e⟩
  | cons e es ih =>
    intro en i q he h
    cases en with
    | nil => have := he.1; simp at this
    | cons m en =>
      obtain ⟨h1, h2, h3⟩ := he.cons
      simp only [findI] at h
      split at h
      · rename_i hq
        obtain rfl := Option.some.inj h
        have e1 := eqV_run hq hk h1 w
        refine ⟨some (i, m.val), by simp [Instr.findAsking, e1], (fun e => by cases e), fun j v e => ?_⟩
        cases e
        exact ⟨Nat.le_refl _, m, by simp, rfl, h2⟩
      · rename_i hq
        have e1 := eqV_run hq hk h1 w
        obtain ⟨q', k1, k2, k3⟩ := ih en (i + 1) q h3 h
        refine ⟨q', by simp [Instr.findAsking, e1, k1], k2, fun j v e => ?_⟩
        obtain ⟨k4, m', k5, k6, k7⟩ := k3 j v e
        refine ⟨by omega, m', ?_, k6, k7⟩
        rw [show j - i = (j - (i + 1)) + 1 by omega, List.getElem?_cons_succ]
        exact k5
      · cases h
theorem findNow_run {kt : TypeId} {td : TypeDesc} (hu : P.underlying kt = some td) {k : V} {x : Value} (hk : Tr G.S G.β k x) : ∀ (es : List (V × V)) (en : List MapEntry) (i : Nat) (q : Option (Nat × V)), EntR G es en → findI P kt k es i = some q →
    Instr.findNow td x en i = none ∨ ∃ q', Instr.findNow td x en i = some q' ∧ (q = none → q' = none) ∧ ∀ j v, q = some (j, v) → i ≤ j ∧ ∃ m, en[j - i]? = some m ∧ q' = some (j, m.val) ∧ Tr G.S G.β v m.val := by
  intro es
  induction es with
  | nil =>
    intro en i q he h
    have : en = [] := List.eq_nil_of_length_eq_zero he.1.symm
    subst this
    simp only [findI, Option.some.injEq] at h
    subst h
    exact .inr ⟨none, rfl, fun _ => rfl, fun j v e => by cases e⟩
  | cons e es ih =>
    intro en i q he h
    cases en with
    | nil => have := he.1; simp at this
    | cons m en =>
      obtain ⟨h1, h2, h3⟩ := he.cons
      simp only [findI] at h
      have hnow : ∀ r, eqV P kt k e.1 = some r → Instr.sameNow td x m.key = some r ∨ Instr.sameNow td x m.key = none := by
        intro r hr
        unfold eqV at hr
        rw [hu] at hr
        cases td
        case struct => cases x <;> cases m.key <;> exact .inr rfl
        case array => cases x <;> cases m.key <;> exact .inr rfl
        all_goals
          rcases sameNow_eq hr hk h1 with ⟨r', a1, rfl⟩ | a1
          · exact .inl a1
          · exact .inr a1
      split at h
      · rename_i hq
        obtain rfl := Option.some.inj h
        rcases hnow _ hq with e1 | e1
        · refine .inr ⟨some (i, m.val), by simp [Instr.findNow, e1], (fun e => by cases e), fun j v e => ?_⟩
          cases e
          exact ⟨Nat.le_refl _, m, by simp, rfl, h2⟩
        · exact .inl (by simp [Instr.findNow, e1])
      · rename_i hq
        rcases hnow _ hq with e1 | e1
        · rcases ih en (i + 1) q h3 h with k1 | ⟨q', k1, k2, k3⟩
          · exact .inl (by simp [Instr.findNow, e1, k1])
          · refine .inr ⟨q', by simp [Instr.findNow, e1, k1], k2, fun j v e => ?_⟩
            obtain ⟨k4, m', k5, k6, k7⟩ := k3 j v e
            refine ⟨by omega, m', ?_, k6, k7⟩
            rw [show j - i = (j - (i + 1)) + 1 by omega, List.getElem?_cons_succ]
            exact k5
        · exact .inl (by simp [Instr.findNow, e1])
      · cases h
theorem findKey_run {kt : TypeId} {td : TypeDesc} (hu : P.underlying kt = some td) {k : V} {x : Value} (hk : Tr G.S G.β k x) (w : World) (es : List (V × V)) (en : List MapEntry) (q : Option (Nat × V)) (he : EntR G es en) (h : findI P kt k es 0 = some q) :
    ∃ q', (Instr.findKey kt x en).run P w = .ok q' w ∧ (q = none → q' = none) ∧ ∀ j v, q = some (j, v) → ∃ m, en[j]? = some m ∧ q' = some (j, m.val) ∧ Tr G.S G.β v m.val := by
  obtain ⟨q1, a1, a2, a3⟩ := findAsking_run (P := P) hk w es en 0 q he h
  rcases findNow_run (P := P) hu hk es en 0 q he h with b1 | ⟨q2, b1, b2, b3⟩
  · refine ⟨q1, ?_, a2, fun j v e => ?_⟩
    · simp only [Instr.findKey, Sem.run_bind, run_underlying hu, Result.andThen_ok, b1, a1]
    · obtain ⟨_, m, c1, c2, c3⟩ := a3 j v e; exact ⟨m, by simpa using c1, c2, c3⟩
  · refine ⟨q2, ?_, b2, fun j v e => ?_⟩
    · simp only [Instr.findKey, Sem.run_bind, run_underlying hu, Result.andThen_ok, b1, Sem.run_pure]
    · obtain ⟨_, m, c1, c2, c3⟩ := b3 j v e; exact ⟨m, by simpa using c1, c2, c3⟩
theorem entR_of {es : List (V × V)} {en : Array MapEntry} (hl : es.length = en.size) (hT : ∀ i, i < es.length → Tr G.S G.β (es.getD i default).1 (en.getD i default).key ∧ Tr G.S G.β (es.getD i default).2 (en.getD i default).val) : EntR G es en.toList := by
  refine ⟨by simpa using hl, fun i e m h1 h2 => ?_⟩
  have hi : i < es.length := by
    rcases Nat.lt_or_ge i es.length with h' | h'
    · exact h'
    · rw [List.getElem?_eq_none h'] at h1; cases h1
  have h3 := hT i hi
  have e1 : es.getD i default = e := by rw [List.getD_eq_getElem?_getD, h1]; rfl
  have e2 : en.getD i default = m := by rw [Array.getD_eq_getD_getElem?, ← Array.getElem?_toList, h2]; rfl
  rw [e1, e2] at h3
  exact h3
theorem zero_pack {e : TypeId} {z : List V} (hz : zero P e = some z) (hc : z.length = 1 ∨ isAgg P e = true) (hu : (P.underlying e).isSome) : ∃ zv, (∀ w : World, (zeroValue e).run P w = .ok zv w) ∧ Tr G.S G.β (pack (isAgg P e) z).view zv := by
  obtain ⟨zv, h1, h2, h3, h4, h5⟩ := zero_spec hz
  refine ⟨zv, h1, ?_⟩
  have hag : ∀ v (x : Value), agree v x = true → (∀ l, v ≠ .agg l) ∧ (∀ l, v ≠ .tup l) := by
    intro v x h
    unfold agree at h
    split at h
    all_goals first | (cases h; done) | exact ⟨(fun l e => by cases e), fun l e => by cases e⟩
  cases ha : isAgg P e
  · have h6 := h5 ha
    rw [h6] at h2 h3
    cases z with
    | nil => simp at h2
    | cons v z =>
      have h7 := h3 0 (by simp)
      have h8 := hag _ _ h7
      simp only [List.getD_cons_zero] at h7 h8
      have h9 := (agree_tr (G := G) (w := default) h7 (.rs 0 0)).view
      simp only [pack, Bool.false_eq_true, if_false, List.headD_cons]
      have : v.view = v.viewC := by
        cases v <;> first | rfl | exact absurd rfl (h8.1 _) | exact absurd rfl (h8.2 _)
      rw [this]
      exact h9
  · obtain ⟨cs, rfl⟩ := h4 ha
    simp only [pack, if_true, V.view]
    refine Tr.agg _ _ (by rw [List.length_map]; exact h2) fun i hi => ?_
    rw [getD_viewC]
    exact (agree_tr (G := G) (w := default) (h3 i (by simpa using hi)) (.rs 0 0)).view
theorem op_lookup {m k : Operand} {t kt e : TypeId} {ok : Bool} {v : V} (h : Rel G s a w) (hu : P.underlying t = some (.map kt e)) (hv : vLookup P s t ok (s.see P t m) (s.see P kt k) = some v) : OpOk P ⟨d, .lookup t m k ok, ty, pos, af, gd⟩ G s a w v s := by
  have h1 := h.see P t m
  have h2 := h.see P kt k
  have hkv := see_view s P kt k
  unfold vLookup at hv
  generalize s.see P t m = mv at hv h1
  generalize s.see P kt k = kv at hv h2 hkv
  rw [hu] at hv
  split at hv
  · rename_i kt' e' lv u hh
    obtain ⟨rfl, rfl⟩ : kt = kt' ∧ e = e' := by cases hh; exact ⟨rfl, rfl⟩
    split at hv
    · rename_i es z ho hz
      split at hv
      · rename_i hc
        obtain ⟨hck, hzl, hz0, hza⟩ := hc
        obtain ⟨g, hg, hω, en, ck, hb, hl, hS, hp, hT⟩ := h.obj lv u _ ho
        obtain ⟨g', hg', hx⟩ := h1.mp_inv
        obtain rfl : g' = g := by rw [hg] at hg'; exact (Option.some.inj hg').symm
        have hck' := checkKey_run (P := P) hck h2 en.isEmpty w
        obtain ⟨td, htd⟩ : ∃ td, P.underlying kt = some td := by
          cases hh : P.underlying kt with
          | none => unfold eqV at hck; rw [hh] at hck; cases hck
          | some td => exact ⟨td, rfl⟩
        have hent := entR_of hl hT
        obtain ⟨ie, de, y1, y2, y3, y4⟩ := szOf_ne (P := P) (t := e) (by omega)
        obtain ⟨zv, zr, zt⟩ := zero_pack (G := G) hz hza (by rw [y2]; rfl)
        split at hv
        · rename_i r hf
          obtain rfl := Option.some.inj hv
          obtain ⟨q, hq1, hq2⟩ := findI_find es 0 _ hf
          obtain ⟨q', f1, f2, f3⟩ := findKey_run (P := P) htd h2 w es en.toList q hent hq1
          obtain ⟨⟨j, r'⟩, rfl, rfl⟩ : ∃ x, q = some x ∧ x.2 = r := by
            cases q with
            | none => cases hq2
            | some x => exact ⟨x, rfl, by simpa using hq2⟩
          obtain ⟨me, m1, rfl, m3⟩ := f3 _ _ rfl
          have hrun : (execOp a.eval ⟨d, .lookup t m k ok, ty, pos, af, gd⟩).run P w = .ok (.value (if ok = true then .tuple #[me.val, .bool true] else me.val)) w := by
            simp only [execOp]
            refine run_val ?_
            simp [Instr.lookup, run_underlying hu, hx, getObj, Sem.run, hb, hck', f1]
          cases ok
          · exact OpOk.tr h hrun m3
          · refine ⟨_, w, G, hrun, h, ⟨#[me.val, .bool true], rfl, rfl, fun i hi => ?_⟩, Fr.refl _ _ _⟩
            match i, hi with
            | 0, _ => exact OwnV.of_tr' m3
            | 1, _ => exact OwnV.of_tr' (Tr.bool _)
        · cases hv
        · rename_i hf
          obtain rfl := Option.some.inj hv
          obtain ⟨q, hq1, hq2⟩ := findI_find es 0 _ hf
          obtain ⟨q', f1, f2, f3⟩ := findKey_run (P := P) htd h2 w es en.toList q hent hq1
          have : q = none := by
            cases q with
            | none => rfl
            | some x => cases hq2
          have hq' := f2 this
          subst hq'
          have hrun : (execOp a.eval ⟨d, .lookup t m k ok, ty, pos, af, gd⟩).run P w = .ok (.value (if ok = true then .tuple #[zv, .bool false] else zv)) w := by
            simp only [execOp]
            refine run_val ?_
            simp [Instr.lookup, run_underlying hu, hx, getObj, Sem.run, hb, hck', f1, zr]
          cases ok
          · exact OpOk.tr h hrun zt
          · refine ⟨_, w, G, hrun, h, ⟨#[zv, .bool false], rfl, rfl, fun i hi => ?_⟩, Fr.refl _ _ _⟩
            match i, hi with
            | 0, _ => exact OwnV.of_tr' zt
            | 1, _ => exact OwnV.of_tr' (Tr.bool _)
      · cases hv
    · cases hv
  · cases hv
/-! ### putting an entry -/
theorem sb_scalar {td : TypeDesc} {v u : V} {x y : Value} (h : sameT td v u = some true) (hv : Tr G.S G.β v x) (hu : Tr G.S G.β u y) (n : Nat) : Instr.sameBits n y x = true := by
  unfold sameT at h
  split at h
  · split at h
    · rename_i hk; subst hk
      rw [hv.int_inv, hu.int_inv]
      have := Option.some.inj h
      rw [beq_iff_eq] at this
      subst this
      cases n <;> simp [Instr.sameBits]
    · cases h
  · rw [hv.bool_inv, hu.bool_inv]
    have := Option.some.inj h
    rw [beq_iff_eq] at this
    subst this
    cases n <;> simp [Instr.sameBits]
  · rename_i p q
    rw [hv.str_inv, hu.str_inv]
    have := Option.some.inj h
    have h2 : (q == p) = true := by
      rw [beq_toListBytes]
      rw [beq_iff_eq] at this ⊢
      exact this.symm
    cases n <;> exact h2
  · cases h
theorem sb_list {n : Nat} : ∀ (l k : List V) (xs ys : List Value), l.length = k.length → l.length = xs.length → k.length = ys.length → (∀ i, i < l.length → ∃ td, sameT td (l.getD i .undef) (k.getD i .undef) = some true) →
    (∀ i, i < l.length → Tr G.S G.β (l.getD i .undef) (xs.getD i Go.undef)) → (∀ i, i < k.length → Tr G.S G.β (k.getD i .undef) (ys.getD i Go.undef)) → (ys.zip xs).all (fun (x, y) => Instr.sameBits n x y) = true := by
  intro l
  induction l with
  | nil =>
    intro k xs ys h0 hl hk _ _ _
    have h1 : xs = [] := List.eq_nil_of_length_eq_zero hl.symm
    subst h1
    simp
  | cons b l ih =>
    intro k xs ys h0 hl hk hs hx hy
    cases k with
    | nil => simp at h0
    | cons c k =>
      cases xs with
      | nil => simp at hl
      | cons x xs =>
        cases ys with
        | nil => simp at hk
        | cons y ys =>
          have i1 := ih k xs ys (by simpa using h0) (by simpa using hl) (by simpa using hk) (fun i hi => by simpa using hs (i + 1) (by simpa using hi)) (fun i hi => by simpa using hx (i + 1) (by simpa using hi)) (fun i hi => by simpa using hy (i + 1) (by simpa using hi))
          obtain ⟨td, h1⟩ := hs 0 (by simp)
          have hb := hx 0 (by simp)
          have hc := hy 0 (by simp)
          simp only [List.getD_cons_zero] at hb hc h1
          simp only [List.zip_cons_cons, List.all_cons, i1, Bool.and_true]
          exact sb_scalar h1 hb hc n
theorem sameF_all : ∀ (fs : List Field) (n : Nat) (l m : List V), sameF P n fs l m = some true → l.length = m.length ∧ ∀ i, i < l.length → ∃ td, sameT td (l.getD i .undef) (m.getD i .undef) = some true := by
  intro fs
  induction fs with
  | nil => intro n l m h; cases l <;> cases m <;> simp only [sameF, reduceCtorEq] at h; exact ⟨rfl, fun i hi => absurd hi (Nat.not_lt_zero _)⟩
  | cons f fs ih =>
    intro n l m h
    cases l with
    | nil => simp [sameF] at h
    | cons b l =>
      cases m with
      | nil => simp [sameF] at h
      | cons c m =>
        simp only [sameF] at h
        split at h
        · split at h
          · rename_i td htd
            split at h
            · rename_i p q hp hq
              simp only [Option.some.injEq, Bool.and_eq_true] at h
              obtain ⟨rfl, rfl⟩ := h
              obtain ⟨i1, i2⟩ := ih (n + 1) l m hq
              refine ⟨by simp [i1], fun i hi => ?_⟩
              cases i with
              | zero => exact ⟨td, hp⟩
              | succ i => exact i2 i (by simpa using hi)
            · cases h
          · cases h
        · cases h
theorem sameA_all {td : TypeDesc} : ∀ (l m : List V), sameA td l m = some true → l.length = m.length ∧ ∀ i, i < l.length → ∃ td, sameT td (l.getD i .undef) (m.getD i .undef) = some true := by
  intro l
  induction l with
  | nil => intro m h; cases m <;> simp only [sameA, reduceCtorEq] at h; exact ⟨rfl, fun i hi => absurd hi (Nat.not_lt_zero _)⟩
  | cons b l ih =>
    intro m h
    cases m with
    | nil => simp [sameA] at h
    | cons c m =>
      simp only [sameA] at h
      split at h
      · rename_i p q hp hq
        simp only [Option.some.injEq, Bool.and_eq_true] at h
        obtain ⟨rfl, rfl⟩ := h
        obtain ⟨i1, i2⟩ := ih m hq
        refine ⟨by simp [i1], fun i hi => ?_⟩
        cases i with
        | zero => exact ⟨td, hp⟩
        | succ i => exact i2 i (by simpa using hi)
      · cases h
theorem getD_toList (cs : Array Value) (i : Nat) : cs.toList.getD i Go.undef = cs.getD i Go.undef := by simp [List.getD_eq_getElem?_getD, Array.getD_eq_getD_getElem?]
theorem sb_agg {n : Nat} {l k : List V} {x y : Value} (hk : Tr G.S G.β (.agg l) x) (hu : Tr G.S G.β (.agg k) y) (h : l.length = k.length ∧ ∀ i, i < l.length → ∃ td, sameT td (l.getD i .undef) (k.getD i .undef) = some true) : Instr.sameBits (n + 1) y x = true := by
  obtain ⟨xs, rfl, hl, hxl⟩ := hk.agg_inv
  obtain ⟨ys, rfl, hm, hym⟩ := hu.agg_inv
  have := sb_list (n := n) l k xs.toList ys.toList h.1 (by simpa using hl) (by simpa using hm) h.2 (fun i hi => by rw [getD_toList]; exact hxl i hi) (fun i hi => by rw [getD_toList]; exact hym i hi)
  simp only [Instr.sameBits, Bool.and_eq_true, beq_iff_eq]
  exact ⟨by omega, this⟩
theorem sameBits_run {kt : TypeId} {k u : V} {x y : Value} (h : eqV P kt k u = some true) (hk : Tr G.S G.β k x) (hu : Tr G.S G.β u y) : Instr.sameBits 10000 y x = true := by
  unfold eqV at h
  split at h
  · split at h
    · split at h
      · exact sb_agg (n := 9999) hk hu (sameF_all _ _ _ _ h)
      · cases h
    · cases h
  · split at h
    · split at h
      · split at h
        · exact sb_agg (n := 9999) hk hu (sameA_all _ _ h)
        · cases h
      · cases h
    · cases h
  · exact sb_scalar h hk hu _
  · cases h
theorem putE_spec {kt : TypeId} {k v : V} : ∀ (es es1 : List (V × V)) (i : Nat), putE P kt k v es = some es1 → ∃ q, findI P kt k es i = some q ∧ (q = none → es1 = es ++ [(k, v)]) ∧ ∀ j u, q = some (j, u) → i ≤ j ∧ j - i < es.length ∧ es1 = es.set (j - i) (k, v) ∧ eqV P kt k (es.getD (j - i) default).1 = some true := by
  intro es
  induction es with
  | nil => intro es1 i h; simp only [putE, Option.some.injEq] at h; subst h; exact ⟨none, rfl, fun _ => rfl, fun j u e => by cases e⟩
  | cons e es ih =>
    intro es1 i h
    simp only [putE] at h
    split at h
    · rename_i he
      obtain rfl := Option.some.inj h
      refine ⟨some (i, e.2), by simp [findI, he], (fun e => by cases e), fun j u hj => ?_⟩
      cases hj
      simp only [Nat.sub_self]
      exact ⟨Nat.le_refl _, by simp, rfl, he⟩
    · rename_i he
      obtain ⟨es2, h1, rfl⟩ := Option.map_eq_some_iff.1 h
      obtain ⟨q, h2, h3, h4⟩ := ih es2 (i + 1) h1
      refine ⟨q, by simp [findI, he, h2], fun hq => by rw [h3 hq]; rfl, fun j u hj => ?_⟩
      obtain ⟨k1, k2, k3, k4⟩ := h4 j u hj
      have : j - i = (j - (i + 1)) + 1 := by omega
      rw [this]
      exact ⟨by omega, by simpa using k2, by rw [k3]; rfl, by simpa using k4⟩
    · cases h
theorem op_map {m k x : Operand} {t : TypeId} {s1 : St} (h : Rel G s a w) (hv : uMap P s t m k x = some s1) (op : Op) (hop : op = .mapUpdate t m k x ∨ op = .insert t m k x) : OpU P ⟨d, op, ty, pos, af, gd⟩ G s a w s1 := by
  unfold uMap at hv
  split at hv
  · rename_i kt e hu
    split at hv
    · rename_i kv s2 hkt
      split at hv
      · rename_i vv s3 hvt
        obtain ⟨G1, a1, a2, a3, a4, a5, a6⟩ := h.tree hkt
        obtain ⟨G2, b1, b2, b3, b4, b5, b6⟩ := a1.tree hvt
        split at hv
        · rename_i lv u hmv
          split at hv
          · rename_i es ho
            split at hv
            · rename_i hck
              obtain ⟨es1, hp, rfl⟩ := Option.map_eq_some_iff.1 hv
              have hk2 := b2.le.tr a3
              have hm := b1.see P t m
              rw [hmv] at hm
              obtain ⟨g, hg, hω, en, ck, hb, hl, hS, hpu, hT⟩ := b1.obj lv u _ ho
              obtain ⟨g', hg', hx⟩ := hm.mp_inv
              obtain rfl : g' = g := by rw [hg] at hg'; exact (Option.some.inj hg').symm
              obtain ⟨td, htd⟩ : ∃ td, P.underlying kt = some td := by
                cases hh : P.underlying kt with
                | none => unfold eqV at hck; rw [hh] at hck; cases hck
                | some td => exact ⟨td, rfl⟩
              have hck' := checkKey_run (P := P) hck hk2 false w
              have hent := entR_of hl hT
              obtain ⟨q, q1, q2, q3⟩ := putE_spec es es1 0 hp
              obtain ⟨q', f1, f2, f3⟩ := findKey_run (P := P) htd hk2 w es en.toList q hent q1
              have hst := a2.trans b2
              -- the object's new content
              have key : ∃ en1 ck1, (Instr.mapUpdate t (a.eval m) (a.eval k) (a.eval x)).run P w = .ok () { w with heap := w.heap.setIfInBounds g' (.map en1 ck1) } ∧ es1.length = en1.size ∧ (∀ z ∈ es1, z.1.flat.all pureC = true ∧ z.2.flat.all pureC = true) ∧
                  ∀ i, i < es1.length → Tr G2.S G2.β (es1.getD i default).1 (en1.getD i default).key ∧ Tr G2.S G2.β (es1.getD i default).2 (en1.getD i default).val := by
                cases q with
                | none =>
                  have hq' := f2 rfl
                  subst hq'
                  have he1 := q2 rfl
                  subst he1
                  refine ⟨en.push { key := a.eval k, val := a.eval x, born := ck }, ck + 1, ?_, by simp [hl], fun z hz => ?_, fun i hi => ?_⟩
                  · simp [Instr.mapUpdate, run_underlying hu, hx, getObj, setObj, Sem.run, hb, hck', f1]
                  · rcases List.mem_append.1 hz with hz | hz
                    · exact hpu z hz
                    · rw [List.mem_singleton.1 hz]; exact ⟨a4, b4⟩
                  · by_cases hi' : i < es.length
                    · have e1 : (es ++ [(kv, vv)]).getD i default = es.getD i default := by simp [List.getD_eq_getElem?_getD, List.getElem?_append_left hi']
                      have e2 : (en.push { key := a.eval k, val := a.eval x, born := ck }).getD i default = en.getD i default := by
                        simp only [Array.getD_eq_getD_getElem?, Array.getElem?_push]
                        rw [if_neg (by omega)]
                      rw [e1, e2]
                      exact hT i hi'
                    · have hi2 : i = es.length := by simp at hi; omega
                      subst hi2
                      have e1 : (es ++ [(kv, vv)]).getD es.length default = (kv, vv) := by simp [List.getD_eq_getElem?_getD]
                      have e2 : (en.push { key := a.eval k, val := a.eval x, born := ck }).getD es.length default = { key := a.eval k, val := a.eval x, born := ck } := by
                        simp only [Array.getD_eq_getD_getElem?, Array.getElem?_push, hl, if_true, Option.getD_some]
                      rw [e1, e2]
                      exact ⟨hk2, b3⟩
                | some jv =>
                  obtain ⟨j, uv⟩ := jv
                  obtain ⟨me, m1, rfl, m3⟩ := f3 j uv rfl
                  obtain ⟨_, hj, rfl, hq⟩ := q3 j uv rfl
                  simp only [Nat.sub_zero] at hj hq
                  have hjn : j < en.size := by omega
                  have hold := (hT j hj).1
                  have hme : en.getD j default = me := by rw [Array.getD_eq_getD_getElem?, ← Array.getElem?_toList, m1]; rfl
                  have hme2 : en[j]? = some me := by rw [← Array.getElem?_toList]; exact m1
                  rw [hme] at hold
                  have hsb := sameBits_run (P := P) hq hk2 hold
                  refine ⟨en.modify j fun e => { e with key := a.eval k, val := a.eval x }, ck, ?_, by simp [hl], fun z hz => ?_, fun i hi => ?_⟩
                  · simp [Instr.mapUpdate, run_underlying hu, hx, getObj, setObj, Sem.run, hb, hck', f1, Instr.keyThatStays, hme2, hsb]
                  · rcases List.mem_or_eq_of_mem_set hz with hz | rfl
                    · exact hpu z hz
                    · exact ⟨a4, b4⟩
                  · rw [List.length_set] at hi
                    simp only [Nat.sub_zero]
                    by_cases hij : i = j
                    · subst hij
                      have e1 : (es.set i (kv, vv)).getD i default = (kv, vv) := by simp [List.getD_eq_getElem?_getD, hi]
                      have e2 : (en.modify i fun e => { e with key := a.eval k, val := a.eval x }).getD i default = { me with key := a.eval k, val := a.eval x } := by
                        simp only [Array.getD_eq_getD_getElem?, Array.getElem?_modify, if_true, hme2, Option.map_some, Option.getD_some]
                      rw [e1, e2]
                      exact ⟨hk2, b3⟩
                    · have e1 : (es.set j (kv, vv)).getD i default = es.getD i default := by simp [List.getD_eq_getElem?_getD, List.getElem?_set, Ne.symm hij]
                      have e2 : (en.modify j fun e => { e with key := a.eval k, val := a.eval x }).getD i default = en.getD i default := by
                        simp only [Array.getD_eq_getD_getElem?, Array.getElem?_modify, if_neg (Ne.symm hij)]
                      rw [e1, e2]
                      exact hT i hi
              obtain ⟨en1, ck1, k1, k2, k3, k4⟩ := key
              have hlt : g' < w.heap.size := b1.lim _ _ hω
              generalize hw' : ({ w with heap := w.heap.setIfInBounds g' (.map en1 ck1) } : World) = w' at k1
              have hoth : ∀ k, k ≠ g' → w'.heap[k]? = w.heap[k]? := fun k hk => by rw [← hw']; simp [Array.getElem?_setIfInBounds, Ne.symm hk]
              have hws : w'.heap.size = w.heap.size := by rw [← hw']; simp
              have hnew : w'.heap[g']? = some (.map en1 ck1) := by rw [← hw']; simp [Array.getElem?_setIfInBounds, hlt]
              refine ⟨w', G2, ?_, b1.setOb ho hg hω (Le.refl _) rfl (fun k p hk hp hr hpk => ⟨hoth k hk, fun _ => rfl, hpk⟩) (fun k j c hc => ?_) (fun k p hp => by rw [hws]; exact b1.lim k p hp) hω ⟨en1, ck1, hnew, k2, hS, k3, k4⟩, hst.fr.trans ⟨by rw [← hw'], by rw [← hw'], by rw [← hw'], by rw [hws]; exact Nat.le_refl _, fun k hk hm => ⟨hoth k (by rintro rfl; exact hm _ hω trivial), rfl, fun _ => rfl⟩, fun _ _ _ e => e, fun _ _ _ => rfl⟩⟩
              · rcases hop with rfl | rfl <;> simp only [execOp, Sem.run_bind, k1, Result.andThen_ok, Sem.run_pure]
              · have hkg : k ≠ g' := by rintro rfl; rw [hS] at hc; cases hc
                have := b1.imm _ _ _ hc
                simp only [World.cell?, hoth k hkg]
                exact this
            · cases hv
          · cases hv
        · cases hv
      · cases hv
    · cases hv
  · cases hv
end Go.Ev
namespace Go.Ev
open Go
set_option linter.unusedVariables false
set_option linter.unusedSimpArgs false
variable {P : Program} {G : Gh} {s : St} {a : Act} {w : World} {o : Oper}
variable {d : Option Nat} {ty : TypeId} {pos : String} {af : Array Edge} {gd : Option (Nat × Bool)}

theorem OwnU.of_nil {p : Pl} {sz : Nat} {x : Value} (h : OwnC G w p (.slc true sz []) x) : OwnU G w p sz [] x := by
  obtain ⟨_, a, cap, rfl, hc⟩ := (h : Tr G.S G.β (.slc false sz []) x ∧ ∃ a cap, x = .slice a ([] : List V).length cap ∧ (cap = ([] : List V).length ∨
      ∃ g cs ty, a = some ⟨g, 0, none⟩ ∧ G.ω g = some p ∧ w.heap[g]? = some (.cells cs ty (0, 0)) ∧ cs.size = cap * sz ∧ ∀ j, ([] : List V).length * sz ≤ j → G.S g j = none))
  rcases hc with hc | ⟨g, cs, ty, h1, h2, h3, h4, h5⟩
  · obtain rfl : cap = 0 := hc
    exact OwnU.mk0 a
  · subst h1
    exact OwnU.mk (l := []) (bs := []) (by simp) (fun b hb => by rw [List.mem_singleton.1 hb]; exact h2) h3 h4 (Nat.zero_le _) (fun x hx => by cases hx) (fun j => h5 j (by simp)) (by rw [show (([] : List V).length * sz) = 0 by simp]; exact .nil)
theorem Laid.dts {sz : Nat} {m : List V} {news : List Value} (hL : Laid G sz m news.toArray) (hn : news.length = m.length * sz) : DTs G.S G.β w [] (m.map V.flat).flatten news := by
  have hs : ∀ x ∈ m, x.flat.length = sz := fun x hx => (hL.2.1 x hx).1
  refine .of_pure (by rw [flat_len hs, hn]) (fun v hv => ?_) fun k hk => ?_
  · obtain ⟨y, hy, hv⟩ := List.mem_flatten.1 hv
    obtain ⟨x, hx, rfl⟩ := List.mem_map.1 hy
    exact List.all_eq_true.1 (hL.2.1 x hx).2 _ hv
  · rw [flat_len hs] at hk
    obtain ⟨i, j, hi, hj, rfl⟩ := cell_split hk
    rw [flat_getD hs i j hi hj]
    have := hL.2.2 i j hi hj
    simpa [List.getD_eq_getElem?_getD, Array.getD_eq_getD_getElem?] using this
theorem Rel.ren_rs0 (h : Rel G s a w) (f : Pl → Pl) (hf : ∀ p, (∀ c j, p ≠ .rs c j) → f p = p) : Rel (G.ren f) s a w ∧ Fr s.lv G w (G.ren f) w := by
  refine ⟨⟨h.size, h.defers, fun t => (h.slot t).ren _ fun c j => hf _ (fun _ _ e => by cases e), fun lv t ob hob => ?_, h.dom, h.imm, ren_lim h.lim⟩, ren_fr fun p => ?_⟩
  · obtain ⟨g, k1, k2, k3⟩ := h.obj lv t ob hob
    exact ⟨g, k1, by rw [ren_ω k2, hf _ (fun _ _ e => by cases e)], k3.ren _ fun j => hf _ (fun _ _ e => by cases e)⟩
  · cases p with
    | rs c j => exact .inr trivial
    | _ => exact .inl (hf _ (fun _ _ e => by cases e))
/-- the cells of a list that nobody else sees -/
theorem OwnU.cells {p : Pl} {sz : Nat} {l : List V} {X : Value} (h : OwnU G w p sz l X) (P : Program) : ∃ A cap, X = .slice A l.length cap ∧ ∃ (olds : List Value) (bs : List Nat), (Builtin.firstCells sz l.length X).run P w = .ok olds.toArray w ∧
    (Builtin.firstCells sz l.length X).run P w.drew = .ok olds.toArray w.drew ∧ olds.length = l.length * sz ∧ DTs G.S G.β w bs (l.map V.flat).flatten olds ∧ (∀ x ∈ l, x.flat.length = sz) ∧ bs.Nodup ∧ (∀ b ∈ bs, G.ω b = some p) ∧
    ((l = [] ∧ cap = 0) ∨ ∃ g cs ty, A = some ⟨g, 0, none⟩ ∧ g ∉ bs ∧ G.ω g = some p ∧ w.heap[g]? = some (.cells cs ty (0, 0)) ∧ cs.size = cap * sz ∧ l.length ≤ cap ∧ (∀ j, G.S g j = none) ∧ olds = cs.toList.take (l.length * sz)) := by
  obtain ⟨A, cap, rfl, ⟨rfl, rfl⟩ | ⟨g, cs, cty, bs, rfl, hn, hω, hg, hcs, hlc, hs, hS, hk⟩⟩ := h.inv
  · exact ⟨A, 0, rfl, [], [], by cases A <;> first | rfl | simp [Builtin.firstCells, loadCells, loadCellsFrom], by cases A <;> first | rfl | simp [Builtin.firstCells, loadCells, loadCellsFrom], by simp, .nil, (fun x hx => by cases hx), List.nodup_nil, (fun b hb => by cases hb), .inl ⟨rfl, rfl⟩⟩
  · have hle : l.length * sz ≤ cs.size := by rw [hcs]; exact Nat.mul_le_mul_right _ hlc
    have hlt : (cs.toList.take (l.length * sz)).length = l.length * sz := by simp; omega
    have hcl : ∀ (w : World), w.heap[g]? = some (.cells cs cty (0, 0)) → (loadCells ⟨g, 0, none⟩ (l.length * sz)).run P w = .ok (cs.toList.take (l.length * sz)).toArray w := by
      intro w hg
      have := run_loadCells_list (P := P) (w := w) ⟨g, 0, none⟩ (cs.toList.take (l.length * sz)) (fun j v hj => by
        rw [add_eq]
        simp only [World.cell?, hg, Nat.zero_add]
        rw [List.getElem?_take] at hj
        split at hj
        · simpa using hj
        · cases hj)
      rw [hlt] at this
      exact this
    exact ⟨_, cap, rfl, cs.toList.take (l.length * sz), bs, hcl w hg, hcl w.drew hg, hlt, hk, hs, (List.nodup_cons.1 hn).2, (fun b hb => hω b (List.mem_cons_of_mem _ hb)), .inr ⟨g, cs, cty, rfl, (List.nodup_cons.1 hn).1, hω g (List.mem_cons_self ..), hg, hcs, hlc, hS, rfl⟩⟩
theorem growU_core (h : Rel G s a w) {t tx e : TypeId} {sz : Nat} {l m : List V} {X Y : Value} {news : List Value} {bsm : List Nat} {q : Pl} {dx : TypeDesc} (hgr : growB P t = true) (hse : sz = elemSz P t) (he : P.underlying t = some (.slice e)) (hx : P.underlying tx = some dx) (hk : ∀ k, dx ≠ .int k)
    (hX : OwnU G w (.rs 0 0) sz l X) (hlen : (Builtin.lenOf Y).run P w = .ok m.length w) (hf : (Builtin.firstCells sz m.length Y).run P w = .ok news.toArray w) (hf' : (Builtin.firstCells sz m.length Y).run P w.drew = .ok news.toArray w.drew)
    (hL : DTs G.S G.β w bsm (m.map V.flat).flatten news) (hmz : ∀ x ∈ m, x.flat.length = sz) (hbn : bsm.Nodup) (hbq : ∀ b ∈ bsm, G.ω b = some q) (hq : ∃ i j, q = .rs (i + 1) j) (hn : news.length = m.length * sz) (h1 : ∀ u ∈ news, u.oneCell' = true) (hb : (l.length + m.length) * P.bytesOf e ≤ 140737488355328) :
    ∃ x w' G', (Builtin.append_ #[t, tx] ty #[X, Y]).run P w = .ok x w' ∧ Rel G' s a w' ∧ OwnU G' w' (.rs 0 0) sz (l ++ m) x ∧ Fr s.lv G w G' w' := by
  have hee : elemOf P t = e := by simp [elemOf, he]
  unfold growB at hgr
  simp only [Bool.and_eq_true, bne_iff_ne, ne_eq] at hgr
  obtain ⟨⟨⟨_, hnz⟩, hbz⟩, hzz⟩ := hgr
  have hszz : sz = szOf P e := by rw [hse]; simp [elemSz, hee]
  have hnz' : szOf P e ≠ 0 := by rw [← hszz, hse]; exact hnz
  obtain ⟨i, d, g1, g2, g3, g4⟩ := szOf_ne hnz'
  rw [hee] at hbz hzz
  have hbe : P.bytesOf e = i.bytes := by simp [Program.bytesOf, g1]
  obtain ⟨qi, qj, rfl⟩ := hq
  -- what was taken of the one is put to the other
  let f : Pl → Pl := fun p => if p = .rs (qi + 1) qj then .rs 0 0 else p
  have hfr : ∀ p, (∀ c j, p ≠ .rs c j) → f p = p := fun p hp => if_neg (hp _ _)
  cases hzo : zero P e with
  | none => rw [hzo] at hzz; cases hzz
  | some z =>
    rw [hzo] at hzz
    have hzl : z.length = szOf P e := by have : z.length = elemSz P t := by simpa using hzz
                                         rw [this, ← hse, hszz]
    obtain ⟨zv, k1, k2, k3, _⟩ := zero_spec hzo
    have hzi : i.zero = some zv := by
      have := k1 default
      simp only [zeroValue, Sem.run_bind, typeInfo, run_program, Result.andThen_ok, g1, Sem.run_pure] at this
      cases hh : i.zero with
      | none => simp [hh] at this
      | some y => simp [hh] at this; rw [this]
    have hpos : 0 < sz := by omega
    have hsi : i.size = sz := by omega
    have hlm : (l ++ m).length = l.length + m.length := by simp
    have hlms : ∀ x ∈ l ++ m, x.flat.length = sz := fun x hx => by
      rcases List.mem_append.1 hx with hx | hx
      · obtain ⟨_, _, _, _, _, _, _, _, _, hs, _⟩ := hX.cells P
        exact hs x hx
      · exact hmz x hx
    obtain ⟨A, cap, rfl, olds, bs, o2, o3, o5, hold, hlz, hbsn, hbsω, hown⟩ := hX.cells P
    have hdis : ∀ b ∈ bs, ∀ c ∈ bsm, b ≠ c := fun b hb c hc e => by
      have e1 := hbsω b hb
      rw [e, hbq c hc] at e1
      cases e1
    have hnd : (bs ++ bsm).Nodup := List.nodup_append.2 ⟨hbsn, hbn, hdis⟩
    have hall := hold.app hL
    have hfl : ((l ++ m).map V.flat).flatten = (l.map V.flat).flatten ++ (m.map V.flat).flatten := by simp
    have htk : ∀ rest : List Value, (olds ++ news ++ rest).take ((l.length + m.length) * sz) = olds ++ news := fun rest => by
      rw [List.take_append_of_le_length (by rw [List.length_append, o5, hn, Nat.add_mul]; omega), List.take_of_length_le (by rw [List.length_append, o5, hn, Nat.add_mul]; omega)]
    obtain ⟨r1, r2⟩ := h.ren_rs0 f hfr
    have hωf : ∀ b ∈ bs ++ bsm, (G.ren f).ω b = some (.rs 0 0) := fun b hb => by
      rcases List.mem_append.1 hb with hb | hb
      · rw [ren_ω (hbsω b hb)]; exact congrArg some (if_neg (by simp))
      · rw [ren_ω (hbq b hb)]; exact congrArg some (if_pos rfl)
    by_cases hroom : l.length + m.length ≤ cap
    · have hr := app_room (P := P) (w := w) (t := t) (tx := tx) (tyy := ty) (A := A) (n := l.length) (cap := cap) (Y := Y) he g1 hx hk hlen (by rw [hsi]; exact hf) hroom
      rcases hown with ⟨rfl, rfl⟩ | ⟨g, cs, cty, rfl, hgb, hω, hg, hcs, hlc, hS, hoe⟩
      · have hm0 : m = [] := List.eq_nil_of_length_eq_zero (by simpa using hroom)
        subst hm0
        have hn0 : news = [] := List.eq_nil_of_length_eq_zero (by simpa using hn)
        subst hn0
        refine ⟨.slice A 0 0, w, G, ?_, h, OwnU.mk0 A, Fr.refl _ _ _⟩
        rw [hr]
        cases A <;> simp [storeCells]
      · have hfit : l.length * sz + news.length ≤ cs.size := by rw [hn, hcs, ← Nat.add_mul]; exact Nat.mul_le_mul_right _ hroom
        have hst := run_storeCells_at P g (l.length * sz) cty news 0 cs w hg (by simpa using hfit) h1
        simp only [Nat.add_zero] at hst
        have hnew : (w.setRow g (cs.toList.take (l.length * sz) ++ news ++ cs.toList.drop (l.length * sz + news.length)).toArray).heap[g]? = some (.cells (cs.toList.take (l.length * sz) ++ news ++ cs.toList.drop (l.length * sz + news.length)).toArray cty (0, 0)) := setRow_heap w g cs _ cty _ hg
        generalize hw' : w.setRow g (cs.toList.take (l.length * sz) ++ news ++ cs.toList.drop (l.length * sz + news.length)).toArray = w' at hst hnew
        have hoth : ∀ k, k ≠ g → w'.heap[k]? = w.heap[k]? := fun k hk => by rw [← hw']; exact setRow_other w g k _ hk
        have hws : w'.heap.size = w.heap.size := by rw [← hw']; simp
        have hgn : ∀ b ∈ bs ++ bsm, b ≠ g := fun b hb e => by
          subst e
          rcases List.mem_append.1 hb with hb | hb
          · exact hgb hb
          · rw [hbq _ hb] at hω; cases hω
        rw [← hoe] at hnew
        refine ⟨.slice (some ⟨g, 0, none⟩) (l.length + m.length) cap, w', G.ren f, ?_, r1.grow (Le.refl _) rfl (fun k p hp hpk => ?_) (fun k j c hc => ?_) (fun k p hp => by rw [hws]; exact r1.lim k p hp), ?_, r2.trans ⟨by rw [← hw']; rfl, by rw [← hw']; rfl, by rw [← hw']; rfl, by rw [hws]; exact Nat.le_refl _, fun k hk hm => ?_, fun _ _ _ e => e, fun _ _ _ => rfl⟩⟩
        · rw [hr]
          show ((storeCells ((⟨g, 0, none⟩ : Addr).add (l.length * i.size)) news).run P w).andThen _ = _
          rw [hsi, add_eq, Nat.zero_add, hst]
          rfl
        · have hkg : k ≠ g := by
            rintro rfl
            rw [ren_ω hω] at hpk
            have e : p = .rs 0 0 := by rw [← Option.some.inj hpk]; exact if_neg (by simp)
            exact hp 0 0 e
          exact ⟨hoth k hkg, fun _ => rfl, hpk⟩
        · have hkg : k ≠ g := by rintro rfl; have : G.S k j = some c := hc; rw [hS j] at this; cases this
          have := h.imm _ _ _ hc
          simp only [World.cell?, hoth k hkg]
          exact this
        · rw [← hlm]
          refine OwnU.mk (bs := bs ++ bsm) (List.nodup_cons.2 ⟨fun hb => hgn _ hb rfl, hnd⟩) (fun b hb => ?_) hnew ?_ (by omega) hlms hS ?_
          · rcases List.mem_cons.1 hb with rfl | hb
            · rw [ren_ω hω]; exact congrArg some (if_neg (by simp))
            · exact hωf b hb
          · have : olds.length ≤ cs.size := by rw [o5]; omega
            simp only [List.size_toArray, List.length_append, List.length_drop, Array.length_toList]
            omega
          · rw [hfl, hlm]
            show DTs _ _ _ _ _ (List.take _ (olds ++ news ++ _))
            rw [htk]
            exact hall.mono (fun _ _ _ e => e) fun b hb => ⟨hoth b (hgn b hb), fun _ => rfl⟩
        · have hkg : k ≠ g := by rintro rfl; exact hm _ (ren_ω hω) (by rw [show f (.rs 0 0) = .rs 0 0 from if_neg (by simp)]; trivial)
          exact ⟨hoth k hkg, rfl, fun _ => rfl⟩
    · have hcap0 : cap < l.length + m.length := by omega
      have hr := app_grow (P := P) (w := w) (t := t) (tx := tx) (tyy := ty) (A := A) (n := l.length) (cap := cap) (Y := Y) (news := news) (olds := olds) he g1 hzi hx hk hlen (by rw [hsi]; exact hf') (by rw [hsi]; exact o3) (by omega) (by omega) (by rw [← hbe]; exact hb)
      have hge := grownCap_ge w (l.length + m.length) cap e
      have hzc : (Builtin.zeroCells zv.cells (grownCap w (l.length + m.length) cap e - (l.length + m.length))).size = (grownCap w (l.length + m.length) cap e - (l.length + m.length)) * sz := by
        rw [size_zeroCells, ← k2, hzl, hszz]
      have harr : olds.toArray ++ news.toArray ++ Builtin.zeroCells zv.cells (grownCap w (l.length + m.length) cap e - (l.length + m.length)) = (olds ++ news ++ (Builtin.zeroCells zv.cells (grownCap w (l.length + m.length) cap e - (l.length + m.length))).toList).toArray := by
        apply Array.ext'
        simp
      rw [harr] at hr
      have hltb : ∀ b ∈ bs ++ bsm, b < w.heap.size := fun b hb => r1.lim _ _ (hωf b hb)
      obtain ⟨q1, q2, q3, _⟩ := r1.drew.allocRow 0 (olds ++ news ++ (Builtin.zeroCells zv.cells (grownCap w (l.length + m.length) cap e - (l.length + m.length))).toList).toArray e (.rs 0 0)
      refine ⟨_, _, _, hr, q1, ?_, r2.trans q3.drew⟩
      rw [← hlm]
      have hne : ∀ b ∈ bs ++ bsm, b ≠ w.drew.heap.size := fun b hb => Nat.ne_of_lt (hltb b hb)
      refine OwnU.mk (bs := bs ++ bsm) (List.nodup_cons.2 ⟨fun hb => hne _ hb rfl, hnd⟩) (fun b hb => ?_) (heap_alloc_new _ _) ?_ (by rw [hlm]; exact hge) hlms (fun j => ?_) ?_
      · rcases List.mem_cons.1 hb with rfl | hb
        · show (if w.drew.heap.size = w.drew.heap.size then _ else _) = _
          rw [if_pos rfl]
        · show (if b = w.drew.heap.size then _ else _) = _
          rw [if_neg (hne b hb)]
          exact hωf b hb
      · have hz2 : (Builtin.zeroCells zv.cells (grownCap w (l.length + m.length) cap e - (l.length + m.length))).toList.length = (grownCap w (l.length + m.length) cap e - (l.length + m.length)) * sz := by rw [Array.length_toList]; exact hzc
        rw [List.size_toArray, List.length_append, List.length_append, hlm, hz2, o5, hn, ← Nat.add_mul, ← Nat.add_mul]
        congr 1
        omega
      · show (if w.drew.heap.size = w.drew.heap.size then (if j < 0 then _ else _) else _) = _
        rw [if_pos rfl, if_neg (by omega)]
      · rw [hfl, hlm]
        show DTs _ _ _ _ _ (List.take _ (olds ++ news ++ _))
        rw [htk]
        refine hall.mono (fun v x _ e => e.mono q2.S q2.β) fun b hb => ?_
        have hb' := hltb b hb
        refine ⟨?_, fun j => ?_⟩
        · exact alloc_old _ _ hb'
        · show (if b = w.drew.heap.size then _ else _) = _
          rw [if_neg (hne b hb)]
          rfl
theorem appendV_slc {t t' : TypeId} {sz : Nat} {l : List V} {y r : V} (h : appendV P t t' (.slc true sz l) y = some r) : growB P t = true ∧ sz = elemSz P t ∧ ∃ m, r = .slc true sz (l ++ m) ∧ (l.length + m.length) * P.bytesOf (elemOf P t) ≤ 140737488355328 ∧
    ((∃ own, y = .slc own sz m ∧ isSl P t' = true) ∨ ∃ b, y = .str b ∧ isStr P t' = true ∧ sz = 1 ∧ m = bytesV b) := by
  unfold appendV at h
  dsimp only at h
  split at h
  · rename_i hgr
    refine ⟨hgr.1, hgr.2, ?_⟩
    split at h
    · split at h
      · rename_i hc
        split at h
        · rename_i hb
          obtain ⟨h1, rfl⟩ := hc
          exact ⟨_, (Option.some.inj h).symm, hb, .inl ⟨_, rfl, h1⟩⟩
        · cases h
      · cases h
    · split at h
      · rename_i hc
        split at h
        · rename_i hb
          obtain ⟨h1, rfl⟩ := hc
          exact ⟨_, (Option.some.inj h).symm, by simpa [bytesV] using hb, .inr ⟨_, rfl, h1, rfl, rfl⟩⟩
        · cases h
      · cases h
    · cases h
  · cases h
theorem op_appendU {x y : Operand} {t t' : TypeId} {u : Bool} {v : V} (h : Rel G s a w) (hv : appendU P t t' u (s.all P t x) (s.see P t' y) = some v) :
    OpOk P ⟨d, .call { callee := .builtin .append, args := #[x, y], argTypes := #[t, t'] }, ty, pos, af, gd⟩ G s a w v (s.drop x) := by
  obtain ⟨G1, h1, h2, h3, _, h5, h6⟩ := h.all P t x
  have hy := h.see P t' y
  have h0 : ∀ own sz l, s.see P t' y = .slc own sz l → own = false := fun own sz l e => see_slc e
  have hlv : (s.drop x).lv = s.lv := by cases x <;> rfl
  have core : ∀ {sz l}, OwnU G1 w (.rs 0 0) sz l (a.eval x) → ((appendV P t t' (.slc true sz l) (s.see P t' y)).bind fun r => match r with
    | .slc true sz l => some (V.uq sz l)
    | _ => none) = some v → OpOk P ⟨d, .call { callee := .builtin .append, args := #[x, y], argTypes := #[t, t'] }, ty, pos, af, gd⟩ G s a w v (s.drop x) := by
    intro sz l hX hb
    obtain ⟨r, hr, hrv⟩ := Option.bind_eq_some_iff.1 hb
    obtain ⟨hgr, hse, m, rfl, hbd, hyy⟩ := appendV_slc hr
    obtain rfl := Option.some.inj hrv
    obtain ⟨e, he, hel⟩ := isSl_spec (by simp only [growB, Bool.and_eq_true] at hgr; exact hgr.1.1.1)
    rw [hel] at hbd
    rw [← h5, ← h6] at hy
    have fin : ∀ {x' : Value} {w' : World} {G' : Gh}, (Builtin.append_ #[t, t'] ty #[a.eval x, a.eval y]).run P w = .ok x' w' → Rel G' (s.drop x) a w' → OwnU G' w' (.rs 0 0) sz (l ++ m) x' → Fr (s.drop x).lv G1 w G' w' → OpOk P ⟨d, .call { callee := .builtin .append, args := #[x, y], argTypes := #[t, t'] }, ty, pos, af, gd⟩ G s a w (.uq sz (l ++ m)) (s.drop x) := by
      intro x' w' G' e1 e2 e3 e4
      refine ⟨x', w', G', run_builtin ?_, e2, e3, h3.trans (by rw [hlv] at e4; exact e4)⟩
      simp only [builtin, List.map_toArray, List.map_cons, List.map_nil, Sem.run_bind, e1, Result.andThen_ok, Sem.run_pure]
    rcases hyy with ⟨own, hyv, hsl⟩ | ⟨b, hyv, hst, rfl, rfl⟩
    · obtain rfl := h0 _ _ _ hyv
      rw [hyv] at hy
      obtain ⟨e', he', _⟩ := isSl_spec hsl
      have hpos : 0 < sz := by
        simp only [growB, Bool.and_eq_true, bne_iff_ne] at hgr
        have := hgr.1.1.2
        omega
      obtain ⟨cs, c1, c2, c3, c4, c5, c6⟩ := src_slc (P := P) h1 hpos hy
      obtain ⟨x', w', G', e1, e2, e3, e4⟩ := growU_core (ty := ty) (q := .rs 1 0) h1 hgr hse he he' (fun k e => by cases e) hX c1 c2 c3 (c4.dts c5) (fun x hx => (c4.2.1 x hx).1) List.nodup_nil (fun b hb => by cases hb) ⟨0, 0, rfl⟩ c5 c6 hbd
      exact fin e1 e2 e3 e4
    · rw [hyv] at hy
      have he' := isStr_spec hst
      obtain ⟨cs, c1, c2, c3, c4, c5, c5', c6⟩ := src_str (P := P) (G := G1) (w := w) (sz := 1) b
      rw [hy.str_inv] at fin
      rw [← c5'] at c1 c2 c3
      obtain ⟨x', w', G', e1, e2, e3, e4⟩ := growU_core (ty := ty) (q := .rs 1 0) h1 hgr hse he he' (fun k e => by cases e) hX c1 c2 c3 (c4.dts c5) (fun x hx => (c4.2.1 x hx).1) List.nodup_nil (fun b hb => by cases hb) ⟨0, 0, rfl⟩ c5 c6 hbd
      exact fin e1 e2 e3 e4
  unfold appendU at hv
  split at hv
  · rename_i sz l hx
    rw [hx] at h2
    exact core h2 hv
  · split at hv
    · split at hv
      · rename_i sz hx
        rw [hx] at h2
        exact core (OwnU.of_nil h2) hv
      · cases hv
    · exact op_append h hv
end Go.Ev
