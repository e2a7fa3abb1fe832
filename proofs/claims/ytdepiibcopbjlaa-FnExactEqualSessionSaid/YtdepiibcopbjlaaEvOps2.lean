/- The operations that only compute, further: comparisons, lengths, parts, places. -/
import Derived.Test.YtdepiibcopbjlaaEvOps1
import Derived.Laws.StructEq
namespace Go.Ev
open Go
set_option linter.unusedVariables false
set_option linter.unusedSimpArgs false
variable {P : Program} {G : Gh} {s : St} {a : Act} {w : World} {o : Oper}
variable {d : Option Nat} {ty : TypeId} {pos : String} {af : Array Edge} {gd : Option (Nat × Bool)}

theorem unV_run {op : UnOp} {v u : V} {x : Value} (hv : Tr G.S G.β v x) (h : unV op v = some u) (w : World) : ∃ y, (Op.unary op x).run P w = .ok y w ∧ Tr G.S G.β u y ∧ u.view = u ∧ ∀ l, u ≠ .tup l := by
  unfold unV at h
  split at h
  · rw [hv.bool_inv]; obtain rfl := Option.some.inj h; exact ⟨_, rfl, Tr.bool _, rfl, fun l e => by cases e⟩
  · rw [hv.int_inv]; obtain rfl := Option.some.inj h; exact ⟨_, rfl, Tr.int _ _, rfl, fun l e => by cases e⟩
  · cases h
theorem op_un {op : UnOp} {t : TypeId} {x : Operand} {v : V} (h : Rel G s a w) (hv : unV op (s.see P t x) = some v) : OpOk P ⟨d, .unOp op t x, ty, pos, af, gd⟩ G s a w v s := by
  obtain ⟨y, h1, h2, h3, h4⟩ := unV_run (P := P) (h.see P t x) hv w
  exact OpOk.pure h (run_val h1) h2 h3 h4

theorem sameT_run {td : TypeDesc} {x y : V} {r : Bool} {b c : Value} (h : sameT td x y = some r) (hx : Tr G.S G.β x b) (hy : Tr G.S G.β y c) {t : TypeId} (ht : P.underlying t = some td) (w : World) (n : Nat) : (Op.equalIn (n + 1) t b c).run P w = .ok r w := by
  unfold sameT at h
  split at h
  · split at h
    · rename_i hk; subst hk
      obtain rfl := Option.some.inj h
      rw [hx.int_inv, hy.int_inv]
      exact run_equalIn_int w n t _ _ _ _ ht
    · cases h
  · obtain rfl := Option.some.inj h
    rw [hx.bool_inv, hy.bool_inv]
    exact run_equalIn_bool' w n t _ _ ht
  · obtain rfl := Option.some.inj h
    rw [hx.str_inv, hy.str_inv]
    exact run_equalIn_string w n t _ _ ht
  · cases h
theorem sameT_scalar {td : TypeDesc} {x y : V} {r : Bool} (h : sameT td x y = some r) : (∃ k, td = .int k) ∨ td = .bool ∨ td = .string := by
  unfold sameT at h
  split at h
  · exact .inl ⟨_, rfl⟩
  · exact .inr (.inl rfl)
  · exact .inr (.inr rfl)
  · cases h
theorem part_scalar {td : TypeDesc} (hs : (∃ k, td = .int k) ∨ td = .bool ∨ td = .string) {t : TypeId} (ht : P.underlying t = some td) {cs : Array Value} {n : Nat} (hn : n < cs.size) (w : World) : (part t cs n).run P w = .ok (cs.getD n undef) w := by
  unfold part
  have h1 : (Go.isAgg t).run P w = .ok false w := by
    rw [run_isAgg' (by rw [ht]; rfl)]
    unfold Ev.isAgg
    rw [ht]
    rcases hs with ⟨k, rfl⟩ | rfl | rfl <;> rfl
  simp only [Sem.run_bind, h1, Result.andThen_ok, Bool.false_eq_true, if_false]
  rw [Array.getElem?_eq_getElem hn]
  simp [Array.getD, hn]
theorem sameF_run : ∀ (fs : List Field) (n : Nat) (l m : List V) (r : Bool) (xs ys : Array Value), sameF P n fs l m = some r → n + l.length = xs.size → n + m.length = ys.size →
    (∀ i, i < l.length → Tr G.S G.β (l.getD i .undef) (xs.getD (n + i) undef)) → (∀ i, i < m.length → Tr G.S G.β (m.getD i .undef) (ys.getD (n + i) undef)) → ∀ (w : World) (k : Nat), (Op.eqFields (k + 1) xs ys fs).run P w = .ok r w := by
  intro fs
  induction fs with
  | nil =>
    intro n l m r xs ys h _ _ _ _ w k
    cases l <;> cases m <;> simp only [sameF, reduceCtorEq, Option.some.injEq] at h
    subst h
    rfl
  | cons f fs ih =>
    intro n l m r xs ys h hx hy hl hm w k
    cases l with
    | nil => simp [sameF] at h
    | cons b l =>
      cases m with
      | nil => simp [sameF] at h
      | cons c m =>
        simp only [sameF] at h
        split at h
        · rename_i hf
          split at h
          · rename_i td htd
            split at h
            · rename_i p q hp hq
              obtain rfl := Option.some.inj h
              have hb := hl 0 (by simp)
              have hc := hm 0 (by simp)
              simp only [List.getD_cons_zero, Nat.add_zero] at hb hc
              have hx0 : n < xs.size := by simp at hx; omega
              have hy0 : n < ys.size := by simp at hy; omega
              have e1 := part_scalar (P := P) (sameT_scalar hp) htd hx0 w
              have e2 := part_scalar (P := P) (sameT_scalar hp) htd hy0 w
              have e3 := sameT_run (P := P) hp hb hc htd w k
              have e4 := ih (n + 1) l m q xs ys hq (by simp at hx; omega) (by simp at hy; omega) (fun i hi => by
                have := hl (i + 1) (by simpa using hi)
                rwa [List.getD_cons_succ, show n + (i + 1) = n + 1 + i by omega] at this) (fun i hi => by
                have := hm (i + 1) (by simpa using hi)
                rwa [List.getD_cons_succ, show n + (i + 1) = n + 1 + i by omega] at this) w k
              have hn : f.name ≠ "_" := by simpa using hf.2
              rw [Op.eqFields]
              simp only [if_pos hn, Sem.run_bind, hf.1, e1, e2, e3, Result.andThen_ok]
              cases p
              · simp
              · simpa using e4
            · cases h
          · cases h
        · cases h
theorem Tr.agg_inv {S β} {l : List V} {x : Value} (h : Tr S β (.agg l) x) : ∃ cs, x = .agg cs ∧ l.length = cs.size ∧ ∀ i, i < l.length → Tr S β (l.getD i .undef) (cs.getD i Go.undef) := by
  cases h with
  | agg _ cs hl hT => exact ⟨cs, rfl, hl, hT⟩
theorem sameA_len {td : TypeDesc} : ∀ (l m : List V) (r : Bool), sameA td l m = some r → l.length = m.length := by
  intro l
  induction l with
  | nil => intro m r h; cases m <;> simp [sameA] at h ⊢
  | cons b l ih =>
    intro m r h
    cases m with
    | nil => simp [sameA] at h
    | cons c m =>
      simp only [sameA] at h
      split at h
      · rename_i p q hp hq
        simp [ih m q hq]
      · cases h
theorem sameA_run {td : TypeDesc} {e : TypeId} (he : P.underlying e = some td) (hs : szOf P e = 1) : ∀ (l m : List V) (r : Bool) (n : Nat) (xs ys : Array Value), sameA td l m = some r → n + l.length = xs.size → n + m.length = ys.size →
    (∀ i, i < l.length → Tr G.S G.β (l.getD i .undef) (xs.getD (n + i) Go.undef)) → (∀ i, i < m.length → Tr G.S G.β (m.getD i .undef) (ys.getD (n + i) Go.undef)) → ∀ (w : World) (k : Nat), (Op.eqItems (k + 1) e (P.cellsOf e) xs ys (List.range' n l.length)).run P w = .ok r w := by
  have hc : P.cellsOf e = 1 := by
    obtain ⟨i, d, h1, h2, h3, h4⟩ := szOf_ne (P := P) (t := e) (by omega)
    omega
  intro l
  induction l with
  | nil =>
    intro m r n xs ys h _ _ _ _ w k
    cases m <;> simp only [sameA, reduceCtorEq, Option.some.injEq] at h
    subst h
    rfl
  | cons b l ih =>
    intro m r n xs ys h hx hy hl hm w k
    cases m with
    | nil => simp [sameA] at h
    | cons c m =>
      simp only [sameA] at h
      split at h
      · rename_i p q hp hq
        obtain rfl := Option.some.inj h
        have hb := hl 0 (by simp)
        have hc' := hm 0 (by simp)
        simp only [List.getD_cons_zero, Nat.add_zero] at hb hc'
        have hx0 : n < xs.size := by simp at hx; omega
        have hy0 : n < ys.size := by simp at hy; omega
        have e1 := part_scalar (P := P) (sameT_scalar hp) he hx0 w
        have e2 := part_scalar (P := P) (sameT_scalar hp) he hy0 w
        have e3 := sameT_run (P := P) hp hb hc' he w k
        have e4 := ih m q (n + 1) xs ys hq (by simp at hx; omega) (by simp at hy; omega) (fun i hi => by
          have := hl (i + 1) (by simpa using hi)
          rwa [List.getD_cons_succ, show n + (i + 1) = n + 1 + i by omega] at this) (fun i hi => by
          have := hm (i + 1) (by simpa using hi)
          rwa [List.getD_cons_succ, show n + (i + 1) = n + 1 + i by omega] at this) w k
        rw [hc] at e4
        simp only [List.length_cons, List.range'_succ, Op.eqItems, hc, Nat.mul_one, Sem.run_bind, e1, e2, e3, Result.andThen_ok]
        cases p
        · simp
        · simpa using e4
      · cases h
theorem eqV_run {t : TypeId} {x y : V} {r : Bool} {b c : Value} (h : eqV P t x y = some r) (hx : Tr G.S G.β x b) (hy : Tr G.S G.β y c) (w : World) : (Op.equal t b c).run P w = .ok r w := by
  unfold eqV at h
  unfold Op.equal
  show (Op.equalIn (9998 + 1 + 1) t b c).run P w = _
  split at h
  · rename_i fs hu
    split at h
    · rename_i hp
      split at h
      · rename_i l m
        obtain ⟨xs, rfl, hl, hxl⟩ := hx.agg_inv
        obtain ⟨ys, rfl, hm, hym⟩ := hy.agg_inv
        have hf : P.fieldsOf t = fs := by simp [Program.fieldsOf, hu]
        rw [run_equalIn_struct (P := P) w _ t xs ys (by rw [hf]; exact hu) hp, hf]
        exact sameF_run fs.toList 0 l m r xs ys h (by omega) (by omega) (fun i hi => by rw [Nat.zero_add]; exact hxl i hi) (fun i hi => by rw [Nat.zero_add]; exact hym i hi) w _
      · cases h
    · cases h
  · rename_i n e hu
    split at h
    · rename_i l m
      split at h
      · rename_i hc
        split at h
        · rename_i td he
          obtain ⟨xs, rfl, hl, hxl⟩ := hx.agg_inv
          obtain ⟨ys, rfl, hm, hym⟩ := hy.agg_inv
          obtain ⟨i, d, h1, h2, h3, h4⟩ := szOf_ne (P := P) (t := e) (by omega)
          rw [run_equalIn_array w _ xs ys hu h1, List.range_eq_range', ← hc.1]
          exact sameA_run he hc.2 l m r 0 xs ys h (by omega) (by omega) (fun i hi => by rw [Nat.zero_add]; exact hxl i hi) (fun i hi => by rw [Nat.zero_add]; exact hym i hi) w _
        · cases h
      · cases h
    · cases h
  · rename_i td _ _ hu
    exact sameT_run h hx hy hu w _
  · cases h
theorem binV_run {op : BinOp} {t : TypeId} {x y v : V} {b c : Value} {p q : Operand} (h : binV P t op x y = some v) (hx : Tr G.S G.β x b) (hy : Tr G.S G.β y c) (w : World) :
    ∃ z, (do eqGuard op t p q b c; binOp op t b c : Sem Value).run P w = .ok z w ∧ Tr G.S G.β v z ∧ v.view = v ∧ ∀ l, v ≠ .tup l := by
  unfold binV at h
  have hq : ∀ k m k' m', (eqGuard op t p q (.int k m) (.int k' m')).run P w = .ok () w := by
    intro k m k' m'
    unfold eqGuard
    by_cases ho : (op matches .eql | .neq) = true <;> simp [ho]
  split at h
  · rename_i k n k' m
    rw [hx.int_inv, hy.int_inv]
    simp only [Sem.run_bind, hq, Result.andThen_ok]
    split at h
    · exact shift_run (.inl rfl) t h w
    · exact shift_run (.inr rfl) t h w
    · rename_i h1 h2
      split at h
      · rename_i hk; subst hk
        exact arith_run ⟨h1, h2⟩ t h w
      · cases h
  · rename_i x y
    rw [hx.str_inv, hy.str_inv]
    have hq : (eqGuard op t p q (.string x) (.string y)).run P w = .ok () w := by
      unfold eqGuard
      by_cases ho : (op matches .eql | .neq) = true <;> simp [ho]
    simp only [Sem.run_bind, hq, Result.andThen_ok]
    exact str_run t h w
  · rename_i x y
    have hx' := hx
    have hy' := hy
    rw [hx.bool_inv] at hx' ⊢
    rw [hy.bool_inv] at hy' ⊢
    have hq : (eqGuard op t p q (.bool x) (.bool y)).run P w = .ok () w := by
      unfold eqGuard
      by_cases ho : (op matches .eql | .neq) = true <;> simp [ho]
    simp only [Sem.run_bind, hq, Result.andThen_ok]
    split at h
    · obtain ⟨r, hr, rfl⟩ := Option.map_eq_some_iff.1 h
      exact ⟨.bool r, by simp only [binOp, Sem.run_bind, eqV_run hr hx' hy' w, Result.andThen_ok, Sem.run_pure], Tr.bool _, rfl, fun l e => by cases e⟩
    · obtain ⟨r, hr, rfl⟩ := Option.map_eq_some_iff.1 h
      exact ⟨.bool (!r), by simp only [binOp, Sem.run_bind, eqV_run hr hx' hy' w, Result.andThen_ok, Sem.run_pure], Tr.bool _, rfl, fun l e => by cases e⟩
    · cases h
  · rename_i l m
    obtain ⟨xs, hb, hl, hxl⟩ := hx.agg_inv
    obtain ⟨ys, hc, hm, hym⟩ := hy.agg_inv
    subst hb; subst hc
    split at h
    · rename_i hg
      have hq : (eqGuard op t p q (.agg xs) (.agg ys)).run P w = .ok () w := by
        unfold eqGuard
        by_cases ho : (op matches .eql | .neq) = true <;> simp [ho, hg]
      simp only [Sem.run_bind, hq, Result.andThen_ok]
      split at h
      · obtain ⟨r, hr, rfl⟩ := Option.map_eq_some_iff.1 h
        exact ⟨.bool r, by simp only [binOp, Sem.run_bind, eqV_run hr hx hy w, Result.andThen_ok, Sem.run_pure], Tr.bool _, rfl, fun l e => by cases e⟩
      · obtain ⟨r, hr, rfl⟩ := Option.map_eq_some_iff.1 h
        exact ⟨.bool (!r), by simp only [binOp, Sem.run_bind, eqV_run hr hx hy w, Result.andThen_ok, Sem.run_pure], Tr.bool _, rfl, fun l e => by cases e⟩
      · cases h
    · cases h
  · cases h
theorem op_bin {op : BinOp} {t u : TypeId} {x y : Operand} {v : V} (h : Rel G s a w) (hv : binV P t op (s.see P t x) (s.see P t y) = some v) : OpOk P ⟨d, .binOp op t x y u, ty, pos, af, gd⟩ G s a w v s := by
  obtain ⟨z, h1, h2, h3, h4⟩ := binV_run (P := P) (p := x) (q := y) hv (h.see P t x) (h.see P t y) w
  exact OpOk.pure h (run_val h1) h2 h3 h4
end Go.Ev
