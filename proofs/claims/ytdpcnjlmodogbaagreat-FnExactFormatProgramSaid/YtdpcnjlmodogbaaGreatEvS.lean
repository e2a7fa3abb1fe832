/- Lines and programs: the reference's, and whole programs. Expressions' texts, both. Programs' texts, both. Sizes. Copies. Comparisons. The law of FormatProgram. -/
import Derived.Test.YtdpcnjlmodogbaaGreatEvR
import Derived.Test.YtdpcnjlmodogbaaGreatEvM
import Derived.Test.YtdpcnjlmodogbaaGreatEvO
import Derived.Test.YtdpcnjlmodogbaaGreatEvJ
import Derived.Test.YtdpcnjlmodogbaaGreatEvK
set_option linter.unusedVariables false
set_option linter.unusedSimpArgs false
namespace Go.Ev
open Go Go.Proofs
set_option maxRecDepth 10000
set_option maxHeartbeats 4000000
set_option linter.unusedVariables false
set_option linter.unusedSimpArgs false

theorem r17 (l : Line) (ht : l.text.size ≤ 1048576) (h1 : l.mor.a.size ≤ 1048576) (h2 : l.mor.b.size ≤ 1048576) (h3 : l.mor.c.size ≤ 1048576) (hr : szT l.regex.enc ≤ 1048576) : run EE 17 [l.enc] [] = some (.bool (lineOk l), []) := by
  have iw := r29 l.text (by omega)
  have im := r31 l.mor h1 h2 h3
  have zr := r30 l.regex
  have cr := r32 l.regex hr
  simp only [Rx.enc_eq] at zr cr
  rw [run_eq EE 17 _ _ Tryz.func17 (by decide +kernel) rfl (show 1 ≤ _ by decide)]
  dsimp only [Tryz.f17]
  have fin : ∀ b, zeroM l.mor = b → (decide (l.mor.a.size = 0) && (decide (l.mor.b.size = 0) && decide (l.mor.c.size = 0))) = b := fun b e => e
  unfold lineOk
  generalize hM : zeroM l.mor = M at fin ⊢
  have fin := fin M rfl
  by_cases k12 : l.kind = 1 ∨ l.kind = 2
  · rw [if_pos k12]
    cases hw : isWord l.text
    · rw [hw] at iw
      rcases k12 with k | k <;> simp only [k, go_sem, toList_nil, fin, iw, Bool.and_false, Bool.false_and]
    · rw [hw] at iw
      by_cases hl : l.text.size ≤ 4
      · have hl' : (l.text.size : Int) ≤ 4 := by omega
        rw [decide_eq_true hl]
        cases M
        · rcases k12 with k | k <;> simp only [k, go_sem, toList_nil, fin, iw, hl', Bool.true_and, Bool.false_and, Bool.and_false]
        · rcases k12 with k | k <;> simp only [k, go_sem, toList_nil, fin, iw, hl', zr, Bool.true_and]
      · have hl' : ¬ (l.text.size : Int) ≤ 4 := by omega
        rcases k12 with k | k <;> simp only [k, go_sem, toList_nil, fin, iw, hl', hl, Bool.true_and, Bool.false_and, decide_false]
  rw [if_neg k12]
  have k1 : (l.kind == 1) = false := by simpa using fun e => k12 (Or.inl e)
  have k2 : (l.kind == 2) = false := by simpa using fun e => k12 (Or.inr e)
  by_cases k3 : l.kind = 3
  · rw [if_pos k3]
    simp only [Mor.enc] at im
    cases ht0 : decide (l.text.size = 0)
    · simp only [k3, go_sem, toList_nil, fin, ht0, Bool.false_and, Bool.and_false]
    · cases hm : isMor l.mor
      · rw [hm] at im
        simp only [k3, go_sem, toList_nil, fin, ht0, im, Bool.true_and, Bool.false_and, Bool.and_false]
      · rw [hm] at im
        simp only [k3, go_sem, toList_nil, fin, ht0, im, zr, Bool.true_and]
  rw [if_neg k3]
  have k3' : (l.kind == 3) = false := by simpa using k3
  by_cases k4 : l.kind = 4
  · rw [if_pos k4]
    change run EE 32 _ [] = some (resO (compV l.regex), []) at cr
    generalize compV l.regex = c at cr ⊢
    cases c with
    | none =>
      simp only [resO] at cr
      cases ht0 : decide (l.text.size = 0)
      · simp only [k4, go_sem, toList_nil, fin, ht0, cr, Option.isSome, Bool.false_and, Bool.and_false]
      · cases M <;> simp only [k4, go_sem, toList_nil, fin, ht0, cr, Option.isSome, Bool.true_and, Bool.false_and, Bool.and_false]
    | some e =>
      simp only [resO, rep_enc] at cr
      cases ht0 : decide (l.text.size = 0)
      · simp only [k4, go_sem, toList_nil, fin, ht0, cr, Option.isSome, Bool.false_and, Bool.and_false]
      · cases M <;> simp only [k4, go_sem, toList_nil, fin, ht0, cr, Option.isSome, Bool.true_and, Bool.false_and, Bool.and_true]
  rw [if_neg k4]
  have k4' : (l.kind == 4) = false := by simpa using k4
  simp only [go_sem, toList_nil, fin, k1, k2, k3', k4']
theorem r10 (ls : List Line) (hl : ls.length ≤ 1048576) (h : ∀ l ∈ ls, lineSz l) : run EE 10 [.agg [.slc false 8 (ls.map Line.enc)]] [] = some (.bool (progOk ls), []) := by
  unfold progOk
  rw [run_eq EE 10 _ _ Tryz.func10 (by decide +kernel) rfl (show 1 ≤ _ by decide)]
  dsimp only [Tryz.f10]
  simp only [go_sem]
  refine iter_inv (fun i : Nat => i ≤ ls.length) (fun i => { t := upd (upd e0 3 (.int .i64 i)) 1 (.ptr 0 1 0), b := upd n0 1 (some (Ob.box [.slc false 8 (ls.map Line.enc)])), o := [], r := #[ResultVar.tmp 2], f := 10, n := 22 }) (fun i => some (.bool (decide (ls.length ≤ 8) && (ls.drop i).all lineOk), [])) (fun i => ls.length - i) ?_ 0 (Nat.zero_le _)
  intro i hi ih
  by_cases hh : i < ls.length
  rotate_left
  · have k1 : ¬ (i : Int) < ls.length := by omega
    rw [List.drop_eq_nil_of_le (by omega), List.all_nil, Bool.and_true]
    by_cases k : ls.length ≤ 8
    · have k' : (ls.length : Int) ≤ 8 := by omega
      simp only [go_sem, k1, k, k', decide_true]
    · have k' : ¬ (ls.length : Int) ≤ 8 := by omega
      simp only [go_sem, k1, k, k', decide_false]
  have k1 : (i : Int) < ls.length := by omega
  have wi := wrap_nat (n := i) (by omega)
  have ihn := ih (i + 1) (by omega) (by omega)
  have hx := h _ (List.getElem_mem hh)
  have gd := r17 ls[i] hx.1 hx.2.1 hx.2.2.1 hx.2.2.2.1 hx.2.2.2.2
  have gl : ∀ v : V, (ls.map Line.enc).getD i v = ls[i].enc := fun v => getD_map hh v
  rw [List.drop_eq_getElem_cons hh, List.all_cons]
  generalize lineOk ls[i] = A at gd ⊢
  generalize ls[i] = l at gd gl
  simp only [Line.enc] at gd gl
  cases A
  · simp only [go_sem, k1, gl, gd, Bool.not_false, Bool.false_and, Bool.and_false]
  · rw [Bool.true_and]
    simp only [go_sem, k1, gl, gd, wi, Bool.not_true]
    exact ihn
end Go.Ev
namespace Go.Ev
open Go Go.Proofs
set_option maxRecDepth 10000
set_option maxHeartbeats 4000000
set_option linter.unusedVariables false
set_option linter.unusedSimpArgs false

theorem r24 (s : ByteArray) : run EE 24 [.str s] [] = some (.str (dash s), []) := by
  unfold dash
  rw [run_eq EE 24 _ _ Tryz.func24 (by decide +kernel) rfl (show 1 ≤ _ by decide)]
  dsimp only [Tryz.f24]
  by_cases h : s.size = 0
  · simp only [go_sem, toList_nil, h, decide_true, if_true]
  · simp only [go_sem, toList_nil, h, decide_false, if_false]
theorem r18 (s : ByteArray) : run EE 18 [.str s] [] = some (.str (dash s), []) := by
  unfold dash
  rw [run_eq EE 18 _ _ Tryz.func18 (by decide +kernel) rfl (show 1 ≤ _ by decide)]
  dsimp only [Tryz.f18]
  by_cases h : s.size = 0
  · simp only [go_sem, toList_nil, h, decide_true, if_true]
  · simp only [go_sem, toList_nil, h, decide_false, if_false]
theorem nodes_arg {r x : Rx} (h : x ∈ r.args) : x.nodes ≤ r.nodes := by
  rw [Rx.nodes_eq r]
  have : ∀ l : List Rx, x ∈ l → x.nodes ≤ (l.map Rx.nodes).sum := by
    intro l
    induction l with
    | nil => intro h; cases h
    | cons a l ih =>
      intro h
      rw [List.map_cons, List.sum_cons]
      rcases List.mem_cons.1 h with rfl | h
      · omega
      · have := ih h; omega
  have := this _ h
  omega
theorem r43 (r : Rx) (hg : r.good = true) (hn : r.nodes ≤ 1000) : run EE 43 [r.enc] [] = some (.str (textR r), []) := by
  obtain ⟨hga, ht⟩ := good_args hg
  have hle := fun (x : Rx) (hx : x ∈ r.args) => textR_le x (hga x hx)
  have hna := fun (x : Rx) (hx : x ∈ r.args) => nodes_arg hx
  have ih : ∀ x ∈ r.args, run EE 43 [x.enc] [] = some (.str (textR x), []) := fun x hx => r43 x (hga x hx) (Nat.le_trans (nodes_arg hx) hn)
  rw [textR_eq]
  rw [run_eq EE 43 _ _ Tryz.func43 (by decide +kernel) rfl (show 1 ≤ _ by decide)]
  dsimp only [Tryz.f43]
  rcases good_cases hg with ⟨k, ha⟩ | ⟨k, x, ha⟩ | ⟨k, x, y, ha⟩
  · rw [ha, List.map_nil]
    rcases k with k | k | k | k <;> simp only [go_sem, k, ha, opT, List.map_nil, if_true, if_false, Int.reduceEq, Int.reduceBEq]
  · have hx : x ∈ r.args := by rw [ha]; exact List.mem_cons_self ..
    have ix := ih x hx
    have lx := hle x hx
    have nx := hna x hx
    simp only [Rx.enc_eq] at ix
    rw [ha, List.map_cons, List.map_nil]
    generalize textR x = X at ix lx ⊢
    have a1 : ¬ ((1 + X.size : Nat) : Int) > 9223372036854775807 := by omega
    have e1 : (⟨#[42]⟩ : ByteArray).size = 1 := rfl
    have e2 : (⟨#[33]⟩ : ByteArray).size = 1 := rfl
    rcases k with k | k <;> simp only [go_sem, k, ha, ix, e1, e2, a1, opT, List.map_cons, List.map_nil, if_true, if_false, Int.reduceEq, Int.reduceBEq]
  · have hx : x ∈ r.args := by rw [ha]; exact List.mem_cons_self ..
    have hy : y ∈ r.args := by rw [ha]; exact List.mem_cons_of_mem _ (List.mem_cons_self ..)
    have ix := ih x hx
    have lx := hle x hx
    have nx := hna x hx
    have iy := ih y hy
    have ly := hle y hy
    have ny := hna y hy
    simp only [Rx.enc_eq] at ix iy
    rw [ha, List.map_cons, List.map_cons, List.map_nil]
    generalize textR x = X at ix lx ⊢
    generalize textR y = Y at iy ly ⊢
    have e1 : (⟨#[40]⟩ : ByteArray).size = 1 := rfl
    have e2 : (⟨#[41]⟩ : ByteArray).size = 1 := rfl
    have e3 : (⟨#[124]⟩ : ByteArray).size = 1 := rfl
    have e4 : (⟨#[38]⟩ : ByteArray).size = 1 := rfl
    have e5 : (⟨#[]⟩ : ByteArray).size = 0 := rfl
    have fin : ∀ S : ByteArray, S.size ≤ 1 → ¬ ((1 + X.size : Nat) : Int) > 9223372036854775807 ∧ ¬ (((⟨#[40]⟩ ++ X).size + S.size : Nat) : Int) > 9223372036854775807 ∧ ¬ (((⟨#[40]⟩ ++ X ++ S).size + Y.size : Nat) : Int) > 9223372036854775807 ∧ ¬ (((⟨#[40]⟩ ++ X ++ S ++ Y).size + 1 : Nat) : Int) > 9223372036854775807 := by
      intro S hS
      simp only [ByteArray.size_append, e1]
      omega
    rcases k with k | k | k
    · have f := fin ⟨#[]⟩ (by decide)
      simp only [e5] at f
      simp only [go_sem, k, ha, opT, List.map_cons, List.map_nil, if_true, if_false, Int.reduceEq, Int.reduceBEq]
      rw [q_drawn]
      rotate_left
      · kernel_rfl
      simp only [go_sem, k, ha, ix, iy, e1, e2, e5, f.1, f.2.1, f.2.2.1, f.2.2.2]
    · have f := fin ⟨#[124]⟩ (by decide)
      simp only [e3] at f
      simp only [go_sem, k, ha, opT, List.map_cons, List.map_nil, if_true, if_false, Int.reduceEq, Int.reduceBEq]
      rw [q_drawn]
      rotate_left
      · kernel_rfl
      simp only [go_sem, k, ha, ix, iy, e1, e2, e3, f.1, f.2.1, f.2.2.1, f.2.2.2]
    · have f := fin ⟨#[38]⟩ (by decide)
      simp only [e4] at f
      simp only [go_sem, k, ha, opT, List.map_cons, List.map_nil, if_true, if_false, Int.reduceEq, Int.reduceBEq]
      rw [q_drawn]
      rotate_left
      · kernel_rfl
      simp only [go_sem, k, ha, ix, iy, e1, e2, e4, f.1, f.2.1, f.2.2.1, f.2.2.2]
  termination_by SizeOf.sizeOf r
  decreasing_by exact Rx.lt _ hx
theorem r34 (r : Rx) (hg : r.good = true) (hn : r.nodes ≤ 1000) : run EE 34 [r.enc] [] = some (.str (textR r), []) := by
  obtain ⟨hga, ht⟩ := good_args hg
  have hle := fun (x : Rx) (hx : x ∈ r.args) => textR_le x (hga x hx)
  have hna := fun (x : Rx) (hx : x ∈ r.args) => nodes_arg hx
  have ih : ∀ x ∈ r.args, run EE 34 [x.enc] [] = some (.str (textR x), []) := fun x hx => r34 x (hga x hx) (Nat.le_trans (nodes_arg hx) hn)
  rw [textR_eq]
  rw [run_eq EE 34 _ _ Tryz.func34 (by decide +kernel) rfl (show 1 ≤ _ by decide)]
  dsimp only [Tryz.f34]
  rcases good_cases hg with ⟨k, ha⟩ | ⟨k, x, ha⟩ | ⟨k, x, y, ha⟩
  · rw [ha, List.map_nil]
    rcases k with k | k | k | k <;> simp only [go_sem, k, ha, opT, List.map_nil, if_true, if_false, Int.reduceEq, Int.reduceBEq]
  · have hx : x ∈ r.args := by rw [ha]; exact List.mem_cons_self ..
    have ix := ih x hx
    have lx := hle x hx
    have nx := hna x hx
    simp only [Rx.enc_eq] at ix
    rw [ha, List.map_cons, List.map_nil]
    generalize textR x = X at ix lx ⊢
    have a1 : ¬ ((1 + X.size : Nat) : Int) > 9223372036854775807 := by omega
    have e1 : (⟨#[42]⟩ : ByteArray).size = 1 := rfl
    have e2 : (⟨#[33]⟩ : ByteArray).size = 1 := rfl
    rcases k with k | k <;> simp only [go_sem, k, ha, ix, e1, e2, a1, opT, List.map_cons, List.map_nil, if_true, if_false, Int.reduceEq, Int.reduceBEq]
  · have hx : x ∈ r.args := by rw [ha]; exact List.mem_cons_self ..
    have hy : y ∈ r.args := by rw [ha]; exact List.mem_cons_of_mem _ (List.mem_cons_self ..)
    have ix := ih x hx
    have lx := hle x hx
    have nx := hna x hx
    have iy := ih y hy
    have ly := hle y hy
    have ny := hna y hy
    simp only [Rx.enc_eq] at ix iy
    rw [ha, List.map_cons, List.map_cons, List.map_nil]
    generalize textR x = X at ix lx ⊢
    generalize textR y = Y at iy ly ⊢
    have e1 : (⟨#[40]⟩ : ByteArray).size = 1 := rfl
    have e2 : (⟨#[41]⟩ : ByteArray).size = 1 := rfl
    have e3 : (⟨#[124]⟩ : ByteArray).size = 1 := rfl
    have e4 : (⟨#[38]⟩ : ByteArray).size = 1 := rfl
    have e5 : (⟨#[]⟩ : ByteArray).size = 0 := rfl
    have fin : ∀ S : ByteArray, S.size ≤ 1 → ¬ ((1 + X.size : Nat) : Int) > 9223372036854775807 ∧ ¬ (((⟨#[40]⟩ ++ X).size + S.size : Nat) : Int) > 9223372036854775807 ∧ ¬ (((⟨#[40]⟩ ++ X ++ S).size + Y.size : Nat) : Int) > 9223372036854775807 ∧ ¬ (((⟨#[40]⟩ ++ X ++ S ++ Y).size + 1 : Nat) : Int) > 9223372036854775807 := by
      intro S hS
      simp only [ByteArray.size_append, e1]
      omega
    have w0 : IntKind.i64.wrap ((5 : Int) - 5) = 0 := by decide
    have w1 : IntKind.i64.wrap ((6 : Int) - 5) = 1 := by decide
    have w2 : IntKind.i64.wrap ((7 : Int) - 5) = 2 := by decide
    rcases k with k | k | k
    · have f := fin ⟨#[]⟩ (by decide)
      simp only [e5] at f
      simp only [go_sem, k, ha, w0, opT, List.map_cons, List.map_nil, if_true, if_false, Int.reduceEq, Int.reduceBEq]
      rw [q_drawn]
      rotate_left
      · kernel_rfl
      simp only [go_sem, k, ha, ix, iy, e1, e2, e5, f.1, f.2.1, f.2.2.1, f.2.2.2]
    · have f := fin ⟨#[124]⟩ (by decide)
      simp only [e3] at f
      simp only [go_sem, k, ha, w1, opT, List.map_cons, List.map_nil, if_true, if_false, Int.reduceEq, Int.reduceBEq]
      rw [q_drawn]
      rotate_left
      · kernel_rfl
      simp only [go_sem, k, ha, ix, iy, e1, e2, e3, f.1, f.2.1, f.2.2.1, f.2.2.2]
    · have f := fin ⟨#[38]⟩ (by decide)
      simp only [e4] at f
      simp only [go_sem, k, ha, w2, opT, List.map_cons, List.map_nil, if_true, if_false, Int.reduceEq, Int.reduceBEq]
      rw [q_drawn]
      rotate_left
      · kernel_rfl
      simp only [go_sem, k, ha, ix, iy, e1, e2, e4, f.1, f.2.1, f.2.2.1, f.2.2.2]
  termination_by SizeOf.sizeOf r
  decreasing_by exact Rx.lt _ hx
theorem valid_parts {r : Rx} (h : validR r = true) : r.good = true ∧ r.nodes ≤ 1000 := by
  unfold validR at h
  rw [Bool.and_eq_true, Bool.and_eq_true] at h
  have := of_decide_eq_true h.1
  exact ⟨h.2.2, by omega⟩
theorem r25 (r : Rx) (hs : szT r.enc ≤ 1048576) : run EE 25 [r.enc] [] = some (.str (fmtR r), []) := by
  have iv := r42 r hs
  have tx := fun h => r43 r (valid_parts h).1 (valid_parts h).2
  simp only [Rx.enc_eq] at iv tx
  unfold fmtR
  rw [run_eq EE 25 _ _ Tryz.func25 (by decide +kernel) rfl (show 1 ≤ _ by decide)]
  dsimp only [Tryz.f25]
  by_cases h : validR r = true
  · rw [if_pos h]
    have tx := tx h
    rw [h] at iv
    simp only [go_sem, iv, tx, Bool.not_true]
  · rw [if_neg h]
    have h' : validR r = false := by simpa using h
    rw [h'] at iv
    simp only [go_sem, iv, Bool.not_false]
theorem r19 (r : Rx) (hs : szT r.enc ≤ 1048576) : run EE 19 [r.enc] [] = some (.str (fmtR r), []) := by
  have iv := r33 r hs
  have tx := fun h => r34 r (valid_parts h).1 (valid_parts h).2
  simp only [Rx.enc_eq] at iv tx
  unfold fmtR
  rw [run_eq EE 19 _ _ Tryz.func19 (by decide +kernel) rfl (show 1 ≤ _ by decide)]
  dsimp only [Tryz.f19]
  by_cases h : validR r = true
  · rw [if_pos h]
    have tx := tx h
    rw [h] at iv
    simp only [go_sem, iv, tx, Bool.not_true]
  · rw [if_neg h]
    have h' : validR r = false := by simpa using h
    rw [h'] at iv
    simp only [go_sem, iv, Bool.not_false]
end Go.Ev
namespace Go.Ev
open Go Go.Proofs
set_option maxRecDepth 10000
set_option maxHeartbeats 4000000
set_option linter.unusedVariables false
set_option linter.unusedSimpArgs false

def lineT (l : Line) : ByteArray :=
  if l.kind = 1 then ⟨#[112, 114, 101, 112, 101, 110, 100, 32]⟩ ++ dash l.text
  else if l.kind = 2 then ⟨#[97, 112, 112, 101, 110, 100, 32]⟩ ++ dash l.text
  else if l.kind = 3 then ⟨#[109, 97, 112, 32]⟩ ++ dash l.mor.a ++ ⟨#[32]⟩ ++ dash l.mor.b ++ ⟨#[32]⟩ ++ dash l.mor.c
  else ⟨#[99, 104, 101, 99, 107, 32]⟩ ++ fmtR l.regex
theorem lineT_le (l : Line) (h : lineSz l) : (lineT l).size ≤ 4194304 := by
  have d0 := dash_le l.text
  have d1 := dash_le l.mor.a
  have d2 := dash_le l.mor.b
  have d3 := dash_le l.mor.c
  have d4 := fmtR_le l.regex
  obtain ⟨h0, h1, h2, h3, _⟩ := h
  have e1 : (⟨#[112, 114, 101, 112, 101, 110, 100, 32]⟩ : ByteArray).size = 8 := rfl
  have e2 : (⟨#[97, 112, 112, 101, 110, 100, 32]⟩ : ByteArray).size = 7 := rfl
  have e3 : (⟨#[109, 97, 112, 32]⟩ : ByteArray).size = 4 := rfl
  have e4 : (⟨#[99, 104, 101, 99, 107, 32]⟩ : ByteArray).size = 6 := rfl
  have e5 : (⟨#[32]⟩ : ByteArray).size = 1 := rfl
  unfold lineT
  split
  · rw [ByteArray.size_append]; omega
  split
  · rw [ByteArray.size_append]; omega
  split
  · simp only [ByteArray.size_append]; omega
  · rw [ByteArray.size_append]; omega
theorem r14 (l : Line) (h : lineSz l) : run EE 14 [l.enc] [] = some (.str (lineT l), []) := by
  have d0 := dash_le l.text
  have d1 := dash_le l.mor.a
  have d2 := dash_le l.mor.b
  have d3 := dash_le l.mor.c
  have d4 := fmtR_le l.regex
  have f0 := r24 l.text
  have f1 := r24 l.mor.a
  have f2 := r24 l.mor.b
  have f3 := r24 l.mor.c
  have f4 := r25 l.regex h.2.2.2.2
  obtain ⟨h0, h1, h2, h3, _⟩ := h
  simp only [Rx.enc_eq] at f4
  unfold lineT
  rw [run_eq EE 14 _ _ Tryz.func14 (by decide +kernel) rfl (show 1 ≤ _ by decide)]
  dsimp only [Tryz.f14]
  generalize dash l.text = T at d0 f0 ⊢
  generalize dash l.mor.a = A at d1 f1 ⊢
  generalize dash l.mor.b = C at d2 f2 ⊢
  generalize dash l.mor.c = D at d3 f3 ⊢
  generalize fmtR l.regex = R at d4 f4 ⊢
  have e1 : (⟨#[112, 114, 101, 112, 101, 110, 100, 32]⟩ : ByteArray).size = 8 := rfl
  have e2 : (⟨#[97, 112, 112, 101, 110, 100, 32]⟩ : ByteArray).size = 7 := rfl
  have e3 : (⟨#[109, 97, 112, 32]⟩ : ByteArray).size = 4 := rfl
  have e4 : (⟨#[99, 104, 101, 99, 107, 32]⟩ : ByteArray).size = 6 := rfl
  have e5 : (⟨#[32]⟩ : ByteArray).size = 1 := rfl
  by_cases k1 : l.kind = 1
  · have a1 : ¬ ((8 + T.size : Nat) : Int) > 9223372036854775807 := by omega
    simp only [go_sem, k1, f0, e1, a1, if_true]
  have k1' : (l.kind == 1) = false := by simpa using k1
  by_cases k2 : l.kind = 2
  · have a1 : ¬ ((7 + T.size : Nat) : Int) > 9223372036854775807 := by omega
    simp only [go_sem, k2, f0, e2, a1, if_true, if_false, Int.reduceEq, Int.reduceBEq]
  have k2' : (l.kind == 2) = false := by simpa using k2
  by_cases k3 : l.kind = 3
  · have a1 : ¬ ((4 + A.size : Nat) : Int) > 9223372036854775807 := by omega
    have a2 : ¬ (((⟨#[109, 97, 112, 32]⟩ ++ A).size + 1 : Nat) : Int) > 9223372036854775807 := by simp only [ByteArray.size_append, e3]; omega
    have a3 : ¬ (((⟨#[109, 97, 112, 32]⟩ ++ A ++ ⟨#[32]⟩).size + C.size : Nat) : Int) > 9223372036854775807 := by simp only [ByteArray.size_append, e3, e5]; omega
    have a4 : ¬ (((⟨#[109, 97, 112, 32]⟩ ++ A ++ ⟨#[32]⟩ ++ C).size + 1 : Nat) : Int) > 9223372036854775807 := by simp only [ByteArray.size_append, e3, e5]; omega
    have a5 : ¬ (((⟨#[109, 97, 112, 32]⟩ ++ A ++ ⟨#[32]⟩ ++ C ++ ⟨#[32]⟩).size + D.size : Nat) : Int) > 9223372036854775807 := by simp only [ByteArray.size_append, e3, e5]; omega
    simp only [go_sem, k3, if_true, if_false, Int.reduceEq, Int.reduceBEq]
    rw [q_drawn]
    rotate_left
    · kernel_rfl
    simp only [go_sem, k3, f1, f2, f3, e3, e5, a1, a2, a3, a4, a5]
  have k3' : (l.kind == 3) = false := by simpa using k3
  have a1 : ¬ ((6 + R.size : Nat) : Int) > 9223372036854775807 := by omega
  simp only [go_sem, k1, k2, k3, k1', k2', k3', f4, e4, a1, if_false]
theorem r11 (l : Line) (h : lineSz l) : run EE 11 [l.enc] [] = some (.str (lineT l), []) := by
  have d0 := dash_le l.text
  have d1 := dash_le l.mor.a
  have d2 := dash_le l.mor.b
  have d3 := dash_le l.mor.c
  have d4 := fmtR_le l.regex
  have f0 := r18 l.text
  have f1 := r18 l.mor.a
  have f2 := r18 l.mor.b
  have f3 := r18 l.mor.c
  have f4 := r19 l.regex h.2.2.2.2
  obtain ⟨h0, h1, h2, h3, _⟩ := h
  simp only [Rx.enc_eq] at f4
  unfold lineT
  rw [run_eq EE 11 _ _ Tryz.func11 (by decide +kernel) rfl (show 1 ≤ _ by decide)]
  dsimp only [Tryz.f11]
  generalize dash l.text = T at d0 f0 ⊢
  generalize dash l.mor.a = A at d1 f1 ⊢
  generalize dash l.mor.b = C at d2 f2 ⊢
  generalize dash l.mor.c = D at d3 f3 ⊢
  generalize fmtR l.regex = R at d4 f4 ⊢
  have e1 : (⟨#[112, 114, 101, 112, 101, 110, 100, 32]⟩ : ByteArray).size = 8 := rfl
  have e2 : (⟨#[97, 112, 112, 101, 110, 100, 32]⟩ : ByteArray).size = 7 := rfl
  have e3 : (⟨#[109, 97, 112, 32]⟩ : ByteArray).size = 4 := rfl
  have e4 : (⟨#[99, 104, 101, 99, 107, 32]⟩ : ByteArray).size = 6 := rfl
  have e5 : (⟨#[32]⟩ : ByteArray).size = 1 := rfl
  by_cases k1 : l.kind = 1
  · have a1 : ¬ ((8 + T.size : Nat) : Int) > 9223372036854775807 := by omega
    simp only [go_sem, k1, f0, e1, a1, if_true]
  have k1' : (l.kind == 1) = false := by simpa using k1
  by_cases k2 : l.kind = 2
  · have a1 : ¬ ((7 + T.size : Nat) : Int) > 9223372036854775807 := by omega
    simp only [go_sem, k2, f0, e2, a1, if_true, if_false, Int.reduceEq, Int.reduceBEq]
  have k2' : (l.kind == 2) = false := by simpa using k2
  by_cases k3 : l.kind = 3
  · have a1 : ¬ ((4 + A.size : Nat) : Int) > 9223372036854775807 := by omega
    have a2 : ¬ (((⟨#[109, 97, 112, 32]⟩ ++ A).size + 1 : Nat) : Int) > 9223372036854775807 := by simp only [ByteArray.size_append, e3]; omega
    have a3 : ¬ (((⟨#[109, 97, 112, 32]⟩ ++ A ++ ⟨#[32]⟩).size + C.size : Nat) : Int) > 9223372036854775807 := by simp only [ByteArray.size_append, e3, e5]; omega
    have a4 : ¬ (((⟨#[109, 97, 112, 32]⟩ ++ A ++ ⟨#[32]⟩ ++ C).size + 1 : Nat) : Int) > 9223372036854775807 := by simp only [ByteArray.size_append, e3, e5]; omega
    have a5 : ¬ (((⟨#[109, 97, 112, 32]⟩ ++ A ++ ⟨#[32]⟩ ++ C ++ ⟨#[32]⟩).size + D.size : Nat) : Int) > 9223372036854775807 := by simp only [ByteArray.size_append, e3, e5]; omega
    simp only [go_sem, k3, if_true, if_false, Int.reduceEq, Int.reduceBEq]
    rw [q_drawn]
    rotate_left
    · kernel_rfl
    simp only [go_sem, k3, f1, f2, f3, e3, e5, a1, a2, a3, a4, a5]
  have k3' : (l.kind == 3) = false := by simpa using k3
  have a1 : ¬ ((6 + R.size : Nat) : Int) > 9223372036854775807 := by omega
  simp only [go_sem, k1, k2, k3, k1', k2', k3', f4, e4, a1, if_false]
def progT : List Line → ByteArray → ByteArray
  | [], out => out
  | l :: ls, out => progT ls (out ++ (lineT l ++ ⟨#[10]⟩))
def fmtP (ls : List Line) : ByteArray := if progOk ls = true then progT ls ⟨#[]⟩ else ⟨#[]⟩
theorem r7 (ls : List Line) (hl : ls.length ≤ 1048576) (h : ∀ l ∈ ls, lineSz l) : run EE 7 [.agg [.slc false 8 (ls.map Line.enc)]] [] = some (.str (fmtP ls), []) := by
  have iv := r13 ls hl h
  have en : (⟨#[10]⟩ : ByteArray).size = 1 := rfl
  unfold fmtP
  rw [run_eq EE 7 _ _ Tryz.func7 (by decide +kernel) rfl (show 1 ≤ _ by decide)]
  dsimp only [Tryz.f7]
  cases hp : progOk ls
  · rw [hp] at iv
    rw [if_neg (by simp)]
    simp only [go_sem, iv, Bool.not_false]
  rw [hp] at iv
  rw [if_pos rfl]
  simp only [go_sem, iv, Bool.not_true]
  refine iter_inv (fun x : Nat × ByteArray => x.1 ≤ ls.length ∧ x.2.size ≤ 4194305 * x.1) (fun x => { t := upd (upd (upd (upd e0 12 (.int .i64 x.1)) 11 (.int .i64 ls.length)) 10 (.slc false 8 (ls.map Line.enc))) 3 (.str x.2), b := upd n0 1 (some (Ob.box [.slc false 8 (ls.map Line.enc)])), o := [], r := #[ResultVar.tmp 2], f := 7, n := 23 }) (fun x => some (.str (progT (ls.drop x.1) x.2), [])) (fun x => ls.length - x.1) ?_ (0, ⟨#[]⟩) ⟨Nat.zero_le _, by decide⟩
  rintro ⟨i, t⟩ ⟨hi, ht⟩ ih
  dsimp only at hi ht ⊢
  by_cases hh : i < ls.length
  rotate_left
  · have k1 : ¬ (i : Int) < ls.length := by omega
    rw [List.drop_eq_nil_of_le (by omega)]
    simp only [go_sem, k1, progT]
  have k1 : (i : Int) < ls.length := by omega
  have wi := wrap_nat (n := i) (by omega)
  have hm := List.getElem_mem hh
  have hx := h _ hm
  have gl : ∀ v : V, (ls.map Line.enc).getD i v = ls[i].enc := fun v => getD_map hh v
  have lt := r14 ls[i] hx
  have ll := lineT_le ls[i] hx
  rw [List.drop_eq_getElem_cons hh]
  have ihn := ih (i + 1, t ++ (lineT ls[i] ++ ⟨#[10]⟩)) ⟨by dsimp only; omega, by dsimp only; simp only [ByteArray.size_append, en]; omega⟩ (by dsimp only; omega)
  dsimp only at ihn
  unfold progT
  generalize lineT ls[i] = T at lt ll ihn ⊢
  generalize ls[i] = l at gl lt
  simp only [Line.enc] at gl lt
  have a1 : ¬ ((T.size + 1 : Nat) : Int) > 9223372036854775807 := by omega
  have a2 : ¬ ((t.size + (T ++ ⟨#[10]⟩).size : Nat) : Int) > 9223372036854775807 := by simp only [ByteArray.size_append, en]; omega
  simp only [go_sem, k1, gl, lt, en, a1, a2, wi]
  exact ihn
theorem r5 (ls : List Line) (hl : ls.length ≤ 1048576) (h : ∀ l ∈ ls, lineSz l) : run EE 5 [.agg [.slc false 8 (ls.map Line.enc)]] [] = some (.str (fmtP ls), []) := by
  have iv := r10 ls hl h
  have en : (⟨#[10]⟩ : ByteArray).size = 1 := rfl
  unfold fmtP
  rw [run_eq EE 5 _ _ Tryz.func5 (by decide +kernel) rfl (show 1 ≤ _ by decide)]
  dsimp only [Tryz.f5]
  cases hp : progOk ls
  · rw [hp] at iv
    rw [if_neg (by simp)]
    simp only [go_sem]
    rw [iter_eq]
    by_cases h0 : (0 : Int) < ls.length
    · simp only [go_sem, h0, iv]
    · simp only [go_sem, h0, iv]
  rw [hp] at iv
  rw [if_pos rfl]
  simp only [go_sem]
  refine iter_inv (fun x : Nat × ByteArray => x.1 ≤ ls.length ∧ x.2.size ≤ 4194305 * x.1) (fun x => { t := upd (upd (upd e0 4 (.int .i64 x.1)) 3 (.str x.2)) 1 (.ptr 0 1 0), b := upd n0 1 (some (Ob.box [.slc false 8 (ls.map Line.enc)])), o := [], r := #[ResultVar.tmp 2], f := 5, n := 26 }) (fun x => some (.str (progT (ls.drop x.1) x.2), [])) (fun x => ls.length - x.1) ?_ (0, ⟨#[]⟩) ⟨Nat.zero_le _, by decide⟩
  rintro ⟨i, t⟩ ⟨hi, ht⟩ ih
  dsimp only at hi ht ⊢
  by_cases hh : i < ls.length
  rotate_left
  · have k1 : ¬ (i : Int) < ls.length := by omega
    rw [List.drop_eq_nil_of_le (by omega)]
    simp only [go_sem, k1, progT]
  have k1 : (i : Int) < ls.length := by omega
  have wi := wrap_nat (n := i) (by omega)
  have hm := List.getElem_mem hh
  have hx := h _ hm
  have gl : ∀ v : V, (ls.map Line.enc).getD i v = ls[i].enc := fun v => getD_map hh v
  have lt := r11 ls[i] hx
  have ll := lineT_le ls[i] hx
  rw [List.drop_eq_getElem_cons hh]
  have ihn := ih (i + 1, t ++ (lineT ls[i] ++ ⟨#[10]⟩)) ⟨by dsimp only; omega, by dsimp only; simp only [ByteArray.size_append, en]; omega⟩ (by dsimp only; omega)
  dsimp only at ihn
  unfold progT
  generalize lineT ls[i] = T at lt ll ihn ⊢
  generalize ls[i] = l at gl lt
  simp only [Line.enc] at gl lt
  have a1 : ¬ ((t.size + T.size : Nat) : Int) > 9223372036854775807 := by omega
  have a2 : ¬ (((t ++ T).size + 1 : Nat) : Int) > 9223372036854775807 := by simp only [ByteArray.size_append]; omega
  rw [← ByteArray.append_assoc] at ihn ⊢
  simp only [go_sem, k1, iv, gl, lt, en, a1, a2, wi]
  exact ihn
end Go.Ev
namespace Go.Ev
open Go Go.Proofs
set_option maxRecDepth 10000
set_option linter.unusedVariables false
set_option linter.unusedSimpArgs false
theorem r46 (l : List Rx) (hl : l.length ≤ 9223372036854775807) (hc : ∀ x ∈ l, ∀ left : Int, 0 ≤ left → left ≤ 1048576 → run EE 28 [(Rx.enc x), .int .i64 left] [] = some (.int .i64 (szR (Rx.enc x) left), [])) (left : Int) (h0 : 0 ≤ left) (h1 : left ≤ 1048576) : run EE 46 [.slc false 3 (l.map Rx.enc), .int .i64 left] [] = some (.int .i64 (szR (.slc false 3 (l.map Rx.enc)) left), []) := by
  rw [run_eq EE 46 _ _ Tryz.func46 (by decide +kernel) rfl (show 2 ≤ _ by decide)]
  dsimp only [Tryz.f46]
  have w := wrap_in (n := left - (l.length : Int)) (by omega) (by omega)
  simp only [go_sem, w]
  have e : szR (.slc false 3 (l.map Rx.enc)) left = leftOf (l.length + szL (l.map Rx.enc)) left := by simp only [szR, szT, List.length_map]
  rw [e]
  refine condL_dec (fun c => ?_) (fun c => ?_)
  · simp only [go_sem]
    rw [leftOf_neg (by omega)]
  simp only [go_sem]
  refine (iter_inv (fun x : Nat × Int => x.1 ≤ l.length ∧ 0 ≤ x.2 ∧ x.2 ≤ 1048576) (fun x => { t := upd (upd (upd (e0) 5 (.int .i64 x.1)) 1 (.int .i64 x.2)) 0 (.slc false 3 (l.map Rx.enc)), b := n0, o := [], r := #[ResultVar.tmp 4], f := 46, n := 27 }) (fun x => some (.int .i64 (szRL ((l.drop x.1).map Rx.enc) x.2), [])) (fun x => l.length - x.1) ?_ (0, left - (l.length : Int)) ⟨Nat.zero_le _, by show 0 ≤ left - (l.length : Int); omega, by show left - (l.length : Int) ≤ 1048576; omega⟩).trans ?_
  · rintro ⟨i, left⟩ ⟨hi, a0, a1⟩ ih
    dsimp only at hi a0 a1 ⊢
    by_cases h : i < l.length
    · have k1 : (i : Int) < l.length := by omega
      have w := wrap_nat (n := i) (by omega)
      have hx := hc l[i] (List.getElem_mem h) left a0 a1
      rw [List.drop_eq_getElem_cons h, List.map_cons, szRL_cons]
      have hle : szR (Rx.enc l[i]) left ≤ left ∨ szR (Rx.enc l[i]) left = -1 := by unfold szR leftOf; split <;> omega
      generalize szR (Rx.enc l[i]) left = r at hx hle ⊢
      simp only [Rx.enc_eq, Vals.enc, Mor.enc, Sta.enc, Con.enc, Line.enc, Ans.enc, Prob.enc, Prog.enc, Ses.enc, Equ.enc, Mon.enc, Frm.enc, Mov.enc, Stp.enc, Dfa.enc, IL, I, B] at hx
      simp only [go_sem, k1, w, getD_map h, hx]
      refine condL_dec (fun c => ?_) (fun c => ?_)
      · simp only [go_sem]
        rw [if_pos c]
      · simp only [go_sem, w]
        rw [if_neg c]
        exact ih (i + 1, r) ⟨by show i + 1 ≤ l.length; omega, by show 0 ≤ r; omega, by show r ≤ 1048576; omega⟩ (by show l.length - (i + 1) < l.length - i; omega)
    · have k1 : ¬ (i : Int) < l.length := by omega
      simp only [go_sem, k1]
      rw [List.drop_eq_nil_of_le (by omega)]
      show _ = some (V.int .i64 (leftOf 0 left), [])
      rw [leftOf_pos (by omega)]
      simp
  · show some (V.int .i64 (leftOf (szL (l.map Rx.enc)) (left - (l.length : Int))), []) = _
    by_cases h : (szL (l.map Rx.enc) : Int) ≤ left - l.length
    · rw [leftOf_pos h, leftOf_pos (by omega)]
      refine congrArg some (congrArg (·, []) (congrArg (V.int .i64) ?_))
      omega
    · rw [leftOf_neg h, leftOf_neg (by omega)]

theorem r28 (x : Rx) (ho : okV x.enc) (left : Int) (h0 : 0 ≤ left) (h1 : left ≤ 1048576) : run EE 28 [x.enc, .int .i64 left] [] = some (.int .i64 (szR x.enc left), []) := by
  have ho' := ho
  simp only [Rx.enc_eq, Vals.enc, Mor.enc, Sta.enc, Con.enc, Line.enc, Ans.enc, Prob.enc, Prog.enc, Ses.enc, Equ.enc, Mon.enc, Frm.enc, Mov.enc, Stp.enc, Dfa.enc, IL, I, B, okV, okL, and_true, true_and, List.length_map] at ho'
  have hc : ∀ z ∈ x.args, ∀ left : Int, 0 ≤ left → left ≤ 1048576 → run EE 28 [z.enc, .int .i64 left] [] = some (.int .i64 (szR z.enc left), []) := fun z hz left a b => r28 z (okL_map ho'.2.2.2 hz) left a b
  rw [run_eq EE 28 _ _ Tryz.func28 (by decide +kernel) rfl (show 2 ≤ _ by decide)]
  dsimp only [Tryz.f28]
  have e : szR x.enc left = leftOf (szT x.enc) left := rfl
  rw [e]
  simp only [Rx.enc_eq, Vals.enc, Mor.enc, Sta.enc, Con.enc, Line.enc, Ans.enc, Prob.enc, Prog.enc, Ses.enc, Equ.enc, Mon.enc, Frm.enc, Mov.enc, Stp.enc, Dfa.enc, IL, I, B, szT, szL, List.length_map]
  have w1 := wrap_in (n := left - ((x.letter).size : Int)) (by omega) (by omega)
  simp only [go_sem, w1]
  refine condL_dec (fun c1 => ?_) (fun c1 => ?_)
  · simp only [go_sem]
    rw [leftOf_neg (by omega)]
  have w2 := r46 x.args (by simp only [Rx.enc_eq, Vals.enc, Mor.enc, Sta.enc, Con.enc, Line.enc, Ans.enc, Prob.enc, Prog.enc, Ses.enc, Equ.enc, Mon.enc, Frm.enc, Mov.enc, Stp.enc, Dfa.enc, IL, I, B, okV, okL, and_true, true_and, List.length_map] at ho; omega) hc (left - ((x.letter).size : Int)) (by omega) (by omega)
  unfold szR at w2
  generalize hn2 : szT (.slc false 3 (x.args.map Rx.enc)) = n2 at w2
  simp only [Rx.enc_eq, Vals.enc, Mor.enc, Sta.enc, Con.enc, Line.enc, Ans.enc, Prob.enc, Prog.enc, Ses.enc, Equ.enc, Mon.enc, Frm.enc, Mov.enc, Stp.enc, Dfa.enc, IL, I, B, szT, szL, List.length_map] at w2 hn2
  simp only [go_sem, w2]
  refine condL_dec (fun c2 => ?_) (fun c2 => ?_)
  · have := leftOf_lt (by omega) c2
    simp only [go_sem]
    rw [leftOf_neg (by omega)]
  obtain ⟨e2, b2⟩ := leftOf_ge c2
  simp only [go_sem, e2]
  rw [leftOf_pos (by omega)]
  refine congrArg some (congrArg (·, []) (congrArg (V.int .i64) ?_))
  omega
  termination_by SizeOf.sizeOf x
  decreasing_by exact Rx.lt _ hz

theorem r27 (x : Mor) (ho : okV x.enc) (left : Int) (h0 : 0 ≤ left) (h1 : left ≤ 1048576) : run EE 27 [x.enc, .int .i64 left] [] = some (.int .i64 (szR x.enc left), []) := by
  have ho' := ho
  simp only [Rx.enc_eq, Vals.enc, Mor.enc, Sta.enc, Con.enc, Line.enc, Ans.enc, Prob.enc, Prog.enc, Ses.enc, Equ.enc, Mon.enc, Frm.enc, Mov.enc, Stp.enc, Dfa.enc, IL, I, B, okV, okL, and_true, true_and, List.length_map] at ho'
  rw [run_eq EE 27 _ _ Tryz.func27 (by decide +kernel) rfl (show 2 ≤ _ by decide)]
  dsimp only [Tryz.f27]
  have e : szR x.enc left = leftOf (szT x.enc) left := rfl
  rw [e]
  simp only [Rx.enc_eq, Vals.enc, Mor.enc, Sta.enc, Con.enc, Line.enc, Ans.enc, Prob.enc, Prog.enc, Ses.enc, Equ.enc, Mon.enc, Frm.enc, Mov.enc, Stp.enc, Dfa.enc, IL, I, B, szT, szL, List.length_map]
  have w1 := wrap_in (n := left - ((x.a).size : Int)) (by omega) (by omega)
  simp only [go_sem, w1]
  refine condL_dec (fun c1 => ?_) (fun c1 => ?_)
  · simp only [go_sem]
    rw [leftOf_neg (by omega)]
  have w2 := wrap_in (n := left - ((x.a).size : Int) - ((x.b).size : Int)) (by omega) (by omega)
  simp only [go_sem, w2]
  refine condL_dec (fun c2 => ?_) (fun c2 => ?_)
  · simp only [go_sem]
    rw [leftOf_neg (by omega)]
  have w3 := wrap_in (n := left - ((x.a).size : Int) - ((x.b).size : Int) - ((x.c).size : Int)) (by omega) (by omega)
  simp only [go_sem, w3]
  refine condL_dec (fun c3 => ?_) (fun c3 => ?_)
  · simp only [go_sem]
    rw [leftOf_neg (by omega)]
  simp only [go_sem]
  rw [leftOf_pos (by omega)]
  refine congrArg some (congrArg (·, []) (congrArg (V.int .i64) ?_))
  omega

theorem r16 (x : Line) (ho : okV x.enc) (left : Int) (h0 : 0 ≤ left) (h1 : left ≤ 1048576) : run EE 16 [x.enc, .int .i64 left] [] = some (.int .i64 (szR x.enc left), []) := by
  have ho' := ho
  simp only [Rx.enc_eq, Vals.enc, Mor.enc, Sta.enc, Con.enc, Line.enc, Ans.enc, Prob.enc, Prog.enc, Ses.enc, Equ.enc, Mon.enc, Frm.enc, Mov.enc, Stp.enc, Dfa.enc, IL, I, B, okV, okL, and_true, true_and, List.length_map] at ho'
  rw [run_eq EE 16 _ _ Tryz.func16 (by decide +kernel) rfl (show 2 ≤ _ by decide)]
  dsimp only [Tryz.f16]
  have e : szR x.enc left = leftOf (szT x.enc) left := rfl
  rw [e]
  simp only [Rx.enc_eq, Vals.enc, Mor.enc, Sta.enc, Con.enc, Line.enc, Ans.enc, Prob.enc, Prog.enc, Ses.enc, Equ.enc, Mon.enc, Frm.enc, Mov.enc, Stp.enc, Dfa.enc, IL, I, B, szT, szL, List.length_map]
  have w1 := wrap_in (n := left - ((x.text).size : Int)) (by omega) (by omega)
  simp only [go_sem, w1]
  refine condL_dec (fun c1 => ?_) (fun c1 => ?_)
  · simp only [go_sem]
    rw [leftOf_neg (by omega)]
  have w2 := r27 x.mor (by simp only [Rx.enc_eq, Vals.enc, Mor.enc, Sta.enc, Con.enc, Line.enc, Ans.enc, Prob.enc, Prog.enc, Ses.enc, Equ.enc, Mon.enc, Frm.enc, Mov.enc, Stp.enc, Dfa.enc, IL, I, B, okV, okL, and_true, true_and, List.length_map] at ho ⊢; simp only [ho, and_self]) (left - ((x.text).size : Int)) (by omega) (by omega)
  unfold szR at w2
  generalize hn2 : szT (x.mor.enc) = n2 at w2
  simp only [Rx.enc_eq, Vals.enc, Mor.enc, Sta.enc, Con.enc, Line.enc, Ans.enc, Prob.enc, Prog.enc, Ses.enc, Equ.enc, Mon.enc, Frm.enc, Mov.enc, Stp.enc, Dfa.enc, IL, I, B, szT, szL, List.length_map] at w2 hn2
  simp only [go_sem, w2]
  refine condL_dec (fun c2 => ?_) (fun c2 => ?_)
  · have := leftOf_lt (by omega) c2
    simp only [go_sem]
    rw [leftOf_neg (by omega)]
  obtain ⟨e2, b2⟩ := leftOf_ge c2
  have w3 := r28 x.regex (by simp only [Rx.enc_eq, Vals.enc, Mor.enc, Sta.enc, Con.enc, Line.enc, Ans.enc, Prob.enc, Prog.enc, Ses.enc, Equ.enc, Mon.enc, Frm.enc, Mov.enc, Stp.enc, Dfa.enc, IL, I, B, okV, okL, and_true, true_and, List.length_map] at ho ⊢; simp only [ho, and_self]) (left - ((x.text).size : Int) - (n2 : Int)) (by omega) (by omega)
  unfold szR at w3
  generalize hn3 : szT (x.regex.enc) = n3 at w3
  simp only [Rx.enc_eq, Vals.enc, Mor.enc, Sta.enc, Con.enc, Line.enc, Ans.enc, Prob.enc, Prog.enc, Ses.enc, Equ.enc, Mon.enc, Frm.enc, Mov.enc, Stp.enc, Dfa.enc, IL, I, B, szT, szL, List.length_map] at w3 hn3
  simp only [go_sem, w3, e2]
  refine condL_dec (fun c3 => ?_) (fun c3 => ?_)
  · have := leftOf_lt (by omega) c3
    simp only [go_sem, e2]
    rw [leftOf_neg (by omega)]
  obtain ⟨e3, b3⟩ := leftOf_ge c3
  simp only [go_sem, e2, e3]
  rw [leftOf_pos (by omega)]
  refine congrArg some (congrArg (·, []) (congrArg (V.int .i64) ?_))
  omega

theorem r9 (l : List Line) (hl : l.length ≤ 9223372036854775807) (hc : ∀ x ∈ l, ∀ left : Int, 0 ≤ left → left ≤ 1048576 → run EE 16 [(Line.enc x), .int .i64 left] [] = some (.int .i64 (szR (Line.enc x) left), [])) (left : Int) (h0 : 0 ≤ left) (h1 : left ≤ 1048576) : run EE 9 [.slc false 8 (l.map Line.enc), .int .i64 left] [] = some (.int .i64 (szR (.slc false 8 (l.map Line.enc)) left), []) := by
  rw [run_eq EE 9 _ _ Tryz.func9 (by decide +kernel) rfl (show 2 ≤ _ by decide)]
  dsimp only [Tryz.f9]
  have w := wrap_in (n := left - (l.length : Int)) (by omega) (by omega)
  simp only [go_sem, w]
  have e : szR (.slc false 8 (l.map Line.enc)) left = leftOf (l.length + szL (l.map Line.enc)) left := by simp only [szR, szT, List.length_map]
  rw [e]
  refine condL_dec (fun c => ?_) (fun c => ?_)
  · simp only [go_sem]
    rw [leftOf_neg (by omega)]
  simp only [go_sem]
  refine (iter_inv (fun x : Nat × Int => x.1 ≤ l.length ∧ 0 ≤ x.2 ∧ x.2 ≤ 1048576) (fun x => { t := upd (upd (upd (e0) 5 (.int .i64 x.1)) 1 (.int .i64 x.2)) 0 (.slc false 8 (l.map Line.enc)), b := n0, o := [], r := #[ResultVar.tmp 4], f := 9, n := 27 }) (fun x => some (.int .i64 (szRL ((l.drop x.1).map Line.enc) x.2), [])) (fun x => l.length - x.1) ?_ (0, left - (l.length : Int)) ⟨Nat.zero_le _, by show 0 ≤ left - (l.length : Int); omega, by show left - (l.length : Int) ≤ 1048576; omega⟩).trans ?_
  · rintro ⟨i, left⟩ ⟨hi, a0, a1⟩ ih
    dsimp only at hi a0 a1 ⊢
    by_cases h : i < l.length
    · have k1 : (i : Int) < l.length := by omega
      have w := wrap_nat (n := i) (by omega)
      have hx := hc l[i] (List.getElem_mem h) left a0 a1
      rw [List.drop_eq_getElem_cons h, List.map_cons, szRL_cons]
      have hle : szR (Line.enc l[i]) left ≤ left ∨ szR (Line.enc l[i]) left = -1 := by unfold szR leftOf; split <;> omega
      generalize szR (Line.enc l[i]) left = r at hx hle ⊢
      simp only [Rx.enc_eq, Vals.enc, Mor.enc, Sta.enc, Con.enc, Line.enc, Ans.enc, Prob.enc, Prog.enc, Ses.enc, Equ.enc, Mon.enc, Frm.enc, Mov.enc, Stp.enc, Dfa.enc, IL, I, B] at hx
      simp only [go_sem, k1, w, getD_map h, hx]
      refine condL_dec (fun c => ?_) (fun c => ?_)
      · simp only [go_sem]
        rw [if_pos c]
      · simp only [go_sem, w]
        rw [if_neg c]
        exact ih (i + 1, r) ⟨by show i + 1 ≤ l.length; omega, by show 0 ≤ r; omega, by show r ≤ 1048576; omega⟩ (by show l.length - (i + 1) < l.length - i; omega)
    · have k1 : ¬ (i : Int) < l.length := by omega
      simp only [go_sem, k1]
      rw [List.drop_eq_nil_of_le (by omega)]
      show _ = some (V.int .i64 (leftOf 0 left), [])
      rw [leftOf_pos (by omega)]
      simp
  · show some (V.int .i64 (leftOf (szL (l.map Line.enc)) (left - (l.length : Int))), []) = _
    by_cases h : (szL (l.map Line.enc) : Int) ≤ left - l.length
    · rw [leftOf_pos h, leftOf_pos (by omega)]
      refine congrArg some (congrArg (·, []) (congrArg (V.int .i64) ?_))
      omega
    · rw [leftOf_neg h, leftOf_neg (by omega)]

theorem r4 (x : Prog) (ho : okV x.enc) (left : Int) (h0 : 0 ≤ left) (h1 : left ≤ 1048576) : run EE 4 [x.enc, .int .i64 left] [] = some (.int .i64 (szR x.enc left), []) := by
  have ho' := ho
  simp only [Rx.enc_eq, Vals.enc, Mor.enc, Sta.enc, Con.enc, Line.enc, Ans.enc, Prob.enc, Prog.enc, Ses.enc, Equ.enc, Mon.enc, Frm.enc, Mov.enc, Stp.enc, Dfa.enc, IL, I, B, okV, okL, and_true, true_and, List.length_map] at ho'
  rw [run_eq EE 4 _ _ Tryz.func4 (by decide +kernel) rfl (show 2 ≤ _ by decide)]
  dsimp only [Tryz.f4]
  have e : szR x.enc left = leftOf (szT x.enc) left := rfl
  rw [e]
  simp only [Rx.enc_eq, Vals.enc, Mor.enc, Sta.enc, Con.enc, Line.enc, Ans.enc, Prob.enc, Prog.enc, Ses.enc, Equ.enc, Mon.enc, Frm.enc, Mov.enc, Stp.enc, Dfa.enc, IL, I, B, szT, szL, List.length_map]
  have w1 := r9 x.lines (by simp only [Rx.enc_eq, Vals.enc, Mor.enc, Sta.enc, Con.enc, Line.enc, Ans.enc, Prob.enc, Prog.enc, Ses.enc, Equ.enc, Mon.enc, Frm.enc, Mov.enc, Stp.enc, Dfa.enc, IL, I, B, okV, okL, and_true, true_and, List.length_map] at ho; omega) (fun z hz left a b => r16 z (okL_map (by simp only [Rx.enc_eq, Vals.enc, Mor.enc, Sta.enc, Con.enc, Line.enc, Ans.enc, Prob.enc, Prog.enc, Ses.enc, Equ.enc, Mon.enc, Frm.enc, Mov.enc, Stp.enc, Dfa.enc, IL, I, B, okV, okL, and_true, true_and, List.length_map] at ho; simp only [ho]) hz) left a b) (left) (by omega) (by omega)
  unfold szR at w1
  generalize hn1 : szT (.slc false 8 (x.lines.map Line.enc)) = n1 at w1
  simp only [Rx.enc_eq, Vals.enc, Mor.enc, Sta.enc, Con.enc, Line.enc, Ans.enc, Prob.enc, Prog.enc, Ses.enc, Equ.enc, Mon.enc, Frm.enc, Mov.enc, Stp.enc, Dfa.enc, IL, I, B, szT, szL, List.length_map] at w1 hn1
  simp only [go_sem, w1]
  refine condL_dec (fun c1 => ?_) (fun c1 => ?_)
  · have := leftOf_lt (by omega) c1
    simp only [go_sem]
    rw [leftOf_neg (by omega)]
  obtain ⟨e1, b1⟩ := leftOf_ge c1
  simp only [go_sem, e1]
  rw [leftOf_pos (by omega)]
  refine congrArg some (congrArg (·, []) (congrArg (V.int .i64) ?_))
  omega
end Go.Ev
namespace Go.Ev
open Go Go.Proofs
set_option maxRecDepth 10000
set_option linter.unusedVariables false
set_option linter.unusedSimpArgs false
theorem r53 (l : List Rx) (hl : l.length ≤ 1048576) (hc : ∀ x ∈ l, run EE 36 [(Rx.enc x)] [] = some ((Rx.enc x), [])) : run EE 53 [.slc false 3 (l.map Rx.enc)] [] = some (.slc false 3 (l.map Rx.enc), []) := by
  rw [run_eq EE 53 _ _ Tryz.func53 (by decide +kernel) rfl (show 1 ≤ _ by decide)]
  dsimp only [Tryz.f53]
  have h8 : (l.length : Int) * 48 ≤ 140737488355328 := by omega
  simp only [go_sem, h8]
  refine iter_inv (fun i : Nat => i ≤ l.length) (fun i => { t := upd (upd (upd (e0) 4 (.int .i64 i)) 3 (.aref 0 7 l.length)) 0 (.slc false 3 (l.map Rx.enc)), b := upd (n0) 7 (some (Ob.arr false 3 (fill Rx.enc l (dflt Tryz.prog 38) i))), o := [], r := #[ResultVar.tmp 2], f := 53, n := 23 }) (fun _ => some (.slc false 3 (l.map Rx.enc), [])) (fun i => l.length - i) ?_ 0 (Nat.zero_le _)
  intro i hi ih
  by_cases h : i < l.length
  · have h1 : (i : Int) < l.length := by omega
    have w := wrap_nat (n := i) (by omega)
    have hx := hc l[i] (List.getElem_mem h)
    simp only [Rx.enc_eq, Vals.enc, Mor.enc, Sta.enc, Con.enc, Line.enc, Ans.enc, Prob.enc, Prog.enc, Ses.enc, Equ.enc, Mon.enc, Frm.enc, Mov.enc, Stp.enc, Dfa.enc, IL, I, B] at hx
    simp only [go_sem, h, h1, w, getD_map h, fill_len Rx.enc l _ hi, hx]
    rw [fill_set Rx.enc l _ h _ (by simp only [Rx.enc_eq, Vals.enc, Mor.enc, Sta.enc, Con.enc, Line.enc, Ans.enc, Prob.enc, Prog.enc, Ses.enc, Equ.enc, Mon.enc, Frm.enc, Mov.enc, Stp.enc, Dfa.enc, IL, I, B])]
    exact ih (i + 1) (by omega) (by omega)
  · have h1 : ¬ (i : Int) < l.length := by omega
    obtain rfl : i = l.length := by omega
    simp only [go_sem, h1, fill_all]

theorem r36 (x : Rx) (hs : szT x.enc ≤ 1048576) : run EE 36 [x.enc] [] = some (x.enc, []) := by
  have hs' := hs
  simp only [Rx.enc_eq, Vals.enc, Mor.enc, Sta.enc, Con.enc, Line.enc, Ans.enc, Prob.enc, Prog.enc, Ses.enc, Equ.enc, Mon.enc, Frm.enc, Mov.enc, Stp.enc, Dfa.enc, IL, I, B, szT, szL, List.length_map] at hs'
  have hc : ∀ z ∈ x.args, run EE 36 [z.enc] [] = some (z.enc, []) := fun z hz => r36 z (Nat.le_trans (szL_mem (f := Rx.enc) hz) (by omega))
  have q0 := r53 x.args (by simp only [Rx.enc_eq, Vals.enc, Mor.enc, Sta.enc, Con.enc, Line.enc, Ans.enc, Prob.enc, Prog.enc, Ses.enc, Equ.enc, Mon.enc, Frm.enc, Mov.enc, Stp.enc, Dfa.enc, IL, I, B, szT, szL, List.length_map] at hs; omega) hc
  try simp only [Rx.enc_eq, Vals.enc, Mor.enc, Sta.enc, Con.enc, Line.enc, Ans.enc, Prob.enc, Prog.enc, Ses.enc, Equ.enc, Mon.enc, Frm.enc, Mov.enc, Stp.enc, Dfa.enc, IL, I, B] at q0
  rw [run_eq EE 36 _ _ Tryz.func36 (by decide +kernel) rfl (show 1 ≤ _ by decide)]
  dsimp only [Tryz.f36]
  simp only [go_sem, q0]
  termination_by SizeOf.sizeOf x
  decreasing_by exact Rx.lt _ hz

theorem r35 (x : Mor) (hs : szT x.enc ≤ 1048576) : run EE 35 [x.enc] [] = some (x.enc, []) := by
  have hs' := hs
  simp only [Rx.enc_eq, Vals.enc, Mor.enc, Sta.enc, Con.enc, Line.enc, Ans.enc, Prob.enc, Prog.enc, Ses.enc, Equ.enc, Mon.enc, Frm.enc, Mov.enc, Stp.enc, Dfa.enc, IL, I, B, szT, szL, List.length_map] at hs'
  rw [run_eq EE 35 _ _ Tryz.func35 (by decide +kernel) rfl (show 1 ≤ _ by decide)]
  dsimp only [Tryz.f35]
  simp only [go_sem]

theorem r20 (x : Line) (hs : szT x.enc ≤ 1048576) : run EE 20 [x.enc] [] = some (x.enc, []) := by
  have hs' := hs
  simp only [Rx.enc_eq, Vals.enc, Mor.enc, Sta.enc, Con.enc, Line.enc, Ans.enc, Prob.enc, Prog.enc, Ses.enc, Equ.enc, Mon.enc, Frm.enc, Mov.enc, Stp.enc, Dfa.enc, IL, I, B, szT, szL, List.length_map] at hs'
  have q0 := r35 x.mor (by simp only [Rx.enc_eq, Vals.enc, Mor.enc, Sta.enc, Con.enc, Line.enc, Ans.enc, Prob.enc, Prog.enc, Ses.enc, Equ.enc, Mon.enc, Frm.enc, Mov.enc, Stp.enc, Dfa.enc, IL, I, B, szT, szL, List.length_map] at hs ⊢; omega)
  try simp only [Rx.enc_eq, Vals.enc, Mor.enc, Sta.enc, Con.enc, Line.enc, Ans.enc, Prob.enc, Prog.enc, Ses.enc, Equ.enc, Mon.enc, Frm.enc, Mov.enc, Stp.enc, Dfa.enc, IL, I, B] at q0
  have q1 := r36 x.regex (by simp only [Rx.enc_eq, Vals.enc, Mor.enc, Sta.enc, Con.enc, Line.enc, Ans.enc, Prob.enc, Prog.enc, Ses.enc, Equ.enc, Mon.enc, Frm.enc, Mov.enc, Stp.enc, Dfa.enc, IL, I, B, szT, szL, List.length_map] at hs ⊢; omega)
  try simp only [Rx.enc_eq, Vals.enc, Mor.enc, Sta.enc, Con.enc, Line.enc, Ans.enc, Prob.enc, Prog.enc, Ses.enc, Equ.enc, Mon.enc, Frm.enc, Mov.enc, Stp.enc, Dfa.enc, IL, I, B] at q1
  rw [run_eq EE 20 _ _ Tryz.func20 (by decide +kernel) rfl (show 1 ≤ _ by decide)]
  dsimp only [Tryz.f20]
  simp only [go_sem, q0, q1]

theorem r12 (l : List Line) (hl : l.length ≤ 1048576) (hc : ∀ x ∈ l, run EE 20 [(Line.enc x)] [] = some ((Line.enc x), [])) : run EE 12 [.slc false 8 (l.map Line.enc)] [] = some (.slc false 8 (l.map Line.enc), []) := by
  rw [run_eq EE 12 _ _ Tryz.func12 (by decide +kernel) rfl (show 1 ≤ _ by decide)]
  dsimp only [Tryz.f12]
  have h8 : (l.length : Int) * 120 ≤ 140737488355328 := by omega
  simp only [go_sem, h8]
  refine iter_inv (fun i : Nat => i ≤ l.length) (fun i => { t := upd (upd (upd (e0) 4 (.int .i64 i)) 3 (.aref 0 7 l.length)) 0 (.slc false 8 (l.map Line.enc)), b := upd (n0) 7 (some (Ob.arr false 8 (fill Line.enc l (dflt Tryz.prog 27) i))), o := [], r := #[ResultVar.tmp 2], f := 12, n := 23 }) (fun _ => some (.slc false 8 (l.map Line.enc), [])) (fun i => l.length - i) ?_ 0 (Nat.zero_le _)
  intro i hi ih
  by_cases h : i < l.length
  · have h1 : (i : Int) < l.length := by omega
    have w := wrap_nat (n := i) (by omega)
    have hx := hc l[i] (List.getElem_mem h)
    simp only [Rx.enc_eq, Vals.enc, Mor.enc, Sta.enc, Con.enc, Line.enc, Ans.enc, Prob.enc, Prog.enc, Ses.enc, Equ.enc, Mon.enc, Frm.enc, Mov.enc, Stp.enc, Dfa.enc, IL, I, B] at hx
    simp only [go_sem, h, h1, w, getD_map h, fill_len Line.enc l _ hi, hx]
    rw [fill_set Line.enc l _ h _ (by simp only [Rx.enc_eq, Vals.enc, Mor.enc, Sta.enc, Con.enc, Line.enc, Ans.enc, Prob.enc, Prog.enc, Ses.enc, Equ.enc, Mon.enc, Frm.enc, Mov.enc, Stp.enc, Dfa.enc, IL, I, B])]
    exact ih (i + 1) (by omega) (by omega)
  · have h1 : ¬ (i : Int) < l.length := by omega
    obtain rfl : i = l.length := by omega
    simp only [go_sem, h1, fill_all]

theorem r6 (x : Prog) (hs : szT x.enc ≤ 1048576) : run EE 6 [x.enc] [] = some (x.enc, []) := by
  have hs' := hs
  simp only [Rx.enc_eq, Vals.enc, Mor.enc, Sta.enc, Con.enc, Line.enc, Ans.enc, Prob.enc, Prog.enc, Ses.enc, Equ.enc, Mon.enc, Frm.enc, Mov.enc, Stp.enc, Dfa.enc, IL, I, B, szT, szL, List.length_map] at hs'
  have q0 := r12 x.lines (by simp only [Rx.enc_eq, Vals.enc, Mor.enc, Sta.enc, Con.enc, Line.enc, Ans.enc, Prob.enc, Prog.enc, Ses.enc, Equ.enc, Mon.enc, Frm.enc, Mov.enc, Stp.enc, Dfa.enc, IL, I, B, szT, szL, List.length_map] at hs; omega) (fun z hz => r20 z (Nat.le_trans (szL_mem (f := Line.enc) hz) (by simp only [Rx.enc_eq, Vals.enc, Mor.enc, Sta.enc, Con.enc, Line.enc, Ans.enc, Prob.enc, Prog.enc, Ses.enc, Equ.enc, Mon.enc, Frm.enc, Mov.enc, Stp.enc, Dfa.enc, IL, I, B, szT, szL, List.length_map] at hs; omega)))
  try simp only [Rx.enc_eq, Vals.enc, Mor.enc, Sta.enc, Con.enc, Line.enc, Ans.enc, Prob.enc, Prog.enc, Ses.enc, Equ.enc, Mon.enc, Frm.enc, Mov.enc, Stp.enc, Dfa.enc, IL, I, B] at q0
  rw [run_eq EE 6 _ _ Tryz.func6 (by decide +kernel) rfl (show 1 ≤ _ by decide)]
  dsimp only [Tryz.f6]
  simp only [go_sem, q0]
end Go.Ev
namespace Go.Ev
open Go Go.Proofs
set_option maxRecDepth 10000
set_option linter.unusedVariables false
set_option linter.unusedSimpArgs false
theorem r57 (l m : List Rx) (hl : l.length ≤ 1048576) (hc : ∀ x ∈ l, ∀ y : Rx, run EE 45 [(Rx.enc x), (Rx.enc y)] [] = some (.bool (veq (Rx.enc x) (Rx.enc y)), [])) : run EE 57 [.slc false 3 (l.map Rx.enc), .slc false 3 (m.map Rx.enc)] [] = some (.bool (veqs (l.map Rx.enc) (m.map Rx.enc)), []) := by
  rw [run_eq EE 57 _ _ Tryz.func57 (by decide +kernel) rfl (show 2 ≤ _ by decide)]
  dsimp only [Tryz.f57]
  by_cases hn : l.length = m.length
  · have hn' : (l.length : Int) = m.length := by omega
    simp only [go_sem, hn', bne_self_eq_false]
    refine iter_inv (fun i : Nat => i ≤ l.length) (fun i => { t := upd (upd (upd (e0) 5 (.int .i64 i)) 1 (.slc false 3 (m.map Rx.enc))) 0 (.slc false 3 (l.map Rx.enc)), b := n0, o := [], r := #[ResultVar.tmp 4], f := 57, n := 27 }) (fun i => some (.bool (veqs ((l.drop i).map Rx.enc) ((m.drop i).map Rx.enc)), [])) (fun i => l.length - i) ?_ 0 (Nat.zero_le _)
    intro i hi ih
    by_cases h : i < l.length
    · have h1 : (i : Int) < l.length := by omega
      have h1' : (i : Int) < m.length := by omega
      have h' : i < m.length := by omega
      have w := wrap_nat (n := i) (by omega)
      have hx := hc l[i] (List.getElem_mem h) m[i]
      rw [List.drop_eq_getElem_cons h, List.drop_eq_getElem_cons h', List.map_cons, List.map_cons, veqs_cons]
      generalize veq (Rx.enc l[i]) (Rx.enc m[i]) = r at hx ⊢
      simp only [Rx.enc_eq, Vals.enc, Mor.enc, Sta.enc, Con.enc, Line.enc, Ans.enc, Prob.enc, Prog.enc, Ses.enc, Equ.enc, Mon.enc, Frm.enc, Mov.enc, Stp.enc, Dfa.enc, IL, I, B] at hx
      simp only [go_sem, h1, h1']
      rw [q_drawn]
      rotate_left
      · kernel_rfl
      simp only [go_sem, h1, h1', w, getD_map h, getD_map h', hx]
      cases r
      · simp only [go_sem, Bool.not_false, Bool.false_and]
      · simp only [go_sem, w, Bool.not_true, Bool.true_and]
        exact ih (i + 1) (by omega) (by omega)
    · have h1 : ¬ (i : Int) < l.length := by omega
      have h1' : ¬ (i : Int) < m.length := by omega
      have e1 : l.drop i = [] := List.drop_eq_nil_of_le (by omega)
      have e2 : m.drop i = [] := List.drop_eq_nil_of_le (by omega)
      simp only [go_sem, h1, h1', e1, e2, List.map_nil, veqs]
  · have hn' : ((l.length : Int) != m.length) = true := by simp; omega
    simp only [go_sem, hn']
    rw [veqs_ne (by simpa using hn)]

theorem r45 (x y : Rx) (hs : szT x.enc ≤ 1048576) : run EE 45 [x.enc, y.enc] [] = some (.bool (veq x.enc y.enc), []) := by
  have hs' := hs
  simp only [Rx.enc_eq, Vals.enc, Mor.enc, Sta.enc, Con.enc, Line.enc, Ans.enc, Prob.enc, Prog.enc, Ses.enc, Equ.enc, Mon.enc, Frm.enc, Mov.enc, Stp.enc, Dfa.enc, IL, I, B, szT, szL, List.length_map] at hs'
  have hc : ∀ z ∈ x.args, ∀ v : Rx, run EE 45 [z.enc, v.enc] [] = some (.bool (veq z.enc v.enc), []) := fun z hz v => r45 z v (Nat.le_trans (szL_mem (f := Rx.enc) hz) (by omega))
  have q0 := r57 x.args y.args (by simp only [Rx.enc_eq, Vals.enc, Mor.enc, Sta.enc, Con.enc, Line.enc, Ans.enc, Prob.enc, Prog.enc, Ses.enc, Equ.enc, Mon.enc, Frm.enc, Mov.enc, Stp.enc, Dfa.enc, IL, I, B, szT, szL, List.length_map] at hs; omega) hc
  try simp only [Rx.enc_eq, Vals.enc, Mor.enc, Sta.enc, Con.enc, Line.enc, Ans.enc, Prob.enc, Prog.enc, Ses.enc, Equ.enc, Mon.enc, Frm.enc, Mov.enc, Stp.enc, Dfa.enc, IL, I, B] at q0
  rw [run_eq EE 45 _ _ Tryz.func45 (by decide +kernel) rfl (show 2 ≤ _ by decide)]
  dsimp only [Tryz.f45]
  simp only [go_sem, condL_b, bne, q0, veq, veqs]
  generalize (x.kind == y.kind) = b0
  generalize (x.letter.toList == y.letter.toList) = b1
  generalize (veqs (x.args.map Rx.enc) (y.args.map Rx.enc)) = b2
  cases b0 <;> cases b1 <;> cases b2 <;> rfl
  termination_by SizeOf.sizeOf x
  decreasing_by exact Rx.lt _ hz

theorem r44 (x y : Mor) (hs : szT x.enc ≤ 1048576) : run EE 44 [x.enc, y.enc] [] = some (.bool (veq x.enc y.enc), []) := by
  have hs' := hs
  simp only [Rx.enc_eq, Vals.enc, Mor.enc, Sta.enc, Con.enc, Line.enc, Ans.enc, Prob.enc, Prog.enc, Ses.enc, Equ.enc, Mon.enc, Frm.enc, Mov.enc, Stp.enc, Dfa.enc, IL, I, B, szT, szL, List.length_map] at hs'
  rw [run_eq EE 44 _ _ Tryz.func44 (by decide +kernel) rfl (show 2 ≤ _ by decide)]
  dsimp only [Tryz.f44]
  simp only [go_sem, condL_b, bne, veq, veqs]
  generalize (x.a.toList == y.a.toList) = b0
  generalize (x.b.toList == y.b.toList) = b1
  generalize (x.c.toList == y.c.toList) = b2
  cases b0 <;> cases b1 <;> cases b2 <;> rfl

theorem r26 (x y : Line) (hs : szT x.enc ≤ 1048576) : run EE 26 [x.enc, y.enc] [] = some (.bool (veq x.enc y.enc), []) := by
  have hs' := hs
  simp only [Rx.enc_eq, Vals.enc, Mor.enc, Sta.enc, Con.enc, Line.enc, Ans.enc, Prob.enc, Prog.enc, Ses.enc, Equ.enc, Mon.enc, Frm.enc, Mov.enc, Stp.enc, Dfa.enc, IL, I, B, szT, szL, List.length_map] at hs'
  have q0 := r44 x.mor y.mor (by simp only [Rx.enc_eq, Vals.enc, Mor.enc, Sta.enc, Con.enc, Line.enc, Ans.enc, Prob.enc, Prog.enc, Ses.enc, Equ.enc, Mon.enc, Frm.enc, Mov.enc, Stp.enc, Dfa.enc, IL, I, B, szT, szL, List.length_map] at hs ⊢; omega)
  try simp only [Rx.enc_eq, Vals.enc, Mor.enc, Sta.enc, Con.enc, Line.enc, Ans.enc, Prob.enc, Prog.enc, Ses.enc, Equ.enc, Mon.enc, Frm.enc, Mov.enc, Stp.enc, Dfa.enc, IL, I, B] at q0
  have q1 := r45 x.regex y.regex (by simp only [Rx.enc_eq, Vals.enc, Mor.enc, Sta.enc, Con.enc, Line.enc, Ans.enc, Prob.enc, Prog.enc, Ses.enc, Equ.enc, Mon.enc, Frm.enc, Mov.enc, Stp.enc, Dfa.enc, IL, I, B, szT, szL, List.length_map] at hs ⊢; omega)
  try simp only [Rx.enc_eq, Vals.enc, Mor.enc, Sta.enc, Con.enc, Line.enc, Ans.enc, Prob.enc, Prog.enc, Ses.enc, Equ.enc, Mon.enc, Frm.enc, Mov.enc, Stp.enc, Dfa.enc, IL, I, B] at q1
  rw [run_eq EE 26 _ _ Tryz.func26 (by decide +kernel) rfl (show 2 ≤ _ by decide)]
  dsimp only [Tryz.f26]
  simp only [go_sem, condL_b, bne, q0, q1, veq, veqs]
  generalize (x.kind == y.kind) = b0
  generalize (x.text.toList == y.text.toList) = b1
  generalize (x.mor.a.toList == y.mor.a.toList) = b2
  generalize (x.mor.b.toList == y.mor.b.toList) = b3
  generalize (x.mor.c.toList == y.mor.c.toList) = b4
  generalize (x.regex.kind == y.regex.kind) = b5
  generalize (x.regex.letter.toList == y.regex.letter.toList) = b6
  generalize (veqs (x.regex.args.map Rx.enc) (y.regex.args.map Rx.enc)) = b7
  cases b0 <;> cases b1 <;> cases b2 <;> cases b3 <;> cases b4 <;> cases b5 <;> cases b6 <;> cases b7 <;> rfl

theorem r15 (l m : List Line) (hl : l.length ≤ 1048576) (hc : ∀ x ∈ l, ∀ y : Line, run EE 26 [(Line.enc x), (Line.enc y)] [] = some (.bool (veq (Line.enc x) (Line.enc y)), [])) : run EE 15 [.slc false 8 (l.map Line.enc), .slc false 8 (m.map Line.enc)] [] = some (.bool (veqs (l.map Line.enc) (m.map Line.enc)), []) := by
  rw [run_eq EE 15 _ _ Tryz.func15 (by decide +kernel) rfl (show 2 ≤ _ by decide)]
  dsimp only [Tryz.f15]
  by_cases hn : l.length = m.length
  · have hn' : (l.length : Int) = m.length := by omega
    simp only [go_sem, hn', bne_self_eq_false]
    refine iter_inv (fun i : Nat => i ≤ l.length) (fun i => { t := upd (upd (upd (e0) 5 (.int .i64 i)) 1 (.slc false 8 (m.map Line.enc))) 0 (.slc false 8 (l.map Line.enc)), b := n0, o := [], r := #[ResultVar.tmp 4], f := 15, n := 27 }) (fun i => some (.bool (veqs ((l.drop i).map Line.enc) ((m.drop i).map Line.enc)), [])) (fun i => l.length - i) ?_ 0 (Nat.zero_le _)
    intro i hi ih
    by_cases h : i < l.length
    · have h1 : (i : Int) < l.length := by omega
      have h1' : (i : Int) < m.length := by omega
      have h' : i < m.length := by omega
      have w := wrap_nat (n := i) (by omega)
      have hx := hc l[i] (List.getElem_mem h) m[i]
      rw [List.drop_eq_getElem_cons h, List.drop_eq_getElem_cons h', List.map_cons, List.map_cons, veqs_cons]
      generalize veq (Line.enc l[i]) (Line.enc m[i]) = r at hx ⊢
      simp only [Rx.enc_eq, Vals.enc, Mor.enc, Sta.enc, Con.enc, Line.enc, Ans.enc, Prob.enc, Prog.enc, Ses.enc, Equ.enc, Mon.enc, Frm.enc, Mov.enc, Stp.enc, Dfa.enc, IL, I, B] at hx
      simp only [go_sem, h1, h1']
      rw [q_drawn]
      rotate_left
      · kernel_rfl
      simp only [go_sem, h1, h1', w, getD_map h, getD_map h', hx]
      cases r
      · simp only [go_sem, Bool.not_false, Bool.false_and]
      · simp only [go_sem, w, Bool.not_true, Bool.true_and]
        exact ih (i + 1) (by omega) (by omega)
    · have h1 : ¬ (i : Int) < l.length := by omega
      have h1' : ¬ (i : Int) < m.length := by omega
      have e1 : l.drop i = [] := List.drop_eq_nil_of_le (by omega)
      have e2 : m.drop i = [] := List.drop_eq_nil_of_le (by omega)
      simp only [go_sem, h1, h1', e1, e2, List.map_nil, veqs]
  · have hn' : ((l.length : Int) != m.length) = true := by simp; omega
    simp only [go_sem, hn']
    rw [veqs_ne (by simpa using hn)]

theorem r8 (x y : Prog) (hs : szT x.enc ≤ 1048576) : run EE 8 [x.enc, y.enc] [] = some (.bool (veq x.enc y.enc), []) := by
  have hs' := hs
  simp only [Rx.enc_eq, Vals.enc, Mor.enc, Sta.enc, Con.enc, Line.enc, Ans.enc, Prob.enc, Prog.enc, Ses.enc, Equ.enc, Mon.enc, Frm.enc, Mov.enc, Stp.enc, Dfa.enc, IL, I, B, szT, szL, List.length_map] at hs'
  have q0 := r15 x.lines y.lines (by simp only [Rx.enc_eq, Vals.enc, Mor.enc, Sta.enc, Con.enc, Line.enc, Ans.enc, Prob.enc, Prog.enc, Ses.enc, Equ.enc, Mon.enc, Frm.enc, Mov.enc, Stp.enc, Dfa.enc, IL, I, B, szT, szL, List.length_map] at hs; omega) (fun z hz v => r26 z v (Nat.le_trans (szL_mem (f := Line.enc) hz) (by simp only [Rx.enc_eq, Vals.enc, Mor.enc, Sta.enc, Con.enc, Line.enc, Ans.enc, Prob.enc, Prog.enc, Ses.enc, Equ.enc, Mon.enc, Frm.enc, Mov.enc, Stp.enc, Dfa.enc, IL, I, B, szT, szL, List.length_map] at hs; omega)))
  try simp only [Rx.enc_eq, Vals.enc, Mor.enc, Sta.enc, Con.enc, Line.enc, Ans.enc, Prob.enc, Prog.enc, Ses.enc, Equ.enc, Mon.enc, Frm.enc, Mov.enc, Stp.enc, Dfa.enc, IL, I, B] at q0
  rw [run_eq EE 8 _ _ Tryz.func8 (by decide +kernel) rfl (show 2 ≤ _ by decide)]
  dsimp only [Tryz.f8]
  simp only [go_sem, condL_b, bne, q0, veq, veqs]
  generalize (veqs (x.lines.map Line.enc) (y.lines.map Line.enc)) = b0
  cases b0 <;> rfl
end Go.Ev
namespace Go.Ev
open Go Go.Proofs
set_option maxRecDepth 10000
set_option linter.unusedVariables false
set_option linter.unusedSimpArgs false

theorem line_sz (l : Line) (h : szT l.enc ≤ 1048576) : lineSz l := by
  unfold lineSz
  simp only [Line.enc, Rx.enc_eq, szT, szL] at h ⊢
  omega
theorem law3 (x : Prog) (ox : okV x.enc) : run EE 3 [x.enc] [] = some (.bool true, []) := by
  have z1 := r4 x ox 1048576 (by omega) (by omega)
  unfold szR at z1
  generalize hn1 : szT x.enc = n1 at z1
  simp only [Prog.enc] at z1
  rw [run_eq EE 3 _ _ Tryz.func3 (by decide +kernel) rfl (show 1 ≤ _ by decide)]
  dsimp only [Tryz.f3]
  simp only [go_sem, z1]
  refine condL_dec (fun c1 => ?_) (fun c1 => ?_)
  · simp only [go_sem]
  obtain ⟨e1, b1⟩ := leftOf_ge c1
  have hn1' := hn1
  simp only [Prog.enc, szT, szL, List.length_map] at hn1'
  have hS : ∀ z ∈ x.lines, szT z.enc ≤ 1048576 := fun z hz => by have := szL_mem (f := Line.enc) hz; omega
  have tx := r6 x (by omega)
  have sp := r5 x.lines (by omega) (fun z hz => line_sz z (hS z hz))
  have im := r7 x.lines (by omega) (fun z hz => line_sz z (hS z hz))
  have ex := r8 x x (by omega)
  rw [veq_refl] at ex
  generalize fmtP x.lines = b at sp im
  simp only [Prog.enc] at tx ex
  have eb : (b.toList == b.toList) = true := by simp
  simp only [go_sem, e1, tx, sp, im, eb, bne, beq_self_eq_true, Bool.not_true]
  rw [q_drawn]
  rotate_left
  · kernel_rfl
  simp only [go_sem, tx, ex, Bool.not_true]
end Go.Ev
