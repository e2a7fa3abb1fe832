/- Validity of expressions. Expressions compiled, both. Expressions compiled: the program's whole. Expressions compiled: the reference's. Lines of programs: the program's. Programs: the program's validity. Lines and programs: the reference's, and whole programs. Morphisms applied and words read: the reference's image, the program's state after a string. Programs of lines run, both. -/
import Derived.Test.YtcjaokcpijkceaaGreatEvR
import Derived.Test.YtcjaokcpijkceaaGreatEvM
import Derived.Test.YtcjaokcpijkceaaGreatEvQ
import Derived.Test.YtcjaokcpijkceaaGreatEvP
set_option linter.unusedVariables false
set_option linter.unusedSimpArgs false
namespace Go.Ev
open Go Go.Proofs
set_option maxRecDepth 10000
set_option linter.unusedVariables false
set_option linter.unusedSimpArgs false

theorem r286 (a b : Int) : run EE 286 [.int .i64 a, .int .i64 b] [] = some (.int .i64 (if a > b then a else b), []) := by
  rw [run_eq EE 286 _ _ Tryz.func286 (by decide +kernel) rfl (show 2 ≤ _ by decide)]
  dsimp only [Tryz.f286]
  simp only [go_sem]
  refine condL_dec (fun k => ?_) (fun k => ?_) <;> simp only [go_sem, k]
theorem r287 (k : Int) : run EE 287 [.int .i64 k] [] = some (.int .i64 (argS k), []) := by
  rw [run_eq EE 287 _ _ Tryz.func287 (by decide +kernel) rfl (show 1 ≤ _ by decide)]
  dsimp only [Tryz.f287]
  unfold argS
  by_cases h5 : k = 5
  · subst h5; simp only [go_sem] <;> rfl
  by_cases h6 : k = 6
  · subst h6; simp only [go_sem] <;> rfl
  by_cases h7 : k = 7
  · subst h7; simp only [go_sem] <;> rfl
  by_cases h8 : k = 8
  · subst h8; simp only [go_sem] <;> rfl
  by_cases h9 : k = 9
  · subst h9; simp only [go_sem] <;> rfl
  have b5 : (k == 5) = false := by simpa using h5
  have b6 : (k == 6) = false := by simpa using h6
  have b7 : (k == 7) = false := by simpa using h7
  have b8 : (k == 8) = false := by simpa using h8
  have b9 : (k == 9) = false := by simpa using h9
  simp only [go_sem, b5, b6, b7, b8, b9, h5, h6, h7, h8, h9, or_self]
theorem r255 (k : Int) : run EE 255 [.int .i64 k] [] = some (.int .i64 (argN k), []) := by
  rw [run_eq EE 255 _ _ Tryz.func255 (by decide +kernel) rfl (show 1 ≤ _ by decide)]
  dsimp only [Tryz.f255]
  unfold argN
  by_cases h1 : k = 1
  · subst h1; simp only [go_sem] <;> rfl
  by_cases h2 : k = 2
  · subst h2; simp only [go_sem] <;> rfl
  by_cases h3 : k = 3
  · subst h3; simp only [go_sem] <;> rfl
  by_cases h4 : k = 4
  · subst h4; simp only [go_sem] <;> rfl
  by_cases h5 : k = 5
  · subst h5; simp only [go_sem] <;> rfl
  by_cases h6 : k = 6
  · subst h6; simp only [go_sem] <;> rfl
  by_cases h7 : k = 7
  · subst h7; simp only [go_sem] <;> rfl
  by_cases h8 : k = 8
  · subst h8; simp only [go_sem] <;> rfl
  by_cases h9 : k = 9
  · subst h9; simp only [go_sem] <;> rfl
  have b1 : (k == 1) = false := by simpa using h1
  have b2 : (k == 2) = false := by simpa using h2
  have b3 : (k == 3) = false := by simpa using h3
  have b4 : (k == 4) = false := by simpa using h4
  have b5 : (k == 5) = false := by simpa using h5
  have b6 : (k == 6) = false := by simpa using h6
  have b7 : (k == 7) = false := by simpa using h7
  have b8 : (k == 8) = false := by simpa using h8
  have b9 : (k == 9) = false := by simpa using h9
  simp only [go_sem, b1, b2, b3, b4, b5, b6, b7, b8, b9, h1, h2, h3, h4, h5, h6, h7, h8, h9, or_self]
theorem r249 (r : Rx) (hs : szT r.enc ≤ 1048576) : run EE 249 [r.enc] [] = some (.int .i64 r.depth, []) := by
  have hs' := hs
  simp only [Rx.enc_eq, szT, szL, List.length_map] at hs'
  have hc : ∀ z ∈ r.args, run EE 249 [z.enc] [] = some (.int .i64 z.depth, []) := fun z hz => r249 z (Nat.le_trans (szL_mem (f := Rx.enc) hz) (by omega))
  have hb := r.depth_sz
  rw [run_eq EE 249 _ _ Tryz.func249 (by decide +kernel) rfl (show 1 ≤ _ by decide)]
  dsimp only [Tryz.f249]
  simp only [go_sem]
  rw [Rx.depth_eq] at hb ⊢
  refine (iter_inv (fun x : Nat × Nat => x.1 ≤ r.args.length ∧ max x.2 (maxL ((r.args.drop x.1).map Rx.depth)) ≤ szT r.enc) (fun x => { t := upd (upd (upd e0 4 (.int .i64 x.1)) 3 (.int .i64 x.2)) 1 (.ptr 0 1 0), b := upd n0 1 (some (Ob.box [.int .i64 r.kind, .str r.letter, .slc false 3 (r.args.map Rx.enc)])), o := [], r := #[ResultVar.tmp 2], f := 249, n := 22 }) (fun x => some (.int .i64 ((1 + max x.2 (maxL ((r.args.drop x.1).map Rx.depth)) : Nat) : Int), [])) (fun x => r.args.length - x.1) ?_ (0, 0) ⟨Nat.zero_le _, by simp only [List.drop_zero, Nat.zero_max]; omega⟩).trans (by simp only [List.drop_zero, Nat.zero_max])
  rintro ⟨i, n⟩ ⟨hi, hn⟩ ih
  dsimp only at hi hn ⊢
  by_cases h : i < r.args.length
  · have h1 : (i : Int) < r.args.length := by omega
    have w := wrap_nat (n := i) (by omega)
    have hx := hc r.args[i] (List.getElem_mem h)
    rw [List.drop_eq_getElem_cons h, List.map_cons, maxL_cons] at hn ⊢
    generalize r.args[i].depth = d at hx hn ⊢
    have hm := r286 n d
    have e : (if (n : Int) > d then (n : Int) else d) = ((max n d : Nat) : Int) := by split <;> omega
    rw [e] at hm
    simp only [Rx.enc_eq] at hx
    simp only [go_sem, h1, w, getD_map h, hx, hm]
    rw [ih (i + 1, max n d) ⟨by show i + 1 ≤ _; omega, by show max (max n d) (maxL (List.map Rx.depth (List.drop (i + 1) r.args))) ≤ szT r.enc; omega⟩ (by show r.args.length - (i + 1) < r.args.length - i; omega)]
    refine congrArg some (congrArg (·, []) (congrArg (V.int .i64) ?_))
    dsimp only
    omega
  · have h1 : ¬ (i : Int) < r.args.length := by omega
    rw [List.drop_eq_nil_of_le (by omega)] at hn ⊢
    have w : IntKind.i64.wrap ((n : Int) + 1) = ((n + 1 : Nat) : Int) := wrap_nat (by omega)
    simp only [go_sem, h1, w, maxL, List.map_nil, List.foldr_nil, Nat.max_zero]
    rw [Nat.add_comm]
  termination_by SizeOf.sizeOf r
  decreasing_by exact Rx.lt _ hz
theorem r248 (r : Rx) (hs : szT r.enc ≤ 1048576) (left : Int) (h0 : 0 ≤ left) (hle : left ≤ 1048576) : run EE 248 [r.enc, .int .i64 left] [] = some (.int .i64 (leftOf r.nodes left), []) := by
  have hs' := hs
  simp only [Rx.enc_eq, szT, szL, List.length_map] at hs'
  have hc : ∀ z ∈ r.args, ∀ left : Int, 0 ≤ left → left ≤ 1048576 → run EE 248 [z.enc, .int .i64 left] [] = some (.int .i64 (leftOf z.nodes left), []) := fun z hz left a b => r248 z (Nat.le_trans (szL_mem (f := Rx.enc) hz) (by omega)) left a b
  have w0 := wrap_in (n := left - 1) (by omega) (by omega)
  rw [run_eq EE 248 _ _ Tryz.func248 (by decide +kernel) rfl (show 2 ≤ _ by decide)]
  dsimp only [Tryz.f248]
  simp only [go_sem, w0]
  rw [Rx.nodes_eq]
  refine (iter_inv (fun x : Nat × Int => x.1 ≤ r.args.length ∧ -1 ≤ x.2 ∧ x.2 ≤ 1048576) (fun x => { t := upd (upd (upd e0 5 (.int .i64 x.1)) 2 (.ptr 0 2 0)) 1 (.int .i64 x.2), b := upd n0 2 (some (Ob.box [.int .i64 r.kind, .str r.letter, .slc false 3 (r.args.map Rx.enc)])), o := [], r := #[ResultVar.tmp 4], f := 248, n := 27 }) (fun x => some (.int .i64 (if x.2 < 0 then -1 else leftOf (sumN Rx.nodes (r.args.drop x.1)) x.2), [])) (fun x => r.args.length - x.1) ?_ (0, left - 1) ⟨Nat.zero_le _, by show -1 ≤ left - 1; omega, by show left - 1 ≤ 1048576; omega⟩).trans ?_
  · rintro ⟨i, n⟩ ⟨hi, hn, hn'⟩ ih
    dsimp only at hi hn hn' ⊢
    by_cases h : i < r.args.length
    · have h1 : (i : Int) < r.args.length := by omega
      by_cases hg : n < 0
      · have hg' : ¬ n ≥ 0 := by omega
        have e : n = -1 := by omega
        rw [if_pos hg]
        simp only [go_sem, h1, hg']
        rw [e]
      · have hg' : n ≥ 0 := by omega
        have w := wrap_nat (n := i) (by omega)
        have hx := hc r.args[i] (List.getElem_mem h) n hg' hn'
        rw [if_neg hg, List.drop_eq_getElem_cons h, sumN_cons, leftOf_add]
        have hle : leftOf r.args[i].nodes n ≤ n ∨ leftOf r.args[i].nodes n = -1 := by unfold leftOf; split <;> omega
        have hge : -1 ≤ leftOf r.args[i].nodes n := by unfold leftOf; split <;> omega
        generalize leftOf r.args[i].nodes n = m at hx hle hge ⊢
        simp only [Rx.enc_eq] at hx
        simp only [go_sem, h1, hg', w, getD_map h, hx]
        exact ih (i + 1, m) ⟨by show i + 1 ≤ _; omega, hge, by show m ≤ 1048576; omega⟩ (by show r.args.length - (i + 1) < r.args.length - i; omega)
    · have h1 : ¬ (i : Int) < r.args.length := by omega
      rw [List.drop_eq_nil_of_le (by omega)]
      have : (if n < 0 then (-1 : Int) else leftOf (sumN Rx.nodes []) n) = n := by
        split
        · omega
        · show leftOf 0 n = n
          rw [leftOf_pos (by omega)]
          omega
      rw [this]
      simp only [go_sem, h1]
  · dsimp only
    rw [List.drop_zero]
    refine congrArg some (congrArg (·, []) (congrArg (V.int .i64) ?_))
    show _ = leftOf (1 + sumN Rx.nodes r.args) left
    rw [leftOf_add]
    by_cases k : (1 : Int) ≤ left
    · have : leftOf 1 left = left - 1 := leftOf_pos (by omega)
      rw [this]
    · have : leftOf 1 left = -1 := leftOf_neg (by omega)
      rw [this, if_pos (by omega), if_pos (by omega)]
  termination_by SizeOf.sizeOf r
  decreasing_by exact Rx.lt _ hz
theorem r250 (r : Rx) (hs : szT r.enc ≤ 1048576) : run EE 250 [r.enc] [] = some (.bool r.good, []) := by
  have hs' := hs
  simp only [Rx.enc_eq, szT, szL, List.length_map] at hs'
  have hc : ∀ z ∈ r.args, run EE 250 [z.enc] [] = some (.bool z.good, []) := fun z hz => r250 z (Nat.le_trans (szL_mem (f := Rx.enc) hz) (by omega))
  have f1 := r40 r.letter (by omega)
  have f2 := r211 r.kind 1 9
  have f3 := r287 r.kind
  rw [run_eq EE 250 _ _ Tryz.func250 (by decide +kernel) rfl (show 1 ≤ _ by decide)]
  dsimp only [Tryz.f250]
  simp only [go_sem]
  rw [Rx.good_eq]
  refine iter_inv (fun i : Nat => i ≤ r.args.length) (fun i => { t := upd (upd e0 3 (.int .i64 i)) 1 (.ptr 0 1 0), b := upd n0 1 (some (Ob.box [.int .i64 r.kind, .str r.letter, .slc false 3 (r.args.map Rx.enc)])), o := [], r := #[ResultVar.tmp 2], f := 250, n := 53 }) (fun i => some (.bool (((r.args.drop i).map Rx.good).all id && okTop r), [])) (fun i => r.args.length - i) ?_ 0 (Nat.zero_le _)
  intro i hi ih
  by_cases h : i < r.args.length
  · have h1 : (i : Int) < r.args.length := by omega
    have w := wrap_nat (n := i) (by omega)
    have hx := hc r.args[i] (List.getElem_mem h)
    rw [List.drop_eq_getElem_cons h, List.map_cons, List.all_cons]
    generalize r.args[i].good = g at hx ⊢
    simp only [Rx.enc_eq] at hx
    simp only [go_sem, h1, w, getD_map h, hx]
    cases g
    · simp only [go_sem, Bool.not_false, id, Bool.false_and]
    · simp only [go_sem, w, Bool.not_true, id, Bool.true_and]
      exact ih (i + 1) (by omega) (by omega)
  · have h1 : ¬ (i : Int) < r.args.length := by omega
    rw [List.drop_eq_nil_of_le (by omega), List.map_nil, List.all_nil, Bool.true_and, okTop_spec]
    by_cases k : r.kind = 3
    · have k' : (r.kind == 3) = true := by simpa using k
      rw [if_pos k]
      by_cases l1 : r.letter.size = 1
      · have l1' : ((r.letter.size : Int) == 1) = true := by simp; omega
        cases wd : isWord r.letter
        · simp only [go_sem, h1, k', l1', l1, f1, wd, Bool.true_and, Bool.false_and]
        · have e : ((r.args.length : Int) == 0) = decide ((r.args.length : Int) = 0) := rfl
          simp only [go_sem, h1, k', l1', l1, f1, wd, Bool.true_and, e]
      · have l1' : ((r.letter.size : Int) == 1) = false := by simp; omega
        simp only [go_sem, h1, k', l1', l1, Bool.false_and]
    · have k' : (r.kind == 3) = false := by simpa using k
      rw [if_neg k]
      simp only [go_sem, h1, k']
      rw [q_drs]
      rotate_left
      · kernel_rfl
      cases c : (decide (1 ≤ r.kind) && decide (r.kind ≤ 9))
      · rw [c] at f2
        simp only [go_sem, f2, Bool.false_and]
      · rw [c] at f2
        have e : ((r.args.length : Int) == argS r.kind) = decide ((r.args.length : Int) = argS r.kind) := rfl
        by_cases l0 : r.letter.size = 0
        · simp only [go_sem, f2, f3, toList_nil, l0, Bool.true_and, e]
        · simp only [go_sem, f2, f3, toList_nil, l0, Bool.true_and, Bool.false_and]
  termination_by SizeOf.sizeOf r
  decreasing_by exact Rx.lt _ hz
theorem r188 (r : Rx) (hs : szT r.enc ≤ 1048576) : run EE 188 [r.enc] [] = some (.bool (validR r), []) := by
  have f1 := r248 r hs 16 (by omega) (by omega)
  have f2 := r249 r hs
  have f3 := r250 r hs
  simp only [Rx.enc_eq] at f1 f2 f3
  rw [run_eq EE 188 _ _ Tryz.func188 (by decide +kernel) rfl (show 1 ≤ _ by decide)]
  dsimp only [Tryz.f188]
  unfold validR
  simp only [go_sem, f1]
  by_cases k : r.nodes ≤ 16
  · have k' : leftOf r.nodes 16 ≥ 0 := by rw [leftOf_pos (by omega)]; omega
    by_cases d : r.depth ≤ 6
    · have d' : (r.depth : Int) ≤ 6 := by omega
      simp only [go_sem, k, k', f2, d, d', f3, Bool.true_and]
    · have d' : ¬ (r.depth : Int) ≤ 6 := by omega
      simp only [go_sem, k, k', f2, d, d', Bool.true_and, Bool.false_and]
  · have k' : ¬ leftOf r.nodes 16 ≥ 0 := by rw [leftOf_neg (by omega)]; decide
    simp only [go_sem, k, k', Bool.false_and]
theorem r194 (r : Rx) (hs : szT r.enc ≤ 1048576) (d : Nat) (hd : d ≤ 6) : run EE 194 [r.enc, .int .i64 d] [] = some (.int .i64 (r.cnt d), []) := by
  have hs' := hs
  simp only [Rx.enc_eq, szT, szL, List.length_map] at hs'
  have hc : ∀ z ∈ r.args, ∀ d : Nat, d ≤ 6 → run EE 194 [z.enc, .int .i64 d] [] = some (.int .i64 (z.cnt d), []) := fun z hz d hd => r194 z (Nat.le_trans (szL_mem (f := Rx.enc) hz) (by omega)) d hd
  have f1 := r45 r.letter (by omega)
  have f3 := r255 r.kind
  have hcnt : ∀ x : Rx, x.cnt (d - 1) ≤ 17 := fun x => by rw [Rx.cnt_eq]; split <;> omega
  rw [run_eq EE 194 _ _ Tryz.func194 (by decide +kernel) rfl (show 2 ≤ _ by decide)]
  dsimp only [Tryz.f194]
  simp only [go_sem]
  rw [q_drs]
  rotate_left
  · kernel_rfl
  rw [Rx.cnt_eq]
  by_cases hd0 : d = 0
  · subst hd0
    rw [if_pos (Or.inl rfl)]
    simp only [go_sem, Int.natCast_zero]
  have e0' : ((d : Int) == 0) = false := by simp; omega
  by_cases hk : (r.args.length : Int) = argN r.kind
  rotate_left
  · have hk' : ((r.args.length : Int) == argN r.kind) = false := by simpa using hk
    have ho : okTop r = false := by unfold okTop; rw [hk', Bool.false_and]
    rw [if_pos (Or.inr ho)]
    simp only [go_sem, e0', f3, bne, hk', Bool.not_false]
  have hk' : ((r.args.length : Int) == argN r.kind) = true := by simpa using hk
  have hlen := argN_le r.kind
  have w1 : IntKind.i64.wrap ((d : Int) - 1) = ((d - 1 : Nat) : Int) := by rw [wrap_in (by omega) (by omega)]; omega
  by_cases k3 : r.kind = 3
  · have k3' : (r.kind == 3) = true := by simpa using k3
    by_cases l1 : r.letter.size = 1
    rotate_left
    · have l1' : ((r.letter.size : Int) == 1) = false := by simp; omega
      have ho : okTop r = false := by unfold okTop; rw [if_pos k3, decide_eq_false l1, Bool.false_and, Bool.and_false]
      rw [if_pos (Or.inr ho)]
      simp only [go_sem, e0', f3, bne, hk', k3', l1', Bool.not_true, Bool.not_false]
    have l1' : ((r.letter.size : Int) == 1) = true := by simp; omega
    cases wd : isWord r.letter
    · have ho : okTop r = false := by unfold okTop; rw [if_pos k3, wd, Bool.and_false, Bool.and_false]
      rw [if_pos (Or.inr ho)]
      rw [wd] at f1
      simp only [go_sem, e0', f3, f1, bne, hk', k3', l1', Bool.not_true, Bool.not_false]
    have ho : okTop r = true := by unfold okTop; rw [hk', if_pos k3, wd, decide_eq_true l1]; rfl
    rw [wd] at f1
    rw [if_neg (fun h => h.elim hd0 (fun h => by rw [ho] at h; cases h))]
    simp only [go_sem, e0', f3, f1, bne, hk', k3', l1', Bool.not_true, Bool.not_false]
    refine (iter_inv (fun x : Nat × Nat => x.1 ≤ r.args.length ∧ x.2 ≤ 1 + 17 * x.1) (fun x => { t := upd (upd (upd (upd (upd e0 38 (.int .i64 x.1)) 37 (.int .i64 r.args.length)) 36 (.slc false 3 (r.args.map Rx.enc))) 5 (.int .i64 x.2)) 1 (.int .i64 d), b := upd n0 2 (some (Ob.box [.int .i64 r.kind, .str r.letter, .slc false 3 (r.args.map Rx.enc)])), o := [], r := #[ResultVar.tmp 4], f := 194, n := 51 }) (fun x => some (.int .i64 ((min (x.2 + sumN (fun x => x.cnt (d - 1)) (r.args.drop x.1)) 17 : Nat) : Int), [])) (fun x => r.args.length - x.1) ?_ (0, 1) ⟨Nat.zero_le _, Nat.le_refl _⟩).trans (by simp only [List.drop_zero] <;> rfl)
    rintro ⟨i, n⟩ ⟨hi, hn⟩ ih
    dsimp only at hi hn ⊢
    by_cases h : i < r.args.length
    · have h1 : (i : Int) < r.args.length := by omega
      have w := wrap_nat (n := i) (by omega)
      have hx := hc r.args[i] (List.getElem_mem h) (d - 1) (by omega)
      have hl := hcnt r.args[i]
      rw [List.drop_eq_getElem_cons h, sumN_cons]
      generalize r.args[i].cnt (d - 1) = m at hx hl ⊢
      simp only [Rx.enc_eq] at hx
      have w2 : IntKind.i64.wrap ((n : Int) + (m : Int)) = ((n + m : Nat) : Int) := by rw [wrap_in (by omega) (by omega)]; omega
      simp only [go_sem, h1, w, w1, getD_map h, hx, w2]
      rw [ih (i + 1, n + m) ⟨by show i + 1 ≤ _; omega, by show n + m ≤ 1 + 17 * (i + 1); omega⟩ (by show r.args.length - (i + 1) < r.args.length - i; omega)]
      dsimp only
      rw [Nat.add_assoc]
    · have h1 : ¬ (i : Int) < r.args.length := by omega
      rw [List.drop_eq_nil_of_le (by omega)]
      simp only [go_sem, h1]
      refine congrArg some (congrArg (·, []) (congrArg (V.int .i64) ?_))
      show _ = ((min (n + 0) 17 : Nat) : Int)
      split <;> omega
  · have k3' : (r.kind == 3) = false := by simpa using k3
    by_cases l0 : r.letter.size = 0
    rotate_left
    · have ho : okTop r = false := by unfold okTop; rw [if_neg k3, decide_eq_false l0, Bool.and_false]
      rw [if_pos (Or.inr ho)]
      simp only [go_sem, e0', f3, bne, hk', k3', toList_nil, l0, Bool.not_true, Bool.not_false]
    have ho : okTop r = true := by unfold okTop; rw [hk', if_neg k3, decide_eq_true l0]; rfl
    rw [if_neg (fun h => h.elim hd0 (fun h => by rw [ho] at h; cases h))]
    simp only [go_sem, e0', f3, bne, hk', k3', toList_nil, l0, Bool.not_true, Bool.not_false]
    refine (iter_inv (fun x : Nat × Nat => x.1 ≤ r.args.length ∧ x.2 ≤ 1 + 17 * x.1) (fun x => { t := upd (upd (upd (upd (upd e0 38 (.int .i64 x.1)) 37 (.int .i64 r.args.length)) 36 (.slc false 3 (r.args.map Rx.enc))) 5 (.int .i64 x.2)) 1 (.int .i64 d), b := upd n0 2 (some (Ob.box [.int .i64 r.kind, .str r.letter, .slc false 3 (r.args.map Rx.enc)])), o := [], r := #[ResultVar.tmp 4], f := 194, n := 51 }) (fun x => some (.int .i64 ((min (x.2 + sumN (fun x => x.cnt (d - 1)) (r.args.drop x.1)) 17 : Nat) : Int), [])) (fun x => r.args.length - x.1) ?_ (0, 1) ⟨Nat.zero_le _, Nat.le_refl _⟩).trans (by simp only [List.drop_zero] <;> rfl)
    rintro ⟨i, n⟩ ⟨hi, hn⟩ ih
    dsimp only at hi hn ⊢
    by_cases h : i < r.args.length
    · have h1 : (i : Int) < r.args.length := by omega
      have w := wrap_nat (n := i) (by omega)
      have hx := hc r.args[i] (List.getElem_mem h) (d - 1) (by omega)
      have hl := hcnt r.args[i]
      rw [List.drop_eq_getElem_cons h, sumN_cons]
      generalize r.args[i].cnt (d - 1) = m at hx hl ⊢
      simp only [Rx.enc_eq] at hx
      have w2 : IntKind.i64.wrap ((n : Int) + (m : Int)) = ((n + m : Nat) : Int) := by rw [wrap_in (by omega) (by omega)]; omega
      simp only [go_sem, h1, w, w1, getD_map h, hx, w2]
      rw [ih (i + 1, n + m) ⟨by show i + 1 ≤ _; omega, by show n + m ≤ 1 + 17 * (i + 1); omega⟩ (by show r.args.length - (i + 1) < r.args.length - i; omega)]
      dsimp only
      rw [Nat.add_assoc]
    · have h1 : ¬ (i : Int) < r.args.length := by omega
      rw [List.drop_eq_nil_of_le (by omega)]
      simp only [go_sem, h1]
      refine congrArg some (congrArg (·, []) (congrArg (V.int .i64) ?_))
      show _ = ((min (n + 0) 17 : Nat) : Int)
      split <;> omega
  termination_by SizeOf.sizeOf r
  decreasing_by exact Rx.lt _ hz
theorem r109 (r : Rx) (hs : szT r.enc ≤ 1048576) : run EE 109 [r.enc] [] = some (.bool (validR r), []) := by
  have f := r194 r hs 6 (Nat.le_refl 6)
  have e : (((6 : Nat) : Int)) = 6 := rfl
  rw [e] at f
  simp only [Rx.enc_eq] at f
  rw [run_eq EE 109 _ _ Tryz.func109 (by decide +kernel) rfl (show 1 ≤ _ by decide)]
  dsimp only [Tryz.f109]
  rw [← valid_cnt]
  simp only [go_sem, f]
  refine congrArg some (congrArg (·, []) (congrArg V.bool ?_))
  by_cases k : r.cnt 6 ≤ 16
  · have k' : (r.cnt 6 : Int) ≤ 16 := by omega
    simp [k, k']
  · have k' : ¬ (r.cnt 6 : Int) ≤ 16 := by omega
    simp [k, k']
end Go.Ev
namespace Go.Ev
open Go Go.Proofs
set_option maxRecDepth 10000
set_option maxHeartbeats 4000000
set_option linter.unusedVariables false
set_option linter.unusedSimpArgs false

theorem r53 : run EE 53 [] [] = some (noD.encT, []) := by
  rw [run_eq EE 53 _ _ Tryz.func53 (by decide +kernel) rfl (show 0 ≤ _ by decide)]
  dsimp only [Tryz.f53]
  simp only [go_sem]
  rfl
theorem rep_enc (d : DN) : d.enc = .agg [.slc false 1 (d.accept.map B), .slc false 1 (d.next.map NT)] := rfl
theorem r110 (r : Rx) (hs : szT r.enc ≤ 1048576) (hg : r.good = true) : run EE 110 [r.enc] [] = some (resO (compR r), []) := by
  have hs' := hs
  simp only [Rx.enc_eq, szT, szL, List.length_map] at hs'
  obtain ⟨hga, hgt⟩ := good_args hg
  have ih : ∀ z ∈ r.args, run EE 110 [z.enc] [] = some (resO (compR z), []) := fun z hz => r110 z (Nat.le_trans (szL_mem (f := Rx.enc) hz) (by omega)) (hga z hz)
  rw [compR_eq]
  simp only [Rx.enc_eq]
  rw [run_eq EE 110 _ _ Tryz.func110 (by decide +kernel) rfl (show 1 ≤ _ by decide)]
  dsimp only [Tryz.f110]
  rcases good_cases hg with ⟨hk, ha⟩ | ⟨hk, x, ha⟩ | ⟨hk, x, y, ha⟩
  · rw [ha, List.map_nil, List.map_nil]
    unfold opR leafR
    have nw := r53
    have w0 := r195 ByteArray.empty (by decide)
    rw [if_pos word0] at w0
    change run EE _ [V.str ⟨#[]⟩] [] = _ at w0
    have w3 := r195 r.letter (by omega)
    have hw := fun (h3 : r.kind = 3) => okTop_word hgt h3
    simp only [rep_enc, resO, DN.encT] at w0 nw ⊢
    rcases hk with k | k | k | k
    · simp only [k, go_sem, iter_eq, nw, Int.reduceEq]
    · simp only [k, go_sem, iter_eq, w0, Int.reduceEq]
    · rw [if_pos (hw k)] at w3
      simp only [resO, rep_enc] at w3
      simp only [k, go_sem, iter_eq, w3, Int.reduceEq]
    · simp only [k, go_sem, iter_eq, Int.reduceEq]
      rfl
  · have hx := ih x (by rw [ha]; exact List.mem_cons_self ..)
    have hxv := fun d => compR_val x (hga x (by rw [ha]; exact List.mem_cons_self ..)) (e := d)
    rw [ha, List.map_cons, List.map_nil, List.map_cons, List.map_nil]
    unfold opR
    generalize compR x = cx at hx hxv ⊢
    simp only [Rx.enc_eq] at hx
    cases cx with
    | none =>
      simp only [resO] at hx
      simp only [go_sem, iter_eq, hx, resO, Option.bind_none]
    | some d =>
      have hd := hxv d rfl
      have cp := r58 d hd
      have st := r197 d hd
      simp only [resO, rep_enc] at hx cp st
      rcases hk with k | k
      · simp only [k, go_sem, iter_eq, hx, st, Int.reduceEq, Option.bind_some]
        generalize starD d = sd
        cases sd <;> simp only [go_sem, resO, rep_enc, Int.reduceEq]
      · simp only [k, go_sem, iter_eq, hx, cp, Int.reduceEq, Option.bind_some, resO, rep_enc]
  · have hx := ih x (by rw [ha]; exact List.mem_cons_self ..)
    have hy := ih y (by rw [ha]; exact List.mem_cons_of_mem _ (List.mem_cons_self ..))
    have hxv := fun d => compR_val x (hga x (by rw [ha]; exact List.mem_cons_self ..)) (e := d)
    have hyv := fun d => compR_val y (hga y (by rw [ha]; exact List.mem_cons_of_mem _ (List.mem_cons_self ..))) (e := d)
    rw [ha, List.map_cons, List.map_cons, List.map_nil, List.map_cons, List.map_cons, List.map_nil]
    unfold opR
    generalize compR x = cx at hx hxv ⊢
    generalize compR y = cy at hy hyv ⊢
    simp only [Rx.enc_eq] at hx hy
    cases cx with
    | none =>
      simp only [resO] at hx
      simp only [go_sem, iter_eq, hx, resO, Option.bind_none]
    | some d =>
    cases cy with
    | none =>
      simp only [resO, rep_enc] at hx hy
      simp only [go_sem, iter_eq, hx, hy, resO, Option.bind_none, Option.bind_some]
    | some f =>
      have hd := hxv d rfl
      have hf := hyv f rfl
      have c5 := r196 d f hd hf
      have c6 := r57 d f hd hf 6 (Or.inl rfl)
      have c7 := r57 d f hd hf 7 (Or.inr rfl)
      simp only [rep_enc] at c5 c6 c7
      simp only [resO, rep_enc] at hx hy
      rcases hk with k | k | k
      · simp only [k, Int.reduceEq, if_true, if_false, Option.bind_some]
        generalize concD d f = sd at c5 ⊢
        simp only [go_sem, iter_eq, hx, hy]
        rw [q_drs]
        rotate_left
        · kernel_rfl
        cases sd <;> simp only [resO, rep_enc] at c5 <;> simp only [go_sem, c5, resO, rep_enc]
      · simp only [k, Int.reduceEq, if_true, if_false, Option.bind_some]
        generalize fitD (prodD 6 d f) = sd at c6 ⊢
        simp only [go_sem, iter_eq, hx, hy]
        rw [q_drs]
        rotate_left
        · kernel_rfl
        cases sd <;> simp only [resO, rep_enc] at c6 <;> simp only [go_sem, c6, resO, rep_enc]
      · simp only [k, Int.reduceEq, if_true, if_false, Option.bind_some]
        generalize fitD (prodD 7 d f) = sd at c7 ⊢
        simp only [go_sem, iter_eq, hx, hy]
        rw [q_drs]
        rotate_left
        · kernel_rfl
        cases sd <;> simp only [resO, rep_enc] at c7 <;> simp only [go_sem, c7, resO, rep_enc]
  termination_by SizeOf.sizeOf r
  decreasing_by exact Rx.lt _ hz
end Go.Ev
namespace Go.Ev
open Go Go.Proofs
set_option maxRecDepth 10000
set_option maxHeartbeats 4000000
set_option linter.unusedVariables false
set_option linter.unusedSimpArgs false

theorem r47 (r : Rx) (hs : szT r.enc ≤ 1048576) : run EE 47 [r.enc] [] = some (resO (if validR r = true then compR r else none), []) := by
  have iv := r109 r hs
  have cc := fun hg => r110 r hs hg
  simp only [Rx.enc_eq] at iv cc
  rw [run_eq EE 47 _ _ Tryz.func47 (by decide +kernel) rfl (show 1 ≤ _ by decide)]
  dsimp only [Tryz.f47]
  by_cases h : validR r = true
  · rw [if_pos h]
    rw [h] at iv
    have hg : r.good = true := by
      unfold validR at h
      rw [Bool.and_eq_true, Bool.and_eq_true] at h
      exact h.2.2
    have cc := cc hg
    generalize compR r = c at cc ⊢
    cases c <;> simp only [resO, rep_enc] at cc <;> simp only [go_sem, iv, cc, resO, rep_enc, Bool.not_true]
  · rw [if_neg h]
    have h' : validR r = false := by simpa using h
    rw [h'] at iv
    simp only [go_sem, iv, resO, Bool.not_false]
end Go.Ev
namespace Go.Ev
open Go Go.Proofs
set_option maxRecDepth 10000
set_option maxHeartbeats 4000000
set_option linter.unusedVariables false
set_option linter.unusedSimpArgs false

theorem r251 (r : Rx) (hs : r.letter.size ≤ 1048576) (hk : r.kind = 1 ∨ r.kind = 2 ∨ r.kind = 3 ∨ r.kind = 4) (hw : r.kind = 3 → isWord r.letter = true) (ha : r.args = []) : run EE 251 [r.enc] [] = some ((leafR r.kind r.letter).encT, []) := by
  have w0 := r288 ByteArray.empty word0
  change run EE _ [V.str ⟨#[]⟩] [] = _ at w0
  unfold leafR
  simp only [Rx.enc_eq]
  rw [run_eq EE 251 _ _ Tryz.func251 (by decide +kernel) rfl (show 1 ≤ _ by decide)]
  dsimp only [Tryz.f251]
  rw [ha]
  simp only [DN.encT] at w0 ⊢
  rcases hk with k | k | k | k
  · simp only [k, go_sem, Int.reduceEq]
    rfl
  · simp only [k, go_sem, w0, Int.reduceEq]
  · have w3 := r288 r.letter (hw k)
    simp only [DN.encT] at w3
    simp only [k, go_sem, w3, Int.reduceEq]
  · simp only [k, go_sem, Int.reduceEq]
    rfl
theorem r189 (r : Rx) (hs : szT r.enc ≤ 1048576) (hg : r.good = true) : run EE 189 [r.enc] [] = some (resO (compR r), []) := by
  have hs' := hs
  simp only [Rx.enc_eq, szT, szL, List.length_map] at hs'
  obtain ⟨hga, hgt⟩ := good_args hg
  have ih : ∀ z ∈ r.args, run EE 189 [z.enc] [] = some (resO (compR z), []) := fun z hz => r189 z (Nat.le_trans (szL_mem (f := Rx.enc) hz) (by omega)) (hga z hz)
  have lf := fun hk ha => r251 r (by omega) hk (okTop_word hgt) ha
  rw [compR_eq]
  simp only [Rx.enc_eq] at lf ⊢
  rw [run_eq EE 189 _ _ Tryz.func189 (by decide +kernel) rfl (show 1 ≤ _ by decide)]
  dsimp only [Tryz.f189]
  rcases good_cases hg with ⟨hk, ha⟩ | ⟨hk, x, ha⟩ | ⟨hk, x, y, ha⟩
  · have lf := lf hk ha
    rw [ha, List.map_nil] at lf
    rw [ha, List.map_nil, List.map_nil]
    unfold opR
    generalize leafR r.kind r.letter = e at lf ⊢
    simp only [DN.encT] at lf
    simp only [go_sem, lf, resO, rep_enc]
  · have hx := ih x (by rw [ha]; exact List.mem_cons_self ..)
    have hxv := fun d => compR_val x (hga x (by rw [ha]; exact List.mem_cons_self ..)) (e := d)
    rw [ha, List.map_cons, List.map_nil, List.map_cons, List.map_nil]
    unfold opR
    generalize compR x = cx at hx hxv ⊢
    simp only [Rx.enc_eq] at hx
    cases cx with
    | none =>
      simp only [resO] at hx
      simp only [go_sem, hx, resO, Option.bind_none, Bool.not_false]
    | some d =>
      have hd := hxv d rfl
      have cp := r121 d hd
      have st := r252 d hd
      simp only [resO, rep_enc] at hx cp
      rcases hk with k | k
      · simp only [k, Int.reduceEq, if_false, Option.bind_some]
        generalize starD d = sd at st ⊢
        cases sd <;> simp only [resO, rep_enc] at st <;> simp only [go_sem, hx, st, resO, rep_enc, Bool.not_true]
      · simp only [k, go_sem, hx, cp, Int.reduceEq, Option.bind_some, resO, rep_enc, Bool.not_true]
  · have hx := ih x (by rw [ha]; exact List.mem_cons_self ..)
    have hy := ih y (by rw [ha]; exact List.mem_cons_of_mem _ (List.mem_cons_self ..))
    have hxv := fun d => compR_val x (hga x (by rw [ha]; exact List.mem_cons_self ..)) (e := d)
    have hyv := fun d => compR_val y (hga y (by rw [ha]; exact List.mem_cons_of_mem _ (List.mem_cons_self ..))) (e := d)
    rw [ha, List.map_cons, List.map_cons, List.map_nil, List.map_cons, List.map_cons, List.map_nil]
    unfold opR
    generalize compR x = cx at hx hxv ⊢
    generalize compR y = cy at hy hyv ⊢
    simp only [Rx.enc_eq] at hx hy
    cases cx with
    | none =>
      simp only [resO] at hx
      simp only [go_sem, hx, resO, Option.bind_none, Bool.not_false]
    | some d =>
    cases cy with
    | none =>
      simp only [resO, rep_enc] at hx hy
      rcases hk with k | k | k <;> simp only [k, go_sem, hx, hy, resO, Option.bind_none, Option.bind_some, Bool.not_true, Bool.not_false]
    | some f =>
      have hd := hxv d rfl
      have hf := hyv f rfl
      have c5 := r253 d f hd hf
      have c6 := r120 d f hd hf 6 (Or.inl rfl)
      have c7 := r120 d f hd hf 7 (Or.inr rfl)
      simp only [rep_enc] at c5 c6 c7
      simp only [resO, rep_enc] at hx hy
      rcases hk with k | k | k
      · simp only [k, Int.reduceEq, if_true, if_false, Option.bind_some]
        generalize concD d f = sd at c5 ⊢
        cases sd <;> simp only [resO, rep_enc] at c5 <;> simp only [go_sem, hx, hy, c5, resO, rep_enc, Bool.not_true]
      · simp only [k, Int.reduceEq, if_true, if_false, Option.bind_some]
        generalize fitD (prodD 6 d f) = sd at c6 ⊢
        cases sd <;> simp only [resO, rep_enc] at c6 <;> simp only [go_sem, hx, hy, c6, resO, rep_enc, Bool.not_true]
      · simp only [k, Int.reduceEq, if_true, if_false, Option.bind_some]
        generalize fitD (prodD 7 d f) = sd at c7 ⊢
        cases sd <;> simp only [resO, rep_enc] at c7 <;> simp only [go_sem, hx, hy, c7, resO, rep_enc, Bool.not_true]
  termination_by SizeOf.sizeOf r
  decreasing_by exact Rx.lt _ hz
theorem r101 (r : Rx) (hs : szT r.enc ≤ 1048576) : run EE 101 [r.enc] [] = some (resO (if validR r = true then compR r else none), []) := by
  have iv := r188 r hs
  have cc := fun hg => r189 r hs hg
  simp only [Rx.enc_eq] at iv cc
  rw [run_eq EE 101 _ _ Tryz.func101 (by decide +kernel) rfl (show 1 ≤ _ by decide)]
  dsimp only [Tryz.f101]
  by_cases h : validR r = true
  · rw [if_pos h]
    rw [h] at iv
    have hg : r.good = true := by
      unfold validR at h
      rw [Bool.and_eq_true, Bool.and_eq_true] at h
      exact h.2.2
    have cc := cc hg
    generalize compR r = c at cc ⊢
    cases c <;> simp only [resO, rep_enc] at cc <;> simp only [go_sem, iv, cc, resO, rep_enc, Bool.not_true]
  · rw [if_neg h]
    have h' : validR r = false := by simpa using h
    rw [h'] at iv
    simp only [go_sem, iv, resO, Bool.not_false]
end Go.Ev
namespace Go.Ev
open Go Go.Proofs
set_option maxRecDepth 10000
set_option maxHeartbeats 4000000
set_option linter.unusedVariables false
set_option linter.unusedSimpArgs false

def zeroM (m : Mor) : Bool := decide (m.a.size = 0) && (decide (m.b.size = 0) && decide (m.c.size = 0))
def compV (r : Rx) : Option DN := if validR r = true then compR r else none
def lineOk (l : Line) : Bool :=
  if l.kind = 1 ∨ l.kind = 2 then decide (l.text.size ≤ 4) && isWord l.text && zeroM l.mor && zeroR l.regex
  else if l.kind = 3 then decide (l.text.size = 0) && isMor l.mor && zeroR l.regex
  else if l.kind = 4 then decide (l.text.size = 0) && zeroM l.mor && (compV l.regex).isSome
  else false
theorem r105 (l : Line) (ht : l.text.size ≤ 1048576) (h1 : l.mor.a.size ≤ 1048576) (h2 : l.mor.b.size ≤ 1048576) (h3 : l.mor.c.size ≤ 1048576) (hr : szT l.regex.enc ≤ 1048576) : run EE 105 [l.enc] [] = some (.bool (lineOk l), []) := by
  have iw := r45 l.text (by omega)
  have im := r124 l.mor h1 h2 h3
  have zr := r193 l.regex
  have cr := r47 l.regex hr
  simp only [Rx.enc_eq] at zr cr
  rw [run_eq EE 105 _ _ Tryz.func105 (by decide +kernel) rfl (show 1 ≤ _ by decide)]
  dsimp only [Tryz.f105]
  have hz : decide ((⟨#[]⟩ : ByteArray).size = 0) = true := rfl
  have fin : ∀ b, zeroM l.mor = b → (decide (l.mor.a.size = 0) && (decide (l.mor.b.size = 0) && decide (l.mor.c.size = 0))) = b := fun b e => e
  unfold lineOk
  by_cases k12 : l.kind = 1 ∨ l.kind = 2
  · rw [if_pos k12]
    by_cases hl : l.text.size ≤ 4
    · have hl' : ¬ (l.text.size : Int) > 4 := by omega
      cases hw : isWord l.text
      · rw [hw] at iw
        rcases k12 with k | k <;> simp only [k, go_sem, hl', iw, Bool.not_false, Bool.and_false, Bool.false_and]
      · rw [hw] at iw
        rw [decide_eq_true hl]
        cases hm : zeroM l.mor
        · have fin := fin _ hm
          rcases k12 with k | k <;> simp only [k, go_sem, hl', iw, Bool.not_true, toList_nil, hz, fin, Bool.true_and, Bool.false_and, Bool.and_false]
        · have fin := fin _ hm
          rcases k12 with k | k <;> simp only [k, go_sem, hl', iw, Bool.not_true, toList_nil, hz, fin, zr, Bool.true_and]
    · have hl' : (l.text.size : Int) > 4 := by omega
      rcases k12 with k | k <;> simp only [k, go_sem, hl', hl, Bool.false_and, decide_false]
  rw [if_neg k12]
  have k1 : (l.kind == 1) = false := by simpa using fun e => k12 (Or.inl e)
  have k2 : (l.kind == 2) = false := by simpa using fun e => k12 (Or.inr e)
  by_cases k3 : l.kind = 3
  · rw [if_pos k3]
    cases hm : isMor l.mor
    · rw [hm] at im
      simp only [Mor.enc] at im
      simp only [k3, go_sem, im, Bool.not_false, Bool.and_false, Bool.false_and]
    · rw [hm] at im
      simp only [Mor.enc] at im
      cases ht0 : decide (l.text.size = 0)
      · simp only [k3, go_sem, im, Bool.not_true, toList_nil, hz, ht0, Bool.true_and, Bool.false_and, Bool.and_false]
      · simp only [k3, go_sem, im, Bool.not_true, toList_nil, hz, ht0, zr, Bool.true_and, Bool.and_true]
  rw [if_neg k3]
  have k3' : (l.kind == 3) = false := by simpa using k3
  by_cases k4 : l.kind = 4
  · rw [if_pos k4]
    have zr0 := r193 ⟨0, ⟨#[]⟩, []⟩
    have zt : zeroR ⟨0, ⟨#[]⟩, []⟩ = true := rfl
    rw [zt] at zr0
    simp only [Rx.enc_eq, List.map_nil] at zr0
    change run EE 47 _ [] = some (resO (compV l.regex), []) at cr
    generalize compV l.regex = c at cr ⊢
    cases c with
    | none =>
      simp only [resO] at cr
      simp only [k4, go_sem, cr, Bool.not_false, Option.isSome, Bool.and_false]
    | some e =>
      simp only [resO, rep_enc] at cr
      cases ht0 : decide (l.text.size = 0)
      · simp only [k4, go_sem, cr, Bool.not_true, toList_nil, hz, ht0, Bool.true_and, Bool.false_and, Bool.and_false, Option.isSome]
      · cases hm : zeroM l.mor
        · have fin := fin _ hm
          simp only [k4, go_sem, cr, Bool.not_true, toList_nil, hz, ht0, fin, Bool.true_and, Bool.and_true, Bool.false_and, Option.isSome]
        · have fin := fin _ hm
          simp only [k4, go_sem, cr, Bool.not_true, toList_nil, hz, ht0, fin, zr0, Bool.true_and, Bool.and_true, Option.isSome]
  rw [if_neg k4]
  have k4' : (l.kind == 4) = false := by simpa using k4
  simp only [go_sem, k1, k2, k3', k4']
end Go.Ev
namespace Go.Ev
open Go Go.Proofs
set_option maxRecDepth 10000
set_option maxHeartbeats 4000000
set_option linter.unusedVariables false
set_option linter.unusedSimpArgs false

/-- what the sizes of a line must be -/
def lineSz (l : Line) : Prop := l.text.size ≤ 1048576 ∧ l.mor.a.size ≤ 1048576 ∧ l.mor.b.size ≤ 1048576 ∧ l.mor.c.size ≤ 1048576 ∧ szT l.regex.enc ≤ 1048576
theorem r104 (l : Line) (h : lineSz l) : run EE 104 [l.enc] [] = some (.bool (!lineOk l), []) := by
  have il := r105 l h.1 h.2.1 h.2.2.1 h.2.2.2.1 h.2.2.2.2
  simp only [Line.enc] at il
  rw [run_eq EE 104 _ _ Tryz.func104 (by decide +kernel) rfl (show 1 ≤ _ by decide)]
  dsimp only [Tryz.f104]
  simp only [go_sem, il]
def progOk (ls : List Line) : Bool := decide (ls.length ≤ 8) && ls.all lineOk
theorem r44 (ls : List Line) (hl : ls.length ≤ 1048576) (h : ∀ l ∈ ls, lineSz l) : run EE 44 [.agg [.slc false 8 (ls.map Line.enc)]] [] = some (.bool (progOk ls), []) := by
  have cf := cf103_0 ls (by omega) (fun l => !lineOk l) 104 (fun _ => rfl) (fun x hx => r104 x (h x hx))
  have e : ∀ l : List Line, l.any (fun l => !lineOk l) = !l.all lineOk := by
    intro l
    induction l with
    | nil => rfl
    | cons a l ih => rw [List.any_cons, List.all_cons, ih, Bool.not_and]
  rw [e] at cf
  unfold progOk
  rw [run_eq EE 44 _ _ Tryz.func44 (by decide +kernel) rfl (show 1 ≤ _ by decide)]
  dsimp only [Tryz.f44]
  generalize ls.all lineOk = A at cf ⊢
  by_cases k : ls.length ≤ 8
  · have k' : (ls.length : Int) ≤ 8 := by omega
    simp only [go_sem, k, k', cf, Bool.true_and, Bool.not_not, decide_true]
  · have k' : ¬ (ls.length : Int) ≤ 8 := by omega
    simp only [go_sem, k, k', Bool.false_and, decide_false]
end Go.Ev
namespace Go.Ev
open Go Go.Proofs
set_option maxRecDepth 10000
set_option maxHeartbeats 4000000
set_option linter.unusedVariables false
set_option linter.unusedSimpArgs false

theorem r99 (l : Line) (ht : l.text.size ≤ 1048576) (h1 : l.mor.a.size ≤ 1048576) (h2 : l.mor.b.size ≤ 1048576) (h3 : l.mor.c.size ≤ 1048576) (hr : szT l.regex.enc ≤ 1048576) : run EE 99 [l.enc] [] = some (.bool (lineOk l), []) := by
  have iw := r40 l.text (by omega)
  have im := r187 l.mor h1 h2 h3
  have zr := r186 l.regex
  have cr := r101 l.regex hr
  simp only [Rx.enc_eq] at zr cr
  rw [run_eq EE 99 _ _ Tryz.func99 (by decide +kernel) rfl (show 1 ≤ _ by decide)]
  dsimp only [Tryz.f99]
  have fin : ∀ b, zeroM l.mor = b → (decide (l.mor.a.size = 0) && (decide (l.mor.b.size = 0) && decide (l.mor.c.size = 0))) = b := fun b e => e
  unfold lineOk
  generalize hM : zeroM l.mor = M at fin ⊢
  have fin := fin M rfl
  by_cases k12 : l.kind = 1 ∨ l.kind = 2
  · rw [if_pos k12]
    cases hw : isWord l.text
    · rw [hw] at iw
      rcases k12 with k | k <;> simp only [k, go_sem, toList_nil, fin, iw, Bool.and_false, Bool.false_and]
    · rw [hw] at iw
      by_cases hl : l.text.size ≤ 4
      · have hl' : (l.text.size : Int) ≤ 4 := by omega
        rw [decide_eq_true hl]
        cases M
        · rcases k12 with k | k <;> simp only [k, go_sem, toList_nil, fin, iw, hl', Bool.true_and, Bool.false_and, Bool.and_false]
        · rcases k12 with k | k <;> simp only [k, go_sem, toList_nil, fin, iw, hl', zr, Bool.true_and]
      · have hl' : ¬ (l.text.size : Int) ≤ 4 := by omega
        rcases k12 with k | k <;> simp only [k, go_sem, toList_nil, fin, iw, hl', hl, Bool.true_and, Bool.false_and, decide_false]
  rw [if_neg k12]
  have k1 : (l.kind == 1) = false := by simpa using fun e => k12 (Or.inl e)
  have k2 : (l.kind == 2) = false := by simpa using fun e => k12 (Or.inr e)
  by_cases k3 : l.kind = 3
  · rw [if_pos k3]
    simp only [Mor.enc] at im
    cases ht0 : decide (l.text.size = 0)
    · simp only [k3, go_sem, toList_nil, fin, ht0, Bool.false_and, Bool.and_false]
    · cases hm : isMor l.mor
      · rw [hm] at im
        simp only [k3, go_sem, toList_nil, fin, ht0, im, Bool.true_and, Bool.false_and, Bool.and_false]
      · rw [hm] at im
        simp only [k3, go_sem, toList_nil, fin, ht0, im, zr, Bool.true_and]
  rw [if_neg k3]
  have k3' : (l.kind == 3) = false := by simpa using k3
  by_cases k4 : l.kind = 4
  · rw [if_pos k4]
    change run EE 101 _ [] = some (resO (compV l.regex), []) at cr
    generalize compV l.regex = c at cr ⊢
    cases c with
    | none =>
      simp only [resO] at cr
      cases ht0 : decide (l.text.size = 0)
      · simp only [k4, go_sem, toList_nil, fin, ht0, cr, Option.isSome, Bool.false_and, Bool.and_false]
      · cases M <;> simp only [k4, go_sem, toList_nil, fin, ht0, cr, Option.isSome, Bool.true_and, Bool.false_and, Bool.and_false]
    | some e =>
      simp only [resO, rep_enc] at cr
      cases ht0 : decide (l.text.size = 0)
      · simp only [k4, go_sem, toList_nil, fin, ht0, cr, Option.isSome, Bool.false_and, Bool.and_false]
      · cases M <;> simp only [k4, go_sem, toList_nil, fin, ht0, cr, Option.isSome, Bool.true_and, Bool.false_and, Bool.and_true]
  rw [if_neg k4]
  have k4' : (l.kind == 4) = false := by simpa using k4
  simp only [go_sem, toList_nil, fin, k1, k2, k3', k4']
theorem r39 (ls : List Line) (hl : ls.length ≤ 1048576) (h : ∀ l ∈ ls, lineSz l) : run EE 39 [.agg [.slc false 8 (ls.map Line.enc)]] [] = some (.bool (progOk ls), []) := by
  unfold progOk
  rw [run_eq EE 39 _ _ Tryz.func39 (by decide +kernel) rfl (show 1 ≤ _ by decide)]
  dsimp only [Tryz.f39]
  simp only [go_sem]
  refine iter_inv (fun i : Nat => i ≤ ls.length) (fun i => { t := upd (upd e0 3 (.int .i64 i)) 1 (.ptr 0 1 0), b := upd n0 1 (some (Ob.box [.slc false 8 (ls.map Line.enc)])), o := [], r := #[ResultVar.tmp 2], f := 39, n := 22 }) (fun i => some (.bool (decide (ls.length ≤ 8) && (ls.drop i).all lineOk), [])) (fun i => ls.length - i) ?_ 0 (Nat.zero_le _)
  intro i hi ih
  by_cases hh : i < ls.length
  rotate_left
  · have k1 : ¬ (i : Int) < ls.length := by omega
    rw [List.drop_eq_nil_of_le (by omega), List.all_nil, Bool.and_true]
    by_cases k : ls.length ≤ 8
    · have k' : (ls.length : Int) ≤ 8 := by omega
      simp only [go_sem, k1, k, k', decide_true]
    · have k' : ¬ (ls.length : Int) ≤ 8 := by omega
      simp only [go_sem, k1, k, k', decide_false]
  have k1 : (i : Int) < ls.length := by omega
  have wi := wrap_nat (n := i) (by omega)
  have ihn := ih (i + 1) (by omega) (by omega)
  have hx := h _ (List.getElem_mem hh)
  have gd := r99 ls[i] hx.1 hx.2.1 hx.2.2.1 hx.2.2.2.1 hx.2.2.2.2
  have gl : ∀ v : V, (ls.map Line.enc).getD i v = ls[i].enc := fun v => getD_map hh v
  rw [List.drop_eq_getElem_cons hh, List.all_cons]
  generalize lineOk ls[i] = A at gd ⊢
  generalize ls[i] = l at gd gl
  simp only [Line.enc] at gd gl
  cases A
  · simp only [go_sem, k1, gl, gd, Bool.not_false, Bool.false_and, Bool.and_false]
  · rw [Bool.true_and]
    simp only [go_sem, k1, gl, gd, wi, Bool.not_true]
    exact ihn
end Go.Ev
namespace Go.Ev
open Go Go.Proofs
set_option maxRecDepth 10000
set_option maxHeartbeats 4000000
set_option linter.unusedVariables false
set_option linter.unusedSimpArgs false

theorem imgM_size {m : Mor} (h1 : m.a.size ≤ 1048576) (h2 : m.b.size ≤ 1048576) (h3 : m.c.size ≤ 1048576) (s : ByteArray) {i : Nat} (h : i < s.size) : (imgM m s i).size ≤ 1048576 := by
  unfold imgM
  split
  · exact h1
  split
  · exact h2
  split
  · exact h3
  rw [one_size s i h]; decide
theorem r41 (m : Mor) (s : ByteArray) (hs : s.size ≤ 9223372036854775806) (h1 : m.a.size ≤ 1048576) (h2 : m.b.size ≤ 1048576) (h3 : m.c.size ≤ 1048576) : run EE 41 [m.enc, .str s] [] = some (.str (appM m s), []) := by
  rw [run_eq EE 41 _ _ Tryz.func41 (by decide +kernel) rfl (show 2 ≤ _ by decide)]
  dsimp only [Tryz.f41]
  simp only [go_sem]
  refine iter_inv (fun x : Nat × ByteArray => x.2.size ≤ 1048576) (fun x => { t := upd (upd (upd (upd e0 6 (.int .i64 x.1)) 5 (.str x.2)) 2 (.ptr 0 2 0)) 1 (.str s), b := upd n0 2 (some (Ob.box [.str m.a, .str m.b, .str m.c])), o := [], r := #[ResultVar.tmp 4], f := 41, n := 45 }) (fun x => some (.str (repl (imgM m s) s x.1 x.2), [])) (fun x => s.size - x.1) ?_ (0, ⟨#[]⟩) (by decide)
  rintro ⟨i, out⟩ ho ih
  dsimp only at ho ⊢
  by_cases h : i < s.size
  rotate_left
  · have k1 : ¬ (i : Int) < s.size := by omega
    rw [repl_end h]
    simp only [go_sem, k1]
  have k1 : (i : Int) < s.size := by omega
  have h2' : ((i + 1 : Nat) : Int) ≤ s.size := by omega
  have h3' : (i : Int) ≤ ((i + 1 : Nat) : Int) := by omega
  have w := wrap_nat (n := i) (by omega)
  have hb := imgM_size h1 h2 h3 s h
  have a2 : ¬ ((out.size + (imgM m s i).size : Nat) : Int) > 9223372036854775807 := by omega
  have eo : s.extract i (i + 1) = one s i := rfl
  rw [repl_next h]
  have fin : ∀ (b : ByteArray), imgM m s i = b → ∀ (k : Nat), (k : Int) = ((out ++ b).size : Nat) → True := fun _ _ _ _ => trivial
  have ihn := ih (i + 1, out ++ imgM m s i)
  dsimp only at ihn
  generalize hX : imgM m s i = X at hb a2 ihn ⊢
  unfold imgM at hX
  by_cases c1 : bt s i = 97
  · rw [if_pos c1] at hX
    subst hX
    simp only [go_sem, k1, c1, a2]
    refine condL_dec (fun z => ?_) (fun z => ?_)
    · rw [if_pos (by omega)]
      simp only [go_sem]
    · rw [if_neg (by omega)]
      simp only [go_sem, w]
      exact ihn (by omega) (by omega)
  rw [if_neg c1] at hX
  by_cases c2 : bt s i = 98
  · rw [if_pos c2] at hX
    subst hX
    simp only [go_sem, k1, c1, c2, a2, Int.reduceEq, Int.reduceBEq]
    refine condL_dec (fun z => ?_) (fun z => ?_)
    · rw [if_pos (by omega)]
      simp only [go_sem]
    · rw [if_neg (by omega)]
      simp only [go_sem, w]
      exact ihn (by omega) (by omega)
  rw [if_neg c2] at hX
  by_cases c3 : bt s i = 99
  · rw [if_pos c3] at hX
    subst hX
    simp only [go_sem, k1, c1, c2, c3, a2, Int.reduceEq, Int.reduceBEq]
    refine condL_dec (fun z => ?_) (fun z => ?_)
    · rw [if_pos (by omega)]
      simp only [go_sem]
    · rw [if_neg (by omega)]
      simp only [go_sem, w]
      exact ihn (by omega) (by omega)
  rw [if_neg c3] at hX
  subst hX
  have d1 : (bt s i == 97) = false := by simpa using c1
  have d2 : (bt s i == 98) = false := by simpa using c2
  have d3 : (bt s i == 99) = false := by simpa using c3
  simp only [go_sem, k1, d1, d2, d3, w, h2', h3', eo, a2]
  refine condL_dec (fun z => ?_) (fun z => ?_)
  · rw [if_pos (by omega)]
    simp only [go_sem]
  · rw [if_neg (by omega)]
    simp only [go_sem, w]
    exact ihn (by omega) (by omega)
theorem ltr_of {c : Int} (h : c = 97 ∨ c = 98 ∨ c = 99) (t : Nat × Nat × Nat) : (c = 97 ∧ ltr c = 0 ∧ nxL t c = t.1) ∨ (c = 98 ∧ ltr c = 1 ∧ nxL t c = t.2.1) ∨ (c = 99 ∧ ltr c = 2 ∧ nxL t c = t.2.2) := by
  rcases h with rfl | rfl | rfl
  · exact Or.inl ⟨rfl, rfl, rfl⟩
  · exact Or.inr (Or.inl ⟨rfl, rfl, rfl⟩)
  · exact Or.inr (Or.inr ⟨rfl, rfl, rfl⟩)
theorem r48 (d : DN) (hd : d.ok) (s : ByteArray) (hs : s.size ≤ 9223372036854775806) (hl : Ltrs s) (q : Nat) (hq : q < d.accept.length) : run EE 48 [d.enc, .int .i64 q, .str s] [] = some (.int .i64 (walk d s q 0), []) := by
  rw [run_eq EE 48 _ _ Tryz.func48 (by decide +kernel) rfl (show 3 ≤ _ by decide)]
  dsimp only [Tryz.f48]
  simp only [go_sem]
  refine iter_inv (fun x : Nat × Nat => x.1 < d.accept.length) (fun x => { t := upd (upd (upd (upd e0 7 (.int .i64 x.2)) 3 (.ptr 0 3 0)) 2 (.str s)) 1 (.int .i64 x.1), b := upd n0 3 (some (Ob.box [.slc false 1 (d.accept.map B), .slc false 1 (d.next.map NT)])), o := [], r := #[ResultVar.tmp 6], f := 48, n := 26 }) (fun x => some (.int .i64 (walk d s x.1 x.2), [])) (fun x => s.size - x.2) ?_ (q, 0) hq
  rintro ⟨p, i⟩ hp ih
  dsimp only at hp ⊢
  by_cases h : i < s.size
  rotate_left
  · have k1 : ¬ (i : Int) < s.size := by omega
    rw [walk_end h]
    simp only [go_sem, k1]
  have k1 : (i : Int) < s.size := by omega
  have w := wrap_nat (n := i) (by omega)
  have p1 : (p : Int) < d.next.length := by rw [hd.1]; omega
  have g1 : ∀ v : V, (d.next.map NT).getD p v = NT (d.nx p) := fun v => getD_NT (by rw [hd.1]; exact hp) v
  have li := r111 (bt s i) (bt_nonneg s i) (bt_lt s i)
  have ihn := ih (nxL (d.nx p) (bt s i), i + 1) (nxL_lt hd hp _) (by dsimp only; omega)
  rw [walk_next h]
  dsimp only at ihn
  generalize hA : d.nx p = A at g1 ihn ⊢
  simp only [go_sem, k1]
  rw [q_drawn]
  rotate_left
  · kernel_rfl
  rcases ltr_of (isLtr_abc (hl i h)) A with ⟨c, e, n⟩ | ⟨c, e, n⟩ | ⟨c, e, n⟩
  all_goals
    rw [e] at li
    rw [n] at ihn ⊢
    simp only [go_sem, k1, li, p1, g1, w]
    exact ihn
end Go.Ev
namespace Go.Ev
open Go Go.Proofs
set_option maxRecDepth 10000
set_option maxHeartbeats 4000000
set_option linter.unusedVariables false
set_option linter.unusedSimpArgs false

def imgF (m : Mor) (c : Int) : ByteArray × Bool := (if c = 97 then m.a else if c = 98 then m.b else if c = 99 then m.c else ⟨#[]⟩, decide (c = 97) || (decide (c = 98) || decide (c = 99)))
theorem imgF_le {m : Mor} (h1 : m.a.size ≤ 1048576) (h2 : m.b.size ≤ 1048576) (h3 : m.c.size ≤ 1048576) (c : Int) : (imgF m c).1.size ≤ 1048576 := by
  unfold imgF
  dsimp only
  split
  · exact h1
  split
  · exact h2
  split
  · exact h3
  · decide
theorem imgF_img (m : Mor) (s : ByteArray) : (fun i : Nat => if (imgF m (bt s i)).2 = true then (imgF m (bt s i)).1 else one s i) = imgM m s := by
  funext i
  unfold imgF imgM
  by_cases c1 : bt s i = 97
  · simp [c1]
  by_cases c2 : bt s i = 98
  · simp [c2]
  by_cases c3 : bt s i = 99
  · simp [c3]
  · simp [c1, c2, c3]
theorem r108 (c : Int) (m : Mor) (b' o : Nat → Option Ob) (h : o 2 = some (Ob.box [.str m.a, .str m.b, .str m.c])) : run EE 108 [.int .u8 c, .ptr 0 2 0] [b', o] = some (.tup [.str (imgF m c).1, .bool (imgF m c).2], [b', o]) := by
  unfold imgF
  rw [run_eq EE 108 _ _ Tryz.func108 (by decide +kernel) rfl (show 2 ≤ _ by decide)]
  dsimp only [Tryz.f108]
  by_cases c1 : c = 97
  · simp only [go_sem, c1, h, decide_true, Bool.true_or, if_true]
  have d1 : (c == 97) = false := by simpa using c1
  by_cases c2 : c = 98
  · simp only [go_sem, c1, c2, h, decide_true, decide_false, Bool.true_or, Bool.false_or, if_true, if_false, Int.reduceEq, Int.reduceBEq]
  have d2 : (c == 98) = false := by simpa using c2
  by_cases c3 : c = 99
  · simp only [go_sem, c1, c2, c3, h, decide_true, decide_false, Bool.true_or, Bool.false_or, if_true, if_false, Int.reduceEq, Int.reduceBEq]
  have d3 : (c == 99) = false := by simpa using c3
  simp only [go_sem, c1, c2, c3, d1, d2, d3, decide_false, Bool.false_or, if_false]
theorem r1107 (s : ByteArray) (g a : Nat) (F : Int → ByteArray × Bool) (o : Nat → Option Ob) (hs : s.size ≤ 9223372036854775806) (hb : ∀ c, (F c).1.size ≤ 1048576)
    (ho : ∀ vs, EE.orc g vs = none) (hu : (EE.H g).uniq = []) (hF : ∀ (c : Int) (b' : Nat → Option Ob), 0 ≤ c → c < 256 → run EE g [.int .u8 c, .ptr 0 a 0] [b', o] = some (.tup [.str (F c).1, .bool (F c).2], [b', o])) :
    run EE 107 [.str s, .fn g [.ptr 0 a 0]] [o] = some (.str (repl (fun i => if (F (bt s i)).2 = true then (F (bt s i)).1 else one s i) s 0 ⟨#[]⟩), [o]) := by
  rw [run_eq EE 107 _ _ Tryz.func107 (by decide +kernel) rfl (show 2 ≤ _ by decide)]
  dsimp only [Tryz.f107]
  simp only [go_sem]
  refine iter_inv (fun x : Nat × ByteArray => x.2.size ≤ 1048576) (fun x => { t := upd (upd (upd (upd e0 6 (.int .i64 x.1)) 5 (.slc true 1 (bytesV x.2))) 1 (.fn g [.ptr 0 a 0])) 0 (.str s), b := n0, o := [o], r := #[ResultVar.tmp 4], f := 107, n := 39 }) (fun x => some (.str (repl (fun i => if (F (bt s i)).2 = true then (F (bt s i)).1 else one s i) s x.1 x.2), [o])) (fun x => s.size - x.1) ?_ (0, ⟨#[]⟩) (by decide)
  rintro ⟨i, out⟩ hi ih
  dsimp only at hi ⊢
  by_cases h : i < s.size
  · have h1 : (i : Int) < s.size := by omega
    have w := wrap_nat (n := i) (by omega)
    have f1 := hF (bt s i) n0 (bt_nonneg s i) (bt_lt s i)
    have b1 := hb (bt s i)
    have o1 := one_size s i h
    rw [repl_next h]
    simp only [go_sem, h1, ho, hu, f1]
    refine condL_bool (fun k => ?_) (fun k => ?_)
    · have a1 : (out.size + (F (bt s i)).1.size) * 1 ≤ 140737488355328 := by omega
      rw [if_pos k]
      simp only [go_sem, k, a1, ← bytesV_append, bytesV_len]
      refine condL_dec (fun z => ?_) (fun z => ?_)
      · have z' : (out ++ (F (bt s i)).1).size > 1048576 := by omega
        rw [if_pos z']
        simp only [go_sem]
      · have z' : ¬ (out ++ (F (bt s i)).1).size > 1048576 := by omega
        rw [if_neg z']
        simp only [go_sem, w]
        exact ih (i + 1, out ++ (F (bt s i)).1) (by show (out ++ (F (bt s i)).1).size ≤ 1048576; omega) (by show s.size - (i + 1) < s.size - i; omega)
    · have k' : ¬ (F (bt s i)).2 = true := by rw [k]; decide
      have a1 : (out.size + 1) * 1 ≤ 140737488355328 := by omega
      have e1 : bytesV out ++ [.int .u8 (bt s i)] = bytesV (out ++ one s i) := by rw [bytesV_append]; exact congrArg _ (bytesV_one s i h).symm
      rw [if_neg k']
      simp only [go_sem, k, h1, a1, e1, bytesV_len]
      refine condL_dec (fun z => ?_) (fun z => ?_)
      · have z' : (out ++ one s i).size > 1048576 := by omega
        rw [if_pos z']
        simp only [go_sem]
      · have z' : ¬ (out ++ one s i).size > 1048576 := by omega
        rw [if_neg z']
        simp only [go_sem, w]
        exact ih (i + 1, out ++ one s i) (by show (out ++ one s i).size ≤ 1048576; omega) (by show s.size - (i + 1) < s.size - i; omega)
  · have h1 : ¬ (i : Int) < s.size := by omega
    rw [repl_end h]
    simp only [go_sem, h1, u8_bytesV, ofInts_bytesV]
theorem r46 (m : Mor) (s : ByteArray) (hs : s.size ≤ 9223372036854775806) (h1 : m.a.size ≤ 1048576) (h2 : m.b.size ≤ 1048576) (h3 : m.c.size ≤ 1048576) : run EE 46 [m.enc, .str s] [] = some (.str (appM m s), []) := by
  have key := r1107 s 108 2 (imgF m) (upd n0 2 (some (Ob.box [.str m.a, .str m.b, .str m.c]))) hs (fun c => imgF_le h1 h2 h3 c) (fun _ => o108 _) rfl
    (fun x b' _ _ => r108 x m b' _ rfl)
  rw [imgF_img] at key
  unfold appM
  rw [run_eq EE 46 _ _ Tryz.func46 (by decide +kernel) rfl (show 2 ≤ _ by decide)]
  dsimp only [Tryz.f46]
  simp only [go_sem, key]
/-- what an expression says to a string of any length -/
def accX (r : Rx) (s : ByteArray) : Bool := match compV r with
  | none => false
  | some d => accD d s
theorem compV_val {r : Rx} {d : DN} (h : compV r = some d) : Val d := by
  unfold compV at h
  split at h
  · rename_i hv
    unfold validR at hv
    rw [Bool.and_eq_true, Bool.and_eq_true] at hv
    exact compR_val r hv.2.2 h
  · cases h
theorem r42 (r : Rx) (hr : szT r.enc ≤ 1048576) (hc : (compV r).isSome = true) (s : ByteArray) (hs : s.size ≤ 9223372036854775806) (hl : Ltrs s) : run EE 42 [r.enc, .str s] [] = some (.bool (accX r s), []) := by
  have cr := r101 r hr
  change run EE 101 _ [] = some (resO (compV r), []) at cr
  obtain ⟨d, hd0⟩ := Option.isSome_iff_exists.1 hc
  have hv := compV_val hd0
  have hA : accX r s = accD d s := by unfold accX; rw [hd0]
  rw [hd0] at cr
  rw [hA]
  have hd := hv.ok
  simp only [Rx.enc_eq, resO, rep_enc] at cr
  unfold accD
  rw [run_eq EE 42 _ _ Tryz.func42 (by decide +kernel) rfl (show 2 ≤ _ by decide)]
  dsimp only [Tryz.f42]
  simp only [go_sem, cr]
  refine iter_inv (fun x : Nat × Nat => x.1 < d.accept.length) (fun x => { t := upd (upd (upd (upd e0 8 (.int .i64 x.2)) 7 (.int .i64 x.1)) 5 (.ptr 0 5 0)) 1 (.str s), b := upd (upd n0 5 (some (Ob.box [.slc false 1 (d.accept.map B), .slc false 1 (d.next.map NT)]))) 2 (some (Ob.box [.int .i64 r.kind, .str r.letter, .slc false 3 (r.args.map Rx.enc)])), o := [], r := #[ResultVar.tmp 4], f := 42, n := 36 }) (fun x => some (.bool (d.accept.getD (walk d s x.1 x.2) false), [])) (fun x => s.size - x.2) ?_ (0, 0) hv.pos
  rintro ⟨p, i⟩ hp ih
  dsimp only at hp ⊢
  by_cases h : i < s.size
  rotate_left
  · have k1 : ¬ (i : Int) < s.size := by omega
    have p1 : (p : Int) < d.accept.length := by omega
    have g0 : ∀ v : V, (d.accept.map B).getD p v = .bool (d.accept.getD p false) := fun v => by
      rw [getD_map hp, List.getD_eq_getElem?_getD, List.getElem?_eq_getElem hp]; rfl
    rw [walk_end h]
    simp only [go_sem, k1, p1, g0]
  have k1 : (i : Int) < s.size := by omega
  have w := wrap_nat (n := i) (by omega)
  have p1 : (p : Int) < d.next.length := by rw [hd.1]; omega
  have g1 : ∀ v : V, (d.next.map NT).getD p v = NT (d.nx p) := fun v => getD_NT (by rw [hd.1]; exact hp) v
  have li := r100 (bt s i)
  have ihn := ih (nxL (d.nx p) (bt s i), i + 1) (nxL_lt hd hp _) (by dsimp only; omega)
  rw [walk_next h]
  dsimp only at ihn
  generalize hA : d.nx p = A at g1 ihn ⊢
  simp only [go_sem, k1]
  rw [q_drawn]
  rotate_left
  · kernel_rfl
  rcases ltr_of (isLtr_abc (hl i h)) A with ⟨c, e, n⟩ | ⟨c, e, n⟩ | ⟨c, e, n⟩
  all_goals
    rw [e] at li
    rw [n] at ihn ⊢
    simp only [go_sem, k1, li, p1, g1, w]
    exact ihn
/-- lines one after the other -/
def runL : List Line → ByteArray → Nat → ByteArray × Int
  | [], s, _ => (s, -1)
  | l :: ls, s, i => if l.kind = 1 then runL ls (l.text ++ s) (i + 1) else if l.kind = 2 then runL ls (s ++ l.text) (i + 1) else if l.kind = 3 then runL ls (appM l.mor s) (i + 1)
      else if accX l.regex s = true then runL ls s (i + 1) else (s, (i : Int))
def runP (ls : List Line) (s : ByteArray) : V := if progOk ls = true ∧ isWord s = true then .tup [.str (runL ls s 0).1, .int .i64 (runL ls s 0).2, .bool true] else .tup [.str ⟨#[]⟩, .int .i64 0, .bool false]
theorem lineOk_cases {l : Line} (h : lineOk l = true) : ((l.kind = 1 ∨ l.kind = 2) ∧ l.text.size ≤ 4 ∧ Ltrs l.text) ∨ (l.kind = 3 ∧ isMor l.mor = true) ∨ (l.kind = 4 ∧ (compV l.regex).isSome = true) := by
  unfold lineOk at h
  split at h
  · rename_i k
    simp only [Bool.and_eq_true, decide_eq_true_eq] at h
    exact Or.inl ⟨k, h.1.1.1, ltrs_word h.1.1.2⟩
  split at h
  · rename_i k
    simp only [Bool.and_eq_true, decide_eq_true_eq] at h
    exact Or.inr (Or.inl ⟨k, h.1.2⟩)
  split at h
  · rename_i k
    simp only [Bool.and_eq_true, decide_eq_true_eq] at h
    exact Or.inr (Or.inr ⟨k, h.2⟩)
  · cases h
theorem r10 (ls : List Line) (hl : ls.length ≤ 1048576) (h : ∀ l ∈ ls, lineSz l) (s : ByteArray) (hs : s.size ≤ 1048576) : run EE 10 [.agg [.slc false 8 (ls.map Line.enc)], .str s] [] = some (runP ls s, []) := by
  have iv := r39 ls hl h
  have iw := r40 s (by omega)
  unfold runP
  rw [run_eq EE 10 _ _ Tryz.func10 (by decide +kernel) rfl (show 2 ≤ _ by decide)]
  dsimp only [Tryz.f10]
  cases hp : progOk ls
  · rw [hp] at iv
    rw [if_neg (by simp)]
    simp only [go_sem, iv, Bool.not_false]
  cases hw : isWord s
  · rw [hp] at iv
    rw [hw] at iw
    rw [if_neg (by simp)]
    simp only [go_sem, iv, iw, Bool.not_true, Bool.not_false]
  rw [hp] at iv
  rw [hw] at iw
  rw [if_pos ⟨rfl, rfl⟩]
  have hpo := hp
  unfold progOk at hpo
  rw [Bool.and_eq_true, List.all_eq_true] at hpo
  have h8 := of_decide_eq_true hpo.1
  have w30 := word_30 hw
  simp only [go_sem, iv, iw, Bool.not_true]
  refine iter_inv (fun x : Nat × ByteArray => x.1 ≤ ls.length ∧ x.2.size ≤ 1048576 + 4 * x.1 ∧ Ltrs x.2) (fun x => { t := upd (upd (upd e0 7 (.int .i64 x.1)) 2 (.ptr 0 2 0)) 1 (.str x.2), b := upd n0 2 (some (Ob.box [.slc false 8 (ls.map Line.enc)])), o := [], r := #[ResultVar.tmp 4, ResultVar.tmp 5, ResultVar.tmp 6], f := 10, n := 59 }) (fun x => some (.tup [.str (runL (ls.drop x.1) x.2 x.1).1, .int .i64 (runL (ls.drop x.1) x.2 x.1).2, .bool true], [])) (fun x => ls.length - x.1) ?_ (0, s) ⟨Nat.zero_le _, by omega, ltrs_word hw⟩
  rintro ⟨i, t⟩ ⟨hi, ht, hL⟩ ih
  dsimp only at hi ht hL ⊢
  by_cases hh : i < ls.length
  rotate_left
  · have k1 : ¬ (i : Int) < ls.length := by omega
    rw [List.drop_eq_nil_of_le (by omega)]
    simp only [go_sem, k1, runL]
  have k1 : (i : Int) < ls.length := by omega
  have wi := wrap_nat (n := i) (by omega)
  have hm := List.getElem_mem hh
  have hx := h _ hm
  have gl : ∀ v : V, (ls.map Line.enc).getD i v = ls[i].enc := fun v => getD_map hh v
  have hk := lineOk_cases (hpo.2 _ hm)
  rw [List.drop_eq_getElem_cons hh]
  generalize ls[i] = l at gl hx hk ⊢
  have ihn := fun (t' : ByteArray) h1 h2 => ih (i + 1, t') ⟨by dsimp only; omega, h1, h2⟩ (by dsimp only; omega)
  dsimp only at ihn
  simp only [Line.enc] at gl
  rcases hk with ⟨k | k, k2, k3⟩ | ⟨k, k2⟩ | ⟨k, k2⟩
  · have a1 : ¬ ((l.text.size + t.size : Nat) : Int) > 9223372036854775807 := by omega
    simp only [go_sem, k1, gl, k, a1, wi, runL, if_true]
    exact ihn _ (by rw [ByteArray.size_append]; omega) (k3.app hL)
  · have a1 : ¬ ((t.size + l.text.size : Nat) : Int) > 9223372036854775807 := by omega
    have c12 : ¬ (2 : Int) = 1 := by decide
    simp only [go_sem, k1, gl, k, a1, wi, runL, c12, if_true, if_false, Int.reduceEq, Int.reduceBEq]
    exact ihn _ (by rw [ByteArray.size_append]; omega) (hL.app k3)
  · have am := r41 l.mor t (by omega) hx.2.1 hx.2.2.1 hx.2.2.2.1
    simp only [Mor.enc] at am
    simp only [go_sem, k1, gl, k, am, wi, runL, if_true, if_false, Int.reduceEq, Int.reduceBEq]
    exact ihn _ (Nat.le_trans (appM_le _ _) (by omega)) (appM_ltrs k2 hL)
  · have ac := r42 l.regex hx.2.2.2.2 k2 t (by omega) hL
    simp only [Rx.enc_eq] at ac
    cases hA : accX l.regex t
    · rw [hA] at ac
      simp only [go_sem, k1, gl, k, ac, wi, runL, hA, Bool.not_false, Bool.false_eq_true, if_true, if_false, Int.reduceEq, Int.reduceBEq]
    · rw [hA] at ac
      simp only [go_sem, k1, gl, k, ac, wi, runL, hA, Bool.not_true, if_true, if_false, Int.reduceEq, Int.reduceBEq]
      exact ihn _ (by omega) hL
theorem r12 (ls : List Line) (hl : ls.length ≤ 1048576) (h : ∀ l ∈ ls, lineSz l) (s : ByteArray) (hs : s.size ≤ 1048576) : run EE 12 [.agg [.slc false 8 (ls.map Line.enc)], .str s] [] = some (runP ls s, []) := by
  have iv := r44 ls hl h
  have iw := r45 s (by omega)
  unfold runP
  rw [run_eq EE 12 _ _ Tryz.func12 (by decide +kernel) rfl (show 2 ≤ _ by decide)]
  dsimp only [Tryz.f12]
  cases hp : progOk ls
  · rw [hp] at iv
    rw [if_neg (by simp)]
    simp only [go_sem, iv, Bool.not_false]
  cases hw : isWord s
  · rw [hp] at iv
    rw [hw] at iw
    rw [if_neg (by simp)]
    simp only [go_sem, iv, iw, Bool.not_true, Bool.not_false]
  rw [hp] at iv
  rw [hw] at iw
  rw [if_pos ⟨rfl, rfl⟩]
  have hpo := hp
  unfold progOk at hpo
  rw [Bool.and_eq_true, List.all_eq_true] at hpo
  have h8 := of_decide_eq_true hpo.1
  have w30 := word_30 hw
  simp only [go_sem, iv, iw, Bool.not_true]
  refine iter_inv (fun x : Nat × ByteArray => x.1 ≤ ls.length ∧ x.2.size ≤ 1048576 + 4 * x.1 ∧ Ltrs x.2) (fun x => { t := upd (upd (upd (upd e0 22 (.int .i64 x.1)) 21 (.int .i64 ls.length)) 20 (.slc false 8 (ls.map Line.enc))) 1 (.str x.2), b := upd n0 2 (some (Ob.box [.slc false 8 (ls.map Line.enc)])), o := [], r := #[ResultVar.tmp 4, ResultVar.tmp 5, ResultVar.tmp 6], f := 12, n := 67 }) (fun x => some (.tup [.str (runL (ls.drop x.1) x.2 x.1).1, .int .i64 (runL (ls.drop x.1) x.2 x.1).2, .bool true], [])) (fun x => ls.length - x.1) ?_ (0, s) ⟨Nat.zero_le _, by omega, ltrs_word hw⟩
  rintro ⟨i, t⟩ ⟨hi, ht, hL⟩ ih
  dsimp only at hi ht hL ⊢
  by_cases hh : i < ls.length
  rotate_left
  · have k1 : ¬ (i : Int) < ls.length := by omega
    rw [List.drop_eq_nil_of_le (by omega)]
    simp only [go_sem, k1, runL]
  have k1 : (i : Int) < ls.length := by omega
  have wi := wrap_nat (n := i) (by omega)
  have hm := List.getElem_mem hh
  have hx := h _ hm
  have gl : ∀ v : V, (ls.map Line.enc).getD i v = ls[i].enc := fun v => getD_map hh v
  have hk := lineOk_cases (hpo.2 _ hm)
  rw [List.drop_eq_getElem_cons hh]
  generalize ls[i] = l at gl hx hk ⊢
  have ihn := fun (t' : ByteArray) h1 h2 => ih (i + 1, t') ⟨by dsimp only; omega, h1, h2⟩ (by dsimp only; omega)
  dsimp only at ihn
  simp only [Line.enc] at gl
  rcases hk with ⟨k | k, k2, k3⟩ | ⟨k, k2⟩ | ⟨k, k2⟩
  · have a1 : ¬ ((l.text.size + t.size : Nat) : Int) > 9223372036854775807 := by omega
    simp only [go_sem, k1, gl, k, a1, wi, runL, if_true]
    exact ihn _ (by rw [ByteArray.size_append]; omega) (k3.app hL)
  · have a1 : ¬ ((t.size + l.text.size : Nat) : Int) > 9223372036854775807 := by omega
    simp only [go_sem, k1, gl, k, a1, wi, runL, if_true, if_false, Int.reduceEq, Int.reduceBEq]
    exact ihn _ (by rw [ByteArray.size_append]; omega) (hL.app k3)
  · have am := r46 l.mor t (by omega) hx.2.1 hx.2.2.1 hx.2.2.2.1
    simp only [Mor.enc] at am
    simp only [go_sem, k1, gl, k, am, wi, runL, if_true, if_false, Int.reduceEq, Int.reduceBEq]
    exact ihn _ (Nat.le_trans (appM_le _ _) (by omega)) (appM_ltrs k2 hL)
  · have cr := r47 l.regex hx.2.2.2.2
    change run EE 47 _ [] = some (resO (compV l.regex), []) at cr
    have hA : accX l.regex t = match compV l.regex with | none => false | some d => accD d t := rfl
    have hval := fun d => compV_val (r := l.regex) (d := d)
    generalize hAe : accX l.regex t = A at hA
    generalize compV l.regex = c at cr hval k2 hA
    cases c with
    | none => cases k2
    | some d =>
      have hv := hval d rfl
      have hA : A = accD d t := hA
      have af := r48 d hv.ok t (by omega) hL 0 hv.pos
      have wl := walk_lt hv.ok t _ 0 0 (Nat.le_refl _) hv.pos
      unfold accD at hA
      generalize walk d t 0 0 = q at af wl hA
      have q1 : (q : Int) < d.accept.length := by omega
      have g0 : ∀ v : V, (d.accept.map B).getD q v = .bool A := fun v => by
        rw [getD_map wl, hA, List.getD_eq_getElem?_getD, List.getElem?_eq_getElem wl]; rfl
      have ez0 : ((0 : Nat) : Int) = 0 := rfl
      simp only [ez0, DN.enc] at af
      simp only [Rx.enc_eq, resO, rep_enc] at cr
      simp only [go_sem, k1, gl, k, cr, Int.reduceEq, Int.reduceBEq]
      rw [q_drawn]
      rotate_left
      · kernel_rfl
      cases A
      · simp only [go_sem, af, q1, g0, wi, runL, k, hAe, Bool.not_false, Bool.false_eq_true, if_true, if_false, Int.reduceEq, Int.reduceBEq]
      · simp only [go_sem, af, q1, g0, wi, runL, k, hAe, Bool.not_true, if_true, if_false, Int.reduceEq, Int.reduceBEq]
        exact ihn _ (by omega) hL
end Go.Ev
