/- Sizes. -/
import Derived.Test.YtdepiibcopbjlaaEvEnv
import Derived.Test.YtdepiibcopbjlaaEvData
namespace Go.Ev
open Go Go.Proofs
set_option maxRecDepth 10000
set_option linter.unusedVariables false
set_option linter.unusedSimpArgs false
theorem r54 (l : List Int) (hl : l.length ≤ 9223372036854775807) (left : Int) (h0 : 0 ≤ left) (h1 : left ≤ 1048576) : run EE 54 [.slc false 1 (l.map I), .int .i64 left] [] = some (.int .i64 (szR (.slc false 1 (l.map I)) left), []) := by
  rw [run_eq EE 54 _ _ Try.func54 (by decide +kernel) rfl (show 2 ≤ _ by decide)]
  dsimp only [Try.f54]
  have w := wrap_in (n := left - (l.length : Int)) (by omega) (by omega)
  simp only [go_sem, w, szR, szT, szL_I]
  refine condL_dec (fun c1 => ?_) (fun c1 => ?_)
  · simp only [go_sem]
    rw [leftOf_neg (by omega)]
  · simp only [go_sem]
    rw [leftOf_pos (by omega)]
    rfl

theorem r140 (l : List Rx) (hl : l.length ≤ 9223372036854775807) (hc : ∀ x ∈ l, ∀ left : Int, 0 ≤ left → left ≤ 1048576 → run EE 136 [x.enc, .int .i64 left] [] = some (.int .i64 (szR x.enc left), [])) (left : Int) (h0 : 0 ≤ left) (h1 : left ≤ 1048576) : run EE 140 [.slc false 3 (l.map Rx.enc), .int .i64 left] [] = some (.int .i64 (szR (.slc false 3 (l.map Rx.enc)) left), []) := by
  rw [run_eq EE 140 _ _ Try.func140 (by decide +kernel) rfl (show 2 ≤ _ by decide)]
  dsimp only [Try.f140]
  have w := wrap_in (n := left - (l.length : Int)) (by omega) (by omega)
  simp only [go_sem, w]
  have e : szR (.slc false 3 (l.map Rx.enc)) left = leftOf (l.length + szL (l.map Rx.enc)) left := by simp only [szR, szT, List.length_map]
  rw [e]
  refine condL_dec (fun c => ?_) (fun c => ?_)
  · simp only [go_sem]
    rw [leftOf_neg (by omega)]
  simp only [go_sem]
  refine (iter_inv (fun x : Nat × Int => x.1 ≤ l.length ∧ 0 ≤ x.2 ∧ x.2 ≤ 1048576) (fun x => { t := upd (upd (upd (e0) 5 (.int .i64 x.1)) 1 (.int .i64 x.2)) 0 (.slc false 3 (l.map Rx.enc)), b := n0, o := [], r := #[ResultVar.tmp 4], f := 140, n := 27 }) (fun x => some (.int .i64 (szRL ((l.drop x.1).map Rx.enc) x.2), [])) (fun x => l.length - x.1) ?_ (0, left - (l.length : Int)) ⟨Nat.zero_le _, by show 0 ≤ left - (l.length : Int); omega, by show left - (l.length : Int) ≤ 1048576; omega⟩).trans ?_
  · rintro ⟨i, left⟩ ⟨hi, a0, a1⟩ ih
    dsimp only at hi a0 a1 ⊢
    by_cases h : i < l.length
    · have k1 : (i : Int) < l.length := by omega
      have w := wrap_nat (n := i) (by omega)
      have hx := hc l[i] (List.getElem_mem h) left a0 a1
      rw [List.drop_eq_getElem_cons h, List.map_cons, szRL_cons]
      have hle : szR l[i].enc left ≤ left ∨ szR l[i].enc left = -1 := by unfold szR leftOf; split <;> omega
      generalize szR l[i].enc left = r at hx hle ⊢
      simp only [Rx.enc_eq, Vals.enc, Mor.enc, Sta.enc, Con.enc, Line.enc, Ans.enc, Prob.enc, Prog.enc, Ses.enc] at hx
      simp only [go_sem, k1, w, getD_map h, hx]
      refine condL_dec (fun c => ?_) (fun c => ?_)
      · simp only [go_sem]
        rw [if_pos c]
      · simp only [go_sem, w]
        rw [if_neg c]
        exact ih (i + 1, r) ⟨by show i + 1 ≤ l.length; omega, by show 0 ≤ r; omega, by show r ≤ 1048576; omega⟩ (by show l.length - (i + 1) < l.length - i; omega)
    · have k1 : ¬ (i : Int) < l.length := by omega
      simp only [go_sem, k1]
      rw [List.drop_eq_nil_of_le (by omega)]
      show _ = some (V.int .i64 (leftOf 0 left), [])
      rw [leftOf_pos (by omega)]
      simp
  · show some (V.int .i64 (leftOf (szL (l.map Rx.enc)) (left - (l.length : Int))), []) = _
    by_cases h : (szL (l.map Rx.enc) : Int) ≤ left - l.length
    · rw [leftOf_pos h, leftOf_pos (by omega)]
      refine congrArg some (congrArg (·, []) (congrArg (V.int .i64) ?_))
      omega
    · rw [leftOf_neg h, leftOf_neg (by omega)]

theorem r136 (x : Rx) (ho : okV x.enc) (left : Int) (h0 : 0 ≤ left) (h1 : left ≤ 1048576) : run EE 136 [x.enc, .int .i64 left] [] = some (.int .i64 (szR x.enc left), []) := by
  have ho' := ho
  simp only [Rx.enc_eq, Vals.enc, Mor.enc, Sta.enc, Con.enc, Line.enc, Ans.enc, Prob.enc, Prog.enc, Ses.enc, okV, okL, and_true, true_and, List.length_map] at ho'
  have hc : ∀ z ∈ x.args, ∀ left : Int, 0 ≤ left → left ≤ 1048576 → run EE 136 [z.enc, .int .i64 left] [] = some (.int .i64 (szR z.enc left), []) := fun z hz left a b => r136 z (okL_map ho'.2.2.2 hz) left a b
  rw [run_eq EE 136 _ _ Try.func136 (by decide +kernel) rfl (show 2 ≤ _ by decide)]
  dsimp only [Try.f136]
  have e : szR x.enc left = leftOf (szT x.enc) left := rfl
  rw [e]
  simp only [Rx.enc_eq, Vals.enc, Mor.enc, Sta.enc, Con.enc, Line.enc, Ans.enc, Prob.enc, Prog.enc, Ses.enc, szT, szL, List.length_map]
  have w1 := wrap_in (n := left - ((x.letter).size : Int)) (by omega) (by omega)
  simp only [go_sem, w1]
  refine condL_dec (fun c1 => ?_) (fun c1 => ?_)
  · simp only [go_sem]
    rw [leftOf_neg (by omega)]
  have w2 := r140 x.args (by simp only [Rx.enc_eq, Vals.enc, Mor.enc, Sta.enc, Con.enc, Line.enc, Ans.enc, Prob.enc, Prog.enc, Ses.enc, okV, okL, and_true, true_and, List.length_map] at ho; omega) hc (left - ((x.letter).size : Int)) (by omega) (by omega)
  unfold szR at w2
  generalize hn2 : szT (.slc false 3 (x.args.map Rx.enc)) = n2 at w2
  simp only [Rx.enc_eq, Vals.enc, Mor.enc, Sta.enc, Con.enc, Line.enc, Ans.enc, Prob.enc, Prog.enc, Ses.enc, szT, szL, List.length_map] at w2 hn2
  simp only [go_sem, w2]
  refine condL_dec (fun c2 => ?_) (fun c2 => ?_)
  · have := leftOf_lt (by omega) c2
    simp only [go_sem]
    rw [leftOf_neg (by omega)]
  obtain ⟨e2, b2⟩ := leftOf_ge c2
  simp only [go_sem, e2]
  rw [leftOf_pos (by omega)]
  refine congrArg some (congrArg (·, []) (congrArg (V.int .i64) ?_))
  omega
  termination_by SizeOf.sizeOf x
  decreasing_by exact Rx.lt _ hz

theorem r23 (x : Sta) (ho : okV x.enc) (left : Int) (h0 : 0 ≤ left) (h1 : left ≤ 1048576) : run EE 23 [x.enc, .int .i64 left] [] = some (.int .i64 (szR x.enc left), []) := by
  have ho' := ho
  simp only [Rx.enc_eq, Vals.enc, Mor.enc, Sta.enc, Con.enc, Line.enc, Ans.enc, Prob.enc, Prog.enc, Ses.enc, okV, okL, and_true, true_and, List.length_map] at ho'
  rw [run_eq EE 23 _ _ Try.func23 (by decide +kernel) rfl (show 2 ≤ _ by decide)]
  dsimp only [Try.f23]
  have e : szR x.enc left = leftOf (szT x.enc) left := rfl
  rw [e]
  simp only [Rx.enc_eq, Vals.enc, Mor.enc, Sta.enc, Con.enc, Line.enc, Ans.enc, Prob.enc, Prog.enc, Ses.enc, szT, szL, List.length_map]
  have w1 := wrap_in (n := left - ((x.left).size : Int)) (by omega) (by omega)
  simp only [go_sem, w1]
  refine condL_dec (fun c1 => ?_) (fun c1 => ?_)
  · simp only [go_sem]
    rw [leftOf_neg (by omega)]
  have w2 := wrap_in (n := left - ((x.left).size : Int) - ((x.right).size : Int)) (by omega) (by omega)
  simp only [go_sem, w2]
  refine condL_dec (fun c2 => ?_) (fun c2 => ?_)
  · simp only [go_sem]
    rw [leftOf_neg (by omega)]
  have w3 := r54 x.maps (by simp only [Rx.enc_eq, Vals.enc, Mor.enc, Sta.enc, Con.enc, Line.enc, Ans.enc, Prob.enc, Prog.enc, Ses.enc, okV, okL, and_true, true_and, List.length_map] at ho; omega) (left - ((x.left).size : Int) - ((x.right).size : Int)) (by omega) (by omega)
  unfold szR at w3
  generalize hn3 : szT (.slc false 1 (x.maps.map I)) = n3 at w3
  simp only [Rx.enc_eq, Vals.enc, Mor.enc, Sta.enc, Con.enc, Line.enc, Ans.enc, Prob.enc, Prog.enc, Ses.enc, szT, szL, List.length_map] at w3 hn3
  simp only [go_sem, w3]
  refine condL_dec (fun c3 => ?_) (fun c3 => ?_)
  · have := leftOf_lt (by omega) c3
    simp only [go_sem]
    rw [leftOf_neg (by omega)]
  obtain ⟨e3, b3⟩ := leftOf_ge c3
  simp only [go_sem, e3]
  rw [leftOf_pos (by omega)]
  refine congrArg some (congrArg (·, []) (congrArg (V.int .i64) ?_))
  omega

theorem r22 (l : List Sta) (hl : l.length ≤ 9223372036854775807) (hc : ∀ x ∈ l, ∀ left : Int, 0 ≤ left → left ≤ 1048576 → run EE 23 [x.enc, .int .i64 left] [] = some (.int .i64 (szR x.enc left), [])) (left : Int) (h0 : 0 ≤ left) (h1 : left ≤ 1048576) : run EE 22 [.slc false 3 (l.map Sta.enc), .int .i64 left] [] = some (.int .i64 (szR (.slc false 3 (l.map Sta.enc)) left), []) := by
  rw [run_eq EE 22 _ _ Try.func22 (by decide +kernel) rfl (show 2 ≤ _ by decide)]
  dsimp only [Try.f22]
  have w := wrap_in (n := left - (l.length : Int)) (by omega) (by omega)
  simp only [go_sem, w]
  have e : szR (.slc false 3 (l.map Sta.enc)) left = leftOf (l.length + szL (l.map Sta.enc)) left := by simp only [szR, szT, List.length_map]
  rw [e]
  refine condL_dec (fun c => ?_) (fun c => ?_)
  · simp only [go_sem]
    rw [leftOf_neg (by omega)]
  simp only [go_sem]
  refine (iter_inv (fun x : Nat × Int => x.1 ≤ l.length ∧ 0 ≤ x.2 ∧ x.2 ≤ 1048576) (fun x => { t := upd (upd (upd (e0) 5 (.int .i64 x.1)) 1 (.int .i64 x.2)) 0 (.slc false 3 (l.map Sta.enc)), b := n0, o := [], r := #[ResultVar.tmp 4], f := 22, n := 27 }) (fun x => some (.int .i64 (szRL ((l.drop x.1).map Sta.enc) x.2), [])) (fun x => l.length - x.1) ?_ (0, left - (l.length : Int)) ⟨Nat.zero_le _, by show 0 ≤ left - (l.length : Int); omega, by show left - (l.length : Int) ≤ 1048576; omega⟩).trans ?_
  · rintro ⟨i, left⟩ ⟨hi, a0, a1⟩ ih
    dsimp only at hi a0 a1 ⊢
    by_cases h : i < l.length
    · have k1 : (i : Int) < l.length := by omega
      have w := wrap_nat (n := i) (by omega)
      have hx := hc l[i] (List.getElem_mem h) left a0 a1
      rw [List.drop_eq_getElem_cons h, List.map_cons, szRL_cons]
      have hle : szR l[i].enc left ≤ left ∨ szR l[i].enc left = -1 := by unfold szR leftOf; split <;> omega
      generalize szR l[i].enc left = r at hx hle ⊢
      simp only [Rx.enc_eq, Vals.enc, Mor.enc, Sta.enc, Con.enc, Line.enc, Ans.enc, Prob.enc, Prog.enc, Ses.enc] at hx
      simp only [go_sem, k1, w, getD_map h, hx]
      refine condL_dec (fun c => ?_) (fun c => ?_)
      · simp only [go_sem]
        rw [if_pos c]
      · simp only [go_sem, w]
        rw [if_neg c]
        exact ih (i + 1, r) ⟨by show i + 1 ≤ l.length; omega, by show 0 ≤ r; omega, by show r ≤ 1048576; omega⟩ (by show l.length - (i + 1) < l.length - i; omega)
    · have k1 : ¬ (i : Int) < l.length := by omega
      simp only [go_sem, k1]
      rw [List.drop_eq_nil_of_le (by omega)]
      show _ = some (V.int .i64 (leftOf 0 left), [])
      rw [leftOf_pos (by omega)]
      simp
  · show some (V.int .i64 (leftOf (szL (l.map Sta.enc)) (left - (l.length : Int))), []) = _
    by_cases h : (szL (l.map Sta.enc) : Int) ≤ left - l.length
    · rw [leftOf_pos h, leftOf_pos (by omega)]
      refine congrArg some (congrArg (·, []) (congrArg (V.int .i64) ?_))
      omega
    · rw [leftOf_neg h, leftOf_neg (by omega)]

theorem r36 (x : Vals) (ho : okV x.enc) (left : Int) (h0 : 0 ≤ left) (h1 : left ≤ 1048576) : run EE 36 [x.enc, .int .i64 left] [] = some (.int .i64 (szR x.enc left), []) := by
  have ho' := ho
  simp only [Rx.enc_eq, Vals.enc, Mor.enc, Sta.enc, Con.enc, Line.enc, Ans.enc, Prob.enc, Prog.enc, Ses.enc, okV, okL, and_true, true_and, List.length_map] at ho'
  rw [run_eq EE 36 _ _ Try.func36 (by decide +kernel) rfl (show 2 ≤ _ by decide)]
  dsimp only [Try.f36]
  have e : szR x.enc left = leftOf (szT x.enc) left := rfl
  rw [e]
  simp only [Rx.enc_eq, Vals.enc, Mor.enc, Sta.enc, Con.enc, Line.enc, Ans.enc, Prob.enc, Prog.enc, Ses.enc, szT, szL, List.length_map]
  have w1 := wrap_in (n := left - ((x.x).size : Int)) (by omega) (by omega)
  simp only [go_sem, w1]
  refine condL_dec (fun c1 => ?_) (fun c1 => ?_)
  · simp only [go_sem]
    rw [leftOf_neg (by omega)]
  have w2 := wrap_in (n := left - ((x.x).size : Int) - ((x.y).size : Int)) (by omega) (by omega)
  simp only [go_sem, w2]
  refine condL_dec (fun c2 => ?_) (fun c2 => ?_)
  · simp only [go_sem]
    rw [leftOf_neg (by omega)]
  have w3 := wrap_in (n := left - ((x.x).size : Int) - ((x.y).size : Int) - ((x.z).size : Int)) (by omega) (by omega)
  simp only [go_sem, w3]
  refine condL_dec (fun c3 => ?_) (fun c3 => ?_)
  · simp only [go_sem]
    rw [leftOf_neg (by omega)]
  simp only [go_sem]
  rw [leftOf_pos (by omega)]
  refine congrArg some (congrArg (·, []) (congrArg (V.int .i64) ?_))
  omega

theorem r13 (x : Mor) (ho : okV x.enc) (left : Int) (h0 : 0 ≤ left) (h1 : left ≤ 1048576) : run EE 13 [x.enc, .int .i64 left] [] = some (.int .i64 (szR x.enc left), []) := by
  have ho' := ho
  simp only [Rx.enc_eq, Vals.enc, Mor.enc, Sta.enc, Con.enc, Line.enc, Ans.enc, Prob.enc, Prog.enc, Ses.enc, okV, okL, and_true, true_and, List.length_map] at ho'
  rw [run_eq EE 13 _ _ Try.func13 (by decide +kernel) rfl (show 2 ≤ _ by decide)]
  dsimp only [Try.f13]
  have e : szR x.enc left = leftOf (szT x.enc) left := rfl
  rw [e]
  simp only [Rx.enc_eq, Vals.enc, Mor.enc, Sta.enc, Con.enc, Line.enc, Ans.enc, Prob.enc, Prog.enc, Ses.enc, szT, szL, List.length_map]
  have w1 := wrap_in (n := left - ((x.a).size : Int)) (by omega) (by omega)
  simp only [go_sem, w1]
  refine condL_dec (fun c1 => ?_) (fun c1 => ?_)
  · simp only [go_sem]
    rw [leftOf_neg (by omega)]
  have w2 := wrap_in (n := left - ((x.a).size : Int) - ((x.b).size : Int)) (by omega) (by omega)
  simp only [go_sem, w2]
  refine condL_dec (fun c2 => ?_) (fun c2 => ?_)
  · simp only [go_sem]
    rw [leftOf_neg (by omega)]
  have w3 := wrap_in (n := left - ((x.a).size : Int) - ((x.b).size : Int) - ((x.c).size : Int)) (by omega) (by omega)
  simp only [go_sem, w3]
  refine condL_dec (fun c3 => ?_) (fun c3 => ?_)
  · simp only [go_sem]
    rw [leftOf_neg (by omega)]
  simp only [go_sem]
  rw [leftOf_pos (by omega)]
  refine congrArg some (congrArg (·, []) (congrArg (V.int .i64) ?_))
  omega

theorem r128 (x : Con) (ho : okV x.enc) (left : Int) (h0 : 0 ≤ left) (h1 : left ≤ 1048576) : run EE 128 [x.enc, .int .i64 left] [] = some (.int .i64 (szR x.enc left), []) := by
  have ho' := ho
  simp only [Rx.enc_eq, Vals.enc, Mor.enc, Sta.enc, Con.enc, Line.enc, Ans.enc, Prob.enc, Prog.enc, Ses.enc, okV, okL, and_true, true_and, List.length_map] at ho'
  rw [run_eq EE 128 _ _ Try.func128 (by decide +kernel) rfl (show 2 ≤ _ by decide)]
  dsimp only [Try.f128]
  have e : szR x.enc left = leftOf (szT x.enc) left := rfl
  rw [e]
  simp only [Rx.enc_eq, Vals.enc, Mor.enc, Sta.enc, Con.enc, Line.enc, Ans.enc, Prob.enc, Prog.enc, Ses.enc, szT, szL, List.length_map]
  have w1 := wrap_in (n := left - ((x.left).size : Int)) (by omega) (by omega)
  simp only [go_sem, w1]
  refine condL_dec (fun c1 => ?_) (fun c1 => ?_)
  · simp only [go_sem]
    rw [leftOf_neg (by omega)]
  have w2 := wrap_in (n := left - ((x.left).size : Int) - ((x.right).size : Int)) (by omega) (by omega)
  simp only [go_sem, w2]
  refine condL_dec (fun c2 => ?_) (fun c2 => ?_)
  · simp only [go_sem]
    rw [leftOf_neg (by omega)]
  have w3 := r136 x.regex (by simp only [Rx.enc_eq, Vals.enc, Mor.enc, Sta.enc, Con.enc, Line.enc, Ans.enc, Prob.enc, Prog.enc, Ses.enc, okV, okL, and_true, true_and, List.length_map] at ho ⊢; simp only [ho, and_self]) (left - ((x.left).size : Int) - ((x.right).size : Int)) (by omega) (by omega)
  unfold szR at w3
  generalize hn3 : szT (x.regex.enc) = n3 at w3
  simp only [Rx.enc_eq, Vals.enc, Mor.enc, Sta.enc, Con.enc, Line.enc, Ans.enc, Prob.enc, Prog.enc, Ses.enc, szT, szL, List.length_map] at w3 hn3
  simp only [go_sem, w3]
  refine condL_dec (fun c3 => ?_) (fun c3 => ?_)
  · have := leftOf_lt (by omega) c3
    simp only [go_sem]
    rw [leftOf_neg (by omega)]
  obtain ⟨e3, b3⟩ := leftOf_ge c3
  have w4 := r54 x.coeffs (by simp only [Rx.enc_eq, Vals.enc, Mor.enc, Sta.enc, Con.enc, Line.enc, Ans.enc, Prob.enc, Prog.enc, Ses.enc, okV, okL, and_true, true_and, List.length_map] at ho; omega) (left - ((x.left).size : Int) - ((x.right).size : Int) - (n3 : Int)) (by omega) (by omega)
  unfold szR at w4
  generalize hn4 : szT (.slc false 1 (x.coeffs.map I)) = n4 at w4
  simp only [Rx.enc_eq, Vals.enc, Mor.enc, Sta.enc, Con.enc, Line.enc, Ans.enc, Prob.enc, Prog.enc, Ses.enc, szT, szL, List.length_map] at w4 hn4
  simp only [go_sem, w4, e3]
  refine condL_dec (fun c4 => ?_) (fun c4 => ?_)
  · have := leftOf_lt (by omega) c4
    simp only [go_sem, e3]
    rw [leftOf_neg (by omega)]
  obtain ⟨e4, b4⟩ := leftOf_ge c4
  simp only [go_sem, e3, e4]
  rw [leftOf_pos (by omega)]
  refine congrArg some (congrArg (·, []) (congrArg (V.int .i64) ?_))
  omega

theorem r112 (l : List Con) (hl : l.length ≤ 9223372036854775807) (hc : ∀ x ∈ l, ∀ left : Int, 0 ≤ left → left ≤ 1048576 → run EE 128 [x.enc, .int .i64 left] [] = some (.int .i64 (szR x.enc left), [])) (left : Int) (h0 : 0 ≤ left) (h1 : left ≤ 1048576) : run EE 112 [.slc false 8 (l.map Con.enc), .int .i64 left] [] = some (.int .i64 (szR (.slc false 8 (l.map Con.enc)) left), []) := by
  rw [run_eq EE 112 _ _ Try.func112 (by decide +kernel) rfl (show 2 ≤ _ by decide)]
  dsimp only [Try.f112]
  have w := wrap_in (n := left - (l.length : Int)) (by omega) (by omega)
  simp only [go_sem, w]
  have e : szR (.slc false 8 (l.map Con.enc)) left = leftOf (l.length + szL (l.map Con.enc)) left := by simp only [szR, szT, List.length_map]
  rw [e]
  refine condL_dec (fun c => ?_) (fun c => ?_)
  · simp only [go_sem]
    rw [leftOf_neg (by omega)]
  simp only [go_sem]
  refine (iter_inv (fun x : Nat × Int => x.1 ≤ l.length ∧ 0 ≤ x.2 ∧ x.2 ≤ 1048576) (fun x => { t := upd (upd (upd (e0) 5 (.int .i64 x.1)) 1 (.int .i64 x.2)) 0 (.slc false 8 (l.map Con.enc)), b := n0, o := [], r := #[ResultVar.tmp 4], f := 112, n := 27 }) (fun x => some (.int .i64 (szRL ((l.drop x.1).map Con.enc) x.2), [])) (fun x => l.length - x.1) ?_ (0, left - (l.length : Int)) ⟨Nat.zero_le _, by show 0 ≤ left - (l.length : Int); omega, by show left - (l.length : Int) ≤ 1048576; omega⟩).trans ?_
  · rintro ⟨i, left⟩ ⟨hi, a0, a1⟩ ih
    dsimp only at hi a0 a1 ⊢
    by_cases h : i < l.length
    · have k1 : (i : Int) < l.length := by omega
      have w := wrap_nat (n := i) (by omega)
      have hx := hc l[i] (List.getElem_mem h) left a0 a1
      rw [List.drop_eq_getElem_cons h, List.map_cons, szRL_cons]
      have hle : szR l[i].enc left ≤ left ∨ szR l[i].enc left = -1 := by unfold szR leftOf; split <;> omega
      generalize szR l[i].enc left = r at hx hle ⊢
      simp only [Rx.enc_eq, Vals.enc, Mor.enc, Sta.enc, Con.enc, Line.enc, Ans.enc, Prob.enc, Prog.enc, Ses.enc] at hx
      simp only [go_sem, k1, w, getD_map h, hx]
      refine condL_dec (fun c => ?_) (fun c => ?_)
      · simp only [go_sem]
        rw [if_pos c]
      · simp only [go_sem, w]
        rw [if_neg c]
        exact ih (i + 1, r) ⟨by show i + 1 ≤ l.length; omega, by show 0 ≤ r; omega, by show r ≤ 1048576; omega⟩ (by show l.length - (i + 1) < l.length - i; omega)
    · have k1 : ¬ (i : Int) < l.length := by omega
      simp only [go_sem, k1]
      rw [List.drop_eq_nil_of_le (by omega)]
      show _ = some (V.int .i64 (leftOf 0 left), [])
      rw [leftOf_pos (by omega)]
      simp
  · show some (V.int .i64 (leftOf (szL (l.map Con.enc)) (left - (l.length : Int))), []) = _
    by_cases h : (szL (l.map Con.enc) : Int) ≤ left - l.length
    · rw [leftOf_pos h, leftOf_pos (by omega)]
      refine congrArg some (congrArg (·, []) (congrArg (V.int .i64) ?_))
      omega
    · rw [leftOf_neg h, leftOf_neg (by omega)]

theorem r129 (x : Line) (ho : okV x.enc) (left : Int) (h0 : 0 ≤ left) (h1 : left ≤ 1048576) : run EE 129 [x.enc, .int .i64 left] [] = some (.int .i64 (szR x.enc left), []) := by
  have ho' := ho
  simp only [Rx.enc_eq, Vals.enc, Mor.enc, Sta.enc, Con.enc, Line.enc, Ans.enc, Prob.enc, Prog.enc, Ses.enc, okV, okL, and_true, true_and, List.length_map] at ho'
  rw [run_eq EE 129 _ _ Try.func129 (by decide +kernel) rfl (show 2 ≤ _ by decide)]
  dsimp only [Try.f129]
  have e : szR x.enc left = leftOf (szT x.enc) left := rfl
  rw [e]
  simp only [Rx.enc_eq, Vals.enc, Mor.enc, Sta.enc, Con.enc, Line.enc, Ans.enc, Prob.enc, Prog.enc, Ses.enc, szT, szL, List.length_map]
  have w1 := wrap_in (n := left - ((x.text).size : Int)) (by omega) (by omega)
  simp only [go_sem, w1]
  refine condL_dec (fun c1 => ?_) (fun c1 => ?_)
  · simp only [go_sem]
    rw [leftOf_neg (by omega)]
  have w2 := r13 x.mor (by simp only [Rx.enc_eq, Vals.enc, Mor.enc, Sta.enc, Con.enc, Line.enc, Ans.enc, Prob.enc, Prog.enc, Ses.enc, okV, okL, and_true, true_and, List.length_map] at ho ⊢; simp only [ho, and_self]) (left - ((x.text).size : Int)) (by omega) (by omega)
  unfold szR at w2
  generalize hn2 : szT (x.mor.enc) = n2 at w2
  simp only [Rx.enc_eq, Vals.enc, Mor.enc, Sta.enc, Con.enc, Line.enc, Ans.enc, Prob.enc, Prog.enc, Ses.enc, szT, szL, List.length_map] at w2 hn2
  simp only [go_sem, w2]
  refine condL_dec (fun c2 => ?_) (fun c2 => ?_)
  · have := leftOf_lt (by omega) c2
    simp only [go_sem]
    rw [leftOf_neg (by omega)]
  obtain ⟨e2, b2⟩ := leftOf_ge c2
  have w3 := r136 x.regex (by simp only [Rx.enc_eq, Vals.enc, Mor.enc, Sta.enc, Con.enc, Line.enc, Ans.enc, Prob.enc, Prog.enc, Ses.enc, okV, okL, and_true, true_and, List.length_map] at ho ⊢; simp only [ho, and_self]) (left - ((x.text).size : Int) - (n2 : Int)) (by omega) (by omega)
  unfold szR at w3
  generalize hn3 : szT (x.regex.enc) = n3 at w3
  simp only [Rx.enc_eq, Vals.enc, Mor.enc, Sta.enc, Con.enc, Line.enc, Ans.enc, Prob.enc, Prog.enc, Ses.enc, szT, szL, List.length_map] at w3 hn3
  simp only [go_sem, w3, e2]
  refine condL_dec (fun c3 => ?_) (fun c3 => ?_)
  · have := leftOf_lt (by omega) c3
    simp only [go_sem, e2]
    rw [leftOf_neg (by omega)]
  obtain ⟨e3, b3⟩ := leftOf_ge c3
  simp only [go_sem, e2, e3]
  rw [leftOf_pos (by omega)]
  refine congrArg some (congrArg (·, []) (congrArg (V.int .i64) ?_))
  omega

theorem r113 (l : List Line) (hl : l.length ≤ 9223372036854775807) (hc : ∀ x ∈ l, ∀ left : Int, 0 ≤ left → left ≤ 1048576 → run EE 129 [x.enc, .int .i64 left] [] = some (.int .i64 (szR x.enc left), [])) (left : Int) (h0 : 0 ≤ left) (h1 : left ≤ 1048576) : run EE 113 [.slc false 8 (l.map Line.enc), .int .i64 left] [] = some (.int .i64 (szR (.slc false 8 (l.map Line.enc)) left), []) := by
  rw [run_eq EE 113 _ _ Try.func113 (by decide +kernel) rfl (show 2 ≤ _ by decide)]
  dsimp only [Try.f113]
  have w := wrap_in (n := left - (l.length : Int)) (by omega) (by omega)
  simp only [go_sem, w]
  have e : szR (.slc false 8 (l.map Line.enc)) left = leftOf (l.length + szL (l.map Line.enc)) left := by simp only [szR, szT, List.length_map]
  rw [e]
  refine condL_dec (fun c => ?_) (fun c => ?_)
  · simp only [go_sem]
    rw [leftOf_neg (by omega)]
  simp only [go_sem]
  refine (iter_inv (fun x : Nat × Int => x.1 ≤ l.length ∧ 0 ≤ x.2 ∧ x.2 ≤ 1048576) (fun x => { t := upd (upd (upd (e0) 5 (.int .i64 x.1)) 1 (.int .i64 x.2)) 0 (.slc false 8 (l.map Line.enc)), b := n0, o := [], r := #[ResultVar.tmp 4], f := 113, n := 27 }) (fun x => some (.int .i64 (szRL ((l.drop x.1).map Line.enc) x.2), [])) (fun x => l.length - x.1) ?_ (0, left - (l.length : Int)) ⟨Nat.zero_le _, by show 0 ≤ left - (l.length : Int); omega, by show left - (l.length : Int) ≤ 1048576; omega⟩).trans ?_
  · rintro ⟨i, left⟩ ⟨hi, a0, a1⟩ ih
    dsimp only at hi a0 a1 ⊢
    by_cases h : i < l.length
    · have k1 : (i : Int) < l.length := by omega
      have w := wrap_nat (n := i) (by omega)
      have hx := hc l[i] (List.getElem_mem h) left a0 a1
      rw [List.drop_eq_getElem_cons h, List.map_cons, szRL_cons]
      have hle : szR l[i].enc left ≤ left ∨ szR l[i].enc left = -1 := by unfold szR leftOf; split <;> omega
      generalize szR l[i].enc left = r at hx hle ⊢
      simp only [Rx.enc_eq, Vals.enc, Mor.enc, Sta.enc, Con.enc, Line.enc, Ans.enc, Prob.enc, Prog.enc, Ses.enc] at hx
      simp only [go_sem, k1, w, getD_map h, hx]
      refine condL_dec (fun c => ?_) (fun c => ?_)
      · simp only [go_sem]
        rw [if_pos c]
      · simp only [go_sem, w]
        rw [if_neg c]
        exact ih (i + 1, r) ⟨by show i + 1 ≤ l.length; omega, by show 0 ≤ r; omega, by show r ≤ 1048576; omega⟩ (by show l.length - (i + 1) < l.length - i; omega)
    · have k1 : ¬ (i : Int) < l.length := by omega
      simp only [go_sem, k1]
      rw [List.drop_eq_nil_of_le (by omega)]
      show _ = some (V.int .i64 (leftOf 0 left), [])
      rw [leftOf_pos (by omega)]
      simp
  · show some (V.int .i64 (leftOf (szL (l.map Line.enc)) (left - (l.length : Int))), []) = _
    by_cases h : (szL (l.map Line.enc) : Int) ≤ left - l.length
    · rw [leftOf_pos h, leftOf_pos (by omega)]
      refine congrArg some (congrArg (·, []) (congrArg (V.int .i64) ?_))
      omega
    · rw [leftOf_neg h, leftOf_neg (by omega)]

theorem r82 (x : Ans) (ho : okV x.enc) (left : Int) (h0 : 0 ≤ left) (h1 : left ≤ 1048576) : run EE 82 [x.enc, .int .i64 left] [] = some (.int .i64 (szR x.enc left), []) := by
  have ho' := ho
  simp only [Rx.enc_eq, Vals.enc, Mor.enc, Sta.enc, Con.enc, Line.enc, Ans.enc, Prob.enc, Prog.enc, Ses.enc, okV, okL, and_true, true_and, List.length_map] at ho'
  rw [run_eq EE 82 _ _ Try.func82 (by decide +kernel) rfl (show 2 ≤ _ by decide)]
  dsimp only [Try.f82]
  have e : szR x.enc left = leftOf (szT x.enc) left := rfl
  rw [e]
  simp only [Rx.enc_eq, Vals.enc, Mor.enc, Sta.enc, Con.enc, Line.enc, Ans.enc, Prob.enc, Prog.enc, Ses.enc, szT, szL, List.length_map]
  have w1 := r36 x.vals (by simp only [Rx.enc_eq, Vals.enc, Mor.enc, Sta.enc, Con.enc, Line.enc, Ans.enc, Prob.enc, Prog.enc, Ses.enc, okV, okL, and_true, true_and, List.length_map] at ho ⊢; simp only [ho, and_self]) (left) (by omega) (by omega)
  unfold szR at w1
  generalize hn1 : szT (x.vals.enc) = n1 at w1
  simp only [Rx.enc_eq, Vals.enc, Mor.enc, Sta.enc, Con.enc, Line.enc, Ans.enc, Prob.enc, Prog.enc, Ses.enc, szT, szL, List.length_map] at w1 hn1
  simp only [go_sem, w1]
  refine condL_dec (fun c1 => ?_) (fun c1 => ?_)
  · have := leftOf_lt (by omega) c1
    simp only [go_sem]
    rw [leftOf_neg (by omega)]
  obtain ⟨e1, b1⟩ := leftOf_ge c1
  have w2 := r22 x.nodes (by simp only [Rx.enc_eq, Vals.enc, Mor.enc, Sta.enc, Con.enc, Line.enc, Ans.enc, Prob.enc, Prog.enc, Ses.enc, okV, okL, and_true, true_and, List.length_map] at ho; omega) (fun z hz left a b => r23 z (okL_map (by simp only [Rx.enc_eq, Vals.enc, Mor.enc, Sta.enc, Con.enc, Line.enc, Ans.enc, Prob.enc, Prog.enc, Ses.enc, okV, okL, and_true, true_and, List.length_map] at ho; simp only [ho]) hz) left a b) (left - (n1 : Int)) (by omega) (by omega)
  unfold szR at w2
  generalize hn2 : szT (.slc false 3 (x.nodes.map Sta.enc)) = n2 at w2
  simp only [Rx.enc_eq, Vals.enc, Mor.enc, Sta.enc, Con.enc, Line.enc, Ans.enc, Prob.enc, Prog.enc, Ses.enc, szT, szL, List.length_map] at w2 hn2
  simp only [go_sem, w2, e1]
  refine condL_dec (fun c2 => ?_) (fun c2 => ?_)
  · have := leftOf_lt (by omega) c2
    simp only [go_sem, e1]
    rw [leftOf_neg (by omega)]
  obtain ⟨e2, b2⟩ := leftOf_ge c2
  simp only [go_sem, e1, e2]
  rw [leftOf_pos (by omega)]
  refine congrArg some (congrArg (·, []) (congrArg (V.int .i64) ?_))
  omega

theorem r81 (x : Prob) (ho : okV x.enc) (left : Int) (h0 : 0 ≤ left) (h1 : left ≤ 1048576) : run EE 81 [x.enc, .int .i64 left] [] = some (.int .i64 (szR x.enc left), []) := by
  have ho' := ho
  simp only [Rx.enc_eq, Vals.enc, Mor.enc, Sta.enc, Con.enc, Line.enc, Ans.enc, Prob.enc, Prog.enc, Ses.enc, okV, okL, and_true, true_and, List.length_map] at ho'
  rw [run_eq EE 81 _ _ Try.func81 (by decide +kernel) rfl (show 2 ≤ _ by decide)]
  dsimp only [Try.f81]
  have e : szR x.enc left = leftOf (szT x.enc) left := rfl
  rw [e]
  simp only [Rx.enc_eq, Vals.enc, Mor.enc, Sta.enc, Con.enc, Line.enc, Ans.enc, Prob.enc, Prog.enc, Ses.enc, szT, szL, List.length_map]
  have w1 := r112 x.list (by simp only [Rx.enc_eq, Vals.enc, Mor.enc, Sta.enc, Con.enc, Line.enc, Ans.enc, Prob.enc, Prog.enc, Ses.enc, okV, okL, and_true, true_and, List.length_map] at ho; omega) (fun z hz left a b => r128 z (okL_map (by simp only [Rx.enc_eq, Vals.enc, Mor.enc, Sta.enc, Con.enc, Line.enc, Ans.enc, Prob.enc, Prog.enc, Ses.enc, okV, okL, and_true, true_and, List.length_map] at ho; simp only [ho]) hz) left a b) (left) (by omega) (by omega)
  unfold szR at w1
  generalize hn1 : szT (.slc false 8 (x.list.map Con.enc)) = n1 at w1
  simp only [Rx.enc_eq, Vals.enc, Mor.enc, Sta.enc, Con.enc, Line.enc, Ans.enc, Prob.enc, Prog.enc, Ses.enc, szT, szL, List.length_map] at w1 hn1
  simp only [go_sem, w1]
  refine condL_dec (fun c1 => ?_) (fun c1 => ?_)
  · have := leftOf_lt (by omega) c1
    simp only [go_sem]
    rw [leftOf_neg (by omega)]
  obtain ⟨e1, b1⟩ := leftOf_ge c1
  simp only [go_sem, e1]
  rw [leftOf_pos (by omega)]
  refine congrArg some (congrArg (·, []) (congrArg (V.int .i64) ?_))
  omega

theorem r83 (x : Prog) (ho : okV x.enc) (left : Int) (h0 : 0 ≤ left) (h1 : left ≤ 1048576) : run EE 83 [x.enc, .int .i64 left] [] = some (.int .i64 (szR x.enc left), []) := by
  have ho' := ho
  simp only [Rx.enc_eq, Vals.enc, Mor.enc, Sta.enc, Con.enc, Line.enc, Ans.enc, Prob.enc, Prog.enc, Ses.enc, okV, okL, and_true, true_and, List.length_map] at ho'
  rw [run_eq EE 83 _ _ Try.func83 (by decide +kernel) rfl (show 2 ≤ _ by decide)]
  dsimp only [Try.f83]
  have e : szR x.enc left = leftOf (szT x.enc) left := rfl
  rw [e]
  simp only [Rx.enc_eq, Vals.enc, Mor.enc, Sta.enc, Con.enc, Line.enc, Ans.enc, Prob.enc, Prog.enc, Ses.enc, szT, szL, List.length_map]
  have w1 := r113 x.lines (by simp only [Rx.enc_eq, Vals.enc, Mor.enc, Sta.enc, Con.enc, Line.enc, Ans.enc, Prob.enc, Prog.enc, Ses.enc, okV, okL, and_true, true_and, List.length_map] at ho; omega) (fun z hz left a b => r129 z (okL_map (by simp only [Rx.enc_eq, Vals.enc, Mor.enc, Sta.enc, Con.enc, Line.enc, Ans.enc, Prob.enc, Prog.enc, Ses.enc, okV, okL, and_true, true_and, List.length_map] at ho; simp only [ho]) hz) left a b) (left) (by omega) (by omega)
  unfold szR at w1
  generalize hn1 : szT (.slc false 8 (x.lines.map Line.enc)) = n1 at w1
  simp only [Rx.enc_eq, Vals.enc, Mor.enc, Sta.enc, Con.enc, Line.enc, Ans.enc, Prob.enc, Prog.enc, Ses.enc, szT, szL, List.length_map] at w1 hn1
  simp only [go_sem, w1]
  refine condL_dec (fun c1 => ?_) (fun c1 => ?_)
  · have := leftOf_lt (by omega) c1
    simp only [go_sem]
    rw [leftOf_neg (by omega)]
  obtain ⟨e1, b1⟩ := leftOf_ge c1
  simp only [go_sem, e1]
  rw [leftOf_pos (by omega)]
  refine congrArg some (congrArg (·, []) (congrArg (V.int .i64) ?_))
  omega

theorem r42 (x : Ses) (ho : okV x.enc) (left : Int) (h0 : 0 ≤ left) (h1 : left ≤ 1048576) : run EE 42 [x.enc, .int .i64 left] [] = some (.int .i64 (szR x.enc left), []) := by
  have ho' := ho
  simp only [Rx.enc_eq, Vals.enc, Mor.enc, Sta.enc, Con.enc, Line.enc, Ans.enc, Prob.enc, Prog.enc, Ses.enc, okV, okL, and_true, true_and, List.length_map] at ho'
  rw [run_eq EE 42 _ _ Try.func42 (by decide +kernel) rfl (show 2 ≤ _ by decide)]
  dsimp only [Try.f42]
  have e : szR x.enc left = leftOf (szT x.enc) left := rfl
  rw [e]
  simp only [Rx.enc_eq, Vals.enc, Mor.enc, Sta.enc, Con.enc, Line.enc, Ans.enc, Prob.enc, Prog.enc, Ses.enc, szT, szL, List.length_map]
  have w1 := r81 x.prob (by simp only [Rx.enc_eq, Vals.enc, Mor.enc, Sta.enc, Con.enc, Line.enc, Ans.enc, Prob.enc, Prog.enc, Ses.enc, okV, okL, and_true, true_and, List.length_map] at ho ⊢; simp only [ho, and_self]) (left) (by omega) (by omega)
  unfold szR at w1
  generalize hn1 : szT (x.prob.enc) = n1 at w1
  simp only [Rx.enc_eq, Vals.enc, Mor.enc, Sta.enc, Con.enc, Line.enc, Ans.enc, Prob.enc, Prog.enc, Ses.enc, szT, szL, List.length_map] at w1 hn1
  simp only [go_sem, w1]
  refine condL_dec (fun c1 => ?_) (fun c1 => ?_)
  · have := leftOf_lt (by omega) c1
    simp only [go_sem]
    rw [leftOf_neg (by omega)]
  obtain ⟨e1, b1⟩ := leftOf_ge c1
  have w2 := r82 x.ans (by simp only [Rx.enc_eq, Vals.enc, Mor.enc, Sta.enc, Con.enc, Line.enc, Ans.enc, Prob.enc, Prog.enc, Ses.enc, okV, okL, and_true, true_and, List.length_map] at ho ⊢; simp only [ho, and_self]) (left - (n1 : Int)) (by omega) (by omega)
  unfold szR at w2
  generalize hn2 : szT (x.ans.enc) = n2 at w2
  simp only [Rx.enc_eq, Vals.enc, Mor.enc, Sta.enc, Con.enc, Line.enc, Ans.enc, Prob.enc, Prog.enc, Ses.enc, szT, szL, List.length_map] at w2 hn2
  simp only [go_sem, w2, e1]
  refine condL_dec (fun c2 => ?_) (fun c2 => ?_)
  · have := leftOf_lt (by omega) c2
    simp only [go_sem, e1]
    rw [leftOf_neg (by omega)]
  obtain ⟨e2, b2⟩ := leftOf_ge c2
  have w3 := r83 x.prog (by simp only [Rx.enc_eq, Vals.enc, Mor.enc, Sta.enc, Con.enc, Line.enc, Ans.enc, Prob.enc, Prog.enc, Ses.enc, okV, okL, and_true, true_and, List.length_map] at ho ⊢; simp only [ho, and_self]) (left - (n1 : Int) - (n2 : Int)) (by omega) (by omega)
  unfold szR at w3
  generalize hn3 : szT (x.prog.enc) = n3 at w3
  simp only [Rx.enc_eq, Vals.enc, Mor.enc, Sta.enc, Con.enc, Line.enc, Ans.enc, Prob.enc, Prog.enc, Ses.enc, szT, szL, List.length_map] at w3 hn3
  simp only [go_sem, w3, e1, e2]
  refine condL_dec (fun c3 => ?_) (fun c3 => ?_)
  · have := leftOf_lt (by omega) c3
    simp only [go_sem, e1, e2]
    rw [leftOf_neg (by omega)]
  obtain ⟨e3, b3⟩ := leftOf_ge c3
  simp only [go_sem, e1, e2, e3]
  rw [leftOf_pos (by omega)]
  refine congrArg some (congrArg (·, []) (congrArg (V.int .i64) ?_))
  omega
end Go.Ev
