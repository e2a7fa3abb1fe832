/- Typed cells as the laws' data. -/
import Derived.Test.YtdepiibcopbjlaaEvArgs
import Derived.Test.YtdepiibcopbjlaaEvData
import Derived.Test.YtdepiibcopbjlaaProg
namespace Go.Ev
open Go Go.Proofs Go.RowKit
set_option maxRecDepth 10000
set_option linter.unusedVariables false
set_option linter.unusedSimpArgs false
theorem un3 : Try.prog.underlying 3 = some (.int .i64) := by kernel_rfl
theorem ce3 : Try.prog.cellsOf 3 = 1 := by kernel_rfl
theorem un9 : Try.prog.underlying 9 = some .string := by kernel_rfl
theorem ce9 : Try.prog.cellsOf 9 = 1 := by kernel_rfl
theorem un173 : Try.prog.underlying 173 = some (.slice 175) := by kernel_rfl
theorem ce173 : Try.prog.cellsOf 173 = 1 := by kernel_rfl
theorem ag175 : isAgg Try.prog 175 = true := by kernel_rfl
theorem fo175 : fieldsOf Try.prog 175 = some [(3, 0), (9, 1), (173, 2)] := by kernel_rfl
theorem ce175 : Try.prog.cellsOf 175 = 3 := by kernel_rfl
theorem ty175 : ∀ (n : Nat) (vs : List V), TyOk Try.prog n 175 vs → ∃ x : Rx, V.agg vs = x.enc ∧ okV x.enc := by
  intro n
  induction n using Nat.strongRecOn with
  | _ n ih =>
  cases n with
  | zero => intro vs h; cases h
  | succ n =>
    intro vs h
    obtain ⟨hl, hf⟩ := tyOk_struct fo175 h
    rw [ce175] at hl
    match vs, hl with
    | [a0, a1, a2], _ =>
      have h0 := hf (3, 0) (by simp)
      dsimp only at h0
      rw [ce3] at h0
      simp only [List.drop_succ_cons, List.drop_zero, List.take_succ_cons, List.take_zero] at h0
      obtain ⟨m0, e0, o0⟩ := tyOk_int un3 h0
      obtain rfl : a0 = _ := (List.cons.inj e0).1
      have h1 := hf (9, 1) (by simp)
      dsimp only at h1
      rw [ce9] at h1
      simp only [List.drop_succ_cons, List.drop_zero, List.take_succ_cons, List.take_zero] at h1
      obtain ⟨m1, e1, o1⟩ := tyOk_str un9 h1
      obtain rfl : a1 = _ := (List.cons.inj e1).1
      have h2 := hf (173, 2) (by simp)
      dsimp only at h2
      rw [ce173] at h2
      simp only [List.drop_succ_cons, List.drop_zero, List.take_succ_cons, List.take_zero] at h2
      obtain ⟨m2, e2, l2, o2⟩ := tyOk_slcR un173 (fun m hm us hu => ty_agg ag175 (ih m (by omega) us hu)) h2
      obtain rfl : a2 = _ := (List.cons.inj e2).1
      rw [ce175]
      refine ⟨⟨m0, m1, m2⟩, ?_, ?_⟩
      · simp only [Rx.enc_eq, Vals.enc, Mor.enc, Sta.enc, Con.enc, Line.enc, Ans.enc, Prob.enc, Prog.enc, Ses.enc, V.agg.injEq, List.cons.injEq, and_true, true_and]
      · simp only [Rx.enc_eq, Vals.enc, Mor.enc, Sta.enc, Con.enc, Line.enc, Ans.enc, Prob.enc, Prog.enc, Ses.enc, okV, okL, List.length_map, and_true, true_and]
        simp only [o0, o1, l2, o2, and_self]
theorem un38 : Try.prog.underlying 38 = some (.slice 3) := by kernel_rfl
theorem ce38 : Try.prog.cellsOf 38 = 1 := by kernel_rfl
theorem ag3 : isAgg Try.prog 3 = false := by kernel_rfl
theorem ty38 : ∀ (n : Nat) (vs : List V), TyOk Try.prog n 38 vs → ∃ l : List Int, vs = [.slc false 1 (l.map I)] ∧ l.length ≤ 9223372036854775807 ∧ okL (l.map I) := by
  intro n vs h
  cases n with
  | zero => cases h
  | succ n =>
    obtain ⟨l, h1, h2, h3⟩ := tyOk_slc un38 (f := I) (fun us hu => ty_int1 ag3 un3 hu) h
    rw [ce3] at h1
    exact ⟨l, h1, h2, h3⟩
theorem fo177 : fieldsOf Try.prog 177 = some [(3, 0), (9, 1), (9, 2), (175, 3), (38, 6), (3, 7)] := by kernel_rfl
theorem ce177 : Try.prog.cellsOf 177 = 8 := by kernel_rfl
theorem ty177 : ∀ (n : Nat) (vs : List V), TyOk Try.prog n 177 vs → ∃ x : Con, V.agg vs = x.enc ∧ okV x.enc := by
  intro n
  induction n using Nat.strongRecOn with
  | _ n ih =>
  cases n with
  | zero => intro vs h; cases h
  | succ n =>
    intro vs h
    obtain ⟨hl, hf⟩ := tyOk_struct fo177 h
    rw [ce177] at hl
    match vs, hl with
    | [a0, a1, a2, a3, a4, a5, a6, a7], _ =>
      have h0 := hf (3, 0) (by simp)
      dsimp only at h0
      rw [ce3] at h0
      simp only [List.drop_succ_cons, List.drop_zero, List.take_succ_cons, List.take_zero] at h0
      obtain ⟨m0, e0, o0⟩ := tyOk_int un3 h0
      obtain rfl : a0 = _ := (List.cons.inj e0).1
      have h1 := hf (9, 1) (by simp)
      dsimp only at h1
      rw [ce9] at h1
      simp only [List.drop_succ_cons, List.drop_zero, List.take_succ_cons, List.take_zero] at h1
      obtain ⟨m1, e1, o1⟩ := tyOk_str un9 h1
      obtain rfl : a1 = _ := (List.cons.inj e1).1
      have h2 := hf (9, 2) (by simp)
      dsimp only at h2
      rw [ce9] at h2
      simp only [List.drop_succ_cons, List.drop_zero, List.take_succ_cons, List.take_zero] at h2
      obtain ⟨m2, e2, o2⟩ := tyOk_str un9 h2
      obtain rfl : a2 = _ := (List.cons.inj e2).1
      have h3 := hf (175, 3) (by simp)
      dsimp only at h3
      rw [ce175] at h3
      simp only [List.drop_succ_cons, List.drop_zero, List.take_succ_cons, List.take_zero] at h3
      obtain ⟨m3, e3, o3⟩ := ty175 _ _ h3
      have h4 := hf (38, 6) (by simp)
      dsimp only at h4
      rw [ce38] at h4
      simp only [List.drop_succ_cons, List.drop_zero, List.take_succ_cons, List.take_zero] at h4
      obtain ⟨m4, e4, l4, o4⟩ := ty38 _ _ h4
      obtain rfl : a6 = _ := (List.cons.inj e4).1
      have h5 := hf (3, 7) (by simp)
      dsimp only at h5
      rw [ce3] at h5
      simp only [List.drop_succ_cons, List.drop_zero, List.take_succ_cons, List.take_zero] at h5
      obtain ⟨m5, e5, o5⟩ := tyOk_int un3 h5
      obtain rfl : a7 = _ := (List.cons.inj e5).1
      refine ⟨⟨m0, m1, m2, m3, m4, m5⟩, ?_, ?_⟩
      · simp only [Rx.enc_eq, Vals.enc, Mor.enc, Sta.enc, Con.enc, Line.enc, Ans.enc, Prob.enc, Prog.enc, Ses.enc, V.agg.injEq, List.cons.injEq, and_true] at e3; simp only [Rx.enc_eq, Vals.enc, Mor.enc, Sta.enc, Con.enc, Line.enc, Ans.enc, Prob.enc, Prog.enc, Ses.enc, V.agg.injEq, List.cons.injEq, and_true, true_and, e3]
      · simp only [Rx.enc_eq, Vals.enc, Mor.enc, Sta.enc, Con.enc, Line.enc, Ans.enc, Prob.enc, Prog.enc, Ses.enc, okV, okL, List.length_map, and_true, true_and]
        simp only [Rx.enc_eq, Vals.enc, Mor.enc, Sta.enc, Con.enc, Line.enc, Ans.enc, Prob.enc, Prog.enc, Ses.enc, okV, okL, List.length_map, and_true, true_and] at o3
        simp only [o0, o1, o2, o3, l4, o4, o5, and_self]
theorem un80 : Try.prog.underlying 80 = some (.slice 177) := by kernel_rfl
theorem ce80 : Try.prog.cellsOf 80 = 1 := by kernel_rfl
theorem ag177 : isAgg Try.prog 177 = true := by kernel_rfl
theorem ty80 : ∀ (n : Nat) (vs : List V), TyOk Try.prog n 80 vs → ∃ l : List Con, vs = [.slc false 8 (l.map Con.enc)] ∧ l.length ≤ 9223372036854775807 ∧ okL (l.map Con.enc) := by
  intro n vs h
  cases n with
  | zero => cases h
  | succ n =>
    obtain ⟨l, h1, h2, h3⟩ := tyOk_slc un80 (f := Con.enc) (fun us hu => ty_agg ag177 (ty177 _ _ hu)) h
    rw [ce177] at h1
    exact ⟨l, h1, h2, h3⟩
theorem fo82 : fieldsOf Try.prog 82 = some [(80, 0)] := by kernel_rfl
theorem ce82 : Try.prog.cellsOf 82 = 1 := by kernel_rfl
theorem ty82 : ∀ (n : Nat) (vs : List V), TyOk Try.prog n 82 vs → ∃ x : Prob, V.agg vs = x.enc ∧ okV x.enc := by
  intro n
  induction n using Nat.strongRecOn with
  | _ n ih =>
  cases n with
  | zero => intro vs h; cases h
  | succ n =>
    intro vs h
    obtain ⟨hl, hf⟩ := tyOk_struct fo82 h
    rw [ce82] at hl
    match vs, hl with
    | [a0], _ =>
      have h0 := hf (80, 0) (by simp)
      dsimp only at h0
      rw [ce80] at h0
      simp only [List.drop_succ_cons, List.drop_zero, List.take_succ_cons, List.take_zero] at h0
      obtain ⟨m0, e0, l0, o0⟩ := ty80 _ _ h0
      obtain rfl : a0 = _ := (List.cons.inj e0).1
      refine ⟨⟨m0⟩, ?_, ?_⟩
      · simp only [Rx.enc_eq, Vals.enc, Mor.enc, Sta.enc, Con.enc, Line.enc, Ans.enc, Prob.enc, Prog.enc, Ses.enc, V.agg.injEq, List.cons.injEq, and_true, true_and]
      · simp only [Rx.enc_eq, Vals.enc, Mor.enc, Sta.enc, Con.enc, Line.enc, Ans.enc, Prob.enc, Prog.enc, Ses.enc, okV, okL, List.length_map, and_true, true_and]
        simp only [l0, o0, and_self]
theorem fo52 : fieldsOf Try.prog 52 = some [(9, 0), (9, 1), (9, 2)] := by kernel_rfl
theorem ce52 : Try.prog.cellsOf 52 = 3 := by kernel_rfl
theorem ty52 : ∀ (n : Nat) (vs : List V), TyOk Try.prog n 52 vs → ∃ x : Vals, V.agg vs = x.enc ∧ okV x.enc := by
  intro n
  induction n using Nat.strongRecOn with
  | _ n ih =>
  cases n with
  | zero => intro vs h; cases h
  | succ n =>
    intro vs h
    obtain ⟨hl, hf⟩ := tyOk_struct fo52 h
    rw [ce52] at hl
    match vs, hl with
    | [a0, a1, a2], _ =>
      have h0 := hf (9, 0) (by simp)
      dsimp only at h0
      rw [ce9] at h0
      simp only [List.drop_succ_cons, List.drop_zero, List.take_succ_cons, List.take_zero] at h0
      obtain ⟨m0, e0, o0⟩ := tyOk_str un9 h0
      obtain rfl : a0 = _ := (List.cons.inj e0).1
      have h1 := hf (9, 1) (by simp)
      dsimp only at h1
      rw [ce9] at h1
      simp only [List.drop_succ_cons, List.drop_zero, List.take_succ_cons, List.take_zero] at h1
      obtain ⟨m1, e1, o1⟩ := tyOk_str un9 h1
      obtain rfl : a1 = _ := (List.cons.inj e1).1
      have h2 := hf (9, 2) (by simp)
      dsimp only at h2
      rw [ce9] at h2
      simp only [List.drop_succ_cons, List.drop_zero, List.take_succ_cons, List.take_zero] at h2
      obtain ⟨m2, e2, o2⟩ := tyOk_str un9 h2
      obtain rfl : a2 = _ := (List.cons.inj e2).1
      refine ⟨⟨m0, m1, m2⟩, ?_, ?_⟩
      · simp only [Rx.enc_eq, Vals.enc, Mor.enc, Sta.enc, Con.enc, Line.enc, Ans.enc, Prob.enc, Prog.enc, Ses.enc, V.agg.injEq, List.cons.injEq, and_true, true_and]
      · simp only [Rx.enc_eq, Vals.enc, Mor.enc, Sta.enc, Con.enc, Line.enc, Ans.enc, Prob.enc, Prog.enc, Ses.enc, okV, okL, List.length_map, and_true, true_and]
        simp only [o0, o1, o2, and_self]
theorem fo40 : fieldsOf Try.prog 40 = some [(9, 0), (9, 1), (38, 2)] := by kernel_rfl
theorem ce40 : Try.prog.cellsOf 40 = 3 := by kernel_rfl
theorem ty40 : ∀ (n : Nat) (vs : List V), TyOk Try.prog n 40 vs → ∃ x : Sta, V.agg vs = x.enc ∧ okV x.enc := by
  intro n
  induction n using Nat.strongRecOn with
  | _ n ih =>
  cases n with
  | zero => intro vs h; cases h
  | succ n =>
    intro vs h
    obtain ⟨hl, hf⟩ := tyOk_struct fo40 h
    rw [ce40] at hl
    match vs, hl with
    | [a0, a1, a2], _ =>
      have h0 := hf (9, 0) (by simp)
      dsimp only at h0
      rw [ce9] at h0
      simp only [List.drop_succ_cons, List.drop_zero, List.take_succ_cons, List.take_zero] at h0
      obtain ⟨m0, e0, o0⟩ := tyOk_str un9 h0
      obtain rfl : a0 = _ := (List.cons.inj e0).1
      have h1 := hf (9, 1) (by simp)
      dsimp only at h1
      rw [ce9] at h1
      simp only [List.drop_succ_cons, List.drop_zero, List.take_succ_cons, List.take_zero] at h1
      obtain ⟨m1, e1, o1⟩ := tyOk_str un9 h1
      obtain rfl : a1 = _ := (List.cons.inj e1).1
      have h2 := hf (38, 2) (by simp)
      dsimp only at h2
      rw [ce38] at h2
      simp only [List.drop_succ_cons, List.drop_zero, List.take_succ_cons, List.take_zero] at h2
      obtain ⟨m2, e2, l2, o2⟩ := ty38 _ _ h2
      obtain rfl : a2 = _ := (List.cons.inj e2).1
      refine ⟨⟨m0, m1, m2⟩, ?_, ?_⟩
      · simp only [Rx.enc_eq, Vals.enc, Mor.enc, Sta.enc, Con.enc, Line.enc, Ans.enc, Prob.enc, Prog.enc, Ses.enc, V.agg.injEq, List.cons.injEq, and_true, true_and]
      · simp only [Rx.enc_eq, Vals.enc, Mor.enc, Sta.enc, Con.enc, Line.enc, Ans.enc, Prob.enc, Prog.enc, Ses.enc, okV, okL, List.length_map, and_true, true_and]
        simp only [o0, o1, l2, o2, and_self]
theorem un37 : Try.prog.underlying 37 = some (.slice 40) := by kernel_rfl
theorem ce37 : Try.prog.cellsOf 37 = 1 := by kernel_rfl
theorem ag40 : isAgg Try.prog 40 = true := by kernel_rfl
theorem ty37 : ∀ (n : Nat) (vs : List V), TyOk Try.prog n 37 vs → ∃ l : List Sta, vs = [.slc false 3 (l.map Sta.enc)] ∧ l.length ≤ 9223372036854775807 ∧ okL (l.map Sta.enc) := by
  intro n vs h
  cases n with
  | zero => cases h
  | succ n =>
    obtain ⟨l, h1, h2, h3⟩ := tyOk_slc un37 (f := Sta.enc) (fun us hu => ty_agg ag40 (ty40 _ _ hu)) h
    rw [ce40] at h1
    exact ⟨l, h1, h2, h3⟩
theorem fo84 : fieldsOf Try.prog 84 = some [(3, 0), (52, 1), (37, 4), (3, 5)] := by kernel_rfl
theorem ce84 : Try.prog.cellsOf 84 = 6 := by kernel_rfl
theorem ty84 : ∀ (n : Nat) (vs : List V), TyOk Try.prog n 84 vs → ∃ x : Ans, V.agg vs = x.enc ∧ okV x.enc := by
  intro n
  induction n using Nat.strongRecOn with
  | _ n ih =>
  cases n with
  | zero => intro vs h; cases h
  | succ n =>
    intro vs h
    obtain ⟨hl, hf⟩ := tyOk_struct fo84 h
    rw [ce84] at hl
    match vs, hl with
    | [a0, a1, a2, a3, a4, a5], _ =>
      have h0 := hf (3, 0) (by simp)
      dsimp only at h0
      rw [ce3] at h0
      simp only [List.drop_succ_cons, List.drop_zero, List.take_succ_cons, List.take_zero] at h0
      obtain ⟨m0, e0, o0⟩ := tyOk_int un3 h0
      obtain rfl : a0 = _ := (List.cons.inj e0).1
      have h1 := hf (52, 1) (by simp)
      dsimp only at h1
      rw [ce52] at h1
      simp only [List.drop_succ_cons, List.drop_zero, List.take_succ_cons, List.take_zero] at h1
      obtain ⟨m1, e1, o1⟩ := ty52 _ _ h1
      have h2 := hf (37, 4) (by simp)
      dsimp only at h2
      rw [ce37] at h2
      simp only [List.drop_succ_cons, List.drop_zero, List.take_succ_cons, List.take_zero] at h2
      obtain ⟨m2, e2, l2, o2⟩ := ty37 _ _ h2
      obtain rfl : a4 = _ := (List.cons.inj e2).1
      have h3 := hf (3, 5) (by simp)
      dsimp only at h3
      rw [ce3] at h3
      simp only [List.drop_succ_cons, List.drop_zero, List.take_succ_cons, List.take_zero] at h3
      obtain ⟨m3, e3, o3⟩ := tyOk_int un3 h3
      obtain rfl : a5 = _ := (List.cons.inj e3).1
      refine ⟨⟨m0, m1, m2, m3⟩, ?_, ?_⟩
      · simp only [Rx.enc_eq, Vals.enc, Mor.enc, Sta.enc, Con.enc, Line.enc, Ans.enc, Prob.enc, Prog.enc, Ses.enc, V.agg.injEq, List.cons.injEq, and_true] at e1; simp only [Rx.enc_eq, Vals.enc, Mor.enc, Sta.enc, Con.enc, Line.enc, Ans.enc, Prob.enc, Prog.enc, Ses.enc, V.agg.injEq, List.cons.injEq, and_true, true_and, e1]
      · simp only [Rx.enc_eq, Vals.enc, Mor.enc, Sta.enc, Con.enc, Line.enc, Ans.enc, Prob.enc, Prog.enc, Ses.enc, okV, okL, List.length_map, and_true, true_and]
        simp only [Rx.enc_eq, Vals.enc, Mor.enc, Sta.enc, Con.enc, Line.enc, Ans.enc, Prob.enc, Prog.enc, Ses.enc, okV, okL, List.length_map, and_true, true_and] at o1
        simp only [o0, o1, l2, o2, o3, and_self]
theorem fo25 : fieldsOf Try.prog 25 = some [(9, 0), (9, 1), (9, 2)] := by kernel_rfl
theorem ce25 : Try.prog.cellsOf 25 = 3 := by kernel_rfl
theorem ty25 : ∀ (n : Nat) (vs : List V), TyOk Try.prog n 25 vs → ∃ x : Mor, V.agg vs = x.enc ∧ okV x.enc := by
  intro n
  induction n using Nat.strongRecOn with
  | _ n ih =>
  cases n with
  | zero => intro vs h; cases h
  | succ n =>
    intro vs h
    obtain ⟨hl, hf⟩ := tyOk_struct fo25 h
    rw [ce25] at hl
    match vs, hl with
    | [a0, a1, a2], _ =>
      have h0 := hf (9, 0) (by simp)
      dsimp only at h0
      rw [ce9] at h0
      simp only [List.drop_succ_cons, List.drop_zero, List.take_succ_cons, List.take_zero] at h0
      obtain ⟨m0, e0, o0⟩ := tyOk_str un9 h0
      obtain rfl : a0 = _ := (List.cons.inj e0).1
      have h1 := hf (9, 1) (by simp)
      dsimp only at h1
      rw [ce9] at h1
      simp only [List.drop_succ_cons, List.drop_zero, List.take_succ_cons, List.take_zero] at h1
      obtain ⟨m1, e1, o1⟩ := tyOk_str un9 h1
      obtain rfl : a1 = _ := (List.cons.inj e1).1
      have h2 := hf (9, 2) (by simp)
      dsimp only at h2
      rw [ce9] at h2
      simp only [List.drop_succ_cons, List.drop_zero, List.take_succ_cons, List.take_zero] at h2
      obtain ⟨m2, e2, o2⟩ := tyOk_str un9 h2
      obtain rfl : a2 = _ := (List.cons.inj e2).1
      refine ⟨⟨m0, m1, m2⟩, ?_, ?_⟩
      · simp only [Rx.enc_eq, Vals.enc, Mor.enc, Sta.enc, Con.enc, Line.enc, Ans.enc, Prob.enc, Prog.enc, Ses.enc, V.agg.injEq, List.cons.injEq, and_true, true_and]
      · simp only [Rx.enc_eq, Vals.enc, Mor.enc, Sta.enc, Con.enc, Line.enc, Ans.enc, Prob.enc, Prog.enc, Ses.enc, okV, okL, List.length_map, and_true, true_and]
        simp only [o0, o1, o2, and_self]
theorem fo180 : fieldsOf Try.prog 180 = some [(3, 0), (9, 1), (25, 2), (175, 5)] := by kernel_rfl
theorem ce180 : Try.prog.cellsOf 180 = 8 := by kernel_rfl
theorem ty180 : ∀ (n : Nat) (vs : List V), TyOk Try.prog n 180 vs → ∃ x : Line, V.agg vs = x.enc ∧ okV x.enc := by
  intro n
  induction n using Nat.strongRecOn with
  | _ n ih =>
  cases n with
  | zero => intro vs h; cases h
  | succ n =>
    intro vs h
    obtain ⟨hl, hf⟩ := tyOk_struct fo180 h
    rw [ce180] at hl
    match vs, hl with
    | [a0, a1, a2, a3, a4, a5, a6, a7], _ =>
      have h0 := hf (3, 0) (by simp)
      dsimp only at h0
      rw [ce3] at h0
      simp only [List.drop_succ_cons, List.drop_zero, List.take_succ_cons, List.take_zero] at h0
      obtain ⟨m0, e0, o0⟩ := tyOk_int un3 h0
      obtain rfl : a0 = _ := (List.cons.inj e0).1
      have h1 := hf (9, 1) (by simp)
      dsimp only at h1
      rw [ce9] at h1
      simp only [List.drop_succ_cons, List.drop_zero, List.take_succ_cons, List.take_zero] at h1
      obtain ⟨m1, e1, o1⟩ := tyOk_str un9 h1
      obtain rfl : a1 = _ := (List.cons.inj e1).1
      have h2 := hf (25, 2) (by simp)
      dsimp only at h2
      rw [ce25] at h2
      simp only [List.drop_succ_cons, List.drop_zero, List.take_succ_cons, List.take_zero] at h2
      obtain ⟨m2, e2, o2⟩ := ty25 _ _ h2
      have h3 := hf (175, 5) (by simp)
      dsimp only at h3
      rw [ce175] at h3
      simp only [List.drop_succ_cons, List.drop_zero, List.take_succ_cons, List.take_zero] at h3
      obtain ⟨m3, e3, o3⟩ := ty175 _ _ h3
      refine ⟨⟨m0, m1, m2, m3⟩, ?_, ?_⟩
      · simp only [Rx.enc_eq, Vals.enc, Mor.enc, Sta.enc, Con.enc, Line.enc, Ans.enc, Prob.enc, Prog.enc, Ses.enc, V.agg.injEq, List.cons.injEq, and_true] at e2; simp only [Rx.enc_eq, Vals.enc, Mor.enc, Sta.enc, Con.enc, Line.enc, Ans.enc, Prob.enc, Prog.enc, Ses.enc, V.agg.injEq, List.cons.injEq, and_true] at e3; simp only [Rx.enc_eq, Vals.enc, Mor.enc, Sta.enc, Con.enc, Line.enc, Ans.enc, Prob.enc, Prog.enc, Ses.enc, V.agg.injEq, List.cons.injEq, and_true, true_and, e2, e3]
      · simp only [Rx.enc_eq, Vals.enc, Mor.enc, Sta.enc, Con.enc, Line.enc, Ans.enc, Prob.enc, Prog.enc, Ses.enc, okV, okL, List.length_map, and_true, true_and]
        simp only [Rx.enc_eq, Vals.enc, Mor.enc, Sta.enc, Con.enc, Line.enc, Ans.enc, Prob.enc, Prog.enc, Ses.enc, okV, okL, List.length_map, and_true, true_and] at o2
        simp only [Rx.enc_eq, Vals.enc, Mor.enc, Sta.enc, Con.enc, Line.enc, Ans.enc, Prob.enc, Prog.enc, Ses.enc, okV, okL, List.length_map, and_true, true_and] at o3
        simp only [o0, o1, o2, o3, and_self]
theorem un85 : Try.prog.underlying 85 = some (.slice 180) := by kernel_rfl
theorem ce85 : Try.prog.cellsOf 85 = 1 := by kernel_rfl
theorem ag180 : isAgg Try.prog 180 = true := by kernel_rfl
theorem ty85 : ∀ (n : Nat) (vs : List V), TyOk Try.prog n 85 vs → ∃ l : List Line, vs = [.slc false 8 (l.map Line.enc)] ∧ l.length ≤ 9223372036854775807 ∧ okL (l.map Line.enc) := by
  intro n vs h
  cases n with
  | zero => cases h
  | succ n =>
    obtain ⟨l, h1, h2, h3⟩ := tyOk_slc un85 (f := Line.enc) (fun us hu => ty_agg ag180 (ty180 _ _ hu)) h
    rw [ce180] at h1
    exact ⟨l, h1, h2, h3⟩
theorem fo87 : fieldsOf Try.prog 87 = some [(85, 0)] := by kernel_rfl
theorem ce87 : Try.prog.cellsOf 87 = 1 := by kernel_rfl
theorem ty87 : ∀ (n : Nat) (vs : List V), TyOk Try.prog n 87 vs → ∃ x : Prog, V.agg vs = x.enc ∧ okV x.enc := by
  intro n
  induction n using Nat.strongRecOn with
  | _ n ih =>
  cases n with
  | zero => intro vs h; cases h
  | succ n =>
    intro vs h
    obtain ⟨hl, hf⟩ := tyOk_struct fo87 h
    rw [ce87] at hl
    match vs, hl with
    | [a0], _ =>
      have h0 := hf (85, 0) (by simp)
      dsimp only at h0
      rw [ce85] at h0
      simp only [List.drop_succ_cons, List.drop_zero, List.take_succ_cons, List.take_zero] at h0
      obtain ⟨m0, e0, l0, o0⟩ := ty85 _ _ h0
      obtain rfl : a0 = _ := (List.cons.inj e0).1
      refine ⟨⟨m0⟩, ?_, ?_⟩
      · simp only [Rx.enc_eq, Vals.enc, Mor.enc, Sta.enc, Con.enc, Line.enc, Ans.enc, Prob.enc, Prog.enc, Ses.enc, V.agg.injEq, List.cons.injEq, and_true, true_and]
      · simp only [Rx.enc_eq, Vals.enc, Mor.enc, Sta.enc, Con.enc, Line.enc, Ans.enc, Prob.enc, Prog.enc, Ses.enc, okV, okL, List.length_map, and_true, true_and]
        simp only [l0, o0, and_self]
theorem fo89 : fieldsOf Try.prog 89 = some [(82, 0), (84, 1), (87, 7)] := by kernel_rfl
theorem ce89 : Try.prog.cellsOf 89 = 8 := by kernel_rfl
theorem ty89 : ∀ (n : Nat) (vs : List V), TyOk Try.prog n 89 vs → ∃ x : Ses, V.agg vs = x.enc ∧ okV x.enc := by
  intro n
  induction n using Nat.strongRecOn with
  | _ n ih =>
  cases n with
  | zero => intro vs h; cases h
  | succ n =>
    intro vs h
    obtain ⟨hl, hf⟩ := tyOk_struct fo89 h
    rw [ce89] at hl
    match vs, hl with
    | [a0, a1, a2, a3, a4, a5, a6, a7], _ =>
      have h0 := hf (82, 0) (by simp)
      dsimp only at h0
      rw [ce82] at h0
      simp only [List.drop_succ_cons, List.drop_zero, List.take_succ_cons, List.take_zero] at h0
      obtain ⟨m0, e0, o0⟩ := ty82 _ _ h0
      have h1 := hf (84, 1) (by simp)
      dsimp only at h1
      rw [ce84] at h1
      simp only [List.drop_succ_cons, List.drop_zero, List.take_succ_cons, List.take_zero] at h1
      obtain ⟨m1, e1, o1⟩ := ty84 _ _ h1
      have h2 := hf (87, 7) (by simp)
      dsimp only at h2
      rw [ce87] at h2
      simp only [List.drop_succ_cons, List.drop_zero, List.take_succ_cons, List.take_zero] at h2
      obtain ⟨m2, e2, o2⟩ := ty87 _ _ h2
      refine ⟨⟨m0, m1, m2⟩, ?_, ?_⟩
      · simp only [Rx.enc_eq, Vals.enc, Mor.enc, Sta.enc, Con.enc, Line.enc, Ans.enc, Prob.enc, Prog.enc, Ses.enc, V.agg.injEq, List.cons.injEq, and_true] at e0; simp only [Rx.enc_eq, Vals.enc, Mor.enc, Sta.enc, Con.enc, Line.enc, Ans.enc, Prob.enc, Prog.enc, Ses.enc, V.agg.injEq, List.cons.injEq, and_true] at e1; simp only [Rx.enc_eq, Vals.enc, Mor.enc, Sta.enc, Con.enc, Line.enc, Ans.enc, Prob.enc, Prog.enc, Ses.enc, V.agg.injEq, List.cons.injEq, and_true] at e2; simp only [Rx.enc_eq, Vals.enc, Mor.enc, Sta.enc, Con.enc, Line.enc, Ans.enc, Prob.enc, Prog.enc, Ses.enc, V.agg.injEq, List.cons.injEq, and_true, true_and, e0, e1, e2]
      · simp only [Rx.enc_eq, Vals.enc, Mor.enc, Sta.enc, Con.enc, Line.enc, Ans.enc, Prob.enc, Prog.enc, Ses.enc, okV, okL, List.length_map, and_true, true_and]
        simp only [Rx.enc_eq, Vals.enc, Mor.enc, Sta.enc, Con.enc, Line.enc, Ans.enc, Prob.enc, Prog.enc, Ses.enc, okV, okL, List.length_map, and_true, true_and] at o0
        simp only [Rx.enc_eq, Vals.enc, Mor.enc, Sta.enc, Con.enc, Line.enc, Ans.enc, Prob.enc, Prog.enc, Ses.enc, okV, okL, List.length_map, and_true, true_and] at o1
        simp only [Rx.enc_eq, Vals.enc, Mor.enc, Sta.enc, Con.enc, Line.enc, Ans.enc, Prob.enc, Prog.enc, Ses.enc, okV, okL, List.length_map, and_true, true_and] at o2
        simp only [o0, o1, o2, and_self]
theorem closed : closedT Try.prog [3, 9, 173, 175, 38, 177, 80, 82, 52, 40, 37, 84, 25, 180, 85, 87, 89] = true := by kernel_rfl
end Go.Ev
