/- Typed cells as the laws' data. -/
import Derived.Test.YtdpcnjlmodogbaaGreatProg
import Derived.Test.YtdpcnjlmodogbaaGreatEvM
import Derived.Test.YtdpcnjlmodogbaaGreatEvJ
set_option linter.unusedVariables false
set_option linter.unusedSimpArgs false
namespace Go.Ev.Op
open Go Go.Proofs Go.RowKit Go.Ev
set_option maxRecDepth 10000
set_option linter.unusedVariables false
set_option linter.unusedSimpArgs false
theorem un3 : Tryz.prog.underlying 3 = some (.int .i64) := by kernel_rfl
theorem ce3 : Tryz.prog.cellsOf 3 = 1 := by kernel_rfl
theorem un9 : Tryz.prog.underlying 9 = some .string := by kernel_rfl
theorem ce9 : Tryz.prog.cellsOf 9 = 1 := by kernel_rfl
theorem fo46 : fieldsOf Tryz.prog 46 = some [(9, 0), (9, 1), (9, 2)] := by kernel_rfl
theorem ce46 : Tryz.prog.cellsOf 46 = 3 := by kernel_rfl
theorem ty46 : ∀ (n : Nat) (vs : List V), TyOk Tryz.prog n 46 vs → ∃ x : Mor, V.agg vs = x.enc ∧ okV x.enc := by
  intro n
  induction n using Nat.strongRecOn with
  | _ n ih =>
  cases n with
  | zero => intro vs h; cases h
  | succ n =>
    intro vs h
    obtain ⟨hl, hf⟩ := tyOk_struct fo46 h
    rw [ce46] at hl
    match vs, hl with
    | [a0, a1, a2], _ =>
      have h0 := hf (9, 0) (by simp)
      dsimp only at h0
      rw [ce9] at h0
      simp only [List.drop_succ_cons, List.drop_zero, List.take_succ_cons, List.take_zero] at h0
      obtain ⟨m0, e0, o0⟩ := tyOk_str un9 h0
      obtain rfl : a0 = _ := (List.cons.inj e0).1
      have h1 := hf (9, 1) (by simp)
      dsimp only at h1
      rw [ce9] at h1
      simp only [List.drop_succ_cons, List.drop_zero, List.take_succ_cons, List.take_zero] at h1
      obtain ⟨m1, e1, o1⟩ := tyOk_str un9 h1
      obtain rfl : a1 = _ := (List.cons.inj e1).1
      have h2 := hf (9, 2) (by simp)
      dsimp only at h2
      rw [ce9] at h2
      simp only [List.drop_succ_cons, List.drop_zero, List.take_succ_cons, List.take_zero] at h2
      obtain ⟨m2, e2, o2⟩ := tyOk_str un9 h2
      obtain rfl : a2 = _ := (List.cons.inj e2).1
      refine ⟨⟨m0, m1, m2⟩, ?_, ?_⟩
      · simp only [Rx.enc_eq, Vals.enc, Mor.enc, Sta.enc, Con.enc, Line.enc, Ans.enc, Prob.enc, Prog.enc, Ses.enc, Equ.enc, Mon.enc, Frm.enc, Mov.enc, Stp.enc, Dfa.enc, IL, I, B, V.agg.injEq, List.cons.injEq, and_true, true_and]
      · simp only [Rx.enc_eq, Vals.enc, Mor.enc, Sta.enc, Con.enc, Line.enc, Ans.enc, Prob.enc, Prog.enc, Ses.enc, Equ.enc, Mon.enc, Frm.enc, Mov.enc, Stp.enc, Dfa.enc, IL, I, B, okV, okL, List.length_map, and_true, true_and]
        simp only [o0, o1, o2, and_self]
theorem un47 : Tryz.prog.underlying 47 = some (.slice 49) := by kernel_rfl
theorem ce47 : Tryz.prog.cellsOf 47 = 1 := by kernel_rfl
theorem ag49 : isAgg Tryz.prog 49 = true := by kernel_rfl
theorem fo49 : fieldsOf Tryz.prog 49 = some [(3, 0), (9, 1), (47, 2)] := by kernel_rfl
theorem ce49 : Tryz.prog.cellsOf 49 = 3 := by kernel_rfl
theorem ty49 : ∀ (n : Nat) (vs : List V), TyOk Tryz.prog n 49 vs → ∃ x : Rx, V.agg vs = x.enc ∧ okV x.enc := by
  intro n
  induction n using Nat.strongRecOn with
  | _ n ih =>
  cases n with
  | zero => intro vs h; cases h
  | succ n =>
    intro vs h
    obtain ⟨hl, hf⟩ := tyOk_struct fo49 h
    rw [ce49] at hl
    match vs, hl with
    | [a0, a1, a2], _ =>
      have h0 := hf (3, 0) (by simp)
      dsimp only at h0
      rw [ce3] at h0
      simp only [List.drop_succ_cons, List.drop_zero, List.take_succ_cons, List.take_zero] at h0
      obtain ⟨m0, e0, o0⟩ := tyOk_int un3 h0
      obtain rfl : a0 = _ := (List.cons.inj e0).1
      have h1 := hf (9, 1) (by simp)
      dsimp only at h1
      rw [ce9] at h1
      simp only [List.drop_succ_cons, List.drop_zero, List.take_succ_cons, List.take_zero] at h1
      obtain ⟨m1, e1, o1⟩ := tyOk_str un9 h1
      obtain rfl : a1 = _ := (List.cons.inj e1).1
      have h2 := hf (47, 2) (by simp)
      dsimp only at h2
      rw [ce47] at h2
      simp only [List.drop_succ_cons, List.drop_zero, List.take_succ_cons, List.take_zero] at h2
      obtain ⟨m2, e2, l2, o2⟩ := tyOk_slcR un47 (fun m hm us hu => ty_agg ag49 (ih m (by omega) us hu)) h2
      obtain rfl : a2 = _ := (List.cons.inj e2).1
      rw [ce49]
      refine ⟨⟨m0, m1, m2⟩, ?_, ?_⟩
      · simp only [Rx.enc_eq, Vals.enc, Mor.enc, Sta.enc, Con.enc, Line.enc, Ans.enc, Prob.enc, Prog.enc, Ses.enc, Equ.enc, Mon.enc, Frm.enc, Mov.enc, Stp.enc, Dfa.enc, IL, I, B, V.agg.injEq, List.cons.injEq, and_true, true_and]
      · simp only [Rx.enc_eq, Vals.enc, Mor.enc, Sta.enc, Con.enc, Line.enc, Ans.enc, Prob.enc, Prog.enc, Ses.enc, Equ.enc, Mon.enc, Frm.enc, Mov.enc, Stp.enc, Dfa.enc, IL, I, B, okV, okL, List.length_map, and_true, true_and]
        simp only [o0, o1, l2, o2, and_self]
theorem fo51 : fieldsOf Tryz.prog 51 = some [(3, 0), (9, 1), (46, 2), (49, 5)] := by kernel_rfl
theorem ce51 : Tryz.prog.cellsOf 51 = 8 := by kernel_rfl
theorem ty51 : ∀ (n : Nat) (vs : List V), TyOk Tryz.prog n 51 vs → ∃ x : Line, V.agg vs = x.enc ∧ okV x.enc := by
  intro n
  induction n using Nat.strongRecOn with
  | _ n ih =>
  cases n with
  | zero => intro vs h; cases h
  | succ n =>
    intro vs h
    obtain ⟨hl, hf⟩ := tyOk_struct fo51 h
    rw [ce51] at hl
    match vs, hl with
    | [a0, a1, a2, a3, a4, a5, a6, a7], _ =>
      have h0 := hf (3, 0) (by simp)
      dsimp only at h0
      rw [ce3] at h0
      simp only [List.drop_succ_cons, List.drop_zero, List.take_succ_cons, List.take_zero] at h0
      obtain ⟨m0, e0, o0⟩ := tyOk_int un3 h0
      obtain rfl : a0 = _ := (List.cons.inj e0).1
      have h1 := hf (9, 1) (by simp)
      dsimp only at h1
      rw [ce9] at h1
      simp only [List.drop_succ_cons, List.drop_zero, List.take_succ_cons, List.take_zero] at h1
      obtain ⟨m1, e1, o1⟩ := tyOk_str un9 h1
      obtain rfl : a1 = _ := (List.cons.inj e1).1
      have h2 := hf (46, 2) (by simp)
      dsimp only at h2
      rw [ce46] at h2
      simp only [List.drop_succ_cons, List.drop_zero, List.take_succ_cons, List.take_zero] at h2
      obtain ⟨m2, e2, o2⟩ := ty46 _ _ h2
      have h3 := hf (49, 5) (by simp)
      dsimp only at h3
      rw [ce49] at h3
      simp only [List.drop_succ_cons, List.drop_zero, List.take_succ_cons, List.take_zero] at h3
      obtain ⟨m3, e3, o3⟩ := ty49 _ _ h3
      refine ⟨⟨m0, m1, m2, m3⟩, ?_, ?_⟩
      · simp only [Rx.enc_eq, Vals.enc, Mor.enc, Sta.enc, Con.enc, Line.enc, Ans.enc, Prob.enc, Prog.enc, Ses.enc, Equ.enc, Mon.enc, Frm.enc, Mov.enc, Stp.enc, Dfa.enc, IL, I, B, V.agg.injEq, List.cons.injEq, and_true] at e2; simp only [Rx.enc_eq, Vals.enc, Mor.enc, Sta.enc, Con.enc, Line.enc, Ans.enc, Prob.enc, Prog.enc, Ses.enc, Equ.enc, Mon.enc, Frm.enc, Mov.enc, Stp.enc, Dfa.enc, IL, I, B, V.agg.injEq, List.cons.injEq, and_true] at e3; simp only [Rx.enc_eq, Vals.enc, Mor.enc, Sta.enc, Con.enc, Line.enc, Ans.enc, Prob.enc, Prog.enc, Ses.enc, Equ.enc, Mon.enc, Frm.enc, Mov.enc, Stp.enc, Dfa.enc, IL, I, B, V.agg.injEq, List.cons.injEq, and_true, true_and, e2, e3]
      · simp only [Rx.enc_eq, Vals.enc, Mor.enc, Sta.enc, Con.enc, Line.enc, Ans.enc, Prob.enc, Prog.enc, Ses.enc, Equ.enc, Mon.enc, Frm.enc, Mov.enc, Stp.enc, Dfa.enc, IL, I, B, okV, okL, List.length_map, and_true, true_and]
        simp only [Rx.enc_eq, Vals.enc, Mor.enc, Sta.enc, Con.enc, Line.enc, Ans.enc, Prob.enc, Prog.enc, Ses.enc, Equ.enc, Mon.enc, Frm.enc, Mov.enc, Stp.enc, Dfa.enc, IL, I, B, okV, okL, List.length_map, and_true, true_and] at o2
        simp only [Rx.enc_eq, Vals.enc, Mor.enc, Sta.enc, Con.enc, Line.enc, Ans.enc, Prob.enc, Prog.enc, Ses.enc, Equ.enc, Mon.enc, Frm.enc, Mov.enc, Stp.enc, Dfa.enc, IL, I, B, okV, okL, List.length_map, and_true, true_and] at o3
        simp only [o0, o1, o2, o3, and_self]
theorem un22 : Tryz.prog.underlying 22 = some (.slice 51) := by kernel_rfl
theorem ce22 : Tryz.prog.cellsOf 22 = 1 := by kernel_rfl
theorem ag51 : isAgg Tryz.prog 51 = true := by kernel_rfl
theorem ty22 : ∀ (n : Nat) (vs : List V), TyOk Tryz.prog n 22 vs → ∃ l : List Line, vs = [.slc false 8 (l.map Line.enc)] ∧ l.length ≤ 9223372036854775807 ∧ okL (l.map Line.enc) := by
  intro n vs h
  cases n with
  | zero => cases h
  | succ n =>
    obtain ⟨l, h1, h2, h3⟩ := tyOk_slc un22 (f := Line.enc) (fun us hu => ty_agg ag51 (ty51 _ _ hu)) h
    rw [ce51] at h1
    exact ⟨l, h1, h2, h3⟩
theorem fo24 : fieldsOf Tryz.prog 24 = some [(22, 0)] := by kernel_rfl
theorem ce24 : Tryz.prog.cellsOf 24 = 1 := by kernel_rfl
theorem ty24 : ∀ (n : Nat) (vs : List V), TyOk Tryz.prog n 24 vs → ∃ x : Prog, V.agg vs = x.enc ∧ okV x.enc := by
  intro n
  induction n using Nat.strongRecOn with
  | _ n ih =>
  cases n with
  | zero => intro vs h; cases h
  | succ n =>
    intro vs h
    obtain ⟨hl, hf⟩ := tyOk_struct fo24 h
    rw [ce24] at hl
    match vs, hl with
    | [a0], _ =>
      have h0 := hf (22, 0) (by simp)
      dsimp only at h0
      rw [ce22] at h0
      simp only [List.drop_succ_cons, List.drop_zero, List.take_succ_cons, List.take_zero] at h0
      obtain ⟨m0, e0, l0, o0⟩ := ty22 _ _ h0
      obtain rfl : a0 = _ := (List.cons.inj e0).1
      refine ⟨⟨m0⟩, ?_, ?_⟩
      · simp only [Rx.enc_eq, Vals.enc, Mor.enc, Sta.enc, Con.enc, Line.enc, Ans.enc, Prob.enc, Prog.enc, Ses.enc, Equ.enc, Mon.enc, Frm.enc, Mov.enc, Stp.enc, Dfa.enc, IL, I, B, V.agg.injEq, List.cons.injEq, and_true, true_and]
      · simp only [Rx.enc_eq, Vals.enc, Mor.enc, Sta.enc, Con.enc, Line.enc, Ans.enc, Prob.enc, Prog.enc, Ses.enc, Equ.enc, Mon.enc, Frm.enc, Mov.enc, Stp.enc, Dfa.enc, IL, I, B, okV, okL, List.length_map, and_true, true_and]
        simp only [l0, o0, and_self]
theorem closed : closedT Tryz.prog [3, 9, 46, 47, 49, 51, 22, 24] = true := by kernel_rfl
end Go.Ev.Op
