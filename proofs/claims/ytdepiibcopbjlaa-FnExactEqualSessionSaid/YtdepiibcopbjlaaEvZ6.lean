/- The law. -/
import Derived.Test.YtdepiibcopbjlaaEvEnv
import Derived.Test.YtdepiibcopbjlaaEvData
import Derived.Test.YtdepiibcopbjlaaEvZ1
import Derived.Test.YtdepiibcopbjlaaEvZ2
import Derived.Test.YtdepiibcopbjlaaEvZ3
import Derived.Test.YtdepiibcopbjlaaEvZ4
import Derived.Test.YtdepiibcopbjlaaEvZ5
namespace Go.Ev
open Go Go.Proofs
set_option maxRecDepth 10000
set_option linter.unusedVariables false
set_option linter.unusedSimpArgs false
theorem law10 (x y : Ses) (ox : okV x.enc) (oy : okV y.enc) : run EE 10 [x.enc, y.enc] [] = some (.bool true, []) := by
  have z1 := r42 x ox 1048576 (by omega) (by omega)
  unfold szR at z1
  generalize hn1 : szT x.enc = n1 at z1
  simp only [Rx.enc_eq, Vals.enc, Mor.enc, Sta.enc, Con.enc, Line.enc, Ans.enc, Prob.enc, Prog.enc, Ses.enc] at z1
  rw [run_eq EE 10 _ _ Try.func10 (by decide +kernel) rfl (show 2 ≤ _ by decide)]
  dsimp only [Try.f10]
  simp only [go_sem, z1]
  refine condL_dec (fun c1 => ?_) (fun c1 => ?_)
  · simp only [go_sem]
  obtain ⟨e1, b1⟩ := leftOf_ge c1
  have z2 := r42 y oy (1048576 - (n1 : Int)) (by omega) (by omega)
  unfold szR at z2
  generalize hn2 : szT y.enc = n2 at z2
  simp only [Rx.enc_eq, Vals.enc, Mor.enc, Sta.enc, Con.enc, Line.enc, Ans.enc, Prob.enc, Prog.enc, Ses.enc] at z2
  simp only [go_sem, e1, z2]
  refine condL_dec (fun c2 => ?_) (fun c2 => ?_)
  · simp only [go_sem]
  obtain ⟨e2, b2⟩ := leftOf_ge c2
  have tx := r44 x (by omega)
  have ty := r44 y (by omega)
  have sp := r43 x y (by omega)
  have im := r45 x y (by omega)
  have ex := r46 x x (by omega)
  have ey := r46 y y (by omega)
  rw [veq_refl] at ex ey
  generalize veq x.enc y.enc = b at sp im
  simp only [Rx.enc_eq, Vals.enc, Mor.enc, Sta.enc, Con.enc, Line.enc, Ans.enc, Prob.enc, Prog.enc, Ses.enc] at tx ty sp im ex ey
  simp only [go_sem, e1, e2]
  rw [q_drawn]
  rotate_left
  · kernel_rfl
  simp only [go_sem, tx, ty, sp, im, bne_self_eq_false, condL_b, beq_self_eq_true, bne, Bool.not_true]
  rw [q_drawn]
  rotate_left
  · kernel_rfl
  simp only [go_sem, tx, ty, ex, Bool.not_true]
  rw [q_drawn]
  rotate_left
  · kernel_rfl
  simp only [go_sem, tx, ty, ey, Bool.not_true]
end Go.Ev
