/- Copies. -/
import Derived.Test.YtdepiibcopbjlaaEvEnv
import Derived.Test.YtdepiibcopbjlaaEvData
namespace Go.Ev
open Go Go.Proofs
set_option maxRecDepth 10000
set_option linter.unusedVariables false
set_option linter.unusedSimpArgs false
theorem r56 (l : List Int) (hl : l.length ≤ 1048576) : run EE 56 [.slc false 1 (l.map I)] [] = some (.slc false 1 (l.map I), []) := by
  rw [run_eq EE 56 _ _ Try.func56 (by decide +kernel) rfl (show 1 ≤ _ by decide)]
  dsimp only [Try.f56]
  have h8 : (l.length : Int) * 8 ≤ 140737488355328 := by omega
  simp only [go_sem, h8]
  refine iter_inv (fun i : Nat => i ≤ l.length) (fun i => { t := upd (upd (upd (e0) 4 (.int .i64 i)) 3 (.aref 0 7 l.length)) 0 (.slc false 1 (l.map I)), b := upd (n0) 7 (some (Ob.arr false 1 (fill I l (.int .i64 0) i))), o := [], r := #[ResultVar.tmp 2], f := 56, n := 22 }) (fun _ => some (.slc false 1 (l.map I), [])) (fun i => l.length - i) ?_ 0 (Nat.zero_le _)
  intro i hi ih
  by_cases h : i < l.length
  · have h1 : (i : Int) < l.length := by omega
    have w := wrap_nat (n := i) (by omega)
    simp only [go_sem, h, h1, w, getD_map h, I, fill_len I l (.int .i64 0) hi]
    rw [fill_set I l (.int .i64 0) h (.int .i64 l[i]) rfl]
    exact ih (i + 1) (by omega) (by omega)
  · have h1 : ¬ (i : Int) < l.length := by omega
    obtain rfl : i = l.length := by omega
    simp only [go_sem, h1, fill_all]

theorem r141 (l : List Rx) (hl : l.length ≤ 1048576) (hc : ∀ x ∈ l, run EE 137 [x.enc] [] = some (x.enc, [])) : run EE 141 [.slc false 3 (l.map Rx.enc)] [] = some (.slc false 3 (l.map Rx.enc), []) := by
  rw [run_eq EE 141 _ _ Try.func141 (by decide +kernel) rfl (show 1 ≤ _ by decide)]
  dsimp only [Try.f141]
  have h8 : (l.length : Int) * 48 ≤ 140737488355328 := by omega
  simp only [go_sem, h8]
  refine iter_inv (fun i : Nat => i ≤ l.length) (fun i => { t := upd (upd (upd (e0) 4 (.int .i64 i)) 3 (.aref 0 7 l.length)) 0 (.slc false 3 (l.map Rx.enc)), b := upd (n0) 7 (some (Ob.arr false 3 (fill Rx.enc l (dflt Try.prog 142) i))), o := [], r := #[ResultVar.tmp 2], f := 141, n := 23 }) (fun _ => some (.slc false 3 (l.map Rx.enc), [])) (fun i => l.length - i) ?_ 0 (Nat.zero_le _)
  intro i hi ih
  by_cases h : i < l.length
  · have h1 : (i : Int) < l.length := by omega
    have w := wrap_nat (n := i) (by omega)
    have hx := hc l[i] (List.getElem_mem h)
    simp only [Rx.enc_eq, Vals.enc, Mor.enc, Sta.enc, Con.enc, Line.enc, Ans.enc, Prob.enc, Prog.enc, Ses.enc] at hx
    simp only [go_sem, h, h1, w, getD_map h, fill_len Rx.enc l _ hi, hx]
    rw [fill_set Rx.enc l _ h _ (by simp only [Rx.enc_eq, Vals.enc, Mor.enc, Sta.enc, Con.enc, Line.enc, Ans.enc, Prob.enc, Prog.enc, Ses.enc])]
    exact ih (i + 1) (by omega) (by omega)
  · have h1 : ¬ (i : Int) < l.length := by omega
    obtain rfl : i = l.length := by omega
    simp only [go_sem, h1, fill_all]

theorem r137 (x : Rx) (hs : szT x.enc ≤ 1048576) : run EE 137 [x.enc] [] = some (x.enc, []) := by
  have hs' := hs
  simp only [Rx.enc_eq, Vals.enc, Mor.enc, Sta.enc, Con.enc, Line.enc, Ans.enc, Prob.enc, Prog.enc, Ses.enc, szT, szL, List.length_map] at hs'
  have hc : ∀ z ∈ x.args, run EE 137 [z.enc] [] = some (z.enc, []) := fun z hz => r137 z (Nat.le_trans (szL_mem (f := Rx.enc) hz) (by omega))
  have q0 := r141 x.args (by simp only [Rx.enc_eq, Vals.enc, Mor.enc, Sta.enc, Con.enc, Line.enc, Ans.enc, Prob.enc, Prog.enc, Ses.enc, szT, szL, List.length_map] at hs; omega) hc
  try simp only [Rx.enc_eq, Vals.enc, Mor.enc, Sta.enc, Con.enc, Line.enc, Ans.enc, Prob.enc, Prog.enc, Ses.enc] at q0
  rw [run_eq EE 137 _ _ Try.func137 (by decide +kernel) rfl (show 1 ≤ _ by decide)]
  dsimp only [Try.f137]
  simp only [go_sem, q0]
  termination_by SizeOf.sizeOf x
  decreasing_by exact Rx.lt _ hz

theorem r26 (x : Sta) (hs : szT x.enc ≤ 1048576) : run EE 26 [x.enc] [] = some (x.enc, []) := by
  have hs' := hs
  simp only [Rx.enc_eq, Vals.enc, Mor.enc, Sta.enc, Con.enc, Line.enc, Ans.enc, Prob.enc, Prog.enc, Ses.enc, szT, szL, List.length_map] at hs'
  have q0 := r56 x.maps (by simp only [Rx.enc_eq, Vals.enc, Mor.enc, Sta.enc, Con.enc, Line.enc, Ans.enc, Prob.enc, Prog.enc, Ses.enc, szT, szL, List.length_map] at hs; omega)
  try simp only [Rx.enc_eq, Vals.enc, Mor.enc, Sta.enc, Con.enc, Line.enc, Ans.enc, Prob.enc, Prog.enc, Ses.enc] at q0
  rw [run_eq EE 26 _ _ Try.func26 (by decide +kernel) rfl (show 1 ≤ _ by decide)]
  dsimp only [Try.f26]
  simp only [go_sem, q0]

theorem r25 (l : List Sta) (hl : l.length ≤ 1048576) (hc : ∀ x ∈ l, run EE 26 [x.enc] [] = some (x.enc, [])) : run EE 25 [.slc false 3 (l.map Sta.enc)] [] = some (.slc false 3 (l.map Sta.enc), []) := by
  rw [run_eq EE 25 _ _ Try.func25 (by decide +kernel) rfl (show 1 ≤ _ by decide)]
  dsimp only [Try.f25]
  have h8 : (l.length : Int) * 56 ≤ 140737488355328 := by omega
  simp only [go_sem, h8]
  refine iter_inv (fun i : Nat => i ≤ l.length) (fun i => { t := upd (upd (upd (e0) 4 (.int .i64 i)) 3 (.aref 0 7 l.length)) 0 (.slc false 3 (l.map Sta.enc)), b := upd (n0) 7 (some (Ob.arr false 3 (fill Sta.enc l (dflt Try.prog 44) i))), o := [], r := #[ResultVar.tmp 2], f := 25, n := 23 }) (fun _ => some (.slc false 3 (l.map Sta.enc), [])) (fun i => l.length - i) ?_ 0 (Nat.zero_le _)
  intro i hi ih
  by_cases h : i < l.length
  · have h1 : (i : Int) < l.length := by omega
    have w := wrap_nat (n := i) (by omega)
    have hx := hc l[i] (List.getElem_mem h)
    simp only [Rx.enc_eq, Vals.enc, Mor.enc, Sta.enc, Con.enc, Line.enc, Ans.enc, Prob.enc, Prog.enc, Ses.enc] at hx
    simp only [go_sem, h, h1, w, getD_map h, fill_len Sta.enc l _ hi, hx]
    rw [fill_set Sta.enc l _ h _ (by simp only [Rx.enc_eq, Vals.enc, Mor.enc, Sta.enc, Con.enc, Line.enc, Ans.enc, Prob.enc, Prog.enc, Ses.enc])]
    exact ih (i + 1) (by omega) (by omega)
  · have h1 : ¬ (i : Int) < l.length := by omega
    obtain rfl : i = l.length := by omega
    simp only [go_sem, h1, fill_all]

theorem r39 (x : Vals) (hs : szT x.enc ≤ 1048576) : run EE 39 [x.enc] [] = some (x.enc, []) := by
  have hs' := hs
  simp only [Rx.enc_eq, Vals.enc, Mor.enc, Sta.enc, Con.enc, Line.enc, Ans.enc, Prob.enc, Prog.enc, Ses.enc, szT, szL, List.length_map] at hs'
  rw [run_eq EE 39 _ _ Try.func39 (by decide +kernel) rfl (show 1 ≤ _ by decide)]
  dsimp only [Try.f39]
  simp only [go_sem]

theorem r15 (x : Mor) (hs : szT x.enc ≤ 1048576) : run EE 15 [x.enc] [] = some (x.enc, []) := by
  have hs' := hs
  simp only [Rx.enc_eq, Vals.enc, Mor.enc, Sta.enc, Con.enc, Line.enc, Ans.enc, Prob.enc, Prog.enc, Ses.enc, szT, szL, List.length_map] at hs'
  rw [run_eq EE 15 _ _ Try.func15 (by decide +kernel) rfl (show 1 ≤ _ by decide)]
  dsimp only [Try.f15]
  simp only [go_sem]

theorem r130 (x : Con) (hs : szT x.enc ≤ 1048576) : run EE 130 [x.enc] [] = some (x.enc, []) := by
  have hs' := hs
  simp only [Rx.enc_eq, Vals.enc, Mor.enc, Sta.enc, Con.enc, Line.enc, Ans.enc, Prob.enc, Prog.enc, Ses.enc, szT, szL, List.length_map] at hs'
  have q0 := r137 x.regex (by simp only [Rx.enc_eq, Vals.enc, Mor.enc, Sta.enc, Con.enc, Line.enc, Ans.enc, Prob.enc, Prog.enc, Ses.enc, szT, szL, List.length_map] at hs ⊢; omega)
  try simp only [Rx.enc_eq, Vals.enc, Mor.enc, Sta.enc, Con.enc, Line.enc, Ans.enc, Prob.enc, Prog.enc, Ses.enc] at q0
  have q1 := r56 x.coeffs (by simp only [Rx.enc_eq, Vals.enc, Mor.enc, Sta.enc, Con.enc, Line.enc, Ans.enc, Prob.enc, Prog.enc, Ses.enc, szT, szL, List.length_map] at hs; omega)
  try simp only [Rx.enc_eq, Vals.enc, Mor.enc, Sta.enc, Con.enc, Line.enc, Ans.enc, Prob.enc, Prog.enc, Ses.enc] at q1
  rw [run_eq EE 130 _ _ Try.func130 (by decide +kernel) rfl (show 1 ≤ _ by decide)]
  dsimp only [Try.f130]
  simp only [go_sem, q0, q1]

theorem r116 (l : List Con) (hl : l.length ≤ 1048576) (hc : ∀ x ∈ l, run EE 130 [x.enc] [] = some (x.enc, [])) : run EE 116 [.slc false 8 (l.map Con.enc)] [] = some (.slc false 8 (l.map Con.enc), []) := by
  rw [run_eq EE 116 _ _ Try.func116 (by decide +kernel) rfl (show 1 ≤ _ by decide)]
  dsimp only [Try.f116]
  have h8 : (l.length : Int) * 120 ≤ 140737488355328 := by omega
  simp only [go_sem, h8]
  refine iter_inv (fun i : Nat => i ≤ l.length) (fun i => { t := upd (upd (upd (e0) 4 (.int .i64 i)) 3 (.aref 0 7 l.length)) 0 (.slc false 8 (l.map Con.enc)), b := upd (n0) 7 (some (Ob.arr false 8 (fill Con.enc l (dflt Try.prog 92) i))), o := [], r := #[ResultVar.tmp 2], f := 116, n := 23 }) (fun _ => some (.slc false 8 (l.map Con.enc), [])) (fun i => l.length - i) ?_ 0 (Nat.zero_le _)
  intro i hi ih
  by_cases h : i < l.length
  · have h1 : (i : Int) < l.length := by omega
    have w := wrap_nat (n := i) (by omega)
    have hx := hc l[i] (List.getElem_mem h)
    simp only [Rx.enc_eq, Vals.enc, Mor.enc, Sta.enc, Con.enc, Line.enc, Ans.enc, Prob.enc, Prog.enc, Ses.enc] at hx
    simp only [go_sem, h, h1, w, getD_map h, fill_len Con.enc l _ hi, hx]
    rw [fill_set Con.enc l _ h _ (by simp only [Rx.enc_eq, Vals.enc, Mor.enc, Sta.enc, Con.enc, Line.enc, Ans.enc, Prob.enc, Prog.enc, Ses.enc])]
    exact ih (i + 1) (by omega) (by omega)
  · have h1 : ¬ (i : Int) < l.length := by omega
    obtain rfl : i = l.length := by omega
    simp only [go_sem, h1, fill_all]

theorem r131 (x : Line) (hs : szT x.enc ≤ 1048576) : run EE 131 [x.enc] [] = some (x.enc, []) := by
  have hs' := hs
  simp only [Rx.enc_eq, Vals.enc, Mor.enc, Sta.enc, Con.enc, Line.enc, Ans.enc, Prob.enc, Prog.enc, Ses.enc, szT, szL, List.length_map] at hs'
  have q0 := r15 x.mor (by simp only [Rx.enc_eq, Vals.enc, Mor.enc, Sta.enc, Con.enc, Line.enc, Ans.enc, Prob.enc, Prog.enc, Ses.enc, szT, szL, List.length_map] at hs ⊢; omega)
  try simp only [Rx.enc_eq, Vals.enc, Mor.enc, Sta.enc, Con.enc, Line.enc, Ans.enc, Prob.enc, Prog.enc, Ses.enc] at q0
  have q1 := r137 x.regex (by simp only [Rx.enc_eq, Vals.enc, Mor.enc, Sta.enc, Con.enc, Line.enc, Ans.enc, Prob.enc, Prog.enc, Ses.enc, szT, szL, List.length_map] at hs ⊢; omega)
  try simp only [Rx.enc_eq, Vals.enc, Mor.enc, Sta.enc, Con.enc, Line.enc, Ans.enc, Prob.enc, Prog.enc, Ses.enc] at q1
  rw [run_eq EE 131 _ _ Try.func131 (by decide +kernel) rfl (show 1 ≤ _ by decide)]
  dsimp only [Try.f131]
  simp only [go_sem, q0, q1]

theorem r117 (l : List Line) (hl : l.length ≤ 1048576) (hc : ∀ x ∈ l, run EE 131 [x.enc] [] = some (x.enc, [])) : run EE 117 [.slc false 8 (l.map Line.enc)] [] = some (.slc false 8 (l.map Line.enc), []) := by
  rw [run_eq EE 117 _ _ Try.func117 (by decide +kernel) rfl (show 1 ≤ _ by decide)]
  dsimp only [Try.f117]
  have h8 : (l.length : Int) * 120 ≤ 140737488355328 := by omega
  simp only [go_sem, h8]
  refine iter_inv (fun i : Nat => i ≤ l.length) (fun i => { t := upd (upd (upd (e0) 4 (.int .i64 i)) 3 (.aref 0 7 l.length)) 0 (.slc false 8 (l.map Line.enc)), b := upd (n0) 7 (some (Ob.arr false 8 (fill Line.enc l (dflt Try.prog 97) i))), o := [], r := #[ResultVar.tmp 2], f := 117, n := 23 }) (fun _ => some (.slc false 8 (l.map Line.enc), [])) (fun i => l.length - i) ?_ 0 (Nat.zero_le _)
  intro i hi ih
  by_cases h : i < l.length
  · have h1 : (i : Int) < l.length := by omega
    have w := wrap_nat (n := i) (by omega)
    have hx := hc l[i] (List.getElem_mem h)
    simp only [Rx.enc_eq, Vals.enc, Mor.enc, Sta.enc, Con.enc, Line.enc, Ans.enc, Prob.enc, Prog.enc, Ses.enc] at hx
    simp only [go_sem, h, h1, w, getD_map h, fill_len Line.enc l _ hi, hx]
    rw [fill_set Line.enc l _ h _ (by simp only [Rx.enc_eq, Vals.enc, Mor.enc, Sta.enc, Con.enc, Line.enc, Ans.enc, Prob.enc, Prog.enc, Ses.enc])]
    exact ih (i + 1) (by omega) (by omega)
  · have h1 : ¬ (i : Int) < l.length := by omega
    obtain rfl : i = l.length := by omega
    simp only [go_sem, h1, fill_all]

theorem r88 (x : Ans) (hs : szT x.enc ≤ 1048576) : run EE 88 [x.enc] [] = some (x.enc, []) := by
  have hs' := hs
  simp only [Rx.enc_eq, Vals.enc, Mor.enc, Sta.enc, Con.enc, Line.enc, Ans.enc, Prob.enc, Prog.enc, Ses.enc, szT, szL, List.length_map] at hs'
  have q0 := r39 x.vals (by simp only [Rx.enc_eq, Vals.enc, Mor.enc, Sta.enc, Con.enc, Line.enc, Ans.enc, Prob.enc, Prog.enc, Ses.enc, szT, szL, List.length_map] at hs ⊢; omega)
  try simp only [Rx.enc_eq, Vals.enc, Mor.enc, Sta.enc, Con.enc, Line.enc, Ans.enc, Prob.enc, Prog.enc, Ses.enc] at q0
  have q1 := r25 x.nodes (by simp only [Rx.enc_eq, Vals.enc, Mor.enc, Sta.enc, Con.enc, Line.enc, Ans.enc, Prob.enc, Prog.enc, Ses.enc, szT, szL, List.length_map] at hs; omega) (fun z hz => r26 z (Nat.le_trans (szL_mem (f := Sta.enc) hz) (by simp only [Rx.enc_eq, Vals.enc, Mor.enc, Sta.enc, Con.enc, Line.enc, Ans.enc, Prob.enc, Prog.enc, Ses.enc, szT, szL, List.length_map] at hs; omega)))
  try simp only [Rx.enc_eq, Vals.enc, Mor.enc, Sta.enc, Con.enc, Line.enc, Ans.enc, Prob.enc, Prog.enc, Ses.enc] at q1
  rw [run_eq EE 88 _ _ Try.func88 (by decide +kernel) rfl (show 1 ≤ _ by decide)]
  dsimp only [Try.f88]
  simp only [go_sem, q0, q1]

theorem r87 (x : Prob) (hs : szT x.enc ≤ 1048576) : run EE 87 [x.enc] [] = some (x.enc, []) := by
  have hs' := hs
  simp only [Rx.enc_eq, Vals.enc, Mor.enc, Sta.enc, Con.enc, Line.enc, Ans.enc, Prob.enc, Prog.enc, Ses.enc, szT, szL, List.length_map] at hs'
  have q0 := r116 x.list (by simp only [Rx.enc_eq, Vals.enc, Mor.enc, Sta.enc, Con.enc, Line.enc, Ans.enc, Prob.enc, Prog.enc, Ses.enc, szT, szL, List.length_map] at hs; omega) (fun z hz => r130 z (Nat.le_trans (szL_mem (f := Con.enc) hz) (by simp only [Rx.enc_eq, Vals.enc, Mor.enc, Sta.enc, Con.enc, Line.enc, Ans.enc, Prob.enc, Prog.enc, Ses.enc, szT, szL, List.length_map] at hs; omega)))
  try simp only [Rx.enc_eq, Vals.enc, Mor.enc, Sta.enc, Con.enc, Line.enc, Ans.enc, Prob.enc, Prog.enc, Ses.enc] at q0
  rw [run_eq EE 87 _ _ Try.func87 (by decide +kernel) rfl (show 1 ≤ _ by decide)]
  dsimp only [Try.f87]
  simp only [go_sem, q0]

theorem r89 (x : Prog) (hs : szT x.enc ≤ 1048576) : run EE 89 [x.enc] [] = some (x.enc, []) := by
  have hs' := hs
  simp only [Rx.enc_eq, Vals.enc, Mor.enc, Sta.enc, Con.enc, Line.enc, Ans.enc, Prob.enc, Prog.enc, Ses.enc, szT, szL, List.length_map] at hs'
  have q0 := r117 x.lines (by simp only [Rx.enc_eq, Vals.enc, Mor.enc, Sta.enc, Con.enc, Line.enc, Ans.enc, Prob.enc, Prog.enc, Ses.enc, szT, szL, List.length_map] at hs; omega) (fun z hz => r131 z (Nat.le_trans (szL_mem (f := Line.enc) hz) (by simp only [Rx.enc_eq, Vals.enc, Mor.enc, Sta.enc, Con.enc, Line.enc, Ans.enc, Prob.enc, Prog.enc, Ses.enc, szT, szL, List.length_map] at hs; omega)))
  try simp only [Rx.enc_eq, Vals.enc, Mor.enc, Sta.enc, Con.enc, Line.enc, Ans.enc, Prob.enc, Prog.enc, Ses.enc] at q0
  rw [run_eq EE 89 _ _ Try.func89 (by decide +kernel) rfl (show 1 ≤ _ by decide)]
  dsimp only [Try.f89]
  simp only [go_sem, q0]

theorem r44 (x : Ses) (hs : szT x.enc ≤ 1048576) : run EE 44 [x.enc] [] = some (x.enc, []) := by
  have hs' := hs
  simp only [Rx.enc_eq, Vals.enc, Mor.enc, Sta.enc, Con.enc, Line.enc, Ans.enc, Prob.enc, Prog.enc, Ses.enc, szT, szL, List.length_map] at hs'
  have q0 := r87 x.prob (by simp only [Rx.enc_eq, Vals.enc, Mor.enc, Sta.enc, Con.enc, Line.enc, Ans.enc, Prob.enc, Prog.enc, Ses.enc, szT, szL, List.length_map] at hs ⊢; omega)
  try simp only [Rx.enc_eq, Vals.enc, Mor.enc, Sta.enc, Con.enc, Line.enc, Ans.enc, Prob.enc, Prog.enc, Ses.enc] at q0
  have q1 := r88 x.ans (by simp only [Rx.enc_eq, Vals.enc, Mor.enc, Sta.enc, Con.enc, Line.enc, Ans.enc, Prob.enc, Prog.enc, Ses.enc, szT, szL, List.length_map] at hs ⊢; omega)
  try simp only [Rx.enc_eq, Vals.enc, Mor.enc, Sta.enc, Con.enc, Line.enc, Ans.enc, Prob.enc, Prog.enc, Ses.enc] at q1
  have q2 := r89 x.prog (by simp only [Rx.enc_eq, Vals.enc, Mor.enc, Sta.enc, Con.enc, Line.enc, Ans.enc, Prob.enc, Prog.enc, Ses.enc, szT, szL, List.length_map] at hs ⊢; omega)
  try simp only [Rx.enc_eq, Vals.enc, Mor.enc, Sta.enc, Con.enc, Line.enc, Ans.enc, Prob.enc, Prog.enc, Ses.enc] at q2
  rw [run_eq EE 44 _ _ Try.func44 (by decide +kernel) rfl (show 1 ≤ _ by decide)]
  dsimp only [Try.f44]
  simp only [go_sem, q0, q1, q2]
end Go.Ev
