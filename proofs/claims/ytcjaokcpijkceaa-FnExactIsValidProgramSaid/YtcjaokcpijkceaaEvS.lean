/- Expressions compiled, both. Expressions compiled: the program's whole. Expressions compiled: the reference's. Lines of programs: the program's. Programs: the program's validity. Lines and programs: the reference's, and whole programs. Sizes. Copies. Comparisons. The law of IsValidProgram. Typed cells as the laws' data. -/
import Derived.Test.YtcjaokcpijkceaaProg
import Derived.Test.YtcjaokcpijkceaaEvQ
import Derived.Test.YtcjaokcpijkceaaEvR
import Derived.Test.YtcjaokcpijkceaaEvM
import Derived.Test.YtcjaokcpijkceaaEvO
import Derived.Test.YtcjaokcpijkceaaEvJ
import Derived.Test.YtcjaokcpijkceaaEvK
set_option linter.unusedVariables false
set_option linter.unusedSimpArgs false
namespace Go.Ev
open Go Go.Proofs
set_option maxRecDepth 10000
set_option maxHeartbeats 4000000
set_option linter.unusedVariables false
set_option linter.unusedSimpArgs false

theorem r200 : run EE 200 [] [] = some (noD.encT, []) := by
  rw [run_eq EE 200 _ _ Try.func200 (by decide +kernel) rfl (show 0 ≤ _ by decide)]
  dsimp only [Try.f200]
  simp only [go_sem]
  rfl
theorem rep_enc (d : DN) : d.enc = .agg [.slc false 1 (d.accept.map B), .slc false 1 (d.next.map NT)] := rfl
theorem r167 (r : Rx) (hs : szT r.enc ≤ 1048576) (hg : r.good = true) : run EE 167 [r.enc] [] = some (resO (compR r), []) := by
  have hs' := hs
  simp only [Rx.enc_eq, szT, szL, List.length_map] at hs'
  obtain ⟨hga, hgt⟩ := good_args hg
  have ih : ∀ z ∈ r.args, run EE 167 [z.enc] [] = some (resO (compR z), []) := fun z hz => r167 z (Nat.le_trans (szL_mem (f := Rx.enc) hz) (by omega)) (hga z hz)
  rw [compR_eq]
  simp only [Rx.enc_eq]
  rw [run_eq EE 167 _ _ Try.func167 (by decide +kernel) rfl (show 1 ≤ _ by decide)]
  dsimp only [Try.f167]
  rcases good_cases hg with ⟨hk, ha⟩ | ⟨hk, x, ha⟩ | ⟨hk, x, y, ha⟩
  · rw [ha, List.map_nil, List.map_nil]
    unfold opR leafR
    have nw := r200
    have w0 := r195 ByteArray.empty (by decide)
    rw [if_pos word0] at w0
    change run EE _ [V.str ⟨#[]⟩] [] = _ at w0
    have w3 := r195 r.letter (by omega)
    have hw := fun (h3 : r.kind = 3) => okTop_word hgt h3
    simp only [rep_enc, resO, DN.encT] at w0 nw ⊢
    rcases hk with k | k | k | k
    · simp only [k, go_sem, iter_eq, nw, Int.reduceEq]
    · simp only [k, go_sem, iter_eq, w0, Int.reduceEq]
    · rw [if_pos (hw k)] at w3
      simp only [resO, rep_enc] at w3
      simp only [k, go_sem, iter_eq, w3, Int.reduceEq]
    · simp only [k, go_sem, iter_eq, Int.reduceEq]
      rfl
  · have hx := ih x (by rw [ha]; exact List.mem_cons_self ..)
    have hxv := fun d => compR_val x (hga x (by rw [ha]; exact List.mem_cons_self ..)) (e := d)
    rw [ha, List.map_cons, List.map_nil, List.map_cons, List.map_nil]
    unfold opR
    generalize compR x = cx at hx hxv ⊢
    simp only [Rx.enc_eq] at hx
    cases cx with
    | none =>
      simp only [resO] at hx
      simp only [go_sem, iter_eq, hx, resO, Option.bind_none]
    | some d =>
      have hd := hxv d rfl
      have cp := r199 d hd
      have st := r198 d hd
      simp only [resO, rep_enc] at hx cp st
      rcases hk with k | k
      · simp only [k, go_sem, iter_eq, hx, st, Int.reduceEq, Option.bind_some]
        generalize starD d = sd
        cases sd <;> simp only [go_sem, resO, rep_enc, Int.reduceEq]
      · simp only [k, go_sem, iter_eq, hx, cp, Int.reduceEq, Option.bind_some, resO, rep_enc]
  · have hx := ih x (by rw [ha]; exact List.mem_cons_self ..)
    have hy := ih y (by rw [ha]; exact List.mem_cons_of_mem _ (List.mem_cons_self ..))
    have hxv := fun d => compR_val x (hga x (by rw [ha]; exact List.mem_cons_self ..)) (e := d)
    have hyv := fun d => compR_val y (hga y (by rw [ha]; exact List.mem_cons_of_mem _ (List.mem_cons_self ..))) (e := d)
    rw [ha, List.map_cons, List.map_cons, List.map_nil, List.map_cons, List.map_cons, List.map_nil]
    unfold opR
    generalize compR x = cx at hx hxv ⊢
    generalize compR y = cy at hy hyv ⊢
    simp only [Rx.enc_eq] at hx hy
    cases cx with
    | none =>
      simp only [resO] at hx
      simp only [go_sem, iter_eq, hx, resO, Option.bind_none]
    | some d =>
    cases cy with
    | none =>
      simp only [resO, rep_enc] at hx hy
      simp only [go_sem, iter_eq, hx, hy, resO, Option.bind_none, Option.bind_some]
    | some f =>
      have hd := hxv d rfl
      have hf := hyv f rfl
      have c5 := r196 d f hd hf
      have c6 := r197 d f hd hf 6 (Or.inl rfl)
      have c7 := r197 d f hd hf 7 (Or.inr rfl)
      simp only [rep_enc] at c5 c6 c7
      simp only [resO, rep_enc] at hx hy
      rcases hk with k | k | k
      · simp only [k, Int.reduceEq, if_true, if_false, Option.bind_some]
        generalize concD d f = sd at c5 ⊢
        simp only [go_sem, iter_eq, hx, hy]
        rw [q_drs]
        rotate_left
        · kernel_rfl
        cases sd <;> simp only [resO, rep_enc] at c5 <;> simp only [go_sem, c5, resO, rep_enc]
      · simp only [k, Int.reduceEq, if_true, if_false, Option.bind_some]
        generalize fitD (prodD 6 d f) = sd at c6 ⊢
        simp only [go_sem, iter_eq, hx, hy]
        rw [q_drs]
        rotate_left
        · kernel_rfl
        cases sd <;> simp only [resO, rep_enc] at c6 <;> simp only [go_sem, c6, resO, rep_enc]
      · simp only [k, Int.reduceEq, if_true, if_false, Option.bind_some]
        generalize fitD (prodD 7 d f) = sd at c7 ⊢
        simp only [go_sem, iter_eq, hx, hy]
        rw [q_drs]
        rotate_left
        · kernel_rfl
        cases sd <;> simp only [resO, rep_enc] at c7 <;> simp only [go_sem, c7, resO, rep_enc]
  termination_by SizeOf.sizeOf r
  decreasing_by exact Rx.lt _ hz
end Go.Ev
namespace Go.Ev
open Go Go.Proofs
set_option maxRecDepth 10000
set_option maxHeartbeats 4000000
set_option linter.unusedVariables false
set_option linter.unusedSimpArgs false

theorem r122 (r : Rx) (hs : szT r.enc ≤ 1048576) : run EE 122 [r.enc] [] = some (resO (if validR r = true then compR r else none), []) := by
  have iv := r166 r hs
  have cc := fun hg => r167 r hs hg
  simp only [Rx.enc_eq] at iv cc
  rw [run_eq EE 122 _ _ Try.func122 (by decide +kernel) rfl (show 1 ≤ _ by decide)]
  dsimp only [Try.f122]
  by_cases h : validR r = true
  · rw [if_pos h]
    rw [h] at iv
    have hg : r.good = true := by
      unfold validR at h
      rw [Bool.and_eq_true, Bool.and_eq_true] at h
      exact h.2.2
    have cc := cc hg
    generalize compR r = c at cc ⊢
    cases c <;> simp only [resO, rep_enc] at cc <;> simp only [go_sem, iv, cc, resO, rep_enc, Bool.not_true]
  · rw [if_neg h]
    have h' : validR r = false := by simpa using h
    rw [h'] at iv
    simp only [go_sem, iv, resO, Bool.not_false]
end Go.Ev
namespace Go.Ev
open Go Go.Proofs
set_option maxRecDepth 10000
set_option maxHeartbeats 4000000
set_option linter.unusedVariables false
set_option linter.unusedSimpArgs false

theorem r188 (r : Rx) (hs : r.letter.size ≤ 1048576) (hk : r.kind = 1 ∨ r.kind = 2 ∨ r.kind = 3 ∨ r.kind = 4) (hw : r.kind = 3 → isWord r.letter = true) (ha : r.args = []) : run EE 188 [r.enc] [] = some ((leafR r.kind r.letter).encT, []) := by
  have w0 := r204 ByteArray.empty word0
  change run EE _ [V.str ⟨#[]⟩] [] = _ at w0
  unfold leafR
  simp only [Rx.enc_eq]
  rw [run_eq EE 188 _ _ Try.func188 (by decide +kernel) rfl (show 1 ≤ _ by decide)]
  dsimp only [Try.f188]
  rw [ha]
  simp only [DN.encT] at w0 ⊢
  rcases hk with k | k | k | k
  · simp only [k, go_sem, Int.reduceEq]
    rfl
  · simp only [k, go_sem, w0, Int.reduceEq]
  · have w3 := r204 r.letter (hw k)
    simp only [DN.encT] at w3
    simp only [k, go_sem, w3, Int.reduceEq]
  · simp only [k, go_sem, Int.reduceEq]
    rfl
theorem r164 (r : Rx) (hs : szT r.enc ≤ 1048576) (hg : r.good = true) : run EE 164 [r.enc] [] = some (resO (compR r), []) := by
  have hs' := hs
  simp only [Rx.enc_eq, szT, szL, List.length_map] at hs'
  obtain ⟨hga, hgt⟩ := good_args hg
  have ih : ∀ z ∈ r.args, run EE 164 [z.enc] [] = some (resO (compR z), []) := fun z hz => r164 z (Nat.le_trans (szL_mem (f := Rx.enc) hz) (by omega)) (hga z hz)
  have lf := fun hk ha => r188 r (by omega) hk (okTop_word hgt) ha
  rw [compR_eq]
  simp only [Rx.enc_eq] at lf ⊢
  rw [run_eq EE 164 _ _ Try.func164 (by decide +kernel) rfl (show 1 ≤ _ by decide)]
  dsimp only [Try.f164]
  rcases good_cases hg with ⟨hk, ha⟩ | ⟨hk, x, ha⟩ | ⟨hk, x, y, ha⟩
  · have lf := lf hk ha
    rw [ha, List.map_nil] at lf
    rw [ha, List.map_nil, List.map_nil]
    unfold opR
    generalize leafR r.kind r.letter = e at lf ⊢
    simp only [DN.encT] at lf
    simp only [go_sem, lf, resO, rep_enc]
  · have hx := ih x (by rw [ha]; exact List.mem_cons_self ..)
    have hxv := fun d => compR_val x (hga x (by rw [ha]; exact List.mem_cons_self ..)) (e := d)
    rw [ha, List.map_cons, List.map_nil, List.map_cons, List.map_nil]
    unfold opR
    generalize compR x = cx at hx hxv ⊢
    simp only [Rx.enc_eq] at hx
    cases cx with
    | none =>
      simp only [resO] at hx
      simp only [go_sem, hx, resO, Option.bind_none, Bool.not_false]
    | some d =>
      have hd := hxv d rfl
      have cp := r189 d hd
      have st := r190 d hd
      simp only [resO, rep_enc] at hx cp
      rcases hk with k | k
      · simp only [k, Int.reduceEq, if_false, Option.bind_some]
        generalize starD d = sd at st ⊢
        cases sd <;> simp only [resO, rep_enc] at st <;> simp only [go_sem, hx, st, resO, rep_enc, Bool.not_true]
      · simp only [k, go_sem, hx, cp, Int.reduceEq, Option.bind_some, resO, rep_enc, Bool.not_true]
  · have hx := ih x (by rw [ha]; exact List.mem_cons_self ..)
    have hy := ih y (by rw [ha]; exact List.mem_cons_of_mem _ (List.mem_cons_self ..))
    have hxv := fun d => compR_val x (hga x (by rw [ha]; exact List.mem_cons_self ..)) (e := d)
    have hyv := fun d => compR_val y (hga y (by rw [ha]; exact List.mem_cons_of_mem _ (List.mem_cons_self ..))) (e := d)
    rw [ha, List.map_cons, List.map_cons, List.map_nil, List.map_cons, List.map_cons, List.map_nil]
    unfold opR
    generalize compR x = cx at hx hxv ⊢
    generalize compR y = cy at hy hyv ⊢
    simp only [Rx.enc_eq] at hx hy
    cases cx with
    | none =>
      simp only [resO] at hx
      simp only [go_sem, hx, resO, Option.bind_none, Bool.not_false]
    | some d =>
    cases cy with
    | none =>
      simp only [resO, rep_enc] at hx hy
      rcases hk with k | k | k <;> simp only [k, go_sem, hx, hy, resO, Option.bind_none, Option.bind_some, Bool.not_true, Bool.not_false]
    | some f =>
      have hd := hxv d rfl
      have hf := hyv f rfl
      have c5 := r191 d f hd hf
      have c6 := r192 d f hd hf 6 (Or.inl rfl)
      have c7 := r192 d f hd hf 7 (Or.inr rfl)
      simp only [rep_enc] at c5 c6 c7
      simp only [resO, rep_enc] at hx hy
      rcases hk with k | k | k
      · simp only [k, Int.reduceEq, if_true, if_false, Option.bind_some]
        generalize concD d f = sd at c5 ⊢
        cases sd <;> simp only [resO, rep_enc] at c5 <;> simp only [go_sem, hx, hy, c5, resO, rep_enc, Bool.not_true]
      · simp only [k, Int.reduceEq, if_true, if_false, Option.bind_some]
        generalize fitD (prodD 6 d f) = sd at c6 ⊢
        cases sd <;> simp only [resO, rep_enc] at c6 <;> simp only [go_sem, hx, hy, c6, resO, rep_enc, Bool.not_true]
      · simp only [k, Int.reduceEq, if_true, if_false, Option.bind_some]
        generalize fitD (prodD 7 d f) = sd at c7 ⊢
        cases sd <;> simp only [resO, rep_enc] at c7 <;> simp only [go_sem, hx, hy, c7, resO, rep_enc, Bool.not_true]
  termination_by SizeOf.sizeOf r
  decreasing_by exact Rx.lt _ hz
theorem r119 (r : Rx) (hs : szT r.enc ≤ 1048576) : run EE 119 [r.enc] [] = some (resO (if validR r = true then compR r else none), []) := by
  have iv := r163 r hs
  have cc := fun hg => r164 r hs hg
  simp only [Rx.enc_eq] at iv cc
  rw [run_eq EE 119 _ _ Try.func119 (by decide +kernel) rfl (show 1 ≤ _ by decide)]
  dsimp only [Try.f119]
  by_cases h : validR r = true
  · rw [if_pos h]
    rw [h] at iv
    have hg : r.good = true := by
      unfold validR at h
      rw [Bool.and_eq_true, Bool.and_eq_true] at h
      exact h.2.2
    have cc := cc hg
    generalize compR r = c at cc ⊢
    cases c <;> simp only [resO, rep_enc] at cc <;> simp only [go_sem, iv, cc, resO, rep_enc, Bool.not_true]
  · rw [if_neg h]
    have h' : validR r = false := by simpa using h
    rw [h'] at iv
    simp only [go_sem, iv, resO, Bool.not_false]
end Go.Ev
namespace Go.Ev
open Go Go.Proofs
set_option maxRecDepth 10000
set_option maxHeartbeats 4000000
set_option linter.unusedVariables false
set_option linter.unusedSimpArgs false

def zeroM (m : Mor) : Bool := decide (m.a.size = 0) && (decide (m.b.size = 0) && decide (m.c.size = 0))
def compV (r : Rx) : Option DN := if validR r = true then compR r else none
def lineOk (l : Line) : Bool :=
  if l.kind = 1 ∨ l.kind = 2 then decide (l.text.size ≤ 4) && isWord l.text && zeroM l.mor && zeroR l.regex
  else if l.kind = 3 then decide (l.text.size = 0) && isMor l.mor && zeroR l.regex
  else if l.kind = 4 then decide (l.text.size = 0) && zeroM l.mor && (compV l.regex).isSome
  else false
theorem r55 (l : Line) (ht : l.text.size ≤ 1048576) (h1 : l.mor.a.size ≤ 1048576) (h2 : l.mor.b.size ≤ 1048576) (h3 : l.mor.c.size ≤ 1048576) (hr : szT l.regex.enc ≤ 1048576) : run EE 55 [l.enc] [] = some (.bool (lineOk l), []) := by
  have iw := r106 l.text (by omega)
  have im := r116 l.mor h1 h2 h3
  have zr := r123 l.regex
  have cr := r122 l.regex hr
  simp only [Rx.enc_eq] at zr cr
  rw [run_eq EE 55 _ _ Try.func55 (by decide +kernel) rfl (show 1 ≤ _ by decide)]
  dsimp only [Try.f55]
  have hz : decide ((⟨#[]⟩ : ByteArray).size = 0) = true := rfl
  have fin : ∀ b, zeroM l.mor = b → (decide (l.mor.a.size = 0) && (decide (l.mor.b.size = 0) && decide (l.mor.c.size = 0))) = b := fun b e => e
  unfold lineOk
  by_cases k12 : l.kind = 1 ∨ l.kind = 2
  · rw [if_pos k12]
    by_cases hl : l.text.size ≤ 4
    · have hl' : ¬ (l.text.size : Int) > 4 := by omega
      cases hw : isWord l.text
      · rw [hw] at iw
        rcases k12 with k | k <;> simp only [k, go_sem, hl', iw, Bool.not_false, Bool.and_false, Bool.false_and]
      · rw [hw] at iw
        rw [decide_eq_true hl]
        cases hm : zeroM l.mor
        · have fin := fin _ hm
          rcases k12 with k | k <;> simp only [k, go_sem, hl', iw, Bool.not_true, toList_nil, hz, fin, Bool.true_and, Bool.false_and, Bool.and_false]
        · have fin := fin _ hm
          rcases k12 with k | k <;> simp only [k, go_sem, hl', iw, Bool.not_true, toList_nil, hz, fin, zr, Bool.true_and]
    · have hl' : (l.text.size : Int) > 4 := by omega
      rcases k12 with k | k <;> simp only [k, go_sem, hl', hl, Bool.false_and, decide_false]
  rw [if_neg k12]
  have k1 : (l.kind == 1) = false := by simpa using fun e => k12 (Or.inl e)
  have k2 : (l.kind == 2) = false := by simpa using fun e => k12 (Or.inr e)
  by_cases k3 : l.kind = 3
  · rw [if_pos k3]
    cases hm : isMor l.mor
    · rw [hm] at im
      simp only [Mor.enc] at im
      simp only [k3, go_sem, im, Bool.not_false, Bool.and_false, Bool.false_and]
    · rw [hm] at im
      simp only [Mor.enc] at im
      cases ht0 : decide (l.text.size = 0)
      · simp only [k3, go_sem, im, Bool.not_true, toList_nil, hz, ht0, Bool.true_and, Bool.false_and, Bool.and_false]
      · simp only [k3, go_sem, im, Bool.not_true, toList_nil, hz, ht0, zr, Bool.true_and, Bool.and_true]
  rw [if_neg k3]
  have k3' : (l.kind == 3) = false := by simpa using k3
  by_cases k4 : l.kind = 4
  · rw [if_pos k4]
    have zr0 := r123 ⟨0, ⟨#[]⟩, []⟩
    have zt : zeroR ⟨0, ⟨#[]⟩, []⟩ = true := rfl
    rw [zt] at zr0
    simp only [Rx.enc_eq, List.map_nil] at zr0
    change run EE 122 _ [] = some (resO (compV l.regex), []) at cr
    generalize compV l.regex = c at cr ⊢
    cases c with
    | none =>
      simp only [resO] at cr
      simp only [k4, go_sem, cr, Bool.not_false, Option.isSome, Bool.and_false]
    | some e =>
      simp only [resO, rep_enc] at cr
      cases ht0 : decide (l.text.size = 0)
      · simp only [k4, go_sem, cr, Bool.not_true, toList_nil, hz, ht0, Bool.true_and, Bool.false_and, Bool.and_false, Option.isSome]
      · cases hm : zeroM l.mor
        · have fin := fin _ hm
          simp only [k4, go_sem, cr, Bool.not_true, toList_nil, hz, ht0, fin, Bool.true_and, Bool.and_true, Bool.false_and, Option.isSome]
        · have fin := fin _ hm
          simp only [k4, go_sem, cr, Bool.not_true, toList_nil, hz, ht0, fin, zr0, Bool.true_and, Bool.and_true, Option.isSome]
  rw [if_neg k4]
  have k4' : (l.kind == 4) = false := by simpa using k4
  simp only [go_sem, k1, k2, k3', k4']
end Go.Ev
namespace Go.Ev
open Go Go.Proofs
set_option maxRecDepth 10000
set_option maxHeartbeats 4000000
set_option linter.unusedVariables false
set_option linter.unusedSimpArgs false

/-- what the sizes of a line must be -/
def lineSz (l : Line) : Prop := l.text.size ≤ 1048576 ∧ l.mor.a.size ≤ 1048576 ∧ l.mor.b.size ≤ 1048576 ∧ l.mor.c.size ≤ 1048576 ∧ szT l.regex.enc ≤ 1048576
theorem r54 (l : Line) (h : lineSz l) : run EE 54 [l.enc] [] = some (.bool (!lineOk l), []) := by
  have il := r55 l h.1 h.2.1 h.2.2.1 h.2.2.2.1 h.2.2.2.2
  simp only [Line.enc] at il
  rw [run_eq EE 54 _ _ Try.func54 (by decide +kernel) rfl (show 1 ≤ _ by decide)]
  dsimp only [Try.f54]
  simp only [go_sem, il]
def progOk (ls : List Line) : Bool := decide (ls.length ≤ 8) && ls.all lineOk
theorem r12 (ls : List Line) (hl : ls.length ≤ 1048576) (h : ∀ l ∈ ls, lineSz l) : run EE 12 [.agg [.slc false 8 (ls.map Line.enc)]] [] = some (.bool (progOk ls), []) := by
  have cf := cf53_0 ls (by omega) (fun l => !lineOk l) 54 (fun _ => rfl) (fun x hx => r54 x (h x hx))
  have e : ∀ l : List Line, l.any (fun l => !lineOk l) = !l.all lineOk := by
    intro l
    induction l with
    | nil => rfl
    | cons a l ih => rw [List.any_cons, List.all_cons, ih, Bool.not_and]
  rw [e] at cf
  unfold progOk
  rw [run_eq EE 12 _ _ Try.func12 (by decide +kernel) rfl (show 1 ≤ _ by decide)]
  dsimp only [Try.f12]
  generalize ls.all lineOk = A at cf ⊢
  by_cases k : ls.length ≤ 8
  · have k' : (ls.length : Int) ≤ 8 := by omega
    simp only [go_sem, k, k', cf, Bool.true_and, Bool.not_not, decide_true]
  · have k' : ¬ (ls.length : Int) ≤ 8 := by omega
    simp only [go_sem, k, k', Bool.false_and, decide_false]
end Go.Ev
namespace Go.Ev
open Go Go.Proofs
set_option maxRecDepth 10000
set_option maxHeartbeats 4000000
set_option linter.unusedVariables false
set_option linter.unusedSimpArgs false

theorem r51 (l : Line) (ht : l.text.size ≤ 1048576) (h1 : l.mor.a.size ≤ 1048576) (h2 : l.mor.b.size ≤ 1048576) (h3 : l.mor.c.size ≤ 1048576) (hr : szT l.regex.enc ≤ 1048576) : run EE 51 [l.enc] [] = some (.bool (lineOk l), []) := by
  have iw := r100 l.text (by omega)
  have im := r114 l.mor h1 h2 h3
  have zr := r118 l.regex
  have cr := r119 l.regex hr
  simp only [Rx.enc_eq] at zr cr
  rw [run_eq EE 51 _ _ Try.func51 (by decide +kernel) rfl (show 1 ≤ _ by decide)]
  dsimp only [Try.f51]
  have fin : ∀ b, zeroM l.mor = b → (decide (l.mor.a.size = 0) && (decide (l.mor.b.size = 0) && decide (l.mor.c.size = 0))) = b := fun b e => e
  unfold lineOk
  generalize hM : zeroM l.mor = M at fin ⊢
  have fin := fin M rfl
  by_cases k12 : l.kind = 1 ∨ l.kind = 2
  · rw [if_pos k12]
    cases hw : isWord l.text
    · rw [hw] at iw
      rcases k12 with k | k <;> simp only [k, go_sem, toList_nil, fin, iw, Bool.and_false, Bool.false_and]
    · rw [hw] at iw
      by_cases hl : l.text.size ≤ 4
      · have hl' : (l.text.size : Int) ≤ 4 := by omega
        rw [decide_eq_true hl]
        cases M
        · rcases k12 with k | k <;> simp only [k, go_sem, toList_nil, fin, iw, hl', Bool.true_and, Bool.false_and, Bool.and_false]
        · rcases k12 with k | k <;> simp only [k, go_sem, toList_nil, fin, iw, hl', zr, Bool.true_and]
      · have hl' : ¬ (l.text.size : Int) ≤ 4 := by omega
        rcases k12 with k | k <;> simp only [k, go_sem, toList_nil, fin, iw, hl', hl, Bool.true_and, Bool.false_and, decide_false]
  rw [if_neg k12]
  have k1 : (l.kind == 1) = false := by simpa using fun e => k12 (Or.inl e)
  have k2 : (l.kind == 2) = false := by simpa using fun e => k12 (Or.inr e)
  by_cases k3 : l.kind = 3
  · rw [if_pos k3]
    simp only [Mor.enc] at im
    cases ht0 : decide (l.text.size = 0)
    · simp only [k3, go_sem, toList_nil, fin, ht0, Bool.false_and, Bool.and_false]
    · cases hm : isMor l.mor
      · rw [hm] at im
        simp only [k3, go_sem, toList_nil, fin, ht0, im, Bool.true_and, Bool.false_and, Bool.and_false]
      · rw [hm] at im
        simp only [k3, go_sem, toList_nil, fin, ht0, im, zr, Bool.true_and]
  rw [if_neg k3]
  have k3' : (l.kind == 3) = false := by simpa using k3
  by_cases k4 : l.kind = 4
  · rw [if_pos k4]
    change run EE 119 _ [] = some (resO (compV l.regex), []) at cr
    generalize compV l.regex = c at cr ⊢
    cases c with
    | none =>
      simp only [resO] at cr
      cases ht0 : decide (l.text.size = 0)
      · simp only [k4, go_sem, toList_nil, fin, ht0, cr, Option.isSome, Bool.false_and, Bool.and_false]
      · cases M <;> simp only [k4, go_sem, toList_nil, fin, ht0, cr, Option.isSome, Bool.true_and, Bool.false_and, Bool.and_false]
    | some e =>
      simp only [resO, rep_enc] at cr
      cases ht0 : decide (l.text.size = 0)
      · simp only [k4, go_sem, toList_nil, fin, ht0, cr, Option.isSome, Bool.false_and, Bool.and_false]
      · cases M <;> simp only [k4, go_sem, toList_nil, fin, ht0, cr, Option.isSome, Bool.true_and, Bool.false_and, Bool.and_true]
  rw [if_neg k4]
  have k4' : (l.kind == 4) = false := by simpa using k4
  simp only [go_sem, toList_nil, fin, k1, k2, k3', k4']
theorem r10 (ls : List Line) (hl : ls.length ≤ 1048576) (h : ∀ l ∈ ls, lineSz l) : run EE 10 [.agg [.slc false 8 (ls.map Line.enc)]] [] = some (.bool (progOk ls), []) := by
  unfold progOk
  rw [run_eq EE 10 _ _ Try.func10 (by decide +kernel) rfl (show 1 ≤ _ by decide)]
  dsimp only [Try.f10]
  simp only [go_sem]
  refine iter_inv (fun i : Nat => i ≤ ls.length) (fun i => { t := upd (upd e0 3 (.int .i64 i)) 1 (.ptr 0 1 0), b := upd n0 1 (some (Ob.box [.slc false 8 (ls.map Line.enc)])), o := [], r := #[ResultVar.tmp 2], f := 10, n := 22 }) (fun i => some (.bool (decide (ls.length ≤ 8) && (ls.drop i).all lineOk), [])) (fun i => ls.length - i) ?_ 0 (Nat.zero_le _)
  intro i hi ih
  by_cases hh : i < ls.length
  rotate_left
  · have k1 : ¬ (i : Int) < ls.length := by omega
    rw [List.drop_eq_nil_of_le (by omega), List.all_nil, Bool.and_true]
    by_cases k : ls.length ≤ 8
    · have k' : (ls.length : Int) ≤ 8 := by omega
      simp only [go_sem, k1, k, k', decide_true]
    · have k' : ¬ (ls.length : Int) ≤ 8 := by omega
      simp only [go_sem, k1, k, k', decide_false]
  have k1 : (i : Int) < ls.length := by omega
  have wi := wrap_nat (n := i) (by omega)
  have ihn := ih (i + 1) (by omega) (by omega)
  have hx := h _ (List.getElem_mem hh)
  have gd := r51 ls[i] hx.1 hx.2.1 hx.2.2.1 hx.2.2.2.1 hx.2.2.2.2
  have gl : ∀ v : V, (ls.map Line.enc).getD i v = ls[i].enc := fun v => getD_map hh v
  rw [List.drop_eq_getElem_cons hh, List.all_cons]
  generalize lineOk ls[i] = A at gd ⊢
  generalize ls[i] = l at gd gl
  simp only [Line.enc] at gd gl
  cases A
  · simp only [go_sem, k1, gl, gd, Bool.not_false, Bool.false_and, Bool.and_false]
  · rw [Bool.true_and]
    simp only [go_sem, k1, gl, gd, wi, Bool.not_true]
    exact ihn
end Go.Ev
namespace Go.Ev
open Go Go.Proofs
set_option maxRecDepth 10000
set_option linter.unusedVariables false
set_option linter.unusedSimpArgs false
theorem r184 (l : List Rx) (hl : l.length ≤ 9223372036854775807) (hc : ∀ x ∈ l, ∀ left : Int, 0 ≤ left → left ≤ 1048576 → run EE 162 [(Rx.enc x), .int .i64 left] [] = some (.int .i64 (szR (Rx.enc x) left), [])) (left : Int) (h0 : 0 ≤ left) (h1 : left ≤ 1048576) : run EE 184 [.slc false 3 (l.map Rx.enc), .int .i64 left] [] = some (.int .i64 (szR (.slc false 3 (l.map Rx.enc)) left), []) := by
  rw [run_eq EE 184 _ _ Try.func184 (by decide +kernel) rfl (show 2 ≤ _ by decide)]
  dsimp only [Try.f184]
  have w := wrap_in (n := left - (l.length : Int)) (by omega) (by omega)
  simp only [go_sem, w]
  have e : szR (.slc false 3 (l.map Rx.enc)) left = leftOf (l.length + szL (l.map Rx.enc)) left := by simp only [szR, szT, List.length_map]
  rw [e]
  refine condL_dec (fun c => ?_) (fun c => ?_)
  · simp only [go_sem]
    rw [leftOf_neg (by omega)]
  simp only [go_sem]
  refine (iter_inv (fun x : Nat × Int => x.1 ≤ l.length ∧ 0 ≤ x.2 ∧ x.2 ≤ 1048576) (fun x => { t := upd (upd (upd (e0) 5 (.int .i64 x.1)) 1 (.int .i64 x.2)) 0 (.slc false 3 (l.map Rx.enc)), b := n0, o := [], r := #[ResultVar.tmp 4], f := 184, n := 27 }) (fun x => some (.int .i64 (szRL ((l.drop x.1).map Rx.enc) x.2), [])) (fun x => l.length - x.1) ?_ (0, left - (l.length : Int)) ⟨Nat.zero_le _, by show 0 ≤ left - (l.length : Int); omega, by show left - (l.length : Int) ≤ 1048576; omega⟩).trans ?_
  · rintro ⟨i, left⟩ ⟨hi, a0, a1⟩ ih
    dsimp only at hi a0 a1 ⊢
    by_cases h : i < l.length
    · have k1 : (i : Int) < l.length := by omega
      have w := wrap_nat (n := i) (by omega)
      have hx := hc l[i] (List.getElem_mem h) left a0 a1
      rw [List.drop_eq_getElem_cons h, List.map_cons, szRL_cons]
      have hle : szR (Rx.enc l[i]) left ≤ left ∨ szR (Rx.enc l[i]) left = -1 := by unfold szR leftOf; split <;> omega
      generalize szR (Rx.enc l[i]) left = r at hx hle ⊢
      simp only [Rx.enc_eq, Vals.enc, Mor.enc, Sta.enc, Con.enc, Line.enc, Ans.enc, Prob.enc, Prog.enc, Ses.enc, Equ.enc, Mon.enc, Frm.enc, Mov.enc, Stp.enc, Dfa.enc, IL, I, B] at hx
      simp only [go_sem, k1, w, getD_map h, hx]
      refine condL_dec (fun c => ?_) (fun c => ?_)
      · simp only [go_sem]
        rw [if_pos c]
      · simp only [go_sem, w]
        rw [if_neg c]
        exact ih (i + 1, r) ⟨by show i + 1 ≤ l.length; omega, by show 0 ≤ r; omega, by show r ≤ 1048576; omega⟩ (by show l.length - (i + 1) < l.length - i; omega)
    · have k1 : ¬ (i : Int) < l.length := by omega
      simp only [go_sem, k1]
      rw [List.drop_eq_nil_of_le (by omega)]
      show _ = some (V.int .i64 (leftOf 0 left), [])
      rw [leftOf_pos (by omega)]
      simp
  · show some (V.int .i64 (leftOf (szL (l.map Rx.enc)) (left - (l.length : Int))), []) = _
    by_cases h : (szL (l.map Rx.enc) : Int) ≤ left - l.length
    · rw [leftOf_pos h, leftOf_pos (by omega)]
      refine congrArg some (congrArg (·, []) (congrArg (V.int .i64) ?_))
      omega
    · rw [leftOf_neg h, leftOf_neg (by omega)]

theorem r162 (x : Rx) (ho : okV x.enc) (left : Int) (h0 : 0 ≤ left) (h1 : left ≤ 1048576) : run EE 162 [x.enc, .int .i64 left] [] = some (.int .i64 (szR x.enc left), []) := by
  have ho' := ho
  simp only [Rx.enc_eq, Vals.enc, Mor.enc, Sta.enc, Con.enc, Line.enc, Ans.enc, Prob.enc, Prog.enc, Ses.enc, Equ.enc, Mon.enc, Frm.enc, Mov.enc, Stp.enc, Dfa.enc, IL, I, B, okV, okL, and_true, true_and, List.length_map] at ho'
  have hc : ∀ z ∈ x.args, ∀ left : Int, 0 ≤ left → left ≤ 1048576 → run EE 162 [z.enc, .int .i64 left] [] = some (.int .i64 (szR z.enc left), []) := fun z hz left a b => r162 z (okL_map ho'.2.2.2 hz) left a b
  rw [run_eq EE 162 _ _ Try.func162 (by decide +kernel) rfl (show 2 ≤ _ by decide)]
  dsimp only [Try.f162]
  have e : szR x.enc left = leftOf (szT x.enc) left := rfl
  rw [e]
  simp only [Rx.enc_eq, Vals.enc, Mor.enc, Sta.enc, Con.enc, Line.enc, Ans.enc, Prob.enc, Prog.enc, Ses.enc, Equ.enc, Mon.enc, Frm.enc, Mov.enc, Stp.enc, Dfa.enc, IL, I, B, szT, szL, List.length_map]
  have w1 := wrap_in (n := left - ((x.letter).size : Int)) (by omega) (by omega)
  simp only [go_sem, w1]
  refine condL_dec (fun c1 => ?_) (fun c1 => ?_)
  · simp only [go_sem]
    rw [leftOf_neg (by omega)]
  have w2 := r184 x.args (by simp only [Rx.enc_eq, Vals.enc, Mor.enc, Sta.enc, Con.enc, Line.enc, Ans.enc, Prob.enc, Prog.enc, Ses.enc, Equ.enc, Mon.enc, Frm.enc, Mov.enc, Stp.enc, Dfa.enc, IL, I, B, okV, okL, and_true, true_and, List.length_map] at ho; omega) hc (left - ((x.letter).size : Int)) (by omega) (by omega)
  unfold szR at w2
  generalize hn2 : szT (.slc false 3 (x.args.map Rx.enc)) = n2 at w2
  simp only [Rx.enc_eq, Vals.enc, Mor.enc, Sta.enc, Con.enc, Line.enc, Ans.enc, Prob.enc, Prog.enc, Ses.enc, Equ.enc, Mon.enc, Frm.enc, Mov.enc, Stp.enc, Dfa.enc, IL, I, B, szT, szL, List.length_map] at w2 hn2
  simp only [go_sem, w2]
  refine condL_dec (fun c2 => ?_) (fun c2 => ?_)
  · have := leftOf_lt (by omega) c2
    simp only [go_sem]
    rw [leftOf_neg (by omega)]
  obtain ⟨e2, b2⟩ := leftOf_ge c2
  simp only [go_sem, e2]
  rw [leftOf_pos (by omega)]
  refine congrArg some (congrArg (·, []) (congrArg (V.int .i64) ?_))
  omega
  termination_by SizeOf.sizeOf x
  decreasing_by exact Rx.lt _ hz

theorem r46 (x : Mor) (ho : okV x.enc) (left : Int) (h0 : 0 ≤ left) (h1 : left ≤ 1048576) : run EE 46 [x.enc, .int .i64 left] [] = some (.int .i64 (szR x.enc left), []) := by
  have ho' := ho
  simp only [Rx.enc_eq, Vals.enc, Mor.enc, Sta.enc, Con.enc, Line.enc, Ans.enc, Prob.enc, Prog.enc, Ses.enc, Equ.enc, Mon.enc, Frm.enc, Mov.enc, Stp.enc, Dfa.enc, IL, I, B, okV, okL, and_true, true_and, List.length_map] at ho'
  rw [run_eq EE 46 _ _ Try.func46 (by decide +kernel) rfl (show 2 ≤ _ by decide)]
  dsimp only [Try.f46]
  have e : szR x.enc left = leftOf (szT x.enc) left := rfl
  rw [e]
  simp only [Rx.enc_eq, Vals.enc, Mor.enc, Sta.enc, Con.enc, Line.enc, Ans.enc, Prob.enc, Prog.enc, Ses.enc, Equ.enc, Mon.enc, Frm.enc, Mov.enc, Stp.enc, Dfa.enc, IL, I, B, szT, szL, List.length_map]
  have w1 := wrap_in (n := left - ((x.a).size : Int)) (by omega) (by omega)
  simp only [go_sem, w1]
  refine condL_dec (fun c1 => ?_) (fun c1 => ?_)
  · simp only [go_sem]
    rw [leftOf_neg (by omega)]
  have w2 := wrap_in (n := left - ((x.a).size : Int) - ((x.b).size : Int)) (by omega) (by omega)
  simp only [go_sem, w2]
  refine condL_dec (fun c2 => ?_) (fun c2 => ?_)
  · simp only [go_sem]
    rw [leftOf_neg (by omega)]
  have w3 := wrap_in (n := left - ((x.a).size : Int) - ((x.b).size : Int) - ((x.c).size : Int)) (by omega) (by omega)
  simp only [go_sem, w3]
  refine condL_dec (fun c3 => ?_) (fun c3 => ?_)
  · simp only [go_sem]
    rw [leftOf_neg (by omega)]
  simp only [go_sem]
  rw [leftOf_pos (by omega)]
  refine congrArg some (congrArg (·, []) (congrArg (V.int .i64) ?_))
  omega

theorem r117 (x : Line) (ho : okV x.enc) (left : Int) (h0 : 0 ≤ left) (h1 : left ≤ 1048576) : run EE 117 [x.enc, .int .i64 left] [] = some (.int .i64 (szR x.enc left), []) := by
  have ho' := ho
  simp only [Rx.enc_eq, Vals.enc, Mor.enc, Sta.enc, Con.enc, Line.enc, Ans.enc, Prob.enc, Prog.enc, Ses.enc, Equ.enc, Mon.enc, Frm.enc, Mov.enc, Stp.enc, Dfa.enc, IL, I, B, okV, okL, and_true, true_and, List.length_map] at ho'
  rw [run_eq EE 117 _ _ Try.func117 (by decide +kernel) rfl (show 2 ≤ _ by decide)]
  dsimp only [Try.f117]
  have e : szR x.enc left = leftOf (szT x.enc) left := rfl
  rw [e]
  simp only [Rx.enc_eq, Vals.enc, Mor.enc, Sta.enc, Con.enc, Line.enc, Ans.enc, Prob.enc, Prog.enc, Ses.enc, Equ.enc, Mon.enc, Frm.enc, Mov.enc, Stp.enc, Dfa.enc, IL, I, B, szT, szL, List.length_map]
  have w1 := wrap_in (n := left - ((x.text).size : Int)) (by omega) (by omega)
  simp only [go_sem, w1]
  refine condL_dec (fun c1 => ?_) (fun c1 => ?_)
  · simp only [go_sem]
    rw [leftOf_neg (by omega)]
  have w2 := r46 x.mor (by simp only [Rx.enc_eq, Vals.enc, Mor.enc, Sta.enc, Con.enc, Line.enc, Ans.enc, Prob.enc, Prog.enc, Ses.enc, Equ.enc, Mon.enc, Frm.enc, Mov.enc, Stp.enc, Dfa.enc, IL, I, B, okV, okL, and_true, true_and, List.length_map] at ho ⊢; simp only [ho, and_self]) (left - ((x.text).size : Int)) (by omega) (by omega)
  unfold szR at w2
  generalize hn2 : szT (x.mor.enc) = n2 at w2
  simp only [Rx.enc_eq, Vals.enc, Mor.enc, Sta.enc, Con.enc, Line.enc, Ans.enc, Prob.enc, Prog.enc, Ses.enc, Equ.enc, Mon.enc, Frm.enc, Mov.enc, Stp.enc, Dfa.enc, IL, I, B, szT, szL, List.length_map] at w2 hn2
  simp only [go_sem, w2]
  refine condL_dec (fun c2 => ?_) (fun c2 => ?_)
  · have := leftOf_lt (by omega) c2
    simp only [go_sem]
    rw [leftOf_neg (by omega)]
  obtain ⟨e2, b2⟩ := leftOf_ge c2
  have w3 := r162 x.regex (by simp only [Rx.enc_eq, Vals.enc, Mor.enc, Sta.enc, Con.enc, Line.enc, Ans.enc, Prob.enc, Prog.enc, Ses.enc, Equ.enc, Mon.enc, Frm.enc, Mov.enc, Stp.enc, Dfa.enc, IL, I, B, okV, okL, and_true, true_and, List.length_map] at ho ⊢; simp only [ho, and_self]) (left - ((x.text).size : Int) - (n2 : Int)) (by omega) (by omega)
  unfold szR at w3
  generalize hn3 : szT (x.regex.enc) = n3 at w3
  simp only [Rx.enc_eq, Vals.enc, Mor.enc, Sta.enc, Con.enc, Line.enc, Ans.enc, Prob.enc, Prog.enc, Ses.enc, Equ.enc, Mon.enc, Frm.enc, Mov.enc, Stp.enc, Dfa.enc, IL, I, B, szT, szL, List.length_map] at w3 hn3
  simp only [go_sem, w3, e2]
  refine condL_dec (fun c3 => ?_) (fun c3 => ?_)
  · have := leftOf_lt (by omega) c3
    simp only [go_sem, e2]
    rw [leftOf_neg (by omega)]
  obtain ⟨e3, b3⟩ := leftOf_ge c3
  simp only [go_sem, e2, e3]
  rw [leftOf_pos (by omega)]
  refine congrArg some (congrArg (·, []) (congrArg (V.int .i64) ?_))
  omega

theorem r50 (l : List Line) (hl : l.length ≤ 9223372036854775807) (hc : ∀ x ∈ l, ∀ left : Int, 0 ≤ left → left ≤ 1048576 → run EE 117 [(Line.enc x), .int .i64 left] [] = some (.int .i64 (szR (Line.enc x) left), [])) (left : Int) (h0 : 0 ≤ left) (h1 : left ≤ 1048576) : run EE 50 [.slc false 8 (l.map Line.enc), .int .i64 left] [] = some (.int .i64 (szR (.slc false 8 (l.map Line.enc)) left), []) := by
  rw [run_eq EE 50 _ _ Try.func50 (by decide +kernel) rfl (show 2 ≤ _ by decide)]
  dsimp only [Try.f50]
  have w := wrap_in (n := left - (l.length : Int)) (by omega) (by omega)
  simp only [go_sem, w]
  have e : szR (.slc false 8 (l.map Line.enc)) left = leftOf (l.length + szL (l.map Line.enc)) left := by simp only [szR, szT, List.length_map]
  rw [e]
  refine condL_dec (fun c => ?_) (fun c => ?_)
  · simp only [go_sem]
    rw [leftOf_neg (by omega)]
  simp only [go_sem]
  refine (iter_inv (fun x : Nat × Int => x.1 ≤ l.length ∧ 0 ≤ x.2 ∧ x.2 ≤ 1048576) (fun x => { t := upd (upd (upd (e0) 5 (.int .i64 x.1)) 1 (.int .i64 x.2)) 0 (.slc false 8 (l.map Line.enc)), b := n0, o := [], r := #[ResultVar.tmp 4], f := 50, n := 27 }) (fun x => some (.int .i64 (szRL ((l.drop x.1).map Line.enc) x.2), [])) (fun x => l.length - x.1) ?_ (0, left - (l.length : Int)) ⟨Nat.zero_le _, by show 0 ≤ left - (l.length : Int); omega, by show left - (l.length : Int) ≤ 1048576; omega⟩).trans ?_
  · rintro ⟨i, left⟩ ⟨hi, a0, a1⟩ ih
    dsimp only at hi a0 a1 ⊢
    by_cases h : i < l.length
    · have k1 : (i : Int) < l.length := by omega
      have w := wrap_nat (n := i) (by omega)
      have hx := hc l[i] (List.getElem_mem h) left a0 a1
      rw [List.drop_eq_getElem_cons h, List.map_cons, szRL_cons]
      have hle : szR (Line.enc l[i]) left ≤ left ∨ szR (Line.enc l[i]) left = -1 := by unfold szR leftOf; split <;> omega
      generalize szR (Line.enc l[i]) left = r at hx hle ⊢
      simp only [Rx.enc_eq, Vals.enc, Mor.enc, Sta.enc, Con.enc, Line.enc, Ans.enc, Prob.enc, Prog.enc, Ses.enc, Equ.enc, Mon.enc, Frm.enc, Mov.enc, Stp.enc, Dfa.enc, IL, I, B] at hx
      simp only [go_sem, k1, w, getD_map h, hx]
      refine condL_dec (fun c => ?_) (fun c => ?_)
      · simp only [go_sem]
        rw [if_pos c]
      · simp only [go_sem, w]
        rw [if_neg c]
        exact ih (i + 1, r) ⟨by show i + 1 ≤ l.length; omega, by show 0 ≤ r; omega, by show r ≤ 1048576; omega⟩ (by show l.length - (i + 1) < l.length - i; omega)
    · have k1 : ¬ (i : Int) < l.length := by omega
      simp only [go_sem, k1]
      rw [List.drop_eq_nil_of_le (by omega)]
      show _ = some (V.int .i64 (leftOf 0 left), [])
      rw [leftOf_pos (by omega)]
      simp
  · show some (V.int .i64 (leftOf (szL (l.map Line.enc)) (left - (l.length : Int))), []) = _
    by_cases h : (szL (l.map Line.enc) : Int) ≤ left - l.length
    · rw [leftOf_pos h, leftOf_pos (by omega)]
      refine congrArg some (congrArg (·, []) (congrArg (V.int .i64) ?_))
      omega
    · rw [leftOf_neg h, leftOf_neg (by omega)]

theorem r9 (x : Prog) (ho : okV x.enc) (left : Int) (h0 : 0 ≤ left) (h1 : left ≤ 1048576) : run EE 9 [x.enc, .int .i64 left] [] = some (.int .i64 (szR x.enc left), []) := by
  have ho' := ho
  simp only [Rx.enc_eq, Vals.enc, Mor.enc, Sta.enc, Con.enc, Line.enc, Ans.enc, Prob.enc, Prog.enc, Ses.enc, Equ.enc, Mon.enc, Frm.enc, Mov.enc, Stp.enc, Dfa.enc, IL, I, B, okV, okL, and_true, true_and, List.length_map] at ho'
  rw [run_eq EE 9 _ _ Try.func9 (by decide +kernel) rfl (show 2 ≤ _ by decide)]
  dsimp only [Try.f9]
  have e : szR x.enc left = leftOf (szT x.enc) left := rfl
  rw [e]
  simp only [Rx.enc_eq, Vals.enc, Mor.enc, Sta.enc, Con.enc, Line.enc, Ans.enc, Prob.enc, Prog.enc, Ses.enc, Equ.enc, Mon.enc, Frm.enc, Mov.enc, Stp.enc, Dfa.enc, IL, I, B, szT, szL, List.length_map]
  have w1 := r50 x.lines (by simp only [Rx.enc_eq, Vals.enc, Mor.enc, Sta.enc, Con.enc, Line.enc, Ans.enc, Prob.enc, Prog.enc, Ses.enc, Equ.enc, Mon.enc, Frm.enc, Mov.enc, Stp.enc, Dfa.enc, IL, I, B, okV, okL, and_true, true_and, List.length_map] at ho; omega) (fun z hz left a b => r117 z (okL_map (by simp only [Rx.enc_eq, Vals.enc, Mor.enc, Sta.enc, Con.enc, Line.enc, Ans.enc, Prob.enc, Prog.enc, Ses.enc, Equ.enc, Mon.enc, Frm.enc, Mov.enc, Stp.enc, Dfa.enc, IL, I, B, okV, okL, and_true, true_and, List.length_map] at ho; simp only [ho]) hz) left a b) (left) (by omega) (by omega)
  unfold szR at w1
  generalize hn1 : szT (.slc false 8 (x.lines.map Line.enc)) = n1 at w1
  simp only [Rx.enc_eq, Vals.enc, Mor.enc, Sta.enc, Con.enc, Line.enc, Ans.enc, Prob.enc, Prog.enc, Ses.enc, Equ.enc, Mon.enc, Frm.enc, Mov.enc, Stp.enc, Dfa.enc, IL, I, B, szT, szL, List.length_map] at w1 hn1
  simp only [go_sem, w1]
  refine condL_dec (fun c1 => ?_) (fun c1 => ?_)
  · have := leftOf_lt (by omega) c1
    simp only [go_sem]
    rw [leftOf_neg (by omega)]
  obtain ⟨e1, b1⟩ := leftOf_ge c1
  simp only [go_sem, e1]
  rw [leftOf_pos (by omega)]
  refine congrArg some (congrArg (·, []) (congrArg (V.int .i64) ?_))
  omega
end Go.Ev
namespace Go.Ev
open Go Go.Proofs
set_option maxRecDepth 10000
set_option linter.unusedVariables false
set_option linter.unusedSimpArgs false
theorem r193 (l : List Rx) (hl : l.length ≤ 1048576) (hc : ∀ x ∈ l, run EE 165 [(Rx.enc x)] [] = some ((Rx.enc x), [])) : run EE 193 [.slc false 3 (l.map Rx.enc)] [] = some (.slc false 3 (l.map Rx.enc), []) := by
  rw [run_eq EE 193 _ _ Try.func193 (by decide +kernel) rfl (show 1 ≤ _ by decide)]
  dsimp only [Try.f193]
  have h8 : (l.length : Int) * 48 ≤ 140737488355328 := by omega
  simp only [go_sem, h8]
  refine iter_inv (fun i : Nat => i ≤ l.length) (fun i => { t := upd (upd (upd (e0) 4 (.int .i64 i)) 3 (.aref 0 7 l.length)) 0 (.slc false 3 (l.map Rx.enc)), b := upd (n0) 7 (some (Ob.arr false 3 (fill Rx.enc l (dflt Try.prog 97) i))), o := [], r := #[ResultVar.tmp 2], f := 193, n := 23 }) (fun _ => some (.slc false 3 (l.map Rx.enc), [])) (fun i => l.length - i) ?_ 0 (Nat.zero_le _)
  intro i hi ih
  by_cases h : i < l.length
  · have h1 : (i : Int) < l.length := by omega
    have w := wrap_nat (n := i) (by omega)
    have hx := hc l[i] (List.getElem_mem h)
    simp only [Rx.enc_eq, Vals.enc, Mor.enc, Sta.enc, Con.enc, Line.enc, Ans.enc, Prob.enc, Prog.enc, Ses.enc, Equ.enc, Mon.enc, Frm.enc, Mov.enc, Stp.enc, Dfa.enc, IL, I, B] at hx
    simp only [go_sem, h, h1, w, getD_map h, fill_len Rx.enc l _ hi, hx]
    rw [fill_set Rx.enc l _ h _ (by simp only [Rx.enc_eq, Vals.enc, Mor.enc, Sta.enc, Con.enc, Line.enc, Ans.enc, Prob.enc, Prog.enc, Ses.enc, Equ.enc, Mon.enc, Frm.enc, Mov.enc, Stp.enc, Dfa.enc, IL, I, B])]
    exact ih (i + 1) (by omega) (by omega)
  · have h1 : ¬ (i : Int) < l.length := by omega
    obtain rfl : i = l.length := by omega
    simp only [go_sem, h1, fill_all]

theorem r165 (x : Rx) (hs : szT x.enc ≤ 1048576) : run EE 165 [x.enc] [] = some (x.enc, []) := by
  have hs' := hs
  simp only [Rx.enc_eq, Vals.enc, Mor.enc, Sta.enc, Con.enc, Line.enc, Ans.enc, Prob.enc, Prog.enc, Ses.enc, Equ.enc, Mon.enc, Frm.enc, Mov.enc, Stp.enc, Dfa.enc, IL, I, B, szT, szL, List.length_map] at hs'
  have hc : ∀ z ∈ x.args, run EE 165 [z.enc] [] = some (z.enc, []) := fun z hz => r165 z (Nat.le_trans (szL_mem (f := Rx.enc) hz) (by omega))
  have q0 := r193 x.args (by simp only [Rx.enc_eq, Vals.enc, Mor.enc, Sta.enc, Con.enc, Line.enc, Ans.enc, Prob.enc, Prog.enc, Ses.enc, Equ.enc, Mon.enc, Frm.enc, Mov.enc, Stp.enc, Dfa.enc, IL, I, B, szT, szL, List.length_map] at hs; omega) hc
  try simp only [Rx.enc_eq, Vals.enc, Mor.enc, Sta.enc, Con.enc, Line.enc, Ans.enc, Prob.enc, Prog.enc, Ses.enc, Equ.enc, Mon.enc, Frm.enc, Mov.enc, Stp.enc, Dfa.enc, IL, I, B] at q0
  rw [run_eq EE 165 _ _ Try.func165 (by decide +kernel) rfl (show 1 ≤ _ by decide)]
  dsimp only [Try.f165]
  simp only [go_sem, q0]
  termination_by SizeOf.sizeOf x
  decreasing_by exact Rx.lt _ hz

theorem r48 (x : Mor) (hs : szT x.enc ≤ 1048576) : run EE 48 [x.enc] [] = some (x.enc, []) := by
  have hs' := hs
  simp only [Rx.enc_eq, Vals.enc, Mor.enc, Sta.enc, Con.enc, Line.enc, Ans.enc, Prob.enc, Prog.enc, Ses.enc, Equ.enc, Mon.enc, Frm.enc, Mov.enc, Stp.enc, Dfa.enc, IL, I, B, szT, szL, List.length_map] at hs'
  rw [run_eq EE 48 _ _ Try.func48 (by decide +kernel) rfl (show 1 ≤ _ by decide)]
  dsimp only [Try.f48]
  simp only [go_sem]

theorem r120 (x : Line) (hs : szT x.enc ≤ 1048576) : run EE 120 [x.enc] [] = some (x.enc, []) := by
  have hs' := hs
  simp only [Rx.enc_eq, Vals.enc, Mor.enc, Sta.enc, Con.enc, Line.enc, Ans.enc, Prob.enc, Prog.enc, Ses.enc, Equ.enc, Mon.enc, Frm.enc, Mov.enc, Stp.enc, Dfa.enc, IL, I, B, szT, szL, List.length_map] at hs'
  have q0 := r48 x.mor (by simp only [Rx.enc_eq, Vals.enc, Mor.enc, Sta.enc, Con.enc, Line.enc, Ans.enc, Prob.enc, Prog.enc, Ses.enc, Equ.enc, Mon.enc, Frm.enc, Mov.enc, Stp.enc, Dfa.enc, IL, I, B, szT, szL, List.length_map] at hs ⊢; omega)
  try simp only [Rx.enc_eq, Vals.enc, Mor.enc, Sta.enc, Con.enc, Line.enc, Ans.enc, Prob.enc, Prog.enc, Ses.enc, Equ.enc, Mon.enc, Frm.enc, Mov.enc, Stp.enc, Dfa.enc, IL, I, B] at q0
  have q1 := r165 x.regex (by simp only [Rx.enc_eq, Vals.enc, Mor.enc, Sta.enc, Con.enc, Line.enc, Ans.enc, Prob.enc, Prog.enc, Ses.enc, Equ.enc, Mon.enc, Frm.enc, Mov.enc, Stp.enc, Dfa.enc, IL, I, B, szT, szL, List.length_map] at hs ⊢; omega)
  try simp only [Rx.enc_eq, Vals.enc, Mor.enc, Sta.enc, Con.enc, Line.enc, Ans.enc, Prob.enc, Prog.enc, Ses.enc, Equ.enc, Mon.enc, Frm.enc, Mov.enc, Stp.enc, Dfa.enc, IL, I, B] at q1
  rw [run_eq EE 120 _ _ Try.func120 (by decide +kernel) rfl (show 1 ≤ _ by decide)]
  dsimp only [Try.f120]
  simp only [go_sem, q0, q1]

theorem r52 (l : List Line) (hl : l.length ≤ 1048576) (hc : ∀ x ∈ l, run EE 120 [(Line.enc x)] [] = some ((Line.enc x), [])) : run EE 52 [.slc false 8 (l.map Line.enc)] [] = some (.slc false 8 (l.map Line.enc), []) := by
  rw [run_eq EE 52 _ _ Try.func52 (by decide +kernel) rfl (show 1 ≤ _ by decide)]
  dsimp only [Try.f52]
  have h8 : (l.length : Int) * 120 ≤ 140737488355328 := by omega
  simp only [go_sem, h8]
  refine iter_inv (fun i : Nat => i ≤ l.length) (fun i => { t := upd (upd (upd (e0) 4 (.int .i64 i)) 3 (.aref 0 7 l.length)) 0 (.slc false 8 (l.map Line.enc)), b := upd (n0) 7 (some (Ob.arr false 8 (fill Line.enc l (dflt Try.prog 27) i))), o := [], r := #[ResultVar.tmp 2], f := 52, n := 23 }) (fun _ => some (.slc false 8 (l.map Line.enc), [])) (fun i => l.length - i) ?_ 0 (Nat.zero_le _)
  intro i hi ih
  by_cases h : i < l.length
  · have h1 : (i : Int) < l.length := by omega
    have w := wrap_nat (n := i) (by omega)
    have hx := hc l[i] (List.getElem_mem h)
    simp only [Rx.enc_eq, Vals.enc, Mor.enc, Sta.enc, Con.enc, Line.enc, Ans.enc, Prob.enc, Prog.enc, Ses.enc, Equ.enc, Mon.enc, Frm.enc, Mov.enc, Stp.enc, Dfa.enc, IL, I, B] at hx
    simp only [go_sem, h, h1, w, getD_map h, fill_len Line.enc l _ hi, hx]
    rw [fill_set Line.enc l _ h _ (by simp only [Rx.enc_eq, Vals.enc, Mor.enc, Sta.enc, Con.enc, Line.enc, Ans.enc, Prob.enc, Prog.enc, Ses.enc, Equ.enc, Mon.enc, Frm.enc, Mov.enc, Stp.enc, Dfa.enc, IL, I, B])]
    exact ih (i + 1) (by omega) (by omega)
  · have h1 : ¬ (i : Int) < l.length := by omega
    obtain rfl : i = l.length := by omega
    simp only [go_sem, h1, fill_all]

theorem r11 (x : Prog) (hs : szT x.enc ≤ 1048576) : run EE 11 [x.enc] [] = some (x.enc, []) := by
  have hs' := hs
  simp only [Rx.enc_eq, Vals.enc, Mor.enc, Sta.enc, Con.enc, Line.enc, Ans.enc, Prob.enc, Prog.enc, Ses.enc, Equ.enc, Mon.enc, Frm.enc, Mov.enc, Stp.enc, Dfa.enc, IL, I, B, szT, szL, List.length_map] at hs'
  have q0 := r52 x.lines (by simp only [Rx.enc_eq, Vals.enc, Mor.enc, Sta.enc, Con.enc, Line.enc, Ans.enc, Prob.enc, Prog.enc, Ses.enc, Equ.enc, Mon.enc, Frm.enc, Mov.enc, Stp.enc, Dfa.enc, IL, I, B, szT, szL, List.length_map] at hs; omega) (fun z hz => r120 z (Nat.le_trans (szL_mem (f := Line.enc) hz) (by simp only [Rx.enc_eq, Vals.enc, Mor.enc, Sta.enc, Con.enc, Line.enc, Ans.enc, Prob.enc, Prog.enc, Ses.enc, Equ.enc, Mon.enc, Frm.enc, Mov.enc, Stp.enc, Dfa.enc, IL, I, B, szT, szL, List.length_map] at hs; omega)))
  try simp only [Rx.enc_eq, Vals.enc, Mor.enc, Sta.enc, Con.enc, Line.enc, Ans.enc, Prob.enc, Prog.enc, Ses.enc, Equ.enc, Mon.enc, Frm.enc, Mov.enc, Stp.enc, Dfa.enc, IL, I, B] at q0
  rw [run_eq EE 11 _ _ Try.func11 (by decide +kernel) rfl (show 1 ≤ _ by decide)]
  dsimp only [Try.f11]
  simp only [go_sem, q0]
end Go.Ev
namespace Go.Ev
open Go Go.Proofs
set_option maxRecDepth 10000
set_option linter.unusedVariables false
set_option linter.unusedSimpArgs false
theorem r201 (l m : List Rx) (hl : l.length ≤ 1048576) (hc : ∀ x ∈ l, ∀ y : Rx, run EE 169 [(Rx.enc x), (Rx.enc y)] [] = some (.bool (veq (Rx.enc x) (Rx.enc y)), [])) : run EE 201 [.slc false 3 (l.map Rx.enc), .slc false 3 (m.map Rx.enc)] [] = some (.bool (veqs (l.map Rx.enc) (m.map Rx.enc)), []) := by
  rw [run_eq EE 201 _ _ Try.func201 (by decide +kernel) rfl (show 2 ≤ _ by decide)]
  dsimp only [Try.f201]
  by_cases hn : l.length = m.length
  · have hn' : (l.length : Int) = m.length := by omega
    simp only [go_sem, hn', bne_self_eq_false]
    refine iter_inv (fun i : Nat => i ≤ l.length) (fun i => { t := upd (upd (upd (e0) 5 (.int .i64 i)) 1 (.slc false 3 (m.map Rx.enc))) 0 (.slc false 3 (l.map Rx.enc)), b := n0, o := [], r := #[ResultVar.tmp 4], f := 201, n := 27 }) (fun i => some (.bool (veqs ((l.drop i).map Rx.enc) ((m.drop i).map Rx.enc)), [])) (fun i => l.length - i) ?_ 0 (Nat.zero_le _)
    intro i hi ih
    by_cases h : i < l.length
    · have h1 : (i : Int) < l.length := by omega
      have h1' : (i : Int) < m.length := by omega
      have h' : i < m.length := by omega
      have w := wrap_nat (n := i) (by omega)
      have hx := hc l[i] (List.getElem_mem h) m[i]
      rw [List.drop_eq_getElem_cons h, List.drop_eq_getElem_cons h', List.map_cons, List.map_cons, veqs_cons]
      generalize veq (Rx.enc l[i]) (Rx.enc m[i]) = r at hx ⊢
      simp only [Rx.enc_eq, Vals.enc, Mor.enc, Sta.enc, Con.enc, Line.enc, Ans.enc, Prob.enc, Prog.enc, Ses.enc, Equ.enc, Mon.enc, Frm.enc, Mov.enc, Stp.enc, Dfa.enc, IL, I, B] at hx
      simp only [go_sem, h1, h1']
      rw [q_drawn]
      rotate_left
      · kernel_rfl
      simp only [go_sem, h1, h1', w, getD_map h, getD_map h', hx]
      cases r
      · simp only [go_sem, Bool.not_false, Bool.false_and]
      · simp only [go_sem, w, Bool.not_true, Bool.true_and]
        exact ih (i + 1) (by omega) (by omega)
    · have h1 : ¬ (i : Int) < l.length := by omega
      have h1' : ¬ (i : Int) < m.length := by omega
      have e1 : l.drop i = [] := List.drop_eq_nil_of_le (by omega)
      have e2 : m.drop i = [] := List.drop_eq_nil_of_le (by omega)
      simp only [go_sem, h1, h1', e1, e2, List.map_nil, veqs]
  · have hn' : ((l.length : Int) != m.length) = true := by simp; omega
    simp only [go_sem, hn']
    rw [veqs_ne (by simpa using hn)]

theorem r169 (x y : Rx) (hs : szT x.enc ≤ 1048576) : run EE 169 [x.enc, y.enc] [] = some (.bool (veq x.enc y.enc), []) := by
  have hs' := hs
  simp only [Rx.enc_eq, Vals.enc, Mor.enc, Sta.enc, Con.enc, Line.enc, Ans.enc, Prob.enc, Prog.enc, Ses.enc, Equ.enc, Mon.enc, Frm.enc, Mov.enc, Stp.enc, Dfa.enc, IL, I, B, szT, szL, List.length_map] at hs'
  have hc : ∀ z ∈ x.args, ∀ v : Rx, run EE 169 [z.enc, v.enc] [] = some (.bool (veq z.enc v.enc), []) := fun z hz v => r169 z v (Nat.le_trans (szL_mem (f := Rx.enc) hz) (by omega))
  have q0 := r201 x.args y.args (by simp only [Rx.enc_eq, Vals.enc, Mor.enc, Sta.enc, Con.enc, Line.enc, Ans.enc, Prob.enc, Prog.enc, Ses.enc, Equ.enc, Mon.enc, Frm.enc, Mov.enc, Stp.enc, Dfa.enc, IL, I, B, szT, szL, List.length_map] at hs; omega) hc
  try simp only [Rx.enc_eq, Vals.enc, Mor.enc, Sta.enc, Con.enc, Line.enc, Ans.enc, Prob.enc, Prog.enc, Ses.enc, Equ.enc, Mon.enc, Frm.enc, Mov.enc, Stp.enc, Dfa.enc, IL, I, B] at q0
  rw [run_eq EE 169 _ _ Try.func169 (by decide +kernel) rfl (show 2 ≤ _ by decide)]
  dsimp only [Try.f169]
  simp only [go_sem, condL_b, bne, q0, veq, veqs]
  generalize (x.kind == y.kind) = b0
  generalize (x.letter.toList == y.letter.toList) = b1
  generalize (veqs (x.args.map Rx.enc) (y.args.map Rx.enc)) = b2
  cases b0 <;> cases b1 <;> cases b2 <;> rfl
  termination_by SizeOf.sizeOf x
  decreasing_by exact Rx.lt _ hz

theorem r168 (x y : Mor) (hs : szT x.enc ≤ 1048576) : run EE 168 [x.enc, y.enc] [] = some (.bool (veq x.enc y.enc), []) := by
  have hs' := hs
  simp only [Rx.enc_eq, Vals.enc, Mor.enc, Sta.enc, Con.enc, Line.enc, Ans.enc, Prob.enc, Prog.enc, Ses.enc, Equ.enc, Mon.enc, Frm.enc, Mov.enc, Stp.enc, Dfa.enc, IL, I, B, szT, szL, List.length_map] at hs'
  rw [run_eq EE 168 _ _ Try.func168 (by decide +kernel) rfl (show 2 ≤ _ by decide)]
  dsimp only [Try.f168]
  simp only [go_sem, condL_b, bne, veq, veqs]
  generalize (x.a.toList == y.a.toList) = b0
  generalize (x.b.toList == y.b.toList) = b1
  generalize (x.c.toList == y.c.toList) = b2
  cases b0 <;> cases b1 <;> cases b2 <;> rfl

theorem r124 (x y : Line) (hs : szT x.enc ≤ 1048576) : run EE 124 [x.enc, y.enc] [] = some (.bool (veq x.enc y.enc), []) := by
  have hs' := hs
  simp only [Rx.enc_eq, Vals.enc, Mor.enc, Sta.enc, Con.enc, Line.enc, Ans.enc, Prob.enc, Prog.enc, Ses.enc, Equ.enc, Mon.enc, Frm.enc, Mov.enc, Stp.enc, Dfa.enc, IL, I, B, szT, szL, List.length_map] at hs'
  have q0 := r168 x.mor y.mor (by simp only [Rx.enc_eq, Vals.enc, Mor.enc, Sta.enc, Con.enc, Line.enc, Ans.enc, Prob.enc, Prog.enc, Ses.enc, Equ.enc, Mon.enc, Frm.enc, Mov.enc, Stp.enc, Dfa.enc, IL, I, B, szT, szL, List.length_map] at hs ⊢; omega)
  try simp only [Rx.enc_eq, Vals.enc, Mor.enc, Sta.enc, Con.enc, Line.enc, Ans.enc, Prob.enc, Prog.enc, Ses.enc, Equ.enc, Mon.enc, Frm.enc, Mov.enc, Stp.enc, Dfa.enc, IL, I, B] at q0
  have q1 := r169 x.regex y.regex (by simp only [Rx.enc_eq, Vals.enc, Mor.enc, Sta.enc, Con.enc, Line.enc, Ans.enc, Prob.enc, Prog.enc, Ses.enc, Equ.enc, Mon.enc, Frm.enc, Mov.enc, Stp.enc, Dfa.enc, IL, I, B, szT, szL, List.length_map] at hs ⊢; omega)
  try simp only [Rx.enc_eq, Vals.enc, Mor.enc, Sta.enc, Con.enc, Line.enc, Ans.enc, Prob.enc, Prog.enc, Ses.enc, Equ.enc, Mon.enc, Frm.enc, Mov.enc, Stp.enc, Dfa.enc, IL, I, B] at q1
  rw [run_eq EE 124 _ _ Try.func124 (by decide +kernel) rfl (show 2 ≤ _ by decide)]
  dsimp only [Try.f124]
  simp only [go_sem, condL_b, bne, q0, q1, veq, veqs]
  generalize (x.kind == y.kind) = b0
  generalize (x.text.toList == y.text.toList) = b1
  generalize (x.mor.a.toList == y.mor.a.toList) = b2
  generalize (x.mor.b.toList == y.mor.b.toList) = b3
  generalize (x.mor.c.toList == y.mor.c.toList) = b4
  generalize (x.regex.kind == y.regex.kind) = b5
  generalize (x.regex.letter.toList == y.regex.letter.toList) = b6
  generalize (veqs (x.regex.args.map Rx.enc) (y.regex.args.map Rx.enc)) = b7
  cases b0 <;> cases b1 <;> cases b2 <;> cases b3 <;> cases b4 <;> cases b5 <;> cases b6 <;> cases b7 <;> rfl

theorem r56 (l m : List Line) (hl : l.length ≤ 1048576) (hc : ∀ x ∈ l, ∀ y : Line, run EE 124 [(Line.enc x), (Line.enc y)] [] = some (.bool (veq (Line.enc x) (Line.enc y)), [])) : run EE 56 [.slc false 8 (l.map Line.enc), .slc false 8 (m.map Line.enc)] [] = some (.bool (veqs (l.map Line.enc) (m.map Line.enc)), []) := by
  rw [run_eq EE 56 _ _ Try.func56 (by decide +kernel) rfl (show 2 ≤ _ by decide)]
  dsimp only [Try.f56]
  by_cases hn : l.length = m.length
  · have hn' : (l.length : Int) = m.length := by omega
    simp only [go_sem, hn', bne_self_eq_false]
    refine iter_inv (fun i : Nat => i ≤ l.length) (fun i => { t := upd (upd (upd (e0) 5 (.int .i64 i)) 1 (.slc false 8 (m.map Line.enc))) 0 (.slc false 8 (l.map Line.enc)), b := n0, o := [], r := #[ResultVar.tmp 4], f := 56, n := 27 }) (fun i => some (.bool (veqs ((l.drop i).map Line.enc) ((m.drop i).map Line.enc)), [])) (fun i => l.length - i) ?_ 0 (Nat.zero_le _)
    intro i hi ih
    by_cases h : i < l.length
    · have h1 : (i : Int) < l.length := by omega
      have h1' : (i : Int) < m.length := by omega
      have h' : i < m.length := by omega
      have w := wrap_nat (n := i) (by omega)
      have hx := hc l[i] (List.getElem_mem h) m[i]
      rw [List.drop_eq_getElem_cons h, List.drop_eq_getElem_cons h', List.map_cons, List.map_cons, veqs_cons]
      generalize veq (Line.enc l[i]) (Line.enc m[i]) = r at hx ⊢
      simp only [Rx.enc_eq, Vals.enc, Mor.enc, Sta.enc, Con.enc, Line.enc, Ans.enc, Prob.enc, Prog.enc, Ses.enc, Equ.enc, Mon.enc, Frm.enc, Mov.enc, Stp.enc, Dfa.enc, IL, I, B] at hx
      simp only [go_sem, h1, h1']
      rw [q_drawn]
      rotate_left
      · kernel_rfl
      simp only [go_sem, h1, h1', w, getD_map h, getD_map h', hx]
      cases r
      · simp only [go_sem, Bool.not_false, Bool.false_and]
      · simp only [go_sem, w, Bool.not_true, Bool.true_and]
        exact ih (i + 1) (by omega) (by omega)
    · have h1 : ¬ (i : Int) < l.length := by omega
      have h1' : ¬ (i : Int) < m.length := by omega
      have e1 : l.drop i = [] := List.drop_eq_nil_of_le (by omega)
      have e2 : m.drop i = [] := List.drop_eq_nil_of_le (by omega)
      simp only [go_sem, h1, h1', e1, e2, List.map_nil, veqs]
  · have hn' : ((l.length : Int) != m.length) = true := by simp; omega
    simp only [go_sem, hn']
    rw [veqs_ne (by simpa using hn)]

theorem r13 (x y : Prog) (hs : szT x.enc ≤ 1048576) : run EE 13 [x.enc, y.enc] [] = some (.bool (veq x.enc y.enc), []) := by
  have hs' := hs
  simp only [Rx.enc_eq, Vals.enc, Mor.enc, Sta.enc, Con.enc, Line.enc, Ans.enc, Prob.enc, Prog.enc, Ses.enc, Equ.enc, Mon.enc, Frm.enc, Mov.enc, Stp.enc, Dfa.enc, IL, I, B, szT, szL, List.length_map] at hs'
  have q0 := r56 x.lines y.lines (by simp only [Rx.enc_eq, Vals.enc, Mor.enc, Sta.enc, Con.enc, Line.enc, Ans.enc, Prob.enc, Prog.enc, Ses.enc, Equ.enc, Mon.enc, Frm.enc, Mov.enc, Stp.enc, Dfa.enc, IL, I, B, szT, szL, List.length_map] at hs; omega) (fun z hz v => r124 z v (Nat.le_trans (szL_mem (f := Line.enc) hz) (by simp only [Rx.enc_eq, Vals.enc, Mor.enc, Sta.enc, Con.enc, Line.enc, Ans.enc, Prob.enc, Prog.enc, Ses.enc, Equ.enc, Mon.enc, Frm.enc, Mov.enc, Stp.enc, Dfa.enc, IL, I, B, szT, szL, List.length_map] at hs; omega)))
  try simp only [Rx.enc_eq, Vals.enc, Mor.enc, Sta.enc, Con.enc, Line.enc, Ans.enc, Prob.enc, Prog.enc, Ses.enc, Equ.enc, Mon.enc, Frm.enc, Mov.enc, Stp.enc, Dfa.enc, IL, I, B] at q0
  rw [run_eq EE 13 _ _ Try.func13 (by decide +kernel) rfl (show 2 ≤ _ by decide)]
  dsimp only [Try.f13]
  simp only [go_sem, condL_b, bne, q0, veq, veqs]
  generalize (veqs (x.lines.map Line.enc) (y.lines.map Line.enc)) = b0
  cases b0 <;> rfl
end Go.Ev
namespace Go.Ev
open Go Go.Proofs
set_option maxRecDepth 10000
set_option linter.unusedVariables false
set_option linter.unusedSimpArgs false

theorem line_sz (l : Line) (h : szT l.enc ≤ 1048576) : lineSz l := by
  unfold lineSz
  simp only [Line.enc, Rx.enc_eq, szT, szL] at h ⊢
  omega
theorem law3 (x : Prog) (ox : okV x.enc) : run EE 3 [x.enc] [] = some (.bool true, []) := by
  have z1 := r9 x ox 1048576 (by omega) (by omega)
  unfold szR at z1
  generalize hn1 : szT x.enc = n1 at z1
  simp only [Prog.enc] at z1
  rw [run_eq EE 3 _ _ Try.func3 (by decide +kernel) rfl (show 1 ≤ _ by decide)]
  dsimp only [Try.f3]
  simp only [go_sem, z1]
  refine condL_dec (fun c1 => ?_) (fun c1 => ?_)
  · simp only [go_sem]
  obtain ⟨e1, b1⟩ := leftOf_ge c1
  have hn1' := hn1
  simp only [Prog.enc, szT, szL, List.length_map] at hn1'
  have hS : ∀ z ∈ x.lines, szT z.enc ≤ 1048576 := fun z hz => by have := szL_mem (f := Line.enc) hz; omega
  have tx := r11 x (by omega)
  have sp := r10 x.lines (by omega) (fun z hz => line_sz z (hS z hz))
  have im := r12 x.lines (by omega) (fun z hz => line_sz z (hS z hz))
  have ex := r13 x x (by omega)
  rw [veq_refl] at ex
  generalize progOk x.lines = b at sp im
  simp only [Prog.enc] at tx ex
  have eb : (b != b) = false := by cases b <;> rfl
  simp only [go_sem, e1, tx, sp, im, eb, bne, beq_self_eq_true, Bool.not_true]
  rw [q_drawn]
  rotate_left
  · kernel_rfl
  simp only [go_sem, tx, ex, Bool.not_true]
end Go.Ev
namespace Go.Ev.Op
open Go Go.Proofs Go.RowKit Go.Ev
set_option maxRecDepth 10000
set_option linter.unusedVariables false
set_option linter.unusedSimpArgs false
theorem un3 : Try.prog.underlying 3 = some (.int .i64) := by kernel_rfl
theorem ce3 : Try.prog.cellsOf 3 = 1 := by kernel_rfl
theorem un9 : Try.prog.underlying 9 = some .string := by kernel_rfl
theorem ce9 : Try.prog.cellsOf 9 = 1 := by kernel_rfl
theorem fo89 : fieldsOf Try.prog 89 = some [(9, 0), (9, 1), (9, 2)] := by kernel_rfl
theorem ce89 : Try.prog.cellsOf 89 = 3 := by kernel_rfl
theorem ty89 : ∀ (n : Nat) (vs : List V), TyOk Try.prog n 89 vs → ∃ x : Mor, V.agg vs = x.enc ∧ okV x.enc := by
  intro n
  induction n using Nat.strongRecOn with
  | _ n ih =>
  cases n with
  | zero => intro vs h; cases h
  | succ n =>
    intro vs h
    obtain ⟨hl, hf⟩ := tyOk_struct fo89 h
    rw [ce89] at hl
    match vs, hl with
    | [a0, a1, a2], _ =>
      have h0 := hf (9, 0) (by simp)
      dsimp only at h0
      rw [ce9] at h0
      simp only [List.drop_succ_cons, List.drop_zero, List.take_succ_cons, List.take_zero] at h0
      obtain ⟨m0, e0, o0⟩ := tyOk_str un9 h0
      obtain rfl : a0 = _ := (List.cons.inj e0).1
      have h1 := hf (9, 1) (by simp)
      dsimp only at h1
      rw [ce9] at h1
      simp only [List.drop_succ_cons, List.drop_zero, List.take_succ_cons, List.take_zero] at h1
      obtain ⟨m1, e1, o1⟩ := tyOk_str un9 h1
      obtain rfl : a1 = _ := (List.cons.inj e1).1
      have h2 := hf (9, 2) (by simp)
      dsimp only at h2
      rw [ce9] at h2
      simp only [List.drop_succ_cons, List.drop_zero, List.take_succ_cons, List.take_zero] at h2
      obtain ⟨m2, e2, o2⟩ := tyOk_str un9 h2
      obtain rfl : a2 = _ := (List.cons.inj e2).1
      refine ⟨⟨m0, m1, m2⟩, ?_, ?_⟩
      · simp only [Rx.enc_eq, Vals.enc, Mor.enc, Sta.enc, Con.enc, Line.enc, Ans.enc, Prob.enc, Prog.enc, Ses.enc, Equ.enc, Mon.enc, Frm.enc, Mov.enc, Stp.enc, Dfa.enc, IL, I, B, V.agg.injEq, List.cons.injEq, and_true, true_and]
      · simp only [Rx.enc_eq, Vals.enc, Mor.enc, Sta.enc, Con.enc, Line.enc, Ans.enc, Prob.enc, Prog.enc, Ses.enc, Equ.enc, Mon.enc, Frm.enc, Mov.enc, Stp.enc, Dfa.enc, IL, I, B, okV, okL, List.length_map, and_true, true_and]
        simp only [o0, o1, o2, and_self]
theorem un156 : Try.prog.underlying 156 = some (.slice 158) := by kernel_rfl
theorem ce156 : Try.prog.cellsOf 156 = 1 := by kernel_rfl
theorem ag158 : isAgg Try.prog 158 = true := by kernel_rfl
theorem fo158 : fieldsOf Try.prog 158 = some [(3, 0), (9, 1), (156, 2)] := by kernel_rfl
theorem ce158 : Try.prog.cellsOf 158 = 3 := by kernel_rfl
theorem ty158 : ∀ (n : Nat) (vs : List V), TyOk Try.prog n 158 vs → ∃ x : Rx, V.agg vs = x.enc ∧ okV x.enc := by
  intro n
  induction n using Nat.strongRecOn with
  | _ n ih =>
  cases n with
  | zero => intro vs h; cases h
  | succ n =>
    intro vs h
    obtain ⟨hl, hf⟩ := tyOk_struct fo158 h
    rw [ce158] at hl
    match vs, hl with
    | [a0, a1, a2], _ =>
      have h0 := hf (3, 0) (by simp)
      dsimp only at h0
      rw [ce3] at h0
      simp only [List.drop_succ_cons, List.drop_zero, List.take_succ_cons, List.take_zero] at h0
      obtain ⟨m0, e0, o0⟩ := tyOk_int un3 h0
      obtain rfl : a0 = _ := (List.cons.inj e0).1
      have h1 := hf (9, 1) (by simp)
      dsimp only at h1
      rw [ce9] at h1
      simp only [List.drop_succ_cons, List.drop_zero, List.take_succ_cons, List.take_zero] at h1
      obtain ⟨m1, e1, o1⟩ := tyOk_str un9 h1
      obtain rfl : a1 = _ := (List.cons.inj e1).1
      have h2 := hf (156, 2) (by simp)
      dsimp only at h2
      rw [ce156] at h2
      simp only [List.drop_succ_cons, List.drop_zero, List.take_succ_cons, List.take_zero] at h2
      obtain ⟨m2, e2, l2, o2⟩ := tyOk_slcR un156 (fun m hm us hu => ty_agg ag158 (ih m (by omega) us hu)) h2
      obtain rfl : a2 = _ := (List.cons.inj e2).1
      rw [ce158]
      refine ⟨⟨m0, m1, m2⟩, ?_, ?_⟩
      · simp only [Rx.enc_eq, Vals.enc, Mor.enc, Sta.enc, Con.enc, Line.enc, Ans.enc, Prob.enc, Prog.enc, Ses.enc, Equ.enc, Mon.enc, Frm.enc, Mov.enc, Stp.enc, Dfa.enc, IL, I, B, V.agg.injEq, List.cons.injEq, and_true, true_and]
      · simp only [Rx.enc_eq, Vals.enc, Mor.enc, Sta.enc, Con.enc, Line.enc, Ans.enc, Prob.enc, Prog.enc, Ses.enc, Equ.enc, Mon.enc, Frm.enc, Mov.enc, Stp.enc, Dfa.enc, IL, I, B, okV, okL, List.length_map, and_true, true_and]
        simp only [o0, o1, l2, o2, and_self]
theorem fo160 : fieldsOf Try.prog 160 = some [(3, 0), (9, 1), (89, 2), (158, 5)] := by kernel_rfl
theorem ce160 : Try.prog.cellsOf 160 = 8 := by kernel_rfl
theorem ty160 : ∀ (n : Nat) (vs : List V), TyOk Try.prog n 160 vs → ∃ x : Line, V.agg vs = x.enc ∧ okV x.enc := by
  intro n
  induction n using Nat.strongRecOn with
  | _ n ih =>
  cases n with
  | zero => intro vs h; cases h
  | succ n =>
    intro vs h
    obtain ⟨hl, hf⟩ := tyOk_struct fo160 h
    rw [ce160] at hl
    match vs, hl with
    | [a0, a1, a2, a3, a4, a5, a6, a7], _ =>
      have h0 := hf (3, 0) (by simp)
      dsimp only at h0
      rw [ce3] at h0
      simp only [List.drop_succ_cons, List.drop_zero, List.take_succ_cons, List.take_zero] at h0
      obtain ⟨m0, e0, o0⟩ := tyOk_int un3 h0
      obtain rfl : a0 = _ := (List.cons.inj e0).1
      have h1 := hf (9, 1) (by simp)
      dsimp only at h1
      rw [ce9] at h1
      simp only [List.drop_succ_cons, List.drop_zero, List.take_succ_cons, List.take_zero] at h1
      obtain ⟨m1, e1, o1⟩ := tyOk_str un9 h1
      obtain rfl : a1 = _ := (List.cons.inj e1).1
      have h2 := hf (89, 2) (by simp)
      dsimp only at h2
      rw [ce89] at h2
      simp only [List.drop_succ_cons, List.drop_zero, List.take_succ_cons, List.take_zero] at h2
      obtain ⟨m2, e2, o2⟩ := ty89 _ _ h2
      have h3 := hf (158, 5) (by simp)
      dsimp only at h3
      rw [ce158] at h3
      simp only [List.drop_succ_cons, List.drop_zero, List.take_succ_cons, List.take_zero] at h3
      obtain ⟨m3, e3, o3⟩ := ty158 _ _ h3
      refine ⟨⟨m0, m1, m2, m3⟩, ?_, ?_⟩
      · simp only [Rx.enc_eq, Vals.enc, Mor.enc, Sta.enc, Con.enc, Line.enc, Ans.enc, Prob.enc, Prog.enc, Ses.enc, Equ.enc, Mon.enc, Frm.enc, Mov.enc, Stp.enc, Dfa.enc, IL, I, B, V.agg.injEq, List.cons.injEq, and_true] at e2; simp only [Rx.enc_eq, Vals.enc, Mor.enc, Sta.enc, Con.enc, Line.enc, Ans.enc, Prob.enc, Prog.enc, Ses.enc, Equ.enc, Mon.enc, Frm.enc, Mov.enc, Stp.enc, Dfa.enc, IL, I, B, V.agg.injEq, List.cons.injEq, and_true] at e3; simp only [Rx.enc_eq, Vals.enc, Mor.enc, Sta.enc, Con.enc, Line.enc, Ans.enc, Prob.enc, Prog.enc, Ses.enc, Equ.enc, Mon.enc, Frm.enc, Mov.enc, Stp.enc, Dfa.enc, IL, I, B, V.agg.injEq, List.cons.injEq, and_true, true_and, e2, e3]
      · simp only [Rx.enc_eq, Vals.enc, Mor.enc, Sta.enc, Con.enc, Line.enc, Ans.enc, Prob.enc, Prog.enc, Ses.enc, Equ.enc, Mon.enc, Frm.enc, Mov.enc, Stp.enc, Dfa.enc, IL, I, B, okV, okL, List.length_map, and_true, true_and]
        simp only [Rx.enc_eq, Vals.enc, Mor.enc, Sta.enc, Con.enc, Line.enc, Ans.enc, Prob.enc, Prog.enc, Ses.enc, Equ.enc, Mon.enc, Frm.enc, Mov.enc, Stp.enc, Dfa.enc, IL, I, B, okV, okL, List.length_map, and_true, true_and] at o2
        simp only [Rx.enc_eq, Vals.enc, Mor.enc, Sta.enc, Con.enc, Line.enc, Ans.enc, Prob.enc, Prog.enc, Ses.enc, Equ.enc, Mon.enc, Frm.enc, Mov.enc, Stp.enc, Dfa.enc, IL, I, B, okV, okL, List.length_map, and_true, true_and] at o3
        simp only [o0, o1, o2, o3, and_self]
theorem un22 : Try.prog.underlying 22 = some (.slice 160) := by kernel_rfl
theorem ce22 : Try.prog.cellsOf 22 = 1 := by kernel_rfl
theorem ag160 : isAgg Try.prog 160 = true := by kernel_rfl
theorem ty22 : ∀ (n : Nat) (vs : List V), TyOk Try.prog n 22 vs → ∃ l : List Line, vs = [.slc false 8 (l.map Line.enc)] ∧ l.length ≤ 9223372036854775807 ∧ okL (l.map Line.enc) := by
  intro n vs h
  cases n with
  | zero => cases h
  | succ n =>
    obtain ⟨l, h1, h2, h3⟩ := tyOk_slc un22 (f := Line.enc) (fun us hu => ty_agg ag160 (ty160 _ _ hu)) h
    rw [ce160] at h1
    exact ⟨l, h1, h2, h3⟩
theorem fo24 : fieldsOf Try.prog 24 = some [(22, 0)] := by kernel_rfl
theorem ce24 : Try.prog.cellsOf 24 = 1 := by kernel_rfl
theorem ty24 : ∀ (n : Nat) (vs : List V), TyOk Try.prog n 24 vs → ∃ x : Prog, V.agg vs = x.enc ∧ okV x.enc := by
  intro n
  induction n using Nat.strongRecOn with
  | _ n ih =>
  cases n with
  | zero => intro vs h; cases h
  | succ n =>
    intro vs h
    obtain ⟨hl, hf⟩ := tyOk_struct fo24 h
    rw [ce24] at hl
    match vs, hl with
    | [a0], _ =>
      have h0 := hf (22, 0) (by simp)
      dsimp only at h0
      rw [ce22] at h0
      simp only [List.drop_succ_cons, List.drop_zero, List.take_succ_cons, List.take_zero] at h0
      obtain ⟨m0, e0, l0, o0⟩ := ty22 _ _ h0
      obtain rfl : a0 = _ := (List.cons.inj e0).1
      refine ⟨⟨m0⟩, ?_, ?_⟩
      · simp only [Rx.enc_eq, Vals.enc, Mor.enc, Sta.enc, Con.enc, Line.enc, Ans.enc, Prob.enc, Prog.enc, Ses.enc, Equ.enc, Mon.enc, Frm.enc, Mov.enc, Stp.enc, Dfa.enc, IL, I, B, V.agg.injEq, List.cons.injEq, and_true, true_and]
      · simp only [Rx.enc_eq, Vals.enc, Mor.enc, Sta.enc, Con.enc, Line.enc, Ans.enc, Prob.enc, Prog.enc, Ses.enc, Equ.enc, Mon.enc, Frm.enc, Mov.enc, Stp.enc, Dfa.enc, IL, I, B, okV, okL, List.length_map, and_true, true_and]
        simp only [l0, o0, and_self]
theorem closed : closedT Try.prog [3, 9, 89, 156, 158, 160, 22, 24] = true := by kernel_rfl
end Go.Ev.Op
