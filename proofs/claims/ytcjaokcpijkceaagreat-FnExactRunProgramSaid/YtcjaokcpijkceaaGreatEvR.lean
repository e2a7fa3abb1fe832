/- Joins and repetitions: the program's. Sets of states: the reference's sorted lists. Joins: the reference's. Repetitions: the reference's. Morphisms, the empty expression, validity of expressions. -/
import Derived.Test.YtcjaokcpijkceaaGreatEvQ
import Derived.Test.YtcjaokcpijkceaaGreatEvL
import Derived.Test.YtcjaokcpijkceaaGreatEvM
import Derived.Test.YtcjaokcpijkceaaGreatEvK
set_option linter.unusedVariables false
set_option linter.unusedSimpArgs false
namespace Go.Ev
open Go Go.Proofs
set_option maxRecDepth 10000
set_option maxHeartbeats 4000000
set_option linter.unusedVariables false
set_option linter.unusedSimpArgs false

theorem r256 (a : DN) (x : Nat × Nat) (h1 : x.1 < a.accept.length) (h2 : x.2 < 2 ^ 64) (k : Nat) (os : List (Nat → Option Ob)) (ho : os.length ≠ 0) (hk : obIn k 0 os = some (.box [.slc false 1 (a.accept.map B), .slc false 1 (a.next.map NT)])) :
    run EE 256 [encR x, .ptr 0 k 0] os = some (encR (begC a x), os) := by
  have ho' : ¬ 0 = os.length := fun e => ho e.symm
  have p1 : (x.1 : Int) < a.accept.length := by omega
  have g1 : ∀ v : V, (a.accept.map B).getD x.1 v = B (accN a x.1) := fun v => getD_B h1 v
  have ho1 := u64_or1 x.2 h2
  unfold begC
  generalize accN a x.1 = A at g1 ⊢
  simp only [encR, IN]
  rw [run_eq EE 256 _ _ Tryz.func256 (by decide +kernel) rfl (show 2 ≤ _ by decide)]
  dsimp only [Tryz.f256]
  cases A
  · simp only [go_sem, ho', hk, p1, g1]
  · simp only [go_sem, ho', hk, p1, g1, ho1]
theorem r258 (b : DN) (hb : Val b) (x : Nat × Nat) (k : Nat) (os : List (Nat → Option Ob)) (ho : os.length ≠ 0) (hk : obIn k 0 os = some (.box [.slc false 1 (b.accept.map B), .slc false 1 (b.next.map NT)])) :
    run EE 258 [encR x, .ptr 0 k 0] os = some (.bool (accC b x), os) := by
  have ho' : ¬ 0 = os.length := fun e => ho e.symm
  have ac := r259 b hb.ok hb.le x.2
  unfold accC
  generalize anyN b x.2 = A at ac ⊢
  simp only [DN.enc] at ac
  simp only [encR, IN]
  rw [run_eq EE 258 _ _ Tryz.func258 (by decide +kernel) rfl (show 2 ≤ _ by decide)]
  dsimp only [Tryz.f258]
  simp only [go_sem, ho', hk, ac]
theorem r260 (a b : DN) (ha : Val a) (hb : Val b) (x : Nat × Nat) (hx : inC a b x) (i : Nat) (hi : i < 3) (k1 k2 k3 : Nat) (os : List (Nat → Option Ob)) (ho : os.length ≠ 0) (hk1 : obIn k1 0 os = some (.box [.fn 256 [.ptr 0 k2 0]])) (hk2 : obIn k2 0 os = some (.box [.slc false 1 (a.accept.map B), .slc false 1 (a.next.map NT)])) (hk3 : obIn k3 0 os = some (.box [.slc false 1 (b.accept.map B), .slc false 1 (b.next.map NT)])) :
    run EE 260 [encR x, .int .i64 i, .ptr 0 k1 0, .ptr 0 k2 0, .ptr 0 k3 0] os = some (encR ((l3A (succC a b x))[i]'(by rw [l3A_len]; exact hi)), os) := by
  rw [succC_get a b x hi]
  have ho' : ¬ 0 = os.length := fun e => ho e.symm
  have p1 : (x.1 : Int) < a.next.length := by have := hx.1; have := ha.ok.1; omega
  have p2 : (i : Int) < 3 := by omega
  have g1 : ∀ v : V, (a.next.map NT).getD x.1 v = NT (a.nx x.1) := fun v => getD_NT (by rw [ha.ok.1]; exact hx.1) v
  have g3 := nx3_get (a.nx x.1) hi
  have hq := nx3_lt (nx_lt3 ha.ok x.1 hx.1) hi
  have mv := r261 b hb.ok hb.le x.2 i hi hx.2
  have hm := moveN_lt hb.ok hi x.2
  have bg := fun (b0 : Nat → Option Ob) => r256 a (nx3 (a.nx x.1) i, moveN b x.2 i) hq (p64 hb.le hm) k2 (b0 :: os) (by simp) (by rw [obIn_cons (by omega)]; exact hk2)
  generalize a.nx x.1 = t at g1 g3 bg ⊢
  generalize nx3 t i = Q at g3 bg ⊢
  generalize moveN b x.2 i = M at mv bg ⊢
  generalize begC a (Q, M) = R at bg ⊢
  simp only [DN.enc, encR, IN] at mv bg ⊢
  rw [run_eq EE 260 _ _ Tryz.func260 (by decide +kernel) rfl (show 5 ≤ _ by decide)]
  dsimp only [Tryz.f260]
  simp only [go_sem]
  rw [q_drs]
  rotate_left
  · kernel_rfl
  simp only [go_sem, ho', hk1, hk2, hk3, p1, p2, g1, g3, mv, bg]
theorem hp1 (k1 : Nat) (b : Nat → Option Ob) : ∀ (st : St) (objs : List Nat), st.o = [b] → ([.ptr 0 k1 0] : List V).all (heldP st objs) = true := by
  intro st objs h; simp [heldP, St.lv, h]
theorem r196 (a b : DN) (ha : Val a) (hb : Val b) : run EE 196 [a.enc, b.enc] [] = some (resO (concD a b), []) := by
  have va := vd_i a ha
  have vb := vd_i b hb
  have h00 : inC a b (begC a (0, 0)) := begC_in hb ⟨ha.pos, Nat.two_pow_pos _⟩
  have ft := fun (hl : (listC2 a b).length ≤ 400) => r128 (expD (succC a b) (accC b) (listC2 a b)) (expD_ok hl).1 (expD_ok hl).2.1 (by have := (expD_ok (acc := accC b) hl).2.2; unfold listC2; omega)
  have bg := fun (b0 : Nat → Option Ob) (hk : b0 2 = some (.box [.slc false 1 (a.accept.map B), .slc false 1 (a.next.map NT)])) => r256 a (0, 0) ha.pos (by decide) 2 [b0] (by simp) hk
  have ex := fun (B0 : Nat → Option Ob) (h6 : B0 6 = some (.box [.fn 256 [.ptr 0 2 0]])) (h2 : B0 2 = some (.box [.slc false 1 (a.accept.map B), .slc false 1 (a.next.map NT)])) (h3 : B0 3 = some (.box [.slc false 1 (b.accept.map B), .slc false 1 (b.next.map NT)])) =>
    r257 (succC a b) (accC b) 400 (begC a (0, 0)) (inC a b) (by decide) (by decide) h00 (fun x hx => succC_in ha hb hx) 258 260 [.ptr 0 3 0] [.ptr 0 6 0, .ptr 0 2 0, .ptr 0 3 0] [B0] (by simp) (hp1 3 B0) (hp3 6 2 3 B0) rfl rfl
      (fun x hx b0 => r258 b hb x 3 _ (by simp) (by rw [obIn_cons (by simp)]; exact h3))
      (fun x hx i hi b0 => r260 a b ha hb x hx i hi 6 2 3 _ (by simp) (by rw [obIn_cons (by simp)]; exact h6) (by rw [obIn_cons (by simp)]; exact h2) (by rw [obIn_cons (by simp)]; exact h3)) (by kernel_rfl) (by kernel_rfl)
  have eL : expL (succC a b) 400 (begC a (0, 0)) = listC2 a b := rfl
  rw [eL] at ex
  have e16 : ((400 : Nat) : Int) = 400 := rfl
  rw [e16] at ex
  have e00 : ((0 : Nat) : Int) = 0 := rfl
  simp only [encR, IN, e00] at ex bg
  unfold concD
  generalize begC a (0, 0) = s0 at ex bg
  simp only [DN.enc] at va vb
  rw [run_eq EE 196 _ _ Tryz.func196 (by decide +kernel) rfl (show 2 ≤ _ by decide)]
  dsimp only [Tryz.f196]
  by_cases hl : (listC2 a b).length ≤ 400
  · rw [if_pos hl] at ex ⊢
    have ft := ft hl
    generalize expD (succC a b) (accC b) (listC2 a b) = d at ft ex ⊢
    generalize hr : fitD d = r at ft ⊢
    simp only [DN.enc] at ft ex
    simp only [go_sem, va, vb, Bool.not_true]
    rw [bg _ rfl]
    simp only [go_sem]
    rw [ex _ rfl rfl rfl]
    cases r with
    | none => simp only [go_sem, ft, resO]
    | some e => simp only [go_sem, ft, resO]
  · rw [if_neg hl] at ex ⊢
    simp only [go_sem, va, vb, Bool.not_true]
    rw [bg _ rfl]
    simp only [go_sem]
    rw [ex _ rfl rfl rfl]
    simp only [go_sem, resO]
theorem r262 (d : DN) (hd : Val d) (x : Nat × Nat) (k : Nat) (os : List (Nat → Option Ob)) (ho : os.length ≠ 0) (hk : obIn k 0 os = some (.box [.slc false 1 (d.accept.map B), .slc false 1 (d.next.map NT)])) :
    run EE 262 [encR x, .ptr 0 k 0] os = some (.bool (accT d x), os) := by
  have ho' : ¬ 0 = os.length := fun e => ho e.symm
  have ac := r259 d hd.ok hd.le x.2
  have e1 : ((x.1 : Int) == 1) = (x.1 == 1) := nat_beq x.1 1
  unfold accT
  generalize anyN d x.2 = A at ac ⊢
  simp only [DN.enc] at ac
  simp only [encR, IN]
  rw [run_eq EE 262 _ _ Tryz.func262 (by decide +kernel) rfl (show 2 ≤ _ by decide)]
  dsimp only [Tryz.f262]
  cases hx : (x.1 == 1)
  · rw [hx] at e1
    simp only [go_sem, ho', hk, ac, e1]
  · rw [hx] at e1
    simp only [go_sem, ho', hk, ac, e1]
theorem r263 (d : DN) (hd : Val d) (x : Nat × Nat) (hx : inT d x) (i : Nat) (hi : i < 3) (k : Nat) (os : List (Nat → Option Ob)) (ho : os.length ≠ 0) (hk : obIn k 0 os = some (.box [.slc false 1 (d.accept.map B), .slc false 1 (d.next.map NT)])) :
    run EE 263 [encR x, .int .i64 i, .ptr 0 k 0] os = some (encR ((l3A (succT d x))[i]'(by rw [l3A_len]; exact hi)), os) := by
  rw [succT_get d x hi]
  have ho' : ¬ 0 = os.length := fun e => ho e.symm
  have mv := r261 d hd.ok hd.le x.2 i hi hx.2
  have hm := moveN_lt hd.ok hi x.2
  have ho1 := u64_or1 (moveN d x.2 i) (p64 hd.le hm)
  have ac := r259 d hd.ok hd.le (moveN d x.2 i)
  unfold stp
  generalize moveN d x.2 i = M at mv ac ho1 ⊢
  generalize anyN d M = A at ac ⊢
  have e00 : ((0 : Nat) : Int) = 0 := rfl
  simp only [DN.enc, encR, IN, e00] at mv ac ⊢
  rw [run_eq EE 263 _ _ Tryz.func263 (by decide +kernel) rfl (show 3 ≤ _ by decide)]
  dsimp only [Tryz.f263]
  cases A
  · simp only [go_sem, ho', hk, mv, ac]
  · simp only [go_sem, ho', hk, mv, ac, ho1]
theorem r197 (d : DN) (hd : Val d) : run EE 197 [d.enc] [] = some (resO (starD d), []) := by
  have va := vd_i d hd
  have h00 : inT d (1, 1) := ⟨by show 1 < 2; decide, Nat.one_lt_two_pow (by have := hd.pos; omega)⟩
  have ft := fun (hl : (listT d).length ≤ 400) => r128 (expD (succT d) (accT d) (listT d)) (expD_ok hl).1 (expD_ok hl).2.1 (by have := (expD_ok (acc := accT d) hl).2.2; unfold listT; omega)
  have ex := fun (B0 : Nat → Option Ob) (h1 : B0 1 = some (.box [.slc false 1 (d.accept.map B), .slc false 1 (d.next.map NT)])) =>
    r257 (succT d) (accT d) 400 (1, 1) (inT d) (by decide) (by decide) h00 (fun x hx => succT_in hd hx) 262 263 [.ptr 0 1 0] [.ptr 0 1 0] [B0] (by simp) (hp1 1 B0) (hp1 1 B0) rfl rfl
      (fun x hx b0 => r262 d hd x 1 _ (by simp) (by rw [obIn_cons (by simp)]; exact h1))
      (fun x hx i hi b0 => r263 d hd x hx i hi 1 _ (by simp) (by rw [obIn_cons (by simp)]; exact h1)) (by kernel_rfl) (by kernel_rfl)
  have eL : expL (succT d) 400 (1, 1) = listT d := rfl
  rw [eL] at ex
  have e16 : ((400 : Nat) : Int) = 400 := rfl
  rw [e16] at ex
  have e11 : ((1 : Nat) : Int) = 1 := rfl
  simp only [encR, IN, e11] at ex
  unfold starD
  simp only [DN.enc] at va
  rw [run_eq EE 197 _ _ Tryz.func197 (by decide +kernel) rfl (show 1 ≤ _ by decide)]
  dsimp only [Tryz.f197]
  by_cases hl : (listT d).length ≤ 400
  · rw [if_pos hl] at ex ⊢
    have ft := ft hl
    generalize expD (succT d) (accT d) (listT d) = D at ft ex ⊢
    generalize hr : fitD D = r at ft ⊢
    simp only [DN.enc] at ft ex
    simp only [go_sem, va, Bool.not_true]
    rw [ex _ rfl]
    cases r with
    | none => simp only [go_sem, ft, resO]
    | some e => simp only [go_sem, ft, resO]
  · rw [if_neg hl] at ex ⊢
    simp only [go_sem, va, Bool.not_true]
    rw [ex _ rfl]
    simp only [go_sem, resO]
end Go.Ev
namespace Go.Ev
open Go Go.Proofs
set_option maxRecDepth 10000
set_option maxHeartbeats 4000000
set_option linter.unusedVariables false
set_option linter.unusedSimpArgs false

theorem r271 (l m : List Int) (hl : l.length ≤ 1048576) (hm : m.length ≤ 1048576) : run EE 271 [.slc false 1 (l.map I), .slc false 1 (m.map I)] [] = some (.bool (l == m), []) := by
  rw [run_eq EE 271 _ _ Tryz.func271 (by decide +kernel) rfl (show 2 ≤ _ by decide)]
  dsimp only [Tryz.f271]
  cases k : ((l.length : Int) == m.length)
  · have hne : (l == m) = false := by
      rw [beq_eq_false_iff_ne]
      rintro rfl
      simp at k
    simp only [go_sem, bne, k, Bool.not_false, hne]
  have hn : l.length = m.length := by have := eq_of_beq k; omega
  simp only [go_sem, bne, k, Bool.not_true]
  refine iter_inv (fun i : Nat => i ≤ l.length) (fun i => { t := upd (upd (upd e0 5 (.int .i64 i)) 1 (.slc false 1 (m.map I))) 0 (.slc false 1 (l.map I)), b := n0, o := [], r := #[ResultVar.tmp 4], f := 271, n := 26 }) (fun i => some (.bool (l.drop i == m.drop i), [])) (fun i => l.length - i) ?_ 0 (Nat.zero_le _)
  intro i hi ih
  by_cases h : i < l.length
  · have h1 : (i : Int) < l.length := by omega
    have h2 : (i : Int) < m.length := by omega
    have w := wrap_nat (n := i) (by omega)
    have h' : i < m.length := by omega
    rw [drop_beq h h']
    simp only [go_sem, h1]
    rw [q_drs]
    rotate_left
    · kernel_rfl
    cases c : (l[i] == m[i])
    · simp only [go_sem, h1, h2, getD_map h, getD_map h', bne, c, Bool.not_false, Bool.false_and]
    · simp only [go_sem, h1, h2, w, getD_map h, getD_map h', bne, c, Bool.not_true, Bool.true_and]
      exact ih (i + 1) (by omega) (by omega)
  · have h1 : ¬ (i : Int) < l.length := by omega
    rw [List.drop_eq_nil_of_le (by omega), List.drop_eq_nil_of_le (by omega)]
    simp only [go_sem, h1]
theorem r291 (A C : List Nat) (q : Nat) (m : Bool) (hA : ∀ x ∈ A, x < q) (hC : ∀ x ∈ C, q < x) (hl : A.length + C.length ≤ 1048576) :
    run EE 291 [.slc false 1 ((A ++ (if m = true then [q] else []) ++ C).map IN), .int .i64 q] [] = some (.slc false 1 ((A ++ q :: C).map IN), []) := by
  obtain ⟨L, hL⟩ : ∃ L, L = A ++ (if m = true then [q] else []) ++ C := ⟨_, rfl⟩
  rw [← hL]
  have hLl : L.length ≤ 1048577 := by rw [hL, List.length_append, List.length_append]; cases m <;> simp <;> omega
  generalize hRES : (some (V.slc false 1 ((A ++ q :: C).map IN), []) : Option (V × List (Nat → Option Ob))) = RES
  rw [run_eq EE 291 _ _ Tryz.func291 (by decide +kernel) rfl (show 2 ≤ _ by decide)]
  dsimp only [Tryz.f291]
  simp only [go_sem]
  refine iter_inv (fun i : Nat => i ≤ A.length) (fun i => { t := upd (upd (upd e0 5 (.int .i64 i)) 1 (.int .i64 q)) 0 (.slc false 1 (L.map IN)), b := n0, o := [], r := #[ResultVar.tmp 4], f := 291, n := 48 }) (fun _ => RES) (fun i => A.length - i) ?_ 0 (Nat.zero_le _)
  intro i hi ih
  have hLA : A.length ≤ L.length := by rw [hL, List.length_append, List.length_append]; omega
  have wi := wrap_nat (n := i) (by omega)
  by_cases h : i < A.length
  · have k1 : (i : Int) < L.length := by omega
    have hg : L[i]? = some A[i] := by rw [hL, List.append_assoc, List.getElem?_append_left h, List.getElem?_eq_getElem h]
    have g : ∀ v : V, (L.map IN).getD i v = .int .i64 (A[i] : Nat) := by
      intro v
      rw [List.getD_eq_getElem?_getD, List.getElem?_map, hg]
      rfl
    have hlt : ((A[i] : Nat) : Int) < q := by have := hA _ (List.getElem_mem h); omega
    simp only [go_sem, k1, g, hlt, wi]
    exact ih (i + 1) (by omega) (by omega)
  obtain rfl : i = A.length := by omega
  have hta : (L.map IN).take A.length = A.map IN := by rw [← List.map_take, hL, List.append_assoc, List.take_left]
  cases m with
  | true =>
    have eL : L = A ++ q :: C := by rw [hL, if_pos rfl, List.append_assoc, List.singleton_append]
    rw [← eL] at hRES
    have k1 : (A.length : Int) < L.length := by rw [eL, List.length_append, List.length_cons]; omega
    have g : ∀ v : V, (L.map IN).getD A.length v = .int .i64 (q : Nat) := by
      intro v
      rw [List.getD_eq_getElem?_getD, List.getElem?_map, eL, List.getElem?_append_right (Nat.le_refl _), Nat.sub_self]
      rfl
    have kq : ¬ (q : Int) < q := by omega
    subst hRES
    simp only [go_sem, k1, g, kq]
  | false =>
    rw [if_neg (by decide), List.append_nil] at hL
    have htd : (L.map IN).drop A.length = C.map IN := by rw [← List.map_drop, hL, List.drop_left]
    have hres : A.map IN ++ [.int .i64 (q : Nat)] ++ C.map IN = (A ++ q :: C).map IN := by
      rw [List.map_append, List.map_cons, List.append_assoc, List.singleton_append]; rfl
    have hLn : L.length = A.length + C.length := by rw [hL, List.length_append]
    cases C with
    | nil =>
      have k1 : ¬ (A.length : Int) < L.length := by rw [hLn, List.length_nil]; omega
      subst hRES
      have hn0 : L.length = A.length := by rw [hLn, List.length_nil]; omega
      have htt : (L.map IN).take L.length = L.map IN := List.take_of_length_le (by rw [List.length_map]; omega)
      have hmn : min A.length L.length = A.length := by omega
      have hmm : min L.length L.length = L.length := by omega
      have q1 : (A.length : Int) ≤ L.length := by omega
      have q2 : A.length * 8 ≤ 140737488355328 := by omega
      have q3 : (A.length + 1) * 8 ≤ 140737488355328 := by omega
      have q4 : (A.length + 1 + (L.length - A.length)) * 8 ≤ 140737488355328 := by omega
      simp only [go_sem, k1, htt, hmn, hmm, hta, htd, q1, q2, q3, q4]
      rw [List.map_append]; rfl
    | cons c C =>
      have k1 : (A.length : Int) < L.length := by rw [hLn, List.length_cons]; omega
      have g : ∀ v : V, (L.map IN).getD A.length v = .int .i64 (c : Nat) := by
        intro v
        rw [List.getD_eq_getElem?_getD, List.getElem?_map, hL, List.getElem?_append_right (Nat.le_refl _), Nat.sub_self]
        rfl
      have hcq := hC c (List.mem_cons_self ..)
      have kq : ¬ (c : Int) < q := by omega
      have kq2 : ((c : Int) == q) = false := by rw [nat_beq]; simpa using (by omega : ¬ c = q)
      subst hRES
      have htt : (L.map IN).take L.length = L.map IN := List.take_of_length_le (by rw [List.length_map]; omega)
      have hmn : min A.length L.length = A.length := by omega
      have hmm : min L.length L.length = L.length := by omega
      have q1 : (A.length : Int) ≤ L.length := by omega
      have q2 : A.length * 8 ≤ 140737488355328 := by omega
      have q3 : (A.length + 1) * 8 ≤ 140737488355328 := by omega
      have q4 : (A.length + 1 + (L.length - A.length)) * 8 ≤ 140737488355328 := by omega
      have q5 : (A.length + 1 + (C.length + 1)) * 8 ≤ 140737488355328 := by rw [List.length_cons] at hl; omega
      simp only [go_sem, k1, g, kq, kq2, htt, hmn, hmm, hta, htd, q1, q2, q3, q4, q5]
      rw [List.map_append, List.map_cons, List.map_cons, List.append_assoc]; rfl
theorem put_bits (S q : Nat) (hq : q < 40) : run EE 291 [.slc false 1 ((bitsN S).map IN), .int .i64 q] [] = some (.slc false 1 ((bitsN (S ||| 2 ^ q)).map IN), []) := by
  obtain ⟨A, C, hA, hC, e1, e2⟩ := bitsN_cut S q hq
  have hl : A.length + C.length ≤ 1048576 := by
    have := bitsN_len S
    rw [e1, List.length_append, List.length_append] at this
    omega
  have := r291 A C q (S.testBit q) hA hC hl
  rw [e1, e2]
  exact this
def mvL (d : DN) (l : Nat) (m q : Nat) : Nat := m ||| 2 ^ nx3 (d.nx q) l
theorem r289 (d : DN) (ho : d.ok) (hn : d.accept.length ≤ 40) (S l : Nat) (hl : l < 3) (hS : S < 2 ^ d.accept.length) : run EE 289 [d.enc, .slc false 1 ((bitsN S).map IN), .int .i64 l] [] = some (.slc false 1 ((bitsN (moveN d S l)).map IN), []) := by
  rw [← moveN_bits l hn hS]
  have hlen := bitsN_len S
  have hmem : ∀ x ∈ bitsN S, x < d.accept.length := fun x hx => bit_lt hS (bitsN_mem.1 hx).2
  generalize bitsN S = L at hlen hmem ⊢
  have hf : (fun m q => m ||| 2 ^ nx3 (d.nx q) l) = mvL d l := rfl
  rw [hf]
  generalize hRES : (some (V.slc false 1 ((bitsN (L.foldl (mvL d l) 0)).map IN), []) : Option (V × List (Nat → Option Ob))) = RES
  have hz : (bitsN 0).map IN = [] := by
    have : bitsN 0 = [] := by decide
    rw [this]; rfl
  simp only [DN.enc]
  rw [run_eq EE 289 _ _ Tryz.func289 (by decide +kernel) rfl (show 3 ≤ _ by decide)]
  dsimp only [Tryz.f289]
  simp only [go_sem]
  rw [← hz]
  refine iter_inv (fun i : Nat => i ≤ L.length) (fun i => { t := upd (upd (upd (upd (upd e0 8 (.int .i64 i)) 7 (.slc false 1 ((bitsN ((L.take i).foldl (mvL d l) 0)).map IN))) 3 (.ptr 0 3 0)) 2 (.int .i64 l)) 1 (.slc false 1 (L.map IN)), b := upd n0 3 (some (Ob.box [.slc false 1 (d.accept.map B), .slc false 1 (d.next.map NT)])), o := [], r := #[ResultVar.tmp 6], f := 289, n := 30 }) (fun _ => RES) (fun i => L.length - i) ?_ 0 (Nat.zero_le _)
  intro i hi ih
  by_cases h : i < L.length
  rotate_left
  · have k1 : ¬ (i : Int) < L.length := by omega
    rw [List.take_of_length_le (by omega)]
    subst hRES
    simp only [go_sem, k1]
  have k1 : (i : Int) < L.length := by omega
  have k2 : (l : Int) < 3 := by omega
  have wi := wrap_nat (n := i) (by omega)
  have ihn := ih (i + 1) (by omega) (by omega)
  rw [foldl_take _ _ h] at ihn
  have hx := hmem _ (List.getElem_mem h)
  have k3 : ((L[i] : Nat) : Int) < d.next.length := by rw [ho.1]; omega
  have gl : ∀ v : V, (L.map IN).getD i v = .int .i64 (L[i] : Nat) := fun v => getD_map h v
  have gn : ∀ v : V, (d.next.map NT).getD L[i] v = NT (d.nx L[i]) := fun v => getD_NT (by rw [ho.1]; exact hx) v
  have hq := nx3_lt (nx_lt3 ho _ hx) hl
  have g3 := nx3_get (d.nx L[i]) hl
  have em : mvL d l ((L.take i).foldl (mvL d l) 0) L[i] = (L.take i).foldl (mvL d l) 0 ||| 2 ^ nx3 (d.nx L[i]) l := rfl
  rw [em] at ihn
  generalize L[i] = x at *
  generalize d.nx x = t at *
  generalize (L.take i).foldl (mvL d l) 0 = M at *
  have pb := put_bits M (nx3 t l) (by omega)
  generalize nx3 t l = Q at *
  simp only [go_sem, k1]
  rw [q_drs]
  rotate_left
  · kernel_rfl
  simp only [go_sem, k1, k2, k3, gl, gn, g3, pb, wi]
  exact ihn
theorem r290 (d : DN) (hn : d.accept.length ≤ 40) (S : Nat) (hS : S < 2 ^ d.accept.length) : run EE 290 [d.enc, .slc false 1 ((bitsN S).map IN)] [] = some (.bool (anyN d S), []) := by
  rw [← anyN_bits hn hS]
  have hlen := bitsN_len S
  have hmem : ∀ x ∈ bitsN S, x < d.accept.length := fun x hx => bit_lt hS (bitsN_mem.1 hx).2
  generalize bitsN S = L at hlen hmem ⊢
  simp only [DN.enc]
  rw [run_eq EE 290 _ _ Tryz.func290 (by decide +kernel) rfl (show 2 ≤ _ by decide)]
  dsimp only [Tryz.f290]
  simp only [go_sem]
  refine iter_inv (fun i : Nat => i ≤ L.length) (fun i => { t := upd (upd (upd e0 5 (.int .i64 i)) 2 (.ptr 0 2 0)) 1 (.slc false 1 (L.map IN)), b := upd n0 2 (some (Ob.box [.slc false 1 (d.accept.map B), .slc false 1 (d.next.map NT)])), o := [], r := #[ResultVar.tmp 4], f := 290, n := 20 }) (fun i => some (.bool ((L.drop i).any (accN d)), [])) (fun i => L.length - i) ?_ 0 (Nat.zero_le _)
  intro i hi ih
  by_cases h : i < L.length
  rotate_left
  · have k1 : ¬ (i : Int) < L.length := by omega
    rw [List.drop_eq_nil_of_le (by omega), List.any_nil]
    simp only [go_sem, k1]
  have k1 : (i : Int) < L.length := by omega
  have wi := wrap_nat (n := i) (by omega)
  have ihn := ih (i + 1) (by omega) (by omega)
  rw [List.drop_eq_getElem_cons h, List.any_cons]
  have hx := hmem _ (List.getElem_mem h)
  have k3 : ((L[i] : Nat) : Int) < d.accept.length := by omega
  have gl : ∀ v : V, (L.map IN).getD i v = .int .i64 (L[i] : Nat) := fun v => getD_map h v
  have gb : ∀ v : V, (d.accept.map B).getD L[i] v = B (accN d L[i]) := fun v => getD_B hx v
  generalize L[i] = x at *
  generalize accN d x = A at *
  simp only [go_sem, k1]
  rw [q_drs]
  rotate_left
  · kernel_rfl
  cases A
  · simp only [go_sem, k1, k3, gl, gb, wi]
    exact ihn
  · simp only [go_sem, k1, k3, gl, gb]
theorem ints_nat (l m : List Nat) (hl : l.length ≤ 1048576) (hm : m.length ≤ 1048576) : run EE 271 [.slc false 1 (l.map IN), .slc false 1 (m.map IN)] [] = some (.bool (decide (l = m)), []) := by
  have := r271 (l.map fun n : Nat => (n : Int)) (m.map fun n : Nat => (n : Int)) (by simpa using hl) (by simpa using hm)
  rw [← map_IN, ← map_IN] at this
  rw [this]
  congr 3
  rw [Bool.eq_iff_iff, beq_iff_eq, decide_eq_true_iff]
  constructor
  · intro h
    exact List.map_inj_right (fun x y e => by exact_mod_cast e) |>.1 h
  · rintro rfl; rfl
theorem r292 (l : List Tr3) (x : Tr3) (hl : l.length ≤ 1048576) (hb : ∀ y ∈ l, y.2.1 < 2 ^ 40) (hx : x.2.1 < 2 ^ 40) : run EE 292 [.slc false 3 (l.map enc3), enc3 x] [] = some (.int .i64 (if x ∈ l then (ixD l x : Int) else -1), []) := by
  generalize hRES : (some (V.int .i64 (if x ∈ l then (ixD l x : Int) else -1), []) : Option (V × List (Nat → Option Ob))) = RES
  have ex : enc3 x = .agg [.int .i64 x.1, .slc false 1 ((bitsN x.2.1).map IN), .bool x.2.2] := rfl
  rw [ex]
  rw [run_eq EE 292 _ _ Tryz.func292 (by decide +kernel) rfl (show 2 ≤ _ by decide)]
  dsimp only [Tryz.f292]
  simp only [go_sem]
  refine iter_inv (fun i : Nat => i ≤ l.length ∧ x ∉ l.take i) (fun i => { t := upd (upd (upd e0 5 (.int .i64 i)) 3 (.ptr 0 3 0)) 0 (.slc false 3 (l.map enc3)), b := upd n0 3 (some (Ob.box [.int .i64 x.1, .slc false 1 ((bitsN x.2.1).map IN), .bool x.2.2])), o := [], r := #[ResultVar.tmp 4], f := 292, n := 41 }) (fun _ => RES) (fun i => l.length - i) ?_ 0 ⟨Nat.zero_le _, by simp⟩
  rintro i ⟨hi, hn⟩ ih
  by_cases h : i < l.length
  rotate_left
  · have k1 : ¬ (i : Int) < l.length := by omega
    rw [List.take_of_length_le (by omega)] at hn
    rw [if_neg hn] at hRES
    subst hRES
    simp only [go_sem, k1]
  have k1 : (i : Int) < l.length := by omega
  have wi := wrap_nat (n := i) (by omega)
  have hy := hb _ (List.getElem_mem h)
  have hat := fun e => ixD_at (x := x) h hn e
  have hmm : l[i] = x → x ∈ l := fun e => e ▸ List.getElem_mem h
  have ihn := fun (hne : ¬ l[i] = x) => ih (i + 1) ⟨by omega, by
    rw [take_snoc h, List.mem_append, List.mem_singleton]
    rintro (hh | rfl)
    · exact hn hh
    · exact hne rfl⟩ (by omega)
  have gl : ∀ v : V, (l.map enc3).getD i v = .agg [.int .i64 l[i].1, .slc false 1 ((bitsN l[i].2.1).map IN), .bool l[i].2.2] := fun v => getD_map h v
  clear ih
  generalize l[i] = y at *
  have it := ints_nat (bitsN y.2.1) (bitsN x.2.1) (by have := bitsN_len y.2.1; omega) (by have := bitsN_len x.2.1; omega)
  have hinj := fun e => bitsN_inj hy hx e
  have e1 : ((y.1 : Int) == (x.1 : Int)) = (y.1 == x.1) := nat_beq _ _
  generalize hY : bitsN y.2.1 = Y at *
  generalize hX : bitsN x.2.1 = X at *
  simp only [go_sem, k1]
  rw [q_drs]
  rotate_left
  · kernel_rfl
  cases c1 : (y.1 == x.1)
  · rw [c1] at e1
    have hne : ¬ y = x := by rintro rfl; simp at c1
    simp only [go_sem, k1, gl, e1, wi]
    exact ihn hne
  rw [c1] at e1
  cases c2 : (y.2.2 == x.2.2)
  · have hne : ¬ y = x := by rintro rfl; simp at c2
    simp only [go_sem, k1, gl, e1, c2, wi]
    exact ihn hne
  by_cases c3 : Y = X
  · have he : y = x := by
      have h1 := eq_of_beq c1
      have h2 := eq_of_beq c2
      have h3 := hinj (by rw [c3] at hY; exact c3)
      exact Prod.ext h1 (Prod.ext h3 h2)
    rw [if_pos (hmm he), hat he] at hRES
    rw [decide_eq_true c3] at it
    subst hRES
    simp only [go_sem, k1, gl, e1, c2, it]
  · have hne : ¬ y = x := by
      rintro rfl
      exact c3 (hY.symm.trans hX)
    rw [decide_eq_false c3] at it
    simp only [go_sem, k1, gl, e1, c2, it, wi]
    exact ihn hne
end Go.Ev
namespace Go.Ev
open Go Go.Proofs
set_option maxRecDepth 10000
set_option maxHeartbeats 4000000
set_option linter.unusedVariables false
set_option linter.unusedSimpArgs false

theorem ins_len {α : Type} [DecidableEq α] (l : List α) (x : α) : (ins l x).length ≤ l.length + 1 := by
  unfold ins
  by_cases h : x ∈ l
  · rw [if_pos h]; omega
  · rw [if_neg h, List.length_append]; simp
theorem vt_s (d : DN) (h : Val d) : run EE 134 [d.enc] [] = some (.bool true, []) := by
  have := vd_s d h.ok (by have := h.le; omega)
  rw [decide_eq_true h.pos, decide_eq_true h.le] at this
  exact this
theorem p40 {n : Nat} (h : n ≤ 40) {S : Nat} (hS : S < 2 ^ n) : S < 2 ^ 40 := Nat.lt_of_lt_of_le hS (Nat.pow_le_pow_right (by decide) h)
theorem start0 (a : DN) (h : accN a 0 = false) : (bitsN (begC a (0, 0)).2).map IN = [] := by
  unfold begC
  rw [if_neg (by rw [h]; decide)]
  have : bitsN 0 = [] := by decide
  rw [this]; rfl
theorem start1 (a : DN) (h : accN a 0 = true) : (bitsN (begC a (0, 0)).2).map IN = [.int .i64 0] := by
  unfold begC
  rw [if_pos h]
  have : bitsN (0 ||| 1) = [0] := by decide
  rw [this]; rfl
theorem enc3_fC (x : Nat × Nat) : enc3 (fC x) = .agg [.int .i64 x.1, .slc false 1 ((bitsN x.2).map IN), .bool false] := rfl
theorem r253 (a b : DN) (ha : Val a) (hb : Val b) : run EE 253 [a.enc, b.enc] [] = some (resO (concD a b), []) := by
  rw [concD_r ha hb]
  have va := vt_s a ha
  have vb := vt_s b hb
  have p0 : (0 : Int) < a.accept.length := by have := ha.pos; omega
  have g0 : ∀ v : V, (a.accept.map B).getD 0 v = B (accN a 0) := fun v => getD_B ha.pos v
  have ft := fun (hl : (listCr a b).length ≤ 400) => r207 (expD (succCr a b) (accCr b) (listCr a b)) (expD_ok hl).1 (expD_ok hl).2.1 (by have := (expD_ok (acc := accCr b) hl).2.2; unfold listCr; omega)
  generalize hRES : (some (resO (if (listCr a b).length ≤ 400 then fitD (expD (succCr a b) (accCr b) (listCr a b)) else none), []) : Option (V × List (Nat → Option Ob))) = RES
  have s0 := start0 a
  have s1 := start1 a
  have hs0 : inCr a b (fC (begC a (0, 0))) := begC_in (x := (0, 0)) hb ⟨ha.pos, Nat.two_pow_pos _⟩
  have hL : expL (succCr a b) 400 (fC (begC a (0, 0))) = listCr a b := rfl
  have es : enc3 (fC (begC a (0, 0))) = .agg [.int .i64 0, .slc false 1 ((bitsN (begC a (0, 0)).2).map IN), .bool false] := rfl
  generalize hW : (bitsN (begC a (0, 0)).2).map IN = W at s0 s1 es
  generalize fC (begC a (0, 0)) = st at hs0 hL es
  simp only [DN.enc] at va vb
  rw [run_eq EE 253 _ _ Tryz.func253 (by decide +kernel) rfl (show 2 ≤ _ by decide)]
  dsimp only [Tryz.f253]
  have e7 : ∀ b, accN a 0 = b → [V.agg [V.int IntKind.i64 0, V.slc false 1 (if b = true then [.int .i64 0] else []), V.bool false]] = [st].map enc3 := by
    rintro b rfl
    rw [List.map_cons, List.map_nil, es]
    cases h : accN a 0
    · rw [s0 h]; rfl
    · rw [s1 h]; rfl
  have e6 : ∀ b, accN a 0 = b → [V.int IntKind.i64 0, V.slc true 1 (if b = true then [.int .i64 0] else []), V.bool false] = [V.int IntKind.i64 0, V.slc true 1 W, V.bool false] := by
    rintro b rfl
    cases h : accN a 0
    · rw [s0 h]; rfl
    · rw [s1 h]; rfl
  cases hA : accN a 0
  all_goals
    have e7 := e7 _ hA
    have e6 := e6 _ hA
    simp only [if_true, if_false, Bool.false_eq_true] at e6 e7
    rw [hA] at g0
    simp only [go_sem, va, vb, p0, g0, Bool.not_true]
    rw [e6, e7]
    clear e6 e7 g0 s0 s1 hA va vb p0 hW es
    refine iter_inv (fun p : Nat × List Tr3 => p.1 ≤ p.2.length ∧ p.2.length ≤ 400 ∧ (∀ x ∈ p.2, inCr a b x) ∧ bfsL (succCr a b) (400 + 1 - p.1) p.2 p.1 = listCr a b) (fun p => { t := upd (upd (upd (upd (upd (upd e0 9 (.int .i64 p.1)) 8 (.ptr 0 8 0)) 7 (.slc true 3 (p.2.map enc3))) 4 (.ptr 0 4 0)) 3 (.ptr 0 3 0)) 2 (.ptr 0 2 0), b := upd (upd (upd (upd (upd n0 8 (some (Ob.box [.slc true 1 (((listCr a b).take p.1).map (accB (accCr b))), .slc true 1 (((listCr a b).take p.1).map (rowB (succCr a b) (listCr a b)))]))) 6 (some (Ob.box [.int .i64 0, .slc true 1 W, .bool false]))) 4 (some (Ob.box [.slc true 1 [], .slc true 1 []]))) 3 (some (Ob.box [.slc false 1 (b.accept.map B), .slc false 1 (b.next.map NT)]))) 2 (some (Ob.box [.slc false 1 (a.accept.map B), .slc false 1 (a.next.map NT)])), o := [], r := #[ResultVar.cell 4 39, ResultVar.tmp 5], f := 253, n := 119 }) (fun _ => RES) (fun p => 401 - p.1) ?_ (0, [st]) ⟨Nat.zero_le _, by show 1 ≤ 400; decide, by simpa using hs0, hL⟩
    generalize listCr a b = L at *
    rintro ⟨i, l⟩ ⟨hi, hlm, hQl, hb1⟩ ih
    dsimp only at hi hlm hQl hb1 ⊢
    by_cases h : i < l.length
    rotate_left
    · have k1 : ¬ (i : Int) < l.length := by omega
      rw [bfs_done h] at hb1
      subst hb1
      have ft := ft hlm
      rw [if_pos hlm] at hRES
      rw [List.take_of_length_le (by omega), accB_map, rowB_map]
      have hex : (expD (succCr a b) (accCr b) l).enc = .agg [.slc false 1 ((l.map (accCr b)).map B), .slc false 1 ((l.map fun x => rowD l (succCr a b x)).map NT)] := rfl
      rw [hex] at ft
      generalize fitD (expD (succCr a b) (accCr b) l) = r at ft hRES
      subst hRES
      cases r with
      | none => simp only [go_sem, k1, ft, resO]
      | some e => simp only [go_sem, k1, ft, resO, DN.enc]
    have k1 : (i : Int) < l.length := by omega
    have wi := wrap_nat (n := i) (by omega)
    have hQx := hQl _ (List.getElem_mem h)
    have e1 : 400 + 1 - i = (400 + 1 - (i + 1)) + 1 := by omega
    rw [e1, bfs_step h] at hb1
    have hLx : L.take (i + 1) = L.take i ++ [l[i]] := by
      have hp : l <+: L := by rw [← hb1]; exact (ins3_pre _ _).trans (bfs_pre _ _ _ _)
      rw [take_pre hp h]
      congr 1
      obtain ⟨m, rfl⟩ := hp
      rw [List.take_append_of_le_length (by omega)]
    have htk : (L.take i).length = i := by
      have hp : l <+: L := by rw [← hb1]; exact (ins3_pre _ _).trans (bfs_pre _ _ _ _)
      have := hp.length_le
      rw [List.length_take]; omega
    have hpL : ins3 l (succCr a b l[i]) <+: L := by rw [← hb1]; exact bfs_pre _ _ _ _
    have hQt := succCr_in ha hb _ hQx
    have hQ3 : ∀ y ∈ ins3 l (succCr a b l[i]), inCr a b y := fun x hx => by
      rcases mem_ins3.1 hx with hx | rfl | rfl | rfl
      · exact hQl x hx
      · exact hQt.1
      · exact hQt.2.1
      · exact hQt.2.2
    have ihn := fun (hlen : (ins3 l (succCr a b l[i])).length ≤ 400) => ih (i + 1, ins3 l (succCr a b l[i])) ⟨Nat.le_trans h (ins3_pre _ _).length_le, hlen, hQ3, hb1⟩ (by show 401 - (i + 1) < 401 - i; omega)
    dsimp only at ihn
    clear ih
    rw [hLx, List.map_append, List.map_append, List.map_cons, List.map_nil, List.map_cons, List.map_nil] at ihn
    have eab : accB (accCr b) l[i] = .bool (anyN b l[i].2.1) := rfl
    have erb : rowB (succCr a b) L l[i] = .slc false 1 [IN (ixD L (succCr a b l[i]).1), IN (ixD L (succCr a b l[i]).2.1), IN (ixD L (succCr a b l[i]).2.2)] := rfl
    rw [eab, erb] at ihn
    clear eab erb
    have hget := fun j hj => succCr_get a b l[i] (i := j) hj
    obtain ⟨m0, hm0⟩ : ∃ m0, m0 = ins3 l (succCr a b l[i]) := ⟨_, rfl⟩
    have hxl : ∀ (m : List Tr3), l <+: m → ∀ v : V, (m.map enc3).getD i v = .agg [.int .i64 l[i].1, .slc false 1 ((bitsN l[i].2.1).map IN), .bool l[i].2.2] := by
      rintro m ⟨r, rfl⟩ v
      rw [List.map_append, List.getD_eq_getElem?_getD, List.getElem?_append_left (by rw [List.length_map]; exact h), List.getElem?_map, List.getElem?_eq_getElem h]
      rfl
    have hx1 : ((l[i].1 : Nat) : Int) < a.next.length := by have := hQx.1; rw [ha.ok.1]; omega
    have gN : ∀ v : V, (a.next.map NT).getD l[i].1 v = NT (a.nx l[i].1) := fun v => getD_NT (by rw [ha.ok.1]; exact hQx.1) v
    have g3 := fun j (hj : j < 3) => nx3_get (a.nx l[i].1) hj
    have hq3 := fun j (hj : j < 3) => nx3_lt (nx_lt3 ha.ok l[i].1 hQx.1) hj
    have mv := fun j (hj : j < 3) => r289 b hb.ok hb.le l[i].2.1 j hj hQx.2
    have hmv := fun j (hj : j < 3) => moveN_lt hb.ok hj l[i].2.1
    have any := r290 b hb.le l[i].2.1 hQx.2
    generalize hyy : l[i] = y at *
    generalize succCr a b y = tt at *
    simp only [DN.enc] at mv any
    generalize anyN b y.2.1 = AA at *
    simp only [go_sem, k1]
    refine iter_inv (fun j : Nat => j ≤ 3) (fun j => { t := upd (upd (upd (upd (upd (upd (upd (upd e0 11 (.int .i64 j)) 10 (.slc true 1 (((l3A tt).take j).map (ixB L)))) 9 (.int .i64 i)) 8 (.ptr 0 8 0)) 7 (.slc true 3 ((((l3A tt).take j).foldl ins l).map enc3))) 4 (.ptr 0 4 0)) 3 (.ptr 0 3 0)) 2 (.ptr 0 2 0), b := upd (upd (upd (upd (upd n0 8 (some (Ob.box [.slc true 1 ((L.take i).map (accB (accCr b))), .slc true 1 ((L.take i).map (rowB (succCr a b) L))]))) 6 (some (Ob.box [.int .i64 0, .slc true 1 W, .bool false]))) 4 (some (Ob.box [.slc true 1 [], .slc true 1 []]))) 3 (some (Ob.box [.slc false 1 (b.accept.map B), .slc false 1 (b.next.map NT)]))) 2 (some (Ob.box [.slc false 1 (a.accept.map B), .slc false 1 (a.next.map NT)])), o := [], r := #[ResultVar.cell 4 39, ResultVar.tmp 5], f := 253, n := 119 }) (fun _ => RES) (fun j => 3 - j) ?_ 0 (Nat.zero_le _)
    intro j hj ihj
    by_cases h' : j < 3
    rotate_left
    · obtain rfl : j = 3 := by omega
      have e3 : ((l3A tt).take 3).foldl ins l = ins3 l tt := rfl
      have e4 : ((l3A tt).take 3).map (ixB L) = [IN (ixD L tt.1), IN (ixD L tt.2.1), IN (ixD L tt.2.2)] := rfl
      rw [e3, e4]
      have ki : (i : Int) < (ins3 l tt).length := by have := (ins3_pre l tt).length_le; omega
      have hgl := hxl _ (ins3_pre l tt)
      have k3 : ¬ ((3 : Nat) : Int) < 3 := by omega
      have a1 : (i + 1) * 1 ≤ 140737488355328 := by omega
      have a2 : (i + 1) * 24 ≤ 140737488355328 := by omega
      by_cases hgt : (ins3 l tt).length ≤ 400
      · have ihm := ihn hgt
        have kgt : ¬ ((ins3 l tt).length : Int) > 400 := by omega
        simp only [go_sem, k3, kgt]
        rw [q_drawn]
        rotate_left
        · kernel_rfl
        simp only [go_sem, still, eq_self, ki, hgl, any, htk, a1, a2, wi]
        exact ihm
      · have kgt : ((ins3 l tt).length : Int) > 400 := by omega
        have hLl : ¬ L.length ≤ 400 := by have := hpL.length_le; omega
        rw [if_neg hLl] at hRES
        subst hRES
        simp only [go_sem, k3, kgt, resO]
    have k2 : (j : Int) < 3 := by omega
    have wj := wrap_nat (n := j) (by omega)
    have hji : j < (l3A tt).length := by rw [l3A_len]; exact h'
    have hpre : ((l3A tt).take (j + 1)).foldl ins l <+: ins3 l tt := by
      rw [← ins3_l3A]
      have e : (l3A tt).foldl ins l = ((l3A tt).drop (j + 1)).foldl ins (((l3A tt).take (j + 1)).foldl ins l) := by
        rw [← List.foldl_append, List.take_append_drop]
      rw [e]
      exact foldl_ins_pre _ _
    have ihm := ihj (j + 1) (by omega) (by omega)
    rw [foldl_take _ _ hji] at hpre ihm
    rw [take_snoc hji, List.map_append, List.map_cons, List.map_nil] at ihm
    have hil : i < (((l3A tt).take j).foldl ins l).length := Nat.lt_of_lt_of_le h (foldl_ins_pre _ _).length_le
    have ki : (i : Int) < (((l3A tt).take j).foldl ins l).length := by omega
    have hgl := hxl _ (foldl_ins_pre ((l3A tt).take j) l)
    have eix : ixB L (l3A tt)[j] = .int .i64 (ixD L (l3A tt)[j] : Nat) := rfl
    rw [eix] at ihm
    have hly : ixD L (l3A tt)[j] = ixD (ins (((l3A tt).take j).foldl ins l) (l3A tt)[j]) (l3A tt)[j] := ixD_pre (hpre.trans hpL) (ins_mem _ _)
    rw [hly] at ihm
    have hQm : ∀ z ∈ ins (((l3A tt).take j).foldl ins l) (l3A tt)[j], z.2.1 < 2 ^ 40 := fun z hz => p40 hb.le (hQ3 z (hpre.subset hz)).2
    have hlen : (ins (((l3A tt).take j).foldl ins l) (l3A tt)[j]).length ≤ 1048576 := by
      have h1 := hpre.length_le
      have h2 : (ins3 l tt).length ≤ l.length + 3 := by
        have := ins_len l tt.1
        have := ins_len (ins l tt.1) tt.2.1
        have := ins_len (ins (ins l tt.1) tt.2.1) tt.2.2
        show (ins (ins (ins l tt.1) tt.2.1) tt.2.2).length ≤ _
        omega
      omega
    have hrl : (((l3A tt).take j).map (ixB L)).length = j := by rw [List.length_map, List.length_take, l3A_len]; omega
    have a1 : (j + 1) * 8 ≤ 140737488355328 := by omega
    have hgj := hget j h'
    clear hly ihj hpre hget
    generalize ((l3A tt).take j).foldl ins l = m at *
    generalize (l3A tt)[j] = z at *
    generalize ((l3A tt).take j).map (ixB L) = row at *
    have g3 := g3 j h'
    have hq3 := hq3 j h'
    have mv := mv j h'
    have hmv := hmv j h'
    have kq : ((nx3 (a.nx y.1) j : Nat) : Int) < a.accept.length := by omega
    have gA : ∀ v : V, (a.accept.map B).getD (nx3 (a.nx y.1) j) v = B (accN a (nx3 (a.nx y.1) j)) := fun v => getD_B hq3 v
    unfold begC at hgj
    dsimp only at hgj
    have pb := put_bits (moveN b y.2.1 j) 0 (by decide)
    have e20 : 2 ^ 0 = 1 := rfl
    rw [e20] at pb
    have ez0 : ((0 : Nat) : Int) = 0 := rfl
    rw [ez0] at pb
    generalize a.nx y.1 = an at *
    generalize nx3 an j = Qn at *
    generalize moveN b y.2.1 j = M at *
    have hmi : m <+: ins m z := ins_pre m z
    have f1 := r292 m z (by have := hmi.length_le; omega) (fun w hw => hQm w (hmi.subset hw)) (hQm z (ins_mem _ _))
    have f2 := r292 (ins m z) z hlen hQm (hQm z (ins_mem _ _))
    rw [if_pos (ins_mem _ _)] at f2
    have hmz : (ins m z).map enc3 = if z ∈ m then m.map enc3 else m.map enc3 ++ [enc3 z] := by
      unfold ins
      by_cases hz : z ∈ m
      · rw [if_pos hz, if_pos hz]
      · rw [if_neg hz, if_neg hz, List.map_append]; rfl
    have hni := nneg (ixD (ins m z) z)
    have hzm : z ∈ m → ixD (ins m z) z = ixD m z := fun hz => by unfold ins; rw [if_pos hz]
    have hml : (m.length + 1) * 40 ≤ 140737488355328 := by
      have := hmi.length_le
      omega
    generalize hLZ : ixD (ins m z) z = IX at *
    generalize ins m z = mm at *
    have ez : ∀ S2, z = (Qn, S2, false) → enc3 z = .agg [.int .i64 Qn, .slc false 1 ((bitsN S2).map IN), .bool false] := by
      rintro S2 rfl; rfl
    cases hc : accN a Qn
    · rw [hc] at gA hgj
      have ez := ez M (by rw [hgj, if_neg (by decide)]; rfl)
      rw [ez] at f1 f2 hmz
      by_cases hz : z ∈ m
      · rw [if_pos hz, ← hzm hz] at f1
        rw [if_pos hz] at hmz
        rw [hmz] at f2 ihm
        simp only [go_sem, k2]
        rw [q_drawn]
        rotate_left
        · kernel_rfl
        simp only [go_sem, still, eq_self, ki, hgl, hx1, gN, g3, k2, mv, kq, gA, f1, hni, hrl, a1, wj]
        exact ihm
      · rw [if_neg hz] at f1
        rw [if_neg hz] at hmz
        rw [hmz] at f2 ihm
        simp only [go_sem, k2]
        rw [q_drawn]
        rotate_left
        · kernel_rfl
        simp only [go_sem, still, eq_self, ki, hgl, hx1, gN, g3, k2, mv, kq, gA, f1, f2, hni, hrl, a1, hml, wj]
        exact ihm
    · rw [hc] at gA hgj
      have ez := ez (M ||| 1) (by rw [hgj, if_pos rfl]; rfl)
      rw [ez] at f1 f2 hmz
      by_cases hz : z ∈ m
      · rw [if_pos hz, ← hzm hz] at f1
        rw [if_pos hz] at hmz
        rw [hmz] at f2 ihm
        simp only [go_sem, k2]
        rw [q_drawn]
        rotate_left
        · kernel_rfl
        simp only [go_sem, still, eq_self, ki, hgl, hx1, gN, g3, k2, mv, kq, gA, pb, f1, hni, hrl, a1, wj]
        exact ihm
      · rw [if_neg hz] at f1
        rw [if_neg hz] at hmz
        rw [hmz] at f2 ihm
        simp only [go_sem, k2]
        rw [q_drawn]
        rotate_left
        · kernel_rfl
        simp only [go_sem, still, eq_self, ki, hgl, hx1, gN, g3, k2, mv, kq, gA, pb, f1, f2, hni, hrl, a1, hml, wj]
        exact ihm
end Go.Ev
namespace Go.Ev
open Go Go.Proofs
set_option maxRecDepth 10000
set_option maxHeartbeats 4000000
set_option linter.unusedVariables false
set_option linter.unusedSimpArgs false

theorem r252 (d : DN) (hd : Val d) : run EE 252 [d.enc] [] = some (resO (starD d), []) := by
  rw [starD_r hd]
  have va := vt_s d hd
  have ft := fun (hl : (listTr d).length ≤ 400) => r207 (expD (succTr d) (accTr d) (listTr d)) (expD_ok hl).1 (expD_ok hl).2.1 (by have := (expD_ok (acc := accTr d) hl).2.2; unfold listTr; omega)
  generalize hRES : (some (resO (if (listTr d).length ≤ 400 then fitD (expD (succTr d) (accTr d) (listTr d)) else none), []) : Option (V × List (Nat → Option Ob))) = RES
  have hs0 : inTr d (0, 1, true) := (inT_1 hd).2
  have hL : expL (succTr d) 400 (0, 1, true) = listTr d := rfl
  have b1 : bitsN 1 = [0] := by decide
  have es : [enc3 (0, 1, true)] = [.agg [.int .i64 0, .slc false 1 [.int .i64 0], .bool true]] := by
    unfold enc3
    dsimp only
    rw [b1]; rfl
  have est : [((0, 1, true) : Tr3)].map enc3 = [enc3 (0, 1, true)] := rfl
  rw [es] at est
  clear es
  simp only [DN.enc] at va
  generalize ((0, 1, true) : Tr3) = st at hs0 hL est
  rw [run_eq EE 252 _ _ Tryz.func252 (by decide +kernel) rfl (show 1 ≤ _ by decide)]
  dsimp only [Tryz.f252]
  simp only [go_sem, va, Bool.not_true]
  rw [← est]
  clear est va
  refine iter_inv (fun p : Nat × List Tr3 => p.1 ≤ p.2.length ∧ p.2.length ≤ 400 ∧ (∀ x ∈ p.2, inTr d x) ∧ bfsL (succTr d) (400 + 1 - p.1) p.2 p.1 = listTr d) (fun p => { t := upd (upd (upd (upd (upd e0 6 (.int .i64 p.1)) 5 (.ptr 0 5 0)) 4 (.slc true 3 (p.2.map enc3))) 2 (.ptr 0 2 0)) 1 (.ptr 0 1 0), b := upd (upd (upd n0 5 (some (Ob.box [.slc true 1 (((listTr d).take p.1).map (accB (accTr d))), .slc true 1 (((listTr d).take p.1).map (rowB (succTr d) (listTr d)))]))) 2 (some (Ob.box [.slc true 1 [], .slc true 1 []]))) 1 (some (Ob.box [.slc false 1 (d.accept.map B), .slc false 1 (d.next.map NT)])), o := [], r := #[ResultVar.cell 2 39, ResultVar.tmp 3], f := 252, n := 98 }) (fun _ => RES) (fun p => 401 - p.1) ?_ (0, [st]) ⟨Nat.zero_le _, by show 1 ≤ 400; decide, by simpa using hs0, hL⟩
  generalize listTr d = L at *
  rintro ⟨i, l⟩ ⟨hi, hlm, hQl, hb1⟩ ih
  dsimp only at hi hlm hQl hb1 ⊢
  by_cases h : i < l.length
  rotate_left
  · have k1 : ¬ (i : Int) < l.length := by omega
    rw [bfs_done h] at hb1
    subst hb1
    have ft := ft hlm
    rw [if_pos hlm] at hRES
    rw [List.take_of_length_le (by omega), accB_map, rowB_map]
    have hex : (expD (succTr d) (accTr d) l).enc = .agg [.slc false 1 ((l.map (accTr d)).map B), .slc false 1 ((l.map fun x => rowD l (succTr d x)).map NT)] := rfl
    rw [hex] at ft
    generalize fitD (expD (succTr d) (accTr d) l) = r at ft hRES
    subst hRES
    cases r with
    | none => simp only [go_sem, k1, ft, resO]
    | some e => simp only [go_sem, k1, ft, resO, DN.enc]
  have k1 : (i : Int) < l.length := by omega
  have wi := wrap_nat (n := i) (by omega)
  have hQx := hQl _ (List.getElem_mem h)
  have e1 : 400 + 1 - i = (400 + 1 - (i + 1)) + 1 := by omega
  rw [e1, bfs_step h] at hb1
  have hLx : L.take (i + 1) = L.take i ++ [l[i]] := by
    have hp : l <+: L := by rw [← hb1]; exact (ins3_pre _ _).trans (bfs_pre _ _ _ _)
    rw [take_pre hp h]
    congr 1
    obtain ⟨m, rfl⟩ := hp
    rw [List.take_append_of_le_length (by omega)]
  have htk : (L.take i).length = i := by
    have hp : l <+: L := by rw [← hb1]; exact (ins3_pre _ _).trans (bfs_pre _ _ _ _)
    have := hp.length_le
    rw [List.length_take]; omega
  have hpL : ins3 l (succTr d l[i]) <+: L := by rw [← hb1]; exact bfs_pre _ _ _ _
  have hQt := succTr_in hd _ hQx
  have hQ3 : ∀ y ∈ ins3 l (succTr d l[i]), inTr d y := fun x hx => by
    rcases mem_ins3.1 hx with hx | rfl | rfl | rfl
    · exact hQl x hx
    · exact hQt.1
    · exact hQt.2.1
    · exact hQt.2.2
  have ihn := fun (hlen : (ins3 l (succTr d l[i])).length ≤ 400) => ih (i + 1, ins3 l (succTr d l[i])) ⟨Nat.le_trans h (ins3_pre _ _).length_le, hlen, hQ3, hb1⟩ (by show 401 - (i + 1) < 401 - i; omega)
  dsimp only at ihn
  clear ih
  rw [hLx, List.map_append, List.map_append, List.map_cons, List.map_nil, List.map_cons, List.map_nil] at ihn
  have eab : accB (accTr d) l[i] = .bool (l[i].2.2 || anyN d l[i].2.1) := rfl
  have erb : rowB (succTr d) L l[i] = .slc false 1 [IN (ixD L (succTr d l[i]).1), IN (ixD L (succTr d l[i]).2.1), IN (ixD L (succTr d l[i]).2.2)] := rfl
  rw [eab, erb] at ihn
  clear eab erb
  have hget := fun j hj => succTr_get d l[i] (i := j) hj
  obtain ⟨m0, hm0⟩ : ∃ m0, m0 = ins3 l (succTr d l[i]) := ⟨_, rfl⟩
  have hxl : ∀ (m : List Tr3), l <+: m → ∀ v : V, (m.map enc3).getD i v = .agg [.int .i64 l[i].1, .slc false 1 ((bitsN l[i].2.1).map IN), .bool l[i].2.2] := by
    rintro m ⟨r, rfl⟩ v
    rw [List.map_append, List.getD_eq_getElem?_getD, List.getElem?_append_left (by rw [List.length_map]; exact h), List.getElem?_map, List.getElem?_eq_getElem h]
    rfl
  have mv := fun j (hj : j < 3) => r289 d hd.ok hd.le l[i].2.1 j hj hQx
  have hmv := fun j (hj : j < 3) => moveN_lt hd.ok hj l[i].2.1
  have any := r290 d hd.le l[i].2.1 hQx
  generalize hyy : l[i] = y at *
  generalize succTr d y = tt at *
  simp only [DN.enc] at mv any
  generalize anyN d y.2.1 = AA at *
  simp only [go_sem, k1]
  refine iter_inv (fun j : Nat => j ≤ 3) (fun j => { t := upd (upd (upd (upd (upd (upd (upd e0 8 (.int .i64 j)) 7 (.slc true 1 (((l3A tt).take j).map (ixB L)))) 6 (.int .i64 i)) 5 (.ptr 0 5 0)) 4 (.slc true 3 ((((l3A tt).take j).foldl ins l).map enc3))) 2 (.ptr 0 2 0)) 1 (.ptr 0 1 0), b := upd (upd (upd n0 5 (some (Ob.box [.slc true 1 ((L.take i).map (accB (accTr d))), .slc true 1 ((L.take i).map (rowB (succTr d) L))]))) 2 (some (Ob.box [.slc true 1 [], .slc true 1 []]))) 1 (some (Ob.box [.slc false 1 (d.accept.map B), .slc false 1 (d.next.map NT)])), o := [], r := #[ResultVar.cell 2 39, ResultVar.tmp 3], f := 252, n := 98 }) (fun _ => RES) (fun j => 3 - j) ?_ 0 (Nat.zero_le _)
  intro j hj ihj
  by_cases h' : j < 3
  rotate_left
  · obtain rfl : j = 3 := by omega
    have e3 : ((l3A tt).take 3).foldl ins l = ins3 l tt := rfl
    have e4 : ((l3A tt).take 3).map (ixB L) = [IN (ixD L tt.1), IN (ixD L tt.2.1), IN (ixD L tt.2.2)] := rfl
    rw [e3, e4]
    have ki : (i : Int) < (ins3 l tt).length := by have := (ins3_pre l tt).length_le; omega
    have hgl := hxl _ (ins3_pre l tt)
    have k3 : ¬ ((3 : Nat) : Int) < 3 := by omega
    have a1 : (i + 1) * 1 ≤ 140737488355328 := by omega
    have a2 : (i + 1) * 24 ≤ 140737488355328 := by omega
    by_cases hgt : (ins3 l tt).length ≤ 400
    · have ihm := ihn hgt
      have kgt : ¬ ((ins3 l tt).length : Int) > 400 := by omega
      simp only [go_sem, k3, kgt]
      rw [q_drawn]
      rotate_left
      · kernel_rfl
      generalize y.2.2 = sb at *
      cases sb
      · simp only [go_sem, still, eq_self, ki, hgl, any, htk, a1, a2, wi]
        exact ihm
      · simp only [go_sem, still, eq_self, ki, hgl, htk, a1, a2, wi]
        exact ihm
    · have kgt : ((ins3 l tt).length : Int) > 400 := by omega
      have hLl : ¬ L.length ≤ 400 := by have := hpL.length_le; omega
      rw [if_neg hLl] at hRES
      subst hRES
      simp only [go_sem, k3, kgt, resO]
  have k2 : (j : Int) < 3 := by omega
  have wj := wrap_nat (n := j) (by omega)
  have hji : j < (l3A tt).length := by rw [l3A_len]; exact h'
  have hpre : ((l3A tt).take (j + 1)).foldl ins l <+: ins3 l tt := by
    rw [← ins3_l3A]
    have e : (l3A tt).foldl ins l = ((l3A tt).drop (j + 1)).foldl ins (((l3A tt).take (j + 1)).foldl ins l) := by
      rw [← List.foldl_append, List.take_append_drop]
    rw [e]
    exact foldl_ins_pre _ _
  have ihm := ihj (j + 1) (by omega) (by omega)
  rw [foldl_take _ _ hji] at hpre ihm
  rw [take_snoc hji, List.map_append, List.map_cons, List.map_nil] at ihm
  have hil : i < (((l3A tt).take j).foldl ins l).length := Nat.lt_of_lt_of_le h (foldl_ins_pre _ _).length_le
  have ki : (i : Int) < (((l3A tt).take j).foldl ins l).length := by omega
  have hgl := hxl _ (foldl_ins_pre ((l3A tt).take j) l)
  have eix : ixB L (l3A tt)[j] = .int .i64 (ixD L (l3A tt)[j] : Nat) := rfl
  rw [eix] at ihm
  have hly : ixD L (l3A tt)[j] = ixD (ins (((l3A tt).take j).foldl ins l) (l3A tt)[j]) (l3A tt)[j] := ixD_pre (hpre.trans hpL) (ins_mem _ _)
  rw [hly] at ihm
  have hQm : ∀ z ∈ ins (((l3A tt).take j).foldl ins l) (l3A tt)[j], z.2.1 < 2 ^ 40 := fun z hz => p40 hd.le (hQ3 z (hpre.subset hz))
  have hlen : (ins (((l3A tt).take j).foldl ins l) (l3A tt)[j]).length ≤ 1048576 := by
    have h1 := hpre.length_le
    have h2 : (ins3 l tt).length ≤ l.length + 3 := by
      have := ins_len l tt.1
      have := ins_len (ins l tt.1) tt.2.1
      have := ins_len (ins (ins l tt.1) tt.2.1) tt.2.2
      show (ins (ins (ins l tt.1) tt.2.1) tt.2.2).length ≤ _
      omega
    omega
  have hrl : (((l3A tt).take j).map (ixB L)).length = j := by rw [List.length_map, List.length_take, l3A_len]; omega
  have a1 : (j + 1) * 8 ≤ 140737488355328 := by omega
  have hgj := hget j h'
  clear hly ihj hpre hget
  generalize ((l3A tt).take j).foldl ins l = m at *
  generalize (l3A tt)[j] = z at *
  generalize ((l3A tt).take j).map (ixB L) = row at *
  have mv := mv j h'
  have hmv := hmv j h'
  have am := r290 d hd.le (moveN d y.2.1 j) hmv
  unfold stp at hgj
  simp only [DN.enc] at am
  have pb := put_bits (moveN d y.2.1 j) 0 (by decide)
  have e20 : 2 ^ 0 = 1 := rfl
  rw [e20] at pb
  have ez0 : ((0 : Nat) : Int) = 0 := rfl
  rw [ez0] at pb
  generalize moveN d y.2.1 j = M at *
  have hmi : m <+: ins m z := ins_pre m z
  have f1 := r292 m z (by have := hmi.length_le; omega) (fun w hw => hQm w (hmi.subset hw)) (hQm z (ins_mem _ _))
  have f2 := r292 (ins m z) z hlen hQm (hQm z (ins_mem _ _))
  rw [if_pos (ins_mem _ _)] at f2
  have hmz : (ins m z).map enc3 = if z ∈ m then m.map enc3 else m.map enc3 ++ [enc3 z] := by
    unfold ins
    by_cases hz : z ∈ m
    · rw [if_pos hz, if_pos hz]
    · rw [if_neg hz, if_neg hz, List.map_append]; rfl
  have hni := nneg (ixD (ins m z) z)
  have hzm : z ∈ m → ixD (ins m z) z = ixD m z := fun hz => by unfold ins; rw [if_pos hz]
  have hml : (m.length + 1) * 40 ≤ 140737488355328 := by
    have := hmi.length_le
    omega
  generalize hLZ : ixD (ins m z) z = IX at *
  generalize ins m z = mm at *
  have ez : ∀ S2, z = (0, S2, false) → enc3 z = .agg [.int .i64 0, .slc false 1 ((bitsN S2).map IN), .bool false] := by
    rintro S2 rfl; rfl
  cases hc : anyN d M
  · rw [hc] at am hgj
    have ez := ez M (by rw [hgj, if_neg (by decide)])
    rw [ez] at f1 f2 hmz
    by_cases hz : z ∈ m
    · rw [if_pos hz, ← hzm hz] at f1
      rw [if_pos hz] at hmz
      rw [hmz] at f2 ihm
      simp only [go_sem, k2]
      rw [q_drawn]
      rotate_left
      · kernel_rfl
      simp only [go_sem, still, eq_self, ki, hgl, k2, mv, am, f1, hni, hrl, a1, wj]
      exact ihm
    · rw [if_neg hz] at f1
      rw [if_neg hz] at hmz
      rw [hmz] at f2 ihm
      simp only [go_sem, k2]
      rw [q_drawn]
      rotate_left
      · kernel_rfl
      simp only [go_sem, still, eq_self, ki, hgl, k2, mv, am, f1, f2, hni, hrl, a1, hml, wj]
      exact ihm
  · rw [hc] at am hgj
    have ez := ez (M ||| 1) (by rw [hgj, if_pos rfl])
    rw [ez] at f1 f2 hmz
    by_cases hz : z ∈ m
    · rw [if_pos hz, ← hzm hz] at f1
      rw [if_pos hz] at hmz
      rw [hmz] at f2 ihm
      simp only [go_sem, k2]
      rw [q_drawn]
      rotate_left
      · kernel_rfl
      simp only [go_sem, still, eq_self, ki, hgl, k2, mv, am, pb, f1, hni, hrl, a1, wj]
      exact ihm
    · rw [if_neg hz] at f1
      rw [if_neg hz] at hmz
      rw [hmz] at f2 ihm
      simp only [go_sem, k2]
      rw [q_drawn]
      rotate_left
      · kernel_rfl
      simp only [go_sem, still, eq_self, ki, hgl, k2, mv, am, pb, f1, f2, hni, hrl, a1, hml, wj]
      exact ihm
end Go.Ev
namespace Go.Ev
open Go Go.Proofs
set_option maxRecDepth 10000
set_option linter.unusedVariables false
set_option linter.unusedSimpArgs false

theorem r247 (s : ByteArray) (hs : s.size ≤ 9223372036854775806) : run EE 247 [.str s] [] = some (.bool (small s), []) := by
  have f := r40 s hs
  rw [run_eq EE 247 _ _ Tryz.func247 (by decide +kernel) rfl (show 1 ≤ _ by decide)]
  dsimp only [Tryz.f247]
  unfold small
  simp only [go_sem, f]
  refine guardL_bool (fun c => ?_) (fun c => ?_)
  · by_cases k : s.size ≤ 3
    · have k' : (s.size : Int) ≤ 3 := by omega
      simp only [go_sem, c, k, k', Bool.true_and]
    · have k' : ¬ (s.size : Int) ≤ 3 := by omega
      simp only [go_sem, c, k, k', Bool.true_and]
  · simp only [go_sem, c, Bool.false_and]
theorem r187 (m : Mor) (h1 : m.a.size ≤ 1048576) (h2 : m.b.size ≤ 1048576) (h3 : m.c.size ≤ 1048576) : run EE 187 [m.enc] [] = some (.bool (isMor m), []) := by
  have f1 := r247 m.a (by omega)
  have f2 := r247 m.b (by omega)
  have f3 := r247 m.c (by omega)
  rw [run_eq EE 187 _ _ Tryz.func187 (by decide +kernel) rfl (show 1 ≤ _ by decide)]
  dsimp only [Tryz.f187]
  unfold isMor
  simp only [go_sem, f1]
  refine guardL_bool (fun c => ?_) (fun c => ?_)
  · simp only [go_sem, c, f2, Bool.true_and]
    refine guardL_bool (fun c' => ?_) (fun c' => ?_)
    · simp only [go_sem, c, c', f3, Bool.true_and]
    · simp only [go_sem, c, c', Bool.false_and]
  · simp only [go_sem, c, Bool.false_and]
theorem r124 (m : Mor) (h1 : m.a.size ≤ 1048576) (h2 : m.b.size ≤ 1048576) (h3 : m.c.size ≤ 1048576) : run EE 124 [m.enc] [] = some (.bool (isMor m), []) := by
  have f1 := r45 m.a (by omega)
  have f2 := r45 m.b (by omega)
  have f3 := r45 m.c (by omega)
  have sm : ∀ s : ByteArray, small s = (decide (¬ (s.size : Int) > 3) && isWord s) := by
    intro s
    unfold small
    rw [Bool.and_comm]
    congr 1
    by_cases k : s.size ≤ 3
    · have k' : ¬ (s.size : Int) > 3 := by omega
      simp [k, k']
    · have k' : (s.size : Int) > 3 := by omega
      simp [k, k']
  have it2 : IntKind.i64.wrap 2 = 2 := by decide
  have it3 : IntKind.i64.wrap 3 = 3 := by decide
  rw [run_eq EE 124 _ _ Tryz.func124 (by decide +kernel) rfl (show 1 ≤ _ by decide)]
  dsimp only [Tryz.f124]
  unfold isMor
  rw [sm, sm, sm]
  by_cases k1 : (m.a.size : Int) > 3
  · simp only [go_sem, iter_eq, k1, Bool.false_and, not_true_eq_false, condL_b]
  by_cases w1 : isWord m.a = true
  rotate_left
  · have w1' : isWord m.a = false := by simpa using w1
    simp only [go_sem, iter_eq, k1, f1, w1', Bool.false_and, Bool.and_false, not_false_eq_true, Bool.not_false]
  by_cases k2 : (m.b.size : Int) > 3
  · simp only [go_sem, iter_eq, k1, f1, w1, k2, Bool.not_true, Bool.false_and, Bool.and_false, Bool.true_and, not_true_eq_false, not_false_eq_true]
  by_cases w2 : isWord m.b = true
  rotate_left
  · have w2' : isWord m.b = false := by simpa using w2
    simp only [go_sem, iter_eq, k1, f1, w1, k2, f2, w2', Bool.not_true, Bool.false_and, Bool.and_false, Bool.true_and, not_false_eq_true, Bool.not_false]
  by_cases k3 : (m.c.size : Int) > 3
  · simp only [go_sem, iter_eq, k1, f1, w1, k2, f2, w2, k3, Bool.not_true, Bool.false_and, Bool.and_false, Bool.true_and, not_true_eq_false, not_false_eq_true]
  by_cases w3 : isWord m.c = true
  · simp only [go_sem, iter_eq, k1, f1, w1, k2, f2, w2, k3, f3, w3, Bool.not_true, Bool.true_and, not_false_eq_true]
  · have w3' : isWord m.c = false := by simpa using w3
    simp only [go_sem, iter_eq, k1, f1, w1, k2, f2, w2, k3, f3, w3', Bool.not_true, Bool.true_and, not_false_eq_true, Bool.not_false]
theorem r193 (r : Rx) : run EE 193 [r.enc] [] = some (.bool (zeroR r), []) := by
  rw [run_eq EE 193 _ _ Tryz.func193 (by decide +kernel) rfl (show 1 ≤ _ by decide)]
  dsimp only [Tryz.f193]
  unfold zeroR
  simp only [go_sem, toList_nil]
  refine guardL_bool (fun c => ?_) (fun c => ?_)
  · simp only [go_sem, c, toList_nil, Bool.true_and]
    refine guardL_bool (fun c' => ?_) (fun c' => ?_)
    · simp only [go_sem, c, c', Bool.true_and]
    · simp only [go_sem, c, c', Bool.false_and]
  · simp only [go_sem, c, Bool.false_and]
theorem r186 (r : Rx) : run EE 186 [r.enc] [] = some (.bool (zeroR r), []) := by
  rw [run_eq EE 186 _ _ Tryz.func186 (by decide +kernel) rfl (show 1 ≤ _ by decide)]
  dsimp only [Tryz.f186]
  unfold zeroR
  simp only [go_sem, toList_nil]
  refine guardL_bool (fun c => ?_) (fun c => ?_)
  · simp only [go_sem, c, toList_nil, Bool.true_and]
    refine guardL_bool (fun c' => ?_) (fun c' => ?_)
    · simp only [go_sem, c, c', Bool.true_and]
    · simp only [go_sem, c, c', Bool.false_and]
  · simp only [go_sem, c, Bool.false_and]
end Go.Ev
