/- Left quotients, both. Copies of automata that nobody else sees. Marks: rows of truths and numbers marked, and held. Marks: rows of rows, automata. Automata in memory: made, read as they stand, marked. What the laws of automata share. Sizes of automata. -/
import Derived.Test.YtbdciemhapmhcaaEvS
import Derived.Test.YtbdciemhapmhcaaEvP
import Derived.Test.YtbdciemhapmhcaaEvR
import Derived.Test.YtbdciemhapmhcaaEvN
import Derived.Test.YtbdciemhapmhcaaEvO
import Derived.Test.YtbdciemhapmhcaaEvM
set_option linter.unusedVariables false
set_option linter.unusedSimpArgs false
namespace Go.Ev
open Go Go.Proofs
set_option maxRecDepth 10000
set_option maxHeartbeats 4000000
set_option linter.unusedVariables false
set_option linter.unusedSimpArgs false

theorem rn49 (x : Dfa) (s : ByteArray) (h1 : x.accept.length ≤ 1048576) (h2 : x.next.length ≤ 1048576) (h3 : ∀ r ∈ x.next, r.length ≤ 1048576) (hs : s.size ≤ 1048576) (hv : ¬ (validD x = true ∧ isWord s = true)) (q : Nat) : run EE 49 [x.enc, .int .i64 q, .str s] [] = some (.tup [.int .i64 0, .bool false], []) := by
  have iv := r46 x h1 h2 h3
  have iw := r47 s (by omega)
  have ii := r96 (q : Int) 0 ((x.accept.length : Int) - 1)
  have w0 : IntKind.i64.wrap ((x.accept.length : Int) - 1) = (x.accept.length : Int) - 1 := wrap_in (by omega) (by omega)
  simp only [Dfa.enc] at iv
  rw [run_eq EE 49 _ _ Try.func49 (by decide +kernel) rfl (show 3 ≤ _ by decide)]
  dsimp only [Try.f49]
  cases hV : validD x
  · rw [hV] at iv
    simp only [go_sem, iv, Bool.not_false]
  rw [hV] at iv
  have hw : isWord s = false := by
    cases h : isWord s
    · rfl
    · exact absurd ⟨hV, h⟩ hv
  rw [hw] at iw
  generalize (decide ((0 : Int) ≤ q) && decide ((q : Int) ≤ (x.accept.length : Int) - 1)) = c at ii
  cases c
  · simp only [go_sem, iv, iw, ii, w0, Bool.not_true, Bool.not_false]
  · simp only [go_sem, iv, iw, ii, w0, Bool.not_true, Bool.not_false]
theorem r111 (q i : Nat) : run EE 111 [.int .i64 q, .int .i64 i] [] = some (.int .i64 (sw q i), []) := by
  rw [run_eq EE 111 _ _ Try.func111 (by decide +kernel) rfl (show 2 ≤ _ by decide)]
  dsimp only [Try.f111]
  unfold sw
  by_cases h : i = 0
  · subst h
    rw [if_pos rfl]
    have c0 : ((0 : Nat) : Int) = 0 := rfl
    simp only [go_sem, c0]
  have h1 : ((i : Int) == 0) = false := by simpa using h
  rw [if_neg h]
  by_cases hq : i = q
  · subst hq
    rw [if_pos rfl]
    have c0 : ((0 : Nat) : Int) = 0 := rfl
    simp only [go_sem, h1, c0, beq_self_eq_true]
  · have h2 : ((i : Int) == (q : Int)) = false := by rw [nat_beq]; simpa using hq
    rw [if_neg hq]
    simp only [go_sem, h1, h2]
theorem r63 (d : DN) (hv : Val d) (q : Nat) (hq : q < d.accept.length) : run EE 63 [d.enc, .int .i64 q] [] = some ((fromD d q).enc, []) := by
  have hd := hv.ok
  have hle := hv.le
  have hn := hd.1
  generalize hRES : (some ((fromD d q).enc, ([] : List (Nat → Option Ob)))) = RES
  rw [run_eq EE 63 _ _ Try.func63 (by decide +kernel) rfl (show 2 ≤ _ by decide)]
  dsimp only [Try.f63]
  simp only [go_sem]
  refine iter_inv (fun i : Nat => i ≤ d.accept.length) (fun i => { t := upd (upd (upd (upd (upd e0 6 (.int .i64 i)) 5 (.ptr 0 5 0)) 4 (.ptr 0 4 0)) 2 (.ptr 0 2 0)) 1 (.int .i64 q), b := upd (upd (upd n0 5 (some (Ob.box [.slc true 1 (((List.range i).map fun i => accN d (sw q i)).map B), .slc true 1 (((List.range i).map fun i => sw3 q (d.nx (sw q i))).map NT)]))) 4 (some (Ob.box [.slc true 1 [], .slc true 1 []]))) 2 (some (Ob.box [.slc false 1 (d.accept.map B), .slc false 1 (d.next.map NT)])), o := [], r := #[ResultVar.cell 4 27], f := 63, n := 56 }) (fun _ => RES) (fun i => d.accept.length - i) ?_ 0 (Nat.zero_le _)
  intro i hi ih
  by_cases h : i < d.accept.length
  rotate_left
  · have k1 : ¬ (i : Int) < d.accept.length := by omega
    obtain rfl : i = d.accept.length := by omega
    rw [← hRES]
    simp only [go_sem, k1]
    rfl
  have k1 : (i : Int) < d.accept.length := by omega
  have w := wrap_nat (n := i) (by omega)
  have ihn := ih (i + 1) (by omega) (by omega)
  clear ih
  rw [List.range_succ, List.map_append, List.map_append, List.map_cons, List.map_nil, List.map_cons, List.map_nil, List.map_append, List.map_append, List.map_cons, List.map_nil, List.map_cons, List.map_nil] at ihn
  have hs := sw_lt hq h
  have s1 := r111 q i
  have hga : ∀ v : V, (d.accept.map B).getD (sw q i) v = B (accN d (sw q i)) := fun v => getD_B hs v
  have hgn : ∀ v : V, (d.next.map NT).getD (sw q i) v = NT (d.nx (sw q i)) := fun v => getD_NT (by omega) v
  have ka : ((sw q i : Nat) : Int) < d.accept.length := by omega
  have kn : ((sw q i : Nat) : Int) < d.next.length := by omega
  have hr : (List.range i).length = i := List.length_range
  have hla : ((List.range i).map fun i => accN d (sw q i)).length = i := by rw [List.length_map, hr]
  have hln : ((List.range i).map fun i => sw3 q (d.nx (sw q i))).length = i := by rw [List.length_map, hr]
  generalize (List.range i).map (fun i => accN d (sw q i)) = LA at *
  generalize (List.range i).map (fun i => sw3 q (d.nx (sw q i))) = LN at *
  generalize accN d (sw q i) = ac at *
  generalize d.nx (sw q i) = tt at *
  simp only [go_sem, k1]
  refine iter_inv (fun j : Nat => j ≤ 3) (fun j => { t := upd (upd (upd (upd (upd (upd (upd e0 8 (.int .i64 j)) 7 (.slc true 1 (((l3 (sw3 q tt)).take j).map IN))) 6 (.int .i64 i)) 5 (.ptr 0 5 0)) 4 (.ptr 0 4 0)) 2 (.ptr 0 2 0)) 1 (.int .i64 q), b := upd (upd (upd n0 5 (some (Ob.box [.slc true 1 (LA.map B), .slc true 1 (LN.map NT)]))) 4 (some (Ob.box [.slc true 1 [], .slc true 1 []]))) 2 (some (Ob.box [.slc false 1 (d.accept.map B), .slc false 1 (d.next.map NT)])), o := [], r := #[ResultVar.cell 4 27], f := 63, n := 56 }) (fun _ => RES) (fun j => 3 - j) ?_ 0 (Nat.zero_le _)
  intro j hj ihj
  by_cases h' : j < 3
  rotate_left
  · obtain rfl : j = 3 := by omega
    have k3 : ¬ ((3 : Nat) : Int) < 3 := by omega
    have et : ((l3 (sw3 q tt)).take 3).map IN = [.int .i64 (sw3 q tt).1, .int .i64 (sw3 q tt).2.1, .int .i64 (sw3 q tt).2.2] := rfl
    have a1 : (LA.length + 1) * 1 ≤ 140737488355328 := by omega
    have a2 : (LN.length + 1) * 24 ≤ 140737488355328 := by omega
    rw [et]
    simp only [go_sem, k3]
    rw [q_drawn]
    rotate_left
    · kernel_rfl
    simp only [go_sem, still, s1, ka, hga, a1, a2, eq_self, w]
    exact ihn
  have k2 : (j : Int) < 3 := by omega
  have k3 : (j : Int) < (l3 tt).length := by rw [l3_len]; omega
  have wj := wrap_nat (n := j) (by omega)
  have hg3 : ∀ v : V, ((l3 tt).map IN).getD j v = IN (l3 tt)[j] := fun v => getD_map (by rw [l3_len]; exact h') v
  have hl3 : (l3 tt).map IN = [.int .i64 tt.1, .int .i64 tt.2.1, .int .i64 tt.2.2] := rfl
  have ihm := ihj (j + 1) (by omega) (by omega)
  rw [take_snoc (by rw [l3_len]; exact h'), List.map_append, List.map_cons, List.map_nil] at ihm
  have hsw : (l3 (sw3 q tt))[j]'(by rw [l3_len]; exact h') = sw q ((l3 tt)[j]'(by rw [l3_len]; exact h')) := by
    rcases j with _ | _ | _ | j
    · rfl
    · rfl
    · rfl
    · omega
  rw [hsw] at ihm
  have s2 := r111 q ((l3 tt)[j]'(by rw [l3_len]; exact h'))
  rw [hl3] at hg3
  generalize (l3 tt)[j] = p at *
  have kt : (((l3 (sw3 q tt)).take j).map IN).length = j := by rw [List.length_map, List.length_take, l3_len]; omega
  generalize ((l3 (sw3 q tt)).take j).map IN = LT at *
  have a1 : (LT.length + 1) * 8 ≤ 140737488355328 := by omega
  simp only [go_sem, k2]
  rw [q_drawn]
  rotate_left
  · kernel_rfl
  simp only [go_sem, still, s1, kn, hgn, k2, hg3, s2, a1, eq_self, wj]
  exact ihm
theorem r15 (x : Dfa) (s : ByteArray) (h1 : x.accept.length ≤ 1048576) (h2 : x.next.length ≤ 1048576) (h3 : ∀ r ∈ x.next, r.length ≤ 1048576) (hs : s.size ≤ 1048576) : run EE 15 [x.enc, .str s] [] = some (lqR x s, []) := by
  unfold lqR
  rw [run_eq EE 15 _ _ Try.func15 (by decide +kernel) rfl (show 2 ≤ _ by decide)]
  dsimp only [Try.f15]
  by_cases hv : validD x = true ∧ isWord s = true
  rotate_left
  · have rd := rn49 x s h1 h2 h3 hs hv 0
    simp only [Dfa.enc] at rd
    rw [if_neg hv]
    have z0 : ((0 : Nat) : Int) = 0 := rfl
    rw [z0] at rd
    simp only [go_sem, rd, Bool.not_false]
  rw [if_pos hv]
  obtain ⟨hx, hd⟩ := validD_dn hv.1
  have hw := hv.2
  generalize x.dn = d at hx hd ⊢
  subst hx
  have hle := hd.le
  have hps := hd.pos
  rw [DN.dfa_enc]
  have rd := r49 d hd s hs hw 0 (by omega)
  have hwk := walk_lt hd.ok s _ 0 0 (Nat.le_refl _) hd.pos
  generalize walk d s 0 0 = q at *
  have fr := r63 d hd q hwk
  have lm := r50 (fromD d q) (fromD_ok hd.ok hwk) (by rw [fromD_len]; omega) (by rw [fromD_len]; omega)
  rw [minS_S (fromD_ok hd.ok hwk) (by rw [fromD_len]; omega), quotS_from hd.ok hwk] at lm
  generalize quotS d q = Q at *
  generalize fromD d q = F at *
  have z0 : ((0 : Nat) : Int) = 0 := rfl
  simp only [DN.enc, DN.encD, z0] at rd fr lm ⊢
  simp only [go_sem, rd, fr, lm, Bool.not_true]
theorem r16 (x : Dfa) (s : ByteArray) (h1 : x.accept.length ≤ 1048576) (h2 : x.next.length ≤ 1048576) (h3 : ∀ r ∈ x.next, r.length ≤ 1048576) (hs : s.size ≤ 1048576) : run EE 16 [x.enc, .str s] [] = some (lqR x s, []) := by
  have iv := r53 x h1 h2 h3
  have iw := r54 s (by omega)
  simp only [Dfa.enc] at iv
  unfold lqR
  rw [run_eq EE 16 _ _ Try.func16 (by decide +kernel) rfl (show 2 ≤ _ by decide)]
  dsimp only [Try.f16]
  cases hV : validD x
  · rw [hV] at iv
    rw [if_neg (by simp)]
    simp only [go_sem, iv, Bool.not_false]
  cases hw : isWord s
  · rw [hV] at iv
    rw [hw] at iw
    rw [if_neg (by simp)]
    simp only [go_sem, iv, iw, Bool.not_true, Bool.not_false]
  rw [hV] at iv
  rw [hw] at iw
  rw [if_pos ⟨rfl, rfl⟩]
  obtain ⟨hx, hv⟩ := validD_dn hV
  generalize x.dn = d at hx hv ⊢
  subst hx
  have hle := hv.le
  have hps := hv.pos
  have hl := ltrs_word hw
  have e1 : d.dfa.accept = d.accept := rfl
  have e2 : d.dfa.next.map IL = d.next.map NT := by unfold DN.dfa; rw [List.map_map]; rfl
  rw [e1, e2] at iv
  rw [DN.dfa_enc]
  have rd := r55 d hv.ok s (by omega) hl 0 hv.pos
  have hwk := walk_lt hv.ok s _ 0 0 (Nat.le_refl _) hv.pos
  generalize walk d s 0 0 = q at *
  have lm := r56 d hv.ok (by omega) q hwk
  generalize quotS d q = Q at *
  have z0 : ((0 : Nat) : Int) = 0 := rfl
  simp only [DN.enc, DN.encD, z0] at rd lm ⊢
  simp only [go_sem, iv, iw, Bool.not_true]
  rw [q_drawn]
  rotate_left
  · kernel_rfl
  simp only [go_sem, still, rd, lm, eq_self]
end Go.Ev
namespace Go.Ev
open Go Go.Proofs
set_option maxRecDepth 10000
set_option maxHeartbeats 4000000
set_option linter.unusedVariables false
set_option linter.unusedSimpArgs false

theorem r51 (l : List Bool) (hl : l.length ≤ 1048576) : run EE 51 [.slc false 1 (l.map B)] [] = some (.uq 1 (l.map B), []) := by
  rw [run_eq EE 51 _ _ Try.func51 (by decide +kernel) rfl (show 1 ≤ _ by decide)]
  dsimp only [Try.f51]
  have h8 : (l.length : Int) * 1 ≤ 140737488355328 := by omega
  simp only [go_sem, h8]
  refine iter_inv (fun i : Nat => i ≤ l.length) (fun i => { t := upd (upd (upd e0 4 (.int .i64 i)) 3 (.oref 0 7 l.length)) 0 (.slc false 1 (l.map B)), b := upd n0 7 (some (Ob.aru 1 (fill B l (.bool false) i))), o := [], r := #[ResultVar.tmp 2], f := 51, n := 22 }) (fun _ => some (V.uq 1 (l.map B), [])) (fun i => l.length - i) ?_ 0 (Nat.zero_le _)
  intro i hi ih
  have hfl := fill_len B l (.bool false) hi
  by_cases hh : i < l.length
  rotate_left
  · have k1 : ¬ (i : Int) < l.length := by omega
    obtain rfl : i = l.length := by omega
    have hfa := fill_all B l (.bool false)
    simp only [go_sem, k1, hfa]
  have k1 : (i : Int) < l.length := by omega
  have wi := wrap_nat (n := i) (by omega)
  have ihn := ih (i + 1) (by omega) (by omega)
  have hg : ∀ v : V, (l.map B).getD i v = .bool l[i] := fun v => getD_map hh v
  have hs := fill_set B l (.bool false) hh (.bool l[i]) rfl
  simp only [go_sem, k1, hg, hfl, hh, hs, wi]
  exact ihn
theorem r37 (l : List Int) (hl : l.length ≤ 1048576) : run EE 37 [.slc false 1 (l.map I)] [] = some (.uq 1 (l.map I), []) := by
  rw [run_eq EE 37 _ _ Try.func37 (by decide +kernel) rfl (show 1 ≤ _ by decide)]
  dsimp only [Try.f37]
  have h8 : (l.length : Int) * 8 ≤ 140737488355328 := by omega
  simp only [go_sem, h8]
  refine iter_inv (fun i : Nat => i ≤ l.length) (fun i => { t := upd (upd (upd e0 4 (.int .i64 i)) 3 (.oref 0 7 l.length)) 0 (.slc false 1 (l.map I)), b := upd n0 7 (some (Ob.aru 1 (fill I l (.int .i64 0) i))), o := [], r := #[ResultVar.tmp 2], f := 37, n := 22 }) (fun _ => some (V.uq 1 (l.map I), [])) (fun i => l.length - i) ?_ 0 (Nat.zero_le _)
  intro i hi ih
  have hfl := fill_len I l (.int .i64 0) hi
  by_cases hh : i < l.length
  rotate_left
  · have k1 : ¬ (i : Int) < l.length := by omega
    obtain rfl : i = l.length := by omega
    have hfa := fill_all I l (.int .i64 0)
    simp only [go_sem, k1, hfa]
  have k1 : (i : Int) < l.length := by omega
  have wi := wrap_nat (n := i) (by omega)
  have ihn := ih (i + 1) (by omega) (by omega)
  have hg : ∀ v : V, (l.map I).getD i v = .int .i64 l[i] := fun v => getD_map hh v
  have hs := fill_set I l (.int .i64 0) hh (.int .i64 l[i]) rfl
  simp only [go_sem, k1, hg, hfl, hh, hs, wi]
  exact ihn
theorem r52 (l : List (List Int)) (hl : l.length ≤ 1048576) (hr : ∀ r ∈ l, r.length ≤ 1048576) : run EE 52 [.slc false 1 (l.map IL)] [] = some (.uq 1 (l.map UR), []) := by
  rw [run_eq EE 52 _ _ Try.func52 (by decide +kernel) rfl (show 1 ≤ _ by decide)]
  dsimp only [Try.f52]
  have h8 : (l.length : Int) * 24 ≤ 140737488355328 := by omega
  simp only [go_sem, h8]
  refine iter_inv (fun i : Nat => i ≤ l.length) (fun i => { t := upd (upd (upd e0 4 (.int .i64 i)) 3 (.oref 0 7 l.length)) 0 (.slc false 1 (l.map IL)), b := upd n0 7 (some (Ob.aru 1 (fill UR l (.slc false 1 []) i))), o := [], r := #[ResultVar.tmp 2], f := 52, n := 23 }) (fun _ => some (V.uq 1 (l.map UR), [])) (fun i => l.length - i) ?_ 0 (Nat.zero_le _)
  intro i hi ih
  have hfl := fill_len UR l (.slc false 1 []) hi
  by_cases hh : i < l.length
  rotate_left
  · have k1 : ¬ (i : Int) < l.length := by omega
    obtain rfl : i = l.length := by omega
    have hfa := fill_all UR l (.slc false 1 [])
    simp only [go_sem, k1, hfa]
  have k1 : (i : Int) < l.length := by omega
  have wi := wrap_nat (n := i) (by omega)
  have ihn := ih (i + 1) (by omega) (by omega)
  have hg : ∀ v : V, (l.map IL).getD i v = .slc false 1 (l[i].map I) := fun v => getD_map hh v
  have hs := fill_set UR l (.slc false 1 []) hh (.uq 1 (l[i].map I)) rfl
  have ti := r37 l[i] (hr _ (List.getElem_mem hh))
  simp only [go_sem, k1, hg, ti, hfl, hh, hs, wi]
  exact ihn
theorem r10 (d : Dfa) (ha : d.accept.length ≤ 1048576) (hn : d.next.length ≤ 1048576) (hr : ∀ r ∈ d.next, r.length ≤ 1048576) : run EE 10 [d.enc] [] = some (d.encU, []) := by
  have ta := r51 d.accept ha
  have tn := r52 d.next hn hr
  unfold Dfa.encU
  rw [run_eq EE 10 _ _ Try.func10 (by decide +kernel) rfl (show 1 ≤ _ by decide)]
  dsimp only [Try.f10]
  simp only [go_sem, Dfa.enc, ta, tn]
end Go.Ev
namespace Go.Ev
open Go Go.Proofs
set_option maxRecDepth 10000
set_option maxHeartbeats 4000000
set_option linter.unusedVariables false
set_option linter.unusedSimpArgs false

theorem rem3 (k : Nat) : Int.tmod (k : Int) 3 = ((k : Int) % 3) := Int.tmod_eq_emod_of_nonneg (by omega)
theorem r59 (l : List Bool) (lv u k : Nat) (os : List (Nat → Option Ob)) (ho : obIn u lv os = some (.arr false 1 (l.map B))) (hk : k + l.length ≤ 9223372036854775806) : run EE 59 [.aref lv u l.length, .int .i64 k] os = some (.int .i64 ((k + l.length : Nat) : Int), setIn u (.arr false 1 (marksB k l.length)) lv os) := by
  have hlt := obIn_len ho
  have hne : ¬ lv = os.length := by omega
  have h0 : setIn u (.arr false 1 (markP (mB k) (l.map B) 0)) lv os = os := by rw [markP_0]; exact setIn_same u lv _ os ho
  suffices main : run EE 59 [.aref lv u l.length, .int .i64 k] (setIn u (.arr false 1 (markP (mB k) (l.map B) 0)) lv os) = some (.int .i64 ((k + l.length : Nat) : Int), setIn u (.arr false 1 (marksB k l.length)) lv os) by
    rw [h0] at main; exact main
  rw [run_eq EE 59 _ _ Try.func59 (by decide +kernel) rfl (show 2 ≤ _ by decide)]
  dsimp only [Try.f59]
  simp only [go_sem, setIn_len, hne]
  refine iter_inv (fun i : Nat => i ≤ l.length) (fun i => { t := upd (upd (upd e0 5 (.int .i64 i)) 1 (.int .i64 ((k + i : Nat) : Int))) 0 (.aref lv u l.length), b := n0, o := setIn u (.arr false 1 (markP (mB k) (l.map B) i)) lv os, r := #[ResultVar.tmp 4], f := 59, n := 21 }) (fun _ => some (V.int .i64 ((k + l.length : Nat) : Int), setIn u (.arr false 1 (marksB k l.length)) lv os)) (fun i => l.length - i) ?_ 0 (Nat.zero_le _)
  intro i hi ih
  have hol : obIn u lv (setIn u (.arr false 1 (markP (mB k) (l.map B) i)) lv os) = some (.arr false 1 (markP (mB k) (l.map B) i)) := by
    rw [obIn_set2 _ _ _ _ _ _ hlt, if_pos ⟨rfl, rfl⟩]
  by_cases hh : i < l.length
  rotate_left
  · have k1 : ¬ (i : Int) < l.length := by omega
    obtain rfl : i = l.length := by omega
    have he : markP (mB k) (l.map B) l.length = marksB k l.length := by
      have := markP_all (mB k) (l.map B)
      rw [List.length_map] at this
      exact this
    rw [he]
    simp only [go_sem, k1, setIn_len, hne]
  have k1 : (i : Int) < l.length := by omega
  have wi := wrap_nat (n := i) (by omega)
  have wk := wrap_nat (n := k + i) (by omega)
  have ihn := ih (i + 1) (by omega) (by omega)
  have hml := markP_len (mB k) (l.map B) (i := i) (by rw [List.length_map]; omega)
  rw [List.length_map] at hml
  have hset := markP_set (mB k) (l.map B) (i := i) (by rw [List.length_map]; omega)
  have hm : mB k i = .bool (((((k + i : Nat) : Int) % 3)) == 0) := rfl
  rw [hm] at hset
  simp only [go_sem, k1, setIn_len, hne, hol, hml, hh, rem3, hset, setIn_setIn, wi, wk]
  exact ihn
theorem r42 (l : List Int) (lv u k : Nat) (os : List (Nat → Option Ob)) (ho : obIn u lv os = some (.dir 1 (l.map I))) (hk : k + l.length ≤ 9223372036854775806) : run EE 42 [.aref lv u l.length, .int .i64 k] os = some (.int .i64 ((k + l.length : Nat) : Int), setIn u (.dir 1 (marksI k l.length)) lv os) := by
  have hlt := obIn_len ho
  have hne : ¬ lv = os.length := by omega
  have h0 : setIn u (.dir 1 (markP (mI k) (l.map I) 0)) lv os = os := by rw [markP_0]; exact setIn_same u lv _ os ho
  suffices main : run EE 42 [.aref lv u l.length, .int .i64 k] (setIn u (.dir 1 (markP (mI k) (l.map I) 0)) lv os) = some (.int .i64 ((k + l.length : Nat) : Int), setIn u (.dir 1 (marksI k l.length)) lv os) by
    rw [h0] at main; exact main
  rw [run_eq EE 42 _ _ Try.func42 (by decide +kernel) rfl (show 2 ≤ _ by decide)]
  dsimp only [Try.f42]
  simp only [go_sem, setIn_len, hne]
  refine iter_inv (fun i : Nat => i ≤ l.length) (fun i => { t := upd (upd (upd e0 5 (.int .i64 i)) 1 (.int .i64 ((k + i : Nat) : Int))) 0 (.aref lv u l.length), b := n0, o := setIn u (.dir 1 (markP (mI k) (l.map I) i)) lv os, r := #[ResultVar.tmp 4], f := 42, n := 19 }) (fun _ => some (V.int .i64 ((k + l.length : Nat) : Int), setIn u (.dir 1 (marksI k l.length)) lv os)) (fun i => l.length - i) ?_ 0 (Nat.zero_le _)
  intro i hi ih
  have hol : obIn u lv (setIn u (.dir 1 (markP (mI k) (l.map I) i)) lv os) = some (.dir 1 (markP (mI k) (l.map I) i)) := by
    rw [obIn_set2 _ _ _ _ _ _ hlt, if_pos ⟨rfl, rfl⟩]
  by_cases hh : i < l.length
  rotate_left
  · have k1 : ¬ (i : Int) < l.length := by omega
    obtain rfl : i = l.length := by omega
    have he : markP (mI k) (l.map I) l.length = marksI k l.length := by
      have := markP_all (mI k) (l.map I)
      rw [List.length_map] at this
      exact this
    rw [he]
    simp only [go_sem, k1, setIn_len, hne]
  have k1 : (i : Int) < l.length := by omega
  have wi := wrap_nat (n := i) (by omega)
  have wk := wrap_nat (n := k + i) (by omega)
  have ihn := ih (i + 1) (by omega) (by omega)
  have hml := markP_len (mI k) (l.map I) (i := i) (by rw [List.length_map]; omega)
  rw [List.length_map] at hml
  have hset := markP_set (mI k) (l.map I) (i := i) (by rw [List.length_map]; omega)
  have hm : mI k i = .int .i64 (((k + i : Nat) : Int)) := rfl
  rw [hm] at hset
  simp only [go_sem, k1, setIn_len, hne, hol, hml, hh, hset, setIn_setIn, wi, wk]
  exact ihn
theorem mB_get (k n : Nat) {i : Nat} (h : i < n) (v : V) : (marksB k n).getD i v = mB k i := by
  unfold marksB
  rw [List.getD_eq_getElem?_getD, List.getElem?_map, List.getElem?_range h]; rfl
theorem mI_get (k n : Nat) {i : Nat} (h : i < n) (v : V) : (marksI k n).getD i v = mI k i := by
  unfold marksI
  rw [List.getD_eq_getElem?_getD, List.getElem?_map, List.getElem?_range h]; rfl
theorem r61 (n lv u k : Nat) (os : List (Nat → Option Ob)) (ho : obIn u lv os = some (.arr false 1 (marksB k n))) (hk : k + n ≤ 9223372036854775806) : run EE 61 [.aref lv u n, .int .i64 k] os = some (.int .i64 ((k + n : Nat) : Int), os) := by
  have hlt := obIn_len ho
  have hne : ¬ lv = os.length := by omega
  have hml : (marksB k n).length = n := by simp [marksB]
  rw [run_eq EE 61 _ _ Try.func61 (by decide +kernel) rfl (show 2 ≤ _ by decide)]
  dsimp only [Try.f61]
  simp only [go_sem, hne]
  refine iter_inv (fun i : Nat => i ≤ n) (fun i => { t := upd (upd (upd e0 5 (.int .i64 i)) 1 (.int .i64 ((k + i : Nat) : Int))) 0 (.aref lv u n), b := n0, o := os, r := #[ResultVar.tmp 4], f := 61, n := 23 }) (fun _ => some (V.int .i64 ((k + n : Nat) : Int), os)) (fun i => n - i) ?_ 0 (Nat.zero_le _)
  intro i hi ih
  by_cases hh : i < n
  rotate_left
  · have k1 : ¬ (i : Int) < n := by omega
    obtain rfl : i = n := by omega
    simp only [go_sem, k1, hne]
  have k1 : (i : Int) < n := by omega
  have wi := wrap_nat (n := i) (by omega)
  have wk := wrap_nat (n := k + i) (by omega)
  have ihn := ih (i + 1) (by omega) (by omega)
  have hg := fun v => mB_get k n hh v
  have hm : mB k i = .bool (((((k + i : Nat) : Int) % 3)) == 0) := rfl
  simp only [hm] at hg
  simp only [go_sem, k1, hne, ho, hml, hh, rem3, hg, wi, wk, bne_self_eq_false]
  exact ihn
theorem r93 (n lv u k : Nat) (os : List (Nat → Option Ob)) (ho : obIn u lv os = some (.dir 1 (marksI k n))) (hk : k + n ≤ 9223372036854775806) : run EE 93 [.aref lv u n, .int .i64 k] os = some (.int .i64 ((k + n : Nat) : Int), os) := by
  have hlt := obIn_len ho
  have hne : ¬ lv = os.length := by omega
  have hml : (marksI k n).length = n := by simp [marksI]
  rw [run_eq EE 93 _ _ Try.func93 (by decide +kernel) rfl (show 2 ≤ _ by decide)]
  dsimp only [Try.f93]
  simp only [go_sem, hne]
  refine iter_inv (fun i : Nat => i ≤ n) (fun i => { t := upd (upd (upd e0 5 (.int .i64 i)) 1 (.int .i64 ((k + i : Nat) : Int))) 0 (.aref lv u n), b := n0, o := os, r := #[ResultVar.tmp 4], f := 93, n := 21 }) (fun _ => some (V.int .i64 ((k + n : Nat) : Int), os)) (fun i => n - i) ?_ 0 (Nat.zero_le _)
  intro i hi ih
  by_cases hh : i < n
  rotate_left
  · have k1 : ¬ (i : Int) < n := by omega
    obtain rfl : i = n := by omega
    simp only [go_sem, k1, hne]
  have k1 : (i : Int) < n := by omega
  have wi := wrap_nat (n := i) (by omega)
  have wk := wrap_nat (n := k + i) (by omega)
  have ihn := ih (i + 1) (by omega) (by omega)
  have hg := fun v => mI_get k n hh v
  have hm : mI k i = .int .i64 (((k + i : Nat) : Int)) := rfl
  simp only [hm] at hg
  simp only [go_sem, k1, hne, ho, hml, hh, hg, wi, wk, bne_self_eq_false]
  exact ihn
end Go.Ev
namespace Go.Ev
open Go Go.Proofs
set_option maxRecDepth 10000
set_option maxHeartbeats 4000000
set_option linter.unusedVariables false
set_option linter.unusedSimpArgs false

theorem z42 (k : Nat) (os : List (Nat → Option Ob)) : run EE 42 [.slc false 1 [], .int .i64 k] os = some (.int .i64 (k : Int), os) := by
  rw [run_eq EE 42 _ _ Try.func42 (by decide +kernel) rfl (show 2 ≤ _ by decide)]
  dsimp only [Try.f42]
  simp only [go_sem]
  rw [iter_eq]
  simp only [go_sem]
theorem z93 (k : Nat) (os : List (Nat → Option Ob)) : run EE 93 [.slc false 1 [], .int .i64 k] os = some (.int .i64 (k : Int), os) := by
  rw [run_eq EE 93 _ _ Try.func93 (by decide +kernel) rfl (show 2 ≤ _ by decide)]
  dsimp only [Try.f93]
  simp only [go_sem]
  rw [iter_eq]
  simp only [go_sem]
theorem z59 (k : Nat) (os : List (Nat → Option Ob)) : run EE 59 [.slc false 1 [], .int .i64 k] os = some (.int .i64 (k : Int), os) := by
  rw [run_eq EE 59 _ _ Try.func59 (by decide +kernel) rfl (show 2 ≤ _ by decide)]
  dsimp only [Try.f59]
  simp only [go_sem]
  rw [iter_eq]
  simp only [go_sem]
theorem z61 (k : Nat) (os : List (Nat → Option Ob)) : run EE 61 [.slc false 1 [], .int .i64 k] os = some (.int .i64 (k : Int), os) := by
  rw [run_eq EE 61 _ _ Try.func61 (by decide +kernel) rfl (show 2 ≤ _ by decide)]
  dsimp only [Try.f61]
  simp only [go_sem]
  rw [iter_eq]
  simp only [go_sem]
theorem z60 (k : Nat) (os : List (Nat → Option Ob)) : run EE 60 [.slc false 1 [], .int .i64 k] os = some (.int .i64 (k : Int), os) := by
  rw [run_eq EE 60 _ _ Try.func60 (by decide +kernel) rfl (show 2 ≤ _ by decide)]
  dsimp only [Try.f60]
  simp only [go_sem]
  rw [iter_eq]
  simp only [go_sem]
theorem z62 (k : Nat) (os : List (Nat → Option Ob)) : run EE 62 [.slc false 1 [], .int .i64 k] os = some (.int .i64 (k : Int), os) := by
  rw [run_eq EE 62 _ _ Try.func62 (by decide +kernel) rfl (show 2 ≤ _ by decide)]
  dsimp only [Try.f62]
  simp only [go_sem]
  rw [iter_eq]
  simp only [go_sem]
theorem refsR_len (lv u : Nat) (ns : List Nat) : (refsR lv u ns).length = ns.length := by simp [refsR]
theorem refsR_get (lv u : Nat) (ns : List Nat) {i : Nat} (h : i < ns.length) (v : V) : (refsR lv u ns).getD i v = rowR lv (rid u i) ns[i] := by
  unfold refsR
  rw [List.getD_eq_getElem?_getD, List.getElem?_map, List.getElem?_range h]
  simp [List.getD_eq_getElem?_getD, h]
/-- what the rows' part of memory is -/
structure RowsIn (lv u : Nat) (rows : List (List Int)) (i : Nat) (os : List (Nat → Option Ob)) : Prop where
  dir : obIn u lv os = some (.dir 1 (refsR lv u (rows.map List.length)))
  row : ∀ j, i ≤ j → (h : j < rows.length) → rows[j] ≠ [] → obIn (rid u j) lv os = some (.dir 1 (rows[j].map I))
theorem r60 (rows : List (List Int)) (lv u k : Nat) (os : List (Nat → Option Ob)) (hR : RowsIn lv u rows 0 os) (hk : k + (rows.map List.length).sum ≤ 9223372036854775806) (hn : rows.length ≤ 9223372036854775806) : run EE 60 [.aref lv u rows.length, .int .i64 k] os = some (.int .i64 ((k + (rows.map List.length).sum : Nat) : Int), markRows lv u (rows.map List.length) 0 k os) := by
  have hlt := obIn_len hR.dir
  have hne : ¬ lv = os.length := by omega
  rw [run_eq EE 60 _ _ Try.func60 (by decide +kernel) rfl (show 2 ≤ _ by decide)]
  dsimp only [Try.f60]
  simp only [go_sem, hne]
  refine iter_inv (fun x : Nat × Nat × List (Nat → Option Ob) => x.1 ≤ rows.length ∧ x.2.1 + ((rows.drop x.1).map List.length).sum ≤ 9223372036854775806 ∧ RowsIn lv u rows x.1 x.2.2 ∧ x.2.2.length = os.length) (fun x => { t := upd (upd (upd e0 5 (.int .i64 x.1)) 1 (.int .i64 x.2.1)) 0 (.aref lv u rows.length), b := n0, o := x.2.2, r := #[ResultVar.tmp 4], f := 60, n := 19 }) (fun x => some (V.int .i64 ((x.2.1 + ((rows.drop x.1).map List.length).sum : Nat) : Int), markRows lv u ((rows.drop x.1).map List.length) x.1 x.2.1 x.2.2)) (fun x => rows.length - x.1) ?_ (0, k, os) ⟨Nat.zero_le _, hk, hR, rfl⟩
  rintro ⟨i, k', os'⟩ ⟨hi, hk', hR', hL⟩ ih
  dsimp only at hi hk' hR' hL ⊢
  have hne' : ¬ lv = os'.length := by omega
  by_cases hh : i < rows.length
  rotate_left
  · have k1 : ¬ (i : Int) < rows.length := by omega
    rw [List.drop_eq_nil_of_le (by omega)]
    simp only [go_sem, k1, hne', List.map_nil, List.sum_nil, Nat.add_zero, markRows]
  have k1 : (i : Int) < rows.length := by omega
  have wi := wrap_nat (n := i) (by omega)
  have hd := hR'.dir
  have hdl := refsR_len lv u (rows.map List.length)
  rw [List.length_map] at hdl
  have hg := fun v => refsR_get lv u (rows.map List.length) (i := i) (by rw [List.length_map]; exact hh) v
  rw [List.getElem_map] at hg
  have hrow := hR'.row i (Nat.le_refl _) hh
  rw [List.drop_eq_getElem_cons hh, List.map_cons, List.sum_cons] at hk' ⊢
  have hnext : ∀ os2 : List (Nat → Option Ob), os2.length = os'.length → (∀ x, x ≠ rid u i → obIn x lv os2 = obIn x lv os') → RowsIn lv u rows (i + 1) os2 := by
    intro os2 _ ho
    refine ⟨(ho u (Nat.ne_of_lt (rid_gt u i))).trans hd, fun j hj h hz => ?_⟩
    rw [ho _ (fun e => by have := rid_inj e; omega)]
    exact hR'.row j (by omega) h hz
  unfold markRows
  by_cases hz : rows[i] = []
  · have h0 : rows[i].length = 0 := by rw [hz]; rfl
    have hg' : ∀ v, (refsR lv u (rows.map List.length)).getD i v = .slc false 1 [] := fun v => by rw [hg v, h0]; rfl
    have cal := z42 k' (n0 :: os')
    have ihn := ih (i + 1, k', os') ⟨by dsimp only; omega, by dsimp only; omega, hnext os' rfl (fun _ _ => rfl), hL⟩ (by dsimp only; omega)
    dsimp only at ihn
    rw [h0, if_pos rfl, Nat.zero_add, Nat.add_zero]
    simp only [go_sem, k1, hne', hd, hdl, hh, hg', cal, wi]
    exact ihn
  · have h0 : ¬ rows[i].length = 0 := fun e => hz (List.eq_nil_of_length_eq_zero e)
    have hg' : ∀ v, (refsR lv u (rows.map List.length)).getD i v = .aref lv (rid u i) rows[i].length := fun v => by rw [hg v]; unfold rowR; rw [if_neg h0]
    have ho : obIn (rid u i) lv (n0 :: os') = some (.dir 1 (rows[i].map I)) := by
      show (if lv = os'.length then _ else _) = _
      rw [if_neg hne']; exact hrow hz
    have cal := r42 rows[i] lv (rid u i) k' (n0 :: os') ho (by omega)
    rw [setIn_cons, if_neg hne'] at cal
    have ihn := ih (i + 1, k' + rows[i].length, setIn (rid u i) (.dir 1 (marksI k' rows[i].length)) lv os') ⟨by dsimp only; omega, by dsimp only; omega, hnext _ (setIn_len ..) (fun x hx => by rw [obIn_set2 _ _ _ _ _ _ (by omega), if_neg fun h => hx h.2]), by dsimp only; rw [setIn_len]; exact hL⟩ (by dsimp only; omega)
    dsimp only at ihn
    rw [if_neg h0, ← Nat.add_assoc]
    simp only [go_sem, k1, hne', hd, hdl, hh, hg', cal, wi, setIn_len]
    exact ihn
theorem HeldR.get {lv u : Nat} {os : List (Nat → Option Ob)} {ns : List Nat} {i k : Nat} (h : HeldR lv u os ns i k) : ∀ j, (hj : j < ns.length) → ns[j] ≠ 0 → obIn (rid u (i + j)) lv os = some (.dir 1 (marksI (k + (ns.take j).sum) ns[j])) := by
  induction ns generalizing i k with
  | nil => intro j hj; simp at hj
  | cons n ns ih =>
    intro j hj hz
    cases j with
    | zero => exact h.1 hz
    | succ j =>
      have := ih h.2 j (by simpa using hj) hz
      have e2 : i + (j + 1) = i + 1 + j := by omega
      have e3 : k + (n + (ns.take j).sum) = k + n + (ns.take j).sum := by omega
      rw [List.take_succ_cons, List.sum_cons, e2, e3]
      exact this
theorem sum_take_succ {ns : List Nat} {i : Nat} (h : i < ns.length) : (ns.take (i + 1)).sum = (ns.take i).sum + ns[i] := by
  rw [List.take_succ_eq_append_getElem h, List.sum_append]
  simp
theorem sum_take_le (ns : List Nat) (i : Nat) : (ns.take i).sum ≤ ns.sum := by
  have : ns.sum = (ns.take i).sum + (ns.drop i).sum := by rw [← List.sum_append, List.take_append_drop]
  omega
theorem r62 (ns : List Nat) (lv u k : Nat) (os : List (Nat → Option Ob)) (hd : obIn u lv os = some (.dir 1 (refsR lv u ns))) (hH : HeldR lv u os ns 0 k) (hk : k + ns.sum ≤ 9223372036854775806) (hn : ns.length ≤ 9223372036854775806) : run EE 62 [.aref lv u ns.length, .int .i64 k] os = some (.int .i64 ((k + ns.sum : Nat) : Int), os) := by
  have hlt := obIn_len hd
  have hne : ¬ lv = os.length := by omega
  have hdl := refsR_len lv u ns
  rw [run_eq EE 62 _ _ Try.func62 (by decide +kernel) rfl (show 2 ≤ _ by decide)]
  dsimp only [Try.f62]
  simp only [go_sem, hne]
  refine iter_inv (fun i : Nat => i ≤ ns.length) (fun i => { t := upd (upd (upd e0 5 (.int .i64 i)) 1 (.int .i64 ((k + (ns.take i).sum : Nat) : Int))) 0 (.aref lv u ns.length), b := n0, o := os, r := #[ResultVar.tmp 4], f := 62, n := 21 }) (fun _ => some (V.int .i64 ((k + ns.sum : Nat) : Int), os)) (fun i => ns.length - i) ?_ 0 (Nat.zero_le _)
  intro i hi ih
  by_cases hh : i < ns.length
  rotate_left
  · have k1 : ¬ (i : Int) < ns.length := by omega
    rw [List.take_of_length_le (by omega)]
    simp only [go_sem, k1, hne]
  have k1 : (i : Int) < ns.length := by omega
  have wi := wrap_nat (n := i) (by omega)
  have hg := fun v => refsR_get lv u ns hh v
  have hs := sum_take_succ hh
  have hs2 := sum_take_le ns (i + 1)
  have ihn := ih (i + 1) (by omega) (by omega)
  rw [hs, ← Nat.add_assoc] at ihn
  have kn : ¬ ((k + (ns.take i).sum + ns[i] : Nat) : Int) < 0 := by omega
  by_cases hz : ns[i] = 0
  · have hg' : ∀ v, (refsR lv u ns).getD i v = .slc false 1 [] := fun v => by rw [hg v, hz]; rfl
    have cal := z93 (k + (ns.take i).sum) (n0 :: os)
    rw [hz, Nat.add_zero] at kn ihn
    simp only [go_sem, k1, hne, hd, hdl, hh, hg', cal, kn, wi]
    exact ihn
  · have hg' : ∀ v, (refsR lv u ns).getD i v = .aref lv (rid u i) ns[i] := fun v => by rw [hg v]; unfold rowR; rw [if_neg hz]
    have ho0 := hH.get i hh hz
    rw [Nat.zero_add] at ho0
    have ho : obIn (rid u i) lv (n0 :: os) = some (.dir 1 (marksI (k + (ns.take i).sum) ns[i])) := by
      show (if lv = os.length then _ else _) = _
      rw [if_neg hne]; exact ho0
    have cal := r93 ns[i] lv (rid u i) (k + (ns.take i).sum) (n0 :: os) ho (by omega)
    simp only [go_sem, k1, hne, hd, hdl, hh, hg', cal, kn, wi]
    exact ihn
/-- an automaton's two lists, by reference -/
def dfaR (lv u : Nat) (na nn : Nat) : V := .agg [rowR lv u na, rowR lv (u + 1) nn]
/-- both marked -/
def markDO (lv u na : Nat) (ns : List Nat) (k : Nat) (os : List (Nat → Option Ob)) : List (Nat → Option Ob) := markRows lv (u + 1) ns 0 (k + na) (if na = 0 then os else setIn u (.arr false 1 (marksB k na)) lv os)
structure DfaIn (lv u : Nat) (A : List Bool) (rows : List (List Int)) (os : List (Nat → Option Ob)) : Prop where
  acc : A ≠ [] → obIn u lv os = some (.arr false 1 (A.map B))
  rows : rows ≠ [] → RowsIn lv (u + 1) rows 0 os
  lt : lv < os.length
theorem cons_ob {x lv : Nat} {b : Nat → Option Ob} {os : List (Nat → Option Ob)} (h : lv < os.length) : obIn x lv (b :: os) = obIn x lv os := by
  show (if lv = os.length then _ else _) = _
  rw [if_neg (by omega)]
theorem markRows_cons (lv u : Nat) (b : Nat → Option Ob) : ∀ (ns : List Nat) (i k : Nat) (os : List (Nat → Option Ob)), lv < os.length → markRows lv u ns i k (b :: os) = b :: markRows lv u ns i k os := by
  intro ns
  induction ns with
  | nil => intro i k os _; rfl
  | cons n ns ih =>
    intro i k os hl
    unfold markRows
    split
    · exact ih _ _ _ hl
    · rw [setIn_cons, if_neg (by omega)]
      exact ih _ _ _ (by rw [setIn_len]; exact hl)
theorem r13 (A : List Bool) (rows : List (List Int)) (lv u k : Nat) (os : List (Nat → Option Ob)) (hD : DfaIn lv u A rows os) (hk : k + A.length + (rows.map List.length).sum ≤ 9223372036854775806) (hn : rows.length ≤ 9223372036854775806) : run EE 13 [dfaR lv u A.length rows.length, .int .i64 k] os = some (.int .i64 ((k + A.length + (rows.map List.length).sum : Nat) : Int), markDO lv u A.length (rows.map List.length) k os) := by
  have hne : ¬ lv = os.length := by have := hD.lt; omega
  have hlo : lv ≤ os.length := Nat.le_of_lt hD.lt
  -- the two calls
  have c1 : ∀ B0 : Nat → Option Ob, run EE 59 [rowR lv u A.length, .int .i64 k] (B0 :: os) = some (.int .i64 ((k + A.length : Nat) : Int), B0 :: (if A.length = 0 then os else setIn u (.arr false 1 (marksB k A.length)) lv os)) := by
    intro B0
    by_cases hz : A.length = 0
    · rw [hz]
      exact z59 k _
    · have hz' : A ≠ [] := fun e => hz (by rw [e]; rfl)
      unfold rowR
      rw [if_neg hz, if_neg hz]
      have := r59 A lv u k (B0 :: os) (by rw [cons_ob hD.lt]; exact hD.acc hz') (by omega)
      rw [setIn_cons, if_neg hne] at this
      exact this
  generalize hos1 : (if A.length = 0 then os else setIn u (.arr false 1 (marksB k A.length)) lv os) = os1 at c1
  have hl1 : os1.length = os.length := by rw [← hos1]; split; rfl; exact setIn_len ..
  have ho1 : ∀ x, x ≠ u → obIn x lv os1 = obIn x lv os := fun x hx => by
    rw [← hos1]
    split
    · rfl
    · rw [obIn_set2 _ _ _ _ _ _ hD.lt, if_neg fun h => hx h.2]
  have c2 : ∀ B0 : Nat → Option Ob, run EE 60 [rowR lv (u + 1) rows.length, .int .i64 ((k + A.length : Nat) : Int)] (B0 :: os1) = some (.int .i64 ((k + A.length + (rows.map List.length).sum : Nat) : Int), B0 :: markRows lv (u + 1) (rows.map List.length) 0 (k + A.length) os1) := by
    intro B0
    by_cases hz : rows = []
    · subst hz
      exact z60 (k + A.length) _
    · have hz' : ¬ rows.length = 0 := fun e => hz (List.eq_nil_of_length_eq_zero e)
      unfold rowR
      rw [if_neg hz']
      have hr := hD.rows hz
      have := r60 rows lv (u + 1) (k + A.length) (B0 :: os1) ⟨by rw [cons_ob (by omega), ho1 _ (by omega)]; exact hr.dir, fun j hj h hne => by
        rw [cons_ob (by omega), ho1 _ (fun e => by have := rid_gt (u + 1) j; omega)]; exact hr.row j hj h hne⟩ hk hn
      rw [markRows_cons _ _ _ _ _ _ _ (by omega)] at this
      exact this
  unfold markDO
  rw [hos1]
  have rr : ∀ n x, rowR lv x n = .slc false 1 [] ∨ rowR lv x n = .aref lv x n := fun n x => by
    unfold rowR
    split
    · exact .inl rfl
    · exact .inr rfl
  unfold dfaR
  rw [run_eq EE 13 _ _ Try.func13 (by decide +kernel) rfl (show 2 ≤ _ by decide)]
  dsimp only [Try.f13]
  rcases rr A.length u with ra | ra <;> rcases rr rows.length (u + 1) with rb | rb <;> rw [ra] at c1 ⊢ <;> rw [rb] at c2 ⊢ <;> simp only [go_sem, hlo, hl1, c1, c2]
theorem r14 (na : Nat) (ns : List Nat) (lv u k : Nat) (os : List (Nat → Option Ob)) (hlt : lv < os.length) (ha : na ≠ 0 → obIn u lv os = some (.arr false 1 (marksB k na))) (hd : ns ≠ [] → obIn (u + 1) lv os = some (.dir 1 (refsR lv (u + 1) ns))) (hH : HeldR lv (u + 1) os ns 0 (k + na)) (hk : k + na + ns.sum ≤ 9223372036854775806) (hn : ns.length ≤ 9223372036854775806) : run EE 14 [dfaR lv u na ns.length, .int .i64 k] os = some (.int .i64 ((k + na + ns.sum : Nat) : Int), os) := by
  have hlo : lv ≤ os.length := Nat.le_of_lt hlt
  have c1 : ∀ B0 : Nat → Option Ob, run EE 61 [rowR lv u na, .int .i64 k] (B0 :: os) = some (.int .i64 ((k + na : Nat) : Int), B0 :: os) := by
    intro B0
    by_cases hz : na = 0
    · rw [hz]
      exact z61 k _
    · unfold rowR
      rw [if_neg hz]
      exact r61 na lv u k (B0 :: os) (by rw [cons_ob hlt]; exact ha hz) (by omega)
  have c2 : ∀ B0 : Nat → Option Ob, run EE 62 [rowR lv (u + 1) ns.length, .int .i64 ((k + na : Nat) : Int)] (B0 :: os) = some (.int .i64 ((k + na + ns.sum : Nat) : Int), B0 :: os) := by
    intro B0
    by_cases hz : ns = []
    · subst hz
      exact z62 (k + na) _
    · have hz' : ¬ ns.length = 0 := fun e => hz (List.eq_nil_of_length_eq_zero e)
      unfold rowR
      rw [if_neg hz']
      exact r62 ns lv (u + 1) (k + na) (B0 :: os) (by rw [cons_ob hlt]; exact hd hz) (hH.congr fun j _ => cons_ob hlt) hk hn
  have rr : ∀ n x, rowR lv x n = .slc false 1 [] ∨ rowR lv x n = .aref lv x n := fun n x => by
    unfold rowR
    split
    · exact .inl rfl
    · exact .inr rfl
  have k1 : ¬ ((k + na : Nat) : Int) < 0 := by omega
  have k2 : ¬ ((k + na + ns.sum : Nat) : Int) < 0 := by omega
  unfold dfaR
  rw [run_eq EE 14 _ _ Try.func14 (by decide +kernel) rfl (show 2 ≤ _ by decide)]
  dsimp only [Try.f14]
  rcases rr na u with ra | ra <;> rcases rr ns.length (u + 1) with rb | rb <;> rw [ra] at c1 ⊢ <;> rw [rb] at c2 ⊢ <;> simp only [go_sem, hlo, c1, c2, k1, k2]
end Go.Ev
namespace Go.Ev
open Go Go.Proofs
set_option maxRecDepth 10000
set_option maxHeartbeats 4000000
set_option linter.unusedVariables false
set_option linter.unusedSimpArgs false

/-- the names of an automaton's objects -/
def mine (u y : Nat) : Prop := y = u ∨ y = u + 1 ∨ ∃ j, y = rid (u + 1) j
theorem mine_small {u y : Nat} (h : y < u) : ¬ mine u y := by
  rintro (e | e | ⟨j, e⟩)
  · omega
  · omega
  · have := rid_gt (u + 1) j; omega
theorem rid_ne {u v i j : Nat} (hu : u < KK) (hv : v < KK) (h : u ≠ v) : rid u i ≠ rid v j := by
  intro e
  unfold rid at e
  have e1 : (u + (i + 1) * KK) % KK = u := by rw [Nat.add_mul_mod_self_right, Nat.mod_eq_of_lt hu]
  have e2 : (v + (j + 1) * KK) % KK = v := by rw [Nat.add_mul_mod_self_right, Nat.mod_eq_of_lt hv]
  rw [e, e2] at e1
  exact h e1.symm
theorem rid_big (u i : Nat) : KK ≤ rid u i := by
  unfold rid
  have : 1 * KK ≤ (i + 1) * KK := Nat.mul_le_mul_right _ (by omega)
  omega
theorem kk_big : 1000000 < KK := by decide
theorem mine_ne {u v y : Nat} (hu : u < 900000) (hv : v < 900000) (h : u + 1 < v ∨ v + 1 < u) (k : mine u y) : ¬ mine v y := by
  have hk := kk_big
  rcases k with rfl | rfl | ⟨i, rfl⟩ <;> rintro (e | e | ⟨j, e⟩)
  · omega
  · omega
  · have := rid_big (v + 1) j; omega
  · omega
  · omega
  · have := rid_big (v + 1) j; omega
  · have := rid_big (u + 1) i; omega
  · have := rid_big (u + 1) i; omega
  · exact rid_ne (by omega) (by omega) (by omega) e
structure DfaM (b : Nat → Option Ob) (u : Nat) (A : List Bool) (rows : List (List Int)) : Prop where
  acc : A ≠ [] → b u = some (.arr false 1 (A.map B))
  dir : rows ≠ [] → b (u + 1) = some (.dir 1 (refsR 0 (u + 1) (rows.map List.length)))
  row : ∀ j, (h : j < rows.length) → rows[j] ≠ [] → b (rid (u + 1) j) = some (.dir 1 (rows[j].map I))
structure DfaK (b : Nat → Option Ob) (u na : Nat) (ns : List Nat) (k : Nat) : Prop where
  acc : na ≠ 0 → b u = some (.arr false 1 (marksB k na))
  dir : ns ≠ [] → b (u + 1) = some (.dir 1 (refsR 0 (u + 1) ns))
  held : HeldR 0 (u + 1) [b] ns 0 (k + na)
theorem ob1 (x : Nat) (b : Nat → Option Ob) : obIn x 0 [b] = b x := rfl
theorem DfaM.congr {b b' : Nat → Option Ob} {u : Nat} {A : List Bool} {rows : List (List Int)} (h : DfaM b u A rows) (e : ∀ y, mine u y → b' y = b y) : DfaM b' u A rows :=
  ⟨fun z => (e _ (.inl rfl)).trans (h.acc z), fun z => (e _ (.inr (.inl rfl))).trans (h.dir z), fun j hj z => (e _ (.inr (.inr ⟨j, rfl⟩))).trans (h.row j hj z)⟩
theorem DfaK.congr {b b' : Nat → Option Ob} {u na k : Nat} {ns : List Nat} (h : DfaK b u na ns k) (e : ∀ y, mine u y → b' y = b y) : DfaK b' u na ns k :=
  ⟨fun z => (e _ (.inl rfl)).trans (h.acc z), fun z => (e _ (.inr (.inl rfl))).trans (h.dir z), h.held.congr fun j _ => e _ (.inr (.inr ⟨j, rfl⟩))⟩
theorem made (b : Nat → Option Ob) (u : Nat) (A : List Bool) (rows : List (List Int)) (h : ∀ y, mine u y → b y = none) :
    ∃ b', (∀ t r f n, uMakes ⟨t, b, [], r, f, n⟩ u [.uq 1 (A.map B), .uq 1 (rows.map UR)] = some ([rowT 0 u A.length, rowT 0 (u + 1) rows.length], ⟨t, b', [], r, f, n⟩)) ∧ DfaM b' u A rows ∧ ∀ y, ¬ mine u y → b' y = b y := by
  have hne : ∀ j, rid (u + 1) j ≠ u + 1 ∧ rid (u + 1) j ≠ u := fun j => by have := rid_gt (u + 1) j; omega
  refine ⟨accO u A (nextO 0 (u + 1) rows b), fun t r f n => ?_, ⟨fun z => ?_, fun z => ?_, fun j hj z => ?_⟩, fun y hy => ?_⟩
  · exact uMakes_dfa ⟨t, b, [], r, f, n⟩ u A rows (h _ (.inl rfl)) (h _ (.inr (.inl rfl))) fun j => h _ (.inr (.inr ⟨j, rfl⟩))
  · unfold accO
    rw [if_neg z]
    show (if u = u then _ else _) = _
    rw [if_pos rfl]
  · have e1 : accO u A (nextO 0 (u + 1) rows b) (u + 1) = nextO 0 (u + 1) rows b (u + 1) := by
      unfold accO
      split
      · rfl
      · show (if u + 1 = u then _ else _) = _
        rw [if_neg (by omega)]
    rw [e1]
    unfold nextO
    rw [if_neg z]
    show (if u + 1 = u + 1 then _ else _) = _
    rw [if_pos rfl]
  · have e1 : accO u A (nextO 0 (u + 1) rows b) (rid (u + 1) j) = nextO 0 (u + 1) rows b (rid (u + 1) j) := by
      unfold accO
      split
      · rfl
      · show (if _ = u then _ else _) = _
        rw [if_neg (hne j).2]
    rw [e1]
    unfold nextO
    rw [if_neg (fun e => by subst e; exact absurd hj (Nat.not_lt_zero _))]
    show (if _ = u + 1 then _ else _) = _
    rw [if_neg (hne j).1]
    have := rowsB_get (u + 1) rows 0 b j hj z
    rw [Nat.zero_add] at this
    exact this
  · have e1 : accO u A (nextO 0 (u + 1) rows b) y = nextO 0 (u + 1) rows b y := by
      unfold accO
      split
      · rfl
      · show (if y = u then _ else _) = _
        rw [if_neg fun e => hy (.inl e)]
    rw [e1]
    unfold nextO
    split
    · rfl
    · show (if y = u + 1 then _ else _) = _
      rw [if_neg fun e => hy (.inr (.inl e))]
      exact rowsB_other _ _ _ _ fun j _ e => hy (.inr (.inr ⟨j, e⟩))
theorem peekL_rows {b : Nat → Option Ob} {u n : Nat} {s : St} (hb : s.b = b) (ho : s.o = []) : ∀ (rows : List (List Int)) (i : Nat), (∀ j, (h : j < rows.length) → rows[j] ≠ [] → b (rid u (i + j)) = some (.dir 1 (rows[j].map I))) → peekL (peekC s (n + 2)) (refsF 0 u (rows.map List.length) i) = some (rows.map IL) := by
  intro rows
  induction rows with
  | nil => intro i _; rfl
  | cons r rs ih =>
    intro i h
    have ih' := ih (i + 1) fun j hj z => by
      have := h (j + 1) (by simpa using hj) (by simpa using z)
      rw [show i + 1 + j = i + (j + 1) by omega]
      simpa using this
    have h0 := h 0 (by simp)
    rw [List.map_cons]
    unfold refsF peekL
    rw [ih']
    by_cases hz : r = []
    · subst hz
      rfl
    · have hl : ¬ r.length = 0 := fun e => hz (List.eq_nil_of_length_eq_zero e)
      have h0' := h0 hz
      have eI : peekL (peekC s (n + 1)) (r.map I) = some (r.map I) := by
        clear h0 h0' hl hz h
        induction r with
        | nil => rfl
        | cons a r ihr =>
          rw [List.map_cons]
          unfold peekL
          rw [ihr]
          rfl
      have e : peekC s (n + 2) (rowR 0 (rid u i) r.length) = some (IL r) := by
        unfold rowR
        rw [if_neg hl, peekC_aref]
        have : s.ob 0 (rid u i) = some (.dir 1 (r.map I)) := by
          unfold St.ob
          rw [ho, hb]
          exact h0'
        rw [this]
        dsimp only
        rw [if_pos (List.length_map _), eI]
        rfl
      have ef : (rowR 0 (rid u i) r.length).flat = [rowR 0 (rid u i) r.length] := by
        unfold rowR
        rw [if_neg hl]
        rfl
      rw [ef]
      unfold mapOpt
      rw [e]
      show (match some [IL r], some (rs.map IL) with | some cs, some l' => some ((rowR 0 (rid u i) r.length).refill cs :: l') | _, _ => none) = _
      unfold rowR
      rw [if_neg hl]
      rfl
theorem peeked {b : Nat → Option Ob} {u : Nat} {A : List Bool} {rows : List (List Int)} (h : DfaM b u A rows) (t r f n) :
    peekC ⟨t, b, [], r, f, n⟩ 9 (rowR 0 u A.length) = some (.slc false 1 (A.map B)) ∧ peekC ⟨t, b, [], r, f, n⟩ 9 (rowR 0 (u + 1) rows.length) = some (.slc false 1 (rows.map IL)) := by
  constructor
  · cases A with
    | nil => rfl
    | cons a A =>
      unfold rowR
      rw [if_neg (by simp), peekC_aref]
      have : St.ob ⟨t, b, [], r, f, n⟩ 0 u = some (.arr false 1 ((a :: A).map B)) := h.acc (by simp)
      rw [this]
      dsimp only
      rw [if_pos (List.length_map _)]
  · cases hr : rows with
    | nil => rfl
    | cons r0 rs =>
      rw [← hr]
      have hn : rows ≠ [] := by rw [hr]; simp
      have hl : ¬ rows.length = 0 := by rw [hr]; simp
      have e := peekL_rows (b := b) (u := u + 1) (n := 6) (s := ⟨t, b, [], r, f, n⟩) rfl rfl rows 0 (fun j hj z => by rw [Nat.zero_add]; exact h.row j hj z)
      rw [refsF_R] at e
      unfold rowR
      rw [if_neg hl, peekC_aref]
      have : St.ob ⟨t, b, [], r, f, n⟩ 0 (u + 1) = some (.dir 1 (refsR 0 (u + 1) (rows.map List.length))) := h.dir hn
      rw [this]
      dsimp only
      rw [if_pos (by rw [refsR_len, List.length_map]), e]
      rfl
theorem rowT_cell (lv id n : Nat) : cellOk (rowT lv id n) = true := by unfold rowT; split <;> rfl
theorem rowT_low (l id n : Nat) : lowV l (rowT 0 id n) = true := by
  unfold rowT
  split
  · rfl
  · exact decide_eq_true (Nat.zero_le l)
theorem rowR_cellD (lv id n : Nat) : cellD (rowR lv id n) = true := by unfold rowR; split <;> rfl
theorem rowR_view (lv id n : Nat) : (rowR lv id n).viewC = rowR lv id n := by unfold rowR; split <;> rfl
theorem T_cell (a b c d e f : Nat) : [rowT a b c, rowT d e f].all cellOk = true := by simp only [List.all_cons, List.all_nil, rowT_cell, Bool.and_true]
theorem T_low (l b c e f : Nat) : [rowT 0 b c, rowT 0 e f].all (lowV l) = true := by simp only [List.all_cons, List.all_nil, rowT_low, Bool.and_true]
theorem T_view (a b c d e f : Nat) : [rowT a b c, rowT d e f].map V.viewC = [rowR a b c, rowR d e f] := by simp only [List.map_cons, List.map_nil, rowT_view]
theorem R_view (a b c d e f : Nat) : [rowR a b c, rowR d e f].map V.viewC = [rowR a b c, rowR d e f] := by simp only [List.map_cons, List.map_nil, rowR_view]
theorem R_cellD (a b c d e f : Nat) : [rowR a b c, rowR d e f].all cellD = true := by simp only [List.all_cons, List.all_nil, rowR_cellD, Bool.and_true]
attribute [go_sem ↓ high] T_cell T_low T_view R_view R_cellD
theorem rowT_pos (lv id : Nat) {n : Nat} (h : n ≠ 0) : rowT lv id n = .aref lv id n := if_neg h
theorem rowR_pos (lv id : Nat) {n : Nat} (h : n ≠ 0) : rowR lv id n = .aref lv id n := if_neg h
theorem peekC_str (s : St) (n : Nat) (x : ByteArray) : peekC s n (.str x) = some (.str x) := by cases n <;> rfl
theorem peekC_bool (s : St) (n : Nat) (b : Bool) : peekC s n (.bool b) = some (.bool b) := by cases n <;> rfl
attribute [go_sem] peekC_str peekC_bool
theorem DfaM.in {b : Nat → Option Ob} {u : Nat} {A : List Bool} {rows : List (List Int)} (h : DfaM b u A rows) : DfaIn 0 u A rows [b] :=
  ⟨h.acc, fun z => ⟨h.dir z, fun j _ hj hz => h.row j hj hz⟩, Nat.zero_lt_one⟩
theorem marked {b : Nat → Option Ob} {u : Nat} {A : List Bool} {rows : List (List Int)} (h : DfaM b u A rows) (k : Nat) :
    ∃ b', markDO 0 u A.length (rows.map List.length) k [b] = [b'] ∧ DfaK b' u A.length (rows.map List.length) k ∧ ∀ y, ¬ mine u y → b' y = b y := by
  have hl : (markDO 0 u A.length (rows.map List.length) k [b]).length = 1 := by
    unfold markDO
    rw [markRows_len]
    split
    · rfl
    · rw [setIn_len]; rfl
  obtain ⟨b', hb'⟩ := List.length_eq_one_iff.1 hl
  have hl1 : ∀ c : Nat → Option Ob, 0 < (if A.length = 0 then [c] else setIn u (Ob.arr false 1 (marksB k A.length)) 0 [c]).length := fun c => by
    split
    · exact Nat.zero_lt_one
    · rw [setIn_len]; exact Nat.zero_lt_one
  refine ⟨b', hb', ⟨fun z => ?_, fun z => ?_, ?_⟩, fun y hy => ?_⟩
  · rw [← ob1 u b', ← hb']
    unfold markDO
    rw [markRows_other _ _ _ _ _ _ (hl1 b) (fun j _ _ e => by have := rid_gt (u + 1) j; omega), if_neg z, obIn_set2 _ _ _ _ _ _ Nat.zero_lt_one, if_pos ⟨rfl, rfl⟩]
  · rw [← ob1 (u + 1) b', ← hb']
    unfold markDO
    rw [markRows_other _ _ _ _ _ _ (hl1 b) (fun j _ _ e => by have := rid_gt (u + 1) j; omega)]
    have hr : rows ≠ [] := fun e => z (by rw [e]; rfl)
    rw [← h.dir hr, ← ob1 (u + 1) b]
    split
    · rfl
    · rw [obIn_set2 _ _ _ _ _ _ Nat.zero_lt_one, if_neg fun e => by have := e.2; omega]
  · rw [← hb']
    unfold markDO
    exact markRows_held _ _ _ _ _ _ (hl1 b)
  · rw [← ob1 y b', ← hb']
    unfold markDO
    rw [markRows_other _ _ _ _ _ _ (hl1 b) (fun j _ _ e => hy (.inr (.inr ⟨j, e⟩)))]
    rw [← ob1 y b]
    split
    · rfl
    · rw [obIn_set2 _ _ _ _ _ _ Nat.zero_lt_one, if_neg fun e => hy (.inl e.2)]
/-! what later memory is, from earlier -/
def NoM (b : Nat → Option Ob) (u : Nat) : Prop := ∀ y, mine u y → b y = none
def Only (u : Nat) (b b' : Nat → Option Ob) : Prop := ∀ y, ¬ mine u y → b' y = b y
theorem NoM.st {b : Nat → Option Ob} {u k : Nat} (h : NoM b u) (hk : k < u) (o : Option Ob) : NoM (upd b k o) u := fun y hy => by
  show (if y = k then _ else _) = _
  rw [if_neg (fun e : y = k => mine_small hk (e ▸ hy))]
  exact h y hy
theorem NoM.only {b b' : Nat → Option Ob} {u v : Nat} (h : NoM b u) (o : Only v b b') (hu : u < 900000) (hv : v < 900000) (d : u + 1 < v ∨ v + 1 < u) : NoM b' u := fun y hy => (o y (mine_ne hu hv d hy)).trans (h y hy)
theorem NoM.n0 (u : Nat) : NoM n0 u := fun _ _ => rfl
theorem DfaM.st {b : Nat → Option Ob} {u k : Nat} {A : List Bool} {rows : List (List Int)} (h : DfaM b u A rows) (hk : k < u) (o : Option Ob) : DfaM (upd b k o) u A rows := h.congr fun y hy => if_neg (fun e : y = k => mine_small hk (e ▸ hy))
theorem DfaM.only {b b' : Nat → Option Ob} {u v : Nat} {A : List Bool} {rows : List (List Int)} (h : DfaM b u A rows) (o : Only v b b') (hu : u < 900000) (hv : v < 900000) (d : u + 1 < v ∨ v + 1 < u) : DfaM b' u A rows := h.congr fun y hy => o y (mine_ne hu hv d hy)
theorem DfaK.st {b : Nat → Option Ob} {u k na j : Nat} {ns : List Nat} (h : DfaK b u na ns j) (hk : k < u) (o : Option Ob) : DfaK (upd b k o) u na ns j := h.congr fun y hy => if_neg (fun e : y = k => mine_small hk (e ▸ hy))
theorem DfaK.only {b b' : Nat → Option Ob} {u v na j : Nat} {ns : List Nat} (h : DfaK b u na ns j) (o : Only v b b') (hu : u < 900000) (hv : v < 900000) (d : u + 1 < v ∨ v + 1 < u) : DfaK b' u na ns j := h.congr fun y hy => o y (mine_ne hu hv d hy)
theorem Only.lo {b b' : Nat → Option Ob} {u k : Nat} (o : Only u b b') (hk : k < u) {x : Option Ob} (h : b k = x) : b' k = x := (o k (mine_small hk)).trans h
theorem upd_lo {b : Nat → Option Ob} {j k : Nat} (hk : k ≠ j) (o : Option Ob) {x : Option Ob} (h : b k = x) : upd b j o k = x := (if_neg hk).trans h
theorem upd_at (b : Nat → Option Ob) (j : Nat) (o : Option Ob) : upd b j o j = o := if_pos rfl
/-- cells that become an automaton in memory -/
def MakesTo (vs : List V) (A : List Bool) (rows : List (List Int)) : Prop :=
  ∀ (b : Nat → Option Ob) (u : Nat), NoM b u → ∃ b', (∀ t r f n, uMakes ⟨t, b, [], r, f, n⟩ u vs = some ([rowT 0 u A.length, rowT 0 (u + 1) rows.length], ⟨t, b', [], r, f, n⟩)) ∧ DfaM b' u A rows ∧ Only u b b'
theorem makes_uq (A : List Bool) (rows : List (List Int)) : MakesTo [.uq 1 (A.map B), .uq 1 (rows.map UR)] A rows := fun b u h => made b u A rows h
theorem makes_no (b : Nat → Option Ob) (u : Nat) (_ : NoM b u) : ∃ b', (∀ t r f n, uMakes ⟨t, b, [], r, f, n⟩ u [.slc false 1 [], .slc false 1 []] = some ([.slc false 1 [], .slc false 1 []], ⟨t, b', [], r, f, n⟩)) ∧ DfaM b' u [] [] ∧ Only u b b' := ⟨b, fun t r f n => rfl, ⟨fun z => absurd rfl z, fun z => absurd rfl z, fun j hj => absurd hj (Nat.not_lt_zero _)⟩, fun _ _ => rfl⟩
theorem markRun {b : Nat → Option Ob} {u : Nat} {A : List Bool} {rows : List (List Int)} (h : DfaM b u A rows) (k : Nat) (hk : k + A.length + (rows.map List.length).sum ≤ 9223372036854775806) (hn : rows.length ≤ 9223372036854775806) :
    ∃ b', run EE 13 [.agg [rowR 0 u A.length, rowR 0 (u + 1) rows.length], .int .i64 k] [b] = some (.int .i64 ((k + A.length + (rows.map List.length).sum : Nat) : Int), [b']) ∧ DfaK b' u A.length (rows.map List.length) k ∧ Only u b b' := by
  obtain ⟨b', e, hK, ho⟩ := marked h k
  refine ⟨b', ?_, hK, ho⟩
  rw [← e]
  exact r13 A rows 0 u k [b] h.in hk hn
theorem heldRun {b : Nat → Option Ob} {u na k : Nat} {ns : List Nat} (h : DfaK b u na ns k) (hk : k + na + ns.sum ≤ 9223372036854775806) (hn : ns.length ≤ 9223372036854775806) :
    run EE 14 [.agg [rowR 0 u na, rowR 0 (u + 1) ns.length], .int .i64 k] [b] = some (.int .i64 ((k + na + ns.sum : Nat) : Int), [b]) :=
  r14 na ns 0 u k [b] Nat.zero_lt_one h.acc h.dir h.held hk hn
theorem emp {α : Type} (A : List α) : (A = [] ∧ ((([] : List α).length = 0) = True)) ∨ (A ≠ [] ∧ ((A.length = 0) = False)) := by
  cases A with
  | nil => exact .inl ⟨rfl, eq_true rfl⟩
  | cons a A => exact .inr ⟨by simp, eq_false (by simp)⟩
theorem szL_bools (l : List Bool) : szL (l.map B) = 0 := by
  induction l with
  | nil => rfl
  | cons a l ih => rw [List.map_cons, szL, ih]; rfl
theorem szL_rows3 (l : List (Nat × Nat × Nat)) : szL ((l.map fun t => [(t.1 : Int), t.2.1, t.2.2]).map IL) = 3 * l.length := by
  induction l with
  | nil => rfl
  | cons a l ih =>
    rw [List.map_cons, List.map_cons, szL, ih, List.length_cons]
    simp only [IL, szT, szL, List.map_cons, List.map_nil, List.length_cons, List.length_nil, I]
    omega
theorem dfa_sz {d : DN} (h : d.ok) : szT d.dfa.enc = 5 * d.accept.length := by
  simp only [DN.dfa, Dfa.enc, szT, szL, szL_bools, szL_rows3, List.length_map]
  have := h.1
  omega
theorem sum3 (l : List (Nat × Nat × Nat)) : ((l.map fun t => [(t.1 : Int), t.2.1, t.2.2]).map List.length).sum = 3 * l.length := by
  induction l with
  | nil => rfl
  | cons a l ih =>
    rw [List.map_cons, List.map_cons, List.sum_cons, ih, List.length_cons]
    simp only [List.length_cons, List.length_nil]
    omega
theorem szL_sum (l : List (List Int)) : szL (l.map IL) = (l.map List.length).sum := by
  induction l with
  | nil => rfl
  | cons a l ih =>
    rw [List.map_cons, szL, ih, List.map_cons, List.sum_cons]
    have : ∀ k : List Int, szL (k.map I) = 0 := by
      intro k
      induction k with
      | nil => rfl
      | cons b k ihk => rw [List.map_cons, szL, ihk]; rfl
    simp only [IL, szT, this, List.length_map]
    omega
theorem free_UR (l : List (List Int)) : (l.map UR).all V.free = true := by
  rw [List.all_eq_true]
  intro v hv
  obtain ⟨b, _, rfl⟩ := List.mem_map.1 hv
  unfold UR
  rw [free_uq, List.all_eq_true]
  intro w hw
  obtain ⟨c, _, rfl⟩ := List.mem_map.1 hw
  simp [I, V.free]
attribute [go_sem] free_UR
/-- the two ways in which an automaton is returned -/
def TwoWays (ya yn : V) (A : List Bool) (L : List (List Int)) : Prop :=
  (ya = .uq 1 (A.map B) ∧ yn = .uq 1 (L.map UR) ∧ A ≠ [] ∧ L ≠ []) ∨ (ya = .slc false 1 [] ∧ yn = .slc false 1 [] ∧ A = [] ∧ L = [])
theorem twoWays_dn (d : DN) (h : d.ok) (hp : 0 < d.accept.length) : ∃ ya yn, d.encD = .agg [ya, yn] ∧ TwoWays ya yn d.dfa.accept d.dfa.next := by
  refine ⟨.uq 1 (d.accept.map B), .uq 1 (d.dfa.next.map UR), ?_, .inl ⟨rfl, rfl, ?_, ?_⟩⟩
  · unfold DN.encD DN.dfa
    rw [List.map_map]
    rfl
  · intro e
    have : d.accept = [] := e
    rw [this] at hp
    exact absurd hp (Nat.lt_irrefl _)
  · intro e
    have h1 := h.1
    have : d.dfa.next.length = 0 := by rw [e]; rfl
    simp only [DN.dfa, List.length_map] at this
    omega
theorem flat_bool (b : Bool) : (V.bool b).flatOk = true := rfl
theorem flat_int (k : IntKind) (n : Int) : (V.int k n).flatOk = true := rfl
theorem flat_str (x : ByteArray) : (V.str x).flatOk = true := rfl
attribute [go_sem] flat_bool flat_int flat_str
theorem markBoth {b : Nat → Option Ob} {u : Nat} {A : List Bool} {rows : List (List Int)} (h : DfaM b u A rows) (k : Nat) (hk : k + A.length + (rows.map List.length).sum ≤ 9223372036854775806) (hn : rows.length ≤ 9223372036854775806) :
    ∃ b', ∃ n : Nat, run EE 13 [.agg [rowR 0 u A.length, rowR 0 (u + 1) rows.length], .int .i64 k] [b] = some (.int .i64 n, [b']) ∧
      (∀ b2, DfaK b2 u A.length (rows.map List.length) k → run EE 14 [.agg [rowR 0 u A.length, rowR 0 (u + 1) rows.length], .int .i64 k] [b2] = some (.int .i64 n, [b2])) ∧ DfaK b' u A.length (rows.map List.length) k ∧ Only u b b' := by
  obtain ⟨b', e, hK, ho⟩ := markRun h k hk hn
  refine ⟨b', _, e, fun b2 h2 => ?_, hK, ho⟩
  have := heldRun h2 hk (by rw [List.length_map]; exact hn)
  rw [List.length_map] at this
  exact this
end Go.Ev
namespace Go.Ev
open Go Go.Proofs
set_option maxRecDepth 10000
set_option maxHeartbeats 4000000
set_option linter.unusedVariables false
set_option linter.unusedSimpArgs false

theorem ways_dn {Q : DN} (hq : Val Q) : ∃ ya yn A L, Q.encD = .agg [ya, yn] ∧ TwoWays ya yn A L ∧ szT (Dfa.mk A L).enc ≤ 1048576 ∧ 1 + A.length + (L.map List.length).sum ≤ 1048577 ∧ L.length ≤ 1048576 := by
  obtain ⟨ya, yn, e, h⟩ := twoWays_dn Q hq.ok hq.pos
  have e1 := dfa_sz hq.ok
  have e2 := hq.le
  refine ⟨ya, yn, Q.dfa.accept, Q.dfa.next, e, h, ?_, ?_, ?_⟩
  · show szT Q.dfa.enc ≤ _
    omega
  · have : (Q.dfa.next.map List.length).sum = 3 * Q.next.length := sum3 _
    rw [this, hq.ok.1]
    show 1 + Q.accept.length + _ ≤ _
    omega
  · show (Q.next.map _).length ≤ _
    rw [List.length_map, hq.ok.1]
    omega
theorem enc_mk (A : List Bool) (L : List (List Int)) : (Dfa.mk A L).enc = .agg [.slc false 1 (A.map B), .slc false 1 (L.map IL)] := rfl
end Go.Ev
namespace Go.Ev
open Go Go.Proofs
set_option maxRecDepth 10000
set_option linter.unusedVariables false
set_option linter.unusedSimpArgs false
theorem szL_B (l : List Bool) : szL (l.map B) = 0 := by
  induction l with
  | nil => rfl
  | cons a l ih => rw [List.map_cons, szL, ih]; rfl

theorem r44 (l : List Bool) (hl : l.length ≤ 9223372036854775807) (left : Int) (h0 : 0 ≤ left) (h1 : left ≤ 1048576) : run EE 44 [.slc false 1 (l.map B), .int .i64 left] [] = some (.int .i64 (szR (.slc false 1 (l.map B)) left), []) := by
  rw [run_eq EE 44 _ _ Try.func44 (by decide +kernel) rfl (show 2 ≤ _ by decide)]
  dsimp only [Try.f44]
  have w := wrap_in (n := left - (l.length : Int)) (by omega) (by omega)
  simp only [go_sem, w, szR, szT, szL_B]
  refine condL_dec (fun c1 => ?_) (fun c1 => ?_)
  · simp only [go_sem]
    rw [leftOf_neg (by omega)]
  · simp only [go_sem]
    rw [leftOf_pos (by omega)]
    rfl

theorem r69 (l : List Int) (hl : l.length ≤ 9223372036854775807) (left : Int) (h0 : 0 ≤ left) (h1 : left ≤ 1048576) : run EE 69 [.slc false 1 (l.map I), .int .i64 left] [] = some (.int .i64 (szR (.slc false 1 (l.map I)) left), []) := by
  rw [run_eq EE 69 _ _ Try.func69 (by decide +kernel) rfl (show 2 ≤ _ by decide)]
  dsimp only [Try.f69]
  have w := wrap_in (n := left - (l.length : Int)) (by omega) (by omega)
  simp only [go_sem, w, szR, szT, szL_I]
  refine condL_dec (fun c1 => ?_) (fun c1 => ?_)
  · simp only [go_sem]
    rw [leftOf_neg (by omega)]
  · simp only [go_sem]
    rw [leftOf_pos (by omega)]
    rfl

theorem r45 (l : List (List Int)) (hl : l.length ≤ 9223372036854775807) (hc : ∀ x ∈ l, ∀ left : Int, 0 ≤ left → left ≤ 1048576 → run EE 69 [(IL x), .int .i64 left] [] = some (.int .i64 (szR (IL x) left), [])) (left : Int) (h0 : 0 ≤ left) (h1 : left ≤ 1048576) : run EE 45 [.slc false 1 (l.map IL), .int .i64 left] [] = some (.int .i64 (szR (.slc false 1 (l.map IL)) left), []) := by
  rw [run_eq EE 45 _ _ Try.func45 (by decide +kernel) rfl (show 2 ≤ _ by decide)]
  dsimp only [Try.f45]
  have w := wrap_in (n := left - (l.length : Int)) (by omega) (by omega)
  simp only [go_sem, w]
  have e : szR (.slc false 1 (l.map IL)) left = leftOf (l.length + szL (l.map IL)) left := by simp only [szR, szT, List.length_map]
  rw [e]
  refine condL_dec (fun c => ?_) (fun c => ?_)
  · simp only [go_sem]
    rw [leftOf_neg (by omega)]
  simp only [go_sem]
  refine (iter_inv (fun x : Nat × Int => x.1 ≤ l.length ∧ 0 ≤ x.2 ∧ x.2 ≤ 1048576) (fun x => { t := upd (upd (upd (e0) 5 (.int .i64 x.1)) 1 (.int .i64 x.2)) 0 (.slc false 1 (l.map IL)), b := n0, o := [], r := #[ResultVar.tmp 4], f := 45, n := 27 }) (fun x => some (.int .i64 (szRL ((l.drop x.1).map IL) x.2), [])) (fun x => l.length - x.1) ?_ (0, left - (l.length : Int)) ⟨Nat.zero_le _, by show 0 ≤ left - (l.length : Int); omega, by show left - (l.length : Int) ≤ 1048576; omega⟩).trans ?_
  · rintro ⟨i, left⟩ ⟨hi, a0, a1⟩ ih
    dsimp only at hi a0 a1 ⊢
    by_cases h : i < l.length
    · have k1 : (i : Int) < l.length := by omega
      have w := wrap_nat (n := i) (by omega)
      have hx := hc l[i] (List.getElem_mem h) left a0 a1
      rw [List.drop_eq_getElem_cons h, List.map_cons, szRL_cons]
      have hle : szR (IL l[i]) left ≤ left ∨ szR (IL l[i]) left = -1 := by unfold szR leftOf; split <;> omega
      generalize szR (IL l[i]) left = r at hx hle ⊢
      simp only [Rx.enc_eq, Vals.enc, Mor.enc, Sta.enc, Con.enc, Line.enc, Ans.enc, Prob.enc, Prog.enc, Ses.enc, Equ.enc, Mon.enc, Frm.enc, Mov.enc, Stp.enc, Dfa.enc, IL, I, B] at hx
      simp only [go_sem, k1, w, getD_map h, hx]
      refine condL_dec (fun c => ?_) (fun c => ?_)
      · simp only [go_sem]
        rw [if_pos c]
      · simp only [go_sem, w]
        rw [if_neg c]
        exact ih (i + 1, r) ⟨by show i + 1 ≤ l.length; omega, by show 0 ≤ r; omega, by show r ≤ 1048576; omega⟩ (by show l.length - (i + 1) < l.length - i; omega)
    · have k1 : ¬ (i : Int) < l.length := by omega
      simp only [go_sem, k1]
      rw [List.drop_eq_nil_of_le (by omega)]
      show _ = some (V.int .i64 (leftOf 0 left), [])
      rw [leftOf_pos (by omega)]
      simp
  · show some (V.int .i64 (leftOf (szL (l.map IL)) (left - (l.length : Int))), []) = _
    by_cases h : (szL (l.map IL) : Int) ≤ left - l.length
    · rw [leftOf_pos h, leftOf_pos (by omega)]
      refine congrArg some (congrArg (·, []) (congrArg (V.int .i64) ?_))
      omega
    · rw [leftOf_neg h, leftOf_neg (by omega)]

theorem r8 (x : Dfa) (ho : okV x.enc) (left : Int) (h0 : 0 ≤ left) (h1 : left ≤ 1048576) : run EE 8 [x.enc, .int .i64 left] [] = some (.int .i64 (szR x.enc left), []) := by
  have ho' := ho
  simp only [Rx.enc_eq, Vals.enc, Mor.enc, Sta.enc, Con.enc, Line.enc, Ans.enc, Prob.enc, Prog.enc, Ses.enc, Equ.enc, Mon.enc, Frm.enc, Mov.enc, Stp.enc, Dfa.enc, IL, I, B, okV, okL, and_true, true_and, List.length_map] at ho'
  rw [run_eq EE 8 _ _ Try.func8 (by decide +kernel) rfl (show 2 ≤ _ by decide)]
  dsimp only [Try.f8]
  have e : szR x.enc left = leftOf (szT x.enc) left := rfl
  rw [e]
  simp only [Rx.enc_eq, Vals.enc, Mor.enc, Sta.enc, Con.enc, Line.enc, Ans.enc, Prob.enc, Prog.enc, Ses.enc, Equ.enc, Mon.enc, Frm.enc, Mov.enc, Stp.enc, Dfa.enc, IL, I, B, szT, szL, List.length_map]
  have w1 := r44 x.accept (by simp only [Rx.enc_eq, Vals.enc, Mor.enc, Sta.enc, Con.enc, Line.enc, Ans.enc, Prob.enc, Prog.enc, Ses.enc, Equ.enc, Mon.enc, Frm.enc, Mov.enc, Stp.enc, Dfa.enc, IL, I, B, okV, okL, and_true, true_and, List.length_map] at ho; omega) (left) (by omega) (by omega)
  unfold szR at w1
  generalize hn1 : szT (.slc false 1 (x.accept.map B)) = n1 at w1
  simp only [Rx.enc_eq, Vals.enc, Mor.enc, Sta.enc, Con.enc, Line.enc, Ans.enc, Prob.enc, Prog.enc, Ses.enc, Equ.enc, Mon.enc, Frm.enc, Mov.enc, Stp.enc, Dfa.enc, IL, I, B, szT, szL, List.length_map] at w1 hn1
  simp only [go_sem, w1]
  refine condL_dec (fun c1 => ?_) (fun c1 => ?_)
  · have := leftOf_lt (by omega) c1
    simp only [go_sem]
    rw [leftOf_neg (by omega)]
  obtain ⟨e1, b1⟩ := leftOf_ge c1
  have w2 := r45 x.next (by simp only [Rx.enc_eq, Vals.enc, Mor.enc, Sta.enc, Con.enc, Line.enc, Ans.enc, Prob.enc, Prog.enc, Ses.enc, Equ.enc, Mon.enc, Frm.enc, Mov.enc, Stp.enc, Dfa.enc, IL, I, B, okV, okL, and_true, true_and, List.length_map] at ho; omega) (fun z hz left a b => r69 z (by have := okL_map (f := IL) (by simp only [Rx.enc_eq, Vals.enc, Mor.enc, Sta.enc, Con.enc, Line.enc, Ans.enc, Prob.enc, Prog.enc, Ses.enc, Equ.enc, Mon.enc, Frm.enc, Mov.enc, Stp.enc, Dfa.enc, okV, okL, and_true, true_and, List.length_map] at ho; simp only [ho]) hz; simp only [IL, okV, List.length_map] at this; exact this.1) left a b) (left - (n1 : Int)) (by omega) (by omega)
  unfold szR at w2
  generalize hn2 : szT (.slc false 1 (x.next.map IL)) = n2 at w2
  simp only [Rx.enc_eq, Vals.enc, Mor.enc, Sta.enc, Con.enc, Line.enc, Ans.enc, Prob.enc, Prog.enc, Ses.enc, Equ.enc, Mon.enc, Frm.enc, Mov.enc, Stp.enc, Dfa.enc, IL, I, B, szT, szL, List.length_map] at w2 hn2
  simp only [go_sem, w2, e1]
  refine condL_dec (fun c2 => ?_) (fun c2 => ?_)
  · have := leftOf_lt (by omega) c2
    simp only [go_sem, e1]
    rw [leftOf_neg (by omega)]
  obtain ⟨e2, b2⟩ := leftOf_ge c2
  simp only [go_sem, e1, e2]
  rw [leftOf_pos (by omega)]
  refine congrArg some (congrArg (·, []) (congrArg (V.int .i64) ?_))
  omega
end Go.Ev
