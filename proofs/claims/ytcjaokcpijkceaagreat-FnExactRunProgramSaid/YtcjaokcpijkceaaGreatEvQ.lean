/- Searches of pairs of states. Searches of states with sets. Products: the program's; what fits. Products, the reference's. Complements, both. Words: strings of letters of at most thirty. Automata of words, both. Sets of states: the program's moves. -/
import Derived.Test.YtcjaokcpijkceaaGreatEvP
import Derived.Test.YtcjaokcpijkceaaGreatEvL
set_option linter.unusedVariables false
set_option linter.unusedSimpArgs false
namespace Go.Ev
open Go Go.Proofs
set_option maxRecDepth 10000
set_option maxHeartbeats 4000000
set_option linter.unusedVariables false
set_option linter.unusedSimpArgs false

def encP (p : Nat × Nat) : V := .agg [IN p.1, IN p.2]
theorem eqP (a b : Nat × Nat) : eqV Tryz.prog 178 (encP a) (encP b) = some (decide (a = b)) := by
  show eqV Tryz.prog 178 (.agg [.int .i64 (a.1 : Int), .int .i64 (a.2 : Int)]) (.agg [.int .i64 (b.1 : Int), .int .i64 (b.2 : Int)]) = _
  rw [ev178]
  obtain ⟨a1, a2⟩ := a
  obtain ⟨b1, b2⟩ := b
  simp only [nat_beq, Prod.mk.injEq, Bool.and_true, Option.some.injEq]
  rw [Bool.eq_iff_iff]
  simp
theorem r125 (succ : Nat × Nat → (Nat × Nat) × (Nat × Nat) × (Nat × Nat)) (acc : Nat × Nat → Bool) (most : Nat) (s : Nat × Nat) (Q : Nat × Nat → Prop) (hm1 : 1 ≤ most) (hm : most ≤ 1048576) (hs : Q s) (hQ : ∀ x, Q x → Q (succ x).1 ∧ Q (succ x).2.1 ∧ Q (succ x).2.2)
    (fa fn : Nat) (ca cn : List V) (os : List (Nat → Option Ob)) (ho : os.length ≠ 0) (hca : ∀ (st : St) (objs : List Nat), st.o = os → ca.all (heldP st objs) = true) (hcn : ∀ (st : St) (objs : List Nat), st.o = os → cn.all (heldP st objs) = true) (hae : ca.isEmpty = false) (hne : cn.isEmpty = false)
    (hacc : ∀ x, Q x → ∀ b0, run EE fa (encP x :: ca) (b0 :: os) = some (.bool (acc x), b0 :: os))
    (hnext : ∀ x, Q x → ∀ (i : Nat) (hi : i < 3), ∀ b0, run EE fn (encP x :: .int .i64 i :: cn) (b0 :: os) = some (encP ((l3A (succ x))[i]'(by rw [l3A_len]; exact hi)), b0 :: os))
    (hua : (EE.H fa).uniq = []) (hun : (EE.H fn).uniq = []) :
    run EE 125 [encP s, .int .i64 most, .fn fa ca, .fn fn cn] os = some (if (expL succ most s).length ≤ most then .tup [(expD succ acc (expL succ most s)).enc, .slc false 2 ((expL succ most s).map encP), .bool true] else .tup [.agg [.slc false 1 [], .slc false 1 []], .slc false 2 [], .bool false], os) := by
  have fN := fun x l => findE_mapN (P := Tryz.prog) (kt := 178) (enc := encP) eqP x l 0
  have pN := fun x l (h : x ∉ l) => putE_mapN (P := Tryz.prog) (kt := 178) (enc := encP) eqP (x := x) l 0 h
  simp only [Nat.zero_add, encP, IN] at fN pN hacc hnext
  generalize hRES : (some ((if (expL succ most s).length ≤ most then V.tup [(expD succ acc (expL succ most s)).enc, .slc false 2 ((expL succ most s).map encP), .bool true] else V.tup [.agg [.slc false 1 [], .slc false 1 []], .slc false 2 [], .bool false]), os) : Option (V × List (Nat → Option Ob))) = RES
  have hlv : ∀ objs, (os.length != os.length || memN 3 objs) = memN 3 objs := by intro objs; simp
  simp only [encP, IN]
  rw [run_eq EE 125 _ _ Tryz.func125 (by decide +kernel) rfl (show 4 ≤ _ by decide)]
  dsimp only [Tryz.f125]
  simp only [go_sem, hca, hcn]
  generalize hL : expL succ most s = L at hRES
  refine iter_inv (fun p : Nat × List (Nat × Nat) => p.1 ≤ p.2.length ∧ p.2.length ≤ most ∧ (∀ x ∈ p.2, Q x) ∧ bfsL succ (most + 1 - p.1) p.2 p.1 = L) (fun p => { t := upd (upd (upd (upd (upd (upd (upd (upd e0 14 (.int .i64 p.1)) 13 (.ptr os.length 13 0)) 12 (.mp os.length 22)) 11 (.slc true 2 (p.2.map encP))) 8 (.ptr os.length 8 0)) 3 (.fn fn cn)) 2 (.fn fa ca)) 1 (.int .i64 most), b := upd (upd (upd (upd n0 22 (some (Ob.map (mapN encP 0 p.2)))) 13 (some (Ob.box [.slc true 1 ((L.take p.1).map (accB acc)), .slc true 1 ((L.take p.1).map (rowB succ L))]))) 8 (some (Ob.box [.slc true 1 [], .slc true 1 []]))) 4 (some (Ob.box [.int .i64 s.1, .int .i64 s.2])), o := os, r := #[ResultVar.cell 8 39, ResultVar.tmp 9, ResultVar.tmp 10], f := 125, n := 89 }) (fun _ => RES) (fun p => most + 1 - p.1) ?_ (0, [s]) ⟨Nat.zero_le _, hm1, by simpa using hs, hL⟩
  rintro ⟨i, l⟩ ⟨hi, hlm, hQl, hb⟩ ih
  dsimp only at hi hlm hQl hb ⊢
  by_cases h : i < l.length
  rotate_left
  · have k1 : ¬ (i : Int) < l.length := by omega
    rw [bfs_done h] at hb
    subst hb
    rw [if_pos hlm] at hRES
    subst hRES
    rw [List.take_of_length_le (by omega)]
    rw [accB_map, rowB_map]
    simp only [go_sem, k1, expD, encP, hca, hcn]
  have k1 : (i : Int) < l.length := by omega
  have wi := wrap_nat (n := i) (by omega)
  have hQx := hQl _ (List.getElem_mem h)
  have hgl : ∀ v : V, (l.map encP).getD i v = encP l[i] := fun v => getD_map h v
  have e1 : most + 1 - i = (most + 1 - (i + 1)) + 1 := by omega
  rw [e1, bfs_step h] at hb
  have hLx : L.take (i + 1) = L.take i ++ [l[i]] := by
    have hp : l <+: L := by rw [← hb]; exact (ins3_pre _ _).trans (bfs_pre _ _ _ _)
    rw [take_pre hp h]
    congr 1
    obtain ⟨m, rfl⟩ := hp
    rw [List.take_append_of_le_length (by omega)]
  have htk : (L.take i).length = i := by
    have hp : l <+: L := by rw [← hb]; exact (ins3_pre _ _).trans (bfs_pre _ _ _ _)
    have := hp.length_le
    rw [List.length_take]; omega
  have hpL : ins3 l (succ l[i]) <+: L := by rw [← hb]; exact bfs_pre _ _ _ _
  have hQt := hQ _ hQx
  have ihn := fun (hlen : (ins3 l (succ l[i])).length ≤ most) => ih (i + 1, ins3 l (succ l[i])) ⟨Nat.le_trans h (ins3_pre _ _).length_le, hlen, fun x hx => by
    rcases mem_ins3.1 hx with hx | rfl | rfl | rfl
    · exact hQl x hx
    · exact hQt.1
    · exact hQt.2.1
    · exact hQt.2.2, hb⟩ (by show most + 1 - (i + 1) < most + 1 - i; omega)
  dsimp only at ihn
  clear ih
  rw [hLx, List.map_append, List.map_append, List.map_cons, List.map_nil, List.map_cons, List.map_nil] at ihn
  have eab : accB acc l[i] = .bool (acc l[i]) := rfl
  have erb : rowB succ L l[i] = .slc false 1 [IN (ixD L (succ l[i]).1), IN (ixD L (succ l[i]).2.1), IN (ixD L (succ l[i]).2.2)] := rfl
  rw [eab, erb] at ihn
  clear eab erb
  have hax := hacc l[i] hQx
  have hnx := hnext l[i] hQx
  generalize l[i] = x at *
  simp only [encP, IN] at hgl
  generalize succ x = tt at *
  simp only [go_sem, k1, hca, hcn]
  refine iter_inv (fun j : Nat => j ≤ 3 ∧ (((l3A tt).take j).foldl ins l).length ≤ most) (fun j => { t := upd (upd (upd (upd (upd (upd (upd (upd (upd (upd e0 33 (.int .i64 j)) 15 (.slc true 1 (((l3A tt).take j).map (ixB L)))) 14 (.int .i64 i)) 13 (.ptr os.length 13 0)) 12 (.mp os.length 22)) 11 (.slc true 2 ((((l3A tt).take j).foldl ins l).map encP))) 8 (.ptr os.length 8 0)) 3 (.fn fn cn)) 2 (.fn fa ca)) 1 (.int .i64 most), b := upd (upd (upd (upd n0 22 (some (Ob.map (mapN encP 0 (((l3A tt).take j).foldl ins l))))) 13 (some (Ob.box [.slc true 1 ((L.take i).map (accB acc)), .slc true 1 ((L.take i).map (rowB succ L))]))) 8 (some (Ob.box [.slc true 1 [], .slc true 1 []]))) 4 (some (Ob.box [.int .i64 s.1, .int .i64 s.2])), o := os, r := #[ResultVar.cell 8 39, ResultVar.tmp 9, ResultVar.tmp 10], f := 125, n := 89 }) (fun _ => RES) (fun j => 3 - j) ?_ 0 ⟨by omega, hlm⟩
  rintro j ⟨hj, hjm⟩ ihj
  by_cases h' : j < 3
  rotate_left
  · obtain rfl : j = 3 := by omega
    have e3 : ((l3A tt).take 3).foldl ins l = ins3 l tt := rfl
    have e4 : ((l3A tt).take 3).map (ixB L) = [IN (ixD L tt.1), IN (ixD L tt.2.1), IN (ixD L tt.2.2)] := rfl
    rw [e3] at hjm ⊢
    rw [e4]
    have ihm := ihn hjm
    have ki : (i : Int) < (ins3 l tt).length := by have := (ins3_pre l tt).length_le; omega
    have hgl' : ∀ v : V, ((ins3 l tt).map encP).getD i v = encP x := by
      intro v
      obtain ⟨m, hm⟩ := ins3_pre l tt
      rw [← hm, List.map_append, List.getD_eq_getElem?_getD, List.getElem?_append_left (by rw [List.length_map]; exact h), ← List.getD_eq_getElem?_getD]
      exact hgl v
    simp only [encP, IN] at hgl'
    have k3 : ¬ ((3 : Nat) : Int) < 3 := by omega
    have a1 : (i + 1) * 1 ≤ 140737488355328 := by omega
    have a2 : (i + 1) * 24 ≤ 140737488355328 := by omega
    simp only [go_sem, k3]
    rw [q_drawn]
    rotate_left
    · kernel_rfl
    simp only [go_sem, still, ki, hgl', hax, hae, hua, htk, a1, a2, wi, eq_self, hca, hcn]
    exact ihm
  have k2 : (j : Int) < 3 := by omega
  have wj := wrap_nat (n := j) (by omega)
  have hny := hnx j h'
  have hpre : ((l3A tt).take (j + 1)).foldl ins l <+: L := by
    refine List.IsPrefix.trans ?_ hpL
    rw [← ins3_l3A]
    have e : (l3A tt).foldl ins l = ((l3A tt).drop (j + 1)).foldl ins (((l3A tt).take (j + 1)).foldl ins l) := by
      rw [← List.foldl_append, List.take_append_drop]
    rw [e]
    exact foldl_ins_pre _ _
  have hji : j < (l3A tt).length := by rw [l3A_len]; exact h'
  have ihm := fun hlen => ihj (j + 1) ⟨by omega, hlen⟩ (by omega)
  rw [foldl_take _ _ hji] at hpre ihm
  rw [take_snoc hji, List.map_append, List.map_cons, List.map_nil] at ihm
  have hil : i < (((l3A tt).take j).foldl ins l).length := Nat.lt_of_lt_of_le h (foldl_ins_pre _ _).length_le
  have ki : (i : Int) < (((l3A tt).take j).foldl ins l).length := by omega
  have hgl' : ∀ v : V, ((((l3A tt).take j).foldl ins l).map encP).getD i v = encP x := by
    intro v
    obtain ⟨m, hm⟩ := foldl_ins_pre ((l3A tt).take j) l
    rw [← hm, List.map_append, List.getD_eq_getElem?_getD, List.getElem?_append_left (by rw [List.length_map]; exact h), ← List.getD_eq_getElem?_getD]
    exact hgl v
  simp only [encP, IN] at hgl'
  have eix : ixB L (l3A tt)[j] = IN (ixD L (l3A tt)[j]) := rfl
  rw [eix] at ihm
  have hly : ixD L (l3A tt)[j] = ixD (ins (((l3A tt).take j).foldl ins l) (l3A tt)[j]) (l3A tt)[j] := ixD_pre hpre (ins_mem _ _)
  generalize ((l3A tt).take j).foldl ins l = m at *
  generalize (l3A tt)[j] = y at *
  have f1 := fN y m
  change _ = some (if y ∈ m then some (V.int .i64 (ixD m y : Nat)) else none) at f1
  have hrl : (((l3A tt).take j).map (ixB L)).length = j := by rw [List.length_map, List.length_take, l3A_len]; omega
  have a1 : (j + 1) * 8 ≤ 140737488355328 := by omega
  generalize ((l3A tt).take j).map (ixB L) = row at *
  by_cases hm' : y ∈ m
  · rw [if_pos hm'] at f1
    rw [ins, if_pos hm'] at ihm hly
    rw [hly] at ihm
    simp only [go_sem, k2, ki, hgl', hny, hne, hun, f1, hrl, a1, wj, hca, hcn]
    exact ihm hjm
  · rw [if_neg hm'] at f1
    have f2 := pN y m hm'
    rw [ins, if_neg hm'] at ihm hly hpre
    rw [ixD_new hm'] at hly
    rw [hly] at ihm
    have a3 : (m.length + 1) * 16 ≤ 140737488355328 := by omega
    have es := map_snoc' encP m y
    simp only [encP, IN] at es
    by_cases hgt : m.length + 1 > most
    · have hgt' : ((m.length + 1 : Nat) : Int) > most := by omega
      have hLl : ¬ L.length ≤ most := by
        have := hpre.length_le
        rw [List.length_append] at this
        simp only [List.length_cons, List.length_nil] at this
        omega
      rw [if_neg hLl] at hRES
      subst hRES
      simp only [go_sem, k2, ki, hgl', hny, hne, hun, f1, f2, hrl, a1, a3, wj, hgt', hca, hcn]
    · have hgt' : ¬ ((m.length + 1 : Nat) : Int) > most := by omega
      have hlen : (m ++ [y]).length ≤ most := by
        rw [List.length_append]
        simp only [List.length_cons, List.length_nil]
        omega
      have ihm' := ihm hlen
      rw [← es] at ihm'
      simp only [go_sem, k2, ki, hgl', hny, hne, hun, f1, f2, hrl, a1, a3, wj, hgt', hca, hcn]
      exact ihm'
end Go.Ev
namespace Go.Ev
open Go Go.Proofs
set_option maxRecDepth 10000
set_option maxHeartbeats 4000000
set_option linter.unusedVariables false
set_option linter.unusedSimpArgs false

def encR (p : Nat × Nat) : V := .agg [IN p.1, .int .u64 p.2]
theorem eqR (a b : Nat × Nat) : eqV Tryz.prog 277 (encR a) (encR b) = some (decide (a = b)) := by
  show eqV Tryz.prog 277 (.agg [.int .i64 (a.1 : Int), .int .u64 (a.2 : Int)]) (.agg [.int .i64 (b.1 : Int), .int .u64 (b.2 : Int)]) = _
  rw [ev277]
  obtain ⟨a1, a2⟩ := a
  obtain ⟨b1, b2⟩ := b
  simp only [nat_beq, Prod.mk.injEq, Bool.and_true, Option.some.injEq]
  rw [Bool.eq_iff_iff]
  simp
theorem r257 (succ : Nat × Nat → (Nat × Nat) × (Nat × Nat) × (Nat × Nat)) (acc : Nat × Nat → Bool) (most : Nat) (s : Nat × Nat) (Q : Nat × Nat → Prop) (hm1 : 1 ≤ most) (hm : most ≤ 1048576) (hs : Q s) (hQ : ∀ x, Q x → Q (succ x).1 ∧ Q (succ x).2.1 ∧ Q (succ x).2.2)
    (fa fn : Nat) (ca cn : List V) (os : List (Nat → Option Ob)) (ho : os.length ≠ 0) (hca : ∀ (st : St) (objs : List Nat), st.o = os → ca.all (heldP st objs) = true) (hcn : ∀ (st : St) (objs : List Nat), st.o = os → cn.all (heldP st objs) = true) (hae : ca.isEmpty = false) (hne : cn.isEmpty = false)
    (hacc : ∀ x, Q x → ∀ b0, run EE fa (encR x :: ca) (b0 :: os) = some (.bool (acc x), b0 :: os))
    (hnext : ∀ x, Q x → ∀ (i : Nat) (hi : i < 3), ∀ b0, run EE fn (encR x :: .int .i64 i :: cn) (b0 :: os) = some (encR ((l3A (succ x))[i]'(by rw [l3A_len]; exact hi)), b0 :: os))
    (hua : (EE.H fa).uniq = []) (hun : (EE.H fn).uniq = []) :
    run EE 257 [encR s, .int .i64 most, .fn fa ca, .fn fn cn] os = some (if (expL succ most s).length ≤ most then .tup [(expD succ acc (expL succ most s)).enc, .slc false 2 ((expL succ most s).map encR), .bool true] else .tup [.agg [.slc false 1 [], .slc false 1 []], .slc false 2 [], .bool false], os) := by
  have fN := fun x l => findE_mapN (P := Tryz.prog) (kt := 277) (enc := encR) eqR x l 0
  have pN := fun x l (h : x ∉ l) => putE_mapN (P := Tryz.prog) (kt := 277) (enc := encR) eqR (x := x) l 0 h
  simp only [Nat.zero_add, encR, IN] at fN pN hacc hnext
  generalize hRES : (some ((if (expL succ most s).length ≤ most then V.tup [(expD succ acc (expL succ most s)).enc, .slc false 2 ((expL succ most s).map encR), .bool true] else V.tup [.agg [.slc false 1 [], .slc false 1 []], .slc false 2 [], .bool false]), os) : Option (V × List (Nat → Option Ob))) = RES
  have hlv : ∀ objs, (os.length != os.length || memN 3 objs) = memN 3 objs := by intro objs; simp
  simp only [encR, IN]
  rw [run_eq EE 257 _ _ Tryz.func257 (by decide +kernel) rfl (show 4 ≤ _ by decide)]
  dsimp only [Tryz.f257]
  simp only [go_sem, hca, hcn]
  generalize hL : expL succ most s = L at hRES
  refine iter_inv (fun p : Nat × List (Nat × Nat) => p.1 ≤ p.2.length ∧ p.2.length ≤ most ∧ (∀ x ∈ p.2, Q x) ∧ bfsL succ (most + 1 - p.1) p.2 p.1 = L) (fun p => { t := upd (upd (upd (upd (upd (upd (upd (upd e0 14 (.int .i64 p.1)) 13 (.ptr os.length 13 0)) 12 (.mp os.length 22)) 11 (.slc true 2 (p.2.map encR))) 8 (.ptr os.length 8 0)) 3 (.fn fn cn)) 2 (.fn fa ca)) 1 (.int .i64 most), b := upd (upd (upd (upd n0 22 (some (Ob.map (mapN encR 0 p.2)))) 13 (some (Ob.box [.slc true 1 ((L.take p.1).map (accB acc)), .slc true 1 ((L.take p.1).map (rowB succ L))]))) 8 (some (Ob.box [.slc true 1 [], .slc true 1 []]))) 4 (some (Ob.box [.int .i64 s.1, .int .u64 s.2])), o := os, r := #[ResultVar.cell 8 39, ResultVar.tmp 9, ResultVar.tmp 10], f := 257, n := 89 }) (fun _ => RES) (fun p => most + 1 - p.1) ?_ (0, [s]) ⟨Nat.zero_le _, hm1, by simpa using hs, hL⟩
  rintro ⟨i, l⟩ ⟨hi, hlm, hQl, hb⟩ ih
  dsimp only at hi hlm hQl hb ⊢
  by_cases h : i < l.length
  rotate_left
  · have k1 : ¬ (i : Int) < l.length := by omega
    rw [bfs_done h] at hb
    subst hb
    rw [if_pos hlm] at hRES
    subst hRES
    rw [List.take_of_length_le (by omega)]
    rw [accB_map, rowB_map]
    simp only [go_sem, k1, expD, encR, hca, hcn]
  have k1 : (i : Int) < l.length := by omega
  have wi := wrap_nat (n := i) (by omega)
  have hQx := hQl _ (List.getElem_mem h)
  have hgl : ∀ v : V, (l.map encR).getD i v = encR l[i] := fun v => getD_map h v
  have e1 : most + 1 - i = (most + 1 - (i + 1)) + 1 := by omega
  rw [e1, bfs_step h] at hb
  have hLx : L.take (i + 1) = L.take i ++ [l[i]] := by
    have hp : l <+: L := by rw [← hb]; exact (ins3_pre _ _).trans (bfs_pre _ _ _ _)
    rw [take_pre hp h]
    congr 1
    obtain ⟨m, rfl⟩ := hp
    rw [List.take_append_of_le_length (by omega)]
  have htk : (L.take i).length = i := by
    have hp : l <+: L := by rw [← hb]; exact (ins3_pre _ _).trans (bfs_pre _ _ _ _)
    have := hp.length_le
    rw [List.length_take]; omega
  have hpL : ins3 l (succ l[i]) <+: L := by rw [← hb]; exact bfs_pre _ _ _ _
  have hQt := hQ _ hQx
  have ihn := fun (hlen : (ins3 l (succ l[i])).length ≤ most) => ih (i + 1, ins3 l (succ l[i])) ⟨Nat.le_trans h (ins3_pre _ _).length_le, hlen, fun x hx => by
    rcases mem_ins3.1 hx with hx | rfl | rfl | rfl
    · exact hQl x hx
    · exact hQt.1
    · exact hQt.2.1
    · exact hQt.2.2, hb⟩ (by show most + 1 - (i + 1) < most + 1 - i; omega)
  dsimp only at ihn
  clear ih
  rw [hLx, List.map_append, List.map_append, List.map_cons, List.map_nil, List.map_cons, List.map_nil] at ihn
  have eab : accB acc l[i] = .bool (acc l[i]) := rfl
  have erb : rowB succ L l[i] = .slc false 1 [IN (ixD L (succ l[i]).1), IN (ixD L (succ l[i]).2.1), IN (ixD L (succ l[i]).2.2)] := rfl
  rw [eab, erb] at ihn
  clear eab erb
  have hax := hacc l[i] hQx
  have hnx := hnext l[i] hQx
  generalize l[i] = x at *
  simp only [encR, IN] at hgl
  generalize succ x = tt at *
  simp only [go_sem, k1, hca, hcn]
  refine iter_inv (fun j : Nat => j ≤ 3 ∧ (((l3A tt).take j).foldl ins l).length ≤ most) (fun j => { t := upd (upd (upd (upd (upd (upd (upd (upd (upd (upd e0 33 (.int .i64 j)) 15 (.slc true 1 (((l3A tt).take j).map (ixB L)))) 14 (.int .i64 i)) 13 (.ptr os.length 13 0)) 12 (.mp os.length 22)) 11 (.slc true 2 ((((l3A tt).take j).foldl ins l).map encR))) 8 (.ptr os.length 8 0)) 3 (.fn fn cn)) 2 (.fn fa ca)) 1 (.int .i64 most), b := upd (upd (upd (upd n0 22 (some (Ob.map (mapN encR 0 (((l3A tt).take j).foldl ins l))))) 13 (some (Ob.box [.slc true 1 ((L.take i).map (accB acc)), .slc true 1 ((L.take i).map (rowB succ L))]))) 8 (some (Ob.box [.slc true 1 [], .slc true 1 []]))) 4 (some (Ob.box [.int .i64 s.1, .int .u64 s.2])), o := os, r := #[ResultVar.cell 8 39, ResultVar.tmp 9, ResultVar.tmp 10], f := 257, n := 89 }) (fun _ => RES) (fun j => 3 - j) ?_ 0 ⟨by omega, hlm⟩
  rintro j ⟨hj, hjm⟩ ihj
  by_cases h' : j < 3
  rotate_left
  · obtain rfl : j = 3 := by omega
    have e3 : ((l3A tt).take 3).foldl ins l = ins3 l tt := rfl
    have e4 : ((l3A tt).take 3).map (ixB L) = [IN (ixD L tt.1), IN (ixD L tt.2.1), IN (ixD L tt.2.2)] := rfl
    rw [e3] at hjm ⊢
    rw [e4]
    have ihm := ihn hjm
    have ki : (i : Int) < (ins3 l tt).length := by have := (ins3_pre l tt).length_le; omega
    have hgl' : ∀ v : V, ((ins3 l tt).map encR).getD i v = encR x := by
      intro v
      obtain ⟨m, hm⟩ := ins3_pre l tt
      rw [← hm, List.map_append, List.getD_eq_getElem?_getD, List.getElem?_append_left (by rw [List.length_map]; exact h), ← List.getD_eq_getElem?_getD]
      exact hgl v
    simp only [encR, IN] at hgl'
    have k3 : ¬ ((3 : Nat) : Int) < 3 := by omega
    have a1 : (i + 1) * 1 ≤ 140737488355328 := by omega
    have a2 : (i + 1) * 24 ≤ 140737488355328 := by omega
    simp only [go_sem, k3]
    rw [q_drawn]
    rotate_left
    · kernel_rfl
    simp only [go_sem, still, ki, hgl', hax, hae, hua, htk, a1, a2, wi, eq_self, hca, hcn]
    exact ihm
  have k2 : (j : Int) < 3 := by omega
  have wj := wrap_nat (n := j) (by omega)
  have hny := hnx j h'
  have hpre : ((l3A tt).take (j + 1)).foldl ins l <+: L := by
    refine List.IsPrefix.trans ?_ hpL
    rw [← ins3_l3A]
    have e : (l3A tt).foldl ins l = ((l3A tt).drop (j + 1)).foldl ins (((l3A tt).take (j + 1)).foldl ins l) := by
      rw [← List.foldl_append, List.take_append_drop]
    rw [e]
    exact foldl_ins_pre _ _
  have hji : j < (l3A tt).length := by rw [l3A_len]; exact h'
  have ihm := fun hlen => ihj (j + 1) ⟨by omega, hlen⟩ (by omega)
  rw [foldl_take _ _ hji] at hpre ihm
  rw [take_snoc hji, List.map_append, List.map_cons, List.map_nil] at ihm
  have hil : i < (((l3A tt).take j).foldl ins l).length := Nat.lt_of_lt_of_le h (foldl_ins_pre _ _).length_le
  have ki : (i : Int) < (((l3A tt).take j).foldl ins l).length := by omega
  have hgl' : ∀ v : V, ((((l3A tt).take j).foldl ins l).map encR).getD i v = encR x := by
    intro v
    obtain ⟨m, hm⟩ := foldl_ins_pre ((l3A tt).take j) l
    rw [← hm, List.map_append, List.getD_eq_getElem?_getD, List.getElem?_append_left (by rw [List.length_map]; exact h), ← List.getD_eq_getElem?_getD]
    exact hgl v
  simp only [encR, IN] at hgl'
  have eix : ixB L (l3A tt)[j] = IN (ixD L (l3A tt)[j]) := rfl
  rw [eix] at ihm
  have hly : ixD L (l3A tt)[j] = ixD (ins (((l3A tt).take j).foldl ins l) (l3A tt)[j]) (l3A tt)[j] := ixD_pre hpre (ins_mem _ _)
  generalize ((l3A tt).take j).foldl ins l = m at *
  generalize (l3A tt)[j] = y at *
  have f1 := fN y m
  change _ = some (if y ∈ m then some (V.int .i64 (ixD m y : Nat)) else none) at f1
  have hrl : (((l3A tt).take j).map (ixB L)).length = j := by rw [List.length_map, List.length_take, l3A_len]; omega
  have a1 : (j + 1) * 8 ≤ 140737488355328 := by omega
  generalize ((l3A tt).take j).map (ixB L) = row at *
  by_cases hm' : y ∈ m
  · rw [if_pos hm'] at f1
    rw [ins, if_pos hm'] at ihm hly
    rw [hly] at ihm
    simp only [go_sem, k2, ki, hgl', hny, hne, hun, f1, hrl, a1, wj, hca, hcn]
    exact ihm hjm
  · rw [if_neg hm'] at f1
    have f2 := pN y m hm'
    rw [ins, if_neg hm'] at ihm hly hpre
    rw [ixD_new hm'] at hly
    rw [hly] at ihm
    have a3 : (m.length + 1) * 16 ≤ 140737488355328 := by omega
    have es := map_snoc' encR m y
    simp only [encR, IN] at es
    by_cases hgt : m.length + 1 > most
    · have hgt' : ((m.length + 1 : Nat) : Int) > most := by omega
      have hLl : ¬ L.length ≤ most := by
        have := hpre.length_le
        rw [List.length_append] at this
        simp only [List.length_cons, List.length_nil] at this
        omega
      rw [if_neg hLl] at hRES
      subst hRES
      simp only [go_sem, k2, ki, hgl', hny, hne, hun, f1, f2, hrl, a1, a3, wj, hgt', hca, hcn]
    · have hgt' : ¬ ((m.length + 1 : Nat) : Int) > most := by omega
      have hlen : (m ++ [y]).length ≤ most := by
        rw [List.length_append]
        simp only [List.length_cons, List.length_nil]
        omega
      have ihm' := ihm hlen
      rw [← es] at ihm'
      simp only [go_sem, k2, ki, hgl', hny, hne, hun, f1, f2, hrl, a1, a3, wj, hgt', hca, hcn]
      exact ihm'
end Go.Ev
namespace Go.Ev
open Go Go.Proofs
set_option maxRecDepth 10000
set_option maxHeartbeats 4000000
set_option linter.unusedVariables false
set_option linter.unusedSimpArgs false

theorem vd_i (d : DN) (h : Val d) : run EE 122 [d.enc] [] = some (.bool true, []) := by
  have h1 := h.le
  have := r122 d.dfa (by show d.accept.length ≤ _; omega) (by show (d.next.map _).length ≤ _; rw [List.length_map, h.ok.1]; omega) dfa_row
  rw [DN.dfa_enc, h.valid] at this
  exact this
theorem vd_s (d : DN) (ho : d.ok) (hl : d.accept.length ≤ 1048576) : run EE 134 [d.enc] [] = some (.bool (decide (1 ≤ d.accept.length) && decide (d.accept.length ≤ 40)), []) := by
  have := r134 d.dfa (by show d.accept.length ≤ _; omega) (by show (d.next.map _).length ≤ _; rw [List.length_map, ho.1]; omega) dfa_row
  rw [DN.dfa_enc, validD_dfa ho] at this
  exact this
theorem r128 (d : DN) (ho : d.ok) (h1 : 1 ≤ d.accept.length) (hl : d.accept.length ≤ 1048576) : run EE 128 [d.enc] [] = some (resO (fitD d), []) := by
  have mi := r123 d ho hl 0 h1
  have e0 : ((0 : Nat) : Int) = 0 := rfl
  rw [e0] at mi
  unfold fitD
  generalize quotS d 0 = q at mi ⊢
  simp only [DN.enc] at mi
  rw [run_eq EE 128 _ _ Tryz.func128 (by decide +kernel) rfl (show 1 ≤ _ by decide)]
  dsimp only [Tryz.f128]
  simp only [go_sem, mi]
  by_cases h : q.accept.length ≤ 40
  · have h' : ¬ (q.accept.length : Int) > 40 := by omega
    rw [if_pos h]
    simp only [go_sem, h', resO]
  · have h' : (q.accept.length : Int) > 40 := by omega
    rw [if_neg h]
    simp only [go_sem, h', resO]
theorem r207 (d : DN) (ho : d.ok) (h1 : 1 ≤ d.accept.length) (hl : d.accept.length ≤ 1048576) : run EE 207 [d.enc] [] = some (resO (fitD d), []) := by
  have mi := r203 d ho hl h1
  rw [minS_S ho h1] at mi
  have hq := quotS_ok ho h1
  have hq2 := quotS_len ho h1
  have vd := vd_s (quotS d 0) hq.1 (by omega)
  rw [decide_eq_true hq.2, Bool.true_and] at vd
  unfold fitD
  generalize quotS d 0 = q at mi vd ⊢
  simp only [DN.enc, DN.encU] at mi vd
  rw [run_eq EE 207 _ _ Tryz.func207 (by decide +kernel) rfl (show 1 ≤ _ by decide)]
  dsimp only [Tryz.f207]
  by_cases h : q.accept.length ≤ 40
  · rw [decide_eq_true h] at vd
    rw [if_pos h]
    simp only [go_sem, mi, vd, resO, Bool.not_true]
  · rw [decide_eq_false h] at vd
    rw [if_neg h]
    simp only [go_sem, mi, vd, resO, Bool.not_false]
theorem r126 (a b : DN) (kind : Int) (x : Nat × Nat) (hx : inP a b x) (k1 k2 k3 : Nat) (os : List (Nat → Option Ob)) (ho : os.length ≠ 0) (h1 : obIn k1 0 os = some (.box [.int .i64 kind])) (h2 : obIn k2 0 os = some (.box [.slc false 1 (a.accept.map B), .slc false 1 (a.next.map NT)])) (h3 : obIn k3 0 os = some (.box [.slc false 1 (b.accept.map B), .slc false 1 (b.next.map NT)])) :
    run EE 126 [encP x, .ptr 0 k1 0, .ptr 0 k2 0, .ptr 0 k3 0] os = some (.bool (accP kind a b x), os) := by
  have ho' : ¬ 0 = os.length := fun e => ho e.symm
  have p1 : (x.1 : Int) < a.accept.length := by have := hx.1; omega
  have p2 : (x.2 : Int) < b.accept.length := by have := hx.2; omega
  have g1 : ∀ v : V, (a.accept.map B).getD x.1 v = B (accN a x.1) := fun v => getD_B hx.1 v
  have g2 : ∀ v : V, (b.accept.map B).getD x.2 v = B (accN b x.2) := fun v => getD_B hx.2 v
  unfold accP
  generalize accN a x.1 = A at g1 ⊢
  generalize accN b x.2 = C at g2 ⊢
  simp only [encP, IN]
  rw [run_eq EE 126 _ _ Tryz.func126 (by decide +kernel) rfl (show 4 ≤ _ by decide)]
  dsimp only [Tryz.f126]
  cases kk : (kind == 6)
  · have kk' : ¬ kind = 6 := by simpa using kk
    rw [if_neg kk']
    cases A <;> simp only [go_sem, ho', h1, h2, h3, kk, p1, p2, g1, g2, Bool.false_and, Bool.true_and, Bool.false_or, Bool.true_or]
  · have kk' : kind = 6 := by simpa using kk
    rw [if_pos kk']
    cases A <;> simp only [go_sem, ho', h1, h2, h3, kk, p1, p2, g1, g2, Bool.false_and, Bool.true_and, Bool.false_or, Bool.true_or]
theorem r127 (a b : DN) (ha : a.ok) (hb : b.ok) (x : Nat × Nat) (hx : inP a b x) (i : Nat) (hi : i < 3) (k2 k3 : Nat) (os : List (Nat → Option Ob)) (ho : os.length ≠ 0) (h2 : obIn k2 0 os = some (.box [.slc false 1 (a.accept.map B), .slc false 1 (a.next.map NT)])) (h3 : obIn k3 0 os = some (.box [.slc false 1 (b.accept.map B), .slc false 1 (b.next.map NT)])) :
    run EE 127 [encP x, .int .i64 i, .ptr 0 k2 0, .ptr 0 k3 0] os = some (encP ((l3A (succP a b x))[i]'(by rw [l3A_len]; exact hi)), os) := by
  have ho' : ¬ 0 = os.length := fun e => ho e.symm
  have p1 : (x.1 : Int) < a.next.length := by have := hx.1; rw [ha.1]; omega
  have p2 : (x.2 : Int) < b.next.length := by have := hx.2; rw [hb.1]; omega
  have g1 : ∀ v : V, (a.next.map NT).getD x.1 v = NT (a.nx x.1) := fun v => getD_NT (by rw [ha.1]; exact hx.1) v
  have g2 : ∀ v : V, (b.next.map NT).getD x.2 v = NT (b.nx x.2) := fun v => getD_NT (by rw [hb.1]; exact hx.2) v
  unfold succP
  generalize a.nx x.1 = A at g1 ⊢
  generalize b.nx x.2 = C at g2 ⊢
  simp only [encP, IN]
  rw [run_eq EE 127 _ _ Tryz.func127 (by decide +kernel) rfl (show 4 ≤ _ by decide)]
  dsimp only [Tryz.f127]
  simp only [go_sem]
  rw [q_drs]
  rotate_left
  · kernel_rfl
  match i, hi with
  | 0, _ => simp only [go_sem, ho', h2, h3, p1, p2, g1, g2] <;> rfl
  | 1, _ => simp only [go_sem, ho', h2, h3, p1, p2, g1, g2] <;> rfl
  | 2, _ => simp only [go_sem, ho', h2, h3, p1, p2, g1, g2] <;> rfl
theorem hp2 (k1 k2 : Nat) (b : Nat → Option Ob) : ∀ (st : St) (objs : List Nat), st.o = [b] → ([.ptr 0 k1 0, .ptr 0 k2 0] : List V).all (heldP st objs) = true := by
  intro st objs h; simp [heldP, St.lv, h]
theorem hp3 (k1 k2 k3 : Nat) (b : Nat → Option Ob) : ∀ (st : St) (objs : List Nat), st.o = [b] → ([.ptr 0 k1 0, .ptr 0 k2 0, .ptr 0 k3 0] : List V).all (heldP st objs) = true := by
  intro st objs h; simp [heldP, St.lv, h]
theorem r57 (a b : DN) (ha : Val a) (hb : Val b) (kind : Int) (hk : kind = 6 ∨ kind = 7) : run EE 57 [a.enc, b.enc, .int .i64 kind] [] = some (resO (fitD (prodD kind a b)), []) := by
  have va := vd_i a ha
  have vb := vd_i b hb
  have hpo := prodD_ok (kind := kind) ha hb
  have ft := r128 (prodD kind a b) hpo.1 hpo.2.1 (by omega)
  have ex := fun (B0 : Nat → Option Ob) (h5 : B0 5 = some (.box [.int .i64 kind])) (h3 : B0 3 = some (.box [.slc false 1 (a.accept.map B), .slc false 1 (a.next.map NT)])) (h4 : B0 4 = some (.box [.slc false 1 (b.accept.map B), .slc false 1 (b.next.map NT)])) =>
    r125 (succP a b) (accP kind a b) 1600 (0, 0) (inP a b) (by decide) (by decide) ⟨ha.pos, hb.pos⟩ (fun x hx => succP_in ha.ok hb.ok hx) 126 127 [.ptr 0 5 0, .ptr 0 3 0, .ptr 0 4 0] [.ptr 0 3 0, .ptr 0 4 0] [B0] (by simp) (hp3 5 3 4 B0) (hp2 3 4 B0) rfl rfl
      (fun x hx b0 => r126 a b kind x hx 5 3 4 _ (by simp) (by rw [obIn_cons (by simp)]; exact h5) (by rw [obIn_cons (by simp)]; exact h3) (by rw [obIn_cons (by simp)]; exact h4))
      (fun x hx i hi b0 => r127 a b ha.ok hb.ok x hx i hi 3 4 _ (by simp) (by rw [obIn_cons (by simp)]; exact h3) (by rw [obIn_cons (by simp)]; exact h4)) (by kernel_rfl) (by kernel_rfl)
  have eL : expL (succP a b) 1600 (0, 0) = listP a b := rfl
  have eD : expD (succP a b) (accP kind a b) (listP a b) = prodD kind a b := rfl
  rw [eL] at ex
  rw [if_pos (listP_le ha hb), eD] at ex
  have e16 : ((1600 : Nat) : Int) = 1600 := rfl
  rw [e16] at ex
  have e00 : ((0 : Nat) : Int) = 0 := rfl
  simp only [encP, IN, e00] at ex
  generalize prodD kind a b = d at ft ex ⊢
  generalize hr : fitD d = r at ft ⊢
  simp only [DN.enc] at va vb ft ex
  rw [run_eq EE 57 _ _ Tryz.func57 (by decide +kernel) rfl (show 3 ≤ _ by decide)]
  dsimp only [Tryz.f57]
  have key : ∀ (kk : Int), (kk = 6 ∨ kk = 7) → True := fun _ _ => trivial
  rcases hk with rfl | rfl
  · simp only [go_sem, va, vb, bne, Bool.not_true]
    rw [ex _ rfl rfl rfl]
    cases r with
    | none => simp only [go_sem, ft, resO]
    | some e => simp only [go_sem, ft, resO]
  · simp only [go_sem, va, vb, bne, Bool.not_true]
    rw [ex _ rfl rfl rfl]
    cases r with
    | none => simp only [go_sem, ft, resO]
    | some e => simp only [go_sem, ft, resO]
end Go.Ev
namespace Go.Ev
open Go Go.Proofs
set_option maxRecDepth 10000
set_option maxHeartbeats 4000000
set_option linter.unusedVariables false
set_option linter.unusedSimpArgs false

theorem findN (M : List Nat) (hM : M.length ≤ 1048576) (x : Nat) : run EE 206 [.slc false 1 (M.map IN), .int .i64 x] [] = some (.int .i64 (posP (fun y : Int => y == (x : Int)) (M.map fun n : Nat => (n : Int)) 0), []) := by
  have := r206 (M.map fun n : Nat => (n : Int)) (by rw [List.length_map]; exact hM) x
  rw [← map_IN] at this
  exact this
theorem r120 (a b : DN) (ha : Val a) (hb : Val b) (kind : Int) (hk : kind = 6 ∨ kind = 7) : run EE 120 [a.enc, b.enc, .int .i64 kind] [] = some (resO (fitD (prodD kind a b)), []) := by
  have hal := ha.le
  have hbl := hb.le
  have hbp := hb.pos
  have va := vd_s a ha.ok (by omega)
  have vb := vd_s b hb.ok (by omega)
  rw [decide_eq_true ha.pos, decide_eq_true ha.le] at va
  rw [decide_eq_true hb.pos, decide_eq_true hb.le] at vb
  have hpo := prodD_ok (kind := kind) ha hb
  have ft := r207 (prodD kind a b) hpo.1 hpo.2.1 (by omega)
  rw [← prodI ha hb kind] at ft ⊢
  have hLl := listI_le ha hb
  have hLt := listI_lt ha hb
  have hLe : listI a b = bfsL (succI a b) 1601 [0] 0 := rfl
  generalize listI a b = L at *
  simp only [DN.enc] at va vb ft
  have hkk : (kind == 6) = true ∨ ((kind == 6) = false ∧ (kind == 7) = true) := by rcases hk with rfl | rfl <;> simp
  generalize hRES : (some (resO (fitD ⟨L.map (accI kind a b), L.map fun x => rowD L (succI a b x)⟩), ([] : List (Nat → Option Ob)))) = RES
  rw [run_eq EE 120 _ _ Tryz.func120 (by decide +kernel) rfl (show 3 ≤ _ by decide)]
  dsimp only [Tryz.f120]
  rcases hkk with k6 | ⟨k6, k7⟩
  case' inl => simp only [go_sem, va, vb, bne, k6, Bool.not_true, Bool.and_self]
  case' inr => simp only [go_sem, va, vb, bne, k6, k7, Bool.not_true, Bool.not_false, Bool.and_self]
  all_goals
    refine iter_inv (fun p : Nat × List Nat => p.1 ≤ p.2.length ∧ p.2.length ≤ 1600 ∧ bfsL (succI a b) (1601 - p.1) p.2 p.1 = L) (fun p => { t := upd (upd (upd (upd (upd (upd (upd (upd e0 11 (.int .i64 p.1)) 10 (.slc true 1 (p.2.map IN))) 9 (.ptr 0 9 0)) 8 (.int .i64 b.accept.length)) 6 (.ptr 0 6 0)) 4 (.ptr 0 4 0)) 3 (.ptr 0 3 0)) 2 (.int .i64 kind), b := upd (upd (upd (upd n0 9 (some (Ob.box [.slc true 1 ((L.take p.1).map (accB (accI kind a b))), .slc true 1 ((L.take p.1).map (rowB (succI a b) L))]))) 6 (some (Ob.box [.slc true 1 [], .slc true 1 []]))) 4 (some (Ob.box [.slc false 1 (b.accept.map B), .slc false 1 (b.next.map NT)]))) 3 (some (Ob.box [.slc false 1 (a.accept.map B), .slc false 1 (a.next.map NT)])), o := [], r := #[ResultVar.cell 6 39, ResultVar.tmp 7], f := 120, n := 143 }) (fun _ => RES) (fun p => 1601 - p.1) ?_ (0, [0]) ⟨Nat.zero_le _, by decide, hLe.symm⟩
    rintro ⟨i, l⟩ ⟨hi, hlm, hbf⟩ ih
    dsimp only at hi hlm hbf ⊢
    by_cases h : i < l.length
    rotate_left
    · have k1 : ¬ (i : Int) < l.length := by omega
      rw [bfs_done h] at hbf
      subst hbf
      rw [List.take_of_length_le (by omega), accB_map, rowB_map]
      simp only [go_sem, k1, ft]
      rw [← hRES]
      cases fitD ⟨l.map (accI kind a b), l.map fun x => rowD l (succI a b x)⟩ with
      | none => simp only [go_sem, resO]
      | some e => simp only [go_sem, resO]
    have k1 : (i : Int) < l.length := by omega
    have wi := wrap_nat (n := i) (by omega)
    have hgl : ∀ v : V, (l.map IN).getD i v = IN l[i] := fun v => getD_map h v
    have e1 : 1601 - i = (1601 - (i + 1)) + 1 := by omega
    rw [e1, bfs_step h] at hbf
    have hpl : l <+: L := by rw [← hbf]; exact (ins3_pre _ _).trans (bfs_pre _ _ _ _)
    have hpL : ins3 l (succI a b l[i]) <+: L := by rw [← hbf]; exact bfs_pre _ _ _ _
    have hLx : L.take (i + 1) = L.take i ++ [l[i]] := by
      rw [take_pre hpl h]
      congr 1
      obtain ⟨m, rfl⟩ := hpl
      rw [List.take_append_of_le_length (by omega)]
    have htk : (L.take i).length = i := by
      have := hpl.length_le
      rw [List.length_take]; omega
    have ihn := ih (i + 1, ins3 l (succI a b l[i])) ⟨Nat.le_trans h (ins3_pre _ _).length_le, Nat.le_trans hpL.length_le hLl, hbf⟩ (by show 1601 - (i + 1) < 1601 - i; omega)
    dsimp only at ihn
    clear ih
    have hxL := hLt _ (hpl.subset (List.getElem_mem h))
    rw [hLx, List.map_append, List.map_append, List.map_cons, List.map_nil, List.map_cons, List.map_nil] at ihn
    have eab : accB (accI kind a b) l[i] = .bool (if kind = 6 then accN a (l[i] / b.accept.length) || accN b (l[i] % b.accept.length) else accN a (l[i] / b.accept.length) && accN b (l[i] % b.accept.length)) := rfl
    have erb : rowB (succI a b) L l[i] = .slc false 1 [IN (ixD L (succI a b l[i]).1), IN (ixD L (succI a b l[i]).2.1), IN (ixD L (succI a b l[i]).2.2)] := rfl
    rw [eab, erb] at ihn
    clear eab erb
    have hsu : succI a b l[i] = ((a.nx (l[i] / b.accept.length)).1 * b.accept.length + (b.nx (l[i] % b.accept.length)).1, (a.nx (l[i] / b.accept.length)).2.1 * b.accept.length + (b.nx (l[i] % b.accept.length)).2.1, (a.nx (l[i] / b.accept.length)).2.2 * b.accept.length + (b.nx (l[i] % b.accept.length)).2.2) := rfl
    have dq : (l[i] : Int).tdiv b.accept.length = ((l[i] / b.accept.length : Nat) : Int) := (Int.ofNat_tdiv _ _).symm
    have dr : (l[i] : Int).tmod b.accept.length = ((l[i] % b.accept.length : Nat) : Int) := (Int.ofNat_tmod _ _).symm
    have b0 : ¬ (b.accept.length : Int) = 0 := by omega
    generalize l[i] = x at *
    generalize hq : x / b.accept.length = q at *
    generalize hr : x % b.accept.length = r at *
    have wq : IntKind.i64.wrap (q : Int) = (q : Int) := wrap_in (by omega) (by omega)
    have ga : ∀ v : V, (a.next.map NT).getD q v = NT (a.nx q) := fun v => getD_NT (by rw [ha.ok.1]; exact hxL.1) v
    have gb : ∀ v : V, (b.next.map NT).getD r v = NT (b.nx r) := fun v => getD_NT (by rw [hb.ok.1]; exact hxL.2.1) v
    have ca : ∀ v : V, (a.accept.map B).getD q v = B (accN a q) := fun v => getD_B hxL.1 v
    have cb : ∀ v : V, (b.accept.map B).getD r v = B (accN b r) := fun v => getD_B hxL.2.1 v
    have pa : (q : Int) < a.next.length := by rw [ha.ok.1]; omega
    have pb : (r : Int) < b.next.length := by rw [hb.ok.1]; omega
    have pa' : (q : Int) < a.accept.length := by omega
    have pb' : (r : Int) < b.accept.length := by omega
    have na := DN.nx_lt ha.ok hxL.1
    have nb := DN.nx_lt hb.ok hxL.2.1
    generalize a.nx q = A at *
    generalize b.nx r = C at *
    generalize succI a b x = tt at *
    generalize accN a q = acA at *
    generalize accN b r = acB at *
    have htt : ∀ j (hj : j < 3), (l3 tt)[j]'(by rw [l3_len]; exact hj) = (l3 A)[j]'(by rw [l3_len]; exact hj) * b.accept.length + (l3 C)[j]'(by rw [l3_len]; exact hj) ∧ (l3 A)[j]'(by rw [l3_len]; exact hj) < 40 ∧ (l3 C)[j]'(by rw [l3_len]; exact hj) < 40 := by
      intro j hj
      rw [hsu]
      match j, hj with
      | 0, _ => exact ⟨rfl, by show A.1 < 40; omega, by show C.1 < 40; omega⟩
      | 1, _ => exact ⟨rfl, by show A.2.1 < 40; omega, by show C.2.1 < 40; omega⟩
      | 2, _ => exact ⟨rfl, by show A.2.2 < 40; omega, by show C.2.2 < 40; omega⟩
    simp only [go_sem, k1, hgl, b0, dq, dr, wq]
    refine iter_inv (fun j : Nat => j ≤ 3) (fun j => { t := upd (upd (upd (upd (upd (upd (upd (upd (upd (upd (upd (upd e0 15 (.int .i64 j)) 14 (.slc true 1 (((l3 tt).take j).map (ixB L)))) 13 (.int .i64 r)) 12 (.int .i64 q)) 11 (.int .i64 i)) 10 (.slc true 1 ((((l3 tt).take j).foldl ins l).map IN))) 9 (.ptr 0 9 0)) 8 (.int .i64 b.accept.length)) 6 (.ptr 0 6 0)) 4 (.ptr 0 4 0)) 3 (.ptr 0 3 0)) 2 (.int .i64 kind), b := upd (upd (upd (upd n0 9 (some (Ob.box [.slc true 1 ((L.take i).map (accB (accI kind a b))), .slc true 1 ((L.take i).map (rowB (succI a b) L))]))) 6 (some (Ob.box [.slc true 1 [], .slc true 1 []]))) 4 (some (Ob.box [.slc false 1 (b.accept.map B), .slc false 1 (b.next.map NT)]))) 3 (some (Ob.box [.slc false 1 (a.accept.map B), .slc false 1 (a.next.map NT)])), o := [], r := #[ResultVar.cell 6 39, ResultVar.tmp 7], f := 120, n := 143 }) (fun _ => RES) (fun j => 3 - j) ?_ 0 (by omega)
    intro j hj ihj
    by_cases h' : j < 3
    rotate_left
    · obtain rfl : j = 3 := by omega
      have e3 : ((l3 tt).take 3).foldl ins l = ins3 l tt := rfl
      have e4 : ((l3 tt).take 3).map (ixB L) = [IN (ixD L tt.1), IN (ixD L tt.2.1), IN (ixD L tt.2.2)] := rfl
      rw [e3, e4]
      have k3 : ¬ ((3 : Nat) : Int) < 3 := by omega
      have a1 : (i + 1) * 1 ≤ 140737488355328 := by omega
      have a2 : (i + 1) * 24 ≤ 140737488355328 := by omega
      have kb : kind = 6 ↔ (kind == 6) = true := by simp
      simp only [kb, k6, if_true, if_false, Bool.false_eq_true] at ihn
      cases acA <;> simp only [go_sem, k3, pa', pb', ca, cb, k6, htk, a1, a2, wi, Bool.true_and, Bool.false_and, Bool.true_or, Bool.false_or] at ihn ⊢ <;> exact ihn
    have k2 : (j : Int) < 3 := by omega
    have wj := wrap_nat (n := j) (by omega)
    have hpre : ((l3 tt).take (j + 1)).foldl ins l <+: L := by
      refine List.IsPrefix.trans ?_ hpL
      rw [← ins3_l3]
      have e : (l3 tt).foldl ins l = ((l3 tt).drop (j + 1)).foldl ins (((l3 tt).take (j + 1)).foldl ins l) := by
        rw [← List.foldl_append, List.take_append_drop]
      rw [e]
      exact foldl_ins_pre _ _
    have hji : j < (l3 tt).length := by rw [l3_len]; exact h'
    have ihm := ihj (j + 1) (by omega) (by omega)
    rw [foldl_take _ _ hji] at hpre ihm
    rw [take_snoc hji, List.map_append, List.map_cons, List.map_nil] at ihm
    have eix : ixB L (l3 tt)[j] = IN (ixD L (l3 tt)[j]) := rfl
    rw [eix] at ihm
    obtain ⟨ht1, ht2, ht3⟩ := htt j h'
    have gA := get3 A h'
    have gC := get3 C h'
    generalize (l3 A)[j]'(by rw [l3_len]; exact h') = Aj at *
    generalize (l3 C)[j]'(by rw [l3_len]; exact h') = Cj at *
    generalize (l3 tt)[j] = y at *
    have hab : Aj * b.accept.length ≤ 40 * 40 := Nat.mul_le_mul (by omega) (by omega)
    have wm : IntKind.i64.wrap ((Aj : Int) * (b.accept.length : Int)) = ((Aj * b.accept.length : Nat) : Int) := by
      rw [← Int.natCast_mul]; exact wrap_in (by omega) (by omega)
    have wa : IntKind.i64.wrap (((Aj * b.accept.length : Nat) : Int) + (Cj : Int)) = (y : Int) := by
      rw [ht1, ← Int.natCast_add]; exact wrap_in (by omega) (by omega)
    have hrl : (((l3 tt).take j).map (ixB L)).length = j := by rw [List.length_map, List.length_take, l3_len]; omega
    have a1 : (j + 1) * 8 ≤ 140737488355328 := by omega
    generalize ((l3 tt).take j).map (ixB L) = row at *
    generalize ((l3 tt).take j).foldl ins l = m at *
    have hml := Nat.le_trans hpre.length_le hLl
    have hmi := (ins_pre m y).length_le
    have ip := idxP (l := m) (x := y)
    have f1 := findN m (by omega) y
    have f2 := findN (ins m y) (by omega) y
    rw [ip.1 L hpre] at f2
    have exL : L.idxOf y = ixD L y := rfl
    rw [exL] at f2
    by_cases hm' : y ∈ m
    · have hp0 : ¬ (posP (fun z : Int => z == (y : Int)) (m.map fun n : Nat => (n : Int)) 0 < 0) := fun e => ip.2.1 e hm'
      rw [ins, if_pos hm'] at ihm f2
      rw [f1] at f2
      have f3 := (V.int.inj ((Prod.mk.inj (Option.some.inj f2)).1)).2
      rw [f3] at f1 hp0
      simp only [go_sem, k2]
      rw [q_drs]
      rotate_left
      · kernel_rfl
      simp only [go_sem, pa, pb, ga, gb, k2, gA, gC, wm, wa, f1, hp0, hrl, a1, wj]
      exact ihm
    · have hp0 : posP (fun z : Int => z == (y : Int)) (m.map fun n : Nat => (n : Int)) 0 < 0 := ip.2.2 hm'
      rw [ins, if_neg hm'] at ihm f2 hml
      rw [List.length_append] at hml
      simp only [List.length_cons, List.length_nil] at hml
      have a3 : (m.length + 1) * 8 ≤ 140737488355328 := by omega
      have es := map_IN_one m y
      rw [es] at ihm f2
      simp only [go_sem, k2]
      rw [q_drs]
      rotate_left
      · kernel_rfl
      simp only [go_sem, pa, pb, ga, gb, k2, gA, gC, wm, wa, f1, hp0, a3, f2, hrl, a1, wj]
      exact ihm
end Go.Ev
namespace Go.Ev
open Go Go.Proofs
set_option maxRecDepth 10000
set_option maxHeartbeats 4000000
set_option linter.unusedVariables false
set_option linter.unusedSimpArgs false

theorem r208 (d : DN) (h : Val d) : run EE 208 [d.enc] [] = some ((quotS d 0).encU, []) := by
  have hl := h.le
  have mi := r203 d h.ok (by omega) h.pos
  rw [minS_S h.ok h.pos] at mi
  have vd := vd_s d h.ok (by omega)
  rw [decide_eq_true h.pos, decide_eq_true h.le] at vd
  generalize quotS d 0 = q at mi ⊢
  simp only [DN.enc, DN.encU] at mi vd
  rw [run_eq EE 208 _ _ Tryz.func208 (by decide +kernel) rfl (show 1 ≤ _ by decide)]
  dsimp only [Tryz.f208]
  simp only [go_sem, vd, mi, Bool.and_self, Bool.not_true, DN.encU]
theorem r121 (d : DN) (h : Val d) : run EE 121 [d.enc] [] = some ((cplD (quotS d 0)).enc, []) := by
  have mi := r208 d h
  have hq := quotS_val h h.pos
  generalize quotS d 0 = q at mi hq ⊢
  have hp := hq.pos
  have hle := hq.le
  simp only [DN.enc, DN.encU] at mi
  obtain ⟨a0, ar, hac⟩ : ∃ a0 ar, q.accept = a0 :: ar := by
    cases he : q.accept with
    | nil => rw [he] at hp; simp at hp
    | cons a l => exact ⟨a, l, rfl⟩
  have hal : q.accept.length = ar.length + 1 := by rw [hac]; rfl
  rw [run_eq EE 121 _ _ Tryz.func121 (by decide +kernel) rfl (show 1 ≤ _ by decide)]
  dsimp only [Tryz.f121]
  simp only [go_sem, mi, hac]
  rw [← hal]
  have hz : V.bool a0 :: ar.map B = turnB q.accept 0 := by rw [turnB_0, hac]; rfl
  rw [hz]
  have hcq : (cplD q).accept = q.accept.map (!·) := rfl
  have hcn : (cplD q).next = q.next := rfl
  rw [hcq, hcn]
  clear hz hac hal mi a0 ar
  refine iter_inv (fun i : Nat => i ≤ q.accept.length) (fun i => { t := upd (upd (upd e0 4 (.int .i64 i)) 3 (.ptr 0 3 0)) 2 (.ptr 0 2 0), b := upd (upd (upd (upd n0 217 (some (Ob.arr false 1 (turnB q.accept i)))) 3 (some (Ob.box [.aref 0 217 q.accept.length, .slc true 1 (q.next.map NT)]))) 2 (some (Ob.box [.slc true 1 [], .slc true 1 []]))) 1 (some (Ob.box [.slc false 1 (d.accept.map B), .slc false 1 (d.next.map NT)])), o := [], r := #[ResultVar.cell 2 39], f := 121, n := 25 }) (fun _ => some (V.agg [V.slc false 1 ((q.accept.map (!·)).map B), V.slc false 1 (q.next.map NT)], [])) (fun i => q.accept.length - i) ?_ 0 (Nat.zero_le _)
  intro i hi ih
  have htl := turnB_len q.accept i hi
  by_cases hlt : i < q.accept.length
  · have k1 : (i : Int) < q.accept.length := by omega
    have wi := wrap_nat (n := i) (by omega)
    have ihn := ih (i + 1) (by omega) (by omega)
    have hg := fun v : V => turnB_get hlt v
    have hset := turnB_set hlt
    simp only [B] at hg hset
    simp only [go_sem, k1]
    rw [q_drs]
    rotate_left
    · kernel_rfl
    simp only [go_sem, k1, hg, htl, hlt, hset, wi]
    exact ihn
  · have k1 : ¬ (i : Int) < q.accept.length := by omega
    obtain rfl : i = q.accept.length := by omega
    have hall := turnB_all q.accept
    simp only [go_sem, k1, htl, hall]
theorem r58 (d : DN) (h : Val d) : run EE 58 [d.enc] [] = some ((cplD (quotS d 0)).enc, []) := by
  have hl := h.le
  have vd := vd_i d h
  have hp := h.pos
  have hcl : (cplD d).accept.length = d.accept.length := by simp [cplD]
  have mi := r123 (cplD d) (cplD_ok h.ok) (by omega) 0 (by omega)
  rw [quotS_cpl h.ok hp] at mi
  have ez0 : ((0 : Nat) : Int) = 0 := rfl
  rw [ez0] at mi
  generalize cplD (quotS d 0) = q at mi ⊢
  have hac : (cplD d).accept = d.accept.map (!·) := rfl
  have hne : (cplD d).next = d.next := rfl
  simp only [DN.enc, hac, hne] at mi vd
  rw [run_eq EE 58 _ _ Tryz.func58 (by decide +kernel) rfl (show 1 ≤ _ by decide)]
  dsimp only [Tryz.f58]
  simp only [go_sem, vd, Bool.not_true]
  refine iter_inv (fun i : Nat => i ≤ d.accept.length) (fun i => { t := upd (upd (upd (upd (upd e0 16 (.int .i64 i)) 15 (.int .i64 d.accept.length)) 14 (.slc false 1 (d.accept.map B))) 3 (.ptr 0 3 0)) 2 (.ptr 0 2 0), b := upd (upd (upd n0 3 (some (Ob.box [.slc true 1 ((d.accept.take i).map notB), .slc false 1 (d.next.map NT)]))) 2 (some (Ob.box [.slc true 1 [], .slc true 1 []]))) 1 (some (Ob.box [.slc false 1 (d.accept.map B), .slc false 1 (d.next.map NT)])), o := [], r := #[ResultVar.cell 2 39], f := 58, n := 30 }) (fun _ => some (q.enc, [])) (fun i => d.accept.length - i) ?_ 0 (Nat.zero_le _)
  intro i hi ih
  by_cases hlt : i < d.accept.length
  · have k1 : (i : Int) < d.accept.length := by omega
    have wi := wrap_nat (n := i) (by omega)
    have ihn := ih (i + 1) (by omega) (by omega)
    rw [take_snoc hlt, List.map_append, List.map_cons, List.map_nil] at ihn
    have en : notB d.accept[i] = .bool !d.accept[i] := rfl
    rw [en] at ihn
    have hg : ∀ v : V, (d.accept.map B).getD i v = B d.accept[i] := fun v => getD_map hlt v
    have htk : (d.accept.take i).length = i := by rw [List.length_take]; omega
    have a1 : (i + 1) * 1 ≤ 140737488355328 := by omega
    simp only [go_sem, k1, hg, htk, a1, wi]
    exact ihn
  · have k1 : ¬ (i : Int) < d.accept.length := by omega
    rw [List.take_of_length_le (by omega)]
    have en : d.accept.map notB = (d.accept.map (!·)).map B := by rw [List.map_map]; rfl
    rw [en]
    simp only [go_sem, k1, mi]
end Go.Ev
namespace Go.Ev
open Go Go.Proofs
set_option maxRecDepth 10000
set_option linter.unusedVariables false
set_option linter.unusedSimpArgs false

theorem r106 (s : ByteArray) (hs : s.size ≤ 9223372036854775806) : run EE 106 [.str s] [] = some (.bool (allB isLtr s 0), []) := by
  rw [run_eq EE 106 _ _ Tryz.func106 (by decide +kernel) rfl (show 1 ≤ _ by decide)]
  dsimp only [Tryz.f106]
  simp only [go_sem]
  refine iter_rule (fun i : Nat => { t := upd (upd e0 3 (.int .i64 i)) 0 (.str s), b := n0, o := [], r := #[ResultVar.tmp 2], f := 106, n := 15 }) (fun i => some (.bool (allB isLtr s i), [])) (fun i => s.size - i) ?_ 0
  intro i ih
  by_cases h : i < s.size
  · have h1 : (i : Int) < s.size := by omega
    have w := wrap_nat (n := i) (by omega)
    have f2 := r111 (bt s i) (bt_nonneg s i) (bt_lt s i)
    rw [allB_next isLtr s h]
    simp only [go_sem, h1, f2]
    refine condL_dec (fun c => ?_) (fun c => ?_)
    · have c' : isLtr (bt s i) = false := by unfold isLtr; simp; omega
      simp only [go_sem, c', Bool.false_and]
    · have c' : isLtr (bt s i) = true := by unfold isLtr; simp; omega
      simp only [go_sem, c', Bool.true_and, w]
      exact ih (i + 1) (by omega)
  · have h1 : ¬ (i : Int) < s.size := by omega
    rw [allB_end isLtr s h]
    simp only [go_sem, h1]
theorem r45 (s : ByteArray) (hs : s.size ≤ 9223372036854775806) : run EE 45 [.str s] [] = some (.bool (isWord s), []) := by
  have f := r106 s hs
  rw [run_eq EE 45 _ _ Tryz.func45 (by decide +kernel) rfl (show 1 ≤ _ by decide)]
  dsimp only [Tryz.f45]
  unfold isWord
  simp only [go_sem, f]
  refine guardL_bool (fun c => ?_) (fun c => ?_)
  · have c' : (s.size : Int) ≤ 30 := by simpa using c
    have c'' : s.size ≤ 30 := by omega
    simp only [go_sem, c', c'', f, Bool.true_and]
  · have c' : ¬ (s.size : Int) ≤ 30 := by simpa using c
    have c'' : ¬ s.size ≤ 30 := by omega
    simp only [go_sem, c', c'', Bool.false_and]
theorem r40 (s : ByteArray) (hs : s.size ≤ 9223372036854775806) : run EE 40 [.str s] [] = some (.bool (isWord s), []) := by
  rw [run_eq EE 40 _ _ Tryz.func40 (by decide +kernel) rfl (show 1 ≤ _ by decide)]
  dsimp only [Tryz.f40]
  simp only [go_sem]
  refine (iter_rule (fun i : Nat => { t := upd (upd e0 3 (.int .i64 i)) 0 (.str s), b := n0, o := [], r := #[ResultVar.tmp 2], f := 40, n := 18 }) (fun i => some (.bool (allB isLtr s i && decide (s.size ≤ 30)), [])) (fun i => s.size - i) ?_ 0).trans ?_
  · intro i ih
    by_cases h : i < s.size
    · have h1 : (i : Int) < s.size := by omega
      have w := wrap_nat (n := i) (by omega)
      have f2 := r100 (bt s i)
      rw [allB_next isLtr s h]
      simp only [go_sem, h1, f2]
      refine condL_dec (fun c => ?_) (fun c => ?_)
      · have c' : isLtr (bt s i) = false := by unfold isLtr; simp; omega
        simp only [go_sem, c', Bool.false_and]
      · have c' : isLtr (bt s i) = true := by unfold isLtr; simp; omega
        simp only [go_sem, c', Bool.true_and, w]
        exact ih (i + 1) (by omega)
    · have h1 : ¬ (i : Int) < s.size := by omega
      rw [allB_end isLtr s h]
      by_cases c : s.size ≤ 30
      · have c' : (s.size : Int) ≤ 30 := by omega
        simp only [go_sem, h1, c, c', Bool.true_and]
      · have c' : ¬ (s.size : Int) ≤ 30 := by omega
        simp only [go_sem, h1, c, c', Bool.true_and]
  · unfold isWord
    rw [Bool.and_comm]
end Go.Ev
namespace Go.Ev
open Go Go.Proofs
set_option maxRecDepth 10000
set_option maxHeartbeats 4000000
set_option linter.unusedVariables false
set_option linter.unusedSimpArgs false

theorem r195 (s : ByteArray) (hs : s.size ≤ 9223372036854775806) : run EE 195 [.str s] [] = some (resO (if isWord s = true then some (quotS (wordW s) 0) else none), []) := by
  have iw := r45 s hs
  rw [run_eq EE 195 _ _ Tryz.func195 (by decide +kernel) rfl (show 1 ≤ _ by decide)]
  dsimp only [Tryz.f195]
  by_cases hw : isWord s = true
  rotate_left
  · have hw' : isWord s = false := by simpa using hw
    rw [hw'] at iw ⊢
    simp only [go_sem, iw, Bool.not_false, Bool.false_eq_true, if_false, resO]
  rw [if_pos hw]
  rw [hw] at iw
  have hle := word_le hw
  have hv := wordW_ok s
  have mi := r123 (wordW s) hv.1 (by omega) 0 (by omega)
  have ez0 : ((0 : Nat) : Int) = 0 := rfl
  rw [ez0] at mi
  generalize quotS (wordW s) 0 = r at mi ⊢
  obtain ⟨N, hN⟩ : ∃ N, N = s.size + 2 := ⟨_, rfl⟩
  have hwd : (wordW s).enc = .agg [.slc false 1 ((List.range (s.size + 2)).map (aW s)), .slc false 1 ((List.range (s.size + 2)).map (rW s))] := by
    rw [aW_map, rW_map]; rfl
  rw [hwd, ← hN] at mi
  simp only [DN.enc] at mi
  have w2 : IntKind.i64.wrap ((s.size : Int) + 2) = (N : Int) := by
    rw [wrap_in (n := (s.size : Int) + 2) (by omega) (by omega)]; omega
  have w1 : IntKind.i64.wrap ((s.size : Int) + 1) = ((s.size + 1 : Nat) : Int) := wrap_in (by omega) (by omega)
  simp only [go_sem, iw, w2, Bool.not_true]
  refine iter_inv (fun i : Nat => i ≤ N) (fun i => { t := upd (upd (upd (upd (upd (upd e0 17 (.int .i64 i)) 16 (.int .i64 N)) 5 (.ptr 0 5 0)) 4 (.int .i64 s.size)) 2 (.ptr 0 2 0)) 0 (.str s), b := upd (upd n0 5 (some (Ob.box [.slc true 1 ((List.range i).map (aW s)), .slc true 1 ((List.range i).map (rW s))]))) 2 (some (Ob.box [.slc true 1 [], .slc true 1 []])), o := [], r := #[ResultVar.cell 2 39, ResultVar.tmp 3], f := 195, n := 55 }) (fun _ => some (resO (some r), [])) (fun i => N - i) ?_ 0 (Nat.zero_le _)
  intro i hi ih
  by_cases h : i < N
  rotate_left
  · have k1 : ¬ (i : Int) < (N : Int) := by omega
    obtain rfl : i = N := by omega
    simp only [go_sem, k1, mi, resO]
  have k1 : (i : Int) < (N : Int) := by omega
  have wi := wrap_nat (n := i) (by omega)
  have ihn := ih (i + 1) (by omega) (by omega)
  rw [List.range_succ, List.map_append, List.map_append, List.map_cons, List.map_nil, List.map_cons, List.map_nil] at ihn
  have ea : aW s i = .bool ((i : Int) == (s.size : Int)) := rfl
  have er : rW s i = .slc false 1 [IN (wc s i 0), IN (wc s i 1), IN (wc s i 2)] := rfl
  rw [ea, er] at ihn
  have hrl : (List.range i).length = i := List.length_range
  have a1 : (i + 1) * 1 ≤ 140737488355328 := by omega
  have a2 : (i + 1) * 24 ≤ 140737488355328 := by omega
  by_cases hn : i < s.size
  · have kn : (i : Int) < s.size := by omega
    have li := r111 (bt s i) (bt_nonneg s i) (bt_lt s i)
    unfold wc at ihn
    rcases word_ltr hw hn with hl | hl | hl
    all_goals
      simp only [hl, hn, true_and, Int.reduceEq, if_true, if_false] at ihn
      rw [hl] at li
      simp only [go_sem, k1, w1, kn, li, wi, hrl, a1, a2]
      exact ihn
  · have kn : ¬ (i : Int) < s.size := by omega
    unfold wc at ihn
    simp only [hn, false_and, if_false] at ihn
    simp only [go_sem, k1, w1, kn, wi, hrl, a1, a2]
    exact ihn
theorem r288 (s : ByteArray) (hw : isWord s = true) : run EE 288 [.str s] [] = some ((quotS (wordW s) 0).encT, []) := by
  have hle := word_le hw
  have hv := wordW_ok s
  have mi := r203 (wordW s) hv.1 (by omega) (by omega)
  rw [minS_S hv.1 (by omega)] at mi
  generalize quotS (wordW s) 0 = r at mi ⊢
  obtain ⟨N, hN⟩ : ∃ N, N = s.size + 2 := ⟨_, rfl⟩
  have hwd : (wordW s).enc = .agg [.slc false 1 ((List.range (s.size + 2)).map (aW s)), .slc false 1 ((List.range (s.size + 2)).map (rW s))] := by
    rw [aW_map, rW_map]; rfl
  rw [hwd, ← hN] at mi
  simp only [DN.encU] at mi
  have w1 : IntKind.i64.wrap ((s.size : Int) + 1) = ((s.size + 1 : Nat) : Int) := wrap_in (by omega) (by omega)
  rw [run_eq EE 288 _ _ Tryz.func288 (by decide +kernel) rfl (show 1 ≤ _ by decide)]
  dsimp only [Tryz.f288]
  simp only [go_sem, w1]
  refine iter_inv (fun i : Nat => i ≤ N) (fun i => { t := upd (upd (upd (upd (upd e0 5 (.int .i64 i)) 4 (.int .i64 (s.size + 1 : Nat))) 3 (.ptr 0 3 0)) 2 (.ptr 0 2 0)) 0 (.str s), b := upd (upd n0 3 (some (Ob.box [.slc true 1 ((List.range i).map (aW s)), .slc true 1 ((List.range i).map (rW s))]))) 2 (some (Ob.box [.slc true 1 [], .slc true 1 []])), o := [], r := #[ResultVar.cell 2 39], f := 288, n := 60 }) (fun _ => some (r.encT, [])) (fun i => N - i) ?_ 0 (Nat.zero_le _)
  intro i hi ih
  by_cases h : i < N
  rotate_left
  · have k1 : ¬ (i : Int) ≤ ((s.size + 1 : Nat) : Int) := by omega
    obtain rfl : i = N := by omega
    simp only [go_sem, k1, mi, DN.encT]
  have k1 : (i : Int) ≤ ((s.size + 1 : Nat) : Int) := by omega
  have wi := wrap_nat (n := i) (by omega)
  have ihn := ih (i + 1) (by omega) (by omega)
  rw [List.range_succ, List.map_append, List.map_append, List.map_cons, List.map_nil, List.map_cons, List.map_nil] at ihn
  have ea : aW s i = .bool ((i : Int) == (s.size : Int)) := rfl
  have er : rW s i = .slc false 1 [IN (wc s i 0), IN (wc s i 1), IN (wc s i 2)] := rfl
  rw [ea, er] at ihn
  have hrl : (List.range i).length = i := List.length_range
  have a1 : (i + 1) * 1 ≤ 140737488355328 := by omega
  have a2 : (i + 1) * 24 ≤ 140737488355328 := by omega
  simp only [go_sem, k1]
  by_cases hn : i < s.size
  · have kn : (i : Int) < s.size := by omega
    have li := r100 (bt s i)
    unfold wc at ihn
    rcases word_ltr hw hn with hl | hl | hl
    all_goals
      simp only [hl, hn, true_and, Int.reduceEq, if_true, if_false] at ihn
      rw [hl] at li
      rw [iter_eq]
      simp only [go_sem, k1, w1, kn, li, wi]
      rw [iter_eq]
      simp only [go_sem, k1, w1, kn, li, wi]
      rw [iter_eq]
      simp only [go_sem, k1, w1, kn, li, wi]
      rw [iter_eq]
      simp only [go_sem, k1, w1, kn, li, wi, hrl, a1, a2]
      exact ihn
  · have kn : ¬ (i : Int) < s.size := by omega
    unfold wc at ihn
    simp only [hn, false_and, if_false] at ihn
    rw [iter_eq]
    simp only [go_sem, k1, w1, kn, wi]
    rw [iter_eq]
    simp only [go_sem, k1, w1, kn, wi]
    rw [iter_eq]
    simp only [go_sem, k1, w1, kn, wi]
    rw [iter_eq]
    simp only [go_sem, k1, w1, kn, wi, hrl, a1, a2]
    exact ihn
end Go.Ev
namespace Go.Ev
open Go Go.Proofs
set_option maxRecDepth 10000
set_option maxHeartbeats 4000000
set_option linter.unusedVariables false
set_option linter.unusedSimpArgs false

theorem r261 (d : DN) (ho : d.ok) (hn : d.accept.length ≤ 40) (S l : Nat) (hl : l < 3) (hS : S < 2 ^ d.accept.length) : run EE 261 [d.enc, .int .u64 S, .int .i64 l] [] = some (.int .u64 (moveN d S l), []) := by
  generalize hRES : (some (V.int .u64 (moveN d S l), []) : Option (V × List (Nat → Option Ob))) = RES
  have hnl := ho.1
  simp only [DN.enc]
  rw [run_eq EE 261 _ _ Tryz.func261 (by decide +kernel) rfl (show 3 ≤ _ by decide)]
  dsimp only [Tryz.f261]
  simp only [go_sem]
  refine iter_inv (fun i : Nat => i ≤ d.accept.length) (fun i => { t := upd (upd (upd (upd (upd (upd e0 13 (.int .i64 i)) 12 (.int .i64 d.next.length)) 11 (.slc false 1 (d.next.map NT))) 7 (.int .u64 (mvK d l S i))) 2 (.int .i64 l)) 1 (.int .u64 S), b := upd n0 3 (some (Ob.box [.slc false 1 (d.accept.map B), .slc false 1 (d.next.map NT)])), o := [], r := #[ResultVar.tmp 6], f := 261, n := 32 }) (fun _ => RES) (fun i => d.accept.length - i) ?_ 0 (Nat.zero_le _)
  intro i hi ih
  by_cases h : i < d.accept.length
  rotate_left
  · have k1 : ¬ (i : Int) < d.next.length := by omega
    obtain rfl : i = d.accept.length := by omega
    subst hRES
    simp only [go_sem, k1, moveN]
  have k1 : (i : Int) < d.next.length := by omega
  have k2 : (l : Int) < 3 := by omega
  have wi := wrap_nat (n := i) (by omega)
  have ihn := ih (i + 1) (by omega) (by omega)
  rw [mvK_succ] at ihn
  have gn : ∀ v : V, (d.next.map NT).getD i v = NT (d.nx i) := fun v => getD_NT (by omega) v

  have hb := u64_bit S i (by omega)
  have hni := nneg i
  unfold mvF at ihn
  by_cases hS : S.testBit i = true
  · rw [if_pos hS] at hb ihn
    have hq := nx3_lt (nx_lt3 ho i h) hl
    have hsl := u64_shl (nx3 (d.nx i) l) (by omega)
    have hor := u64_or (mvK d l S i) (2 ^ nx3 (d.nx i) l) (Nat.lt_of_lt_of_le (mvK_lt ho hl S i hi) (Nat.pow_le_pow_right (by decide) (by omega))) (Nat.pow_lt_pow_right (by decide) (by omega))
    have k2 : (l : Int) < 3 := by omega
    have hnq := nneg (nx3 (d.nx i) l)
    have g3 := nx3_get (d.nx i) hl
    generalize d.nx i = t at *
    generalize hQ : nx3 t l = Q at *
    generalize mvK d l S i = m at *
    simp only [go_sem, k1, k2, wi, gn, hb, hni, hnq, g3, hsl, hor]
    exact ihn
  · rw [if_neg hS] at hb ihn
    simp only [go_sem, k1, wi, gn, hb, hni]
    exact ihn
theorem r259 (d : DN) (ho : d.ok) (hn : d.accept.length ≤ 40) (S : Nat) : run EE 259 [d.enc, .int .u64 S] [] = some (B (anyN d S), []) := by
  unfold anyN
  have hnl := ho.1
  simp only [DN.enc]
  rw [run_eq EE 259 _ _ Tryz.func259 (by decide +kernel) rfl (show 2 ≤ _ by decide)]
  dsimp only [Tryz.f259]
  simp only [go_sem]
  refine iter_inv (fun i : Nat => i ≤ d.accept.length ∧ (List.range i).any (fun q => accN d q && S.testBit q) = false) (fun i => { t := upd (upd (upd (upd e0 10 (.int .i64 i)) 9 (.int .i64 d.accept.length)) 8 (.slc false 1 (d.accept.map B))) 1 (.int .u64 S), b := upd n0 2 (some (Ob.box [.slc false 1 (d.accept.map B), .slc false 1 (d.next.map NT)])), o := [], r := #[ResultVar.tmp 4], f := 259, n := 24 }) (fun _ => some (B ((List.range d.accept.length).any fun q => accN d q && S.testBit q), [])) (fun i => d.accept.length - i) ?_ 0 ⟨Nat.zero_le _, rfl⟩
  rintro i ⟨hi, hf⟩ ih
  by_cases h : i < d.accept.length
  rotate_left
  · have k1 : ¬ (i : Int) < d.accept.length := by omega
    obtain rfl : i = d.accept.length := by omega
    rw [hf]
    simp only [go_sem, k1]
  have k1 : (i : Int) < d.accept.length := by omega
  have wi := wrap_nat (n := i) (by omega)
  have gb : ∀ v : V, (d.accept.map B).getD i v = B (accN d i) := fun v => getD_B h v
  have hb := u64_bit S i (by omega)
  have hni := nneg i
  have ihn := fun hh => ih (i + 1) ⟨by omega, hh⟩ (by omega)
  rw [List.range_succ, List.any_append, hf, Bool.false_or, List.any_cons, List.any_nil, Bool.or_false] at ihn
  have hy : ∀ b, (accN d i && S.testBit i) = b → b = true → (List.range d.accept.length).any (fun q => accN d q && S.testBit q) = true := by
    rintro b e rfl
    exact List.any_eq_true.2 ⟨i, List.mem_range.2 h, e⟩
  generalize (List.range d.accept.length).any (fun q => accN d q && S.testBit q) = res at *
  generalize accN d i = A at *
  cases A
  · have ihm := ihn rfl
    simp only [go_sem, k1, wi, gb]
    exact ihm
  by_cases hS : S.testBit i = true
  · rw [if_pos hS] at hb
    rw [hy true (by rw [hS]; rfl) rfl]
    simp only [go_sem, k1, wi, gb, hb, hni]
  · rw [if_neg hS] at hb
    have ihm := ihn (by simpa using hS)
    simp only [go_sem, k1, wi, gb, hb, hni]
    exact ihm
end Go.Ev
