/- Joins: the reference's. Repetitions: the reference's. Morphisms, the empty expression, validity of expressions. Validity of expressions. Expressions compiled, both. Expressions compiled: the program's whole. Expressions compiled: the reference's. Lines of programs: the program's. Programs: the program's validity. -/
import Derived.Test.YtlncmdbipjlfhaaGreatEvU
import Derived.Test.YtlncmdbipjlfhaaGreatEvN
import Derived.Test.YtlncmdbipjlfhaaGreatEvP
import Derived.Test.YtlncmdbipjlfhaaGreatEvS
set_option linter.unusedVariables false
set_option linter.unusedSimpArgs false
namespace Go.Ev
open Go Go.Proofs
set_option maxRecDepth 10000
set_option maxHeartbeats 4000000

theorem ins_len {α : Type} [DecidableEq α] (l : List α) (x : α) : (ins l x).length ≤ l.length + 1 := by
 unfold ins
 by_cases h : x ∈ l
 · rw [if_pos h]; omega
 · rw [if_neg h, List.length_append]; simp
theorem vt_s (d : DN) (h : Val d) : run EE 67 [d.enc] [] = some (.bool true, []) := by
 have := vd_s d h.ok (by have := h.le; omega)
 rw [decide_eq_true h.pos, decide_eq_true h.le] at this
 exact this
theorem p40 {n : Nat} (h : n ≤ 40) {S : Nat} (hS : S < 2 ^ n) : S < 2 ^ 40 := Nat.lt_of_lt_of_le hS (Nat.pow_le_pow_right (by decide) h)
theorem start0 (a : DN) (h : accN a 0 = false) : (bitsN (begC a (0, 0)).2).map IN = [] := by
 unfold begC
 rw [if_neg (by rw [h]; decide)]
 have : bitsN 0 = [] := by decide
 rw [this]; rfl
theorem start1 (a : DN) (h : accN a 0 = true) : (bitsN (begC a (0, 0)).2).map IN = [.int .i64 0] := by
 unfold begC
 rw [if_pos h]
 have : bitsN (0 ||| 1) = [0] := by decide
 rw [this]; rfl
theorem r115 (a b : DN) (ha : Val a) (hb : Val b) : run EE 115 [a.enc, b.enc] [] = some (resO (concD a b), []) := by
 rw [concD_r ha hb]
 have va := vt_s a ha
 have vb := vt_s b hb
 have p0 : (0 : Int) < a.accept.length := by have := ha.pos; omega
 have g0 : ∀ v : V, (a.accept.map B).getD 0 v = B (accN a 0) := fun v => getD_B ha.pos v
 have ft := fun (hl : (listCr a b).length ≤ 400) => r85 (expD (succCr a b) (accCr b) (listCr a b)) (expD_ok hl).1 (expD_ok hl).2.1 (by have := (expD_ok (acc := accCr b) hl).2.2; unfold listCr; omega)
 generalize hRES : (some (resO (if (listCr a b).length ≤ 400 then fitD (expD (succCr a b) (accCr b) (listCr a b)) else none), []) : Option (V × List (Nat → Option Ob))) = RES
 have s0 := start0 a
 have s1 := start1 a
 have hs0 : inCr a b (fC (begC a (0, 0))) := begC_in (x := (0, 0)) hb ⟨ha.pos, Nat.two_pow_pos _⟩
 have hL : expL (succCr a b) 400 (fC (begC a (0, 0))) = listCr a b := rfl
 have es : enc3 (fC (begC a (0, 0))) = .agg [.int .i64 0, .slc false 1 ((bitsN (begC a (0, 0)).2).map IN), .bool false] := rfl
 generalize hW : (bitsN (begC a (0, 0)).2).map IN = W at s0 s1 es
 generalize fC (begC a (0, 0)) = st at hs0 hL es
 simp only [DN.enc] at va vb
 rw [run_eq EE 115 _ _ Tryz.func115 (by decide +kernel) rfl (show 2 ≤ _ by decide)]
 dsimp only [Tryz.f115]
 have e7 : ∀ b, accN a 0 = b → [V.agg [V.int IntKind.i64 0, V.slc false 1 (if b = true then [.int .i64 0] else []), V.bool false]] = [st].map enc3 := by
   rintro b rfl
   rw [List.map_cons, List.map_nil, es]
   cases h : accN a 0
   · rw [s0 h]; rfl
   · rw [s1 h]; rfl
 have e6 : ∀ b, accN a 0 = b → [V.int IntKind.i64 0, V.slc true 1 (if b = true then [.int .i64 0] else []), V.bool false] = [V.int IntKind.i64 0, V.slc true 1 W, V.bool false] := by
   rintro b rfl
   cases h : accN a 0
   · rw [s0 h]; rfl
   · rw [s1 h]; rfl
 cases hA : accN a 0
 all_goals
   have e7 := e7 _ hA
   have e6 := e6 _ hA
   simp only [if_true, if_false, Bool.false_eq_true] at e6 e7
   rw [hA] at g0
   simp only [go_sem, va, vb, p0, g0, Bool.not_true]
   rw [e6, e7]
   clear e6 e7 g0 s0 s1 hA va vb p0 hW es
   refine iter_inv (fun p : Nat × List Tr3 => p.1 ≤ p.2.length ∧ p.2.length ≤ 400 ∧ (∀ x ∈ p.2, inCr a b x) ∧ bfsL (succCr a b) (400 + 1 - p.1) p.2 p.1 = listCr a b) (fun p => { t := upd (upd (upd (upd (upd (upd e0 9 (.int .i64 p.1)) 8 (.ptr 0 8 0)) 7 (.slc true 3 (p.2.map enc3))) 4 (.ptr 0 4 0)) 3 (.ptr 0 3 0)) 2 (.ptr 0 2 0), b := upd (upd (upd (upd (upd n0 8 (some (Ob.box [.slc true 1 (((listCr a b).take p.1).map (accB (accCr b))), .slc true 1 (((listCr a b).take p.1).map (rowB (succCr a b) (listCr a b)))]))) 6 (some (Ob.box [.int .i64 0, .slc true 1 W, .bool false]))) 4 (some (Ob.box [.slc true 1 [], .slc true 1 []]))) 3 (some (Ob.box [.slc false 1 (b.accept.map B), .slc false 1 (b.next.map NT)]))) 2 (some (Ob.box [.slc false 1 (a.accept.map B), .slc false 1 (a.next.map NT)])), o := [], r := #[ResultVar.cell 4 29, ResultVar.tmp 5], f := 115, n := 119 }) (fun _ => RES) (fun p => 401 - p.1) ?_ (0, [st]) ⟨Nat.zero_le _, by show 1 ≤ 400; decide, by simpa using hs0, hL⟩
   generalize listCr a b = L at *
   rintro ⟨i, l⟩ ⟨hi, hlm, hQl, hb1⟩ ih
   dsimp only at hi hlm hQl hb1 ⊢
   by_cases h : i < l.length
   rotate_left
   · have k1 : ¬ (i : Int) < l.length := by omega
     rw [bfs_done h] at hb1
     subst hb1
     have ft := ft hlm
     rw [if_pos hlm] at hRES
     rw [List.take_of_length_le (by omega), accB_map, rowB_map]
     have hex : (expD (succCr a b) (accCr b) l).enc = .agg [.slc false 1 ((l.map (accCr b)).map B), .slc false 1 ((l.map fun x => rowD l (succCr a b x)).map NT)] := rfl
     rw [hex] at ft
     generalize fitD (expD (succCr a b) (accCr b) l) = r at ft hRES
     subst hRES
     cases r with
     | none => simp only [go_sem, k1, ft, resO]
     | some e => simp only [go_sem, k1, ft, resO, DN.enc]
   have k1 : (i : Int) < l.length := by omega
   have wi := wrap_nat (n := i) (by omega)
   have hQx := hQl _ (List.getElem_mem h)
   have e1 : 400 + 1 - i = (400 + 1 - (i + 1)) + 1 := by omega
   rw [e1, bfs_step h] at hb1
   have hLx : L.take (i + 1) = L.take i ++ [l[i]] := by
     have hp : l <+: L := by rw [← hb1]; exact (ins3_pre _ _).trans (bfs_pre _ _ _ _)
     rw [take_pre hp h]
     congr 1
     obtain ⟨m, rfl⟩ := hp
     rw [List.take_append_of_le_length (by omega)]
   have htk : (L.take i).length = i := by
     have hp : l <+: L := by rw [← hb1]; exact (ins3_pre _ _).trans (bfs_pre _ _ _ _)
     have := hp.length_le
     rw [List.length_take]; omega
   have hpL : ins3 l (succCr a b l[i]) <+: L := by rw [← hb1]; exact bfs_pre _ _ _ _
   have hQt := succCr_in ha hb _ hQx
   have hQ3 : ∀ y ∈ ins3 l (succCr a b l[i]), inCr a b y := fun x hx => by
     rcases mem_ins3.1 hx with hx | rfl | rfl | rfl
     · exact hQl x hx
     · exact hQt.1
     · exact hQt.2.1
     · exact hQt.2.2
   have ihn := fun (hlen : (ins3 l (succCr a b l[i])).length ≤ 400) => ih (i + 1, ins3 l (succCr a b l[i])) ⟨Nat.le_trans h (ins3_pre _ _).length_le, hlen, hQ3, hb1⟩ (by show 401 - (i + 1) < 401 - i; omega)
   dsimp only at ihn
   clear ih
   rw [hLx, List.map_append, List.map_append, List.map_cons, List.map_nil, List.map_cons, List.map_nil] at ihn
   have eab : accB (accCr b) l[i] = .bool (anyN b l[i].2.1) := rfl
   have erb : rowB (succCr a b) L l[i] = .slc false 1 [IN (ixD L (succCr a b l[i]).1), IN (ixD L (succCr a b l[i]).2.1), IN (ixD L (succCr a b l[i]).2.2)] := rfl
   rw [eab, erb] at ihn
   clear eab erb
   have hget := fun j hj => succCr_get a b l[i] (i := j) hj
   obtain ⟨m0, hm0⟩ : ∃ m0, m0 = ins3 l (succCr a b l[i]) := ⟨_, rfl⟩
   have hxl : ∀ (m : List Tr3), l <+: m → ∀ v : V, (m.map enc3).getD i v = .agg [.int .i64 l[i].1, .slc false 1 ((bitsN l[i].2.1).map IN), .bool l[i].2.2] := by
     rintro m ⟨r, rfl⟩ v
     rw [List.map_append, List.getD_eq_getElem?_getD, List.getElem?_append_left (by rw [List.length_map]; exact h), List.getElem?_map, List.getElem?_eq_getElem h]
     rfl
   have hx1 : ((l[i].1 : Nat) : Int) < a.next.length := by have := hQx.1; rw [ha.ok.1]; omega
   have gN : ∀ v : V, (a.next.map NT).getD l[i].1 v = NT (a.nx l[i].1) := fun v => getD_NT (by rw [ha.ok.1]; exact hQx.1) v
   have g3 := fun j (hj : j < 3) => nx3_get (a.nx l[i].1) hj
   have hq3 := fun j (hj : j < 3) => nx3_lt (nx_lt3 ha.ok l[i].1 hQx.1) hj
   have mv := fun j (hj : j < 3) => r134 b hb.ok hb.le l[i].2.1 j hj hQx.2
   have hmv := fun j (hj : j < 3) => moveN_lt hb.ok hj l[i].2.1
   have any := r135 b hb.le l[i].2.1 hQx.2
   generalize hyy : l[i] = y at *
   generalize succCr a b y = tt at *
   simp only [DN.enc] at mv any
   generalize anyN b y.2.1 = AA at *
   simp only [go_sem, k1]
   refine iter_inv (fun j : Nat => j ≤ 3) (fun j => { t := upd (upd (upd (upd (upd (upd (upd (upd e0 11 (.int .i64 j)) 10 (.slc true 1 (((l3A tt).take j).map (ixB L)))) 9 (.int .i64 i)) 8 (.ptr 0 8 0)) 7 (.slc true 3 ((((l3A tt).take j).foldl ins l).map enc3))) 4 (.ptr 0 4 0)) 3 (.ptr 0 3 0)) 2 (.ptr 0 2 0), b := upd (upd (upd (upd (upd n0 8 (some (Ob.box [.slc true 1 ((L.take i).map (accB (accCr b))), .slc true 1 ((L.take i).map (rowB (succCr a b) L))]))) 6 (some (Ob.box [.int .i64 0, .slc true 1 W, .bool false]))) 4 (some (Ob.box [.slc true 1 [], .slc true 1 []]))) 3 (some (Ob.box [.slc false 1 (b.accept.map B), .slc false 1 (b.next.map NT)]))) 2 (some (Ob.box [.slc false 1 (a.accept.map B), .slc false 1 (a.next.map NT)])), o := [], r := #[ResultVar.cell 4 29, ResultVar.tmp 5], f := 115, n := 119 }) (fun _ => RES) (fun j => 3 - j) ?_ 0 (Nat.zero_le _)
   intro j hj ihj
   by_cases h' : j < 3
   rotate_left
   · obtain rfl : j = 3 := by omega
     have e3 : ((l3A tt).take 3).foldl ins l = ins3 l tt := rfl
     have e4 : ((l3A tt).take 3).map (ixB L) = [IN (ixD L tt.1), IN (ixD L tt.2.1), IN (ixD L tt.2.2)] := rfl
     rw [e3, e4]
     have ki : (i : Int) < (ins3 l tt).length := by have := (ins3_pre l tt).length_le; omega
     have hgl := hxl _ (ins3_pre l tt)
     have k3 : ¬ ((3 : Nat) : Int) < 3 := by omega
     have a1 : (i + 1) * 1 ≤ 140737488355328 := by omega
     have a2 : (i + 1) * 24 ≤ 140737488355328 := by omega
     by_cases hgt : (ins3 l tt).length ≤ 400
     · have ihm := ihn hgt
       have kgt : ¬ ((ins3 l tt).length : Int) > 400 := by omega
       simp only [go_sem, k3, kgt]
       rw [q_drawn]
       rotate_left
       · kernel_rfl
       simp only [go_sem, still, eq_self, ki, hgl, any, htk, a1, a2, wi]
       exact ihm
     · have kgt : ((ins3 l tt).length : Int) > 400 := by omega
       have hLl : ¬ L.length ≤ 400 := by have := hpL.length_le; omega
       rw [if_neg hLl] at hRES
       subst hRES
       simp only [go_sem, k3, kgt, resO]
   have k2 : (j : Int) < 3 := by omega
   have wj := wrap_nat (n := j) (by omega)
   have hji : j < (l3A tt).length := by rw [l3A_len]; exact h'
   have hpre : ((l3A tt).take (j + 1)).foldl ins l <+: ins3 l tt := by
     rw [← ins3_l3A]
     have e : (l3A tt).foldl ins l = ((l3A tt).drop (j + 1)).foldl ins (((l3A tt).take (j + 1)).foldl ins l) := by
       rw [← List.foldl_append, List.take_append_drop]
     rw [e]
     exact foldl_ins_pre _ _
   have ihm := ihj (j + 1) (by omega) (by omega)
   rw [foldl_take _ _ hji] at hpre ihm
   rw [take_snoc hji, List.map_append, List.map_cons, List.map_nil] at ihm
   have hil : i < (((l3A tt).take j).foldl ins l).length := Nat.lt_of_lt_of_le h (foldl_ins_pre _ _).length_le
   have ki : (i : Int) < (((l3A tt).take j).foldl ins l).length := by omega
   have hgl := hxl _ (foldl_ins_pre ((l3A tt).take j) l)
   have eix : ixB L (l3A tt)[j] = .int .i64 (ixD L (l3A tt)[j] : Nat) := rfl
   rw [eix] at ihm
   have hly : ixD L (l3A tt)[j] = ixD (ins (((l3A tt).take j).foldl ins l) (l3A tt)[j]) (l3A tt)[j] := ixD_pre (hpre.trans hpL) (ins_mem _ _)
   rw [hly] at ihm
   have hQm : ∀ z ∈ ins (((l3A tt).take j).foldl ins l) (l3A tt)[j], z.2.1 < 2 ^ 40 := fun z hz => p40 hb.le (hQ3 z (hpre.subset hz)).2
   have hlen : (ins (((l3A tt).take j).foldl ins l) (l3A tt)[j]).length ≤ 1048576 := by
     have h1 := hpre.length_le
     have h2 : (ins3 l tt).length ≤ l.length + 3 := by
       have := ins_len l tt.1
       have := ins_len (ins l tt.1) tt.2.1
       have := ins_len (ins (ins l tt.1) tt.2.1) tt.2.2
       show (ins (ins (ins l tt.1) tt.2.1) tt.2.2).length ≤ _
       omega
     omega
   have hrl : (((l3A tt).take j).map (ixB L)).length = j := by rw [List.length_map, List.length_take, l3A_len]; omega
   have a1 : (j + 1) * 8 ≤ 140737488355328 := by omega
   have hgj := hget j h'
   clear hly ihj hpre hget
   generalize ((l3A tt).take j).foldl ins l = m at *
   generalize (l3A tt)[j] = z at *
   generalize ((l3A tt).take j).map (ixB L) = row at *
   have g3 := g3 j h'
   have hq3 := hq3 j h'
   have mv := mv j h'
   have hmv := hmv j h'
   have kq : ((nx3 (a.nx y.1) j : Nat) : Int) < a.accept.length := by omega
   have gA : ∀ v : V, (a.accept.map B).getD (nx3 (a.nx y.1) j) v = B (accN a (nx3 (a.nx y.1) j)) := fun v => getD_B hq3 v
   unfold begC at hgj
   dsimp only at hgj
   have pb := put_bits (moveN b y.2.1 j) 0 (by decide)
   have e20 : 2 ^ 0 = 1 := rfl
   rw [e20] at pb
   have ez0 : ((0 : Nat) : Int) = 0 := rfl
   rw [ez0] at pb
   generalize a.nx y.1 = an at *
   generalize nx3 an j = Qn at *
   generalize moveN b y.2.1 j = M at *
   have hmi : m <+: ins m z := ins_pre m z
   have f1 := r137 m z (by have := hmi.length_le; omega) (fun w hw => hQm w (hmi.subset hw)) (hQm z (ins_mem _ _))
   have f2 := r137 (ins m z) z hlen hQm (hQm z (ins_mem _ _))
   rw [if_pos (ins_mem _ _)] at f2
   have hmz : (ins m z).map enc3 = if z ∈ m then m.map enc3 else m.map enc3 ++ [enc3 z] := by
     unfold ins
     by_cases hz : z ∈ m
     · rw [if_pos hz, if_pos hz]
     · rw [if_neg hz, if_neg hz, List.map_append]; rfl
   have hni := nneg (ixD (ins m z) z)
   have hzm : z ∈ m → ixD (ins m z) z = ixD m z := fun hz => by unfold ins; rw [if_pos hz]
   have hml : (m.length + 1) * 40 ≤ 140737488355328 := by
     have := hmi.length_le
     omega
   generalize hLZ : ixD (ins m z) z = IX at *
   generalize ins m z = mm at *
   have ez : ∀ S2, z = (Qn, S2, false) → enc3 z = .agg [.int .i64 Qn, .slc false 1 ((bitsN S2).map IN), .bool false] := by
     rintro S2 rfl; rfl
   cases hc : accN a Qn
   · rw [hc] at gA hgj
     have ez := ez M (by rw [hgj, if_neg (by decide)]; rfl)
     rw [ez] at f1 f2 hmz
     by_cases hz : z ∈ m
     · rw [if_pos hz, ← hzm hz] at f1
       rw [if_pos hz] at hmz
       rw [hmz] at f2 ihm
       simp only [go_sem, k2]
       rw [q_drawn]
       rotate_left
       · kernel_rfl
       simp only [go_sem, still, eq_self, ki, hgl, hx1, gN, g3, k2, mv, kq, gA, f1, hni, hrl, a1, wj]
       exact ihm
     · rw [if_neg hz] at f1
       rw [if_neg hz] at hmz
       rw [hmz] at f2 ihm
       simp only [go_sem, k2]
       rw [q_drawn]
       rotate_left
       · kernel_rfl
       simp only [go_sem, still, eq_self, ki, hgl, hx1, gN, g3, k2, mv, kq, gA, f1, f2, hni, hrl, a1, hml, wj]
       exact ihm
   · rw [hc] at gA hgj
     have ez := ez (M ||| 1) (by rw [hgj, if_pos rfl]; rfl)
     rw [ez] at f1 f2 hmz
     by_cases hz : z ∈ m
     · rw [if_pos hz, ← hzm hz] at f1
       rw [if_pos hz] at hmz
       rw [hmz] at f2 ihm
       simp only [go_sem, k2]
       rw [q_drawn]
       rotate_left
       · kernel_rfl
       simp only [go_sem, still, eq_self, ki, hgl, hx1, gN, g3, k2, mv, kq, gA, pb, f1, hni, hrl, a1, wj]
       exact ihm
     · rw [if_neg hz] at f1
       rw [if_neg hz] at hmz
       rw [hmz] at f2 ihm
       simp only [go_sem, k2]
       rw [q_drawn]
       rotate_left
       · kernel_rfl
       simp only [go_sem, still, eq_self, ki, hgl, hx1, gN, g3, k2, mv, kq, gA, pb, f1, f2, hni, hrl, a1, hml, wj]
       exact ihm
end Go.Ev
namespace Go.Ev
open Go Go.Proofs
set_option maxRecDepth 10000
set_option maxHeartbeats 4000000

theorem r114 (d : DN) (hd : Val d) : run EE 114 [d.enc] [] = some (resO (starD d), []) := by
 rw [starD_r hd]
 have va := vt_s d hd
 have ft := fun (hl : (listTr d).length ≤ 400) => r85 (expD (succTr d) (accTr d) (listTr d)) (expD_ok hl).1 (expD_ok hl).2.1 (by have := (expD_ok (acc := accTr d) hl).2.2; unfold listTr; omega)
 generalize hRES : (some (resO (if (listTr d).length ≤ 400 then fitD (expD (succTr d) (accTr d) (listTr d)) else none), []) : Option (V × List (Nat → Option Ob))) = RES
 have hs0 : inTr d (0, 1, true) := (inT_1 hd).2
 have hL : expL (succTr d) 400 (0, 1, true) = listTr d := rfl
 have b1 : bitsN 1 = [0] := by decide
 have es : [enc3 (0, 1, true)] = [.agg [.int .i64 0, .slc false 1 [.int .i64 0], .bool true]] := by
   unfold enc3
   dsimp only
   rw [b1]; rfl
 have est : [((0, 1, true) : Tr3)].map enc3 = [enc3 (0, 1, true)] := rfl
 rw [es] at est
 clear es
 simp only [DN.enc] at va
 generalize ((0, 1, true) : Tr3) = st at hs0 hL est
 rw [run_eq EE 114 _ _ Tryz.func114 (by decide +kernel) rfl (show 1 ≤ _ by decide)]
 dsimp only [Tryz.f114]
 simp only [go_sem, va, Bool.not_true]
 rw [← est]
 clear est va
 refine iter_inv (fun p : Nat × List Tr3 => p.1 ≤ p.2.length ∧ p.2.length ≤ 400 ∧ (∀ x ∈ p.2, inTr d x) ∧ bfsL (succTr d) (400 + 1 - p.1) p.2 p.1 = listTr d) (fun p => { t := upd (upd (upd (upd (upd e0 6 (.int .i64 p.1)) 5 (.ptr 0 5 0)) 4 (.slc true 3 (p.2.map enc3))) 2 (.ptr 0 2 0)) 1 (.ptr 0 1 0), b := upd (upd (upd n0 5 (some (Ob.box [.slc true 1 (((listTr d).take p.1).map (accB (accTr d))), .slc true 1 (((listTr d).take p.1).map (rowB (succTr d) (listTr d)))]))) 2 (some (Ob.box [.slc true 1 [], .slc true 1 []]))) 1 (some (Ob.box [.slc false 1 (d.accept.map B), .slc false 1 (d.next.map NT)])), o := [], r := #[ResultVar.cell 2 29, ResultVar.tmp 3], f := 114, n := 98 }) (fun _ => RES) (fun p => 401 - p.1) ?_ (0, [st]) ⟨Nat.zero_le _, by show 1 ≤ 400; decide, by simpa using hs0, hL⟩
 generalize listTr d = L at *
 rintro ⟨i, l⟩ ⟨hi, hlm, hQl, hb1⟩ ih
 dsimp only at hi hlm hQl hb1 ⊢
 by_cases h : i < l.length
 rotate_left
 · have k1 : ¬ (i : Int) < l.length := by omega
   rw [bfs_done h] at hb1
   subst hb1
   have ft := ft hlm
   rw [if_pos hlm] at hRES
   rw [List.take_of_length_le (by omega), accB_map, rowB_map]
   have hex : (expD (succTr d) (accTr d) l).enc = .agg [.slc false 1 ((l.map (accTr d)).map B), .slc false 1 ((l.map fun x => rowD l (succTr d x)).map NT)] := rfl
   rw [hex] at ft
   generalize fitD (expD (succTr d) (accTr d) l) = r at ft hRES
   subst hRES
   cases r with
   | none => simp only [go_sem, k1, ft, resO]
   | some e => simp only [go_sem, k1, ft, resO, DN.enc]
 have k1 : (i : Int) < l.length := by omega
 have wi := wrap_nat (n := i) (by omega)
 have hQx := hQl _ (List.getElem_mem h)
 have e1 : 400 + 1 - i = (400 + 1 - (i + 1)) + 1 := by omega
 rw [e1, bfs_step h] at hb1
 have hLx : L.take (i + 1) = L.take i ++ [l[i]] := by
   have hp : l <+: L := by rw [← hb1]; exact (ins3_pre _ _).trans (bfs_pre _ _ _ _)
   rw [take_pre hp h]
   congr 1
   obtain ⟨m, rfl⟩ := hp
   rw [List.take_append_of_le_length (by omega)]
 have htk : (L.take i).length = i := by
   have hp : l <+: L := by rw [← hb1]; exact (ins3_pre _ _).trans (bfs_pre _ _ _ _)
   have := hp.length_le
   rw [List.length_take]; omega
 have hpL : ins3 l (succTr d l[i]) <+: L := by rw [← hb1]; exact bfs_pre _ _ _ _
 have hQt := succTr_in hd _ hQx
 have hQ3 : ∀ y ∈ ins3 l (succTr d l[i]), inTr d y := fun x hx => by
   rcases mem_ins3.1 hx with hx | rfl | rfl | rfl
   · exact hQl x hx
   · exact hQt.1
   · exact hQt.2.1
   · exact hQt.2.2
 have ihn := fun (hlen : (ins3 l (succTr d l[i])).length ≤ 400) => ih (i + 1, ins3 l (succTr d l[i])) ⟨Nat.le_trans h (ins3_pre _ _).length_le, hlen, hQ3, hb1⟩ (by show 401 - (i + 1) < 401 - i; omega)
 dsimp only at ihn
 clear ih
 rw [hLx, List.map_append, List.map_append, List.map_cons, List.map_nil, List.map_cons, List.map_nil] at ihn
 have eab : accB (accTr d) l[i] = .bool (l[i].2.2 || anyN d l[i].2.1) := rfl
 have erb : rowB (succTr d) L l[i] = .slc false 1 [IN (ixD L (succTr d l[i]).1), IN (ixD L (succTr d l[i]).2.1), IN (ixD L (succTr d l[i]).2.2)] := rfl
 rw [eab, erb] at ihn
 clear eab erb
 have hget := fun j hj => succTr_get d l[i] (i := j) hj
 obtain ⟨m0, hm0⟩ : ∃ m0, m0 = ins3 l (succTr d l[i]) := ⟨_, rfl⟩
 have hxl : ∀ (m : List Tr3), l <+: m → ∀ v : V, (m.map enc3).getD i v = .agg [.int .i64 l[i].1, .slc false 1 ((bitsN l[i].2.1).map IN), .bool l[i].2.2] := by
   rintro m ⟨r, rfl⟩ v
   rw [List.map_append, List.getD_eq_getElem?_getD, List.getElem?_append_left (by rw [List.length_map]; exact h), List.getElem?_map, List.getElem?_eq_getElem h]
   rfl
 have mv := fun j (hj : j < 3) => r134 d hd.ok hd.le l[i].2.1 j hj hQx
 have hmv := fun j (hj : j < 3) => moveN_lt hd.ok hj l[i].2.1
 have any := r135 d hd.le l[i].2.1 hQx
 generalize hyy : l[i] = y at *
 generalize succTr d y = tt at *
 simp only [DN.enc] at mv any
 generalize anyN d y.2.1 = AA at *
 simp only [go_sem, k1]
 refine iter_inv (fun j : Nat => j ≤ 3) (fun j => { t := upd (upd (upd (upd (upd (upd (upd e0 8 (.int .i64 j)) 7 (.slc true 1 (((l3A tt).take j).map (ixB L)))) 6 (.int .i64 i)) 5 (.ptr 0 5 0)) 4 (.slc true 3 ((((l3A tt).take j).foldl ins l).map enc3))) 2 (.ptr 0 2 0)) 1 (.ptr 0 1 0), b := upd (upd (upd n0 5 (some (Ob.box [.slc true 1 ((L.take i).map (accB (accTr d))), .slc true 1 ((L.take i).map (rowB (succTr d) L))]))) 2 (some (Ob.box [.slc true 1 [], .slc true 1 []]))) 1 (some (Ob.box [.slc false 1 (d.accept.map B), .slc false 1 (d.next.map NT)])), o := [], r := #[ResultVar.cell 2 29, ResultVar.tmp 3], f := 114, n := 98 }) (fun _ => RES) (fun j => 3 - j) ?_ 0 (Nat.zero_le _)
 intro j hj ihj
 by_cases h' : j < 3
 rotate_left
 · obtain rfl : j = 3 := by omega
   have e3 : ((l3A tt).take 3).foldl ins l = ins3 l tt := rfl
   have e4 : ((l3A tt).take 3).map (ixB L) = [IN (ixD L tt.1), IN (ixD L tt.2.1), IN (ixD L tt.2.2)] := rfl
   rw [e3, e4]
   have ki : (i : Int) < (ins3 l tt).length := by have := (ins3_pre l tt).length_le; omega
   have hgl := hxl _ (ins3_pre l tt)
   have k3 : ¬ ((3 : Nat) : Int) < 3 := by omega
   have a1 : (i + 1) * 1 ≤ 140737488355328 := by omega
   have a2 : (i + 1) * 24 ≤ 140737488355328 := by omega
   by_cases hgt : (ins3 l tt).length ≤ 400
   · have ihm := ihn hgt
     have kgt : ¬ ((ins3 l tt).length : Int) > 400 := by omega
     simp only [go_sem, k3, kgt]
     rw [q_drawn]
     rotate_left
     · kernel_rfl
     generalize y.2.2 = sb at *
     cases sb
     · simp only [go_sem, still, eq_self, ki, hgl, any, htk, a1, a2, wi]
       exact ihm
     · simp only [go_sem, still, eq_self, ki, hgl, htk, a1, a2, wi]
       exact ihm
   · have kgt : ((ins3 l tt).length : Int) > 400 := by omega
     have hLl : ¬ L.length ≤ 400 := by have := hpL.length_le; omega
     rw [if_neg hLl] at hRES
     subst hRES
     simp only [go_sem, k3, kgt, resO]
 have k2 : (j : Int) < 3 := by omega
 have wj := wrap_nat (n := j) (by omega)
 have hji : j < (l3A tt).length := by rw [l3A_len]; exact h'
 have hpre : ((l3A tt).take (j + 1)).foldl ins l <+: ins3 l tt := by
   rw [← ins3_l3A]
   have e : (l3A tt).foldl ins l = ((l3A tt).drop (j + 1)).foldl ins (((l3A tt).take (j + 1)).foldl ins l) := by
     rw [← List.foldl_append, List.take_append_drop]
   rw [e]
   exact foldl_ins_pre _ _
 have ihm := ihj (j + 1) (by omega) (by omega)
 rw [foldl_take _ _ hji] at hpre ihm
 rw [take_snoc hji, List.map_append, List.map_cons, List.map_nil] at ihm
 have hil : i < (((l3A tt).take j).foldl ins l).length := Nat.lt_of_lt_of_le h (foldl_ins_pre _ _).length_le
 have ki : (i : Int) < (((l3A tt).take j).foldl ins l).length := by omega
 have hgl := hxl _ (foldl_ins_pre ((l3A tt).take j) l)
 have eix : ixB L (l3A tt)[j] = .int .i64 (ixD L (l3A tt)[j] : Nat) := rfl
 rw [eix] at ihm
 have hly : ixD L (l3A tt)[j] = ixD (ins (((l3A tt).take j).foldl ins l) (l3A tt)[j]) (l3A tt)[j] := ixD_pre (hpre.trans hpL) (ins_mem _ _)
 rw [hly] at ihm
 have hQm : ∀ z ∈ ins (((l3A tt).take j).foldl ins l) (l3A tt)[j], z.2.1 < 2 ^ 40 := fun z hz => p40 hd.le (hQ3 z (hpre.subset hz))
 have hlen : (ins (((l3A tt).take j).foldl ins l) (l3A tt)[j]).length ≤ 1048576 := by
   have h1 := hpre.length_le
   have h2 : (ins3 l tt).length ≤ l.length + 3 := by
     have := ins_len l tt.1
     have := ins_len (ins l tt.1) tt.2.1
     have := ins_len (ins (ins l tt.1) tt.2.1) tt.2.2
     show (ins (ins (ins l tt.1) tt.2.1) tt.2.2).length ≤ _
     omega
   omega
 have hrl : (((l3A tt).take j).map (ixB L)).length = j := by rw [List.length_map, List.length_take, l3A_len]; omega
 have a1 : (j + 1) * 8 ≤ 140737488355328 := by omega
 have hgj := hget j h'
 clear hly ihj hpre hget
 generalize ((l3A tt).take j).foldl ins l = m at *
 generalize (l3A tt)[j] = z at *
 generalize ((l3A tt).take j).map (ixB L) = row at *
 have mv := mv j h'
 have hmv := hmv j h'
 have am := r135 d hd.le (moveN d y.2.1 j) hmv
 unfold stp at hgj
 simp only [DN.enc] at am
 have pb := put_bits (moveN d y.2.1 j) 0 (by decide)
 have e20 : 2 ^ 0 = 1 := rfl
 rw [e20] at pb
 have ez0 : ((0 : Nat) : Int) = 0 := rfl
 rw [ez0] at pb
 generalize moveN d y.2.1 j = M at *
 have hmi : m <+: ins m z := ins_pre m z
 have f1 := r137 m z (by have := hmi.length_le; omega) (fun w hw => hQm w (hmi.subset hw)) (hQm z (ins_mem _ _))
 have f2 := r137 (ins m z) z hlen hQm (hQm z (ins_mem _ _))
 rw [if_pos (ins_mem _ _)] at f2
 have hmz : (ins m z).map enc3 = if z ∈ m then m.map enc3 else m.map enc3 ++ [enc3 z] := by
   unfold ins
   by_cases hz : z ∈ m
   · rw [if_pos hz, if_pos hz]
   · rw [if_neg hz, if_neg hz, List.map_append]; rfl
 have hni := nneg (ixD (ins m z) z)
 have hzm : z ∈ m → ixD (ins m z) z = ixD m z := fun hz => by unfold ins; rw [if_pos hz]
 have hml : (m.length + 1) * 40 ≤ 140737488355328 := by
   have := hmi.length_le
   omega
 generalize hLZ : ixD (ins m z) z = IX at *
 generalize ins m z = mm at *
 have ez : ∀ S2, z = (0, S2, false) → enc3 z = .agg [.int .i64 0, .slc false 1 ((bitsN S2).map IN), .bool false] := by
   rintro S2 rfl; rfl
 cases hc : anyN d M
 · rw [hc] at am hgj
   have ez := ez M (by rw [hgj, if_neg (by decide)])
   rw [ez] at f1 f2 hmz
   by_cases hz : z ∈ m
   · rw [if_pos hz, ← hzm hz] at f1
     rw [if_pos hz] at hmz
     rw [hmz] at f2 ihm
     simp only [go_sem, k2]
     rw [q_drawn]
     rotate_left
     · kernel_rfl
     simp only [go_sem, still, eq_self, ki, hgl, k2, mv, am, f1, hni, hrl, a1, wj]
     exact ihm
   · rw [if_neg hz] at f1
     rw [if_neg hz] at hmz
     rw [hmz] at f2 ihm
     simp only [go_sem, k2]
     rw [q_drawn]
     rotate_left
     · kernel_rfl
     simp only [go_sem, still, eq_self, ki, hgl, k2, mv, am, f1, f2, hni, hrl, a1, hml, wj]
     exact ihm
 · rw [hc] at am hgj
   have ez := ez (M ||| 1) (by rw [hgj, if_pos rfl])
   rw [ez] at f1 f2 hmz
   by_cases hz : z ∈ m
   · rw [if_pos hz, ← hzm hz] at f1
     rw [if_pos hz] at hmz
     rw [hmz] at f2 ihm
     simp only [go_sem, k2]
     rw [q_drawn]
     rotate_left
     · kernel_rfl
     simp only [go_sem, still, eq_self, ki, hgl, k2, mv, am, pb, f1, hni, hrl, a1, wj]
     exact ihm
   · rw [if_neg hz] at f1
     rw [if_neg hz] at hmz
     rw [hmz] at f2 ihm
     simp only [go_sem, k2]
     rw [q_drawn]
     rotate_left
     · kernel_rfl
     simp only [go_sem, still, eq_self, ki, hgl, k2, mv, am, pb, f1, f2, hni, hrl, a1, hml, wj]
     exact ihm
end Go.Ev
namespace Go.Ev
open Go Go.Proofs
set_option maxRecDepth 10000

theorem r107 (s : ByteArray) (hs : s.size ≤ 9223372036854775806) : run EE 107 [.str s] [] = some (.bool (small s), []) := by
 have f := r74 s hs
 rw [run_eq EE 107 _ _ Tryz.func107 (by decide +kernel) rfl (show 1 ≤ _ by decide)]
 dsimp only [Tryz.f107]
 unfold small
 simp only [go_sem, f]
 refine guardL_bool (fun c => ?_) (fun c => ?_)
 · by_cases k : s.size ≤ 3
   · have k' : (s.size : Int) ≤ 3 := by omega
     simp only [go_sem, c, k, k', Bool.true_and]
   · have k' : ¬ (s.size : Int) ≤ 3 := by omega
     simp only [go_sem, c, k, k', Bool.true_and]
 · simp only [go_sem, c, Bool.false_and]
theorem r76 (m : Mor) (h1 : m.a.size ≤ 1048576) (h2 : m.b.size ≤ 1048576) (h3 : m.c.size ≤ 1048576) : run EE 76 [m.enc] [] = some (.bool (isMor m), []) := by
 have f1 := r107 m.a (by omega)
 have f2 := r107 m.b (by omega)
 have f3 := r107 m.c (by omega)
 rw [run_eq EE 76 _ _ Tryz.func76 (by decide +kernel) rfl (show 1 ≤ _ by decide)]
 dsimp only [Tryz.f76]
 unfold isMor
 simp only [go_sem, f1]
 refine guardL_bool (fun c => ?_) (fun c => ?_)
 · simp only [go_sem, c, f2, Bool.true_and]
   refine guardL_bool (fun c' => ?_) (fun c' => ?_)
   · simp only [go_sem, c, c', f3, Bool.true_and]
   · simp only [go_sem, c, c', Bool.false_and]
 · simp only [go_sem, c, Bool.false_and]
theorem r54 (m : Mor) (h1 : m.a.size ≤ 1048576) (h2 : m.b.size ≤ 1048576) (h3 : m.c.size ≤ 1048576) : run EE 54 [m.enc] [] = some (.bool (isMor m), []) := by
 have f1 := r51 m.a (by omega)
 have f2 := r51 m.b (by omega)
 have f3 := r51 m.c (by omega)
 have sm : ∀ s : ByteArray, small s = (decide (¬ (s.size : Int) > 3) && isWord s) := by
   intro s
   unfold small
   rw [Bool.and_comm]
   congr 1
   by_cases k : s.size ≤ 3
   · have k' : ¬ (s.size : Int) > 3 := by omega
     simp [k, k']
   · have k' : (s.size : Int) > 3 := by omega
     simp [k, k']
 have it2 : IntKind.i64.wrap 2 = 2 := by decide
 have it3 : IntKind.i64.wrap 3 = 3 := by decide
 rw [run_eq EE 54 _ _ Tryz.func54 (by decide +kernel) rfl (show 1 ≤ _ by decide)]
 dsimp only [Tryz.f54]
 unfold isMor
 rw [sm, sm, sm]
 by_cases k1 : (m.a.size : Int) > 3
 · simp only [go_sem, iter_eq, k1, Bool.false_and, not_true_eq_false, condL_b]
 by_cases w1 : isWord m.a = true
 rotate_left
 · have w1' : isWord m.a = false := by simpa using w1
   simp only [go_sem, iter_eq, k1, f1, w1', Bool.false_and, Bool.and_false, not_false_eq_true, Bool.not_false]
 by_cases k2 : (m.b.size : Int) > 3
 · simp only [go_sem, iter_eq, k1, f1, w1, k2, Bool.not_true, Bool.false_and, Bool.and_false, Bool.true_and, not_true_eq_false, not_false_eq_true]
 by_cases w2 : isWord m.b = true
 rotate_left
 · have w2' : isWord m.b = false := by simpa using w2
   simp only [go_sem, iter_eq, k1, f1, w1, k2, f2, w2', Bool.not_true, Bool.false_and, Bool.and_false, Bool.true_and, not_false_eq_true, Bool.not_false]
 by_cases k3 : (m.c.size : Int) > 3
 · simp only [go_sem, iter_eq, k1, f1, w1, k2, f2, w2, k3, Bool.not_true, Bool.false_and, Bool.and_false, Bool.true_and, not_true_eq_false, not_false_eq_true]
 by_cases w3 : isWord m.c = true
 · simp only [go_sem, iter_eq, k1, f1, w1, k2, f2, w2, k3, f3, w3, Bool.not_true, Bool.true_and, not_false_eq_true]
 · have w3' : isWord m.c = false := by simpa using w3
   simp only [go_sem, iter_eq, k1, f1, w1, k2, f2, w2, k3, f3, w3', Bool.not_true, Bool.true_and, not_false_eq_true, Bool.not_false]
theorem r90 (r : Rx) : run EE 90 [r.enc] [] = some (.bool (zeroR r), []) := by
 rw [run_eq EE 90 _ _ Tryz.func90 (by decide +kernel) rfl (show 1 ≤ _ by decide)]
 dsimp only [Tryz.f90]
 unfold zeroR
 simp only [go_sem, toList_nil]
 refine guardL_bool (fun c => ?_) (fun c => ?_)
 · simp only [go_sem, c, toList_nil, Bool.true_and]
   refine guardL_bool (fun c' => ?_) (fun c' => ?_)
   · simp only [go_sem, c, c', Bool.true_and]
   · simp only [go_sem, c, c', Bool.false_and]
 · simp only [go_sem, c, Bool.false_and]
theorem r75 (r : Rx) : run EE 75 [r.enc] [] = some (.bool (zeroR r), []) := by
 rw [run_eq EE 75 _ _ Tryz.func75 (by decide +kernel) rfl (show 1 ≤ _ by decide)]
 dsimp only [Tryz.f75]
 unfold zeroR
 simp only [go_sem, toList_nil]
 refine guardL_bool (fun c => ?_) (fun c => ?_)
 · simp only [go_sem, c, toList_nil, Bool.true_and]
   refine guardL_bool (fun c' => ?_) (fun c' => ?_)
   · simp only [go_sem, c, c', Bool.true_and]
   · simp only [go_sem, c, c', Bool.false_and]
 · simp only [go_sem, c, Bool.false_and]
end Go.Ev
namespace Go.Ev
open Go Go.Proofs
set_option maxRecDepth 10000

theorem r131 (a b : Int) : run EE 131 [.int .i64 a, .int .i64 b] [] = some (.int .i64 (if a > b then a else b), []) := by
 rw [run_eq EE 131 _ _ Tryz.func131 (by decide +kernel) rfl (show 2 ≤ _ by decide)]
 dsimp only [Tryz.f131]
 simp only [go_sem]
 refine condL_dec (fun k => ?_) (fun k => ?_) <;> simp only [go_sem, k]
theorem r132 (k : Int) : run EE 132 [.int .i64 k] [] = some (.int .i64 (argS k), []) := by
 rw [run_eq EE 132 _ _ Tryz.func132 (by decide +kernel) rfl (show 1 ≤ _ by decide)]
 dsimp only [Tryz.f132]
 unfold argS
 by_cases h5 : k = 5
 · subst h5; simp only [go_sem] <;> rfl
 by_cases h6 : k = 6
 · subst h6; simp only [go_sem] <;> rfl
 by_cases h7 : k = 7
 · subst h7; simp only [go_sem] <;> rfl
 by_cases h8 : k = 8
 · subst h8; simp only [go_sem] <;> rfl
 by_cases h9 : k = 9
 · subst h9; simp only [go_sem] <;> rfl
 have b5 : (k == 5) = false := by simpa using h5
 have b6 : (k == 6) = false := by simpa using h6
 have b7 : (k == 7) = false := by simpa using h7
 have b8 : (k == 8) = false := by simpa using h8
 have b9 : (k == 9) = false := by simpa using h9
 simp only [go_sem, b5, b6, b7, b8, b9, h5, h6, h7, h8, h9, or_self]
theorem r120 (k : Int) : run EE 120 [.int .i64 k] [] = some (.int .i64 (argN k), []) := by
 rw [run_eq EE 120 _ _ Tryz.func120 (by decide +kernel) rfl (show 1 ≤ _ by decide)]
 dsimp only [Tryz.f120]
 unfold argN
 by_cases h1 : k = 1
 · subst h1; simp only [go_sem] <;> rfl
 by_cases h2 : k = 2
 · subst h2; simp only [go_sem] <;> rfl
 by_cases h3 : k = 3
 · subst h3; simp only [go_sem] <;> rfl
 by_cases h4 : k = 4
 · subst h4; simp only [go_sem] <;> rfl
 by_cases h5 : k = 5
 · subst h5; simp only [go_sem] <;> rfl
 by_cases h6 : k = 6
 · subst h6; simp only [go_sem] <;> rfl
 by_cases h7 : k = 7
 · subst h7; simp only [go_sem] <;> rfl
 by_cases h8 : k = 8
 · subst h8; simp only [go_sem] <;> rfl
 by_cases h9 : k = 9
 · subst h9; simp only [go_sem] <;> rfl
 have b1 : (k == 1) = false := by simpa using h1
 have b2 : (k == 2) = false := by simpa using h2
 have b3 : (k == 3) = false := by simpa using h3
 have b4 : (k == 4) = false := by simpa using h4
 have b5 : (k == 5) = false := by simpa using h5
 have b6 : (k == 6) = false := by simpa using h6
 have b7 : (k == 7) = false := by simpa using h7
 have b8 : (k == 8) = false := by simpa using h8
 have b9 : (k == 9) = false := by simpa using h9
 simp only [go_sem, b1, b2, b3, b4, b5, b6, b7, b8, b9, h1, h2, h3, h4, h5, h6, h7, h8, h9, or_self]
theorem r111 (r : Rx) (hs : szT r.enc ≤ 1048576) : run EE 111 [r.enc] [] = some (.int .i64 r.depth, []) := by
 have hs' := hs
 simp only [Rx.enc_eq, szT, szL, List.length_map] at hs'
 have hc : ∀ z ∈ r.args, run EE 111 [z.enc] [] = some (.int .i64 z.depth, []) := fun z hz => r111 z (Nat.le_trans (szL_mem (f := Rx.enc) hz) (by omega))
 have hb := r.depth_sz
 rw [run_eq EE 111 _ _ Tryz.func111 (by decide +kernel) rfl (show 1 ≤ _ by decide)]
 dsimp only [Tryz.f111]
 simp only [go_sem]
 rw [Rx.depth_eq] at hb ⊢
 refine (iter_inv (fun x : Nat × Nat => x.1 ≤ r.args.length ∧ max x.2 (maxL ((r.args.drop x.1).map Rx.depth)) ≤ szT r.enc) (fun x => { t := upd (upd (upd e0 4 (.int .i64 x.1)) 3 (.int .i64 x.2)) 1 (.ptr 0 1 0), b := upd n0 1 (some (Ob.box [.int .i64 r.kind, .str r.letter, .slc false 3 (r.args.map Rx.enc)])), o := [], r := #[ResultVar.tmp 2], f := 111, n := 22 }) (fun x => some (.int .i64 ((1 + max x.2 (maxL ((r.args.drop x.1).map Rx.depth)) : Nat) : Int), [])) (fun x => r.args.length - x.1) ?_ (0, 0) ⟨Nat.zero_le _, by simp only [List.drop_zero, Nat.zero_max]; omega⟩).trans (by simp only [List.drop_zero, Nat.zero_max])
 rintro ⟨i, n⟩ ⟨hi, hn⟩ ih
 dsimp only at hi hn ⊢
 by_cases h : i < r.args.length
 · have h1 : (i : Int) < r.args.length := by omega
   have w := wrap_nat (n := i) (by omega)
   have hx := hc r.args[i] (List.getElem_mem h)
   rw [List.drop_eq_getElem_cons h, List.map_cons, maxL_cons] at hn ⊢
   generalize r.args[i].depth = d at hx hn ⊢
   have hm := r131 n d
   have e : (if (n : Int) > d then (n : Int) else d) = ((max n d : Nat) : Int) := by split <;> omega
   rw [e] at hm
   simp only [Rx.enc_eq] at hx
   simp only [go_sem, h1, w, getD_map h, hx, hm]
   rw [ih (i + 1, max n d) ⟨by show i + 1 ≤ _; omega, by show max (max n d) (maxL (List.map Rx.depth (List.drop (i + 1) r.args))) ≤ szT r.enc; omega⟩ (by show r.args.length - (i + 1) < r.args.length - i; omega)]
   refine congrArg some (congrArg (·, []) (congrArg (V.int .i64) ?_))
   dsimp only
   omega
 · have h1 : ¬ (i : Int) < r.args.length := by omega
   rw [List.drop_eq_nil_of_le (by omega)] at hn ⊢
   have w : IntKind.i64.wrap ((n : Int) + 1) = ((n + 1 : Nat) : Int) := wrap_nat (by omega)
   simp only [go_sem, h1, w, maxL, List.map_nil, List.foldr_nil, Nat.max_zero]
   rw [Nat.add_comm]
 termination_by SizeOf.sizeOf r
 decreasing_by exact Rx.lt _ hz
theorem r110 (r : Rx) (hs : szT r.enc ≤ 1048576) (left : Int) (h0 : 0 ≤ left) (hle : left ≤ 1048576) : run EE 110 [r.enc, .int .i64 left] [] = some (.int .i64 (leftOf r.nodes left), []) := by
 have hs' := hs
 simp only [Rx.enc_eq, szT, szL, List.length_map] at hs'
 have hc : ∀ z ∈ r.args, ∀ left : Int, 0 ≤ left → left ≤ 1048576 → run EE 110 [z.enc, .int .i64 left] [] = some (.int .i64 (leftOf z.nodes left), []) := fun z hz left a b => r110 z (Nat.le_trans (szL_mem (f := Rx.enc) hz) (by omega)) left a b
 have w0 := wrap_in (n := left - 1) (by omega) (by omega)
 rw [run_eq EE 110 _ _ Tryz.func110 (by decide +kernel) rfl (show 2 ≤ _ by decide)]
 dsimp only [Tryz.f110]
 simp only [go_sem, w0]
 rw [Rx.nodes_eq]
 refine (iter_inv (fun x : Nat × Int => x.1 ≤ r.args.length ∧ -1 ≤ x.2 ∧ x.2 ≤ 1048576) (fun x => { t := upd (upd (upd e0 5 (.int .i64 x.1)) 2 (.ptr 0 2 0)) 1 (.int .i64 x.2), b := upd n0 2 (some (Ob.box [.int .i64 r.kind, .str r.letter, .slc false 3 (r.args.map Rx.enc)])), o := [], r := #[ResultVar.tmp 4], f := 110, n := 27 }) (fun x => some (.int .i64 (if x.2 < 0 then -1 else leftOf (sumN Rx.nodes (r.args.drop x.1)) x.2), [])) (fun x => r.args.length - x.1) ?_ (0, left - 1) ⟨Nat.zero_le _, by show -1 ≤ left - 1; omega, by show left - 1 ≤ 1048576; omega⟩).trans ?_
 · rintro ⟨i, n⟩ ⟨hi, hn, hn'⟩ ih
   dsimp only at hi hn hn' ⊢
   by_cases h : i < r.args.length
   · have h1 : (i : Int) < r.args.length := by omega
     by_cases hg : n < 0
     · have hg' : ¬ n ≥ 0 := by omega
       have e : n = -1 := by omega
       rw [if_pos hg]
       simp only [go_sem, h1, hg']
       rw [e]
     · have hg' : n ≥ 0 := by omega
       have w := wrap_nat (n := i) (by omega)
       have hx := hc r.args[i] (List.getElem_mem h) n hg' hn'
       rw [if_neg hg, List.drop_eq_getElem_cons h, sumN_cons, leftOf_add]
       have hle : leftOf r.args[i].nodes n ≤ n ∨ leftOf r.args[i].nodes n = -1 := by unfold leftOf; split <;> omega
       have hge : -1 ≤ leftOf r.args[i].nodes n := by unfold leftOf; split <;> omega
       generalize leftOf r.args[i].nodes n = m at hx hle hge ⊢
       simp only [Rx.enc_eq] at hx
       simp only [go_sem, h1, hg', w, getD_map h, hx]
       exact ih (i + 1, m) ⟨by show i + 1 ≤ _; omega, hge, by show m ≤ 1048576; omega⟩ (by show r.args.length - (i + 1) < r.args.length - i; omega)
   · have h1 : ¬ (i : Int) < r.args.length := by omega
     rw [List.drop_eq_nil_of_le (by omega)]
     have : (if n < 0 then (-1 : Int) else leftOf (sumN Rx.nodes []) n) = n := by
       split
       · omega
       · show leftOf 0 n = n
         rw [leftOf_pos (by omega)]
         omega
     rw [this]
     simp only [go_sem, h1]
 · dsimp only
   rw [List.drop_zero]
   refine congrArg some (congrArg (·, []) (congrArg (V.int .i64) ?_))
   show _ = leftOf (1 + sumN Rx.nodes r.args) left
   rw [leftOf_add]
   by_cases k : (1 : Int) ≤ left
   · have : leftOf 1 left = left - 1 := leftOf_pos (by omega)
     rw [this]
   · have : leftOf 1 left = -1 := leftOf_neg (by omega)
     rw [this, if_pos (by omega), if_pos (by omega)]
 termination_by SizeOf.sizeOf r
 decreasing_by exact Rx.lt _ hz
theorem r112 (r : Rx) (hs : szT r.enc ≤ 1048576) : run EE 112 [r.enc] [] = some (.bool r.good, []) := by
 have hs' := hs
 simp only [Rx.enc_eq, szT, szL, List.length_map] at hs'
 have hc : ∀ z ∈ r.args, run EE 112 [z.enc] [] = some (.bool z.good, []) := fun z hz => r112 z (Nat.le_trans (szL_mem (f := Rx.enc) hz) (by omega))
 have f1 := r74 r.letter (by omega)
 have f2 := r104 r.kind 1 9
 have f3 := r132 r.kind
 rw [run_eq EE 112 _ _ Tryz.func112 (by decide +kernel) rfl (show 1 ≤ _ by decide)]
 dsimp only [Tryz.f112]
 simp only [go_sem]
 rw [Rx.good_eq]
 refine iter_inv (fun i : Nat => i ≤ r.args.length) (fun i => { t := upd (upd e0 3 (.int .i64 i)) 1 (.ptr 0 1 0), b := upd n0 1 (some (Ob.box [.int .i64 r.kind, .str r.letter, .slc false 3 (r.args.map Rx.enc)])), o := [], r := #[ResultVar.tmp 2], f := 112, n := 53 }) (fun i => some (.bool (((r.args.drop i).map Rx.good).all id && okTop r), [])) (fun i => r.args.length - i) ?_ 0 (Nat.zero_le _)
 intro i hi ih
 by_cases h : i < r.args.length
 · have h1 : (i : Int) < r.args.length := by omega
   have w := wrap_nat (n := i) (by omega)
   have hx := hc r.args[i] (List.getElem_mem h)
   rw [List.drop_eq_getElem_cons h, List.map_cons, List.all_cons]
   generalize r.args[i].good = g at hx ⊢
   simp only [Rx.enc_eq] at hx
   simp only [go_sem, h1, w, getD_map h, hx]
   cases g
   · simp only [go_sem, Bool.not_false, id, Bool.false_and]
   · simp only [go_sem, w, Bool.not_true, id, Bool.true_and]
     exact ih (i + 1) (by omega) (by omega)
 · have h1 : ¬ (i : Int) < r.args.length := by omega
   rw [List.drop_eq_nil_of_le (by omega), List.map_nil, List.all_nil, Bool.true_and, okTop_spec]
   by_cases k : r.kind = 3
   · have k' : (r.kind == 3) = true := by simpa using k
     rw [if_pos k]
     by_cases l1 : r.letter.size = 1
     · have l1' : ((r.letter.size : Int) == 1) = true := by simp; omega
       cases wd : isWord r.letter
       · simp only [go_sem, h1, k', l1', l1, f1, wd, Bool.true_and, Bool.false_and]
       · have e : ((r.args.length : Int) == 0) = decide ((r.args.length : Int) = 0) := rfl
         simp only [go_sem, h1, k', l1', l1, f1, wd, Bool.true_and, e]
     · have l1' : ((r.letter.size : Int) == 1) = false := by simp; omega
       simp only [go_sem, h1, k', l1', l1, Bool.false_and]
   · have k' : (r.kind == 3) = false := by simpa using k
     rw [if_neg k]
     simp only [go_sem, h1, k']
     rw [q_drs]
     rotate_left
     · kernel_rfl
     cases c : (decide (1 ≤ r.kind) && decide (r.kind ≤ 9))
     · rw [c] at f2
       simp only [go_sem, f2, Bool.false_and]
     · rw [c] at f2
       have e : ((r.args.length : Int) == argS r.kind) = decide ((r.args.length : Int) = argS r.kind) := rfl
       by_cases l0 : r.letter.size = 0
       · simp only [go_sem, f2, f3, toList_nil, l0, Bool.true_and, e]
       · simp only [go_sem, f2, f3, toList_nil, l0, Bool.true_and, Bool.false_and]
 termination_by SizeOf.sizeOf r
 decreasing_by exact Rx.lt _ hz
theorem r82 (r : Rx) (hs : szT r.enc ≤ 1048576) : run EE 82 [r.enc] [] = some (.bool (validR r), []) := by
 have f1 := r110 r hs 16 (by omega) (by omega)
 have f2 := r111 r hs
 have f3 := r112 r hs
 simp only [Rx.enc_eq] at f1 f2 f3
 rw [run_eq EE 82 _ _ Tryz.func82 (by decide +kernel) rfl (show 1 ≤ _ by decide)]
 dsimp only [Tryz.f82]
 unfold validR
 simp only [go_sem, f1]
 by_cases k : r.nodes ≤ 16
 · have k' : leftOf r.nodes 16 ≥ 0 := by rw [leftOf_pos (by omega)]; omega
   by_cases d : r.depth ≤ 6
   · have d' : (r.depth : Int) ≤ 6 := by omega
     simp only [go_sem, k, k', f2, d, d', f3, Bool.true_and]
   · have d' : ¬ (r.depth : Int) ≤ 6 := by omega
     simp only [go_sem, k, k', f2, d, d', Bool.true_and, Bool.false_and]
 · have k' : ¬ leftOf r.nodes 16 ≥ 0 := by rw [leftOf_neg (by omega)]; decide
   simp only [go_sem, k, k', Bool.false_and]
theorem r98 (r : Rx) (hs : szT r.enc ≤ 1048576) (d : Nat) (hd : d ≤ 6) : run EE 98 [r.enc, .int .i64 d] [] = some (.int .i64 (r.cnt d), []) := by
 have hs' := hs
 simp only [Rx.enc_eq, szT, szL, List.length_map] at hs'
 have hc : ∀ z ∈ r.args, ∀ d : Nat, d ≤ 6 → run EE 98 [z.enc, .int .i64 d] [] = some (.int .i64 (z.cnt d), []) := fun z hz d hd => r98 z (Nat.le_trans (szL_mem (f := Rx.enc) hz) (by omega)) d hd
 have f1 := r51 r.letter (by omega)
 have f3 := r120 r.kind
 have hcnt : ∀ x : Rx, x.cnt (d - 1) ≤ 17 := fun x => by rw [Rx.cnt_eq]; split <;> omega
 rw [run_eq EE 98 _ _ Tryz.func98 (by decide +kernel) rfl (show 2 ≤ _ by decide)]
 dsimp only [Tryz.f98]
 simp only [go_sem]
 rw [q_drs]
 rotate_left
 · kernel_rfl
 rw [Rx.cnt_eq]
 by_cases hd0 : d = 0
 · subst hd0
   rw [if_pos (Or.inl rfl)]
   simp only [go_sem, Int.natCast_zero]
 have e0' : ((d : Int) == 0) = false := by simp; omega
 by_cases hk : (r.args.length : Int) = argN r.kind
 rotate_left
 · have hk' : ((r.args.length : Int) == argN r.kind) = false := by simpa using hk
   have ho : okTop r = false := by unfold okTop; rw [hk', Bool.false_and]
   rw [if_pos (Or.inr ho)]
   simp only [go_sem, e0', f3, bne, hk', Bool.not_false]
 have hk' : ((r.args.length : Int) == argN r.kind) = true := by simpa using hk
 have hlen := argN_le r.kind
 have w1 : IntKind.i64.wrap ((d : Int) - 1) = ((d - 1 : Nat) : Int) := by rw [wrap_in (by omega) (by omega)]; omega
 by_cases k3 : r.kind = 3
 · have k3' : (r.kind == 3) = true := by simpa using k3
   by_cases l1 : r.letter.size = 1
   rotate_left
   · have l1' : ((r.letter.size : Int) == 1) = false := by simp; omega
     have ho : okTop r = false := by unfold okTop; rw [if_pos k3, decide_eq_false l1, Bool.false_and, Bool.and_false]
     rw [if_pos (Or.inr ho)]
     simp only [go_sem, e0', f3, bne, hk', k3', l1', Bool.not_true, Bool.not_false]
   have l1' : ((r.letter.size : Int) == 1) = true := by simp; omega
   cases wd : isWord r.letter
   · have ho : okTop r = false := by unfold okTop; rw [if_pos k3, wd, Bool.and_false, Bool.and_false]
     rw [if_pos (Or.inr ho)]
     rw [wd] at f1
     simp only [go_sem, e0', f3, f1, bne, hk', k3', l1', Bool.not_true, Bool.not_false]
   have ho : okTop r = true := by unfold okTop; rw [hk', if_pos k3, wd, decide_eq_true l1]; rfl
   rw [wd] at f1
   rw [if_neg (fun h => h.elim hd0 (fun h => by rw [ho] at h; cases h))]
   simp only [go_sem, e0', f3, f1, bne, hk', k3', l1', Bool.not_true, Bool.not_false]
   refine (iter_inv (fun x : Nat × Nat => x.1 ≤ r.args.length ∧ x.2 ≤ 1 + 17 * x.1) (fun x => { t := upd (upd (upd (upd (upd e0 38 (.int .i64 x.1)) 37 (.int .i64 r.args.length)) 36 (.slc false 3 (r.args.map Rx.enc))) 5 (.int .i64 x.2)) 1 (.int .i64 d), b := upd n0 2 (some (Ob.box [.int .i64 r.kind, .str r.letter, .slc false 3 (r.args.map Rx.enc)])), o := [], r := #[ResultVar.tmp 4], f := 98, n := 51 }) (fun x => some (.int .i64 ((min (x.2 + sumN (fun x => x.cnt (d - 1)) (r.args.drop x.1)) 17 : Nat) : Int), [])) (fun x => r.args.length - x.1) ?_ (0, 1) ⟨Nat.zero_le _, Nat.le_refl _⟩).trans (by simp only [List.drop_zero] <;> rfl)
   rintro ⟨i, n⟩ ⟨hi, hn⟩ ih
   dsimp only at hi hn ⊢
   by_cases h : i < r.args.length
   · have h1 : (i : Int) < r.args.length := by omega
     have w := wrap_nat (n := i) (by omega)
     have hx := hc r.args[i] (List.getElem_mem h) (d - 1) (by omega)
     have hl := hcnt r.args[i]
     rw [List.drop_eq_getElem_cons h, sumN_cons]
     generalize r.args[i].cnt (d - 1) = m at hx hl ⊢
     simp only [Rx.enc_eq] at hx
     have w2 : IntKind.i64.wrap ((n : Int) + (m : Int)) = ((n + m : Nat) : Int) := by rw [wrap_in (by omega) (by omega)]; omega
     simp only [go_sem, h1, w, w1, getD_map h, hx, w2]
     rw [ih (i + 1, n + m) ⟨by show i + 1 ≤ _; omega, by show n + m ≤ 1 + 17 * (i + 1); omega⟩ (by show r.args.length - (i + 1) < r.args.length - i; omega)]
     dsimp only
     rw [Nat.add_assoc]
   · have h1 : ¬ (i : Int) < r.args.length := by omega
     rw [List.drop_eq_nil_of_le (by omega)]
     simp only [go_sem, h1]
     refine congrArg some (congrArg (·, []) (congrArg (V.int .i64) ?_))
     show _ = ((min (n + 0) 17 : Nat) : Int)
     split <;> omega
 · have k3' : (r.kind == 3) = false := by simpa using k3
   by_cases l0 : r.letter.size = 0
   rotate_left
   · have ho : okTop r = false := by unfold okTop; rw [if_neg k3, decide_eq_false l0, Bool.and_false]
     rw [if_pos (Or.inr ho)]
     simp only [go_sem, e0', f3, bne, hk', k3', toList_nil, l0, Bool.not_true, Bool.not_false]
   have ho : okTop r = true := by unfold okTop; rw [hk', if_neg k3, decide_eq_true l0]; rfl
   rw [if_neg (fun h => h.elim hd0 (fun h => by rw [ho] at h; cases h))]
   simp only [go_sem, e0', f3, bne, hk', k3', toList_nil, l0, Bool.not_true, Bool.not_false]
   refine (iter_inv (fun x : Nat × Nat => x.1 ≤ r.args.length ∧ x.2 ≤ 1 + 17 * x.1) (fun x => { t := upd (upd (upd (upd (upd e0 38 (.int .i64 x.1)) 37 (.int .i64 r.args.length)) 36 (.slc false 3 (r.args.map Rx.enc))) 5 (.int .i64 x.2)) 1 (.int .i64 d), b := upd n0 2 (some (Ob.box [.int .i64 r.kind, .str r.letter, .slc false 3 (r.args.map Rx.enc)])), o := [], r := #[ResultVar.tmp 4], f := 98, n := 51 }) (fun x => some (.int .i64 ((min (x.2 + sumN (fun x => x.cnt (d - 1)) (r.args.drop x.1)) 17 : Nat) : Int), [])) (fun x => r.args.length - x.1) ?_ (0, 1) ⟨Nat.zero_le _, Nat.le_refl _⟩).trans (by simp only [List.drop_zero] <;> rfl)
   rintro ⟨i, n⟩ ⟨hi, hn⟩ ih
   dsimp only at hi hn ⊢
   by_cases h : i < r.args.length
   · have h1 : (i : Int) < r.args.length := by omega
     have w := wrap_nat (n := i) (by omega)
     have hx := hc r.args[i] (List.getElem_mem h) (d - 1) (by omega)
     have hl := hcnt r.args[i]
     rw [List.drop_eq_getElem_cons h, sumN_cons]
     generalize r.args[i].cnt (d - 1) = m at hx hl ⊢
     simp only [Rx.enc_eq] at hx
     have w2 : IntKind.i64.wrap ((n : Int) + (m : Int)) = ((n + m : Nat) : Int) := by rw [wrap_in (by omega) (by omega)]; omega
     simp only [go_sem, h1, w, w1, getD_map h, hx, w2]
     rw [ih (i + 1, n + m) ⟨by show i + 1 ≤ _; omega, by show n + m ≤ 1 + 17 * (i + 1); omega⟩ (by show r.args.length - (i + 1) < r.args.length - i; omega)]
     dsimp only
     rw [Nat.add_assoc]
   · have h1 : ¬ (i : Int) < r.args.length := by omega
     rw [List.drop_eq_nil_of_le (by omega)]
     simp only [go_sem, h1]
     refine congrArg some (congrArg (·, []) (congrArg (V.int .i64) ?_))
     show _ = ((min (n + 0) 17 : Nat) : Int)
     split <;> omega
 termination_by SizeOf.sizeOf r
 decreasing_by exact Rx.lt _ hz
theorem r55 (r : Rx) (hs : szT r.enc ≤ 1048576) : run EE 55 [r.enc] [] = some (.bool (validR r), []) := by
 have f := r98 r hs 6 (Nat.le_refl 6)
 have e : (((6 : Nat) : Int)) = 6 := rfl
 rw [e] at f
 simp only [Rx.enc_eq] at f
 rw [run_eq EE 55 _ _ Tryz.func55 (by decide +kernel) rfl (show 1 ≤ _ by decide)]
 dsimp only [Tryz.f55]
 rw [← valid_cnt]
 simp only [go_sem, f]
 refine congrArg some (congrArg (·, []) (congrArg V.bool ?_))
 by_cases k : r.cnt 6 ≤ 16
 · have k' : (r.cnt 6 : Int) ≤ 16 := by omega
   simp [k, k']
 · have k' : ¬ (r.cnt 6 : Int) ≤ 16 := by omega
   simp [k, k']
end Go.Ev
namespace Go.Ev
open Go Go.Proofs
set_option maxRecDepth 10000
set_option maxHeartbeats 4000000

theorem r21 : run EE 21 [] [] = some (noD.encT, []) := by
 rw [run_eq EE 21 _ _ Tryz.func21 (by decide +kernel) rfl (show 0 ≤ _ by decide)]
 dsimp only [Tryz.f21]
 simp only [go_sem]
 rfl
theorem rep_enc (d : DN) : d.enc = .agg [.slc false 1 (d.accept.map B), .slc false 1 (d.next.map NT)] := rfl
theorem r56 (r : Rx) (hs : szT r.enc ≤ 1048576) (hg : r.good = true) : run EE 56 [r.enc] [] = some (resO (compR r), []) := by
 have hs' := hs
 simp only [Rx.enc_eq, szT, szL, List.length_map] at hs'
 obtain ⟨hga, hgt⟩ := good_args hg
 have ih : ∀ z ∈ r.args, run EE 56 [z.enc] [] = some (resO (compR z), []) := fun z hz => r56 z (Nat.le_trans (szL_mem (f := Rx.enc) hz) (by omega)) (hga z hz)
 rw [compR_eq]
 simp only [Rx.enc_eq]
 rw [run_eq EE 56 _ _ Tryz.func56 (by decide +kernel) rfl (show 1 ≤ _ by decide)]
 dsimp only [Tryz.f56]
 rcases good_cases hg with ⟨hk, ha⟩ | ⟨hk, x, ha⟩ | ⟨hk, x, y, ha⟩
 · rw [ha, List.map_nil, List.map_nil]
   unfold opR leafR
   have nw := r21
   have w0 := r99 ByteArray.empty (by decide)
   rw [if_pos word0] at w0
   change run EE _ [V.str ⟨#[]⟩] [] = _ at w0
   have w3 := r99 r.letter (by omega)
   have hw := fun (h3 : r.kind = 3) => okTop_word hgt h3
   simp only [rep_enc, resO, DN.encT] at w0 nw ⊢
   rcases hk with k | k | k | k
   · simp only [k, go_sem, iter_eq, nw, Int.reduceEq]
   · simp only [k, go_sem, iter_eq, w0, Int.reduceEq]
   · rw [if_pos (hw k)] at w3
     simp only [resO, rep_enc] at w3
     simp only [k, go_sem, iter_eq, w3, Int.reduceEq]
   · simp only [k, go_sem, iter_eq, Int.reduceEq]
     rfl
 · have hx := ih x (by rw [ha]; exact List.mem_cons_self ..)
   have hxv := fun d => compR_val x (hga x (by rw [ha]; exact List.mem_cons_self ..)) (e := d)
   rw [ha, List.map_cons, List.map_nil, List.map_cons, List.map_nil]
   unfold opR
   generalize compR x = cx at hx hxv ⊢
   simp only [Rx.enc_eq] at hx
   cases cx with
   | none =>
     simp only [resO] at hx
     simp only [go_sem, iter_eq, hx, resO, Option.bind_none]
   | some d =>
     have hd := hxv d rfl
     have cp := r27 d hd
     have st := r101 d hd
     simp only [resO, rep_enc, DN.encT] at hx cp st
     rcases hk with k | k
     · simp only [k, go_sem, iter_eq, hx, st, Int.reduceEq, Option.bind_some]
       generalize starD d = sd
       cases sd <;> simp only [go_sem, resO, rep_enc, Int.reduceEq]
     · simp only [k, go_sem, iter_eq, hx, cp, Int.reduceEq, Option.bind_some, resO, rep_enc]
 · have hx := ih x (by rw [ha]; exact List.mem_cons_self ..)
   have hy := ih y (by rw [ha]; exact List.mem_cons_of_mem _ (List.mem_cons_self ..))
   have hxv := fun d => compR_val x (hga x (by rw [ha]; exact List.mem_cons_self ..)) (e := d)
   have hyv := fun d => compR_val y (hga y (by rw [ha]; exact List.mem_cons_of_mem _ (List.mem_cons_self ..))) (e := d)
   rw [ha, List.map_cons, List.map_cons, List.map_nil, List.map_cons, List.map_cons, List.map_nil]
   unfold opR
   generalize compR x = cx at hx hxv ⊢
   generalize compR y = cy at hy hyv ⊢
   simp only [Rx.enc_eq] at hx hy
   cases cx with
   | none =>
     simp only [resO] at hx
     simp only [go_sem, iter_eq, hx, resO, Option.bind_none]
   | some d =>
   cases cy with
   | none =>
     simp only [resO, rep_enc] at hx hy
     simp only [go_sem, iter_eq, hx, hy, resO, Option.bind_none, Option.bind_some]
   | some f =>
     have hd := hxv d rfl
     have hf := hyv f rfl
     have c5 := r100 d f hd hf
     have c6 := r26 d f hd hf 6 (Or.inl rfl)
     have c7 := r26 d f hd hf 7 (Or.inr rfl)
     simp only [rep_enc] at c5 c6 c7
     simp only [resO, rep_enc] at hx hy
     rcases hk with k | k | k
     · simp only [k, Int.reduceEq, if_true, if_false, Option.bind_some]
       generalize concD d f = sd at c5 ⊢
       simp only [go_sem, iter_eq, hx, hy]
       rw [q_drs]
       rotate_left
       · kernel_rfl
       cases sd <;> simp only [resO, rep_enc] at c5 <;> simp only [go_sem, c5, resO, rep_enc]
     · simp only [k, Int.reduceEq, if_true, if_false, Option.bind_some]
       generalize fitD (prodD 6 d f) = sd at c6 ⊢
       simp only [go_sem, iter_eq, hx, hy]
       rw [q_drs]
       rotate_left
       · kernel_rfl
       cases sd <;> simp only [resO, rep_enc] at c6 <;> simp only [go_sem, c6, resO, rep_enc]
     · simp only [k, Int.reduceEq, if_true, if_false, Option.bind_some]
       generalize fitD (prodD 7 d f) = sd at c7 ⊢
       simp only [go_sem, iter_eq, hx, hy]
       rw [q_drs]
       rotate_left
       · kernel_rfl
       cases sd <;> simp only [resO, rep_enc] at c7 <;> simp only [go_sem, c7, resO, rep_enc]
 termination_by SizeOf.sizeOf r
 decreasing_by exact Rx.lt _ hz
end Go.Ev
namespace Go.Ev
open Go Go.Proofs
set_option maxRecDepth 10000
set_option maxHeartbeats 4000000

theorem r25 (r : Rx) (hs : szT r.enc ≤ 1048576) : run EE 25 [r.enc] [] = some (resO (if validR r = true then compR r else none), []) := by
 have iv := r55 r hs
 have cc := fun hg => r56 r hs hg
 simp only [Rx.enc_eq] at iv cc
 rw [run_eq EE 25 _ _ Tryz.func25 (by decide +kernel) rfl (show 1 ≤ _ by decide)]
 dsimp only [Tryz.f25]
 by_cases h : validR r = true
 · rw [if_pos h]
   rw [h] at iv
   have hg : r.good = true := by
     unfold validR at h
     rw [Bool.and_eq_true, Bool.and_eq_true] at h
     exact h.2.2
   have cc := cc hg
   generalize compR r = c at cc ⊢
   cases c <;> simp only [resO, rep_enc] at cc <;> simp only [go_sem, iv, cc, resO, rep_enc, Bool.not_true]
 · rw [if_neg h]
   have h' : validR r = false := by simpa using h
   rw [h'] at iv
   simp only [go_sem, iv, resO, Bool.not_false]
end Go.Ev
namespace Go.Ev
open Go Go.Proofs
set_option maxRecDepth 10000
set_option maxHeartbeats 4000000

theorem r113 (r : Rx) (hs : r.letter.size ≤ 1048576) (hk : r.kind = 1 ∨ r.kind = 2 ∨ r.kind = 3 ∨ r.kind = 4) (hw : r.kind = 3 → isWord r.letter = true) (ha : r.args = []) : run EE 113 [r.enc] [] = some ((leafR r.kind r.letter).encT, []) := by
 have w0 := r133 ByteArray.empty word0
 change run EE _ [V.str ⟨#[]⟩] [] = _ at w0
 unfold leafR
 simp only [Rx.enc_eq]
 rw [run_eq EE 113 _ _ Tryz.func113 (by decide +kernel) rfl (show 1 ≤ _ by decide)]
 dsimp only [Tryz.f113]
 rw [ha]
 simp only [DN.encT] at w0 ⊢
 rcases hk with k | k | k | k
 · simp only [k, go_sem, Int.reduceEq]
   rfl
 · simp only [k, go_sem, w0, Int.reduceEq]
 · have w3 := r133 r.letter (hw k)
   simp only [DN.encT] at w3
   simp only [k, go_sem, w3, Int.reduceEq]
 · simp only [k, go_sem, Int.reduceEq]
   rfl
theorem r83 (r : Rx) (hs : szT r.enc ≤ 1048576) (hg : r.good = true) : run EE 83 [r.enc] [] = some (resO (compR r), []) := by
 have hs' := hs
 simp only [Rx.enc_eq, szT, szL, List.length_map] at hs'
 obtain ⟨hga, hgt⟩ := good_args hg
 have ih : ∀ z ∈ r.args, run EE 83 [z.enc] [] = some (resO (compR z), []) := fun z hz => r83 z (Nat.le_trans (szL_mem (f := Rx.enc) hz) (by omega)) (hga z hz)
 have lf := fun hk ha => r113 r (by omega) hk (okTop_word hgt) ha
 rw [compR_eq]
 simp only [Rx.enc_eq] at lf ⊢
 rw [run_eq EE 83 _ _ Tryz.func83 (by decide +kernel) rfl (show 1 ≤ _ by decide)]
 dsimp only [Tryz.f83]
 rcases good_cases hg with ⟨hk, ha⟩ | ⟨hk, x, ha⟩ | ⟨hk, x, y, ha⟩
 · have lf := lf hk ha
   rw [ha, List.map_nil] at lf
   rw [ha, List.map_nil, List.map_nil]
   unfold opR
   generalize leafR r.kind r.letter = e at lf ⊢
   simp only [DN.encT] at lf
   simp only [go_sem, lf, resO, rep_enc]
 · have hx := ih x (by rw [ha]; exact List.mem_cons_self ..)
   have hxv := fun d => compR_val x (hga x (by rw [ha]; exact List.mem_cons_self ..)) (e := d)
   rw [ha, List.map_cons, List.map_nil, List.map_cons, List.map_nil]
   unfold opR
   generalize compR x = cx at hx hxv ⊢
   simp only [Rx.enc_eq] at hx
   cases cx with
   | none =>
     simp only [resO] at hx
     simp only [go_sem, hx, resO, Option.bind_none, Bool.not_false]
   | some d =>
     have hd := hxv d rfl
     have cp := r45 d hd
     have st := r114 d hd
     simp only [resO, rep_enc] at hx cp
     rcases hk with k | k
     · simp only [k, Int.reduceEq, if_false, Option.bind_some]
       generalize starD d = sd at st ⊢
       cases sd <;> simp only [resO, rep_enc] at st <;> simp only [go_sem, hx, st, resO, rep_enc, Bool.not_true]
     · simp only [k, go_sem, hx, cp, Int.reduceEq, Option.bind_some, resO, rep_enc, Bool.not_true]
 · have hx := ih x (by rw [ha]; exact List.mem_cons_self ..)
   have hy := ih y (by rw [ha]; exact List.mem_cons_of_mem _ (List.mem_cons_self ..))
   have hxv := fun d => compR_val x (hga x (by rw [ha]; exact List.mem_cons_self ..)) (e := d)
   have hyv := fun d => compR_val y (hga y (by rw [ha]; exact List.mem_cons_of_mem _ (List.mem_cons_self ..))) (e := d)
   rw [ha, List.map_cons, List.map_cons, List.map_nil, List.map_cons, List.map_cons, List.map_nil]
   unfold opR
   generalize compR x = cx at hx hxv ⊢
   generalize compR y = cy at hy hyv ⊢
   simp only [Rx.enc_eq] at hx hy
   cases cx with
   | none =>
     simp only [resO] at hx
     simp only [go_sem, hx, resO, Option.bind_none, Bool.not_false]
   | some d =>
   cases cy with
   | none =>
     simp only [resO, rep_enc] at hx hy
     rcases hk with k | k | k <;> simp only [k, go_sem, hx, hy, resO, Option.bind_none, Option.bind_some, Bool.not_true, Bool.not_false]
   | some f =>
     have hd := hxv d rfl
     have hf := hyv f rfl
     have c5 := r115 d f hd hf
     have c6 := r44 d f hd hf 6 (Or.inl rfl)
     have c7 := r44 d f hd hf 7 (Or.inr rfl)
     simp only [rep_enc] at c5 c6 c7
     simp only [resO, rep_enc] at hx hy
     rcases hk with k | k | k
     · simp only [k, Int.reduceEq, if_true, if_false, Option.bind_some]
       generalize concD d f = sd at c5 ⊢
       cases sd <;> simp only [resO, rep_enc] at c5 <;> simp only [go_sem, hx, hy, c5, resO, rep_enc, Bool.not_true]
     · simp only [k, Int.reduceEq, if_true, if_false, Option.bind_some]
       generalize fitD (prodD 6 d f) = sd at c6 ⊢
       cases sd <;> simp only [resO, rep_enc] at c6 <;> simp only [go_sem, hx, hy, c6, resO, rep_enc, Bool.not_true]
     · simp only [k, Int.reduceEq, if_true, if_false, Option.bind_some]
       generalize fitD (prodD 7 d f) = sd at c7 ⊢
       cases sd <;> simp only [resO, rep_enc] at c7 <;> simp only [go_sem, hx, hy, c7, resO, rep_enc, Bool.not_true]
 termination_by SizeOf.sizeOf r
 decreasing_by exact Rx.lt _ hz
theorem r43 (r : Rx) (hs : szT r.enc ≤ 1048576) : run EE 43 [r.enc] [] = some (resO (if validR r = true then compR r else none), []) := by
 have iv := r82 r hs
 have cc := fun hg => r83 r hs hg
 simp only [Rx.enc_eq] at iv cc
 rw [run_eq EE 43 _ _ Tryz.func43 (by decide +kernel) rfl (show 1 ≤ _ by decide)]
 dsimp only [Tryz.f43]
 by_cases h : validR r = true
 · rw [if_pos h]
   rw [h] at iv
   have hg : r.good = true := by
     unfold validR at h
     rw [Bool.and_eq_true, Bool.and_eq_true] at h
     exact h.2.2
   have cc := cc hg
   generalize compR r = c at cc ⊢
   cases c <;> simp only [resO, rep_enc] at cc <;> simp only [go_sem, iv, cc, resO, rep_enc, Bool.not_true]
 · rw [if_neg h]
   have h' : validR r = false := by simpa using h
   rw [h'] at iv
   simp only [go_sem, iv, resO, Bool.not_false]
end Go.Ev
namespace Go.Ev
open Go Go.Proofs
set_option maxRecDepth 10000
set_option maxHeartbeats 4000000

def zeroM (m : Mor) : Bool := decide (m.a.size = 0) && (decide (m.b.size = 0) && decide (m.c.size = 0))
def compV (r : Rx) : Option DN := if validR r = true then compR r else none
def lineOk (l : Line) : Bool :=
 if l.kind = 1 ∨ l.kind = 2 then decide (l.text.size ≤ 4) && isWord l.text && zeroM l.mor && zeroR l.regex
 else if l.kind = 3 then decide (l.text.size = 0) && isMor l.mor && zeroR l.regex
 else if l.kind = 4 then decide (l.text.size = 0) && zeroM l.mor && (compV l.regex).isSome
 else false
theorem r49 (l : Line) (ht : l.text.size ≤ 1048576) (h1 : l.mor.a.size ≤ 1048576) (h2 : l.mor.b.size ≤ 1048576) (h3 : l.mor.c.size ≤ 1048576) (hr : szT l.regex.enc ≤ 1048576) : run EE 49 [l.enc] [] = some (.bool (lineOk l), []) := by
 have iw := r51 l.text (by omega)
 have im := r54 l.mor h1 h2 h3
 have zr := r90 l.regex
 have cr := r25 l.regex hr
 simp only [Rx.enc_eq] at zr cr
 rw [run_eq EE 49 _ _ Tryz.func49 (by decide +kernel) rfl (show 1 ≤ _ by decide)]
 dsimp only [Tryz.f49]
 have hz : decide ((⟨#[]⟩ : ByteArray).size = 0) = true := rfl
 have fin : ∀ b, zeroM l.mor = b → (decide (l.mor.a.size = 0) && (decide (l.mor.b.size = 0) && decide (l.mor.c.size = 0))) = b := fun b e => e
 unfold lineOk
 by_cases k12 : l.kind = 1 ∨ l.kind = 2
 · rw [if_pos k12]
   by_cases hl : l.text.size ≤ 4
   · have hl' : ¬ (l.text.size : Int) > 4 := by omega
     cases hw : isWord l.text
     · rw [hw] at iw
       rcases k12 with k | k <;> simp only [k, go_sem, hl', iw, Bool.not_false, Bool.and_false, Bool.false_and]
     · rw [hw] at iw
       rw [decide_eq_true hl]
       cases hm : zeroM l.mor
       · have fin := fin _ hm
         rcases k12 with k | k <;> simp only [k, go_sem, hl', iw, Bool.not_true, toList_nil, hz, fin, Bool.true_and, Bool.false_and, Bool.and_false]
       · have fin := fin _ hm
         rcases k12 with k | k <;> simp only [k, go_sem, hl', iw, Bool.not_true, toList_nil, hz, fin, zr, Bool.true_and]
   · have hl' : (l.text.size : Int) > 4 := by omega
     rcases k12 with k | k <;> simp only [k, go_sem, hl', hl, Bool.false_and, decide_false]
 rw [if_neg k12]
 have k1 : (l.kind == 1) = false := by simpa using fun e => k12 (Or.inl e)
 have k2 : (l.kind == 2) = false := by simpa using fun e => k12 (Or.inr e)
 by_cases k3 : l.kind = 3
 · rw [if_pos k3]
   cases hm : isMor l.mor
   · rw [hm] at im
     simp only [Mor.enc] at im
     simp only [k3, go_sem, im, Bool.not_false, Bool.and_false, Bool.false_and]
   · rw [hm] at im
     simp only [Mor.enc] at im
     cases ht0 : decide (l.text.size = 0)
     · simp only [k3, go_sem, im, Bool.not_true, toList_nil, hz, ht0, Bool.true_and, Bool.false_and, Bool.and_false]
     · simp only [k3, go_sem, im, Bool.not_true, toList_nil, hz, ht0, zr, Bool.true_and, Bool.and_true]
 rw [if_neg k3]
 have k3' : (l.kind == 3) = false := by simpa using k3
 by_cases k4 : l.kind = 4
 · rw [if_pos k4]
   have zr0 := r90 ⟨0, ⟨#[]⟩, []⟩
   have zt : zeroR ⟨0, ⟨#[]⟩, []⟩ = true := rfl
   rw [zt] at zr0
   simp only [Rx.enc_eq, List.map_nil] at zr0
   change run EE 25 _ [] = some (resO (compV l.regex), []) at cr
   generalize compV l.regex = c at cr ⊢
   cases c with
   | none =>
     simp only [resO] at cr
     simp only [k4, go_sem, cr, Bool.not_false, Option.isSome, Bool.and_false]
   | some e =>
     simp only [resO, rep_enc] at cr
     cases ht0 : decide (l.text.size = 0)
     · simp only [k4, go_sem, cr, Bool.not_true, toList_nil, hz, ht0, Bool.true_and, Bool.false_and, Bool.and_false, Option.isSome]
     · cases hm : zeroM l.mor
       · have fin := fin _ hm
         simp only [k4, go_sem, cr, Bool.not_true, toList_nil, hz, ht0, fin, Bool.true_and, Bool.and_true, Bool.false_and, Option.isSome]
       · have fin := fin _ hm
         simp only [k4, go_sem, cr, Bool.not_true, toList_nil, hz, ht0, fin, zr0, Bool.true_and, Bool.and_true, Option.isSome]
 rw [if_neg k4]
 have k4' : (l.kind == 4) = false := by simpa using k4
 simp only [go_sem, k1, k2, k3', k4']
end Go.Ev
namespace Go.Ev
open Go Go.Proofs
set_option maxRecDepth 10000
set_option maxHeartbeats 4000000

def lineSz (l : Line) : Prop := l.text.size ≤ 1048576 ∧ l.mor.a.size ≤ 1048576 ∧ l.mor.b.size ≤ 1048576 ∧ l.mor.c.size ≤ 1048576 ∧ szT l.regex.enc ≤ 1048576
theorem r48 (l : Line) (h : lineSz l) : run EE 48 [l.enc] [] = some (.bool (!lineOk l), []) := by
 have il := r49 l h.1 h.2.1 h.2.2.1 h.2.2.2.1 h.2.2.2.2
 simp only [Line.enc] at il
 rw [run_eq EE 48 _ _ Tryz.func48 (by decide +kernel) rfl (show 1 ≤ _ by decide)]
 dsimp only [Tryz.f48]
 simp only [go_sem, il]
def progOk (ls : List Line) : Bool := decide (ls.length ≤ 8) && ls.all lineOk
theorem r20 (ls : List Line) (hl : ls.length ≤ 1048576) (h : ∀ l ∈ ls, lineSz l) : run EE 20 [.agg [.slc false 8 (ls.map Line.enc)]] [] = some (.bool (progOk ls), []) := by
 have cf := cf47_0 ls (by omega) (fun l => !lineOk l) 48 (fun _ => rfl) (fun x hx => r48 x (h x hx))
 have e : ∀ l : List Line, l.any (fun l => !lineOk l) = !l.all lineOk := by
   intro l
   induction l with
   | nil => rfl
   | cons a l ih => rw [List.any_cons, List.all_cons, ih, Bool.not_and]
 rw [e] at cf
 unfold progOk
 rw [run_eq EE 20 _ _ Tryz.func20 (by decide +kernel) rfl (show 1 ≤ _ by decide)]
 dsimp only [Tryz.f20]
 generalize ls.all lineOk = A at cf ⊢
 by_cases k : ls.length ≤ 8
 · have k' : (ls.length : Int) ≤ 8 := by omega
   simp only [go_sem, k, k', cf, Bool.true_and, Bool.not_not, decide_true]
 · have k' : ¬ (ls.length : Int) ≤ 8 := by omega
   simp only [go_sem, k, k', Bool.false_and, decide_false]
end Go.Ev
