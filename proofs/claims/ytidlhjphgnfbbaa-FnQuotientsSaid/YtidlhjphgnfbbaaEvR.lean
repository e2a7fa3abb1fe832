/- Quotients: an automaton's answers moved by a word. Automata in memory: made, read as they stand. Lists of lists that a loop keeps as objects. Left quotients: another start state, by renaming. A draw's cursor: a variable of an outer frame. No statement of the seat is proved here. Frames, states and steps: what both sides compute. Values of variables, what a string says of them, and that a solution of an equation passes through one of its moves. No statement of the seat is proved here. A solution of an equation passes through one of its moves: bytes as lists. No statement of the seat is proved here. What a minimal automaton accepts is what the automaton accepts; words behind words. -/
import Derived.Test.YtidlhjphgnfbbaaEvQ
import Derived.Test.YtidlhjphgnfbbaaEvP
import Derived.Test.YtidlhjphgnfbbaaEvO
set_option linter.unusedVariables false
set_option linter.unusedSimpArgs false
namespace Go.Ev
open Go
def trip (r : List Int) : Nat × Nat × Nat := ((r.getD 0 0).toNat, (r.getD 1 0).toNat, (r.getD 2 0).toNat)
def Dfa.dn (x : Dfa) : DN := ⟨x.accept, x.next.map trip⟩
theorem rowOk_trip {n : Nat} {r : List Int} (h : rowOk n r = true) : r = [((trip r).1 : Int), (trip r).2.1, (trip r).2.2] ∧ (trip r).1 < n ∧ (trip r).2.1 < n ∧ (trip r).2.2 < n := by
 unfold rowOk at h
 rw [Bool.and_eq_true, List.all_eq_true] at h
 obtain ⟨h1, h2⟩ := h
 have h3 := eq_of_beq h1
 match r, h3, h2 with
 | [a, b, c], _, h2 =>
   have ha := h2 a (by simp)
   have hb := h2 b (by simp)
   have hc := h2 c (by simp)
   rw [Bool.and_eq_true, decide_eq_true_eq, decide_eq_true_eq] at ha hb hc
   unfold trip
   simp only [List.getD_cons_zero, List.getD_cons_succ]
   have ea : ((a.toNat : Nat) : Int) = a := Int.toNat_of_nonneg ha.1
   have eb : ((b.toNat : Nat) : Int) = b := Int.toNat_of_nonneg hb.1
   have ec : ((c.toNat : Nat) : Int) = c := Int.toNat_of_nonneg hc.1
   rw [ea, eb, ec]
   exact ⟨rfl, by omega, by omega, by omega⟩
 | [], h3, _ => simp at h3
 | [_], h3, _ => simp at h3
 | [_, _], h3, _ => simp at h3
 | _ :: _ :: _ :: _ :: _, h3, _ => simp at h3; omega
theorem validD_dn {x : Dfa} (h : validD x = true) : x = x.dn.dfa ∧ Val x.dn := by
 unfold validD at h
 rw [Bool.and_eq_true, Bool.and_eq_true, Bool.and_eq_true, decide_eq_true_eq, decide_eq_true_eq, List.all_eq_true] at h
 obtain ⟨⟨h1, h2⟩, h3, h4⟩ := h
 have h3 := eq_of_beq h3
 refine ⟨?_, ⟨?_, ?_⟩, ?_, ?_⟩
 · obtain ⟨A, N⟩ := x
   unfold Dfa.dn DN.dfa
   dsimp only at *
   rw [List.map_map]
   congr 1
   have : ∀ r ∈ N, id r = ((fun t : Nat × Nat × Nat => [(t.1 : Int), t.2.1, t.2.2]) ∘ trip) r := fun r hr => (rowOk_trip (h4 r hr)).1
   rw [← List.map_congr_left this, List.map_id]
 · unfold Dfa.dn
   dsimp only
   rw [List.length_map]
   omega
 · intro t ht
   unfold Dfa.dn at ht ⊢
   dsimp only at ht ⊢
   obtain ⟨r, hr, rfl⟩ := List.mem_map.1 ht
   exact (rowOk_trip (h4 r hr)).2
 · show 1 ≤ x.accept.length; omega
 · show x.accept.length ≤ 40; omega
def rqA (d : DN) (s : ByteArray) (q : Nat) : Bool := d.accept.getD (walk d s q 0) false
def rqD (d : DN) (s : ByteArray) : DN := ⟨(List.range d.accept.length).map (rqA d s), d.next⟩
theorem rqD_ok {d : DN} (h : d.ok) (s : ByteArray) : (rqD d s).ok := by
 unfold rqD DN.ok
 dsimp only
 rw [List.length_map, List.length_range]
 exact h
theorem rqD_len (d : DN) (s : ByteArray) : (rqD d s).accept.length = d.accept.length := by
 unfold rqD
 dsimp only
 rw [List.length_map, List.length_range]
def mixA (d : DN) (s : ByteArray) (i : Nat) : List Bool := (List.range d.accept.length).map fun q => if q < i then rqA d s q else d.accept.getD q false
theorem mixA_len (d : DN) (s : ByteArray) (i : Nat) : (mixA d s i).length = d.accept.length := by unfold mixA; rw [List.length_map, List.length_range]
theorem mixA_get (d : DN) (s : ByteArray) (i j : Nat) (h : j < (mixA d s i).length) : (mixA d s i)[j] = if j < i then rqA d s j else d.accept.getD j false := by
 simp only [mixA, List.getElem_map, List.getElem_range]
theorem mixA_0 (d : DN) (s : ByteArray) : mixA d s 0 = d.accept := by
 refine List.ext_getElem (mixA_len d s 0) fun j h h' => ?_
 rw [mixA_get, if_neg (Nat.not_lt_zero _), List.getD_eq_getElem?_getD, List.getElem?_eq_getElem h']
 rfl
theorem mixA_all (d : DN) (s : ByteArray) : mixA d s d.accept.length = (rqD d s).accept := by
 unfold mixA rqD
 refine List.map_congr_left fun q hq => ?_
 rw [if_pos (List.mem_range.1 hq)]
theorem mixA_set (d : DN) (s : ByteArray) {i : Nat} (_h : i < d.accept.length) : ((mixA d s i).map B).set i (B (rqA d s i)) = (mixA d s (i + 1)).map B := by
 rw [← List.map_set]
 refine congrArg (List.map B) (List.ext_getElem (by rw [List.length_set, mixA_len, mixA_len]) fun j h1 h2 => ?_)
 rw [List.getElem_set]
 rw [mixA_get, mixA_get]
 by_cases e : i = j
 · subst e
   rw [if_pos rfl, if_pos (Nat.lt_succ_self _)]
 · rw [if_neg e]
   by_cases k : j < i
   · rw [if_pos k, if_pos (by omega)]
   · rw [if_neg k, if_neg (by omega)]
theorem uMakes_acc (s : St) (d : Nat) {A : List Bool} (l : List V) (hA : A ≠ []) (h : s.b d = none) : uMakes s d [.uq 1 (A.map B), .slc true 1 l] = some ([.aref s.lv d A.length, .slc true 1 l], { s with b := upd s.b d (some (.arr false 1 (A.map B))) }) := by
 have e : uMakes s (d + 1) [.slc true 1 l] = some ([.slc true 1 l], s) := rfl
 unfold uMakes
 rw [e]
 dsimp only
 rw [uMake_acc s d A h]
 unfold rowT accO
 rw [if_neg (fun e => hA (List.eq_nil_of_length_eq_zero e)), if_neg hA]
 rfl
attribute [go_sem high] uMakes_acc
theorem peekC_aref (s : St) (n lv t k : Nat) : peekC s (n + 1) (.aref lv t k) = match s.ob lv t with
   | some (.arr _ sz l) => if l.length = k then some (.slc false sz l) else none
   | some (.dir sz l) => if l.length = k then (peekL (peekC s n) l).map (.slc false sz ·) else none
   | _ => none := rfl
theorem peekC_slc (s : St) (n : Nat) (b : Bool) (sz : Nat) (l : List V) : peekC s n (.slc b sz l) = some (.slc false sz l) := by
 cases n <;> cases b <;> rfl
theorem peekC_0 (s : St) (n : Nat) (i : Int) (k : IntKind) : peekC s n (.int k i) = some (.int k i) := by cases n <;> rfl
attribute [go_sem] peekC_aref peekC_slc peekC_0
theorem free_B (l : List Bool) : (l.map B).all V.free = true := by
 rw [List.all_eq_true]
 intro v hv
 obtain ⟨b, _, rfl⟩ := List.mem_map.1 hv
 simp [B, V.free]
theorem free_NU (l : List (Nat × Nat × Nat)) : (l.map NU).all V.free = true := by
 rw [List.all_eq_true]
 intro v hv
 obtain ⟨b, _, rfl⟩ := List.mem_map.1 hv
 unfold NU
 rw [free_uq]
 simp [V.free]
theorem free_bool (b : Bool) : (V.bool b).free = true := by rw [V.free]
theorem free_nil (n : Nat) : (V.slc false n []).free = true := by rw [V.free]
theorem flat_agg (l : List V) : (V.agg l).flatOk = (V.agg l).aggOk := rfl
theorem flat_tup (l : List V) : (V.tup l).flatOk = l.all V.aggOk := rfl
attribute [go_sem] free_uq free_agg free_tup free_B free_NU free_bool free_nil flat_agg flat_tup
attribute [go_sem] V.aggOk isCell
theorem ice_B (l : List Bool) : (l.map B).map V.ice = l.map B := by
 rw [List.map_map]
 exact List.map_congr_left fun b _ => by simp [B, V.ice]
theorem ice_I (l : List Int) : (l.map I).map V.ice = l.map I := by
 rw [List.map_map]
 exact List.map_congr_left fun b _ => by simp [I, V.ice]
theorem ice_UR (l : List (List Int)) : (l.map UR).map V.ice = l.map IL := by
 rw [List.map_map]
 refine List.map_congr_left fun r _ => ?_
 show V.ice (.uq 1 (r.map I)) = .slc false 1 (r.map I)
 rw [V.ice]
 simp
 intro a _
 simp [I, V.ice]
theorem ice_NU (l : List (Nat × Nat × Nat)) : (l.map NU).map V.ice = l.map NT := by
 rw [List.map_map]
 refine List.map_congr_left fun r _ => ?_
 show V.ice (.uq 1 _) = .slc false 1 _
 rw [V.ice]
 simp [V.ice]
attribute [go_sem] ice_B ice_I ice_UR ice_NU
def rqR (x : Dfa) (s : ByteArray) : V := if validD x = true ∧ isWord s = true then .tup [(quotS (rqD x.dn s) 0).encD, .bool true] else .tup [.agg [.slc false 1 [], .slc false 1 []], .bool false]
end Go.Ev
namespace Go.Ev
open Go
set_option maxRecDepth 10000
set_option maxHeartbeats 4000000

def mine (u y : Nat) : Prop := y = u ∨ y = u + 1 ∨ ∃ j, y = rid (u + 1) j
theorem mine_small {u y : Nat} (h : y < u) : ¬ mine u y := by
 rintro (e | e | ⟨j, e⟩)
 · omega
 · omega
 · have := rid_gt (u + 1) j; omega
theorem rid_ne {u v i j : Nat} (hu : u < KK) (hv : v < KK) (h : u ≠ v) : rid u i ≠ rid v j := by
 intro e
 unfold rid at e
 have e1 : (u + (i + 1) * KK) % KK = u := by rw [Nat.add_mul_mod_self_right, Nat.mod_eq_of_lt hu]
 have e2 : (v + (j + 1) * KK) % KK = v := by rw [Nat.add_mul_mod_self_right, Nat.mod_eq_of_lt hv]
 rw [e, e2] at e1
 exact h e1.symm
theorem rid_big (u i : Nat) : KK ≤ rid u i := by
 unfold rid
 have : 1 * KK ≤ (i + 1) * KK := Nat.mul_le_mul_right _ (by omega)
 omega
theorem kk_big : 1000000 < KK := by decide
theorem mine_ne {u v y : Nat} (hu : u < 900000) (hv : v < 900000) (h : u + 1 < v ∨ v + 1 < u) (k : mine u y) : ¬ mine v y := by
 have hk := kk_big
 rcases k with rfl | rfl | ⟨i, rfl⟩ <;> rintro (e | e | ⟨j, e⟩)
 · omega
 · omega
 · have := rid_big (v + 1) j; omega
 · omega
 · omega
 · have := rid_big (v + 1) j; omega
 · have := rid_big (u + 1) i; omega
 · have := rid_big (u + 1) i; omega
 · exact rid_ne (by omega) (by omega) (by omega) e
structure DfaM (b : Nat → Option Ob) (u : Nat) (A : List Bool) (rows : List (List Int)) : Prop where
 acc : A ≠ [] → b u = some (.arr false 1 (A.map B))
 dir : rows ≠ [] → b (u + 1) = some (.dir 1 (refsR 0 (u + 1) (rows.map List.length)))
 row : ∀ j, (h : j < rows.length) → rows[j] ≠ [] → b (rid (u + 1) j) = some (.dir 1 (rows[j].map I))
theorem DfaM.congr {b b' : Nat → Option Ob} {u : Nat} {A : List Bool} {rows : List (List Int)} (h : DfaM b u A rows) (e : ∀ y, mine u y → b' y = b y) : DfaM b' u A rows :=
 ⟨fun z => (e _ (.inl rfl)).trans (h.acc z), fun z => (e _ (.inr (.inl rfl))).trans (h.dir z), fun j hj z => (e _ (.inr (.inr ⟨j, rfl⟩))).trans (h.row j hj z)⟩
theorem made (b : Nat → Option Ob) (u : Nat) (A : List Bool) (rows : List (List Int)) (h : ∀ y, mine u y → b y = none) :
   ∃ b', (∀ t r f n, uMakes ⟨t, b, [], r, f, n⟩ u [.uq 1 (A.map B), .uq 1 (rows.map UR)] = some ([rowT 0 u A.length, rowT 0 (u + 1) rows.length], ⟨t, b', [], r, f, n⟩)) ∧ DfaM b' u A rows ∧ ∀ y, ¬ mine u y → b' y = b y := by
 have hne : ∀ j, rid (u + 1) j ≠ u + 1 ∧ rid (u + 1) j ≠ u := fun j => by have := rid_gt (u + 1) j; omega
 refine ⟨accO u A (nextO 0 (u + 1) rows b), fun t r f n => ?_, ⟨fun z => ?_, fun z => ?_, fun j hj z => ?_⟩, fun y hy => ?_⟩
 · exact uMakes_dfa ⟨t, b, [], r, f, n⟩ u A rows (h _ (.inl rfl)) (h _ (.inr (.inl rfl))) fun j => h _ (.inr (.inr ⟨j, rfl⟩))
 · unfold accO
   rw [if_neg z]
   show (if u = u then _ else _) = _
   rw [if_pos rfl]
 · have e1 : accO u A (nextO 0 (u + 1) rows b) (u + 1) = nextO 0 (u + 1) rows b (u + 1) := by
     unfold accO
     split
     · rfl
     · show (if u + 1 = u then _ else _) = _
       rw [if_neg (by omega)]
   rw [e1]
   unfold nextO
   rw [if_neg z]
   show (if u + 1 = u + 1 then _ else _) = _
   rw [if_pos rfl]
 · have e1 : accO u A (nextO 0 (u + 1) rows b) (rid (u + 1) j) = nextO 0 (u + 1) rows b (rid (u + 1) j) := by
     unfold accO
     split
     · rfl
     · show (if _ = u then _ else _) = _
       rw [if_neg (hne j).2]
   rw [e1]
   unfold nextO
   rw [if_neg (fun e => by subst e; exact absurd hj (Nat.not_lt_zero _))]
   show (if _ = u + 1 then _ else _) = _
   rw [if_neg (hne j).1]
   have := rowsB_get (u + 1) rows 0 b j hj z
   rw [Nat.zero_add] at this
   exact this
 · have e1 : accO u A (nextO 0 (u + 1) rows b) y = nextO 0 (u + 1) rows b y := by
     unfold accO
     split
     · rfl
     · show (if y = u then _ else _) = _
       rw [if_neg fun e => hy (.inl e)]
   rw [e1]
   unfold nextO
   split
   · rfl
   · show (if y = u + 1 then _ else _) = _
     rw [if_neg fun e => hy (.inr (.inl e))]
     exact rowsB_other _ _ _ _ fun j _ e => hy (.inr (.inr ⟨j, e⟩))
theorem peekL_rows {b : Nat → Option Ob} {u n : Nat} {s : St} (hb : s.b = b) (ho : s.o = []) : ∀ (rows : List (List Int)) (i : Nat), (∀ j, (h : j < rows.length) → rows[j] ≠ [] → b (rid u (i + j)) = some (.dir 1 (rows[j].map I))) → peekL (peekC s (n + 2)) (refsF 0 u (rows.map List.length) i) = some (rows.map IL) := by
 intro rows
 induction rows with
 | nil => intro i _; rfl
 | cons r rs ih =>
   intro i h
   have ih' := ih (i + 1) fun j hj z => by
     have := h (j + 1) (by simpa using hj) (by simpa using z)
     rw [show i + 1 + j = i + (j + 1) by omega]
     simpa using this
   have h0 := h 0 (by simp)
   rw [List.map_cons]
   unfold refsF peekL
   rw [ih']
   by_cases hz : r = []
   · subst hz
     rfl
   · have hl : ¬ r.length = 0 := fun e => hz (List.eq_nil_of_length_eq_zero e)
     have h0' := h0 hz
     have eI : peekL (peekC s (n + 1)) (r.map I) = some (r.map I) := by
       clear h0 h0' hl hz h
       induction r with
       | nil => rfl
       | cons a r ihr =>
         rw [List.map_cons]
         unfold peekL
         rw [ihr]
         rfl
     have e : peekC s (n + 2) (rowR 0 (rid u i) r.length) = some (IL r) := by
       unfold rowR
       rw [if_neg hl, peekC_aref]
       have : s.ob 0 (rid u i) = some (.dir 1 (r.map I)) := by
         unfold St.ob
         rw [ho, hb]
         exact h0'
       rw [this]
       dsimp only
       rw [if_pos (List.length_map _), eI]
       rfl
     have ef : (rowR 0 (rid u i) r.length).flat = [rowR 0 (rid u i) r.length] := by
       unfold rowR
       rw [if_neg hl]
       rfl
     rw [ef]
     unfold mapOpt
     rw [e]
     show (match some [IL r], some (rs.map IL) with | some cs, some l' => some ((rowR 0 (rid u i) r.length).refill cs :: l') | _, _ => none) = _
     unfold rowR
     rw [if_neg hl]
     rfl
theorem peeked {b : Nat → Option Ob} {u : Nat} {A : List Bool} {rows : List (List Int)} (h : DfaM b u A rows) (t r f n) :
   peekC ⟨t, b, [], r, f, n⟩ 9 (rowR 0 u A.length) = some (.slc false 1 (A.map B)) ∧ peekC ⟨t, b, [], r, f, n⟩ 9 (rowR 0 (u + 1) rows.length) = some (.slc false 1 (rows.map IL)) := by
 constructor
 · cases A with
   | nil => rfl
   | cons a A =>
     unfold rowR
     rw [if_neg (by simp), peekC_aref]
     have : St.ob ⟨t, b, [], r, f, n⟩ 0 u = some (.arr false 1 ((a :: A).map B)) := h.acc (by simp)
     rw [this]
     dsimp only
     rw [if_pos (List.length_map _)]
 · cases hr : rows with
   | nil => rfl
   | cons r0 rs =>
     rw [← hr]
     have hn : rows ≠ [] := by rw [hr]; simp
     have hl : ¬ rows.length = 0 := by rw [hr]; simp
     have e := peekL_rows (b := b) (u := u + 1) (n := 6) (s := ⟨t, b, [], r, f, n⟩) rfl rfl rows 0 (fun j hj z => by rw [Nat.zero_add]; exact h.row j hj z)
     rw [refsF_R] at e
     unfold rowR
     rw [if_neg hl, peekC_aref]
     have : St.ob ⟨t, b, [], r, f, n⟩ 0 (u + 1) = some (.dir 1 (refsR 0 (u + 1) (rows.map List.length))) := h.dir hn
     rw [this]
     dsimp only
     rw [if_pos (by simp [refsR]), e]
     rfl
theorem rowT_cell (lv id n : Nat) : cellOk (rowT lv id n) = true := by unfold rowT; split <;> rfl
theorem rowT_low (l id n : Nat) : lowV l (rowT 0 id n) = true := by
 unfold rowT
 split
 · rfl
 · exact decide_eq_true (Nat.zero_le l)
theorem rowR_cellD (lv id n : Nat) : cellD (rowR lv id n) = true := by unfold rowR; split <;> rfl
theorem rowR_view (lv id n : Nat) : (rowR lv id n).viewC = rowR lv id n := by unfold rowR; split <;> rfl
theorem T_cell (a b c d e f : Nat) : [rowT a b c, rowT d e f].all cellOk = true := by simp only [List.all_cons, List.all_nil, rowT_cell, Bool.and_true]
theorem T_low (l b c e f : Nat) : [rowT 0 b c, rowT 0 e f].all (lowV l) = true := by simp only [List.all_cons, List.all_nil, rowT_low, Bool.and_true]
theorem T_view (a b c d e f : Nat) : [rowT a b c, rowT d e f].map V.viewC = [rowR a b c, rowR d e f] := by simp only [List.map_cons, List.map_nil, rowT_view]
theorem R_view (a b c d e f : Nat) : [rowR a b c, rowR d e f].map V.viewC = [rowR a b c, rowR d e f] := by simp only [List.map_cons, List.map_nil, rowR_view]
theorem R_cellD (a b c d e f : Nat) : [rowR a b c, rowR d e f].all cellD = true := by simp only [List.all_cons, List.all_nil, rowR_cellD, Bool.and_true]
attribute [go_sem ↓ high] T_cell T_low T_view R_view R_cellD
theorem peekC_str (s : St) (n : Nat) (x : ByteArray) : peekC s n (.str x) = some (.str x) := by cases n <;> rfl
theorem peekC_bool (s : St) (n : Nat) (b : Bool) : peekC s n (.bool b) = some (.bool b) := by cases n <;> rfl
attribute [go_sem] peekC_str peekC_bool
def NoM (b : Nat → Option Ob) (u : Nat) : Prop := ∀ y, mine u y → b y = none
def Only (u : Nat) (b b' : Nat → Option Ob) : Prop := ∀ y, ¬ mine u y → b' y = b y
theorem NoM.st {b : Nat → Option Ob} {u k : Nat} (h : NoM b u) (hk : k < u) (o : Option Ob) : NoM (upd b k o) u := fun y hy => by
 show (if y = k then _ else _) = _
 rw [if_neg (fun e : y = k => mine_small hk (e ▸ hy))]
 exact h y hy
theorem NoM.only {b b' : Nat → Option Ob} {u v : Nat} (h : NoM b u) (o : Only v b b') (hu : u < 900000) (hv : v < 900000) (d : u + 1 < v ∨ v + 1 < u) : NoM b' u := fun y hy => (o y (mine_ne hu hv d hy)).trans (h y hy)
theorem NoM.n0 (u : Nat) : NoM n0 u := fun _ _ => rfl
theorem DfaM.st {b : Nat → Option Ob} {u k : Nat} {A : List Bool} {rows : List (List Int)} (h : DfaM b u A rows) (hk : k < u) (o : Option Ob) : DfaM (upd b k o) u A rows := h.congr fun y hy => if_neg (fun e : y = k => mine_small hk (e ▸ hy))
theorem DfaM.only {b b' : Nat → Option Ob} {u v : Nat} {A : List Bool} {rows : List (List Int)} (h : DfaM b u A rows) (o : Only v b b') (hu : u < 900000) (hv : v < 900000) (d : u + 1 < v ∨ v + 1 < u) : DfaM b' u A rows := h.congr fun y hy => o y (mine_ne hu hv d hy)
theorem Only.lo {b b' : Nat → Option Ob} {u k : Nat} (o : Only u b b') (hk : k < u) {x : Option Ob} (h : b k = x) : b' k = x := (o k (mine_small hk)).trans h
def MakesTo (vs : List V) (A : List Bool) (rows : List (List Int)) : Prop :=
 ∀ (b : Nat → Option Ob) (u : Nat), NoM b u → ∃ b', (∀ t r f n, uMakes ⟨t, b, [], r, f, n⟩ u vs = some ([rowT 0 u A.length, rowT 0 (u + 1) rows.length], ⟨t, b', [], r, f, n⟩)) ∧ DfaM b' u A rows ∧ Only u b b'
theorem emp {α : Type} (A : List α) : (A = [] ∧ ((([] : List α).length = 0) = True)) ∨ (A ≠ [] ∧ ((A.length = 0) = False)) := by
 cases A with
 | nil => exact .inl ⟨rfl, eq_true rfl⟩
 | cons a A => exact .inr ⟨by simp, eq_false (by simp)⟩
theorem free_UR (l : List (List Int)) : (l.map UR).all V.free = true := by
 rw [List.all_eq_true]
 intro v hv
 obtain ⟨b, _, rfl⟩ := List.mem_map.1 hv
 unfold UR
 rw [free_uq, List.all_eq_true]
 intro w hw
 obtain ⟨c, _, rfl⟩ := List.mem_map.1 hw
 simp [I, V.free]
attribute [go_sem] free_UR
def TwoWays (ya yn : V) (A : List Bool) (L : List (List Int)) : Prop :=
 (ya = .uq 1 (A.map B) ∧ yn = .uq 1 (L.map UR) ∧ A ≠ [] ∧ L ≠ []) ∨ (ya = .slc false 1 [] ∧ yn = .slc false 1 [] ∧ A = [] ∧ L = [])
theorem flat_bool (b : Bool) : (V.bool b).flatOk = true := rfl
theorem flat_int (k : IntKind) (n : Int) : (V.int k n).flatOk = true := rfl
theorem flat_str (x : ByteArray) : (V.str x).flatOk = true := rfl
attribute [go_sem] flat_bool flat_int flat_str
end Go.Ev
namespace Go.Ev
open Go
set_option maxRecDepth 10000

theorem kk_eq : KK = 26959946667150639794667015087019630673637144422540572481103610249216 * 4294967296 := by decide
theorem rid_mod (u j : Nat) (hu : u < 4294967296) : rid u j % 4294967296 = u := by
 unfold rid
 rw [kk_eq, ← Nat.mul_assoc, Nat.add_mul_mod_self_right, Nat.mod_eq_of_lt hu]
theorem rid_ge (u j : Nat) : 4294967296 ≤ rid u j := by
 have := rid_big u j
 have k : 4294967296 ≤ KK := by rw [kk_eq]; omega
 omega
theorem famD_rid (D : List Nat) (u j : Nat) (hu : u < 4294967296) : famD D (rid u j) = memN u D := by
 rw [Bool.eq_iff_iff, famD_iff, rid_mod u j hu]
 exact ⟨fun h => h.2, fun h => ⟨rid_ge u j, h⟩⟩
theorem famD_small (D : List Nat) (t : Nat) (h : t < 4294967296) : famD D t = false := by
 cases e : famD D t with
 | false => rfl
 | true => have := ((famD_iff _ _).1 e).1; omega
theorem famB_small (D : List Nat) (b g : Nat → Option Ob) (t : Nat) (h : t < 4294967296) : famB D b g t = g t := by
 unfold famB
 rw [famD_small D t h]
 rfl
theorem famB_rid (u j : Nat) (b g : Nat → Option Ob) (hu : u < 4294967296) : famB [u] b g (rid u j) = b (rid u j) := by
 unfold famB
 rw [famD_rid _ _ _ hu]
 simp [memN]
theorem small_ne (n u j : Nat) (h : n < 4294967296) : (n = rid u j) = False := eq_false fun e => by have := rid_ge u j; omega
theorem ne_small (n u j : Nat) (h : n < 4294967296) : (rid u j = n) = False := eq_false fun e => by have := rid_ge u j; omega
def RowsAt (b : Nat → Option Ob) (u : Nat) (rows : List (List Int)) : Prop := ∀ t, famD [u] t = true → b t = rowsB u rows 0 n0 t
theorem rowsB_none (u : Nat) {t : Nat} (h : ∀ j, t ≠ rid u j) (rows : List (List Int)) (i : Nat) (b : Nat → Option Ob) : rowsB u rows i b t = b t := rowsB_other u rows i b fun j _ => h j
theorem rowsB_over (u : Nat) : ∀ (rows : List (List Int)) (i j : Nat) (b : Nat → Option Ob), j < i ∨ i + rows.length ≤ j → rowsB u rows i b (rid u j) = b (rid u j) := by
 intro rows
 induction rows with
 | nil => intro i j b _; rfl
 | cons r rs ih =>
   intro i j b h
   unfold rowsB
   rw [ih (i + 1) j _ (by simp only [List.length_cons] at h; omega)]
   split
   · rfl
   · show (if rid u j = rid u i then _ else _) = _
     rw [if_neg fun e => by have := rid_inj e; simp only [List.length_cons] at h; omega]
theorem rowsB_empty (u : Nat) : ∀ (rows : List (List Int)) (i j : Nat) (b : Nat → Option Ob) (h : j < rows.length), rows[j] = [] → rowsB u rows i b (rid u (i + j)) = b (rid u (i + j)) := by
 intro rows
 induction rows with
 | nil => intro i j b h; simp at h
 | cons r rs ih =>
   intro i j b h hz
   unfold rowsB
   cases j with
   | zero =>
     rw [rowsB_over _ _ _ _ _ (.inl (by omega)), if_pos (show r = [] from hz)]
   | succ j =>
     have := ih (i + 1) j (if r = [] then b else upd b (rid u i) (some (.dir 1 (r.map I)))) (by simpa using h) hz
     rw [show i + 1 + j = i + (j + 1) by omega] at this
     rw [this]
     split
     · rfl
     · show (if rid u _ = rid u i then _ else _) = _
       rw [if_neg fun e => by have := rid_inj e; omega]
theorem rowsB_at (u : Nat) (rows : List (List Int)) (b : Nat → Option Ob) (j : Nat) : rowsB u rows 0 b (rid u j) = if h : j < rows.length then (if rows[j] = [] then b (rid u j) else some (.dir 1 (rows[j].map I))) else b (rid u j) := by
 split
 · rename_i h
   split
   · rename_i hz
     have := rowsB_empty u rows 0 j b h hz
     rwa [Nat.zero_add] at this
   · rename_i hz
     have := rowsB_get u rows 0 b j h hz
     rwa [Nat.zero_add] at this
 · exact rowsB_over _ _ _ _ _ (.inr (by omega))
theorem RowsAt.famOk {b : Nat → Option Ob} {u : Nat} {rows : List (List Int)} (h : RowsAt b u rows) (t : Nat → V) (o r f n) (H : Nat → Bool) : FamOk ⟨t, b, o, r, f, n⟩ H [u] := by
 intro x hx ob hb
 have hb' : rowsB u rows 0 n0 x = some ob := (h x hx).symm.trans hb
 by_cases hr : ∃ j, x = rid u j
 · obtain ⟨j, rfl⟩ := hr
   rw [rowsB_at] at hb'
   split at hb'
   · split at hb'
     · cases hb'
     · obtain rfl := Option.some.inj hb'
       refine ⟨1, _, rfl, ?_⟩
       rw [List.all_eq_true]
       intro v hv
       obtain ⟨y, hy, hv⟩ := List.mem_flatten.1 hv
       obtain ⟨z, hz, rfl⟩ := List.mem_map.1 hy
       obtain ⟨c, _, rfl⟩ := List.mem_map.1 hz
       obtain rfl : v = I c := by simpa [I, V.flat] using hv
       rfl
   · cases hb'
 · rw [rowsB_none u (fun j e => hr ⟨j, e⟩)] at hb'
   cases hb'
theorem RowsAt.fam {b : Nat → Option Ob} {u : Nat} {rows : List (List Int)} (h : RowsAt b u rows) (g : Nat → Option Ob) : famB [u] b g = famB [u] (rowsB u rows 0 n0) g := by
 funext t
 unfold famB
 split
 · rename_i k; exact h t k
 · rfl
theorem RowsAt.of_fam (u : Nat) (rows : List (List Int)) (g : Nat → Option Ob) : RowsAt (famB [u] (rowsB u rows 0 n0) g) u rows := fun t ht => by
 unfold famB
 rw [if_pos ht]
theorem RowsAt.st {b : Nat → Option Ob} {u k : Nat} {rows : List (List Int)} (h : RowsAt b u rows) (hk : k < 4294967296) (o : Option Ob) : RowsAt (upd b k o) u rows := fun t ht => by
 show (if t = k then _ else _) = _
 rw [if_neg fun e => by subst e; rw [famD_small _ _ hk] at ht; cases ht]
 exact h t ht
theorem RowsAt.set {b : Nat → Option Ob} {u j : Nat} {rows : List (List Int)} (h : RowsAt b u rows) (hj : j < rows.length) {r : List Int} (hr : r ≠ []) : RowsAt (upd b (rid u j) (some (.dir 1 (r.map I)))) u (rows.set j r) := fun t ht => by
 show (if t = rid u j then _ else _) = _
 by_cases e : t = rid u j
 · rw [if_pos e, e, rowsB_at, dif_pos (by rw [List.length_set]; exact hj)]
   have : (rows.set j r)[j]'(by rw [List.length_set]; exact hj) = r := List.getElem_set_self _
   rw [this, if_neg hr]
 · rw [if_neg e, h t ht]
   by_cases hk : ∃ i, t = rid u i
   · obtain ⟨i, rfl⟩ := hk
     have hij : j ≠ i := fun k => e (by rw [k])
     rw [rowsB_at, rowsB_at]
     simp only [List.length_set, List.getElem_set_ne hij]
   · rw [rowsB_none u (fun i k => hk ⟨i, k⟩), rowsB_none u (fun i k => hk ⟨i, k⟩)]
theorem rowsB_base (u t : Nat) : ∀ (rows : List (List Int)) (i : Nat) (b b2 : Nat → Option Ob), b t = b2 t → rowsB u rows i b t = rowsB u rows i b2 t := by
 intro rows
 induction rows with
 | nil => intro i b b2 h; exact h
 | cons r rs ih =>
   intro i b b2 h
   unfold rowsB
   refine ih _ _ _ ?_
   split
   · exact h
   · show (if t = _ then _ else _) = (if t = _ then _ else _)
     rw [h]
theorem made2 (b : Nat → Option Ob) (u : Nat) (A : List Bool) (rows : List (List Int)) (h : NoM b u) (hb : ∀ t, famD [u + 1] t = true → b t = none) (hu : u + 1 < 4294967296) :
   ∃ b', (∀ t r f n, uMakes ⟨t, b, [], r, f, n⟩ u [.uq 1 (A.map B), .uq 1 (rows.map UR)] = some ([rowT 0 u A.length, rowT 0 (u + 1) rows.length], ⟨t, b', [], r, f, n⟩)) ∧ DfaM b' u A rows ∧ Only u b b' ∧ RowsAt b' (u + 1) rows := by
 obtain ⟨b1, e1, h1, h2⟩ := made b u A rows h
 refine ⟨b1, e1, h1, h2, ?_⟩
 have e2 := uMakes_dfa ⟨e0, b, [], #[], 0, 0⟩ u A rows (h _ (.inl rfl)) (h _ (.inr (.inl rfl))) fun j => h _ (.inr (.inr ⟨j, rfl⟩))
 rw [e1] at e2
 have e3 : b1 = accO u A (nextO 0 (u + 1) rows b) := by
   have := congrArg (fun x : Option (List V × St) => x.map fun y => y.2.b) e2
   exact Option.some.inj this
 intro t ht
 have k1 : t ≠ u := fun e => by rw [e, famD_small _ _ (by omega)] at ht; cases ht
 have k2 : t ≠ u + 1 := fun e => by rw [e, famD_small _ _ hu] at ht; cases ht
 rw [e3]
 have e4 : accO u A (nextO 0 (u + 1) rows b) t = nextO 0 (u + 1) rows b t := by
   unfold accO
   split
   · rfl
   · exact if_neg k1
 rw [e4]
 unfold nextO
 split
 · rename_i hz; subst hz; exact hb t ht
 · show (if t = u + 1 then _ else _) = _
   rw [if_neg k2]
   exact rowsB_base _ _ _ _ _ _ (hb t ht)
theorem dfaM_fam {u : Nat} {A : List Bool} {rows : List (List Int)} {g : Nat → Option Ob} (hu : u + 1 < 4294967296) (ha : A ≠ [] → g u = some (.arr false 1 (A.map B))) (hd : rows ≠ [] → g (u + 1) = some (.dir 1 (refsR 0 (u + 1) (rows.map List.length)))) : DfaM (famB [u + 1] (rowsB (u + 1) rows 0 n0) g) u A rows :=
 ⟨fun z => (famB_small _ _ _ _ (by omega)).trans (ha z), fun z => (famB_small _ _ _ _ hu).trans (hd z), fun j hj z => (famB_rid _ _ _ _ hu).trans (by rw [rowsB_at, dif_pos hj, if_neg z])⟩
theorem upd_fam {b : Nat → Option Ob} {D : List Nat} {k t : Nat} (hk : k < 4294967296) (o : Option Ob) (ht : famD D t = true) : upd b k o t = b t := if_neg fun e => by rw [e, famD_small _ _ hk] at ht; cases ht
theorem rowR_held (s : St) (H : Nat → Bool) (lv id n : Nat) (h : H id = true) : (rowR lv id n).flat.all (heldC s H) = true := by
 unfold rowR
 split
 · rfl
 · show ([V.aref lv id n].all (heldC s H)) = true
   rw [List.all_cons, List.all_nil, Bool.and_true]
   show ((lv != s.lv) || H id) = true
   rw [h, Bool.or_true]
theorem held_refs (s : St) (objs : List Nat) (lv u : Nat) (ns : List Nat) (hu : u < 4294967296) : ((refsR lv u ns).map V.flat).flatten.all (heldC s (heldH objs [u])) = true := by
 rw [List.all_eq_true]
 intro v hv
 obtain ⟨y, hy, hv⟩ := List.mem_flatten.1 hv
 obtain ⟨z, hz, rfl⟩ := List.mem_map.1 hy
 unfold refsR at hz
 obtain ⟨i, _, rfl⟩ := List.mem_map.1 hz
 refine List.all_eq_true.1 (rowR_held s _ lv (rid u i) _ ?_) v hv
 rw [heldH_eq, famD_rid _ _ _ hu]
 simp [memN]
attribute [go_sem] famB_small famB_rid famD_rid famD_small small_ne ne_small held_refs
theorem famOk_self (u : Nat) (rows : List (List Int)) (g : Nat → Option Ob) (t o r f n H) : FamOk ⟨t, famB [u] (rowsB u rows 0 n0) g, o, r, f, n⟩ H [u] = True := eq_true ((RowsAt.of_fam u rows g).famOk t o r f n H)
theorem famB_self (u : Nat) (rows : List (List Int)) (g g' : Nat → Option Ob) : famB [u] (famB [u] (rowsB u rows 0 n0) g) g' = famB [u] (rowsB u rows 0 n0) g' := (RowsAt.of_fam u rows g).fam g'
theorem famOk_st (u : Nat) (rows : List (List Int)) (g : Nat → Option Ob) (k : Nat) (c t o r f n H) (hk : k < 4294967296) : FamOk ⟨t, upd (famB [u] (rowsB u rows 0 n0) g) k c, o, r, f, n⟩ H [u] = True := eq_true (((RowsAt.of_fam u rows g).st hk c).famOk t o r f n H)
theorem famB_st (u : Nat) (rows : List (List Int)) (g g' : Nat → Option Ob) (k : Nat) (c) (hk : k < 4294967296) : famB [u] (upd (famB [u] (rowsB u rows 0 n0) g) k c) g' = famB [u] (rowsB u rows 0 n0) g' := ((RowsAt.of_fam u rows g).st hk c).fam g'
attribute [go_sem] famOk_self famB_self famOk_st famB_st
end Go.Ev
namespace Go.Ev
open Go
def sw (q i : Nat) : Nat := if i = 0 then q else if i = q then 0 else i
theorem sw_sw (q i : Nat) : sw q (sw q i) = i := by
 unfold sw
 by_cases h : i = 0
 · subst h
   rw [if_pos rfl]
   by_cases hq : q = 0
   · rw [if_pos hq, hq]
   · rw [if_neg hq, if_pos rfl]
 · rw [if_neg h]
   by_cases hi : i = q
   · rw [if_pos hi, if_pos rfl, hi]
   · rw [if_neg hi, if_neg h, if_neg hi]
theorem sw_lt {q i n : Nat} (hq : q < n) (hi : i < n) : sw q i < n := by
 unfold sw
 split
 · exact hq
 split
 · omega
 · exact hi
theorem sw_inj {q x y : Nat} (h : sw q x = sw q y) : x = y := by rw [← sw_sw q x, h, sw_sw]
def sw3 (q : Nat) (t : Nat × Nat × Nat) : Nat × Nat × Nat := (sw q t.1, sw q t.2.1, sw q t.2.2)
def fromD (d : DN) (q : Nat) : DN := ⟨(List.range d.accept.length).map fun i => accN d (sw q i), (List.range d.accept.length).map fun i => sw3 q (d.nx (sw q i))⟩
theorem fromD_len (d : DN) (q : Nat) : (fromD d q).accept.length = d.accept.length := by
 show ((List.range _).map _).length = _
 rw [List.length_map, List.length_range]
theorem fromD_nlen (d : DN) (q : Nat) : (fromD d q).next.length = d.accept.length := by
 show ((List.range _).map _).length = _
 rw [List.length_map, List.length_range]
theorem fromD_ok {d : DN} (ho : d.ok) {q : Nat} (hq : q < d.accept.length) : (fromD d q).ok := by
 refine ⟨by rw [fromD_len, fromD_nlen], fun t ht => ?_⟩
 rw [fromD_len]
 obtain ⟨i, hi, rfl⟩ := List.mem_map.1 ht
 have h := DN.nx_lt ho (sw_lt hq (List.mem_range.1 hi))
 exact ⟨sw_lt hq h.1, sw_lt hq h.2.1, sw_lt hq h.2.2⟩
theorem fromD_acc (d : DN) (q : Nat) {i : Nat} (h : i < d.accept.length) : accN (fromD d q) i = accN d (sw q i) := by
 unfold accN fromD
 dsimp only
 rw [List.getD_eq_getElem?_getD, List.getElem?_map, List.getElem?_range h]
 rfl
theorem fromD_nx (d : DN) (q : Nat) {i : Nat} (h : i < d.accept.length) : (fromD d q).nx i = sw3 q (d.nx (sw q i)) := by
 unfold DN.nx fromD
 dsimp only
 rw [List.getD_eq_getElem?_getD, List.getElem?_map, List.getElem?_range h]
 rfl
theorem Ek_from {d : DN} (ho : d.ok) {q : Nat} (hq : q < d.accept.length) : ∀ k x y, x < d.accept.length → y < d.accept.length → (Ek (fromD d q) k x y ↔ Ek d k (sw q x) (sw q y)) := by
 intro k
 induction k with
 | zero =>
   intro x y hx hy
   show accN (fromD d q) x = accN (fromD d q) y ↔ accN d (sw q x) = accN d (sw q y)
   rw [fromD_acc d q hx, fromD_acc d q hy]
 | succ k ih =>
   intro x y hx hy
   have nx := DN.nx_lt ho (sw_lt hq hx)
   have ny := DN.nx_lt ho (sw_lt hq hy)
   show (Ek (fromD d q) k x y ∧ Ek (fromD d q) k ((fromD d q).nx x).1 ((fromD d q).nx y).1 ∧ Ek (fromD d q) k ((fromD d q).nx x).2.1 ((fromD d q).nx y).2.1 ∧ Ek (fromD d q) k ((fromD d q).nx x).2.2 ((fromD d q).nx y).2.2) ↔ (Ek d k (sw q x) (sw q y) ∧ Ek d k (d.nx (sw q x)).1 (d.nx (sw q y)).1 ∧ Ek d k (d.nx (sw q x)).2.1 (d.nx (sw q y)).2.1 ∧ Ek d k (d.nx (sw q x)).2.2 (d.nx (sw q y)).2.2)
   rw [fromD_nx d q hx, fromD_nx d q hy]
   unfold sw3
   dsimp only
   rw [ih x y hx hy, ih _ _ (sw_lt hq nx.1) (sw_lt hq ny.1), ih _ _ (sw_lt hq nx.2.1) (sw_lt hq ny.2.1), ih _ _ (sw_lt hq nx.2.2) (sw_lt hq ny.2.2)]
   simp only [sw_sw]
theorem order_from {d : DN} (ho : d.ok) {q : Nat} (hq : q < d.accept.length) : order d q = (order (fromD d q) 0).map (sw q) := by
 unfold order
 rw [fromD_len]
 have hf := fromD_ok ho hq
 have := bfs_map (f := sw q) (Q := fun x => x < d.accept.length) (fun x y _ _ h => sw_inj h) (g := (fromD d q).nx) (g' := d.nx) (fun x hx => by
   have := DN.nx_lt hf (q := x) (by rw [fromD_len]; exact hx)
   rw [fromD_len] at this
   exact this) (fun x hx => by
   rw [fromD_nx d q hx]
   unfold sw3
   simp only [sw_sw]) d.accept.length [0] 0 (fun x hx => by rw [List.mem_singleton.1 hx]; omega)
 exact this
theorem quotS_from {d : DN} (ho : d.ok) {q : Nat} (hq : q < d.accept.length) : quotS (fromD d q) 0 = quotS d q := by
 have hf := fromD_ok ho hq
 have h0 : 0 < (fromD d q).accept.length := by rw [fromD_len]; omega
 have hlt := (order_lt hf h0).2
 rw [fromD_len] at hlt
 generalize hc : cl (rounds d (d.accept.length + 1) (class0 d)) = c
 have hk : Kern (fromD d q) 0 (fun x => c (sw q x)) := by
   refine ⟨fun x y hx hy => ?_⟩
   have hx' := hlt x hx
   have hy' := hlt y hy
   rw [← hc, cl_inf ho (by omega) (sw_lt hq hx') (sw_lt hq hy')]
   constructor
   · intro h k; exact (Ek_from ho hq k x y hx' hy').2 (h k)
   · intro h k; exact (Ek_from ho hq k x y hx' hy').1 (h k)
 rw [← quotS_kern hf h0 hk]
 unfold quotS
 rw [hc]
 unfold quot
 rw [order_from ho hq]
 have hl : leadsB c ((order (fromD d q) 0).map (sw q)) = (leadsB (fun x => c (sw q x)) (order (fromD d q) 0)).map (sw q) := leadsF_map c (sw q) _ []
 rw [hl]
 have hm : ∀ x ∈ leadsB (fun x => c (sw q x)) (order (fromD d q) 0), x < d.accept.length := fun x hx => hlt x (leadsB_mem hx)
 generalize leadsB (fun x => c (sw q x)) (order (fromD d q) 0) = L at hm
 unfold ofQuot
 rw [List.map_map, List.map_map, List.map_map]
 show (⟨_, _⟩ : DN) = ⟨_, _⟩
 congr 1
 · exact List.map_congr_left fun x hx => fromD_acc d q (hm x hx)
 · refine List.map_congr_left fun x hx => ?_
   rw [fromD_nx d q (hm x hx)]
   show rowOf _ _ = rowOf _ _
   congr 1
   unfold c3 sw3
   simp only [sw_sw]
def lqR (x : Dfa) (s : ByteArray) : V := if validD x = true ∧ isWord s = true then .tup [(quotS x.dn (walk x.dn s 0 0)).encD, .bool true] else .tup [.agg [.slc false 1 [], .slc false 1 []], .bool false]
end Go.Ev
namespace Go.Ev
open Go
def U8 (n : Int) : V := .int .u8 n
def cur (l : List Int) (i : Nat) (h : Int) : Ob := .box [.slc false 1 (l.map U8), .int .i64 (i : Int), .int .i64 h]
def Cur (l : List Int) (t lv : Nat) (o : List (Nat → Option Ob)) : Prop := ∃ i h, i ≤ l.length ∧ obIn t lv o = some (cur l i h)
def and64 (a b : Int) : Int := IntKind.i64.wrap ((BitVec.ofInt IntKind.i64.bits a &&& BitVec.ofInt IntKind.i64.bits b).toNat : Int)
def xor64 (a b : Int) : Int := IntKind.i64.wrap ((BitVec.ofInt IntKind.i64.bits a ^^^ BitVec.ofInt IntKind.i64.bits b).toNat : Int)
theorem arith_and64 (a b : Int) : arith .and .i64 a b = some (.int .i64 (and64 a b)) := rfl
theorem arith_xor64 (a b : Int) : arith .xor .i64 a b = some (.int .i64 (xor64 a b)) := rfl
attribute [go_sem high] arith_and64 arith_xor64
theorem and255 (a : Int) : 0 ≤ and64 a 255 ∧ and64 a 255 ≤ 255 := by
 have h : (BitVec.ofInt IntKind.i64.bits a &&& BitVec.ofInt IntKind.i64.bits 255).toNat ≤ 255 := by
   rw [BitVec.toNat_and]
   exact Nat.and_le_right
 unfold and64
 generalize (BitVec.ofInt IntKind.i64.bits a &&& BitVec.ofInt IntKind.i64.bits 255).toNat = n at h
 rw [wrap_in (by omega) (by omega)]
 omega
def nextH (h : Int) : Int := IntKind.i64.wrap (IntKind.i64.wrap (h * 6364136223846793005) + 1442695040888963407)
def rawX (h : Int) : Int := and64 (xor64 (h.fdiv (2 ^ min 33 64)) (h.fdiv (2 ^ min 45 64))) 255
theorem rem_below {x n : Int} (h : 0 ≤ x) (hn : 0 < n) : 0 ≤ x.tmod n ∧ x.tmod n < n := by
 rw [Int.tmod_eq_emod_of_nonneg h]
 exact ⟨Int.emod_nonneg _ (by omega), Int.emod_lt_of_pos _ hn⟩
theorem getD_U8 {l : List Int} {i : Nat} (d : V) (h : i < l.length) : (l.map U8).getD i d = .int .u8 (l.getD i 0) := by
 simp only [List.getD_eq_getElem?_getD, List.getElem?_map, List.getElem?_eq_getElem h]; rfl
abbrev Rs := Option (V × List (Nat → Option Ob))
def Draws (E : Env) (f : Nat) (args : List V) (l : List Int) (t lv : Nat) (P : V → Prop) : Prop := ∀ o, Cur l t lv o → ∃ v ob, P v ∧ Cur l t lv (setIn t ob lv o) ∧ run E f (.ptr lv t 0 :: args) o = some (v, setIn t ob lv o)
theorem Draws.mk {E : Env} {f : Nat} {args : List V} {l : List Int} {t lv : Nat} {P : V → Prop} (h : ∀ o, Cur l t lv o → lv < o.length → ∀ Q : Rs → Prop, (∀ v ob, P v → Cur l t lv (setIn t ob lv o) → Q (some (v, setIn t ob lv o))) → Q (run E f (.ptr lv t 0 :: args) o)) : Draws E f args l t lv P := by
 intro o ho
 have hlt : lv < o.length := by obtain ⟨_, _, _, h⟩ := ho; exact obIn_len h
 exact h o ho hlt (fun r => ∃ v ob, P v ∧ Cur l t lv (setIn t ob lv o) ∧ r = some (v, setIn t ob lv o)) fun v ob h1 h2 => ⟨v, ob, h1, h2, rfl⟩
theorem Cur.lt {l : List Int} {t lv : Nat} {o : List (Nat → Option Ob)} (h : Cur l t lv o) : lv < o.length := by obtain ⟨_, _, _, h⟩ := h; exact obIn_len h
theorem Cur.push {l : List Int} {t lv : Nat} {o : List (Nat → Option Ob)} (h : Cur l t lv o) (b : Nat → Option Ob) : Cur l t lv (b :: o) := by
 have hlt := h.lt
 obtain ⟨i, x, hi, ho⟩ := h
 exact ⟨i, x, hi, by show (if lv = o.length then _ else obIn t lv o) = _; rw [if_neg (by omega)]; exact ho⟩
theorem setIn_push (t lv : Nat) (ob : Ob) (b : Nat → Option Ob) {o : List (Nat → Option Ob)} (h : lv < o.length) : setIn t ob lv (b :: o) = b :: setIn t ob lv o := by rw [setIn_cons, if_neg (by omega)]
theorem Cur.pop {l : List Int} {t lv : Nat} {b : Nat → Option Ob} {o : List (Nat → Option Ob)} (h : Cur l t lv (b :: o)) (hlt : lv < o.length) : Cur l t lv o := by
 obtain ⟨i, x, hi, ho⟩ := h
 have : (if lv = o.length then b t else obIn t lv o) = _ := ho
 rw [if_neg (by omega)] at this
 exact ⟨i, x, hi, this⟩
theorem Cur.self {l : List Int} {t lv : Nat} {o : List (Nat → Option Ob)} (h : Cur l t lv o) : ∃ ob, setIn t ob lv o = o := by
 obtain ⟨i, x, hi, ho⟩ := h
 exact ⟨_, setIn_same t lv _ o ho⟩
theorem Draws.at0 {E : Env} {f : Nat} {args : List V} {l : List Int} {t lv : Nat} {P : V → Prop} (h : Draws E f args l t lv P) {o : List (Nat → Option Ob)} (hc : Cur l t lv o) (b : Nat → Option Ob) :
   ∃ v ob, P v ∧ Cur l t lv (setIn t ob lv o) ∧ run E f (.ptr lv t 0 :: args) (b :: o) = some (v, b :: setIn t ob lv o) := by
 obtain ⟨v, ob, h1, h2, h3⟩ := h _ (hc.push b)
 rw [setIn_push _ _ _ _ hc.lt] at h2 h3
 exact ⟨v, ob, h1, h2.pop (by rw [setIn_len]; exact hc.lt), h3⟩
theorem Draws.at {E : Env} {f : Nat} {args : List V} {l : List Int} {t lv : Nat} {P : V → Prop} (h : Draws E f args l t lv P) {o : List (Nat → Option Ob)} {ob : Ob} (hc : Cur l t lv (setIn t ob lv o)) (b : Nat → Option Ob) :
   ∃ v ob', P v ∧ Cur l t lv (setIn t ob' lv o) ∧ run E f (.ptr lv t 0 :: args) (b :: setIn t ob lv o) = some (v, b :: setIn t ob' lv o) := by
 obtain ⟨v, ob', h1, h2, h3⟩ := h.at0 hc b
 rw [setIn_setIn] at h2 h3
 exact ⟨v, ob', h1, h2, h3⟩
def DrawsU (E : Env) (f : Nat) (args : List V) (l : List Int) (P : V → Prop) : Prop := ∀ (i : Nat) (h : Int), i ≤ l.length → ∃ (v : V) (i' : Nat) (h' : Int), P v ∧ i' ≤ l.length ∧ ∀ (t lv : Nat) (o : List (Nat → Option Ob)), obIn t lv o = some (cur l i h) → run E f (.ptr lv t 0 :: args) o = some (v, setIn t (cur l i' h') lv o)
theorem cur_set {l : List Int} {t lv : Nat} {o : List (Nat → Option Ob)} (hlt : lv < o.length) {i : Nat} (hi : i ≤ l.length) (h : Int) : Cur l t lv (setIn t (cur l i h) lv o) := ⟨i, h, hi, by rw [obIn_set2 _ _ _ _ _ _ hlt, if_pos ⟨rfl, rfl⟩]⟩
theorem DrawsU.to {E : Env} {f : Nat} {args : List V} {l : List Int} {P : V → Prop} (h : DrawsU E f args l P) (t lv : Nat) : Draws E f args l t lv P := by
 intro o ho
 have hlt := ho.lt
 obtain ⟨i, x, hi, ho⟩ := ho
 obtain ⟨v, i', h', h1, h2, h3⟩ := h i x hi
 exact ⟨v, cur l i' h', h1, cur_set hlt h2 h', h3 t lv o ho⟩
theorem DrawsU.at {E : Env} {f : Nat} {args : List V} {l : List Int} {P : V → Prop} (h : DrawsU E f args l P) {t lv : Nat} {o : List (Nat → Option Ob)} {ob : Ob} (hc : Cur l t lv (setIn t ob lv o)) :
   ∃ v ob', P v ∧ Cur l t lv (setIn t ob' lv o) ∧ ∀ b, run E f (.ptr lv t 0 :: args) (b :: setIn t ob lv o) = some (v, b :: setIn t ob' lv o) := by
 have hlt := hc.lt
 rw [setIn_len] at hlt
 obtain ⟨i, x, hi, ho⟩ := hc
 obtain ⟨v, i', h', h1, h2, h3⟩ := h i x hi
 refine ⟨v, cur l i' h', h1, cur_set hlt h2 h', fun b => ?_⟩
 have e : obIn t lv (b :: setIn t ob lv o) = some (cur l i x) := by
   show (if lv = (setIn t ob lv o).length then b t else obIn t lv (setIn t ob lv o)) = _
   rw [if_neg (by rw [setIn_len]; omega)]
   exact ho
 rw [h3 t lv _ e, setIn_push _ _ _ _ (by rw [setIn_len]; exact hlt), setIn_setIn]
theorem iter_ex {σ : Type} {E : Env} {c : Code} {k : List It} (I : σ → Prop) (S : σ → St) (Q : Rs → Prop) (μ : σ → Nat) (h : ∀ x, I x → (∀ y, I y → μ y < μ x → Q (iter E c k (S y))) → Q (lim E (.code c :: .lp c :: k) (S x))) (x : σ) (hx : I x) : Q (iter E c k (S x)) := by
 suffices ∀ n x, I x → μ x ≤ n → Q (iter E c k (S x)) from this _ x hx (Nat.le_refl _)
 intro n
 induction n with
 | zero => intro x hI hx; exact h x hI fun y hy hlt => absurd hlt (by omega)
 | succ n ih => intro x hI hx; exact h x hI fun y hy hlt => ih y hy (by omega)
theorem getD_str {ws : List ByteArray} {i : Nat} (h : i < ws.length) (d : V) : (ws.map V.str).getD i d = .str ws[i] := by
 simp [List.getD_eq_getElem?_getD, List.getElem?_eq_getElem h]
end Go.Ev
namespace Go.Ev
open Go
def nums (n : Int) (l : List Int) : Bool := l.all fun q => decide (0 ≤ q) && decide (q ≤ n - 1)
def rowN (n : Nat) (r : List Int) : Bool := ((r.length : Int) == n) && nums n r
def goodM (m : Mon) : Bool := !((m.maps.length : Int) == 0) && (((m.letters.length : Int) == 3) && (((m.product.length : Int) == m.maps.length) && (nums m.maps.length m.letters && m.product.all (rowN m.maps.length))))
def eqSta (a b : Sta) : Bool := (a.left.toList == b.left.toList) && ((a.right.toList == b.right.toList) && (a.maps == b.maps))
def solved (s : Sta) : Bool := decide (s.left.size = 0) && decide (s.right.size = 0)
def noM (l : List (List Int)) : Bool := l.any fun x => ((x.length : Int) == 0)
end Go.Ev
namespace Go.Ev
end Go.Ev
namespace Go.Ev
def choice (e : Equ) (c : Int) (l : List Int) : List Int := if cntB c (e.left ++ e.right) 0 = 0 then l.take 1 else l
def xyz (k : Nat) : Int := bt ⟨#[88, 89, 90]⟩ k
def staR (e : Equ) (a b : Int) (z : List Int) : List Sta := z.map fun c => ⟨e.left, e.right, [a, b, c]⟩
def staY (e : Equ) (a : Int) (y z : List Int) : List Sta := y.flatMap fun b => staR e a b z
def staX (e : Equ) (x y z : List Int) : List Sta := x.flatMap fun a => staY e a y z
def startsOf (e : Equ) (x y z : List Int) : List Sta := if x.length * y.length * z.length > 400 then [] else staX e x y z
def chs (f : Frm) (k : Nat) : List Int := choice f.equ (xyz k) (f.allowed.getD k [])
def starts (f : Frm) : List Sta := if f.allowed.length = 3 then startsOf (strip f.equ) (chs f 0) (chs f 1) (chs f 2) else []
end Go.Ev
namespace Go.Ev
end Go.Ev
namespace Go.Ev
def cntK (f : Frm) : Nat → Nat
 | 0 => 1
 | i + 1 => cntK f i * min (chs f i).length 401
end Go.Ev
namespace Go.Ev
open Go
def Vals.of (v : Vals) (c : Int) : ByteArray := if c = 88 then v.x else if c = 89 then v.y else if c = 90 then v.z else ⟨#[]⟩
def Vals.wit (v : Vals) (c : Int) (s : ByteArray) : Vals := if c = 88 then { v with x := s } else if c = 89 then { v with y := s } else if c = 90 then { v with z := s } else v
def Vals.le (v : Vals) (n : Nat) : Prop := v.x.size ≤ n ∧ v.y.size ≤ n ∧ v.z.size ≤ n
theorem Vals.of_le {v : Vals} {n : Nat} (h : v.le n) (c : Int) : (v.of c).size ≤ n := by
 unfold Vals.of
 obtain ⟨h1, h2, h3⟩ := h
 split
 · exact h1
 · split
   · exact h2
   · split
     · exact h3
     · exact Nat.zero_le _
def appF (s : ByteArray) (v : Vals) (i : Nat) : ByteArray := if isVar (bt s i) = true then v.of (bt s i) else one s i
def appB (s : ByteArray) (v : Vals) : ByteArray := repl (appF s v) s 0 ⟨#[]⟩
def termC (c : Int) : Bool := decide (0 ≤ ltr c) || isVar c
def isTerm (s : ByteArray) : Bool := allB termC s 0 && decide ((s.size : Int) ≤ 12)
end Go.Ev
namespace Go.Ev
def begB (s t : ByteArray) : Bool := decide (t.size ≤ s.size) && decide (s.extract 0 t.size = t)
def undo (v : Vals) (m : Mov) : Vals × Bool :=
 if m.by_.size = 0 then (v, decide ((v.of m.name).size = 0))
 else if begB (v.of m.name) (appB (m.by_.extract 0 1) v) = true then (v.wit m.name ((v.of m.name).extract (appB (m.by_.extract 0 1) v).size (v.of m.name).size), true) else (v, false)
def rev (v : Vals) (m : Mov) : Vals :=
 if m.by_.size = 0 then v.wit m.name ⟨#[]⟩
 else v.wit m.name ((if isVar (bt m.by_ 0) = true then v.of (bt m.by_ 0) else m.by_.extract 0 1) ++ v.of m.name)
end Go.Ev
namespace Go.Ev
def C1 (e : Equ) : List V := [.int .i64 1, .str e.left, .str e.right, .int .i64 0, .str ⟨#[]⟩, .slc false 3 [], .slc false 1 [], .int .i64 0]
def P1 (e : Equ) : V := .agg [.slc false 8 [.agg (C1 e)]]
def goodE (e : Equ) : Bool := isTerm e.left && isTerm e.right
end Go.Ev
namespace Go.Ev
def Solves (e : Equ) (v : Vals) : Prop := v.le 5 ∧ appB e.left v = appB e.right v
end Go.Ev
namespace Go.Ev
theorem Vals.ice (v : Vals) : v.enc.ice = v.enc := by unfold Vals.enc; rw [ice_agg]; simp [V.ice]
end Go.Ev
namespace Go.Ev
open Go
def LL (s : ByteArray) : List Int := s.data.toList.map fun b => (b.toNat : Int)
theorem LL_len (s : ByteArray) : (LL s).length = s.size := by unfold LL; simp
theorem LL_get (s : ByteArray) {i : Nat} (h : i < s.size) : (LL s)[i]? = some (bt s i) := by
 unfold LL bt
 have h' : (i : Int).toNat < s.size := by simpa using h
 rw [dif_pos h']
 simp only [List.getElem?_map, Array.getElem?_toList, Int.toNat_natCast]
 rw [Array.getElem?_eq_getElem (by simpa using h)]
 rfl
theorem LL_app (a b : ByteArray) : LL (a ++ b) = LL a ++ LL b := by unfold LL; rw [ByteArray.data_append]; simp
theorem LL_ext (s : ByteArray) (a b : Nat) : LL (s.extract a b) = ((LL s).take b).drop a := by
 unfold LL
 rw [ByteArray.data_extract, Array.toList_extract, List.extract_eq_take_drop, List.map_take, List.map_drop, List.drop_take]
theorem LL_one (s : ByteArray) {i : Nat} (h : i < s.size) : LL (one s i) = [bt s i] := by
 unfold one
 rw [LL_ext]
 have h1 : i < (LL s).length := by rw [LL_len]; exact h
 have h2 := LL_get s h
 rw [List.getElem?_eq_getElem h1] at h2
 rw [List.drop_take, Nat.add_sub_cancel_left, List.drop_eq_getElem_cons h1, Option.some.inj h2]
 rfl
theorem repl_LL (f : Nat → ByteArray) (s : ByteArray) (g : Int → List Int) (B : Nat) (hf : ∀ i, i < s.size → LL (f i) = g (bt s i)) (hB : ∀ i, i < s.size → (f i).size ≤ B) : ∀ (n i : Nat) (out : ByteArray), s.size - i = n → out.size + n * B ≤ 1048576 → LL (repl f s i out) = LL out ++ ((LL s).drop i).flatMap g := by
 intro n
 induction n with
 | zero =>
   intro i out hn _
   rw [repl_end (by omega), List.drop_of_length_le (by rw [LL_len]; omega)]
   simp
 | succ n ih =>
   intro i out hn ho
   have hi : i < s.size := by omega
   have hb := hB i hi
   have e : (n + 1) * B = n * B + B := by rw [Nat.add_mul, Nat.one_mul]
   have h1 : i < (LL s).length := by rw [LL_len]; exact hi
   have h2 := LL_get s hi
   rw [List.getElem?_eq_getElem h1] at h2
   have hz : (out ++ f i).size = out.size + (f i).size := ByteArray.size_append
   rw [repl_next hi, if_neg (by omega), ih (i + 1) _ (by omega) (by omega), LL_app, hf i hi, List.drop_eq_getElem_cons h1, Option.some.inj h2, List.flatMap_cons, List.append_assoc]
def gA (v : Vals) (c : Int) : List Int := if isVar c = true then LL (v.of c) else [c]
def gR (name : Int) (b : List Int) (c : Int) : List Int := if c = name then b else [c]
theorem appB_LL (s : ByteArray) (v : Vals) (hv : v.le 5) (hs : s.size ≤ 1000) : LL (appB s v) = (LL s).flatMap (gA v) := by
 have := repl_LL (appF s v) s (gA v) 5 (fun i hi => by
   unfold appF gA
   split
   · rfl
   · exact LL_one s hi) (fun i hi => by
   unfold appF
   split
   · exact Vals.of_le hv _
   · have := one_size s i hi; omega) s.size 0 ⟨#[]⟩ (by omega) (by show 0 + _ ≤ _; omega)
 exact this
theorem lcp_spec (l r : ByteArray) : ∀ (n k : Nat), l.size - k ≤ n → k ≤ lcp l r k ∧ (∀ i, k ≤ i → i < lcp l r k → i < l.size ∧ i < r.size ∧ bt l i = bt r i) ∧ ¬ (lcp l r k < l.size ∧ lcp l r k < r.size ∧ bt l (lcp l r k) = bt r (lcp l r k)) := by
 intro n
 induction n with
 | zero =>
   intro k hk
   have h : ¬ (k < l.size ∧ k < r.size ∧ bt l k = bt r k) := fun h => by have := h.1; omega
   rw [lcp_end h]
   exact ⟨Nat.le_refl _, fun i h1 h2 => absurd h2 (by omega), h⟩
 | succ n ih =>
   intro k hk
   by_cases h : k < l.size ∧ k < r.size ∧ bt l k = bt r k
   · rw [lcp_next h.1 h.2.1 h.2.2]
     obtain ⟨h1, h2, h3⟩ := ih (k + 1) (by have := h.1; omega)
     refine ⟨by omega, fun i hi hj => ?_, h3⟩
     rcases Nat.eq_or_lt_of_le hi with rfl | hi
     · exact h
     · exact h2 i hi hj
   · rw [lcp_end h]
     exact ⟨Nat.le_refl _, fun i h1 h2 => absurd h2 (by omega), h⟩
theorem strip_parts (e : Equ) : ∃ p, LL e.left = p ++ LL (strip e).left ∧ LL e.right = p ++ LL (strip e).right ∧ ∀ c d s t, LL (strip e).left = c :: s → LL (strip e).right = d :: t → c ≠ d := by
 obtain ⟨_, h2, h3⟩ := lcp_spec e.left e.right e.left.size 0 (by omega)
 unfold strip
 dsimp only
 generalize lcp e.left e.right 0 = k at h2 h3
 have kl : k ≤ e.left.size := by
   rcases Nat.eq_zero_or_pos k with h | h
   · omega
   · have := (h2 (k - 1) (Nat.zero_le _) (by omega)).1; omega
 have kr : k ≤ e.right.size := by
   rcases Nat.eq_zero_or_pos k with h | h
   · omega
   · have := (h2 (k - 1) (Nat.zero_le _) (by omega)).2.1; omega
 have el : ∀ s : ByteArray, LL (ext s k) = (LL s).drop k := fun s => by
   unfold ext
   rw [LL_ext, List.take_of_length_le (by rw [LL_len]; exact Nat.le_refl _)]
 have et : (LL e.left).take k = (LL e.right).take k := by
   refine List.ext_getElem? fun i => ?_
   rw [List.getElem?_take, List.getElem?_take]
   by_cases hi : i < k
   · obtain ⟨a1, a2, a3⟩ := h2 i (Nat.zero_le _) hi
     rw [if_pos hi, if_pos hi, LL_get _ a1, LL_get _ a2, a3]
   · rw [if_neg hi, if_neg hi]
 refine ⟨(LL e.left).take k, by rw [el, List.take_append_drop], by rw [el, et, List.take_append_drop], fun c d s t h4 h5 => ?_⟩
 rw [el] at h4 h5
 rintro rfl
 have g4 : (LL e.left)[k]? = some c := by
   have := congrArg (fun l => l[0]?) h4
   simpa using this
 have g5 : (LL e.right)[k]? = some c := by
   have := congrArg (fun l => l[0]?) h5
   simpa using this
 have k4 : k < e.left.size := by
   have := (List.getElem?_eq_some_iff.1 g4).1
   rwa [LL_len] at this
 have k5 : k < e.right.size := by
   have := (List.getElem?_eq_some_iff.1 g5).1
   rwa [LL_len] at this
 rw [LL_get _ k4] at g4
 rw [LL_get _ k5] at g5
 exact h3 ⟨k4, k5, by rw [Option.some.inj g4, Option.some.inj g5]⟩
theorem allB_iff (p : Int → Bool) (s : ByteArray) : ∀ (n i : Nat), s.size - i ≤ n → (allB p s i = true ↔ ∀ j, i ≤ j → j < s.size → p (bt s j) = true) := by
 intro n
 induction n with
 | zero =>
   intro i hi
   rw [allB_end _ _ (by omega)]
   exact ⟨fun _ j h1 h2 => absurd h2 (by omega), fun _ => rfl⟩
 | succ n ih =>
   intro i hi
   by_cases h : i < s.size
   · rw [allB_next _ _ h, Bool.and_eq_true, ih (i + 1) (by omega)]
     constructor
     · rintro ⟨h1, h2⟩ j hj hj2
       rcases Nat.eq_or_lt_of_le hj with rfl | hj
       · exact h1
       · exact h2 j hj hj2
     · intro h1
       exact ⟨h1 i (Nat.le_refl _) h, fun j h2 h3 => h1 j (by omega) h3⟩
   · rw [allB_end _ _ h]
     exact ⟨fun _ j h1 h2 => absurd h2 (by omega), fun _ => rfl⟩
theorem rests {e : Equ} {v : Vals} (hs : Solves e v) (hl : e.left.size ≤ 1000) (hr : e.right.size ≤ 1000) : (LL (strip e).left).flatMap (gA v) = (LL (strip e).right).flatMap (gA v) := by
 obtain ⟨p, h1, h2, _⟩ := strip_parts e
 have h3 := congrArg LL hs.2
 rw [appB_LL _ v hs.1 hl, appB_LL _ v hs.1 hr, h1, h2, List.flatMap_append, List.flatMap_append] at h3
 exact List.append_cancel_left h3
def Fits (e : Equ) (v : Vals) (m : Mov) : Prop := (undo v m).2 = true ∧ appB (strip ⟨repV e.left m.name m.by_, repV e.right m.name m.by_⟩).left (undo v m).1 = appB (strip ⟨repV e.left m.name m.by_, repV e.right m.name m.by_⟩).right (undo v m).1 ∧ rev (undo v m).1 m = v
end Go.Ev
namespace Go.Ev
open Go
theorem getD_mem_idx {L : List Nat} {c : Nat → Nat} {x : Nat} (h : ∃ z ∈ L, c z = c x) : ∃ z, z ∈ L ∧ c z = c x ∧ (L.map c).idxOf (c x) < L.length ∧ L.getD ((L.map c).idxOf (c x)) 0 = z := by
 obtain ⟨z, hz, e⟩ := h
 have hm : c x ∈ L.map c := List.mem_map.2 ⟨z, hz, e⟩
 have hlt := List.idxOf_lt_length_of_mem hm
 rw [List.length_map] at hlt
 refine ⟨L.getD ((L.map c).idxOf (c x)) 0, ?_, ?_, hlt, rfl⟩
 · rw [List.getD_eq_getElem?_getD, List.getElem?_eq_getElem hlt]
   exact List.getElem_mem hlt
 · have h1 := at0_idx hm
   unfold at0 at h1
   rw [List.getD_eq_getElem?_getD, List.getElem?_map, List.getElem?_eq_getElem hlt] at h1
   rw [List.getD_eq_getElem?_getD, List.getElem?_eq_getElem hlt]
   exact h1
theorem nxL_c3 (c : Nat → Nat) (t : Nat × Nat × Nat) (ch : Int) : nxL (c3 c t) ch = c (nxL t ch) := by
 unfold nxL c3
 split
 · rfl
 split <;> rfl
theorem nxL_row (L : List Nat) (t : Nat × Nat × Nat) (ch : Int) : nxL (rowOf L t) ch = L.idxOf (nxL t ch) := by
 unfold nxL rowOf
 split
 · rfl
 split <;> rfl
theorem nxL_inf {d : DN} {p q : Nat} (h : Einf d p q) (ch : Int) : Einf d (nxL (d.nx p) ch) (nxL (d.nx q) ch) := by
 obtain ⟨h1, h2, h3⟩ := h.nx
 unfold nxL
 split
 · exact h1
 split
 · exact h2
 · exact h3
theorem nxL_in {t : Nat × Nat × Nat} {X : List Nat} (h : in3 t X) (ch : Int) : nxL t ch ∈ X := by
 obtain ⟨h1, h2, h3⟩ := h
 unfold nxL
 split
 · exact h1
 split
 · exact h2
 · exact h3
theorem quot_walk {d : DN} (ho : d.ok) {q0 : Nat} (hq : q0 < d.accept.length) {c : Nat → Nat} (hc : ∀ x y, x < d.accept.length → y < d.accept.length → (c x = c y ↔ Einf d x y)) (s : ByteArray) : ∀ (n p i : Nat), s.size - i ≤ n → p ∈ order d q0 → accN (quot d c q0) (walk (quot d c q0) s (((leadsB c (order d q0)).map c).idxOf (c p)) i) = accN d (walk d s p i) := by
 have hlt := (order_lt ho hq).2
 have hcov : ∀ p, p ∈ order d q0 → ∃ z, z ∈ leadsB c (order d q0) ∧ c z = c p ∧ ((leadsB c (order d q0)).map c).idxOf (c p) < (leadsB c (order d q0)).length ∧ (leadsB c (order d q0)).getD (((leadsB c (order d q0)).map c).idxOf (c p)) 0 = z := fun p hp => getD_mem_idx (leadsB_cov hp)
 intro n
 induction n with
 | zero =>
   intro p i h hp
   rw [walk_end (by omega), walk_end (by omega)]
   obtain ⟨z, hz, e, hl, hg⟩ := hcov p hp
   have hi : Einf d z p := (hc z p (hlt z (leadsB_mem hz)) (hlt p hp)).1 e
   unfold quot ofQuot
   show List.getD _ _ _ = _
   rw [List.getD_eq_getElem?_getD, List.getElem?_map, List.getElem?_eq_getElem hl]
   rw [List.getD_eq_getElem?_getD, List.getElem?_eq_getElem hl] at hg
   have hg' : (leadsB c (order d q0))[((leadsB c (order d q0)).map c).idxOf (c p)] = z := hg
   show accN d _ = _
   rw [hg']
   exact hi.acc
 | succ n ih =>
   intro p i h hp
   by_cases k : i < s.size
   rotate_left
   · exact ih p i (by omega) hp
   obtain ⟨z, hz, e, hl, hg⟩ := hcov p hp
   have hi : Einf d z p := (hc z p (hlt z (leadsB_mem hz)) (hlt p hp)).1 e
   have hzo : z ∈ order d q0 := leadsB_mem hz
   rw [walk_next k, walk_next k]
   have hp' : nxL (d.nx p) (bt s i) ∈ order d q0 := nxL_in (order_clo ho hq p hp) _
   have hz' : nxL (d.nx z) (bt s i) ∈ order d q0 := nxL_in (order_clo ho hq z hzo) _
   have hce : c (nxL (d.nx z) (bt s i)) = c (nxL (d.nx p) (bt s i)) := (hc _ _ (hlt _ hz') (hlt _ hp')).2 (nxL_inf hi _)
   have e2 : nxL ((quot d c q0).nx (((leadsB c (order d q0)).map c).idxOf (c p))) (bt s i) = ((leadsB c (order d q0)).map c).idxOf (c (nxL (d.nx p) (bt s i))) := by
     have : (quot d c q0).nx (((leadsB c (order d q0)).map c).idxOf (c p)) = rowOf ((leadsB c (order d q0)).map c) (c3 c (d.nx z)) := by
       unfold quot ofQuot DN.nx
       dsimp only
       rw [List.getD_eq_getElem?_getD, List.getElem?_map, List.getElem?_eq_getElem hl]
       rw [List.getD_eq_getElem?_getD, List.getElem?_eq_getElem hl] at hg
       have hg' : (leadsB c (order d q0))[((leadsB c (order d q0)).map c).idxOf (c p)] = z := hg
       show rowOf _ (c3 c (d.next.getD _ _)) = _
       rw [hg']
     rw [this, nxL_row, nxL_c3, hce]
   rw [e2]
   exact ih _ _ (by omega) hp'
theorem leadsB_head {c : Nat → Nat} {x : Nat} {X : List Nat} : ∃ t, leadsB c (x :: X) = x :: t := by
 have h : leadsB c (x :: X) = leadsF c [x] X := rfl
 obtain ⟨t, ht⟩ := leadsF_pre c X [x]
 exact ⟨t, by rw [h, ← ht]; rfl⟩
theorem order_head (d : DN) (s : Nat) : ∃ t, order d s = s :: t := by
 obtain ⟨t, ht⟩ := bfs_pre d.nx d.accept.length [s] 0
 exact ⟨t, by unfold order; rw [← ht]; rfl⟩
theorem accD_quotS {d : DN} (ho : d.ok) {q : Nat} (hq : q < d.accept.length) (s : ByteArray) : accD (quotS d q) s = accN d (walk d s q 0) := by
 have h := quot_walk ho hq (c := cl (rounds d (d.accept.length + 1) (class0 d))) (fun x y hx hy => cl_inf ho (by omega) hx hy) s (s.size - 0) q 0 (Nat.le_refl _) (order_start d q)
 have e0 : ((leadsB (cl (rounds d (d.accept.length + 1) (class0 d))) (order d q)).map (cl (rounds d (d.accept.length + 1) (class0 d)))).idxOf (cl (rounds d (d.accept.length + 1) (class0 d)) q) = 0 := by
   obtain ⟨t, ht⟩ := order_head d q
   rw [ht]
   obtain ⟨t', ht'⟩ := leadsB_head (c := cl (rounds d (d.accept.length + 1) (class0 d))) (x := q) (X := t)
   rw [ht']
   simp
 rw [e0] at h
 exact h
theorem walk_app1 (d : DN) (s w : ByteArray) : ∀ (n q i : Nat), s.size - i ≤ n → i ≤ s.size → walk d (s ++ w) q i = walk d (s ++ w) (walk d s q i) s.size := by
 intro n
 induction n with
 | zero =>
   intro q i h hi
   obtain rfl : i = s.size := by omega
   rw [walk_end (s := s) (by omega)]
 | succ n ih =>
   intro q i h hi
   by_cases k : i < s.size
   · rw [walk_next (s := s) k, walk_next (s := s ++ w) (by rw [ByteArray.size_append]; omega), bt_append_l s w k]
     exact ih _ _ (by omega) (by omega)
   · obtain rfl : i = s.size := by omega
     rw [walk_end (s := s) (by omega)]
theorem walk_app2 (d : DN) (s w : ByteArray) : ∀ (n q i : Nat), w.size - i ≤ n → walk d (s ++ w) q (s.size + i) = walk d w q i := by
 intro n
 induction n with
 | zero => intro q i h; rw [walk_end (by rw [ByteArray.size_append]; omega), walk_end (by omega)]
 | succ n ih =>
   intro q i h
   by_cases k : i < w.size
   · have hb := bt_append_r s w (i := s.size + i) (by omega) (by rw [ByteArray.size_append]; omega)
     have e : s.size + i - s.size = i := by omega
     rw [e] at hb
     rw [walk_next (s := w) k, walk_next (s := s ++ w) (by rw [ByteArray.size_append]; omega), hb]
     exact ih _ (i + 1) (by omega)
   · rw [walk_end (s := w) k, walk_end (by rw [ByteArray.size_append]; omega)]
theorem walk_app (d : DN) (s w : ByteArray) (q : Nat) : walk d (s ++ w) q 0 = walk d w (walk d s q 0) 0 := by
 rw [walk_app1 d s w (s.size - 0) q 0 (Nat.le_refl _) (Nat.zero_le _)]
 exact walk_app2 d s w (w.size - 0) _ 0 (Nat.le_refl _)
theorem walk_rq (d : DN) (s w : ByteArray) : ∀ (n q i : Nat), w.size - i ≤ n → walk (rqD d s) w q i = walk d w q i := by
 intro n
 induction n with
 | zero => intro q i h; rw [walk_end (by omega), walk_end (by omega)]
 | succ n ih =>
   intro q i h
   by_cases k : i < w.size
   · rw [walk_next k, walk_next k]; exact ih _ _ (by omega)
   · rw [walk_end k, walk_end k]
theorem acc_left {d : DN} (hv : Val d) (s w : ByteArray) : accD (quotS d (walk d s 0 0)) w = accD d (s ++ w) := by
 rw [accD_quotS hv.ok (walk_lt hv.ok s _ 0 0 (Nat.le_refl _) hv.pos)]
 unfold accD accN
 rw [walk_app]
theorem acc_right {d : DN} (hv : Val d) (s w : ByteArray) : accD (quotS (rqD d s) 0) w = accD d (w ++ s) := by
 rw [accD_quotS (rqD_ok hv.ok s) (by rw [rqD_len]; exact hv.pos)]
 have hlt := walk_lt hv.ok w _ 0 0 (Nat.le_refl _) hv.pos
 rw [walk_rq d s w _ 0 0 (Nat.le_refl _)]
 unfold accD
 rw [walk_app]
 unfold accN rqD
 dsimp only
 rw [List.getD_eq_getElem?_getD, List.getElem?_map, List.getElem?_range hlt]
 rfl
theorem isWord_app {s w : ByteArray} (hs : s.size ≤ 20) (hw : w.size ≤ 5) : isWord (s ++ w) = (isWord s && isWord w) := by
 have key : allB isLtr (s ++ w) 0 = (allB isLtr s 0 && allB isLtr w 0) := by
   rw [Bool.eq_iff_iff, Bool.and_eq_true, allB_iff _ _ _ 0 (Nat.le_refl _), allB_iff _ _ _ 0 (Nat.le_refl _), allB_iff _ _ _ 0 (Nat.le_refl _)]
   constructor
   · intro h
     refine ⟨fun j _ hj => ?_, fun j _ hj => ?_⟩
     · have := h j (Nat.zero_le _) (by rw [ByteArray.size_append]; omega)
       rwa [bt_append_l s w hj] at this
     · have := h (s.size + j) (Nat.zero_le _) (by rw [ByteArray.size_append]; omega)
       rw [bt_append_r s w (by omega) (by rw [ByteArray.size_append]; omega)] at this
       rwa [show s.size + j - s.size = j by omega] at this
   · rintro ⟨h1, h2⟩ j _ hj
     rw [ByteArray.size_append] at hj
     by_cases k : j < s.size
     · rw [bt_append_l s w k]; exact h1 j (Nat.zero_le _) k
     · rw [bt_append_r s w (by omega) (by rw [ByteArray.size_append]; omega)]
       exact h2 _ (Nat.zero_le _) (by omega)
 unfold isWord
 rw [key]
 have d1 : decide ((s ++ w).size ≤ 30) = true := by rw [decide_eq_true_eq, ByteArray.size_append]; omega
 have d2 : decide (s.size ≤ 30) = true := by rw [decide_eq_true_eq]; omega
 have d3 : decide (w.size ≤ 30) = true := by rw [decide_eq_true_eq]; omega
 rw [d1, d2, d3]
 simp
theorem isWord_app' {s w : ByteArray} (hs : s.size ≤ 20) (hw : w.size ≤ 5) : isWord (w ++ s) = (isWord s && isWord w) := by
 have key : allB isLtr (w ++ s) 0 = (allB isLtr s 0 && allB isLtr w 0) := by
   rw [Bool.eq_iff_iff, Bool.and_eq_true, allB_iff _ _ _ 0 (Nat.le_refl _), allB_iff _ _ _ 0 (Nat.le_refl _), allB_iff _ _ _ 0 (Nat.le_refl _)]
   constructor
   · intro h
     refine ⟨fun j _ hj => ?_, fun j _ hj => ?_⟩
     · have := h (w.size + j) (Nat.zero_le _) (by rw [ByteArray.size_append]; omega)
       rw [bt_append_r w s (by omega) (by rw [ByteArray.size_append]; omega)] at this
       rwa [show w.size + j - w.size = j by omega] at this
     · have := h j (Nat.zero_le _) (by rw [ByteArray.size_append]; omega)
       rwa [bt_append_l w s hj] at this
   · rintro ⟨h1, h2⟩ j _ hj
     rw [ByteArray.size_append] at hj
     by_cases k : j < w.size
     · rw [bt_append_l w s k]; exact h2 j (Nat.zero_le _) k
     · rw [bt_append_r w s (by omega) (by rw [ByteArray.size_append]; omega)]
       exact h1 _ (Nat.zero_le _) (by omega)
 unfold isWord
 rw [key]
 have d1 : decide ((w ++ s).size ≤ 30) = true := by rw [decide_eq_true_eq, ByteArray.size_append]; omega
 have d2 : decide (s.size ≤ 30) = true := by rw [decide_eq_true_eq]; omega
 have d3 : decide (w.size ≤ 30) = true := by rw [decide_eq_true_eq]; omega
 rw [d1, d2, d3]
 simp
end Go.Ev
