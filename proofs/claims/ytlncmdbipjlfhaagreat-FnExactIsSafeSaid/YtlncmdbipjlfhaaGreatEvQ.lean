/- Automata in memory: made, read as they stand. Lists of lists that a loop keeps as objects. Left quotients: another start state, by renaming. Preimages: what they are. Shortest words: what they are. An argument that reads as data, as a tree. -/
import Derived.OpenShut
import Derived.ProofKit
import Derived.ChangeOld
import Derived.DataReads
import Derived.Test.YtlncmdbipjlfhaaGreatEvP
import Derived.Test.YtlncmdbipjlfhaaGreatEvO
import Derived.Test.YtlncmdbipjlfhaaGreatEvM
import Derived.Test.YtlncmdbipjlfhaaGreatEvN
set_option linter.unusedVariables false
set_option linter.unusedSimpArgs false
namespace Go.Ev
open Go
set_option maxRecDepth 10000
set_option maxHeartbeats 4000000

def mine (u y : Nat) : Prop := y = u ∨ y = u + 1 ∨ ∃ j, y = rid (u + 1) j
theorem mine_small {u y : Nat} (h : y < u) : ¬ mine u y := by
 rintro (e | e | ⟨j, e⟩)
 · omega
 · omega
 · have := rid_gt (u + 1) j; omega
theorem rid_ne {u v i j : Nat} (hu : u < KK) (hv : v < KK) (h : u ≠ v) : rid u i ≠ rid v j := by
 intro e
 unfold rid at e
 have e1 : (u + (i + 1) * KK) % KK = u := by rw [Nat.add_mul_mod_self_right, Nat.mod_eq_of_lt hu]
 have e2 : (v + (j + 1) * KK) % KK = v := by rw [Nat.add_mul_mod_self_right, Nat.mod_eq_of_lt hv]
 rw [e, e2] at e1
 exact h e1.symm
theorem rid_big (u i : Nat) : KK ≤ rid u i := by
 unfold rid
 have : 1 * KK ≤ (i + 1) * KK := Nat.mul_le_mul_right _ (by omega)
 omega
theorem kk_big : 1000000 < KK := by decide
theorem mine_ne {u v y : Nat} (hu : u < 900000) (hv : v < 900000) (h : u + 1 < v ∨ v + 1 < u) (k : mine u y) : ¬ mine v y := by
 have hk := kk_big
 rcases k with rfl | rfl | ⟨i, rfl⟩ <;> rintro (e | e | ⟨j, e⟩)
 · omega
 · omega
 · have := rid_big (v + 1) j; omega
 · omega
 · omega
 · have := rid_big (v + 1) j; omega
 · have := rid_big (u + 1) i; omega
 · have := rid_big (u + 1) i; omega
 · exact rid_ne (by omega) (by omega) (by omega) e
structure DfaM (b : Nat → Option Ob) (u : Nat) (A : List Bool) (rows : List (List Int)) : Prop where
 acc : A ≠ [] → b u = some (.arr false 1 (A.map B))
 dir : rows ≠ [] → b (u + 1) = some (.dir 1 (refsR 0 (u + 1) (rows.map List.length)))
 row : ∀ j, (h : j < rows.length) → rows[j] ≠ [] → b (rid (u + 1) j) = some (.dir 1 (rows[j].map I))
theorem DfaM.congr {b b' : Nat → Option Ob} {u : Nat} {A : List Bool} {rows : List (List Int)} (h : DfaM b u A rows) (e : ∀ y, mine u y → b' y = b y) : DfaM b' u A rows :=
 ⟨fun z => (e _ (.inl rfl)).trans (h.acc z), fun z => (e _ (.inr (.inl rfl))).trans (h.dir z), fun j hj z => (e _ (.inr (.inr ⟨j, rfl⟩))).trans (h.row j hj z)⟩
theorem made (b : Nat → Option Ob) (u : Nat) (A : List Bool) (rows : List (List Int)) (h : ∀ y, mine u y → b y = none) :
   ∃ b', (∀ t r f n, uMakes ⟨t, b, [], r, f, n⟩ u [.uq 1 (A.map B), .uq 1 (rows.map UR)] = some ([rowT 0 u A.length, rowT 0 (u + 1) rows.length], ⟨t, b', [], r, f, n⟩)) ∧ DfaM b' u A rows ∧ ∀ y, ¬ mine u y → b' y = b y := by
 have hne : ∀ j, rid (u + 1) j ≠ u + 1 ∧ rid (u + 1) j ≠ u := fun j => by have := rid_gt (u + 1) j; omega
 refine ⟨accO u A (nextO 0 (u + 1) rows b), fun t r f n => ?_, ⟨fun z => ?_, fun z => ?_, fun j hj z => ?_⟩, fun y hy => ?_⟩
 · exact uMakes_dfa ⟨t, b, [], r, f, n⟩ u A rows (h _ (.inl rfl)) (h _ (.inr (.inl rfl))) fun j => h _ (.inr (.inr ⟨j, rfl⟩))
 · unfold accO
   rw [if_neg z]
   show (if u = u then _ else _) = _
   rw [if_pos rfl]
 · have e1 : accO u A (nextO 0 (u + 1) rows b) (u + 1) = nextO 0 (u + 1) rows b (u + 1) := by
     unfold accO
     split
     · rfl
     · show (if u + 1 = u then _ else _) = _
       rw [if_neg (by omega)]
   rw [e1]
   unfold nextO
   rw [if_neg z]
   show (if u + 1 = u + 1 then _ else _) = _
   rw [if_pos rfl]
 · have e1 : accO u A (nextO 0 (u + 1) rows b) (rid (u + 1) j) = nextO 0 (u + 1) rows b (rid (u + 1) j) := by
     unfold accO
     split
     · rfl
     · show (if _ = u then _ else _) = _
       rw [if_neg (hne j).2]
   rw [e1]
   unfold nextO
   rw [if_neg (fun e => by subst e; exact absurd hj (Nat.not_lt_zero _))]
   show (if _ = u + 1 then _ else _) = _
   rw [if_neg (hne j).1]
   have := rowsB_get (u + 1) rows 0 b j hj z
   rw [Nat.zero_add] at this
   exact this
 · have e1 : accO u A (nextO 0 (u + 1) rows b) y = nextO 0 (u + 1) rows b y := by
     unfold accO
     split
     · rfl
     · show (if y = u then _ else _) = _
       rw [if_neg fun e => hy (.inl e)]
   rw [e1]
   unfold nextO
   split
   · rfl
   · show (if y = u + 1 then _ else _) = _
     rw [if_neg fun e => hy (.inr (.inl e))]
     exact rowsB_other _ _ _ _ fun j _ e => hy (.inr (.inr ⟨j, e⟩))
theorem peekL_rows {b : Nat → Option Ob} {u n : Nat} {s : St} (hb : s.b = b) (ho : s.o = []) : ∀ (rows : List (List Int)) (i : Nat), (∀ j, (h : j < rows.length) → rows[j] ≠ [] → b (rid u (i + j)) = some (.dir 1 (rows[j].map I))) → peekL (peekC s (n + 2)) (refsF 0 u (rows.map List.length) i) = some (rows.map IL) := by
 intro rows
 induction rows with
 | nil => intro i _; rfl
 | cons r rs ih =>
   intro i h
   have ih' := ih (i + 1) fun j hj z => by
     have := h (j + 1) (by simpa using hj) (by simpa using z)
     rw [show i + 1 + j = i + (j + 1) by omega]
     simpa using this
   have h0 := h 0 (by simp)
   rw [List.map_cons]
   unfold refsF peekL
   rw [ih']
   by_cases hz : r = []
   · subst hz
     rfl
   · have hl : ¬ r.length = 0 := fun e => hz (List.eq_nil_of_length_eq_zero e)
     have h0' := h0 hz
     have eI : peekL (peekC s (n + 1)) (r.map I) = some (r.map I) := by
       clear h0 h0' hl hz h
       induction r with
       | nil => rfl
       | cons a r ihr =>
         rw [List.map_cons]
         unfold peekL
         rw [ihr]
         rfl
     have e : peekC s (n + 2) (rowR 0 (rid u i) r.length) = some (IL r) := by
       unfold rowR
       rw [if_neg hl, peekC_aref]
       have : s.ob 0 (rid u i) = some (.dir 1 (r.map I)) := by
         unfold St.ob
         rw [ho, hb]
         exact h0'
       rw [this]
       dsimp only
       rw [if_pos (List.length_map _), eI]
       rfl
     have ef : (rowR 0 (rid u i) r.length).flat = [rowR 0 (rid u i) r.length] := by
       unfold rowR
       rw [if_neg hl]
       rfl
     rw [ef]
     unfold mapOpt
     rw [e]
     show (match some [IL r], some (rs.map IL) with | some cs, some l' => some ((rowR 0 (rid u i) r.length).refill cs :: l') | _, _ => none) = _
     unfold rowR
     rw [if_neg hl]
     rfl
theorem peeked {b : Nat → Option Ob} {u : Nat} {A : List Bool} {rows : List (List Int)} (h : DfaM b u A rows) (t r f n) :
   peekC ⟨t, b, [], r, f, n⟩ 9 (rowR 0 u A.length) = some (.slc false 1 (A.map B)) ∧ peekC ⟨t, b, [], r, f, n⟩ 9 (rowR 0 (u + 1) rows.length) = some (.slc false 1 (rows.map IL)) := by
 constructor
 · cases A with
   | nil => rfl
   | cons a A =>
     unfold rowR
     rw [if_neg (by simp), peekC_aref]
     have : St.ob ⟨t, b, [], r, f, n⟩ 0 u = some (.arr false 1 ((a :: A).map B)) := h.acc (by simp)
     rw [this]
     dsimp only
     rw [if_pos (List.length_map _)]
 · cases hr : rows with
   | nil => rfl
   | cons r0 rs =>
     rw [← hr]
     have hn : rows ≠ [] := by rw [hr]; simp
     have hl : ¬ rows.length = 0 := by rw [hr]; simp
     have e := peekL_rows (b := b) (u := u + 1) (n := 6) (s := ⟨t, b, [], r, f, n⟩) rfl rfl rows 0 (fun j hj z => by rw [Nat.zero_add]; exact h.row j hj z)
     rw [refsF_R] at e
     unfold rowR
     rw [if_neg hl, peekC_aref]
     have : St.ob ⟨t, b, [], r, f, n⟩ 0 (u + 1) = some (.dir 1 (refsR 0 (u + 1) (rows.map List.length))) := h.dir hn
     rw [this]
     dsimp only
     rw [if_pos (by simp [refsR]), e]
     rfl
theorem rowT_cell (lv id n : Nat) : cellOk (rowT lv id n) = true := by unfold rowT; split <;> rfl
theorem rowT_low (l id n : Nat) : lowV l (rowT 0 id n) = true := by
 unfold rowT
 split
 · rfl
 · exact decide_eq_true (Nat.zero_le l)
theorem rowR_cellD (lv id n : Nat) : cellD (rowR lv id n) = true := by unfold rowR; split <;> rfl
theorem rowR_view (lv id n : Nat) : (rowR lv id n).viewC = rowR lv id n := by unfold rowR; split <;> rfl
theorem T_cell (a b c d e f : Nat) : [rowT a b c, rowT d e f].all cellOk = true := by simp only [List.all_cons, List.all_nil, rowT_cell, Bool.and_true]
theorem T_low (l b c e f : Nat) : [rowT 0 b c, rowT 0 e f].all (lowV l) = true := by simp only [List.all_cons, List.all_nil, rowT_low, Bool.and_true]
theorem T_view (a b c d e f : Nat) : [rowT a b c, rowT d e f].map V.viewC = [rowR a b c, rowR d e f] := by simp only [List.map_cons, List.map_nil, rowT_view]
theorem R_view (a b c d e f : Nat) : [rowR a b c, rowR d e f].map V.viewC = [rowR a b c, rowR d e f] := by simp only [List.map_cons, List.map_nil, rowR_view]
theorem R_cellD (a b c d e f : Nat) : [rowR a b c, rowR d e f].all cellD = true := by simp only [List.all_cons, List.all_nil, rowR_cellD, Bool.and_true]
attribute [go_sem ↓ high] T_cell T_low T_view R_view R_cellD
theorem peekC_str (s : St) (n : Nat) (x : ByteArray) : peekC s n (.str x) = some (.str x) := by cases n <;> rfl
theorem peekC_bool (s : St) (n : Nat) (b : Bool) : peekC s n (.bool b) = some (.bool b) := by cases n <;> rfl
attribute [go_sem] peekC_str peekC_bool
def NoM (b : Nat → Option Ob) (u : Nat) : Prop := ∀ y, mine u y → b y = none
def Only (u : Nat) (b b' : Nat → Option Ob) : Prop := ∀ y, ¬ mine u y → b' y = b y
theorem NoM.st {b : Nat → Option Ob} {u k : Nat} (h : NoM b u) (hk : k < u) (o : Option Ob) : NoM (upd b k o) u := fun y hy => by
 show (if y = k then _ else _) = _
 rw [if_neg (fun e : y = k => mine_small hk (e ▸ hy))]
 exact h y hy
theorem NoM.only {b b' : Nat → Option Ob} {u v : Nat} (h : NoM b u) (o : Only v b b') (hu : u < 900000) (hv : v < 900000) (d : u + 1 < v ∨ v + 1 < u) : NoM b' u := fun y hy => (o y (mine_ne hu hv d hy)).trans (h y hy)
theorem NoM.n0 (u : Nat) : NoM n0 u := fun _ _ => rfl
theorem DfaM.st {b : Nat → Option Ob} {u k : Nat} {A : List Bool} {rows : List (List Int)} (h : DfaM b u A rows) (hk : k < u) (o : Option Ob) : DfaM (upd b k o) u A rows := h.congr fun y hy => if_neg (fun e : y = k => mine_small hk (e ▸ hy))
theorem DfaM.only {b b' : Nat → Option Ob} {u v : Nat} {A : List Bool} {rows : List (List Int)} (h : DfaM b u A rows) (o : Only v b b') (hu : u < 900000) (hv : v < 900000) (d : u + 1 < v ∨ v + 1 < u) : DfaM b' u A rows := h.congr fun y hy => o y (mine_ne hu hv d hy)
theorem Only.lo {b b' : Nat → Option Ob} {u k : Nat} (o : Only u b b') (hk : k < u) {x : Option Ob} (h : b k = x) : b' k = x := (o k (mine_small hk)).trans h
def MakesTo (vs : List V) (A : List Bool) (rows : List (List Int)) : Prop :=
 ∀ (b : Nat → Option Ob) (u : Nat), NoM b u → ∃ b', (∀ t r f n, uMakes ⟨t, b, [], r, f, n⟩ u vs = some ([rowT 0 u A.length, rowT 0 (u + 1) rows.length], ⟨t, b', [], r, f, n⟩)) ∧ DfaM b' u A rows ∧ Only u b b'
theorem emp {α : Type} (A : List α) : (A = [] ∧ ((([] : List α).length = 0) = True)) ∨ (A ≠ [] ∧ ((A.length = 0) = False)) := by
 cases A with
 | nil => exact .inl ⟨rfl, eq_true rfl⟩
 | cons a A => exact .inr ⟨by simp, eq_false (by simp)⟩
theorem free_UR (l : List (List Int)) : (l.map UR).all V.free = true := by
 rw [List.all_eq_true]
 intro v hv
 obtain ⟨b, _, rfl⟩ := List.mem_map.1 hv
 unfold UR
 rw [free_uq, List.all_eq_true]
 intro w hw
 obtain ⟨c, _, rfl⟩ := List.mem_map.1 hw
 simp [I, V.free]
attribute [go_sem] free_UR
def TwoWays (ya yn : V) (A : List Bool) (L : List (List Int)) : Prop :=
 (ya = .uq 1 (A.map B) ∧ yn = .uq 1 (L.map UR) ∧ A ≠ [] ∧ L ≠ []) ∨ (ya = .slc false 1 [] ∧ yn = .slc false 1 [] ∧ A = [] ∧ L = [])
theorem flat_bool (b : Bool) : (V.bool b).flatOk = true := rfl
theorem flat_int (k : IntKind) (n : Int) : (V.int k n).flatOk = true := rfl
theorem flat_str (x : ByteArray) : (V.str x).flatOk = true := rfl
attribute [go_sem] flat_bool flat_int flat_str
end Go.Ev
namespace Go.Ev
open Go
set_option maxRecDepth 10000

theorem kk_eq : KK = 26959946667150639794667015087019630673637144422540572481103610249216 * 4294967296 := by decide
theorem rid_mod (u j : Nat) (hu : u < 4294967296) : rid u j % 4294967296 = u := by
 unfold rid
 rw [kk_eq, ← Nat.mul_assoc, Nat.add_mul_mod_self_right, Nat.mod_eq_of_lt hu]
theorem rid_ge (u j : Nat) : 4294967296 ≤ rid u j := by
 have := rid_big u j
 have k : 4294967296 ≤ KK := by rw [kk_eq]; omega
 omega
theorem famD_rid (D : List Nat) (u j : Nat) (hu : u < 4294967296) : famD D (rid u j) = memN u D := by
 rw [Bool.eq_iff_iff, famD_iff, rid_mod u j hu]
 exact ⟨fun h => h.2, fun h => ⟨rid_ge u j, h⟩⟩
theorem famD_small (D : List Nat) (t : Nat) (h : t < 4294967296) : famD D t = false := by
 cases e : famD D t with
 | false => rfl
 | true => have := ((famD_iff _ _).1 e).1; omega
theorem famB_small (D : List Nat) (b g : Nat → Option Ob) (t : Nat) (h : t < 4294967296) : famB D b g t = g t := by
 unfold famB
 rw [famD_small D t h]
 rfl
theorem famB_rid (u j : Nat) (b g : Nat → Option Ob) (hu : u < 4294967296) : famB [u] b g (rid u j) = b (rid u j) := by
 unfold famB
 rw [famD_rid _ _ _ hu]
 simp [memN]
theorem small_ne (n u j : Nat) (h : n < 4294967296) : (n = rid u j) = False := eq_false fun e => by have := rid_ge u j; omega
theorem ne_small (n u j : Nat) (h : n < 4294967296) : (rid u j = n) = False := eq_false fun e => by have := rid_ge u j; omega
def RowsAt (b : Nat → Option Ob) (u : Nat) (rows : List (List Int)) : Prop := ∀ t, famD [u] t = true → b t = rowsB u rows 0 n0 t
theorem rowsB_none (u : Nat) {t : Nat} (h : ∀ j, t ≠ rid u j) (rows : List (List Int)) (i : Nat) (b : Nat → Option Ob) : rowsB u rows i b t = b t := rowsB_other u rows i b fun j _ => h j
theorem rowsB_over (u : Nat) : ∀ (rows : List (List Int)) (i j : Nat) (b : Nat → Option Ob), j < i ∨ i + rows.length ≤ j → rowsB u rows i b (rid u j) = b (rid u j) := by
 intro rows
 induction rows with
 | nil => intro i j b _; rfl
 | cons r rs ih =>
   intro i j b h
   unfold rowsB
   rw [ih (i + 1) j _ (by simp only [List.length_cons] at h; omega)]
   split
   · rfl
   · show (if rid u j = rid u i then _ else _) = _
     rw [if_neg fun e => by have := rid_inj e; simp only [List.length_cons] at h; omega]
theorem rowsB_empty (u : Nat) : ∀ (rows : List (List Int)) (i j : Nat) (b : Nat → Option Ob) (h : j < rows.length), rows[j] = [] → rowsB u rows i b (rid u (i + j)) = b (rid u (i + j)) := by
 intro rows
 induction rows with
 | nil => intro i j b h; simp at h
 | cons r rs ih =>
   intro i j b h hz
   unfold rowsB
   cases j with
   | zero =>
     rw [rowsB_over _ _ _ _ _ (.inl (by omega)), if_pos (show r = [] from hz)]
   | succ j =>
     have := ih (i + 1) j (if r = [] then b else upd b (rid u i) (some (.dir 1 (r.map I)))) (by simpa using h) hz
     rw [show i + 1 + j = i + (j + 1) by omega] at this
     rw [this]
     split
     · rfl
     · show (if rid u _ = rid u i then _ else _) = _
       rw [if_neg fun e => by have := rid_inj e; omega]
theorem rowsB_at (u : Nat) (rows : List (List Int)) (b : Nat → Option Ob) (j : Nat) : rowsB u rows 0 b (rid u j) = if h : j < rows.length then (if rows[j] = [] then b (rid u j) else some (.dir 1 (rows[j].map I))) else b (rid u j) := by
 split
 · rename_i h
   split
   · rename_i hz
     have := rowsB_empty u rows 0 j b h hz
     rwa [Nat.zero_add] at this
   · rename_i hz
     have := rowsB_get u rows 0 b j h hz
     rwa [Nat.zero_add] at this
 · exact rowsB_over _ _ _ _ _ (.inr (by omega))
theorem RowsAt.famOk {b : Nat → Option Ob} {u : Nat} {rows : List (List Int)} (h : RowsAt b u rows) (t : Nat → V) (o r f n) (H : Nat → Bool) : FamOk ⟨t, b, o, r, f, n⟩ H [u] := by
 intro x hx ob hb
 have hb' : rowsB u rows 0 n0 x = some ob := (h x hx).symm.trans hb
 by_cases hr : ∃ j, x = rid u j
 · obtain ⟨j, rfl⟩ := hr
   rw [rowsB_at] at hb'
   split at hb'
   · split at hb'
     · cases hb'
     · obtain rfl := Option.some.inj hb'
       refine ⟨1, _, rfl, ?_⟩
       rw [List.all_eq_true]
       intro v hv
       obtain ⟨y, hy, hv⟩ := List.mem_flatten.1 hv
       obtain ⟨z, hz, rfl⟩ := List.mem_map.1 hy
       obtain ⟨c, _, rfl⟩ := List.mem_map.1 hz
       obtain rfl : v = I c := by simpa [I, V.flat] using hv
       rfl
   · cases hb'
 · rw [rowsB_none u (fun j e => hr ⟨j, e⟩)] at hb'
   cases hb'
theorem RowsAt.fam {b : Nat → Option Ob} {u : Nat} {rows : List (List Int)} (h : RowsAt b u rows) (g : Nat → Option Ob) : famB [u] b g = famB [u] (rowsB u rows 0 n0) g := by
 funext t
 unfold famB
 split
 · rename_i k; exact h t k
 · rfl
theorem RowsAt.of_fam (u : Nat) (rows : List (List Int)) (g : Nat → Option Ob) : RowsAt (famB [u] (rowsB u rows 0 n0) g) u rows := fun t ht => by
 unfold famB
 rw [if_pos ht]
theorem RowsAt.st {b : Nat → Option Ob} {u k : Nat} {rows : List (List Int)} (h : RowsAt b u rows) (hk : k < 4294967296) (o : Option Ob) : RowsAt (upd b k o) u rows := fun t ht => by
 show (if t = k then _ else _) = _
 rw [if_neg fun e => by subst e; rw [famD_small _ _ hk] at ht; cases ht]
 exact h t ht
theorem RowsAt.set {b : Nat → Option Ob} {u j : Nat} {rows : List (List Int)} (h : RowsAt b u rows) (hj : j < rows.length) {r : List Int} (hr : r ≠ []) : RowsAt (upd b (rid u j) (some (.dir 1 (r.map I)))) u (rows.set j r) := fun t ht => by
 show (if t = rid u j then _ else _) = _
 by_cases e : t = rid u j
 · rw [if_pos e, e, rowsB_at, dif_pos (by rw [List.length_set]; exact hj)]
   have : (rows.set j r)[j]'(by rw [List.length_set]; exact hj) = r := List.getElem_set_self _
   rw [this, if_neg hr]
 · rw [if_neg e, h t ht]
   by_cases hk : ∃ i, t = rid u i
   · obtain ⟨i, rfl⟩ := hk
     have hij : j ≠ i := fun k => e (by rw [k])
     rw [rowsB_at, rowsB_at]
     simp only [List.length_set, List.getElem_set_ne hij]
   · rw [rowsB_none u (fun i k => hk ⟨i, k⟩), rowsB_none u (fun i k => hk ⟨i, k⟩)]
theorem rowsB_base (u t : Nat) : ∀ (rows : List (List Int)) (i : Nat) (b b2 : Nat → Option Ob), b t = b2 t → rowsB u rows i b t = rowsB u rows i b2 t := by
 intro rows
 induction rows with
 | nil => intro i b b2 h; exact h
 | cons r rs ih =>
   intro i b b2 h
   unfold rowsB
   refine ih _ _ _ ?_
   split
   · exact h
   · show (if t = _ then _ else _) = (if t = _ then _ else _)
     rw [h]
theorem made2 (b : Nat → Option Ob) (u : Nat) (A : List Bool) (rows : List (List Int)) (h : NoM b u) (hb : ∀ t, famD [u + 1] t = true → b t = none) (hu : u + 1 < 4294967296) :
   ∃ b', (∀ t r f n, uMakes ⟨t, b, [], r, f, n⟩ u [.uq 1 (A.map B), .uq 1 (rows.map UR)] = some ([rowT 0 u A.length, rowT 0 (u + 1) rows.length], ⟨t, b', [], r, f, n⟩)) ∧ DfaM b' u A rows ∧ Only u b b' ∧ RowsAt b' (u + 1) rows := by
 obtain ⟨b1, e1, h1, h2⟩ := made b u A rows h
 refine ⟨b1, e1, h1, h2, ?_⟩
 have e2 := uMakes_dfa ⟨e0, b, [], #[], 0, 0⟩ u A rows (h _ (.inl rfl)) (h _ (.inr (.inl rfl))) fun j => h _ (.inr (.inr ⟨j, rfl⟩))
 rw [e1] at e2
 have e3 : b1 = accO u A (nextO 0 (u + 1) rows b) := by
   have := congrArg (fun x : Option (List V × St) => x.map fun y => y.2.b) e2
   exact Option.some.inj this
 intro t ht
 have k1 : t ≠ u := fun e => by rw [e, famD_small _ _ (by omega)] at ht; cases ht
 have k2 : t ≠ u + 1 := fun e => by rw [e, famD_small _ _ hu] at ht; cases ht
 rw [e3]
 have e4 : accO u A (nextO 0 (u + 1) rows b) t = nextO 0 (u + 1) rows b t := by
   unfold accO
   split
   · rfl
   · exact if_neg k1
 rw [e4]
 unfold nextO
 split
 · rename_i hz; subst hz; exact hb t ht
 · show (if t = u + 1 then _ else _) = _
   rw [if_neg k2]
   exact rowsB_base _ _ _ _ _ _ (hb t ht)
theorem dfaM_fam {u : Nat} {A : List Bool} {rows : List (List Int)} {g : Nat → Option Ob} (hu : u + 1 < 4294967296) (ha : A ≠ [] → g u = some (.arr false 1 (A.map B))) (hd : rows ≠ [] → g (u + 1) = some (.dir 1 (refsR 0 (u + 1) (rows.map List.length)))) : DfaM (famB [u + 1] (rowsB (u + 1) rows 0 n0) g) u A rows :=
 ⟨fun z => (famB_small _ _ _ _ (by omega)).trans (ha z), fun z => (famB_small _ _ _ _ hu).trans (hd z), fun j hj z => (famB_rid _ _ _ _ hu).trans (by rw [rowsB_at, dif_pos hj, if_neg z])⟩
theorem upd_fam {b : Nat → Option Ob} {D : List Nat} {k t : Nat} (hk : k < 4294967296) (o : Option Ob) (ht : famD D t = true) : upd b k o t = b t := if_neg fun e => by rw [e, famD_small _ _ hk] at ht; cases ht
theorem rowR_held (s : St) (H : Nat → Bool) (lv id n : Nat) (h : H id = true) : (rowR lv id n).flat.all (heldC s H) = true := by
 unfold rowR
 split
 · rfl
 · show ([V.aref lv id n].all (heldC s H)) = true
   rw [List.all_cons, List.all_nil, Bool.and_true]
   show ((lv != s.lv) || H id) = true
   rw [h, Bool.or_true]
theorem held_refs (s : St) (objs : List Nat) (lv u : Nat) (ns : List Nat) (hu : u < 4294967296) : ((refsR lv u ns).map V.flat).flatten.all (heldC s (heldH objs [u])) = true := by
 rw [List.all_eq_true]
 intro v hv
 obtain ⟨y, hy, hv⟩ := List.mem_flatten.1 hv
 obtain ⟨z, hz, rfl⟩ := List.mem_map.1 hy
 unfold refsR at hz
 obtain ⟨i, _, rfl⟩ := List.mem_map.1 hz
 refine List.all_eq_true.1 (rowR_held s _ lv (rid u i) _ ?_) v hv
 rw [heldH_eq, famD_rid _ _ _ hu]
 simp [memN]
attribute [go_sem] famB_small famB_rid famD_rid famD_small small_ne ne_small held_refs
theorem famOk_self (u : Nat) (rows : List (List Int)) (g : Nat → Option Ob) (t o r f n H) : FamOk ⟨t, famB [u] (rowsB u rows 0 n0) g, o, r, f, n⟩ H [u] = True := eq_true ((RowsAt.of_fam u rows g).famOk t o r f n H)
theorem famB_self (u : Nat) (rows : List (List Int)) (g g' : Nat → Option Ob) : famB [u] (famB [u] (rowsB u rows 0 n0) g) g' = famB [u] (rowsB u rows 0 n0) g' := (RowsAt.of_fam u rows g).fam g'
theorem famOk_st (u : Nat) (rows : List (List Int)) (g : Nat → Option Ob) (k : Nat) (c t o r f n H) (hk : k < 4294967296) : FamOk ⟨t, upd (famB [u] (rowsB u rows 0 n0) g) k c, o, r, f, n⟩ H [u] = True := eq_true (((RowsAt.of_fam u rows g).st hk c).famOk t o r f n H)
theorem famB_st (u : Nat) (rows : List (List Int)) (g g' : Nat → Option Ob) (k : Nat) (c) (hk : k < 4294967296) : famB [u] (upd (famB [u] (rowsB u rows 0 n0) g) k c) g' = famB [u] (rowsB u rows 0 n0) g' := ((RowsAt.of_fam u rows g).st hk c).fam g'
attribute [go_sem] famOk_self famB_self famOk_st famB_st
theorem famB_set {u j : Nat} {rows : List (List Int)} (g : Nat → Option Ob) (hu : u < 4294967296) (hj : j < rows.length) {r : List Int} (hr : r ≠ []) : upd (famB [u] (rowsB u rows 0 n0) g) (rid u j) (some (.dir 1 (r.map I))) = famB [u] (rowsB u (rows.set j r) 0 n0) g := by
 have h1 := ((RowsAt.of_fam u rows g).set hj hr).fam g
 rw [← h1]
 funext t
 by_cases ht : famD [u] t = true
 · show _ = famB [u] _ g t
   unfold famB
   rw [if_pos ht]
 · have e : t ≠ rid u j := fun e => ht (by rw [e, famD_rid _ _ _ hu]; simp [memN])
   show (if t = rid u j then _ else _) = famB [u] _ g t
   rw [if_neg e]
   unfold famB
   rw [if_neg ht, if_neg ht]
end Go.Ev
namespace Go.Ev
open Go
def sw (q i : Nat) : Nat := if i = 0 then q else if i = q then 0 else i
theorem sw_sw (q i : Nat) : sw q (sw q i) = i := by
 unfold sw
 by_cases h : i = 0
 · subst h
   rw [if_pos rfl]
   by_cases hq : q = 0
   · rw [if_pos hq, hq]
   · rw [if_neg hq, if_pos rfl]
 · rw [if_neg h]
   by_cases hi : i = q
   · rw [if_pos hi, if_pos rfl, hi]
   · rw [if_neg hi, if_neg h, if_neg hi]
theorem sw_lt {q i n : Nat} (hq : q < n) (hi : i < n) : sw q i < n := by
 unfold sw
 split
 · exact hq
 split
 · omega
 · exact hi
theorem sw_inj {q x y : Nat} (h : sw q x = sw q y) : x = y := by rw [← sw_sw q x, h, sw_sw]
def sw3 (q : Nat) (t : Nat × Nat × Nat) : Nat × Nat × Nat := (sw q t.1, sw q t.2.1, sw q t.2.2)
def fromD (d : DN) (q : Nat) : DN := ⟨(List.range d.accept.length).map fun i => accN d (sw q i), (List.range d.accept.length).map fun i => sw3 q (d.nx (sw q i))⟩
theorem fromD_len (d : DN) (q : Nat) : (fromD d q).accept.length = d.accept.length := by
 show ((List.range _).map _).length = _
 rw [List.length_map, List.length_range]
theorem fromD_nlen (d : DN) (q : Nat) : (fromD d q).next.length = d.accept.length := by
 show ((List.range _).map _).length = _
 rw [List.length_map, List.length_range]
theorem fromD_ok {d : DN} (ho : d.ok) {q : Nat} (hq : q < d.accept.length) : (fromD d q).ok := by
 refine ⟨by rw [fromD_len, fromD_nlen], fun t ht => ?_⟩
 rw [fromD_len]
 obtain ⟨i, hi, rfl⟩ := List.mem_map.1 ht
 have h := DN.nx_lt ho (sw_lt hq (List.mem_range.1 hi))
 exact ⟨sw_lt hq h.1, sw_lt hq h.2.1, sw_lt hq h.2.2⟩
theorem fromD_acc (d : DN) (q : Nat) {i : Nat} (h : i < d.accept.length) : accN (fromD d q) i = accN d (sw q i) := by
 unfold accN fromD
 dsimp only
 rw [List.getD_eq_getElem?_getD, List.getElem?_map, List.getElem?_range h]
 rfl
theorem fromD_nx (d : DN) (q : Nat) {i : Nat} (h : i < d.accept.length) : (fromD d q).nx i = sw3 q (d.nx (sw q i)) := by
 unfold DN.nx fromD
 dsimp only
 rw [List.getD_eq_getElem?_getD, List.getElem?_map, List.getElem?_range h]
 rfl
theorem Ek_from {d : DN} (ho : d.ok) {q : Nat} (hq : q < d.accept.length) : ∀ k x y, x < d.accept.length → y < d.accept.length → (Ek (fromD d q) k x y ↔ Ek d k (sw q x) (sw q y)) := by
 intro k
 induction k with
 | zero =>
   intro x y hx hy
   show accN (fromD d q) x = accN (fromD d q) y ↔ accN d (sw q x) = accN d (sw q y)
   rw [fromD_acc d q hx, fromD_acc d q hy]
 | succ k ih =>
   intro x y hx hy
   have nx := DN.nx_lt ho (sw_lt hq hx)
   have ny := DN.nx_lt ho (sw_lt hq hy)
   show (Ek (fromD d q) k x y ∧ Ek (fromD d q) k ((fromD d q).nx x).1 ((fromD d q).nx y).1 ∧ Ek (fromD d q) k ((fromD d q).nx x).2.1 ((fromD d q).nx y).2.1 ∧ Ek (fromD d q) k ((fromD d q).nx x).2.2 ((fromD d q).nx y).2.2) ↔ (Ek d k (sw q x) (sw q y) ∧ Ek d k (d.nx (sw q x)).1 (d.nx (sw q y)).1 ∧ Ek d k (d.nx (sw q x)).2.1 (d.nx (sw q y)).2.1 ∧ Ek d k (d.nx (sw q x)).2.2 (d.nx (sw q y)).2.2)
   rw [fromD_nx d q hx, fromD_nx d q hy]
   unfold sw3
   dsimp only
   rw [ih x y hx hy, ih _ _ (sw_lt hq nx.1) (sw_lt hq ny.1), ih _ _ (sw_lt hq nx.2.1) (sw_lt hq ny.2.1), ih _ _ (sw_lt hq nx.2.2) (sw_lt hq ny.2.2)]
   simp only [sw_sw]
theorem order_from {d : DN} (ho : d.ok) {q : Nat} (hq : q < d.accept.length) : order d q = (order (fromD d q) 0).map (sw q) := by
 unfold order
 rw [fromD_len]
 have hf := fromD_ok ho hq
 have := bfs_map (f := sw q) (Q := fun x => x < d.accept.length) (fun x y _ _ h => sw_inj h) (g := (fromD d q).nx) (g' := d.nx) (fun x hx => by
   have := DN.nx_lt hf (q := x) (by rw [fromD_len]; exact hx)
   rw [fromD_len] at this
   exact this) (fun x hx => by
   rw [fromD_nx d q hx]
   unfold sw3
   simp only [sw_sw]) d.accept.length [0] 0 (fun x hx => by rw [List.mem_singleton.1 hx]; omega)
 exact this
theorem quotS_from {d : DN} (ho : d.ok) {q : Nat} (hq : q < d.accept.length) : quotS (fromD d q) 0 = quotS d q := by
 have hf := fromD_ok ho hq
 have h0 : 0 < (fromD d q).accept.length := by rw [fromD_len]; omega
 have hlt := (order_lt hf h0).2
 rw [fromD_len] at hlt
 generalize hc : cl (rounds d (d.accept.length + 1) (class0 d)) = c
 have hk : Kern (fromD d q) 0 (fun x => c (sw q x)) := by
   refine ⟨fun x y hx hy => ?_⟩
   have hx' := hlt x hx
   have hy' := hlt y hy
   rw [← hc, cl_inf ho (by omega) (sw_lt hq hx') (sw_lt hq hy')]
   constructor
   · intro h k; exact (Ek_from ho hq k x y hx' hy').2 (h k)
   · intro h k; exact (Ek_from ho hq k x y hx' hy').1 (h k)
 rw [← quotS_kern hf h0 hk]
 unfold quotS
 rw [hc]
 unfold quot
 rw [order_from ho hq]
 have hl : leadsB c ((order (fromD d q) 0).map (sw q)) = (leadsB (fun x => c (sw q x)) (order (fromD d q) 0)).map (sw q) := leadsF_map c (sw q) _ []
 rw [hl]
 have hm : ∀ x ∈ leadsB (fun x => c (sw q x)) (order (fromD d q) 0), x < d.accept.length := fun x hx => hlt x (leadsB_mem hx)
 generalize leadsB (fun x => c (sw q x)) (order (fromD d q) 0) = L at hm
 unfold ofQuot
 rw [List.map_map, List.map_map, List.map_map]
 show (⟨_, _⟩ : DN) = ⟨_, _⟩
 congr 1
 · exact List.map_congr_left fun x hx => fromD_acc d q (hm x hx)
 · refine List.map_congr_left fun x hx => ?_
   rw [fromD_nx d q (hm x hx)]
   show rowOf _ _ = rowOf _ _
   congr 1
   unfold c3 sw3
   simp only [sw_sw]
def lqR (x : Dfa) (s : ByteArray) : V := if validD x = true ∧ isWord s = true then .tup [(quotS x.dn (walk x.dn s 0 0)).encD, .bool true] else .tup [.agg [.slc false 1 [], .slc false 1 []], .bool false]
end Go.Ev
namespace Go.Ev
open Go
set_option maxRecDepth 10000

def abcS : ByteArray := ⟨#[97, 98, 99]⟩
def letS (k : Nat) : ByteArray := abcS.extract k (k + 1)
def mor3 (m : Mor) (k : Nat) : ByteArray := if k = 0 then m.a else if k = 1 then m.b else m.c
theorem app_empty (s : ByteArray) : (⟨#[]⟩ : ByteArray) ++ s = s := by
 apply ByteArray.ext
 simp
theorem appM_let {m : Mor} (hm : isMor m = true) {k : Nat} (hk : k < 3) : appM m (letS k) = mor3 m k := by
 obtain ⟨⟨_, ha⟩, ⟨_, hb⟩, ⟨_, hc⟩⟩ := isMor_ltrs hm
 unfold appM
 have hs : (letS k).size = 1 := by
   obtain rfl | rfl | rfl : k = 0 ∨ k = 1 ∨ k = 2 := by omega
   all_goals rfl
 have hb0 : bt (letS k) (0 : Nat) = 97 + k := by
   obtain rfl | rfl | rfl : k = 0 ∨ k = 1 ∨ k = 2 := by omega
   all_goals rfl
 have hi : imgM m (letS k) 0 = mor3 m k := by
   unfold imgM mor3
   rw [hb0]
   obtain rfl | rfl | rfl : k = 0 ∨ k = 1 ∨ k = 2 := by omega
   all_goals rfl
 have hz : (mor3 m k).size ≤ 3 := by unfold mor3; (repeat' split) <;> assumption
 rw [repl_next (by omega), hi, repl_end (by omega), app_empty]
 rw [if_neg]
 have : (⟨#[]⟩ : ByteArray).size = 0 := rfl
 omega
theorem mor3_word {m : Mor} (hm : isMor m = true) (k : Nat) : isWord (mor3 m k) = true := by
 unfold isMor small at hm
 simp only [Bool.and_eq_true] at hm
 unfold mor3
 repeat' split
 · exact hm.1.1
 · exact hm.2.1.1
 · exact hm.2.2.1
theorem mor3_size {m : Mor} (hm : isMor m = true) (k : Nat) : (mor3 m k).size ≤ 3 := by
 obtain ⟨⟨_, ha⟩, ⟨_, hb⟩, ⟨_, hc⟩⟩ := isMor_ltrs hm
 unfold mor3; (repeat' split) <;> assumption
def preT (d : DN) (m : Mor) (q : Nat) : Nat × Nat × Nat := (walk d m.a q 0, walk d m.b q 0, walk d m.c q 0)
def preD (d : DN) (m : Mor) : DN := ⟨d.accept, (List.range d.accept.length).map (preT d m)⟩
theorem preD_val {d : DN} (h : Val d) (m : Mor) : Val (preD d m) := by
 refine ⟨⟨?_, ?_⟩, h.pos, h.le⟩
 · unfold preD
   dsimp only
   rw [List.length_map, List.length_range]
 · unfold preD
   dsimp only
   intro t ht
   obtain ⟨q, hq, rfl⟩ := List.mem_map.1 ht
   have hq' := List.mem_range.1 hq
   exact ⟨walk_lt h.ok _ _ q 0 (Nat.le_refl _) hq', walk_lt h.ok _ _ q 0 (Nat.le_refl _) hq', walk_lt h.ok _ _ q 0 (Nat.le_refl _) hq'⟩
def rowK (o n : Nat × Nat × Nat) (k : Nat) : List Int := [if 0 < k then n.1 else o.1, if 1 < k then n.2.1 else o.2.1, if 2 < k then n.2.2 else o.2.2]
def at3 (n : Nat × Nat × Nat) (k : Nat) : Nat := if k = 0 then n.1 else if k = 1 then n.2.1 else n.2.2
theorem rowK_set (o n : Nat × Nat × Nat) {k : Nat} (hk : k < 3) : ((rowK o n k).map I).set k (I (at3 n k)) = (rowK o n (k + 1)).map I := by
 obtain rfl | rfl | rfl : k = 0 ∨ k = 1 ∨ k = 2 := by omega
 all_goals rfl
theorem rowK_ne (o n : Nat × Nat × Nat) (k : Nat) : rowK o n k ≠ [] := fun e => by cases e
theorem preT_at (d : DN) (m : Mor) (q k : Nat) : at3 (preT d m q) k = walk d (mor3 m k) q 0 := by
 unfold at3 preT mor3
 by_cases h0 : k = 0
 · rw [if_pos h0, if_pos h0]
 · rw [if_neg h0, if_neg h0]
   by_cases h1 : k = 1
   · rw [if_pos h1, if_pos h1]
   · rw [if_neg h1, if_neg h1]
def mixN (d : DN) (m : Mor) (q k : Nat) : List (List Int) := (List.range d.accept.length).map fun i => if i < q then rowK (d.nx i) (preT d m i) 3 else if i = q then rowK (d.nx i) (preT d m i) k else rowK (d.nx i) (preT d m i) 0
theorem mixN_len (d : DN) (m : Mor) (q k : Nat) : (mixN d m q k).length = d.accept.length := by unfold mixN; rw [List.length_map, List.length_range]
theorem mixN_get (d : DN) (m : Mor) (q k i : Nat) (h : i < (mixN d m q k).length) : (mixN d m q k)[i] = if i < q then rowK (d.nx i) (preT d m i) 3 else if i = q then rowK (d.nx i) (preT d m i) k else rowK (d.nx i) (preT d m i) 0 := by
 simp only [mixN, List.getElem_map, List.getElem_range]
theorem mixN_lens (d : DN) (m : Mor) (q k : Nat) : (mixN d m q k).map List.length = (List.range d.accept.length).map fun _ => 3 := by
 unfold mixN
 rw [List.map_map]
 refine List.map_congr_left fun i _ => ?_
 show (if _ then _ else _ : List Int).length = 3
 split
 · rfl
 split
 · rfl
 · rfl
theorem mixN_next (d : DN) (m : Mor) (q : Nat) : mixN d m q 3 = mixN d m (q + 1) 0 := by
 refine List.ext_getElem (by rw [mixN_len, mixN_len]) fun i h1 h2 => ?_
 rw [mixN_get, mixN_get]
 by_cases e : i < q
 · rw [if_pos e, if_pos (by omega)]
 · rw [if_neg e]
   by_cases e2 : i = q
   · rw [if_pos e2, if_pos (by omega)]
   · rw [if_neg e2, if_neg (by omega)]
     split <;> rfl
theorem mixN_at (d : DN) (m : Mor) {q : Nat} (k : Nat) (hq : q < (mixN d m q k).length) : (mixN d m q k)[q] = rowK (d.nx q) (preT d m q) k := by
 rw [mixN_get, if_neg (Nat.lt_irrefl _), if_pos rfl]
theorem mixN_set (d : DN) (m : Mor) (q k j : Nat) : (mixN d m q k).set q (rowK (d.nx q) (preT d m q) j) = mixN d m q j := by
 refine List.ext_getElem (by rw [List.length_set, mixN_len, mixN_len]) fun i h1 h2 => ?_
 rw [List.getElem_set, mixN_get d m q j]
 by_cases e : q = i
 · subst e
   rw [if_pos rfl, if_neg (Nat.lt_irrefl _), if_pos rfl]
 · rw [if_neg e, mixN_get d m q k]
   by_cases h : i < q
   · rw [if_pos h, if_pos h]
   · rw [if_neg h, if_neg h, if_neg (fun h => e h.symm), if_neg (fun h => e h.symm)]
theorem nx_get {d : DN} (i : Nat) (h : i < d.next.length) : d.nx i = d.next[i] := by
 unfold DN.nx
 rw [List.getD_eq_getElem?_getD, List.getElem?_eq_getElem h]
 rfl
theorem mixN_0 {d : DN} (h : d.ok) (m : Mor) : mixN d m 0 0 = d.dfa.next := by
 have hl := h.1
 refine List.ext_getElem (by rw [mixN_len]; show _ = (d.next.map _).length; rw [List.length_map, hl]) fun i h1 h2 => ?_
 rw [mixN_get, if_neg (Nat.not_lt_zero _)]
 have hi : i < d.next.length := by rw [mixN_len] at h1; omega
 have : rowK (d.nx i) (preT d m i) 0 = [((d.nx i).1 : Int), (d.nx i).2.1, (d.nx i).2.2] := rfl
 rw [ite_self, this, nx_get i hi]
 simp only [DN.dfa, List.getElem_map]
theorem mixN_all (d : DN) (m : Mor) : mixN d m d.accept.length 0 = (preD d m).dfa.next := by
 show _ = (((List.range d.accept.length).map (preT d m)).map _)
 unfold mixN
 rw [List.map_map]
 refine List.map_congr_left fun i hi => ?_
 rw [if_pos (List.mem_range.1 hi)]
 rfl
def preR (x : Dfa) (m : Mor) : V := if validD x = true ∧ isMor m = true then .tup [(quotS (preD x.dn m) 0).encD, .bool true] else .tup [.agg [.slc false 1 [], .slc false 1 []], .bool false]
end Go.Ev
namespace Go.Ev
open Go
set_option maxRecDepth 10000

abbrev SW := List Nat × List ByteArray
def insW (p : SW) (q : Nat) (w : ByteArray) : SW := if q ∈ p.1 then p else (p.1 ++ [q], p.2 ++ [w])
def insK (d : DN) (i : Nat) (p : SW) (k : Nat) : SW := insW p (at3 (d.nx (p.1.getD i 0)) k) (p.2.getD i ⟨#[]⟩ ++ letS k)
def ins3W (d : DN) (i : Nat) (p : SW) : SW := insK d i (insK d i (insK d i p 0) 1) 2
def firstF (d : DN) : Nat → Nat → SW → Option ByteArray
 | 0, _, _ => none
 | f + 1, i, p => if i < p.1.length then (if accN d (p.1.getD i 0) = true then some (p.2.getD i ⟨#[]⟩) else firstF d f (i + 1) (ins3W d i p)) else none
def shortW (d : DN) : Option ByteArray := firstF d (d.accept.length + 1) 0 ([0], [⟨#[]⟩])
structure SwOk (d : DN) (p : SW) : Prop where
 nd : p.1.Nodup
 lt : ∀ y ∈ p.1, y < d.accept.length
 len : p.2.length = p.1.length
 sz : ∀ w ∈ p.2, w.size ≤ 1048576
theorem SwOk.le {d : DN} {p : SW} (h : SwOk d p) : p.1.length ≤ d.accept.length := nodup_le h.nd h.lt
theorem insW_len (p : SW) (q : Nat) (w : ByteArray) : p.1.length ≤ (insW p q w).1.length := by
 unfold insW
 split
 · exact Nat.le_refl _
 · simp
theorem insW_get (p : SW) (q : Nat) (w : ByteArray) {i : Nat} (hi : i < p.1.length) (hl : p.2.length = p.1.length) : (insW p q w).1.getD i 0 = p.1.getD i 0 ∧ (insW p q w).2.getD i ⟨#[]⟩ = p.2.getD i ⟨#[]⟩ := by
 unfold insW
 split
 · exact ⟨rfl, rfl⟩
 · have hi2 : i < p.2.length := by omega
   simp only [List.getD_eq_getElem?_getD]
   rw [List.getElem?_append_left hi, List.getElem?_append_left hi2]
   exact ⟨rfl, rfl⟩
theorem at3_lt {d : DN} (ho : d.ok) {q : Nat} (hq : q < d.accept.length) (k : Nat) : at3 (d.nx q) k < d.accept.length := by
 obtain ⟨h1, h2, h3⟩ := DN.nx_lt ho hq
 unfold at3
 split
 · exact h1
 split
 · exact h2
 · exact h3
theorem letS_size {k : Nat} (hk : k < 3) : (letS k).size = 1 := by
 obtain rfl | rfl | rfl : k = 0 ∨ k = 1 ∨ k = 2 := by omega
 all_goals rfl
structure SwSz (p : SW) (b : Nat) : Prop where
 sz : ∀ w ∈ p.2, w.size ≤ b
theorem insK_ok {d : DN} (ho : d.ok) {i : Nat} {p : SW} (h : SwOk d p) (hi : i < p.1.length) {k b : Nat} (hk : k < 3) (hb : ∀ w ∈ p.2, w.size ≤ b) (hw : (p.2.getD i ⟨#[]⟩).size + 1 ≤ b) (hB : b ≤ 1048576) : SwOk d (insK d i p k) ∧ ∀ w ∈ (insK d i p k).2, w.size ≤ b := by
 have hq : p.1.getD i 0 < d.accept.length := by
   rw [List.getD_eq_getElem?_getD, List.getElem?_eq_getElem hi]
   exact h.lt _ (List.getElem_mem hi)
 have hlt := at3_lt ho hq k
 unfold insK insW
 split
 · exact ⟨h, hb⟩
 · rename_i hn
   have hwk : ∀ w ∈ p.2 ++ [p.2.getD i ⟨#[]⟩ ++ letS k], w.size ≤ b := by
     intro w hm
     rcases List.mem_append.1 hm with hm | hm
     · exact hb w hm
     · rw [List.mem_singleton.1 hm, ByteArray.size_append, letS_size hk]
       exact hw
   refine ⟨⟨?_, fun y hy => ?_, by simp [h.len], fun w hm => Nat.le_trans (hwk w hm) hB⟩, hwk⟩
   · exact List.nodup_append.2 ⟨h.nd, by simp, fun a ha b hb e => hn (by rw [List.mem_singleton.1 hb] at e; exact e ▸ ha)⟩
   · rcases List.mem_append.1 hy with hy | hy
     · exact h.lt y hy
     · rw [List.mem_singleton.1 hy]; exact hlt
def shortR (d : DN) : V := match shortW d with
 | some w => .tup [.str w, .bool true]
 | none => .tup [.str ⟨#[]⟩, .bool false]
def foundR : Option ByteArray → V
 | some w => .tup [.str w, .bool true]
 | none => .tup [.str ⟨#[]⟩, .bool false]
theorem firstF_end {d : DN} {f i : Nat} {p : SW} (h : ¬ i < p.1.length) : firstF d f i p = none := by
 cases f with
 | zero => rfl
 | succ f => unfold firstF; rw [if_neg h]
theorem firstF_hit {d : DN} {f i : Nat} {p : SW} (h : i < p.1.length) (ha : accN d (p.1.getD i 0) = true) : firstF d (f + 1) i p = some (p.2.getD i ⟨#[]⟩) := by
 unfold firstF; rw [if_pos h, if_pos ha]
theorem firstF_next {d : DN} {f i : Nat} {p : SW} (h : i < p.1.length) (ha : accN d (p.1.getD i 0) = false) : firstF d (f + 1) i p = firstF d f (i + 1) (ins3W d i p) := by
 conv => lhs; unfold firstF
 rw [if_pos h, if_neg (by rw [ha]; simp)]
def insN (d : DN) (i : Nat) (p : SW) : Nat → SW
 | 0 => p
 | k + 1 => insK d i (insN d i p k) k
theorem insN_3 (d : DN) (i : Nat) (p : SW) : insN d i p 3 = ins3W d i p := rfl
theorem insN_ok {d : DN} (ho : d.ok) (hd : d.accept.length ≤ 1048575) {i : Nat} {p : SW} (h : SwOk d p) (hi : i < p.1.length) (hb : ∀ w ∈ p.2, w.size ≤ i) : ∀ k, k ≤ 3 → SwOk d (insN d i p k) ∧ (∀ w ∈ (insN d i p k).2, w.size ≤ i + 1) ∧ p.1.length ≤ (insN d i p k).1.length ∧ (insN d i p k).1.getD i 0 = p.1.getD i 0 ∧ (insN d i p k).2.getD i ⟨#[]⟩ = p.2.getD i ⟨#[]⟩ := by
 intro k
 induction k with
 | zero => intro _; exact ⟨h, fun w hw => Nat.le_succ_of_le (hb w hw), Nat.le_refl _, rfl, rfl⟩
 | succ k ih =>
   intro hk
   obtain ⟨h1, h2, h3, h4, h5⟩ := ih (by omega)
   have hle := h.le
   have hi' : i < (insN d i p k).1.length := by omega
   have hwi : (p.2.getD i ⟨#[]⟩).size ≤ i := by
     have hl : i < p.2.length := by rw [h.len]; exact hi
     rw [List.getD_eq_getElem?_getD, List.getElem?_eq_getElem hl]
     exact hb _ (List.getElem_mem hl)
   obtain ⟨g1, g2⟩ := insK_ok ho h1 hi' (k := k) (b := i + 1) (by omega) h2 (by rw [h5]; omega) (by omega)
   have gg := insW_get (insN d i p k) (at3 (d.nx ((insN d i p k).1.getD i 0)) k) ((insN d i p k).2.getD i ⟨#[]⟩ ++ letS k) hi' h1.len
   exact ⟨g1, g2, Nat.le_trans h3 (insW_len _ _ _), gg.1.trans h4, gg.2.trans h5⟩
theorem getD_IN2 {l : List Nat} {i : Nat} (h : i < l.length) (v : V) : (l.map IN).getD i v = IN (l.getD i 0) := by
 rw [getD_map h, List.getD_eq_getElem?_getD, List.getElem?_eq_getElem h]
 rfl
theorem getD_S2 {l : List ByteArray} {i : Nat} (h : i < l.length) (v : V) : (l.map V.str).getD i v = .str (l.getD i ⟨#[]⟩) := by
 rw [getD_map h, List.getD_eq_getElem?_getD, List.getElem?_eq_getElem h]
 rfl
theorem NT_at (t : Nat × Nat × Nat) {k : Nat} (hk : k < 3) (v : V) : ([.int .i64 t.1, .int .i64 t.2.1, .int .i64 t.2.2] : List V).getD k v = .int .i64 (at3 t k) := by
 obtain rfl | rfl | rfl : k = 0 ∨ k = 1 ∨ k = 2 := by omega
 all_goals rfl
end Go.Ev
namespace Go.Ev
open Go Go.RowKit

def TyOk (P : Program) : Nat → TypeId → List V → Prop
 | 0, _, _ => False
 | n + 1, t, vs => match P.underlying t with
   | some .bool => ∃ b, vs = [.bool b]
   | some (.int k) => ∃ m, vs = [.int k m] ∧ (Lit.int k m).wf = true
   | some .string => ∃ s, vs = [.str s] ∧ s.size ≤ maxLen
   | some (.slice e) => ∃ l, vs = [.slc false (P.cellsOf e) l] ∧ l.length ≤ maxLen ∧ ∀ x ∈ l, ∃ us, x = pack (isAgg P e) us ∧ TyOk P n e us ∧ us.length = P.cellsOf e
   | some (.struct fs) => vs.length = P.cellsOf t ∧ ∀ f ∈ fs.toList, TyOk P n f.type ((vs.drop f.offset).take (P.cellsOf f.type))
   | _ => False
def tiles (P : Program) : Nat → List Field → Nat → Bool
 | n, [], m => n == m
 | n, f :: fs, m => f.offset == n && P.cellsOf f.type != 0 && tiles P (n + P.cellsOf f.type) fs m
def closedT (P : Program) (L : List TypeId) : Bool := L.all fun t => match P.underlying t with
 | some .bool | some (.int _) | some .string => P.cellsOf t == 1
 | some (.slice e) => P.cellsOf t == 1 && memN e L && P.cellsOf e != 0 && (isAgg P e || P.cellsOf e == 1)
 | some (.struct fs) => fs.toList.all (fun f => memN f.type L) && tiles P 0 fs.toList (P.cellsOf t)
 | _ => false

theorem memN_mem : ∀ {l : List Nat} {n : Nat}, memN n l = true → n ∈ l := by
 intro l
 induction l with
 | nil => intro n h; cases h
 | cons a l ih =>
   intro n h
   unfold memN at h
   split at h
   · rename_i e; subst e; exact List.mem_cons_self ..
   · exact List.mem_cons_of_mem _ (ih h)

abbrev CellTr (W : World) (v : V) (c : Value) : Prop := Tr (fun g j => W.cell? ⟨g, j, none⟩) (fun _ _ => none) v c
def RowTr (W : World) (vs : List V) (cs : List Value) : Prop := vs.length = cs.length ∧ vs.all pureC = true ∧ ∀ j, j < vs.length → CellTr W (vs.getD j .undef) (cs.getD j Go.undef)

theorem RowTr.append {W : World} {a b : List V} {c d : List Value} (h : RowTr W a c) (h' : RowTr W b d) : RowTr W (a ++ b) (c ++ d) := by
 obtain ⟨h1, h2, h3⟩ := h
 obtain ⟨k1, k2, k3⟩ := h'
 refine ⟨by simp [h1, k1], by simp [List.all_append, h2, k2], fun j hj => ?_⟩
 simp only [List.getD_eq_getElem?_getD] at h3 k3 ⊢
 by_cases hl : j < a.length
 · rw [List.getElem?_append_left hl, List.getElem?_append_left (by omega)]
   exact h3 j hl
 · rw [List.getElem?_append_right (by omega), List.getElem?_append_right (by omega), ← h1]
   simp only [List.length_append] at hj
   exact k3 _ (by omega)

theorem tile_row {P : Program} {W : World} {Q : Field → List V → Prop} {m : Nat} {cs : List Value} (hm : cs.length = m) : ∀ (fs : List Field) (n : Nat), tiles P n fs m = true → n ≤ m →
   (∀ f ∈ fs, ∃ us, Q f us ∧ us.length = P.cellsOf f.type ∧ RowTr W us ((cs.drop f.offset).take (P.cellsOf f.type))) →
   ∃ vs, n + vs.length = m ∧ RowTr W vs (cs.drop n) ∧ ∀ f ∈ fs, n ≤ f.offset ∧ Q f ((vs.drop (f.offset - n)).take (P.cellsOf f.type)) := by
 intro fs
 induction fs with
 | nil =>
   intro n ht hn _
   have : n = m := by simpa [tiles] using ht
   subst this
   refine ⟨[], rfl, ?_, fun f hf => by cases hf⟩
   rw [List.drop_eq_nil_of_le (by omega)]
   exact ⟨rfl, rfl, fun j hj => by cases hj⟩
 | cons f fs ih =>
   intro n ht hn h
   simp only [tiles, Bool.and_eq_true, beq_iff_eq] at ht
   obtain ⟨⟨ho, h0⟩, ht⟩ := ht
   obtain ⟨us, hq, hl, hr⟩ := h f (List.mem_cons_self ..)
   have hle : n + P.cellsOf f.type ≤ m := by
     have := hr.1
     rw [hl, List.length_take, List.length_drop, ho, hm] at this
     omega
   obtain ⟨vs, hv, hw, hf⟩ := ih _ ht hle (fun g hg => h g (List.mem_cons_of_mem _ hg))
   refine ⟨us ++ vs, by rw [List.length_append]; omega, ?_, ?_⟩
   · have : cs.drop n = (cs.drop n).take (P.cellsOf f.type) ++ cs.drop (n + P.cellsOf f.type) := by
       rw [← List.drop_drop, List.take_append_drop]
     rw [this]
     rw [ho] at hr
     exact hr.append hw
   · intro g hg
     rcases List.mem_cons.1 hg with rfl | hg
     · refine ⟨by omega, ?_⟩
       rw [ho, Nat.sub_self, List.drop_zero, ← hl, List.take_left]
       exact hq
     · obtain ⟨h1, h2⟩ := hf g hg
       refine ⟨by omega, ?_⟩
       have : (us ++ vs).drop (g.offset - n) = vs.drop (g.offset - (n + P.cellsOf f.type)) := by
         rw [List.drop_append]
         rw [List.drop_eq_nil_of_le (by omega), List.nil_append]
         congr 1
         omega
       rw [this]
       exact h2

theorem exists_rows {α : Type} {p : Nat → α → Prop} : ∀ n, (∀ i, i < n → ∃ a, p i a) → ∃ xs : List α, xs.length = n ∧ ∀ i a, xs[i]? = some a → p i a
 | 0, _ => ⟨[], rfl, fun i a h => by simp at h⟩
 | n + 1, h => by
   obtain ⟨xs, hl, hx⟩ := exists_rows n (fun i hi => h i (by omega))
   obtain ⟨a, ha⟩ := h n (by omega)
   refine ⟨xs ++ [a], by simp [hl], fun i b hb => ?_⟩
   by_cases hi : i < n
   · rw [List.getElem?_append_left (by omega)] at hb
     exact hx i b hb
   · have hlt : i < (xs ++ [a]).length := by
       rcases Nat.lt_or_ge i (xs ++ [a]).length with h1 | h1
       · exact h1
       · rw [List.getElem?_eq_none h1] at hb; cases hb
     have : i = n := by simp [hl] at hlt; omega
     subst this
     rw [List.getElem?_append_right (by omega)] at hb
     simp [hl] at hb
     exact hb ▸ ha

theorem pack_flat {b : Bool} {us : List V} (h : b = true ∨ us.length = 1) (hp : us.all pureC = true) : (pack b us).flat = us := by
 unfold pack
 split
 · rfl
 · rcases h with h | h
   · rename_i e; exact absurd h e
   · match us, h with
     | [u], _ =>
       simp only [List.all_cons, List.all_nil, Bool.and_true] at hp
       cases u <;> first | rfl | cases hp

section
variable {H : Type} {enc : TypeId × Value → H} {P : Program} {W : World} {sp : Nat → Bool} {L : List TypeId}
theorem trod_tr (hL : closedT P L = true) : ∀ (fuel : Nat) (t : TypeId) (cs : List Value) (x : DataW H × List MemPlace), t ∈ L → DataW.trod enc P W 0 sp true fuel t cs = some x →
   ∃ vs, TyOk P fuel t vs ∧ vs.length = P.cellsOf t ∧ RowTr W vs cs := by
 intro fuel
 induction fuel with
 | zero => intro t cs x _ h; simp [DataW.trod] at h
 | succ fuel ih =>
   intro t cs x ht hx
   have hc := List.all_eq_true.1 hL t ht
   have one : ∀ {v : V} {c : Value}, pureC v = true → CellTr W v c → RowTr W [v] [c] := by
     intro v c hp hv
     refine ⟨rfl, by simp [hp], fun j hj => ?_⟩
     have : j = 0 := by simpa using hj
     subst this
     exact hv
   simp only [TyOk]
   revert hc
   cases hu : P.underlying t with
   | none => intro hc; cases hc
   | some td =>
     cases td with
     | bool =>
       intro hc
       simp only [DataW.trod, hu] at hx
       dsimp only at hc ⊢
       have hcc : P.cellsOf t = 1 := by simpa using hc
       rcases cs with _ | ⟨c, _ | ⟨c2, cs⟩⟩
       · simp at hx
       · cases c <;> simp at hx
         rename_i b
         exact ⟨[.bool b], ⟨b, rfl⟩, hcc.symm, one rfl (.bool b)⟩
       · simp at hx
     | int k =>
       intro hc
       simp only [DataW.trod, hu] at hx
       dsimp only at hc ⊢
       have hcc : P.cellsOf t = 1 := by simpa using hc
       rcases cs with _ | ⟨c, _ | ⟨c2, cs⟩⟩
       · simp at hx
       · cases c <;> simp at hx
         rename_i k' n
         obtain ⟨⟨rfl, hw⟩, _⟩ := hx
         exact ⟨[.int k' n], ⟨n, rfl, hw⟩, hcc.symm, one rfl (.int k' n)⟩
       · simp at hx
     | string =>
       intro hc
       simp only [DataW.trod, hu] at hx
       dsimp only at hc ⊢
       have hcc : P.cellsOf t = 1 := by simpa using hc
       rcases cs with _ | ⟨c, _ | ⟨c2, cs⟩⟩
       · simp at hx
       · cases c <;> simp at hx
         rename_i s
         exact ⟨[.str s], ⟨s, rfl, hx.1⟩, hcc.symm, one rfl (.str s)⟩
       · simp at hx
     | struct fs =>
       intro hc
       simp only [DataW.trod, hu] at hx
       dsimp only at hc ⊢
       simp only [Bool.and_eq_true] at hc
       obtain ⟨hcl, hti⟩ := hc
       split at hx
       · rename_i hl
         simp only [Option.map_eq_some_iff] at hx
         obtain ⟨xs, hxs, _⟩ := hx
         have hall : ∀ f ∈ fs.toList, ∃ us, TyOk P fuel f.type us ∧ us.length = P.cellsOf f.type ∧ RowTr W us ((cs.drop f.offset).take (P.cellsOf f.type)) := by
           intro f hf
           obtain ⟨i, hi, hie⟩ := List.getElem_of_mem hf
           have h1 := mapM_some_get hxs i f (by rw [List.getElem?_eq_getElem hi, hie])
           have h2 := mapM_some_length hxs
           rw [List.getElem?_eq_getElem (by omega)] at h1
           exact ih _ _ _ (memN_mem (List.all_eq_true.1 hcl f hf)) h1
         obtain ⟨vs, h1, h2, h3⟩ := tile_row (Q := fun f us => TyOk P fuel f.type us) hl fs.toList 0 hti (Nat.zero_le _) hall
         refine ⟨vs, ⟨by omega, fun f hf => ?_⟩, by omega, by simpa using h2⟩
         have := (h3 f hf).2
         simpa using this
       · cases hx
     | slice e =>
       intro hc
       simp only [DataW.trod, hu] at hx
       dsimp only at hc ⊢
       simp only [Bool.and_eq_true, Bool.or_eq_true, beq_iff_eq, bne_iff_ne, ne_eq] at hc
       obtain ⟨⟨⟨hcc, heL⟩, hne⟩, hag⟩ := hc
       split at hx
       all_goals (try (exfalso; simp_all; done))
       all_goals (try (rename_i heq; simp at heq; done))
       · rename_i heq
         refine ⟨[.slc false (P.cellsOf e) []], ⟨[], rfl, Nat.zero_le _, fun x hx => by cases hx⟩, hcc.symm, one rfl (.slc0 ..)⟩
       · rename_i e' a len cap hu'
         have hee : e' = e := by simpa using hu'.symm
         subst hee
         split at hx
         · rename_i hb
           obtain ⟨_, hlc, hcm⟩ := hb
           simp only [Option.bind_eq_some_iff] at hx
           obtain ⟨elems, hel, _⟩ := hx
           have h2 : elems.length = len := by have := mapM_some_length hel; simpa using this
           have hall : ∀ i, i < len → ∃ us : List V, ∃ cs : List Value, W.cells? 0 (a.add (i * P.cellsOf e')) (P.cellsOf e') = some cs ∧ TyOk P fuel e' us ∧ us.length = P.cellsOf e' ∧ RowTr W us cs := by
             intro i hi
             have h1 := mapM_some_get hel i i (by simp [hi])
             rw [List.getElem?_eq_getElem (by omega)] at h1
             simp only [Option.bind_eq_some_iff] at h1
             obtain ⟨cs, hcs, hy⟩ := h1
             obtain ⟨us, h3, h4, h5⟩ := ih _ _ _ (memN_mem heL) hy
             exact ⟨us, cs, hcs, h3, h4, h5⟩
           obtain ⟨xs, hl, hxs⟩ := exists_rows len hall
           subst hl
           by_cases h0 : xs.length = 0
           · have : xs = [] := List.length_eq_zero_iff.1 h0
             subst this
             exact ⟨[.slc false (P.cellsOf e') []], ⟨[], rfl, Nat.zero_le _, fun x hx => by cases hx⟩, hcc.symm, one rfl (.slc0 ..)⟩
           · have hcell : ∀ i us, xs[i]? = some us → ∀ j, j < P.cellsOf e' → ∃ c, W.cell? ((a.add (i * P.cellsOf e')).add j) = some c ∧ CellTr W (us.getD j .undef) c := by
               intro i us hi j hj
               obtain ⟨cs, hcs, h3, h4, h5⟩ := hxs i us hi
               unfold World.cells? at hcs
               simp at hcs
               have h6 := mapM_some_length hcs
               have h1 := mapM_some_get hcs j j (by simp [hj])
               have hj' : j < cs.length := by simpa [h6] using hj
               rw [List.getElem?_eq_getElem hj'] at h1
               refine ⟨_, h1, ?_⟩
               have := h5.2.2 j (by omega)
               simpa [List.getD_eq_getElem?_getD, List.getElem?_eq_getElem hj'] using this
             have hspot : a.spot = none := by
               obtain ⟨us, hus⟩ : ∃ us, xs[0]? = some us := ⟨_, List.getElem?_eq_getElem (by omega)⟩
               obtain ⟨c, h1, _⟩ := hcell 0 us hus 0 (by omega)
               have := World.cell?_spot h1
               simpa [Addr.add] using this
             obtain ⟨ab, ao, asp⟩ := a
             dsimp only at hspot
             subst hspot
             have hadd : ∀ i j, (Addr.add (Addr.add ⟨ab, ao, none⟩ (i * P.cellsOf e')) j) = ⟨ab, ao + i * P.cellsOf e' + j, none⟩ := by
               intro i j
               unfold Addr.add
               split
               · rename_i hj; subst hj
                 split
                 · rename_i hi; simp [hi]
                 · rfl
               · split
                 · rename_i hi; simp [hi]
                 · rfl
             have hpk : ∀ us ∈ xs, us.length = P.cellsOf e' ∧ us.all pureC = true ∧ (pack (isAgg P e') us).flat = us := by
               intro us hus
               obtain ⟨i, hi, hie⟩ := List.getElem_of_mem hus
               obtain ⟨cs, hcs, h3, h4, h5⟩ := hxs i us (by rw [List.getElem?_eq_getElem hi, hie])
               refine ⟨h4, h5.2.1, pack_flat ?_ h5.2.1⟩
               rcases hag with h | h
               · exact .inl h
               · exact .inr (by omega)
             have hget : ∀ i (hi : i < xs.length), ((xs.map (pack (isAgg P e'))).getD i .undef).flat = xs[i] := by
               intro i hi
               simp only [List.getD_eq_getElem?_getD, List.getElem?_map, List.getElem?_eq_getElem hi, Option.map_some, Option.getD_some]
               exact (hpk _ (List.getElem_mem hi)).2.2
             refine ⟨[.slc false (P.cellsOf e') (xs.map (pack (isAgg P e')))], ⟨_, rfl, by simp only [List.length_map]; omega, ?_⟩, hcc.symm, ?_⟩
             · intro v hv
               obtain ⟨us, hus, rfl⟩ := List.mem_map.1 hv
               obtain ⟨i, hi, hie⟩ := List.getElem_of_mem hus
               obtain ⟨cs, hcs, h3, h4, h5⟩ := hxs i us (by rw [List.getElem?_eq_getElem hi, hie])
               exact ⟨us, rfl, h3, h4⟩
             · have hlen : (xs.map (pack (isAgg P e'))).length = xs.length := List.length_map ..
               have key := Tr.slc (S := fun g j => W.cell? ⟨g, j, none⟩) (β := fun _ _ => none) (P.cellsOf e') (xs.map (pack (isAgg P e'))) ab ao cap
                 (fun i j => (W.cell? ⟨ab, ao + i * P.cellsOf e' + j, none⟩).getD Go.undef) (by omega)
                 (by
                   intro v hv
                   obtain ⟨us, hus, rfl⟩ := List.mem_map.1 hv
                   obtain ⟨h1, h2, h3⟩ := hpk us hus
                   rw [h3]
                   exact ⟨h1, h2⟩)
                 (by
                   intro i j hi hj
                   rw [hlen] at hi
                   obtain ⟨c, h1, _⟩ := hcell i xs[i] (List.getElem?_eq_getElem hi) j hj
                   rw [hadd] at h1
                   rw [h1]
                   rfl)
                 (by
                   intro i j hi hj
                   rw [hlen] at hi
                   obtain ⟨c, h1, h2⟩ := hcell i xs[i] (List.getElem?_eq_getElem hi) j hj
                   rw [hadd] at h1
                   rw [h1, hget i hi]
                   exact h2)
               rw [hlen] at key
               exact one rfl key
         · cases hx
     | _ => intro hc; cases hc
end
def fieldsOf (P : Program) (t : TypeId) : Option (List (TypeId × Nat)) := match P.underlying t with
 | some (.struct fs) => some (fs.toList.map fun f => (f.type, f.offset))
 | _ => none
theorem RowTr.one {W : World} {v : V} {c : Value} (h : RowTr W [v] [c]) : CellTr W v c := by
 have := h.2.2 0 (by simp)
 exact this
theorem RowTr.agg {W : World} {vs : List V} {cs : Array Value} (h : RowTr W vs cs.toList) : CellTr W (.agg vs) (.agg cs) := by
 refine .agg _ _ (by simpa using h.1) fun i hi => ?_
 have := h.2.2 i hi
 simpa [List.getD_eq_getElem?_getD, Array.getD_eq_getD_getElem?] using this
end Go.Ev
