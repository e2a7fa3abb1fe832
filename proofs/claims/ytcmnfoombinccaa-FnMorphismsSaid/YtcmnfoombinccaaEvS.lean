/- Automata in memory: made, read as they stand. Lists of lists that a loop keeps as objects. Preimages: what they are. A draw's cursor: a variable of an outer frame. No statement of the seat is proved here. Left quotients: another start state, by renaming. Frames, states and steps: what both sides compute. Values of variables, what a string says of them, and that a solution of an equation passes through one of its moves. No statement of the seat is proved here. -/
import Derived.Test.YtcmnfoombinccaaEvR
import Derived.Test.YtcmnfoombinccaaEvP
import Derived.Test.YtcmnfoombinccaaEvO
set_option linter.unusedVariables false
set_option linter.unusedSimpArgs false
namespace Go.Ev
open Go
set_option maxRecDepth 10000
set_option maxHeartbeats 4000000
set_option linter.unusedVariables false
set_option linter.unusedSimpArgs false

/-- the names of an automaton's objects -/
def mine (u y : Nat) : Prop := y = u ∨ y = u + 1 ∨ ∃ j, y = rid (u + 1) j
theorem mine_small {u y : Nat} (h : y < u) : ¬ mine u y := by
  rintro (e | e | ⟨j, e⟩)
  · omega
  · omega
  · have := rid_gt (u + 1) j; omega
theorem rid_ne {u v i j : Nat} (hu : u < KK) (hv : v < KK) (h : u ≠ v) : rid u i ≠ rid v j := by
  intro e
  unfold rid at e
  have e1 : (u + (i + 1) * KK) % KK = u := by rw [Nat.add_mul_mod_self_right, Nat.mod_eq_of_lt hu]
  have e2 : (v + (j + 1) * KK) % KK = v := by rw [Nat.add_mul_mod_self_right, Nat.mod_eq_of_lt hv]
  rw [e, e2] at e1
  exact h e1.symm
theorem rid_big (u i : Nat) : KK ≤ rid u i := by
  unfold rid
  have : 1 * KK ≤ (i + 1) * KK := Nat.mul_le_mul_right _ (by omega)
  omega
theorem kk_big : 1000000 < KK := by decide
theorem mine_ne {u v y : Nat} (hu : u < 900000) (hv : v < 900000) (h : u + 1 < v ∨ v + 1 < u) (k : mine u y) : ¬ mine v y := by
  have hk := kk_big
  rcases k with rfl | rfl | ⟨i, rfl⟩ <;> rintro (e | e | ⟨j, e⟩)
  · omega
  · omega
  · have := rid_big (v + 1) j; omega
  · omega
  · omega
  · have := rid_big (v + 1) j; omega
  · have := rid_big (u + 1) i; omega
  · have := rid_big (u + 1) i; omega
  · exact rid_ne (by omega) (by omega) (by omega) e
structure DfaM (b : Nat → Option Ob) (u : Nat) (A : List Bool) (rows : List (List Int)) : Prop where
  acc : A ≠ [] → b u = some (.arr false 1 (A.map B))
  dir : rows ≠ [] → b (u + 1) = some (.dir 1 (refsR 0 (u + 1) (rows.map List.length)))
  row : ∀ j, (h : j < rows.length) → rows[j] ≠ [] → b (rid (u + 1) j) = some (.dir 1 (rows[j].map I))
theorem DfaM.congr {b b' : Nat → Option Ob} {u : Nat} {A : List Bool} {rows : List (List Int)} (h : DfaM b u A rows) (e : ∀ y, mine u y → b' y = b y) : DfaM b' u A rows :=
  ⟨fun z => (e _ (.inl rfl)).trans (h.acc z), fun z => (e _ (.inr (.inl rfl))).trans (h.dir z), fun j hj z => (e _ (.inr (.inr ⟨j, rfl⟩))).trans (h.row j hj z)⟩
theorem made (b : Nat → Option Ob) (u : Nat) (A : List Bool) (rows : List (List Int)) (h : ∀ y, mine u y → b y = none) :
    ∃ b', (∀ t r f n, uMakes ⟨t, b, [], r, f, n⟩ u [.uq 1 (A.map B), .uq 1 (rows.map UR)] = some ([rowT 0 u A.length, rowT 0 (u + 1) rows.length], ⟨t, b', [], r, f, n⟩)) ∧ DfaM b' u A rows ∧ ∀ y, ¬ mine u y → b' y = b y := by
  have hne : ∀ j, rid (u + 1) j ≠ u + 1 ∧ rid (u + 1) j ≠ u := fun j => by have := rid_gt (u + 1) j; omega
  refine ⟨accO u A (nextO 0 (u + 1) rows b), fun t r f n => ?_, ⟨fun z => ?_, fun z => ?_, fun j hj z => ?_⟩, fun y hy => ?_⟩
  · exact uMakes_dfa ⟨t, b, [], r, f, n⟩ u A rows (h _ (.inl rfl)) (h _ (.inr (.inl rfl))) fun j => h _ (.inr (.inr ⟨j, rfl⟩))
  · unfold accO
    rw [if_neg z]
    show (if u = u then _ else _) = _
    rw [if_pos rfl]
  · have e1 : accO u A (nextO 0 (u + 1) rows b) (u + 1) = nextO 0 (u + 1) rows b (u + 1) := by
      unfold accO
      split
      · rfl
      · show (if u + 1 = u then _ else _) = _
        rw [if_neg (by omega)]
    rw [e1]
    unfold nextO
    rw [if_neg z]
    show (if u + 1 = u + 1 then _ else _) = _
    rw [if_pos rfl]
  · have e1 : accO u A (nextO 0 (u + 1) rows b) (rid (u + 1) j) = nextO 0 (u + 1) rows b (rid (u + 1) j) := by
      unfold accO
      split
      · rfl
      · show (if _ = u then _ else _) = _
        rw [if_neg (hne j).2]
    rw [e1]
    unfold nextO
    rw [if_neg (fun e => by subst e; exact absurd hj (Nat.not_lt_zero _))]
    show (if _ = u + 1 then _ else _) = _
    rw [if_neg (hne j).1]
    have := rowsB_get (u + 1) rows 0 b j hj z
    rw [Nat.zero_add] at this
    exact this
  · have e1 : accO u A (nextO 0 (u + 1) rows b) y = nextO 0 (u + 1) rows b y := by
      unfold accO
      split
      · rfl
      · show (if y = u then _ else _) = _
        rw [if_neg fun e => hy (.inl e)]
    rw [e1]
    unfold nextO
    split
    · rfl
    · show (if y = u + 1 then _ else _) = _
      rw [if_neg fun e => hy (.inr (.inl e))]
      exact rowsB_other _ _ _ _ fun j _ e => hy (.inr (.inr ⟨j, e⟩))
theorem peekL_rows {b : Nat → Option Ob} {u n : Nat} {s : St} (hb : s.b = b) (ho : s.o = []) : ∀ (rows : List (List Int)) (i : Nat), (∀ j, (h : j < rows.length) → rows[j] ≠ [] → b (rid u (i + j)) = some (.dir 1 (rows[j].map I))) → peekL (peekC s (n + 2)) (refsF 0 u (rows.map List.length) i) = some (rows.map IL) := by
  intro rows
  induction rows with
  | nil => intro i _; rfl
  | cons r rs ih =>
    intro i h
    have ih' := ih (i + 1) fun j hj z => by
      have := h (j + 1) (by simpa using hj) (by simpa using z)
      rw [show i + 1 + j = i + (j + 1) by omega]
      simpa using this
    have h0 := h 0 (by simp)
    rw [List.map_cons]
    unfold refsF peekL
    rw [ih']
    by_cases hz : r = []
    · subst hz
      rfl
    · have hl : ¬ r.length = 0 := fun e => hz (List.eq_nil_of_length_eq_zero e)
      have h0' := h0 hz
      have eI : peekL (peekC s (n + 1)) (r.map I) = some (r.map I) := by
        clear h0 h0' hl hz h
        induction r with
        | nil => rfl
        | cons a r ihr =>
          rw [List.map_cons]
          unfold peekL
          rw [ihr]
          rfl
      have e : peekC s (n + 2) (rowR 0 (rid u i) r.length) = some (IL r) := by
        unfold rowR
        rw [if_neg hl, peekC_aref]
        have : s.ob 0 (rid u i) = some (.dir 1 (r.map I)) := by
          unfold St.ob
          rw [ho, hb]
          exact h0'
        rw [this]
        dsimp only
        rw [if_pos (List.length_map _), eI]
        rfl
      have ef : (rowR 0 (rid u i) r.length).flat = [rowR 0 (rid u i) r.length] := by
        unfold rowR
        rw [if_neg hl]
        rfl
      rw [ef]
      unfold mapOpt
      rw [e]
      show (match some [IL r], some (rs.map IL) with | some cs, some l' => some ((rowR 0 (rid u i) r.length).refill cs :: l') | _, _ => none) = _
      unfold rowR
      rw [if_neg hl]
      rfl
theorem peeked {b : Nat → Option Ob} {u : Nat} {A : List Bool} {rows : List (List Int)} (h : DfaM b u A rows) (t r f n) :
    peekC ⟨t, b, [], r, f, n⟩ 9 (rowR 0 u A.length) = some (.slc false 1 (A.map B)) ∧ peekC ⟨t, b, [], r, f, n⟩ 9 (rowR 0 (u + 1) rows.length) = some (.slc false 1 (rows.map IL)) := by
  constructor
  · cases A with
    | nil => rfl
    | cons a A =>
      unfold rowR
      rw [if_neg (by simp), peekC_aref]
      have : St.ob ⟨t, b, [], r, f, n⟩ 0 u = some (.arr false 1 ((a :: A).map B)) := h.acc (by simp)
      rw [this]
      dsimp only
      rw [if_pos (List.length_map _)]
  · cases hr : rows with
    | nil => rfl
    | cons r0 rs =>
      rw [← hr]
      have hn : rows ≠ [] := by rw [hr]; simp
      have hl : ¬ rows.length = 0 := by rw [hr]; simp
      have e := peekL_rows (b := b) (u := u + 1) (n := 6) (s := ⟨t, b, [], r, f, n⟩) rfl rfl rows 0 (fun j hj z => by rw [Nat.zero_add]; exact h.row j hj z)
      rw [refsF_R] at e
      unfold rowR
      rw [if_neg hl, peekC_aref]
      have : St.ob ⟨t, b, [], r, f, n⟩ 0 (u + 1) = some (.dir 1 (refsR 0 (u + 1) (rows.map List.length))) := h.dir hn
      rw [this]
      dsimp only
      rw [if_pos (by simp [refsR]), e]
      rfl
theorem rowT_cell (lv id n : Nat) : cellOk (rowT lv id n) = true := by unfold rowT; split <;> rfl
theorem rowT_low (l id n : Nat) : lowV l (rowT 0 id n) = true := by
  unfold rowT
  split
  · rfl
  · exact decide_eq_true (Nat.zero_le l)
theorem rowR_cellD (lv id n : Nat) : cellD (rowR lv id n) = true := by unfold rowR; split <;> rfl
theorem rowR_view (lv id n : Nat) : (rowR lv id n).viewC = rowR lv id n := by unfold rowR; split <;> rfl
theorem T_cell (a b c d e f : Nat) : [rowT a b c, rowT d e f].all cellOk = true := by simp only [List.all_cons, List.all_nil, rowT_cell, Bool.and_true]
theorem T_low (l b c e f : Nat) : [rowT 0 b c, rowT 0 e f].all (lowV l) = true := by simp only [List.all_cons, List.all_nil, rowT_low, Bool.and_true]
theorem T_view (a b c d e f : Nat) : [rowT a b c, rowT d e f].map V.viewC = [rowR a b c, rowR d e f] := by simp only [List.map_cons, List.map_nil, rowT_view]
theorem R_view (a b c d e f : Nat) : [rowR a b c, rowR d e f].map V.viewC = [rowR a b c, rowR d e f] := by simp only [List.map_cons, List.map_nil, rowR_view]
theorem R_cellD (a b c d e f : Nat) : [rowR a b c, rowR d e f].all cellD = true := by simp only [List.all_cons, List.all_nil, rowR_cellD, Bool.and_true]
attribute [go_sem ↓ high] T_cell T_low T_view R_view R_cellD
theorem rowT_pos (lv id : Nat) {n : Nat} (h : n ≠ 0) : rowT lv id n = .aref lv id n := if_neg h
theorem rowR_pos (lv id : Nat) {n : Nat} (h : n ≠ 0) : rowR lv id n = .aref lv id n := if_neg h
theorem peekC_str (s : St) (n : Nat) (x : ByteArray) : peekC s n (.str x) = some (.str x) := by cases n <;> rfl
theorem peekC_bool (s : St) (n : Nat) (b : Bool) : peekC s n (.bool b) = some (.bool b) := by cases n <;> rfl
attribute [go_sem] peekC_str peekC_bool
/-! what later memory is, from earlier -/
def NoM (b : Nat → Option Ob) (u : Nat) : Prop := ∀ y, mine u y → b y = none
def Only (u : Nat) (b b' : Nat → Option Ob) : Prop := ∀ y, ¬ mine u y → b' y = b y
theorem NoM.st {b : Nat → Option Ob} {u k : Nat} (h : NoM b u) (hk : k < u) (o : Option Ob) : NoM (upd b k o) u := fun y hy => by
  show (if y = k then _ else _) = _
  rw [if_neg (fun e : y = k => mine_small hk (e ▸ hy))]
  exact h y hy
theorem NoM.only {b b' : Nat → Option Ob} {u v : Nat} (h : NoM b u) (o : Only v b b') (hu : u < 900000) (hv : v < 900000) (d : u + 1 < v ∨ v + 1 < u) : NoM b' u := fun y hy => (o y (mine_ne hu hv d hy)).trans (h y hy)
theorem NoM.n0 (u : Nat) : NoM n0 u := fun _ _ => rfl
theorem DfaM.st {b : Nat → Option Ob} {u k : Nat} {A : List Bool} {rows : List (List Int)} (h : DfaM b u A rows) (hk : k < u) (o : Option Ob) : DfaM (upd b k o) u A rows := h.congr fun y hy => if_neg (fun e : y = k => mine_small hk (e ▸ hy))
theorem DfaM.only {b b' : Nat → Option Ob} {u v : Nat} {A : List Bool} {rows : List (List Int)} (h : DfaM b u A rows) (o : Only v b b') (hu : u < 900000) (hv : v < 900000) (d : u + 1 < v ∨ v + 1 < u) : DfaM b' u A rows := h.congr fun y hy => o y (mine_ne hu hv d hy)
theorem Only.lo {b b' : Nat → Option Ob} {u k : Nat} (o : Only u b b') (hk : k < u) {x : Option Ob} (h : b k = x) : b' k = x := (o k (mine_small hk)).trans h
theorem upd_lo {b : Nat → Option Ob} {j k : Nat} (hk : k ≠ j) (o : Option Ob) {x : Option Ob} (h : b k = x) : upd b j o k = x := (if_neg hk).trans h
theorem upd_at (b : Nat → Option Ob) (j : Nat) (o : Option Ob) : upd b j o j = o := if_pos rfl
/-- cells that become an automaton in memory -/
def MakesTo (vs : List V) (A : List Bool) (rows : List (List Int)) : Prop :=
  ∀ (b : Nat → Option Ob) (u : Nat), NoM b u → ∃ b', (∀ t r f n, uMakes ⟨t, b, [], r, f, n⟩ u vs = some ([rowT 0 u A.length, rowT 0 (u + 1) rows.length], ⟨t, b', [], r, f, n⟩)) ∧ DfaM b' u A rows ∧ Only u b b'
theorem makes_uq (A : List Bool) (rows : List (List Int)) : MakesTo [.uq 1 (A.map B), .uq 1 (rows.map UR)] A rows := fun b u h => made b u A rows h
theorem makes_no (b : Nat → Option Ob) (u : Nat) (_ : NoM b u) : ∃ b', (∀ t r f n, uMakes ⟨t, b, [], r, f, n⟩ u [.slc false 1 [], .slc false 1 []] = some ([.slc false 1 [], .slc false 1 []], ⟨t, b', [], r, f, n⟩)) ∧ DfaM b' u [] [] ∧ Only u b b' := ⟨b, fun t r f n => rfl, ⟨fun z => absurd rfl z, fun z => absurd rfl z, fun j hj => absurd hj (Nat.not_lt_zero _)⟩, fun _ _ => rfl⟩
theorem emp {α : Type} (A : List α) : (A = [] ∧ ((([] : List α).length = 0) = True)) ∨ (A ≠ [] ∧ ((A.length = 0) = False)) := by
  cases A with
  | nil => exact .inl ⟨rfl, eq_true rfl⟩
  | cons a A => exact .inr ⟨by simp, eq_false (by simp)⟩
theorem szL_bools (l : List Bool) : szL (l.map B) = 0 := by
  induction l with
  | nil => rfl
  | cons a l ih => rw [List.map_cons, szL, ih]; rfl
theorem szL_rows3 (l : List (Nat × Nat × Nat)) : szL ((l.map fun t => [(t.1 : Int), t.2.1, t.2.2]).map IL) = 3 * l.length := by
  induction l with
  | nil => rfl
  | cons a l ih =>
    rw [List.map_cons, List.map_cons, szL, ih, List.length_cons]
    simp only [IL, szT, szL, List.map_cons, List.map_nil, List.length_cons, List.length_nil, I]
    omega
theorem dfa_sz {d : DN} (h : d.ok) : szT d.dfa.enc = 5 * d.accept.length := by
  simp only [DN.dfa, Dfa.enc, szT, szL, szL_bools, szL_rows3, List.length_map]
  have := h.1
  omega
theorem sum3 (l : List (Nat × Nat × Nat)) : ((l.map fun t => [(t.1 : Int), t.2.1, t.2.2]).map List.length).sum = 3 * l.length := by
  induction l with
  | nil => rfl
  | cons a l ih =>
    rw [List.map_cons, List.map_cons, List.sum_cons, ih, List.length_cons]
    simp only [List.length_cons, List.length_nil]
    omega
theorem szL_sum (l : List (List Int)) : szL (l.map IL) = (l.map List.length).sum := by
  induction l with
  | nil => rfl
  | cons a l ih =>
    rw [List.map_cons, szL, ih, List.map_cons, List.sum_cons]
    have : ∀ k : List Int, szL (k.map I) = 0 := by
      intro k
      induction k with
      | nil => rfl
      | cons b k ihk => rw [List.map_cons, szL, ihk]; rfl
    simp only [IL, szT, this, List.length_map]
    omega
theorem free_UR (l : List (List Int)) : (l.map UR).all V.free = true := by
  rw [List.all_eq_true]
  intro v hv
  obtain ⟨b, _, rfl⟩ := List.mem_map.1 hv
  unfold UR
  rw [free_uq, List.all_eq_true]
  intro w hw
  obtain ⟨c, _, rfl⟩ := List.mem_map.1 hw
  simp [I, V.free]
attribute [go_sem] free_UR
/-- the two ways in which an automaton is returned -/
def TwoWays (ya yn : V) (A : List Bool) (L : List (List Int)) : Prop :=
  (ya = .uq 1 (A.map B) ∧ yn = .uq 1 (L.map UR) ∧ A ≠ [] ∧ L ≠ []) ∨ (ya = .slc false 1 [] ∧ yn = .slc false 1 [] ∧ A = [] ∧ L = [])
theorem twoWays_dn (d : DN) (h : d.ok) (hp : 0 < d.accept.length) : ∃ ya yn, d.encD = .agg [ya, yn] ∧ TwoWays ya yn d.dfa.accept d.dfa.next := by
  refine ⟨.uq 1 (d.accept.map B), .uq 1 (d.dfa.next.map UR), ?_, .inl ⟨rfl, rfl, ?_, ?_⟩⟩
  · unfold DN.encD DN.dfa
    rw [List.map_map]
    rfl
  · intro e
    have : d.accept = [] := e
    rw [this] at hp
    exact absurd hp (Nat.lt_irrefl _)
  · intro e
    have h1 := h.1
    have : d.dfa.next.length = 0 := by rw [e]; rfl
    simp only [DN.dfa, List.length_map] at this
    omega
theorem flat_bool (b : Bool) : (V.bool b).flatOk = true := rfl
theorem flat_int (k : IntKind) (n : Int) : (V.int k n).flatOk = true := rfl
theorem flat_str (x : ByteArray) : (V.str x).flatOk = true := rfl
attribute [go_sem] flat_bool flat_int flat_str
end Go.Ev
namespace Go.Ev
open Go
set_option maxRecDepth 10000
set_option linter.unusedVariables false
set_option linter.unusedSimpArgs false

theorem kk_eq : KK = 26959946667150639794667015087019630673637144422540572481103610249216 * 4294967296 := by decide
theorem rid_mod (u j : Nat) (hu : u < 4294967296) : rid u j % 4294967296 = u := by
  unfold rid
  rw [kk_eq, ← Nat.mul_assoc, Nat.add_mul_mod_self_right, Nat.mod_eq_of_lt hu]
theorem rid_ge (u j : Nat) : 4294967296 ≤ rid u j := by
  have := rid_big u j
  have k : 4294967296 ≤ KK := by rw [kk_eq]; omega
  omega
theorem famD_rid (D : List Nat) (u j : Nat) (hu : u < 4294967296) : famD D (rid u j) = memN u D := by
  rw [Bool.eq_iff_iff, famD_iff, rid_mod u j hu]
  exact ⟨fun h => h.2, fun h => ⟨rid_ge u j, h⟩⟩
theorem famD_small (D : List Nat) (t : Nat) (h : t < 4294967296) : famD D t = false := by
  cases e : famD D t with
  | false => rfl
  | true => have := ((famD_iff _ _).1 e).1; omega
theorem famB_small (D : List Nat) (b g : Nat → Option Ob) (t : Nat) (h : t < 4294967296) : famB D b g t = g t := by
  unfold famB
  rw [famD_small D t h]
  rfl
theorem famB_rid (u j : Nat) (b g : Nat → Option Ob) (hu : u < 4294967296) : famB [u] b g (rid u j) = b (rid u j) := by
  unfold famB
  rw [famD_rid _ _ _ hu]
  simp [memN]
theorem small_ne (n u j : Nat) (h : n < 4294967296) : (n = rid u j) = False := eq_false fun e => by have := rid_ge u j; omega
theorem ne_small (n u j : Nat) (h : n < 4294967296) : (rid u j = n) = False := eq_false fun e => by have := rid_ge u j; omega
/-- rows of numbers lie there -/
def RowsAt (b : Nat → Option Ob) (u : Nat) (rows : List (List Int)) : Prop := ∀ t, famD [u] t = true → b t = rowsB u rows 0 n0 t
theorem rowsB_none (u : Nat) {t : Nat} (h : ∀ j, t ≠ rid u j) (rows : List (List Int)) (i : Nat) (b : Nat → Option Ob) : rowsB u rows i b t = b t := rowsB_other u rows i b fun j _ => h j
theorem rowsB_over (u : Nat) : ∀ (rows : List (List Int)) (i j : Nat) (b : Nat → Option Ob), j < i ∨ i + rows.length ≤ j → rowsB u rows i b (rid u j) = b (rid u j) := by
  intro rows
  induction rows with
  | nil => intro i j b _; rfl
  | cons r rs ih =>
    intro i j b h
    unfold rowsB
    rw [ih (i + 1) j _ (by simp only [List.length_cons] at h; omega)]
    split
    · rfl
    · show (if rid u j = rid u i then _ else _) = _
      rw [if_neg fun e => by have := rid_inj e; simp only [List.length_cons] at h; omega]
theorem rowsB_empty (u : Nat) : ∀ (rows : List (List Int)) (i j : Nat) (b : Nat → Option Ob) (h : j < rows.length), rows[j] = [] → rowsB u rows i b (rid u (i + j)) = b (rid u (i + j)) := by
  intro rows
  induction rows with
  | nil => intro i j b h; simp at h
  | cons r rs ih =>
    intro i j b h hz
    unfold rowsB
    cases j with
    | zero =>
      rw [rowsB_over _ _ _ _ _ (.inl (by omega)), if_pos (show r = [] from hz)]
    | succ j =>
      have := ih (i + 1) j (if r = [] then b else upd b (rid u i) (some (.dir 1 (r.map I)))) (by simpa using h) hz
      rw [show i + 1 + j = i + (j + 1) by omega] at this
      rw [this]
      split
      · rfl
      · show (if rid u _ = rid u i then _ else _) = _
        rw [if_neg fun e => by have := rid_inj e; omega]
/-- what lies at a row's place -/
theorem rowsB_at (u : Nat) (rows : List (List Int)) (b : Nat → Option Ob) (j : Nat) : rowsB u rows 0 b (rid u j) = if h : j < rows.length then (if rows[j] = [] then b (rid u j) else some (.dir 1 (rows[j].map I))) else b (rid u j) := by
  split
  · rename_i h
    split
    · rename_i hz
      have := rowsB_empty u rows 0 j b h hz
      rwa [Nat.zero_add] at this
    · rename_i hz
      have := rowsB_get u rows 0 b j h hz
      rwa [Nat.zero_add] at this
  · exact rowsB_over _ _ _ _ _ (.inr (by omega))
theorem RowsAt.famOk {b : Nat → Option Ob} {u : Nat} {rows : List (List Int)} (h : RowsAt b u rows) (t : Nat → V) (o r f n) (H : Nat → Bool) : FamOk ⟨t, b, o, r, f, n⟩ H [u] := by
  intro x hx ob hb
  have hb' : rowsB u rows 0 n0 x = some ob := (h x hx).symm.trans hb
  by_cases hr : ∃ j, x = rid u j
  · obtain ⟨j, rfl⟩ := hr
    rw [rowsB_at] at hb'
    split at hb'
    · split at hb'
      · cases hb'
      · obtain rfl := Option.some.inj hb'
        refine ⟨1, _, rfl, ?_⟩
        rw [List.all_eq_true]
        intro v hv
        obtain ⟨y, hy, hv⟩ := List.mem_flatten.1 hv
        obtain ⟨z, hz, rfl⟩ := List.mem_map.1 hy
        obtain ⟨c, _, rfl⟩ := List.mem_map.1 hz
        obtain rfl : v = I c := by simpa [I, V.flat] using hv
        rfl
    · cases hb'
  · rw [rowsB_none u (fun j e => hr ⟨j, e⟩)] at hb'
    cases hb'
theorem RowsAt.fam {b : Nat → Option Ob} {u : Nat} {rows : List (List Int)} (h : RowsAt b u rows) (g : Nat → Option Ob) : famB [u] b g = famB [u] (rowsB u rows 0 n0) g := by
  funext t
  unfold famB
  split
  · rename_i k; exact h t k
  · rfl
theorem RowsAt.of_fam (u : Nat) (rows : List (List Int)) (g : Nat → Option Ob) : RowsAt (famB [u] (rowsB u rows 0 n0) g) u rows := fun t ht => by
  unfold famB
  rw [if_pos ht]
theorem RowsAt.st {b : Nat → Option Ob} {u k : Nat} {rows : List (List Int)} (h : RowsAt b u rows) (hk : k < 4294967296) (o : Option Ob) : RowsAt (upd b k o) u rows := fun t ht => by
  show (if t = k then _ else _) = _
  rw [if_neg fun e => by subst e; rw [famD_small _ _ hk] at ht; cases ht]
  exact h t ht
theorem RowsAt.set {b : Nat → Option Ob} {u j : Nat} {rows : List (List Int)} (h : RowsAt b u rows) (hj : j < rows.length) {r : List Int} (hr : r ≠ []) : RowsAt (upd b (rid u j) (some (.dir 1 (r.map I)))) u (rows.set j r) := fun t ht => by
  show (if t = rid u j then _ else _) = _
  by_cases e : t = rid u j
  · rw [if_pos e, e, rowsB_at, dif_pos (by rw [List.length_set]; exact hj)]
    have : (rows.set j r)[j]'(by rw [List.length_set]; exact hj) = r := List.getElem_set_self _
    rw [this, if_neg hr]
  · rw [if_neg e, h t ht]
    by_cases hk : ∃ i, t = rid u i
    · obtain ⟨i, rfl⟩ := hk
      have hij : j ≠ i := fun k => e (by rw [k])
      rw [rowsB_at, rowsB_at]
      simp only [List.length_set, List.getElem_set_ne hij]
    · rw [rowsB_none u (fun i k => hk ⟨i, k⟩), rowsB_none u (fun i k => hk ⟨i, k⟩)]
theorem rowsB_base (u t : Nat) : ∀ (rows : List (List Int)) (i : Nat) (b b2 : Nat → Option Ob), b t = b2 t → rowsB u rows i b t = rowsB u rows i b2 t := by
  intro rows
  induction rows with
  | nil => intro i b b2 h; exact h
  | cons r rs ih =>
    intro i b b2 h
    unfold rowsB
    refine ih _ _ _ ?_
    split
    · exact h
    · show (if t = _ then _ else _) = (if t = _ then _ else _)
      rw [h]
/-- made of an automaton -/
theorem made2 (b : Nat → Option Ob) (u : Nat) (A : List Bool) (rows : List (List Int)) (h : NoM b u) (hb : ∀ t, famD [u + 1] t = true → b t = none) (hu : u + 1 < 4294967296) :
    ∃ b', (∀ t r f n, uMakes ⟨t, b, [], r, f, n⟩ u [.uq 1 (A.map B), .uq 1 (rows.map UR)] = some ([rowT 0 u A.length, rowT 0 (u + 1) rows.length], ⟨t, b', [], r, f, n⟩)) ∧ DfaM b' u A rows ∧ Only u b b' ∧ RowsAt b' (u + 1) rows := by
  obtain ⟨b1, e1, h1, h2⟩ := made b u A rows h
  refine ⟨b1, e1, h1, h2, ?_⟩
  have e2 := uMakes_dfa ⟨e0, b, [], #[], 0, 0⟩ u A rows (h _ (.inl rfl)) (h _ (.inr (.inl rfl))) fun j => h _ (.inr (.inr ⟨j, rfl⟩))
  rw [e1] at e2
  have e3 : b1 = accO u A (nextO 0 (u + 1) rows b) := by
    have := congrArg (fun x : Option (List V × St) => x.map fun y => y.2.b) e2
    exact Option.some.inj this
  intro t ht
  have k1 : t ≠ u := fun e => by rw [e, famD_small _ _ (by omega)] at ht; cases ht
  have k2 : t ≠ u + 1 := fun e => by rw [e, famD_small _ _ hu] at ht; cases ht
  rw [e3]
  have e4 : accO u A (nextO 0 (u + 1) rows b) t = nextO 0 (u + 1) rows b t := by
    unfold accO
    split
    · rfl
    · exact if_neg k1
  rw [e4]
  unfold nextO
  split
  · rename_i hz; subst hz; exact hb t ht
  · show (if t = u + 1 then _ else _) = _
    rw [if_neg k2]
    exact rowsB_base _ _ _ _ _ _ (hb t ht)
/-- read as they stand -/
theorem dfaM_fam {u : Nat} {A : List Bool} {rows : List (List Int)} {g : Nat → Option Ob} (hu : u + 1 < 4294967296) (ha : A ≠ [] → g u = some (.arr false 1 (A.map B))) (hd : rows ≠ [] → g (u + 1) = some (.dir 1 (refsR 0 (u + 1) (rows.map List.length)))) : DfaM (famB [u + 1] (rowsB (u + 1) rows 0 n0) g) u A rows :=
  ⟨fun z => (famB_small _ _ _ _ (by omega)).trans (ha z), fun z => (famB_small _ _ _ _ hu).trans (hd z), fun j hj z => (famB_rid _ _ _ _ hu).trans (by rw [rowsB_at, dif_pos hj, if_neg z])⟩
theorem upd_fam {b : Nat → Option Ob} {D : List Nat} {k t : Nat} (hk : k < 4294967296) (o : Option Ob) (ht : famD D t = true) : upd b k o t = b t := if_neg fun e => by rw [e, famD_small _ _ hk] at ht; cases ht
theorem rowR_held (s : St) (H : Nat → Bool) (lv id n : Nat) (h : H id = true) : (rowR lv id n).flat.all (heldC s H) = true := by
  unfold rowR
  split
  · rfl
  · show ([V.aref lv id n].all (heldC s H)) = true
    rw [List.all_cons, List.all_nil, Bool.and_true]
    show ((lv != s.lv) || H id) = true
    rw [h, Bool.or_true]
theorem held_refs (s : St) (objs : List Nat) (lv u : Nat) (ns : List Nat) (hu : u < 4294967296) : ((refsR lv u ns).map V.flat).flatten.all (heldC s (heldH objs [u])) = true := by
  rw [List.all_eq_true]
  intro v hv
  obtain ⟨y, hy, hv⟩ := List.mem_flatten.1 hv
  obtain ⟨z, hz, rfl⟩ := List.mem_map.1 hy
  unfold refsR at hz
  obtain ⟨i, _, rfl⟩ := List.mem_map.1 hz
  refine List.all_eq_true.1 (rowR_held s _ lv (rid u i) _ ?_) v hv
  rw [heldH_eq, famD_rid _ _ _ hu]
  simp [memN]
attribute [go_sem] famB_small famB_rid famD_rid famD_small small_ne ne_small held_refs
theorem famOk_self (u : Nat) (rows : List (List Int)) (g : Nat → Option Ob) (t o r f n H) : FamOk ⟨t, famB [u] (rowsB u rows 0 n0) g, o, r, f, n⟩ H [u] = True := eq_true ((RowsAt.of_fam u rows g).famOk t o r f n H)
theorem famB_self (u : Nat) (rows : List (List Int)) (g g' : Nat → Option Ob) : famB [u] (famB [u] (rowsB u rows 0 n0) g) g' = famB [u] (rowsB u rows 0 n0) g' := (RowsAt.of_fam u rows g).fam g'
theorem famOk_st (u : Nat) (rows : List (List Int)) (g : Nat → Option Ob) (k : Nat) (c t o r f n H) (hk : k < 4294967296) : FamOk ⟨t, upd (famB [u] (rowsB u rows 0 n0) g) k c, o, r, f, n⟩ H [u] = True := eq_true (((RowsAt.of_fam u rows g).st hk c).famOk t o r f n H)
theorem famB_st (u : Nat) (rows : List (List Int)) (g g' : Nat → Option Ob) (k : Nat) (c) (hk : k < 4294967296) : famB [u] (upd (famB [u] (rowsB u rows 0 n0) g) k c) g' = famB [u] (rowsB u rows 0 n0) g' := ((RowsAt.of_fam u rows g).st hk c).fam g'
attribute [go_sem] famOk_self famB_self famOk_st famB_st
theorem famB_set {u j : Nat} {rows : List (List Int)} (g : Nat → Option Ob) (hu : u < 4294967296) (hj : j < rows.length) {r : List Int} (hr : r ≠ []) : upd (famB [u] (rowsB u rows 0 n0) g) (rid u j) (some (.dir 1 (r.map I))) = famB [u] (rowsB u (rows.set j r) 0 n0) g := by
  have h1 := ((RowsAt.of_fam u rows g).set hj hr).fam g
  rw [← h1]
  funext t
  by_cases ht : famD [u] t = true
  · show _ = famB [u] _ g t
    unfold famB
    rw [if_pos ht]
  · have e : t ≠ rid u j := fun e => ht (by rw [e, famD_rid _ _ _ hu]; simp [memN])
    show (if t = rid u j then _ else _) = famB [u] _ g t
    rw [if_neg e]
    unfold famB
    rw [if_neg ht, if_neg ht]
end Go.Ev
namespace Go.Ev
open Go
set_option maxRecDepth 10000
set_option linter.unusedVariables false
set_option linter.unusedSimpArgs false

def abcS : ByteArray := ⟨#[97, 98, 99]⟩
def letS (k : Nat) : ByteArray := abcS.extract k (k + 1)
def mor3 (m : Mor) (k : Nat) : ByteArray := if k = 0 then m.a else if k = 1 then m.b else m.c
theorem app_empty (s : ByteArray) : (⟨#[]⟩ : ByteArray) ++ s = s := by
  apply ByteArray.ext
  simp
theorem appM_let {m : Mor} (hm : isMor m = true) {k : Nat} (hk : k < 3) : appM m (letS k) = mor3 m k := by
  obtain ⟨⟨_, ha⟩, ⟨_, hb⟩, ⟨_, hc⟩⟩ := isMor_ltrs hm
  unfold appM
  have hs : (letS k).size = 1 := by
    obtain rfl | rfl | rfl : k = 0 ∨ k = 1 ∨ k = 2 := by omega
    all_goals rfl
  have hb0 : bt (letS k) (0 : Nat) = 97 + k := by
    obtain rfl | rfl | rfl : k = 0 ∨ k = 1 ∨ k = 2 := by omega
    all_goals rfl
  have hi : imgM m (letS k) 0 = mor3 m k := by
    unfold imgM mor3
    rw [hb0]
    obtain rfl | rfl | rfl : k = 0 ∨ k = 1 ∨ k = 2 := by omega
    all_goals rfl
  have hz : (mor3 m k).size ≤ 3 := by unfold mor3; (repeat' split) <;> assumption
  rw [repl_next (by omega), hi, repl_end (by omega), app_empty]
  rw [if_neg]
  have : (⟨#[]⟩ : ByteArray).size = 0 := rfl
  omega
theorem mor3_word {m : Mor} (hm : isMor m = true) (k : Nat) : isWord (mor3 m k) = true := by
  unfold isMor small at hm
  simp only [Bool.and_eq_true] at hm
  unfold mor3
  repeat' split
  · exact hm.1.1
  · exact hm.2.1.1
  · exact hm.2.2.1
theorem mor3_size {m : Mor} (hm : isMor m = true) (k : Nat) : (mor3 m k).size ≤ 3 := by
  obtain ⟨⟨_, ha⟩, ⟨_, hb⟩, ⟨_, hc⟩⟩ := isMor_ltrs hm
  unfold mor3; (repeat' split) <;> assumption
def preT (d : DN) (m : Mor) (q : Nat) : Nat × Nat × Nat := (walk d m.a q 0, walk d m.b q 0, walk d m.c q 0)
def preD (d : DN) (m : Mor) : DN := ⟨d.accept, (List.range d.accept.length).map (preT d m)⟩
theorem preD_val {d : DN} (h : Val d) (m : Mor) : Val (preD d m) := by
  refine ⟨⟨?_, ?_⟩, h.pos, h.le⟩
  · unfold preD
    dsimp only
    rw [List.length_map, List.length_range]
  · unfold preD
    dsimp only
    intro t ht
    obtain ⟨q, hq, rfl⟩ := List.mem_map.1 ht
    have hq' := List.mem_range.1 hq
    exact ⟨walk_lt h.ok _ _ q 0 (Nat.le_refl _) hq', walk_lt h.ok _ _ q 0 (Nat.le_refl _) hq', walk_lt h.ok _ _ q 0 (Nat.le_refl _) hq'⟩
/-- of a row the first k new -/
def rowK (o n : Nat × Nat × Nat) (k : Nat) : List Int := [if 0 < k then n.1 else o.1, if 1 < k then n.2.1 else o.2.1, if 2 < k then n.2.2 else o.2.2]
def at3 (n : Nat × Nat × Nat) (k : Nat) : Nat := if k = 0 then n.1 else if k = 1 then n.2.1 else n.2.2
theorem rowK_set (o n : Nat × Nat × Nat) {k : Nat} (hk : k < 3) : ((rowK o n k).map I).set k (I (at3 n k)) = (rowK o n (k + 1)).map I := by
  obtain rfl | rfl | rfl : k = 0 ∨ k = 1 ∨ k = 2 := by omega
  all_goals rfl
theorem rowK_len (o n : Nat × Nat × Nat) (k : Nat) : (rowK o n k).length = 3 := rfl
theorem rowK_ne (o n : Nat × Nat × Nat) (k : Nat) : rowK o n k ≠ [] := fun e => by cases e
theorem preT_at (d : DN) (m : Mor) (q k : Nat) : at3 (preT d m q) k = walk d (mor3 m k) q 0 := by
  unfold at3 preT mor3
  by_cases h0 : k = 0
  · rw [if_pos h0, if_pos h0]
  · rw [if_neg h0, if_neg h0]
    by_cases h1 : k = 1
    · rw [if_pos h1, if_pos h1]
    · rw [if_neg h1, if_neg h1]
/-- of the rows the first q new, of the next one the first k cells -/
def mixN (d : DN) (m : Mor) (q k : Nat) : List (List Int) := (List.range d.accept.length).map fun i => if i < q then rowK (d.nx i) (preT d m i) 3 else if i = q then rowK (d.nx i) (preT d m i) k else rowK (d.nx i) (preT d m i) 0
theorem mixN_len (d : DN) (m : Mor) (q k : Nat) : (mixN d m q k).length = d.accept.length := by unfold mixN; rw [List.length_map, List.length_range]
theorem mixN_get (d : DN) (m : Mor) (q k i : Nat) (h : i < (mixN d m q k).length) : (mixN d m q k)[i] = if i < q then rowK (d.nx i) (preT d m i) 3 else if i = q then rowK (d.nx i) (preT d m i) k else rowK (d.nx i) (preT d m i) 0 := by
  simp only [mixN, List.getElem_map, List.getElem_range]
theorem mixN_lens (d : DN) (m : Mor) (q k : Nat) : (mixN d m q k).map List.length = (List.range d.accept.length).map fun _ => 3 := by
  unfold mixN
  rw [List.map_map]
  refine List.map_congr_left fun i _ => ?_
  show (if _ then _ else _ : List Int).length = 3
  split
  · rfl
  split
  · rfl
  · rfl
theorem mixN_next (d : DN) (m : Mor) (q : Nat) : mixN d m q 3 = mixN d m (q + 1) 0 := by
  refine List.ext_getElem (by rw [mixN_len, mixN_len]) fun i h1 h2 => ?_
  rw [mixN_get, mixN_get]
  by_cases e : i < q
  · rw [if_pos e, if_pos (by omega)]
  · rw [if_neg e]
    by_cases e2 : i = q
    · rw [if_pos e2, if_pos (by omega)]
    · rw [if_neg e2, if_neg (by omega)]
      split <;> rfl
theorem mixN_at (d : DN) (m : Mor) {q : Nat} (k : Nat) (hq : q < (mixN d m q k).length) : (mixN d m q k)[q] = rowK (d.nx q) (preT d m q) k := by
  rw [mixN_get, if_neg (Nat.lt_irrefl _), if_pos rfl]
theorem mixN_set (d : DN) (m : Mor) (q k j : Nat) : (mixN d m q k).set q (rowK (d.nx q) (preT d m q) j) = mixN d m q j := by
  refine List.ext_getElem (by rw [List.length_set, mixN_len, mixN_len]) fun i h1 h2 => ?_
  rw [List.getElem_set, mixN_get d m q j]
  by_cases e : q = i
  · subst e
    rw [if_pos rfl, if_neg (Nat.lt_irrefl _), if_pos rfl]
  · rw [if_neg e, mixN_get d m q k]
    by_cases h : i < q
    · rw [if_pos h, if_pos h]
    · rw [if_neg h, if_neg h, if_neg (fun h => e h.symm), if_neg (fun h => e h.symm)]
theorem nx_get {d : DN} (i : Nat) (h : i < d.next.length) : d.nx i = d.next[i] := by
  unfold DN.nx
  rw [List.getD_eq_getElem?_getD, List.getElem?_eq_getElem h]
  rfl
theorem mixN_0 {d : DN} (h : d.ok) (m : Mor) : mixN d m 0 0 = d.dfa.next := by
  have hl := h.1
  refine List.ext_getElem (by rw [mixN_len]; show _ = (d.next.map _).length; rw [List.length_map, hl]) fun i h1 h2 => ?_
  rw [mixN_get, if_neg (Nat.not_lt_zero _)]
  have hi : i < d.next.length := by rw [mixN_len] at h1; omega
  have : rowK (d.nx i) (preT d m i) 0 = [((d.nx i).1 : Int), (d.nx i).2.1, (d.nx i).2.2] := rfl
  rw [ite_self, this, nx_get i hi]
  simp only [DN.dfa, List.getElem_map]
theorem mixN_all (d : DN) (m : Mor) : mixN d m d.accept.length 0 = (preD d m).dfa.next := by
  show _ = (((List.range d.accept.length).map (preT d m)).map _)
  unfold mixN
  rw [List.map_map]
  refine List.map_congr_left fun i hi => ?_
  rw [if_pos (List.mem_range.1 hi)]
  rfl
/-- what a preimage returns -/
def preR (x : Dfa) (m : Mor) : V := if validD x = true ∧ isMor m = true then .tup [(quotS (preD x.dn m) 0).encD, .bool true] else .tup [.agg [.slc false 1 [], .slc false 1 []], .bool false]
end Go.Ev
namespace Go.Ev
open Go
set_option linter.unusedVariables false
def U8 (n : Int) : V := .int .u8 n
/-- bytes, where the next lies, a number that follows from them -/
def cur (l : List Int) (i : Nat) (h : Int) : Ob := .box [.slc false 1 (l.map U8), .int .i64 (i : Int), .int .i64 h]
/-- a frame's variable is a cursor -/
def Cur (l : List Int) (t lv : Nat) (o : List (Nat → Option Ob)) : Prop := ∃ i h, i ≤ l.length ∧ obIn t lv o = some (cur l i h)
def and64 (a b : Int) : Int := IntKind.i64.wrap ((BitVec.ofInt IntKind.i64.bits a &&& BitVec.ofInt IntKind.i64.bits b).toNat : Int)
def xor64 (a b : Int) : Int := IntKind.i64.wrap ((BitVec.ofInt IntKind.i64.bits a ^^^ BitVec.ofInt IntKind.i64.bits b).toNat : Int)
theorem arith_and64 (a b : Int) : arith .and .i64 a b = some (.int .i64 (and64 a b)) := rfl
theorem arith_xor64 (a b : Int) : arith .xor .i64 a b = some (.int .i64 (xor64 a b)) := rfl
attribute [go_sem high] arith_and64 arith_xor64
theorem and255 (a : Int) : 0 ≤ and64 a 255 ∧ and64 a 255 ≤ 255 := by
  have h : (BitVec.ofInt IntKind.i64.bits a &&& BitVec.ofInt IntKind.i64.bits 255).toNat ≤ 255 := by
    rw [BitVec.toNat_and]
    exact Nat.and_le_right
  unfold and64
  generalize (BitVec.ofInt IntKind.i64.bits a &&& BitVec.ofInt IntKind.i64.bits 255).toNat = n at h
  rw [wrap_in (by omega) (by omega)]
  omega
def nextH (h : Int) : Int := IntKind.i64.wrap (IntKind.i64.wrap (h * 6364136223846793005) + 1442695040888963407)
def rawX (h : Int) : Int := and64 (xor64 (h.fdiv (2 ^ min 33 64)) (h.fdiv (2 ^ min 45 64))) 255
theorem rem_below {x n : Int} (h : 0 ≤ x) (hn : 0 < n) : 0 ≤ x.tmod n ∧ x.tmod n < n := by
  rw [Int.tmod_eq_emod_of_nonneg h]
  exact ⟨Int.emod_nonneg _ (by omega), Int.emod_lt_of_pos _ hn⟩
theorem getD_U8 {l : List Int} {i : Nat} (d : V) (h : i < l.length) : (l.map U8).getD i d = .int .u8 (l.getD i 0) := by
  simp only [List.getD_eq_getElem?_getD, List.getElem?_map, List.getElem?_eq_getElem h]; rfl
abbrev Rs := Option (V × List (Nat → Option Ob))
/-- what a draw gives, and that it turns its cursor alone -/
def Draws (E : Env) (f : Nat) (args : List V) (l : List Int) (t lv : Nat) (P : V → Prop) : Prop := ∀ o, Cur l t lv o → ∃ v ob, P v ∧ Cur l t lv (setIn t ob lv o) ∧ run E f (.ptr lv t 0 :: args) o = some (v, setIn t ob lv o)
theorem Draws.mk {E : Env} {f : Nat} {args : List V} {l : List Int} {t lv : Nat} {P : V → Prop} (h : ∀ o, Cur l t lv o → lv < o.length → ∀ Q : Rs → Prop, (∀ v ob, P v → Cur l t lv (setIn t ob lv o) → Q (some (v, setIn t ob lv o))) → Q (run E f (.ptr lv t 0 :: args) o)) : Draws E f args l t lv P := by
  intro o ho
  have hlt : lv < o.length := by obtain ⟨_, _, _, h⟩ := ho; exact obIn_len h
  exact h o ho hlt (fun r => ∃ v ob, P v ∧ Cur l t lv (setIn t ob lv o) ∧ r = some (v, setIn t ob lv o)) fun v ob h1 h2 => ⟨v, ob, h1, h2, rfl⟩
theorem Cur.lt {l : List Int} {t lv : Nat} {o : List (Nat → Option Ob)} (h : Cur l t lv o) : lv < o.length := by obtain ⟨_, _, _, h⟩ := h; exact obIn_len h
theorem Cur.push {l : List Int} {t lv : Nat} {o : List (Nat → Option Ob)} (h : Cur l t lv o) (b : Nat → Option Ob) : Cur l t lv (b :: o) := by
  have hlt := h.lt
  obtain ⟨i, x, hi, ho⟩ := h
  exact ⟨i, x, hi, by show (if lv = o.length then _ else obIn t lv o) = _; rw [if_neg (by omega)]; exact ho⟩
theorem setIn_push (t lv : Nat) (ob : Ob) (b : Nat → Option Ob) {o : List (Nat → Option Ob)} (h : lv < o.length) : setIn t ob lv (b :: o) = b :: setIn t ob lv o := by rw [setIn_cons, if_neg (by omega)]
theorem Cur.pop {l : List Int} {t lv : Nat} {b : Nat → Option Ob} {o : List (Nat → Option Ob)} (h : Cur l t lv (b :: o)) (hlt : lv < o.length) : Cur l t lv o := by
  obtain ⟨i, x, hi, ho⟩ := h
  have : (if lv = o.length then b t else obIn t lv o) = _ := ho
  rw [if_neg (by omega)] at this
  exact ⟨i, x, hi, this⟩
theorem Cur.self {l : List Int} {t lv : Nat} {o : List (Nat → Option Ob)} (h : Cur l t lv o) : ∃ ob, setIn t ob lv o = o := by
  obtain ⟨i, x, hi, ho⟩ := h
  exact ⟨_, setIn_same t lv _ o ho⟩
theorem Draws.at0 {E : Env} {f : Nat} {args : List V} {l : List Int} {t lv : Nat} {P : V → Prop} (h : Draws E f args l t lv P) {o : List (Nat → Option Ob)} (hc : Cur l t lv o) (b : Nat → Option Ob) :
    ∃ v ob, P v ∧ Cur l t lv (setIn t ob lv o) ∧ run E f (.ptr lv t 0 :: args) (b :: o) = some (v, b :: setIn t ob lv o) := by
  obtain ⟨v, ob, h1, h2, h3⟩ := h _ (hc.push b)
  rw [setIn_push _ _ _ _ hc.lt] at h2 h3
  exact ⟨v, ob, h1, h2.pop (by rw [setIn_len]; exact hc.lt), h3⟩
/-- a call of a draw, the cursor turned already -/
theorem Draws.at {E : Env} {f : Nat} {args : List V} {l : List Int} {t lv : Nat} {P : V → Prop} (h : Draws E f args l t lv P) {o : List (Nat → Option Ob)} {ob : Ob} (hc : Cur l t lv (setIn t ob lv o)) (b : Nat → Option Ob) :
    ∃ v ob', P v ∧ Cur l t lv (setIn t ob' lv o) ∧ run E f (.ptr lv t 0 :: args) (b :: setIn t ob lv o) = some (v, b :: setIn t ob' lv o) := by
  obtain ⟨v, ob', h1, h2, h3⟩ := h.at0 hc b
  rw [setIn_setIn] at h2 h3
  exact ⟨v, ob', h1, h2, h3⟩
/-- what a draw gives, wherever its cursor lies -/
def DrawsU (E : Env) (f : Nat) (args : List V) (l : List Int) (P : V → Prop) : Prop := ∀ (i : Nat) (h : Int), i ≤ l.length → ∃ (v : V) (i' : Nat) (h' : Int), P v ∧ i' ≤ l.length ∧ ∀ (t lv : Nat) (o : List (Nat → Option Ob)), obIn t lv o = some (cur l i h) → run E f (.ptr lv t 0 :: args) o = some (v, setIn t (cur l i' h') lv o)
theorem cur_set {l : List Int} {t lv : Nat} {o : List (Nat → Option Ob)} (hlt : lv < o.length) {i : Nat} (hi : i ≤ l.length) (h : Int) : Cur l t lv (setIn t (cur l i h) lv o) := ⟨i, h, hi, by rw [obIn_set2 _ _ _ _ _ _ hlt, if_pos ⟨rfl, rfl⟩]⟩
theorem DrawsU.to {E : Env} {f : Nat} {args : List V} {l : List Int} {P : V → Prop} (h : DrawsU E f args l P) (t lv : Nat) : Draws E f args l t lv P := by
  intro o ho
  have hlt := ho.lt
  obtain ⟨i, x, hi, ho⟩ := ho
  obtain ⟨v, i', h', h1, h2, h3⟩ := h i x hi
  exact ⟨v, cur l i' h', h1, cur_set hlt h2 h', h3 t lv o ho⟩
/-- a call of a draw, whatever frames stand before -/
theorem DrawsU.at {E : Env} {f : Nat} {args : List V} {l : List Int} {P : V → Prop} (h : DrawsU E f args l P) {t lv : Nat} {o : List (Nat → Option Ob)} {ob : Ob} (hc : Cur l t lv (setIn t ob lv o)) :
    ∃ v ob', P v ∧ Cur l t lv (setIn t ob' lv o) ∧ ∀ b, run E f (.ptr lv t 0 :: args) (b :: setIn t ob lv o) = some (v, b :: setIn t ob' lv o) := by
  have hlt := hc.lt
  rw [setIn_len] at hlt
  obtain ⟨i, x, hi, ho⟩ := hc
  obtain ⟨v, i', h', h1, h2, h3⟩ := h i x hi
  refine ⟨v, cur l i' h', h1, cur_set hlt h2 h', fun b => ?_⟩
  have e : obIn t lv (b :: setIn t ob lv o) = some (cur l i x) := by
    show (if lv = (setIn t ob lv o).length then b t else obIn t lv (setIn t ob lv o)) = _
    rw [if_neg (by rw [setIn_len]; omega)]
    exact ho
  rw [h3 t lv _ e, setIn_push _ _ _ _ (by rw [setIn_len]; exact hlt), setIn_setIn]
theorem iter_ex {σ : Type} {E : Env} {c : Code} {k : List It} (I : σ → Prop) (S : σ → St) (Q : Rs → Prop) (μ : σ → Nat) (h : ∀ x, I x → (∀ y, I y → μ y < μ x → Q (iter E c k (S y))) → Q (lim E (.code c :: .lp c :: k) (S x))) (x : σ) (hx : I x) : Q (iter E c k (S x)) := by
  suffices ∀ n x, I x → μ x ≤ n → Q (iter E c k (S x)) from this _ x hx (Nat.le_refl _)
  intro n
  induction n with
  | zero => intro x hI hx; exact h x hI fun y hy hlt => absurd hlt (by omega)
  | succ n ih => intro x hI hx; exact h x hI fun y hy hlt => ih y hy (by omega)
theorem condQ_dec {E : Env} {a c : List It} {s : St} {Q : Rs → Prop} {p : Prop} [Decidable p] (h1 : p → Q (lim E a s)) (h2 : ¬ p → Q (lim E c s)) : Q (condL E a c s (.bool (decide p))) := by
  by_cases h : p
  · have := h1 h
    simpa [condL_b, h] using this
  · have := h2 h
    simpa [condL_b, h] using this
theorem condQ_bool {E : Env} {a c : List It} {s : St} {Q : Rs → Prop} {v : Bool} (h1 : v = true → Q (lim E a s)) (h2 : v = false → Q (lim E c s)) : Q (condL E a c s (.bool v)) := by
  cases v
  · exact h2 rfl
  · exact h1 rfl
theorem ifQ {α : Type} {Q : α → Prop} {c : Prop} [Decidable c] {a b : α} (h : c) (hq : Q a) : Q (if c then a else b) := by rw [if_pos h]; exact hq
theorem getD_str {ws : List ByteArray} {i : Nat} (h : i < ws.length) (d : V) : (ws.map V.str).getD i d = .str ws[i] := by
  simp [List.getD_eq_getElem?_getD, List.getElem?_eq_getElem h]
end Go.Ev
namespace Go.Ev
open Go
set_option linter.unusedVariables false
/-- the first state and another change their names -/
def sw (q i : Nat) : Nat := if i = 0 then q else if i = q then 0 else i
theorem sw_sw (q i : Nat) : sw q (sw q i) = i := by
  unfold sw
  by_cases h : i = 0
  · subst h
    rw [if_pos rfl]
    by_cases hq : q = 0
    · rw [if_pos hq, hq]
    · rw [if_neg hq, if_pos rfl]
  · rw [if_neg h]
    by_cases hi : i = q
    · rw [if_pos hi, if_pos rfl, hi]
    · rw [if_neg hi, if_neg h, if_neg hi]
theorem sw_lt {q i n : Nat} (hq : q < n) (hi : i < n) : sw q i < n := by
  unfold sw
  split
  · exact hq
  split
  · omega
  · exact hi
theorem sw_inj {q x y : Nat} (h : sw q x = sw q y) : x = y := by rw [← sw_sw q x, h, sw_sw]
def sw3 (q : Nat) (t : Nat × Nat × Nat) : Nat × Nat × Nat := (sw q t.1, sw q t.2.1, sw q t.2.2)
theorem sw3_sw3 (q : Nat) (t : Nat × Nat × Nat) : sw3 q (sw3 q t) = t := by
  unfold sw3
  simp only [sw_sw]
def fromD (d : DN) (q : Nat) : DN := ⟨(List.range d.accept.length).map fun i => accN d (sw q i), (List.range d.accept.length).map fun i => sw3 q (d.nx (sw q i))⟩
theorem fromD_len (d : DN) (q : Nat) : (fromD d q).accept.length = d.accept.length := by
  show ((List.range _).map _).length = _
  rw [List.length_map, List.length_range]
theorem fromD_nlen (d : DN) (q : Nat) : (fromD d q).next.length = d.accept.length := by
  show ((List.range _).map _).length = _
  rw [List.length_map, List.length_range]
theorem fromD_ok {d : DN} (ho : d.ok) {q : Nat} (hq : q < d.accept.length) : (fromD d q).ok := by
  refine ⟨by rw [fromD_len, fromD_nlen], fun t ht => ?_⟩
  rw [fromD_len]
  obtain ⟨i, hi, rfl⟩ := List.mem_map.1 ht
  have h := DN.nx_lt ho (sw_lt hq (List.mem_range.1 hi))
  exact ⟨sw_lt hq h.1, sw_lt hq h.2.1, sw_lt hq h.2.2⟩
theorem fromD_acc (d : DN) (q : Nat) {i : Nat} (h : i < d.accept.length) : accN (fromD d q) i = accN d (sw q i) := by
  unfold accN fromD
  dsimp only
  rw [List.getD_eq_getElem?_getD, List.getElem?_map, List.getElem?_range h]
  rfl
theorem fromD_nx (d : DN) (q : Nat) {i : Nat} (h : i < d.accept.length) : (fromD d q).nx i = sw3 q (d.nx (sw q i)) := by
  unfold DN.nx fromD
  dsimp only
  rw [List.getD_eq_getElem?_getD, List.getElem?_map, List.getElem?_range h]
  rfl
theorem Ek_from {d : DN} (ho : d.ok) {q : Nat} (hq : q < d.accept.length) : ∀ k x y, x < d.accept.length → y < d.accept.length → (Ek (fromD d q) k x y ↔ Ek d k (sw q x) (sw q y)) := by
  intro k
  induction k with
  | zero =>
    intro x y hx hy
    show accN (fromD d q) x = accN (fromD d q) y ↔ accN d (sw q x) = accN d (sw q y)
    rw [fromD_acc d q hx, fromD_acc d q hy]
  | succ k ih =>
    intro x y hx hy
    have nx := DN.nx_lt ho (sw_lt hq hx)
    have ny := DN.nx_lt ho (sw_lt hq hy)
    show (Ek (fromD d q) k x y ∧ Ek (fromD d q) k ((fromD d q).nx x).1 ((fromD d q).nx y).1 ∧ Ek (fromD d q) k ((fromD d q).nx x).2.1 ((fromD d q).nx y).2.1 ∧ Ek (fromD d q) k ((fromD d q).nx x).2.2 ((fromD d q).nx y).2.2) ↔ (Ek d k (sw q x) (sw q y) ∧ Ek d k (d.nx (sw q x)).1 (d.nx (sw q y)).1 ∧ Ek d k (d.nx (sw q x)).2.1 (d.nx (sw q y)).2.1 ∧ Ek d k (d.nx (sw q x)).2.2 (d.nx (sw q y)).2.2)
    rw [fromD_nx d q hx, fromD_nx d q hy]
    unfold sw3
    dsimp only
    rw [ih x y hx hy, ih _ _ (sw_lt hq nx.1) (sw_lt hq ny.1), ih _ _ (sw_lt hq nx.2.1) (sw_lt hq ny.2.1), ih _ _ (sw_lt hq nx.2.2) (sw_lt hq ny.2.2)]
    simp only [sw_sw]
theorem order_from {d : DN} (ho : d.ok) {q : Nat} (hq : q < d.accept.length) : order d q = (order (fromD d q) 0).map (sw q) := by
  unfold order
  rw [fromD_len]
  have hf := fromD_ok ho hq
  have := bfs_map (f := sw q) (Q := fun x => x < d.accept.length) (fun x y _ _ h => sw_inj h) (g := (fromD d q).nx) (g' := d.nx) (fun x hx => by
    have := DN.nx_lt hf (q := x) (by rw [fromD_len]; exact hx)
    rw [fromD_len] at this
    exact this) (fun x hx => by
    rw [fromD_nx d q hx]
    unfold sw3
    simp only [sw_sw]) d.accept.length [0] 0 (fun x hx => by rw [List.mem_singleton.1 hx]; omega)
  exact this
theorem quotS_from {d : DN} (ho : d.ok) {q : Nat} (hq : q < d.accept.length) : quotS (fromD d q) 0 = quotS d q := by
  have hf := fromD_ok ho hq
  have h0 : 0 < (fromD d q).accept.length := by rw [fromD_len]; omega
  have hlt := (order_lt hf h0).2
  rw [fromD_len] at hlt
  generalize hc : cl (rounds d (d.accept.length + 1) (class0 d)) = c
  have hk : Kern (fromD d q) 0 (fun x => c (sw q x)) := by
    refine ⟨fun x y hx hy => ?_⟩
    have hx' := hlt x hx
    have hy' := hlt y hy
    rw [← hc, cl_inf ho (by omega) (sw_lt hq hx') (sw_lt hq hy')]
    constructor
    · intro h k; exact (Ek_from ho hq k x y hx' hy').2 (h k)
    · intro h k; exact (Ek_from ho hq k x y hx' hy').1 (h k)
  rw [← quotS_kern hf h0 hk]
  unfold quotS
  rw [hc]
  unfold quot
  rw [order_from ho hq]
  have hl : leadsB c ((order (fromD d q) 0).map (sw q)) = (leadsB (fun x => c (sw q x)) (order (fromD d q) 0)).map (sw q) := leadsF_map c (sw q) _ []
  rw [hl]
  have hm : ∀ x ∈ leadsB (fun x => c (sw q x)) (order (fromD d q) 0), x < d.accept.length := fun x hx => hlt x (leadsB_mem hx)
  generalize leadsB (fun x => c (sw q x)) (order (fromD d q) 0) = L at hm
  unfold ofQuot
  rw [List.map_map, List.map_map, List.map_map]
  show (⟨_, _⟩ : DN) = ⟨_, _⟩
  congr 1
  · exact List.map_congr_left fun x hx => fromD_acc d q (hm x hx)
  · refine List.map_congr_left fun x hx => ?_
    rw [fromD_nx d q (hm x hx)]
    show rowOf _ _ = rowOf _ _
    congr 1
    unfold c3 sw3
    simp only [sw_sw]
theorem fromD_val {d : DN} (h : Val d) {q : Nat} (hq : q < d.accept.length) : Val (fromD d q) := ⟨fromD_ok h.ok hq, by rw [fromD_len]; exact h.pos, by rw [fromD_len]; exact h.le⟩
/-- what a left quotient returns -/
def lqR (x : Dfa) (s : ByteArray) : V := if validD x = true ∧ isWord s = true then .tup [(quotS x.dn (walk x.dn s 0 0)).encD, .bool true] else .tup [.agg [.slc false 1 [], .slc false 1 []], .bool false]
end Go.Ev
namespace Go.Ev
open Go
set_option linter.unusedVariables false
def nums (n : Int) (l : List Int) : Bool := l.all fun q => decide (0 ≤ q) && decide (q ≤ n - 1)
def rowN (n : Nat) (r : List Int) : Bool := ((r.length : Int) == n) && nums n r
def goodM (m : Mon) : Bool := !((m.maps.length : Int) == 0) && (((m.letters.length : Int) == 3) && (((m.product.length : Int) == m.maps.length) && (nums m.maps.length m.letters && m.product.all (rowN m.maps.length))))
def eqSta (a b : Sta) : Bool := (a.left.toList == b.left.toList) && ((a.right.toList == b.right.toList) && (a.maps == b.maps))
def solved (s : Sta) : Bool := decide (s.left.size = 0) && decide (s.right.size = 0)
def noM (l : List (List Int)) : Bool := l.any fun x => ((x.length : Int) == 0)
theorem getD_I {l : List Int} {i : Nat} (h : i < l.length) (v : V) : (l.map I).getD i v = I l[i] := by rw [getD_map h]
theorem drop_beq {l m : List Int} {i : Nat} (h1 : i < l.length) (h2 : i < m.length) : (l.drop i == m.drop i) = ((l[i] == m[i]) && (l.drop (i + 1) == m.drop (i + 1))) := by
  rw [List.drop_eq_getElem_cons h1, List.drop_eq_getElem_cons h2]
  rfl
end Go.Ev
namespace Go.Ev
theorem lcp_stop (l r : ByteArray) : ∀ (n k : Nat), l.size - k ≤ n → ¬ (lcp l r k < l.size ∧ lcp l r k < r.size ∧ bt l (lcp l r k) = bt r (lcp l r k)) := by
  intro n
  induction n with
  | zero => intro k h; rw [lcp_end (by omega)]; omega
  | succ n ih =>
    intro k h
    by_cases hc : k < l.size ∧ k < r.size ∧ bt l k = bt r k
    · rw [lcp_next hc.1 hc.2.1 hc.2.2]; exact ih _ (by omega)
    · rw [lcp_end hc]; exact hc
theorem strip_strip (e : Equ) : strip (strip e) = strip e := by
  unfold strip
  dsimp only
  have h := lcp_stop e.left e.right _ 0 (Nat.le_refl _)
  generalize lcp e.left e.right 0 = K at h ⊢
  have h0 : lcp (ext e.left K) (ext e.right K) 0 = 0 := by
    refine lcp_end ?_
    rintro ⟨h1, h2, h3⟩
    rw [ext_size] at h1 h2
    have e1 := ext_bt0 e.left K (by omega)
    have e2 := ext_bt0 e.right K (by omega)
    exact h ⟨by omega, by omega, by rw [← e1, ← e2]; exact h3⟩
  rw [h0, ext_zero, ext_zero]
theorem app_nil (a b : ByteArray) : decide ((a ++ b).size = 0) = (decide (a.size = 0) && decide (b.size = 0)) := by
  rw [ByteArray.size_append]
  by_cases h1 : a.size = 0 <;> by_cases h2 : b.size = 0 <;> simp [h1, h2]
theorem bt_app_left (a b : ByteArray) (h : 0 < a.size) : bt (a ++ b) 0 = bt a 0 := by
  unfold bt
  have h1 : (0 : Int).toNat < (a ++ b).size := by rw [ByteArray.size_append]; simp; omega
  have h2 : (0 : Int).toNat < a.size := by simpa using h
  rw [dif_pos h1, dif_pos h2]
  congr 2
  exact ByteArray.getElem_append_left h2
theorem bt_app_right (a b : ByteArray) (h : a.size = 0) : a ++ b = b := by
  have : a = ByteArray.empty := by
    apply ByteArray.ext
    exact Array.eq_empty_of_size_eq_zero h
  rw [this]
  simp
end Go.Ev
namespace Go.Ev
theorem idx_neg (c : UInt8) : ∀ l : List UInt8, Go.Lib.indexByte l c < 0 ↔ ∀ b ∈ l, b ≠ c := by
  intro l
  induction l with
  | nil => simp [Go.Lib.indexByte]
  | cons b l ih =>
    have hge := Go.Lib.indexByte_ge l c
    unfold Go.Lib.indexByte
    by_cases hb : b = c
    · subst hb; simp
    · have hb' : (b == c) = false := by simpa using hb
      rw [hb']
      simp only [Bool.false_eq_true, if_false, List.mem_cons, forall_eq_or_imp, ne_eq, hb, not_false_eq_true, true_and]
      by_cases hi : Go.Lib.indexByte l c = -1
      · rw [if_pos (by simp [hi])]
        constructor
        · intro _ x hx; exact ih.1 (by omega) x hx
        · intro _; decide
      · rw [if_neg (by simpa using hi)]
        constructor
        · intro h; omega
        · intro h; exact absurd (ih.2 h) (by omega)
theorem cnt_zero (c : Int) (s : ByteArray) : ∀ (n i : Nat), s.size - i ≤ n → (cntB c s i = 0 ↔ ∀ j : Nat, i ≤ j → j < s.size → bt s j ≠ c) := by
  intro n
  induction n with
  | zero => intro i h; rw [cntB_end c s (by omega)]; exact ⟨fun _ j h1 h2 => by omega, fun _ => rfl⟩
  | succ n ih =>
    intro i h
    by_cases hi : i < s.size
    · rw [cntB_next c s hi]
      have := ih (i + 1) (by omega)
      by_cases hb : bt s (i : Int) = c
      · rw [if_pos hb]
        exact ⟨fun h => by omega, fun h => absurd hb (h i (Nat.le_refl _) hi)⟩
      · rw [if_neg hb, Nat.zero_add, this]
        constructor
        · intro h j h1 h2
          by_cases hj : j = i
          · subst hj; exact hb
          · exact h j (by omega) h2
        · intro h j h1 h2; exact h j (by omega) h2
    · rw [cntB_end c s hi]; exact ⟨fun _ j h1 h2 => by omega, fun _ => rfl⟩
theorem idx_cnt (s : ByteArray) (c : Int) (h0 : 0 ≤ c) (h1 : c < 256) : (idxB s c < 0) = (cntB c s 0 = 0) := by
  apply propext
  rw [cnt_zero c s _ 0 (Nat.le_refl _)]
  unfold idxB
  rw [idx_neg]
  have key : ∀ b : UInt8, b = c.toNat.toUInt8 ↔ (b.toNat : Int) = c := by
    intro b
    have hb := b.toNat_lt
    constructor
    · rintro rfl
      have : (c.toNat.toUInt8).toNat = c.toNat := by
        show (UInt8.ofNat c.toNat).toNat = _
        simp only [UInt8.toNat_ofNat']
        omega
      omega
    · intro h
      apply UInt8.toNat_inj.1
      have : (c.toNat.toUInt8).toNat = c.toNat := by
        show (UInt8.ofNat c.toNat).toNat = _
        simp only [UInt8.toNat_ofNat']
        omega
      omega
  constructor
  · intro h j _ hj e
    have hm : s.data.toList[j]'(by simpa using hj) ∈ s.data.toList := List.getElem_mem _
    refine h _ hm ((key _).2 ?_)
    unfold bt at e
    rw [dif_pos (by simpa using hj)] at e
    have e2 : ((s.data[j]'(by simpa using hj)).toNat : Int) = c := e
    simpa using e2
  · intro h b hb e
    obtain ⟨j, hj, rfl⟩ := List.getElem_of_mem hb
    have hj' : j < s.size := by simpa using hj
    refine h j (Nat.zero_le _) hj' ?_
    unfold bt
    rw [dif_pos (by simpa using hj')]
    have e2 : ((s.data[j]'hj').toNat : Int) = c := by
      have := (key _).1 e
      simpa using this
    exact e2
/-! start states -/
def choice (e : Equ) (c : Int) (l : List Int) : List Int := if cntB c (e.left ++ e.right) 0 = 0 then l.take 1 else l
def xyz (k : Nat) : Int := bt ⟨#[88, 89, 90]⟩ k
def staR (e : Equ) (a b : Int) (z : List Int) : List Sta := z.map fun c => ⟨e.left, e.right, [a, b, c]⟩
def staY (e : Equ) (a : Int) (y z : List Int) : List Sta := y.flatMap fun b => staR e a b z
def staX (e : Equ) (x y z : List Int) : List Sta := x.flatMap fun a => staY e a y z
def startsOf (e : Equ) (x y z : List Int) : List Sta := if x.length * y.length * z.length > 400 then [] else staX e x y z
def chs (f : Frm) (k : Nat) : List Int := choice f.equ (xyz k) (f.allowed.getD k [])
def starts (f : Frm) : List Sta := if f.allowed.length = 3 then startsOf (strip f.equ) (chs f 0) (chs f 1) (chs f 2) else []
theorem staR_len (e : Equ) (a b : Int) (z : List Int) : (staR e a b z).length = z.length := by simp [staR]
theorem staY_len (e : Equ) (a : Int) (z : List Int) : ∀ y : List Int, (staY e a y z).length = y.length * z.length := by
  intro y
  induction y with
  | nil => simp [staY]
  | cons b y ih =>
    have : staY e a (b :: y) z = staR e a b z ++ staY e a y z := by simp [staY]
    rw [this, List.length_append, ih, staR_len, List.length_cons, Nat.succ_mul]; omega
theorem staX_len (e : Equ) (y z : List Int) : ∀ x : List Int, (staX e x y z).length = x.length * y.length * z.length := by
  intro x
  induction x with
  | nil => simp [staX]
  | cons b x ih =>
    have : staX e (b :: x) y z = staY e b y z ++ staX e x y z := by simp [staX]
    rw [this, List.length_append, ih, staY_len, List.length_cons, Nat.succ_mul, Nat.add_mul]; omega
theorem staX_cons (e : Equ) (a : Int) (x y z : List Int) : staX e (a :: x) y z = staY e a y z ++ staX e x y z := by simp [staX]
theorem staY_cons (e : Equ) (a b : Int) (y z : List Int) : staY e a (b :: y) z = staR e a b z ++ staY e a y z := by simp [staY]
theorem staR_cons (e : Equ) (a b c : Int) (z : List Int) : staR e a b (c :: z) = ⟨e.left, e.right, [a, b, c]⟩ :: staR e a b z := rfl
theorem choice_le (e : Equ) (c : Int) (l : List Int) : (choice e c l).length ≤ l.length := by
  unfold choice
  split
  · simp; omega
  · exact Nat.le_refl _
theorem chs_le (f : Frm) (k n : Nat) (h : ∀ l ∈ f.allowed, l.length ≤ n) : (chs f k).length ≤ n := by
  unfold chs
  refine Nat.le_trans (choice_le _ _ _) ?_
  rw [List.getD_eq_getElem?_getD]
  cases hh : f.allowed[k]? with
  | none => simp
  | some l => exact h _ (List.mem_of_getElem? hh)
theorem min_take (l : List Int) : ((l.map I).take (min 1 l.length)) = (l.take 1).map I := by
  rw [List.map_take]
  cases l with
  | nil => rfl
  | cons a l =>
    have : min 1 (a :: l).length = 1 := by simp
    rw [this]
theorem min_len (l : List Int) : (if (1 : Int) < (l.length : Int) then (1 : Int) else (l.length : Int)) = ((min 1 l.length : Nat) : Int) := by
  split <;> omega
theorem min_len2 (l : List Int) : (if (l.length : Int) < 1 then (l.length : Int) else 1) = ((min 1 l.length : Nat) : Int) := by
  split <;> omega
end Go.Ev
namespace Go.Ev
theorem prod_ge {a b c : Nat} (ha : 0 < a) (hb : 0 < b) (hc : 0 < c) : a ≤ a * b * c ∧ b ≤ a * b * c ∧ c ≤ a * b * c := by
  have h1 : a ≤ a * b := Nat.le_mul_of_pos_right a hb
  have h2 : b ≤ a * b := Nat.le_mul_of_pos_left b ha
  have h3 : a * b ≤ a * b * c := Nat.le_mul_of_pos_right _ hc
  have h4 : c ≤ a * b * c := Nat.le_mul_of_pos_left c (by omega)
  omega
theorem prod_big {a b c : Nat} (h : a > 1000 ∨ b > 1000 ∨ c > 1000) (hp : ¬ a * b * c > 400) : a * b * c = 0 := by
  rcases Nat.eq_zero_or_pos a with rfl | ha
  · simp
  rcases Nat.eq_zero_or_pos b with rfl | hb
  · simp
  rcases Nat.eq_zero_or_pos c with rfl | hc
  · simp
  have := prod_ge ha hb hc
  omega
theorem prod_min (a b c : Nat) : (min a 401 * min b 401 * min c 401 > 400) ↔ a * b * c > 400 := by
  constructor
  · intro h
    have : min a 401 * min b 401 * min c 401 ≤ a * b * c := Nat.mul_le_mul (Nat.mul_le_mul (Nat.min_le_left _ _) (Nat.min_le_left _ _)) (Nat.min_le_left _ _)
    omega
  · intro h
    rcases Nat.eq_zero_or_pos a with rfl | ha
    · simp at h
    rcases Nat.eq_zero_or_pos b with rfl | hb
    · simp at h
    rcases Nat.eq_zero_or_pos c with rfl | hc
    · simp at h
    have h1 := prod_ge (a := min a 401) (b := min b 401) (c := min c 401) (by omega) (by omega) (by omega)
    by_cases k1 : a > 400
    · omega
    by_cases k2 : b > 400
    · omega
    by_cases k3 : c > 400
    · omega
    rw [Nat.min_eq_left (by omega : a ≤ 401), Nat.min_eq_left (by omega : b ≤ 401), Nat.min_eq_left (by omega : c ≤ 401)]
    exact h
theorem starts_big {e : Equ} {x y z : List Int} (h : x.length > 1000 ∨ y.length > 1000 ∨ z.length > 1000) : startsOf e x y z = [] := by
  unfold startsOf
  split
  · rfl
  · rename_i hp
    refine List.eq_nil_of_length_eq_zero ?_
    rw [staX_len]
    exact prod_big h hp
end Go.Ev
namespace Go.Ev
def cntK (f : Frm) : Nat → Nat
  | 0 => 1
  | i + 1 => cntK f i * min (chs f i).length 401
theorem cntK_le (f : Frm) : ∀ i, cntK f i ≤ 401 ^ i := by
  intro i
  induction i with
  | zero => exact Nat.le_refl _
  | succ i ih => exact Nat.mul_le_mul ih (Nat.min_le_right _ _)
theorem cntK_3 (f : Frm) : cntK f 3 = min (chs f 0).length 401 * min (chs f 1).length 401 * min (chs f 2).length 401 := by
  show 1 * _ * _ * _ = _
  rw [Nat.one_mul]
theorem min_401 (n : Nat) : (if (401 : Int) < (n : Int) then (401 : Int) else (n : Int)) = ((min n 401 : Nat) : Int) := by
  split <;> omega
theorem snoc_range {α : Type} (f : Nat → α) (g : α → V) (i : Nat) : ((List.range i).map f).map g ++ [g (f i)] = ((List.range (i + 1)).map f).map g := by
  rw [List.range_succ, List.map_append, List.map_append]; rfl
end Go.Ev
namespace Go.Ev
open Go
set_option linter.unusedVariables false
def Vals.of (v : Vals) (c : Int) : ByteArray := if c = 88 then v.x else if c = 89 then v.y else if c = 90 then v.z else ⟨#[]⟩
def Vals.wit (v : Vals) (c : Int) (s : ByteArray) : Vals := if c = 88 then { v with x := s } else if c = 89 then { v with y := s } else if c = 90 then { v with z := s } else v
def Vals.le (v : Vals) (n : Nat) : Prop := v.x.size ≤ n ∧ v.y.size ≤ n ∧ v.z.size ≤ n
theorem Vals.of_le {v : Vals} {n : Nat} (h : v.le n) (c : Int) : (v.of c).size ≤ n := by
  unfold Vals.of
  obtain ⟨h1, h2, h3⟩ := h
  split
  · exact h1
  · split
    · exact h2
    · split
      · exact h3
      · exact Nat.zero_le _
theorem Vals.wit_le {v : Vals} {n : Nat} {s : ByteArray} (h : v.le n) (hs : s.size ≤ n) (c : Int) : (v.wit c s).le n := by
  unfold Vals.wit
  obtain ⟨h1, h2, h3⟩ := h
  split
  · exact ⟨hs, h2, h3⟩
  · split
    · exact ⟨h1, hs, h3⟩
    · split
      · exact ⟨h1, h2, hs⟩
      · exact ⟨h1, h2, h3⟩
def appF (s : ByteArray) (v : Vals) (i : Nat) : ByteArray := if isVar (bt s i) = true then v.of (bt s i) else one s i
def appB (s : ByteArray) (v : Vals) : ByteArray := repl (appF s v) s 0 ⟨#[]⟩
def termC (c : Int) : Bool := decide (0 ≤ ltr c) || isVar c
def isTerm (s : ByteArray) : Bool := allB termC s 0 && decide ((s.size : Int) ≤ 12)
end Go.Ev
namespace Go.Ev
def begB (s t : ByteArray) : Bool := decide (t.size ≤ s.size) && decide (s.extract 0 t.size = t)
def undo (v : Vals) (m : Mov) : Vals × Bool :=
  if m.by_.size = 0 then (v, decide ((v.of m.name).size = 0))
  else if begB (v.of m.name) (appB (m.by_.extract 0 1) v) = true then (v.wit m.name ((v.of m.name).extract (appB (m.by_.extract 0 1) v).size (v.of m.name).size), true) else (v, false)
def rev (v : Vals) (m : Mov) : Vals :=
  if m.by_.size = 0 then v.wit m.name ⟨#[]⟩
  else v.wit m.name ((if isVar (bt m.by_ 0) = true then v.of (bt m.by_ 0) else m.by_.extract 0 1) ++ v.of m.name)
end Go.Ev
namespace Go.Ev
/-- a constraint that says that two terms are equal, and the problem of it alone -/
def C1 (e : Equ) : List V := [.int .i64 1, .str e.left, .str e.right, .int .i64 0, .str ⟨#[]⟩, .slc false 3 [], .slc false 1 [], .int .i64 0]
def P1 (e : Equ) : V := .agg [.slc false 8 [.agg (C1 e)]]
def goodE (e : Equ) : Bool := isTerm e.left && isTerm e.right
end Go.Ev
namespace Go.Ev
/-- values that make the two sides equal -/
def Solves (e : Equ) (v : Vals) : Prop := v.le 5 ∧ appB e.left v = appB e.right v
end Go.Ev
namespace Go.Ev
theorem Vals.ice (v : Vals) : v.enc.ice = v.enc := by unfold Vals.enc; rw [ice_agg]; simp [V.ice]
theorem ice_vals (us : List Vals) : (us.map Vals.enc).map V.ice = us.map Vals.enc := by
  rw [List.map_map]
  exact List.map_congr_left fun u _ => Vals.ice u
end Go.Ev
