/- Automata that nobody else sees become objects; read as they stand. Two ways to a minimal automaton: states told apart by rounds, and the search that lists their classes. States that no word tells apart; classes by rounds; the minimal automaton. The program's way to the minimal automaton: numbers for what is met, by rounds, until their count stands. Tables that number what they meet. Searches that stop where too much is met. -/
import Derived.Test.YtcmnfoombinccaaEvP
set_option linter.unusedVariables false
set_option linter.unusedSimpArgs false
namespace Go.Ev
open Go
set_option linter.unusedVariables false
set_option linter.unusedSimpArgs false
def UR (l : List Int) : V := .uq 1 (l.map I)
def Dfa.encU (d : Dfa) : V := .agg [.uq 1 (d.accept.map B), .uq 1 (d.next.map UR)]
theorem mkC_I (n : Nat) (s : St) (id : Nat) (k : Int) : mkC (n + 1) s id (I k) = some (I k, s) := by
  unfold mkC I
  simp [pureC]
theorem mkEls_I (n M id : Nat) : ∀ (l : List Int) (s : St) (i : Nat), mkEls (mkC (n + 1)) M id 1 s i (l.map I) = some (l.map I, s) := by
  intro l
  induction l with
  | nil => intro s i; rfl
  | cons a l ih =>
    intro s i
    rw [List.map_cons]
    unfold mkEls
    have e : mkCells (mkC (n + 1)) M id s (i * 1) (I a).flat = some ([I a], s) := by
      show mkCells (mkC (n + 1)) M id s (i * 1) [I a] = _
      unfold mkCells
      rw [mkC_I]
      rfl
    rw [e]
    dsimp only
    rw [ih]
    rfl
theorem mkC_row (n : Nat) (s : St) (id : Nat) (l : List Int) (h : s.b id = none) : mkC (n + 2) s id (UR l) = some (rowR s.lv id l.length, if l = [] then s else { s with b := upd s.b id (some (.dir 1 (l.map I))) }) := by
  cases l with
  | nil =>
    show mkC (n + 2) s id (.uq 1 []) = _
    rfl
  | cons a l =>
    rw [if_neg (by simp)]
    show mkC (n + 2) s id (.uq 1 (I a :: l.map I)) = _
    unfold mkC
    have e := mkEls_I n (4294967296 ^ (n + 1 + 1)) id (a :: l) s 0
    rw [List.map_cons] at e
    rw [e]
    dsimp only
    rw [h]
    dsimp only
    unfold rowR
    rw [if_neg (by simp)]
    simp
/-- the rows' objects -/
def rowsB (u : Nat) : List (List Int) → Nat → (Nat → Option Ob) → (Nat → Option Ob)
  | [], _, b => b
  | r :: rs, i, b => rowsB u rs (i + 1) (if r = [] then b else upd b (rid u i) (some (.dir 1 (r.map I))))
def refsF (lv u : Nat) : List Nat → Nat → List V
  | [], _ => []
  | n :: ns, i => rowR lv (rid u i) n :: refsF lv u ns (i + 1)
theorem refsF_len (lv u : Nat) : ∀ (ns : List Nat) (i : Nat), (refsF lv u ns i).length = ns.length := by
  intro ns
  induction ns with
  | nil => intro i; rfl
  | cons n ns ih => intro i; simp [refsF, ih]
theorem refsF_get (lv u : Nat) : ∀ (ns : List Nat) (i j : Nat) (h : j < ns.length) (h' : j < (refsF lv u ns i).length), (refsF lv u ns i)[j] = rowR lv (rid u (i + j)) ns[j] := by
  intro ns
  induction ns with
  | nil => intro i j h; simp at h
  | cons n ns ih =>
    intro i j h h'
    cases j with
    | zero => rfl
    | succ j =>
      have := ih (i + 1) j (by simpa using h) (by simpa [refsF] using h')
      show (refsF lv u ns (i + 1))[j]'_ = _
      rw [this, show i + 1 + j = i + (j + 1) by omega]
      rfl
theorem refsF_R (lv u : Nat) (ns : List Nat) : refsF lv u ns 0 = refsR lv u ns := by
  refine List.ext_getElem (by rw [refsF_len]; simp [refsR]) fun j h h' => ?_
  have hj : j < ns.length := by rw [refsF_len] at h; exact h
  rw [refsF_get lv u ns 0 j hj h, Nat.zero_add]
  simp [refsR, List.getD_eq_getElem?_getD, hj]
theorem mkEls_rows (u : Nat) : ∀ (rows : List (List Int)) (s : St) (i : Nat), (∀ j, i ≤ j → s.b (rid u j) = none) →
    mkEls (mkC 7) KK u 1 s i (rows.map UR) = some (refsF s.lv u (rows.map List.length) i, { s with b := rowsB u rows i s.b }) := by
  intro rows
  induction rows with
  | nil => intro s i _; rfl
  | cons r rs ih =>
    intro s i h
    rw [List.map_cons]
    unfold mkEls
    have e : mkCells (mkC 7) KK u s (i * 1) (UR r).flat = some ([rowR s.lv (rid u i) r.length], if r = [] then s else { s with b := upd s.b (rid u i) (some (.dir 1 (r.map I))) }) := by
      show mkCells (mkC 7) KK u s (i * 1) [UR r] = _
      unfold mkCells
      rw [Nat.mul_one]
      have := mkC_row 5 s (rid u i) r (h i (Nat.le_refl _))
      unfold rid at this ⊢
      rw [this]
      rfl
    rw [e]
    dsimp only
    have hlv : (if r = [] then s else { s with b := upd s.b (rid u i) (some (.dir 1 (r.map I))) } : St).lv = s.lv := by split <;> rfl
    rw [ih _ (i + 1) (fun j hj => by
      split
      · exact h j (by omega)
      · show (if rid u j = rid u i then _ else _) = _
        rw [if_neg fun e => by have := rid_inj e; omega]
        exact h j (by omega)), hlv]
    dsimp only
    rw [List.map_cons]
    show some (rowR s.lv (rid u i) r.length :: refsF s.lv u (rs.map List.length) (i + 1), _) = some (rowR s.lv (rid u i) r.length :: refsF s.lv u (rs.map List.length) (i + 1), { s with b := rowsB u rs (i + 1) (if r = [] then s.b else upd s.b (rid u i) (some (.dir 1 (r.map I)))) })
    by_cases hz : r = []
    · rw [if_pos hz, if_pos hz]
    · rw [if_neg hz, if_neg hz]
def rowT (lv id n : Nat) : V := if n = 0 then .slc true 1 [] else .aref lv id n
theorem rowT_view (lv id n : Nat) : (rowT lv id n).viewC = rowR lv id n := by unfold rowT rowR; split <;> rfl
def accO (d : Nat) (A : List Bool) (b : Nat → Option Ob) : Nat → Option Ob := if A = [] then b else upd b d (some (.arr false 1 (A.map B)))
def nextO (lv d : Nat) (rows : List (List Int)) (b : Nat → Option Ob) : Nat → Option Ob := if rows = [] then b else upd (rowsB d rows 0 b) d (some (.dir 1 (refsR lv d (rows.map List.length))))
theorem rowsB_other (u : Nat) {x : Nat} : ∀ (rows : List (List Int)) (i : Nat) (b : Nat → Option Ob), (∀ j, i ≤ j → x ≠ rid u j) → rowsB u rows i b x = b x := by
  intro rows
  induction rows with
  | nil => intro i b _; rfl
  | cons r rs ih =>
    intro i b h
    unfold rowsB
    rw [ih (i + 1) _ fun j hj => h j (by omega)]
    split
    · rfl
    · show (if x = rid u i then _ else _) = _
      rw [if_neg (h i (Nat.le_refl _))]
theorem rowsB_get (u : Nat) : ∀ (rows : List (List Int)) (i : Nat) (b : Nat → Option Ob) (j : Nat) (h : j < rows.length), rows[j] ≠ [] → rowsB u rows i b (rid u (i + j)) = some (.dir 1 (rows[j].map I)) := by
  intro rows
  induction rows with
  | nil => intro i b j h; simp at h
  | cons r rs ih =>
    intro i b j h hz
    unfold rowsB
    cases j with
    | zero =>
      rw [rowsB_other _ _ _ _ fun j hj e => by have := rid_inj e; omega, if_neg (show ¬ r = [] from hz)]
      show (if _ = _ then _ else _) = _
      rw [if_pos (by simp)]
      rfl
    | succ j =>
      have := ih (i + 1) (if r = [] then b else upd b (rid u i) (some (.dir 1 (r.map I)))) j (by simpa using h) hz
      rw [show i + 1 + j = i + (j + 1) by omega] at this
      exact this
theorem uMake_next (s : St) (d : Nat) (rows : List (List Int)) (hd : s.b d = none) (h : ∀ j, s.b (rid d j) = none) : uMake s d (.uq 1 (rows.map UR)) = some (rowT s.lv d rows.length, { s with b := nextO s.lv d rows s.b }) := by
  cases rows with
  | nil => rfl
  | cons r rs =>
    unfold uMake
    rw [List.map_cons]
    dsimp only
    have hf : flatPure (UR r :: rs.map UR) = false := by simp [flatPure, UR, V.flat, pureC]
    rw [hf]
    simp only [Bool.false_eq_true, if_false]
    unfold mkC
    have e := mkEls_rows d (r :: rs) s 0 (fun j _ => h j)
    rw [List.map_cons] at e
    have e' : mkEls (mkC 7) (4294967296 ^ (7 + 1)) d 1 s 0 (UR r :: rs.map UR) = _ := e
    rw [e']
    dsimp only
    rw [rowsB_other _ _ _ _ fun j _ => Nat.ne_of_lt (rid_gt d j), hd]
    dsimp only
    unfold rowT nextO
    rw [if_neg (by simp), if_neg (by simp), refsF_R]
    show some (V.aref s.lv d (refsR s.lv d _).length, _) = _
    rw [show (refsR s.lv d ((r :: rs).map List.length)).length = (r :: rs).length by simp [refsR]]
theorem uMake_acc (s : St) (d : Nat) (A : List Bool) (h : s.b d = none) : uMake s d (.uq 1 (A.map B)) = some (rowT s.lv d A.length, { s with b := accO d A s.b }) := by
  cases A with
  | nil => rfl
  | cons a A =>
    unfold uMake
    rw [List.map_cons]
    dsimp only
    have hf : flatPure (B a :: A.map B) = true := by
      unfold flatPure
      rw [List.all_eq_true]
      intro v hv
      obtain ⟨y, hy, hv⟩ := List.mem_flatten.1 hv
      obtain ⟨z, hz, rfl⟩ := List.mem_map.1 hy
      rw [← List.map_cons] at hz
      obtain ⟨b, _, rfl⟩ := List.mem_map.1 hz
      obtain rfl : v = B b := by simpa [B, V.flat] using hv
      rfl
    rw [hf]
    simp only [if_true]
    rw [h]
    dsimp only
    unfold rowT accO
    rw [if_neg (by simp), if_neg (by simp)]
    simp
theorem nextO_other (lv d : Nat) (rows : List (List Int)) (b : Nat → Option Ob) {x : Nat} (h : x < d) : nextO lv d rows b x = b x := by
  unfold nextO
  split
  · rfl
  · show (if x = d then _ else _) = _
    rw [if_neg (by omega), rowsB_other _ _ _ _ fun j _ => by have := rid_gt d j; omega]
theorem uMakes_dfa (s : St) (d : Nat) (A : List Bool) (rows : List (List Int)) (h0 : s.b d = none) (h1 : s.b (d + 1) = none) (h : ∀ j, s.b (rid (d + 1) j) = none) : uMakes s d [.uq 1 (A.map B), .uq 1 (rows.map UR)] = some ([rowT s.lv d A.length, rowT s.lv (d + 1) rows.length], { s with b := accO d A (nextO s.lv (d + 1) rows s.b) }) := by
  unfold uMakes uMakes uMakes
  dsimp only
  rw [uMake_next s (d + 1) rows h1 h]
  dsimp only [Option.map]
  rw [uMake_acc _ d A (by
    show nextO s.lv (d + 1) rows s.b d = none
    rw [nextO_other _ _ _ _ (by omega)]; exact h0)]
  rfl
end Go.Ev
namespace Go.Ev
open Go
/-- a list that is being grown, seen by nobody else -/
def uqL : List V → V
  | [] => .slc true 1 []
  | x :: l => .uq 1 (x :: l)
theorem uqL_ne {l : List V} (h : l ≠ []) : uqL l = .uq 1 l := by cases l with | nil => exact absurd rfl h | cons x l => rfl
theorem uqL_map {α : Type} (f : α → V) {l : List α} (h : l ≠ []) : uqL (l.map f) = .uq 1 (l.map f) := uqL_ne (by simpa using h)
def NU (t : Nat × Nat × Nat) : V := .uq 1 [.int .i64 t.1, .int .i64 t.2.1, .int .i64 t.2.2]
def DN.encD (d : DN) : V := .agg [.uq 1 (d.accept.map B), .uq 1 (d.next.map NU)]
def DN.rows (d : DN) : List (List Int) := d.next.map fun t => [(t.1 : Int), t.2.1, t.2.2]
theorem DN.encD_U (d : DN) : d.encD = .agg [.uq 1 (d.accept.map B), .uq 1 (d.rows.map UR)] := by
  unfold DN.encD DN.rows
  rw [List.map_map]
  rfl
theorem DN.rows_IL (d : DN) : d.rows.map IL = d.next.map NT := by
  unfold DN.rows
  rw [List.map_map]
  rfl
end Go.Ev
namespace Go.Ev
open Go
set_option linter.unusedVariables false
section
variable {α : Type}
/-- a list of the first of each class -/
def insB (c : α → Nat) (l : List α) (x : α) : List α := if l.any (fun y => c y == c x) = true then l else l ++ [x]
def leadsF (c : α → Nat) (l X : List α) : List α := X.foldl (insB c) l
def leadsB (c : α → Nat) (X : List α) : List α := leadsF c [] X
theorem any_iff {c : α → Nat} {l : List α} {x : α} : l.any (fun y => c y == c x) = true ↔ ∃ y ∈ l, c y = c x := by
  simp [List.any_eq_true]
theorem insB_mem {c : α → Nat} {l : List α} {x y : α} (h : y ∈ insB c l x) : y ∈ l ∨ y = x := by
  unfold insB at h
  split at h
  · exact .inl h
  · simpa using h
theorem insB_pre (c : α → Nat) (l : List α) (x : α) : l <+: insB c l x := by
  unfold insB
  split
  · exact List.prefix_refl l
  · exact List.prefix_append l [x]
theorem leadsF_pre (c : α → Nat) : ∀ (X l : List α), l <+: leadsF c l X := by
  intro X
  induction X with
  | nil => intro l; exact List.prefix_refl l
  | cons x X ih => intro l; exact (insB_pre c l x).trans (ih _)
theorem leadsF_mem {c : α → Nat} : ∀ {X l : List α} {y : α}, y ∈ leadsF c l X → y ∈ l ∨ y ∈ X := by
  intro X
  induction X with
  | nil => intro l y h; exact .inl h
  | cons x X ih =>
    intro l y h
    rcases ih h with h | h
    · rcases insB_mem h with h | rfl
      · exact .inl h
      · exact .inr (List.mem_cons_self ..)
    · exact .inr (List.mem_cons_of_mem _ h)
theorem leadsB_mem {c : α → Nat} {X : List α} {y : α} (h : y ∈ leadsB c X) : y ∈ X := by
  rcases leadsF_mem (show y ∈ leadsF c [] X from h) with h | h
  · cases h
  · exact h
theorem leadsF_cov {c : α → Nat} : ∀ {X l : List α} {y : α}, y ∈ l ∨ y ∈ X → ∃ z ∈ leadsF c l X, c z = c y := by
  intro X
  induction X with
  | nil => intro l y h; exact ⟨y, h.resolve_right (by simp), rfl⟩
  | cons x X ih =>
    intro l y h
    have hx : ∃ z ∈ insB c l x, c z = c x := by
      unfold insB
      split
      · rename_i ha; exact any_iff.1 ha
      · exact ⟨x, by simp, rfl⟩
    rcases h with h | h
    · exact ih (.inl ((insB_pre c l x).subset h))
    · rcases List.mem_cons.1 h with rfl | h
      · obtain ⟨z, hz, e⟩ := hx
        obtain ⟨z', hz', e'⟩ := ih (l := insB c l y) (y := z) (.inl hz)
        exact ⟨z', hz', e'.trans e⟩
      · exact ih (.inr h)
theorem leadsB_cov {c : α → Nat} {X : List α} {y : α} (h : y ∈ X) : ∃ z ∈ leadsB c X, c z = c y := leadsF_cov (.inr h)
theorem leadsB_map {c : α → Nat} {X : List α} {y : α} : c y ∈ (leadsB c X).map c ↔ ∃ z ∈ X, c z = c y := by
  rw [List.mem_map]
  constructor
  · rintro ⟨z, h, e⟩; exact ⟨z, leadsB_mem h, e⟩
  · rintro ⟨z, h, e⟩
    obtain ⟨z', h', e'⟩ := leadsB_cov (c := c) h
    exact ⟨z', h', e'.trans e⟩
theorem leadsB_snoc (c : α → Nat) (X : List α) (x : α) : leadsB c (X ++ [x]) = insB c (leadsB c X) x := by
  unfold leadsB leadsF
  rw [List.foldl_append]
  rfl
theorem leadsB_app (c : α → Nat) (X Y : List α) : leadsB c (X ++ Y) = leadsF c (leadsB c X) Y := by
  unfold leadsB leadsF
  rw [List.foldl_append]
theorem leadsB_nil (c : α → Nat) : leadsB c [] = [] := rfl
theorem insB_old {c : α → Nat} {l : List α} {x : α} (h : ∃ y ∈ l, c y = c x) : insB c l x = l := by
  unfold insB; rw [if_pos (any_iff.2 h)]
theorem insB_new {c : α → Nat} {l : List α} {x : α} (h : ¬ ∃ y ∈ l, c y = c x) : insB c l x = l ++ [x] := by
  unfold insB; rw [if_neg (fun e => h (any_iff.1 e))]
theorem leadsF_len (c : α → Nat) : ∀ (X l : List α), (leadsF c l X).length ≤ l.length + X.length := by
  intro X
  induction X with
  | nil => intro l; exact Nat.le_refl _
  | cons x X ih =>
    intro l
    have h1 := ih (insB c l x)
    have h2 : (insB c l x).length ≤ l.length + 1 := by
      unfold insB; split <;> simp
    show (leadsF c (insB c l x) X).length ≤ l.length + (X.length + 1)
    omega
theorem leadsB_len (c : α → Nat) (X : List α) : (leadsB c X).length ≤ X.length := by
  have := leadsF_len c X []
  simpa [leadsB] using this
/-- told by what is told apart alone -/
theorem leadsF_congr {c c' : α → Nat} {P : α → Prop} (h : ∀ x y, P x → P y → (c x = c y ↔ c' x = c' y)) : ∀ (X l : List α), (∀ x ∈ l, P x) → (∀ x ∈ X, P x) → leadsF c l X = leadsF c' l X := by
  intro X
  induction X with
  | nil => intro l _ _; rfl
  | cons x X ih =>
    intro l hl hX
    have hx := hX x (List.mem_cons_self ..)
    have e : insB c l x = insB c' l x := by
      by_cases hh : ∃ y ∈ l, c y = c x
      · obtain ⟨y, hy, e⟩ := hh
        rw [insB_old ⟨y, hy, e⟩, insB_old ⟨y, hy, (h y x (hl y hy) hx).1 e⟩]
      · rw [insB_new hh, insB_new]
        rintro ⟨y, hy, e⟩
        exact hh ⟨y, hy, (h y x (hl y hy) hx).2 e⟩
    show leadsF c (insB c l x) X = leadsF c' (insB c' l x) X
    rw [e]
    exact ih _ (fun y hy => by
      rcases insB_mem hy with hy | rfl
      · exact hl y hy
      · exact hx) (fun y hy => hX y (List.mem_cons_of_mem _ hy))
theorem leadsB_congr {c c' : α → Nat} {X : List α} (h : ∀ x y, x ∈ X → y ∈ X → (c x = c y ↔ c' x = c' y)) : leadsB c X = leadsB c' X :=
  leadsF_congr (P := (· ∈ X)) h X [] (by simp) (fun _ h => h)
/-- one way of telling apart is finer than another -/
theorem leadsF_sub {c c' : α → Nat} {P : α → Prop} (h : ∀ x y, P x → P y → c' x = c' y → c x = c y) : ∀ (X l l' : List α), (∀ x ∈ l', P x) → (∀ x ∈ X, P x) → l.Sublist l' → (∀ y ∈ l', ∃ z ∈ l, c z = c y) → (leadsF c l X).Sublist (leadsF c' l' X) := by
  intro X
  induction X with
  | nil => intro l l' _ _ hs _; exact hs
  | cons x X ih =>
    intro l l' hl hX hs hc
    have hx := hX x (List.mem_cons_self ..)
    have hins : ∀ y ∈ insB c' l' x, P y := fun y hy => by
      rcases insB_mem hy with hy | rfl
      · exact hl y hy
      · exact hx
    have hXs : ∀ y ∈ X, P y := fun y hy => hX y (List.mem_cons_of_mem _ hy)
    show (leadsF c (insB c l x) X).Sublist (leadsF c' (insB c' l' x) X)
    by_cases h1 : ∃ y ∈ l, c y = c x
    · rw [insB_old h1]
      by_cases h2 : ∃ y ∈ l', c' y = c' x
      · rw [insB_old h2]; exact ih l l' hl hXs hs hc
      · rw [insB_new h2] at hins ⊢
        refine ih l (l' ++ [x]) hins hXs (hs.trans (List.sublist_append_left _ _)) fun y hy => ?_
        rcases List.mem_append.1 hy with hy | hy
        · exact hc y hy
        · have : y = x := by simpa using hy
          subst this; exact h1
    · have h2 : ¬ ∃ y ∈ l', c' y = c' x := by
        rintro ⟨y, hy, e⟩
        obtain ⟨z, hz, e'⟩ := hc y hy
        exact h1 ⟨z, hz, e'.trans (h y x (hl y hy) hx e)⟩
      rw [insB_new h1]
      rw [insB_new h2] at hins ⊢
      refine ih (l ++ [x]) (l' ++ [x]) hins hXs (hs.append (List.Sublist.refl _)) fun y hy => ?_
      rcases List.mem_append.1 hy with hy | hy
      · obtain ⟨z, hz, e⟩ := hc y hy
        exact ⟨z, List.mem_append_left _ hz, e⟩
      · have : y = x := by simpa using hy
        subst this; exact ⟨y, by simp, rfl⟩
theorem leadsF_apart {c : α → Nat} : ∀ (X l : List α), (∀ i j, (hi : i < l.length) → (hj : j < l.length) → c l[i] = c l[j] → i = j) → ∀ i j, (hi : i < (leadsF c l X).length) → (hj : j < (leadsF c l X).length) → c (leadsF c l X)[i] = c (leadsF c l X)[j] → i = j := by
  intro X
  induction X with
  | nil => intro l h i j hi hj e; exact h i j hi hj e
  | cons x X ih =>
    intro l h
    refine ih (insB c l x) ?_
    by_cases h1 : ∃ y ∈ l, c y = c x
    · rw [insB_old h1]; exact h
    · rw [insB_new h1]
      intro i j hi hj e
      have hi' : i < l.length + 1 := by simpa using hi
      have hj' : j < l.length + 1 := by simpa using hj
      rw [List.getElem_append, List.getElem_append] at e
      split at e <;> split at e
      · exact h _ _ _ _ e
      · rename_i a b
        exact absurd ⟨_, List.getElem_mem a, by simpa using e⟩ h1
      · rename_i a b
        exact absurd ⟨_, List.getElem_mem b, by simpa using e.symm⟩ h1
      · omega
theorem leadsB_apart {c : α → Nat} {X : List α} {x y : α} (hx : x ∈ leadsB c X) (hy : y ∈ leadsB c X) (h : c x = c y) : x = y := by
  obtain ⟨i, hi, rfl⟩ := List.getElem_of_mem hx
  obtain ⟨j, hj, rfl⟩ := List.getElem_of_mem hy
  have := leadsF_apart (c := c) X [] (fun i j hi => by simp at hi) i j hi hj h
  subst this; rfl
theorem finer_le {c c' : α → Nat} {X : List α} (h : ∀ x y, x ∈ X → y ∈ X → c' x = c' y → c x = c y) : (leadsB c X).length ≤ (leadsB c' X).length :=
  (leadsF_sub (P := (· ∈ X)) h X [] [] (by simp) (fun _ h => h) (List.Sublist.refl _) (by simp)).length_le
theorem finer_eq {c c' : α → Nat} {X : List α} (h : ∀ x y, x ∈ X → y ∈ X → c' x = c' y → c x = c y) (hl : (leadsB c' X).length ≤ (leadsB c X).length) : ∀ x y, x ∈ X → y ∈ X → c x = c y → c' x = c' y := by
  have hs := leadsF_sub (P := (· ∈ X)) h X [] [] (by simp) (fun _ h => h) (List.Sublist.refl _) (by simp)
  have he : leadsB c X = leadsB c' X := hs.eq_of_length_le hl
  have key : ∀ x ∈ X, ∀ z ∈ leadsB c X, c z = c x → c' z = c' x := by
    intro x hx z hz e
    obtain ⟨z', hz', e'⟩ := leadsB_cov (c := c') hx
    rw [← he] at hz'
    have := leadsB_apart hz' hz ((h _ _ (leadsB_mem hz') hx e').trans e.symm)
    subst this; exact e'
  intro x y hx hy e
  obtain ⟨z, hz, ez⟩ := leadsB_cov (c := c) hx
  rw [← key x hx z hz ez, key y hy z hz (ez.trans e)]
end
/-! the search over states, and over classes -/
theorem leads_ins (c : Nat → Nat) (l : List Nat) (x : Nat) : (leadsB c (ins l x)).map c = ins ((leadsB c l).map c) (c x) := by
  by_cases h : x ∈ l
  · have e : ins l x = l := if_pos h
    rw [e, ins, if_pos (leadsB_map.2 ⟨x, h, rfl⟩)]
  · have e : ins l x = l ++ [x] := if_neg h
    rw [e, leadsB_snoc]
    by_cases hh : ∃ y ∈ leadsB c l, c y = c x
    · obtain ⟨y, hy, e⟩ := hh
      rw [insB_old ⟨y, hy, e⟩, ins, if_pos (leadsB_map.2 ⟨y, leadsB_mem hy, e⟩)]
    · rw [insB_new hh, List.map_append, ins, if_neg]
      · rfl
      · intro hm
        obtain ⟨y, hy, e⟩ := List.mem_map.1 hm
        exact hh ⟨y, hy, e⟩
theorem leads_ins3 (c : Nat → Nat) (l : List Nat) (t : Nat × Nat × Nat) : (leadsB c (ins3 l t)).map c = ins3 ((leadsB c l).map c) (c t.1, c t.2.1, c t.2.2) := by
  unfold ins3
  rw [leads_ins, leads_ins, leads_ins]
theorem ins_old {l : List Nat} {x : Nat} (h : x ∈ l) : ins l x = l := if_pos h
theorem ins3_old {l : List Nat} {t : Nat × Nat × Nat} (h1 : t.1 ∈ l) (h2 : t.2.1 ∈ l) (h3 : t.2.2 ∈ l) : ins3 l t = l := by
  unfold ins3
  rw [ins_old h1, ins_old h2, ins_old h3]
def c3 (c : Nat → Nat) (t : Nat × Nat × Nat) : Nat × Nat × Nat := (c t.1, c t.2.1, c t.2.2)
def lt3 (t : Nat × Nat × Nat) (n : Nat) : Prop := t.1 < n ∧ t.2.1 < n ∧ t.2.2 < n
def in3 (t : Nat × Nat × Nat) (l : List Nat) : Prop := t.1 ∈ l ∧ t.2.1 ∈ l ∧ t.2.2 ∈ l
theorem in3_ins3 (l : List Nat) (t : Nat × Nat × Nat) : in3 t (ins3 l t) := ⟨mem_ins3.2 (.inr (.inl rfl)), mem_ins3.2 (.inr (.inr (.inl rfl))), mem_ins3.2 (.inr (.inr (.inr rfl)))⟩
theorem in3_mono {l m : List Nat} {t : Nat × Nat × Nat} (h : ∀ x ∈ l, x ∈ m) (k : in3 t l) : in3 t m := ⟨h _ k.1, h _ k.2.1, h _ k.2.2⟩
theorem ins3_lt {l : List Nat} {t : Nat × Nat × Nat} {n : Nat} (h : ∀ x ∈ l, x < n) (k : lt3 t n) : ∀ x ∈ ins3 l t, x < n := by
  intro x hx
  rcases mem_ins3.1 hx with hx | rfl | rfl | rfl
  · exact h x hx
  · exact k.1
  · exact k.2.1
  · exact k.2.2
theorem bfs_sim {c : Nat → Nat} {f g : Nat → Nat × Nat × Nat} {n : Nat} (hf : ∀ x, x < n → lt3 (f x) n) (hg : ∀ x, x < n → g (c x) = c3 c (f x)) :
    ∀ (fu : Nat) (l : List Nat) (i : Nat) (fu' : Nat), l.Nodup → (∀ x ∈ l, x < n) → n ≤ fu + i → i ≤ l.length → n ≤ fu' + (leadsB c (l.take i)).length → (∀ k, (hk : k < l.length) → k < i → in3 (f l[k]) l) →
      bfsL g fu' ((leadsB c l).map c) (leadsB c (l.take i)).length = (leadsB c (bfsL f fu l i)).map c := by
  intro fu
  induction fu with
  | zero =>
    intro l i fu' hn hb h1 h2 h3 h4
    have hl := nodup_le hn hb
    have e : l.take i = l := List.take_of_length_le (by omega)
    rw [e, bfs_done (by simp), bfs_done (by omega)]
  | succ fu ih =>
    intro l i fu' hn hb h1 h2 h3 h4
    by_cases hi : i < l.length
    rotate_left
    · have e : l.take i = l := List.take_of_length_le (by omega)
      rw [e, bfs_done (by simp), bfs_done (by omega)]
    have hx := hb _ (List.getElem_mem hi)
    have hnl := nodup_le hn hb
    have ht : l.take (i + 1) = l.take i ++ [l[i]] := by rw [List.take_append_getElem hi]
    rw [bfs_step hi]
    have hn' := ins3_nodup (t := f l[i]) hn
    have hb' := ins3_lt hb (hf _ hx)
    have hpre := ins3_pre l (f l[i])
    have htk : (ins3 l (f l[i])).take (i + 1) = l.take (i + 1) := by
      obtain ⟨m, hm⟩ := hpre
      rw [← hm, List.take_append_of_le_length (by omega)]
    have hlen : i + 1 ≤ (ins3 l (f l[i])).length := Nat.le_trans hi hpre.length_le
    have h4' : ∀ k, (hk : k < (ins3 l (f l[i])).length) → k < i + 1 → in3 (f (ins3 l (f l[i]))[k]) (ins3 l (f l[i])) := by
      intro k hk hki
      have hkl : k < l.length := by omega
      have e : (ins3 l (f l[i]))[k] = l[k] := by
        obtain ⟨m, hm⟩ := hpre
        simp only [← hm]
        exact List.getElem_append_left hkl
      rw [e]
      by_cases hk' : k < i
      · exact in3_mono (fun x hx => hpre.subset hx) (h4 k hkl hk')
      · obtain rfl : k = i := by omega
        exact in3_ins3 _ _
    have hsplit : leadsB c l = leadsF c (leadsB c (l.take (i + 1))) (l.drop (i + 1)) := by
      rw [← leadsB_app, List.take_append_drop]
    by_cases hnew : ∃ y ∈ leadsB c (l.take i), c y = c l[i]
    · have e : leadsB c (l.take (i + 1)) = leadsB c (l.take i) := by rw [ht, leadsB_snoc, insB_old hnew]
      have := ih (ins3 l (f l[i])) (i + 1) fu' hn' hb' (by omega) hlen (by rw [htk, e]; exact h3) h4'
      rw [htk, e, leads_ins3] at this
      obtain ⟨y, hy, ey⟩ := hnew
      have hyt := leadsB_mem hy
      obtain ⟨k, hk, rfl⟩ := List.getElem_of_mem hyt
      have hk' : k < i := by simp at hk; omega
      have hkl : k < l.length := by omega
      rw [List.getElem_take] at ey
      have e3 : c3 c (f l[k]) = c3 c (f l[i]) := by rw [← hg _ (hb _ (List.getElem_mem hkl)), ← hg _ hx, ey]
      have h5 := h4 k hkl hk'
      have e1 : c (f l[k]).1 = c (f l[i]).1 := congrArg Prod.fst e3
      have e2 : c (f l[k]).2.1 = c (f l[i]).2.1 := congrArg (·.2.1) e3
      have e3' : c (f l[k]).2.2 = c (f l[i]).2.2 := congrArg (·.2.2) e3
      have hold : ins3 ((leadsB c l).map c) (c3 c (f l[i])) = (leadsB c l).map c := ins3_old (leadsB_map.2 ⟨_, h5.1, e1⟩) (leadsB_map.2 ⟨_, h5.2.1, e2⟩) (leadsB_map.2 ⟨_, h5.2.2, e3'⟩)
      have h' : bfsL g fu' (ins3 ((leadsB c l).map c) (c3 c (f l[i]))) (leadsB c (l.take i)).length = (leadsB c (bfsL f fu (ins3 l (f l[i])) (i + 1))).map c := this
      rw [hold] at h'
      exact h'
    · have e : leadsB c (l.take (i + 1)) = leadsB c (l.take i) ++ [l[i]] := by rw [ht, leadsB_snoc, insB_new hnew]
      have hpl : leadsB c (l.take (i + 1)) <+: leadsB c l := by rw [hsplit]; exact leadsF_pre c _ _
      have hjl : (leadsB c (l.take i)).length < (leadsB c l).length := by
        have := hpl.length_le
        rw [e, List.length_append] at this
        simp only [List.length_cons, List.length_nil] at this
        omega
      have hll := leadsB_len c l
      have hj : (leadsB c (l.take i)).length < ((leadsB c l).map c).length := by simpa using hjl
      obtain ⟨fu2, rfl⟩ : ∃ k, fu' = k + 1 := ⟨fu' - 1, by omega⟩
      rw [bfs_step hj]
      have hat : ((leadsB c l).map c)[(leadsB c (l.take i)).length] = c l[i] := by
        rw [List.getElem_map]
        obtain ⟨m, hm⟩ := hpl
        rw [e] at hm
        simp only [← hm, List.append_assoc]
        rw [List.getElem_append_right (Nat.le_refl _)]
        simp
      rw [hat, hg _ hx]
      have := ih (ins3 l (f l[i])) (i + 1) fu2 hn' hb' (by omega) hlen (by rw [htk, e, List.length_append]; simp; omega) h4'
      rw [htk, e, leads_ins3, List.length_append] at this
      exact this
theorem bfs_lt {f : Nat → Nat × Nat × Nat} {n : Nat} (hf : ∀ x, x < n → lt3 (f x) n) : ∀ (fu : Nat) (l : List Nat) (i : Nat), l.Nodup → (∀ x ∈ l, x < n) → (bfsL f fu l i).Nodup ∧ ∀ x ∈ bfsL f fu l i, x < n := by
  intro fu
  induction fu with
  | zero => intro l i h1 h2; exact ⟨h1, h2⟩
  | succ fu ih =>
    intro l i h1 h2
    by_cases hi : i < l.length
    · rw [bfs_step hi]
      exact ih _ _ (ins3_nodup h1) (ins3_lt h2 (hf _ (h2 _ (List.getElem_mem hi))))
    · rw [bfs_done hi]; exact ⟨h1, h2⟩
theorem bfs_closed {f : Nat → Nat × Nat × Nat} {n : Nat} (hf : ∀ x, x < n → lt3 (f x) n) : ∀ (fu : Nat) (l : List Nat) (i : Nat), l.Nodup → (∀ x ∈ l, x < n) → n ≤ fu + i → (∀ k, (hk : k < l.length) → k < i → in3 (f l[k]) l) → ∀ x ∈ bfsL f fu l i, in3 (f x) (bfsL f fu l i) := by
  intro fu
  induction fu with
  | zero =>
    intro l i hn hb h1 h4 x hx
    have hl := nodup_le hn hb
    obtain ⟨k, hk, rfl⟩ := List.getElem_of_mem (show x ∈ l from hx)
    exact h4 k hk (by omega)
  | succ fu ih =>
    intro l i hn hb h1 h4
    by_cases hi : i < l.length
    rotate_left
    · rw [bfs_done hi]
      intro x hx
      obtain ⟨k, hk, rfl⟩ := List.getElem_of_mem hx
      exact h4 k hk (by omega)
    rw [bfs_step hi]
    have hpre := ins3_pre l (f l[i])
    refine ih _ _ (ins3_nodup hn) (ins3_lt hb (hf _ (hb _ (List.getElem_mem hi)))) (by omega) ?_
    intro k hk hki
    have hkl : k < l.length := by omega
    have e : (ins3 l (f l[i]))[k] = l[k] := by
      obtain ⟨m, hm⟩ := hpre
      simp only [← hm]
      exact List.getElem_append_left hkl
    rw [e]
    by_cases hk' : k < i
    · exact in3_mono (fun x hx => hpre.subset hx) (h4 k hkl hk')
    · obtain rfl : k = i := by omega
      exact in3_ins3 _ _
end Go.Ev
namespace Go.Ev
open Go
set_option linter.unusedVariables false
/-- not told apart by words of so many letters -/
def Ek (d : DN) : Nat → Nat → Nat → Prop
  | 0, p, q => accN d p = accN d q
  | k + 1, p, q => Ek d k p q ∧ Ek d k (d.nx p).1 (d.nx q).1 ∧ Ek d k (d.nx p).2.1 (d.nx q).2.1 ∧ Ek d k (d.nx p).2.2 (d.nx q).2.2
theorem Ek.refl (d : DN) : ∀ k p, Ek d k p p := by
  intro k
  induction k with
  | zero => intro p; rfl
  | succ k ih => intro p; exact ⟨ih p, ih _, ih _, ih _⟩
theorem Ek.mono {d : DN} : ∀ {j k : Nat}, j ≤ k → ∀ {p q}, Ek d k p q → Ek d j p q := by
  intro j k h
  induction h with
  | refl => intro p q h; exact h
  | step _ ih => intro p q h; exact ih h.1
def Einf (d : DN) (p q : Nat) : Prop := ∀ k, Ek d k p q
theorem Einf.acc {d : DN} {p q : Nat} (h : Einf d p q) : accN d p = accN d q := h 0
theorem Einf.nx {d : DN} {p q : Nat} (h : Einf d p q) : Einf d (d.nx p).1 (d.nx q).1 ∧ Einf d (d.nx p).2.1 (d.nx q).2.1 ∧ Einf d (d.nx p).2.2 (d.nx q).2.2 :=
  ⟨fun k => (h (k + 1)).2.1, fun k => (h (k + 1)).2.2.1, fun k => (h (k + 1)).2.2.2⟩
theorem Einf.of_nx {d : DN} {p q : Nat} (h0 : accN d p = accN d q) (h : Einf d (d.nx p).1 (d.nx q).1 ∧ Einf d (d.nx p).2.1 (d.nx q).2.1 ∧ Einf d (d.nx p).2.2 (d.nx q).2.2) : Einf d p q := by
  intro k
  induction k with
  | zero => exact h0
  | succ k ih => exact ⟨ih, h.1 k, h.2.1 k, h.2.2 k⟩
def clo (d : DN) (X : List Nat) : Prop := ∀ x ∈ X, in3 (d.nx x) X
theorem Ek_stable {d : DN} {X : List Nat} (hX : clo d X) {k : Nat} (h : ∀ p q, p ∈ X → q ∈ X → Ek d k p q → Ek d (k + 1) p q) : ∀ p q, p ∈ X → q ∈ X → Ek d k p q → Einf d p q := by
  have key : ∀ j p q, p ∈ X → q ∈ X → Ek d k p q → Ek d (k + j) p q := by
    intro j
    induction j with
    | zero => intro p q _ _ h; exact h
    | succ j ih =>
      intro p q hp hq he
      have h1 := h p q hp hq he
      have cp := hX p hp
      have cq := hX q hq
      exact ⟨ih p q hp hq he, ih _ _ cp.1 cq.1 h1.2.1, ih _ _ cp.2.1 cq.2.1 h1.2.2.1, ih _ _ cp.2.2 cq.2.2 h1.2.2.2⟩
  intro p q hp hq he j
  exact Ek.mono (Nat.le_add_left j k) (key j p q hp hq he)
/-! the reference's classes -/
theorem firstS_le' (p : Nat → Bool) (q : Nat) : ∀ k, k ≤ q → q - k ≤ firstS p q k := by
  intro k
  induction k with
  | zero => intro _; exact Nat.le_refl _
  | succ k ih =>
    intro h
    rw [firstS_succ]
    split
    · exact Nat.le_refl _
    · have := ih (by omega); omega
theorem firstS_sat {p : Nat → Bool} {q : Nat} (hq : p q = true) : ∀ k, p (firstS p q k) = true := by
  intro k
  induction k with
  | zero => exact hq
  | succ k ih => rw [firstS_succ]; split <;> assumption
theorem firstS_least {p : Nat → Bool} {q : Nat} : ∀ k, k ≤ q → ∀ x, q - k ≤ x → x < firstS p q k → p x = false := by
  intro k
  induction k with
  | zero => intro _ x h1 h2; rw [firstS_zero] at h2; omega
  | succ k ih =>
    intro hk x h1 h2
    rw [firstS_succ] at h2
    split at h2
    · omega
    · rename_i hc
      by_cases hx : x = q - (k + 1)
      · subst hx; simpa using hc
      · exact ih (by omega) x (by omega) h2
theorem sameC_refl (d : DN) (c : List Nat) (p : Nat) : sameC d c p p = true := by simp [sameC]
theorem sameC_symm {d : DN} {c : List Nat} {p q : Nat} (h : sameC d c p q = true) : sameC d c q p = true := by
  unfold sameC at h ⊢
  simp only [Bool.and_eq_true, beq_iff_eq] at h ⊢
  exact ⟨h.1.symm, h.2.1.symm, h.2.2.1.symm, h.2.2.2.symm⟩
theorem sameC_trans {d : DN} {c : List Nat} {p q r : Nat} (h : sameC d c p q = true) (k : sameC d c q r = true) : sameC d c p r = true := by
  unfold sameC at h k ⊢
  simp only [Bool.and_eq_true, beq_iff_eq] at h k ⊢
  exact ⟨h.1.trans k.1, h.2.1.trans k.2.1, h.2.2.1.trans k.2.2.1, h.2.2.2.trans k.2.2.2⟩
theorem lead_sat (d : DN) (c : List Nat) (q : Nat) : sameC d c (lead d c q) q = true := firstS_sat (p := fun x => sameC d c x q) (sameC_refl d c q) q
theorem lead_iff {d : DN} {c : List Nat} {p q : Nat} : lead d c p = lead d c q ↔ sameC d c p q = true := by
  constructor
  · intro h
    have h1 := lead_sat d c p
    rw [h] at h1
    exact sameC_trans (sameC_symm h1) (lead_sat d c q)
  · intro h
    have key : ∀ p q, sameC d c p q = true → lead d c q ≤ lead d c p := by
      intro p q h
      rcases Nat.lt_or_ge (lead d c p) (lead d c q) with hlt | hge
      · have := firstS_least (p := fun x => sameC d c x q) (q := q) q (Nat.le_refl _) (lead d c p) (by omega) hlt
        have h2 := sameC_trans (lead_sat d c p) h
        rw [show sameC d c (lead d c p) q = false from this] at h2
        cases h2
      · exact hge
    exact Nat.le_antisymm (key q p (sameC_symm h)) (key p q h)
theorem cl_class0 {d : DN} {p q : Nat} (hp : p < d.accept.length) (hq : q < d.accept.length) : cl (class0 d) p = cl (class0 d) q ↔ accN d p = accN d q := by
  have e : ∀ x, x < d.accept.length → cl (class0 d) x = if accN d x = true then 1 else 0 := by
    intro x hx
    unfold cl class0 accN
    rw [List.getD_eq_getElem?_getD, List.getD_eq_getElem?_getD, List.getElem?_map, List.getElem?_eq_getElem hx]
    rfl
  rw [e p hp, e q hq]
  cases accN d p <;> cases accN d q <;> simp
theorem cl_rounds {d : DN} (ho : d.ok) : ∀ k p q, p < d.accept.length → q < d.accept.length → (cl (rounds d k (class0 d)) p = cl (rounds d k (class0 d)) q ↔ Ek d k p q) := by
  intro k
  induction k with
  | zero => intro p q hp hq; exact cl_class0 hp hq
  | succ k ih =>
    intro p q hp hq
    rw [rounds_succ, cl_refine hp, cl_refine hq, lead_iff]
    unfold sameC
    have np := DN.nx_lt ho hp
    have nq := DN.nx_lt ho hq
    simp only [Bool.and_eq_true, beq_iff_eq]
    rw [ih p q hp hq, ih _ _ np.1 nq.1, ih _ _ np.2.1 nq.2.1, ih _ _ np.2.2 nq.2.2]
    rfl
/-- a number that does not grow so often stands still -/
theorem stands {a : Nat → Nat} {n : Nat} (h1 : 1 ≤ a 0) (hb : ∀ k, a k ≤ n) (hm : ∀ k, a k ≤ a (k + 1)) : ∃ k, k ≤ n ∧ a (k + 1) ≤ a k := by
  apply Classical.byContradiction
  intro hne
  have key : ∀ k, k ≤ n + 1 → k + 1 ≤ a k := by
    intro k
    induction k with
    | zero => intro _; exact h1
    | succ k ih =>
      intro hk
      have := ih (by omega)
      rcases Nat.lt_or_ge (a k) (a (k + 1)) with h | h
      · omega
      · exact absurd ⟨k, by omega, h⟩ hne
  have := key n (by omega)
  have := hb n
  omega
theorem range_clo {d : DN} (ho : d.ok) : clo d (List.range d.accept.length) := by
  intro x hx
  have := DN.nx_lt ho (List.mem_range.1 hx)
  exact ⟨List.mem_range.2 this.1, List.mem_range.2 this.2.1, List.mem_range.2 this.2.2⟩
theorem cl_inf {d : DN} (ho : d.ok) (h1 : 1 ≤ d.accept.length) {p q : Nat} (hp : p < d.accept.length) (hq : q < d.accept.length) : cl (rounds d (d.accept.length + 1) (class0 d)) p = cl (rounds d (d.accept.length + 1) (class0 d)) q ↔ Einf d p q := by
  rw [cl_rounds ho _ p q hp hq]
  constructor
  rotate_left
  · intro h; exact h _
  intro h
  let X := List.range d.accept.length
  have hf : ∀ k x y, x ∈ X → y ∈ X → cl (rounds d (k + 1) (class0 d)) x = cl (rounds d (k + 1) (class0 d)) y → cl (rounds d k (class0 d)) x = cl (rounds d k (class0 d)) y := by
    intro k x y hx hy e
    have hx := List.mem_range.1 hx
    have hy := List.mem_range.1 hy
    rw [cl_rounds ho _ _ _ hx hy] at e ⊢
    exact e.1
  obtain ⟨k, hk, hle⟩ := stands (a := fun k => (leadsB (cl (rounds d k (class0 d))) X).length) (n := d.accept.length)
    (by
      obtain ⟨z, hz, _⟩ := leadsB_cov (c := cl (rounds d 0 (class0 d))) (X := X) (y := 0) (List.mem_range.2 h1)
      exact List.length_pos_of_mem hz)
    (fun k => by have := leadsB_len (cl (rounds d k (class0 d))) X; simpa [X] using this)
    (fun k => finer_le (hf k))
  refine Ek_stable (range_clo ho) (k := k) ?_ p q (List.mem_range.2 hp) (List.mem_range.2 hq) (Ek.mono (by omega) h)
  intro x y hx hy e
  have hx' := List.mem_range.1 hx
  have hy' := List.mem_range.1 hy
  rw [← cl_rounds ho _ _ _ hx' hy'] at e ⊢
  exact finer_eq (hf k) hle x y hx hy e
/-! the quotient -/
def ofQuot (d : DN) (c : Nat → Nat) (L : List Nat) : DN := ⟨L.map (accN d), L.map fun q => rowOf (L.map c) (c3 c (d.nx q))⟩
def order (d : DN) (s : Nat) : List Nat := bfsL d.nx d.accept.length [s] 0
def quot (d : DN) (c : Nat → Nat) (s : Nat) : DN := ofQuot d c (leadsB c (order d s))
theorem nx_lt3 {d : DN} (ho : d.ok) : ∀ x, x < d.accept.length → lt3 (d.nx x) d.accept.length := fun x hx => DN.nx_lt ho hx
theorem order_clo {d : DN} (ho : d.ok) {s : Nat} (hs : s < d.accept.length) : clo d (order d s) :=
  bfs_closed (nx_lt3 ho) _ _ _ (by simp) (by simpa using hs) (by omega) (fun k hk h => by omega)
theorem order_lt {d : DN} (ho : d.ok) {s : Nat} (hs : s < d.accept.length) : (order d s).Nodup ∧ ∀ x ∈ order d s, x < d.accept.length :=
  bfs_lt (nx_lt3 ho) _ _ _ (by simp) (by simpa using hs)
theorem order_start (d : DN) (s : Nat) : s ∈ order d s := (bfs_pre d.nx d.accept.length [s] 0).subset (by simp)
theorem order_len {d : DN} (ho : d.ok) {s : Nat} (hs : s < d.accept.length) : (order d s).length ≤ d.accept.length := nodup_le (order_lt ho hs).1 (order_lt ho hs).2
/-- the place in a list of classes: told by what is told apart alone -/
theorem idx_congr {c c' : Nat → Nat} : ∀ {L : List Nat} {x : Nat}, (∀ y ∈ L, c y = c x ↔ c' y = c' x) → (L.map c).idxOf (c x) = (L.map c').idxOf (c' x) := by
  intro L
  induction L with
  | nil => intro x _; rfl
  | cons y L ih =>
    intro x h
    rw [List.map_cons, List.map_cons, List.idxOf_cons, List.idxOf_cons, ih fun z hz => h z (List.mem_cons_of_mem _ hz)]
    have := h y (List.mem_cons_self ..)
    by_cases e : c y = c x
    · rw [beq_iff_eq.2 e, beq_iff_eq.2 (this.1 e)]
    · rw [beq_eq_false_iff_ne.2 e, beq_eq_false_iff_ne.2 fun e' => e (this.2 e')]
theorem quot_congr {d : DN} {c c' : Nat → Nat} {s : Nat} (hX : clo d (order d s)) (h : ∀ x y, x ∈ order d s → y ∈ order d s → (c x = c y ↔ c' x = c' y)) : quot d c s = quot d c' s := by
  unfold quot
  rw [leadsB_congr h]
  unfold ofQuot
  congr 1
  refine List.map_congr_left fun q hq => ?_
  have hq' := leadsB_mem hq
  have hn := hX q hq'
  have hi : ∀ y, y ∈ order d s → ((leadsB c' (order d s)).map c).idxOf (c y) = ((leadsB c' (order d s)).map c').idxOf (c' y) := fun y hy => idx_congr fun z hz => h z y (leadsB_mem hz) hy
  unfold rowOf c3
  rw [hi _ hn.1, hi _ hn.2.1, hi _ hn.2.2]
/-- the reference's minimal automaton is the quotient -/
theorem minS_quot {d : DN} (ho : d.ok) (h1 : 1 ≤ d.accept.length) : minS d = quot d (cl (rounds d (d.accept.length + 1) (class0 d))) 0 := by
  unfold minS
  have hk := fun p q hp hq => cl_inf ho h1 (p := p) (q := q) hp hq
  have hlt : ∀ q, q < d.accept.length → cl (rounds d (d.accept.length + 1) (class0 d)) q < d.accept.length := fun q hq => cl_lt hq
  have hlead : ∀ q, q < d.accept.length → Einf d (cl (rounds d (d.accept.length + 1) (class0 d)) q) q := by
    intro q hq
    have hc := hlt q hq
    rw [← hk _ _ hc hq]
    rw [rounds_succ, cl_refine hq]
    have h2 : lead d (rounds d d.accept.length (class0 d)) q < d.accept.length := Nat.lt_of_le_of_lt (firstS_le _ _ _) hq
    rw [cl_refine h2, lead_iff]
    exact lead_sat _ _ _
  generalize rounds d (d.accept.length + 1) (class0 d) = C at hk hlt hlead
  have hg : ∀ x, x < d.accept.length → sucC d C (cl C x) = c3 (cl C) (d.nx x) := by
    intro x hx
    have hn := (hlead x hx).nx
    have n1 := DN.nx_lt ho (hlt x hx)
    have n2 := DN.nx_lt ho hx
    unfold sucC tri c3
    rw [(hk _ _ n1.1 n2.1).2 hn.1, (hk _ _ n1.2.1 n2.2.1).2 hn.2.1, (hk _ _ n1.2.2 n2.2.2).2 hn.2.2]
  have hs := bfs_sim (c := cl C) (nx_lt3 ho) hg d.accept.length [0] 0 d.accept.length (by simp) (by intro x hx; obtain rfl : x = 0 := List.mem_singleton.1 hx; exact h1) (by omega) (by simp) (by omega) (fun k hk h => by omega)
  have hl : listC d C (cl C 0) = (leadsB (cl C) (order d 0)).map (cl C) := hs
  have hLS : ∀ x ∈ leadsB (cl C) (order d 0), x < d.accept.length := fun x hx => (order_lt ho h1).2 x (leadsB_mem hx)
  rw [hl]
  unfold ofList quot ofQuot
  generalize leadsB (cl C) (order d 0) = LS at hLS
  congr 1
  · rw [List.map_map]
    exact List.map_congr_left fun x hx => (hlead x (hLS x hx)).acc
  · rw [List.map_map]
    refine List.map_congr_left fun x hx => ?_
    show rowOf _ (sucC d C (cl C x)) = _
    rw [hg x (hLS x hx)]
/-- a quotient by what no word tells apart -/
structure Kern (d : DN) (s : Nat) (c : Nat → Nat) : Prop where
  iff : ∀ x y, x ∈ order d s → y ∈ order d s → (c x = c y ↔ Einf d x y)
theorem minS_kern {d : DN} (ho : d.ok) (h1 : 1 ≤ d.accept.length) {c : Nat → Nat} (hc : Kern d 0 c) : minS d = quot d c 0 := by
  rw [minS_quot ho h1]
  have hlt := (order_lt ho h1).2
  exact quot_congr (order_clo ho h1) fun x y hx hy => (cl_inf ho h1 (hlt x hx) (hlt y hy)).trans (hc.iff x y hx hy).symm
end Go.Ev
namespace Go.Ev
open Go
set_option linter.unusedVariables false
def quotS (d : DN) (s : Nat) : DN := quot d (cl (rounds d (d.accept.length + 1) (class0 d))) s
theorem quotS_kern {d : DN} (ho : d.ok) {s : Nat} (hs : s < d.accept.length) {c : Nat → Nat} (hc : Kern d s c) : quot d c s = quotS d s := by
  have hlt := (order_lt ho hs).2
  exact quot_congr (order_clo ho hs) fun x y hx hy => (hc.iff x y hx hy).trans (cl_inf ho (by omega) (hlt x hx) (hlt y hy)).symm
theorem minS_S {d : DN} (ho : d.ok) (h1 : 1 ≤ d.accept.length) : minS d = quotS d 0 := minS_quot ho h1
def at0 (O : List Nat) (i : Nat) : Nat := O.getD i 0
theorem at0_mem {O : List Nat} {i : Nat} (h : i < O.length) : at0 O i ∈ O := by
  unfold at0
  rw [List.getD_eq_getElem?_getD, List.getElem?_eq_getElem h]
  exact List.getElem_mem h
theorem at0_idx {O : List Nat} {x : Nat} (h : x ∈ O) : at0 O (O.idxOf x) = x := by
  unfold at0
  have hl := List.idxOf_lt_length_of_mem h
  rw [List.getD_eq_getElem?_getD, List.getElem?_eq_getElem hl]
  exact List.getElem_idxOf hl
theorem idx_at0 {O : List Nat} (hn : O.Nodup) {i : Nat} (h : i < O.length) : O.idxOf (at0 O i) = i := by
  unfold at0
  rw [List.getD_eq_getElem?_getD, List.getElem?_eq_getElem h]
  exact hn.idxOf_getElem i h
/-- what a state is told by in a round: its number, those of the states behind it -/
abbrev K4 := Nat × Nat × Nat × Nat
def keyAt (d : DN) (O k : List Nat) (i : Nat) : K4 := (cl k i, cl k (O.idxOf (d.nx (at0 O i)).1), cl k (O.idxOf (d.nx (at0 O i)).2.1), cl k (O.idxOf (d.nx (at0 O i)).2.2))
def keysOf (d : DN) (O k : List Nat) : List K4 := (List.range O.length).map (keyAt d O k)
def namesOf (ks : List K4) : List K4 := ks.foldl ins []
def ixK (L : List K4) (x : K4) : Nat := @List.idxOf K4 instBEqOfDecidableEq x L
def stepN (d : DN) (O k : List Nat) : List Nat := (keysOf d O k).map (ixK (namesOf (keysOf d O k)))
theorem foldl_ins_pre {α : Type} [DecidableEq α] : ∀ (X l : List α), l <+: X.foldl ins l := by
  intro X
  induction X with
  | nil => intro l; exact List.prefix_refl l
  | cons x X ih => intro l; exact (ins_pre l x).trans (ih _)
theorem foldl_ins_mem {α : Type} [DecidableEq α] : ∀ {X l : List α} {y : α}, y ∈ l ∨ y ∈ X → y ∈ X.foldl ins l := by
  intro X
  induction X with
  | nil => intro l y h; exact h.resolve_right (by simp)
  | cons x X ih =>
    intro l y h
    refine ih (l := ins l x) ?_
    rcases h with h | h
    · exact .inl (mem_ins.2 (.inl h))
    · rcases List.mem_cons.1 h with rfl | h
      · exact .inl (ins_mem _ _)
      · exact .inr h
theorem leads_names {α β : Type} [DecidableEq β] {c : α → Nat} {f : α → β} {P : α → Prop} (h : ∀ x y, P x → P y → (c x = c y ↔ f x = f y)) : ∀ (X l : List α), (∀ x ∈ l, P x) → (∀ x ∈ X, P x) → (leadsF c l X).map f = (X.map f).foldl ins (l.map f) := by
  intro X
  induction X with
  | nil => intro l _ _; rfl
  | cons x X ih =>
    intro l hl hX
    have hx := hX x (List.mem_cons_self ..)
    have hins : ∀ y ∈ insB c l x, P y := fun y hy => by
      rcases insB_mem hy with hy | rfl
      · exact hl y hy
      · exact hx
    show (leadsF c (insB c l x) X).map f = (X.map f).foldl ins (ins (l.map f) (f x))
    rw [ih _ hins fun y hy => hX y (List.mem_cons_of_mem _ hy)]
    congr 1
    by_cases hh : ∃ y ∈ l, c y = c x
    · obtain ⟨y, hy, e⟩ := hh
      rw [insB_old ⟨y, hy, e⟩, ins_old' (List.mem_map.2 ⟨y, hy, (h y x (hl y hy) hx).1 e⟩)]
    · rw [insB_new hh, List.map_append]
      unfold ins
      rw [if_neg]
      · rfl
      · intro hm
        obtain ⟨y, hy, e⟩ := List.mem_map.1 hm
        exact hh ⟨y, hy, (h y x (hl y hy) hx).2 e⟩
where ins_old' {α : Type} [DecidableEq α] {l : List α} {x : α} (h : x ∈ l) : ins l x = l := if_pos h
theorem idx_inj {α : Type} [BEq α] [LawfulBEq α] {L : List α} {x y : α} (hx : x ∈ L) (hy : y ∈ L) (h : L.idxOf x = L.idxOf y) : x = y := by
  have h1 := List.getElem_idxOf (List.idxOf_lt_length_of_mem hx)
  have h2 := List.getElem_idxOf (List.idxOf_lt_length_of_mem hy)
  rw [← h1, ← h2]
  congr 1
theorem ixK_inj {L : List K4} {x y : K4} (hx : x ∈ L) (hy : y ∈ L) (h : ixK L x = ixK L y) : x = y := @idx_inj K4 instBEqOfDecidableEq inferInstance L x y hx hy h
theorem stepN_len (d : DN) (O k : List Nat) : (stepN d O k).length = O.length := by simp [stepN, keysOf]
theorem stepN_at (d : DN) (O k : List Nat) {i : Nat} (h : i < O.length) : cl (stepN d O k) i = ixK (namesOf (keysOf d O k)) (keyAt d O k i) := by
  unfold cl stepN keysOf
  rw [List.getD_eq_getElem?_getD, List.getElem?_map, List.getElem?_map, List.getElem?_range h]
  rfl
theorem key_mem (d : DN) (O k : List Nat) {i : Nat} (h : i < O.length) : keyAt d O k i ∈ namesOf (keysOf d O k) :=
  foldl_ins_mem (.inr (List.mem_map.2 ⟨i, List.mem_range.2 h, rfl⟩))
theorem stepN_iff (d : DN) (O k : List Nat) {i j : Nat} (hi : i < O.length) (hj : j < O.length) : cl (stepN d O k) i = cl (stepN d O k) j ↔ keyAt d O k i = keyAt d O k j := by
  rw [stepN_at d O k hi, stepN_at d O k hj]
  constructor
  · exact ixK_inj (key_mem d O k hi) (key_mem d O k hj)
  · intro h; rw [h]
theorem names_len (d : DN) (O k : List Nat) : (namesOf (keysOf d O k)).length = (leadsB (cl (stepN d O k)) (List.range O.length)).length := by
  have := leads_names (c := cl (stepN d O k)) (f := keyAt d O k) (P := (· < O.length)) (fun x y hx hy => stepN_iff d O k hx hy) (List.range O.length) [] (by simp) (fun x hx => List.mem_range.1 hx)
  have e : namesOf (keysOf d O k) = (leadsB (cl (stepN d O k)) (List.range O.length)).map (keyAt d O k) := this.symm
  rw [e, List.length_map]
/-- numbers that tell apart what words of so many letters tell apart -/
def NumK (d : DN) (O k : List Nat) (r : Nat) : Prop := k.length = O.length ∧ ∀ i j, i < O.length → j < O.length → (cl k i = cl k j ↔ Ek d r (at0 O i) (at0 O j))
theorem idx_lt {O : List Nat} {x : Nat} (h : x ∈ O) : O.idxOf x < O.length := List.idxOf_lt_length_of_mem h
theorem NumK.step {d : DN} {O k : List Nat} {r : Nat} (hO : clo d O) (h : NumK d O k r) : NumK d O (stepN d O k) (r + 1) := by
  refine ⟨stepN_len d O k, fun i j hi hj => ?_⟩
  rw [stepN_iff d O k hi hj]
  have ci := hO _ (at0_mem hi)
  have cj := hO _ (at0_mem hj)
  unfold keyAt
  simp only [Prod.mk.injEq]
  rw [h.2 i j hi hj, h.2 _ _ (idx_lt ci.1) (idx_lt cj.1), h.2 _ _ (idx_lt ci.2.1) (idx_lt cj.2.1), h.2 _ _ (idx_lt ci.2.2) (idx_lt cj.2.2), at0_idx ci.1, at0_idx cj.1, at0_idx ci.2.1, at0_idx cj.2.1, at0_idx ci.2.2, at0_idx cj.2.2]
  rfl
/-- the loop's state: numbers, and their count (0: not counted yet) -/
def InvI (d : DN) (O : List Nat) (k : List Nat) (cnt : Nat) : Prop := (∃ r, NumK d O k r) ∧ (cnt = 0 ∨ cnt = (leadsB (cl k) (List.range O.length)).length)
theorem InvI.len {d : DN} {O k : List Nat} {cnt : Nat} (h : InvI d O k cnt) : k.length = O.length := by
  obtain ⟨⟨r, h⟩, _⟩ := h; exact h.1
theorem InvI.next {d : DN} {O k : List Nat} {cnt : Nat} (hO : clo d O) (h : InvI d O k cnt) : InvI d O (stepN d O k) (namesOf (keysOf d O k)).length := by
  obtain ⟨⟨r, h⟩, _⟩ := h
  exact ⟨⟨r + 1, h.step hO⟩, .inr (names_len d O k)⟩
theorem NumK.finer {d : DN} {O k k' : List Nat} {r : Nat} (h : NumK d O k r) (h' : NumK d O k' (r + 1)) : ∀ x y, x ∈ List.range O.length → y ∈ List.range O.length → cl k' x = cl k' y → cl k x = cl k y := by
  intro x y hx hy e
  have hx := List.mem_range.1 hx
  have hy := List.mem_range.1 hy
  rw [h'.2 x y hx hy] at e
  rw [h.2 x y hx hy]
  exact e.1
theorem names_pos {d : DN} {O k : List Nat} (h1 : 0 < O.length) : 0 < (namesOf (keysOf d O k)).length := List.length_pos_of_mem (key_mem d O k h1)
theorem names_le (d : DN) (O k : List Nat) : (namesOf (keysOf d O k)).length ≤ O.length := by
  rw [names_len]
  have := leadsB_len (cl (stepN d O k)) (List.range O.length)
  simpa using this
/-- the count grows, or all is told apart -/
theorem InvI.grows {d : DN} {O k : List Nat} {cnt : Nat} (hO : clo d O) (h1 : 0 < O.length) (h : InvI d O k cnt) (hne : (namesOf (keysOf d O k)).length ≠ cnt) : cnt < (namesOf (keysOf d O k)).length := by
  obtain ⟨⟨r, h⟩, hc⟩ := h
  have hp := names_pos (d := d) (k := k) h1
  rcases hc with rfl | rfl
  · exact hp
  · have := finer_le (h.finer (h.step hO))
    rw [← names_len] at this
    omega
theorem InvI.ends {d : DN} {O k : List Nat} {cnt : Nat} (hO : clo d O) (h1 : 0 < O.length) (h : InvI d O k cnt) (he : (namesOf (keysOf d O k)).length = cnt) : ∀ i j, i < O.length → j < O.length → (cl (stepN d O k) i = cl (stepN d O k) j ↔ Einf d (at0 O i) (at0 O j)) := by
  obtain ⟨⟨r, h⟩, hc⟩ := h
  have hp := names_pos (d := d) (k := k) h1
  have hc := hc.resolve_left (by omega)
  have hs := h.step hO
  have hq := finer_eq (h.finer hs) (by rw [← names_len, he, hc]; exact Nat.le_refl _)
  intro i j hi hj
  rw [hs.2 i j hi hj]
  constructor
  rotate_left
  · intro h; exact h _
  intro he
  refine Ek_stable hO (k := r) ?_ _ _ (at0_mem hi) (at0_mem hj) he.1
  intro p q hp hq' e
  have e1 := at0_idx hp
  have e2 := at0_idx hq'
  rw [← e1, ← e2] at e ⊢
  rw [← h.2 _ _ (idx_lt hp) (idx_lt hq')] at e
  exact (hs.2 _ _ (idx_lt hp) (idx_lt hq')).1 (hq _ _ (List.mem_range.2 (idx_lt hp)) (List.mem_range.2 (idx_lt hq')) e)
/-- what is built of the numbers -/
def leadP (O k : List Nat) : List Nat := leadsB (cl k) (List.range O.length)
def rowI (d : DN) (O k : List Nat) (i : Nat) : Nat × Nat × Nat := rowOf ((leadP O k).map (cl k)) (cl k (O.idxOf (d.nx (at0 O i)).1), cl k (O.idxOf (d.nx (at0 O i)).2.1), cl k (O.idxOf (d.nx (at0 O i)).2.2))
def resI (d : DN) (O k : List Nat) : DN := ⟨(leadP O k).map fun i => accN d (at0 O i), (leadP O k).map (rowI d O k)⟩
theorem leadsF_map {α β : Type} (c : β → Nat) (f : α → β) : ∀ (X l : List α), leadsF c (l.map f) (X.map f) = (leadsF (fun x => c (f x)) l X).map f := by
  intro X
  induction X with
  | nil => intro l; rfl
  | cons x X ih =>
    intro l
    show leadsF c (insB c (l.map f) (f x)) (X.map f) = (leadsF _ (insB (fun x => c (f x)) l x) X).map f
    rw [← ih]
    congr 1
    unfold insB
    rw [List.any_map]
    have : (fun y => c y == c (f x)) ∘ f = fun y => c (f y) == c (f x) := rfl
    rw [this]
    split
    · rfl
    · rw [List.map_append]; rfl
theorem map_at0 (O : List Nat) : (List.range O.length).map (at0 O) = O := by
  apply List.ext_getElem
  · simp
  · intro i h1 h2
    rw [List.getElem_map, List.getElem_range]
    unfold at0
    rw [List.getD_eq_getElem?_getD, List.getElem?_eq_getElem h2]
    rfl
theorem resI_quot {d : DN} (ho : d.ok) {s : Nat} (hs : s < d.accept.length) {k : List Nat} (hk : ∀ i j, i < (order d s).length → j < (order d s).length → (cl k i = cl k j ↔ Einf d (at0 (order d s) i) (at0 (order d s) j))) : resI d (order d s) k = quotS d s := by
  have hn := (order_lt ho hs).1
  rw [← quotS_kern ho hs (c := fun x => cl k ((order d s).idxOf x))]
  · unfold quot resI
    generalize order d s = O at hk hn
    have e0 : leadsB (fun x => cl k (O.idxOf x)) O = (leadP O k).map (at0 O) := by
      have h1 := leadsF_map (fun x => cl k (O.idxOf x)) (at0 O) (List.range O.length) []
      rw [map_at0] at h1
      refine h1.trans ?_
      congr 1
      exact leadsB_congr fun x y hx hy => by rw [idx_at0 hn (List.mem_range.1 hx), idx_at0 hn (List.mem_range.1 hy)]
    rw [e0]
    unfold ofQuot
    have hl : ∀ i ∈ leadP O k, i < O.length := fun i hi => List.mem_range.1 (leadsB_mem hi)
    have e1 : ((leadP O k).map (at0 O)).map (fun x => cl k (O.idxOf x)) = (leadP O k).map (cl k) := by
      rw [List.map_map]
      exact List.map_congr_left fun i hi => by show cl k (O.idxOf (at0 O i)) = _; rw [idx_at0 hn (hl i hi)]
    rw [e1, List.map_map, List.map_map]
    rfl
  · refine ⟨fun x y hx hy => ?_⟩
    show cl k ((order d s).idxOf x) = cl k ((order d s).idxOf y) ↔ _
    rw [hk _ _ (idx_lt hx) (idx_lt hy), at0_idx hx, at0_idx hy]
end Go.Ev
namespace Go.Ev
open Go
set_option linter.unusedVariables false
attribute [go_sem] true_or or_true List.flatten_cons List.flatten_nil
def mapN {α : Type} (enc : α → V) : Nat → List α → List (V × V)
  | _, [] => []
  | i, x :: l => (enc x, IN i) :: mapN enc (i + 1) l
theorem mapN_len {α : Type} (enc : α → V) : ∀ (l : List α) (i : Nat), (mapN enc i l).length = l.length := by
  intro l
  induction l with
  | nil => intro i; rfl
  | cons x l ih => intro i; show (mapN enc (i + 1) l).length + 1 = _; rw [ih]; rfl
theorem findE_mapN {α : Type} [DecidableEq α] {P : Program} {kt : TypeId} {enc : α → V} (hE : ∀ a b, eqV P kt (enc a) (enc b) = some (decide (a = b))) (x : α) : ∀ (l : List α) (i : Nat), findE P kt (enc x) (mapN enc i l) = some (if x ∈ l then some (IN (i + l.idxOf x)) else none) := by
  intro l
  induction l with
  | nil => intro i; rfl
  | cons y l ih =>
    intro i
    show (match eqV P kt (enc x) (enc y) with
      | some true => some (some (IN i))
      | some false => findE P kt (enc x) (mapN enc (i + 1) l)
      | none => none) = _
    rw [hE]
    by_cases h : x = y
    · subst h
      rw [decide_eq_true rfl, if_pos (List.mem_cons_self ..), List.idxOf_cons_self]
      rfl
    · rw [decide_eq_false h]
      dsimp only
      rw [ih, List.idxOf_cons, beq_eq_false_iff_ne.2 fun e => h e.symm]
      by_cases hm : x ∈ l
      · rw [if_pos hm, if_pos (List.mem_cons_of_mem _ hm)]
        have : i + 1 + l.idxOf x = i + (l.idxOf x + 1) := by omega
        rw [this]
        rfl
      · rw [if_neg hm, if_neg]
        intro hc
        rcases List.mem_cons.1 hc with e | e
        · exact h e
        · exact hm e
theorem putE_mapN {α : Type} [DecidableEq α] {P : Program} {kt : TypeId} {enc : α → V} (hE : ∀ a b, eqV P kt (enc a) (enc b) = some (decide (a = b))) {x : α} : ∀ (l : List α) (i : Nat), x ∉ l → putE P kt (enc x) (IN (i + l.length)) (mapN enc i l) = some (mapN enc i (l ++ [x])) := by
  intro l
  induction l with
  | nil => intro i _; rfl
  | cons y l ih =>
    intro i hx
    have h : ¬ x = y := fun e => hx (by rw [e]; exact List.mem_cons_self ..)
    have hm : x ∉ l := fun e => hx (List.mem_cons_of_mem _ e)
    show (match eqV P kt (enc x) (enc y) with
      | some true => some ((enc x, IN (i + (l.length + 1))) :: mapN enc (i + 1) l)
      | some false => (putE P kt (enc x) (IN (i + (l.length + 1))) (mapN enc (i + 1) l)).map ((enc y, IN i) :: ·)
      | none => none) = _
    rw [hE, decide_eq_false h]
    dsimp only
    have : i + (l.length + 1) = i + 1 + l.length := by omega
    rw [this, ih (i + 1) hm]
    rfl
def l3 (t : Nat × Nat × Nat) : List Nat := [t.1, t.2.1, t.2.2]
theorem l3_len (t : Nat × Nat × Nat) : (l3 t).length = 3 := rfl
theorem NT_l3 (t : Nat × Nat × Nat) : NT t = .slc false 1 ((l3 t).map IN) := rfl
theorem ins3_l3 (l : List Nat) (t : Nat × Nat × Nat) : (l3 t).foldl ins l = ins3 l t := rfl
theorem take_snoc {α : Type} {l : List α} {i : Nat} (h : i < l.length) : l.take (i + 1) = l.take i ++ [l[i]] := (List.take_append_getElem h).symm
theorem foldl_take {α β : Type} (f : β → α → β) (b : β) {l : List α} {i : Nat} (h : i < l.length) : (l.take (i + 1)).foldl f b = f ((l.take i).foldl f b) l[i] := by
  rw [take_snoc h, List.foldl_append]; rfl
def encK (t : K4) : V := .agg [IN t.1, IN t.2.1, IN t.2.2.1, IN t.2.2.2]
theorem k4_beq (a b : K4) : (((a.1 : Int) == b.1) && (((a.2.1 : Int) == b.2.1) && (((a.2.2.1 : Int) == b.2.2.1) && (((a.2.2.2 : Int) == b.2.2.2) && true)))) = decide (a = b) := by
  obtain ⟨a1, a2, a3, a4⟩ := a
  obtain ⟨b1, b2, b3, b4⟩ := b
  simp only [nat_beq, Prod.mk.injEq, Bool.and_true]
  rw [Bool.eq_iff_iff]
  simp
def accV (d : DN) (q : Nat) : V := C0 (accN d q)
theorem accV_map (d : DN) (O : List Nat) : O.map (accV d) = (O.map fun q => if accN d q = true then 1 else 0).map IN := by
  rw [List.map_map]; rfl
theorem inv0 (d : DN) (O : List Nat) : InvI d O (O.map fun q => if accN d q = true then 1 else 0) 0 := by
  refine ⟨⟨0, by simp, fun i j hi hj => ?_⟩, .inl rfl⟩
  have e : ∀ i, i < O.length → cl (O.map fun q => if accN d q = true then 1 else 0) i = if accN d (at0 O i) = true then 1 else 0 := by
    intro i hi
    unfold cl at0
    rw [List.getD_eq_getElem?_getD, List.getD_eq_getElem?_getD, List.getElem?_map, List.getElem?_eq_getElem hi]
    rfl
  rw [e i hi, e j hj]
  show _ ↔ accN d (at0 O i) = accN d (at0 O j)
  cases accN d (at0 O i) <;> cases accN d (at0 O j) <;> simp
def stepV (d : DN) (O k : List Nat) (i : Nat) : V := IN (ixK (namesOf (keysOf d O k)) (keyAt d O k i))
theorem stepV_map (d : DN) (O k : List Nat) : (List.range O.length).map (stepV d O k) = (stepN d O k).map IN := by
  unfold stepN keysOf
  rw [List.map_map, List.map_map]
  rfl
theorem get_at0 {O : List Nat} {i : Nat} (h : i < O.length) (v : V) : (O.map IN).getD i v = IN (at0 O i) := getD_IN h v
theorem at0_eq {O : List Nat} {i : Nat} (h : i < O.length) : at0 O i = O[i] := by
  unfold at0
  rw [List.getD_eq_getElem?_getD, List.getElem?_eq_getElem h]; rfl
theorem ixK_pre {l L : List K4} {x : K4} (h : l <+: L) (hx : x ∈ l) : ixK L x = ixK l x := idx_pre h hx
theorem keys_len (d : DN) (O k : List Nat) : (keysOf d O k).length = O.length := by simp [keysOf]
theorem keys_at (d : DN) (O k : List Nat) {i : Nat} (h : i < (keysOf d O k).length) : (keysOf d O k)[i] = keyAt d O k i := by simp [keysOf]
end Go.Ev
namespace Go.Ev
open Go
set_option linter.unusedVariables false
section
variable {α : Type} [DecidableEq α]
def ixD (L : List α) (x : α) : Nat := @List.idxOf α instBEqOfDecidableEq x L
def rowD (L : List α) (t : α × α × α) : Nat × Nat × Nat := (ixD L t.1, ixD L t.2.1, ixD L t.2.2)
def l3A (t : α × α × α) : List α := [t.1, t.2.1, t.2.2]
theorem l3A_len {γ : Type} (t : γ × γ × γ) : (l3A t).length = 3 := rfl
theorem ins3_l3A (l : List α) (t : α × α × α) : (l3A t).foldl ins l = ins3 l t := rfl
def expL (succ : α → α × α × α) (most : Nat) (s : α) : List α := bfsL succ (most + 1) [s] 0
def expD (succ : α → α × α × α) (acc : α → Bool) (L : List α) : DN := ⟨L.map acc, L.map fun x => rowD L (succ x)⟩
theorem ixD_pre {l L : List α} {x : α} (h : l <+: L) (hx : x ∈ l) : ixD L x = ixD l x := by
  have e : @List.idxOf α instBEqOfDecidableEq x L = @List.idxOf α instBEqOfDecidableEq x l := idx_pre h hx
  exact e
theorem ixD_lt {L : List α} {x : α} (h : x ∈ L) : ixD L x < L.length := by
  unfold ixD
  exact List.idxOf_lt_length_of_mem h
theorem rowD_l3 (L : List α) (t : α × α × α) : NT (rowD L t) = .slc false 1 ((l3A t).map fun x => IN (ixD L x)) := rfl
end
attribute [go_sem] Bool.not_eq_true
end Go.Ev
namespace Go.Ev
theorem ixD_new {α : Type} [DecidableEq α] {m : List α} {y : α} (h : y ∉ m) : ixD (m ++ [y]) y = m.length := by
  unfold ixD
  rw [List.idxOf_append, if_neg h]
  simp
theorem map_snoc' {α : Type} (f : α → V) (l : List α) (x : α) : l.map f ++ [f x] = (l ++ [x]).map f := by rw [List.map_append]; rfl
end Go.Ev
namespace Go.Ev
section
variable {α : Type} [DecidableEq α]
def accB (acc : α → Bool) (x : α) : V := B (acc x)
def ixB (L : List α) (y : α) : V := IN (ixD L y)
def rowB (succ : α → α × α × α) (L : List α) (x : α) : V := NT (rowD L (succ x))
theorem accB_map {γ : Type} (acc : γ → Bool) (l : List γ) : l.map (accB acc) = (l.map acc).map B := by rw [List.map_map]; rfl
theorem rowB_map (succ : α → α × α × α) (L l : List α) : l.map (rowB succ L) = (l.map fun x => rowD L (succ x)).map NT := by rw [List.map_map]; rfl
end
end Go.Ev
namespace Go.Ev
theorem cv_l (d : Nat) (v : V) (T : Nat → V) (B : Nat → Option Ob) (O : List (Nat → Option Ob)) (R : Array ResultVar) (F N : Nat) : callVal (some d) { t := T, b := B, o := O, r := R, f := F, n := N } (some { t := upd T d v, b := B, o := O, r := R, f := F, n := N }) = some v := by
  have e : upd T d v d = v := by simp [upd]
  refine (cv_s d _ (congrArg (fun u => ({ t := upd T d u, b := B, o := O, r := R, f := F, n := N } : St)) e.symm)).trans ?_
  exact congrArg some e
attribute [go_sem] cv_l
end Go.Ev
