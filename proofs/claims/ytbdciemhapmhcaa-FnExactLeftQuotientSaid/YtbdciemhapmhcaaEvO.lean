/- The program's way to the minimal automaton: numbers for what is met, by rounds, until their count stands. Tables that number what they meet. Searches that stop where too much is met. Products, and what fits. Products, with pairs as numbers. Sets of states as numbers; their sorted lists. Joins and repetitions of automata, over sets as numbers. Joins and repetitions as the reference numbers them: states with a set and a mark. Complements. Automata of words. What an expression compiles to. -/
import Derived.Test.YtbdciemhapmhcaaEvN
import Derived.Test.YtbdciemhapmhcaaEvM
set_option linter.unusedVariables false
set_option linter.unusedSimpArgs false
namespace Go.Ev
open Go
set_option linter.unusedVariables false
def quotS (d : DN) (s : Nat) : DN := quot d (cl (rounds d (d.accept.length + 1) (class0 d))) s
theorem quotS_kern {d : DN} (ho : d.ok) {s : Nat} (hs : s < d.accept.length) {c : Nat → Nat} (hc : Kern d s c) : quot d c s = quotS d s := by
  have hlt := (order_lt ho hs).2
  exact quot_congr (order_clo ho hs) fun x y hx hy => (hc.iff x y hx hy).trans (cl_inf ho (by omega) (hlt x hx) (hlt y hy)).symm
theorem minS_S {d : DN} (ho : d.ok) (h1 : 1 ≤ d.accept.length) : minS d = quotS d 0 := minS_quot ho h1
def at0 (O : List Nat) (i : Nat) : Nat := O.getD i 0
theorem at0_mem {O : List Nat} {i : Nat} (h : i < O.length) : at0 O i ∈ O := by
  unfold at0
  rw [List.getD_eq_getElem?_getD, List.getElem?_eq_getElem h]
  exact List.getElem_mem h
theorem at0_idx {O : List Nat} {x : Nat} (h : x ∈ O) : at0 O (O.idxOf x) = x := by
  unfold at0
  have hl := List.idxOf_lt_length_of_mem h
  rw [List.getD_eq_getElem?_getD, List.getElem?_eq_getElem hl]
  exact List.getElem_idxOf hl
theorem idx_at0 {O : List Nat} (hn : O.Nodup) {i : Nat} (h : i < O.length) : O.idxOf (at0 O i) = i := by
  unfold at0
  rw [List.getD_eq_getElem?_getD, List.getElem?_eq_getElem h]
  exact hn.idxOf_getElem i h
/-- what a state is told by in a round: its number, those of the states behind it -/
abbrev K4 := Nat × Nat × Nat × Nat
def keyAt (d : DN) (O k : List Nat) (i : Nat) : K4 := (cl k i, cl k (O.idxOf (d.nx (at0 O i)).1), cl k (O.idxOf (d.nx (at0 O i)).2.1), cl k (O.idxOf (d.nx (at0 O i)).2.2))
def keysOf (d : DN) (O k : List Nat) : List K4 := (List.range O.length).map (keyAt d O k)
def namesOf (ks : List K4) : List K4 := ks.foldl ins []
def ixK (L : List K4) (x : K4) : Nat := @List.idxOf K4 instBEqOfDecidableEq x L
def stepN (d : DN) (O k : List Nat) : List Nat := (keysOf d O k).map (ixK (namesOf (keysOf d O k)))
theorem foldl_ins_pre {α : Type} [DecidableEq α] : ∀ (X l : List α), l <+: X.foldl ins l := by
  intro X
  induction X with
  | nil => intro l; exact List.prefix_refl l
  | cons x X ih => intro l; exact (ins_pre l x).trans (ih _)
theorem foldl_ins_mem {α : Type} [DecidableEq α] : ∀ {X l : List α} {y : α}, y ∈ l ∨ y ∈ X → y ∈ X.foldl ins l := by
  intro X
  induction X with
  | nil => intro l y h; exact h.resolve_right (by simp)
  | cons x X ih =>
    intro l y h
    refine ih (l := ins l x) ?_
    rcases h with h | h
    · exact .inl (mem_ins.2 (.inl h))
    · rcases List.mem_cons.1 h with rfl | h
      · exact .inl (ins_mem _ _)
      · exact .inr h
theorem leads_names {α β : Type} [DecidableEq β] {c : α → Nat} {f : α → β} {P : α → Prop} (h : ∀ x y, P x → P y → (c x = c y ↔ f x = f y)) : ∀ (X l : List α), (∀ x ∈ l, P x) → (∀ x ∈ X, P x) → (leadsF c l X).map f = (X.map f).foldl ins (l.map f) := by
  intro X
  induction X with
  | nil => intro l _ _; rfl
  | cons x X ih =>
    intro l hl hX
    have hx := hX x (List.mem_cons_self ..)
    have hins : ∀ y ∈ insB c l x, P y := fun y hy => by
      rcases insB_mem hy with hy | rfl
      · exact hl y hy
      · exact hx
    show (leadsF c (insB c l x) X).map f = (X.map f).foldl ins (ins (l.map f) (f x))
    rw [ih _ hins fun y hy => hX y (List.mem_cons_of_mem _ hy)]
    congr 1
    by_cases hh : ∃ y ∈ l, c y = c x
    · obtain ⟨y, hy, e⟩ := hh
      rw [insB_old ⟨y, hy, e⟩, ins_old' (List.mem_map.2 ⟨y, hy, (h y x (hl y hy) hx).1 e⟩)]
    · rw [insB_new hh, List.map_append]
      unfold ins
      rw [if_neg]
      · rfl
      · intro hm
        obtain ⟨y, hy, e⟩ := List.mem_map.1 hm
        exact hh ⟨y, hy, (h y x (hl y hy) hx).2 e⟩
where ins_old' {α : Type} [DecidableEq α] {l : List α} {x : α} (h : x ∈ l) : ins l x = l := if_pos h
theorem idx_inj {α : Type} [BEq α] [LawfulBEq α] {L : List α} {x y : α} (hx : x ∈ L) (hy : y ∈ L) (h : L.idxOf x = L.idxOf y) : x = y := by
  have h1 := List.getElem_idxOf (List.idxOf_lt_length_of_mem hx)
  have h2 := List.getElem_idxOf (List.idxOf_lt_length_of_mem hy)
  rw [← h1, ← h2]
  congr 1
theorem ixK_inj {L : List K4} {x y : K4} (hx : x ∈ L) (hy : y ∈ L) (h : ixK L x = ixK L y) : x = y := @idx_inj K4 instBEqOfDecidableEq inferInstance L x y hx hy h
theorem stepN_len (d : DN) (O k : List Nat) : (stepN d O k).length = O.length := by simp [stepN, keysOf]
theorem stepN_at (d : DN) (O k : List Nat) {i : Nat} (h : i < O.length) : cl (stepN d O k) i = ixK (namesOf (keysOf d O k)) (keyAt d O k i) := by
  unfold cl stepN keysOf
  rw [List.getD_eq_getElem?_getD, List.getElem?_map, List.getElem?_map, List.getElem?_range h]
  rfl
theorem key_mem (d : DN) (O k : List Nat) {i : Nat} (h : i < O.length) : keyAt d O k i ∈ namesOf (keysOf d O k) :=
  foldl_ins_mem (.inr (List.mem_map.2 ⟨i, List.mem_range.2 h, rfl⟩))
theorem stepN_iff (d : DN) (O k : List Nat) {i j : Nat} (hi : i < O.length) (hj : j < O.length) : cl (stepN d O k) i = cl (stepN d O k) j ↔ keyAt d O k i = keyAt d O k j := by
  rw [stepN_at d O k hi, stepN_at d O k hj]
  constructor
  · exact ixK_inj (key_mem d O k hi) (key_mem d O k hj)
  · intro h; rw [h]
theorem names_len (d : DN) (O k : List Nat) : (namesOf (keysOf d O k)).length = (leadsB (cl (stepN d O k)) (List.range O.length)).length := by
  have := leads_names (c := cl (stepN d O k)) (f := keyAt d O k) (P := (· < O.length)) (fun x y hx hy => stepN_iff d O k hx hy) (List.range O.length) [] (by simp) (fun x hx => List.mem_range.1 hx)
  have e : namesOf (keysOf d O k) = (leadsB (cl (stepN d O k)) (List.range O.length)).map (keyAt d O k) := this.symm
  rw [e, List.length_map]
/-- numbers that tell apart what words of so many letters tell apart -/
def NumK (d : DN) (O k : List Nat) (r : Nat) : Prop := k.length = O.length ∧ ∀ i j, i < O.length → j < O.length → (cl k i = cl k j ↔ Ek d r (at0 O i) (at0 O j))
theorem idx_lt {O : List Nat} {x : Nat} (h : x ∈ O) : O.idxOf x < O.length := List.idxOf_lt_length_of_mem h
theorem NumK.step {d : DN} {O k : List Nat} {r : Nat} (hO : clo d O) (h : NumK d O k r) : NumK d O (stepN d O k) (r + 1) := by
  refine ⟨stepN_len d O k, fun i j hi hj => ?_⟩
  rw [stepN_iff d O k hi hj]
  have ci := hO _ (at0_mem hi)
  have cj := hO _ (at0_mem hj)
  unfold keyAt
  simp only [Prod.mk.injEq]
  rw [h.2 i j hi hj, h.2 _ _ (idx_lt ci.1) (idx_lt cj.1), h.2 _ _ (idx_lt ci.2.1) (idx_lt cj.2.1), h.2 _ _ (idx_lt ci.2.2) (idx_lt cj.2.2), at0_idx ci.1, at0_idx cj.1, at0_idx ci.2.1, at0_idx cj.2.1, at0_idx ci.2.2, at0_idx cj.2.2]
  rfl
/-- the loop's state: numbers, and their count (0: not counted yet) -/
def InvI (d : DN) (O : List Nat) (k : List Nat) (cnt : Nat) : Prop := (∃ r, NumK d O k r) ∧ (cnt = 0 ∨ cnt = (leadsB (cl k) (List.range O.length)).length)
theorem InvI.len {d : DN} {O k : List Nat} {cnt : Nat} (h : InvI d O k cnt) : k.length = O.length := by
  obtain ⟨⟨r, h⟩, _⟩ := h; exact h.1
theorem InvI.next {d : DN} {O k : List Nat} {cnt : Nat} (hO : clo d O) (h : InvI d O k cnt) : InvI d O (stepN d O k) (namesOf (keysOf d O k)).length := by
  obtain ⟨⟨r, h⟩, _⟩ := h
  exact ⟨⟨r + 1, h.step hO⟩, .inr (names_len d O k)⟩
theorem NumK.finer {d : DN} {O k k' : List Nat} {r : Nat} (h : NumK d O k r) (h' : NumK d O k' (r + 1)) : ∀ x y, x ∈ List.range O.length → y ∈ List.range O.length → cl k' x = cl k' y → cl k x = cl k y := by
  intro x y hx hy e
  have hx := List.mem_range.1 hx
  have hy := List.mem_range.1 hy
  rw [h'.2 x y hx hy] at e
  rw [h.2 x y hx hy]
  exact e.1
theorem names_pos {d : DN} {O k : List Nat} (h1 : 0 < O.length) : 0 < (namesOf (keysOf d O k)).length := List.length_pos_of_mem (key_mem d O k h1)
theorem names_le (d : DN) (O k : List Nat) : (namesOf (keysOf d O k)).length ≤ O.length := by
  rw [names_len]
  have := leadsB_len (cl (stepN d O k)) (List.range O.length)
  simpa using this
/-- the count grows, or all is told apart -/
theorem InvI.grows {d : DN} {O k : List Nat} {cnt : Nat} (hO : clo d O) (h1 : 0 < O.length) (h : InvI d O k cnt) (hne : (namesOf (keysOf d O k)).length ≠ cnt) : cnt < (namesOf (keysOf d O k)).length := by
  obtain ⟨⟨r, h⟩, hc⟩ := h
  have hp := names_pos (d := d) (k := k) h1
  rcases hc with rfl | rfl
  · exact hp
  · have := finer_le (h.finer (h.step hO))
    rw [← names_len] at this
    omega
theorem InvI.ends {d : DN} {O k : List Nat} {cnt : Nat} (hO : clo d O) (h1 : 0 < O.length) (h : InvI d O k cnt) (he : (namesOf (keysOf d O k)).length = cnt) : ∀ i j, i < O.length → j < O.length → (cl (stepN d O k) i = cl (stepN d O k) j ↔ Einf d (at0 O i) (at0 O j)) := by
  obtain ⟨⟨r, h⟩, hc⟩ := h
  have hp := names_pos (d := d) (k := k) h1
  have hc := hc.resolve_left (by omega)
  have hs := h.step hO
  have hq := finer_eq (h.finer hs) (by rw [← names_len, he, hc]; exact Nat.le_refl _)
  intro i j hi hj
  rw [hs.2 i j hi hj]
  constructor
  rotate_left
  · intro h; exact h _
  intro he
  refine Ek_stable hO (k := r) ?_ _ _ (at0_mem hi) (at0_mem hj) he.1
  intro p q hp hq' e
  have e1 := at0_idx hp
  have e2 := at0_idx hq'
  rw [← e1, ← e2] at e ⊢
  rw [← h.2 _ _ (idx_lt hp) (idx_lt hq')] at e
  exact (hs.2 _ _ (idx_lt hp) (idx_lt hq')).1 (hq _ _ (List.mem_range.2 (idx_lt hp)) (List.mem_range.2 (idx_lt hq')) e)
/-- what is built of the numbers -/
def leadP (O k : List Nat) : List Nat := leadsB (cl k) (List.range O.length)
def rowI (d : DN) (O k : List Nat) (i : Nat) : Nat × Nat × Nat := rowOf ((leadP O k).map (cl k)) (cl k (O.idxOf (d.nx (at0 O i)).1), cl k (O.idxOf (d.nx (at0 O i)).2.1), cl k (O.idxOf (d.nx (at0 O i)).2.2))
def resI (d : DN) (O k : List Nat) : DN := ⟨(leadP O k).map fun i => accN d (at0 O i), (leadP O k).map (rowI d O k)⟩
theorem leadsF_map {α β : Type} (c : β → Nat) (f : α → β) : ∀ (X l : List α), leadsF c (l.map f) (X.map f) = (leadsF (fun x => c (f x)) l X).map f := by
  intro X
  induction X with
  | nil => intro l; rfl
  | cons x X ih =>
    intro l
    show leadsF c (insB c (l.map f) (f x)) (X.map f) = (leadsF _ (insB (fun x => c (f x)) l x) X).map f
    rw [← ih]
    congr 1
    unfold insB
    rw [List.any_map]
    have : (fun y => c y == c (f x)) ∘ f = fun y => c (f y) == c (f x) := rfl
    rw [this]
    split
    · rfl
    · rw [List.map_append]; rfl
theorem map_at0 (O : List Nat) : (List.range O.length).map (at0 O) = O := by
  apply List.ext_getElem
  · simp
  · intro i h1 h2
    rw [List.getElem_map, List.getElem_range]
    unfold at0
    rw [List.getD_eq_getElem?_getD, List.getElem?_eq_getElem h2]
    rfl
theorem resI_quot {d : DN} (ho : d.ok) {s : Nat} (hs : s < d.accept.length) {k : List Nat} (hk : ∀ i j, i < (order d s).length → j < (order d s).length → (cl k i = cl k j ↔ Einf d (at0 (order d s) i) (at0 (order d s) j))) : resI d (order d s) k = quotS d s := by
  have hn := (order_lt ho hs).1
  rw [← quotS_kern ho hs (c := fun x => cl k ((order d s).idxOf x))]
  · unfold quot resI
    generalize order d s = O at hk hn
    have e0 : leadsB (fun x => cl k (O.idxOf x)) O = (leadP O k).map (at0 O) := by
      have h1 := leadsF_map (fun x => cl k (O.idxOf x)) (at0 O) (List.range O.length) []
      rw [map_at0] at h1
      refine h1.trans ?_
      congr 1
      exact leadsB_congr fun x y hx hy => by rw [idx_at0 hn (List.mem_range.1 hx), idx_at0 hn (List.mem_range.1 hy)]
    rw [e0]
    unfold ofQuot
    have hl : ∀ i ∈ leadP O k, i < O.length := fun i hi => List.mem_range.1 (leadsB_mem hi)
    have e1 : ((leadP O k).map (at0 O)).map (fun x => cl k (O.idxOf x)) = (leadP O k).map (cl k) := by
      rw [List.map_map]
      exact List.map_congr_left fun i hi => by show cl k (O.idxOf (at0 O i)) = _; rw [idx_at0 hn (hl i hi)]
    rw [e1, List.map_map, List.map_map]
    rfl
  · refine ⟨fun x y hx hy => ?_⟩
    show cl k ((order d s).idxOf x) = cl k ((order d s).idxOf y) ↔ _
    rw [hk _ _ (idx_lt hx) (idx_lt hy), at0_idx hx, at0_idx hy]
end Go.Ev
namespace Go.Ev
open Go
set_option linter.unusedVariables false
attribute [go_sem] true_or or_true List.flatten_cons List.flatten_nil
def mapN {α : Type} (enc : α → V) : Nat → List α → List (V × V)
  | _, [] => []
  | i, x :: l => (enc x, IN i) :: mapN enc (i + 1) l
theorem mapN_len {α : Type} (enc : α → V) : ∀ (l : List α) (i : Nat), (mapN enc i l).length = l.length := by
  intro l
  induction l with
  | nil => intro i; rfl
  | cons x l ih => intro i; show (mapN enc (i + 1) l).length + 1 = _; rw [ih]; rfl
theorem findE_mapN {α : Type} [DecidableEq α] {P : Program} {kt : TypeId} {enc : α → V} (hE : ∀ a b, eqV P kt (enc a) (enc b) = some (decide (a = b))) (x : α) : ∀ (l : List α) (i : Nat), findE P kt (enc x) (mapN enc i l) = some (if x ∈ l then some (IN (i + l.idxOf x)) else none) := by
  intro l
  induction l with
  | nil => intro i; rfl
  | cons y l ih =>
    intro i
    show (match eqV P kt (enc x) (enc y) with
      | some true => some (some (IN i))
      | some false => findE P kt (enc x) (mapN enc (i + 1) l)
      | none => none) = _
    rw [hE]
    by_cases h : x = y
    · subst h
      rw [decide_eq_true rfl, if_pos (List.mem_cons_self ..), List.idxOf_cons_self]
      rfl
    · rw [decide_eq_false h]
      dsimp only
      rw [ih, List.idxOf_cons, beq_eq_false_iff_ne.2 fun e => h e.symm]
      by_cases hm : x ∈ l
      · rw [if_pos hm, if_pos (List.mem_cons_of_mem _ hm)]
        have : i + 1 + l.idxOf x = i + (l.idxOf x + 1) := by omega
        rw [this]
        rfl
      · rw [if_neg hm, if_neg]
        intro hc
        rcases List.mem_cons.1 hc with e | e
        · exact h e
        · exact hm e
theorem putE_mapN {α : Type} [DecidableEq α] {P : Program} {kt : TypeId} {enc : α → V} (hE : ∀ a b, eqV P kt (enc a) (enc b) = some (decide (a = b))) {x : α} : ∀ (l : List α) (i : Nat), x ∉ l → putE P kt (enc x) (IN (i + l.length)) (mapN enc i l) = some (mapN enc i (l ++ [x])) := by
  intro l
  induction l with
  | nil => intro i _; rfl
  | cons y l ih =>
    intro i hx
    have h : ¬ x = y := fun e => hx (by rw [e]; exact List.mem_cons_self ..)
    have hm : x ∉ l := fun e => hx (List.mem_cons_of_mem _ e)
    show (match eqV P kt (enc x) (enc y) with
      | some true => some ((enc x, IN (i + (l.length + 1))) :: mapN enc (i + 1) l)
      | some false => (putE P kt (enc x) (IN (i + (l.length + 1))) (mapN enc (i + 1) l)).map ((enc y, IN i) :: ·)
      | none => none) = _
    rw [hE, decide_eq_false h]
    dsimp only
    have : i + (l.length + 1) = i + 1 + l.length := by omega
    rw [this, ih (i + 1) hm]
    rfl
def l3 (t : Nat × Nat × Nat) : List Nat := [t.1, t.2.1, t.2.2]
theorem l3_len (t : Nat × Nat × Nat) : (l3 t).length = 3 := rfl
theorem NT_l3 (t : Nat × Nat × Nat) : NT t = .slc false 1 ((l3 t).map IN) := rfl
theorem ins3_l3 (l : List Nat) (t : Nat × Nat × Nat) : (l3 t).foldl ins l = ins3 l t := rfl
theorem take_snoc {α : Type} {l : List α} {i : Nat} (h : i < l.length) : l.take (i + 1) = l.take i ++ [l[i]] := (List.take_append_getElem h).symm
theorem foldl_take {α β : Type} (f : β → α → β) (b : β) {l : List α} {i : Nat} (h : i < l.length) : (l.take (i + 1)).foldl f b = f ((l.take i).foldl f b) l[i] := by
  rw [take_snoc h, List.foldl_append]; rfl
def encK (t : K4) : V := .agg [IN t.1, IN t.2.1, IN t.2.2.1, IN t.2.2.2]
theorem k4_beq (a b : K4) : (((a.1 : Int) == b.1) && (((a.2.1 : Int) == b.2.1) && (((a.2.2.1 : Int) == b.2.2.1) && (((a.2.2.2 : Int) == b.2.2.2) && true)))) = decide (a = b) := by
  obtain ⟨a1, a2, a3, a4⟩ := a
  obtain ⟨b1, b2, b3, b4⟩ := b
  simp only [nat_beq, Prod.mk.injEq, Bool.and_true]
  rw [Bool.eq_iff_iff]
  simp
def accV (d : DN) (q : Nat) : V := C0 (accN d q)
theorem accV_map (d : DN) (O : List Nat) : O.map (accV d) = (O.map fun q => if accN d q = true then 1 else 0).map IN := by
  rw [List.map_map]; rfl
theorem inv0 (d : DN) (O : List Nat) : InvI d O (O.map fun q => if accN d q = true then 1 else 0) 0 := by
  refine ⟨⟨0, by simp, fun i j hi hj => ?_⟩, .inl rfl⟩
  have e : ∀ i, i < O.length → cl (O.map fun q => if accN d q = true then 1 else 0) i = if accN d (at0 O i) = true then 1 else 0 := by
    intro i hi
    unfold cl at0
    rw [List.getD_eq_getElem?_getD, List.getD_eq_getElem?_getD, List.getElem?_map, List.getElem?_eq_getElem hi]
    rfl
  rw [e i hi, e j hj]
  show _ ↔ accN d (at0 O i) = accN d (at0 O j)
  cases accN d (at0 O i) <;> cases accN d (at0 O j) <;> simp
def stepV (d : DN) (O k : List Nat) (i : Nat) : V := IN (ixK (namesOf (keysOf d O k)) (keyAt d O k i))
theorem stepV_map (d : DN) (O k : List Nat) : (List.range O.length).map (stepV d O k) = (stepN d O k).map IN := by
  unfold stepN keysOf
  rw [List.map_map, List.map_map]
  rfl
theorem get_at0 {O : List Nat} {i : Nat} (h : i < O.length) (v : V) : (O.map IN).getD i v = IN (at0 O i) := getD_IN h v
theorem at0_eq {O : List Nat} {i : Nat} (h : i < O.length) : at0 O i = O[i] := by
  unfold at0
  rw [List.getD_eq_getElem?_getD, List.getElem?_eq_getElem h]; rfl
theorem ixK_pre {l L : List K4} {x : K4} (h : l <+: L) (hx : x ∈ l) : ixK L x = ixK l x := idx_pre h hx
theorem keys_len (d : DN) (O k : List Nat) : (keysOf d O k).length = O.length := by simp [keysOf]
theorem keys_at (d : DN) (O k : List Nat) {i : Nat} (h : i < (keysOf d O k).length) : (keysOf d O k)[i] = keyAt d O k i := by simp [keysOf]
end Go.Ev
namespace Go.Ev
open Go
set_option linter.unusedVariables false
section
variable {α : Type} [DecidableEq α]
def ixD (L : List α) (x : α) : Nat := @List.idxOf α instBEqOfDecidableEq x L
def rowD (L : List α) (t : α × α × α) : Nat × Nat × Nat := (ixD L t.1, ixD L t.2.1, ixD L t.2.2)
def l3A (t : α × α × α) : List α := [t.1, t.2.1, t.2.2]
theorem l3A_len {γ : Type} (t : γ × γ × γ) : (l3A t).length = 3 := rfl
theorem ins3_l3A (l : List α) (t : α × α × α) : (l3A t).foldl ins l = ins3 l t := rfl
def expL (succ : α → α × α × α) (most : Nat) (s : α) : List α := bfsL succ (most + 1) [s] 0
def expD (succ : α → α × α × α) (acc : α → Bool) (L : List α) : DN := ⟨L.map acc, L.map fun x => rowD L (succ x)⟩
theorem ixD_pre {l L : List α} {x : α} (h : l <+: L) (hx : x ∈ l) : ixD L x = ixD l x := by
  have e : @List.idxOf α instBEqOfDecidableEq x L = @List.idxOf α instBEqOfDecidableEq x l := idx_pre h hx
  exact e
theorem ixD_lt {L : List α} {x : α} (h : x ∈ L) : ixD L x < L.length := by
  unfold ixD
  exact List.idxOf_lt_length_of_mem h
theorem rowD_l3 (L : List α) (t : α × α × α) : NT (rowD L t) = .slc false 1 ((l3A t).map fun x => IN (ixD L x)) := rfl
end
attribute [go_sem] Bool.not_eq_true
end Go.Ev
namespace Go.Ev
theorem ixD_new {α : Type} [DecidableEq α] {m : List α} {y : α} (h : y ∉ m) : ixD (m ++ [y]) y = m.length := by
  unfold ixD
  rw [List.idxOf_append, if_neg h]
  simp
theorem map_snoc' {α : Type} (f : α → V) (l : List α) (x : α) : l.map f ++ [f x] = (l ++ [x]).map f := by rw [List.map_append]; rfl
end Go.Ev
namespace Go.Ev
section
variable {α : Type} [DecidableEq α]
def accB (acc : α → Bool) (x : α) : V := B (acc x)
def ixB (L : List α) (y : α) : V := IN (ixD L y)
def rowB (succ : α → α × α × α) (L : List α) (x : α) : V := NT (rowD L (succ x))
theorem accB_map {γ : Type} (acc : γ → Bool) (l : List γ) : l.map (accB acc) = (l.map acc).map B := by rw [List.map_map]; rfl
theorem rowB_map (succ : α → α × α × α) (L l : List α) : l.map (rowB succ L) = (l.map fun x => rowD L (succ x)).map NT := by rw [List.map_map]; rfl
end
end Go.Ev
namespace Go.Ev
theorem cv_l (d : Nat) (v : V) (T : Nat → V) (B : Nat → Option Ob) (O : List (Nat → Option Ob)) (R : Array ResultVar) (F N : Nat) : callVal (some d) { t := T, b := B, o := O, r := R, f := F, n := N } (some { t := upd T d v, b := B, o := O, r := R, f := F, n := N }) = some v := by
  have e : upd T d v d = v := by simp [upd]
  refine (cv_s d _ (congrArg (fun u => ({ t := upd T d u, b := B, o := O, r := R, f := F, n := N } : St)) e.symm)).trans ?_
  exact congrArg some e
attribute [go_sem] cv_l
end Go.Ev
namespace Go.Ev
open Go
set_option linter.unusedVariables false
theorem rowOf_lt {L : List Nat} {t : Nat × Nat × Nat} (h : in3 t L) : lt3 (rowOf L t) L.length := ⟨List.idxOf_lt_length_of_mem h.1, List.idxOf_lt_length_of_mem h.2.1, List.idxOf_lt_length_of_mem h.2.2⟩
theorem quot_ok {d : DN} (ho : d.ok) {s : Nat} (hs : s < d.accept.length) (c : Nat → Nat) : (quot d c s).ok ∧ 1 ≤ (quot d c s).accept.length := by
  have hX := order_clo ho hs
  have hst := order_start d s
  unfold quot ofQuot
  generalize hO : order d s = O at *
  have hm : ∀ y ∈ O, c y ∈ (leadsB c O).map c := fun y hy => leadsB_map.2 ⟨y, hy, rfl⟩
  refine ⟨⟨by simp, ?_⟩, ?_⟩
  · intro t ht
    obtain ⟨q, hq, rfl⟩ := List.mem_map.1 ht
    have hn := hX q (leadsB_mem hq)
    have := rowOf_lt (L := (leadsB c O).map c) (t := c3 c (d.nx q)) ⟨hm _ hn.1, hm _ hn.2.1, hm _ hn.2.2⟩
    simp only [List.length_map] at this ⊢
    exact this
  · simp only [List.length_map]
    obtain ⟨z, hz, _⟩ := leadsB_cov (c := c) hst
    exact List.length_pos_of_mem hz
theorem quotS_ok {d : DN} (ho : d.ok) {s : Nat} (hs : s < d.accept.length) : (quotS d s).ok ∧ 1 ≤ (quotS d s).accept.length := quot_ok ho hs _
theorem quotS_len {d : DN} (ho : d.ok) {s : Nat} (hs : s < d.accept.length) : (quotS d s).accept.length ≤ d.accept.length := by
  unfold quotS quot ofQuot
  simp only [List.length_map]
  exact Nat.le_trans (leadsB_len _ _) (order_len ho hs)
def fitD (d : DN) : Option DN := if (quotS d 0).accept.length ≤ 40 then some (quotS d 0) else none
/-- an automaton that is valid -/
structure Val (d : DN) : Prop where
  ok : d.ok
  pos : 1 ≤ d.accept.length
  le : d.accept.length ≤ 40
theorem fitD_val {d e : DN} (ho : d.ok) (h1 : 1 ≤ d.accept.length) (h : fitD d = some e) : Val e := by
  unfold fitD at h
  split at h
  · rename_i hl
    obtain rfl := Option.some.inj h
    exact ⟨(quotS_ok ho h1).1, (quotS_ok ho h1).2, hl⟩
  · cases h
def resO : Option DN → V
  | some d => .tup [d.enc, .bool true]
  | none => .tup [.agg [.slc false 1 [], .slc false 1 []], .bool false]
/-- the same, with rows of any length -/
def DN.dfa (d : DN) : Dfa := ⟨d.accept, d.next.map fun t => [(t.1 : Int), t.2.1, t.2.2]⟩
theorem DN.dfa_enc (d : DN) : d.dfa.enc = d.enc := by
  unfold DN.dfa Dfa.enc DN.enc
  rw [List.map_map]
  rfl
theorem validD_dfa {d : DN} (ho : d.ok) : validD d.dfa = (decide (1 ≤ d.accept.length) && decide (d.accept.length ≤ 40)) := by
  unfold validD DN.dfa
  have e1 : ((d.next.map fun t => [(t.1 : Int), t.2.1, t.2.2]).length : Int) == (d.accept.length : Int) := by rw [List.length_map, ho.1]; simp
  have e2 : (d.next.map fun t => [(t.1 : Int), t.2.1, t.2.2]).all (rowOk d.accept.length) = true := by
    rw [List.all_eq_true]
    intro r hr
    obtain ⟨t, ht, rfl⟩ := List.mem_map.1 hr
    obtain ⟨h1, h2, h3⟩ := ho.2 t ht
    unfold rowOk
    simp
    omega
  rw [e1, e2]
  have g1 : decide (1 ≤ (d.accept.length : Int)) = decide (1 ≤ d.accept.length) := by
    by_cases h : 1 ≤ d.accept.length
    · rw [decide_eq_true h, decide_eq_true (by omega)]
    · rw [decide_eq_false h, decide_eq_false (by omega)]
  have g2 : decide ((d.accept.length : Int) ≤ 40) = decide (d.accept.length ≤ 40) := by
    by_cases h : d.accept.length ≤ 40
    · rw [decide_eq_true h, decide_eq_true (by omega)]
    · rw [decide_eq_false h, decide_eq_false (by omega)]
  rw [g1, g2]
  simp
theorem Val.valid {d : DN} (h : Val d) : validD d.dfa = true := by
  rw [validD_dfa h.ok, decide_eq_true h.pos, decide_eq_true h.le]
  rfl
theorem dfa_row {d : DN} : ∀ r ∈ d.dfa.next, r.length ≤ 1048576 := by
  intro r hr
  obtain ⟨t, _, rfl⟩ := List.mem_map.1 hr
  show 3 ≤ _
  decide
def succP (a b : DN) (x : Nat × Nat) : (Nat × Nat) × (Nat × Nat) × (Nat × Nat) := (((a.nx x.1).1, (b.nx x.2).1), ((a.nx x.1).2.1, (b.nx x.2).2.1), ((a.nx x.1).2.2, (b.nx x.2).2.2))
def accP (kind : Int) (a b : DN) (x : Nat × Nat) : Bool := if kind = 6 then accN a x.1 || accN b x.2 else accN a x.1 && accN b x.2
def inP (a b : DN) (x : Nat × Nat) : Prop := x.1 < a.accept.length ∧ x.2 < b.accept.length
theorem succP_in {a b : DN} (ha : a.ok) (hb : b.ok) {x : Nat × Nat} (h : inP a b x) : inP a b (succP a b x).1 ∧ inP a b (succP a b x).2.1 ∧ inP a b (succP a b x).2.2 := by
  have h1 := DN.nx_lt ha h.1
  have h2 := DN.nx_lt hb h.2
  exact ⟨⟨h1.1, h2.1⟩, ⟨h1.2.1, h2.2.1⟩, ⟨h1.2.2, h2.2.2⟩⟩
def listP (a b : DN) : List (Nat × Nat) := expL (succP a b) 1600 (0, 0)
def prodD (kind : Int) (a b : DN) : DN := expD (succP a b) (accP kind a b) (listP a b)
section
variable {α : Type} [DecidableEq α]
theorem bfsA_lt {f : α → α × α × α} {Q : α → Prop} (hf : ∀ x, Q x → Q (f x).1 ∧ Q (f x).2.1 ∧ Q (f x).2.2) : ∀ (fu : Nat) (l : List α) (i : Nat), l.Nodup → (∀ x ∈ l, Q x) → (bfsL f fu l i).Nodup ∧ ∀ x ∈ bfsL f fu l i, Q x := by
  intro fu
  induction fu with
  | zero => intro l i h1 h2; exact ⟨h1, h2⟩
  | succ fu ih =>
    intro l i h1 h2
    by_cases hi : i < l.length
    · rw [bfs_step hi]
      have hq := hf _ (h2 _ (List.getElem_mem hi))
      refine ih _ _ (ins3_nodup h1) fun x hx => ?_
      rcases mem_ins3.1 hx with hx | rfl | rfl | rfl
      · exact h2 x hx
      · exact hq.1
      · exact hq.2.1
      · exact hq.2.2
    · rw [bfs_done hi]; exact ⟨h1, h2⟩
theorem bfsA_closed {f : α → α × α × α} {most : Nat} : ∀ (fu : Nat) (l : List α) (i : Nat), most < fu + i → (∀ k, (hk : k < l.length) → k < i → (f l[k]).1 ∈ l ∧ (f l[k]).2.1 ∈ l ∧ (f l[k]).2.2 ∈ l) → (bfsL f fu l i).length ≤ most → ∀ x ∈ bfsL f fu l i, (f x).1 ∈ bfsL f fu l i ∧ (f x).2.1 ∈ bfsL f fu l i ∧ (f x).2.2 ∈ bfsL f fu l i := by
  intro fu
  induction fu with
  | zero =>
    intro l i h1 h4 hl x hx
    obtain ⟨k, hk, rfl⟩ := List.getElem_of_mem (show x ∈ l from hx)
    have hl' : l.length ≤ most := hl
    exact h4 k hk (by omega)
  | succ fu ih =>
    intro l i h1 h4 hl
    by_cases hi : i < l.length
    rotate_left
    · rw [bfs_done hi]
      intro x hx
      obtain ⟨k, hk, rfl⟩ := List.getElem_of_mem hx
      exact h4 k hk (by omega)
    rw [bfs_step hi] at hl ⊢
    have hpre := ins3_pre l (f l[i])
    refine ih _ _ (by omega) ?_ hl
    intro k hk hki
    have hkl : k < l.length := by omega
    have e : (ins3 l (f l[i]))[k] = l[k] := by
      obtain ⟨m, hm⟩ := hpre
      simp only [← hm]
      exact List.getElem_append_left hkl
    rw [e]
    by_cases hk' : k < i
    · have := h4 k hkl hk'
      exact ⟨hpre.subset this.1, hpre.subset this.2.1, hpre.subset this.2.2⟩
    · obtain rfl : k = i := by omega
      exact ⟨mem_ins3.2 (.inr (.inl rfl)), mem_ins3.2 (.inr (.inr (.inl rfl))), mem_ins3.2 (.inr (.inr (.inr rfl)))⟩
theorem expL_closed {f : α → α × α × α} {most : Nat} {s : α} (h : (expL f most s).length ≤ most) : ∀ x ∈ expL f most s, (f x).1 ∈ expL f most s ∧ (f x).2.1 ∈ expL f most s ∧ (f x).2.2 ∈ expL f most s :=
  bfsA_closed (most := most) _ _ _ (by omega) (fun k hk h => by omega) h
theorem expD_ok {f : α → α × α × α} {acc : α → Bool} {most : Nat} {s : α} (h : (expL f most s).length ≤ most) : (expD f acc (expL f most s)).ok ∧ 1 ≤ (expD f acc (expL f most s)).accept.length ∧ (expD f acc (expL f most s)).accept.length ≤ most := by
  have hc := expL_closed h
  refine ⟨⟨by simp [expD], ?_⟩, ?_, by simpa [expD] using h⟩
  · intro t ht
    obtain ⟨x, hx, rfl⟩ := List.mem_map.1 ht
    have := hc x hx
    simp only [expD, List.length_map]
    exact ⟨ixD_lt this.1, ixD_lt this.2.1, ixD_lt this.2.2⟩
  · simp only [expD, List.length_map]
    exact Nat.le_trans (by simp) (bfs_pre f (most + 1) [s] 0).length_le
end
theorem pairs_le {l : List (Nat × Nat)} {n m : Nat} (hn : l.Nodup) (h : ∀ x ∈ l, x.1 < n ∧ x.2 < m) : l.length ≤ n * m := by
  have h1 : (l.map fun x => x.1 * m + x.2).Nodup := by
    rw [List.nodup_iff_pairwise_ne, List.pairwise_map]
    refine (List.nodup_iff_pairwise_ne.1 hn).imp_of_mem ?_
    intro x y hx hy hne e
    have hx2 := (h x hx).2
    have hy2 := (h y hy).2
    have hm : 0 < m := by omega
    have e1 : x.1 = y.1 := by
      have a1 : (x.1 * m + x.2) / m = x.1 := by rw [Nat.add_comm, Nat.add_mul_div_right _ _ hm, Nat.div_eq_of_lt hx2, Nat.zero_add]
      have a2 : (y.1 * m + y.2) / m = y.1 := by rw [Nat.add_comm, Nat.add_mul_div_right _ _ hm, Nat.div_eq_of_lt hy2, Nat.zero_add]
      rw [← a1, e, a2]
    apply hne
    rw [e1] at e
    exact Prod.ext e1 (by omega)
  have h2 := nodup_le h1 (n := n * m) (fun z hz => by
    obtain ⟨x, hx, rfl⟩ := List.mem_map.1 hz
    have := h x hx
    calc x.1 * m + x.2 < x.1 * m + m := by omega
      _ = (x.1 + 1) * m := by rw [Nat.succ_mul]
      _ ≤ n * m := Nat.mul_le_mul_right _ this.1)
  simpa using h2
theorem listP_le {a b : DN} (ha : Val a) (hb : Val b) : (listP a b).length ≤ 1600 := by
  have := bfsA_lt (f := succP a b) (Q := inP a b) (fun x hx => succP_in ha.ok hb.ok hx) 1601 [(0, 0)] 0 (by simp) (by
    intro x hx
    rw [List.mem_singleton.1 hx]
    exact ⟨ha.pos, hb.pos⟩)
  have h1 := pairs_le (n := a.accept.length) (m := b.accept.length) this.1 this.2
  have h2 : a.accept.length * b.accept.length ≤ 40 * 40 := Nat.mul_le_mul ha.le hb.le
  exact Nat.le_trans h1 h2
theorem prodD_ok {kind : Int} {a b : DN} (ha : Val a) (hb : Val b) : (prodD kind a b).ok ∧ 1 ≤ (prodD kind a b).accept.length ∧ (prodD kind a b).accept.length ≤ 1600 := expD_ok (listP_le ha hb)
end Go.Ev
namespace Go.Ev
open Go
set_option linter.unusedVariables false
section
variable {α β : Type} [DecidableEq α] [DecidableEq β]
theorem ins_map {f : α → β} {Q : α → Prop} (hf : ∀ x y, Q x → Q y → f x = f y → x = y) {l : List α} (hl : ∀ x ∈ l, Q x) {x : α} (hx : Q x) : ins (l.map f) (f x) = (ins l x).map f := by
  unfold ins
  by_cases h : x ∈ l
  · rw [if_pos h, if_pos (List.mem_map.2 ⟨x, h, rfl⟩)]
  · rw [if_neg h, if_neg, List.map_append]
    · rfl
    · intro hm
      obtain ⟨y, hy, e⟩ := List.mem_map.1 hm
      exact h (hf y x (hl y hy) hx e ▸ hy)
theorem ins3_map {f : α → β} {Q : α → Prop} (hf : ∀ x y, Q x → Q y → f x = f y → x = y) {l : List α} (hl : ∀ x ∈ l, Q x) {t : α × α × α} (h1 : Q t.1) (h2 : Q t.2.1) (h3 : Q t.2.2) : ins3 (l.map f) (f t.1, f t.2.1, f t.2.2) = (ins3 l t).map f := by
  have q1 : ∀ x ∈ ins l t.1, Q x := fun x hx => by rcases mem_ins.1 hx with h | rfl; exact hl x h; exact h1
  have q2 : ∀ x ∈ ins (ins l t.1) t.2.1, Q x := fun x hx => by rcases mem_ins.1 hx with h | rfl; exact q1 x h; exact h2
  unfold ins3
  rw [ins_map hf hl h1, ins_map hf q1 h2, ins_map hf q2 h3]
theorem bfs_map {f : α → β} {Q : α → Prop} (hf : ∀ x y, Q x → Q y → f x = f y → x = y) {g : α → α × α × α} {g' : β → β × β × β} (hQ : ∀ x, Q x → Q (g x).1 ∧ Q (g x).2.1 ∧ Q (g x).2.2) (hg : ∀ x, Q x → g' (f x) = (f (g x).1, f (g x).2.1, f (g x).2.2)) : ∀ (fu : Nat) (l : List α) (i : Nat), (∀ x ∈ l, Q x) → bfsL g' fu (l.map f) i = (bfsL g fu l i).map f := by
  intro fu
  induction fu with
  | zero => intro l i _; rfl
  | succ fu ih =>
    intro l i hl
    by_cases hi : i < l.length
    · have hx := hl _ (List.getElem_mem hi)
      have hq := hQ _ hx
      rw [bfs_step (by simpa using hi), bfs_step hi, List.getElem_map, hg _ hx, ins3_map hf hl hq.1 hq.2.1 hq.2.2]
      refine ih _ _ fun x hx => ?_
      rcases mem_ins3.1 hx with hx | rfl | rfl | rfl
      · exact hl x hx
      · exact hq.1
      · exact hq.2.1
      · exact hq.2.2
    · rw [bfs_done (by simpa using hi), bfs_done hi]
theorem ixD_map {f : α → β} {Q : α → Prop} (hf : ∀ x y, Q x → Q y → f x = f y → x = y) : ∀ {l : List α} {x : α}, (∀ y ∈ l, Q y) → Q x → ixD (l.map f) (f x) = ixD l x := by
  intro l
  induction l with
  | nil => intro x _ _; rfl
  | cons y l ih =>
    intro x hl hx
    have hy := hl y (List.mem_cons_self ..)
    have := ih (fun z hz => hl z (List.mem_cons_of_mem _ hz)) hx
    unfold ixD at this ⊢
    rw [List.map_cons, List.idxOf_cons, List.idxOf_cons, this]
    by_cases e : y = x
    · subst e; simp
    · have e' : ¬ f y = f x := fun h => e (hf y x hy hx h)
      rw [beq_eq_false_iff_ne.2 e, beq_eq_false_iff_ne.2 e']
end
def fP (b : DN) (x : Nat × Nat) : Nat := x.1 * b.accept.length + x.2
def succI (a b : DN) (x : Nat) : Nat × Nat × Nat := ((a.nx (x / b.accept.length)).1 * b.accept.length + (b.nx (x % b.accept.length)).1, (a.nx (x / b.accept.length)).2.1 * b.accept.length + (b.nx (x % b.accept.length)).2.1, (a.nx (x / b.accept.length)).2.2 * b.accept.length + (b.nx (x % b.accept.length)).2.2)
def accI (kind : Int) (a b : DN) (x : Nat) : Bool := if kind = 6 then accN a (x / b.accept.length) || accN b (x % b.accept.length) else accN a (x / b.accept.length) && accN b (x % b.accept.length)
theorem fP_div {a b : DN} {x : Nat × Nat} (h : inP a b x) : fP b x / b.accept.length = x.1 ∧ fP b x % b.accept.length = x.2 := by
  have hm : 0 < b.accept.length := by have := h.2; omega
  unfold fP
  constructor
  · rw [Nat.add_comm, Nat.add_mul_div_right _ _ hm, Nat.div_eq_of_lt h.2, Nat.zero_add]
  · rw [Nat.add_comm, Nat.add_mul_mod_self_right, Nat.mod_eq_of_lt h.2]
theorem fP_inj {a b : DN} (x y : Nat × Nat) (hx : inP a b x) (hy : inP a b y) (h : fP b x = fP b y) : x = y := by
  have h1 := fP_div hx
  have h2 := fP_div hy
  rw [h] at h1
  exact Prod.ext (h1.1.symm.trans h2.1) (h1.2.symm.trans h2.2)
theorem succI_f {a b : DN} (x : Nat × Nat) (hx : inP a b x) : succI a b (fP b x) = (fP b (succP a b x).1, fP b (succP a b x).2.1, fP b (succP a b x).2.2) := by
  unfold succI
  rw [(fP_div hx).1, (fP_div hx).2]
  rfl
def listI (a b : DN) : List Nat := bfsL (succI a b) 1601 [0] 0
theorem listP_in {a b : DN} (ha : Val a) (hb : Val b) : ∀ x ∈ listP a b, inP a b x :=
  (bfsA_lt (f := succP a b) (Q := inP a b) (fun x hx => succP_in ha.ok hb.ok hx) 1601 [(0, 0)] 0 (by simp) (by
    intro x hx
    rw [List.mem_singleton.1 hx]
    exact ⟨ha.pos, hb.pos⟩)).2
theorem listI_map {a b : DN} (ha : Val a) (hb : Val b) : listI a b = (listP a b).map (fP b) := by
  have := bfs_map (f := fP b) (Q := inP a b) fP_inj (g := succP a b) (g' := succI a b) (fun x hx => succP_in ha.ok hb.ok hx) (fun x hx => succI_f x hx) 1601 [(0, 0)] 0 (by
    intro x hx
    rw [List.mem_singleton.1 hx]
    exact ⟨ha.pos, hb.pos⟩)
  have e : [(0, 0)].map (fP b) = [0] := by simp [fP]
  rw [e] at this
  exact this
theorem prodI {a b : DN} (ha : Val a) (hb : Val b) (kind : Int) : (⟨(listI a b).map (accI kind a b), (listI a b).map fun x => rowD (listI a b) (succI a b x)⟩ : DN) = prodD kind a b := by
  have hin := listP_in ha hb
  have hc := expL_closed (f := succP a b) (most := 1600) (s := (0, 0)) (listP_le ha hb)
  have ec : expL (succP a b) 1600 (0, 0) = listP a b := rfl
  rw [ec] at hc
  unfold prodD expD
  rw [listI_map ha hb, List.map_map, List.map_map]
  congr 1
  · refine List.map_congr_left fun x hx => ?_
    show accI kind a b (fP b x) = _
    unfold accI accP
    rw [(fP_div (hin x hx)).1, (fP_div (hin x hx)).2]
  · refine List.map_congr_left fun x hx => ?_
    show rowD _ (succI a b (fP b x)) = _
    rw [succI_f x (hin x hx)]
    have h3 := hc x hx
    unfold rowD
    rw [ixD_map fP_inj hin (hin _ h3.1), ixD_map fP_inj hin (hin _ h3.2.1), ixD_map fP_inj hin (hin _ h3.2.2)]
theorem listI_le {a b : DN} (ha : Val a) (hb : Val b) : (listI a b).length ≤ 1600 := by
  rw [listI_map ha hb, List.length_map]
  exact listP_le ha hb
theorem listI_lt {a b : DN} (ha : Val a) (hb : Val b) : ∀ x ∈ listI a b, x / b.accept.length < a.accept.length ∧ x % b.accept.length < b.accept.length ∧ x < 1600 := by
  intro x hx
  rw [listI_map ha hb] at hx
  obtain ⟨y, hy, rfl⟩ := List.mem_map.1 hx
  have h := listP_in ha hb y hy
  rw [(fP_div h).1, (fP_div h).2]
  refine ⟨h.1, h.2, ?_⟩
  have h1 := h.1
  have h2 := h.2
  unfold fP
  have h3 : (y.1 + 1) * b.accept.length ≤ a.accept.length * b.accept.length := Nat.mul_le_mul_right _ h1
  have h4 : a.accept.length * b.accept.length ≤ 40 * 40 := Nat.mul_le_mul ha.le hb.le
  rw [Nat.succ_mul] at h3
  omega
theorem get3 (A : Nat × Nat × Nat) {j : Nat} (h : j < 3) (v : V) : ([.int .i64 (A.1 : Int), .int .i64 (A.2.1 : Int), .int .i64 (A.2.2 : Int)] : List V).getD j v = .int .i64 (((l3 A)[j]'(by rw [l3_len]; exact h) : Nat) : Int) := by
  match j, h with
  | 0, _ => rfl
  | 1, _ => rfl
  | 2, _ => rfl
end Go.Ev
namespace Go.Ev
open Go
set_option linter.unusedVariables false
def nx3 (t : Nat × Nat × Nat) (l : Nat) : Nat := (l3A t).getD l 0
theorem nx3_lt {t : Nat × Nat × Nat} {l n : Nat} (h : lt3 t n) (hl : l < 3) : nx3 t l < n := by
  match l, hl with
  | 0, _ => exact h.1
  | 1, _ => exact h.2.1
  | 2, _ => exact h.2.2
theorem nx3_get (t : Nat × Nat × Nat) {l : Nat} (hl : l < 3) (v : V) : [V.int .i64 (t.1 : Int), .int .i64 (t.2.1 : Int), .int .i64 (t.2.2 : Int)].getD l v = .int .i64 (nx3 t l : Nat) := by
  match l, hl with
  | 0, _ => rfl
  | 1, _ => rfl
  | 2, _ => rfl
def mvF (d : DN) (l S : Nat) (m q : Nat) : Nat := if S.testBit q = true then m ||| 2 ^ nx3 (d.nx q) l else m
def mvK (d : DN) (l S k : Nat) : Nat := (List.range k).foldl (mvF d l S) 0
def moveN (d : DN) (S l : Nat) : Nat := mvK d l S d.accept.length
theorem mvK_succ (d : DN) (l S k : Nat) : mvK d l S (k + 1) = mvF d l S (mvK d l S k) k := by
  unfold mvK
  rw [List.range_succ, List.foldl_append]
  rfl
theorem mvK_lt {d : DN} (ho : d.ok) {l : Nat} (hl : l < 3) (S : Nat) : ∀ k, k ≤ d.accept.length → mvK d l S k < 2 ^ d.accept.length := by
  intro k
  induction k with
  | zero => intro _; exact Nat.two_pow_pos _
  | succ k ih =>
    intro hk
    rw [mvK_succ]
    have := ih (by omega)
    unfold mvF
    by_cases h : S.testBit k = true
    · rw [if_pos h]
      exact Nat.or_lt_two_pow this (Nat.pow_lt_pow_right (by decide) (nx3_lt (nx_lt3 ho k (by omega)) hl))
    · rw [if_neg h]; exact this
theorem moveN_lt {d : DN} (ho : d.ok) {l : Nat} (hl : l < 3) (S : Nat) : moveN d S l < 2 ^ d.accept.length := mvK_lt ho hl S _ (Nat.le_refl _)
def anyN (d : DN) (S : Nat) : Bool := (List.range d.accept.length).any fun q => accN d q && S.testBit q
/-- the sorted list of a set -/
def bitsN (S : Nat) : List Nat := (List.range 40).filter fun q => S.testBit q
theorem bitsN_mem {S q : Nat} : q ∈ bitsN S ↔ q < 40 ∧ S.testBit q = true := by
  unfold bitsN
  rw [List.mem_filter, List.mem_range]
theorem bitsN_len (S : Nat) : (bitsN S).length ≤ 40 := by
  have := List.length_filter_le (fun q => S.testBit q) (List.range 40)
  rw [List.length_range] at this
  exact this
theorem bitsN_cut (S q : Nat) (hq : q < 40) : ∃ A C : List Nat, (∀ x ∈ A, x < q) ∧ (∀ x ∈ C, q < x) ∧ bitsN S = A ++ (if S.testBit q = true then [q] else []) ++ C ∧ bitsN (S ||| 2 ^ q) = A ++ q :: C := by
  have hr : List.range 40 = List.range q ++ q :: (List.range (39 - q)).map (fun x => x + (q + 1)) := by
    have h1 : 40 = q + (1 + (39 - q)) := by omega
    rw [h1, List.range_add, List.range_add, List.map_append]
    have e1 : q + (1 + (39 - q)) - 1 - q = 39 - q := by omega
    congr 1
    have e2 : List.range 1 = [0] := rfl
    rw [e2, List.map_cons, List.map_nil, List.singleton_append, Nat.add_zero, List.map_map]
    congr 1
    refine List.map_congr_left ?_
    intro x _
    show q + (1 + x) = x + (q + 1)
    omega
  refine ⟨(List.range q).filter fun x => S.testBit x, ((List.range (39 - q)).map (fun x => x + (q + 1))).filter fun x => S.testBit x, ?_, ?_, ?_, ?_⟩
  · intro x hx
    exact List.mem_range.1 (List.mem_filter.1 hx).1
  · intro x hx
    obtain ⟨y, _, e⟩ := List.mem_map.1 (List.mem_filter.1 hx).1
    omega
  · unfold bitsN
    rw [hr, List.filter_append, List.filter_cons]
    by_cases h : S.testBit q = true
    · rw [if_pos h, if_pos h, List.append_assoc, List.singleton_append]
    · rw [if_neg h, if_neg h, List.append_assoc, List.nil_append]
  · unfold bitsN
    have hb : ∀ x, x ≠ q → (S ||| 2 ^ q).testBit x = S.testBit x := by
      intro x hx
      rw [Nat.testBit_or, Nat.testBit_two_pow_of_ne (by omega), Bool.or_false]
    rw [hr, List.filter_append, List.filter_cons, if_pos (by rw [Nat.testBit_or, Nat.testBit_two_pow_self, Bool.or_true])]
    congr 1
    · refine List.filter_congr ?_
      intro x hx
      have := List.mem_range.1 hx
      rw [hb x (by omega)]
    · congr 1
      refine List.filter_congr ?_
      intro x hx
      obtain ⟨y, _, e⟩ := List.mem_map.1 hx
      rw [hb x (by omega)]
/-- the fold over the sorted list is the fold over the states -/
theorem foldl_if {α β : Type} (p : β → Bool) (f : α → β → α) : ∀ (l : List β) (a : α), (l.filter p).foldl f a = l.foldl (fun a x => if p x = true then f a x else a) a := by
  intro l
  induction l with
  | nil => intro a; rfl
  | cons x l ih =>
    intro a
    rw [List.filter_cons, List.foldl_cons]
    by_cases h : p x = true
    · rw [if_pos h, if_pos h, List.foldl_cons, ih]
    · rw [if_neg h, if_neg h, ih]
theorem foldl_id {α β : Type} (f : α → β → α) : ∀ (l : List β) (a : α), (∀ a, ∀ x ∈ l, f a x = a) → l.foldl f a = a := by
  intro l
  induction l with
  | nil => intro a _; rfl
  | cons x l ih =>
    intro a h
    rw [List.foldl_cons, h a x (List.mem_cons_self ..)]
    exact ih a fun a y hy => h a y (List.mem_cons_of_mem _ hy)
theorem bit_lt {S n q : Nat} (h : S < 2 ^ n) (hb : S.testBit q = true) : q < n := by
  by_cases hq : q < n
  · exact hq
  · have : S < 2 ^ q := Nat.lt_of_lt_of_le h (Nat.pow_le_pow_right (by decide) (by omega))
    rw [Nat.testBit_lt_two_pow this] at hb
    cases hb
theorem moveN_bits {d : DN} {S : Nat} (l : Nat) (hn : d.accept.length ≤ 40) (hS : S < 2 ^ d.accept.length) : (bitsN S).foldl (fun m q => m ||| 2 ^ nx3 (d.nx q) l) 0 = moveN d S l := by
  unfold bitsN moveN mvK
  rw [foldl_if]
  have h1 : 40 = d.accept.length + (40 - d.accept.length) := by omega
  rw [h1, List.range_add, List.foldl_append]
  refine foldl_id _ _ _ ?_
  intro a x hx
  obtain ⟨y, _, e⟩ := List.mem_map.1 hx
  by_cases hb : S.testBit x = true
  · have := bit_lt hS hb
    omega
  · simp [hb]
theorem anyN_bits {d : DN} {S : Nat} (hn : d.accept.length ≤ 40) (hS : S < 2 ^ d.accept.length) : (bitsN S).any (accN d) = anyN d S := by
  rw [Bool.eq_iff_iff]
  unfold anyN
  rw [List.any_eq_true, List.any_eq_true]
  constructor
  · rintro ⟨x, hx, ha⟩
    have := bitsN_mem.1 hx
    exact ⟨x, List.mem_range.2 (bit_lt hS this.2), by rw [ha, this.2]; rfl⟩
  · rintro ⟨x, hx, ha⟩
    have := List.mem_range.1 hx
    rw [Bool.and_eq_true] at ha
    exact ⟨x, bitsN_mem.2 ⟨by omega, ha.2⟩, ha.1⟩
theorem bitsN_inj {S T : Nat} (hS : S < 2 ^ 40) (hT : T < 2 ^ 40) (h : bitsN S = bitsN T) : S = T := by
  refine Nat.eq_of_testBit_eq ?_
  intro q
  by_cases hq : q < 40
  · have h1 := bitsN_mem (S := S) (q := q)
    have h2 := bitsN_mem (S := T) (q := q)
    rw [h] at h1
    rw [Bool.eq_iff_iff]
    constructor
    · intro hb; exact (h2.1 (h1.2 ⟨hq, hb⟩)).2
    · intro hb; exact (h1.1 (h2.2 ⟨hq, hb⟩)).2
  · rw [Nat.testBit_lt_two_pow (Nat.lt_of_lt_of_le hS (Nat.pow_le_pow_right (by decide) (by omega))), Nat.testBit_lt_two_pow (Nat.lt_of_lt_of_le hT (Nat.pow_le_pow_right (by decide) (by omega)))]
/- numbers of 64 bits -/
theorem fdiv_pow (S q : Nat) : ((S : Int).fdiv (2 ^ q)) = ((S / 2 ^ q : Nat) : Int) := by
  have e2 : (2 : Int) ^ q = ((2 ^ q : Nat) : Int) := by simp
  rw [e2, ← Int.ofNat_fdiv]
theorem bit_div (S q : Nat) : (S / 2 ^ q) % 2 = if S.testBit q = true then 1 else 0 := by
  rw [Nat.testBit_eq_decide_div_mod_eq]
  have := Nat.mod_two_eq_zero_or_one (S / 2 ^ q)
  rcases this with h | h <;> rw [h] <;> simp
theorem bv_and1 (n : Nat) : ((BitVec.ofInt 64 (n : Int) &&& BitVec.ofInt 64 1).toNat : Int) = ((n % 2 : Nat) : Int) := by
  have e : BitVec.ofInt 64 (n : Int) = BitVec.ofNat 64 n := BitVec.ofInt_natCast ..
  have e1 : (BitVec.ofInt 64 1) = 1#64 := rfl
  rw [e, e1, BitVec.toNat_and]
  have e3 : (1#64).toNat = 1 := rfl
  rw [e3, Nat.and_one_is_mod, BitVec.toNat_ofNat]
  omega
theorem bv_or (n m : Nat) (hn : n < 2 ^ 64) (hm : m < 2 ^ 64) : ((BitVec.ofInt 64 (n : Int) ||| BitVec.ofInt 64 (m : Int)).toNat : Int) = ((n ||| m : Nat) : Int) := by
  have e (k : Nat) : BitVec.ofInt 64 (k : Int) = BitVec.ofNat 64 k := BitVec.ofInt_natCast ..
  rw [e, e, BitVec.toNat_or, BitVec.toNat_ofNat, BitVec.toNat_ofNat, Nat.mod_eq_of_lt hn, Nat.mod_eq_of_lt hm]
theorem wrap_u64 (n : Nat) (h : n < 2 ^ 64) : IntKind.u64.wrap (n : Int) = (n : Int) := by
  show (n : Int) % 18446744073709551616 = n
  omega
theorem nneg (n : Nat) : ¬ (n : Int) < 0 := by omega
theorem u64_bit (S i : Nat) (hi : i < 64) : IntKind.u64.wrap ((@HAnd.hAnd (BitVec 64) (BitVec 64) (BitVec 64) (@instHAndOfAndOp (BitVec IntKind.u64.bits) (@BitVec.instAndOp IntKind.u64.bits)) (BitVec.ofInt 64 ((S : Int).fdiv (2 ^ min i 64))) (BitVec.ofInt 64 1)).toNat : Int) = if S.testBit i = true then 1 else 0 := by
  have e : min i 64 = i := by omega
  rw [e, fdiv_pow]
  refine (congrArg IntKind.u64.wrap (bv_and1 (S / 2 ^ i))).trans ?_
  rw [bit_div]
  by_cases h : S.testBit i = true
  · rw [if_pos h, if_pos h]; rfl
  · rw [if_neg h, if_neg h]; rfl
theorem u64_shl (i : Nat) (hi : i < 64) : IntKind.u64.wrap (1 * 2 ^ min i 64) = ((2 ^ i : Nat) : Int) := by
  have e : min i 64 = i := by omega
  have e2 : (2 : Int) ^ i = ((2 ^ i : Nat) : Int) := by simp
  rw [e, Int.one_mul, e2]
  exact wrap_u64 _ (Nat.pow_lt_pow_right (by decide) hi)
theorem u64_or (n m : Nat) (hn : n < 2 ^ 64) (hm : m < 2 ^ 64) : IntKind.u64.wrap ((@HOr.hOr (BitVec 64) (BitVec 64) (BitVec 64) (@instHOrOfOrOp (BitVec IntKind.u64.bits) (@BitVec.instOrOp IntKind.u64.bits)) (BitVec.ofInt 64 (n : Int)) (BitVec.ofInt 64 (m : Int))).toNat : Int) = ((n ||| m : Nat) : Int) := by
  refine (congrArg IntKind.u64.wrap (bv_or n m hn hm)).trans ?_
  exact wrap_u64 _ (Nat.or_lt_two_pow hn hm)
end Go.Ev
namespace Go.Ev
open Go
set_option linter.unusedVariables false
theorem u64_or1 (n : Nat) (hn : n < 2 ^ 64) : IntKind.u64.wrap ((@HOr.hOr (BitVec 64) (BitVec 64) (BitVec 64) (@instHOrOfOrOp (BitVec IntKind.u64.bits) (@BitVec.instOrOp IntKind.u64.bits)) (BitVec.ofInt 64 (n : Int)) (BitVec.ofInt 64 1)).toNat : Int) = ((n ||| 1 : Nat) : Int) := u64_or n 1 hn (by decide)
theorem or1_lt {S n : Nat} (hn : 1 ≤ n) (h : S < 2 ^ n) : S ||| 1 < 2 ^ n := Nat.or_lt_two_pow h (Nat.one_lt_two_pow (by omega))
theorem p64 {n : Nat} (h : n ≤ 40) {S : Nat} (hS : S < 2 ^ n) : S < 2 ^ 64 := Nat.lt_of_lt_of_le hS (Nat.pow_le_pow_right (by decide) (by omega))
def begC (a : DN) (x : Nat × Nat) : Nat × Nat := (x.1, if accN a x.1 = true then x.2 ||| 1 else x.2)
def succC (a b : DN) (x : Nat × Nat) : (Nat × Nat) × (Nat × Nat) × (Nat × Nat) := (begC a ((a.nx x.1).1, moveN b x.2 0), begC a ((a.nx x.1).2.1, moveN b x.2 1), begC a ((a.nx x.1).2.2, moveN b x.2 2))
def accC (b : DN) (x : Nat × Nat) : Bool := anyN b x.2
def inC (a b : DN) (x : Nat × Nat) : Prop := x.1 < a.accept.length ∧ x.2 < 2 ^ b.accept.length
theorem begC_in {a b : DN} (hb : Val b) {x : Nat × Nat} (h : inC a b x) : inC a b (begC a x) := by
  refine ⟨h.1, ?_⟩
  show (if accN a x.1 = true then x.2 ||| 1 else x.2) < _
  by_cases hc : accN a x.1 = true
  · rw [if_pos hc]; exact or1_lt hb.pos h.2
  · rw [if_neg hc]; exact h.2
theorem succC_in {a b : DN} (ha : Val a) (hb : Val b) {x : Nat × Nat} (h : inC a b x) : inC a b (succC a b x).1 ∧ inC a b (succC a b x).2.1 ∧ inC a b (succC a b x).2.2 := by
  have hn := nx_lt3 ha.ok x.1 h.1
  exact ⟨begC_in hb ⟨hn.1, moveN_lt hb.ok (by decide) _⟩, begC_in hb ⟨hn.2.1, moveN_lt hb.ok (by decide) _⟩, begC_in hb ⟨hn.2.2, moveN_lt hb.ok (by decide) _⟩⟩
theorem succC_get (a b : DN) (x : Nat × Nat) {i : Nat} (hi : i < 3) : (l3A (succC a b x))[i]'(by rw [l3A_len]; exact hi) = begC a (nx3 (a.nx x.1) i, moveN b x.2 i) := by
  match i, hi with
  | 0, _ => rfl
  | 1, _ => rfl
  | 2, _ => rfl
def listC2 (a b : DN) : List (Nat × Nat) := expL (succC a b) 400 (begC a (0, 0))
def concD (a b : DN) : Option DN := if (listC2 a b).length ≤ 400 then fitD (expD (succC a b) (accC b) (listC2 a b)) else none
/- repetition -/
def stp (d : DN) (M : Nat) : Nat := if anyN d M = true then M ||| 1 else M
def succT (d : DN) (x : Nat × Nat) : (Nat × Nat) × (Nat × Nat) × (Nat × Nat) := ((0, stp d (moveN d x.2 0)), (0, stp d (moveN d x.2 1)), (0, stp d (moveN d x.2 2)))
def accT (d : DN) (x : Nat × Nat) : Bool := x.1 == 1 || anyN d x.2
def inT (d : DN) (x : Nat × Nat) : Prop := x.1 < 2 ∧ x.2 < 2 ^ d.accept.length
theorem stp_lt {d : DN} (hd : Val d) {M : Nat} (h : M < 2 ^ d.accept.length) : stp d M < 2 ^ d.accept.length := by
  unfold stp
  by_cases hc : anyN d M = true
  · rw [if_pos hc]; exact or1_lt hd.pos h
  · rw [if_neg hc]; exact h
theorem succT_in {d : DN} (hd : Val d) {x : Nat × Nat} (h : inT d x) : inT d (succT d x).1 ∧ inT d (succT d x).2.1 ∧ inT d (succT d x).2.2 :=
  ⟨⟨by show 0 < 2; decide, stp_lt hd (moveN_lt hd.ok (by decide) _)⟩, ⟨by show 0 < 2; decide, stp_lt hd (moveN_lt hd.ok (by decide) _)⟩, ⟨by show 0 < 2; decide, stp_lt hd (moveN_lt hd.ok (by decide) _)⟩⟩
theorem succT_get (d : DN) (x : Nat × Nat) {i : Nat} (hi : i < 3) : (l3A (succT d x))[i]'(by rw [l3A_len]; exact hi) = (0, stp d (moveN d x.2 i)) := by
  match i, hi with
  | 0, _ => rfl
  | 1, _ => rfl
  | 2, _ => rfl
def listT (d : DN) : List (Nat × Nat) := expL (succT d) 400 (1, 1)
def starD (d : DN) : Option DN := if (listT d).length ≤ 400 then fitD (expD (succT d) (accT d) (listT d)) else none
end Go.Ev
namespace Go.Ev
open Go
set_option linter.unusedVariables false
section
variable {α β : Type} [DecidableEq α] [DecidableEq β]
theorem ixD_at {l : List α} {x : α} {i : Nat} (h : i < l.length) (hn : x ∉ l.take i) (e : l[i] = x) : ixD l x = i := by
  have hd : l = l.take i ++ x :: l.drop (i + 1) := by
    rw [← e, ← List.drop_eq_getElem_cons h, List.take_append_drop]
  unfold ixD
  rw [hd, List.idxOf_append, if_neg hn, List.idxOf_cons, beq_self_eq_true, cond_true, List.length_take]
  omega
theorem expD_map {f : α → β} {Q : α → Prop} (hf : ∀ x y, Q x → Q y → f x = f y → x = y) {g : α → α × α × α} {g' : β → β × β × β} {acc : α → Bool} {acc' : β → Bool} {L : List α} (hL : ∀ x ∈ L, Q x) (hQ : ∀ x, Q x → Q (g x).1 ∧ Q (g x).2.1 ∧ Q (g x).2.2) (hg : ∀ x, Q x → g' (f x) = (f (g x).1, f (g x).2.1, f (g x).2.2)) (ha : ∀ x, Q x → acc' (f x) = acc x) : expD g' acc' (L.map f) = expD g acc L := by
  unfold expD
  congr 1
  · rw [List.map_map]
    exact List.map_congr_left fun x hx => ha x (hL x hx)
  · rw [List.map_map]
    refine List.map_congr_left fun x hx => ?_
    have hx := hL x hx
    have hq := hQ x hx
    show rowD (L.map f) (g' (f x)) = rowD L (g x)
    rw [hg x hx]
    unfold rowD
    rw [ixD_map hf hL hq.1, ixD_map hf hL hq.2.1, ixD_map hf hL hq.2.2]
theorem expL_map {f : α → β} {Q : α → Prop} (hf : ∀ x y, Q x → Q y → f x = f y → x = y) {g : α → α × α × α} {g' : β → β × β × β} (hQ : ∀ x, Q x → Q (g x).1 ∧ Q (g x).2.1 ∧ Q (g x).2.2) (hg : ∀ x, Q x → g' (f x) = (f (g x).1, f (g x).2.1, f (g x).2.2)) (most : Nat) {s : α} (hs : Q s) : expL g' most (f s) = (expL g most s).map f :=
  bfs_map hf hQ hg (most + 1) [s] 0 (by simpa using hs)
theorem expL_Q {Q : α → Prop} {g : α → α × α × α} (hQ : ∀ x, Q x → Q (g x).1 ∧ Q (g x).2.1 ∧ Q (g x).2.2) (most : Nat) {s : α} (hs : Q s) : ∀ x ∈ expL g most s, Q x :=
  (bfsA_lt (f := g) (Q := Q) hQ (most + 1) [s] 0 (by simp) (by simpa using hs)).2
end
abbrev Tr3 := Nat × Nat × Bool
def enc3 (y : Tr3) : V := .agg [IN y.1, .slc false 1 ((bitsN y.2.1).map IN), B y.2.2]
def fC (x : Nat × Nat) : Tr3 := (x.1, x.2, false)
def succCr (a b : DN) (y : Tr3) : Tr3 × Tr3 × Tr3 := (fC (succC a b (y.1, y.2.1)).1, fC (succC a b (y.1, y.2.1)).2.1, fC (succC a b (y.1, y.2.1)).2.2)
def accCr (b : DN) (y : Tr3) : Bool := anyN b y.2.1
theorem fC_inj (x y : Nat × Nat) (h : fC x = fC y) : x = y := by
  have h1 : x.1 = y.1 := congrArg (fun z : Tr3 => z.1) h
  have h2 : x.2 = y.2 := congrArg (fun z : Tr3 => z.2.1) h
  exact Prod.ext h1 h2
theorem succCr_get (a b : DN) (y : Tr3) {i : Nat} (hi : i < 3) : (l3A (succCr a b y))[i]'(by rw [l3A_len]; exact hi) = fC (begC a (nx3 (a.nx y.1) i, moveN b y.2.1 i)) := by
  match i, hi with
  | 0, _ => rfl
  | 1, _ => rfl
  | 2, _ => rfl
def listCr (a b : DN) : List Tr3 := expL (succCr a b) 400 (fC (begC a (0, 0)))
theorem listCr_map {a b : DN} (ha : Val a) (hb : Val b) : listCr a b = (listC2 a b).map fC :=
  expL_map (Q := inC a b) (fun x y _ _ h => fC_inj x y h) (fun x hx => succC_in ha hb hx) (fun x hx => rfl) 400 (begC_in hb ⟨ha.pos, Nat.two_pow_pos _⟩)
theorem expCr {a b : DN} (ha : Val a) (hb : Val b) : expD (succCr a b) (accCr b) (listCr a b) = expD (succC a b) (accC b) (listC2 a b) := by
  rw [listCr_map ha hb]
  exact expD_map (Q := inC a b) (fun x y _ _ h => fC_inj x y h) (expL_Q (fun x hx => succC_in ha hb hx) 400 (begC_in hb ⟨ha.pos, Nat.two_pow_pos _⟩)) (fun x hx => succC_in ha hb hx) (fun x hx => rfl) (fun x hx => rfl)
theorem concD_r {a b : DN} (ha : Val a) (hb : Val b) : concD a b = if (listCr a b).length ≤ 400 then fitD (expD (succCr a b) (accCr b) (listCr a b)) else none := by
  rw [expCr ha hb]
  unfold concD
  rw [listCr_map ha hb, List.length_map]
def inCr (a b : DN) (y : Tr3) : Prop := y.1 < a.accept.length ∧ y.2.1 < 2 ^ b.accept.length
theorem succCr_in {a b : DN} (ha : Val a) (hb : Val b) (y : Tr3) (h : inCr a b y) : inCr a b (succCr a b y).1 ∧ inCr a b (succCr a b y).2.1 ∧ inCr a b (succCr a b y).2.2 := succC_in (x := (y.1, y.2.1)) ha hb h
/- repetition -/
def fT (x : Nat × Nat) : Tr3 := (0, x.2, x.1 == 1)
def succTr (d : DN) (y : Tr3) : Tr3 × Tr3 × Tr3 := ((0, stp d (moveN d y.2.1 0), false), (0, stp d (moveN d y.2.1 1), false), (0, stp d (moveN d y.2.1 2), false))
def accTr (d : DN) (y : Tr3) : Bool := y.2.2 || anyN d y.2.1
theorem fT_inj {d : DN} (x y : Nat × Nat) (hx : inT d x) (hy : inT d y) (h : fT x = fT y) : x = y := by
  have h1 : (x.1 == 1) = (y.1 == 1) := congrArg (fun z : Tr3 => z.2.2) h
  have h2 : x.2 = y.2 := congrArg (fun z : Tr3 => z.2.1) h
  have a1 := hx.1
  have a2 := hy.1
  refine Prod.ext ?_ h2
  rw [Bool.eq_iff_iff, beq_iff_eq, beq_iff_eq] at h1
  omega
theorem succTr_get (d : DN) (y : Tr3) {i : Nat} (hi : i < 3) : (l3A (succTr d y))[i]'(by rw [l3A_len]; exact hi) = (0, stp d (moveN d y.2.1 i), false) := by
  match i, hi with
  | 0, _ => rfl
  | 1, _ => rfl
  | 2, _ => rfl
def listTr (d : DN) : List Tr3 := expL (succTr d) 400 (0, 1, true)
theorem inT_1 {d : DN} (hd : Val d) : inT d (1, 1) := ⟨by show 1 < 2; decide, Nat.one_lt_two_pow (by have := hd.pos; omega)⟩
theorem listTr_map {d : DN} (hd : Val d) : listTr d = (listT d).map fT := by
  have e : ((0, 1, true) : Tr3) = fT (1, 1) := rfl
  unfold listTr listT
  rw [e]
  exact expL_map (Q := inT d) (f := fT) fT_inj (fun x hx => succT_in hd hx) (fun x hx => rfl) 400 (inT_1 hd)
theorem expTr {d : DN} (hd : Val d) : expD (succTr d) (accTr d) (listTr d) = expD (succT d) (accT d) (listT d) := by
  rw [listTr_map hd]
  exact expD_map (Q := inT d) (f := fT) fT_inj (by unfold listT; exact expL_Q (fun x hx => succT_in hd hx) 400 (inT_1 hd)) (fun x hx => succT_in hd hx) (fun x hx => rfl) (fun x hx => rfl)
theorem starD_r {d : DN} (hd : Val d) : starD d = if (listTr d).length ≤ 400 then fitD (expD (succTr d) (accTr d) (listTr d)) else none := by
  rw [expTr hd]
  unfold starD
  rw [listTr_map hd, List.length_map]
def inTr (d : DN) (y : Tr3) : Prop := y.2.1 < 2 ^ d.accept.length
theorem succTr_in {d : DN} (hd : Val d) (y : Tr3) (h : inTr d y) : inTr d (succTr d y).1 ∧ inTr d (succTr d y).2.1 ∧ inTr d (succTr d y).2.2 :=
  ⟨stp_lt hd (moveN_lt hd.ok (by decide) _), stp_lt hd (moveN_lt hd.ok (by decide) _), stp_lt hd (moveN_lt hd.ok (by decide) _)⟩
end Go.Ev
namespace Go.Ev
open Go
set_option linter.unusedVariables false
def cplD (d : DN) : DN := ⟨d.accept.map (!·), d.next⟩
theorem cplD_ok {d : DN} (h : d.ok) : (cplD d).ok := by
  refine ⟨by simp [cplD, h.1], ?_⟩
  intro t ht
  have := h.2 t ht
  simpa [cplD] using this
theorem accN_cpl {d : DN} {q : Nat} (h : q < d.accept.length) : accN (cplD d) q = !accN d q := by
  unfold accN cplD
  rw [List.getD_eq_getElem?_getD, List.getD_eq_getElem?_getD, List.getElem?_map, List.getElem?_eq_getElem h]
  rfl
theorem Ek_cpl {d : DN} (ho : d.ok) : ∀ k p q, p < d.accept.length → q < d.accept.length → (Ek (cplD d) k p q ↔ Ek d k p q) := by
  intro k
  induction k with
  | zero =>
    intro p q hp hq
    show accN (cplD d) p = accN (cplD d) q ↔ accN d p = accN d q
    rw [accN_cpl hp, accN_cpl hq]
    cases accN d p <;> cases accN d q <;> simp
  | succ k ih =>
    intro p q hp hq
    have np := DN.nx_lt ho hp
    have nq := DN.nx_lt ho hq
    show (Ek (cplD d) k p q ∧ Ek (cplD d) k (d.nx p).1 (d.nx q).1 ∧ Ek (cplD d) k (d.nx p).2.1 (d.nx q).2.1 ∧ Ek (cplD d) k (d.nx p).2.2 (d.nx q).2.2) ↔ _
    rw [ih p q hp hq, ih _ _ np.1 nq.1, ih _ _ np.2.1 nq.2.1, ih _ _ np.2.2 nq.2.2]
    rfl
theorem order_cpl (d : DN) (s : Nat) : order (cplD d) s = order d s := by
  unfold order
  have : (cplD d).accept.length = d.accept.length := by simp [cplD]
  rw [this]
  rfl
theorem quotS_cpl {d : DN} (ho : d.ok) {s : Nat} (hs : s < d.accept.length) : quotS (cplD d) s = cplD (quotS d s) := by
  have hlt := (order_lt ho hs).2
  have hk : Kern (cplD d) s (cl (rounds d (d.accept.length + 1) (class0 d))) := by
    refine ⟨fun x y hx hy => ?_⟩
    rw [order_cpl] at hx hy
    rw [cl_inf ho (by omega) (hlt x hx) (hlt y hy)]
    constructor
    · intro h k; exact (Ek_cpl ho k x y (hlt x hx) (hlt y hy)).2 (h k)
    · intro h k; exact (Ek_cpl ho k x y (hlt x hx) (hlt y hy)).1 (h k)
  have hl : (cplD d).accept.length = d.accept.length := by simp [cplD]
  rw [← quotS_kern (cplD_ok ho) (by rw [hl]; exact hs) hk]
  unfold quotS quot
  rw [order_cpl]
  generalize cl (rounds d (d.accept.length + 1) (class0 d)) = c
  have hm : ∀ x ∈ leadsB c (order d s), x < d.accept.length := fun x hx => hlt x (leadsB_mem hx)
  generalize leadsB c (order d s) = LS at hm
  unfold ofQuot
  show (⟨_, _⟩ : DN) = ⟨_, _⟩
  congr 1
  dsimp only
  rw [List.map_map]
  exact List.map_congr_left fun x hx => accN_cpl (hm x hx)
theorem cplD_val {d : DN} (h : Val d) : Val (cplD d) := ⟨cplD_ok h.ok, by have := h.pos; simpa [cplD] using this, by have := h.le; simpa [cplD] using this⟩
theorem quotS_val {d : DN} (h : Val d) {s : Nat} (hs : s < d.accept.length) : Val (quotS d s) := ⟨(quotS_ok h.ok hs).1, (quotS_ok h.ok hs).2, Nat.le_trans (quotS_len h.ok hs) h.le⟩
/-- what stands where some are turned already -/
def turnB (l : List Bool) (i : Nat) : List V := ((l.take i).map fun b => B (!b)) ++ (l.drop i).map B
theorem turnB_0 (l : List Bool) : turnB l 0 = l.map B := by simp [turnB]
theorem turnB_len (l : List Bool) (i : Nat) (h : i ≤ l.length) : (turnB l i).length = l.length := by simp [turnB]; omega
theorem turnB_all (l : List Bool) : turnB l l.length = (l.map (!·)).map B := by simp [turnB]
theorem turnB_get {l : List Bool} {i : Nat} (h : i < l.length) (v : V) : (turnB l i).getD i v = B l[i] := by
  unfold turnB
  have hl : ((l.take i).map fun b => B (!b)).length = i := by simp; omega
  rw [List.getD_eq_getElem?_getD, List.getElem?_append_right (by rw [hl]; exact Nat.le_refl _), hl, Nat.sub_self, List.drop_eq_getElem_cons h]
  rfl
theorem turnB_set {l : List Bool} {i : Nat} (h : i < l.length) : (turnB l i).set i (B !l[i]) = turnB l (i + 1) := by
  unfold turnB
  have hl : ((l.take i).map fun b => B (!b)).length = i := by simp; omega
  rw [List.set_append_right _ _ (by rw [hl]; exact Nat.le_refl _), hl, Nat.sub_self, List.drop_eq_getElem_cons h, List.map_cons, List.set_cons_zero, take_snoc h, List.map_append, List.append_assoc]
  rfl
def notB (b : Bool) : V := B (!b)
end Go.Ev
namespace Go.Ev
open Go
set_option linter.unusedVariables false
theorem allB_get {p : Int → Bool} {s : ByteArray} : ∀ (n i : Nat), s.size - i ≤ n → allB p s i = true → ∀ j : Nat, i ≤ j → j < s.size → p (bt s j) = true := by
  intro n
  induction n with
  | zero => intro i h _ j h1 h2; omega
  | succ n ih =>
    intro i h ha j h1 h2
    rw [allB_next p s (by omega), Bool.and_eq_true] at ha
    by_cases e : j = i
    · subst e; exact ha.1
    · exact ih (i + 1) (by omega) ha.2 j (by omega) h2
theorem word_ltr {s : ByteArray} (h : isWord s = true) {i : Nat} (hi : i < s.size) : ltr (bt s i) = 0 ∨ ltr (bt s i) = 1 ∨ ltr (bt s i) = 2 := by
  unfold isWord at h
  rw [Bool.and_eq_true] at h
  have h1 := allB_get _ 0 (Nat.le_refl _) h.2 i (Nat.zero_le _) hi
  unfold isLtr at h1
  have h1 := of_decide_eq_true h1
  unfold ltr at h1 ⊢
  repeat' split at h1
  all_goals first
    | (exfalso; omega)
    | simp_all
theorem word_le {s : ByteArray} (h : isWord s = true) : s.size ≤ 30 := by
  unfold isWord at h
  rw [Bool.and_eq_true] at h
  exact of_decide_eq_true h.1
def wc (s : ByteArray) (q : Nat) (k : Int) : Nat := if q < s.size ∧ ltr (bt s q) = k then q + 1 else s.size + 1
def rowW (s : ByteArray) (q : Nat) : Nat × Nat × Nat := (wc s q 0, wc s q 1, wc s q 2)
def wordW (s : ByteArray) : DN := ⟨(List.range (s.size + 2)).map fun q => (q == s.size), (List.range (s.size + 2)).map (rowW s)⟩
def aW (s : ByteArray) (q : Nat) : V := .bool ((q : Int) == (s.size : Int))
def rW (s : ByteArray) (q : Nat) : V := NT (rowW s q)
theorem aW_map (s : ByteArray) (n : Nat) : (List.range n).map (aW s) = ((List.range n).map fun q => (q == s.size)).map B := by
  rw [List.map_map]
  refine List.map_congr_left fun q _ => ?_
  show V.bool _ = V.bool _
  rw [nat_beq]
theorem rW_map (s : ByteArray) (n : Nat) : (List.range n).map (rW s) = ((List.range n).map (rowW s)).map NT := by rw [List.map_map]; rfl
theorem wc_lt (s : ByteArray) (q : Nat) (k : Int) : wc s q k < s.size + 2 := by
  unfold wc
  split <;> omega
theorem wordW_ok (s : ByteArray) : (wordW s).ok ∧ (wordW s).accept.length = s.size + 2 := by
  refine ⟨⟨by simp [wordW], ?_⟩, by simp [wordW]⟩
  intro t ht
  obtain ⟨q, _, rfl⟩ := List.mem_map.1 ht
  simp only [wordW, List.length_map, List.length_range]
  exact ⟨wc_lt s q 0, wc_lt s q 1, wc_lt s q 2⟩
theorem wordW_val {s : ByteArray} (h : s.size ≤ 30) : Val (wordW s) := ⟨(wordW_ok s).1, by rw [(wordW_ok s).2]; omega, by rw [(wordW_ok s).2]; omega⟩
def DN.encT (d : DN) : V := .agg [.slc true 1 (d.accept.map B), .slc true 1 (d.next.map NT)]
end Go.Ev
namespace Go.Ev
open Go
set_option linter.unusedVariables false
def anyD : DN := ⟨[false, true, false], [(1, 1, 1), (2, 2, 2), (2, 2, 2)]⟩
def noD : DN := ⟨[false], [(0, 0, 0)]⟩
def leafR (k : Int) (s : ByteArray) : DN := if k = 2 then quotS (wordW ByteArray.empty) 0 else if k = 3 then quotS (wordW s) 0 else if k = 4 then anyD else noD
def opR (k : Int) (s : ByteArray) : List (Option DN) → Option DN
  | [] => some (leafR k s)
  | [a] => a.bind fun d => if k = 9 then some (cplD (quotS d 0)) else starD d
  | a :: b :: _ => a.bind fun d => b.bind fun e => if k = 5 then concD d e else fitD (prodD k d e)
def compR (r : Rx) : Option DN := opR r.kind r.letter (r.args.attach.map fun x => compR x.1)
  termination_by SizeOf.sizeOf r
  decreasing_by exact Rx.lt _ x.2
theorem compR_eq (r : Rx) : compR r = opR r.kind r.letter (r.args.map compR) := by rw [compR, List.attach_map_val (f := compR)]
theorem anyD_val : Val anyD := ⟨⟨rfl, by decide⟩, by decide, by decide⟩
theorem noD_val : Val noD := ⟨⟨rfl, by decide⟩, by decide, by decide⟩
theorem word0 : isWord ByteArray.empty = true := by
  unfold isWord
  rw [allB]
  rfl
theorem wordQ_val {s : ByteArray} (h : isWord s = true) : Val (quotS (wordW s) 0) := quotS_val (wordW_val (word_le h)) (by rw [(wordW_ok s).2]; omega)
theorem leafR_val {k : Int} {s : ByteArray} (h : k = 3 → isWord s = true) : Val (leafR k s) := by
  unfold leafR
  by_cases h2 : k = 2
  · rw [if_pos h2]; exact wordQ_val word0
  rw [if_neg h2]
  by_cases h3 : k = 3
  · rw [if_pos h3]; exact wordQ_val (h h3)
  rw [if_neg h3]
  by_cases h4 : k = 4
  · rw [if_pos h4]; exact anyD_val
  · rw [if_neg h4]; exact noD_val
theorem concD_val {a b e : DN} (ha : Val a) (hb : Val b) (h : concD a b = some e) : Val e := by
  unfold concD at h
  by_cases hl : (listC2 a b).length ≤ 400
  · rw [if_pos hl] at h
    exact fitD_val (expD_ok hl).1 (expD_ok hl).2.1 h
  · rw [if_neg hl] at h; cases h
theorem starD_val {d e : DN} (hd : Val d) (h : starD d = some e) : Val e := by
  unfold starD at h
  by_cases hl : (listT d).length ≤ 400
  · rw [if_pos hl] at h
    exact fitD_val (expD_ok hl).1 (expD_ok hl).2.1 h
  · rw [if_neg hl] at h; cases h
theorem good_args {r : Rx} (h : r.good = true) : (∀ x ∈ r.args, x.good = true) ∧ okTop r = true := by
  rw [Rx.good_eq, Bool.and_eq_true, List.all_eq_true] at h
  exact ⟨fun x hx => h.1 _ (List.mem_map_of_mem hx), h.2⟩
theorem okTop_word {r : Rx} (h : okTop r = true) (k : r.kind = 3) : isWord r.letter = true := by
  unfold okTop at h
  rw [if_pos k, Bool.and_eq_true, Bool.and_eq_true] at h
  exact h.2.2
theorem okTop_len {r : Rx} (h : okTop r = true) : (r.args.length : Int) = argN r.kind := by
  unfold okTop at h
  rw [Bool.and_eq_true, beq_iff_eq] at h
  exact h.1
theorem compR_val (r : Rx) (hg : r.good = true) {e : DN} (h : compR r = some e) : Val e := by
  obtain ⟨h1, h2⟩ := good_args hg
  have ih : ∀ x ∈ r.args, ∀ d, compR x = some d → Val d := fun x hx d hd => compR_val x (h1 x hx) hd
  rw [compR_eq] at h
  match ha : r.args, h with
  | [], h =>
    rw [List.map_nil] at h
    cases h
    exact leafR_val (okTop_word h2)
  | [x], h =>
    rw [List.map_cons, List.map_nil] at h
    have hx := ih x (by rw [ha]; exact List.mem_cons_self ..)
    unfold opR at h
    cases hc : compR x with
    | none => rw [hc] at h; cases h
    | some d =>
      rw [hc] at h
      change (if r.kind = 9 then some (cplD (quotS d 0)) else starD d) = some e at h
      have hd := hx _ hc
      by_cases k9 : r.kind = 9
      · rw [if_pos k9] at h
        cases h
        exact cplD_val (quotS_val hd hd.pos)
      · rw [if_neg k9] at h
        exact starD_val hd h
  | x :: y :: l, h =>
    rw [List.map_cons, List.map_cons] at h
    have hx := ih x (by rw [ha]; exact List.mem_cons_self ..)
    have hy := ih y (by rw [ha]; exact List.mem_cons_of_mem _ (List.mem_cons_self ..))
    unfold opR at h
    cases hc : compR x with
    | none => rw [hc] at h; cases h
    | some d =>
      cases hc' : compR y with
      | none => rw [hc, hc'] at h; cases h
      | some f =>
        rw [hc, hc'] at h
        change (if r.kind = 5 then concD d f else fitD (prodD r.kind d f)) = some e at h
        have hd := hx _ hc
        have hf := hy _ hc'
        by_cases k5 : r.kind = 5
        · rw [if_pos k5] at h
          exact concD_val hd hf h
        · rw [if_neg k5] at h
          exact fitD_val (prodD_ok hd hf).1 (prodD_ok hd hf).2.1 h
  termination_by SizeOf.sizeOf r
  decreasing_by exact Rx.lt _ hx
/-- arities -/
theorem good_cases {r : Rx} (h : r.good = true) : ((r.kind = 1 ∨ r.kind = 2 ∨ r.kind = 3 ∨ r.kind = 4) ∧ r.args = []) ∨ ((r.kind = 8 ∨ r.kind = 9) ∧ ∃ x, r.args = [x]) ∨ ((r.kind = 5 ∨ r.kind = 6 ∨ r.kind = 7) ∧ ∃ x y, r.args = [x, y]) := by
  have hl := okTop_len (good_args h).2
  unfold argN at hl
  by_cases h1 : r.kind = 1 ∨ r.kind = 2 ∨ r.kind = 3 ∨ r.kind = 4
  · rw [if_pos h1] at hl
    exact Or.inl ⟨h1, List.eq_nil_of_length_eq_zero (by omega)⟩
  rw [if_neg h1] at hl
  by_cases h2 : r.kind = 8 ∨ r.kind = 9
  · rw [if_pos h2] at hl
    refine Or.inr (Or.inl ⟨h2, ?_⟩)
    match ha : r.args, hl with
    | [], hl => simp at hl
    | [x], _ => exact ⟨x, rfl⟩
    | x :: y :: l, hl => simp at hl; omega
  rw [if_neg h2] at hl
  by_cases h3 : r.kind = 5 ∨ r.kind = 6 ∨ r.kind = 7
  · rw [if_pos h3] at hl
    refine Or.inr (Or.inr ⟨h3, ?_⟩)
    match ha : r.args, hl with
    | [], hl => simp at hl
    | [x], hl => simp at hl
    | [x, y], _ => exact ⟨x, y, rfl⟩
    | x :: y :: z :: l, hl => simp at hl; omega
  · rw [if_neg h3] at hl
    omega
end Go.Ev
