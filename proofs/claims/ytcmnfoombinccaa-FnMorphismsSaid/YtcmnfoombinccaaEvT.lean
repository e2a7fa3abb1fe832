/- A solution of an equation passes through one of its moves: bytes as lists. No statement of the seat is proved here. What a minimal automaton accepts is what the automaton accepts; words behind words. Images: an automaton's preimage accepts what the image accepts; images of images. An argument that reads as data, as a tree. -/
import Derived.OpenShut
import Derived.ProofKit
import Derived.ChangeOld
import Derived.DataReads
import Derived.Test.YtcmnfoombinccaaEvS
import Derived.Test.YtcmnfoombinccaaEvR
import Derived.Test.YtcmnfoombinccaaEvN
import Derived.Test.YtcmnfoombinccaaEvO
set_option linter.unusedVariables false
set_option linter.unusedSimpArgs false
namespace Go.Ev
open Go
set_option linter.unusedVariables false
def LL (s : ByteArray) : List Int := s.data.toList.map fun b => (b.toNat : Int)
theorem LL_len (s : ByteArray) : (LL s).length = s.size := by unfold LL; simp
theorem LL_get (s : ByteArray) {i : Nat} (h : i < s.size) : (LL s)[i]? = some (bt s i) := by
  unfold LL bt
  have h' : (i : Int).toNat < s.size := by simpa using h
  rw [dif_pos h']
  simp only [List.getElem?_map, Array.getElem?_toList, Int.toNat_natCast]
  rw [Array.getElem?_eq_getElem (by simpa using h)]
  rfl
theorem LL_app (a b : ByteArray) : LL (a ++ b) = LL a ++ LL b := by unfold LL; rw [ByteArray.data_append]; simp
theorem LL_inj {a b : ByteArray} (h : LL a = LL b) : a = b := by
  have hl : a.size = b.size := by rw [← LL_len, ← LL_len, h]
  have : a.data = b.data := by
    apply Array.ext
    · simpa using hl
    · intro i h1 h2
      have e := congrArg (fun l => l[i]?) h
      unfold LL at e
      simp only [List.getElem?_map, Array.getElem?_toList, Array.getElem?_eq_getElem h1, Array.getElem?_eq_getElem h2, Option.map_some, Option.some.injEq] at e
      have e2 : a.data[i].toNat = b.data[i].toNat := by omega
      exact UInt8.toNat_inj.1 e2
  cases a; cases b; simpa using this
theorem LL_nil {s : ByteArray} : LL s = [] ↔ s.size = 0 := by rw [← LL_len, List.length_eq_zero_iff]
theorem LL_ext (s : ByteArray) (a b : Nat) : LL (s.extract a b) = ((LL s).take b).drop a := by
  unfold LL
  rw [ByteArray.data_extract, Array.toList_extract, List.extract_eq_take_drop, List.map_take, List.map_drop, List.drop_take]
theorem LL_one (s : ByteArray) {i : Nat} (h : i < s.size) : LL (one s i) = [bt s i] := by
  unfold one
  rw [LL_ext]
  have h1 : i < (LL s).length := by rw [LL_len]; exact h
  have h2 := LL_get s h
  rw [List.getElem?_eq_getElem h1] at h2
  rw [List.drop_take, Nat.add_sub_cancel_left, List.drop_eq_getElem_cons h1, Option.some.inj h2]
  rfl
theorem repl_LL (f : Nat → ByteArray) (s : ByteArray) (g : Int → List Int) (B : Nat) (hf : ∀ i, i < s.size → LL (f i) = g (bt s i)) (hB : ∀ i, i < s.size → (f i).size ≤ B) : ∀ (n i : Nat) (out : ByteArray), s.size - i = n → out.size + n * B ≤ 1048576 → LL (repl f s i out) = LL out ++ ((LL s).drop i).flatMap g := by
  intro n
  induction n with
  | zero =>
    intro i out hn _
    rw [repl_end (by omega), List.drop_of_length_le (by rw [LL_len]; omega)]
    simp
  | succ n ih =>
    intro i out hn ho
    have hi : i < s.size := by omega
    have hb := hB i hi
    have e : (n + 1) * B = n * B + B := by rw [Nat.add_mul, Nat.one_mul]
    have h1 : i < (LL s).length := by rw [LL_len]; exact hi
    have h2 := LL_get s hi
    rw [List.getElem?_eq_getElem h1] at h2
    have hz : (out ++ f i).size = out.size + (f i).size := ByteArray.size_append
    rw [repl_next hi, if_neg (by omega), ih (i + 1) _ (by omega) (by omega), LL_app, hf i hi, List.drop_eq_getElem_cons h1, Option.some.inj h2, List.flatMap_cons, List.append_assoc]
def gA (v : Vals) (c : Int) : List Int := if isVar c = true then LL (v.of c) else [c]
def gR (name : Int) (b : List Int) (c : Int) : List Int := if c = name then b else [c]
theorem appB_LL (s : ByteArray) (v : Vals) (hv : v.le 5) (hs : s.size ≤ 1000) : LL (appB s v) = (LL s).flatMap (gA v) := by
  have := repl_LL (appF s v) s (gA v) 5 (fun i hi => by
    unfold appF gA
    split
    · rfl
    · exact LL_one s hi) (fun i hi => by
    unfold appF
    split
    · exact Vals.of_le hv _
    · have := one_size s i hi; omega) s.size 0 ⟨#[]⟩ (by omega) (by show 0 + _ ≤ _; omega)
  exact this
theorem repV_LL (s : ByteArray) (c : Int) (b : ByteArray) (hb : b.size ≤ 2) (hs : s.size ≤ 1000) : LL (repV s c b) = (LL s).flatMap (gR c (LL b)) := by
  have := repl_LL (fun i => if bt s i = c then b else one s i) s (gR c (LL b)) 2 (fun i hi => by
    unfold gR
    split
    · rfl
    · exact LL_one s hi) (fun i hi => by
    split
    · exact hb
    · have := one_size s i hi; omega) s.size 0 ⟨#[]⟩ (by omega) (by show 0 + _ ≤ _; omega)
  exact this
theorem lcp_spec (l r : ByteArray) : ∀ (n k : Nat), l.size - k ≤ n → k ≤ lcp l r k ∧ (∀ i, k ≤ i → i < lcp l r k → i < l.size ∧ i < r.size ∧ bt l i = bt r i) ∧ ¬ (lcp l r k < l.size ∧ lcp l r k < r.size ∧ bt l (lcp l r k) = bt r (lcp l r k)) := by
  intro n
  induction n with
  | zero =>
    intro k hk
    have h : ¬ (k < l.size ∧ k < r.size ∧ bt l k = bt r k) := fun h => by have := h.1; omega
    rw [lcp_end h]
    exact ⟨Nat.le_refl _, fun i h1 h2 => absurd h2 (by omega), h⟩
  | succ n ih =>
    intro k hk
    by_cases h : k < l.size ∧ k < r.size ∧ bt l k = bt r k
    · rw [lcp_next h.1 h.2.1 h.2.2]
      obtain ⟨h1, h2, h3⟩ := ih (k + 1) (by have := h.1; omega)
      refine ⟨by omega, fun i hi hj => ?_, h3⟩
      rcases Nat.eq_or_lt_of_le hi with rfl | hi
      · exact h
      · exact h2 i hi hj
    · rw [lcp_end h]
      exact ⟨Nat.le_refl _, fun i h1 h2 => absurd h2 (by omega), h⟩
/-- two sides: what is common in front, and the rests -/
theorem strip_parts (e : Equ) : ∃ p, LL e.left = p ++ LL (strip e).left ∧ LL e.right = p ++ LL (strip e).right ∧ ∀ c d s t, LL (strip e).left = c :: s → LL (strip e).right = d :: t → c ≠ d := by
  obtain ⟨_, h2, h3⟩ := lcp_spec e.left e.right e.left.size 0 (by omega)
  unfold strip
  dsimp only
  generalize lcp e.left e.right 0 = k at h2 h3
  have kl : k ≤ e.left.size := by
    rcases Nat.eq_zero_or_pos k with h | h
    · omega
    · have := (h2 (k - 1) (Nat.zero_le _) (by omega)).1; omega
  have kr : k ≤ e.right.size := by
    rcases Nat.eq_zero_or_pos k with h | h
    · omega
    · have := (h2 (k - 1) (Nat.zero_le _) (by omega)).2.1; omega
  have el : ∀ s : ByteArray, LL (ext s k) = (LL s).drop k := fun s => by
    unfold ext
    rw [LL_ext, List.take_of_length_le (by rw [LL_len]; exact Nat.le_refl _)]
  have et : (LL e.left).take k = (LL e.right).take k := by
    refine List.ext_getElem? fun i => ?_
    rw [List.getElem?_take, List.getElem?_take]
    by_cases hi : i < k
    · obtain ⟨a1, a2, a3⟩ := h2 i (Nat.zero_le _) hi
      rw [if_pos hi, if_pos hi, LL_get _ a1, LL_get _ a2, a3]
    · rw [if_neg hi, if_neg hi]
  refine ⟨(LL e.left).take k, by rw [el, List.take_append_drop], by rw [el, et, List.take_append_drop], fun c d s t h4 h5 => ?_⟩
  rw [el] at h4 h5
  rintro rfl
  have g4 : (LL e.left)[k]? = some c := by
    have := congrArg (fun l => l[0]?) h4
    simpa using this
  have g5 : (LL e.right)[k]? = some c := by
    have := congrArg (fun l => l[0]?) h5
    simpa using this
  have k4 : k < e.left.size := by
    have := (List.getElem?_eq_some_iff.1 g4).1
    rwa [LL_len] at this
  have k5 : k < e.right.size := by
    have := (List.getElem?_eq_some_iff.1 g5).1
    rwa [LL_len] at this
  rw [LL_get _ k4] at g4
  rw [LL_get _ k5] at g5
  exact h3 ⟨k4, k5, by rw [Option.some.inj g4, Option.some.inj g5]⟩
theorem allB_iff (p : Int → Bool) (s : ByteArray) : ∀ (n i : Nat), s.size - i ≤ n → (allB p s i = true ↔ ∀ j, i ≤ j → j < s.size → p (bt s j) = true) := by
  intro n
  induction n with
  | zero =>
    intro i hi
    rw [allB_end _ _ (by omega)]
    exact ⟨fun _ j h1 h2 => absurd h2 (by omega), fun _ => rfl⟩
  | succ n ih =>
    intro i hi
    by_cases h : i < s.size
    · rw [allB_next _ _ h, Bool.and_eq_true, ih (i + 1) (by omega)]
      constructor
      · rintro ⟨h1, h2⟩ j hj hj2
        rcases Nat.eq_or_lt_of_le hj with rfl | hj
        · exact h1
        · exact h2 j hj hj2
      · intro h1
        exact ⟨h1 i (Nat.le_refl _) h, fun j h2 h3 => h1 j (by omega) h3⟩
    · rw [allB_end _ _ h]
      exact ⟨fun _ j h1 h2 => absurd h2 (by omega), fun _ => rfl⟩
theorem allB_LL (p : Int → Bool) (s : ByteArray) : allB p s 0 = true ↔ ∀ c ∈ LL s, p c = true := by
  rw [allB_iff p s s.size 0 (by omega)]
  constructor
  · intro h c hc
    obtain ⟨i, hi, e⟩ := List.getElem_of_mem hc
    have hi' : i < s.size := by rwa [LL_len] at hi
    have := LL_get s hi'
    rw [List.getElem?_eq_getElem hi, e] at this
    rw [Option.some.inj this]
    exact h i (Nat.zero_le _) hi'
  · intro h j _ hj
    exact h _ (List.mem_of_getElem? (LL_get s hj))
theorem bt0 {s : ByteArray} {c : Int} {t : List Int} (h : LL s = c :: t) : bt s 0 = c := by
  have hl : 0 < s.size := by rw [← LL_len, h]; simp
  have := LL_get s hl
  rw [h] at this
  exact (Option.some.inj this).symm
theorem gA_nil {v : Vals} {c : Int} (h : gA v c = []) : isVar c = true ∧ LL (v.of c) = [] := by
  unfold gA at h
  split at h
  · rename_i hv; exact ⟨hv, h⟩
  · cases h
theorem flat_nil {v : Vals} {l : List Int} (h : l.flatMap (gA v) = []) : ∀ c ∈ l, gA v c = [] := by
  intro c hc
  rw [List.flatMap_eq_nil_iff] at h
  exact h c hc
/-- a solution solves the rests, too -/
theorem rests {e : Equ} {v : Vals} (hs : Solves e v) (hl : e.left.size ≤ 1000) (hr : e.right.size ≤ 1000) : (LL (strip e).left).flatMap (gA v) = (LL (strip e).right).flatMap (gA v) := by
  obtain ⟨p, h1, h2, _⟩ := strip_parts e
  have h3 := congrArg LL hs.2
  rw [appB_LL _ v hs.1 hl, appB_LL _ v hs.1 hr, h1, h2, List.flatMap_append, List.flatMap_append] at h3
  exact List.append_cancel_left h3
theorem no_clash {e : Equ} {v : Vals} (hs : Solves e v) (hl : e.left.size ≤ 1000) (hr : e.right.size ≤ 1000) : clash (strip e) = false := by
  have hA := rests hs hl hr
  obtain ⟨p, h1, h2, h3⟩ := strip_parts e
  unfold clash
  have one : ∀ {a b : ByteArray}, a.size = 0 → (LL a).flatMap (gA v) = (LL b).flatMap (gA v) → allB isVar (a ++ b) 0 = true ∧ allB isVar (b ++ a) 0 = true := by
    intro a b ha hab
    have e1 : LL a = [] := LL_nil.2 ha
    rw [e1] at hab
    have h4 := flat_nil hab.symm
    rw [allB_LL, allB_LL, LL_app, LL_app, e1, List.nil_append, List.append_nil]
    exact ⟨fun c hc => (gA_nil (h4 c hc)).1, fun c hc => (gA_nil (h4 c hc)).1⟩
  split
  · rename_i h
    rcases h with h | h
    · rw [(one h hA).1]; rfl
    · rw [(one h hA.symm).2]; rfl
  · rename_i h
    have hl0 : LL (strip e).left ≠ [] := fun e1 => h (.inl (LL_nil.1 e1))
    have hr0 : LL (strip e).right ≠ [] := fun e1 => h (.inr (LL_nil.1 e1))
    obtain ⟨c, s, hc⟩ := List.exists_cons_of_ne_nil hl0
    obtain ⟨d, t, hd⟩ := List.exists_cons_of_ne_nil hr0
    have hcd := h3 c d s t hc hd
    rw [bt0 hc, bt0 hd]
    cases h5 : isVar c <;> cases h6 : isVar d <;> try rfl
    exfalso
    rw [hc, hd, List.flatMap_cons, List.flatMap_cons] at hA
    unfold gA at hA
    rw [if_neg (by rw [h5]; decide), if_neg (by rw [h6]; decide)] at hA
    exact hcd (List.cons.inj hA).1
/-- what is put for a variable may be valued first -/
theorem gR_gA (v v' : Vals) (name : Int) (b : List Int) (h1 : gA v name = b.flatMap (gA v')) (h2 : ∀ c, c ≠ name → gA v' c = gA v c) (l : List Int) : (l.flatMap (gR name b)).flatMap (gA v') = l.flatMap (gA v) := by
  rw [List.flatMap_assoc]
  refine congrArg List.flatten (List.map_congr_left fun c _ => ?_)
  unfold gR
  split
  · rename_i e; subst e; exact h1.symm
  · rename_i e; simpa using h2 c e
/-- does a move fit: the values behind it solve what it leaves, and told back they are the values before it -/
def Fits (e : Equ) (v : Vals) (m : Mov) : Prop := (undo v m).2 = true ∧ appB (strip ⟨repV e.left m.name m.by_, repV e.right m.name m.by_⟩).left (undo v m).1 = appB (strip ⟨repV e.left m.name m.by_, repV e.right m.name m.by_⟩).right (undo v m).1 ∧ rev (undo v m).1 m = v
/-- the rests of two sides have one value if the sides have -/
theorem strip_same {e : Equ} {v : Vals} (hv : v.le 5) (hl : e.left.size ≤ 1000) (hr : e.right.size ≤ 1000) (h : (LL e.left).flatMap (gA v) = (LL e.right).flatMap (gA v)) : appB (strip e).left v = appB (strip e).right v := by
  obtain ⟨p, h1, h2, _⟩ := strip_parts e
  obtain ⟨s1, s2⟩ := strip_le e
  refine LL_inj ?_
  rw [appB_LL _ v hv (by omega), appB_LL _ v hv (by omega)]
  rw [h1, h2, List.flatMap_append, List.flatMap_append] at h
  exact List.append_cancel_left h
theorem moved_same {e : Equ} {v v' : Vals} (hs : Solves e v) (hv : v'.le 5) (hl : e.left.size ≤ 100) (hr : e.right.size ≤ 100) (name : Int) (b : ByteArray) (hb : b.size ≤ 2) (h1 : gA v name = (LL b).flatMap (gA v')) (h2 : ∀ c, c ≠ name → gA v' c = gA v c) :
    appB (strip ⟨repV e.left name b, repV e.right name b⟩).left v' = appB (strip ⟨repV e.left name b, repV e.right name b⟩).right v' := by
  have sz : ∀ s : ByteArray, s.size ≤ 100 → (repV s name b).size ≤ 1000 := fun s h => by
    rw [← LL_len, repV_LL s name b hb (by omega)]
    have : ∀ l : List Int, (l.flatMap (gR name (LL b))).length ≤ l.length * 2 := by
      intro l
      induction l with
      | nil => simp
      | cons c l ih =>
        rw [List.flatMap_cons, List.length_append, List.length_cons, Nat.add_mul, Nat.one_mul]
        have : (gR name (LL b) c).length ≤ 2 := by
          unfold gR; split
          · rw [LL_len]; exact hb
          · simp
        omega
    have := this (LL s)
    rw [LL_len] at this
    omega
  refine strip_same hv (sz _ hl) (sz _ hr) ?_
  have h3 := congrArg LL hs.2
  rw [appB_LL _ v hs.1 (by omega), appB_LL _ v hs.1 (by omega)] at h3
  show (LL (repV e.left name b)).flatMap (gA v') = (LL (repV e.right name b)).flatMap (gA v')
  rw [repV_LL _ _ _ hb (by omega), repV_LL _ _ _ hb (by omega), gR_gA v v' name (LL b) h1 h2, gR_gA v v' name (LL b) h1 h2]
  exact h3
end Go.Ev
namespace Go.Ev
open Go
set_option linter.unusedVariables false
theorem getD_mem_idx {L : List Nat} {c : Nat → Nat} {x : Nat} (h : ∃ z ∈ L, c z = c x) : ∃ z, z ∈ L ∧ c z = c x ∧ (L.map c).idxOf (c x) < L.length ∧ L.getD ((L.map c).idxOf (c x)) 0 = z := by
  obtain ⟨z, hz, e⟩ := h
  have hm : c x ∈ L.map c := List.mem_map.2 ⟨z, hz, e⟩
  have hlt := List.idxOf_lt_length_of_mem hm
  rw [List.length_map] at hlt
  refine ⟨L.getD ((L.map c).idxOf (c x)) 0, ?_, ?_, hlt, rfl⟩
  · rw [List.getD_eq_getElem?_getD, List.getElem?_eq_getElem hlt]
    exact List.getElem_mem hlt
  · have h1 := at0_idx hm
    unfold at0 at h1
    rw [List.getD_eq_getElem?_getD, List.getElem?_map, List.getElem?_eq_getElem hlt] at h1
    rw [List.getD_eq_getElem?_getD, List.getElem?_eq_getElem hlt]
    exact h1
theorem nxL_c3 (c : Nat → Nat) (t : Nat × Nat × Nat) (ch : Int) : nxL (c3 c t) ch = c (nxL t ch) := by
  unfold nxL c3
  split
  · rfl
  split <;> rfl
theorem nxL_row (L : List Nat) (t : Nat × Nat × Nat) (ch : Int) : nxL (rowOf L t) ch = L.idxOf (nxL t ch) := by
  unfold nxL rowOf
  split
  · rfl
  split <;> rfl
theorem nxL_inf {d : DN} {p q : Nat} (h : Einf d p q) (ch : Int) : Einf d (nxL (d.nx p) ch) (nxL (d.nx q) ch) := by
  obtain ⟨h1, h2, h3⟩ := h.nx
  unfold nxL
  split
  · exact h1
  split
  · exact h2
  · exact h3
theorem nxL_in {t : Nat × Nat × Nat} {X : List Nat} (h : in3 t X) (ch : Int) : nxL t ch ∈ X := by
  obtain ⟨h1, h2, h3⟩ := h
  unfold nxL
  split
  · exact h1
  split
  · exact h2
  · exact h3
theorem quot_walk {d : DN} (ho : d.ok) {q0 : Nat} (hq : q0 < d.accept.length) {c : Nat → Nat} (hc : ∀ x y, x < d.accept.length → y < d.accept.length → (c x = c y ↔ Einf d x y)) (s : ByteArray) : ∀ (n p i : Nat), s.size - i ≤ n → p ∈ order d q0 → accN (quot d c q0) (walk (quot d c q0) s (((leadsB c (order d q0)).map c).idxOf (c p)) i) = accN d (walk d s p i) := by
  have hlt := (order_lt ho hq).2
  have hcov : ∀ p, p ∈ order d q0 → ∃ z, z ∈ leadsB c (order d q0) ∧ c z = c p ∧ ((leadsB c (order d q0)).map c).idxOf (c p) < (leadsB c (order d q0)).length ∧ (leadsB c (order d q0)).getD (((leadsB c (order d q0)).map c).idxOf (c p)) 0 = z := fun p hp => getD_mem_idx (leadsB_cov hp)
  intro n
  induction n with
  | zero =>
    intro p i h hp
    rw [walk_end (by omega), walk_end (by omega)]
    obtain ⟨z, hz, e, hl, hg⟩ := hcov p hp
    have hi : Einf d z p := (hc z p (hlt z (leadsB_mem hz)) (hlt p hp)).1 e
    unfold quot ofQuot
    show List.getD _ _ _ = _
    rw [List.getD_eq_getElem?_getD, List.getElem?_map, List.getElem?_eq_getElem hl]
    rw [List.getD_eq_getElem?_getD, List.getElem?_eq_getElem hl] at hg
    have hg' : (leadsB c (order d q0))[((leadsB c (order d q0)).map c).idxOf (c p)] = z := hg
    show accN d _ = _
    rw [hg']
    exact hi.acc
  | succ n ih =>
    intro p i h hp
    by_cases k : i < s.size
    rotate_left
    · exact ih p i (by omega) hp
    obtain ⟨z, hz, e, hl, hg⟩ := hcov p hp
    have hi : Einf d z p := (hc z p (hlt z (leadsB_mem hz)) (hlt p hp)).1 e
    have hzo : z ∈ order d q0 := leadsB_mem hz
    rw [walk_next k, walk_next k]
    have hp' : nxL (d.nx p) (bt s i) ∈ order d q0 := nxL_in (order_clo ho hq p hp) _
    have hz' : nxL (d.nx z) (bt s i) ∈ order d q0 := nxL_in (order_clo ho hq z hzo) _
    have hce : c (nxL (d.nx z) (bt s i)) = c (nxL (d.nx p) (bt s i)) := (hc _ _ (hlt _ hz') (hlt _ hp')).2 (nxL_inf hi _)
    have e2 : nxL ((quot d c q0).nx (((leadsB c (order d q0)).map c).idxOf (c p))) (bt s i) = ((leadsB c (order d q0)).map c).idxOf (c (nxL (d.nx p) (bt s i))) := by
      have : (quot d c q0).nx (((leadsB c (order d q0)).map c).idxOf (c p)) = rowOf ((leadsB c (order d q0)).map c) (c3 c (d.nx z)) := by
        unfold quot ofQuot DN.nx
        dsimp only
        rw [List.getD_eq_getElem?_getD, List.getElem?_map, List.getElem?_eq_getElem hl]
        rw [List.getD_eq_getElem?_getD, List.getElem?_eq_getElem hl] at hg
        have hg' : (leadsB c (order d q0))[((leadsB c (order d q0)).map c).idxOf (c p)] = z := hg
        show rowOf _ (c3 c (d.next.getD _ _)) = _
        rw [hg']
      rw [this, nxL_row, nxL_c3, hce]
    rw [e2]
    exact ih _ _ (by omega) hp'
theorem leadsB_head {c : Nat → Nat} {x : Nat} {X : List Nat} : ∃ t, leadsB c (x :: X) = x :: t := by
  have h : leadsB c (x :: X) = leadsF c [x] X := rfl
  obtain ⟨t, ht⟩ := leadsF_pre c X [x]
  exact ⟨t, by rw [h, ← ht]; rfl⟩
theorem order_head (d : DN) (s : Nat) : ∃ t, order d s = s :: t := by
  obtain ⟨t, ht⟩ := bfs_pre d.nx d.accept.length [s] 0
  exact ⟨t, by unfold order; rw [← ht]; rfl⟩
/-- the minimal automaton accepts what the automaton accepts from its start -/
theorem accD_quotS {d : DN} (ho : d.ok) {q : Nat} (hq : q < d.accept.length) (s : ByteArray) : accD (quotS d q) s = accN d (walk d s q 0) := by
  have h := quot_walk ho hq (c := cl (rounds d (d.accept.length + 1) (class0 d))) (fun x y hx hy => cl_inf ho (by omega) hx hy) s (s.size - 0) q 0 (Nat.le_refl _) (order_start d q)
  have e0 : ((leadsB (cl (rounds d (d.accept.length + 1) (class0 d))) (order d q)).map (cl (rounds d (d.accept.length + 1) (class0 d)))).idxOf (cl (rounds d (d.accept.length + 1) (class0 d)) q) = 0 := by
    obtain ⟨t, ht⟩ := order_head d q
    rw [ht]
    obtain ⟨t', ht'⟩ := leadsB_head (c := cl (rounds d (d.accept.length + 1) (class0 d))) (x := q) (X := t)
    rw [ht']
    simp
  rw [e0] at h
  exact h
theorem walk_app1 (d : DN) (s w : ByteArray) : ∀ (n q i : Nat), s.size - i ≤ n → i ≤ s.size → walk d (s ++ w) q i = walk d (s ++ w) (walk d s q i) s.size := by
  intro n
  induction n with
  | zero =>
    intro q i h hi
    obtain rfl : i = s.size := by omega
    rw [walk_end (s := s) (by omega)]
  | succ n ih =>
    intro q i h hi
    by_cases k : i < s.size
    · rw [walk_next (s := s) k, walk_next (s := s ++ w) (by rw [ByteArray.size_append]; omega), bt_append_l s w k]
      exact ih _ _ (by omega) (by omega)
    · obtain rfl : i = s.size := by omega
      rw [walk_end (s := s) (by omega)]
theorem walk_app2 (d : DN) (s w : ByteArray) : ∀ (n q i : Nat), w.size - i ≤ n → walk d (s ++ w) q (s.size + i) = walk d w q i := by
  intro n
  induction n with
  | zero => intro q i h; rw [walk_end (by rw [ByteArray.size_append]; omega), walk_end (by omega)]
  | succ n ih =>
    intro q i h
    by_cases k : i < w.size
    · have hb := bt_append_r s w (i := s.size + i) (by omega) (by rw [ByteArray.size_append]; omega)
      have e : s.size + i - s.size = i := by omega
      rw [e] at hb
      rw [walk_next (s := w) k, walk_next (s := s ++ w) (by rw [ByteArray.size_append]; omega), hb]
      exact ih _ (i + 1) (by omega)
    · rw [walk_end (s := w) k, walk_end (by rw [ByteArray.size_append]; omega)]
theorem walk_app (d : DN) (s w : ByteArray) (q : Nat) : walk d (s ++ w) q 0 = walk d w (walk d s q 0) 0 := by
  rw [walk_app1 d s w (s.size - 0) q 0 (Nat.le_refl _) (Nat.zero_le _)]
  exact walk_app2 d s w (w.size - 0) _ 0 (Nat.le_refl _)
theorem walk_rq (d : DN) (s w : ByteArray) : ∀ (n q i : Nat), w.size - i ≤ n → walk (rqD d s) w q i = walk d w q i := by
  intro n
  induction n with
  | zero => intro q i h; rw [walk_end (by omega), walk_end (by omega)]
  | succ n ih =>
    intro q i h
    by_cases k : i < w.size
    · rw [walk_next k, walk_next k]; exact ih _ _ (by omega)
    · rw [walk_end k, walk_end k]
theorem acc_left {d : DN} (hv : Val d) (s w : ByteArray) : accD (quotS d (walk d s 0 0)) w = accD d (s ++ w) := by
  rw [accD_quotS hv.ok (walk_lt hv.ok s _ 0 0 (Nat.le_refl _) hv.pos)]
  unfold accD accN
  rw [walk_app]
theorem acc_right {d : DN} (hv : Val d) (s w : ByteArray) : accD (quotS (rqD d s) 0) w = accD d (w ++ s) := by
  rw [accD_quotS (rqD_ok hv.ok s) (by rw [rqD_len]; exact hv.pos)]
  have hlt := walk_lt hv.ok w _ 0 0 (Nat.le_refl _) hv.pos
  rw [walk_rq d s w _ 0 0 (Nat.le_refl _)]
  unfold accD
  rw [walk_app]
  unfold accN rqD
  dsimp only
  rw [List.getD_eq_getElem?_getD, List.getElem?_map, List.getElem?_range hlt]
  rfl
theorem isWord_app {s w : ByteArray} (hs : s.size ≤ 20) (hw : w.size ≤ 5) : isWord (s ++ w) = (isWord s && isWord w) := by
  have key : allB isLtr (s ++ w) 0 = (allB isLtr s 0 && allB isLtr w 0) := by
    rw [Bool.eq_iff_iff, Bool.and_eq_true, allB_iff _ _ _ 0 (Nat.le_refl _), allB_iff _ _ _ 0 (Nat.le_refl _), allB_iff _ _ _ 0 (Nat.le_refl _)]
    constructor
    · intro h
      refine ⟨fun j _ hj => ?_, fun j _ hj => ?_⟩
      · have := h j (Nat.zero_le _) (by rw [ByteArray.size_append]; omega)
        rwa [bt_append_l s w hj] at this
      · have := h (s.size + j) (Nat.zero_le _) (by rw [ByteArray.size_append]; omega)
        rw [bt_append_r s w (by omega) (by rw [ByteArray.size_append]; omega)] at this
        rwa [show s.size + j - s.size = j by omega] at this
    · rintro ⟨h1, h2⟩ j _ hj
      rw [ByteArray.size_append] at hj
      by_cases k : j < s.size
      · rw [bt_append_l s w k]; exact h1 j (Nat.zero_le _) k
      · rw [bt_append_r s w (by omega) (by rw [ByteArray.size_append]; omega)]
        exact h2 _ (Nat.zero_le _) (by omega)
  unfold isWord
  rw [key]
  have d1 : decide ((s ++ w).size ≤ 30) = true := by rw [decide_eq_true_eq, ByteArray.size_append]; omega
  have d2 : decide (s.size ≤ 30) = true := by rw [decide_eq_true_eq]; omega
  have d3 : decide (w.size ≤ 30) = true := by rw [decide_eq_true_eq]; omega
  rw [d1, d2, d3]
  simp
theorem isWord_app' {s w : ByteArray} (hs : s.size ≤ 20) (hw : w.size ≤ 5) : isWord (w ++ s) = (isWord s && isWord w) := by
  have key : allB isLtr (w ++ s) 0 = (allB isLtr s 0 && allB isLtr w 0) := by
    rw [Bool.eq_iff_iff, Bool.and_eq_true, allB_iff _ _ _ 0 (Nat.le_refl _), allB_iff _ _ _ 0 (Nat.le_refl _), allB_iff _ _ _ 0 (Nat.le_refl _)]
    constructor
    · intro h
      refine ⟨fun j _ hj => ?_, fun j _ hj => ?_⟩
      · have := h (w.size + j) (Nat.zero_le _) (by rw [ByteArray.size_append]; omega)
        rw [bt_append_r w s (by omega) (by rw [ByteArray.size_append]; omega)] at this
        rwa [show w.size + j - w.size = j by omega] at this
      · have := h j (Nat.zero_le _) (by rw [ByteArray.size_append]; omega)
        rwa [bt_append_l w s hj] at this
    · rintro ⟨h1, h2⟩ j _ hj
      rw [ByteArray.size_append] at hj
      by_cases k : j < w.size
      · rw [bt_append_l w s k]; exact h2 j (Nat.zero_le _) k
      · rw [bt_append_r w s (by omega) (by rw [ByteArray.size_append]; omega)]
        exact h1 _ (Nat.zero_le _) (by omega)
  unfold isWord
  rw [key]
  have d1 : decide ((w ++ s).size ≤ 30) = true := by rw [decide_eq_true_eq, ByteArray.size_append]; omega
  have d2 : decide (s.size ≤ 30) = true := by rw [decide_eq_true_eq]; omega
  have d3 : decide (w.size ≤ 30) = true := by rw [decide_eq_true_eq]; omega
  rw [d1, d2, d3]
  simp
end Go.Ev
namespace Go.Ev
open Go
set_option linter.unusedVariables false
def gM (m : Mor) (c : Int) : List Int := if c = 97 then LL m.a else if c = 98 then LL m.b else if c = 99 then LL m.c else [c]
theorem gM_len {m : Mor} (hm : isMor m = true) (c : Int) : (gM m c).length ≤ 3 := by
  obtain ⟨⟨_, ha⟩, ⟨_, hb⟩, ⟨_, hc⟩⟩ := isMor_ltrs hm
  unfold gM
  split
  · rw [LL_len]; exact ha
  split
  · rw [LL_len]; exact hb
  split
  · rw [LL_len]; exact hc
  · show 1 ≤ 3; decide
theorem imgM_LL (m : Mor) (s : ByteArray) {i : Nat} (h : i < s.size) : LL (imgM m s i) = gM m (bt s i) := by
  unfold imgM gM
  split
  · rfl
  split
  · rfl
  split
  · rfl
  · exact LL_one s h
theorem appM_LL {m : Mor} (hm : isMor m = true) (s : ByteArray) (hs : s.size ≤ 1000) : LL (appM m s) = (LL s).flatMap (gM m) := by
  have h := repl_LL (imgM m s) s (gM m) 3 (fun i hi => imgM_LL m s hi) (fun i hi => by
    rw [← LL_len, imgM_LL m s hi]
    exact gM_len hm _) s.size 0 ⟨#[]⟩ rfl (by show 0 + s.size * 3 ≤ 1048576; omega)
  unfold appM
  rw [h]
  rfl
def stpW (d : DN) (q : Nat) (c : Int) : Nat := nxL (d.nx q) c
theorem walk_LL (d : DN) (s : ByteArray) : ∀ (n q i : Nat), s.size - i = n → walk d s q i = ((LL s).drop i).foldl (stpW d) q := by
  intro n
  induction n with
  | zero =>
    intro q i h
    rw [walk_end (by omega), List.drop_of_length_le (by rw [LL_len]; omega)]
    rfl
  | succ n ih =>
    intro q i h
    have hi : i < s.size := by omega
    have hl : i < (LL s).length := by rw [LL_len]; exact hi
    have hg : (LL s)[i] = bt s i := by
      have := LL_get s hi
      rw [List.getElem?_eq_getElem hl] at this
      exact Option.some.inj this
    rw [walk_next hi, List.drop_eq_getElem_cons hl, hg, ih _ _ (by omega)]
    rfl
theorem walk_L0 (d : DN) (s : ByteArray) (q : Nat) : walk d s q 0 = (LL s).foldl (stpW d) q := walk_LL d s s.size q 0 rfl
theorem preD_nx {d : DN} (m : Mor) {q : Nat} (h : q < d.accept.length) : (preD d m).nx q = preT d m q := by
  unfold preD DN.nx
  dsimp only
  rw [List.getD_eq_getElem?_getD, List.getElem?_map, List.getElem?_range h]
  rfl
theorem stpW_pre {d : DN} (m : Mor) {q : Nat} (h : q < d.accept.length) {c : Int} (hc : isLtr c = true) : stpW (preD d m) q c = (gM m c).foldl (stpW d) q := by
  unfold stpW
  rw [preD_nx m h]
  rcases isLtr_abc hc with rfl | rfl | rfl
  · exact walk_L0 d m.a q
  · exact walk_L0 d m.b q
  · exact walk_L0 d m.c q
theorem stpW_lt {d : DN} (ho : d.ok) {q : Nat} (h : q < d.accept.length) (c : Int) : stpW d q c < d.accept.length := nxL_lt ho h c
theorem fold_pre {d : DN} (hv : Val d) (m : Mor) : ∀ (l : List Int) (q : Nat), (∀ c ∈ l, isLtr c = true) → q < d.accept.length → l.foldl (stpW (preD d m)) q = (l.flatMap (gM m)).foldl (stpW d) q := by
  intro l
  induction l with
  | nil => intro q _ _; rfl
  | cons c l ih =>
    intro q hl hq
    have hlt : stpW (preD d m) q c < d.accept.length := stpW_lt (preD_val hv m).ok hq c
    rw [List.foldl_cons, List.flatMap_cons, List.foldl_append, ← stpW_pre m hq (hl c (List.mem_cons_self ..))]
    exact ih _ (fun c' hc => hl c' (List.mem_cons_of_mem _ hc)) hlt
theorem ltrs_LL {s : ByteArray} (h : Ltrs s) : ∀ c ∈ LL s, isLtr c = true := by
  rw [← allB_LL isLtr s, allB_iff isLtr s _ 0 (Nat.le_refl _)]
  exact fun j _ hj => h j hj
theorem ltrs_word' {s : ByteArray} (h : Ltrs s) (hz : s.size ≤ 30) : isWord s = true := by
  unfold isWord
  rw [Bool.and_eq_true, decide_eq_true_eq, allB_iff isLtr s _ 0 (Nat.le_refl _)]
  exact ⟨hz, fun j _ hj => h j hj⟩
theorem flatL_len {g : Int → List Int} {k : Nat} (h : ∀ c, (g c).length ≤ k) : ∀ l : List Int, (l.flatMap g).length ≤ k * l.length := by
  intro l
  induction l with
  | nil => exact Nat.zero_le _
  | cons c l ih =>
    rw [List.flatMap_cons, List.length_append, List.length_cons, Nat.mul_succ]
    have := h c
    omega
theorem appM_size {m : Mor} (hm : isMor m = true) {s : ByteArray} (hs : s.size ≤ 1000) : (appM m s).size ≤ 3 * s.size := by
  rw [← LL_len, appM_LL hm s hs, ← LL_len]
  exact flatL_len (gM_len hm) _
/-- a preimage accepts what has an accepted image -/
theorem acc_pre {d : DN} (hv : Val d) {m : Mor} (hm : isMor m = true) {w : ByteArray} (hw : Ltrs w) (hz : w.size ≤ 1000) : accD (quotS (preD d m) 0) w = accD d (appM m w) := by
  have hp := preD_val hv m
  rw [accD_quotS hp.ok hp.pos, walk_L0, fold_pre hv m _ _ (ltrs_LL hw) hv.pos, ← appM_LL hm w hz, ← walk_L0]
  rfl
/-- images of images -/
def comp2 (f g : Mor) : Mor := ⟨appM g f.a, appM g f.b, appM g f.c⟩
theorem gM_comp {f g : Mor} (hf : isMor f = true) (hg : isMor g = true) (c : Int) : (gM f c).flatMap (gM g) = gM (comp2 f g) c := by
  obtain ⟨⟨_, ha⟩, ⟨_, hb⟩, ⟨_, hc⟩⟩ := isMor_ltrs hf
  by_cases c1 : c = 97
  · subst c1; exact (appM_LL hg f.a (by omega)).symm
  by_cases c2 : c = 98
  · subst c2; exact (appM_LL hg f.b (by omega)).symm
  by_cases c3 : c = 99
  · subst c3; exact (appM_LL hg f.c (by omega)).symm
  have e1 : gM f c = [c] := by unfold gM; rw [if_neg c1, if_neg c2, if_neg c3]
  have e2 : ∀ m : Mor, gM m c = [c] := fun m => by unfold gM; rw [if_neg c1, if_neg c2, if_neg c3]
  rw [e1, e2]
  show gM g c ++ [] = [c]
  rw [e2]; rfl
theorem app_comp {f g : Mor} (hf : isMor f = true) (hg : isMor g = true) (hh : isMor (comp2 f g) = true) {s : ByteArray} (hs : s.size ≤ 100) : appM (comp2 f g) s = appM g (appM f s) := by
  refine LL_inj ?_
  have h1 := appM_size hf (s := s) (by omega)
  rw [appM_LL hh s (by omega), appM_LL hg _ (by omega), appM_LL hf s (by omega), List.flatMap_assoc]
  congr 1
  funext c
  exact (gM_comp hf hg c).symm
end Go.Ev
namespace Go.Ev
open Go Go.RowKit
set_option linter.unusedVariables false
set_option linter.unusedSimpArgs false

/-- typed cells, as deep as the reading went -/
def TyOk (P : Program) : Nat → TypeId → List V → Prop
  | 0, _, _ => False
  | n + 1, t, vs => match P.underlying t with
    | some .bool => ∃ b, vs = [.bool b]
    | some (.int k) => ∃ m, vs = [.int k m] ∧ (Lit.int k m).wf = true
    | some .string => ∃ s, vs = [.str s] ∧ s.size ≤ maxLen
    | some (.slice e) => ∃ l, vs = [.slc false (P.cellsOf e) l] ∧ l.length ≤ maxLen ∧ ∀ x ∈ l, ∃ us, x = pack (isAgg P e) us ∧ TyOk P n e us ∧ us.length = P.cellsOf e
    | some (.struct fs) => vs.length = P.cellsOf t ∧ ∀ f ∈ fs.toList, TyOk P n f.type ((vs.drop f.offset).take (P.cellsOf f.type))
    | _ => False
/-- a struct's fields lie one behind the other -/
def tiles (P : Program) : Nat → List Field → Nat → Bool
  | n, [], m => n == m
  | n, f :: fs, m => f.offset == n && P.cellsOf f.type != 0 && tiles P (n + P.cellsOf f.type) fs m
def closedT (P : Program) (L : List TypeId) : Bool := L.all fun t => match P.underlying t with
  | some .bool | some (.int _) | some .string => P.cellsOf t == 1
  | some (.slice e) => P.cellsOf t == 1 && memN e L && P.cellsOf e != 0 && (isAgg P e || P.cellsOf e == 1)
  | some (.struct fs) => fs.toList.all (fun f => memN f.type L) && tiles P 0 fs.toList (P.cellsOf t)
  | _ => false

theorem memN_mem : ∀ {l : List Nat} {n : Nat}, memN n l = true → n ∈ l := by
  intro l
  induction l with
  | nil => intro n h; cases h
  | cons a l ih =>
    intro n h
    unfold memN at h
    split at h
    · rename_i e; subst e; exact List.mem_cons_self ..
    · exact List.mem_cons_of_mem _ (ih h)

abbrev CellTr (W : World) (v : V) (c : Value) : Prop := Tr (fun g j => W.cell? ⟨g, j, none⟩) (fun _ _ => none) v c
/-- a row of cells, read as trees -/
def RowTr (W : World) (vs : List V) (cs : List Value) : Prop := vs.length = cs.length ∧ vs.all pureC = true ∧ ∀ j, j < vs.length → CellTr W (vs.getD j .undef) (cs.getD j Go.undef)

theorem RowTr.append {W : World} {a b : List V} {c d : List Value} (h : RowTr W a c) (h' : RowTr W b d) : RowTr W (a ++ b) (c ++ d) := by
  obtain ⟨h1, h2, h3⟩ := h
  obtain ⟨k1, k2, k3⟩ := h'
  refine ⟨by simp [h1, k1], by simp [List.all_append, h2, k2], fun j hj => ?_⟩
  simp only [List.getD_eq_getElem?_getD] at h3 k3 ⊢
  by_cases hl : j < a.length
  · rw [List.getElem?_append_left hl, List.getElem?_append_left (by omega)]
    exact h3 j hl
  · rw [List.getElem?_append_right (by omega), List.getElem?_append_right (by omega), ← h1]
    simp only [List.length_append] at hj
    exact k3 _ (by omega)

theorem tile_row {P : Program} {W : World} {Q : Field → List V → Prop} {m : Nat} {cs : List Value} (hm : cs.length = m) : ∀ (fs : List Field) (n : Nat), tiles P n fs m = true → n ≤ m →
    (∀ f ∈ fs, ∃ us, Q f us ∧ us.length = P.cellsOf f.type ∧ RowTr W us ((cs.drop f.offset).take (P.cellsOf f.type))) →
    ∃ vs, n + vs.length = m ∧ RowTr W vs (cs.drop n) ∧ ∀ f ∈ fs, n ≤ f.offset ∧ Q f ((vs.drop (f.offset - n)).take (P.cellsOf f.type)) := by
  intro fs
  induction fs with
  | nil =>
    intro n ht hn _
    have : n = m := by simpa [tiles] using ht
    subst this
    refine ⟨[], rfl, ?_, fun f hf => by cases hf⟩
    rw [List.drop_eq_nil_of_le (by omega)]
    exact ⟨rfl, rfl, fun j hj => by cases hj⟩
  | cons f fs ih =>
    intro n ht hn h
    simp only [tiles, Bool.and_eq_true, beq_iff_eq] at ht
    obtain ⟨⟨ho, h0⟩, ht⟩ := ht
    obtain ⟨us, hq, hl, hr⟩ := h f (List.mem_cons_self ..)
    have hle : n + P.cellsOf f.type ≤ m := by
      have := hr.1
      rw [hl, List.length_take, List.length_drop, ho, hm] at this
      omega
    obtain ⟨vs, hv, hw, hf⟩ := ih _ ht hle (fun g hg => h g (List.mem_cons_of_mem _ hg))
    refine ⟨us ++ vs, by rw [List.length_append]; omega, ?_, ?_⟩
    · have : cs.drop n = (cs.drop n).take (P.cellsOf f.type) ++ cs.drop (n + P.cellsOf f.type) := by
        rw [← List.drop_drop, List.take_append_drop]
      rw [this]
      rw [ho] at hr
      exact hr.append hw
    · intro g hg
      rcases List.mem_cons.1 hg with rfl | hg
      · refine ⟨by omega, ?_⟩
        rw [ho, Nat.sub_self, List.drop_zero, ← hl, List.take_left]
        exact hq
      · obtain ⟨h1, h2⟩ := hf g hg
        refine ⟨by omega, ?_⟩
        have : (us ++ vs).drop (g.offset - n) = vs.drop (g.offset - (n + P.cellsOf f.type)) := by
          rw [List.drop_append]
          rw [List.drop_eq_nil_of_le (by omega), List.nil_append]
          congr 1
          omega
        rw [this]
        exact h2

theorem exists_rows {α : Type} {p : Nat → α → Prop} : ∀ n, (∀ i, i < n → ∃ a, p i a) → ∃ xs : List α, xs.length = n ∧ ∀ i a, xs[i]? = some a → p i a
  | 0, _ => ⟨[], rfl, fun i a h => by simp at h⟩
  | n + 1, h => by
    obtain ⟨xs, hl, hx⟩ := exists_rows n (fun i hi => h i (by omega))
    obtain ⟨a, ha⟩ := h n (by omega)
    refine ⟨xs ++ [a], by simp [hl], fun i b hb => ?_⟩
    by_cases hi : i < n
    · rw [List.getElem?_append_left (by omega)] at hb
      exact hx i b hb
    · have hlt : i < (xs ++ [a]).length := by
        rcases Nat.lt_or_ge i (xs ++ [a]).length with h1 | h1
        · exact h1
        · rw [List.getElem?_eq_none h1] at hb; cases hb
      have : i = n := by simp [hl] at hlt; omega
      subst this
      rw [List.getElem?_append_right (by omega)] at hb
      simp [hl] at hb
      exact hb ▸ ha

theorem pack_flat {b : Bool} {us : List V} (h : b = true ∨ us.length = 1) (hp : us.all pureC = true) : (pack b us).flat = us := by
  unfold pack
  split
  · rfl
  · rcases h with h | h
    · rename_i e; exact absurd h e
    · match us, h with
      | [u], _ =>
        simp only [List.all_cons, List.all_nil, Bool.and_true] at hp
        cases u <;> first | rfl | cases hp

section
variable {H : Type} {enc : TypeId × Value → H} {P : Program} {W : World} {sp : Nat → Bool} {L : List TypeId}
theorem trod_tr (hL : closedT P L = true) : ∀ (fuel : Nat) (t : TypeId) (cs : List Value) (x : DataW H × List MemPlace), t ∈ L → DataW.trod enc P W 0 sp true fuel t cs = some x →
    ∃ vs, TyOk P fuel t vs ∧ vs.length = P.cellsOf t ∧ RowTr W vs cs := by
  intro fuel
  induction fuel with
  | zero => intro t cs x _ h; simp [DataW.trod] at h
  | succ fuel ih =>
    intro t cs x ht hx
    have hc := List.all_eq_true.1 hL t ht
    have one : ∀ {v : V} {c : Value}, pureC v = true → CellTr W v c → RowTr W [v] [c] := by
      intro v c hp hv
      refine ⟨rfl, by simp [hp], fun j hj => ?_⟩
      have : j = 0 := by simpa using hj
      subst this
      exact hv
    simp only [TyOk]
    revert hc
    cases hu : P.underlying t with
    | none => intro hc; cases hc
    | some td =>
      cases td with
      | bool =>
        intro hc
        simp only [DataW.trod, hu] at hx
        dsimp only at hc ⊢
        have hcc : P.cellsOf t = 1 := by simpa using hc
        rcases cs with _ | ⟨c, _ | ⟨c2, cs⟩⟩
        · simp at hx
        · cases c <;> simp at hx
          rename_i b
          exact ⟨[.bool b], ⟨b, rfl⟩, hcc.symm, one rfl (.bool b)⟩
        · simp at hx
      | int k =>
        intro hc
        simp only [DataW.trod, hu] at hx
        dsimp only at hc ⊢
        have hcc : P.cellsOf t = 1 := by simpa using hc
        rcases cs with _ | ⟨c, _ | ⟨c2, cs⟩⟩
        · simp at hx
        · cases c <;> simp at hx
          rename_i k' n
          obtain ⟨⟨rfl, hw⟩, _⟩ := hx
          exact ⟨[.int k' n], ⟨n, rfl, hw⟩, hcc.symm, one rfl (.int k' n)⟩
        · simp at hx
      | string =>
        intro hc
        simp only [DataW.trod, hu] at hx
        dsimp only at hc ⊢
        have hcc : P.cellsOf t = 1 := by simpa using hc
        rcases cs with _ | ⟨c, _ | ⟨c2, cs⟩⟩
        · simp at hx
        · cases c <;> simp at hx
          rename_i s
          exact ⟨[.str s], ⟨s, rfl, hx.1⟩, hcc.symm, one rfl (.str s)⟩
        · simp at hx
      | struct fs =>
        intro hc
        simp only [DataW.trod, hu] at hx
        dsimp only at hc ⊢
        simp only [Bool.and_eq_true] at hc
        obtain ⟨hcl, hti⟩ := hc
        split at hx
        · rename_i hl
          simp only [Option.map_eq_some_iff] at hx
          obtain ⟨xs, hxs, _⟩ := hx
          have hall : ∀ f ∈ fs.toList, ∃ us, TyOk P fuel f.type us ∧ us.length = P.cellsOf f.type ∧ RowTr W us ((cs.drop f.offset).take (P.cellsOf f.type)) := by
            intro f hf
            obtain ⟨i, hi, hie⟩ := List.getElem_of_mem hf
            have h1 := mapM_some_get hxs i f (by rw [List.getElem?_eq_getElem hi, hie])
            have h2 := mapM_some_length hxs
            rw [List.getElem?_eq_getElem (by omega)] at h1
            exact ih _ _ _ (memN_mem (List.all_eq_true.1 hcl f hf)) h1
          obtain ⟨vs, h1, h2, h3⟩ := tile_row (Q := fun f us => TyOk P fuel f.type us) hl fs.toList 0 hti (Nat.zero_le _) hall
          refine ⟨vs, ⟨by omega, fun f hf => ?_⟩, by omega, by simpa using h2⟩
          have := (h3 f hf).2
          simpa using this
        · cases hx
      | slice e =>
        intro hc
        simp only [DataW.trod, hu] at hx
        dsimp only at hc ⊢
        simp only [Bool.and_eq_true, Bool.or_eq_true, beq_iff_eq, bne_iff_ne, ne_eq] at hc
        obtain ⟨⟨⟨hcc, heL⟩, hne⟩, hag⟩ := hc
        split at hx
        all_goals (try (exfalso; simp_all; done))
        all_goals (try (rename_i heq; simp at heq; done))
        · rename_i heq
          refine ⟨[.slc false (P.cellsOf e) []], ⟨[], rfl, Nat.zero_le _, fun x hx => by cases hx⟩, hcc.symm, one rfl (.slc0 ..)⟩
        · rename_i e' a len cap hu'
          have hee : e' = e := by simpa using hu'.symm
          subst hee
          split at hx
          · rename_i hb
            obtain ⟨_, hlc, hcm⟩ := hb
            simp only [Option.bind_eq_some_iff] at hx
            obtain ⟨elems, hel, _⟩ := hx
            have h2 : elems.length = len := by have := mapM_some_length hel; simpa using this
            have hall : ∀ i, i < len → ∃ us : List V, ∃ cs : List Value, W.cells? 0 (a.add (i * P.cellsOf e')) (P.cellsOf e') = some cs ∧ TyOk P fuel e' us ∧ us.length = P.cellsOf e' ∧ RowTr W us cs := by
              intro i hi
              have h1 := mapM_some_get hel i i (by simp [hi])
              rw [List.getElem?_eq_getElem (by omega)] at h1
              simp only [Option.bind_eq_some_iff] at h1
              obtain ⟨cs, hcs, hy⟩ := h1
              obtain ⟨us, h3, h4, h5⟩ := ih _ _ _ (memN_mem heL) hy
              exact ⟨us, cs, hcs, h3, h4, h5⟩
            obtain ⟨xs, hl, hxs⟩ := exists_rows len hall
            subst hl
            by_cases h0 : xs.length = 0
            · have : xs = [] := List.length_eq_zero_iff.1 h0
              subst this
              exact ⟨[.slc false (P.cellsOf e') []], ⟨[], rfl, Nat.zero_le _, fun x hx => by cases hx⟩, hcc.symm, one rfl (.slc0 ..)⟩
            · have hcell : ∀ i us, xs[i]? = some us → ∀ j, j < P.cellsOf e' → ∃ c, W.cell? ((a.add (i * P.cellsOf e')).add j) = some c ∧ CellTr W (us.getD j .undef) c := by
                intro i us hi j hj
                obtain ⟨cs, hcs, h3, h4, h5⟩ := hxs i us hi
                unfold World.cells? at hcs
                simp at hcs
                have h6 := mapM_some_length hcs
                have h1 := mapM_some_get hcs j j (by simp [hj])
                have hj' : j < cs.length := by simpa [h6] using hj
                rw [List.getElem?_eq_getElem hj'] at h1
                refine ⟨_, h1, ?_⟩
                have := h5.2.2 j (by omega)
                simpa [List.getD_eq_getElem?_getD, List.getElem?_eq_getElem hj'] using this
              have hspot : a.spot = none := by
                obtain ⟨us, hus⟩ : ∃ us, xs[0]? = some us := ⟨_, List.getElem?_eq_getElem (by omega)⟩
                obtain ⟨c, h1, _⟩ := hcell 0 us hus 0 (by omega)
                have := World.cell?_spot h1
                simpa [Addr.add] using this
              obtain ⟨ab, ao, asp⟩ := a
              dsimp only at hspot
              subst hspot
              have hadd : ∀ i j, (Addr.add (Addr.add ⟨ab, ao, none⟩ (i * P.cellsOf e')) j) = ⟨ab, ao + i * P.cellsOf e' + j, none⟩ := by
                intro i j
                unfold Addr.add
                split
                · rename_i hj; subst hj
                  split
                  · rename_i hi; simp [hi]
                  · rfl
                · split
                  · rename_i hi; simp [hi]
                  · rfl
              have hpk : ∀ us ∈ xs, us.length = P.cellsOf e' ∧ us.all pureC = true ∧ (pack (isAgg P e') us).flat = us := by
                intro us hus
                obtain ⟨i, hi, hie⟩ := List.getElem_of_mem hus
                obtain ⟨cs, hcs, h3, h4, h5⟩ := hxs i us (by rw [List.getElem?_eq_getElem hi, hie])
                refine ⟨h4, h5.2.1, pack_flat ?_ h5.2.1⟩
                rcases hag with h | h
                · exact .inl h
                · exact .inr (by omega)
              have hget : ∀ i (hi : i < xs.length), ((xs.map (pack (isAgg P e'))).getD i .undef).flat = xs[i] := by
                intro i hi
                simp only [List.getD_eq_getElem?_getD, List.getElem?_map, List.getElem?_eq_getElem hi, Option.map_some, Option.getD_some]
                exact (hpk _ (List.getElem_mem hi)).2.2
              refine ⟨[.slc false (P.cellsOf e') (xs.map (pack (isAgg P e')))], ⟨_, rfl, by simp only [List.length_map]; omega, ?_⟩, hcc.symm, ?_⟩
              · intro v hv
                obtain ⟨us, hus, rfl⟩ := List.mem_map.1 hv
                obtain ⟨i, hi, hie⟩ := List.getElem_of_mem hus
                obtain ⟨cs, hcs, h3, h4, h5⟩ := hxs i us (by rw [List.getElem?_eq_getElem hi, hie])
                exact ⟨us, rfl, h3, h4⟩
              · have hlen : (xs.map (pack (isAgg P e'))).length = xs.length := List.length_map ..
                have key := Tr.slc (S := fun g j => W.cell? ⟨g, j, none⟩) (β := fun _ _ => none) (P.cellsOf e') (xs.map (pack (isAgg P e'))) ab ao cap
                  (fun i j => (W.cell? ⟨ab, ao + i * P.cellsOf e' + j, none⟩).getD Go.undef) (by omega)
                  (by
                    intro v hv
                    obtain ⟨us, hus, rfl⟩ := List.mem_map.1 hv
                    obtain ⟨h1, h2, h3⟩ := hpk us hus
                    rw [h3]
                    exact ⟨h1, h2⟩)
                  (by
                    intro i j hi hj
                    rw [hlen] at hi
                    obtain ⟨c, h1, _⟩ := hcell i xs[i] (List.getElem?_eq_getElem hi) j hj
                    rw [hadd] at h1
                    rw [h1]
                    rfl)
                  (by
                    intro i j hi hj
                    rw [hlen] at hi
                    obtain ⟨c, h1, h2⟩ := hcell i xs[i] (List.getElem?_eq_getElem hi) j hj
                    rw [hadd] at h1
                    rw [h1, hget i hi]
                    exact h2)
                rw [hlen] at key
                exact one rfl key
          · cases hx
      | _ => intro hc; cases hc
end
/-! typed cells, laid open -/
def fieldsOf (P : Program) (t : TypeId) : Option (List (TypeId × Nat)) := match P.underlying t with
  | some (.struct fs) => some (fs.toList.map fun f => (f.type, f.offset))
  | _ => none
theorem tyOk_struct {P : Program} {t : TypeId} {n : Nat} {vs : List V} {L : List (TypeId × Nat)} (h0 : fieldsOf P t = some L) (h : TyOk P (n + 1) t vs) : vs.length = P.cellsOf t ∧ ∀ p ∈ L, TyOk P n p.1 ((vs.drop p.2).take (P.cellsOf p.1)) := by
  unfold fieldsOf at h0
  simp only [TyOk] at h
  split at h0
  · rename_i fs hu
    rw [hu] at h
    obtain rfl := Option.some.inj h0
    refine ⟨h.1, fun p hp => ?_⟩
    obtain ⟨f, hf, rfl⟩ := List.mem_map.1 hp
    exact h.2 f hf
  · cases h0
theorem tyOk_int {P : Program} {t : TypeId} {n : Nat} {vs : List V} {k : IntKind} (hu : P.underlying t = some (.int k)) (h : TyOk P n t vs) : ∃ m, vs = [.int k m] ∧ (Lit.int k m).wf = true := by
  cases n with
  | zero => cases h
  | succ n => simpa only [TyOk, hu] using h
theorem tyOk_bool {P : Program} {t : TypeId} {n : Nat} {vs : List V} (hu : P.underlying t = some .bool) (h : TyOk P n t vs) : ∃ m, vs = [.bool m] := by
  cases n with
  | zero => cases h
  | succ n => simpa only [TyOk, hu] using h
theorem tyOk_str {P : Program} {t : TypeId} {n : Nat} {vs : List V} (hu : P.underlying t = some .string) (h : TyOk P n t vs) : ∃ m : ByteArray, vs = [.str m] ∧ m.size ≤ 9223372036854775807 := by
  cases n with
  | zero => cases h
  | succ n =>
    simp only [TyOk, hu] at h
    exact h
theorem list_of {α : Type} {f : α → V} : ∀ {l : List V}, (∀ x ∈ l, ∃ a : α, x = f a ∧ okV (f a)) → ∃ as : List α, l = as.map f ∧ okL (as.map f) := by
  intro l
  induction l with
  | nil => intro _; exact ⟨[], rfl, trivial⟩
  | cons b l ih =>
    intro h
    obtain ⟨a, rfl, ha⟩ := h b (List.mem_cons_self ..)
    obtain ⟨as, rfl, hs⟩ := ih fun x hx => h x (List.mem_cons_of_mem _ hx)
    exact ⟨a :: as, rfl, ha, hs⟩
theorem tyOk_slc {P : Program} {t e : TypeId} {n : Nat} {vs : List V} {α : Type} {f : α → V} (hu : P.underlying t = some (.slice e)) (he : ∀ us, TyOk P n e us → ∃ a : α, pack (isAgg P e) us = f a ∧ okV (f a)) (h : TyOk P (n + 1) t vs) :
    ∃ l : List α, vs = [.slc false (P.cellsOf e) (l.map f)] ∧ l.length ≤ 9223372036854775807 ∧ okL (l.map f) := by
  simp only [TyOk, hu] at h
  obtain ⟨l, rfl, hl, hx⟩ := h
  obtain ⟨as, rfl, hs⟩ := list_of (f := f) (l := l) fun x hm => by
    obtain ⟨us, rfl, h1, _⟩ := hx x hm
    exact he us h1
  exact ⟨as, rfl, by rw [List.length_map] at hl; exact hl, hs⟩
theorem tyOk_slcR {P : Program} {t e : TypeId} {n : Nat} {vs : List V} {α : Type} {f : α → V} (hu : P.underlying t = some (.slice e)) (he : ∀ m, m < n → ∀ us, TyOk P m e us → ∃ a : α, pack (isAgg P e) us = f a ∧ okV (f a)) (h : TyOk P n t vs) :
    ∃ l : List α, vs = [.slc false (P.cellsOf e) (l.map f)] ∧ l.length ≤ 9223372036854775807 ∧ okL (l.map f) := by
  cases n with
  | zero => cases h
  | succ n => exact tyOk_slc hu (he n (Nat.lt_succ_self n)) h
theorem ty_agg {P : Program} {e : TypeId} {us : List V} {α : Type} {f : α → V} (ha : isAgg P e = true) (h : ∃ a : α, V.agg us = f a ∧ okV (f a)) : ∃ a : α, pack (isAgg P e) us = f a ∧ okV (f a) := by
  rw [ha]; exact h
theorem ty_int1 {P : Program} {e : TypeId} {n : Nat} {us : List V} {k : IntKind} (ha : isAgg P e = false) (hu : P.underlying e = some (.int k)) (h : TyOk P n e us) : ∃ a : Int, pack (isAgg P e) us = V.int k a ∧ okV (V.int k a) := by
  obtain ⟨m, rfl, hw⟩ := tyOk_int hu h
  rw [ha]
  exact ⟨m, rfl, hw⟩
theorem ty_bool1 {P : Program} {e : TypeId} {n : Nat} {us : List V} (ha : isAgg P e = false) (hu : P.underlying e = some .bool) (h : TyOk P n e us) : ∃ a : Bool, pack (isAgg P e) us = B a ∧ okV (B a) := by
  obtain ⟨m, rfl⟩ := tyOk_bool hu h
  rw [ha]
  exact ⟨m, rfl, trivial⟩
theorem ty_str1 {P : Program} {e : TypeId} {n : Nat} {us : List V} (ha : isAgg P e = false) (hu : P.underlying e = some .string) (h : TyOk P n e us) : ∃ a : ByteArray, pack (isAgg P e) us = Sv a ∧ okV (Sv a) := by
  obtain ⟨m, rfl, hm⟩ := tyOk_str hu h
  rw [ha]
  exact ⟨m, rfl, hm⟩
theorem ty_slc1 {P : Program} {e : TypeId} {us : List V} {α : Type} {f : α → V} {sz : Nat} (ha : isAgg P e = false) (h : ∃ l : List α, us = [.slc false sz (l.map f)] ∧ l.length ≤ 9223372036854775807 ∧ okL (l.map f)) : ∃ l : List α, pack (isAgg P e) us = V.slc false sz (l.map f) ∧ okV (V.slc false sz (l.map f)) := by
  obtain ⟨l, rfl, h1, h2⟩ := h
  rw [ha]
  refine ⟨l, rfl, ?_, h2⟩
  rw [List.length_map]; exact h1
/-- an argument, as it lies in the world -/
theorem RowTr.one {W : World} {v : V} {c : Value} (h : RowTr W [v] [c]) : CellTr W v c := by
  have := h.2.2 0 (by simp)
  exact this
theorem RowTr.agg {W : World} {vs : List V} {cs : Array Value} (h : RowTr W vs cs.toList) : CellTr W (.agg vs) (.agg cs) := by
  refine .agg _ _ (by simpa using h.1) fun i hi => ?_
  have := h.2.2 i hi
  simpa [List.getD_eq_getElem?_getD, Array.getD_eq_getD_getElem?] using this
end Go.Ev
