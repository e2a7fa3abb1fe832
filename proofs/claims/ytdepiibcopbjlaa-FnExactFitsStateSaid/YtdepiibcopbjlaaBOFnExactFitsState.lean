/- Well-formed transition monoids, and the map of a word: what the reference's and the program's functions answer. No statement of the seat is proved here. -/
import Derived.Test.YtdepiibcopbjlaaBJFnExactFitsState
import Derived.Test.YtdepiibcopbjlaaBWFnExactFitsState
namespace Go.Proofs.Ytdepiibcopbjlaa.BFnExactFitsState
open Go.RowKit Go.Proofs.Ytdepiibcopbjlaa.PFnExactFitsState Go.Proofs.YtdepiibcopbjlaaW.PrintWords Go.Proofs.YtdepiibcopbjlaaW.PrintLast
set_option linter.unusedVariables false

def nm (n : Nat) (x : Int) : Bool := decide (0 ≤ x) && decide (x ≤ (n : Int) - 1)
def nums (l : List Int) (n : Nat) : Bool := allN (fun i => nm n (rd l i)) 0 l.length
def row (P : List (List Int)) (n : Nat) (i : Nat) : Bool := decide ((rd_L1 P i).length = n) && nums (rd_L1 P i) n
def gd (M : List (List Int)) (L : List Int) (P : List (List Int)) : Bool :=
  decide (M.length ≠ 0) && (decide (L.length = 3) && (decide (P.length = M.length) && (nums L M.length && allN (row P M.length) 0 M.length)))

theorem specIn (x : Int) (n : Nat) (hn : n ≤ 1048576) : spec_l1In.f x 0 (wrap64 ((n : Int) - 1)) = some (nm n x) := by
  rw [wrap_id (by omega) (by omega)]
  unfold spec_l1In.f nm
  split <;> simp <;> omega
theorem implIn (x : Int) (n : Nat) (hn : n ≤ 1048576) : impl_within.f x 0 (wrap64 ((n : Int) - 1)) = some (nm n x) := by
  rw [wrap_id (by omega) (by omega)]
  unfold impl_within.f nm
  split <;> simp <;> omega
theorem specNums (l : List Int) (n : Nat) (hn : n ≤ 1048576) (hl : l.length ≤ 1048576) : Ev (fun k => spec_l13Numbers.f k l (n : Int)) (nums l n) := by
  unfold spec_l13Numbers.f nums
  refine Ev.all (g := fun k i => spec_l13Numbers.l0 k l (n : Int) (i : Int)) (n := l.length) ?_ ?_ l.length 0 (by omega)
  · refine Ev.up ?_
    simp only [spec_l13Numbers.l0]
    exact Ev.ite_f (by omega) (Ev.val rfl)
  · intro i hi r h1 h2
    refine Ev.up ?_
    simp only [spec_l13Numbers.l0]
    refine Ev.ite_t (by omega) (Ev.ite_t (by omega) (Ev.bindc (specIn _ n hn) ?_))
    refine Ev.ite (fun e => ?_) (fun e => Ev.val (h2 (by simpa using e)).symm)
    rw [cast_succ hi (by omega)]
    exact h1 e
theorem implNums (l : List Int) (n : Nat) (hn : n ≤ 1048576) (hl : l.length ≤ 1048576) : Ev (fun k => slices_ContainsFunc_int_int_106_v0.f k l (n : Int)) (!nums l n) := by
  unfold slices_ContainsFunc_int_int_106_v0.f slices_IndexFunc_int_int_125_v1.f nums
  obtain ⟨r, hr, he⟩ := Ev.idx (g := fun k i => slices_IndexFunc_int_int_125_v1.l0 k l (l.length : Int) (i : Int) (n : Int)) (n := l.length) (p := fun i => !nm n (rd l i)) (by
    refine Ev.up ?_
    simp only [slices_IndexFunc_int_int_125_v1.l0]
    exact Ev.ite_f (by omega) (Ev.val rfl)) (by
    intro i hi r h1 h2
    refine Ev.up ?_
    simp only [slices_IndexFunc_int_int_125_v1.l0]
    have hc : impl_wellFormed_1_v2.f (rd l (i : Int)) (n : Int) = some (!nm n (rd l (i : Int))) := by
      unfold impl_wellFormed_1_v2.f
      rw [implIn _ n hn]
      rfl
    refine Ev.ite_t (by omega) (Ev.ite_t (by omega) (Ev.ite_t (by omega) (Ev.bindc hc ?_)))
    refine Ev.ite (fun e => Ev.val (h2 e).symm) (fun e => ?_)
    rw [cast_succ hi (by omega)]
    exact h1 (by simpa using e)) l.length 0 (by omega)
  refine Ev.bind hr (Ev.val ?_)
  rw [he, anyN_not]
theorem specGood (M : List (List Int)) (L : List Int) (P : List (List Int)) (hM : M.length ≤ 1048576) (hL : L.length ≤ 1048576) (hP : ∀ z ∈ P, z.length ≤ 1048576) : Ev (fun k => spec_l13Good.f k M L P) (gd M L P) := by
  unfold spec_l13Good.f
  have hj : Ev (fun k => spec_l13Good.j0 k (M.length : Int) true M L P) false := by
    refine Ev.up ?_
    simp only [spec_l13Good.j0]
    exact Ev.ite_t (by simp) (Ev.val rfl)
  refine Ev.ite (fun h => Ev.eq hj ?_) (fun h => ?_)
  · have : M.length = 0 := by omega
    simp [gd, this]
  have g0 : M.length ≠ 0 := by omega
  refine Ev.ite (fun h => ?_) (fun h => Ev.eq hj ?_)
  rotate_left
  · have : ¬ L.length = 3 := by omega
    simp [gd, this]
  have g1 : L.length = 3 := by omega
  refine Ev.ite (fun h => ?_) (fun h => Ev.eq hj ?_)
  rotate_left
  · have : ¬ P.length = M.length := by omega
    simp [gd, this]
  have g2 : P.length = M.length := by omega
  refine Ev.bind (specNums L M.length hM hL) ?_
  cases hn : nums L M.length with
  | false => exact Ev.eq hj (by simp [gd, hn])
  | true =>
    have e : gd M L P = allN (row P M.length) 0 M.length := by simp [gd, g0, g1, g2, hn]
    rw [e]
    refine Ev.up ?_
    simp only [spec_l13Good.j0]
    refine Ev.ite_f (by simp) ?_
    refine Ev.all (g := fun k i => spec_l13Good.l0 k (M.length : Int) (i : Int) M L P) (n := M.length) ?_ ?_ M.length 0 (by omega)
    · refine Ev.up ?_
      simp only [spec_l13Good.l0]
      exact Ev.ite_f (by omega) (Ev.val rfl)
    · intro i hi r h1 h2
      refine Ev.up ?_
      simp only [spec_l13Good.l0]
      refine Ev.ite_t (by omega) (Ev.ite_t (by omega) (Ev.ite_t (by omega) ?_))
      refine Ev.ite (fun h => ?_) (fun h => Ev.val (h2 ?_).symm)
      · have hl : (rd_L1 P (i : Int)).length ≤ 1048576 := by rw [rdL1 (by omega)]; exact hP _ (List.getElem_mem _)
        refine Ev.bind (specNums _ M.length hM hl) ?_
        have er : row P M.length i = nums (rd_L1 P (i : Int)) M.length := by
          have : (rd_L1 P (i : Int)).length = M.length := by omega
          simp [row, this]
        refine Ev.ite (fun e => ?_) (fun e => Ev.val (h2 (by rw [er]; simpa using e)).symm)
        rw [cast_succ hi (by omega)]
        exact h1 (by rw [er]; exact e)
      · have : ¬ (rd_L1 P (i : Int)).length = M.length := by omega
        simp [row, this]
theorem implGood (M : List (List Int)) (L : List Int) (P : List (List Int)) (hM : M.length ≤ 1048576) (hL : L.length ≤ 1048576) (hP : ∀ z ∈ P, z.length ≤ 1048576) : Ev (fun k => impl_wellFormed.f k M L P) (gd M L P) := by
  unfold impl_wellFormed.f
  refine Ev.ite (fun h => Ev.val ?_) (fun h => ?_)
  · have : M.length = 0 := by omega
    simp [gd, this]
  have g0 : M.length ≠ 0 := by omega
  refine Ev.ite (fun h => ?_) (fun h => Ev.val ?_)
  rotate_left
  · have : ¬ L.length = 3 := by omega
    simp [gd, this]
  have g1 : L.length = 3 := by omega
  refine Ev.bind (implNums L M.length hM hL) ?_
  refine Ev.ite (fun h => Ev.val ?_) (fun h => ?_)
  · have : nums L M.length = false := by simpa using h
    simp [gd, this]
  have g3 : nums L M.length = true := by simpa using h
  refine Ev.ite (fun h => ?_) (fun h => Ev.val ?_)
  rotate_left
  · have : ¬ P.length = M.length := by omega
    simp [gd, this]
  have g2 : P.length = M.length := by omega
  have hc : Ev (fun k => slices_ContainsFunc_int_int_107_v3.f k P (M.length : Int)) (!allN (row P M.length) 0 M.length) := by
    unfold slices_ContainsFunc_int_int_107_v3.f slices_IndexFunc_int_int_126_v4.f
    obtain ⟨r, hr, he⟩ := Ev.idx (g := fun k i => slices_IndexFunc_int_int_126_v4.l0 k P (P.length : Int) (i : Int) (M.length : Int)) (n := P.length) (p := fun i => !row P M.length i) (by
      refine Ev.up ?_
      simp only [slices_IndexFunc_int_int_126_v4.l0]
      exact Ev.ite_f (by omega) (Ev.val rfl)) (by
      intro i hi r h1 h2
      refine Ev.up ?_
      simp only [slices_IndexFunc_int_int_126_v4.l0]
      have hl : (rd_L1 P (i : Int)).length ≤ 1048576 := by rw [rdL1 (by omega)]; exact hP _ (List.getElem_mem _)
      have hcc : Ev (fun k => impl_wellFormed_2_v5.f k (rd_L1 P (i : Int)) (M.length : Int)) (!row P M.length i) := by
        unfold impl_wellFormed_2_v5.f
        refine Ev.ite (fun h => ?_) (fun h => Ev.val ?_)
        · refine Ev.bind (implNums _ M.length hM hl) (Ev.val ?_)
          have : (rd_L1 P (i : Int)).length = M.length := by omega
          simp [row, this]
        · have : ¬ (rd_L1 P (i : Int)).length = M.length := by omega
          simp [row, this]
      refine Ev.ite_t (by omega) (Ev.ite_t (by omega) (Ev.ite_t (by omega) (Ev.bind hcc ?_)))
      refine Ev.ite (fun e => Ev.val (h2 e).symm) (fun e => ?_)
      rw [cast_succ hi (by omega)]
      exact h1 (by simpa using e)) P.length 0 (by omega)
    refine Ev.bind hr (Ev.val ?_)
    rw [he, anyN_not, g2]
  refine Ev.bind hc (Ev.val ?_)
  simp [gd, g0, g1, g2, g3]

/-- the number of the map of the bytes from i on, d of them -/
def mp (L : List Int) (P : List (List Int)) (s : ByteArray) : Nat → Nat → Int → Int
  | 0, _, x => x
  | d + 1, i, x => mp L P s d (i + 1) (rd (rd_L1 P x) (rd L (li (bt s (i : Int)))))
theorem gd_parts {M : List (List Int)} {L : List Int} {P : List (List Int)} (h : gd M L P = true) : M.length ≠ 0 ∧ L.length = 3 ∧ P.length = M.length ∧ (∀ i : Nat, i < 3 → 0 ≤ rd L i ∧ rd L i < M.length) ∧
    ∀ i : Nat, i < M.length → (rd_L1 P i).length = M.length ∧ ∀ j : Nat, j < M.length → 0 ≤ rd (rd_L1 P i) j ∧ rd (rd_L1 P i) j < M.length := by
  simp only [gd, Bool.and_eq_true, decide_eq_true_eq] at h
  obtain ⟨a, b, c, d, e⟩ := h
  refine ⟨a, b, c, fun i hi => ?_, fun i hi => ?_⟩
  · have h_ := (allN_iff _ _).1 d i (by omega) (by omega)
    simp only [nm, Bool.and_eq_true, decide_eq_true_eq] at h_
    omega
  · have h_ := (allN_iff _ _).1 e i (by omega) (by omega)
    simp only [row, Bool.and_eq_true, decide_eq_true_eq] at h_
    refine ⟨h_.1, fun j hj => ?_⟩
    have h2 := (allN_iff _ _).1 h_.2 j (by omega) (by omega)
    simp only [nm, Bool.and_eq_true, decide_eq_true_eq] at h2
    omega
def mapO (M : List (List Int)) (L : List Int) (P : List (List Int)) (s : ByteArray) : Int × Bool := if gd M L P && isW s then (mp L P s s.size 0 0, true) else (0, false)

theorem map_step {M : List (List Int)} {L : List Int} {P : List (List Int)} (h : gd M L P = true) {s : ByteArray} {i : Nat} (hb : isL (bt s (i : Int)) = true) {x : Int} (h0 : 0 ≤ x) (h1 : x < M.length) :
    0 ≤ li (bt s (i : Int)) ∧ li (bt s (i : Int)) < (L.length : Int) ∧ x < (P.length : Int) ∧ 0 ≤ rd L (li (bt s (i : Int))) ∧ rd L (li (bt s (i : Int))) < ((rd_L1 P x).length : Int) ∧
    0 ≤ rd (rd_L1 P x) (rd L (li (bt s (i : Int)))) ∧ rd (rd_L1 P x) (rd L (li (bt s (i : Int)))) < M.length := by
  obtain ⟨a, b, c, d, e⟩ := gd_parts h
  have hr := li_range (bt s (i : Int))
  have hl : 0 ≤ li (bt s (i : Int)) := by simpa [isL] using hb
  obtain ⟨n, hn⟩ : ∃ n : Nat, li (bt s (i : Int)) = (n : Int) := ⟨(li (bt s (i : Int))).toNat, by omega⟩
  rw [hn]
  have d' := d n (by omega)
  obtain ⟨y, hy⟩ : ∃ y : Nat, x = (y : Int) := ⟨x.toNat, by omega⟩
  subst hy
  obtain ⟨q, hq⟩ : ∃ q : Nat, rd L (n : Int) = (q : Int) := ⟨(rd L (n : Int)).toNat, by omega⟩
  rw [hq] at d' ⊢
  obtain ⟨e1, e2⟩ := e y (by omega)
  have e3 := e2 q (by omega)
  refine ⟨by omega, by omega, by omega, by omega, by omega, e3.1, e3.2⟩
theorem specMapL {M : List (List Int)} {L : List Int} {P : List (List Int)} (h : gd M L P = true) (s : ByteArray) (hs : s.size ≤ maxLen) : ∀ (d i : Nat) (x : Int), i + d = s.size → allL s d i = true → 0 ≤ x → x < M.length →
    Ev (fun k => spec_MapOf.l0 k s x (i : Int) M L P) (mp L P s d i x, true) := by
  rw [maxLen_eq] at hs
  intro d
  induction d with
  | zero =>
    intro i x hi _ h0 h1
    refine Ev.up ?_
    simp only [spec_MapOf.l0]
    exact Ev.ite_f (by omega) (Ev.val rfl)
  | succ d ih =>
    intro i x hi ha h0 h1
    simp only [allL, Bool.and_eq_true] at ha
    obtain ⟨p1, p2, p3, p4, p5, p6, p7⟩ := map_step h ha.1 h0 h1
    refine Ev.up ?_
    simp only [spec_MapOf.l0]
    refine Ev.ite_t (by omega) (Ev.ite_t h0 (Ev.ite_t p3 (Ev.ite_t (by omega) (Ev.bind (specLI _) (Ev.ite_t p1 (Ev.ite_t p2 (Ev.ite_t p4 (Ev.ite_t p5 ?_))))))))
    rw [cast_succ (i := i) (n := s.size) (by omega) (by omega)]
    exact ih (i + 1) _ (by omega) ha.2 p6 p7
theorem implMapL {M : List (List Int)} {L : List Int} {P : List (List Int)} (h : gd M L P = true) (s : ByteArray) (hs : s.size ≤ maxLen) : ∀ (d i : Nat) (x : Int), i + d = s.size → allL s d i = true → 0 ≤ x → x < M.length →
    Ev (fun k => impl_mapOf.l0 k s x (i : Int) M L P) (mp L P s d i x) := by
  rw [maxLen_eq] at hs
  intro d
  induction d with
  | zero =>
    intro i x hi _ h0 h1
    refine Ev.up ?_
    simp only [impl_mapOf.l0]
    exact Ev.ite_f (by omega) (Ev.val rfl)
  | succ d ih =>
    intro i x hi ha h0 h1
    simp only [allL, Bool.and_eq_true] at ha
    obtain ⟨p1, p2, p3, p4, p5, p6, p7⟩ := map_step h ha.1 h0 h1
    refine Ev.up ?_
    simp only [impl_mapOf.l0]
    refine Ev.ite_t (by omega) (Ev.ite_t h0 (Ev.ite_t p3 (Ev.ite_t (by omega) (Ev.bindc (implLI (bt_range _ _).1 (bt_range _ _).2) (Ev.ite_t p1 (Ev.ite_t p2 (Ev.ite_t p4 (Ev.ite_t p5 ?_))))))))
    rw [cast_succ (i := i) (n := s.size) (by omega) (by omega)]
    exact ih (i + 1) _ (by omega) ha.2 p6 p7
theorem specMap (M : List (List Int)) (L : List Int) (P : List (List Int)) (hM : M.length ≤ 1048576) (hL : L.length ≤ 1048576) (hP : ∀ z ∈ P, z.length ≤ 1048576) (s : ByteArray) (hs : s.size ≤ maxLen) : Ev (fun k => spec_MapOf.f k M L P s) (mapO M L P s) := by
  unfold spec_MapOf.f mapO
  have hj : Ev (fun k => spec_MapOf.j0 k s true M L P) (0, false) := by
    refine Ev.up ?_
    simp only [spec_MapOf.j0]
    exact Ev.ite_t (by simp) (Ev.val rfl)
  refine Ev.bind (specGood M L P hM hL hP) ?_
  refine Ev.ite (fun g => ?_) (fun g => Ev.eq hj (by simp [g]))
  refine Ev.bind (specIW s hs) ?_
  cases w : isW s with
  | false => exact Ev.eq hj (by simp)
  | true =>
    refine Ev.up ?_
    simp only [spec_MapOf.j0]
    refine Ev.ite_f (by simp) ?_
    have g0 := (gd_parts g).1
    have hw : allL s s.size 0 = true := by simp only [isW, Bool.and_eq_true] at w; exact w.1
    exact Ev.eq (specMapL g s hs s.size 0 0 (by omega) hw (by omega) (by omega)) (by simp [g])
theorem implMap (M : List (List Int)) (L : List Int) (P : List (List Int)) (hM : M.length ≤ 1048576) (hL : L.length ≤ 1048576) (hP : ∀ z ∈ P, z.length ≤ 1048576) (s : ByteArray) (hs : s.size ≤ maxLen) : Ev (fun k => impl_MapOf.f k M L P s) (mapO M L P s) := by
  unfold impl_MapOf.f mapO
  refine Ev.bind (implIW s hs) ?_
  refine Ev.ite (fun w => ?_) (fun w => Ev.val (by simp [w]))
  refine Ev.bind (implGood M L P hM hL hP) ?_
  refine Ev.ite (fun g => ?_) (fun g => Ev.val (by simp [g]))
  have g0 := (gd_parts g).1
  have hw : allL s s.size 0 = true := by simp only [isW, Bool.and_eq_true] at w; exact w.1
  unfold impl_mapOf.f
  exact Ev.bind (implMapL g s hs s.size 0 0 (by omega) hw (by omega) (by omega)) (Ev.val (by simp [g, w]))

end Go.Proofs.Ytdepiibcopbjlaa.BFnExactFitsState
