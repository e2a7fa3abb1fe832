/- The laws' helpers on equations, monoids, frames and states: what they copy, compare and count. No statement of the seat is proved here. -/
import Derived.Test.YtdepiibcopbjlaaBJFnExactFitsState
namespace Go.Proofs.Ytdepiibcopbjlaa.BFnExactFitsState
open Go.RowKit Go.Proofs.Ytdepiibcopbjlaa.PFnExactFitsState Go.Proofs.YtdepiibcopbjlaaW.PrintWords Go.Proofs.YtdepiibcopbjlaaW.PrintLast
set_option linter.unusedVariables false

def okL (l : List (List Int)) : Prop := l.length ≤ 1048576 ∧ ∀ z ∈ l, z.length ≤ 1048576
theorem okL.max {l : List (List Int)} (h : okL l) : l.length ≤ maxLen ∧ ∀ z ∈ l, z.length ≤ maxLen :=
  ⟨Nat.le_trans h.1 (by decide), fun z hz => Nat.le_trans (h.2 z hz) (by decide)⟩
theorem szEqn_some (a b : ByteArray) (n : Int) : ∃ z, laws_szEquation.f a b n = some z := by
  unfold laws_szEquation.f
  repeat' split
  all_goals exact ⟨_, rfl⟩
theorem szEqn {a b : ByteArray} {n z : Int} (h : laws_szEquation.f a b n = some z) (hz : 0 ≤ z) (hn : 0 ≤ n) (hn' : n ≤ 1048576) (ha : a.size ≤ maxLen) (hb : b.size ≤ maxLen) :
    z ≤ n ∧ a.size ≤ 1048576 ∧ b.size ≤ 1048576 := by
  rw [maxLen_eq] at ha hb
  unfold laws_szEquation.f at h
  rw [wrap_id (n := n - (a.size : Int)) (by omega) (by omega)] at h
  split at h
  · injection h with h; omega
  · rw [wrap_id (n := n - (a.size : Int) - (b.size : Int)) (by omega) (by omega)] at h
    split at h
    · injection h with h; omega
    · injection h with h; omega
theorem szMonoid (M : List (List Int)) (L : List Int) (P : List (List Int)) (a : Int) (ha : 0 ≤ a) (ha' : a ≤ 1048576) (hM : M.length ≤ maxLen) (hM' : ∀ z ∈ M, z.length ≤ maxLen) (hL : L.length ≤ maxLen) (hP : P.length ≤ maxLen) (hP' : ∀ z ∈ P, z.length ≤ maxLen) :
    ∃ r, Ev (fun k => laws_szMonoid.f k M L P a) r ∧ (0 ≤ r → r ≤ a ∧ okL M ∧ L.length ≤ 1048576 ∧ okL P) := by
  unfold laws_szMonoid.f
  obtain ⟨x, hx, hx'⟩ := szII M a ha ha' hM hM'
  by_cases x0 : x < 0
  · exact ⟨-1, Ev.bind hx (Ev.ite_t x0 (Ev.val rfl)), fun h => by omega⟩
  have hx' := hx' (by omega)
  obtain ⟨y, hy, hy'⟩ := szI L x (by omega) (by omega) hL
  by_cases y0 : y < 0
  · exact ⟨-1, Ev.bind hx (Ev.ite_f x0 (Ev.bindc hy (Ev.ite_t y0 (Ev.val rfl)))), fun h => by omega⟩
  have hy' := hy' (by omega)
  obtain ⟨z, hz, hz'⟩ := szII P y (by omega) (by omega) hP hP'
  by_cases z0 : z < 0
  · exact ⟨-1, Ev.bind hx (Ev.ite_f x0 (Ev.bindc hy (Ev.ite_f y0 (Ev.bind hz (Ev.ite_t z0 (Ev.val rfl)))))), fun h => by omega⟩
  have hz' := hz' (by omega)
  exact ⟨z, Ev.bind hx (Ev.ite_f x0 (Ev.bindc hy (Ev.ite_f y0 (Ev.bind hz (Ev.ite_f z0 (Ev.val rfl)))))), fun h => ⟨by omega, hx'.2, hy'.2, hz'.2⟩⟩
theorem szFrame (u v : ByteArray) (M : List (List Int)) (L : List Int) (P : List (List Int)) (R : List (List Int)) (a : Int) (ha : 0 ≤ a) (ha' : a ≤ 1048576) (hu : u.size ≤ maxLen) (hv : v.size ≤ maxLen) (hM : M.length ≤ maxLen) (hM' : ∀ z ∈ M, z.length ≤ maxLen) (hL : L.length ≤ maxLen) (hP : P.length ≤ maxLen) (hP' : ∀ z ∈ P, z.length ≤ maxLen) (hR : R.length ≤ maxLen) (hR' : ∀ z ∈ R, z.length ≤ maxLen) :
    ∃ r, Ev (fun k => laws_szFrame.f k u v M L P R a) r ∧ (0 ≤ r → r ≤ a ∧ u.size ≤ 1048576 ∧ v.size ≤ 1048576 ∧ okL M ∧ L.length ≤ 1048576 ∧ okL P ∧ okL R) := by
  unfold laws_szFrame.f
  obtain ⟨x, hx⟩ := szEqn_some u v a
  by_cases x0 : x < 0
  · exact ⟨-1, Ev.bindc hx (Ev.ite_t x0 (Ev.val rfl)), fun h => by omega⟩
  have hx' := szEqn hx (by omega) ha ha' hu hv
  obtain ⟨y, hy, hy'⟩ := szMonoid M L P x (by omega) (by omega) hM hM' hL hP hP'
  by_cases y0 : y < 0
  · exact ⟨-1, Ev.bindc hx (Ev.ite_f x0 (Ev.bind hy (Ev.ite_t y0 (Ev.val rfl)))), fun h => by omega⟩
  have hy' := hy' (by omega)
  obtain ⟨z, hz, hz'⟩ := szII R y (by omega) (by omega) hR hR'
  by_cases z0 : z < 0
  · exact ⟨-1, Ev.bindc hx (Ev.ite_f x0 (Ev.bind hy (Ev.ite_f y0 (Ev.bind hz (Ev.ite_t z0 (Ev.val rfl)))))), fun h => by omega⟩
  have hz' := hz' (by omega)
  exact ⟨z, Ev.bindc hx (Ev.ite_f x0 (Ev.bind hy (Ev.ite_f y0 (Ev.bind hz (Ev.ite_f z0 (Ev.val rfl)))))), fun h => ⟨by omega, hx'.2.1, hx'.2.2, hy'.2.1, hy'.2.2.1, hy'.2.2.2, hz'.2⟩⟩
theorem szStateE (u v : ByteArray) (l : List Int) (a : Int) (ha : 0 ≤ a) (ha' : a ≤ 1048576) (hu : u.size ≤ maxLen) (hv : v.size ≤ maxLen) (hl : l.length ≤ maxLen) :
    ∃ r, laws_szState.f u v l a = some r ∧ (0 ≤ r → r ≤ a ∧ u.size ≤ 1048576 ∧ v.size ≤ 1048576 ∧ l.length ≤ 1048576) := by
  rw [maxLen_eq] at hu hv
  unfold laws_szState.f
  rw [wrap_id (n := a - (u.size : Int)) (by omega) (by omega)]
  by_cases h1 : a - (u.size : Int) < 0
  · exact ⟨-1, by rw [if_pos h1], fun h => by omega⟩
  rw [if_neg h1, wrap_id (n := a - (u.size : Int) - (v.size : Int)) (by omega) (by omega)]
  by_cases h2 : a - (u.size : Int) - (v.size : Int) < 0
  · exact ⟨-1, by rw [if_pos h2], fun h => by omega⟩
  rw [if_neg h2]
  obtain ⟨q, hq, hq'⟩ := szI l (a - (u.size : Int) - (v.size : Int)) (by omega) (by omega) hl
  rw [hq]
  simp only [Option.bind_some]
  by_cases h3 : q < 0
  · exact ⟨-1, by rw [if_pos h3], fun h => by omega⟩
  have hq' := hq' (by omega)
  exact ⟨q, by rw [if_neg h3], fun h => ⟨by omega, by omega, by omega, by omega⟩⟩
theorem toSta (u v : ByteArray) (l : List Int) (hl : l.length ≤ 1048576) : Ev (fun k => laws_toState.f k u v l) (u, v, l) := by
  unfold laws_toState.f
  exact Ev.bind (toInts _ hl) (Ev.val rfl)
theorem toFra (u v : ByteArray) (M : List (List Int)) (L : List Int) (P : List (List Int)) (R : List (List Int)) (hM : okL M) (hL : L.length ≤ 1048576) (hP : okL P) (hR : okL R) : Ev (fun k => laws_toFrame.f k u v M L P R) (u, v, M, L, P, R) := by
  unfold laws_toFrame.f laws_toEquation.f laws_toMonoid.f
  exact Ev.bindc rfl (Ev.bind (Ev.bind (toIntss _ hM.1 hM.2) (Ev.bind (toInts _ hL) (Ev.bind (toIntss _ hP.1 hP.2) (Ev.val rfl)))) (Ev.bind (toIntss _ hR.1 hR.2) (Ev.val rfl)))
theorem eqSta (u v : ByteArray) (l : List Int) (hl : l.length ≤ 1048576) : Ev (fun k => laws_eqState.f k u v l u v l) true := by
  unfold laws_eqState.f
  refine Ev.ite_t rfl (Ev.ite_t rfl (Ev.bind (eqInts l l (Nat.le_trans hl (by decide))) ?_))
  exact Ev.ite_t (eqI_self l) (Ev.val rfl)
theorem eqFra (u v : ByteArray) (M : List (List Int)) (L : List Int) (P : List (List Int)) (R : List (List Int)) (hM : okL M) (hL : L.length ≤ 1048576) (hP : okL P) (hR : okL R) : Ev (fun k => laws_eqFrame.f k u v M L P R u v M L P R) true := by
  unfold laws_eqFrame.f laws_eqEquation.f laws_eqMonoid.f
  have e1 : (if u.toList = u.toList then (if v.toList = v.toList then (some true) else (some false)) else (some false)) = some true := by rw [if_pos rfl, if_pos rfl]
  refine Ev.bindc e1 (Ev.ite_t rfl (Ev.bind (a := true) ?_ (Ev.ite_t rfl (Ev.bind (eqIntss R R hR.max.1 hR.max.2) (Ev.ite_t (eqII_self R) (Ev.val rfl))))))
  exact Ev.bind (eqIntss M M hM.max.1 hM.max.2) (Ev.ite_t (eqII_self M) (Ev.bind (eqInts L L (Nat.le_trans hL (by decide))) (Ev.ite_t (eqI_self L) (Ev.bind (eqIntss P P hP.max.1 hP.max.2) (Ev.ite_t (eqII_self P) (Ev.val rfl))))))

end Go.Proofs.Ytdepiibcopbjlaa.BFnExactFitsState
