/- Proved: for all pairs of search results, the program's EqualSearch returns what the reference's EqualSearch returns, and leaves its arguments as they were. Conditions: lengths fit an int (given with every input). -/
import Derived.Test.YtdepiibcopbjlaaBQFnExactEqualSearch
import Derived.Test.YtdepiibcopbjlaaOpenFnExactEqualSearch
namespace Go.Proofs.Ytdepiibcopbjlaa.Pure
open Go.RowKit Go.Proofs.Ytdepiibcopbjlaa.PFnExactEqualSearch Go.Proofs.Ytdepiibcopbjlaa.BFnExactEqualSearch Go.Proofs.YtdepiibcopbjlaaW.PrintWords Go.Proofs.YtdepiibcopbjlaaW.PrintLast
set_option linter.unusedVariables false
set_option linter.unusedSimpArgs false

abbrev SR := S54
theorem szVal_some (a b c : ByteArray) (n : Int) : ∃ z, laws_szValues.f a b c n = some z := by
  unfold laws_szValues.f
  repeat' split
  all_goals exact ⟨_, rfl⟩
theorem szVal {a b c : ByteArray} {n z : Int} (h : laws_szValues.f a b c n = some z) (hz : 0 ≤ z) (hn : 0 ≤ n) (hn' : n ≤ 1048576) (ha : a.size ≤ maxLen) (hb : b.size ≤ maxLen) (hc : c.size ≤ maxLen) : z ≤ n := by
  rw [maxLen_eq] at ha hb hc
  unfold laws_szValues.f at h
  rw [wrap_id (n := n - (a.size : Int)) (by omega) (by omega)] at h
  split at h
  · injection h with h; omega
  · rw [wrap_id (n := n - (a.size : Int) - (b.size : Int)) (by omega) (by omega)] at h
    split at h
    · injection h with h; omega
    · rw [wrap_id (n := n - (a.size : Int) - (b.size : Int) - (c.size : Int)) (by omega) (by omega)] at h
      split at h
      · injection h with h; omega
      · injection h with h; omega
theorem szRes (s : SR) (a : Int) (ha : 0 ≤ a) (ha' : a ≤ 1048576) (hl : s.f1.length ≤ maxLen) (ho : ∀ x ∈ s.f1, okLS x) (h0 : s.f2.f0.size ≤ maxLen) (h1 : s.f2.f1.size ≤ maxLen) (h2 : s.f2.f2.size ≤ maxLen) :
    ∃ r, Ev (fun k => laws_szSearchResult.f k s.f0 s.f1 s.f2.f0 s.f2.f1 s.f2.f2 a) r ∧ (0 ≤ r → r ≤ a ∧ s.f1.length ≤ 1048576 ∧ ∀ x ∈ s.f1, x.f2.length ≤ 1048576) := by
  unfold laws_szSearchResult.f
  obtain ⟨r, hr, hr'⟩ := szStS s.f1 a ha ha' hl ho
  by_cases h : r < 0
  · exact ⟨-1, Ev.bind hr (Ev.ite_t h (Ev.val rfl)), fun h => by omega⟩
  · obtain ⟨z, hz⟩ := szVal_some s.f2.f0 s.f2.f1 s.f2.f2 r
    have q := hr' (by omega)
    by_cases h' : z < 0
    · exact ⟨-1, Ev.bind hr (Ev.ite_f h (Ev.bindc hz (Ev.ite_t h' (Ev.val rfl)))), fun h => by omega⟩
    · refine ⟨z, Ev.bind hr (Ev.ite_f h (Ev.bindc hz (Ev.ite_f h' (Ev.val rfl)))), fun h => ⟨?_, q.2⟩⟩
      have := szVal hz (by omega) (by omega) (by omega) h0 h1 h2
      omega
theorem toRes (s : SR) (hl : s.f1.length ≤ 1048576) (ho : ∀ x ∈ s.f1, x.f2.length ≤ 1048576) :
    Ev (fun k => laws_toSearchResult.f k s.f0 s.f1 s.f2.f0 s.f2.f1 s.f2.f2) (s.f0, s.f1.map conv, s.f2.f0, s.f2.f1, s.f2.f2) := by
  unfold laws_toSearchResult.f laws_toValues.f
  exact Ev.bind (toStS _ hl ho) (Ev.val rfl)
def eqR (a b : Int × List IS × ByteArray × ByteArray × ByteArray) : Bool :=
  decide (a.1 = b.1) && (eqL a.2.1 b.2.1 && (decide (a.2.2.1.toList = b.2.2.1.toList) && (decide (a.2.2.2.1.toList = b.2.2.2.1.toList) && decide (a.2.2.2.2.toList = b.2.2.2.2.toList))))
theorem eqR_self (a : Int × List IS × ByteArray × ByteArray × ByteArray) : eqR a a = true := by simp [eqR, eqL_self]
theorem beq_dec (a b : List UInt8) : (a == b) = decide (a = b) := by
  rw [Bool.eq_iff_iff]; simp
theorem specR (a b : Int × List IS × ByteArray × ByteArray × ByteArray) (hl : a.2.1.length ≤ 1048576) (ho : ∀ x ∈ a.2.1, x.f2.length ≤ 1048576) :
    Ev (fun k => spec_EqualSearch.f k a.1 a.2.1 a.2.2.1 a.2.2.2.1 a.2.2.2.2 b.1 b.2.1 b.2.2.1 b.2.2.2.1 b.2.2.2.2) (eqR a b) := by
  unfold spec_EqualSearch.f
  simp only [beq_dec]
  refine Ev.ite (fun h => ?_) (fun h => Ev.val (by simp [eqR, h]))
  refine Ev.ite (fun h' => ?_) (fun h' => Ev.val ?_)
  · refine Ev.bind (specSts _ _ hl ho) (Ev.val ?_)
    rw [eqR, h']; simp [h]
  · rw [Bool.not_eq_true] at h'
    rw [eqR, h']; simp
theorem implR (a b : Int × List IS × ByteArray × ByteArray × ByteArray) (hl : a.2.1.length ≤ 1048576) (ho : ∀ x ∈ a.2.1, x.f2.length ≤ 1048576) :
    Ev (fun k => impl_EqualSearch.f k a.1 a.2.1 a.2.2.1 a.2.2.2.1 a.2.2.2.2 b.1 b.2.1 b.2.2.1 b.2.2.2.1 b.2.2.2.2) (eqR a b) := by
  unfold impl_EqualSearch.f
  simp only [beq_dec]
  refine Ev.ite (fun h => ?_) (fun h => Ev.val (by simp [eqR, h]))
  refine Ev.bind (implSts _ _ hl ho) ?_
  refine Ev.ite (fun h' => Ev.val (by rw [eqR, h']; simp [h])) (fun h' => Ev.val ?_)
  rw [Bool.not_eq_true] at h'
  rw [eqR, h']; simp
theorem lawR (a : Int × List IS × ByteArray × ByteArray × ByteArray) (hl : a.2.1.length ≤ 1048576) (ho : ∀ x ∈ a.2.1, x.f2.length ≤ 1048576) :
    Ev (fun k => laws_eqSearchResult.f k a.1 a.2.1 a.2.2.1 a.2.2.2.1 a.2.2.2.2 a.1 a.2.1 a.2.2.1 a.2.2.2.1 a.2.2.2.2) true := by
  unfold laws_eqSearchResult.f
  have e := eqSts a.2.1 a.2.1 hl ho
  have e2 : (decide (a.2.1.length = a.2.1.length) && allN (fun i => eqS (a.2.1.getD i z46) (a.2.1.getD i z46)) 0 a.2.1.length) = true := eqL_self a.2.1
  rw [e2] at e
  refine Ev.ite_t rfl (Ev.bind e (Ev.ite_t rfl ?_))
  have v : laws_eqValues.f a.2.2.1 a.2.2.2.1 a.2.2.2.2 a.2.2.1 a.2.2.2.1 a.2.2.2.2 = some true := by
    unfold laws_eqValues.f
    rw [if_pos rfl, if_pos rfl, if_pos rfl]
  exact Ev.bindc v (Ev.ite_t rfl (Ev.val rfl))

theorem FnExactEqualSearch : fnExactEqualSearch.PureS := by
  intro a b ha hb
  have oks : ∀ s : SR, fnExactEqualSearch.Ok54 s → s.f1.length ≤ maxLen ∧ (∀ x ∈ s.f1, okLS x) ∧ s.f2.f0.size ≤ maxLen ∧ s.f2.f1.size ≤ maxLen ∧ s.f2.f2.size ≤ maxLen := by
    intro s h
    exact ⟨h.2.1.1, fun x hx => ⟨(h.2.1.2 x hx).1, (h.2.1.2 x hx).2.1, (h.2.1.2 x hx).2.2.1⟩, h.2.2.1, h.2.2.2.1, h.2.2.2.2⟩
  obtain ⟨a1, a2, a3, a4, a5⟩ := oks a ha
  obtain ⟨b1, b2, b3, b4, b5⟩ := oks b hb
  refine Ev.rounds ?_
  unfold laws_FnExactEqualSearch.f
  obtain ⟨r, hr, hr'⟩ := szRes a 1048576 (by omega) (by omega) a1 a2 a3 a4 a5
  refine Ev.bind hr ?_
  refine Ev.ite (fun _ => Ev.val rfl) (fun h => ?_)
  obtain ⟨hra, hal, hao⟩ := hr' (by omega)
  obtain ⟨q, hq, hq'⟩ := szRes b r (by omega) hra b1 b2 b3 b4 b5
  refine Ev.bind hq ?_
  refine Ev.ite (fun _ => Ev.val rfl) (fun h' => ?_)
  obtain ⟨_, hbl, hbo⟩ := hq' (by omega)
  have cv : ∀ l : List LS, (∀ x ∈ l, x.f2.length ≤ 1048576) → ∀ x ∈ l.map conv, x.f2.length ≤ 1048576 := by
    intro l hl x hx
    simp only [List.mem_map] at hx
    obtain ⟨y, hy, rfl⟩ := hx
    exact hl y hy
  have ta := toRes a hal hao
  have tb := toRes b hbl hbo
  have la : (a.f1.map conv).length ≤ 1048576 := by simpa using hal
  have lb : (b.f1.map conv).length ≤ 1048576 := by simpa using hbl
  refine Ev.bind ta (Ev.bind tb (Ev.bind (specR _ _ la (cv _ hao)) (Ev.bind ta (Ev.bind tb (Ev.bind (implR _ _ la (cv _ hao)) ?_)))))
  rw [bool_ne_self]
  refine Ev.ite_f (by decide) (Ev.bind ta (Ev.bind (lawR _ la (cv _ hao)) (Ev.ite_t rfl (Ev.bind tb (Ev.bind (lawR _ lb (cv _ hbo)) (Ev.ite_t rfl (Ev.val rfl)))))))

end Go.Proofs.Ytdepiibcopbjlaa.Pure
