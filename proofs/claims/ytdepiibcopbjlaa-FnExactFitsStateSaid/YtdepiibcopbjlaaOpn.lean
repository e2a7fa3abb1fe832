/- Generic lemmas: an argument that reads as data is laid open as a kind's value (ints, bools, strings, slices, structs). No statement of the seat is proved here. -/
import Derived.Test.YtdepiibcopbjlaaProg
import Derived.Test.YtdepiibcopbjlaaWWords
import Derived.OpenShut
import Derived.ProofKit
import Derived.ChangeOld
import Derived.DataReads
namespace Go.Proofs.Ytdepiibcopbjlaa.Opn
open Go.RowKit Go.Proofs.YtdepiibcopbjlaaW.PrintWords
set_option linter.unusedVariables false

section
variable {H : Type} {enc : TypeId × Value → H} {P : Program} {W : World} {sp : Nat → Bool}

theorem trod_int {t : TypeId} {k : IntKind} (h : P.underlying t = some (.int k)) {fuel : Nat} {c : Value} {x : DataW H × List MemPlace}
    (hx : DataW.trod enc P W 0 sp true fuel t [c] = some x) : ∃ n, c = .int k n ∧ (Lit.int k n).wf = true := by
  cases fuel with
  | zero => simp [DataW.trod] at hx
  | succ fuel =>
    simp only [DataW.trod, h] at hx
    cases c <;> simp at hx
    rename_i k' n
    obtain ⟨⟨rfl, hw⟩, _⟩ := hx
    exact ⟨n, rfl, hw⟩

theorem trod_string {t : TypeId} (h : P.underlying t = some .string) {fuel : Nat} {c : Value} {x : DataW H × List MemPlace}
    (hx : DataW.trod enc P W 0 sp true fuel t [c] = some x) : ∃ s, c = .string s ∧ s.size ≤ maxLen := by
  cases fuel with
  | zero => simp [DataW.trod] at hx
  | succ fuel =>
    simp only [DataW.trod, h] at hx
    cases c <;> simp at hx
    exact ⟨_, rfl, hx.1⟩

theorem trod_int1 {t : TypeId} {k : IntKind} (h : P.underlying t = some (.int k)) {fuel : Nat} {cs : List Value} {x : DataW H × List MemPlace}
    (hx : DataW.trod enc P W 0 sp true fuel t cs = some x) : ∃ n, cs = [.int k n] ∧ (Lit.int k n).wf = true := by
  rcases cs with _ | ⟨c, _ | ⟨c2, cs⟩⟩
  · cases fuel <;> simp [DataW.trod, h] at hx
  · obtain ⟨n, rfl, hw⟩ := trod_int h hx; exact ⟨n, rfl, hw⟩
  · cases fuel <;> simp [DataW.trod, h] at hx
theorem trod_slice1 {t e : TypeId} (h : P.underlying t = some (.slice e)) {fuel : Nat} {cs : List Value} {x : DataW H × List MemPlace}
    (hx : DataW.trod enc P W 0 sp true fuel t cs = some x) : ∃ c, cs = [c] := by
  rcases cs with _ | ⟨c, _ | ⟨c2, cs⟩⟩
  · cases fuel <;> simp [DataW.trod, h] at hx
  · exact ⟨c, rfl⟩
  · cases fuel <;> simp [DataW.trod, h] at hx

theorem exists_list {α : Type} {p : Nat → α → Prop} : ∀ n, (∀ i, i < n → ∃ a, p i a) → ∃ xs : List α, xs.length = n ∧ ∀ i a, xs[i]? = some a → p i a
  | 0, _ => ⟨[], rfl, fun i a h => by simp at h⟩
  | n + 1, h => by
    obtain ⟨xs, hl, hx⟩ := exists_list n (fun i hi => h i (by omega))
    obtain ⟨a, ha⟩ := h n (by omega)
    refine ⟨xs ++ [a], by simp [hl], fun i b hb => ?_⟩
    by_cases hi : i < n
    · rw [List.getElem?_append_left (by omega)] at hb
      exact hx i b hb
    · have hlt : i < (xs ++ [a]).length := by
        rcases Nat.lt_or_ge i (xs ++ [a]).length with h1 | h1
        · exact h1
        · rw [List.getElem?_eq_none h1] at hb; cases hb
      have : i = n := by simp [hl] at hlt; omega
      subst this
      rw [List.getElem?_append_right (by omega)] at hb
      simp [hl] at hb
      exact hb ▸ ha

theorem trod_slice {α : Type} {k : Kd α} {Ok : α → Prop} {t e : TypeId} (h : P.underlying t = some (.slice e)) (hsz : P.cellsOf e = k.sz) {fuel : Nat} {c : Value} {x : DataW H × List MemPlace}
    (hx : DataW.trod enc P W 0 sp true fuel t [c] = some x)
    (he : ∀ m, m < fuel → ∀ (cs : List Value) (y : DataW H × List MemPlace), DataW.trod enc P W 0 sp true m e cs = some y → ∃ a, k.K W a cs ∧ Ok a) :
    ∃ A cap, ∃ xs : List α, c = .slice A xs.length cap ∧ xs.length ≤ cap ∧ k.C W A xs.length xs ∧ (∀ a ∈ xs, Ok a) := by
  cases fuel with
  | zero => simp [DataW.trod] at hx
  | succ fuel =>
    simp only [DataW.trod, h] at hx
    split at hx
    all_goals (try (exfalso; simp_all; done))
    all_goals (try (rename_i heq; simp at heq; done))
    · rename_i heq
      simp at heq
      subst heq
      exact ⟨none, 0, [], rfl, Nat.le_refl _, Kd.C_nil k W, fun a ha => by simp at ha⟩
    · rename_i e' a len cap hu hcs
      have hee : e' = e := by simpa using hu.symm
      subst hee
      have hc : c = .slice (some a) len cap := by simpa using hcs
      subst hc
      split at hx
      · rename_i hb
        obtain ⟨_, hlc, hcm⟩ := hb
        simp only [Option.bind_eq_some_iff] at hx
        obtain ⟨elems, hel, _⟩ := hx
        have hget : ∀ i, i < len → ∃ y, (W.cells? 0 (a.add (i * P.cellsOf e')) (P.cellsOf e')).bind (DataW.trod enc P W 0 sp true fuel e') = some y := by
          intro i hi
          have h1 := mapM_some_get hel i i (by simp [hi])
          have h2 : elems.length = len := by have := mapM_some_length hel; simpa using this
          rw [List.getElem?_eq_getElem (by omega)] at h1
          exact ⟨_, h1⟩
        have hall : ∀ i, i < len → ∃ z : α, ∃ cs : List Value, W.cells? 0 (a.add (i * P.cellsOf e')) (P.cellsOf e') = some cs ∧ k.K W z cs ∧ Ok z := by
          intro i hi
          obtain ⟨y, hy⟩ := hget i hi
          simp only [Option.bind_eq_some_iff] at hy
          obtain ⟨cs, hcs, hy⟩ := hy
          obtain ⟨z, hk, ho⟩ := he fuel (by omega) cs y hy
          exact ⟨z, cs, hcs, hk, ho⟩
        obtain ⟨xs, hl, hxs⟩ := exists_list len hall
        subst hl
        refine ⟨some a, cap, xs, rfl, hlc, ⟨rfl, by simp only [maxLen] at hcm; omega, fun _ => ⟨a, rfl, fun j p hp => ?_⟩⟩, fun z hz => ?_⟩
        · obtain ⟨cs, hcs, hk, _⟩ := hxs j p hp
          refine ⟨cs, k.K_len hk, hk, fun i u hu => ?_⟩
          have hle : i < P.cellsOf e' := by
            rw [hsz, ← k.K_len hk]
            rcases Nat.lt_or_ge i cs.length with h1 | h1
            · exact h1
            · rw [List.getElem?_eq_none h1] at hu; cases hu
          unfold World.cells? at hcs
          simp at hcs
          have h1 := mapM_some_get hcs i i (by simp [hle])
          rw [hu, hsz] at h1
          rw [← h1]
          unfold Addr.add
          by_cases h0 : j * k.sz = 0
          · simp [h0]
          · by_cases hi0 : i = 0
            · simp [hi0]
            · have h2 : ¬ (j * k.sz + i = 0) := by omega
              rw [if_neg h0, if_neg hi0, if_neg h2, Nat.add_assoc]
        · obtain ⟨i, hi, hie⟩ := List.getElem_of_mem hz
          obtain ⟨_, _, _, ho⟩ := hxs i z (by rw [List.getElem?_eq_getElem hi, hie])
          exact ho
      · cases hx

theorem trod_struct {t : TypeId} {fs : Array Field} (h : P.underlying t = some (.struct fs)) {fuel : Nat} {cs : List Value} {x : DataW H × List MemPlace}
    (hx : DataW.trod enc P W 0 sp true fuel t cs = some x) :
    cs.length = P.cellsOf t ∧ ∃ m, m < fuel ∧ ∀ f ∈ fs.toList, ∃ y, DataW.trod enc P W 0 sp true m f.type ((cs.drop f.offset).take (P.cellsOf f.type)) = some y := by
  cases fuel with
  | zero => simp [DataW.trod] at hx
  | succ fuel =>
    simp only [DataW.trod, h] at hx
    split at hx
    · rename_i hl
      refine ⟨hl, fuel, Nat.lt_succ_self _, fun f hf => ?_⟩
      simp only [Option.map_eq_some_iff] at hx
      obtain ⟨xs, hxs, _⟩ := hx
      obtain ⟨i, hi, hie⟩ := List.getElem_of_mem hf
      have h1 := mapM_some_get hxs i f (by rw [List.getElem?_eq_getElem hi, hie])
      have h2 := mapM_some_length hxs
      rw [List.getElem?_eq_getElem (by omega)] at h1
      exact ⟨_, h1⟩
    · cases hx
end
end Go.Proofs.Ytdepiibcopbjlaa.Opn
