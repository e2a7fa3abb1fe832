/- An argument that reads as data, as a tree. -/
import Derived.OpenShut
import Derived.ProofKit
import Derived.ChangeOld
import Derived.DataReads
import Derived.Test.YtidlhjphgnfbbaaEvN
import Derived.Test.YtidlhjphgnfbbaaEvO
set_option linter.unusedVariables false
set_option linter.unusedSimpArgs false
namespace Go.Ev
open Go Go.RowKit

def TyOk (P : Program) : Nat → TypeId → List V → Prop
 | 0, _, _ => False
 | n + 1, t, vs => match P.underlying t with
   | some .bool => ∃ b, vs = [.bool b]
   | some (.int k) => ∃ m, vs = [.int k m] ∧ (Lit.int k m).wf = true
   | some .string => ∃ s, vs = [.str s] ∧ s.size ≤ maxLen
   | some (.slice e) => ∃ l, vs = [.slc false (P.cellsOf e) l] ∧ l.length ≤ maxLen ∧ ∀ x ∈ l, ∃ us, x = pack (isAgg P e) us ∧ TyOk P n e us ∧ us.length = P.cellsOf e
   | some (.struct fs) => vs.length = P.cellsOf t ∧ ∀ f ∈ fs.toList, TyOk P n f.type ((vs.drop f.offset).take (P.cellsOf f.type))
   | _ => False
def tiles (P : Program) : Nat → List Field → Nat → Bool
 | n, [], m => n == m
 | n, f :: fs, m => f.offset == n && P.cellsOf f.type != 0 && tiles P (n + P.cellsOf f.type) fs m
def closedT (P : Program) (L : List TypeId) : Bool := L.all fun t => match P.underlying t with
 | some .bool | some (.int _) | some .string => P.cellsOf t == 1
 | some (.slice e) => P.cellsOf t == 1 && memN e L && P.cellsOf e != 0 && (isAgg P e || P.cellsOf e == 1)
 | some (.struct fs) => fs.toList.all (fun f => memN f.type L) && tiles P 0 fs.toList (P.cellsOf t)
 | _ => false

theorem memN_mem : ∀ {l : List Nat} {n : Nat}, memN n l = true → n ∈ l := by
 intro l
 induction l with
 | nil => intro n h; cases h
 | cons a l ih =>
   intro n h
   unfold memN at h
   split at h
   · rename_i e; subst e; exact List.mem_cons_self ..
   · exact List.mem_cons_of_mem _ (ih h)

abbrev CellTr (W : World) (v : V) (c : Value) : Prop := Tr (fun g j => W.cell? ⟨g, j, none⟩) (fun _ _ => none) v c
def RowTr (W : World) (vs : List V) (cs : List Value) : Prop := vs.length = cs.length ∧ vs.all pureC = true ∧ ∀ j, j < vs.length → CellTr W (vs.getD j .undef) (cs.getD j Go.undef)

theorem RowTr.append {W : World} {a b : List V} {c d : List Value} (h : RowTr W a c) (h' : RowTr W b d) : RowTr W (a ++ b) (c ++ d) := by
 obtain ⟨h1, h2, h3⟩ := h
 obtain ⟨k1, k2, k3⟩ := h'
 refine ⟨by simp [h1, k1], by simp [List.all_append, h2, k2], fun j hj => ?_⟩
 simp only [List.getD_eq_getElem?_getD] at h3 k3 ⊢
 by_cases hl : j < a.length
 · rw [List.getElem?_append_left hl, List.getElem?_append_left (by omega)]
   exact h3 j hl
 · rw [List.getElem?_append_right (by omega), List.getElem?_append_right (by omega), ← h1]
   simp only [List.length_append] at hj
   exact k3 _ (by omega)

theorem tile_row {P : Program} {W : World} {Q : Field → List V → Prop} {m : Nat} {cs : List Value} (hm : cs.length = m) : ∀ (fs : List Field) (n : Nat), tiles P n fs m = true → n ≤ m →
   (∀ f ∈ fs, ∃ us, Q f us ∧ us.length = P.cellsOf f.type ∧ RowTr W us ((cs.drop f.offset).take (P.cellsOf f.type))) →
   ∃ vs, n + vs.length = m ∧ RowTr W vs (cs.drop n) ∧ ∀ f ∈ fs, n ≤ f.offset ∧ Q f ((vs.drop (f.offset - n)).take (P.cellsOf f.type)) := by
 intro fs
 induction fs with
 | nil =>
   intro n ht hn _
   have : n = m := by simpa [tiles] using ht
   subst this
   refine ⟨[], rfl, ?_, fun f hf => by cases hf⟩
   rw [List.drop_eq_nil_of_le (by omega)]
   exact ⟨rfl, rfl, fun j hj => by cases hj⟩
 | cons f fs ih =>
   intro n ht hn h
   simp only [tiles, Bool.and_eq_true, beq_iff_eq] at ht
   obtain ⟨⟨ho, h0⟩, ht⟩ := ht
   obtain ⟨us, hq, hl, hr⟩ := h f (List.mem_cons_self ..)
   have hle : n + P.cellsOf f.type ≤ m := by
     have := hr.1
     rw [hl, List.length_take, List.length_drop, ho, hm] at this
     omega
   obtain ⟨vs, hv, hw, hf⟩ := ih _ ht hle (fun g hg => h g (List.mem_cons_of_mem _ hg))
   refine ⟨us ++ vs, by rw [List.length_append]; omega, ?_, ?_⟩
   · have : cs.drop n = (cs.drop n).take (P.cellsOf f.type) ++ cs.drop (n + P.cellsOf f.type) := by
       rw [← List.drop_drop, List.take_append_drop]
     rw [this]
     rw [ho] at hr
     exact hr.append hw
   · intro g hg
     rcases List.mem_cons.1 hg with rfl | hg
     · refine ⟨by omega, ?_⟩
       rw [ho, Nat.sub_self, List.drop_zero, ← hl, List.take_left]
       exact hq
     · obtain ⟨h1, h2⟩ := hf g hg
       refine ⟨by omega, ?_⟩
       have : (us ++ vs).drop (g.offset - n) = vs.drop (g.offset - (n + P.cellsOf f.type)) := by
         rw [List.drop_append]
         rw [List.drop_eq_nil_of_le (by omega), List.nil_append]
         congr 1
         omega
       rw [this]
       exact h2

theorem exists_rows {α : Type} {p : Nat → α → Prop} : ∀ n, (∀ i, i < n → ∃ a, p i a) → ∃ xs : List α, xs.length = n ∧ ∀ i a, xs[i]? = some a → p i a
 | 0, _ => ⟨[], rfl, fun i a h => by simp at h⟩
 | n + 1, h => by
   obtain ⟨xs, hl, hx⟩ := exists_rows n (fun i hi => h i (by omega))
   obtain ⟨a, ha⟩ := h n (by omega)
   refine ⟨xs ++ [a], by simp [hl], fun i b hb => ?_⟩
   by_cases hi : i < n
   · rw [List.getElem?_append_left (by omega)] at hb
     exact hx i b hb
   · have hlt : i < (xs ++ [a]).length := by
       rcases Nat.lt_or_ge i (xs ++ [a]).length with h1 | h1
       · exact h1
       · rw [List.getElem?_eq_none h1] at hb; cases hb
     have : i = n := by simp [hl] at hlt; omega
     subst this
     rw [List.getElem?_append_right (by omega)] at hb
     simp [hl] at hb
     exact hb ▸ ha

theorem pack_flat {b : Bool} {us : List V} (h : b = true ∨ us.length = 1) (hp : us.all pureC = true) : (pack b us).flat = us := by
 unfold pack
 split
 · rfl
 · rcases h with h | h
   · rename_i e; exact absurd h e
   · match us, h with
     | [u], _ =>
       simp only [List.all_cons, List.all_nil, Bool.and_true] at hp
       cases u <;> first | rfl | cases hp

section
variable {H : Type} {enc : TypeId × Value → H} {P : Program} {W : World} {sp : Nat → Bool} {L : List TypeId}
theorem trod_tr (hL : closedT P L = true) : ∀ (fuel : Nat) (t : TypeId) (cs : List Value) (x : DataW H × List MemPlace), t ∈ L → DataW.trod enc P W 0 sp true fuel t cs = some x →
   ∃ vs, TyOk P fuel t vs ∧ vs.length = P.cellsOf t ∧ RowTr W vs cs := by
 intro fuel
 induction fuel with
 | zero => intro t cs x _ h; simp [DataW.trod] at h
 | succ fuel ih =>
   intro t cs x ht hx
   have hc := List.all_eq_true.1 hL t ht
   have one : ∀ {v : V} {c : Value}, pureC v = true → CellTr W v c → RowTr W [v] [c] := by
     intro v c hp hv
     refine ⟨rfl, by simp [hp], fun j hj => ?_⟩
     have : j = 0 := by simpa using hj
     subst this
     exact hv
   simp only [TyOk]
   revert hc
   cases hu : P.underlying t with
   | none => intro hc; cases hc
   | some td =>
     cases td with
     | bool =>
       intro hc
       simp only [DataW.trod, hu] at hx
       dsimp only at hc ⊢
       have hcc : P.cellsOf t = 1 := by simpa using hc
       rcases cs with _ | ⟨c, _ | ⟨c2, cs⟩⟩
       · simp at hx
       · cases c <;> simp at hx
         rename_i b
         exact ⟨[.bool b], ⟨b, rfl⟩, hcc.symm, one rfl (.bool b)⟩
       · simp at hx
     | int k =>
       intro hc
       simp only [DataW.trod, hu] at hx
       dsimp only at hc ⊢
       have hcc : P.cellsOf t = 1 := by simpa using hc
       rcases cs with _ | ⟨c, _ | ⟨c2, cs⟩⟩
       · simp at hx
       · cases c <;> simp at hx
         rename_i k' n
         obtain ⟨⟨rfl, hw⟩, _⟩ := hx
         exact ⟨[.int k' n], ⟨n, rfl, hw⟩, hcc.symm, one rfl (.int k' n)⟩
       · simp at hx
     | string =>
       intro hc
       simp only [DataW.trod, hu] at hx
       dsimp only at hc ⊢
       have hcc : P.cellsOf t = 1 := by simpa using hc
       rcases cs with _ | ⟨c, _ | ⟨c2, cs⟩⟩
       · simp at hx
       · cases c <;> simp at hx
         rename_i s
         exact ⟨[.str s], ⟨s, rfl, hx.1⟩, hcc.symm, one rfl (.str s)⟩
       · simp at hx
     | struct fs =>
       intro hc
       simp only [DataW.trod, hu] at hx
       dsimp only at hc ⊢
       simp only [Bool.and_eq_true] at hc
       obtain ⟨hcl, hti⟩ := hc
       split at hx
       · rename_i hl
         simp only [Option.map_eq_some_iff] at hx
         obtain ⟨xs, hxs, _⟩ := hx
         have hall : ∀ f ∈ fs.toList, ∃ us, TyOk P fuel f.type us ∧ us.length = P.cellsOf f.type ∧ RowTr W us ((cs.drop f.offset).take (P.cellsOf f.type)) := by
           intro f hf
           obtain ⟨i, hi, hie⟩ := List.getElem_of_mem hf
           have h1 := mapM_some_get hxs i f (by rw [List.getElem?_eq_getElem hi, hie])
           have h2 := mapM_some_length hxs
           rw [List.getElem?_eq_getElem (by omega)] at h1
           exact ih _ _ _ (memN_mem (List.all_eq_true.1 hcl f hf)) h1
         obtain ⟨vs, h1, h2, h3⟩ := tile_row (Q := fun f us => TyOk P fuel f.type us) hl fs.toList 0 hti (Nat.zero_le _) hall
         refine ⟨vs, ⟨by omega, fun f hf => ?_⟩, by omega, by simpa using h2⟩
         have := (h3 f hf).2
         simpa using this
       · cases hx
     | slice e =>
       intro hc
       simp only [DataW.trod, hu] at hx
       dsimp only at hc ⊢
       simp only [Bool.and_eq_true, Bool.or_eq_true, beq_iff_eq, bne_iff_ne, ne_eq] at hc
       obtain ⟨⟨⟨hcc, heL⟩, hne⟩, hag⟩ := hc
       split at hx
       all_goals (try (exfalso; simp_all; done))
       all_goals (try (rename_i heq; simp at heq; done))
       · rename_i heq
         refine ⟨[.slc false (P.cellsOf e) []], ⟨[], rfl, Nat.zero_le _, fun x hx => by cases hx⟩, hcc.symm, one rfl (.slc0 ..)⟩
       · rename_i e' a len cap hu'
         have hee : e' = e := by simpa using hu'.symm
         subst hee
         split at hx
         · rename_i hb
           obtain ⟨_, hlc, hcm⟩ := hb
           simp only [Option.bind_eq_some_iff] at hx
           obtain ⟨elems, hel, _⟩ := hx
           have h2 : elems.length = len := by have := mapM_some_length hel; simpa using this
           have hall : ∀ i, i < len → ∃ us : List V, ∃ cs : List Value, W.cells? 0 (a.add (i * P.cellsOf e')) (P.cellsOf e') = some cs ∧ TyOk P fuel e' us ∧ us.length = P.cellsOf e' ∧ RowTr W us cs := by
             intro i hi
             have h1 := mapM_some_get hel i i (by simp [hi])
             rw [List.getElem?_eq_getElem (by omega)] at h1
             simp only [Option.bind_eq_some_iff] at h1
             obtain ⟨cs, hcs, hy⟩ := h1
             obtain ⟨us, h3, h4, h5⟩ := ih _ _ _ (memN_mem heL) hy
             exact ⟨us, cs, hcs, h3, h4, h5⟩
           obtain ⟨xs, hl, hxs⟩ := exists_rows len hall
           subst hl
           by_cases h0 : xs.length = 0
           · have : xs = [] := List.length_eq_zero_iff.1 h0
             subst this
             exact ⟨[.slc false (P.cellsOf e') []], ⟨[], rfl, Nat.zero_le _, fun x hx => by cases hx⟩, hcc.symm, one rfl (.slc0 ..)⟩
           · have hcell : ∀ i us, xs[i]? = some us → ∀ j, j < P.cellsOf e' → ∃ c, W.cell? ((a.add (i * P.cellsOf e')).add j) = some c ∧ CellTr W (us.getD j .undef) c := by
               intro i us hi j hj
               obtain ⟨cs, hcs, h3, h4, h5⟩ := hxs i us hi
               unfold World.cells? at hcs
               simp at hcs
               have h6 := mapM_some_length hcs
               have h1 := mapM_some_get hcs j j (by simp [hj])
               have hj' : j < cs.length := by simpa [h6] using hj
               rw [List.getElem?_eq_getElem hj'] at h1
               refine ⟨_, h1, ?_⟩
               have := h5.2.2 j (by omega)
               simpa [List.getD_eq_getElem?_getD, List.getElem?_eq_getElem hj'] using this
             have hspot : a.spot = none := by
               obtain ⟨us, hus⟩ : ∃ us, xs[0]? = some us := ⟨_, List.getElem?_eq_getElem (by omega)⟩
               obtain ⟨c, h1, _⟩ := hcell 0 us hus 0 (by omega)
               have := World.cell?_spot h1
               simpa [Addr.add] using this
             obtain ⟨ab, ao, asp⟩ := a
             dsimp only at hspot
             subst hspot
             have hadd : ∀ i j, (Addr.add (Addr.add ⟨ab, ao, none⟩ (i * P.cellsOf e')) j) = ⟨ab, ao + i * P.cellsOf e' + j, none⟩ := by
               intro i j
               unfold Addr.add
               split
               · rename_i hj; subst hj
                 split
                 · rename_i hi; simp [hi]
                 · rfl
               · split
                 · rename_i hi; simp [hi]
                 · rfl
             have hpk : ∀ us ∈ xs, us.length = P.cellsOf e' ∧ us.all pureC = true ∧ (pack (isAgg P e') us).flat = us := by
               intro us hus
               obtain ⟨i, hi, hie⟩ := List.getElem_of_mem hus
               obtain ⟨cs, hcs, h3, h4, h5⟩ := hxs i us (by rw [List.getElem?_eq_getElem hi, hie])
               refine ⟨h4, h5.2.1, pack_flat ?_ h5.2.1⟩
               rcases hag with h | h
               · exact .inl h
               · exact .inr (by omega)
             have hget : ∀ i (hi : i < xs.length), ((xs.map (pack (isAgg P e'))).getD i .undef).flat = xs[i] := by
               intro i hi
               simp only [List.getD_eq_getElem?_getD, List.getElem?_map, List.getElem?_eq_getElem hi, Option.map_some, Option.getD_some]
               exact (hpk _ (List.getElem_mem hi)).2.2
             refine ⟨[.slc false (P.cellsOf e') (xs.map (pack (isAgg P e')))], ⟨_, rfl, by simp only [List.length_map]; omega, ?_⟩, hcc.symm, ?_⟩
             · intro v hv
               obtain ⟨us, hus, rfl⟩ := List.mem_map.1 hv
               obtain ⟨i, hi, hie⟩ := List.getElem_of_mem hus
               obtain ⟨cs, hcs, h3, h4, h5⟩ := hxs i us (by rw [List.getElem?_eq_getElem hi, hie])
               exact ⟨us, rfl, h3, h4⟩
             · have hlen : (xs.map (pack (isAgg P e'))).length = xs.length := List.length_map ..
               have key := Tr.slc (S := fun g j => W.cell? ⟨g, j, none⟩) (β := fun _ _ => none) (P.cellsOf e') (xs.map (pack (isAgg P e'))) ab ao cap
                 (fun i j => (W.cell? ⟨ab, ao + i * P.cellsOf e' + j, none⟩).getD Go.undef) (by omega)
                 (by
                   intro v hv
                   obtain ⟨us, hus, rfl⟩ := List.mem_map.1 hv
                   obtain ⟨h1, h2, h3⟩ := hpk us hus
                   rw [h3]
                   exact ⟨h1, h2⟩)
                 (by
                   intro i j hi hj
                   rw [hlen] at hi
                   obtain ⟨c, h1, _⟩ := hcell i xs[i] (List.getElem?_eq_getElem hi) j hj
                   rw [hadd] at h1
                   rw [h1]
                   rfl)
                 (by
                   intro i j hi hj
                   rw [hlen] at hi
                   obtain ⟨c, h1, h2⟩ := hcell i xs[i] (List.getElem?_eq_getElem hi) j hj
                   rw [hadd] at h1
                   rw [h1, hget i hi]
                   exact h2)
               rw [hlen] at key
               exact one rfl key
         · cases hx
     | _ => intro hc; cases hc
end
def fieldsOf (P : Program) (t : TypeId) : Option (List (TypeId × Nat)) := match P.underlying t with
 | some (.struct fs) => some (fs.toList.map fun f => (f.type, f.offset))
 | _ => none
theorem tyOk_int {P : Program} {t : TypeId} {n : Nat} {vs : List V} {k : IntKind} (hu : P.underlying t = some (.int k)) (h : TyOk P n t vs) : ∃ m, vs = [.int k m] ∧ (Lit.int k m).wf = true := by
 cases n with
 | zero => cases h
 | succ n => simpa only [TyOk, hu] using h
theorem list_of {α : Type} {f : α → V} : ∀ {l : List V}, (∀ x ∈ l, ∃ a : α, x = f a ∧ okV (f a)) → ∃ as : List α, l = as.map f ∧ okL (as.map f) := by
 intro l
 induction l with
 | nil => intro _; exact ⟨[], rfl, trivial⟩
 | cons b l ih =>
   intro h
   obtain ⟨a, rfl, ha⟩ := h b (List.mem_cons_self ..)
   obtain ⟨as, rfl, hs⟩ := ih fun x hx => h x (List.mem_cons_of_mem _ hx)
   exact ⟨a :: as, rfl, ha, hs⟩
theorem tyOk_slc {P : Program} {t e : TypeId} {n : Nat} {vs : List V} {α : Type} {f : α → V} (hu : P.underlying t = some (.slice e)) (he : ∀ us, TyOk P n e us → ∃ a : α, pack (isAgg P e) us = f a ∧ okV (f a)) (h : TyOk P (n + 1) t vs) :
   ∃ l : List α, vs = [.slc false (P.cellsOf e) (l.map f)] ∧ l.length ≤ 9223372036854775807 ∧ okL (l.map f) := by
 simp only [TyOk, hu] at h
 obtain ⟨l, rfl, hl, hx⟩ := h
 obtain ⟨as, rfl, hs⟩ := list_of (f := f) (l := l) fun x hm => by
   obtain ⟨us, rfl, h1, _⟩ := hx x hm
   exact he us h1
 exact ⟨as, rfl, by rw [List.length_map] at hl; exact hl, hs⟩
theorem ty_int1 {P : Program} {e : TypeId} {n : Nat} {us : List V} {k : IntKind} (ha : isAgg P e = false) (hu : P.underlying e = some (.int k)) (h : TyOk P n e us) : ∃ a : Int, pack (isAgg P e) us = V.int k a ∧ okV (V.int k a) := by
 obtain ⟨m, rfl, hw⟩ := tyOk_int hu h
 rw [ha]
 exact ⟨m, rfl, hw⟩
theorem RowTr.one {W : World} {v : V} {c : Value} (h : RowTr W [v] [c]) : CellTr W v c := by
 have := h.2.2 0 (by simp)
 exact this
theorem RowTr.agg {W : World} {vs : List V} {cs : Array Value} (h : RowTr W vs cs.toList) : CellTr W (.agg vs) (.agg cs) := by
 refine .agg _ _ (by simpa using h.1) fun i hi => ?_
 have := h.2.2 i hi
 simpa [List.getD_eq_getElem?_getD, Array.getD_eq_getD_getElem?] using this
end Go.Ev
