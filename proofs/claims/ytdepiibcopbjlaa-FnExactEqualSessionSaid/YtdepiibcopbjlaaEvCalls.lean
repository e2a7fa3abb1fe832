/- Calls. -/
import Derived.Test.YtdepiibcopbjlaaEvLow
namespace Go.Ev
open Go
set_option linter.unusedVariables false
set_option linter.unusedSimpArgs false
variable {P : Program} {G : Gh} {s : St} {a : Act} {w : World} {o : Oper}
variable {d : Option Nat} {ty : TypeId} {pos : String} {af : Array Edge} {gd : Option (Nat × Bool)}

theorem Rel.arg (h : Rel G s a w) {ty : TypeId} {x : Operand} {v : V} {s1 : St} (ht : s.arg P ty x = some (v, s1)) : ∃ G', Rel G' s1 a w ∧ Fr s.lv G w G' w ∧ Le G G' ∧ Tr G'.S G'.β v (a.eval x) ∧ (isRef v = false → v.flat.all pureC = true) := by
  have same : ∀ u, s.see P ty x = u → some (u, s) = some (v, s1) → (isRef u = false → u.flat.all pureC = true) → ∃ G', Rel G' s1 a w ∧ Fr s.lv G w G' w ∧ Le G G' ∧ Tr G'.S G'.β v (a.eval x) ∧ (isRef v = false → v.flat.all pureC = true) := by
    intro u hu he hp
    obtain ⟨rfl, rfl⟩ := Prod.mk.inj (Option.some.inj he)
    exact ⟨G, h, Fr.refl _ _ _, Le.refl _, hu ▸ h.see P ty x, hp⟩
  unfold St.arg at ht
  split at ht
  · rename_i he; exact same _ he ht (fun e => by cases e)
  · rename_i he; exact same _ he ht (fun e => by cases e)
  · rename_i f c he
    exact same _ he ht (fun e => by
      cases c
      · rfl
      · cases e)
  · obtain ⟨G', h1, h2, h3, h4, _⟩ := h.tree ht
    exact ⟨G', h1, h2.fr, h2.le, h3, fun _ => h4⟩
theorem Rel.args (P : Program) : ∀ (xs : List (TypeId × Operand)) {G : Gh} {s s1 : St} {vs : List V}, Rel G s a w → St.args P s xs = some (vs, s1) →
    ∃ G', Rel G' s1 a w ∧ Fr s.lv G w G' w ∧ Le G G' ∧ vs.length = xs.length ∧ ∀ i, i < vs.length → Tr G'.S G'.β (vs.getD i .undef) ((xs.map fun x => a.eval x.2).getD i Go.undef) ∧ (isRef (vs.getD i .undef) = false → (vs.getD i .undef).flat.all pureC = true) := by
  intro xs
  induction xs with
  | nil =>
    intro G s s1 vs h ht
    obtain ⟨rfl, rfl⟩ := Prod.mk.inj (Option.some.inj ht)
    exact ⟨G, h, Fr.refl _ _ _, Le.refl _, rfl, fun i hi => absurd hi (Nat.not_lt_zero _)⟩
  | cons x xs ih =>
    intro G s s1 vs h ht
    unfold St.args at ht
    split at ht
    · rename_i v s2 h1
      split at ht
      · rename_i vs2 s3 h2
        obtain ⟨rfl, rfl⟩ := Prod.mk.inj (Option.some.inj ht)
        obtain ⟨G1, k1, k2, k3, k4, k5⟩ := h.arg h1
        obtain ⟨G2, m1, m2, m3, m4, m5⟩ := ih k1 h2
        have hlv := (Nx.arg h1).lv
        refine ⟨G2, m1, k2.trans (hlv ▸ m2), ⟨fun g j c e => m3.S _ _ _ (k3.S _ _ _ e), fun l t g e => m3.β _ _ _ (k3.β _ _ _ e)⟩, by simp [m4], fun i hi => ?_⟩
        cases i with
        | zero => exact ⟨m3.tr k4, k5⟩
        | succ i => exact m5 i (by simpa using hi)
      · cases ht
    · cases ht

theorem argT_get : ∀ (l : List V) (i t : Nat), argT i l t = if i ≤ t then l.getD (t - i) .undef else .undef := by
  intro l
  induction l with
  | nil => intro i t; unfold argT; simp [e0]
  | cons v l ih =>
    intro i t
    unfold argT upd
    by_cases h : t = i
    · subst h; simp
    · rw [if_neg h, ih]
      by_cases h1 : i ≤ t
      · rw [if_pos h1, if_pos (by omega), show t - i = (t - (i + 1)) + 1 by omega]; rfl
      · rw [if_neg h1, if_neg (by omega)]
/-- what a callee finds -/
theorem start_rel {args : List V} {cargs : Array Value} {outer : List (Nat → Option Ob)} {r : Array ResultVar} {f n : Nat} (hl : args.length = cargs.size) (hT : ∀ i, i < args.length → Tr G.S G.β (args.getD i .undef) (cargs.getD i Go.undef)) (hn : args.length ≤ n)
    (hobj : ∀ l t ob, obIn t l outer = some ob → ∃ g, G.β l t = some g ∧ G.ω g = some (.ob l t) ∧ ObR G w l t g ob) (hdom : ∀ l t g, G.β l t = some g → ∃ ob, obIn t l outer = some ob)
    (himm : ∀ g j c, G.S g j = some c → w.cell? ⟨g, j, none⟩ = some c) (hlim : ∀ g p, G.ω g = some p → g < w.heap.size) :
    Rel G { t := argT 0 args, b := n0, o := outer, r := r, f := f, n := n } { tmps := cargs ++ Array.replicate (n - cargs.size) undef, defers := [] } w := by
  have hob : ∀ l t, ({ t := argT 0 args, b := n0, o := outer, r := r, f := f, n := n } : St).ob l t = obIn t l outer := by
    intro l t
    show (if l = outer.length then none else obIn t l outer) = _
    by_cases h : l = outer.length
    · rw [if_pos h]
      cases ho : obIn t l outer with
      | none => rfl
      | some ob => have := obIn_lt _ ho; omega
    · rw [if_neg h]
  refine ⟨by simp; omega, rfl, fun t => ?_, fun l t ob ho => hobj l t ob (by rw [← hob]; exact ho), fun l t g hg => ?_, himm, hlim⟩
  · show OwnS G w _ (argT 0 args t) _
    rw [argT_get, if_pos (Nat.zero_le _), Nat.sub_zero]
    by_cases h : t < args.length
    · have := hT t h
      refine OwnS.of_tr' ?_
      have e : (cargs ++ Array.replicate (n - cargs.size) undef).getD t Go.undef = cargs.getD t Go.undef := by
        simp only [Array.getD_eq_getD_getElem?]
        rw [Array.getElem?_append_left (by omega)]
      rw [e]; exact this
    · have e : args.getD t .undef = .undef := by rw [List.getD_eq_getElem?_getD, List.getElem?_eq_none (by omega)]; rfl
      rw [e]
      exact OwnS.of_tr' (.undef _)
  · obtain ⟨ob, ho⟩ := hdom l t g hg
    exact ⟨ob, by rw [hob]; exact ho⟩

/-- behind a call of plain values -/
theorem after_plain {v : V} {x : Value} {w' : World} {o : List (Nat → Option Ob)} {G' : Gh} (h : Rel G s a w) (hd : Done 0 { S := G.S, β := fun _ _ => none, ω := fun _ => none } w o v x w' G') :
    ∃ G2, Rel G2 s a w' ∧ OwnS G2 w' Pl.rs v x ∧ Fr s.lv G w G2 w' := by
  have hkeep := fun g (hg : g < w.heap.size) => hd.fr.keep g hg (fun p hp => by cases hp)
  let ω2 : Nat → Option Pl := fun g => if g < w.heap.size then G.ω g else match G'.ω g with
    | some (.rs c j) => some (.rs c j)
    | _ => none
  have hω : ∀ g c j, G'.ω g = some (.rs c j) → ω2 g = some (.rs c j) := by
    intro g c j hg
    by_cases hlt : g < w.heap.size
    · have h2 := (hkeep g hlt).2.1
      rw [hg] at h2
      cases h2
    · simp only [ω2, if_neg hlt, hg]
  refine ⟨{ S := G'.S, β := G.β, ω := ω2 }, ?_, ?_, ?_⟩
  · refine h.grow ⟨hd.fr.imm, fun _ _ _ e => e⟩ rfl (fun g p hp hg => ?_) hd.imm (fun g p hg => ?_)
    · have hlt := h.lim g p hg
      refine ⟨(hkeep g hlt).1, (hkeep g hlt).2.2, ?_⟩
      simp only [ω2, if_pos hlt, hg]
    · by_cases hlt : g < w.heap.size
      · exact Nat.lt_of_lt_of_le hlt hd.fr.size
      · simp only [ω2, if_neg hlt] at hg
        split at hg
        · rename_i he; exact hd.lim g _ he
        · cases hg
  · exact (hd.own G.β).mono ⟨fun _ _ _ e => e, fun _ _ _ e => e⟩ fun i j g hg => ⟨rfl, fun _ => rfl, hω g i j hg⟩
  · refine ⟨hd.fr.os, hd.fr.tape, hd.fr.output, hd.fr.size, fun g hg _ => ⟨(hkeep g hg).1, ?_, (hkeep g hg).2.2⟩, hd.fr.imm, fun _ _ _ => rfl⟩
    simp only [ω2, if_pos hg]

theorem Tr.low {S β} {l : Nat} {β' : Nat → Nat → Option Nat} {v : V} {x : Value} (h : Tr S β v x) (hv : lowV l v = true) (hβ : ∀ k t g, k ≤ l → β k t = some g → β' k t = some g) : Tr S β' v x := by
  cases h with
  | undef x => exact .undef x
  | bool b => exact .bool b
  | int k n => exact .int k n
  | str s => exact .str s
  | slc0 sz a cap => exact .slc0 sz a cap
  | slc sz l b o cap c hc hs hS0 hT => exact (Tr.slc (S := S) (β := β) sz l b o cap c hc hs hS0 hT).pure _ rfl
  | agg m cs hl hT => cases hv
  | ptr lv t off g h => exact .ptr lv t off g (hβ _ _ _ (by simpa [lowV] using hv) h)
  | imp m b o c hp hS0 hT => exact .imp m b o c hp hS0 fun j hj => (hT j hj).pure _ (pureC_flat (all_getD hp hj))
  | eptr lv t i g sz h => exact .eptr lv t i g sz (hβ _ _ _ (by simpa [lowV] using hv) h)
  | aref lv t n g cap h hc => exact .aref lv t n g cap (hβ _ _ _ (by simpa [lowV] using hv) h) hc
  | mp lv t g h => exact .mp lv t g (hβ _ _ _ (by simpa [lowV] using hv) h)
  | fn f caps cs hl hT =>
    refine .fn f caps cs hl fun i hi => ?_
    have hm : caps.getD i .undef ∈ caps := by
      rw [List.getD_eq_getElem?_getD, List.getElem?_eq_getElem hi]
      exact List.getElem_mem hi
    have h1 := List.all_eq_true.1 (show caps.all _ = true from hv) _ hm
    have h2 := hT i hi
    split at h1
    · rename_i lv u off he
      rw [he] at h2 ⊢
      obtain ⟨g, hg, hx⟩ := h2.ptr_inv
      rw [hx]
      exact .ptr lv u off g (hβ _ _ _ (by simpa using h1) hg)
    · exact h2.pure _ (pureC_flat h1)
  | nilp => exact .nilp
  | nilfn => exact .nilfn
theorem OwnC.low {l : Nat} {β' : Nat → Nat → Option Nat} {p : Pl} {v : V} {x : Value} (h : OwnC G w p v x) (hv : lowV l v = true) (hβ : ∀ k t g, k ≤ l → G.β k t = some g → β' k t = some g) : OwnC { G with β := β' } w p v x := by
  unfold OwnC at h ⊢
  split at h
  · exact ⟨h.1.low (l := l) rfl hβ, h.2⟩
  · exact h.low hv hβ
theorem ObR.low {l lv t g : Nat} {β' : Nat → Nat → Option Nat} {ob : Ob} (h : ObR G w lv t g ob) (hv : LowO l ob) (hβ : ∀ k t g, k ≤ l → G.β k t = some g → β' k t = some g) : ObR { G with β := β' } w lv t g ob := by
  cases ob with
  | box cells =>
    obtain ⟨cs, ty, h1, h2, h3, h4⟩ := h
    refine ⟨cs, ty, h1, h2, h3, fun j hj => (h4 j hj).low (hv _ ?_) hβ⟩
    rw [List.getD_eq_getElem?_getD, List.getElem?_eq_getElem hj]
    exact List.getElem_mem hj
  | arr fz sz m =>
    obtain ⟨cs, ty, h1, h2, h3, h4, h5⟩ := h
    refine ⟨cs, ty, h1, h2, h3, fun i j hi hj => (h4 i j hi hj).pure _ ?_, h5⟩
    have hm : m.getD i .undef ∈ m := by
      rw [List.getD_eq_getElem?_getD, List.getElem?_eq_getElem hi]
      exact List.getElem_mem hi
    obtain ⟨k1, k2⟩ := h3 _ hm
    exact pureC_flat (all_getD k2 (by omega))
  | map es =>
    obtain ⟨en, ck, h1, h2, h3, h5, h4⟩ := h
    refine ⟨en, ck, h1, h2, h3, h5, fun i hi => ?_⟩
    have hm : es.getD i default ∈ es := by
      rw [List.getD_eq_getElem?_getD, List.getElem?_eq_getElem hi]
      exact List.getElem_mem hi
    exact ⟨(h4 i hi).1.pure _ (h5 _ hm).1, (h4 i hi).2.pure _ (h5 _ hm).2⟩

theorem headD_tail {l t : Nat} {o : List (Nat → Option Ob)} (h : o ≠ []) : obIn t l (o.headD n0 :: o.tail) = obIn t l o := by
  cases o with
  | nil => exact absurd rfl h
  | cons f o => rfl
/-- behind a call that was handed what is the caller's -/
theorem after_deep {v : V} {x : Value} {w' : World} {o : List (Nat → Option Ob)} {G' : Gh} (h : Rel G s a w) (hd : Done (s.lv + 1) G w o v x w' G') (hlow : ∀ l t ob, obIn t l o = some ob → LowO l ob) :
    ∃ G2, Rel G2 { s with b := o.headD n0, o := o.tail } a w' ∧ OwnS G2 w' Pl.rs v x ∧ Fr s.lv G w G2 w' ∧ Low { s with b := o.headD n0, o := o.tail } := by
  have hne : o ≠ [] := by rintro rfl; have := hd.len; simp at this
  have hlv : ({ s with b := o.headD n0, o := o.tail } : St).lv = s.lv := by
    show o.tail.length = s.lv
    rw [List.length_tail, hd.len]; rfl
  have hob : ∀ l t, ({ s with b := o.headD n0, o := o.tail } : St).ob l t = obIn t l o := fun l t => headD_tail hne
  let β2 : Nat → Nat → Option Nat := fun l t => if l ≤ s.lv then G'.β l t else none
  have hβ : ∀ l k t g, l ≤ s.lv → k ≤ l → G'.β k t = some g → β2 k t = some g := by
    intro l k t g hl hk hg
    simp only [β2, if_pos (show k ≤ s.lv by omega), hg]
  have hle : Le G { S := G'.S, β := β2, ω := G'.ω } := by
    refine ⟨hd.fr.imm, fun l t g hg => ?_⟩
    obtain ⟨ob, ho⟩ := h.dom l t g hg
    have hl := ob_lt ho
    show (if l ≤ s.lv then G'.β l t else none) = some g
    rw [if_pos hl, hd.fr.outer l t (by omega)]
    exact hg
  refine ⟨{ S := G'.S, β := β2, ω := G'.ω }, ⟨h.size, h.defers, fun t => ?_, fun l t ob ho => ?_, fun l t g hg => ?_, hd.imm, hd.lim⟩, ?_, ?_, ?_⟩
  · rw [hlv]
    refine (h.slot t).mono hle fun c j g hg => ?_
    obtain ⟨k1, k2, k3⟩ := hd.fr.keep g (h.lim _ _ hg) (fun p hp hm => by
      rw [hg] at hp
      obtain rfl := Option.some.inj hp
      exact absurd hm (by simp [Mine]))
    exact ⟨k1, k3, k2.trans hg⟩
  · rw [hob] at ho
    obtain ⟨g, h1, h2, h3⟩ := hd.obj l t ob ho
    have hl : l ≤ s.lv := by have := obIn_lt _ ho; rw [hd.len] at this; omega
    exact ⟨g, hβ l l t g hl (Nat.le_refl _) h1, h2, h3.low (hlow l t ob ho) fun k t g hk => hβ l k t g hl hk⟩
  · have hg' : (if l ≤ s.lv then G'.β l t else none) = some g := hg
    split at hg'
    · rename_i hl
      obtain ⟨ob, ho⟩ := hd.dom l t g (by omega) hg'
      exact ⟨ob, by rw [hob]; exact ho⟩
    · cases hg'
  · exact (hd.own β2).mono ⟨fun _ _ _ e => e, fun _ _ _ e => e⟩ fun i j g hg => ⟨rfl, fun _ => rfl, hg⟩
  · refine ⟨hd.fr.os, hd.fr.tape, hd.fr.output, hd.fr.size, fun g hg hm => hd.fr.keep g hg fun p hp hh => hm p hp ?_, hd.fr.imm, fun l t hl => ?_⟩
    · cases p with
      | tm l t c j => simp [Mine] at hh ⊢; omega
      | _ => trivial
    · show (if l ≤ s.lv then G'.β l t else none) = G.β l t
      rw [if_pos (by omega), hd.fr.outer l t (by omega)]
  · intro l t ob ho
    rw [hob] at ho
    exact hlow l t ob ho
end Go.Ev
