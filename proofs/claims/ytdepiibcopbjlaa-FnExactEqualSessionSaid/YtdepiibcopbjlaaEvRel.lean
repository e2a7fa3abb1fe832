/- How the pure reading stands to the machine's world. -/
import Derived.Test.YtdepiibcopbjlaaEvEv
import Derived.Below
namespace Go.Ev
open Go
set_option linter.unusedVariables false

inductive Pl where
  | tm (l t c j : Nat)
  | ob (l t : Nat)
  | cl (l t j : Nat)
  | rs (c j : Nat)
  deriving DecidableEq

/-- what never changes (cells), where objects lie, whose a block is -/
structure Gh where
  S : Nat → Nat → Option Value
  β : Nat → Nat → Option Nat
  ω : Nat → Option Pl

inductive Tr (S : Nat → Nat → Option Value) (β : Nat → Nat → Option Nat) : V → Value → Prop
  | undef (x : Value) : Tr S β .undef x
  | bool (b : Bool) : Tr S β (.bool b) (.bool b)
  | int (k : IntKind) (n : Int) : Tr S β (.int k n) (.int k n)
  | str (s : ByteArray) : Tr S β (.str s) (.string s)
  | slc0 (sz : Nat) (a : Option Addr) (cap : Nat) : Tr S β (.slc false sz []) (.slice a 0 cap)
  | slc (sz : Nat) (l : List V) (b o cap : Nat) (c : Nat → Nat → Value) (hc : l.length ≤ cap) (hs : ∀ x ∈ l, x.flat.length = sz ∧ x.flat.all pureC = true)
      (hS : ∀ i j, i < l.length → j < sz → S b (o + i * sz + j) = some (c i j))
      (hT : ∀ i j, i < l.length → j < sz → Tr S β ((l.getD i .undef).flat.getD j .undef) (c i j)) : Tr S β (.slc false sz l) (.slice (some ⟨b, o, none⟩) l.length cap)
  | agg (l : List V) (cs : Array Value) (hl : l.length = cs.size) (hT : ∀ i, i < l.length → Tr S β (l.getD i .undef) (cs.getD i undef)) : Tr S β (.agg l) (.agg cs)
  | ptr (lv t off g : Nat) (h : β lv t = some g) : Tr S β (.ptr lv t off) (.pointer (some ⟨g, off, none⟩))
  | imp (l : List V) (b o : Nat) (c : Nat → Value) (hp : l.all pureC = true) (hS : ∀ j, j < l.length → S b (o + j) = some (c j)) (hT : ∀ j, j < l.length → Tr S β (l.getD j .undef) (c j)) : Tr S β (.imp l) (.pointer (some ⟨b, o, none⟩))
  | eptr (lv t i g sz : Nat) (h : β lv t = some g) : Tr S β (.eptr lv t i sz) (.pointer (some ⟨g, i * sz, none⟩))
  | aref (lv t n g cap : Nat) (h : β lv t = some g) (hc : n ≤ cap) : Tr S β (.aref lv t n) (.slice (some ⟨g, 0, none⟩) n cap)
  | mp (lv t g : Nat) (h : β lv t = some g) : Tr S β (.mp lv t) (.map (some g))
  | fn (f : Nat) (caps : List V) (cs : Array Value) (hl : caps.length = cs.size) (hT : ∀ i, i < caps.length → Tr S β (caps.getD i .undef) (cs.getD i undef)) : Tr S β (.fn f caps) (.func (.func f) #[] cs)
  | nilp : Tr S β .nilp (.pointer none)
  | nilfn : Tr S β .nilfn .nilFunc

theorem Tr.mono {S S' β β'} (hS : ∀ g j c, S g j = some c → S' g j = some c) (hβ : ∀ l t g, β l t = some g → β' l t = some g) {v : V} {x : Value} (h : Tr S β v x) : Tr S' β' v x := by
  induction h with
  | undef x => exact .undef x
  | bool b => exact .bool b
  | int k n => exact .int k n
  | str s => exact .str s
  | slc0 sz a cap => exact .slc0 sz a cap
  | slc sz l b o cap c hc hs hS0 hT ih => exact .slc sz l b o cap c hc hs (fun i j hi hj => hS _ _ _ (hS0 i j hi hj)) ih
  | agg l cs hl hT ih => exact .agg l cs hl ih
  | ptr lv t off g h => exact .ptr lv t off g (hβ _ _ _ h)
  | imp l b o c hp hS0 hT ih => exact .imp l b o c hp (fun j hj => hS _ _ _ (hS0 j hj)) ih
  | eptr lv t i g sz h => exact .eptr lv t i g sz (hβ _ _ _ h)
  | aref lv t n g cap h hc => exact .aref lv t n g cap (hβ _ _ _ h) hc
  | mp lv t g h => exact .mp lv t g (hβ _ _ _ h)
  | fn f caps cs hl hT ih => exact .fn f caps cs hl ih
  | nilp => exact .nilp
  | nilfn => exact .nilfn

/-- a cell that may own its list's tail -/
def OwnC (G : Gh) (w : World) (p : Pl) : V → Value → Prop
  | .slc true sz l, x => Tr G.S G.β (.slc false sz l) x ∧ ∃ a cap, x = .slice a l.length cap ∧ (cap = l.length ∨
      ∃ g cs ty, a = some ⟨g, 0, none⟩ ∧ G.ω g = some p ∧ w.heap[g]? = some (.cells cs ty (0, 0)) ∧ cs.size = cap * sz ∧ ∀ j, l.length * sz ≤ j → G.S g j = none)
  | v, x => Tr G.S G.β v x
def OwnV (G : Gh) (w : World) (p : Nat → Pl) : V → Value → Prop
  | .agg l, x => ∃ cs, x = .agg cs ∧ l.length = cs.size ∧ ∀ j, j < l.length → OwnC G w (p j) (l.getD j .undef) (cs.getD j undef)
  | v, x => OwnC G w (p 0) v x
def OwnS (G : Gh) (w : World) (p : Nat → Nat → Pl) : V → Value → Prop
  | .tup l, x => ∃ vs, x = .tuple vs ∧ l.length = vs.size ∧ ∀ i, i < l.length → OwnV G w (p i) (l.getD i .undef) (vs.getD i undef)
  | v, x => OwnV G w (p 0) v x

def ObR (G : Gh) (w : World) (lv t g : Nat) : Ob → Prop
  | .box cells => ∃ cs ty, w.heap[g]? = some (.cells cs ty (0, 0)) ∧ cells.length = cs.size ∧ (∀ j, G.S g j = none) ∧ ∀ j, j < cells.length → OwnC G w (.cl lv t j) (cells.getD j .undef) (cs.getD j undef)
  | .arr fz sz l => ∃ cs ty, w.heap[g]? = some (.cells cs ty (0, 0)) ∧ l.length * sz ≤ cs.size ∧ (∀ x ∈ l, x.flat.length = sz ∧ x.flat.all pureC = true) ∧
      (∀ i j, i < l.length → j < sz → Tr G.S G.β ((l.getD i .undef).flat.getD j .undef) (cs.getD (i * sz + j) undef)) ∧
      (if fz then ∀ j, j < l.length * sz → G.S g j = some (cs.getD j undef) else ∀ j, G.S g j = none)
  | .map es => ∃ en ck, w.heap[g]? = some (.map en ck) ∧ es.length = en.size ∧ (∀ j, G.S g j = none) ∧ (∀ x ∈ es, x.1.flat.all pureC = true ∧ x.2.flat.all pureC = true) ∧ ∀ i, i < es.length → Tr G.S G.β (es.getD i default).1 (en.getD i default).key ∧ Tr G.S G.β (es.getD i default).2 (en.getD i default).val

structure Rel (G : Gh) (s : St) (a : Act) (w : World) : Prop where
  size : a.tmps.size = s.n
  defers : a.defers = []
  slot : ∀ t, OwnS G w (.tm s.lv t) (s.t t) (a.tmps.getD t undef)
  obj : ∀ lv t ob, s.ob lv t = some ob → ∃ g, G.β lv t = some g ∧ G.ω g = some (.ob lv t) ∧ ObR G w lv t g ob
  dom : ∀ lv t g, G.β lv t = some g → ∃ ob, s.ob lv t = some ob
  imm : ∀ g j c, G.S g j = some c → w.cell? ⟨g, j, none⟩ = some c
  lim : ∀ g p, G.ω g = some p → g < w.heap.size

def Mine (lv : Nat) : Pl → Prop
  | .tm l _ _ _ => lv ≤ l
  | _ => True

/-- what a caller may go on to say: all that is not handed over stands as it stood -/
structure Fr (lv : Nat) (G : Gh) (w : World) (G' : Gh) (w' : World) : Prop where
  os : w'.os = w.os
  tape : w'.tape = w.tape
  output : w'.output = w.output
  size : w.heap.size ≤ w'.heap.size
  keep : ∀ g, g < w.heap.size → (∀ p, G.ω g = some p → ¬ Mine lv p) → w'.heap[g]? = w.heap[g]? ∧ G'.ω g = G.ω g ∧ ∀ j, G'.S g j = G.S g j
  imm : ∀ g j c, G.S g j = some c → G'.S g j = some c
  outer : ∀ l t, l < lv → G'.β l t = G.β l t

theorem Fr.refl (lv : Nat) (G : Gh) (w : World) : Fr lv G w G w := ⟨rfl, rfl, rfl, Nat.le_refl _, fun _ _ _ => ⟨rfl, rfl, fun _ => rfl⟩, fun _ _ _ h => h, fun _ _ _ => rfl⟩
theorem Fr.trans {lv : Nat} {G G1 G2 : Gh} {w w1 w2 : World} (h : Fr lv G w G1 w1) (k : Fr lv G1 w1 G2 w2) : Fr lv G w G2 w2 :=
  ⟨k.os.trans h.os, k.tape.trans h.tape, k.output.trans h.output, Nat.le_trans h.size k.size, fun g hg hm => by
    obtain ⟨a1, a2, a3⟩ := h.keep g hg hm
    obtain ⟨b1, b2, b3⟩ := k.keep g (Nat.lt_of_lt_of_le hg h.size) (fun p hp => hm p (a2 ▸ hp))
    exact ⟨b1.trans a1, b2.trans a2, fun j => (b3 j).trans (a3 j)⟩, fun g j c hc => k.imm g j c (h.imm g j c hc), fun l t hl => (k.outer l t hl).trans (h.outer l t hl)⟩

/-! ### moving to another world -/
structure Le (G G' : Gh) : Prop where
  S : ∀ g j c, G.S g j = some c → G'.S g j = some c
  β : ∀ l t g, G.β l t = some g → G'.β l t = some g
theorem Le.refl (G : Gh) : Le G G := ⟨fun _ _ _ h => h, fun _ _ _ h => h⟩
theorem Le.tr {G G' : Gh} (h : Le G G') {v : V} {x : Value} (k : Tr G.S G.β v x) : Tr G'.S G'.β v x := k.mono h.S h.β
/-- a block stands as it stood -/
structure Same (G : Gh) (w : World) (G' : Gh) (w' : World) (g : Nat) : Prop where
  heap : w'.heap[g]? = w.heap[g]?
  S : ∀ j, G'.S g j = G.S g j
  ω : G'.ω g = G.ω g

theorem getD_viewC (l : List V) (i : Nat) : (l.map V.viewC).getD i .undef = (l.getD i .undef).viewC := by
  simp only [List.getD_eq_getElem?_getD, List.getElem?_map]
  cases l[i]? <;> rfl
theorem OwnC.view {G : Gh} {w : World} {p : Pl} {v : V} {x : Value} (h : OwnC G w p v x) : Tr G.S G.β v.viewC x := by
  unfold OwnC at h
  split at h
  · exact h.1
  · rename_i hv
    cases v <;> try exact h
    rename_i own sz l
    cases own
    · exact h
    · exact absurd rfl (hv _ _)
theorem OwnC.of_view {G : Gh} {w : World} {p : Pl} {v : V} {x : Value} (h : Tr G.S G.β v x) (hv : ∀ sz l, v ≠ .slc true sz l) : OwnC G w p v x := by
  unfold OwnC
  split
  · exact absurd rfl (hv _ _)
  · exact h
theorem OwnC.mono {G G' : Gh} {w w' : World} {p p' : Pl} {v : V} {x : Value} (h : OwnC G w p v x) (hle : Le G G') (hs : ∀ g, G.ω g = some p → w'.heap[g]? = w.heap[g]? ∧ (∀ j, G'.S g j = G.S g j) ∧ G'.ω g = some p') : OwnC G' w' p' v x := by
  unfold OwnC at h ⊢
  split at h
  · obtain ⟨h1, a, cap, rfl, h2⟩ := h
    refine ⟨hle.tr h1, a, cap, rfl, ?_⟩
    rcases h2 with h2 | ⟨g, cs, ty, h3, h4, h5, h6, h7⟩
    · exact .inl h2
    · obtain ⟨k1, k2, k3⟩ := hs g h4
      exact .inr ⟨g, cs, ty, h3, k3, k1.trans h5, h6, fun j hj => (k2 j).trans (h7 j hj)⟩
  · exact hle.tr h
theorem OwnV.mono {G G' : Gh} {w w' : World} {p p' : Nat → Pl} {v : V} {x : Value} (h : OwnV G w p v x) (hle : Le G G') (hs : ∀ j g, G.ω g = some (p j) → w'.heap[g]? = w.heap[g]? ∧ (∀ j, G'.S g j = G.S g j) ∧ G'.ω g = some (p' j)) : OwnV G' w' p' v x := by
  unfold OwnV at h ⊢
  split at h
  · obtain ⟨cs, rfl, hl, hc⟩ := h
    exact ⟨cs, rfl, hl, fun j hj => (hc j hj).mono hle (hs j)⟩
  · exact OwnC.mono h hle (hs 0)
theorem OwnS.mono {G G' : Gh} {w w' : World} {p p' : Nat → Nat → Pl} {v : V} {x : Value} (h : OwnS G w p v x) (hle : Le G G') (hs : ∀ i j g, G.ω g = some (p i j) → w'.heap[g]? = w.heap[g]? ∧ (∀ j, G'.S g j = G.S g j) ∧ G'.ω g = some (p' i j)) : OwnS G' w' p' v x := by
  unfold OwnS at h ⊢
  split at h
  · obtain ⟨vs, rfl, hl, hc⟩ := h
    exact ⟨vs, rfl, hl, fun i hi => (hc i hi).mono hle (hs i)⟩
  · exact OwnV.mono h hle (hs 0)
theorem OwnV.view {G : Gh} {w : World} {p : Nat → Pl} {v : V} {x : Value} (h : OwnV G w p v x) (ht : ∀ l, v ≠ .tup l) : Tr G.S G.β v.view x := by
  unfold OwnV at h
  split at h
  · obtain ⟨cs, rfl, hl, hc⟩ := h
    refine .agg _ cs (by simpa using hl) fun i hi => ?_
    rw [getD_viewC]
    exact (hc i (by simpa using hi)).view
  · rename_i hv
    have := OwnC.view h
    cases v <;> first | exact this | exact absurd rfl (hv _) | exact absurd rfl (ht _)
theorem OwnS.view {G : Gh} {w : World} {p : Nat → Nat → Pl} {v : V} {x : Value} (h : OwnS G w p v x) : Tr G.S G.β v.view x := by
  unfold OwnS at h
  split at h
  · exact .undef _
  · rename_i hv
    exact OwnV.view h hv
theorem OwnV.of_tr {G : Gh} {w : World} {p : Nat → Pl} {v : V} {x : Value} (h : Tr G.S G.β v x) (hv : v.view = v) : OwnV G w p v x := by
  cases v
  case agg l =>
    cases h with
    | agg _ cs hl hT =>
      refine ⟨cs, rfl, hl, fun j hj => OwnC.of_view (hT j hj) ?_⟩
      intro sz m e
      simp only [V.view, V.agg.injEq] at hv
      have h1 := getD_viewC l j
      rw [hv, e] at h1
      cases h1
  case slc own sz l =>
    cases own
    · exact h
    · cases hv
  all_goals exact h
theorem OwnS.of_tr {G : Gh} {w : World} {p : Nat → Nat → Pl} {v : V} {x : Value} (h : Tr G.S G.β v x) (hv : v.view = v) (ht : ∀ l, v ≠ .tup l) : OwnS G w p v x := by
  unfold OwnS
  split
  · exact absurd rfl (ht _)
  · exact OwnV.of_tr h hv
end Go.Ev
