/- How the pure reading stands to the machine's world. Handing over, putting down, growing. The operations that only compute: each as the machine has it. The operations that only compute, further: comparisons, lengths, parts, places. -/
import Derived.Below
import Derived.Laws.Sem
import Derived.Laws.Cells
import Derived.Laws.Entries
import Derived.ChangeKeysEq
import Derived.Laws.StructEq
import Derived.Test.YtcmnfoombinccaaEvA
set_option linter.unusedVariables false
set_option linter.unusedSimpArgs false
namespace Go.Ev
open Go
set_option linter.unusedVariables false

inductive Pl where
  | tm (l t c j : Nat)
  | ob (l t : Nat)
  | cl (l t j : Nat)
  | rs (c j : Nat)
  deriving DecidableEq

/-- what never changes (cells), where objects lie, whose a block is -/
structure Gh where
  S : Nat → Nat → Option Value
  β : Nat → Nat → Option Nat
  ω : Nat → Option Pl

inductive Tr (S : Nat → Nat → Option Value) (β : Nat → Nat → Option Nat) : V → Value → Prop
  | undef (x : Value) : Tr S β .undef x
  | bool (b : Bool) : Tr S β (.bool b) (.bool b)
  | int (k : IntKind) (n : Int) : Tr S β (.int k n) (.int k n)
  | str (s : ByteArray) : Tr S β (.str s) (.string s)
  | slc0 (sz : Nat) (a : Option Addr) (cap : Nat) : Tr S β (.slc false sz []) (.slice a 0 cap)
  | slc (sz : Nat) (l : List V) (b o cap : Nat) (c : Nat → Nat → Value) (hc : l.length ≤ cap) (hs : ∀ x ∈ l, x.flat.length = sz ∧ x.flat.all pureC = true)
      (hS : ∀ i j, i < l.length → j < sz → S b (o + i * sz + j) = some (c i j))
      (hT : ∀ i j, i < l.length → j < sz → Tr S β ((l.getD i .undef).flat.getD j .undef) (c i j)) : Tr S β (.slc false sz l) (.slice (some ⟨b, o, none⟩) l.length cap)
  | agg (l : List V) (cs : Array Value) (hl : l.length = cs.size) (hT : ∀ i, i < l.length → Tr S β (l.getD i .undef) (cs.getD i undef)) : Tr S β (.agg l) (.agg cs)
  | ptr (lv t off g : Nat) (h : β lv t = some g) : Tr S β (.ptr lv t off) (.pointer (some ⟨g, off, none⟩))
  | imp (l : List V) (b o : Nat) (c : Nat → Value) (hp : l.all pureC = true) (hS : ∀ j, j < l.length → S b (o + j) = some (c j)) (hT : ∀ j, j < l.length → Tr S β (l.getD j .undef) (c j)) : Tr S β (.imp l) (.pointer (some ⟨b, o, none⟩))
  | eptr (lv t i g sz : Nat) (h : β lv t = some g) : Tr S β (.eptr lv t i sz) (.pointer (some ⟨g, i * sz, none⟩))
  | aref (lv t n g cap : Nat) (h : β lv t = some g) (hc : n ≤ cap) : Tr S β (.aref lv t n) (.slice (some ⟨g, 0, none⟩) n cap)
  | oref (lv t n g : Nat) (h : β lv t = some g) : Tr S β (.oref lv t n) (.slice (some ⟨g, 0, none⟩) n n)
  | bref (lv t n g cap : Nat) (h : β lv t = some g) (hc : n ≤ cap) : Tr S β (.bref lv t n) (.slice (some ⟨g, 0, none⟩) n cap)
  | mp (lv t g : Nat) (h : β lv t = some g) : Tr S β (.mp lv t) (.map (some g))
  | fn (f : Nat) (caps : List V) (cs : Array Value) (hl : caps.length = cs.size) (hT : ∀ i, i < caps.length → Tr S β (caps.getD i .undef) (cs.getD i undef)) : Tr S β (.fn f caps) (.func (.func f) #[] cs)
  | nilp : Tr S β .nilp (.pointer none)
  | nilfn : Tr S β .nilfn .nilFunc

theorem Tr.mono {S S' β β'} (hS : ∀ g j c, S g j = some c → S' g j = some c) (hβ : ∀ l t g, β l t = some g → β' l t = some g) {v : V} {x : Value} (h : Tr S β v x) : Tr S' β' v x := by
  induction h with
  | undef x => exact .undef x
  | bool b => exact .bool b
  | int k n => exact .int k n
  | str s => exact .str s
  | slc0 sz a cap => exact .slc0 sz a cap
  | slc sz l b o cap c hc hs hS0 hT ih => exact .slc sz l b o cap c hc hs (fun i j hi hj => hS _ _ _ (hS0 i j hi hj)) ih
  | agg l cs hl hT ih => exact .agg l cs hl ih
  | ptr lv t off g h => exact .ptr lv t off g (hβ _ _ _ h)
  | imp l b o c hp hS0 hT ih => exact .imp l b o c hp (fun j hj => hS _ _ _ (hS0 j hj)) ih
  | eptr lv t i g sz h => exact .eptr lv t i g sz (hβ _ _ _ h)
  | aref lv t n g cap h hc => exact .aref lv t n g cap (hβ _ _ _ h) hc
  | oref lv t n g h => exact .oref lv t n g (hβ _ _ _ h)
  | bref lv t n g cap h hc => exact .bref lv t n g cap (hβ _ _ _ h) hc
  | mp lv t g h => exact .mp lv t g (hβ _ _ _ h)
  | fn f caps cs hl hT ih => exact .fn f caps cs hl ih
  | nilp => exact .nilp
  | nilfn => exact .nilfn

/-- cells that may own lists: pure ones, and lists of such cells; the blocks owned, each named once -/
inductive DTs (S : Nat → Nat → Option Value) (β : Nat → Nat → Option Nat) (w : World) : List Nat → List V → List Value → Prop
  | nil : DTs S β w [] [] []
  | leaf {bs : List Nat} {v : V} {x : Value} {l : List V} {xs : List Value} (hp : pureC v = true) (h : Tr S β v x) (k : DTs S β w bs l xs) : DTs S β w bs (v :: l) (x :: xs)
  | emp {bs : List Nat} {sz : Nat} {a : Option Addr} {l : List V} {xs : List Value} (k : DTs S β w bs l xs) : DTs S β w bs (.uq sz [] :: l) (.slice a 0 0 :: xs)
  | blk {bs bs' : List Nat} {sz : Nat} {m : List V} {g : Nat} {cs : Array Value} {ty : TypeId} {cap : Nat} {l : List V} {xs : List Value} (hg : w.heap[g]? = some (.cells cs ty (0, 0))) (hc : cs.size = cap * sz) (hm : m.length ≤ cap)
      (hs : ∀ x ∈ m, x.flat.length = sz) (hS : ∀ j, S g j = none)
      (hk : DTs S β w bs (m.map V.flat).flatten (cs.toList.take (m.length * sz))) (k : DTs S β w bs' l xs) : DTs S β w (g :: (bs ++ bs')) (.uq sz m :: l) (.slice (some ⟨g, 0, none⟩) m.length cap :: xs)
theorem DTs.mono {S S' β β'} {w w' : World} {bs : List Nat} {l : List V} {xs : List Value} (h : DTs S β w bs l xs) (hT : ∀ v x, pureC v = true → Tr S β v x → Tr S' β' v x)
    (hb : ∀ b ∈ bs, w'.heap[b]? = w.heap[b]? ∧ ∀ j, S' b j = S b j) : DTs S' β' w' bs l xs := by
  induction h with
  | nil => exact .nil
  | leaf hp h k ih => exact .leaf hp (hT _ _ hp h) (ih hb)
  | emp k ih => exact .emp (ih hb)
  | blk hg hc hm hs hS hk k ih1 ih2 =>
    obtain ⟨b1, b2⟩ := hb _ (List.mem_cons_self ..)
    exact .blk (b1.trans hg) hc hm hs (fun j => (b2 j).trans (hS j)) (ih1 fun b h => hb b (List.mem_cons_of_mem _ (List.mem_append_left _ h))) (ih2 fun b h => hb b (List.mem_cons_of_mem _ (List.mem_append_right _ h)))
theorem DTs.len {S β} {w : World} {bs : List Nat} {l : List V} {xs : List Value} (h : DTs S β w bs l xs) : l.length = xs.length := by
  induction h with
  | nil => rfl
  | leaf hp h k ih => simp [ih]
  | emp k ih => simp [ih]
  | blk hg hc hm hs hS hk k ih1 ih2 => simp [ih2]
theorem DTs.app {S β} {w : World} {bs bs' : List Nat} {l l' : List V} {xs xs' : List Value} (h : DTs S β w bs l xs) (h' : DTs S β w bs' l' xs') : DTs S β w (bs ++ bs') (l ++ l') (xs ++ xs') := by
  induction h with
  | nil => exact h'
  | leaf hp h k ih => exact .leaf hp h ih
  | emp k ih => exact .emp ih
  | blk hg hc hm hs hS hk k ih1 ih2 =>
    have := DTs.blk hg hc hm hs hS hk ih2
    rw [List.cons_append, List.append_assoc]
    exact this
theorem DTs.pure {S β} {w : World} {bs : List Nat} {l : List V} {xs : List Value} (h : DTs S β w bs l xs) (hp : ∀ v ∈ l, pureC v = true) : bs = [] ∧ ∀ k, k < l.length → Tr S β (l.getD k .undef) (xs.getD k undef) := by
  induction h with
  | nil => exact ⟨rfl, fun k hk => absurd hk (Nat.not_lt_zero _)⟩
  | leaf _ h k ih =>
    obtain ⟨e, i2⟩ := ih fun v hv => hp v (List.mem_cons_of_mem _ hv)
    refine ⟨e, fun j hj => ?_⟩
    cases j with
    | zero => exact h
    | succ j => exact i2 j (by simpa using hj)
  | emp k ih => exact absurd (hp _ (List.mem_cons_self ..)) (by simp [pureC])
  | blk hg hc hm hs hS hk k ih1 ih2 => exact absurd (hp _ (List.mem_cons_self ..)) (by simp [pureC])
theorem DTs.of_pure {S β} {w : World} : ∀ {l : List V} {xs : List Value}, l.length = xs.length → (∀ v ∈ l, pureC v = true) → (∀ k, k < l.length → Tr S β (l.getD k .undef) (xs.getD k undef)) → DTs S β w [] l xs := by
  intro l
  induction l with
  | nil => intro xs hl _ _; obtain rfl := List.eq_nil_of_length_eq_zero hl.symm; exact .nil
  | cons v l ih =>
    intro xs hl hp hT
    cases xs with
    | nil => cases hl
    | cons x xs => exact .leaf (hp v (List.mem_cons_self ..)) (hT 0 (by simp)) (ih (by simpa using hl) (fun u hu => hp u (List.mem_cons_of_mem _ hu)) fun k hk => hT (k + 1) (by simpa using hk))
theorem flat_getD {m : List V} {sz : Nat} : ∀ (hs : ∀ x ∈ m, x.flat.length = sz) (i j : Nat), i < m.length → j < sz → (m.map V.flat).flatten.getD (i * sz + j) .undef = (m.getD i .undef).flat.getD j .undef := by
  induction m with
  | nil => intro _ i j hi; exact absurd hi (Nat.not_lt_zero _)
  | cons a m ih =>
    intro hs i j hi hj
    have ha := hs a (List.mem_cons_self ..)
    rw [List.map_cons, List.flatten_cons]
    cases i with
    | zero =>
      rw [Nat.zero_mul, Nat.zero_add, List.getD_eq_getElem?_getD, List.getElem?_append_left (by omega)]
      rfl
    | succ i =>
      rw [List.getD_eq_getElem?_getD, List.getElem?_append_right (by rw [ha, Nat.add_mul]; omega), ha, show (i + 1) * sz + j - sz = i * sz + j by rw [Nat.add_mul]; omega, ← List.getD_eq_getElem?_getD]
      exact ih (fun x hx => hs x (List.mem_cons_of_mem _ hx)) i j (by simpa using hi) hj
theorem flat_len {m : List V} {sz : Nat} (hs : ∀ x ∈ m, x.flat.length = sz) : (m.map V.flat).flatten.length = m.length * sz := by
  induction m with
  | nil => simp
  | cons a m ih =>
    rw [List.map_cons, List.flatten_cons, List.length_append, hs a (List.mem_cons_self ..), ih fun x hx => hs x (List.mem_cons_of_mem _ hx), List.length_cons, Nat.add_mul]
    omega
theorem cell_split {n sz k : Nat} (h : k < n * sz) : ∃ i j, i < n ∧ j < sz ∧ k = i * sz + j := by
  have hz : 0 < sz := by rcases Nat.eq_zero_or_pos sz with e | e; · subst e; simp at h
                         · exact e
  exact ⟨k / sz, k % sz, (Nat.div_lt_iff_lt_mul hz).2 h, Nat.mod_lt _ hz, by rw [Nat.mul_comm, Nat.div_add_mod]⟩
/-- a list that nobody else sees: its blocks are owned, and nothing is said of them for good -/
def OwnU (G : Gh) (w : World) (p : Pl) (sz : Nat) (l : List V) (x : Value) : Prop :=
  ∃ bs : List Nat, bs.Nodup ∧ (∀ b ∈ bs, G.ω b = some p) ∧ DTs G.S G.β w bs [.uq sz l] [x]
theorem OwnU.inv {G : Gh} {w : World} {p : Pl} {sz : Nat} {l : List V} {x : Value} (h : OwnU G w p sz l x) :
    ∃ a cap, x = .slice a l.length cap ∧ ((l = [] ∧ cap = 0) ∨ ∃ g cs ty bs, a = some ⟨g, 0, none⟩ ∧ (g :: bs).Nodup ∧ (∀ b ∈ g :: bs, G.ω b = some p) ∧ w.heap[g]? = some (.cells cs ty (0, 0)) ∧ cs.size = cap * sz ∧ l.length ≤ cap ∧
      (∀ x ∈ l, x.flat.length = sz) ∧ (∀ j, G.S g j = none) ∧ DTs G.S G.β w bs (l.map V.flat).flatten (cs.toList.take (l.length * sz))) := by
  obtain ⟨bs, hn, hw, hd⟩ := h
  cases hd with
  | leaf hp => cases hp
  | emp k => exact ⟨_, 0, rfl, .inl ⟨rfl, rfl⟩⟩
  | blk hg hc hm hs hS hk k =>
    cases k
    rw [List.append_nil] at hn hw
    exact ⟨_, _, rfl, .inr ⟨_, _, _, _, rfl, hn, hw, hg, hc, hm, hs, hS, hk⟩⟩
theorem OwnU.mk {G : Gh} {w : World} {p : Pl} {sz : Nat} {l : List V} {g cap : Nat} {cs : Array Value} {ty : TypeId} {bs : List Nat} (hn : (g :: bs).Nodup) (hw : ∀ b ∈ g :: bs, G.ω b = some p) (hg : w.heap[g]? = some (.cells cs ty (0, 0)))
    (hc : cs.size = cap * sz) (hm : l.length ≤ cap) (hs : ∀ x ∈ l, x.flat.length = sz) (hS : ∀ j, G.S g j = none) (hk : DTs G.S G.β w bs (l.map V.flat).flatten (cs.toList.take (l.length * sz))) : OwnU G w p sz l (.slice (some ⟨g, 0, none⟩) l.length cap) := by
  refine ⟨g :: (bs ++ []), ?_, ?_, .blk hg hc hm hs hS hk .nil⟩
  · rw [List.append_nil]; exact hn
  · rw [List.append_nil]; exact hw
theorem OwnU.mk0 {G : Gh} {w : World} {p : Pl} {sz : Nat} (a : Option Addr) : OwnU G w p sz [] (.slice a 0 0) := ⟨[], List.nodup_nil, (fun b hb => by cases hb), .emp .nil⟩
/-- a variable that was handed back: its block is owned -/
def OwnN (G : Gh) (w : World) (p : Pl) (l : List V) (x : Value) : Prop :=
  ∃ g cs ty, x = .pointer (some ⟨g, 0, none⟩) ∧ G.ω g = some p ∧ w.heap[g]? = some (.cells cs ty (0, 0)) ∧ l.length ≤ cs.size ∧ (∀ j, G.S g j = none) ∧ (∀ v ∈ l, pureC v = true) ∧ ∀ j, j < l.length → Tr G.S G.β (l.getD j .undef) (cs.getD j undef)
/-- a cell that may own its list's tail -/
def OwnC (G : Gh) (w : World) (p : Pl) : V → Value → Prop
  | .slc true sz l, x => Tr G.S G.β (.slc false sz l) x ∧ ∃ a cap, x = .slice a l.length cap ∧ (cap = l.length ∨
      ∃ g cs ty, a = some ⟨g, 0, none⟩ ∧ G.ω g = some p ∧ w.heap[g]? = some (.cells cs ty (0, 0)) ∧ cs.size = cap * sz ∧ ∀ j, l.length * sz ≤ j → G.S g j = none)
  | .uq sz l, x => OwnU G w p sz l x
  | .nw l, x => OwnN G w p l x
  | v, x => Tr G.S G.β v x
def OwnV (G : Gh) (w : World) (p : Nat → Pl) : V → Value → Prop
  | .agg l, x => ∃ cs, x = .agg cs ∧ l.length = cs.size ∧ ∀ j, j < l.length → OwnC G w (p j) (l.getD j .undef) (cs.getD j undef)
  | v, x => OwnC G w (p 0) v x
def OwnS (G : Gh) (w : World) (p : Nat → Nat → Pl) : V → Value → Prop
  | .tup l, x => ∃ vs, x = .tuple vs ∧ l.length = vs.size ∧ ∀ i, i < l.length → OwnV G w (p i) (l.getD i .undef) (vs.getD i undef)
  | v, x => OwnV G w (p 0) v x

def ObR (G : Gh) (w : World) (lv t g : Nat) : Ob → Prop
  | .box cells => ∃ cs ty, w.heap[g]? = some (.cells cs ty (0, 0)) ∧ cells.length ≤ cs.size ∧ (∀ j, G.S g j = none) ∧ ∀ j, j < cells.length → OwnC G w (.cl lv t j) (cells.getD j .undef) (cs.getD j undef)
  | .arr fz sz l => ∃ cs ty, w.heap[g]? = some (.cells cs ty (0, 0)) ∧ l.length * sz ≤ cs.size ∧ (∀ x ∈ l, x.flat.length = sz ∧ x.flat.all pureC = true) ∧
      (∀ i j, i < l.length → j < sz → Tr G.S G.β ((l.getD i .undef).flat.getD j .undef) (cs.getD (i * sz + j) undef)) ∧
      (if fz then ∀ j, j < l.length * sz → G.S g j = some (cs.getD j undef) else ∀ j, G.S g j = none)
  | .map es => ∃ en ck, w.heap[g]? = some (.map en ck) ∧ es.length = en.size ∧ (∀ j, G.S g j = none) ∧ (∀ x ∈ es, x.1.flat.all pureC = true ∧ x.2.flat.all pureC = true) ∧ ∀ i, i < es.length → Tr G.S G.β (es.getD i default).1 (en.getD i default).key ∧ Tr G.S G.β (es.getD i default).2 (en.getD i default).val
  | .aru sz l => ∃ cs ty bs, w.heap[g]? = some (.cells cs ty (0, 0)) ∧ cs.size = l.length * sz ∧ (∀ x ∈ l, x.flat.length = sz) ∧ (∀ j, G.S g j = none) ∧ bs.Nodup ∧ (∀ b ∈ bs, G.ω b = some (.cl lv t 0)) ∧ DTs G.S G.β w bs (l.map V.flat).flatten cs.toList
  | .dir sz l => ∃ cs ty, w.heap[g]? = some (.cells cs ty (0, 0)) ∧ l.length * sz ≤ cs.size ∧ (∀ x ∈ l, x.flat.length = sz ∧ x.flat.all cellD = true) ∧
      (∀ i j, i < l.length → j < sz → Tr G.S G.β ((l.getD i .undef).flat.getD j .undef) (cs.getD (i * sz + j) undef)) ∧ ∀ j, G.S g j = none

structure Rel (G : Gh) (s : St) (a : Act) (w : World) : Prop where
  size : a.tmps.size = s.n
  defers : a.defers = []
  slot : ∀ t, OwnS G w (.tm s.lv t) (s.t t) (a.tmps.getD t undef)
  obj : ∀ lv t ob, s.ob lv t = some ob → ∃ g, G.β lv t = some g ∧ G.ω g = some (.ob lv t) ∧ ObR G w lv t g ob
  dom : ∀ lv t g, G.β lv t = some g → ∃ ob, s.ob lv t = some ob
  imm : ∀ g j c, G.S g j = some c → w.cell? ⟨g, j, none⟩ = some c
  lim : ∀ g p, G.ω g = some p → g < w.heap.size

def Mine (lv : Nat) : Pl → Prop
  | .tm l _ _ _ => lv ≤ l
  | _ => True

/-- what a caller may go on to say: all that is not handed over stands as it stood -/
structure Fr (lv : Nat) (G : Gh) (w : World) (G' : Gh) (w' : World) : Prop where
  os : w'.os = w.os
  tape : w'.tape = w.tape
  output : w'.output = w.output
  size : w.heap.size ≤ w'.heap.size
  keep : ∀ g, g < w.heap.size → (∀ p, G.ω g = some p → ¬ Mine lv p) → w'.heap[g]? = w.heap[g]? ∧ G'.ω g = G.ω g ∧ ∀ j, G'.S g j = G.S g j
  imm : ∀ g j c, G.S g j = some c → G'.S g j = some c
  outer : ∀ l t, l < lv → G'.β l t = G.β l t

theorem Fr.refl (lv : Nat) (G : Gh) (w : World) : Fr lv G w G w := ⟨rfl, rfl, rfl, Nat.le_refl _, fun _ _ _ => ⟨rfl, rfl, fun _ => rfl⟩, fun _ _ _ h => h, fun _ _ _ => rfl⟩
theorem Fr.trans {lv : Nat} {G G1 G2 : Gh} {w w1 w2 : World} (h : Fr lv G w G1 w1) (k : Fr lv G1 w1 G2 w2) : Fr lv G w G2 w2 :=
  ⟨k.os.trans h.os, k.tape.trans h.tape, k.output.trans h.output, Nat.le_trans h.size k.size, fun g hg hm => by
    obtain ⟨a1, a2, a3⟩ := h.keep g hg hm
    obtain ⟨b1, b2, b3⟩ := k.keep g (Nat.lt_of_lt_of_le hg h.size) (fun p hp => hm p (a2 ▸ hp))
    exact ⟨b1.trans a1, b2.trans a2, fun j => (b3 j).trans (a3 j)⟩, fun g j c hc => k.imm g j c (h.imm g j c hc), fun l t hl => (k.outer l t hl).trans (h.outer l t hl)⟩

/-! ### moving to another world -/
structure Le (G G' : Gh) : Prop where
  S : ∀ g j c, G.S g j = some c → G'.S g j = some c
  β : ∀ l t g, G.β l t = some g → G'.β l t = some g
theorem Le.refl (G : Gh) : Le G G := ⟨fun _ _ _ h => h, fun _ _ _ h => h⟩
theorem Le.tr {G G' : Gh} (h : Le G G') {v : V} {x : Value} (k : Tr G.S G.β v x) : Tr G'.S G'.β v x := k.mono h.S h.β
/-- a block stands as it stood -/
structure Same (G : Gh) (w : World) (G' : Gh) (w' : World) (g : Nat) : Prop where
  heap : w'.heap[g]? = w.heap[g]?
  S : ∀ j, G'.S g j = G.S g j
  ω : G'.ω g = G.ω g

theorem getD_viewC (l : List V) (i : Nat) : (l.map V.viewC).getD i .undef = (l.getD i .undef).viewC := by
  simp only [List.getD_eq_getElem?_getD, List.getElem?_map]
  cases l[i]? <;> rfl
theorem OwnC.eq {G : Gh} {w : World} {p : Pl} {v : V} {x : Value} (h1 : ∀ sz l, v ≠ .slc true sz l) (h2 : ∀ sz l, v ≠ .uq sz l) (h3 : ∀ l, v ≠ .nw l) : OwnC G w p v x = Tr G.S G.β v x := by
  unfold OwnC
  split
  · exact absurd rfl (h1 _ _)
  · exact absurd rfl (h2 _ _)
  · exact absurd rfl (h3 _)
  · rfl
theorem OwnU.mono {G G' : Gh} {w w' : World} {p p' : Pl} {sz : Nat} {l : List V} {x : Value} (h : OwnU G w p sz l x) (hle : Le G G') (hs : ∀ g, G.ω g = some p → w'.heap[g]? = w.heap[g]? ∧ (∀ j, G'.S g j = G.S g j) ∧ G'.ω g = some p') : OwnU G' w' p' sz l x := by
  obtain ⟨bs, h1, h2, h3⟩ := h
  exact ⟨bs, h1, fun b hb => (hs b (h2 b hb)).2.2, h3.mono (fun v x _ => hle.tr) fun b hb => ⟨(hs b (h2 b hb)).1, (hs b (h2 b hb)).2.1⟩⟩
theorem OwnC.view {G : Gh} {w : World} {p : Pl} {v : V} {x : Value} (h : OwnC G w p v x) : Tr G.S G.β v.viewC x := by
  unfold OwnC at h
  split at h
  · exact h.1
  · exact .undef _
  · exact .undef _
  · rename_i hv hu hn
    cases v <;> try exact h
    · rename_i own sz l
      cases own
      · exact h
      · exact absurd rfl (hv _ _)
    · exact absurd rfl (hu _ _)
    · exact absurd rfl (hn _)
theorem OwnC.of_view {G : Gh} {w : World} {p : Pl} {v : V} {x : Value} (h : Tr G.S G.β v x) (hv : ∀ sz l, v ≠ .slc true sz l) : OwnC G w p v x := by
  unfold OwnC
  split
  · exact absurd rfl (hv _ _)
  · cases h
  · cases h
  · exact h
theorem OwnC.mono {G G' : Gh} {w w' : World} {p p' : Pl} {v : V} {x : Value} (h : OwnC G w p v x) (hle : Le G G') (hs : ∀ g, G.ω g = some p → w'.heap[g]? = w.heap[g]? ∧ (∀ j, G'.S g j = G.S g j) ∧ G'.ω g = some p') : OwnC G' w' p' v x := by
  unfold OwnC at h ⊢
  split at h
  · obtain ⟨h1, a, cap, rfl, h2⟩ := h
    refine ⟨hle.tr h1, a, cap, rfl, ?_⟩
    rcases h2 with h2 | ⟨g, cs, ty, h3, h4, h5, h6, h7⟩
    · exact .inl h2
    · obtain ⟨k1, k2, k3⟩ := hs g h4
      exact .inr ⟨g, cs, ty, h3, k3, k1.trans h5, h6, fun j hj => (k2 j).trans (h7 j hj)⟩
  · exact h.mono hle hs
  · obtain ⟨g, cs, ty, h1, h2, h3, h4, h5, h6, h7⟩ := h
    obtain ⟨k1, k2, k3⟩ := hs g h2
    exact ⟨g, cs, ty, h1, k3, k1.trans h3, h4, fun j => (k2 j).trans (h5 j), h6, fun j hj => hle.tr (h7 j hj)⟩
  · exact hle.tr h
theorem OwnV.mono {G G' : Gh} {w w' : World} {p p' : Nat → Pl} {v : V} {x : Value} (h : OwnV G w p v x) (hle : Le G G') (hs : ∀ j g, G.ω g = some (p j) → w'.heap[g]? = w.heap[g]? ∧ (∀ j, G'.S g j = G.S g j) ∧ G'.ω g = some (p' j)) : OwnV G' w' p' v x := by
  unfold OwnV at h ⊢
  split at h
  · obtain ⟨cs, rfl, hl, hc⟩ := h
    exact ⟨cs, rfl, hl, fun j hj => (hc j hj).mono hle (hs j)⟩
  · exact OwnC.mono h hle (hs 0)
theorem OwnS.mono {G G' : Gh} {w w' : World} {p p' : Nat → Nat → Pl} {v : V} {x : Value} (h : OwnS G w p v x) (hle : Le G G') (hs : ∀ i j g, G.ω g = some (p i j) → w'.heap[g]? = w.heap[g]? ∧ (∀ j, G'.S g j = G.S g j) ∧ G'.ω g = some (p' i j)) : OwnS G' w' p' v x := by
  unfold OwnS at h ⊢
  split at h
  · obtain ⟨vs, rfl, hl, hc⟩ := h
    exact ⟨vs, rfl, hl, fun i hi => (hc i hi).mono hle (hs i)⟩
  · exact OwnV.mono h hle (hs 0)
theorem OwnV.view {G : Gh} {w : World} {p : Nat → Pl} {v : V} {x : Value} (h : OwnV G w p v x) (ht : ∀ l, v ≠ .tup l) : Tr G.S G.β v.view x := by
  unfold OwnV at h
  split at h
  · obtain ⟨cs, rfl, hl, hc⟩ := h
    refine .agg _ cs (by simpa using hl) fun i hi => ?_
    rw [getD_viewC]
    exact (hc i (by simpa using hi)).view
  · rename_i hv
    have := OwnC.view h
    cases v <;> first | exact this | exact .undef _ | exact absurd rfl (hv _) | exact absurd rfl (ht _)
theorem OwnS.view {G : Gh} {w : World} {p : Nat → Nat → Pl} {v : V} {x : Value} (h : OwnS G w p v x) : Tr G.S G.β v.view x := by
  unfold OwnS at h
  split at h
  · exact .undef _
  · rename_i hv
    exact OwnV.view h hv
theorem OwnV.of_tr {G : Gh} {w : World} {p : Nat → Pl} {v : V} {x : Value} (h : Tr G.S G.β v x) (hv : v.view = v) : OwnV G w p v x := by
  cases v
  case agg l =>
    cases h with
    | agg _ cs hl hT =>
      refine ⟨cs, rfl, hl, fun j hj => OwnC.of_view (hT j hj) ?_⟩
      intro sz m e
      simp only [V.view, V.agg.injEq] at hv
      have h1 := getD_viewC l j
      rw [hv, e] at h1
      cases h1
  case slc own sz l =>
    cases own
    · exact h
    · cases hv
  case uq => cases h
  case nw => cases h
  all_goals exact h
theorem OwnS.of_tr {G : Gh} {w : World} {p : Nat → Nat → Pl} {v : V} {x : Value} (h : Tr G.S G.β v x) (hv : v.view = v) (ht : ∀ l, v ≠ .tup l) : OwnS G w p v x := by
  unfold OwnS
  split
  · exact absurd rfl (ht _)
  · exact OwnV.of_tr h hv
end Go.Ev
namespace Go.Ev
open Go
set_option linter.unusedVariables false

def Gh.ren (G : Gh) (f : Pl → Pl) : Gh := { G with ω := fun g => (G.ω g).map f }
theorem Gh.ren_le (G : Gh) (f : Pl → Pl) : Le G (G.ren f) := ⟨fun _ _ _ h => h, fun _ _ _ h => h⟩
theorem Gh.ren_le' (G : Gh) (f : Pl → Pl) : Le (G.ren f) G := ⟨fun _ _ _ h => h, fun _ _ _ h => h⟩
theorem ren_ω {G : Gh} {f : Pl → Pl} {g : Nat} {p : Pl} (h : G.ω g = some p) : (G.ren f).ω g = some (f p) := by simp [Gh.ren, h]
theorem OwnC.ren {G : Gh} {w : World} {p p' : Pl} {v : V} {x : Value} (h : OwnC G w p v x) (f : Pl → Pl) (hp : f p = p') : OwnC (G.ren f) w p' v x :=
  h.mono (G.ren_le f) fun g hg => ⟨rfl, fun _ => rfl, by rw [ren_ω hg, hp]⟩
theorem OwnV.ren {G : Gh} {w : World} {p p' : Nat → Pl} {v : V} {x : Value} (h : OwnV G w p v x) (f : Pl → Pl) (hp : ∀ j, f (p j) = p' j) : OwnV (G.ren f) w p' v x :=
  h.mono (G.ren_le f) fun j g hg => ⟨rfl, fun _ => rfl, by rw [ren_ω hg, hp]⟩
theorem OwnS.ren {G : Gh} {w : World} {p p' : Nat → Nat → Pl} {v : V} {x : Value} (h : OwnS G w p v x) (f : Pl → Pl) (hp : ∀ i j, f (p i j) = p' i j) : OwnS (G.ren f) w p' v x :=
  h.mono (G.ren_le f) fun i j g hg => ⟨rfl, fun _ => rfl, by rw [ren_ω hg, hp]⟩
theorem ObR.mono {G G' : Gh} {w w' : World} {lv t g : Nat} {ob : Ob} (h : ObR G w lv t g ob) (hle : Le G G') (hg : w'.heap[g]? = w.heap[g]? ∧ (∀ j, G'.S g j = G.S g j))
    (hs : ∀ j k, G.ω k = some (.cl lv t j) → w'.heap[k]? = w.heap[k]? ∧ (∀ j, G'.S k j = G.S k j) ∧ G'.ω k = some (.cl lv t j)) : ObR G' w' lv t g ob := by
  cases ob with
  | box cells =>
    obtain ⟨cs, ty, h1, h2, h3, h4⟩ := h
    exact ⟨cs, ty, hg.1.trans h1, h2, fun j => (hg.2 j).trans (h3 j), fun j hj => (h4 j hj).mono hle (hs j)⟩
  | arr fz sz l =>
    obtain ⟨cs, ty, h1, h2, h3, h4, h5⟩ := h
    refine ⟨cs, ty, hg.1.trans h1, h2, h3, fun i j hi hj => hle.tr (h4 i j hi hj), ?_⟩
    cases fz
    · exact fun j => (hg.2 j).trans (h5 j)
    · exact fun j hj => (hg.2 j).trans (h5 j hj)
  | map es =>
    obtain ⟨en, ck, h1, h2, h3, h5, h4⟩ := h
    exact ⟨en, ck, hg.1.trans h1, h2, fun j => (hg.2 j).trans (h3 j), h5, fun i hi => ⟨hle.tr (h4 i hi).1, hle.tr (h4 i hi).2⟩⟩
  | aru sz l =>
    obtain ⟨cs, ty, bs, h1, h2, h3, h4, h5, h6, h7⟩ := h
    exact ⟨cs, ty, bs, hg.1.trans h1, h2, h3, fun j => (hg.2 j).trans (h4 j), h5, fun b hb => (hs 0 b (h6 b hb)).2.2, h7.mono (fun v x _ => hle.tr) fun b hb => ⟨(hs 0 b (h6 b hb)).1, (hs 0 b (h6 b hb)).2.1⟩⟩
  | dir sz l =>
    obtain ⟨cs, ty, h1, h2, h3, h4, h5⟩ := h
    exact ⟨cs, ty, hg.1.trans h1, h2, h3, fun i j hi hj => hle.tr (h4 i j hi hj), fun j => (hg.2 j).trans (h5 j)⟩
theorem ObR.ren {G : Gh} {w : World} {lv t g : Nat} {ob : Ob} (h : ObR G w lv t g ob) (f : Pl → Pl) (hp : ∀ j, f (.cl lv t j) = .cl lv t j) : ObR (G.ren f) w lv t g ob :=
  h.mono (G.ren_le f) ⟨rfl, fun _ => rfl⟩ fun j k hk => ⟨rfl, fun _ => rfl, by rw [ren_ω hk, hp]⟩

theorem ren_fr {lv : Nat} {G : Gh} {w : World} {f : Pl → Pl} (h : ∀ p, f p = p ∨ Mine lv p) : Fr lv G w (G.ren f) w := by
  refine ⟨rfl, rfl, rfl, Nat.le_refl _, fun g hg hm => ⟨rfl, ?_, fun _ => rfl⟩, fun _ _ _ h => h, fun _ _ _ => rfl⟩
  cases hω : G.ω g with
  | none => simp [Gh.ren, hω]
  | some p =>
    rw [ren_ω hω]
    rcases h p with h | h
    · rw [h]
    · exact absurd h (hm p hω)
theorem ren_lim {G : Gh} {w : World} {f : Pl → Pl} (h : ∀ g p, G.ω g = some p → g < w.heap.size) : ∀ g p, (G.ren f).ω g = some p → g < w.heap.size := by
  intro g p hp
  cases hω : G.ω g with
  | none => simp [Gh.ren, hω] at hp
  | some q => exact h g q hω

theorem V.view_view (v : V) : v.view.view = v.view := by
  cases v <;> try rfl
  simp only [V.view, List.map_map]
  congr 1
  refine List.map_congr_left fun x _ => ?_
  cases x <;> rfl
theorem V.view_tup (v : V) : ∀ l, v.view ≠ .tup l := by cases v <;> intro l h <;> cases h

def takeF (lv i : Nat) : Pl → Pl
  | .tm l t c j => if l = lv ∧ t = i then .rs c j else .tm l t c j
  | p => p
/-- an operand is handed over -/
theorem Rel.take {G : Gh} {s : St} {a : Act} {w : World} (h : Rel G s a w) (i : Nat) :
    ∃ G', Rel G' (s.put i (s.t i).view) a w ∧ OwnS G' w Pl.rs (s.t i) (a.tmps.getD i undef) ∧ Fr s.lv G w G' w ∧ (∀ c j g, G.ω g = some (.rs c j) → G'.ω g = some (.rs c j)) ∧ G'.S = G.S ∧ G'.β = G.β := by
  have hrs : ∀ c j, takeF s.lv i (.tm s.lv i c j) = .rs c j := fun c j => by simp [takeF]
  refine ⟨G.ren (takeF s.lv i), ⟨h.size, h.defers, fun t => ?_, fun lv t ob hob => ?_, h.dom, h.imm, ren_lim h.lim⟩, (h.slot i).ren _ hrs, ren_fr ?_, fun c j g hg => by rw [ren_ω hg]; rfl, rfl, rfl⟩
  · by_cases ht : t = i
    · subst ht
      have : (s.put t (s.t t).view).t t = (s.t t).view := by simp [St.put, upd]
      rw [this]
      exact OwnS.of_tr ((G.ren_le _).tr (h.slot t).view) (V.view_view _) (V.view_tup _)
    · have : (s.put i (s.t i).view).t t = s.t t := by simp [St.put, upd, ht]
      rw [this]
      exact (h.slot t).ren _ fun c j => by
        have : (St.put s i (s.t i).view).lv = s.lv := rfl
        simp [takeF, ht, this]
  · obtain ⟨g, h1, h2, h3⟩ := h.obj lv t ob hob
    exact ⟨g, h1, by rw [ren_ω h2]; rfl, h3.ren _ fun j => rfl⟩
  · intro p
    cases p with
    | tm l t c j =>
      by_cases hl : l = s.lv ∧ t = i
      · exact .inr (by rw [hl.1]; exact Nat.le_refl _)
      · exact .inl (by simp [takeF, hl])
    | _ => exact .inl rfl

def putF (lv d : Nat) : Pl → Pl
  | .rs c j => .tm lv d c j
  | p => p
theorem getD_setIfInBounds {α : Type} (x : Array α) (d t : Nat) (v u : α) : (x.setIfInBounds d v).getD t u = if t = d ∧ d < x.size then v else x.getD t u := by
  simp only [Array.getD_eq_getD_getElem?, Array.getElem?_setIfInBounds]
  by_cases hd : d = t
  · subst hd
    by_cases hs : d < x.size
    · simp [hs]
    · simp [hs]
  · have : ¬ t = d := fun e => hd e.symm
    simp [hd, this]
/-- a value is put down -/
theorem Rel.put {G : Gh} {s : St} {a : Act} {w : World} (h : Rel G s a w) {v : V} {x : Value} (hv : OwnS G w Pl.rs v x) (d : Nat) (hd : d < s.n) :
    ∃ G', Rel G' (s.put d v) (a.put (some d) x) w ∧ Fr s.lv G w G' w ∧ G'.S = G.S ∧ G'.β = G.β := by
  refine ⟨G.ren (putF s.lv d), ⟨by simp [Act.put, St.put, h.size], h.defers, fun t => ?_, fun lv t ob hob => ?_, h.dom, h.imm, ren_lim h.lim⟩, ren_fr ?_, rfl, rfl⟩
  · show OwnS _ _ _ _ ((a.tmps.setIfInBounds d x).getD t undef)
    rw [getD_setIfInBounds]
    by_cases ht : t = d
    · subst ht
      have : (s.put t v).t t = v := by simp [St.put, upd]
      rw [this, if_pos ⟨rfl, h.size ▸ hd⟩]
      exact hv.ren _ fun c j => rfl
    · have : (s.put d v).t t = s.t t := by simp [St.put, upd, ht]
      rw [this, if_neg (fun e => ht e.1)]
      exact (h.slot t).ren _ fun c j => rfl
  · obtain ⟨g, h1, h2, h3⟩ := h.obj lv t ob hob
    exact ⟨g, h1, by rw [ren_ω h2]; rfl, h3.ren _ fun j => rfl⟩
  · intro p
    cases p with
    | rs c j => exact .inr trivial
    | _ => exact .inl rfl
/-- a value without anything of its own -/
theorem Rel.put_tr {G : Gh} {s : St} {a : Act} {w : World} (h : Rel G s a w) {v : V} {x : Value} (hv : Tr G.S G.β v x) (hn : v.view = v) (ht : ∀ l, v ≠ .tup l) (d : Nat) (hd : d < s.n) :
    ∃ G', Rel G' (s.put d v) (a.put (some d) x) w ∧ Fr s.lv G w G' w ∧ G'.S = G.S ∧ G'.β = G.β := h.put (OwnS.of_tr hv hn ht) d hd

theorem cst_tr {P : Program} {S β} (ty : TypeId) (v : Value) : Tr S β (cst P ty v).view v := by
  unfold cst
  split
  · exact .bool _
  · exact .int _ _
  · exact .str _
  · exact .slc0 _ _ _
  · exact .nilp
  · exact .nilfn
  · exact .undef _
theorem Rel.see {G : Gh} {s : St} {a : Act} {w : World} (h : Rel G s a w) (P : Program) (ty : TypeId) (x : Operand) : Tr G.S G.β (s.see P ty x) (a.eval x) := by
  cases x with
  | tmp i => exact (h.slot i).view
  | const v => exact cst_tr ty v
  | func f => exact .fn f [] #[] rfl (fun i hi => absurd hi (Nat.not_lt_zero _))
  | global g => exact .undef _
theorem see_view (s : St) (P : Program) (ty : TypeId) (x : Operand) : (s.see P ty x).view = s.see P ty x := by
  cases x <;> first | exact V.view_view _ | rfl
theorem see_tup (s : St) (P : Program) (ty : TypeId) (x : Operand) : ∀ l, s.see P ty x ≠ .tup l := by
  cases x <;> first | exact V.view_tup _ | (intro l h; cases h)

/-- the world has grown, and nothing that was said of turns -/
theorem Rel.grow {G G' : Gh} {s : St} {a : Act} {w w' : World} (h : Rel G s a w) (hle : Le G G') (hβ : G'.β = G.β)
    (hs : ∀ g p, (∀ c j, p ≠ .rs c j) → G.ω g = some p → w'.heap[g]? = w.heap[g]? ∧ (∀ j, G'.S g j = G.S g j) ∧ G'.ω g = some p)
    (himm : ∀ g j c, G'.S g j = some c → w'.cell? ⟨g, j, none⟩ = some c) (hlim : ∀ g p, G'.ω g = some p → g < w'.heap.size) : Rel G' s a w' :=
  ⟨h.size, h.defers, fun t => (h.slot t).mono hle fun c j g hg => hs g _ (fun _ _ e => by cases e) hg, fun lv t ob hob => by
    obtain ⟨g, h1, h2, h3⟩ := h.obj lv t ob hob
    obtain ⟨k1, k2, k3⟩ := hs g _ (fun _ _ e => by cases e) h2
    exact ⟨g, hle.β _ _ _ h1, k3, h3.mono hle ⟨k1, k2⟩ fun j k hk => hs k _ (fun _ _ e => by cases e) hk⟩, fun lv t g hg => h.dom lv t g (by rw [← hβ]; exact hg), himm, hlim⟩
end Go.Ev
namespace Go.Ev
open Go
set_option linter.unusedVariables false
set_option linter.unusedSimpArgs false

def OpOk (P : Program) (o : Oper) (G : Gh) (s : St) (a : Act) (w : World) (v : V) (s1 : St) : Prop :=
  ∃ x w' G', (execOp a.eval o).run P w = .ok (.value x) w' ∧ Rel G' s1 a w' ∧ OwnS G' w' Pl.rs v x ∧ Fr s.lv G w G' w'
variable {P : Program} {G : Gh} {s : St} {a : Act} {w : World} {o : Oper}
theorem OpOk.pure (h : Rel G s a w) {v : V} {x : Value} (hr : (execOp a.eval o).run P w = .ok (.value x) w) (hT : Tr G.S G.β v x) (hv : v.view = v) (ht : ∀ l, v ≠ .tup l) : OpOk P o G s a w v s :=
  ⟨x, w, G, hr, h, OwnS.of_tr hT hv ht, Fr.refl _ _ _⟩

theorem szOf_ne {t : TypeId} (h : szOf P t ≠ 0) : ∃ i d, P.info? t = some i ∧ P.underlying t = some d ∧ szOf P t = i.size ∧ P.cellsOf t = i.size := by
  unfold szOf at h ⊢
  cases hi : P.info? t with
  | none => simp [hi] at h
  | some i =>
    cases hd : P.underlying t with
    | none => simp [hi, hd] at h
    | some d => exact ⟨i, d, rfl, rfl, rfl, by simp [Program.cellsOf, hi]⟩
theorem run_sizeOf' {t : TypeId} (h : szOf P t ≠ 0) (w : World) : (sizeOf t).run P w = .ok (szOf P t) w := by
  obtain ⟨i, d, h1, h2, h3, h4⟩ := szOf_ne h
  simp only [sizeOf, Sem.run_bind, typeInfo, run_program, Result.andThen_ok, h1, Sem.run_pure, h3]
theorem run_isAgg' {t : TypeId} (h : (P.underlying t).isSome) (w : World) : (Go.isAgg t).run P w = .ok (isAgg P t) w := by
  obtain ⟨d, hd⟩ := Option.isSome_iff_exists.1 h
  unfold Go.isAgg Ev.isAgg
  simp only [Sem.run_bind, run_underlying hd, Result.andThen_ok, hd]
  cases d <;> rfl

theorem op_move {d : Option Nat} {ty : TypeId} {pos : String} {af : Array Edge} {gd : Option (Nat × Bool)} {x : Operand} (h : Rel G s a w) (op : Op) (hop : op = .move x ∨ op = .assign x) :
    OpOk P ⟨d, op, ty, pos, af, gd⟩ G s a w (s.see P ty x) s := by
  refine OpOk.pure h (x := a.eval x) ?_ (h.see P ty x) (see_view _ _ _ _) (see_tup _ _ _ _)
  rcases hop with rfl | rfl <;> rfl
theorem op_take {d : Option Nat} {ty : TypeId} {pos : String} {af : Array Edge} {gd : Option (Nat × Bool)} {i : Nat} (h : Rel G s a w) (op : Op) (hop : op = .move (.tmp i) ∨ op = .assign (.tmp i)) :
    OpOk P ⟨d, op, ty, pos, af, gd⟩ G s a w (s.t i) (s.drop (.tmp i)) := by
  obtain ⟨G', h1, h2, h3, _⟩ := h.take i
  refine ⟨a.eval (.tmp i), w, G', ?_, h1, h2, h3⟩
  rcases hop with rfl | rfl <;> rfl
theorem cst_own {G : Gh} {w : World} (p : Nat → Nat → Pl) (ty : TypeId) (v : Value) : OwnS G w p (cst P ty v) v := by
  unfold cst
  split
  · exact Tr.bool _
  · exact Tr.int _ _
  · exact Tr.str _
  · exact ⟨Tr.slc0 _ _ _, none, 0, rfl, .inl rfl⟩
  · exact Tr.nilp
  · exact Tr.nilfn
  · exact Tr.undef _
theorem rd_own {G : Gh} {w : World} (p : Nat → Nat → Pl) (ty : TypeId) (x : Operand) (hx : ∀ i, x ≠ .tmp i) : OwnS G w p (rd P s.t ty x) (a.eval x) := by
  cases x with
  | tmp i => exact absurd rfl (hx i)
  | const v => exact cst_own p ty v
  | func f => exact Tr.fn f [] #[] rfl (fun i hi => absurd hi (Nat.not_lt_zero _))
  | global g => exact Tr.undef _
theorem op_const {d : Option Nat} {ty : TypeId} {pos : String} {af : Array Edge} {gd : Option (Nat × Bool)} {x : Operand} (h : Rel G s a w) (op : Op) (hop : op = .move x ∨ op = .assign x) (hx : ∀ i, x ≠ .tmp i) :
    OpOk P ⟨d, op, ty, pos, af, gd⟩ G s a w (rd P s.t ty x) s := by
  refine ⟨a.eval x, w, G, ?_, h, rd_own _ ty x hx, Fr.refl _ _ _⟩
  rcases hop with rfl | rfl <;> rfl

theorem Tr.bool_inv {S β} {b : Bool} {x : Value} (h : Tr S β (.bool b) x) : x = .bool b := by cases h; rfl
theorem Tr.int_inv {S β} {k : IntKind} {n : Int} {x : Value} (h : Tr S β (.int k n) x) : x = .int k n := by cases h; rfl
theorem Tr.str_inv {S β} {b : ByteArray} {x : Value} (h : Tr S β (.str b) x) : x = .string b := by cases h; rfl
theorem Tr.ite {S β} {c : Bool} {v u : V} {x y : Value} (h : Tr S β v x) (k : Tr S β u y) : Tr S β (V.ite c v u) (if c = true then x else y) := by
  have gen : ∀ {p q : V} {x y : Value}, Tr S β p x → Tr S β q y → Tr S β (if c = true then p else q) (if c = true then x else y) := by
    intro p q x y hp hq
    cases c
    · exact hq
    · exact hp
  cases v <;> cases u <;> try exact gen h k
  · rw [h.bool_inv, k.bool_inv]; cases c <;> exact Tr.bool _
  · rename_i k1 n1 k2 n2
    rw [h.int_inv, k.int_inv]
    unfold V.ite
    by_cases hk : k1 = k2
    · subst hk; simp only [if_true]; cases c <;> exact Tr.int _ _
    · simp only [if_neg hk]; exact Tr.undef _
  · rw [h.str_inv, k.str_inv]; cases c <;> exact Tr.str _
theorem ite_view {c : Bool} {v u : V} (hv : v.view = v) (hu : u.view = u) : (V.ite c v u).view = V.ite c v u := by
  have gen : ∀ {p q : V}, p.view = p → q.view = q → (if c = true then p else q).view = if c = true then p else q := by
    intro p q hp hq
    cases c
    · exact hq
    · exact hp
  cases v <;> cases u
  case int.int k n k' n' => show (if k = k' then V.int k (if c = true then n else n') else V.undef).view = _; by_cases hk : k = k' <;> simp [hk, V.ite, V.view, V.viewC]
  case bool.bool => rfl
  case str.str => rfl
  all_goals exact gen hv hu
theorem ite_tup {c : Bool} {v u : V} (hv : ∀ l, v ≠ .tup l) (hu : ∀ l, u ≠ .tup l) : ∀ l, V.ite c v u ≠ .tup l := by
  intro l
  have gen : ∀ {p q : V}, p ≠ .tup l → q ≠ .tup l → (if c = true then p else q) ≠ .tup l := by
    intro p q hp hq
    cases c
    · exact hq
    · exact hp
  cases v <;> cases u
  case int.int k n k' n' => show (if k = k' then V.int k (if c = true then n else n') else V.undef) ≠ _; split <;> (intro e; cases e)
  case bool.bool => intro e; cases e
  case str.str => intro e; cases e
  all_goals exact gen (hv l) (hu l)
theorem op_pick {d : Option Nat} {ty : TypeId} {pos : String} {af : Array Edge} {gd : Option (Nat × Bool)} {c x y : Operand} (h : Rel G s a w) {cb : Bool} (hc : s.see P 0 c = .bool cb) :
    OpOk P ⟨d, .pick c x y, ty, pos, af, gd⟩ G s a w (V.ite cb (s.see P ty x) (s.see P ty y)) s := by
  have h1 := h.see P 0 c
  rw [hc] at h1
  refine OpOk.pure h (x := if cb = true then a.eval x else a.eval y) ?_ ((h.see P ty x).ite (h.see P ty y)) (ite_view (see_view _ _ _ _) (see_view _ _ _ _)) (ite_tup (see_tup _ _ _ _) (see_tup _ _ _ _))
  simp only [execOp, h1.bool_inv, asBool, Sem.run_bind, Sem.run_pure, Result.andThen_ok]
theorem op_nil {d : Option Nat} {ty : TypeId} {pos : String} {af : Array Edge} {gd : Option (Nat × Bool)} {x : Operand} (h : Rel G s a w) {v : V} (hc : s.see P 0 x = v)
    (hv : (∃ lv t off, v = .ptr lv t off) ∨ (∃ l, v = .imp l) ∨ (∃ lv t i sz, v = .eptr lv t i sz) ∨ ∃ f c, v = .fn f c) :
    OpOk P ⟨d, .nilCheck x, ty, pos, af, gd⟩ G s a w v s := by
  have h1 := h.see P 0 x
  rw [hc] at h1
  have h2 := see_view s P 0 x
  have h3 := see_tup s P 0 x
  rw [hc] at h2 h3
  refine OpOk.pure h (x := a.eval x) ?_ h1 h2 h3
  simp only [execOp]
  generalize a.eval x = y at h1
  rcases hv with ⟨lv, t, off, rfl⟩ | ⟨l, rfl⟩ | ⟨lv, t, i, sz, rfl⟩ | ⟨f, c, rfl⟩ <;> cases h1 <;> rfl

/-! numbers, strings -/
theorem run_val {s : Sem Value} {x : Value} {w w' : World} (h : s.run P w = .ok x w') : ((do pure (Next.value (← s)) : Sem Next)).run P w = .ok (.value x) w' := by
  simp only [Sem.run_bind, h, Result.andThen_ok, Sem.run_pure]
theorem arith_run {op : BinOp} {k : IntKind} {n m : Int} {v : V} (hop : op ≠ .shl ∧ op ≠ .shr) (t : TypeId) (h : arith op k n m = some v) (w : World) : ∃ x, (binOp op t (.int k n) (.int k m)).run P w = .ok x w ∧ Tr G.S G.β v x ∧ v.view = v ∧ ∀ l, v ≠ .tup l := by
  cases op <;> simp only [arith, Option.some.injEq, reduceCtorEq] at h
  case add => subst h; exact ⟨_, by simp only [binOp, ne_eq, not_true_eq_false, if_false, Op.intArith, Sem.run_pure], Tr.int _ _, rfl, fun l e => by cases e⟩
  case sub => subst h; exact ⟨_, by simp only [binOp, ne_eq, not_true_eq_false, if_false, Op.intArith, Sem.run_pure], Tr.int _ _, rfl, fun l e => by cases e⟩
  case mul => subst h; exact ⟨_, by simp only [binOp, ne_eq, not_true_eq_false, if_false, Op.intArith, Sem.run_pure], Tr.int _ _, rfl, fun l e => by cases e⟩
  case and => subst h; exact ⟨_, by simp only [binOp, ne_eq, not_true_eq_false, if_false, Op.intBits, Sem.run_pure], Tr.int _ _, rfl, fun l e => by cases e⟩
  case or => subst h; exact ⟨_, by simp only [binOp, ne_eq, not_true_eq_false, if_false, Op.intBits, Sem.run_pure], Tr.int _ _, rfl, fun l e => by cases e⟩
  case xor => subst h; exact ⟨_, by simp only [binOp, ne_eq, not_true_eq_false, if_false, Op.intBits, Sem.run_pure], Tr.int _ _, rfl, fun l e => by cases e⟩
  case eql => subst h; exact ⟨_, by simp only [binOp, ne_eq, not_true_eq_false, if_false, Op.intCmp, Sem.run_pure], Tr.bool _, rfl, fun l e => by cases e⟩
  case neq => subst h; exact ⟨_, by simp only [binOp, ne_eq, not_true_eq_false, if_false, Op.intCmp, Sem.run_pure], Tr.bool _, rfl, fun l e => by cases e⟩
  case lss => subst h; exact ⟨_, by simp only [binOp, ne_eq, not_true_eq_false, if_false, Op.intCmp, Sem.run_pure], Tr.bool _, rfl, fun l e => by cases e⟩
  case leq => subst h; exact ⟨_, by simp only [binOp, ne_eq, not_true_eq_false, if_false, Op.intCmp, Sem.run_pure], Tr.bool _, rfl, fun l e => by cases e⟩
  case gtr => subst h; exact ⟨_, by simp only [binOp, ne_eq, not_true_eq_false, if_false, Op.intCmp, Sem.run_pure], Tr.bool _, rfl, fun l e => by cases e⟩
  case geq => subst h; exact ⟨_, by simp only [binOp, ne_eq, not_true_eq_false, if_false, Op.intCmp, Sem.run_pure], Tr.bool _, rfl, fun l e => by cases e⟩
  case quo =>
    split at h
    · cases h
    · rename_i hm
      obtain rfl := Option.some.inj h
      refine ⟨.int k (k.wrap (n.tdiv m)), ?_, Tr.int _ _, rfl, fun l e => by cases e⟩
      simp [binOp, Op.intDiv, hm]
  case rem =>
    split at h
    · cases h
    · rename_i hm
      obtain rfl := Option.some.inj h
      refine ⟨.int k (n.tmod m), ?_, Tr.int _ _, rfl, fun l e => by cases e⟩
      simp [binOp, Op.intDiv, hm]
theorem shift_run {op : BinOp} {k k' : IntKind} {n m : Int} {v : V} (hop : op = .shl ∨ op = .shr) (t : TypeId) (h : shiftV op k n m = some v) (w : World) : ∃ x, (binOp op t (.int k n) (.int k' m)).run P w = .ok x w ∧ Tr G.S G.β v x ∧ v.view = v ∧ ∀ l, v ≠ .tup l := by
  unfold shiftV at h
  split at h
  · cases h
  · rename_i hm
    rcases hop with rfl | rfl
    · obtain rfl := Option.some.inj h
      exact ⟨.int k (k.wrap (n * 2 ^ (min m.toNat k.bits))), by simp [binOp, Op.shift, hm], Tr.int _ _, rfl, fun l e => by cases e⟩
    · obtain rfl := Option.some.inj h
      exact ⟨.int k (n.fdiv (2 ^ (min m.toNat k.bits))), by simp [binOp, Op.shift, hm], Tr.int _ _, rfl, fun l e => by cases e⟩
theorem str_run {op : BinOp} {x y : ByteArray} {v : V} (t : TypeId) (h : strOp op x y = some v) (w : World) : ∃ z, (binOp op t (.string x) (.string y)).run P w = .ok z w ∧ Tr G.S G.β v z ∧ v.view = v ∧ ∀ l, v ≠ .tup l := by
  cases op <;> simp only [strOp, Option.some.injEq, reduceCtorEq] at h
  case add =>
    split at h
    · cases h
    · rename_i hm
      obtain rfl := Option.some.inj h
      refine ⟨.string (x ++ y), ?_, Tr.str _, rfl, fun l e => by cases e⟩
      have hm' : ¬ ((x.size + y.size : Nat) : Int) > IntKind.i64.max := hm
      simp only [binOp, Op.stringOp, if_neg hm', Sem.run_pure]
  case eql => subst h; exact ⟨_, by simp only [binOp, Op.stringOp, Sem.run_pure], Tr.bool _, rfl, fun l e => by cases e⟩
  case neq => subst h; exact ⟨_, by simp only [binOp, Op.stringOp, Sem.run_pure], Tr.bool _, rfl, fun l e => by cases e⟩
  case lss => subst h; exact ⟨_, rfl, Tr.bool _, rfl, fun l e => by cases e⟩
  case geq => subst h; exact ⟨_, rfl, Tr.bool _, rfl, fun l e => by cases e⟩
end Go.Ev
namespace Go.Ev
open Go
set_option linter.unusedVariables false
set_option linter.unusedSimpArgs false
variable {P : Program} {G : Gh} {s : St} {a : Act} {w : World} {o : Oper}
variable {d : Option Nat} {ty : TypeId} {pos : String} {af : Array Edge} {gd : Option (Nat × Bool)}

theorem unV_run {op : UnOp} {v u : V} {x : Value} (hv : Tr G.S G.β v x) (h : unV op v = some u) (w : World) : ∃ y, (Op.unary op x).run P w = .ok y w ∧ Tr G.S G.β u y ∧ u.view = u ∧ ∀ l, u ≠ .tup l := by
  unfold unV at h
  split at h
  · rw [hv.bool_inv]; obtain rfl := Option.some.inj h; exact ⟨_, rfl, Tr.bool _, rfl, fun l e => by cases e⟩
  · rw [hv.int_inv]; obtain rfl := Option.some.inj h; exact ⟨_, rfl, Tr.int _ _, rfl, fun l e => by cases e⟩
  · cases h
theorem op_un {op : UnOp} {t : TypeId} {x : Operand} {v : V} (h : Rel G s a w) (hv : unV op (s.see P t x) = some v) : OpOk P ⟨d, .unOp op t x, ty, pos, af, gd⟩ G s a w v s := by
  obtain ⟨y, h1, h2, h3, h4⟩ := unV_run (P := P) (h.see P t x) hv w
  exact OpOk.pure h (run_val h1) h2 h3 h4

theorem sameT_run {td : TypeDesc} {x y : V} {r : Bool} {b c : Value} (h : sameT td x y = some r) (hx : Tr G.S G.β x b) (hy : Tr G.S G.β y c) {t : TypeId} (ht : P.underlying t = some td) (w : World) (n : Nat) : (Op.equalIn (n + 1) t b c).run P w = .ok r w := by
  unfold sameT at h
  split at h
  · split at h
    · rename_i hk; subst hk
      obtain rfl := Option.some.inj h
      rw [hx.int_inv, hy.int_inv]
      exact run_equalIn_int w n t _ _ _ _ ht
    · cases h
  · obtain rfl := Option.some.inj h
    rw [hx.bool_inv, hy.bool_inv]
    exact run_equalIn_bool' w n t _ _ ht
  · obtain rfl := Option.some.inj h
    rw [hx.str_inv, hy.str_inv]
    exact run_equalIn_string w n t _ _ ht
  · cases h
theorem sameT_scalar {td : TypeDesc} {x y : V} {r : Bool} (h : sameT td x y = some r) : (∃ k, td = .int k) ∨ td = .bool ∨ td = .string := by
  unfold sameT at h
  split at h
  · exact .inl ⟨_, rfl⟩
  · exact .inr (.inl rfl)
  · exact .inr (.inr rfl)
  · cases h
theorem part_scalar {td : TypeDesc} (hs : (∃ k, td = .int k) ∨ td = .bool ∨ td = .string) {t : TypeId} (ht : P.underlying t = some td) {cs : Array Value} {n : Nat} (hn : n < cs.size) (w : World) : (part t cs n).run P w = .ok (cs.getD n undef) w := by
  unfold part
  have h1 : (Go.isAgg t).run P w = .ok false w := by
    rw [run_isAgg' (by rw [ht]; rfl)]
    unfold Ev.isAgg
    rw [ht]
    rcases hs with ⟨k, rfl⟩ | rfl | rfl <;> rfl
  simp only [Sem.run_bind, h1, Result.andThen_ok, Bool.false_eq_true, if_false]
  rw [Array.getElem?_eq_getElem hn]
  simp [Array.getD, hn]
theorem sameF_run : ∀ (fs : List Field) (n : Nat) (l m : List V) (r : Bool) (xs ys : Array Value), sameF P n fs l m = some r → n + l.length = xs.size → n + m.length = ys.size →
    (∀ i, i < l.length → Tr G.S G.β (l.getD i .undef) (xs.getD (n + i) undef)) → (∀ i, i < m.length → Tr G.S G.β (m.getD i .undef) (ys.getD (n + i) undef)) → ∀ (w : World) (k : Nat), (Op.eqFields (k + 1) xs ys fs).run P w = .ok r w := by
  intro fs
  induction fs with
  | nil =>
    intro n l m r xs ys h _ _ _ _ w k
    cases l <;> cases m <;> simp only [sameF, reduceCtorEq, Option.some.injEq] at h
    subst h
    rfl
  | cons f fs ih =>
    intro n l m r xs ys h hx hy hl hm w k
    cases l with
    | nil => simp [sameF] at h
    | cons b l =>
      cases m with
      | nil => simp [sameF] at h
      | cons c m =>
        simp only [sameF] at h
        split at h
        · rename_i hf
          split at h
          · rename_i td htd
            split at h
            · rename_i p q hp hq
              obtain rfl := Option.some.inj h
              have hb := hl 0 (by simp)
              have hc := hm 0 (by simp)
              simp only [List.getD_cons_zero, Nat.add_zero] at hb hc
              have hx0 : n < xs.size := by simp at hx; omega
              have hy0 : n < ys.size := by simp at hy; omega
              have e1 := part_scalar (P := P) (sameT_scalar hp) htd hx0 w
              have e2 := part_scalar (P := P) (sameT_scalar hp) htd hy0 w
              have e3 := sameT_run (P := P) hp hb hc htd w k
              have e4 := ih (n + 1) l m q xs ys hq (by simp at hx; omega) (by simp at hy; omega) (fun i hi => by
                have := hl (i + 1) (by simpa using hi)
                rwa [List.getD_cons_succ, show n + (i + 1) = n + 1 + i by omega] at this) (fun i hi => by
                have := hm (i + 1) (by simpa using hi)
                rwa [List.getD_cons_succ, show n + (i + 1) = n + 1 + i by omega] at this) w k
              have hn : f.name ≠ "_" := by simpa using hf.2
              rw [Op.eqFields]
              simp only [if_pos hn, Sem.run_bind, hf.1, e1, e2, e3, Result.andThen_ok]
              cases p
              · simp
              · simpa using e4
            · cases h
          · cases h
        · cases h
theorem Tr.agg_inv {S β} {l : List V} {x : Value} (h : Tr S β (.agg l) x) : ∃ cs, x = .agg cs ∧ l.length = cs.size ∧ ∀ i, i < l.length → Tr S β (l.getD i .undef) (cs.getD i Go.undef) := by
  cases h with
  | agg _ cs hl hT => exact ⟨cs, rfl, hl, hT⟩
theorem sameA_len {td : TypeDesc} : ∀ (l m : List V) (r : Bool), sameA td l m = some r → l.length = m.length := by
  intro l
  induction l with
  | nil => intro m r h; cases m <;> simp [sameA] at h ⊢
  | cons b l ih =>
    intro m r h
    cases m with
    | nil => simp [sameA] at h
    | cons c m =>
      simp only [sameA] at h
      split at h
      · rename_i p q hp hq
        simp [ih m q hq]
      · cases h
theorem sameA_run {td : TypeDesc} {e : TypeId} (he : P.underlying e = some td) (hs : szOf P e = 1) : ∀ (l m : List V) (r : Bool) (n : Nat) (xs ys : Array Value), sameA td l m = some r → n + l.length = xs.size → n + m.length = ys.size →
    (∀ i, i < l.length → Tr G.S G.β (l.getD i .undef) (xs.getD (n + i) Go.undef)) → (∀ i, i < m.length → Tr G.S G.β (m.getD i .undef) (ys.getD (n + i) Go.undef)) → ∀ (w : World) (k : Nat), (Op.eqItems (k + 1) e (P.cellsOf e) xs ys (List.range' n l.length)).run P w = .ok r w := by
  have hc : P.cellsOf e = 1 := by
    obtain ⟨i, d, h1, h2, h3, h4⟩ := szOf_ne (P := P) (t := e) (by omega)
    omega
  intro l
  induction l with
  | nil =>
    intro m r n xs ys h _ _ _ _ w k
    cases m <;> simp only [sameA, reduceCtorEq, Option.some.injEq] at h
    subst h
    rfl
  | cons b l ih =>
    intro m r n xs ys h hx hy hl hm w k
    cases m with
    | nil => simp [sameA] at h
    | cons c m =>
      simp only [sameA] at h
      split at h
      · rename_i p q hp hq
        obtain rfl := Option.some.inj h
        have hb := hl 0 (by simp)
        have hc' := hm 0 (by simp)
        simp only [List.getD_cons_zero, Nat.add_zero] at hb hc'
        have hx0 : n < xs.size := by simp at hx; omega
        have hy0 : n < ys.size := by simp at hy; omega
        have e1 := part_scalar (P := P) (sameT_scalar hp) he hx0 w
        have e2 := part_scalar (P := P) (sameT_scalar hp) he hy0 w
        have e3 := sameT_run (P := P) hp hb hc' he w k
        have e4 := ih m q (n + 1) xs ys hq (by simp at hx; omega) (by simp at hy; omega) (fun i hi => by
          have := hl (i + 1) (by simpa using hi)
          rwa [List.getD_cons_succ, show n + (i + 1) = n + 1 + i by omega] at this) (fun i hi => by
          have := hm (i + 1) (by simpa using hi)
          rwa [List.getD_cons_succ, show n + (i + 1) = n + 1 + i by omega] at this) w k
        rw [hc] at e4
        simp only [List.length_cons, List.range'_succ, Op.eqItems, hc, Nat.mul_one, Sem.run_bind, e1, e2, e3, Result.andThen_ok]
        cases p
        · simp
        · simpa using e4
      · cases h
theorem eqV_run {t : TypeId} {x y : V} {r : Bool} {b c : Value} (h : eqV P t x y = some r) (hx : Tr G.S G.β x b) (hy : Tr G.S G.β y c) (w : World) : (Op.equal t b c).run P w = .ok r w := by
  unfold eqV at h
  unfold Op.equal
  show (Op.equalIn (9998 + 1 + 1) t b c).run P w = _
  split at h
  · rename_i fs hu
    split at h
    · rename_i hp
      split at h
      · rename_i l m
        obtain ⟨xs, rfl, hl, hxl⟩ := hx.agg_inv
        obtain ⟨ys, rfl, hm, hym⟩ := hy.agg_inv
        have hf : P.fieldsOf t = fs := by simp [Program.fieldsOf, hu]
        rw [run_equalIn_struct (P := P) w _ t xs ys (by rw [hf]; exact hu) hp, hf]
        exact sameF_run fs.toList 0 l m r xs ys h (by omega) (by omega) (fun i hi => by rw [Nat.zero_add]; exact hxl i hi) (fun i hi => by rw [Nat.zero_add]; exact hym i hi) w _
      · cases h
    · cases h
  · rename_i n e hu
    split at h
    · rename_i l m
      split at h
      · rename_i hc
        split at h
        · rename_i td he
          obtain ⟨xs, rfl, hl, hxl⟩ := hx.agg_inv
          obtain ⟨ys, rfl, hm, hym⟩ := hy.agg_inv
          obtain ⟨i, d, h1, h2, h3, h4⟩ := szOf_ne (P := P) (t := e) (by omega)
          rw [run_equalIn_array w _ xs ys hu h1, List.range_eq_range', ← hc.1]
          exact sameA_run he hc.2 l m r 0 xs ys h (by omega) (by omega) (fun i hi => by rw [Nat.zero_add]; exact hxl i hi) (fun i hi => by rw [Nat.zero_add]; exact hym i hi) w _
        · cases h
      · cases h
    · cases h
  · rename_i td _ _ hu
    exact sameT_run h hx hy hu w _
  · cases h
theorem binV_run {op : BinOp} {t : TypeId} {x y v : V} {b c : Value} {p q : Operand} (h : binV P t op x y = some v) (hx : Tr G.S G.β x b) (hy : Tr G.S G.β y c) (w : World) :
    ∃ z, (do eqGuard op t p q b c; binOp op t b c : Sem Value).run P w = .ok z w ∧ Tr G.S G.β v z ∧ v.view = v ∧ ∀ l, v ≠ .tup l := by
  unfold binV at h
  have hq : ∀ k m k' m', (eqGuard op t p q (.int k m) (.int k' m')).run P w = .ok () w := by
    intro k m k' m'
    unfold eqGuard
    by_cases ho : (op matches .eql | .neq) = true <;> simp [ho]
  split at h
  · rename_i k n k' m
    rw [hx.int_inv, hy.int_inv]
    simp only [Sem.run_bind, hq, Result.andThen_ok]
    split at h
    · exact shift_run (.inl rfl) t h w
    · exact shift_run (.inr rfl) t h w
    · rename_i h1 h2
      split at h
      · rename_i hk; subst hk
        exact arith_run ⟨h1, h2⟩ t h w
      · cases h
  · rename_i x y
    rw [hx.str_inv, hy.str_inv]
    have hq : (eqGuard op t p q (.string x) (.string y)).run P w = .ok () w := by
      unfold eqGuard
      by_cases ho : (op matches .eql | .neq) = true <;> simp [ho]
    simp only [Sem.run_bind, hq, Result.andThen_ok]
    exact str_run t h w
  · rename_i x y
    have hx' := hx
    have hy' := hy
    rw [hx.bool_inv] at hx' ⊢
    rw [hy.bool_inv] at hy' ⊢
    have hq : (eqGuard op t p q (.bool x) (.bool y)).run P w = .ok () w := by
      unfold eqGuard
      by_cases ho : (op matches .eql | .neq) = true <;> simp [ho]
    simp only [Sem.run_bind, hq, Result.andThen_ok]
    split at h
    · obtain ⟨r, hr, rfl⟩ := Option.map_eq_some_iff.1 h
      exact ⟨.bool r, by simp only [binOp, Sem.run_bind, eqV_run hr hx' hy' w, Result.andThen_ok, Sem.run_pure], Tr.bool _, rfl, fun l e => by cases e⟩
    · obtain ⟨r, hr, rfl⟩ := Option.map_eq_some_iff.1 h
      exact ⟨.bool (!r), by simp only [binOp, Sem.run_bind, eqV_run hr hx' hy' w, Result.andThen_ok, Sem.run_pure], Tr.bool _, rfl, fun l e => by cases e⟩
    · cases h
  · rename_i l m
    obtain ⟨xs, hb, hl, hxl⟩ := hx.agg_inv
    obtain ⟨ys, hc, hm, hym⟩ := hy.agg_inv
    subst hb; subst hc
    split at h
    · rename_i hg
      have hq : (eqGuard op t p q (.agg xs) (.agg ys)).run P w = .ok () w := by
        unfold eqGuard
        by_cases ho : (op matches .eql | .neq) = true <;> simp [ho, hg]
      simp only [Sem.run_bind, hq, Result.andThen_ok]
      split at h
      · obtain ⟨r, hr, rfl⟩ := Option.map_eq_some_iff.1 h
        exact ⟨.bool r, by simp only [binOp, Sem.run_bind, eqV_run hr hx hy w, Result.andThen_ok, Sem.run_pure], Tr.bool _, rfl, fun l e => by cases e⟩
      · obtain ⟨r, hr, rfl⟩ := Option.map_eq_some_iff.1 h
        exact ⟨.bool (!r), by simp only [binOp, Sem.run_bind, eqV_run hr hx hy w, Result.andThen_ok, Sem.run_pure], Tr.bool _, rfl, fun l e => by cases e⟩
      · cases h
    · cases h
  · cases h
theorem op_bin {op : BinOp} {t u : TypeId} {x y : Operand} {v : V} (h : Rel G s a w) (hv : binV P t op (s.see P t x) (s.see P t y) = some v) : OpOk P ⟨d, .binOp op t x y u, ty, pos, af, gd⟩ G s a w v s := by
  obtain ⟨z, h1, h2, h3, h4⟩ := binV_run (P := P) (p := x) (q := y) hv (h.see P t x) (h.see P t y) w
  exact OpOk.pure h (run_val h1) h2 h3 h4
theorem op_nilCmp {op : BinOp} {t u : TypeId} {x y : Operand} {v : V} (h : Rel G s a w) (hn : isNilc y = true) (hv : nilCmp P op t (s.see P t x) = some v) : OpOk P ⟨d, .binOp op t x y u, ty, pos, af, gd⟩ G s a w v s := by
  have hy : y = .const (.slice none 0 0) := by
    unfold isNilc at hn
    split at hn
    · rfl
    · cases hn
  subst hy
  have hx := h.see P t x
  generalize s.see P t x = xv at hv hx
  generalize hax : a.eval x = X at hx
  have hsl : ∃ b n cap, X = .slice (some b) n cap := by
    unfold nilCmp at hv
    split at hv
    · cases hx with
      | slc sz l b o cap c hc hs hS hT => exact ⟨_, _, _, rfl⟩
    · cases hx with
      | aref lv t n g cap hb hc => exact ⟨_, _, _, rfl⟩
    · cases hv
  obtain ⟨b, n, cap, rfl⟩ := hsl
  have hq : isSl P t = true ∧ ((op = .eql ∧ v = .bool false) ∨ (op = .neq ∧ v = .bool true)) := by
    unfold nilCmp at hv
    split at hv
    all_goals first
      | (cases hv; done)
      | (split at hv
         · rename_i hs
           refine ⟨hs, ?_⟩
           split at hv
           · exact .inl ⟨rfl, (Option.some.inj hv).symm⟩
           · exact .inr ⟨rfl, (Option.some.inj hv).symm⟩
           · cases hv
         · cases hv)
  obtain ⟨e, he⟩ : ∃ e, P.underlying t = some (.slice e) := by
    have := hq.1
    unfold isSl at this
    split at this
    · exact ⟨_, by assumption⟩
    · cases this
  have heq : (Op.equal t (.slice (some b) n cap) (.slice none 0 0)).run P w = .ok false w := by
    unfold Op.equal
    rw [show Op.maxDepth = 9999 + 1 from rfl]
    generalize 9999 = N
    rw [Op.equalIn]
    simp only [Sem.run_bind, run_underlying he, Result.andThen_ok, Sem.run_pure]
  have hev : a.eval (.const (.slice none 0 0)) = .slice none 0 0 := rfl
  rcases hq.2 with ⟨rfl, rfl⟩ | ⟨rfl, rfl⟩
  · refine OpOk.pure h (x := .bool false) (run_val ?_) (Tr.bool _) rfl (fun l e => by cases e)
    rw [hax, hev]
    simp only [eqGuard, Sem.run_bind, Bool.not_true, Bool.false_eq_true, if_false, Sem.run_pure, Result.andThen_ok, binOp, heq]
  · refine OpOk.pure h (x := .bool true) (run_val ?_) (Tr.bool _) rfl (fun l e => by cases e)
    rw [hax, hev]
    simp only [eqGuard, Sem.run_bind, Bool.not_true, Bool.false_eq_true, if_false, Sem.run_pure, Result.andThen_ok, binOp, heq]
    rfl
end Go.Ev
