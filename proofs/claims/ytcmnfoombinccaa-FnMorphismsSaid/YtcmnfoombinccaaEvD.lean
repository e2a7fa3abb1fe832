/- New memory: rows, variables. Trees out of values; literals, makes, appends. append. -/
import Derived.Laws.IdiomRangeMap
import Derived.Great.BuildSlice
import Derived.Laws.AppendOwn
import Derived.Laws.MakeOwn
import Derived.Test.YtcmnfoombinccaaEvC
set_option linter.unusedVariables false
set_option linter.unusedSimpArgs false
namespace Go.Ev
open Go
set_option linter.unusedVariables false
set_option linter.unusedSimpArgs false
variable {P : Program} {G : Gh} {s : St} {a : Act} {w : World} {o : Oper}
variable {d : Option Nat} {ty : TypeId} {pos : String} {af : Array Edge} {gd : Option (Nat × Bool)}

theorem imm_lt (h : Rel G s a w) {g j : Nat} {c : Value} (hS : G.S g j = some c) : g < w.heap.size := by
  have := h.imm _ _ _ hS
  unfold World.cell? at this
  split at this
  · rename_i hb
    exact (Array.getElem?_eq_some_iff.1 hb).1
  · cases this
theorem ω_new (h : Rel G s a w) : G.ω w.heap.size = none := by
  cases hω : G.ω w.heap.size with
  | none => rfl
  | some p => exact absurd (h.lim _ _ hω) (Nat.lt_irrefl _)
theorem S_new (h : Rel G s a w) (j : Nat) : G.S w.heap.size j = none := by
  cases hS : G.S w.heap.size j with
  | none => rfl
  | some p => exact absurd (imm_lt h hS) (Nat.lt_irrefl _)

theorem alloc_old (w : World) (o : Obj) {r : Nat} (h : r < w.heap.size) : (w.alloc o).heap[r]? = w.heap[r]? := by
  show (w.heap.push o)[r]? = w.heap[r]?
  rw [Array.getElem?_push, if_neg (Nat.ne_of_lt h)]
/-- a new row: its first n cells never change, the rest is the value's own -/
def Gh.row (G : Gh) (g n : Nat) (cs : Array Value) (p : Pl) : Gh where
  S := fun k j => if k = g then (if j < n then cs[j]? else none) else G.S k j
  β := G.β
  ω := upd G.ω g (some p)
theorem Rel.allocRow (h : Rel G s a w) (n : Nat) (cs : Array Value) (e : TypeId) (p : Pl) :
    Rel (G.row w.heap.size n cs p) s a (w.alloc (.cells cs e)) ∧ Le G (G.row w.heap.size n cs p) ∧ Fr s.lv G w (G.row w.heap.size n cs p) (w.alloc (.cells cs e)) ∧
    (∀ k q, G.ω k = some q → (w.alloc (.cells cs e)).heap[k]? = w.heap[k]? ∧ (∀ j, (G.row w.heap.size n cs p).S k j = G.S k j) ∧ (G.row w.heap.size n cs p).ω k = some q) := by
  have hle : Le G (G.row w.heap.size n cs p) := ⟨fun g j c hc => by
    show (if g = w.heap.size then _ else _) = _
    rw [if_neg (Nat.ne_of_lt (imm_lt h hc))]; exact hc, fun _ _ _ hb => hb⟩
  have hs : ∀ k q, G.ω k = some q → (w.alloc (.cells cs e)).heap[k]? = w.heap[k]? ∧ (∀ j, (G.row w.heap.size n cs p).S k j = G.S k j) ∧ (G.row w.heap.size n cs p).ω k = some q := by
    intro k q hk
    have hlt := h.lim _ _ hk
    refine ⟨alloc_old w _ hlt, fun j => ?_, ?_⟩
    · show (if k = w.heap.size then _ else _) = _
      rw [if_neg (Nat.ne_of_lt hlt)]
    · show (if k = w.heap.size then _ else _) = _
      rw [if_neg (Nat.ne_of_lt hlt)]; exact hk
  refine ⟨h.grow hle rfl (fun g p _ => hs g p) (fun g j c hc => ?_) (fun g q hq => ?_), hle, ⟨rfl, rfl, rfl, by simp, fun g hg hm => ⟨alloc_old w _ hg, ?_, fun j => ?_⟩, hle.S, fun _ _ _ => rfl⟩, hs⟩
  · have hc' : (if g = w.heap.size then (if j < n then cs[j]? else none) else G.S g j) = some c := hc
    split at hc'
    · rename_i hg
      subst hg
      split at hc'
      · simp only [World.cell?, heap_alloc_new]; exact hc'
      · cases hc'
    · rw [World.cell?_alloc_lt w _ _ (imm_lt h hc')]
      exact h.imm _ _ _ hc'
  · have hq' : (if g = w.heap.size then some p else G.ω g) = some q := hq
    split at hq'
    · rename_i hg; subst hg; simp
    · have := h.lim _ _ hq'; simp; omega
  · show (if g = w.heap.size then _ else _) = _
    rw [if_neg (Nat.ne_of_lt hg)]
  · show (if g = w.heap.size then _ else _) = _
    rw [if_neg (Nat.ne_of_lt hg)]

/-- a list of elements laid out, cell by cell -/
def Laid (G : Gh) (sz : Nat) (l : List V) (cs : Array Value) : Prop := l.length * sz ≤ cs.size ∧ (∀ x ∈ l, x.flat.length = sz ∧ x.flat.all pureC = true) ∧ ∀ i j, i < l.length → j < sz → Tr G.S G.β ((l.getD i .undef).flat.getD j .undef) (cs.getD (i * sz + j) Go.undef)
theorem Laid.mono {G' : Gh} {sz : Nat} {l : List V} {cs : Array Value} (h : Laid G sz l cs) (hle : Le G G') : Laid G' sz l cs := ⟨h.1, h.2.1, fun i j hi hj => hle.tr (h.2.2 i j hi hj)⟩
theorem cell_lt {i j sz n : Nat} (hi : i < n) (hj : j < sz) : i * sz + j < n * sz := by
  calc i * sz + j < i * sz + sz := by omega
    _ = (i + 1) * sz := by rw [Nat.succ_mul]
    _ ≤ n * sz := Nat.mul_le_mul_right _ hi
/-- a new row of elements, as a value of its own -/
theorem Rel.newRow (h : Rel G s a w) {sz cap : Nat} {l : List V} {cs : Array Value} (hl : Laid G sz l cs) (hcap : cs.size = cap * sz) (hc : l.length ≤ cap) (e : TypeId) :
    ∃ G', Rel G' s a (w.alloc (.cells cs e)) ∧ OwnS G' (w.alloc (.cells cs e)) Pl.rs (.slc true sz l) (.slice (some ⟨w.heap.size, 0, none⟩) l.length cap) ∧ Fr s.lv G w G' (w.alloc (.cells cs e)) := by
  obtain ⟨h1, h2, h3, _⟩ := h.allocRow (l.length * sz) cs e (.rs 0 0)
  refine ⟨_, h1, ⟨Tr.slc sz l _ 0 cap (fun i j => cs.getD (i * sz + j) Go.undef) hc hl.2.1 (fun i j hi hj => ?_) (fun i j hi hj => h2.tr (hl.2.2 i j hi hj)), _, cap, rfl, .inr ⟨w.heap.size, cs, e, rfl, ?_, heap_alloc_new _ _, hcap, fun j hj => ?_⟩⟩, h3⟩
  · show (if w.heap.size = w.heap.size then _ else _) = _
    have h5 := cell_lt hi hj
    have h6 : i * sz + j < cs.size := Nat.lt_of_lt_of_le h5 hl.1
    rw [if_pos rfl, Nat.zero_add, if_pos h5, Array.getElem?_eq_getElem h6, getD_array_of h6]
  · show (if w.heap.size = w.heap.size then _ else _) = _
    rw [if_pos rfl]
  · show (if w.heap.size = w.heap.size then _ else _) = _
    rw [if_pos rfl, if_neg (by omega)]

/-- a new object -/
def Gh.obj (G : Gh) (lv t g : Nat) : Gh where
  S := G.S
  β := fun l u => if l = lv ∧ u = t then some g else G.β l u
  ω := upd G.ω g (some (.ob lv t))
theorem β_none (h : Rel G s a w) {lv t : Nat} (ho : s.ob lv t = none) : G.β lv t = none := by
  cases hb : G.β lv t with
  | none => rfl
  | some g => obtain ⟨ob, hob⟩ := h.dom _ _ _ hb; rw [ho] at hob; cases hob
theorem ob_b (t : Nat) : s.ob s.lv t = s.b t := by simp [St.ob, obIn, St.lv]
theorem ob_upd (dd : Nat) (ob : Ob) (lv t : Nat) : ({ s with b := upd s.b dd (some ob) } : St).ob lv t = if lv = s.lv ∧ t = dd then some ob else s.ob lv t := by
  simp only [St.ob, obIn, St.lv]
  by_cases h1 : lv = s.o.length
  · simp only [h1, if_true, true_and, upd]
  · simp [h1]
theorem Rel.allocOb (h : Rel G s a w) {dd : Nat} (hd : s.b dd = none) (o : Obj) (ob : Ob) (hnew : ∀ w', w' = w.alloc o → Le G (G.obj s.lv dd w.heap.size) → (∀ k q, G.ω k = some q → w'.heap[k]? = w.heap[k]? ∧ (∀ j, (G.obj s.lv dd w.heap.size).S k j = G.S k j) ∧ (G.obj s.lv dd w.heap.size).ω k = some q) →
      (∀ j, (G.obj s.lv dd w.heap.size).S w.heap.size j = none) → ObR (G.obj s.lv dd w.heap.size) w' s.lv dd w.heap.size ob) :
    Rel (G.obj s.lv dd w.heap.size) { s with b := upd s.b dd (some ob) } a (w.alloc o) ∧ Fr s.lv G w (G.obj s.lv dd w.heap.size) (w.alloc o) ∧ (G.obj s.lv dd w.heap.size).β s.lv dd = some w.heap.size := by
  have hβ := β_none h (lv := s.lv) (t := dd) (by rw [ob_b]; exact hd)
  have hle : Le G (G.obj s.lv dd w.heap.size) := ⟨fun _ _ _ hc => hc, fun l u g hg => by
    show (if l = s.lv ∧ u = dd then _ else _) = _
    rw [if_neg (by rintro ⟨rfl, rfl⟩; rw [hβ] at hg; cases hg)]; exact hg⟩
  have hs : ∀ k q, G.ω k = some q → (w.alloc o).heap[k]? = w.heap[k]? ∧ (∀ j, (G.obj s.lv dd w.heap.size).S k j = G.S k j) ∧ (G.obj s.lv dd w.heap.size).ω k = some q := by
    intro k q hk
    have hlt := h.lim _ _ hk
    refine ⟨alloc_old w _ hlt, fun j => rfl, ?_⟩
    show (if k = w.heap.size then _ else _) = _
    rw [if_neg (Nat.ne_of_lt hlt)]; exact hk
  refine ⟨⟨h.size, h.defers, fun t => (h.slot t).mono hle fun c j k hk => hs k _ hk, fun lv t ob' hob => ?_, fun lv t g hg => ?_, fun g j c hc => ?_, fun g q hq => ?_⟩, ⟨rfl, rfl, rfl, by simp, fun g hg hm => ⟨alloc_old w _ hg, ?_, fun j => rfl⟩, fun _ _ _ hc => hc, fun l t hl => ?_⟩, ?_⟩
  · rw [ob_upd] at hob
    split at hob
    · rename_i he
      obtain ⟨rfl, rfl⟩ := he
      obtain rfl := Option.some.inj hob
      refine ⟨w.heap.size, ?_, ?_, hnew _ rfl hle hs (fun j => S_new h j)⟩
      · show (if _ ∧ _ then _ else _) = _; rw [if_pos ⟨rfl, rfl⟩]
      · show (if _ = _ then _ else _) = _; rw [if_pos rfl]
    · obtain ⟨g, h1, h2, h3⟩ := h.obj lv t ob' hob
      obtain ⟨k1, k2, k3⟩ := hs g _ h2
      exact ⟨g, hle.β _ _ _ h1, k3, h3.mono hle ⟨k1, k2⟩ fun j k hk => hs k _ hk⟩
  · rw [ob_upd]
    split
    · exact ⟨_, rfl⟩
    · rename_i hne
      have hg' : (if lv = s.lv ∧ t = dd then some w.heap.size else G.β lv t) = some g := hg
      rw [if_neg hne] at hg'
      exact h.dom _ _ _ hg'
  · have hlt := imm_lt h hc
    rw [World.cell?_alloc_lt w _ _ hlt]
    exact h.imm _ _ _ hc
  · have hq' : (if g = w.heap.size then some (Pl.ob s.lv dd) else G.ω g) = some q := hq
    split at hq'
    · rename_i hg; subst hg; simp
    · have := h.lim _ _ hq'; simp; omega
  · show (if g = w.heap.size then _ else _) = _
    rw [if_neg (Nat.ne_of_lt hg)]
  · show (if l = s.lv ∧ t = dd then _ else _) = _
    rw [if_neg (fun e => absurd e.1 (Nat.ne_of_lt hl))]
  · show (if _ ∧ _ then _ else _) = _
    rw [if_pos ⟨rfl, rfl⟩]

/-! zero values -/
theorem agree_tr {v : V} {x : Value} (h : agree v x = true) (p : Pl) {G : Gh} {w : World} : OwnC G w p v x := by
  unfold agree at h
  split at h
  · simp only [beq_iff_eq] at h; subst h; exact Tr.bool _
  · simp only [Bool.and_eq_true, beq_iff_eq] at h; obtain ⟨rfl, rfl⟩ := h; exact Tr.int _ _
  · simp only [Bool.and_eq_true, Array.isEmpty_iff] at h
    rename_i b c
    have : b = c := by cases b; cases c; simp only at h; rw [h.1, h.2]
    subst this
    exact Tr.str _
  · exact ⟨Tr.slc0 _ _ _, none, 0, rfl, .inl rfl⟩
  · exact Tr.nilp
  · exact Tr.nilfn
  · cases h
theorem agrees_spec : ∀ (l : List V) (m : List Value), agrees l m = true → l.length = m.length ∧ ∀ j, j < l.length → agree (l.getD j .undef) (m.getD j Go.undef) = true := by
  intro l
  induction l with
  | nil => intro m h; cases m <;> simp [agrees] at h ⊢
  | cons v l ih =>
    intro m h
    cases m with
    | nil => simp [agrees] at h
    | cons x m =>
      simp only [agrees, Bool.and_eq_true] at h
      obtain ⟨h1, h2⟩ := ih m h.2
      refine ⟨by simp [h1], fun j hj => ?_⟩
      cases j with
      | zero => exact h.1
      | succ j => exact h2 j (by simpa using hj)
theorem zero_spec {t : TypeId} {l : List V} (h : zero P t = some l) : ∃ z, (∀ w : World, (zeroValue t).run P w = .ok z w) ∧ l.length = z.cells.size ∧ (∀ j, j < l.length → agree (l.getD j .undef) (z.cells.getD j Go.undef) = true) ∧ (isAgg P t = true → ∃ cs, z = .agg cs) ∧ (isAgg P t = false → z.cells = #[z]) := by
  unfold zero at h
  cases hi : P.info? t with
  | none => simp [hi] at h
  | some i =>
    cases hz : i.zero with
    | none => simp [hi, hz] at h
    | some z =>
      simp only [hi, Option.bind_some, hz] at h
      split at h
      · rename_i ha
        rw [Bool.and_eq_true] at ha
        obtain ⟨ha, hb⟩ := ha
        obtain rfl := Option.some.inj h
        obtain ⟨h1, h2⟩ := agrees_spec _ _ ha
        refine ⟨z, fun w => ?_, by simpa using h1, fun j hj => ?_, fun h3 => ?_, fun h3 => ?_⟩
        · simp only [zeroValue, Sem.run_bind, typeInfo, run_program, Result.andThen_ok, hi, Sem.run_pure, hz]
        · have := h2 j hj
          simpa [List.getD_eq_getElem?_getD, Array.getD_eq_getD_getElem?] using this
        · rw [h3] at hb
          cases z <;> first | exact ⟨_, rfl⟩ | cases hb
        · rw [h3] at hb
          cases z <;> first | rfl | cases hb
      · cases h
theorem op_alloc {dd : Nat} {e : TypeId} {z : List V} (h : Rel G s a w) (hd : s.b dd = none) (hz : zero P e = some z) :
    OpOk P ⟨d, .alloc e, ty, pos, af, gd⟩ G s a w (.ptr s.lv dd 0) { s with b := upd s.b dd (some (.box z)) } := by
  obtain ⟨zv, h1, h2, h3, _⟩ := zero_spec hz
  obtain ⟨k1, k2, k3⟩ := h.allocOb hd (.cells zv.cells e) (.box z) (fun w' hw' hle hs hS => ⟨zv.cells, e, by rw [hw']; exact heap_alloc_new _ _, Nat.le_of_eq h2, hS, fun j hj => agree_tr (h3 j hj) _⟩)
  refine ⟨.pointer (some ⟨w.heap.size, 0, none⟩), _, _, ?_, k1, OwnS.of_tr' (Tr.ptr _ _ _ _ k3), k2⟩
  simp only [execOp]
  refine run_val ?_
  simp [Instr.alloc, h1, newVar, Go.newRow]
theorem op_makeMap {dd : Nat} {t : TypeId} (h : Rel G s a w) (hd : s.b dd = none) :
    OpOk P ⟨d, .makeMap t none, ty, pos, af, gd⟩ G s a w (.mp s.lv dd) { s with b := upd s.b dd (some (.map [])) } := by
  obtain ⟨k1, k2, k3⟩ := h.allocOb hd (.map #[] 0) (.map []) (fun w' hw' hle hs hS => ⟨#[], 0, by rw [hw']; exact heap_alloc_new _ _, rfl, hS, (fun x hx => by cases hx), fun j hj => by cases hj⟩)
  refine ⟨.map (some w.heap.size), _, _, ?_, k1, OwnS.of_tr' (Tr.mp _ _ _ k3), k2⟩
  simp only [execOp]
  refine run_val ?_
  simp [Instr.makeMap]
/-- an operand, all of it, handed over -/
theorem Rel.all (h : Rel G s a w) (P : Program) (ty : TypeId) (x : Operand) :
    ∃ G', Rel G' (s.drop x) a w ∧ OwnS G' w Pl.rs (s.all P ty x) (a.eval x) ∧ Fr s.lv G w G' w ∧ (∀ c j g, G.ω g = some (.rs c j) → G'.ω g = some (.rs c j)) ∧ G'.S = G.S ∧ G'.β = G.β := by
  cases x with
  | tmp i => exact h.take i
  | const v => exact ⟨G, h, rd_own (P := P) (s := s) Pl.rs ty (.const v) (fun i e => by cases e), Fr.refl _ _ _, fun _ _ _ e => e, rfl, rfl⟩
  | func f => exact ⟨G, h, rd_own (P := P) (s := s) Pl.rs ty (.func f) (fun i e => by cases e), Fr.refl _ _ _, fun _ _ _ e => e, rfl, rfl⟩
  | global g => exact ⟨G, h, rd_own (P := P) (s := s) Pl.rs ty (.global g) (fun i e => by cases e), Fr.refl _ _ _, fun _ _ _ e => e, rfl, rfl⟩
theorem cells_one {v : V} {x : Value} {S : Nat → Nat → Option Value} {β : Nat → Nat → Option Nat} (h : Tr S β v x) (hu : v ≠ .undef) (ha : ∀ l, v ≠ .agg l) : x.cells = #[x] ∧ x.oneCell' = true := by
  cases h <;> first | exact ⟨rfl, rfl⟩ | exact absurd rfl hu | exact absurd rfl (ha _)
theorem OwnC.one {p : Pl} {v : V} {x : Value} (h : OwnC G w p v x) (hv : cellOk v = true) : x.cells = #[x] ∧ x.oneCell' = true := by
  by_cases hq : ∃ sz l, v = .uq sz l
  · obtain ⟨sz, l, rfl⟩ := hq
    obtain ⟨a, cap, rfl, _⟩ := OwnU.inv (h : OwnU G w p sz l x)
    exact ⟨rfl, rfl⟩
  have h1 := h.view
  refine cells_one h1 ?_ ?_
  · cases v <;> first | exact absurd ⟨_, _, rfl⟩ hq | (intro e; cases e; done) | cases hv
  · intro l; cases v <;> first | (intro e; cases e; done) | cases hv
theorem OwnV.cells {p : Nat → Pl} {v : V} {x : Value} (h : OwnV G w p v x) (hu : v ≠ .undef) (ht : ∀ l, v ≠ .tup l) : v.flat.length = x.cells.size ∧ ∀ j, j < v.flat.length → OwnC G w (p j) (v.flat.getD j .undef) (x.cells.getD j Go.undef) := by
  rcases flat_agg_or v with ⟨l, rfl⟩ | ⟨hna, hf⟩
  · obtain ⟨cs, rfl, hl, hc⟩ := h
    exact ⟨hl, hc⟩
  · have h1 : OwnC G w (p 0) v x := by
      cases v
      case agg l => exact absurd rfl (hna l)
      all_goals exact h
    have h2 : x.cells = #[x] := by
      by_cases hq : ∃ sz l, v = .uq sz l
      · obtain ⟨sz, l, rfl⟩ := hq
        obtain ⟨a, cap, rfl, _⟩ := OwnU.inv (h1 : OwnU G w (p 0) sz l x)
        rfl
      by_cases hn : ∃ l, v = .nw l
      · obtain ⟨l, rfl⟩ := hn
        obtain ⟨g, cs, ty, rfl, _⟩ := (h1 : OwnN G w (p 0) l x)
        rfl
      refine (cells_one h1.view ?_ ?_).1
      · cases v <;> first | exact absurd ⟨_, _, rfl⟩ hq | exact absurd ⟨_, rfl⟩ hn | (intro e; cases e; done) | exact absurd rfl hu
      · intro l e
        cases v
        case agg m => exact hna m rfl
        all_goals cases e
    rw [hf, h2]
    refine ⟨rfl, fun j hj => ?_⟩
    obtain rfl : j = 0 := by simpa using hj
    exact h1
theorem OwnS.toV {p : Nat → Nat → Pl} {v : V} {x : Value} (h : OwnS G w p v x) (ht : ∀ l, v ≠ .tup l) : OwnV G w (p 0) v x := by
  cases v
  case tup l => exact absurd rfl (ht l)
  all_goals exact h
def boxF (lv d off : Nat) : Pl → Pl
  | .rs 0 j => .cl lv d (off + j)
  | p => p
theorem op_box {dd : Nat} {e : TypeId} {x : Operand} {v : V} (h : Rel G s a w) (hd : s.b dd = none) (hv : s.all P e x = v) (hu : v ≠ .undef) (ht : ∀ l, v ≠ .tup l) :
    OpOk P ⟨d, .box e x, ty, pos, af, gd⟩ G s a w (.ptr s.lv dd 0) { s.drop x with b := upd s.b dd (some (.box v.flat)) } := by
  obtain ⟨G1, h1, h2, h3, _, _, _⟩ := h.all P e x
  rw [hv] at h2
  have hlv : (s.drop x).lv = s.lv := by cases x <;> rfl
  have hb : (s.drop x).b = s.b := by cases x <;> rfl
  obtain ⟨hc1, hc2⟩ := (h2.toV ht).cells hu ht
  -- what comes with the value is the variable's now
  have h4 : Rel (G1.ren (boxF s.lv dd 0)) (s.drop x) a w := by
    refine ⟨h1.size, h1.defers, fun t => (h1.slot t).ren _ fun c j => rfl, fun lv t ob hob => ?_, h1.dom, h1.imm, ren_lim h1.lim⟩
    obtain ⟨g, k1, k2, k3⟩ := h1.obj lv t ob hob
    exact ⟨g, k1, by rw [ren_ω k2]; rfl, k3.ren _ fun j => rfl⟩
  have h5 : Fr s.lv G w (G1.ren (boxF s.lv dd 0)) w := h3.trans (ren_fr fun p => by
    cases p with
    | rs c j => exact .inr trivial
    | _ => exact .inl rfl)
  obtain ⟨k1, k2, k3⟩ := h4.allocOb (dd := dd) (by rw [hb]; exact hd) (.cells (a.eval x).cells e) (.box v.flat) (fun w' hw' hle hs hS => ⟨(a.eval x).cells, e, by rw [hw']; exact heap_alloc_new _ _, Nat.le_of_eq hc1, hS, fun j hj => by
    refine ((hc2 j hj).ren (boxF s.lv dd 0) (p' := .cl s.lv dd j) (by simp [boxF])).mono hle fun g hg => ?_
    obtain ⟨e1, e2, e3⟩ := hs g _ hg
    exact ⟨e1, e2, by rw [hlv]; rw [hlv] at e3; exact e3⟩⟩)
  rw [hlv] at k1 k2 k3
  refine ⟨.pointer (some ⟨w.heap.size, 0, none⟩), _, _, ?_, by rw [hb] at k1; exact k1, OwnS.of_tr' (Tr.ptr _ _ _ _ k3), h5.trans k2⟩
  simp only [execOp]
  refine run_val ?_
  simp [Instr.box, newVar, Go.newRow]
end Go.Ev
namespace Go.Ev
open Go
set_option linter.unusedVariables false
set_option linter.unusedSimpArgs false
variable {P : Program} {G : Gh} {s : St} {a : Act} {w : World} {o : Oper}
variable {d : Option Nat} {ty : TypeId} {pos : String} {af : Array Edge} {gd : Option (Nat × Bool)}

def Gh.ice (G : Gh) (g n : Nat) (cs : Array Value) : Gh := { G with S := fun k j => if k = g ∧ j < n then cs[j]? else G.S k j }
/-- a state told anew: the tmps as they were, nothing of its own turned -/
structure Still (G : Gh) (s : St) (w : World) (G' : Gh) (s' : St) : Prop where
  fr : Fr s.lv G w G' w
  le : Le G G'
  ω : G'.ω = G.ω
  lv : s'.lv = s.lv
  t : s'.t = s.t
  n : s'.n = s.n
  own : ∀ k c j, G.ω k = some (.rs c j) → ∀ i, G'.S k i = G.S k i
theorem Still.refl : Still G s w G s := ⟨Fr.refl _ _ _, Le.refl _, rfl, rfl, rfl, rfl, fun _ _ _ _ _ => rfl⟩
theorem Still.trans {G1 G2 : Gh} {s1 s2 : St} (h : Still G s w G1 s1) (k : Still G1 s1 w G2 s2) : Still G s w G2 s2 :=
  ⟨h.fr.trans (by have := k.fr; rw [h.lv] at this; exact this), ⟨fun g j c e => k.le.S _ _ _ (h.le.S _ _ _ e), fun l t g e => k.le.β _ _ _ (h.le.β _ _ _ e)⟩, k.ω.trans h.ω, k.lv.trans h.lv, k.t.trans h.t, k.n.trans h.n,
    fun g c j e i => (k.own g c j (by rw [h.ω]; exact e) i).trans (h.own g c j e i)⟩
theorem Rel.frz (h : Rel G s a w) (v : V) : ∃ G', Rel G' (s.frz v) a w ∧ Still G s w G' (s.frz v) := by
  unfold St.frz
  split
  · rename_i lv t n
    split
    · rename_i sz l ho
      obtain ⟨g, hg, hω, en, ety, hb, hl, hs, hT, hS⟩ := h.obj lv t _ ho
      have hS' : ∀ j, G.S g j = none := hS
      have hle : Le G (G.ice g (l.length * sz) en) := ⟨fun k j c hc => by
        show (if k = g ∧ j < _ then _ else _) = _
        rw [if_neg (by rintro ⟨rfl, _⟩; rw [hS' j] at hc; cases hc)]; exact hc, fun _ _ _ e => e⟩
      have hoth : ∀ k, k ≠ g → ∀ j, (G.ice g (l.length * sz) en).S k j = G.S k j := fun k hk j => by
        show (if k = g ∧ j < _ then _ else _) = _
        rw [if_neg (fun e => hk e.1)]
      refine ⟨G.ice g (l.length * sz) en, h.setOb ho hg hω hle rfl (fun k p hk _ _ hpk => ⟨rfl, hoth k hk, hpk⟩) (fun k j c hc => ?_) h.lim hω ⟨en, ety, hb, hl, hs, fun i j hi hj => hle.tr (hT i j hi hj), ?_⟩,
        ⟨⟨rfl, rfl, rfl, Nat.le_refl _, fun k hk hm => ⟨rfl, rfl, hoth k (by rintro rfl; exact hm _ hω trivial)⟩, hle.S, fun _ _ _ => rfl⟩, hle, rfl, setOb_lv _ _ _, setOb_t _ _ _, setOb_n _ _ _, fun k c j e => hoth k (by rintro rfl; rw [hω] at e; cases e)⟩⟩
      · have hc' : (if k = g ∧ j < l.length * sz then en[j]? else G.S k j) = some c := hc
        split at hc'
        · rename_i hk; obtain ⟨rfl, _⟩ := hk; simp only [World.cell?, hb]; exact hc'
        · exact h.imm _ _ _ hc'
      · show ∀ j, j < l.length * sz → (if g = g ∧ j < l.length * sz then en[j]? else G.S g j) = some (en.getD j Go.undef)
        intro j hj
        rw [if_pos ⟨rfl, hj⟩, Array.getElem?_eq_getElem (by omega), getD_array_of (by omega)]
    · exact ⟨G, h, Still.refl⟩
  · exact ⟨G, h, Still.refl⟩
theorem Tr.vview {S β} {v : V} {x : Value} (h : Tr S β v x) : Tr S β v.view x := by
  have : v.view = v := by
    cases v
    case agg l =>
      obtain ⟨cs, _, hl, hT⟩ := h.agg_inv
      simp only [V.view, V.agg.injEq]
      refine List.ext_getElem (by simp) fun i h1 h2 => ?_
      have h3 := hT i h2
      simp only [List.getD_eq_getElem?_getD, List.getElem?_eq_getElem h2, Option.getD_some] at h3
      rw [List.getElem_map]
      generalize l[i] = y at h3
      cases y <;> try rfl
      · rename_i own sz m
        cases own
        · rfl
        · cases h3
      · cases h3
      · cases h3
    case uq => cases h
    case nw => cases h
    case slc own sz l =>
      cases own
      · rfl
      · cases h
    case tup l => cases h
    all_goals rfl
  rw [this]; exact h
theorem tree_tr (h : Rel G s a w) {v u : V} {x : Value} (hv : Tr G.S G.β v x) (ht : tree s v = some u) : Tr G.S G.β u x ∧ u.flat.all pureC = true ∧ u ≠ .undef ∧ ∀ l, u ≠ .tup l := by
  unfold tree at ht
  split at ht
  · rename_i lv t n
    split at ht
    · rename_i sz l ho
      split at ht
      · rename_i hn
        obtain rfl := Option.some.inj ht
        obtain ⟨g, hg, hω, en, ety, hb, hl, hs, hT, hS⟩ := h.obj lv t _ ho
        obtain ⟨g', cap, hg', hc, hx⟩ := hv.aref_inv
        obtain rfl : g' = g := by rw [hg] at hg'; exact (Option.some.inj hg').symm
        subst hn
        have hS' : ∀ j, j < l.length * sz → G.S g' j = some (en.getD j Go.undef) := hS
        refine ⟨?_, rfl, (by intro e; cases e), fun l e => by cases e⟩
        rw [hx]
        exact Tr.slc sz l g' 0 cap (fun i j => en.getD (i * sz + j) Go.undef) hc hs (fun i j hi hj => by rw [Nat.zero_add]; exact hS' _ (cell_lt hi hj)) hT
      · cases ht
    · cases ht
  · rename_i l
    split at ht
    · rename_i hp
      obtain rfl := Option.some.inj ht
      exact ⟨hv.vview, hp, (by intro e; cases e), fun l e => by cases e⟩
    · cases ht
  · rename_i hna hng
    split at ht
    · rename_i hp
      obtain rfl := Option.some.inj ht
      have hview : v.view = v.viewC := by
        cases v <;> first | rfl | (cases hv; done) | exact absurd rfl (hng _)
      have hfl : v.viewC.flat = [v.viewC] := by
        cases v <;> first | rfl | exact absurd rfl (hng _)
      refine ⟨hview ▸ hv.vview, by rw [hfl]; simpa using hp, ?_, fun l e => ?_⟩
      · intro e; rw [e] at hp; cases hp
      · rw [e] at hp; cases hp
    · cases ht
theorem Rel.tree (h : Rel G s a w) {ty : TypeId} {x : Operand} {v : V} {s1 : St} (ht : s.tree P ty x = some (v, s1)) : ∃ G', Rel G' s1 a w ∧ Still G s w G' s1 ∧ Tr G'.S G'.β v (a.eval x) ∧ v.flat.all pureC = true ∧ v ≠ .undef ∧ ∀ l, v ≠ .tup l := by
  unfold St.tree at ht
  obtain ⟨u, hu, he⟩ := Option.map_eq_some_iff.1 ht
  obtain ⟨rfl, rfl⟩ := Prod.mk.inj he
  obtain ⟨G', h1, h2⟩ := h.frz (s.see P ty x)
  obtain ⟨k1, k2, k3, k4⟩ := tree_tr h1 (h2.le.tr (h.see P ty x)) hu
  exact ⟨G', h1, h2, k1, k2, k3, k4⟩
theorem Rel.trees (P : Program) : ∀ (xs : List (TypeId × Operand)) {G : Gh} {s s1 : St} {vs : List V}, Rel G s a w → St.trees P s xs = some (vs, s1) →
    ∃ G', Rel G' s1 a w ∧ Still G s w G' s1 ∧ vs.length = xs.length ∧ ∀ i, i < vs.length → Tr G'.S G'.β (vs.getD i .undef) ((xs.map fun x => a.eval x.2).getD i Go.undef) ∧ (vs.getD i .undef).flat.all pureC = true ∧ vs.getD i .undef ≠ .undef ∧ ∀ l, vs.getD i .undef ≠ .tup l := by
  intro xs
  induction xs with
  | nil =>
    intro G s s1 vs h ht
    simp only [St.trees, Option.some.injEq, Prod.mk.injEq] at ht
    obtain ⟨rfl, rfl⟩ := ht
    exact ⟨G, h, Still.refl, rfl, fun i hi => absurd hi (Nat.not_lt_zero _)⟩
  | cons x xs ih =>
    intro G s s1 vs h ht
    obtain ⟨ty, x⟩ := x
    simp only [St.trees] at ht
    split at ht
    · rename_i v s2 hv
      split at ht
      · rename_i vs' s3 hvs
        simp only [Option.some.injEq, Prod.mk.injEq] at ht
        obtain ⟨rfl, rfl⟩ := ht
        obtain ⟨G1, h1, h2, h3, h4, h5, h6⟩ := h.tree hv
        obtain ⟨G2, k1, k2, k3, k4⟩ := ih h1 hvs
        refine ⟨G2, k1, h2.trans k2, by simp [k3], fun i hi => ?_⟩
        cases i with
        | zero => exact ⟨k2.le.tr h3, h4, h5, h6⟩
        | succ i => exact k4 i (by simpa using hi)
      · cases ht
    · cases ht
/-! ### literals -/
theorem Tr.viewC_eq {S β} {v : V} {x : Value} (h : Tr S β v x) : v.viewC = v := by
  cases v <;> try rfl
  · rename_i own sz m
    cases own
    · rfl
    · cases h
  · cases h
  · cases h
theorem tr_cells {v : V} {x : Value} (h : Tr G.S G.β v x) (hu : v ≠ .undef) : v.flat.length = x.cells.size ∧ ∀ j, j < v.flat.length → Tr G.S G.β (v.flat.getD j .undef) (x.cells.getD j Go.undef) := by
  have ht : ∀ l, v ≠ .tup l := by rintro l rfl; cases h
  obtain ⟨h1, h2⟩ := (OwnV.of_tr' (w := default) (p := fun _ => .rs 0 0) h).cells hu ht
  refine ⟨h1, fun j hj => ?_⟩
  have h3 := h2 j hj
  have h4 : v.flat.getD j .undef = (v.flat.getD j .undef).viewC := by
    rcases flat_agg_or v with ⟨l, rfl⟩ | ⟨hna, hf⟩
    · obtain ⟨cs, _, hl, hT⟩ := h.agg_inv
      exact (hT j hj).viewC_eq.symm
    · rw [hf]
      have : j = 0 := by rw [hf] at hj; simpa using hj
      subst this
      exact h.viewC_eq.symm
  rw [h4]
  exact h3.view
theorem inOrder_zip (f : Operand → Value) : ∀ (l : List (Nat × Operand)) (k : Nat), inOrder k l = true → l.map (fun p => (p.1, f p.2)) = ((l.map fun p => f p.2).zipIdx k).map fun x => (x.2, x.1) := by
  intro l
  induction l with
  | nil => intro k _; rfl
  | cons p l ih =>
    intro k h
    simp only [inOrder] at h
    split at h
    · rename_i hp
      simp only [List.map_cons, List.zipIdx_cons]
      rw [ih (k + 1) h, hp]
    · cases h
/-- trees side by side -/
theorem laid_of {sz : Nat} (hz : 0 < sz) {vs : List V} {xs : List Value} (hl : vs.length = xs.length) (hT : ∀ i, i < vs.length → Tr G.S G.β (vs.getD i .undef) (xs.getD i Go.undef) ∧ (vs.getD i .undef).flat.all pureC = true ∧ vs.getD i .undef ≠ .undef)
    (hf : ∀ v ∈ vs, v.flat.length = sz) : Laid G sz vs (xs.flatMap fun v => v.cells.toList).toArray ∧ (∀ x ∈ xs, x.cells.size = sz) ∧ (xs.flatMap fun v => v.cells.toList).length = vs.length * sz := by
  have hsz : ∀ x ∈ xs, x.cells.size = sz := by
    intro x hx
    obtain ⟨i, hi, rfl⟩ := List.getElem_of_mem hx
    obtain ⟨h1, h2, h3⟩ := hT i (by omega)
    have h4 := (tr_cells h1 h3).1
    rw [List.getD_eq_getElem?_getD, List.getElem?_eq_getElem (by omega), Option.getD_some] at h4
    rw [List.getD_eq_getElem?_getD, List.getElem?_eq_getElem hi, Option.getD_some] at h4
    rw [← h4]
    exact hf _ (List.getElem_mem _)
  have hlen : ∀ (ys : List Value), (∀ x ∈ ys, x.cells.size = sz) → (ys.flatMap fun v => v.cells.toList).length = ys.length * sz := by
    intro ys
    induction ys with
    | nil => intro _; simp
    | cons y ys ih =>
      intro h
      rw [List.flatMap_cons, List.length_append, ih (fun x hx => h x (List.mem_cons_of_mem _ hx)), List.length_cons, Nat.succ_mul, Array.length_toList, h y List.mem_cons_self, Nat.add_comm]
  refine ⟨⟨by rw [List.size_toArray, hlen xs hsz, hl]; exact Nat.le_refl _, fun v hv => ⟨hf v hv, ?_⟩, fun i j hi hj => ?_⟩, hsz, by rw [hlen xs hsz, hl]⟩
  · obtain ⟨i, hi, rfl⟩ := List.getElem_of_mem hv
    have := (hT i hi).2.1
    rwa [List.getD_eq_getElem?_getD, List.getElem?_eq_getElem hi, Option.getD_some] at this
  · obtain ⟨h1, h2, h3⟩ := hT i hi
    obtain ⟨h4, h5⟩ := tr_cells h1 h3
    have hi' : i < xs.length := by omega
    have e1 : xs.getD i Go.undef = xs[i] := by rw [List.getD_eq_getElem?_getD, List.getElem?_eq_getElem hi', Option.getD_some]
    rw [e1] at h5 h4
    have hj' : j < (vs.getD i .undef).flat.length := by rw [h4, hsz _ (List.getElem_mem _)]; exact hj
    have h6 := h5 j hj'
    have h7 : (xs.flatMap fun v => v.cells.toList).toArray.getD (i * sz + j) Go.undef = xs[i].cells.getD j Go.undef := by
      have hg := Great.flat_get hz xs hsz (i * sz + j)
      have d1 : (i * sz + j) / sz = i := by rw [Nat.mul_comm, Nat.mul_add_div hz, Nat.div_eq_of_lt hj, Nat.add_zero]
      have d2 : (i * sz + j) % sz = j := by rw [Nat.mul_comm, Nat.mul_add_mod, Nat.mod_eq_of_lt hj]
      rw [d1, d2, List.getElem?_eq_getElem hi', Option.bind_some] at hg
      rw [Array.getD_eq_getD_getElem?, Array.getD_eq_getD_getElem?, ← hg]
      simp
    rw [h7]
    exact h6
theorem buildSlice_run {t e : TypeId} {n : Nat} {ps : Array (Nat × Operand)} {z : List V} (hu : P.underlying t = some (.slice e)) (hz : szOf P e ≠ 0) (hzero : zero P e = some z) (ho : inOrder 0 ps.toList = true) (hn : ps.size = n) (hsm : n * szOf P e ≤ 16777216)
    (hc : ∀ x ∈ ps.toList.map fun p => a.eval p.2, x.cells.size = szOf P e) (w : World) :
    (Instr.buildSlice t n (ps.map fun (i, x) => (i, a.eval x))).run P w = .ok (.slice (some ⟨w.heap.size, 0, none⟩) n n) (w.alloc (.cells ((ps.toList.map fun p => a.eval p.2).flatMap fun v => v.cells.toList).toArray e)) := by
  obtain ⟨i, d, h1, h2, h3, h4⟩ := szOf_ne hz
  have hparts : (ps.map fun (i, x) => (i, a.eval x)).toList = ((ps.toList.map fun p => a.eval p.2).zipIdx 0).map fun x => (x.2, x.1) := by
    rw [Array.toList_map]
    exact inOrder_zip a.eval ps.toList 0 ho
  obtain ⟨zi, hzi⟩ : ∃ zv, i.zero = some zv := by
    unfold zero at hzero
    cases hh : i.zero with
    | none => simp [h1, hh] at hzero
    | some zv => exact ⟨zv, rfl⟩
  by_cases hp : n * i.size = 0
  · have hn0 : n = 0 := by
      rcases Nat.mul_eq_zero.1 hp with h | h
      · exact h
      · omega
    have : ps = #[] := by
      apply Array.eq_empty_of_size_eq_zero
      omega
    subst this
    subst hn0
    simp [Instr.buildSlice, run_underlying hu, sizeOf, typeInfo, h1, Instr.fill, Go.newRow]
    rw [show Array.map (fun x => (default : Value)) (Array.range 0) = #[] from Array.eq_empty_of_size_eq_zero (by simp)]
  · refine run_buildSlice w t e n _ _ i zi hu h1 hzi (by rw [← h3]; omega) hp ?_
    rw [hparts, ← h3]
    exact Great.fill_whole (by omega) _ _ hc (by simp [hn])
theorem drop_dst {dd : Nat} (s : St) (v : V) : s = s := rfl
/-- what a literal's parts come to -/
theorem parts_laid {t e : TypeId} {n : Nat} {ps : Array (Nat × Operand)} {vs : List V} {s1 : St} (h : Rel G s a w) (hz : szOf P e ≠ 0) (ht : St.trees P s (ps.toList.map fun p => (e, p.2)) = some (vs, s1)) (hf : vs.all (fun v => v.flat.length == szOf P e) = true) :
    ∃ G', Rel G' s1 a w ∧ Still G s w G' s1 ∧ vs.length = ps.size ∧ Laid G' (szOf P e) vs ((ps.toList.map fun p => a.eval p.2).flatMap fun v => v.cells.toList).toArray ∧ (∀ x ∈ ps.toList.map fun p => a.eval p.2, x.cells.size = szOf P e) ∧
      (((ps.toList.map fun p => a.eval p.2).flatMap fun v => v.cells.toList).toArray).size = vs.length * szOf P e := by
  obtain ⟨G', h1, h2, h3, h4⟩ := Rel.trees P _ h ht
  have hxs : (ps.toList.map fun p => (e, p.2)).map (fun x => a.eval x.2) = ps.toList.map fun p => a.eval p.2 := by rw [List.map_map]; rfl
  rw [hxs] at h4
  have hl : vs.length = ps.size := by simpa using h3
  obtain ⟨k1, k2, k3⟩ := laid_of (G := G') (sz := szOf P e) (by omega) (vs := vs) (xs := ps.toList.map fun p => a.eval p.2) (by simpa using hl) (fun i hi => ⟨(h4 i hi).1, (h4 i hi).2.1, (h4 i hi).2.2.1⟩) (fun v hv => by
    rw [List.all_eq_true] at hf; simpa using hf v hv)
  exact ⟨G', h1, h2, hl, k1, k2, by rw [List.size_toArray]; exact k3⟩
theorem op_buildSlice {t e : TypeId} {n : Nat} {ps : Array (Nat × Operand)} {vs z : List V} {s1 : St} (h : Rel G s a w) (hu : P.underlying t = some (.slice e)) (hz : szOf P e ≠ 0) (hzero : zero P e = some z) (ho : inOrder 0 ps.toList = true) (hn : ps.size = n) (hsm : n * szOf P e ≤ 16777216)
    (ht : St.trees P s (ps.toList.map fun p => (e, p.2)) = some (vs, s1)) (hf : vs.all (fun v => v.flat.length == szOf P e) = true) : OpOk P ⟨d, .buildSlice t n ps, ty, pos, af, gd⟩ G s a w (.slc true (szOf P e) vs) s1 := by
  obtain ⟨G1, h1, h2, h3, h4, h5, h6⟩ := parts_laid (t := t) (n := n) h hz ht hf
  obtain ⟨G2, k1, k2, k3⟩ := h1.newRow (cap := n) h4 (by rw [h6, h3, hn]) (by omega) e
  refine ⟨.slice (some ⟨w.heap.size, 0, none⟩) n n, _, G2, ?_, k1, ?_, h2.fr.trans (by rw [h2.lv] at k3; exact k3)⟩
  · simp only [execOp]
    exact run_val (buildSlice_run hu hz hzero ho hn hsm h5 w)
  · rw [show vs.length = n by omega] at k2
    exact k2
theorem op_buildArr {t e : TypeId} {n dd : Nat} {ps : Array (Nat × Operand)} {vs z : List V} {s1 : St} (h : Rel G s a w) (hu : P.underlying t = some (.slice e)) (hz : szOf P e ≠ 0) (hzero : zero P e = some z) (ho : inOrder 0 ps.toList = true) (hn : ps.size = n) (hsm : n * szOf P e ≤ 16777216)
    (ht : St.trees P s (ps.toList.map fun p => (e, p.2)) = some (vs, s1)) (hf : vs.all (fun v => v.flat.length == szOf P e) = true) (hd : s1.b dd = none) :
    OpOk P ⟨d, .buildSlice t n ps, ty, pos, af, gd⟩ G s a w (.aref s.lv dd n) { s1 with b := upd s1.b dd (some (.arr false (szOf P e) vs)) } := by
  obtain ⟨G1, h1, h2, h3, h4, h5, h6⟩ := parts_laid (t := t) (n := n) h hz ht hf
  obtain ⟨k1, k2, k3⟩ := h1.allocOb hd (.cells ((ps.toList.map fun p => a.eval p.2).flatMap fun v => v.cells.toList).toArray e) (.arr false (szOf P e) vs) (fun w' hw' hle hs hS => ⟨_, e, by rw [hw']; exact heap_alloc_new _ _, (h4.mono hle).1, (h4.mono hle).2.1, (h4.mono hle).2.2, hS⟩)
  rw [h2.lv] at k1 k2 k3
  refine ⟨.slice (some ⟨w.heap.size, 0, none⟩) n n, _, _, ?_, k1, OwnS.of_tr' (Tr.aref _ _ _ _ _ k3 (Nat.le_refl _)), h2.fr.trans k2⟩
  simp only [execOp]
  exact run_val (buildSlice_run hu hz hzero ho hn hsm h5 w)
/-! ### make -/
theorem dflt_tr {t e : TypeId} (hu : P.underlying t = some (.slice e)) {z : List V} (hz : zero P e = some z) (hlen : z.length = szOf P e) (hn : szOf P e ≠ 0) (hfl : (dflt P t).flat.length = szOf P e) :
    ∃ zv, (∀ w : World, (zeroValue e).run P w = .ok zv w) ∧ zv.cells.size = szOf P e ∧ (dflt P t).flat.length = szOf P e ∧ ((dflt P t).flat.all pureC = true) ∧ ∀ j, j < szOf P e → Tr G.S G.β ((dflt P t).flat.getD j .undef) (zv.cells.getD j Go.undef) := by
  obtain ⟨zv, h1, h2, h3, _⟩ := zero_spec hz
  have hp : ∀ v (x : Value), agree v x = true → pureC v.viewC = true ∧ (∀ l, v ≠ .agg l) ∧ (∀ l, v ≠ .tup l) := by
    intro v x h
    unfold agree at h
    split at h
    all_goals first | exact ⟨rfl, (fun l e => by cases e), fun l e => by cases e⟩ | cases h
  have hd : (dflt P t).flat = z.map V.viewC := by
    unfold dflt
    have he : elemOf P t = e := by simp [elemOf, hu]
    rw [he, hz, Option.getD_some]
    cases ha : isAgg P e
    · obtain ⟨i, d, k1, k2, k3, k4⟩ := szOf_ne hn
      cases z with
      | nil => simp at hlen; omega
      | cons v z =>
        have h4 := hp _ _ (h3 0 (by simp))
        simp only [List.getD_cons_zero] at h4
        cases z with
        | nil =>
          simp only [pack, Bool.false_eq_true, if_false, List.headD_cons, List.map_cons, List.map_nil]
          cases v
          case agg l => exact absurd rfl (h4.2.1 l)
          case tup l => exact absurd rfl (h4.2.2 l)
          all_goals rfl
        | cons u z =>
          exfalso
          have : (dflt P t).flat.length = 1 := by
            unfold dflt
            rw [he, hz, Option.getD_some, ha]
            simp only [pack, Bool.false_eq_true, if_false, List.headD_cons]
            cases v
            case agg l => exact absurd rfl (h4.2.1 l)
            case tup l => exact absurd rfl (h4.2.2 l)
            all_goals rfl
          simp only [List.length_cons] at hlen
          omega
    · rfl
  refine ⟨zv, h1, by omega, by rw [hd, List.length_map]; exact hlen, ?_, fun j hj => ?_⟩
  · rw [hd, List.all_eq_true]
    intro x hx
    obtain ⟨y, hy, rfl⟩ := List.mem_map.1 hx
    obtain ⟨j, hj, rfl⟩ := List.getElem_of_mem hy
    have := h3 j hj
    rw [List.getD_eq_getElem?_getD, List.getElem?_eq_getElem hj, Option.getD_some] at this
    exact (hp _ _ this).1
  · rw [hd, getD_viewC]
    exact (agree_tr (G := G) (w := default) (h3 j (by omega)) (.rs 0 0)).view
theorem made_laid {t e : TypeId} (hu : P.underlying t = some (.slice e)) {z : List V} (hz : zero P e = some z) (hlen : z.length = szOf P e) (hn : szOf P e ≠ 0) (hfl : (dflt P t).flat.length = szOf P e) (n m : Nat) (hnm : n ≤ m) :
    ∃ i zv, P.info? e = some i ∧ i.zero = some zv ∧ i.size = szOf P e ∧ Laid G (szOf P e) (List.replicate n (dflt P t)) (madeCells zv.cells (m * szOf P e)) ∧ (madeCells zv.cells (m * szOf P e)).size = m * szOf P e := by
  obtain ⟨i, d, h1, h2, h3, h4⟩ := szOf_ne hn
  obtain ⟨zv, k1, k2, k3, k4, k5⟩ := dflt_tr (G := G) hu hz hlen hn hfl
  have hzi : i.zero = some zv := by
    have := k1 default
    simp only [zeroValue, Sem.run_bind, typeInfo, run_program, Result.andThen_ok, h1, Sem.run_pure] at this
    cases hh : i.zero with
    | none => simp [hh] at this
    | some y => simp [hh] at this; rw [this]
  have hsz : (madeCells zv.cells (m * szOf P e)).size = m * szOf P e := by simp [madeCells]
  refine ⟨i, zv, h1, hzi, h3.symm, ⟨?_, fun x hx => ?_, fun p q hp hq => ?_⟩, hsz⟩
  · rw [hsz, List.length_replicate]; exact Nat.mul_le_mul_right _ hnm
  · rw [List.eq_of_mem_replicate hx]; exact ⟨k3, k4⟩
  · rw [List.length_replicate] at hp
    have e1 : (List.replicate n (dflt P t)).getD p .undef = dflt P t := by simp [List.getD_eq_getElem?_getD, hp]
    rw [e1]
    have h6 := cell_lt (Nat.lt_of_lt_of_le hp hnm) hq
    have e2 : (madeCells zv.cells (m * szOf P e)).getD (p * szOf P e + q) Go.undef = zv.cells.getD q Go.undef := by
      have hq' : q < zv.cells.size := by omega
      have hmod : (p * szOf P e + q) % zv.cells.size = q := by rw [k2, Nat.mul_comm, Nat.mul_add_mod, Nat.mod_eq_of_lt hq]
      simp [madeCells, Array.getD, h6, hmod, hq']
    rw [e2]
    exact k5 q hq
theorem make_run {t e : TypeId} {i : TypeInfo} {zv : Value} (hu : P.underlying t = some (.slice e)) (hi : P.info? e = some i) (hz : i.zero = some zv) (kl kc : IntKind) {n m : Int} (h0 : 0 ≤ n) (hnm : n ≤ m) (hb0 : P.bytesOf e ≠ 0) (hb : m * P.bytesOf e ≤ 140737488355328) (w : World) :
    (Instr.makeSlice t (.int kl n) (.int kc m)).run P w = .ok (.slice (some ⟨w.heap.size, 0, none⟩) n.toNat m.toNat) (w.alloc (.cells (madeCells zv.cells (m.toNat * i.size)) e)) := by
  have hbe : P.bytesOf e = i.bytes := by simp [Program.bytesOf, hi]
  rw [hbe] at hb hb0
  have h1 : m ≤ m * i.bytes := by
    have : (1 : Int) ≤ i.bytes := by omega
    calc m = m * 1 := by omega
      _ ≤ m * i.bytes := Int.mul_le_mul_of_nonneg_left this (by omega)
  exact run_make w t e i zv hu hi hz kl kc n m h0 hnm (by rw [Int.mul_comm]; omega) (by omega)
theorem op_make {t e : TypeId} {x y : Operand} {z : List V} {kl kc : IntKind} {n m : Int} (h : Rel G s a w) (hu : P.underlying t = some (.slice e)) (hx : s.see P 0 x = .int kl n) (hy : s.see P 0 y = .int kc m) (hz : zero P e = some z) (hlen : z.length = szOf P e) (hn : szOf P e ≠ 0) (hfl : (dflt P t).flat.length = szOf P e)
    (hb0 : P.bytesOf e ≠ 0) (h0 : 0 ≤ n) (hnm : n ≤ m) (hb : m * P.bytesOf e ≤ 140737488355328) : OpOk P ⟨d, .makeSlice t x y, ty, pos, af, gd⟩ G s a w (.slc true (szOf P e) (List.replicate n.toNat (dflt P t))) s := by
  obtain ⟨i, zv, h1, h2, h3, h4, h5⟩ := made_laid (G := G) hu hz hlen hn hfl n.toNat m.toNat (by omega)
  obtain ⟨G2, k1, k2, k3⟩ := h.newRow (cap := m.toNat) h4 h5 (by simp; omega) e
  have e1 := h.see P 0 x
  have e2 := h.see P 0 y
  rw [hx] at e1
  rw [hy] at e2
  refine ⟨.slice (some ⟨w.heap.size, 0, none⟩) n.toNat m.toNat, _, G2, ?_, k1, ?_, k3⟩
  · simp only [execOp]
    refine run_val ?_
    rw [e1.int_inv, e2.int_inv, make_run hu h1 h2 kl kc h0 hnm hb0 hb, h3]
  · rw [List.length_replicate] at k2; exact k2
theorem op_makeArr {t e : TypeId} {dd : Nat} {x y : Operand} {z : List V} {kl kc : IntKind} {n m : Int} (h : Rel G s a w) (hu : P.underlying t = some (.slice e)) (hx : s.see P 0 x = .int kl n) (hy : s.see P 0 y = .int kc m) (hz : zero P e = some z) (hlen : z.length = szOf P e) (hn : szOf P e ≠ 0) (hfl : (dflt P t).flat.length = szOf P e)
    (hb0 : P.bytesOf e ≠ 0) (h0 : 0 ≤ n) (hnm : n ≤ m) (hb : m * P.bytesOf e ≤ 140737488355328) (hd : s.b dd = none) :
    OpOk P ⟨d, .makeSlice t x y, ty, pos, af, gd⟩ G s a w (.aref s.lv dd n.toNat) { s with b := upd s.b dd (some (.arr false (szOf P e) (List.replicate n.toNat (dflt P t)))) } := by
  obtain ⟨i, zv, h1, h2, h3, h4, h5⟩ := made_laid (G := G) hu hz hlen hn hfl n.toNat m.toNat (by omega)
  obtain ⟨k1, k2, k3⟩ := h.allocOb hd (.cells (madeCells zv.cells (m.toNat * szOf P e)) e) (.arr false (szOf P e) (List.replicate n.toNat (dflt P t))) (fun w' hw' hle hs hS => ⟨_, e, by rw [hw']; exact heap_alloc_new _ _, (h4.mono hle).1, (h4.mono hle).2.1, (h4.mono hle).2.2, hS⟩)
  have e1 := h.see P 0 x
  have e2 := h.see P 0 y
  rw [hx] at e1
  rw [hy] at e2
  refine ⟨.slice (some ⟨w.heap.size, 0, none⟩) n.toNat m.toNat, _, _, ?_, k1, OwnS.of_tr' (Tr.aref _ _ _ _ _ k3 (by omega)), k2⟩
  simp only [execOp]
  refine run_val ?_
  rw [e1.int_inv, e2.int_inv, make_run hu h1 h2 kl kc h0 hnm hb0 hb, h3]
end Go.Ev
namespace Go.Ev
open Go
set_option linter.unusedVariables false
set_option linter.unusedSimpArgs false
variable {P : Program} {G : Gh} {s : St} {a : Act} {w : World} {o : Oper}
variable {d : Option Nat} {ty : TypeId} {pos : String} {af : Array Edge} {gd : Option (Nat × Bool)}

theorem Rel.drew (h : Rel G s a w) : Rel G s a w.drew := ⟨h.size, h.defers, fun t => (h.slot t).mono (Le.refl _) (fun _ _ _ e => ⟨rfl, fun _ => rfl, e⟩), fun lv t ob ho => by
  obtain ⟨g, a1, a2, a3⟩ := h.obj lv t ob ho
  exact ⟨g, a1, a2, a3.mono (Le.refl _) ⟨rfl, fun _ => rfl⟩ fun j k hk => ⟨rfl, fun _ => rfl, hk⟩⟩, h.dom, h.imm, h.lim⟩
theorem Fr.drew {lv : Nat} {G' : Gh} {w' : World} (h : Fr lv G w.drew G' w') : Fr lv G w G' w' := ⟨h.os, h.tape, h.output, h.size, h.keep, h.imm, h.outer⟩
theorem app_room {t tx tyy e : TypeId} {i : TypeInfo} {dx : TypeDesc} {A : Option Addr} {n cap m : Nat} {Y : Value} {news : List Value} (ht : P.underlying t = some (.slice e)) (hi : P.info? e = some i) (hx : P.underlying tx = some dx) (hk : ∀ k, dx ≠ .int k)
    (hlen : (Builtin.lenOf Y).run P w = .ok m w) (hf : (Builtin.firstCells i.size m Y).run P w = .ok news.toArray w) (hroom : n + m ≤ cap) :
    (Builtin.append_ #[t, tx] tyy #[.slice A n cap, Y]).run P w = match A with
      | none => .ok (.slice none (n + m) cap) w
      | some b => ((storeCells (b.add (n * i.size)) news).run P w).andThen fun _ w' => .ok (.slice (some b) (n + m) cap) w' := by
  have hz : (dx matches .int _) = false := by cases dx <;> first | rfl | exact absurd rfl (hk _)
  cases A <;> simp [Builtin.append_, run_underlying ht, run_underlying hx, sizeOf, typeInfo, hi, hz, hlen, hroom, hf]
theorem app_grow {t tx tyy e : TypeId} {i : TypeInfo} {z : Value} {dx : TypeDesc} {A : Option Addr} {n cap m : Nat} {Y : Value} {news olds : List Value} (ht : P.underlying t = some (.slice e)) (hi : P.info? e = some i) (hz : i.zero = some z) (hx : P.underlying tx = some dx) (hk : ∀ k, dx ≠ .int k)
    (hlen : (Builtin.lenOf Y).run P w = .ok m w) (hf : (Builtin.firstCells i.size m Y).run P w.drew = .ok news.toArray w.drew) (ho : (Builtin.firstCells i.size n (.slice A n cap)).run P w.drew = .ok olds.toArray w.drew) (hb0 : 0 < i.bytes)
    (hg : cap < n + m) (hfit : (n + m) * i.bytes ≤ 140737488355328) :
    (Builtin.append_ #[t, tx] tyy #[.slice A n cap, Y]).run P w = .ok (.slice (some ⟨w.heap.size, 0, none⟩) (n + m) (grownCap w (n + m) cap e))
        (w.drew.alloc (.cells (olds.toArray ++ news.toArray ++ Builtin.zeroCells z.cells (grownCap w (n + m) cap e - (n + m))) e)) := by
  have hzz : (dx matches .int _) = false := by cases dx <;> first | rfl | exact absurd rfl (hk _)
  have hn : ¬ (n + m ≤ cap) := by omega
  have h1 : n + m ≤ (n + m) * i.bytes := Nat.le_mul_of_pos_right _ hb0
  have h63' : ¬ (9223372036854775807 < ((n : Int) + (m : Int))) := by omega
  have h48 := growslice_fits hg hfit
  have h48' : ¬ (281474976710656 < Builtin.nextslicecap (n + m) cap * i.bytes) := by omega
  simp [Builtin.append_, run_underlying ht, run_underlying hx, sizeOf, typeInfo, zeroValue, hi, hz, hzz, hlen, hn, h63', h48', Question.forced, hf, ho, Go.newRow, grownCap]
  congr 2
  apply Array.ext'
  simp [List.append_assoc]
theorem add_add (b o n m : Nat) : ((⟨b, o, none⟩ : Addr).add n).add m = ⟨b, o + n + m, none⟩ := by rw [add_eq, add_eq]
/-- the cells of what is appended (or of what it is appended to) -/
theorem src_slc (h : Rel G s a w) {sz : Nat} (hz : 0 < sz) {l : List V} {x : Value} (hv : Tr G.S G.β (.slc false sz l) x) : ∃ cs : List Value, (Builtin.lenOf x).run P w = .ok l.length w ∧ (Builtin.firstCells sz l.length x).run P w = .ok cs.toArray w ∧ (Builtin.firstCells sz l.length x).run P w.drew = .ok cs.toArray w.drew ∧
    Laid G sz l cs.toArray ∧ cs.length = l.length * sz ∧ ∀ u ∈ cs, u.oneCell' = true := by
  rcases hv.slc_inv with ⟨rfl, A0, cap0, rfl⟩ | ⟨b, o, cap, c, rfl, hc, hs, hS, hT⟩
  · exact ⟨[], rfl, by cases A0 <;> first | rfl | simp [Builtin.firstCells, loadCells, loadCellsFrom], by cases A0 <;> first | rfl | simp [Builtin.firstCells, loadCells, loadCellsFrom], ⟨by simp, (fun x hx => by cases hx), fun i j hi => absurd hi (Nat.not_lt_zero _)⟩, by simp, fun u hu => by cases hu⟩
  · have e1 := slc_cells h hS P
    have e2 := slc_cells h.drew hS P
    have hlen : ((List.range (l.length * sz)).map fun k => c (k / sz) (k % sz)).length = l.length * sz := by simp
    refine ⟨(List.range (l.length * sz)).map fun k => c (k / sz) (k % sz), rfl, e1, e2, ⟨by simp, hs, fun i j hi hj => ?_⟩, hlen, fun u hu => ?_⟩
    · have h5 := cell_lt hi hj
      have d1 : (i * sz + j) / sz = i := by rw [Nat.mul_comm, Nat.mul_add_div hz, Nat.div_eq_of_lt hj, Nat.add_zero]
      have d2 : (i * sz + j) % sz = j := by rw [Nat.mul_comm, Nat.mul_add_mod, Nat.mod_eq_of_lt hj]
      have : ((List.range (l.length * sz)).map fun k => c (k / sz) (k % sz)).toArray.getD (i * sz + j) Go.undef = c i j := by
        simp [Array.getD, h5, d1, d2]
      rw [this]
      exact hT i j hi hj
    · obtain ⟨k, hk, rfl⟩ := List.mem_map.1 hu
      have hk' : k < l.length * sz := by simpa using hk
      have h1 : k / sz < l.length := Nat.div_lt_of_lt_mul (by rw [Nat.mul_comm]; exact hk')
      have h2 : k % sz < sz := Nat.mod_lt _ hz
      have h3 := hT _ _ h1 h2
      have h4 := hs (l.getD (k / sz) .undef) (by rw [List.getD_eq_getElem?_getD, List.getElem?_eq_getElem h1]; exact List.getElem_mem h1)
      have h5 : pureC ((l.getD (k / sz) .undef).flat.getD (k % sz) .undef) = true := by
        have hlt : k % sz < (l.getD (k / sz) .undef).flat.length := by rw [h4.1]; exact h2
        have := h4.2
        rw [List.all_eq_true] at this
        refine this _ ?_
        rw [List.getD_eq_getElem?_getD (l := (l.getD (k / sz) .undef).flat), List.getElem?_eq_getElem hlt]
        exact List.getElem_mem hlt
      refine (cells_one h3 ?_ ?_).2
      · intro e; rw [e] at h5; cases h5
      · intro l e; rw [e] at h5; cases h5
theorem src_str {sz : Nat} (b : ByteArray) : ∃ cs : List Value, (Builtin.lenOf (.string b)).run P w = .ok b.size w ∧ (Builtin.firstCells 1 b.size (.string b)).run P w = .ok cs.toArray w ∧ (Builtin.firstCells 1 b.size (.string b)).run P w.drew = .ok cs.toArray w.drew ∧
    Laid G 1 (bytesV b) cs.toArray ∧ cs.length = (bytesV b).length * 1 ∧ (bytesV b).length = b.size ∧ ∀ u ∈ cs, u.oneCell' = true := by
  have hl : (bytesV b).length = b.size := by simp [bytesV]
  have hx : (b.extract 0 b.size) = b := by simp
  refine ⟨b.data.toList.map fun c => .int .u8 (c.toNat : Int), rfl, ?_, ?_, ⟨?_, fun x hx => ?_, fun i j hi hj => ?_⟩, by simp [bytesV], hl, fun u hu => ?_⟩
  · simp only [Builtin.firstCells, Sem.run_pure, hx]
    congr 1
    apply Array.ext'
    simp
  · simp only [Builtin.firstCells, Sem.run_pure, hx]
    congr 1
    apply Array.ext'
    simp
  · simp [bytesV]
  · obtain ⟨c, _, rfl⟩ := List.mem_map.1 hx; exact ⟨rfl, rfl⟩
  · obtain rfl : j = 0 := by omega
    have hi' : i < b.data.toList.length := by simpa [bytesV] using hi
    have e1 : (bytesV b).getD i .undef = .int .u8 ((b.data.toList[i]).toNat : Int) := by
      simp only [bytesV, List.getD_eq_getElem?_getD, List.getElem?_map, List.getElem?_eq_getElem hi', Option.map_some, Option.getD_some]
    have e2 : ((b.data.toList.map fun c => Value.int .u8 (c.toNat : Int)).toArray).getD (i * 1 + 0) Go.undef = .int .u8 ((b.data.toList[i]).toNat : Int) := by
      have : i < b.data.size := by simpa using hi'
      have h' : i < b.size := this
      simp [Array.getD, this, h']
    rw [e1, e2]
    exact Tr.int _ _
  · obtain ⟨c, _, rfl⟩ := List.mem_map.1 hu; rfl
theorem Laid.append {sz : Nat} {l m : List V} {cs ds rest : List Value} (h : Laid G sz l cs.toArray) (k : Laid G sz m ds.toArray) (hl : cs.length = l.length * sz) (hm : ds.length = m.length * sz) : Laid G sz (l ++ m) (cs ++ ds ++ rest).toArray := by
  refine ⟨by simp [hl, hm, Nat.add_mul], fun x hx => ?_, fun i j hi hj => ?_⟩
  · rcases List.mem_append.1 hx with hx | hx
    · exact h.2.1 x hx
    · exact k.2.1 x hx
  · by_cases h1 : i < l.length
    · have e1 : (l ++ m).getD i .undef = l.getD i .undef := by simp [List.getD_eq_getElem?_getD, List.getElem?_append_left h1]
      have h2 := cell_lt h1 hj
      have e2 : (cs ++ ds ++ rest).toArray.getD (i * sz + j) Go.undef = cs.toArray.getD (i * sz + j) Go.undef := by
        simp only [Array.getD_eq_getD_getElem?, List.getElem?_toArray, List.append_assoc]
        rw [List.getElem?_append_left (by omega)]
      rw [e1, e2]
      exact h.2.2 i j h1 hj
    · have h3 : i - l.length < m.length := by simp at hi; omega
      have e1 : (l ++ m).getD i .undef = m.getD (i - l.length) .undef := by simp [List.getD_eq_getElem?_getD, List.getElem?_append_right (by omega : l.length ≤ i)]
      have h2 := cell_lt h3 hj
      have h4 : i * sz = l.length * sz + (i - l.length) * sz := by rw [← Nat.add_mul]; congr 1; omega
      have e2 : (cs ++ ds ++ rest).toArray.getD (i * sz + j) Go.undef = ds.toArray.getD ((i - l.length) * sz + j) Go.undef := by
        simp only [Array.getD_eq_getD_getElem?, List.getElem?_toArray, List.append_assoc]
        rw [List.getElem?_append_right (by omega), List.getElem?_append_left (by omega)]
        congr 2
        omega
      rw [e1, e2]
      exact k.2.2 _ j h3 hj
def Gh.tail (G : Gh) (g lo hi : Nat) (news : List Value) : Gh := { G with S := fun k j => if k = g ∧ lo ≤ j ∧ j < hi then news[j - lo]? else G.S k j }
theorem grow_core (h : Rel G s a w) {t tx e : TypeId} {sz : Nat} {l m : List V} {X Y : Value} {news : List Value} {dx : TypeDesc} (hgr : growB P t = true) (hse : sz = elemSz P t) (he : P.underlying t = some (.slice e)) (hx : P.underlying tx = some dx) (hk : ∀ k, dx ≠ .int k)
    (hX : OwnS G w Pl.rs (.slc true sz l) X) (hlen : (Builtin.lenOf Y).run P w = .ok m.length w) (hf : (Builtin.firstCells sz m.length Y).run P w = .ok news.toArray w) (hf' : (Builtin.firstCells sz m.length Y).run P w.drew = .ok news.toArray w.drew)
    (hL : Laid G sz m news.toArray) (hn : news.length = m.length * sz) (h1 : ∀ u ∈ news, u.oneCell' = true) (hb : (l.length + m.length) * P.bytesOf e ≤ 140737488355328) :
    ∃ x w' G', (Builtin.append_ #[t, tx] ty #[X, Y]).run P w = .ok x w' ∧ Rel G' s a w' ∧ OwnS G' w' Pl.rs (.slc true sz (l ++ m)) x ∧ Fr s.lv G w G' w' := by
  have hee : elemOf P t = e := by simp [elemOf, he]
  unfold growB at hgr
  simp only [Bool.and_eq_true, bne_iff_ne, ne_eq] at hgr
  obtain ⟨⟨⟨_, hnz⟩, hbz⟩, hzz⟩ := hgr
  have hszz : sz = szOf P e := by rw [hse]; simp [elemSz, hee]
  have hnz' : szOf P e ≠ 0 := by rw [← hszz, hse]; exact hnz
  obtain ⟨i, d, g1, g2, g3, g4⟩ := szOf_ne hnz'
  rw [hee] at hbz hzz
  have hbe : P.bytesOf e = i.bytes := by simp [Program.bytesOf, g1]
  cases hzo : zero P e with
  | none => rw [hzo] at hzz; cases hzz
  | some z =>
    rw [hzo] at hzz
    have hzl : z.length = szOf P e := by have : z.length = elemSz P t := by simpa using hzz
                                         rw [this, ← hse, hszz]
    obtain ⟨zv, k1, k2, k3, _⟩ := zero_spec hzo
    have hzi : i.zero = some zv := by
      have := k1 default
      simp only [zeroValue, Sem.run_bind, typeInfo, run_program, Result.andThen_ok, g1, Sem.run_pure] at this
      cases hh : i.zero with
      | none => simp [hh] at this
      | some y => simp [hh] at this; rw [this]
    have hpos : 0 < sz := by omega
    have hX0 := hX
    have hsi : i.size = sz := by omega
    obtain ⟨hXt, A, cap, rfl, hown⟩ : Tr G.S G.β (.slc false sz l) X ∧ ∃ a cap, X = .slice a l.length cap ∧ (cap = l.length ∨ ∃ g cs ty, a = some ⟨g, 0, none⟩ ∧ G.ω g = some (.rs 0 0) ∧ w.heap[g]? = some (.cells cs ty (0, 0)) ∧ cs.size = cap * sz ∧ ∀ j, l.length * sz ≤ j → G.S g j = none) := hX
    obtain ⟨olds, o1, o2, o3, o4, o5, o6⟩ := src_slc (P := P) h hpos hXt
    have hcl : l.length ≤ cap := by
      rcases hXt.slc_inv with ⟨rfl, _⟩ | ⟨b, o, cap', c, hh, hc, _⟩
      · exact Nat.zero_le _
      · cases hh; exact hc
    by_cases hroom : l.length + m.length ≤ cap
    · have hr := app_room (P := P) (w := w) (t := t) (tx := tx) (tyy := ty) (A := A) (n := l.length) (cap := cap) (Y := Y) he g1 hx hk hlen (by rw [hsi]; exact hf) hroom
      rcases hown with hown | ⟨g, cs, cty, rfl, hω, hg, hcs, hS⟩
      · -- nothing comes to it
        have hm0 : m = [] := List.eq_nil_of_length_eq_zero (by omega)
        subst hm0
        have hn0 : news = [] := List.eq_nil_of_length_eq_zero (by simpa using hn)
        subst hn0
        refine ⟨.slice A l.length cap, w, G, ?_, h, ?_, Fr.refl _ _ _⟩
        · rw [hr]
          cases A <;> simp [storeCells]
        · rw [List.append_nil]; exact hX0
      · have hfit : l.length * sz + news.length ≤ cs.size := by rw [hn, hcs, ← Nat.add_mul]; exact Nat.mul_le_mul_right _ hroom
        have hst := run_storeCells_at P g (l.length * sz) cty news 0 cs w hg (by simpa using hfit) h1
        simp only [Nat.add_zero] at hst
        have hnew : (w.setRow g (cs.toList.take (l.length * sz) ++ news ++ cs.toList.drop (l.length * sz + news.length)).toArray).heap[g]? = some (.cells (cs.toList.take (l.length * sz) ++ news ++ cs.toList.drop (l.length * sz + news.length)).toArray cty (0, 0)) := setRow_heap w g cs _ cty _ hg
        generalize hw' : w.setRow g (cs.toList.take (l.length * sz) ++ news ++ cs.toList.drop (l.length * sz + news.length)).toArray = w' at hst hnew
        have hoth : ∀ k, k ≠ g → w'.heap[k]? = w.heap[k]? := fun k hk => by rw [← hw']; exact setRow_other w g k _ hk
        have hGoth : ∀ k, k ≠ g → ∀ j, (G.tail g (l.length * sz) ((l.length + m.length) * sz) news).S k j = G.S k j := fun k hk j => by
          show (if k = g ∧ _ then _ else _) = _
          rw [if_neg (fun e => hk e.1)]
        have hle : Le G (G.tail g (l.length * sz) ((l.length + m.length) * sz) news) := ⟨fun k j c hc => by
          show (if k = g ∧ _ then _ else _) = _
          rw [if_neg (by rintro ⟨rfl, h2, _⟩; rw [hS j h2] at hc; cases hc)]; exact hc, fun _ _ _ e => e⟩
        have hws : w'.heap.size = w.heap.size := by rw [← hw']; simp
        have hSg : ∀ j, l.length * sz ≤ j → j < (l.length + m.length) * sz → (G.tail g (l.length * sz) ((l.length + m.length) * sz) news).S g j = news[j - l.length * sz]? := fun j h2 h3 => by
          show (if g = g ∧ _ then _ else _) = _
          rw [if_pos ⟨rfl, h2, h3⟩]
        have hcell : ∀ j, w'.cell? ⟨g, j, none⟩ = (cs.toList.take (l.length * sz) ++ news ++ cs.toList.drop (l.length * sz + news.length))[j]? := fun j => by simp only [World.cell?, hnew]; simp
        have hlz : l.length * sz ≤ cs.size := by omega
        refine ⟨.slice (some ⟨g, 0, none⟩) (l.length + m.length) cap, w', G.tail g (l.length * sz) ((l.length + m.length) * sz) news, ?_, h.grow hle rfl (fun k p hp hpk => ?_) (fun k j c hc => ?_) (fun k p hp => by rw [hws]; exact h.lim k p hp), ?_, ⟨by rw [← hw']; rfl, by rw [← hw']; rfl, by rw [← hw']; rfl, by rw [hws]; exact Nat.le_refl _, fun k hk hm => ?_, hle.S, fun _ _ _ => rfl⟩⟩
        · rw [hr]
          show ((storeCells ((⟨g, 0, none⟩ : Addr).add (l.length * i.size)) news).run P w).andThen _ = _
          rw [hsi, add_eq, Nat.zero_add, hst]
          rfl
        · have hkg : k ≠ g := by rintro rfl; rw [hω] at hpk; cases hpk; exact hp 0 0 rfl
          exact ⟨hoth k hkg, hGoth k hkg, hpk⟩
        · by_cases hkg : k = g
          · subst hkg
            have hc' : (if k = k ∧ l.length * sz ≤ j ∧ j < (l.length + m.length) * sz then news[j - l.length * sz]? else G.S k j) = some c := hc
            rw [hcell]
            split at hc'
            · rename_i hh
              rw [List.append_assoc, List.getElem?_append_right (by simp; omega)]
              simp only [List.length_take, Array.length_toList, Nat.min_eq_left hlz]
              rw [List.getElem?_append_left (by have h2 := hh.2.2; rw [Nat.add_mul] at h2; have h3 := hh.2.1; omega)]
              exact hc'
            · have hj : j < l.length * sz := by
                rcases Nat.lt_or_ge j (l.length * sz) with h' | h'
                · exact h'
                · rw [hS j h'] at hc'; cases hc'
              have := h.imm _ _ _ hc'
              simp only [World.cell?, hg] at this
              rw [List.append_assoc, List.getElem?_append_left (by simp; omega), List.getElem?_take, if_pos hj]
              simpa using this
          · rw [hGoth k hkg] at hc
            have := h.imm _ _ _ hc
            simp only [World.cell?, hoth k hkg]
            exact this
        · have hLn := Laid.append (rest := cs.toList.drop (l.length * sz + news.length)) (o4.mono hle) (hL.mono hle) o5 hn
          have hlm : (l ++ m).length = l.length + m.length := by simp
          refine ⟨?_, some ⟨g, 0, none⟩, cap, by rw [hlm], .inr ⟨g, _, cty, rfl, hω, hnew, ?_, fun j hj => ?_⟩⟩
          · suffices hfin : Tr (G.tail g (l.length * sz) ((l.length + m.length) * sz) news).S (G.tail g (l.length * sz) ((l.length + m.length) * sz) news).β (.slc false sz (l ++ m)) (.slice (some ⟨g, 0, none⟩) (l ++ m).length cap) by rw [hlm] at hfin; exact hfin
            refine Tr.slc sz (l ++ m) g 0 cap (fun i j => (olds ++ news ++ cs.toList.drop (l.length * sz + news.length)).toArray.getD (i * sz + j) Go.undef) (by omega) hLn.2.1 (fun p q hp hq => ?_) hLn.2.2
            have h5 := cell_lt hp hq
            rw [Nat.zero_add]
            by_cases hlo : p * sz + q < l.length * sz
            · -- an elder element
              have hp' : p < l.length := by
                rcases Nat.lt_or_ge p l.length with h' | h'
                · exact h'
                · have := Nat.mul_le_mul_right sz h'; omega
              rcases hXt.slc_inv with ⟨rfl, _⟩ | ⟨b, o, cap', c, hh, hc, hs, hS0, hT0⟩
              · simp at hp'
              · cases hh
                have e1 := hle.S _ _ _ (hS0 p q hp' hq)
                rw [Nat.zero_add] at e1
                rw [e1]
                have e2 := slc_cells h hS0 P
                have e3 : (loadCells ⟨g, 0, none⟩ (l.length * sz)).run P w = .ok olds.toArray w := o2
                rw [e3] at e2
                have e4 : olds = (List.range (l.length * sz)).map fun k => c (k / sz) (k % sz) := by
                  have := (Result.ok.inj e2).1
                  simpa using this
                have d1 : (p * sz + q) / sz = p := by rw [Nat.mul_comm, Nat.mul_add_div hpos, Nat.div_eq_of_lt hq, Nat.add_zero]
                have d2 : (p * sz + q) % sz = q := by rw [Nat.mul_comm, Nat.mul_add_mod, Nat.mod_eq_of_lt hq]
                simp only [Array.getD_eq_getD_getElem?, List.getElem?_toArray, List.append_assoc]
                rw [List.getElem?_append_left (by omega), e4, List.getElem?_map, List.getElem?_range hlo]
                simp [d1, d2]
            · rw [hSg _ (by omega) (by rw [← hlm]; exact h5)]
              simp only [Array.getD_eq_getD_getElem?, List.getElem?_toArray, List.append_assoc]
              have h6 : p * sz + q - l.length * sz < news.length := by rw [hn]; rw [hlm, Nat.add_mul] at h5; omega
              rw [List.getElem?_append_right (by omega), List.getElem?_append_left (by omega), o5]
              rw [List.getElem?_eq_getElem h6, Option.getD_some]
          · simp only [List.size_toArray, List.length_append, List.length_take, List.length_drop, Array.length_toList]
            omega
          · show (if g = g ∧ _ then _ else _) = _
            rw [if_neg (fun e => by have := e.2.2; rw [hlm] at hj; omega)]
            exact hS j (by rw [hlm, Nat.add_mul] at hj; omega)
        · have hkg : k ≠ g := by rintro rfl; exact hm _ hω trivial
          exact ⟨hoth k hkg, rfl, hGoth k hkg⟩
    · have hr := app_grow (P := P) (w := w) (t := t) (tx := tx) (tyy := ty) (A := A) (n := l.length) (cap := cap) (Y := Y) (news := news) (olds := olds) he g1 hzi hx hk hlen (by rw [hsi]; exact hf') (by rw [hsi]; exact o3) (by omega) (by omega) (by rw [← hbe]; exact hb)
      have hge := grownCap_ge w (l.length + m.length) cap e
      have hzc : (Builtin.zeroCells zv.cells (grownCap w (l.length + m.length) cap e - (l.length + m.length))).size = (grownCap w (l.length + m.length) cap e - (l.length + m.length)) * sz := by
        rw [size_zeroCells, ← k2, hzl, hszz]
      have hLn := Laid.append (rest := (Builtin.zeroCells zv.cells (grownCap w (l.length + m.length) cap e - (l.length + m.length))).toList) o4 hL o5 hn
      have harr : olds.toArray ++ news.toArray ++ Builtin.zeroCells zv.cells (grownCap w (l.length + m.length) cap e - (l.length + m.length)) = (olds ++ news ++ (Builtin.zeroCells zv.cells (grownCap w (l.length + m.length) cap e - (l.length + m.length))).toList).toArray := by
        apply Array.ext'
        simp
      rw [harr] at hr
      have hlm : (l ++ m).length = l.length + m.length := by simp
      obtain ⟨G2, q1, q2, q3⟩ := h.drew.newRow (cap := grownCap w (l.length + m.length) cap e) hLn (by
        have hz2 : (Builtin.zeroCells zv.cells (grownCap w (l.length + m.length) cap e - (l.length + m.length))).toList.length = (grownCap w (l.length + m.length) cap e - (l.length + m.length)) * sz := by rw [Array.length_toList]; exact hzc
        rw [List.size_toArray, List.length_append, List.length_append, hz2, o5, hn, ← Nat.add_mul, ← Nat.add_mul]
        congr 1
        omega) (by rw [hlm]; exact hge) e
      refine ⟨_, _, G2, hr, q1, ?_, q3.drew⟩
      rw [hlm] at q2
      exact q2
theorem op_append {x y : Operand} {t t' : TypeId} {v : V} (h : Rel G s a w) (hv : appendV P t t' (s.all P t x) (s.see P t' y) = some v) :
    OpOk P ⟨d, .call { callee := .builtin .append, args := #[x, y], argTypes := #[t, t'] }, ty, pos, af, gd⟩ G s a w v (s.drop x) := by
  obtain ⟨G1, h1, h2, h3, _, h5, h6⟩ := h.all P t x
  have hy := h.see P t' y
  have h0 : ∀ own sz l, s.see P t' y = .slc own sz l → own = false := fun own sz l e => see_slc e
  rw [← h5, ← h6] at hy
  generalize s.see P t' y = yv at hv hy h0
  have hlv : (s.drop x).lv = s.lv := by cases x <;> rfl
  have fin : ∀ {x' : Value} {w' : World} {G' : Gh}, (Builtin.append_ #[t, t'] ty #[a.eval x, a.eval y]).run P w = .ok x' w' → Rel G' (s.drop x) a w' → OwnS G' w' Pl.rs v x' → Fr (s.drop x).lv G1 w G' w' → OpOk P ⟨d, .call { callee := .builtin .append, args := #[x, y], argTypes := #[t, t'] }, ty, pos, af, gd⟩ G s a w v (s.drop x) := by
    intro x' w' G' e1 e2 e3 e4
    refine ⟨x', w', G', run_builtin ?_, e2, e3, h3.trans (by rw [hlv] at e4; exact e4)⟩
    simp only [builtin, List.map_toArray, List.map_cons, List.map_nil, Sem.run_bind, e1, Result.andThen_ok, Sem.run_pure]
  unfold appendV at hv
  split at hv
  · rename_i sz l hx
    split at hv
    · rename_i hgr
      obtain ⟨hgr, hse⟩ := hgr
      obtain ⟨e, he, hel⟩ := isSl_spec (by simp only [growB, Bool.and_eq_true] at hgr; exact hgr.1.1.1)
      rw [hx] at h2
      split at hv
      · rename_i own sz' m
        obtain rfl := h0 _ _ _ rfl
        split at hv
        · rename_i hc
          obtain ⟨hsl, rfl⟩ := hc
          split at hv
          · rename_i hb
            obtain rfl := Option.some.inj hv
            obtain ⟨e', he', _⟩ := isSl_spec hsl
            have hpos : 0 < sz' := by
              simp only [growB, Bool.and_eq_true, bne_iff_ne] at hgr
              have := hgr.1.1.2
              omega
            obtain ⟨cs, c1, c2, c3, c4, c5, c6⟩ := src_slc (P := P) h1 hpos hy
            obtain ⟨x', w', G', e1, e2, e3, e4⟩ := grow_core (ty := ty) h1 hgr hse he he' (fun k e => by cases e) h2 c1 c2 c3 c4 c5 c6 (by rw [hel] at hb; exact hb)
            exact fin e1 e2 e3 e4
          · cases hv
        · cases hv
      · rename_i b
        split at hv
        · rename_i hc
          obtain ⟨hst, rfl⟩ := hc
          split at hv
          · rename_i hb
            obtain rfl := Option.some.inj hv
            have he' := isStr_spec hst
            obtain ⟨cs, c1, c2, c3, c4, c5, c5', c6⟩ := src_str (P := P) (G := G1) (w := w) (sz := 1) b
            rw [hy.str_inv] at fin
            rw [← c5'] at c1 c2 c3 hb
            obtain ⟨x', w', G', e1, e2, e3, e4⟩ := grow_core (ty := ty) h1 hgr hse he he' (fun k e => by cases e) h2 c1 c2 c3 c4 c5 c6 (by rw [hel] at hb; exact hb)
            exact fin e1 e2 e3 e4
          · cases hv
        · cases hv
      · cases hv
    · cases hv
  · cases hv
end Go.Ev
