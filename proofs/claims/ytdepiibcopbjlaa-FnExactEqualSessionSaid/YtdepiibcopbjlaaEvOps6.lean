/- New memory: rows, variables. -/
import Derived.Test.YtdepiibcopbjlaaEvOps5
import Derived.Laws.IdiomRangeMap
namespace Go.Ev
open Go
set_option linter.unusedVariables false
set_option linter.unusedSimpArgs false
variable {P : Program} {G : Gh} {s : St} {a : Act} {w : World} {o : Oper}
variable {d : Option Nat} {ty : TypeId} {pos : String} {af : Array Edge} {gd : Option (Nat × Bool)}

theorem imm_lt (h : Rel G s a w) {g j : Nat} {c : Value} (hS : G.S g j = some c) : g < w.heap.size := by
  have := h.imm _ _ _ hS
  unfold World.cell? at this
  split at this
  · rename_i hb
    exact (Array.getElem?_eq_some_iff.1 hb).1
  · cases this
theorem ω_new (h : Rel G s a w) : G.ω w.heap.size = none := by
  cases hω : G.ω w.heap.size with
  | none => rfl
  | some p => exact absurd (h.lim _ _ hω) (Nat.lt_irrefl _)
theorem S_new (h : Rel G s a w) (j : Nat) : G.S w.heap.size j = none := by
  cases hS : G.S w.heap.size j with
  | none => rfl
  | some p => exact absurd (imm_lt h hS) (Nat.lt_irrefl _)

/-- a new row: its first n cells never change, the rest is the value's own -/
def Gh.row (G : Gh) (g n : Nat) (cs : Array Value) (p : Pl) : Gh where
  S := fun k j => if k = g then (if j < n then cs[j]? else none) else G.S k j
  β := G.β
  ω := upd G.ω g (some p)
theorem Rel.allocRow (h : Rel G s a w) (n : Nat) (cs : Array Value) (e : TypeId) (p : Pl) :
    Rel (G.row w.heap.size n cs p) s a (w.alloc (.cells cs e)) ∧ Le G (G.row w.heap.size n cs p) ∧ Fr s.lv G w (G.row w.heap.size n cs p) (w.alloc (.cells cs e)) ∧
    (∀ k q, G.ω k = some q → (w.alloc (.cells cs e)).heap[k]? = w.heap[k]? ∧ (∀ j, (G.row w.heap.size n cs p).S k j = G.S k j) ∧ (G.row w.heap.size n cs p).ω k = some q) := by
  have hle : Le G (G.row w.heap.size n cs p) := ⟨fun g j c hc => by
    show (if g = w.heap.size then _ else _) = _
    rw [if_neg (Nat.ne_of_lt (imm_lt h hc))]; exact hc, fun _ _ _ hb => hb⟩
  have hs : ∀ k q, G.ω k = some q → (w.alloc (.cells cs e)).heap[k]? = w.heap[k]? ∧ (∀ j, (G.row w.heap.size n cs p).S k j = G.S k j) ∧ (G.row w.heap.size n cs p).ω k = some q := by
    intro k q hk
    have hlt := h.lim _ _ hk
    refine ⟨heap_alloc_old w _ hlt, fun j => ?_, ?_⟩
    · show (if k = w.heap.size then _ else _) = _
      rw [if_neg (Nat.ne_of_lt hlt)]
    · show (if k = w.heap.size then _ else _) = _
      rw [if_neg (Nat.ne_of_lt hlt)]; exact hk
  refine ⟨h.grow hle rfl (fun g p _ => hs g p) (fun g j c hc => ?_) (fun g q hq => ?_), hle, ⟨rfl, rfl, rfl, by simp, fun g hg hm => ⟨heap_alloc_old w _ hg, ?_, fun j => ?_⟩, hle.S, fun _ _ _ => rfl⟩, hs⟩
  · have hc' : (if g = w.heap.size then (if j < n then cs[j]? else none) else G.S g j) = some c := hc
    split at hc'
    · rename_i hg
      subst hg
      split at hc'
      · simp only [World.cell?, heap_alloc_new]; exact hc'
      · cases hc'
    · rw [World.cell?_alloc_lt w _ _ (imm_lt h hc')]
      exact h.imm _ _ _ hc'
  · have hq' : (if g = w.heap.size then some p else G.ω g) = some q := hq
    split at hq'
    · rename_i hg; subst hg; simp
    · have := h.lim _ _ hq'; simp; omega
  · show (if g = w.heap.size then _ else _) = _
    rw [if_neg (Nat.ne_of_lt hg)]
  · show (if g = w.heap.size then _ else _) = _
    rw [if_neg (Nat.ne_of_lt hg)]

/-- a list of elements laid out, cell by cell -/
def Laid (G : Gh) (sz : Nat) (l : List V) (cs : Array Value) : Prop := l.length * sz ≤ cs.size ∧ (∀ x ∈ l, x.flat.length = sz ∧ x.flat.all pureC = true) ∧ ∀ i j, i < l.length → j < sz → Tr G.S G.β ((l.getD i .undef).flat.getD j .undef) (cs.getD (i * sz + j) Go.undef)
theorem Laid.mono {G' : Gh} {sz : Nat} {l : List V} {cs : Array Value} (h : Laid G sz l cs) (hle : Le G G') : Laid G' sz l cs := ⟨h.1, h.2.1, fun i j hi hj => hle.tr (h.2.2 i j hi hj)⟩
theorem cell_lt {i j sz n : Nat} (hi : i < n) (hj : j < sz) : i * sz + j < n * sz := by
  calc i * sz + j < i * sz + sz := by omega
    _ = (i + 1) * sz := by rw [Nat.succ_mul]
    _ ≤ n * sz := Nat.mul_le_mul_right _ hi
/-- a new row of elements, as a value of its own -/
theorem Rel.newRow (h : Rel G s a w) {sz cap : Nat} {l : List V} {cs : Array Value} (hl : Laid G sz l cs) (hcap : cs.size = cap * sz) (hc : l.length ≤ cap) (e : TypeId) :
    ∃ G', Rel G' s a (w.alloc (.cells cs e)) ∧ OwnS G' (w.alloc (.cells cs e)) Pl.rs (.slc true sz l) (.slice (some ⟨w.heap.size, 0, none⟩) l.length cap) ∧ Fr s.lv G w G' (w.alloc (.cells cs e)) := by
  obtain ⟨h1, h2, h3, _⟩ := h.allocRow (l.length * sz) cs e (.rs 0 0)
  refine ⟨_, h1, ⟨Tr.slc sz l _ 0 cap (fun i j => cs.getD (i * sz + j) Go.undef) hc hl.2.1 (fun i j hi hj => ?_) (fun i j hi hj => h2.tr (hl.2.2 i j hi hj)), _, cap, rfl, .inr ⟨w.heap.size, cs, e, rfl, ?_, heap_alloc_new _ _, hcap, fun j hj => ?_⟩⟩, h3⟩
  · show (if w.heap.size = w.heap.size then _ else _) = _
    have h5 := cell_lt hi hj
    have h6 : i * sz + j < cs.size := Nat.lt_of_lt_of_le h5 hl.1
    rw [if_pos rfl, Nat.zero_add, if_pos h5, Array.getElem?_eq_getElem h6, getD_array_of h6]
  · show (if w.heap.size = w.heap.size then _ else _) = _
    rw [if_pos rfl]
  · show (if w.heap.size = w.heap.size then _ else _) = _
    rw [if_pos rfl, if_neg (by omega)]

/-- a new object -/
def Gh.obj (G : Gh) (lv t g : Nat) : Gh where
  S := G.S
  β := fun l u => if l = lv ∧ u = t then some g else G.β l u
  ω := upd G.ω g (some (.ob lv t))
theorem β_none (h : Rel G s a w) {lv t : Nat} (ho : s.ob lv t = none) : G.β lv t = none := by
  cases hb : G.β lv t with
  | none => rfl
  | some g => obtain ⟨ob, hob⟩ := h.dom _ _ _ hb; rw [ho] at hob; cases hob
theorem ob_b (t : Nat) : s.ob s.lv t = s.b t := by simp [St.ob, obIn, St.lv]
theorem ob_upd (dd : Nat) (ob : Ob) (lv t : Nat) : ({ s with b := upd s.b dd (some ob) } : St).ob lv t = if lv = s.lv ∧ t = dd then some ob else s.ob lv t := by
  simp only [St.ob, obIn, St.lv]
  by_cases h1 : lv = s.o.length
  · simp only [h1, if_true, true_and, upd]
  · simp [h1]
theorem Rel.allocOb (h : Rel G s a w) {dd : Nat} (hd : s.b dd = none) (o : Obj) (ob : Ob) (hnew : ∀ w', w' = w.alloc o → Le G (G.obj s.lv dd w.heap.size) → (∀ k q, G.ω k = some q → w'.heap[k]? = w.heap[k]? ∧ (∀ j, (G.obj s.lv dd w.heap.size).S k j = G.S k j) ∧ (G.obj s.lv dd w.heap.size).ω k = some q) →
      (∀ j, (G.obj s.lv dd w.heap.size).S w.heap.size j = none) → ObR (G.obj s.lv dd w.heap.size) w' s.lv dd w.heap.size ob) :
    Rel (G.obj s.lv dd w.heap.size) { s with b := upd s.b dd (some ob) } a (w.alloc o) ∧ Fr s.lv G w (G.obj s.lv dd w.heap.size) (w.alloc o) ∧ (G.obj s.lv dd w.heap.size).β s.lv dd = some w.heap.size := by
  have hβ := β_none h (lv := s.lv) (t := dd) (by rw [ob_b]; exact hd)
  have hle : Le G (G.obj s.lv dd w.heap.size) := ⟨fun _ _ _ hc => hc, fun l u g hg => by
    show (if l = s.lv ∧ u = dd then _ else _) = _
    rw [if_neg (by rintro ⟨rfl, rfl⟩; rw [hβ] at hg; cases hg)]; exact hg⟩
  have hs : ∀ k q, G.ω k = some q → (w.alloc o).heap[k]? = w.heap[k]? ∧ (∀ j, (G.obj s.lv dd w.heap.size).S k j = G.S k j) ∧ (G.obj s.lv dd w.heap.size).ω k = some q := by
    intro k q hk
    have hlt := h.lim _ _ hk
    refine ⟨heap_alloc_old w _ hlt, fun j => rfl, ?_⟩
    show (if k = w.heap.size then _ else _) = _
    rw [if_neg (Nat.ne_of_lt hlt)]; exact hk
  refine ⟨⟨h.size, h.defers, fun t => (h.slot t).mono hle fun c j k hk => hs k _ hk, fun lv t ob' hob => ?_, fun lv t g hg => ?_, fun g j c hc => ?_, fun g q hq => ?_⟩, ⟨rfl, rfl, rfl, by simp, fun g hg hm => ⟨heap_alloc_old w _ hg, ?_, fun j => rfl⟩, fun _ _ _ hc => hc, fun l t hl => ?_⟩, ?_⟩
  · rw [ob_upd] at hob
    split at hob
    · rename_i he
      obtain ⟨rfl, rfl⟩ := he
      obtain rfl := Option.some.inj hob
      refine ⟨w.heap.size, ?_, ?_, hnew _ rfl hle hs (fun j => S_new h j)⟩
      · show (if _ ∧ _ then _ else _) = _; rw [if_pos ⟨rfl, rfl⟩]
      · show (if _ = _ then _ else _) = _; rw [if_pos rfl]
    · obtain ⟨g, h1, h2, h3⟩ := h.obj lv t ob' hob
      obtain ⟨k1, k2, k3⟩ := hs g _ h2
      exact ⟨g, hle.β _ _ _ h1, k3, h3.mono hle ⟨k1, k2⟩ fun j k hk => hs k _ hk⟩
  · rw [ob_upd]
    split
    · exact ⟨_, rfl⟩
    · rename_i hne
      have hg' : (if lv = s.lv ∧ t = dd then some w.heap.size else G.β lv t) = some g := hg
      rw [if_neg hne] at hg'
      exact h.dom _ _ _ hg'
  · have hlt := imm_lt h hc
    rw [World.cell?_alloc_lt w _ _ hlt]
    exact h.imm _ _ _ hc
  · have hq' : (if g = w.heap.size then some (Pl.ob s.lv dd) else G.ω g) = some q := hq
    split at hq'
    · rename_i hg; subst hg; simp
    · have := h.lim _ _ hq'; simp; omega
  · show (if g = w.heap.size then _ else _) = _
    rw [if_neg (Nat.ne_of_lt hg)]
  · show (if l = s.lv ∧ t = dd then _ else _) = _
    rw [if_neg (fun e => absurd e.1 (Nat.ne_of_lt hl))]
  · show (if _ ∧ _ then _ else _) = _
    rw [if_pos ⟨rfl, rfl⟩]

/-! zero values -/
theorem agree_tr {v : V} {x : Value} (h : agree v x = true) (p : Pl) {G : Gh} {w : World} : OwnC G w p v x := by
  unfold agree at h
  split at h
  · simp only [beq_iff_eq] at h; subst h; exact Tr.bool _
  · simp only [Bool.and_eq_true, beq_iff_eq] at h; obtain ⟨rfl, rfl⟩ := h; exact Tr.int _ _
  · simp only [Bool.and_eq_true, Array.isEmpty_iff] at h
    rename_i b c
    have : b = c := by cases b; cases c; simp only at h; rw [h.1, h.2]
    subst this
    exact Tr.str _
  · exact ⟨Tr.slc0 _ _ _, none, 0, rfl, .inl rfl⟩
  · exact Tr.nilp
  · exact Tr.nilfn
  · cases h
theorem agrees_spec : ∀ (l : List V) (m : List Value), agrees l m = true → l.length = m.length ∧ ∀ j, j < l.length → agree (l.getD j .undef) (m.getD j Go.undef) = true := by
  intro l
  induction l with
  | nil => intro m h; cases m <;> simp [agrees] at h ⊢
  | cons v l ih =>
    intro m h
    cases m with
    | nil => simp [agrees] at h
    | cons x m =>
      simp only [agrees, Bool.and_eq_true] at h
      obtain ⟨h1, h2⟩ := ih m h.2
      refine ⟨by simp [h1], fun j hj => ?_⟩
      cases j with
      | zero => exact h.1
      | succ j => exact h2 j (by simpa using hj)
theorem zero_spec {t : TypeId} {l : List V} (h : zero P t = some l) : ∃ z, (∀ w : World, (zeroValue t).run P w = .ok z w) ∧ l.length = z.cells.size ∧ (∀ j, j < l.length → agree (l.getD j .undef) (z.cells.getD j Go.undef) = true) ∧ (isAgg P t = true → ∃ cs, z = .agg cs) ∧ (isAgg P t = false → z.cells = #[z]) := by
  unfold zero at h
  cases hi : P.info? t with
  | none => simp [hi] at h
  | some i =>
    cases hz : i.zero with
    | none => simp [hi, hz] at h
    | some z =>
      simp only [hi, Option.bind_some, hz] at h
      split at h
      · rename_i ha
        rw [Bool.and_eq_true] at ha
        obtain ⟨ha, hb⟩ := ha
        obtain rfl := Option.some.inj h
        obtain ⟨h1, h2⟩ := agrees_spec _ _ ha
        refine ⟨z, fun w => ?_, by simpa using h1, fun j hj => ?_, fun h3 => ?_, fun h3 => ?_⟩
        · simp only [zeroValue, Sem.run_bind, typeInfo, run_program, Result.andThen_ok, hi, Sem.run_pure, hz]
        · have := h2 j hj
          simpa [List.getD_eq_getElem?_getD, Array.getD_eq_getD_getElem?] using this
        · rw [h3] at hb
          cases z <;> first | exact ⟨_, rfl⟩ | cases hb
        · rw [h3] at hb
          cases z <;> first | rfl | cases hb
      · cases h
theorem op_alloc {dd : Nat} {e : TypeId} {z : List V} (h : Rel G s a w) (hd : s.b dd = none) (hz : zero P e = some z) :
    OpOk P ⟨d, .alloc e, ty, pos, af, gd⟩ G s a w (.ptr s.lv dd 0) { s with b := upd s.b dd (some (.box z)) } := by
  obtain ⟨zv, h1, h2, h3, _⟩ := zero_spec hz
  obtain ⟨k1, k2, k3⟩ := h.allocOb hd (.cells zv.cells e) (.box z) (fun w' hw' hle hs hS => ⟨zv.cells, e, by rw [hw']; exact heap_alloc_new _ _, h2, hS, fun j hj => agree_tr (h3 j hj) _⟩)
  refine ⟨.pointer (some ⟨w.heap.size, 0, none⟩), _, _, ?_, k1, OwnS.of_tr' (Tr.ptr _ _ _ _ k3), k2⟩
  simp only [execOp]
  refine run_val ?_
  simp [Instr.alloc, h1, newVar, Go.newRow]
theorem op_makeMap {dd : Nat} {t : TypeId} (h : Rel G s a w) (hd : s.b dd = none) :
    OpOk P ⟨d, .makeMap t none, ty, pos, af, gd⟩ G s a w (.mp s.lv dd) { s with b := upd s.b dd (some (.map [])) } := by
  obtain ⟨k1, k2, k3⟩ := h.allocOb hd (.map #[] 0) (.map []) (fun w' hw' hle hs hS => ⟨#[], 0, by rw [hw']; exact heap_alloc_new _ _, rfl, hS, (fun x hx => by cases hx), fun j hj => by cases hj⟩)
  refine ⟨.map (some w.heap.size), _, _, ?_, k1, OwnS.of_tr' (Tr.mp _ _ _ k3), k2⟩
  simp only [execOp]
  refine run_val ?_
  simp [Instr.makeMap]
/-- an operand, all of it, handed over -/
theorem Rel.all (h : Rel G s a w) (P : Program) (ty : TypeId) (x : Operand) :
    ∃ G', Rel G' (s.drop x) a w ∧ OwnS G' w Pl.rs (s.all P ty x) (a.eval x) ∧ Fr s.lv G w G' w ∧ (∀ c j g, G.ω g = some (.rs c j) → G'.ω g = some (.rs c j)) ∧ G'.S = G.S ∧ G'.β = G.β := by
  cases x with
  | tmp i => exact h.take i
  | const v => exact ⟨G, h, rd_own (P := P) (s := s) Pl.rs ty (.const v) (fun i e => by cases e), Fr.refl _ _ _, fun _ _ _ e => e, rfl, rfl⟩
  | func f => exact ⟨G, h, rd_own (P := P) (s := s) Pl.rs ty (.func f) (fun i e => by cases e), Fr.refl _ _ _, fun _ _ _ e => e, rfl, rfl⟩
  | global g => exact ⟨G, h, rd_own (P := P) (s := s) Pl.rs ty (.global g) (fun i e => by cases e), Fr.refl _ _ _, fun _ _ _ e => e, rfl, rfl⟩
theorem cells_one {v : V} {x : Value} {S : Nat → Nat → Option Value} {β : Nat → Nat → Option Nat} (h : Tr S β v x) (hu : v ≠ .undef) (ha : ∀ l, v ≠ .agg l) : x.cells = #[x] ∧ x.oneCell' = true := by
  cases h <;> first | exact ⟨rfl, rfl⟩ | exact absurd rfl hu | exact absurd rfl (ha _)
theorem OwnC.one {p : Pl} {v : V} {x : Value} (h : OwnC G w p v x) (hv : cellOk v = true) : x.cells = #[x] ∧ x.oneCell' = true := by
  have h1 := h.view
  refine cells_one h1 ?_ ?_
  · cases v <;> first | (intro e; cases e; done) | cases hv
  · intro l; cases v <;> first | (intro e; cases e; done) | cases hv
theorem OwnV.cells {p : Nat → Pl} {v : V} {x : Value} (h : OwnV G w p v x) (hu : v ≠ .undef) (ht : ∀ l, v ≠ .tup l) : v.flat.length = x.cells.size ∧ ∀ j, j < v.flat.length → OwnC G w (p j) (v.flat.getD j .undef) (x.cells.getD j Go.undef) := by
  rcases flat_agg_or v with ⟨l, rfl⟩ | ⟨hna, hf⟩
  · obtain ⟨cs, rfl, hl, hc⟩ := h
    exact ⟨hl, hc⟩
  · have h1 : OwnC G w (p 0) v x := by
      cases v
      case agg l => exact absurd rfl (hna l)
      all_goals exact h
    have h2 : x.cells = #[x] := by
      refine (cells_one h1.view ?_ ?_).1
      · cases v <;> first | (intro e; cases e; done) | exact absurd rfl hu
      · intro l e
        cases v
        case agg m => exact hna m rfl
        all_goals cases e
    rw [hf, h2]
    refine ⟨rfl, fun j hj => ?_⟩
    obtain rfl : j = 0 := by simpa using hj
    exact h1
theorem OwnS.toV {p : Nat → Nat → Pl} {v : V} {x : Value} (h : OwnS G w p v x) (ht : ∀ l, v ≠ .tup l) : OwnV G w (p 0) v x := by
  cases v
  case tup l => exact absurd rfl (ht l)
  all_goals exact h
def boxF (lv d off : Nat) : Pl → Pl
  | .rs 0 j => .cl lv d (off + j)
  | p => p
theorem op_box {dd : Nat} {e : TypeId} {x : Operand} {v : V} (h : Rel G s a w) (hd : s.b dd = none) (hv : s.all P e x = v) (hu : v ≠ .undef) (ht : ∀ l, v ≠ .tup l) :
    OpOk P ⟨d, .box e x, ty, pos, af, gd⟩ G s a w (.ptr s.lv dd 0) { s.drop x with b := upd s.b dd (some (.box v.flat)) } := by
  obtain ⟨G1, h1, h2, h3, _, _, _⟩ := h.all P e x
  rw [hv] at h2
  have hlv : (s.drop x).lv = s.lv := by cases x <;> rfl
  have hb : (s.drop x).b = s.b := by cases x <;> rfl
  obtain ⟨hc1, hc2⟩ := (h2.toV ht).cells hu ht
  -- what comes with the value is the variable's now
  have h4 : Rel (G1.ren (boxF s.lv dd 0)) (s.drop x) a w := by
    refine ⟨h1.size, h1.defers, fun t => (h1.slot t).ren _ fun c j => rfl, fun lv t ob hob => ?_, h1.dom, h1.imm, ren_lim h1.lim⟩
    obtain ⟨g, k1, k2, k3⟩ := h1.obj lv t ob hob
    exact ⟨g, k1, by rw [ren_ω k2]; rfl, k3.ren _ fun j => rfl⟩
  have h5 : Fr s.lv G w (G1.ren (boxF s.lv dd 0)) w := h3.trans (ren_fr fun p => by
    cases p with
    | rs c j => exact .inr trivial
    | _ => exact .inl rfl)
  obtain ⟨k1, k2, k3⟩ := h4.allocOb (dd := dd) (by rw [hb]; exact hd) (.cells (a.eval x).cells e) (.box v.flat) (fun w' hw' hle hs hS => ⟨(a.eval x).cells, e, by rw [hw']; exact heap_alloc_new _ _, hc1, hS, fun j hj => by
    refine ((hc2 j hj).ren (boxF s.lv dd 0) (p' := .cl s.lv dd j) (by simp [boxF])).mono hle fun g hg => ?_
    obtain ⟨e1, e2, e3⟩ := hs g _ hg
    exact ⟨e1, e2, by rw [hlv]; rw [hlv] at e3; exact e3⟩⟩)
  rw [hlv] at k1 k2 k3
  refine ⟨.pointer (some ⟨w.heap.size, 0, none⟩), _, _, ?_, by rw [hb] at k1; exact k1, OwnS.of_tr' (Tr.ptr _ _ _ _ k3), h5.trans k2⟩
  simp only [execOp]
  refine run_val ?_
  simp [Instr.box, newVar, Go.newRow]
end Go.Ev
